/- Part of a proof about a Go program: the abstract machine walks its code; no condition. -/
import Derived.Test.YtjmkmijomlnmaaaDoorNumC10
open Go Go.Am Go.Am.W Go.Proofs
set_option maxRecDepth 100000
section
variable (om : Nat → Nat) (n : Nat) (h : AHeap)
/-- The digits from a place on, eleven at most. -/
def runF (l : List UInt8) (p : Nat) : List UInt8 := ((l.drop p).takeWhile isDig).take 11
def rowF (l : List UInt8) (p : Nat) : Nat × Nat := if 10 < (runF l p).length ∨ 1 < (runF l p).length ∧ (runF l p).head? = some 48 then (0, 0) else (val (runF l p), (runF l p).length)
theorem run_pre (l : List UInt8) (p : Nat) : runF l p <+: l.drop p := (List.take_prefix _ _).trans (List.takeWhile_prefix _)
theorem run_all (l : List UInt8) (p : Nat) : (runF l p).all isDig = true := all_take List.all_takeWhile 11
theorem run_len (l : List UInt8) (p : Nat) : (runF l p).length ≤ 11 := by unfold runF; rw [List.length_take]; omega
theorem run_get {l : List UInt8} {p i : Nat} (hi : i < (runF l p).length) : ∃ d, (runF l p)[i]? = some d ∧ l[p + i]? = some d ∧ isDig d = true := by
  have hp := run_pre l p
  have h1 : (runF l p)[i]? = (l.drop p)[i]? := by
    rw [List.prefix_iff_eq_take.1 hp, List.getElem?_take, if_pos hi]
  refine ⟨(runF l p)[i], List.getElem?_eq_getElem hi, ?_, (List.all_eq_true.1 (run_all l p)) _ (List.getElem_mem hi)⟩
  rw [← List.getElem?_drop, ← h1, List.getElem?_eq_getElem hi]
theorem takeWhile_next {α : Type} {p : α → Bool} {l : List α} {x : α} (h : l[(l.takeWhile p).length]? = some x) : p x = false := by
  induction l with
  | nil => simp at h
  | cons y l ih =>
    rw [List.takeWhile_cons] at h
    cases hy : p y with
    | true => rw [hy] at h; simp at h; exact ih h
    | false => rw [hy] at h; simp at h; rw [← h]; exact hy
/-- Behind the run there is no digit, or it has eleven. -/
theorem run_end {l : List UInt8} {p : Nat} {d : UInt8} (h : (runF l p).length < 11) (hd : l[p + (runF l p).length]? = some d) : isDig d = false := by
  have he : (runF l p) = (l.drop p).takeWhile isDig := by
    unfold runF at h ⊢
    rw [List.length_take] at h
    exact List.take_of_length_le (by omega)
  rw [he, ← List.getElem?_drop] at hd
  exact takeWhile_next hd
theorem row_loop (l : List UInt8) (p : Nat) (hp : p ≤ l.length) (hl : l.length < 10000) (tm : Tm) (hS : row_L0_S ⟨⟨l⟩⟩ (p : Int) 0 0 tm) :
    ∃ tm', aloop (row_L0_B om n) 10000 (tm, h) = some (.exit 0, tm', h) ∧ row_L0_X0 ⟨⟨l⟩⟩ (p : Int) (val (runF l p) : Nat) ((runF l p).length : Int) tm' := by
  have hrl := run_len l p
  have hrp : (runF l p).length ≤ l.length - p := by have := (run_pre l p).length_le; simpa using this
  refine loop_q (body := row_L0_B om n) (e0 := .exit 0) (k := 10000) (m := 11) (fun m tm => ∃ i : Nat, m = 11 - i ∧ i ≤ (runF l p).length ∧ row_L0_S ⟨⟨l⟩⟩ (p : Int) (val ((runF l p).take i) : Nat) (i : Int) tm) _ (by simp) (fun m tm hI => ?_) (by omega) ⟨0, rfl, by omega, hS⟩
  obtain ⟨i, rfl, hi, hS⟩ := hI
  have ea : awrap .i64 ((p : Int) + (i : Int)) = ((p + i : Nat) : Int) := by rw [awrap_i64 (by omega) (by omega)]; omega
  by_cases hlt : i < (runF l p).length
  · obtain ⟨d, g1, g2, g3⟩ := run_get hlt
    have hd := isDig_iff.1 g3
    have hx : pureE (aindex E2.P 9 (.string ⟨⟨l⟩⟩) (.int .i64 (awrap .i64 ((p : Int) + (i : Int))))) = some (.int .u8 d.toNat, .id) := by
      rw [ea]; exact str_index (by kernel_rfl) (by omega) (by rw [Int.toNat_natCast]; exact g2)
    have hv := val_lt _ (all_take (run_all l p) i)
    have hlen : ((runF l p).take i).length = i := by rw [List.length_take]; omega
    rw [hlen] at hv
    have hp10 : 10 ^ i ≤ 10 ^ 11 := Nat.pow_le_pow_right (by decide) (by omega)
    have hpl : p + i < l.length := (List.getElem?_eq_some_iff.1 g2).1
    have e11 : (10 : Nat) ^ 11 = 100000000000 := by decide
    have e0 : awrap .u8 ((d.toNat : Int) - 48) = ((d.toNat - 48 : Nat) : Int) := by rw [awrap_u8 (by omega) (by omega)]; omega
    have e1 : awrap .i64 (10 * ((val ((runF l p).take i) : Nat) : Int)) = ((10 * val ((runF l p).take i) : Nat) : Int) := by rw [awrap_i64 (by omega) (by omega)]; omega
    have e2 : awrap .i64 ((d.toNat - 48 : Nat) : Int) = ((d.toNat - 48 : Nat) : Int) := awrap_i64 (by omega) (by omega)
    have e3 : awrap .i64 (((10 * val ((runF l p).take i) : Nat) : Int) + ((d.toNat - 48 : Nat) : Int)) = ((val ((runF l p).take (i + 1)) : Nat) : Int) := by
      rw [List.take_add_one, g1, Option.toList_some, val_snoc, awrap_i64 (by omega) (by omega)]; omega
    obtain ⟨tm', q1, q2⟩ := row_L0_0 om n tm _ _ _ _ h _ _ _ hS (by rw [ea, bsz]; exact decide_eq_true (by omega)) (by exact decide_eq_true (by omega)) hx (by exact decide_eq_true (by omega)) hx (by exact decide_eq_true (by omega)) hx
    rw [e0, e1, e2, e3, awrap_i64 (by omega) (by omega)] at q2
    exact .inl ⟨tm', 11 - (i + 1), q1, by omega, i + 1, rfl, by omega, q2⟩
  · have hii : i = (runF l p).length := by omega
    subst hii
    rw [List.take_length] at hS
    refine .inr ?_
    by_cases h1 : p + (runF l p).length < l.length
    · have c0 : decide (awrap .i64 ((p : Int) + ((runF l p).length : Int)) < ((ByteArray.mk ⟨l⟩).size : Int)) = true := by rw [ea, bsz]; exact decide_eq_true (by omega)
      by_cases h2 : (runF l p).length < 11
      · obtain ⟨d, hd⟩ : ∃ d, l[p + (runF l p).length]? = some d := ⟨l[p + (runF l p).length], List.getElem?_eq_getElem h1⟩
        have hnd := run_end h2 hd
        have hx : pureE (aindex E2.P 9 (.string ⟨⟨l⟩⟩) (.int .i64 (awrap .i64 ((p : Int) + ((runF l p).length : Int))))) = some (.int .u8 d.toNat, .id) := by
          rw [ea]; exact str_index (by kernel_rfl) (by omega) (by rw [Int.toNat_natCast]; exact hd)
        by_cases h3 : 48 ≤ d.toNat
        · have h4 : ¬ d.toNat ≤ 57 := fun h4 => by
            have := isDig_iff.2 ⟨h3, h4⟩
            rw [hnd] at this; cases this
          exact row_L0_1 om n tm _ _ _ _ h _ _ hS c0 (decide_eq_true (by omega)) hx (decide_eq_true (by omega)) hx (decide_eq_false (by omega))
        · exact row_L0_2 om n tm _ _ _ _ h _ hS c0 (decide_eq_true (by omega)) hx (decide_eq_false (by omega))
      · exact row_L0_3 om n tm _ _ _ _ h hS c0 (decide_eq_false (by omega))
    · exact row_L0_4 om n tm _ _ _ _ h hS (by rw [ea, bsz]; exact decide_eq_false (by omega))
def rowV (l : List UInt8) (p : Nat) : Value := .tuple #[.int .i64 ((rowF l p).1 : Int), .int .i64 ((rowF l p).2 : Int)]
theorem row_ok (l : List UInt8) (p : Nat) (hp : p ≤ l.length) (hl : l.length < 10000) : acall E2 om 10000 (n + 1) (.fn 22) [.string ⟨⟨l⟩⟩, .int .i64 (p : Int)] h = some (rowV l p, h) := by
  by_cases h1 : 10 < (runF l p).length
  · obtain ⟨tm, hS, rest⟩ := row_3 om n ⟨⟨l⟩⟩ (p : Int) h
    obtain ⟨tm', e, x⟩ := row_loop om n h l p hp hl tm hS
    have := rest _ _ _ _ tm' e x (decide_eq_true (by omega))
    unfold rowV rowF
    rw [if_pos (.inl h1)]; exact this
  · have c10 : decide (((runF l p).length : Int) > 10) = false := decide_eq_false (by omega)
    by_cases h2 : 1 < (runF l p).length
    · have c1 : decide (((runF l p).length : Int) > 1) = true := decide_eq_true (by omega)
      obtain ⟨d, g1, g2, g3⟩ := run_get (l := l) (p := p) (i := 0) (by omega)
      have hx : pureE (aindex E2.P 9 (.string ⟨⟨l⟩⟩) (.int .i64 (p : Int))) = some (.int .u8 d.toNat, .id) := str_index (by kernel_rfl) (by omega) (by rw [Int.toNat_natCast]; exact g2)
      have hh : (runF l p).head? = some d := by rw [List.head?_eq_getElem?]; exact g1
      by_cases h3 : d = 48
      · obtain ⟨tm, hS, rest⟩ := row_0 om n ⟨⟨l⟩⟩ (p : Int) h
        obtain ⟨tm', e, x⟩ := row_loop om n h l p hp hl tm hS
        have := rest _ _ _ _ _ tm' e x c10 c1 hx (by rw [h3]; decide)
        unfold rowV rowF
        rw [if_pos (.inr ⟨h2, by rw [hh, h3]⟩)]; exact this
      · obtain ⟨tm, hS, rest⟩ := row_1 om n ⟨⟨l⟩⟩ (p : Int) h
        obtain ⟨tm', e, x⟩ := row_loop om n h l p hp hl tm hS
        have hx2 : ((d.toNat : Int) == 48) = false := by
          have : d.toNat ≠ 48 := fun hq => h3 (by rw [← UInt8.toNat_inj]; exact hq)
          simp; omega
        have := rest _ _ _ _ _ tm' e x c10 c1 hx hx2
        unfold rowV rowF
        rw [if_neg (by rintro (hq | ⟨_, hq⟩); exact h1 hq; rw [hh] at hq; injection hq with hq; exact h3 hq)]; exact this
    · obtain ⟨tm, hS, rest⟩ := row_2 om n ⟨⟨l⟩⟩ (p : Int) h
      obtain ⟨tm', e, x⟩ := row_loop om n h l p hp hl tm hS
      have := rest _ _ _ _ tm' e x c10 (decide_eq_false (by omega))
      unfold rowV rowF
      rw [if_neg (by rintro (hq | ⟨hq, _⟩); exact h1 hq; exact h2 hq)]; exact this
end
