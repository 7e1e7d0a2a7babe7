/- Part of a proof about a Go program: the abstract machine walks its code; no condition. -/
import Derived.Test.YtjmkmijomlnmaaaDoorNumC8
open Go Go.Am Go.Am.W Go.Proofs
set_option maxRecDepth 100000
section
variable (om : Nat → Nat) (n : Nat) (h : AHeap)
theorem dropWhile_nil_iff {α : Type} {p : α → Bool} {l : List α} : l.dropWhile p = [] ↔ l.all p = true := by
  induction l with
  | nil => simp
  | cons x l ih =>
    rw [List.dropWhile_cons]
    cases hx : p x with
    | true => simp [ih, hx]
    | false => simp [hx]
theorem trimR_all {l : List UInt8} : trimR l = [] ↔ l.all isDig = true := by
  unfold trimR
  rw [List.reverse_eq_nil_iff, dropWhile_nil_iff, List.all_reverse]
theorem trimD_all {l : List UInt8} : trimD l = [] ↔ l.all isDig = true := by
  unfold trimD trimL
  rw [dropWhile_nil_iff]
  constructor
  · intro ha
    rcases List.eq_nil_or_concat (trimR l) with he | ⟨r, x, he⟩
    · exact trimR_all.1 he
    · -- its last one is no digit
      rw [List.concat_eq_append] at he
      exfalso
      rw [he] at ha
      have hx : isDig x = true := by rw [List.all_append] at ha; simpa using (Bool.and_eq_true_iff.1 ha).2
      have hr : (l.reverse.dropWhile isDig) = x :: r.reverse := by
        have := congrArg List.reverse he
        simpa [trimR] using this
      have := List.head_dropWhile_not (p := isDig) (l := l.reverse) (by rw [hr]; simp)
      simp only [hr, List.head_cons] at this
      rw [hx] at this; cases this
  · intro ha
    have : trimR l = [] := trimR_all.2 ha
    rw [this]; rfl
/-- A row of digits, or none. -/
def digF (l : List UInt8) : Option Nat := if l ≠ [] ∧ l.length ≤ 10 ∧ l.all isDig = true ∧ ¬ (1 < l.length ∧ l.head? = some 48) then some (val l) else none
def digV (l : List UInt8) : Value := .tuple #[.int .u64 (((digF l).getD 0 : Nat) : Int), .bool (digF l).isSome]
theorem bsz (l : List UInt8) : (ByteArray.mk ⟨l⟩).size = l.length := rfl
theorem trim_call (l : List UInt8) (hl : l.length ≤ 10) : acall E2 om 10000 (n + 1) (.fn 26) [.string ⟨⟨l⟩⟩, .string (bs [48, 49, 50, 51, 52, 53, 54, 55, 56, 57])] h = some (.string ⟨⟨trimD l⟩⟩, h) :=
  acall_sig (s := pureSig [] F26) rfl (pureSig_eval rfl rfl (by
    unfold F26
    simp only
    rw [if_pos ⟨by rfl, by omega⟩]))
theorem parse_call (l : List UInt8) (h0 : l ≠ []) (hd : l.all isDig = true) (hl : l.length ≤ 10) : acall E2 om 10000 (n + 1) (.fn 27) [.string ⟨⟨l⟩⟩, .int .i64 10, .int .i64 64] h = some (.tuple #[.int .u64 (val l : Nat), .nilIface], h) :=
  acall_sig (s := pureSig [] F27) rfl (pureSig_eval rfl rfl (by
    unfold F27
    simp only
    rw [if_pos ⟨trivial, trivial, h0, hd, by omega⟩]))
theorem digits_ok (l : List UInt8) (hl : l.length < 10000) : acall E2 om 10000 (n + 2) (.fn 21) [.string ⟨⟨l⟩⟩] h = some (digV l, h) := by
  by_cases h0 : l = []
  · subst h0
    exact digits_5 om (n + 1) _ h rfl
  have e0 : eqBytes ⟨⟨l⟩⟩ ⟨#[]⟩ = false := by rw [show (⟨#[]⟩ : ByteArray) = ⟨⟨[]⟩⟩ from rfl, eqBytes_mk]; simpa using h0
  by_cases h1 : l.length ≤ 10
  · have e1 : decide (((ByteArray.mk ⟨l⟩).size : Int) > 10) = false := by rw [bsz]; simp; omega
    by_cases h2 : l.all isDig = true
    · have e2 : (!eqBytes ⟨⟨trimD l⟩⟩ ⟨#[]⟩) = false := by
        rw [trimD_all.2 h2]; rfl
      obtain ⟨x, r, rfl⟩ := List.exists_cons_of_ne_nil h0
      by_cases h3 : 1 < (x :: r).length
      · have e3 : decide (((ByteArray.mk ⟨x :: r⟩).size : Int) > 1) = true := by rw [bsz]; simp at h3 ⊢; omega
        have e4 : pureE (aindex E2.P 9 (.string ⟨⟨x :: r⟩⟩) (.int .i64 0)) = some (.int .u8 x.toNat, .id) := str_index (by kernel_rfl) (by decide) rfl
        by_cases h4 : x = 48
        · have hn : digF (x :: r) = none := by unfold digF; rw [if_neg (fun hh => hh.2.2.2 ⟨h3, by rw [h4]; rfl⟩)]
          have := digits_0 om (n + 1) _ h _ _ e0 e1 (trim_call om n h _ h1) e2 e3 e4 (by rw [h4]; decide)
          unfold digV; rw [hn]; exact this
        · have hn : digF (x :: r) = some (val (x :: r)) := by
            unfold digF; rw [if_pos ⟨by simp, h1, h2, by simp; intro _ hh; exact h4 hh⟩]
          have hx : (((x.toNat : Int)) == 48) = false := by
            have : x.toNat ≠ 48 := fun hh => h4 (by rw [← UInt8.toNat_inj]; exact hh)
            simp; omega
          have := digits_1 om (n + 1) _ h _ _ _ _ true e0 e1 (trim_call om n h _ h1) e2 e3 e4 hx (parse_call om n h _ h0 h2 h1) (by kernel_rfl) ⟨rfl, rfl⟩
          unfold digV; rw [hn]; exact this
      · have e3 : decide (((ByteArray.mk ⟨x :: r⟩).size : Int) > 1) = false := by rw [bsz]; exact decide_eq_false (by omega)
        have hn : digF (x :: r) = some (val (x :: r)) := by
          unfold digF; rw [if_pos ⟨by simp, h1, h2, fun hh => h3 hh.1⟩]
        have := digits_2 om (n + 1) _ h _ _ _ true e0 e1 (trim_call om n h _ h1) e2 e3 (parse_call om n h _ h0 h2 h1) (by kernel_rfl) ⟨rfl, rfl⟩
        unfold digV; rw [hn]; exact this
    · have e2 : (!eqBytes ⟨⟨trimD l⟩⟩ ⟨#[]⟩) = true := by
        rw [show (⟨#[]⟩ : ByteArray) = ⟨⟨[]⟩⟩ from rfl, eqBytes_mk]
        have : trimD l ≠ [] := fun hh => h2 (trimD_all.1 hh)
        simpa using this
      have hn : digF l = none := by unfold digF; rw [if_neg (fun hh => h2 hh.2.2.1)]
      have := digits_3 om (n + 1) _ h _ e0 e1 (trim_call om n h _ h1) e2
      unfold digV; rw [hn]; exact this
  · have e1 : decide (((ByteArray.mk ⟨l⟩).size : Int) > 10) = true := by rw [bsz]; simp; omega
    have hn : digF l = none := by unfold digF; rw [if_neg (fun hh => h1 hh.2.1)]
    have := digits_4 om (n + 1) _ h e0 e1
    unfold digV; rw [hn]; exact this

/-! ### The first point -/
def notDot (b : UInt8) : Bool := b != 46
def cutA (l : List UInt8) : List UInt8 := l.takeWhile notDot
def cutB (l : List UInt8) : List UInt8 := l.drop ((cutA l).length + 1)
def cutD (l : List UInt8) : Bool := decide ((cutA l).length < l.length)
theorem findIdx_take (l : List UInt8) : l.findIdx? (fun b => (b.toNat : Int) == 46) = if (cutA l).length < l.length then some (cutA l).length else none := by
  induction l with
  | nil => simp [cutA]
  | cons x l ih =>
    have hx : ((x.toNat : Int) == 46) = !notDot x := by
      unfold notDot
      by_cases h : x = 46
      · subst h; rfl
      · have : x.toNat ≠ 46 := fun hh => h (by rw [← UInt8.toNat_inj]; exact hh)
        have h2 : ((x.toNat : Int) == 46) = false := by simp; omega
        rw [h2]; simp [h]
    rw [List.findIdx?_cons, hx]
    unfold cutA at ih ⊢
    rw [List.takeWhile_cons]
    cases hd : notDot x with
    | false => simp
    | true => simp [ih]
theorem byteAt_cut (l : List UInt8) : byteAt l 46 = if (cutA l).length < l.length then ((cutA l).length : Int) else -1 := by
  unfold byteAt
  rw [findIdx_take]
  split
  · rename_i i hi; split at hi <;> simp_all
  · rename_i hi; split at hi <;> simp_all
theorem cutA_pre (l : List UInt8) : (cutA l) <+: l := List.takeWhile_prefix _
theorem cutA_take (l : List UInt8) : l.take (cutA l).length = cutA l := (List.prefix_iff_eq_take.1 (cutA_pre l)).symm
theorem cut_ok (l : List UInt8) (hl : l.length < 10000) : acall E2 om 10000 (n + 5) (.fn 20) [.string ⟨⟨l⟩⟩, .string (bs [46])] h = some (.tuple #[.string ⟨⟨cutA l⟩⟩, .string ⟨⟨if cutD l then cutB l else []⟩⟩, .bool (cutD l)], h) := by
  have hle : (cutA l).length ≤ l.length := (cutA_pre l).length_le
  by_cases hs : l = [46]
  · subst hs
    have := cut_0 om n ⟨⟨[46]⟩⟩ h ⟨⟨[]⟩⟩ (by rfl) (by kernel_rfl) ⟨rfl, rfl⟩
    exact this
  · have e0 : eqBytes (bs [46]) ⟨⟨l⟩⟩ = false := by
      rw [bs46, eqBytes_mk]
      have : ([46] : List UInt8) ≠ l := fun hh => hs hh.symm
      simpa using this
    by_cases hc : (cutA l).length < l.length
    · have hb : byteAt l 46 = ((cutA l).length : Int) := by rw [byteAt_cut, if_pos hc]
      have hD : cutD l = true := by unfold cutD; simpa using hc
      rw [hD]
      refine cut_1 om n ⟨⟨l⟩⟩ h ⟨⟨cutA l⟩⟩ ⟨⟨cutB l⟩⟩ e0 (by show decide (byteAt l 46 ≥ 0) = true; rw [hb]; simp) ?_ ?_ ⟨rfl, rfl⟩
      · show pureE (aslice _ _ _ _ none (some (.int .i64 (byteAt l 46))) none) = _
        rw [hb]
        have := str_slice (P := E2.P) (look := h.get) (t := 9) (l := l) (lo := none) (hi := some (.int .i64 ((cutA l).length : Int))) (a := 0) (b := (cutA l).length) (by kernel_rfl) (W.abound_some (by omega) (by omega)) W.abound_none
        rw [this]; simp [cutA_take]
      · show pureE (aslice _ _ _ _ (some (.int .i64 (awrap .i64 (byteAt l 46 + 1)))) none none) = _
        rw [hb, awrap_i64 (by omega) (by omega)]
        have := str_slice (P := E2.P) (look := h.get) (t := 9) (l := l) (lo := some (.int .i64 (((cutA l).length : Int) + 1))) (hi := none) (a := (cutA l).length + 1) (b := l.length) (by kernel_rfl) W.abound_none (W.abound_some (by omega) (by omega))
        rw [this]; unfold cutB
        rw [List.take_of_length_le (by simp)]
    · have hb : byteAt l 46 = -1 := by rw [byteAt_cut, if_neg hc]
      have hD : cutD l = false := by unfold cutD; simpa using hc
      have hA : cutA l = l := by
        have := cutA_take l
        rw [List.take_of_length_le (by omega)] at this
        exact this.symm
      rw [hD, hA]
      exact cut_2 om n ⟨⟨l⟩⟩ h e0 (by show decide (byteAt l 46 ≥ 0) = false; rw [hb]; rfl)
end
