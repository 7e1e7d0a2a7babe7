/- Part of a proof about a Go program: the abstract machine walks its code; no condition. -/
import Derived.Test.YtjmkmijomlnmaaaDoorNumP3
import Derived.Test.YtjmkmijomlnmaaaDoorNumC2
open Go Go.Am Go.Am.W Go.Proofs
set_option maxRecDepth 100000
theorem sparse_ok (om : Nat → Nat) (n : Nat) (l : List UInt8) (h : AHeap) (hne : l ≠ []) (hd : l.all isDig = true) (hl : l.length ≤ 19) :
    ∃ h', acall E1 om 10000 (n + 2) (.fn 27) [.string ⟨⟨l⟩⟩, .int .i64 10, .int .i64 64] h = some (.tuple #[.int .u64 (val l : Nat), .nilIface], h') := by
  obtain ⟨h', e⟩ := iparse_ok om n l h hne hd hl
  exact ⟨h', sparse_1 om (n + 1) _ _ _ _ _ _ _ false e (by kernel_rfl) rfl⟩

/-! ### Digits -/
def dig (n : Nat) : UInt8 := UInt8.ofNat (48 + n % 10)
def decF : Nat → Nat → List UInt8
  | 0, _ => []
  | k + 1, n => if n < 10 then [dig n] else decF k (n / 10) ++ [dig n]
/-- A number's digits. -/
def dec (n : Nat) : List UInt8 := decF 20 n
theorem dig_toNat (n : Nat) : (dig n).toNat = 48 + n % 10 := by
  unfold dig
  rw [UInt8.toNat_ofNat']; omega
theorem ofNat_dig (n : Nat) : UInt8.ofNat (((dig n).toNat : Nat) : Int).toNat = dig n := by simp
theorem decF_len (k n : Nat) : (decF k n).length ≤ k := by
  induction k generalizing n with
  | zero => simp [decF]
  | succ k ih =>
    simp only [decF]
    split
    · simp
    · have := ih (n / 10); simp; omega
/-- The digits in front, and a rest. -/
theorem decF_step (k n : Nat) (h : 10 ≤ n) : decF (k + 1) n = decF k (n / 10) ++ [dig n] := by
  simp only [decF]; rw [if_neg (by omega)]
theorem decF_last (k n : Nat) (h : n < 10) : decF (k + 1) n = [dig n] := by
  simp only [decF]; rw [if_pos h]

/-! ### The document's text -/
theorem awc32 (a : Nat) : awrap .u32 (a : Int) = ((a % 4294967296 : Nat) : Int) := rfl
theorem awc8 (a : Nat) : awrap .u8 (a : Int) = ((a % 256 : Nat) : Int) := rfl
theorem rtext_dig (m : Nat) : awrap .u8 (awrap .u32 (48 + Int.tmod (m : Int) 10)) = ((dig m).toNat : Int) := by
  rw [dig_toNat]
  have : (48 + Int.tmod (m : Int) 10) = ((48 + m % 10 : Nat) : Int) := by
    have : Int.tmod (m : Int) 10 = ((m % 10 : Nat) : Int) := rfl
    rw [this]; omega
  rw [this, awc32, awc8]; omega
theorem rtext_nxt (m : Nat) (hm : m < 4294967296) : awrap .u32 (Int.tdiv (m : Int) 10) = ((m / 10 : Nat) : Int) := by
  have : Int.tdiv (m : Int) 10 = ((m / 10 : Nat) : Int) := rfl
  rw [this, awc32]; omega
theorem rtext_conv (m : Nat) (h : AHeap) : aconv E1.P (h.push (.cells [.int .u8 (awrap .u8 (awrap .u32 (48 + Int.tmod (m : Int) 10)))] 1 true)).get (h.push (.cells [.int .u8 (awrap .u8 (awrap .u32 (48 + Int.tmod (m : Int) 10)))] 1 true)).size 55 9 (.slice (some ⟨h.size, 0, none⟩) 1 1) = some (.string ⟨⟨[dig m]⟩⟩, .id) := by
  rw [rtext_dig]
  exact bytes_str (e := 5) (by kernel_rfl) (by kernel_rfl) (by kernel_rfl) (gpush_new _ _) (by omega) (by simp) (by rfl)
theorem rtext_ok (om : Nat → Nat) (n m : Nat) (h : AHeap) (hm : m < 4294967296) : ∃ h', acall E1 om 10000 (n + 1) (.fn 18) [.int .u32 m] h = some (.string ⟨⟨dec m⟩⟩, h') := by
  obtain ⟨tm, hS, rest⟩ := rtext_0 om n (m : Int) h
  refine (fun ⟨tm', h', e, x⟩ => ⟨h', rest ⟨⟨dec m⟩⟩ h' tm' e x⟩) (loop_to (body := rtext_L0_B om n) (e0 := .ret) (k := 10000) (m := 20) (tm := tm) (h := h) (fun k tm _ => ∃ (r : List UInt8) (q : Nat), k ≤ 20 ∧ 1 ≤ k ∧ r.length ≤ 20 - k ∧ q < 4294967296 ∧ q < 10 ^ k ∧ decF k q ++ r = dec m ∧ rtext_L0_S (q : Int) ⟨⟨r⟩⟩ tm) (fun tm _ => rtext_L0_R ⟨⟨dec m⟩⟩ tm) (by simp) (fun k tm h hI => ?_) (by omega) ⟨[], m, by omega, by omega, by simp, hm, by omega, by simp [dec], hS⟩)
  · 
    obtain ⟨r, q, hk, hk1, hr, hq, hqk, hdec, hS⟩ := hI
    obtain ⟨i, rfl⟩ : ∃ i, k = i + 1 := ⟨k - 1, by omega⟩
    by_cases hlt : q < 10
    · obtain ⟨tm', q1, q2⟩ := rtext_L0_0 om n tm _ _ h ⟨⟨[dig q]⟩⟩ ⟨⟨[dig q] ++ r⟩⟩ hS (rtext_conv q h) (str_add (by simp; omega)) (by rw [rtext_nxt q hq]; simp; omega)
      exact .inr ⟨_, _, q1, by rw [← hdec, decF_last _ _ hlt]; exact q2⟩
    · obtain ⟨tm', q1, q2⟩ := rtext_L0_1 om n tm _ _ h ⟨⟨[dig q]⟩⟩ ⟨⟨[dig q] ++ r⟩⟩ hS (rtext_conv q h) (str_add (by simp; omega)) (by rw [rtext_nxt q hq]; simp; omega)
      rw [rtext_nxt q hq] at q2
      have hi1 : 1 ≤ i := by
        cases i with
        | zero => simp at hqk; omega
        | succ i => omega
      exact .inl ⟨_, _, i, q1, by omega, _, q / 10, by omega, hi1, by simp; omega, by omega, by rw [Nat.pow_succ] at hqk; omega, by rw [← hdec, decF_step _ _ (by omega)]; simp, q2⟩
