/- Part of a proof about a Go program: the abstract machine walks its code; no condition. -/
import Derived.Test.YtjmkmijomlnmaaaDoorNumC4
open Go Go.Am Go.Am.W Go.Proofs
set_option maxRecDepth 100000
theorem pow10s_get (k : Nat) (hk : k < 20) : pow10s[k]? = some (.int .u64 ((10 ^ k : Nat) : Int)) := by
  unfold pow10s
  rw [List.getElem?_map, List.getElem?_range hk]
  simp [Int.natCast_pow]
theorem log10_ok (L : Nat) (h1 : 1 ≤ L) (h2 : L ≤ 32) : L * 78913 / 262144 ≤ 9 ∧ 10 ^ (L * 78913 / 262144 - 1) ≤ 2 ^ (L - 1) ∧ 2 ^ L ≤ 10 ^ (L * 78913 / 262144 + 1) := by
  have : ∀ L : Fin 33, 1 ≤ L.val → L.val * 78913 / 262144 ≤ 9 ∧ 10 ^ (L.val * 78913 / 262144 - 1) ≤ 2 ^ (L.val - 1) ∧ 2 ^ L.val ≤ 10 ^ (L.val * 78913 / 262144 + 1) := by decide +kernel
  exact this ⟨L, by omega⟩ h1
theorem numDigits_ok (om : Nat → Nat) (n u : Nat) (h : AHeap) (own : Bool) (hu : 0 < u) (hu2 : u < 4294967296) (hg : h.get 2 = some (.cells pow10s 0 own)) :
    ∃ r : Nat, 1 ≤ r ∧ r ≤ 10 ∧ 10 ^ (r - 1) ≤ u ∧ u < 10 ^ r ∧ acall E1 om 10000 (n + 2) (.fn 40) [.int .u64 u] h = some (.int .i64 (r : Int), h) := by
  obtain ⟨L, a, b, c, d, e⟩ := len64_ok om n u h hu hu2
  obtain ⟨q1, q2, q3⟩ := log10_ok L a b
  generalize hf : L * 78913 / 262144 = f at q1 q2 q3
  have hidx : Int.fdiv (awrap .i64 ((L : Int) * 78913)) 262144 = (f : Int) := by
    rw [awrap_i64 (by omega) (by omega), Int.fdiv_eq_ediv_of_nonneg _ (by omega)]; omega
  have hi : pureE (aindexAt E1.P 88 (.pointer (some ⟨2, 0, none⟩)) (.int .i64 (f : Int))) = some (.pointer (some ⟨2, 0 + (f : Int).toNat * 1, none⟩), .id) := arr_at (len := 20) (n := 1) (elem := 45) (by kernel_rfl) (by kernel_rfl) (by omega) (by omega)
  have hl : aload E1.P h.get 45 (.pointer (some ⟨2, 0 + (f : Int).toNat * 1, none⟩)) = some (.int .u64 ((10 ^ f : Nat) : Int)) :=
    load_cell (n := 1) hg (by kernel_rfl) (by kernel_rfl) (by rw [show 0 + (f : Int).toNat * 1 = f by omega]; exact pow10s_get f (by omega))
  by_cases hc : 10 ^ f ≤ u
  · have := numDigits_0 om n u h L _ _ e (by rw [hidx]; exact hi) (by rw [hl]; rfl) (by simp; exact_mod_cast hc)
    rw [hidx, awrap_i64 (by omega) (by omega)] at this
    exact ⟨f + 1, by omega, by omega, by simpa using hc, Nat.lt_of_lt_of_le d q3, this⟩
  · have := numDigits_1 om n u h L _ _ e (by rw [hidx]; exact hi) (by rw [hl]; rfl) (by simp; exact_mod_cast (Nat.lt_of_not_le hc))
    rw [hidx, awrap_i64 (by omega) (by omega), Int.add_zero] at this
    have hf0 : f ≠ 0 := by rintro rfl; simp at hc; omega
    exact ⟨f, by omega, by omega, Nat.le_trans q2 c, Nat.lt_of_not_le hc, this⟩

theorem sm1 (I : Int) (k m : Nat) (hk : k < 100) (hI : I = ((2 * k + 1 : Nat) : Int)) (hm : k % 10 = m % 10) : pureE (aindex E1.P 9 (.string smalls) (.int .u32 I)) = some (.int .u8 ((dig m).toNat : Int), .id) := by
  subst hI
  rw [dig_congr hm.symm]
  exact str_index (P := E1.P) (t := 9) (l := smalls.data.toList) (by kernel_rfl) (by omega) (by rw [Int.toNat_natCast]; exact (smalls_get k hk).2)
theorem sm0 (I : Int) (k m : Nat) (hk : k < 100) (hI : I = ((2 * k : Nat) : Int)) (hm : k / 10 % 10 = m % 10) : pureE (aindex E1.P 9 (.string smalls) (.int .u32 I)) = some (.int .u8 ((dig m).toNat : Int), .id) := by
  subst hI
  rw [dig_congr hm.symm]
  exact str_index (P := E1.P) (t := 9) (l := smalls.data.toList) (by kernel_rfl) (by omega) (by rw [Int.toNat_natCast]; exact (smalls_get k hk).1)
theorem last_dig (J : Int) (k m : Nat) (hJ : J = ((48 + k : Nat) : Int)) (hk : k < 10) (hm : k = m % 10) : UInt8.ofNat (Int.toNat (awrap .u8 J)) = dig m := by
  subst hJ hm
  rw [awc8]
  unfold dig
  congr 1
  omega
/-! numbers pushed down -/
theorem tmodc (a b : Nat) : Int.tmod (a : Int) (b : Int) = ((a % b : Nat) : Int) := rfl
theorem tdivc (a b : Nat) : Int.tdiv (a : Int) (b : Int) = ((a / b : Nat) : Int) := rfl
theorem awc64 (a : Nat) : awrap .u64 (a : Int) = ((a % 18446744073709551616 : Nat) : Int) := rfl
theorem fin_str {r : Option (Value × AHeap)} {l l' : List UInt8} {h' : AHeap} (e : r = some (.string ⟨⟨l⟩⟩, h')) (hl : l = l') : ∃ h', r = some (.string ⟨⟨l'⟩⟩, h') := ⟨h', by rw [e, hl]⟩
