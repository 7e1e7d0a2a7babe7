/- Part of a proof about a Go program: the abstract machine walks its code; no condition. -/
import Derived.Test.YtjmkmijomlnmaaaDoorNumC6
import Derived.Test.YtjmkmijomlnmaaaDoorNumP4
open Go Go.Am Go.Am.W Go.Proofs
set_option maxRecDepth 100000
theorem nd_same (om : Nat → Nat) (n u nd : Nat) (hu : 0 < u) (h3 : u < 4294967296) (h0 : 1 ≤ nd) (h1 : 10 ^ (nd - 1) ≤ u) (h2 : u < 10 ^ nd) : ∀ h own, AHeap.get h 2 = some (.cells pow10s 0 own) → acall E1 om 10000 (n + 2) (.fn 40) [.int .u64 u] h = some (.int .i64 (nd : Int), h) := by
  intro h own hg
  obtain ⟨r, a, b, c, d, e⟩ := numDigits_ok om n u h own hu h3 hg
  have hr : r = nd := by
    rcases Nat.lt_trichotomy r nd with hlt | heq | hgt
    · have := Nat.pow_le_pow_right (show 0 < 10 by decide) (show r ≤ nd - 1 by omega)
      omega
    · exact heq
    · have := Nat.pow_le_pow_right (show 0 < 10 by decide) (show nd ≤ r - 1 by omega)
      omega
  rw [hr] at e
  exact e
theorem ifmt_ok (om : Nat → Nat) (n u : Nat) (h3 : u < 4294967296) : ∃ h', acall E1 om 10000 (n + 3) (.fn 28) [.int .u64 u, .int .i64 10] hNum = some (.string ⟨⟨dec u⟩⟩, h') := by
  by_cases h : u < 100
  · have := small_ok om (n + 1) u hNum h
    exact ⟨_, ifmt_0 om (n + 2) u hNum _ (by simp; omega) (by rw [awrap_i64 (by omega) (by omega)]; exact this)⟩
  · have S := fun nd (h0 : 1 ≤ nd) h1 h2 => nd_same om n u nd (by omega) h3 h0 h1 h2
    by_cases a3 : u < 1000
    · exact ifmt3_ok om (n + 1) u (by omega) a3 h3 (S 3 (by omega) (by simp; omega) (by simp; omega))
    by_cases a4 : u < 10000
    · exact ifmt4_ok om (n + 1) u (by omega) a4 h3 (S 4 (by omega) (by simp; omega) (by simp; omega))
    by_cases a5 : u < 100000
    · exact ifmt5_ok om (n + 1) u (by omega) a5 h3 (S 5 (by omega) (by simp; omega) (by simp; omega))
    by_cases a6 : u < 1000000
    · exact ifmt6_ok om (n + 1) u (by omega) a6 h3 (S 6 (by omega) (by simp; omega) (by simp; omega))
    by_cases a7 : u < 10000000
    · exact ifmt7_ok om (n + 1) u (by omega) a7 h3 (S 7 (by omega) (by simp; omega) (by simp; omega))
    by_cases a8 : u < 100000000
    · exact ifmt8_ok om (n + 1) u (by omega) a8 h3 (S 8 (by omega) (by simp; omega) (by simp; omega))
    by_cases a9 : u < 1000000000
    · exact ifmt9_ok om (n + 1) u (by omega) a9 h3 (S 9 (by omega) (by simp; omega) (by simp; omega))
    · exact ifmt10_ok om (n + 1) u (by omega) (by omega) h3 (S 10 (by omega) (by simp; omega) (by simp; omega))
theorem sfmt_ok (om : Nat → Nat) (n u : Nat) (h3 : u < 4294967296) : ∃ h', acall E1 om 10000 (n + 4) (.fn 23) [.int .u64 u, .int .i64 10] hNum = some (.string ⟨⟨dec u⟩⟩, h') := by
  obtain ⟨h', e⟩ := ifmt_ok om n u h3
  exact ⟨h', sfmt_0 om (n + 3) _ _ _ _ _ e⟩
/-- The kind of a number. -/
def kindF (n : Int) : Int :=
  if n = 0 then 1 else if n = 23456 then 2 else
  if 64512 ≤ n ∧ n ≤ 65534 ∨ 4200000000 ≤ n ∧ n ≤ 4294967294 then 3 else
  if 64496 ≤ n ∧ n ≤ 64511 ∨ 65535 ≤ n ∧ n ≤ 65551 ∨ n = 4294967295 then 4 else 5
theorem kind_ok (om : Nat → Nat) (k : Nat) (n : Int) (h0 : 0 ≤ n) (h1 : n < 4294967296) : ∃ h', acall E1 om 10000 (k + 1) (.fn 16) [.int .u32 n] hSp = some (.int .i64 (kindF n), h') := by
  have T : ∀ {p : Prop} [Decidable p], p → decide p = true := fun h => decide_eq_true h
  have F : ∀ {p : Prop} [Decidable p], ¬ p → decide p = false := fun h => decide_eq_false h
  by_cases a0 : n = 0
  · subst a0; exact ⟨_, kind_0 om k 0 (by decide) (by decide)⟩
  by_cases a1 : n < 23456
  · have : kindF n = 5 := by unfold kindF; rw [if_neg (by omega), if_neg (by omega), if_neg (by omega), if_neg (by omega)]
    rw [this]
    exact ⟨_, kind_9 om k n (T (by omega)) (F (by omega)) (F (by omega)) (F (by omega)) (F (by omega)) (F (by omega)) (F (by omega)) (F (by omega))⟩
  by_cases a2 : n = 23456
  · subst a2; exact ⟨_, kind_1 om k 23456 (by decide) (by decide) (by decide) (by decide)⟩
  by_cases a3 : n < 64496
  · have : kindF n = 5 := by unfold kindF; rw [if_neg (by omega), if_neg (by omega), if_neg (by omega), if_neg (by omega)]
    rw [this]
    exact ⟨_, kind_8 om k n (T (by omega)) (F (by omega)) (T (by omega)) (F (by omega)) (F (by omega)) (F (by omega)) (F (by omega)) (F (by omega)) (F (by omega))⟩
  by_cases a4 : n < 64512
  · have : kindF n = 4 := by unfold kindF; rw [if_neg (by omega), if_neg (by omega), if_neg (by omega), if_pos (by omega)]
    rw [this]
    exact ⟨_, kind_7 om k n (T (by omega)) (F (by omega)) (T (by omega)) (F (by omega)) (F (by omega)) (F (by omega)) (T (by omega)) (T (by omega))⟩
  by_cases a5 : n ≤ 65534
  · have : kindF n = 3 := by unfold kindF; rw [if_neg (by omega), if_neg (by omega), if_pos (by omega)]
    rw [this]
    exact ⟨_, kind_2 om k n (T (by omega)) (F (by omega)) (T (by omega)) (F (by omega)) (T (by omega)) (T (by omega))⟩
  by_cases a6 : n ≤ 65551
  · have : kindF n = 4 := by unfold kindF; rw [if_neg (by omega), if_neg (by omega), if_neg (by omega), if_pos (by omega)]
    rw [this]
    exact ⟨_, kind_5 om k n (T (by omega)) (F (by omega)) (T (by omega)) (F (by omega)) (T (by omega)) (F (by omega)) (F (by omega)) (T (by omega)) (F (by omega)) (T (by omega)) (T (by omega))⟩
  by_cases a7 : n < 4200000000
  · have : kindF n = 5 := by unfold kindF; rw [if_neg (by omega), if_neg (by omega), if_neg (by omega), if_neg (by omega)]
    rw [this]
    exact ⟨_, kind_6 om k n (T (by omega)) (F (by omega)) (T (by omega)) (F (by omega)) (T (by omega)) (F (by omega)) (F (by omega)) (T (by omega)) (F (by omega)) (T (by omega)) (F (by omega)) (F (by omega))⟩
  by_cases a8 : n ≤ 4294967294
  · have : kindF n = 3 := by unfold kindF; rw [if_neg (by omega), if_neg (by omega), if_pos (by omega)]
    rw [this]
    exact ⟨_, kind_3 om k n (T (by omega)) (F (by omega)) (T (by omega)) (F (by omega)) (T (by omega)) (F (by omega)) (T (by omega)) (T (by omega))⟩
  · have : n = 4294967295 := by omega
    subst this
    exact ⟨_, kind_4 om k 4294967295 (by decide) (by decide) (by decide) (by decide) (by decide) (by decide) (by decide) (by decide) (by decide) (by decide) (by decide) (by decide) (by decide) (by decide)⟩
