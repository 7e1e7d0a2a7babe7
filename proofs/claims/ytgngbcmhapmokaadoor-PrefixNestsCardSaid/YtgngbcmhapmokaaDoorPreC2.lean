/- Part of a proof about a Go program: the abstract machine walks its code; no condition. -/
import Derived.Test.YtgngbcmhapmokaaDoorPreC1
open Go Go.Am Go.Am.W Go.Proofs
set_option maxRecDepth 100000
/-! ### How prefixes nest: no program in sight -/
theorem top_top {x b d : Nat} (h : b ≤ d) : topF (topF x d) b = topF x b := by
  unfold topF
  have e : 2 ^ (32 - b) = 2 ^ (32 - d) * 2 ^ (32 - b - (32 - d)) := by rw [← Nat.pow_add]; congr 1; omega
  have hp : 0 < 2 ^ (32 - d) := Nat.pow_pos (by decide)
  generalize 2 ^ (32 - d) = t at *
  generalize 2 ^ (32 - b - (32 - d)) = u at *
  rw [e, ← Nat.div_div_eq_div_mul (x / t * t), Nat.mul_div_cancel _ hp, Nat.div_div_eq_div_mul]
theorem top_self (x b : Nat) : topF (topF x b) b = topF x b := top_top (Nat.le_refl b)
theorem top_32 (x : Nat) : topF x 32 = x := by unfold topF; simp
/-- A prefix that has no bit behind its length. -/
structure IsP (P b : Nat) : Prop where
  le : b ≤ 32
  top : topF P b = P
theorem IsP.of (x : Nat) {b : Nat} (h : b ≤ 32) : IsP (topF x b) b := ⟨h, top_self x b⟩
theorem may_of {P b : Nat} (h : IsP P b) : mayF P (b : Int) = true := by
  unfold mayF
  have := h.le
  rw [Int.toNat_natCast, h.top]
  simp; omega
theorem has_of {P b : Nat} (h : IsP P b) (y : Nat) : hasF P (b : Int) y = (topF y b == P) := by
  unfold hasF; rw [may_of h, Int.toNat_natCast]; rfl
theorem cont_of {P b Q d : Nat} (h : IsP P b) (k : IsP Q d) : contF P (b : Int) Q (d : Int) = (decide (b ≤ d) && (topF Q b == P)) := by
  unfold contF
  rw [may_of k, has_of h, Bool.true_and]
  congr 1
  simp
theorem nest1 {P b Q d y : Nat} (h : IsP P b) (k : IsP Q d) (h1 : hasF P b y = true) (h2 : hasF Q d y = true) : contF P b Q d = true ∨ contF Q d P b = true := by
  rw [has_of h, beq_iff_eq] at h1
  rw [has_of k, beq_iff_eq] at h2
  rw [cont_of h k, cont_of k h]
  rcases Nat.le_total b d with hl | hl
  · left; rw [← h2, top_top hl, h1]; simp [hl]
  · right; rw [← h1, top_top hl, h2]; simp [hl]
theorem nest2 {P b Q d y : Nat} (h : IsP P b) (k : IsP Q d) (h1 : contF P b Q d = true) (h2 : hasF Q d y = true) : hasF P b y = true := by
  rw [cont_of h k, Bool.and_eq_true, decide_eq_true_eq, beq_iff_eq] at h1
  rw [has_of k, beq_iff_eq] at h2
  rw [has_of h, beq_iff_eq, ← h1.2, ← h2, top_top h1.1]
theorem nest3 {P b Q d : Nat} (h : IsP P b) (k : IsP Q d) : (contF P b Q d && contF Q d P b) = ((P : Int) == (Q : Int) && (b : Int) == (d : Int)) := by
  rw [cont_of h k, cont_of k h, Bool.eq_iff_iff]
  simp only [Bool.and_eq_true, decide_eq_true_eq, beq_iff_eq]
  constructor
  · rintro ⟨⟨h1, h2⟩, h3, h4⟩
    have e : b = d := by omega
    subst e
    rw [k.top] at h2
    omega
  · rintro ⟨h1, h2⟩
    have e1 : P = Q := by omega
    have e2 : b = d := by omega
    subst e1 e2
    exact ⟨⟨Nat.le_refl _, h.top⟩, Nat.le_refl _, h.top⟩
theorem nest4 {P b Q d : Nat} (h : IsP P b) (k : IsP Q d) (h1 : contF P b Q d = true) : ¬ cmpF P b Q d > 0 := by
  rw [cont_of h k, Bool.and_eq_true, decide_eq_true_eq, beq_iff_eq] at h1
  have := topF_le Q b
  unfold cmpF
  split <;> first | omega | (split <;> first | omega | (split <;> first | omega | (split <;> omega)))
theorem nest5 {P b : Nat} (h : IsP P b) : hasF P b P = true := by rw [has_of h, h.top]; simp
theorem nest5' {P b : Nat} (h : IsP P b) : contF P b P b = true := by rw [cont_of h h, h.top]; simp
theorem nest6 (P b Q d : Int) : (!decide (cmpF P b Q d < 0) == decide (cmpF Q d P b > 0)) = false := by
  have : decide (cmpF P b Q d < 0) = decide (cmpF Q d P b > 0) := by
    rw [decide_eq_decide]
    unfold cmpF
    repeat' split
    all_goals omega
  rw [this]; cases decide (cmpF Q d P b > 0) <;> rfl
theorem nest6' (P b Q d : Int) : (!(cmpF P b Q d == 0) == (P == Q && b == d)) = false := by
  have : (cmpF P b Q d == 0) = (P == Q && b == d) := by
    rw [Bool.eq_iff_iff]
    simp only [Bool.and_eq_true, beq_iff_eq]
    unfold cmpF
    repeat' split
    all_goals omega
  rw [this]; cases (P == Q && b == d) <;> rfl
theorem nest7 {P y : Nat} (h : IsP P 32) : hasF P 32 y = ((y : Int) == (P : Int)) := by
  have := has_of h y
  rw [top_32] at this
  rw [natBeq, ← this]; rfl
/-! The halves. -/
theorem half_form {P b : Nat} (h : IsP P b) (hb : b < 32) : ∃ k, P = k * (2 * 2 ^ (31 - b)) := by
  have := h.top
  unfold topF at this
  have e : 2 ^ (32 - b) = 2 * 2 ^ (31 - b) := by rw [← Nat.pow_succ']; congr 1; omega
  rw [e] at this
  exact ⟨_, this.symm⟩
theorem or_half {P b : Nat} (h : IsP P b) (hb : b < 32) : P ||| 2 ^ (31 - b) = P + 2 ^ (31 - b) := by
  obtain ⟨k, hk⟩ := half_form h hb
  have e : 2 * 2 ^ (31 - b) = 2 ^ (32 - b) := by rw [← Nat.pow_succ']; congr 1; omega
  rw [e] at hk
  have h1 : 2 ^ (31 - b) < 2 ^ (32 - b) := Nat.pow_lt_pow_right (by decide) (by omega)
  have := Nat.two_pow_add_eq_or_of_lt h1 k
  rw [hk, Nat.mul_comm]; exact this.symm
theorem top_step (y b : Nat) (hb : b < 32) : topF y (b + 1) = y / 2 ^ (31 - b) * 2 ^ (31 - b) ∧ topF y b = y / 2 ^ (31 - b) / 2 * (2 * 2 ^ (31 - b)) := by
  unfold topF
  have e : 2 ^ (32 - b) = 2 * 2 ^ (31 - b) := by rw [← Nat.pow_succ']; congr 1; omega
  have e2 : 32 - (b + 1) = 31 - b := by omega
  rw [e, e2, Nat.div_div_eq_div_mul, Nat.mul_comm (2 ^ (31 - b)) 2]
  exact ⟨rfl, rfl⟩
theorem low_is {P b : Nat} (h : IsP P b) (hb : b < 32) : IsP P (b + 1) := by
  refine ⟨by omega, ?_⟩
  rw [(top_step P b hb).1]
  obtain ⟨k, hk⟩ := half_form h hb
  have hp : 0 < 2 ^ (31 - b) := Nat.pow_pos (by decide)
  generalize 2 ^ (31 - b) = t at *
  subst hk
  rw [← Nat.mul_assoc, Nat.mul_div_cancel _ hp]
theorem high_is {P b : Nat} (h : IsP P b) (hb : b < 32) : IsP (P + 2 ^ (31 - b)) (b + 1) := by
  refine ⟨by omega, ?_⟩
  rw [(top_step _ b hb).1]
  obtain ⟨k, hk⟩ := half_form h hb
  have hp : 0 < 2 ^ (31 - b) := Nat.pow_pos (by decide)
  generalize 2 ^ (31 - b) = t at *
  subst hk
  rw [show k * (2 * t) + t = (k * 2 + 1) * t by rw [Nat.add_mul, Nat.mul_assoc, Nat.one_mul], Nat.mul_div_cancel _ hp]
theorem nest8 {P b y : Nat} (h : IsP P b) (hb : b < 32) : hasF P b y = !(hasF P ((b + 1 : Nat) : Int) y == hasF (P + 2 ^ (31 - b)) ((b + 1 : Nat) : Int) y) := by
  rw [has_of h, has_of (low_is h hb), has_of (high_is h hb)]
  obtain ⟨e1, e2⟩ := top_step y b hb
  rw [e1, e2]
  obtain ⟨k, hk⟩ := half_form h hb
  have hp : 0 < 2 ^ (31 - b) := Nat.pow_pos (by decide)
  generalize 2 ^ (31 - b) = t at *
  subst hk
  generalize y / t = q
  have a1 : (q / 2 * (2 * t) == k * (2 * t)) = decide (q / 2 = k) := by
    rw [Bool.eq_iff_iff, beq_iff_eq, decide_eq_true_eq]
    exact ⟨fun h => Nat.eq_of_mul_eq_mul_right (by omega) h, fun h => by rw [h]⟩
  have a2 : (q * t == k * (2 * t)) = decide (q = 2 * k) := by
    rw [Bool.eq_iff_iff, beq_iff_eq, decide_eq_true_eq, ← Nat.mul_assoc]
    exact ⟨fun h => by have := Nat.eq_of_mul_eq_mul_right hp h; omega, fun h => by rw [h, Nat.mul_comm 2 k]⟩
  have a3 : (q * t == k * (2 * t) + t) = decide (q = 2 * k + 1) := by
    rw [Bool.eq_iff_iff, beq_iff_eq, decide_eq_true_eq, show k * (2 * t) + t = (k * 2 + 1) * t by rw [Nat.add_mul, Nat.mul_assoc, Nat.one_mul]]
    exact ⟨fun h => by have := Nat.eq_of_mul_eq_mul_right hp h; omega, fun h => by rw [h, Nat.mul_comm 2 k]⟩
  rw [a1, a2, a3]
  by_cases c1 : q = 2 * k
  · have c2 : ¬ q = 2 * k + 1 := by omega
    have c3 : q / 2 = k := by omega
    rw [decide_eq_true c1, decide_eq_false c2, decide_eq_true c3]; rfl
  · by_cases c2 : q = 2 * k + 1
    · have c3 : q / 2 = k := by omega
      rw [decide_eq_false c1, decide_eq_true c2, decide_eq_true c3]; rfl
    · have c3 : ¬ q / 2 = k := by omega
      rw [decide_eq_false c1, decide_eq_false c2, decide_eq_false c3]; rfl
theorem nest9 {P b : Nat} (h : IsP P b) (hb : b < 32) : contF P b P ((b + 1 : Nat) : Int) = true := by
  rw [cont_of h (low_is h hb), h.top]; simp
theorem nest10 {P b : Nat} (h : IsP P b) (hb : b < 32) : contF P b (P + 2 ^ (31 - b)) ((b + 1 : Nat) : Int) = true := by
  rw [cont_of h (high_is h hb), (top_step _ b hb).2]
  obtain ⟨k, hk⟩ := half_form h hb
  have hp : 0 < 2 ^ (31 - b) := Nat.pow_pos (by decide)
  generalize 2 ^ (31 - b) = t at *
  subst hk
  rw [show k * (2 * t) + t = (k * 2 + 1) * t by rw [Nat.add_mul, Nat.mul_assoc, Nat.one_mul], Nat.mul_div_cancel _ hp]
  have : (k * 2 + 1) / 2 = k := by omega
  rw [this]; simp
theorem nest11 {P b : Nat} (h : IsP P b) (hb : b < 32) : bitF (P + 2 ^ (31 - b)) b = true ∧ bitF P b = false := by
  unfold bitF
  rw [Int.toNat_natCast]
  obtain ⟨k, hk⟩ := half_form h hb
  have hp : 0 < 2 ^ (31 - b) := Nat.pow_pos (by decide)
  generalize 2 ^ (31 - b) = t at *
  subst hk
  rw [show k * (2 * t) + t = (k * 2 + 1) * t by rw [Nat.add_mul, Nat.mul_assoc, Nat.one_mul], Nat.mul_div_cancel _ hp, show k * (2 * t) = (k * 2) * t by rw [Nat.mul_assoc], Nat.mul_div_cancel _ hp]
  have e1 : (k * 2 + 1) % 2 = 1 := by omega
  have e2 : (k * 2) % 2 = 0 := by omega
  rw [e1, e2]
  constructor
  · simp; omega
  · simp
