/- Digits of numbers: no program in sight. -/
import Derived.Test.YtgngbcmhapmokaaDoorAmGuide
namespace Go.Am
open Go
def isDig (b : UInt8) : Bool := decide (48 ≤ b.toNat) && decide (b.toNat ≤ 57)
def val (l : List UInt8) : Nat := l.foldl (fun a d => 10 * a + (d.toNat - 48)) 0
theorem val_snoc (l : List UInt8) (d : UInt8) : val (l ++ [d]) = 10 * val l + (d.toNat - 48) := by simp [val]
theorem isDig_iff {d : UInt8} : isDig d = true ↔ 48 ≤ d.toNat ∧ d.toNat ≤ 57 := by simp [isDig]
theorem val_fold_lt (l : List UInt8) (h : l.all isDig = true) : ∀ a, l.foldl (fun a d => 10 * a + (d.toNat - 48)) a < (a + 1) * 10 ^ l.length := by
  induction l with
  | nil => intro a; simp
  | cons d l ih =>
    intro a
    simp only [List.all_cons, Bool.and_eq_true] at h
    have hd := isDig_iff.1 h.1
    have := ih h.2 (10 * a + (d.toNat - 48))
    simp only [List.foldl_cons, List.length_cons, Nat.pow_succ]
    refine Nat.lt_of_lt_of_le this ?_
    have h2 : 10 * a + (d.toNat - 48) + 1 ≤ (a + 1) * 10 := by omega
    calc (10 * a + (d.toNat - 48) + 1) * 10 ^ l.length ≤ ((a + 1) * 10) * 10 ^ l.length := Nat.mul_le_mul_right _ h2
      _ = (a + 1) * (10 ^ l.length * 10) := by rw [Nat.mul_assoc, Nat.mul_comm 10]
theorem val_lt (l : List UInt8) (h : l.all isDig = true) : val l < 10 ^ l.length := by
  have := val_fold_lt l h 0
  simpa [val] using this
theorem all_take {l : List UInt8} (h : l.all isDig = true) (i : Nat) : (l.take i).all isDig = true := by
  rw [List.all_eq_true] at h ⊢
  exact fun x hx => h x (List.mem_of_mem_take hx)
def dig (n : Nat) : UInt8 := UInt8.ofNat (48 + n % 10)
def decF : Nat → Nat → List UInt8
  | 0, _ => []
  | k + 1, n => if n < 10 then [dig n] else decF k (n / 10) ++ [dig n]
def dec (n : Nat) : List UInt8 := decF 20 n
theorem dig_toNat (n : Nat) : (dig n).toNat = 48 + n % 10 := by
  unfold dig
  rw [UInt8.toNat_ofNat']; omega
theorem decF_len (k n : Nat) : (decF k n).length ≤ k := by
  induction k generalizing n with
  | zero => simp [decF]
  | succ k ih =>
    simp only [decF]
    split
    · simp
    · have := ih (n / 10); simp; omega
theorem decF_step (k n : Nat) (h : 10 ≤ n) : decF (k + 1) n = decF k (n / 10) ++ [dig n] := by
  simp only [decF]; rw [if_neg (by omega)]
theorem decF_last (k n : Nat) (h : n < 10) : decF (k + 1) n = [dig n] := by
  simp only [decF]; rw [if_pos h]
theorem dropWhile_nil_iff {α : Type} {p : α → Bool} {l : List α} : l.dropWhile p = [] ↔ l.all p = true := by
  induction l with
  | nil => simp
  | cons x l ih =>
    rw [List.dropWhile_cons]
    cases hx : p x with
    | true => simp [ih, hx]
    | false => simp [hx]
def digF (l : List UInt8) : Option Nat := if l ≠ [] ∧ l.length ≤ 10 ∧ l.all isDig = true ∧ ¬ (1 < l.length ∧ l.head? = some 48) then some (val l) else none
theorem tw_all {α : Type} {p : α → Bool} {l : List α} (h : l.all p = true) : l.takeWhile p = l := by
  induction l with
  | nil => rfl
  | cons x l ih =>
    simp only [List.all_cons, Bool.and_eq_true] at h
    rw [List.takeWhile_cons, h.1]; simp [ih h.2]
theorem tw_app {α : Type} {p : α → Bool} {a : List α} {x : α} {b : List α} (ha : a.all p = true) (hx : p x = false) : (a ++ x :: b).takeWhile p = a := by
  induction a with
  | nil => simp [hx]
  | cons y a ih =>
    simp only [List.all_cons, Bool.and_eq_true] at ha
    simp [ha.1, ih ha.2]
theorem dig_isDig (n : Nat) : isDig (dig n) = true := by
  rw [isDig_iff, dig_toNat]; omega
theorem decF_all (k n : Nat) : (decF k n).all isDig = true := by
  induction k generalizing n with
  | zero => rfl
  | succ k ih =>
    simp only [decF]
    split
    · simp [dig_isDig]
    · rw [List.all_append, ih]; simp [dig_isDig]
theorem dec_all (n : Nat) : (dec n).all isDig = true := decF_all 20 n
theorem val_decF (k n : Nat) (h : n < 10 ^ k) (hk : 1 ≤ k) : val (decF k n) = n := by
  induction k generalizing n with
  | zero => omega
  | succ k ih =>
    by_cases hlt : n < 10
    · rw [decF_last _ _ hlt]
      have := val_snoc [] (dig n)
      simp only [List.nil_append] at this
      rw [this, dig_toNat]; simp [val]; omega
    · rw [decF_step _ _ (by omega), val_snoc, dig_toNat]
      have h1 : 1 ≤ k := by
        cases k with
        | zero => simp at h; omega
        | succ k => omega
      rw [ih (n / 10) (by rw [Nat.pow_succ] at h; omega) h1]; omega
theorem val_dec (n : Nat) (h : n < 4294967296) : val (dec n) = n := val_decF 20 n (Nat.lt_of_lt_of_le h (by decide)) (by decide)
theorem dec_inj {a b : Nat} (ha : a < 4294967296) (hb : b < 4294967296) : dec a = dec b ↔ a = b := by
  constructor
  · intro h; rw [← val_dec a ha, ← val_dec b hb, h]
  · rintro rfl; rfl
theorem head_app {l r : List UInt8} (h : l ≠ []) : (l ++ r).head? = l.head? := by
  cases l with
  | nil => exact absurd rfl h
  | cons a l => rfl
theorem decF_ne (k n : Nat) : decF (k + 1) n ≠ [] := by
  simp only [decF]; split <;> simp
theorem dec_ne (n : Nat) : dec n ≠ [] := decF_ne 19 n
theorem decF_head (k n : Nat) (hn : n < 10 ^ k) (hk : 1 ≤ k) (hl : 1 < (decF k n).length) : (decF k n).head? ≠ some 48 := by
  induction k generalizing n with
  | zero => omega
  | succ k ih =>
    by_cases hlt : n < 10
    · rw [decF_last _ _ hlt] at hl; simp at hl
    · rw [decF_step _ _ (by omega)]
      have h1 : 1 ≤ k := by
        cases k with
        | zero => simp at hn; omega
        | succ k => omega
      have hn' : n / 10 < 10 ^ k := by rw [Nat.pow_succ] at hn; omega
      obtain ⟨j, rfl⟩ : ∃ j, k = j + 1 := ⟨k - 1, by omega⟩
      by_cases h2 : 1 < (decF (j + 1) (n / 10)).length
      · rw [head_app (decF_ne j _)]
        exact ih _ hn' h1 h2
      · rw [head_app (decF_ne j _)]
        have h3 : n / 10 < 10 := by
          apply Classical.byContradiction
          intro h3
          rw [decF_step _ _ (by omega), List.length_append, List.length_singleton] at h2
          cases j with
          | zero => simp at hn'; omega
          | succ j =>
            have := List.length_pos_iff.2 (decF_ne j (n / 10 / 10))
            omega
        rw [decF_last _ _ h3]
        simp only [List.head?_cons, ne_eq, Option.some.injEq]
        intro hh
        have := congrArg UInt8.toNat hh
        rw [dig_toNat] at this
        have e : (48 : UInt8).toNat = 48 := rfl
        rw [e] at this; omega
theorem decF_len10 (k n d : Nat) (h : n < 10 ^ d) (hd : 1 ≤ d) : (decF k n).length ≤ d := by
  induction k generalizing n d with
  | zero => simp [decF]
  | succ k ih =>
    by_cases hlt : n < 10
    · rw [decF_last _ _ hlt]; simpa using hd
    · rw [decF_step _ _ (by omega), List.length_append]
      have h1 : 2 ≤ d := by
        apply Classical.byContradiction
        intro hh
        have : d = 1 := by omega
        subst this; simp at h; omega
      obtain ⟨e, rfl⟩ : ∃ e, d = e + 1 := ⟨d - 1, by omega⟩
      have := ih (n / 10) e (by rw [Nat.pow_succ] at h; omega) (by omega)
      simp; omega
theorem digF_dec (n : Nat) (h : n < 4294967296) : digF (dec n) = some n := by
  unfold digF
  rw [if_pos ⟨dec_ne n, decF_len10 20 n 10 (by omega) (by omega), dec_all n, fun hh => decF_head 20 n (Nat.lt_of_lt_of_le h (by decide)) (by decide) hh.1 hh.2⟩, val_dec n h]
theorem val_pos {l : List UInt8} (ha : l.all isDig = true) (hne : l ≠ []) (hh : l.head? ≠ some 48) : 0 < val l := by
  rcases l with _ | ⟨x, l⟩
  · exact absurd rfl hne
  · have hx : isDig x = true := by simp only [List.all_cons, Bool.and_eq_true] at ha; exact ha.1
    have hx := isDig_iff.1 hx
    have hx48 : x.toNat ≠ 48 := fun hq => hh (by rw [List.head?_cons]; congr 1; rw [← UInt8.toNat_inj]; exact hq)
    have : ∀ (l : List UInt8) (a : Nat), 0 < a → 0 < l.foldl (fun a d => 10 * a + (d.toNat - 48)) a := by
      intro l
      induction l with
      | nil => intro a h; exact h
      | cons y l ih => intro a h; rw [List.foldl_cons]; exact ih _ (by omega)
    unfold val
    rw [List.foldl_cons]
    exact this l _ (by omega)
theorem dig_of {d : UInt8} (h : isDig d = true) (n : Nat) (hn : n % 10 = d.toNat - 48) : dig n = d := by
  have := isDig_iff.1 h
  rw [← UInt8.toNat_inj, dig_toNat, hn]; omega
theorem dec_val : ∀ (k : Nat) (l : List UInt8), l.length ≤ k → l ≠ [] → l.all isDig = true → ¬ (1 < l.length ∧ l.head? = some 48) → decF k (val l) = l := by
  intro k
  induction k with
  | zero => intro l h hne; exact absurd (List.length_eq_zero_iff.1 (by omega)) hne
  | succ k ih =>
    intro l h hne ha hz
    rcases List.eq_nil_or_concat l with rfl | ⟨r, d, rfl⟩
    · exact absurd rfl hne
    · rw [List.concat_eq_append] at *
      have hd : isDig d = true := by rw [List.all_append] at ha; simpa using (Bool.and_eq_true_iff.1 ha).2
      have hr : r.all isDig = true := by rw [List.all_append] at ha; exact (Bool.and_eq_true_iff.1 ha).1
      have hdb := isDig_iff.1 hd
      rw [val_snoc]
      by_cases hr0 : r = []
      · subst hr0
        have : val [] = 0 := rfl
        rw [this, decF_last _ _ (by omega), List.nil_append, dig_of hd _ (by omega)]
      · have hp : 0 < r.length := List.length_pos_iff.2 hr0
        have hhead : r.head? ≠ some 48 := fun hh => hz ⟨by simp; omega, by rw [head_app hr0]; exact hh⟩
        have hv := val_pos hr hr0 hhead
        rw [decF_step _ _ (by omega), dig_of hd _ (by omega), show (10 * val r + (d.toNat - 48)) / 10 = val r by omega, ih r (by simp at h; omega) hr0 hr (fun hh => hhead hh.2)]
theorem dec_of_digF {l : List UInt8} {v : Nat} (h : digF l = some v) : dec v = l := by
  unfold digF at h
  split at h
  · rename_i hc
    injection h with h; subst h
    exact dec_val 20 l (by omega) hc.1 hc.2.2.1 hc.2.2.2
  · cases h
end Go.Am
