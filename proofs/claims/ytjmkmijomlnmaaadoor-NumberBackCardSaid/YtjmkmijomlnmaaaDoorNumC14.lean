/- Part of a proof about a Go program: the abstract machine walks its code; no condition. -/
import Derived.Test.YtjmkmijomlnmaaaDoorNumC13
import Derived.Test.YtjmkmijomlnmaaaDoorNumP8
open Go Go.Am Go.Am.W Go.Proofs
set_option maxRecDepth 100000
/-! ### Digits there and back -/
theorem dig_isDig (n : Nat) : isDig (dig n) = true := by
  rw [isDig_iff, dig_toNat]; omega
theorem decF_all (k n : Nat) : (decF k n).all isDig = true := by
  induction k generalizing n with
  | zero => rfl
  | succ k ih =>
    simp only [decF]
    split
    · simp [dig_isDig]
    · rw [List.all_append, ih]; simp [dig_isDig]
theorem dec_all (n : Nat) : (dec n).all isDig = true := decF_all 20 n
theorem val_decF (k n : Nat) (h : n < 10 ^ k) (hk : 1 ≤ k) : val (decF k n) = n := by
  induction k generalizing n with
  | zero => omega
  | succ k ih =>
    by_cases hlt : n < 10
    · rw [decF_last _ _ hlt]
      have := val_snoc [] (dig n)
      simp only [List.nil_append] at this
      rw [this, dig_toNat]; simp [val]; omega
    · rw [decF_step _ _ (by omega), val_snoc, dig_toNat]
      have h1 : 1 ≤ k := by
        cases k with
        | zero => simp at h; omega
        | succ k => omega
      rw [ih (n / 10) (by rw [Nat.pow_succ] at h; omega) h1]; omega
theorem val_dec (n : Nat) (h : n < 4294967296) : val (dec n) = n := val_decF 20 n (Nat.lt_of_lt_of_le h (by decide)) (by decide)
theorem dec_inj {a b : Nat} (ha : a < 4294967296) (hb : b < 4294967296) : dec a = dec b ↔ a = b := by
  constructor
  · intro h; rw [← val_dec a ha, ← val_dec b hb, h]
  · rintro rfl; rfl
theorem head_app {l r : List UInt8} (h : l ≠ []) : (l ++ r).head? = l.head? := by
  cases l with
  | nil => exact absurd rfl h
  | cons a l => rfl
theorem decF_ne (k n : Nat) : decF (k + 1) n ≠ [] := by
  simp only [decF]; split <;> simp
theorem dec_ne (n : Nat) : dec n ≠ [] := decF_ne 19 n
/-- No nought ahead. -/
theorem decF_head (k n : Nat) (hn : n < 10 ^ k) (hk : 1 ≤ k) (hl : 1 < (decF k n).length) : (decF k n).head? ≠ some 48 := by
  induction k generalizing n with
  | zero => omega
  | succ k ih =>
    by_cases hlt : n < 10
    · rw [decF_last _ _ hlt] at hl; simp at hl
    · rw [decF_step _ _ (by omega)]
      have h1 : 1 ≤ k := by
        cases k with
        | zero => simp at hn; omega
        | succ k => omega
      have hn' : n / 10 < 10 ^ k := by rw [Nat.pow_succ] at hn; omega
      obtain ⟨j, rfl⟩ : ∃ j, k = j + 1 := ⟨k - 1, by omega⟩
      by_cases h2 : 1 < (decF (j + 1) (n / 10)).length
      · rw [head_app (decF_ne j _)]
        exact ih _ hn' h1 h2
      · rw [head_app (decF_ne j _)]
        have h3 : n / 10 < 10 := by
          apply Classical.byContradiction
          intro h3
          rw [decF_step _ _ (by omega), List.length_append, List.length_singleton] at h2
          cases j with
          | zero => simp at hn'; omega
          | succ j =>
            have := List.length_pos_iff.2 (decF_ne j (n / 10 / 10))
            omega
        rw [decF_last _ _ h3]
        simp only [List.head?_cons, ne_eq, Option.some.injEq]
        intro hh
        have := congrArg UInt8.toNat hh
        rw [dig_toNat] at this
        have e : (48 : UInt8).toNat = 48 := rfl
        rw [e] at this; omega
theorem decF_len10 (k n d : Nat) (h : n < 10 ^ d) (hd : 1 ≤ d) : (decF k n).length ≤ d := by
  induction k generalizing n d with
  | zero => simp [decF]
  | succ k ih =>
    by_cases hlt : n < 10
    · rw [decF_last _ _ hlt]; simpa using hd
    · rw [decF_step _ _ (by omega), List.length_append]
      have h1 : 2 ≤ d := by
        apply Classical.byContradiction
        intro hh
        have : d = 1 := by omega
        subst this; simp at h; omega
      obtain ⟨e, rfl⟩ : ∃ e, d = e + 1 := ⟨d - 1, by omega⟩
      have := ih (n / 10) e (by rw [Nat.pow_succ] at h; omega) (by omega)
      simp; omega
theorem digF_dec (n : Nat) (h : n < 4294967296) : digF (dec n) = some n := by
  unfold digF
  rw [if_pos ⟨dec_ne n, decF_len10 20 n 10 (by omega) (by omega), dec_all n, fun hh => decF_head 20 n (Nat.lt_of_lt_of_le h (by decide)) (by decide) hh.1 hh.2⟩, val_dec n h]
theorem val_pos {l : List UInt8} (ha : l.all isDig = true) (hne : l ≠ []) (hh : l.head? ≠ some 48) : 0 < val l := by
  rcases l with _ | ⟨x, l⟩
  · exact absurd rfl hne
  · have hx : isDig x = true := by simp only [List.all_cons, Bool.and_eq_true] at ha; exact ha.1
    have hx := isDig_iff.1 hx
    have hx48 : x.toNat ≠ 48 := fun hq => hh (by rw [List.head?_cons]; congr 1; rw [← UInt8.toNat_inj]; exact hq)
    have : ∀ (l : List UInt8) (a : Nat), 0 < a → 0 < l.foldl (fun a d => 10 * a + (d.toNat - 48)) a := by
      intro l
      induction l with
      | nil => intro a h; exact h
      | cons y l ih => intro a h; rw [List.foldl_cons]; exact ih _ (by omega)
    unfold val
    rw [List.foldl_cons]
    exact this l _ (by omega)
theorem dig_of {d : UInt8} (h : isDig d = true) (n : Nat) (hn : n % 10 = d.toNat - 48) : dig n = d := by
  have := isDig_iff.1 h
  rw [← UInt8.toNat_inj, dig_toNat, hn]; omega
/-- A row of digits without a nought ahead is its number's text. -/
theorem dec_val : ∀ (k : Nat) (l : List UInt8), l.length ≤ k → l ≠ [] → l.all isDig = true → ¬ (1 < l.length ∧ l.head? = some 48) → decF k (val l) = l := by
  intro k
  induction k with
  | zero => intro l h hne; exact absurd (List.length_eq_zero_iff.1 (by omega)) hne
  | succ k ih =>
    intro l h hne ha hz
    rcases List.eq_nil_or_concat l with rfl | ⟨r, d, rfl⟩
    · exact absurd rfl hne
    · rw [List.concat_eq_append] at *
      have hd : isDig d = true := by rw [List.all_append] at ha; simpa using (Bool.and_eq_true_iff.1 ha).2
      have hr : r.all isDig = true := by rw [List.all_append] at ha; exact (Bool.and_eq_true_iff.1 ha).1
      have hdb := isDig_iff.1 hd
      rw [val_snoc]
      by_cases hr0 : r = []
      · subst hr0
        have : val [] = 0 := rfl
        rw [this, decF_last _ _ (by omega), List.nil_append, dig_of hd _ (by omega)]
      · have hp : 0 < r.length := List.length_pos_iff.2 hr0
        have hhead : r.head? ≠ some 48 := fun hh => hz ⟨by simp; omega, by rw [head_app hr0]; exact hh⟩
        have hv := val_pos hr hr0 hhead
        rw [decF_step _ _ (by omega), dig_of hd _ (by omega), show (10 * val r + (d.toNat - 48)) / 10 = val r by omega, ih r (by simp at h; omega) hr0 hr (fun hh => hhead hh.2)]
theorem dec_of_digF {l : List UInt8} {v : Nat} (h : digF l = some v) : dec v = l := by
  unfold digF at h
  split at h
  · rename_i hc
    injection h with h; subst h
    exact dec_val 20 l (by omega) hc.1 hc.2.2.1 hc.2.2.2
  · cases h
theorem noDot_of_dig {l : List UInt8} (h : l.all isDig = true) : l.all notDot = true := by
  rw [List.all_eq_true] at h ⊢
  intro x hx
  have := isDig_iff.1 (h x hx)
  unfold notDot
  have : x ≠ 46 := fun hh => by subst hh; simp at this
  simpa using this
theorem cut_noDot {l : List UInt8} (h : l.all notDot = true) : cutD l = false := by
  unfold cutD cutA
  rw [tw_all h]; simp
theorem cut_dot {a b : List UInt8} (h : a.all notDot = true) : cutA (a ++ 46 :: b) = a ∧ cutB (a ++ 46 :: b) = b ∧ cutD (a ++ 46 :: b) = true := by
  have h1 : cutA (a ++ 46 :: b) = a := tw_app h (by decide)
  unfold cutB cutD
  rw [h1]
  simp
theorem parse_dec (n : Nat) (h : n < 4294967296) : parseF (dec n) = (n, 0) := by
  unfold parseF
  rw [cut_noDot (noDot_of_dig (dec_all n)), digF_dec n h]
  simp; omega
theorem parse_dot (n : Nat) (h : n < 4294967296) : parseF (dotF n) = (n, 0) := by
  unfold dotF
  split
  · exact parse_dec n h
  · have he : dec (n / 65536) ++ [46] ++ dec (n % 65536) = dec (n / 65536) ++ 46 :: dec (n % 65536) := by simp
    obtain ⟨h1, h2, h3⟩ := cut_dot (b := dec (n % 65536)) (noDot_of_dig (dec_all (n / 65536)))
    unfold parseF
    rw [he, h1, h2, h3, digF_dec _ (by omega), digF_dec _ (by omega)]
    simp only [if_true]
    rw [if_neg (by omega), show n / 65536 * 65536 + n % 65536 = n by omega]
theorem parse_nought (n : Nat) : parseF ([48] ++ dec n) = (0, 5) := by
  have ha : ([48] ++ dec n).all isDig = true := by rw [List.all_append, dec_all]; rfl
  unfold parseF
  rw [cut_noDot (noDot_of_dig ha)]
  have : digF ([48] ++ dec n) = none := by
    unfold digF
    rw [if_neg]
    rintro ⟨_, _, _, hz⟩
    have := List.length_pos_iff.2 (dec_ne n)
    exact hz ⟨by simp; omega, rfl⟩
  rw [this]; simp
theorem parse_snd (l : List UInt8) : (parseF l).2 = 0 ∨ ((parseF l).1 = 0 ∧ ((parseF l).2 = 5 ∨ (parseF l).2 = 24)) := by
  unfold parseF
  split
  · split
    · split <;> simp
    · simp
  · split
    · split <;> simp
    · simp
theorem parse_lt (l : List UInt8) : (parseF l).1 < 4294967296 := by
  unfold parseF
  split
  · split
    · split
      · simp
      · simp; omega
    · simp
  · split
    · split
      · simp
      · simp; omega
    · simp
/-- What is read has its own text. -/
theorem parse_text {l : List UInt8} (h : (parseF l).2 = 0) : dec (parseF l).1 = l ∨ dotF (parseF l).1 = l ∨ (∃ b, l = [48, 46] ++ b ∧ dec (parseF l).1 = b) := by
  unfold parseF at h ⊢
  cases hD : cutD l with
  | false =>
    rw [hD] at h
    simp only [Bool.false_eq_true, if_false] at h ⊢
    cases hd : digF l with
    | none => rw [hd] at h; simp at h
    | some a =>
      rw [hd] at h
      simp only at h ⊢
      by_cases h1 : a > 4294967295
      · rw [if_pos h1] at h; simp at h
      · rw [if_neg h1]; exact .inl (dec_of_digF hd)
  | true =>
    rw [hD] at h
    simp only [if_true] at h ⊢
    have hl := cut_split hD
    cases ha : digF (cutA l) with
    | none => rw [ha] at h; simp at h
    | some a =>
      cases hb : digF (cutB l) with
      | none => rw [ha, hb] at h; simp at h
      | some b =>
        rw [ha, hb] at h
        simp only at h ⊢
        by_cases h1 : a > 65535 ∨ b > 65535
        · rw [if_pos h1] at h; simp at h
        · rw [if_neg h1]
          simp only
          have e1 := dec_of_digF ha
          have e2 := dec_of_digF hb
          by_cases h0 : a = 0
          · subst h0
            right; right
            refine ⟨cutB l, ?_, by rw [← e2]; congr 1; omega⟩
            have : cutA l = [48] := by rw [← e1]; rfl
            rw [this] at hl
            exact hl
          · right; left
            unfold dotF
            rw [if_neg (by omega), show (a * 65536 + b) / 65536 = a by omega, show (a * 65536 + b) % 65536 = b by omega, e1, e2]
            simpa using hl.symm
