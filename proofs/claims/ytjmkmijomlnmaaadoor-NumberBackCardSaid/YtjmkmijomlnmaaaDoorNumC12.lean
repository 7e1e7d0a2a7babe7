/- Part of a proof about a Go program: the abstract machine walks its code; no condition. -/
import Derived.Test.YtjmkmijomlnmaaaDoorNumC11
import Derived.Test.YtjmkmijomlnmaaaDoorNumP7
open Go Go.Am Go.Am.W Go.Proofs
set_option maxRecDepth 100000
section
variable (om : Nat → Nat) (n : Nat) (h : AHeap)
theorem or_add (a b : Nat) (ha : a < 65536) (hb : b < 65536) : awrap .u32 (awrap .u64 ((BitVec.toNat (BitVec.ofInt 64 (awrap .u64 ((a : Int) * 65536)) ||| BitVec.ofInt 64 (b : Int)) : Nat) : Int)) = ((a * 65536 + b : Nat) : Int) := by
  have e1 : awrap .u64 ((a : Int) * 65536) = ((a * 65536 : Nat) : Int) := by rw [awrap_u64 (by omega) (by omega)]; omega
  have e2 : BitVec.toNat (BitVec.ofInt 64 ((a * 65536 : Nat) : Int) ||| BitVec.ofInt 64 (b : Int)) = a * 65536 + b := by
    rw [BitVec.toNat_or, BitVec.toNat_ofInt, BitVec.toNat_ofInt]
    have f1 : (((a * 65536 : Nat) : Int) % ((2 ^ 64 : Nat) : Int)).toNat = a <<< 16 := by
      rw [show ((2 ^ 64 : Nat) : Int) = 18446744073709551616 by decide, Nat.shiftLeft_eq]; omega
    have f2 : ((b : Int) % ((2 ^ 64 : Nat) : Int)).toNat = b := by
      rw [show ((2 ^ 64 : Nat) : Int) = 18446744073709551616 by decide]; omega
    rw [f1, f2, ← Nat.shiftLeft_add_eq_or_of_lt (by simpa using hb), Nat.shiftLeft_eq]
  rw [e1, e2, awrap_u64 (by omega) (by omega), awrap_u32 (by omega) (by omega)]
def parseF (l : List UInt8) : Nat × Nat :=
  if cutD l = true then
    match digF (cutA l), digF (cutB l) with
    | some a, some b => if a > 65535 ∨ b > 65535 then (0, 24) else (a * 65536 + b, 0)
    | _, _ => (0, 5)
  else match digF l with
    | some a => if a > 4294967295 then (0, 24) else (a, 0)
    | none => (0, 5)
def parseV (x : Nat × Nat) : Value := .tuple #[.int .u32 (x.1 : Int), .int .i64 (x.2 : Int)]
theorem digF_lt {l : List UInt8} {v : Nat} (h : digF l = some v) : v < 10000000000 := by
  unfold digF at h
  split at h
  · rename_i hc
    injection h with h; subst h
    have := val_lt l hc.2.2.1
    have h2 := Nat.pow_le_pow_right (show 0 < 10 by decide) hc.2.1
    have h3 : (10 : Nat) ^ 10 = 10000000000 := by decide
    omega
  · cases h
theorem cutA_len (l : List UInt8) : (cutA l).length ≤ l.length := (cutA_pre l).length_le
theorem cutA_all {l : List UInt8} (hD : cutD l = false) : cutA l = l := by
  have h1 := cutA_len l
  have h2 := cutA_take l
  unfold cutD at hD
  have hD := of_decide_eq_false hD
  rw [List.take_of_length_le (by omega)] at h2
  exact h2.symm
theorem nparse_ok (l : List UInt8) (hl : l.length < 10000) : acall E2 om 10000 (n + 6) (.fn 7) [.string ⟨⟨l⟩⟩] h = some (parseV (parseF l), h) := by
  have hc := cut_ok om n h l hl
  have hA := digits_ok om (n + 3) h (cutA l) (by have := cutA_len l; omega)
  have hB := digits_ok om (n + 3) h (cutB l) (by unfold cutB; simp; omega)
  unfold digV at hA hB
  cases hD : cutD l with
  | true =>
    rw [hD] at hc
    simp only [if_true] at hc
    unfold parseF
    rw [if_pos hD]
    cases ha : digF (cutA l) with
    | none =>
      rw [ha] at hA
      exact nparse_5 om (n + 5) _ h _ _ _ _ _ _ _ hc hA rfl hB rfl
    | some a =>
      rw [ha] at hA
      have ha' := digF_lt ha
      cases hb : digF (cutB l) with
      | none =>
        rw [hb] at hB
        exact nparse_0 om (n + 5) _ h _ _ _ _ _ _ _ hc hA rfl hB rfl rfl
      | some b =>
        rw [hb] at hB
        have hb' := digF_lt hb
        simp only [Option.getD_some, Option.isSome_some] at hA hB
        simp only
        by_cases h1 : a > 65535
        · rw [if_pos (.inl h1)]
          exact nparse_4 om (n + 5) _ h _ _ _ _ _ _ _ hc hA rfl hB rfl rfl (decide_eq_true (by omega))
        · by_cases h2 : b > 65535
          · rw [if_pos (.inr h2)]
            exact nparse_3 om (n + 5) _ h _ _ _ _ _ _ _ hc hA rfl hB rfl rfl (decide_eq_false (by omega)) (decide_eq_true (by omega))
          · rw [if_neg (by omega)]
            have := nparse_2 om (n + 5) _ h _ _ _ _ _ _ _ hc hA rfl hB rfl rfl (decide_eq_false (by omega)) (decide_eq_false (by omega)) (decide_eq_false (by omega))
            rw [or_add a b (by omega) (by omega)] at this
            exact this
  | false =>
    rw [hD, cutA_all hD] at hc
    rw [cutA_all hD] at hA
    unfold parseF
    rw [if_neg (by rw [hD]; simp)]
    cases ha : digF l with
    | none =>
      rw [ha] at hA
      exact nparse_8 om (n + 5) _ h _ _ _ _ _ hc hA rfl rfl
    | some a =>
      rw [ha] at hA
      simp only [Option.getD_some, Option.isSome_some] at hA
      simp only
      have ha' := digF_lt ha
      by_cases h1 : a > 4294967295
      · rw [if_pos h1]
        exact nparse_6 om (n + 5) _ h _ _ _ _ _ hc hA rfl rfl (decide_eq_true (by omega))
      · rw [if_neg h1]
        have := nparse_7 om (n + 5) _ h _ _ _ _ _ hc hA rfl rfl (decide_eq_false (by omega))
        rw [awrap_u32 (by omega) (by omega)] at this
        exact this

/-! ### The document's -/
def rparseF (l : List UInt8) : Nat × Nat :=
  if (rowF l 0).2 = 0 then (0, 5) else
  if (rowF l 0).2 = l.length then (if (rowF l 0).1 > 4294967295 then (0, 24) else ((rowF l 0).1, 0)) else
  if l[(rowF l 0).2]? ≠ some 46 then (0, 5) else
  if (rowF l ((rowF l 0).2 + 1)).2 = 0 ∨ (rowF l 0).2 + 1 + (rowF l ((rowF l 0).2 + 1)).2 ≠ l.length then (0, 5) else
  if (rowF l 0).1 > 65535 ∨ (rowF l ((rowF l 0).2 + 1)).1 > 65535 then (0, 24) else ((rowF l 0).1 * 65536 + (rowF l ((rowF l 0).2 + 1)).1, 0)
theorem rowF_lt (l : List UInt8) (p : Nat) : (rowF l p).1 < 10000000000 ∧ (rowF l p).2 ≤ 10 := by
  unfold rowF
  split
  · simp
  · rename_i hc
    have h1 : (runF l p).length ≤ 10 := Nat.le_of_not_lt fun hh => hc (.inl hh)
    have := val_lt _ (run_all l p)
    have h2 := Nat.pow_le_pow_right (show 0 < 10 by decide) h1
    have h3 : (10 : Nat) ^ 10 = 10000000000 := by decide
    exact ⟨by simp only; omega, h1⟩
theorem rowF_le (l : List UInt8) (p : Nat) : (rowF l p).2 ≤ l.length - p := by
  unfold rowF
  split
  · simp
  · have := (run_pre l p).length_le; simpa using this
theorem rparse_ok (l : List UInt8) (hl : l.length < 10000) : acall E2 om 10000 (n + 2) (.fn 8) [.string ⟨⟨l⟩⟩] h = some (parseV (rparseF l), h) := by
  have hR := row_ok om n h l 0 (by omega) hl
  obtain ⟨b1, b2⟩ := rowF_lt l 0
  have b3 := rowF_le l 0
  unfold rowV at hR
  unfold rparseF
  generalize he : rowF l 0 = x at hR b1 b2 b3 ⊢
  obtain ⟨v, m⟩ := x
  simp only at hR b1 b2 b3 ⊢
  by_cases h0 : m = 0
  · rw [if_pos h0]; subst h0
    exact rparse_0 om (n + 1) _ h _ _ hR rfl
  rw [if_neg h0]
  have c0 : ((m : Int) == 0) = false := by simp; omega
  by_cases h1 : m = l.length
  · rw [if_pos h1]
    have c1 : ((m : Int) == ((ByteArray.mk ⟨l⟩).size : Int)) = true := by rw [bsz, h1]; simp
    by_cases h2 : v > 4294967295
    · rw [if_pos h2]; exact rparse_1 om (n + 1) _ h _ _ hR c0 c1 (decide_eq_true (by omega))
    · rw [if_neg h2]
      have := rparse_2 om (n + 1) _ h _ _ hR c0 c1 (decide_eq_false (by omega))
      rw [awrap_u32 (by omega) (by omega)] at this; exact this
  rw [if_neg h1]
  have c1 : ((m : Int) == ((ByteArray.mk ⟨l⟩).size : Int)) = false := by rw [bsz]; simp; omega
  have hlt : m < l.length := by omega
  have hx : pureE (aindex E2.P 9 (.string ⟨⟨l⟩⟩) (.int .i64 (m : Int))) = some (.int .u8 (l[m]).toNat, .id) := str_index (by kernel_rfl) (by omega) (by rw [Int.toNat_natCast]; exact List.getElem?_eq_getElem hlt)
  by_cases h2 : l[m] = 46
  · rw [if_neg (by rw [List.getElem?_eq_getElem hlt, h2]; simp)]
    have c4 : (((l[m]).toNat : Int) != 46) = false := by rw [h2]; decide
    have hR2 := row_ok om n h l (m + 1) (by omega) hl
    obtain ⟨d1, d2⟩ := rowF_lt l (m + 1)
    have d3 := rowF_le l (m + 1)
    unfold rowV at hR2
    generalize he2 : rowF l (m + 1) = y at hR2 d1 d2 d3 ⊢
    obtain ⟨w, k⟩ := y
    simp only at hR2 d1 d2 d3 ⊢
    have e1 : awrap .i64 ((m : Int) + 1) = ((m + 1 : Nat) : Int) := by rw [awrap_i64 (by omega) (by omega)]; omega
    have e2 : awrap .i64 (((m + 1 : Nat) : Int) + (k : Int)) = ((m + 1 + k : Nat) : Int) := by rw [awrap_i64 (by omega) (by omega)]; omega
    have hR2' : acall E2 om 10000 (n + 1) (.fn 22) [.string ⟨⟨l⟩⟩, .int .i64 (awrap .i64 ((m : Int) + 1))] h = some (.tuple #[.int .i64 (w : Int), .int .i64 (k : Int)], h) := by rw [e1]; exact hR2
    by_cases h3 : k = 0
    · rw [if_pos (.inl h3)]; subst h3
      exact rparse_8 om (n + 1) _ h _ _ _ _ _ hR c0 c1 hx c4 hR2' rfl
    have c6 : ((k : Int) == 0) = false := by simp; omega
    by_cases h4 : m + 1 + k = l.length
    · rw [if_neg (by omega)]
      have c14 : (awrap .i64 (awrap .i64 ((m : Int) + 1) + (k : Int)) != ((ByteArray.mk ⟨l⟩).size : Int)) = false := by rw [e1, e2, bsz, h4]; simp
      by_cases h5 : v > 65535
      · rw [if_pos (.inl h5)]; exact rparse_7 om (n + 1) _ h _ _ _ _ _ hR c0 c1 hx c4 hR2' c6 c14 (decide_eq_true (by omega))
      · by_cases h6 : w > 65535
        · rw [if_pos (.inr h6)]; exact rparse_5 om (n + 1) _ h _ _ _ _ _ hR c0 c1 hx c4 hR2' c6 c14 (decide_eq_false (by omega)) (decide_eq_true (by omega))
        · rw [if_neg (by omega)]
          have := rparse_6 om (n + 1) _ h _ _ _ _ _ hR c0 c1 hx c4 hR2' c6 c14 (decide_eq_false (by omega)) (decide_eq_false (by omega))
          have e3 : awrap .u32 (awrap .i64 (awrap .i64 (65536 * (v : Int)) + (w : Int))) = ((v * 65536 + w : Nat) : Int) := by
            rw [awrap_i64 (n := 65536 * (v : Int)) (by omega) (by omega), awrap_i64 (by omega) (by omega), awrap_u32 (by omega) (by omega)]; omega
          rw [e3] at this; exact this
    · rw [if_pos (.inr h4)]
      have c14 : (awrap .i64 (awrap .i64 ((m : Int) + 1) + (k : Int)) != ((ByteArray.mk ⟨l⟩).size : Int)) = true := by rw [e1, e2, bsz]; simp; omega
      exact rparse_4 om (n + 1) _ h _ _ _ _ _ hR c0 c1 hx c4 hR2' c6 c14
  · rw [if_pos (by rw [List.getElem?_eq_getElem hlt]; simpa using h2)]
    have c4 : (((l[m]).toNat : Int) != 46) = true := by
      have : l[m].toNat ≠ 46 := fun hq => h2 (by rw [← UInt8.toNat_inj]; exact hq)
      simp; omega
    exact rparse_3 om (n + 1) _ h _ _ _ hR c0 c1 hx c4
end
