/- Part of a proof about a Go program: the abstract machine walks its code; no condition. -/
import Derived.Test.YtjmkmijomlnmaaaDoorNumC5
open Go Go.Am Go.Am.W Go.Proofs
set_option maxRecDepth 100000
theorem ifmt3_ok (om : Nat → Nat) (n u : Nat) (h1 : 100 ≤ u) (h2 : u < 1000) (h3 : u < 4294967296) (hd : ∀ h own, AHeap.get h 2 = some (.cells pow10s 0 own) → acall E1 om 10000 (n + 1) (.fn 40) [.int .u64 u] h = some (.int .i64 3, h)) : ∃ h', acall E1 om 10000 (n + 2) (.fn 28) [.int .u64 u, .int .i64 10] hNum = some (.string ⟨⟨dec u⟩⟩, h') := by
  have hdec : dec u = [dig (u / 100), dig (u / 10), dig (u / 1)] := by
    unfold dec
    rw [decF_step _ _ (by omega), decF_step _ _ (by omega), decF_last _ _ (by omega)]
    simp only [Nat.div_div_eq_div_mul, Nat.div_one]; rfl
  have e := ifmt3_0 om n u ((dig (u / 1)).toNat : Int) ((dig (u / 10)).toNat : Int) (by simp; omega) (hd _ false rfl)
      (sm1 _ (u / 1 % 100) (u / 1) (by omega) ((show _ = ((((((((u % 4294967296) % 100) * 2) % 4294967296) + 1) % 4294967296) : Nat) : Int) by kernel_rfl).trans (congrArg _ (by omega))) (by omega))
      (sm0 _ (u / 1 % 100) (u / 10) (by omega) ((show _ = ((((((u % 4294967296) % 100) * 2) % 4294967296) : Nat) : Int) by kernel_rfl).trans (congrArg _ (by omega))) (by omega))
  refine fin_str e ?_
  rw [hdec]
  have l := last_dig ((awrap IntKind.u32 (48 + awrap IntKind.u32 (Int.tdiv (awrap IntKind.u32 (u : Int)) 100)))) (u / 100) (u / 100) ((show _ = ((((48 + (((u % 4294967296) / 100) % 4294967296)) % 4294967296) : Nat) : Int) by kernel_rfl).trans (congrArg _ (by omega))) (by omega) (by omega)
  simp only [ofNat_dig, l]
theorem ifmt4_ok (om : Nat → Nat) (n u : Nat) (h1 : 1000 ≤ u) (h2 : u < 10000) (h3 : u < 4294967296) (hd : ∀ h own, AHeap.get h 2 = some (.cells pow10s 0 own) → acall E1 om 10000 (n + 1) (.fn 40) [.int .u64 u] h = some (.int .i64 4, h)) : ∃ h', acall E1 om 10000 (n + 2) (.fn 28) [.int .u64 u, .int .i64 10] hNum = some (.string ⟨⟨dec u⟩⟩, h') := by
  have hdec : dec u = [dig (u / 1000), dig (u / 100), dig (u / 10), dig (u / 1)] := by
    unfold dec
    rw [decF_step _ _ (by omega), decF_step _ _ (by omega), decF_step _ _ (by omega), decF_last _ _ (by omega)]
    simp only [Nat.div_div_eq_div_mul, Nat.div_one]; rfl
  have e := ifmt4_0 om n u ((dig (u / 1)).toNat : Int) ((dig (u / 10)).toNat : Int) ((dig (u / 100)).toNat : Int) ((dig (u / 1000)).toNat : Int) (by simp; omega) (hd _ false rfl)
      (sm1 _ (u / 1 % 100) (u / 1) (by omega) ((show _ = (((((((((u % 4294967296) % 10000) % 100) * 2) % 4294967296) + 1) % 4294967296) : Nat) : Int) by kernel_rfl).trans (congrArg _ (by omega))) (by omega))
      (sm0 _ (u / 1 % 100) (u / 10) (by omega) ((show _ = (((((((u % 4294967296) % 10000) % 100) * 2) % 4294967296) : Nat) : Int) by kernel_rfl).trans (congrArg _ (by omega))) (by omega))
      (sm1 _ (u / 100 % 100) (u / 100) (by omega) ((show _ = ((((((((((u % 4294967296) % 10000) / 100) % 4294967296) * 2) % 4294967296) + 1) % 4294967296) : Nat) : Int) by kernel_rfl).trans (congrArg _ (by omega))) (by omega))
      (sm0 _ (u / 100 % 100) (u / 1000) (by omega) ((show _ = ((((((((u % 4294967296) % 10000) / 100) % 4294967296) * 2) % 4294967296) : Nat) : Int) by kernel_rfl).trans (congrArg _ (by omega))) (by omega))
  refine fin_str e ?_
  rw [hdec]
  simp only [ofNat_dig]
theorem ifmt5_ok (om : Nat → Nat) (n u : Nat) (h1 : 10000 ≤ u) (h2 : u < 100000) (h3 : u < 4294967296) (hd : ∀ h own, AHeap.get h 2 = some (.cells pow10s 0 own) → acall E1 om 10000 (n + 1) (.fn 40) [.int .u64 u] h = some (.int .i64 5, h)) : ∃ h', acall E1 om 10000 (n + 2) (.fn 28) [.int .u64 u, .int .i64 10] hNum = some (.string ⟨⟨dec u⟩⟩, h') := by
  have hdec : dec u = [dig (u / 10000), dig (u / 1000), dig (u / 100), dig (u / 10), dig (u / 1)] := by
    unfold dec
    rw [decF_step _ _ (by omega), decF_step _ _ (by omega), decF_step _ _ (by omega), decF_step _ _ (by omega), decF_last _ _ (by omega)]
    simp only [Nat.div_div_eq_div_mul, Nat.div_one]; rfl
  have e := ifmt5_0 om n u ((dig (u / 1)).toNat : Int) ((dig (u / 10)).toNat : Int) ((dig (u / 100)).toNat : Int) ((dig (u / 1000)).toNat : Int) (by simp; omega) (hd _ false rfl)
      (sm1 _ (u / 1 % 100) (u / 1) (by omega) ((show _ = (((((((((u % 4294967296) % 10000) % 100) * 2) % 4294967296) + 1) % 4294967296) : Nat) : Int) by kernel_rfl).trans (congrArg _ (by omega))) (by omega))
      (sm0 _ (u / 1 % 100) (u / 10) (by omega) ((show _ = (((((((u % 4294967296) % 10000) % 100) * 2) % 4294967296) : Nat) : Int) by kernel_rfl).trans (congrArg _ (by omega))) (by omega))
      (sm1 _ (u / 100 % 100) (u / 100) (by omega) ((show _ = ((((((((((u % 4294967296) % 10000) / 100) % 4294967296) * 2) % 4294967296) + 1) % 4294967296) : Nat) : Int) by kernel_rfl).trans (congrArg _ (by omega))) (by omega))
      (sm0 _ (u / 100 % 100) (u / 1000) (by omega) ((show _ = ((((((((u % 4294967296) % 10000) / 100) % 4294967296) * 2) % 4294967296) : Nat) : Int) by kernel_rfl).trans (congrArg _ (by omega))) (by omega))
  refine fin_str e ?_
  rw [hdec]
  have l := last_dig ((awrap IntKind.u32 (48 + awrap IntKind.u32 (Int.tdiv (awrap IntKind.u32 (u : Int)) 10000)))) (u / 10000) (u / 10000) ((show _ = ((((48 + (((u % 4294967296) / 10000) % 4294967296)) % 4294967296) : Nat) : Int) by kernel_rfl).trans (congrArg _ (by omega))) (by omega) (by omega)
  simp only [ofNat_dig, l]
theorem ifmt6_ok (om : Nat → Nat) (n u : Nat) (h1 : 100000 ≤ u) (h2 : u < 1000000) (h3 : u < 4294967296) (hd : ∀ h own, AHeap.get h 2 = some (.cells pow10s 0 own) → acall E1 om 10000 (n + 1) (.fn 40) [.int .u64 u] h = some (.int .i64 6, h)) : ∃ h', acall E1 om 10000 (n + 2) (.fn 28) [.int .u64 u, .int .i64 10] hNum = some (.string ⟨⟨dec u⟩⟩, h') := by
  have hdec : dec u = [dig (u / 100000), dig (u / 10000), dig (u / 1000), dig (u / 100), dig (u / 10), dig (u / 1)] := by
    unfold dec
    rw [decF_step _ _ (by omega), decF_step _ _ (by omega), decF_step _ _ (by omega), decF_step _ _ (by omega), decF_step _ _ (by omega), decF_last _ _ (by omega)]
    simp only [Nat.div_div_eq_div_mul, Nat.div_one]; rfl
  have e := ifmt6_0 om n u ((dig (u / 1)).toNat : Int) ((dig (u / 10)).toNat : Int) ((dig (u / 100)).toNat : Int) ((dig (u / 1000)).toNat : Int) ((dig (u / 10000)).toNat : Int) ((dig (u / 100000)).toNat : Int) (by simp; omega) (hd _ false rfl)
      (sm1 _ (u / 1 % 100) (u / 1) (by omega) ((show _ = (((((((((u % 4294967296) % 10000) % 100) * 2) % 4294967296) + 1) % 4294967296) : Nat) : Int) by kernel_rfl).trans (congrArg _ (by omega))) (by omega))
      (sm0 _ (u / 1 % 100) (u / 10) (by omega) ((show _ = (((((((u % 4294967296) % 10000) % 100) * 2) % 4294967296) : Nat) : Int) by kernel_rfl).trans (congrArg _ (by omega))) (by omega))
      (sm1 _ (u / 100 % 100) (u / 100) (by omega) ((show _ = ((((((((((u % 4294967296) % 10000) / 100) % 4294967296) * 2) % 4294967296) + 1) % 4294967296) : Nat) : Int) by kernel_rfl).trans (congrArg _ (by omega))) (by omega))
      (sm0 _ (u / 100 % 100) (u / 1000) (by omega) ((show _ = ((((((((u % 4294967296) % 10000) / 100) % 4294967296) * 2) % 4294967296) : Nat) : Int) by kernel_rfl).trans (congrArg _ (by omega))) (by omega))
      (sm1 _ (u / 10000 % 100) (u / 10000) (by omega) ((show _ = ((((((((((u % 4294967296) / 10000) % 4294967296) % 100) * 2) % 4294967296) + 1) % 4294967296) : Nat) : Int) by kernel_rfl).trans (congrArg _ (by omega))) (by omega))
      (sm0 _ (u / 10000 % 100) (u / 100000) (by omega) ((show _ = ((((((((u % 4294967296) / 10000) % 4294967296) % 100) * 2) % 4294967296) : Nat) : Int) by kernel_rfl).trans (congrArg _ (by omega))) (by omega))
  refine fin_str e ?_
  rw [hdec]
  simp only [ofNat_dig]
theorem ifmt7_ok (om : Nat → Nat) (n u : Nat) (h1 : 1000000 ≤ u) (h2 : u < 10000000) (h3 : u < 4294967296) (hd : ∀ h own, AHeap.get h 2 = some (.cells pow10s 0 own) → acall E1 om 10000 (n + 1) (.fn 40) [.int .u64 u] h = some (.int .i64 7, h)) : ∃ h', acall E1 om 10000 (n + 2) (.fn 28) [.int .u64 u, .int .i64 10] hNum = some (.string ⟨⟨dec u⟩⟩, h') := by
  have hdec : dec u = [dig (u / 1000000), dig (u / 100000), dig (u / 10000), dig (u / 1000), dig (u / 100), dig (u / 10), dig (u / 1)] := by
    unfold dec
    rw [decF_step _ _ (by omega), decF_step _ _ (by omega), decF_step _ _ (by omega), decF_step _ _ (by omega), decF_step _ _ (by omega), decF_step _ _ (by omega), decF_last _ _ (by omega)]
    simp only [Nat.div_div_eq_div_mul, Nat.div_one]; rfl
  have e := ifmt7_0 om n u ((dig (u / 1)).toNat : Int) ((dig (u / 10)).toNat : Int) ((dig (u / 100)).toNat : Int) ((dig (u / 1000)).toNat : Int) ((dig (u / 10000)).toNat : Int) ((dig (u / 100000)).toNat : Int) (by simp; omega) (hd _ false rfl)
      (sm1 _ (u / 1 % 100) (u / 1) (by omega) ((show _ = (((((((((u % 4294967296) % 10000) % 100) * 2) % 4294967296) + 1) % 4294967296) : Nat) : Int) by kernel_rfl).trans (congrArg _ (by omega))) (by omega))
      (sm0 _ (u / 1 % 100) (u / 10) (by omega) ((show _ = (((((((u % 4294967296) % 10000) % 100) * 2) % 4294967296) : Nat) : Int) by kernel_rfl).trans (congrArg _ (by omega))) (by omega))
      (sm1 _ (u / 100 % 100) (u / 100) (by omega) ((show _ = ((((((((((u % 4294967296) % 10000) / 100) % 4294967296) * 2) % 4294967296) + 1) % 4294967296) : Nat) : Int) by kernel_rfl).trans (congrArg _ (by omega))) (by omega))
      (sm0 _ (u / 100 % 100) (u / 1000) (by omega) ((show _ = ((((((((u % 4294967296) % 10000) / 100) % 4294967296) * 2) % 4294967296) : Nat) : Int) by kernel_rfl).trans (congrArg _ (by omega))) (by omega))
      (sm1 _ (u / 10000 % 100) (u / 10000) (by omega) ((show _ = ((((((((((u % 4294967296) / 10000) % 4294967296) % 100) * 2) % 4294967296) + 1) % 4294967296) : Nat) : Int) by kernel_rfl).trans (congrArg _ (by omega))) (by omega))
      (sm0 _ (u / 10000 % 100) (u / 100000) (by omega) ((show _ = ((((((((u % 4294967296) / 10000) % 4294967296) % 100) * 2) % 4294967296) : Nat) : Int) by kernel_rfl).trans (congrArg _ (by omega))) (by omega))
  refine fin_str e ?_
  rw [hdec]
  have l := last_dig ((awrap IntKind.u32 (48 + awrap IntKind.u32 (Int.tdiv (awrap IntKind.u32 (Int.tdiv (awrap IntKind.u32 (u : Int)) 10000)) 100)))) (u / 1000000) (u / 1000000) ((show _ = ((((48 + (((((u % 4294967296) / 10000) % 4294967296) / 100) % 4294967296)) % 4294967296) : Nat) : Int) by kernel_rfl).trans (congrArg _ (by omega))) (by omega) (by omega)
  simp only [ofNat_dig, l]
theorem ifmt8_ok (om : Nat → Nat) (n u : Nat) (h1 : 10000000 ≤ u) (h2 : u < 100000000) (h3 : u < 4294967296) (hd : ∀ h own, AHeap.get h 2 = some (.cells pow10s 0 own) → acall E1 om 10000 (n + 1) (.fn 40) [.int .u64 u] h = some (.int .i64 8, h)) : ∃ h', acall E1 om 10000 (n + 2) (.fn 28) [.int .u64 u, .int .i64 10] hNum = some (.string ⟨⟨dec u⟩⟩, h') := by
  have hdec : dec u = [dig (u / 10000000), dig (u / 1000000), dig (u / 100000), dig (u / 10000), dig (u / 1000), dig (u / 100), dig (u / 10), dig (u / 1)] := by
    unfold dec
    rw [decF_step _ _ (by omega), decF_step _ _ (by omega), decF_step _ _ (by omega), decF_step _ _ (by omega), decF_step _ _ (by omega), decF_step _ _ (by omega), decF_step _ _ (by omega), decF_last _ _ (by omega)]
    simp only [Nat.div_div_eq_div_mul, Nat.div_one]; rfl
  have e := ifmt8_0 om n u ((dig (u / 1)).toNat : Int) ((dig (u / 10)).toNat : Int) ((dig (u / 100)).toNat : Int) ((dig (u / 1000)).toNat : Int) ((dig (u / 10000)).toNat : Int) ((dig (u / 100000)).toNat : Int) ((dig (u / 1000000)).toNat : Int) ((dig (u / 10000000)).toNat : Int) (by simp; omega) (hd _ false rfl)
      (sm1 _ (u / 1 % 100) (u / 1) (by omega) ((show _ = ((((((((((u % 100000000) % 4294967296) % 10000) % 100) * 2) % 4294967296) + 1) % 4294967296) : Nat) : Int) by kernel_rfl).trans (congrArg _ (by omega))) (by omega))
      (sm0 _ (u / 1 % 100) (u / 10) (by omega) ((show _ = ((((((((u % 100000000) % 4294967296) % 10000) % 100) * 2) % 4294967296) : Nat) : Int) by kernel_rfl).trans (congrArg _ (by omega))) (by omega))
      (sm1 _ (u / 100 % 100) (u / 100) (by omega) ((show _ = (((((((((((u % 100000000) % 4294967296) % 10000) / 100) % 4294967296) * 2) % 4294967296) + 1) % 4294967296) : Nat) : Int) by kernel_rfl).trans (congrArg _ (by omega))) (by omega))
      (sm0 _ (u / 100 % 100) (u / 1000) (by omega) ((show _ = (((((((((u % 100000000) % 4294967296) % 10000) / 100) % 4294967296) * 2) % 4294967296) : Nat) : Int) by kernel_rfl).trans (congrArg _ (by omega))) (by omega))
      (sm1 _ (u / 10000 % 100) (u / 10000) (by omega) ((show _ = (((((((((((u % 100000000) % 4294967296) / 10000) % 4294967296) % 100) * 2) % 4294967296) + 1) % 4294967296) : Nat) : Int) by kernel_rfl).trans (congrArg _ (by omega))) (by omega))
      (sm0 _ (u / 10000 % 100) (u / 100000) (by omega) ((show _ = (((((((((u % 100000000) % 4294967296) / 10000) % 4294967296) % 100) * 2) % 4294967296) : Nat) : Int) by kernel_rfl).trans (congrArg _ (by omega))) (by omega))
      (sm1 _ (u / 1000000 % 100) (u / 1000000) (by omega) ((show _ = ((((((((((((u % 100000000) % 4294967296) / 10000) % 4294967296) / 100) % 4294967296) * 2) % 4294967296) + 1) % 4294967296) : Nat) : Int) by kernel_rfl).trans (congrArg _ (by omega))) (by omega))
      (sm0 _ (u / 1000000 % 100) (u / 10000000) (by omega) ((show _ = ((((((((((u % 100000000) % 4294967296) / 10000) % 4294967296) / 100) % 4294967296) * 2) % 4294967296) : Nat) : Int) by kernel_rfl).trans (congrArg _ (by omega))) (by omega))
  refine fin_str e ?_
  rw [hdec]
  simp only [ofNat_dig]
theorem ifmt9_ok (om : Nat → Nat) (n u : Nat) (h1 : 100000000 ≤ u) (h2 : u < 1000000000) (h3 : u < 4294967296) (hd : ∀ h own, AHeap.get h 2 = some (.cells pow10s 0 own) → acall E1 om 10000 (n + 1) (.fn 40) [.int .u64 u] h = some (.int .i64 9, h)) : ∃ h', acall E1 om 10000 (n + 2) (.fn 28) [.int .u64 u, .int .i64 10] hNum = some (.string ⟨⟨dec u⟩⟩, h') := by
  have hdec : dec u = [dig (u / 100000000), dig (u / 10000000), dig (u / 1000000), dig (u / 100000), dig (u / 10000), dig (u / 1000), dig (u / 100), dig (u / 10), dig (u / 1)] := by
    unfold dec
    rw [decF_step _ _ (by omega), decF_step _ _ (by omega), decF_step _ _ (by omega), decF_step _ _ (by omega), decF_step _ _ (by omega), decF_step _ _ (by omega), decF_step _ _ (by omega), decF_step _ _ (by omega), decF_last _ _ (by omega)]
    simp only [Nat.div_div_eq_div_mul, Nat.div_one]; rfl
  have e := ifmt9_0 om n u ((dig (u / 1)).toNat : Int) ((dig (u / 10)).toNat : Int) ((dig (u / 100)).toNat : Int) ((dig (u / 1000)).toNat : Int) ((dig (u / 10000)).toNat : Int) ((dig (u / 100000)).toNat : Int) ((dig (u / 1000000)).toNat : Int) ((dig (u / 10000000)).toNat : Int) (by simp; omega) (hd _ false rfl)
      (sm1 _ (u / 1 % 100) (u / 1) (by omega) ((show _ = ((((((((((u % 100000000) % 4294967296) % 10000) % 100) * 2) % 4294967296) + 1) % 4294967296) : Nat) : Int) by kernel_rfl).trans (congrArg _ (by omega))) (by omega))
      (sm0 _ (u / 1 % 100) (u / 10) (by omega) ((show _ = ((((((((u % 100000000) % 4294967296) % 10000) % 100) * 2) % 4294967296) : Nat) : Int) by kernel_rfl).trans (congrArg _ (by omega))) (by omega))
      (sm1 _ (u / 100 % 100) (u / 100) (by omega) ((show _ = (((((((((((u % 100000000) % 4294967296) % 10000) / 100) % 4294967296) * 2) % 4294967296) + 1) % 4294967296) : Nat) : Int) by kernel_rfl).trans (congrArg _ (by omega))) (by omega))
      (sm0 _ (u / 100 % 100) (u / 1000) (by omega) ((show _ = (((((((((u % 100000000) % 4294967296) % 10000) / 100) % 4294967296) * 2) % 4294967296) : Nat) : Int) by kernel_rfl).trans (congrArg _ (by omega))) (by omega))
      (sm1 _ (u / 10000 % 100) (u / 10000) (by omega) ((show _ = (((((((((((u % 100000000) % 4294967296) / 10000) % 4294967296) % 100) * 2) % 4294967296) + 1) % 4294967296) : Nat) : Int) by kernel_rfl).trans (congrArg _ (by omega))) (by omega))
      (sm0 _ (u / 10000 % 100) (u / 100000) (by omega) ((show _ = (((((((((u % 100000000) % 4294967296) / 10000) % 4294967296) % 100) * 2) % 4294967296) : Nat) : Int) by kernel_rfl).trans (congrArg _ (by omega))) (by omega))
      (sm1 _ (u / 1000000 % 100) (u / 1000000) (by omega) ((show _ = ((((((((((((u % 100000000) % 4294967296) / 10000) % 4294967296) / 100) % 4294967296) * 2) % 4294967296) + 1) % 4294967296) : Nat) : Int) by kernel_rfl).trans (congrArg _ (by omega))) (by omega))
      (sm0 _ (u / 1000000 % 100) (u / 10000000) (by omega) ((show _ = ((((((((((u % 100000000) % 4294967296) / 10000) % 4294967296) / 100) % 4294967296) * 2) % 4294967296) : Nat) : Int) by kernel_rfl).trans (congrArg _ (by omega))) (by omega))
  refine fin_str e ?_
  rw [hdec]
  have l := last_dig ((awrap IntKind.u32 (48 + awrap IntKind.u32 (awrap IntKind.u64 (Int.tdiv (u : Int) 100000000))))) (u / 100000000) (u / 100000000) ((show _ = ((((48 + (((u / 100000000) % 18446744073709551616) % 4294967296)) % 4294967296) : Nat) : Int) by kernel_rfl).trans (congrArg _ (by omega))) (by omega) (by omega)
  simp only [ofNat_dig, l]
theorem ifmt10_ok (om : Nat → Nat) (n u : Nat) (h1 : 1000000000 ≤ u) (h2 : u < 10000000000) (h3 : u < 4294967296) (hd : ∀ h own, AHeap.get h 2 = some (.cells pow10s 0 own) → acall E1 om 10000 (n + 1) (.fn 40) [.int .u64 u] h = some (.int .i64 10, h)) : ∃ h', acall E1 om 10000 (n + 2) (.fn 28) [.int .u64 u, .int .i64 10] hNum = some (.string ⟨⟨dec u⟩⟩, h') := by
  have hdec : dec u = [dig (u / 1000000000), dig (u / 100000000), dig (u / 10000000), dig (u / 1000000), dig (u / 100000), dig (u / 10000), dig (u / 1000), dig (u / 100), dig (u / 10), dig (u / 1)] := by
    unfold dec
    rw [decF_step _ _ (by omega), decF_step _ _ (by omega), decF_step _ _ (by omega), decF_step _ _ (by omega), decF_step _ _ (by omega), decF_step _ _ (by omega), decF_step _ _ (by omega), decF_step _ _ (by omega), decF_step _ _ (by omega), decF_last _ _ (by omega)]
    simp only [Nat.div_div_eq_div_mul, Nat.div_one]; rfl
  have e := ifmt10_0 om n u ((dig (u / 1)).toNat : Int) ((dig (u / 10)).toNat : Int) ((dig (u / 100)).toNat : Int) ((dig (u / 1000)).toNat : Int) ((dig (u / 10000)).toNat : Int) ((dig (u / 100000)).toNat : Int) ((dig (u / 1000000)).toNat : Int) ((dig (u / 10000000)).toNat : Int) ((dig (u / 100000000)).toNat : Int) ((dig (u / 1000000000)).toNat : Int) (by simp; omega) (hd _ false rfl)
      (sm1 _ (u / 1 % 100) (u / 1) (by omega) ((show _ = ((((((((((u % 100000000) % 4294967296) % 10000) % 100) * 2) % 4294967296) + 1) % 4294967296) : Nat) : Int) by kernel_rfl).trans (congrArg _ (by omega))) (by omega))
      (sm0 _ (u / 1 % 100) (u / 10) (by omega) ((show _ = ((((((((u % 100000000) % 4294967296) % 10000) % 100) * 2) % 4294967296) : Nat) : Int) by kernel_rfl).trans (congrArg _ (by omega))) (by omega))
      (sm1 _ (u / 100 % 100) (u / 100) (by omega) ((show _ = (((((((((((u % 100000000) % 4294967296) % 10000) / 100) % 4294967296) * 2) % 4294967296) + 1) % 4294967296) : Nat) : Int) by kernel_rfl).trans (congrArg _ (by omega))) (by omega))
      (sm0 _ (u / 100 % 100) (u / 1000) (by omega) ((show _ = (((((((((u % 100000000) % 4294967296) % 10000) / 100) % 4294967296) * 2) % 4294967296) : Nat) : Int) by kernel_rfl).trans (congrArg _ (by omega))) (by omega))
      (sm1 _ (u / 10000 % 100) (u / 10000) (by omega) ((show _ = (((((((((((u % 100000000) % 4294967296) / 10000) % 4294967296) % 100) * 2) % 4294967296) + 1) % 4294967296) : Nat) : Int) by kernel_rfl).trans (congrArg _ (by omega))) (by omega))
      (sm0 _ (u / 10000 % 100) (u / 100000) (by omega) ((show _ = (((((((((u % 100000000) % 4294967296) / 10000) % 4294967296) % 100) * 2) % 4294967296) : Nat) : Int) by kernel_rfl).trans (congrArg _ (by omega))) (by omega))
      (sm1 _ (u / 1000000 % 100) (u / 1000000) (by omega) ((show _ = ((((((((((((u % 100000000) % 4294967296) / 10000) % 4294967296) / 100) % 4294967296) * 2) % 4294967296) + 1) % 4294967296) : Nat) : Int) by kernel_rfl).trans (congrArg _ (by omega))) (by omega))
      (sm0 _ (u / 1000000 % 100) (u / 10000000) (by omega) ((show _ = ((((((((((u % 100000000) % 4294967296) / 10000) % 4294967296) / 100) % 4294967296) * 2) % 4294967296) : Nat) : Int) by kernel_rfl).trans (congrArg _ (by omega))) (by omega))
      (sm1 _ (u / 100000000 % 100) (u / 100000000) (by omega) ((show _ = ((((((((((u / 100000000) % 18446744073709551616) % 4294967296) % 100) * 2) % 4294967296) + 1) % 4294967296) : Nat) : Int) by kernel_rfl).trans (congrArg _ (by omega))) (by omega))
      (sm0 _ (u / 100000000 % 100) (u / 1000000000) (by omega) ((show _ = ((((((((u / 100000000) % 18446744073709551616) % 4294967296) % 100) * 2) % 4294967296) : Nat) : Int) by kernel_rfl).trans (congrArg _ (by omega))) (by omega))
  refine fin_str e ?_
  rw [hdec]
  simp only [ofNat_dig]
