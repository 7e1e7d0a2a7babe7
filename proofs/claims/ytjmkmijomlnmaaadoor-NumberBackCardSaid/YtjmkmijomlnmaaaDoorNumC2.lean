/- Part of a proof about a Go program: the abstract machine walks its code; no condition. -/
import Derived.Test.YtjmkmijomlnmaaaDoorNumP2
import Derived.Test.YtjmkmijomlnmaaaDoorNumC1
open Go Go.Am Go.Am.W Go.Proofs
set_option maxRecDepth 100000
/-! ### The value of a row of digits -/
def val (l : List UInt8) : Nat := l.foldl (fun a d => 10 * a + (d.toNat - 48)) 0
theorem val_snoc (l : List UInt8) (d : UInt8) : val (l ++ [d]) = 10 * val l + (d.toNat - 48) := by simp [val]
theorem isDig_iff {d : UInt8} : isDig d = true ↔ 48 ≤ d.toNat ∧ d.toNat ≤ 57 := by simp [isDig]
theorem val_fold_lt (l : List UInt8) (h : l.all isDig = true) : ∀ a, l.foldl (fun a d => 10 * a + (d.toNat - 48)) a < (a + 1) * 10 ^ l.length := by
  induction l with
  | nil => intro a; simp
  | cons d l ih =>
    intro a
    simp only [List.all_cons, Bool.and_eq_true] at h
    have hd := isDig_iff.1 h.1
    have := ih h.2 (10 * a + (d.toNat - 48))
    simp only [List.foldl_cons, List.length_cons, Nat.pow_succ]
    refine Nat.lt_of_lt_of_le this ?_
    have h2 : 10 * a + (d.toNat - 48) + 1 ≤ (a + 1) * 10 := by omega
    calc (10 * a + (d.toNat - 48) + 1) * 10 ^ l.length ≤ ((a + 1) * 10) * 10 ^ l.length := Nat.mul_le_mul_right _ h2
      _ = (a + 1) * (10 ^ l.length * 10) := by rw [Nat.mul_assoc, Nat.mul_comm 10]
theorem val_lt (l : List UInt8) (h : l.all isDig = true) : val l < 10 ^ l.length := by
  have := val_fold_lt l h 0
  simpa [val] using this
theorem all_take {l : List UInt8} (h : l.all isDig = true) (i : Nat) : (l.take i).all isDig = true := by
  rw [List.all_eq_true] at h ⊢
  exact fun x hx => h x (List.mem_of_mem_take hx)
theorem pow_le_19 {i : Nat} (h : i ≤ 19) : 10 ^ i ≤ 10000000000000000000 := by
  have := Nat.pow_le_pow_right (show 0 < 10 by decide) h
  exact this

theorem iparse_ok (om : Nat → Nat) (n : Nat) (l : List UInt8) (h : AHeap) (hne : l ≠ []) (hd : l.all isDig = true) (hl : l.length ≤ 19) :
    ∃ h', acall E1 om 10000 (n + 1) (.fn 37) [.string ⟨⟨l⟩⟩, .int .i64 10, .int .i64 64] h = some (.tuple #[.int .u64 (val l : Nat), .nilIface], h') := by
  have hget : (h.push (.cells (bytesV l) 1 true)).get h.size = some (.cells (bytesV l) 1 true) := gpush_new _ _
  obtain ⟨tm, hS, rest⟩ := iparse_2 om n ⟨⟨l⟩⟩ h (.slice (some ⟨h.size, 0, none⟩) l.length 1) (h.push (.cells (bytesV l) 1 true)) l.length (by rw [eqBytes_mk]; simpa using hne) (str_bytes (e := 5) (by kernel_rfl) (by kernel_rfl) (by kernel_rfl) (by kernel_rfl) (by omega)) (len_slice (e := 5) (by kernel_rfl))
  refine (fun ⟨tm', e, x⟩ => ⟨_, rest ⟨⟨l⟩⟩ false (val l : Nat) tm' e x rfl⟩) (loop_q (body := iparse_L0_B om n) (e0 := .exit 3) (k := 10000) (m := l.length) (tm := tm) (h := h.push (.cells (bytesV l) 1 true)) (fun m tm => ∃ i, i ≤ l.length ∧ m = l.length - i ∧ iparse_L0_S ⟨⟨l⟩⟩ false (val (l.take i) : Nat) (.slice (some ⟨h.size, 0, none⟩) l.length 1) l.length i tm) (fun tm => iparse_L0_X3 ⟨⟨l⟩⟩ false (val l : Nat) tm) (by simp) (fun m tm hI => ?_) (by omega) ⟨0, by omega, rfl, hS⟩)
  · 
    obtain ⟨i, hi, rfl, hS⟩ := hI
    by_cases hlt : i < l.length
    · have hdi : isDig l[i] = true := (List.all_eq_true.1 hd) _ (List.getElem_mem hlt)
      have hdb := isDig_iff.1 hdi
      have hv := val_lt _ (all_take hd i)
      have hlen : (l.take i).length = i := by simp; omega
      rw [hlen] at hv
      have hp : 10 ^ i ≤ 10 ^ 18 := Nat.pow_le_pow_right (by decide) (by omega)
      have hp' : (10 : Nat) ^ 18 = 1000000000000000000 := by decide
      have e0 : awrap .u8 (((l[i]).toNat : Int) - 48) = ((l[i].toNat - 48 : Nat) : Int) := by
        rw [awrap_u8 (by omega) (by omega)]; omega
      have e1 : awrap .u64 (((val (l.take i) : Nat) : Int) * 10) = ((val (l.take i) * 10 : Nat) : Int) := by
        rw [awrap_u64 (by omega) (by omega)]; omega
      have e2 : awrap .u64 ((l[i].toNat - 48 : Nat) : Int) = ((l[i].toNat - 48 : Nat) : Int) := awrap_u64 (by omega) (by omega)
      have e3 : awrap .u64 (((val (l.take i) * 10 : Nat) : Int) + ((l[i].toNat - 48 : Nat) : Int)) = ((val (l.take (i + 1)) : Nat) : Int) := by
        rw [List.take_add_one, List.getElem?_eq_getElem hlt, Option.toList_some, val_snoc, awrap_u64 (by omega) (by omega)]; omega
      have hv1 : val (l.take (i + 1)) = 10 * val (l.take i) + (l[i].toNat - 48) := by
        rw [List.take_add_one, List.getElem?_eq_getElem hlt, Option.toList_some, val_snoc]
      have hld : aload E1.P (h.push (.cells (bytesV l) 1 true)).get 5 (.pointer (some ⟨h.size, 0 + (i : Int).toNat * 1, none⟩)) = some (.int .u8 (l[i].toNat : Int)) :=
        load_cell (n := 1) hget (by kernel_rfl) (by kernel_rfl) (by
          have e : 0 + (i : Int).toNat * 1 = i := by omega
          rw [e, bytesV_get, List.getElem?_eq_getElem hlt]; rfl)
      obtain ⟨tm', q1, q2⟩ := iparse_L0_0 om n tm _ _ _ _ _ _ _ (.pointer (some ⟨h.size, 0 + (i : Int).toNat * 1, none⟩)) (l[i].toNat : Int) hS (by simp; omega)
        (slc_at (elem := 5) (n := 1) (i := (i : Int)) (by kernel_rfl) (by kernel_rfl) (by omega) (by omega)) (by rw [hld]; rfl) (by simp; omega) (by simp; omega) (by simp; omega) (by rw [e0]; simp; omega) (by simp; omega)
        (by rw [e0, e1, e2, e3]; simp; omega) (by rw [e0, e1, e2, e3]; simp; omega)
      refine .inl ⟨tm', l.length - (i + 1), q1, by omega, i + 1, by omega, rfl, ?_⟩
      rw [e0, e1, e2, e3, awrap_i64 (by omega) (by omega)] at q2
      exact q2
    · have hii : i = l.length := by omega
      subst hii
      rw [List.take_length] at hS
      obtain ⟨tm', q1, q2⟩ := iparse_L0_1 om n tm _ _ _ _ _ _ (h.push (.cells (bytesV l) 1 true)) hS (by simp)
      exact .inr ⟨tm', q1, q2⟩
