/- Part of a proof about a Go program: the abstract machine walks its code; no condition. -/
import Derived.Test.YtjmkmijomlnmaaaDoorNumC14
open Go Go.Am Go.Am.W Go.Proofs
set_option maxRecDepth 100000
variable (om : Nat → Nat) (n : Nat) (h : AHeap)
theorem dotF_wide {m : Nat} (hm : 65535 < m) : dotF m ≠ dec m := by
  unfold dotF
  rw [if_neg (by omega)]
  intro hh
  have h1 : (dec m).all notDot = true := noDot_of_dig (dec_all m)
  rw [← hh] at h1
  rw [List.all_append, List.all_append] at h1
  simp [notDot] at h1
theorem dotF_thin {m : Nat} (hm : m ≤ 65535) : dotF m = dec m := by
  unfold dotF; rw [if_pos hm]
theorem dec_beq {a b : Nat} (ha : a < 4294967296) (hb : b < 4294967296) : decide (dec a = dec b) = decide (a = b) := by
  by_cases hh : a = b
  · simp [hh]
  · have : dec a ≠ dec b := fun hq => hh ((dec_inj ha hb).1 hq)
    simp [hh, this]
theorem natBeq (a b : Nat) : ((a : Int) == (b : Int)) = decide (a = b) := by
  by_cases hh : a = b
  · simp [hh]
  · have : (a : Int) ≠ b := fun hq => hh (by omega)
    simp [hh, this]
theorem bytesEq_dec {a b : Nat} (ha : a < 4294967296) (hb : b < 4294967296) : (eqBytes ⟨⟨dec a⟩⟩ ⟨⟨dec b⟩⟩ == ((a : Int) == (b : Int))) = true := by
  rw [eqBytes_mk, natBeq]
  by_cases hh : a = b
  · simp [hh]
  · have : dec a ≠ dec b := fun hq => hh ((dec_inj ha hb).1 hq)
    simp [hh, this]
theorem numberShort_run (a b : Nat) (ha : a < 4294967296) (hb : b < 4294967296) (hG : GPow h) : acall E2 om 10000 (n + 4) (.fn 4) [.int .u32 a, .int .u32 b] h = some (.bool true, h) := by
  by_cases wa : (a : Int) > 65535
  · have e : shortF a = 23456 := by unfold shortF; rw [if_pos (by omega)]
    refine lshort_20 om (n + 3) a b h _ _ _ _ _ _ (short_ok om (n + 1) h a ha) (wide_ok om (n + 2) h a) (by simpa using wa) (by rw [e]; rfl) (by simpa using wa) (dotted_ok om n h a ha hG) (text_ok om (n + 1) h a ha hG) ?_ (text_ok om (n + 1) h b hb hG) (bytesEq_dec ha hb) (tells_ok om (n + 2) h)
    rw [eqBytes_mk]
    have := dotF_wide (m := a) (by omega)
    simp [this, wa]
  · have e : shortF a = a := by unfold shortF; rw [if_neg (by omega)]
    by_cases wb : (b : Int) > 65535
    · refine lshort_5 om (n + 3) a b h _ _ _ _ _ _ _ (short_ok om (n + 1) h a ha) (wide_ok om (n + 2) h a) (by simpa using wa) (by rw [e]; simp) (by simpa using wa) (by rw [e, awrap_u32 (by omega) (by omega)]; simp) (wide_ok om (n + 2) h b) (by simpa using wb) (dotted_ok om n h a ha hG) (text_ok om (n + 1) h a ha hG) ?_ (text_ok om (n + 1) h b hb hG) (bytesEq_dec ha hb) (tells_ok om (n + 2) h)
      rw [eqBytes_mk, dotF_thin (by omega)]
      simp [wa]
    · have e' : shortF b = b := by unfold shortF; rw [if_neg (by omega)]
      refine lshort_1 om (n + 3) a b h _ _ _ _ _ _ _ _ (short_ok om (n + 1) h a ha) (wide_ok om (n + 2) h a) (by simpa using wa) (by rw [e]; simp) (by simpa using wa) (by rw [e, awrap_u32 (by omega) (by omega)]; simp) (wide_ok om (n + 2) h b) (by simpa using wb) (short_ok om (n + 1) h b hb) (by rw [e, e']; simp) (dotted_ok om n h a ha hG) (text_ok om (n + 1) h a ha hG) ?_ (text_ok om (n + 1) h b hb hG) (bytesEq_dec ha hb) (tells_ok om (n + 2) h)
      rw [eqBytes_mk, dotF_thin (by omega)]
      simp [wa]
