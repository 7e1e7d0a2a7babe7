/- Part of a proof about a Go program: the abstract machine walks its code; no condition. -/
import Derived.Test.YtjmkmijomlnmaaaDoorNumC15
import Derived.Test.YtjmkmijomlnmaaaDoorNumP9
open Go Go.Am Go.Am.W Go.Proofs
set_option maxRecDepth 100000
variable (om : Nat → Nat) (n : Nat) (h : AHeap)
theorem hasp_ok (a b : List UInt8) : acall E2 om 10000 (n + 2) (.fn 14) [.string ⟨⟨a⟩⟩, .string ⟨⟨b⟩⟩] h = some (.bool (decide (b <+: a)), h) := by
  refine hasp_0 om (n + 1) _ _ h _ ?_
  by_cases hl : b.length ≤ a.length
  · have := hasp2_0 om n ⟨⟨a⟩⟩ ⟨⟨b⟩⟩ h ⟨⟨a.take b.length⟩⟩ (by rw [bsz, bsz]; simpa using hl)
      (by rw [bsz]
          have := str_slice (P := E2.P) (look := h.get) (t := 9) (l := a) (lo := none) (hi := some (.int .i64 (b.length : Int))) (a := 0) (b := b.length) (by kernel_rfl) (W.abound_some (by omega) (by simpa using hl)) W.abound_none
          simpa using this)
    rw [this, eqBytes_mk]
    have e : (b <+: a) ↔ a.take b.length = b := by rw [List.prefix_iff_eq_take]; exact eq_comm
    simp only [e]
    by_cases hq : List.take b.length a = b <;> simp [hq]
  · have := hasp2_1 om n ⟨⟨a⟩⟩ ⟨⟨b⟩⟩ h (by rw [bsz, bsz]; simpa using hl)
    rw [this]
    have : ¬ b <+: a := fun hh => hl hh.length_le
    simp [this]
theorem dotF_len (m : Nat) : (dotF m).length ≤ 41 := by
  unfold dotF
  split
  · have := dec_len m; omega
  · have := dec_len (m / 65536); have := dec_len (m % 65536); simp; omega
theorem numberBack_run (a : Nat) (ha : a < 4294967296) (s : List UInt8) (hG : GPow h) : acall E2 om 10000 (n + 8) (.fn 5) [.int .u32 a, .string ⟨⟨s⟩⟩] h = some (.bool true, h) := by
  have hl : (s.take 40).length < 10000 := by rw [List.length_take]; omega
  have t1 := text_ok om (n + 5) h a ha hG
  have t2 := nparse_ok om (n + 1) h (dec a) (by have := dec_len a; omega)
  rw [parse_dec a ha] at t2
  have t3 := dotted_ok om (n + 4) h a ha hG
  have t4 := nparse_ok om (n + 1) h (dotF a) (by have := dotF_len a; omega)
  rw [parse_dot a ha] at t4
  have t5 := nparse_ok om (n + 1) h ([48] ++ dec a) (by have := dec_len a; simp; omega)
  rw [parse_nought a] at t5
  have t6 := nparse_ok om (n + 1) h (s.take 40) hl
  have t7 := tells_ok om (n + 6) h
  have hs : pureE (abin (AEnv.P E2) (AEnv.eqOk E2) BinOp.add 9 (Value.string (bs [48])) (Value.string ⟨⟨dec a⟩⟩) true) = some (Value.string ⟨⟨[48] ++ dec a⟩⟩, Eff.id) :=
    str_add' (a := [48]) (b := dec a) (by have := dec_len a; simp; omega)
  have z0 : (((0 : Nat) : Int) != 0) = false := by decide
  have za : ((a : Int) != (a : Int)) = false := by simp
  have z5 : (((5 : Nat) : Int) != 5) = false := by decide
  have q1 : (((5 : Nat) : Int) != 0) = true := by decide
  have q2 : (((0 : Nat) : Int) == 0) = true := by decide
  have q3 : (((5 : Nat) : Int) == 5) = true := by decide
  have q1' : (((24 : Nat) : Int) != 0) = true := by decide
  have q3' : (((24 : Nat) : Int) == 5) = false := by decide
  have q4 : (((24 : Nat) : Int) == 24) = true := by decide
  have t8 := first40 s h.get
  have hlt := parse_lt (s.take 40)
  unfold parseV at t2 t4 t5 t6
  by_cases h0 : (parseF (s.take 40)).2 = 0
  · have hpt := parse_text h0
    rw [h0] at t6
    generalize hc : (parseF (s.take 40)).1 = c at *
    have u1 := text_ok om (n + 5) h c hlt hG
    have u2 := dotted_ok om (n + 4) h c hlt hG
    by_cases e1 : dec c = s.take 40
    · exact lback_18 om (n + 7) a _ h _ _ _ _ _ _ _ _ _ _ _ _ _ _ t1 t2 t3 t4 hs t5 z0 za z0 za z5 t8 t6 z0 u1 (by rw [eqBytes_mk, e1]; simp) t7
    · have f1 : eqBytes ⟨⟨dec c⟩⟩ ⟨⟨s.take 40⟩⟩ = false := by rw [eqBytes_mk]; simpa using e1
      by_cases e2 : dotF c = s.take 40
      · exact lback_17 om (n + 7) a _ h _ _ _ _ _ _ _ _ _ _ _ _ _ _ _ t1 t2 t3 t4 hs t5 z0 za z0 za z5 t8 t6 z0 u1 f1 u2 (by rw [eqBytes_mk, e2]; simp) t7
      · have f2 : eqBytes ⟨⟨dotF c⟩⟩ ⟨⟨s.take 40⟩⟩ = false := by rw [eqBytes_mk]; simpa using e2
        obtain ⟨b, hb, hcb⟩ : ∃ b, s.take 40 = [48, 46] ++ b ∧ dec c = b := by
          rcases hpt with h1 | h1 | h1
          · exact absurd h1 e1
          · exact absurd h1 e2
          · exact h1
        have u3 := hasp_ok om (n + 5) h (s.take 40) [48, 46]
        have hp : decide ([48, 46] <+: s.take 40) = true := by rw [hb]; exact decide_eq_true (List.prefix_append [48, 46] b)
        rw [hp] at u3
        have u4 : pureE (abin (AEnv.P E2) (AEnv.eqOk E2) BinOp.add 9 (Value.string (bs [48, 46])) (Value.string ⟨⟨dec c⟩⟩) true) = some (Value.string ⟨⟨[48, 46] ++ dec c⟩⟩, Eff.id) :=
          str_add' (a := [48, 46]) (b := dec c) (by have := dec_len c; simp; omega)
        exact lback_14 om (n + 7) a _ h _ _ _ _ _ _ _ _ _ _ _ _ _ _ _ _ _ t1 t2 t3 t4 hs t5 z0 za z0 za z5 t8 t6 z0 u1 f1 u2 f2 u3 rfl u4 (by rw [eqBytes_mk, hb, hcb]; simp) t7
  · rcases parse_snd (s.take 40) with h1 | ⟨h1, h2⟩
    · exact absurd h1 h0
    · rcases h2 with h2 | h2
      · rw [h1, h2] at t6
        exact lback_12 om (n + 7) a _ h _ _ _ _ _ _ _ _ _ _ _ _ _ t1 t2 t3 t4 hs t5 z0 za z0 za z5 t8 t6 q1 q2 q3 t7
      · rw [h1, h2] at t6
        exact lback_10 om (n + 7) a _ h _ _ _ _ _ _ _ _ _ _ _ _ _ t1 t2 t3 t4 hs t5 z0 za z0 za z5 t8 t6 q1' q2 q3' q4 t7
