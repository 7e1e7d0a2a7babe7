/- The abstract machine: append, copy, clear, on both sides. -/
import Derived.Test.YtgngbcmhapmokaaDoorAmOps3
namespace Go.Am
open Go

variable {P : Program} {w : World} {ρ : Pm} {E : AEnv} {g : Look} {nx : Nat}

theorem live_of_owned {o : AObj} (h : o.owned = true) : o.live = true := by cases o <;> simp_all [AObj.owned, AObj.live]

/-- A row goes on under a new number in the old block. -/
theorem OpOk.slid {w' : World} {b0 : Nat} {v cv : Value} {o0 o1 o2 : AObj} {co : Obj} {pl pl' : Plc} {t : Bool} (h : HRel E ρ g w) (hn : ρ nx = none)
    (hpl : ρ b0 = some pl) (hg : g b0 = some o0) (hown : o0.owned = true) (hb : pl'.blk = pl.blk)
    (hw : w'.heap = w.heap.setIfInBounds pl.blk co) (hos : w'.os = w.os) (ht : w'.tape = w.tape) (hout : w'.output = w.output)
    (hl : o1.live = true → o1.owned = false ∧ o2.owned = false) (ho1 : o1.owned = false)
    (h1 : o1.live = true → ObjRel E (ρ.set nx pl') pl o1 co) (h2 : ObjRel E (ρ.set nx pl') pl' o2 co) (hv : VRel (ρ.set nx pl') v cv) : OpOk E ρ g w ⟨some (b0, o1), some o2, t⟩ nx v cv w' := by
  have hl0 := live_of_owned hown
  have hne : b0 ≠ nx := fun he => by rw [he, hn] at hpl; cases hpl
  have hlt := h.lt hpl hg hl0
  refine ⟨⟨ρ.set nx pl', hv, ⟨?_, ?_⟩, ⟨Pm.le_set hn, by rw [hw]; simp, ?_, ?_, ?_, ?_, hos, ht, hout⟩, fun b hb => Pm.set_ne hb, fun h => by cases h⟩⟩
  · intro b pl1 o' a1 a2 a3
    simp only [Eff.look] at a2
    by_cases he : b = nx
    · subst he
      rw [Pm.set_same] at a1; injection a1 with a1; subst a1
      rw [if_pos rfl] at a2; injection a2 with a2; subst a2
      exact ⟨co, by rw [hw, hb]; simp [hlt], h2⟩
    · rw [Pm.set_ne he] at a1
      rw [if_neg he] at a2
      by_cases he0 : b = b0
      · subst he0
        rw [if_pos rfl] at a2; injection a2 with a2; subst a2
        rw [hpl] at a1; injection a1 with a1; subst a1
        exact ⟨co, by rw [hw]; simp [hlt], h1 a3⟩
      · rw [if_neg he0] at a2
        obtain ⟨co', hc, hr⟩ := h.obj b pl1 o' a1 a2 a3
        refine ⟨co', ?_, hr.mono (Pm.le_set hn)⟩
        rw [hw, Array.getElem?_setIfInBounds_ne (h.excl b0 b pl pl1 o0 o' (fun h => he0 h.symm) hpl a1 hg a2 hown a3)]
        exact hc
  · intro b b' pl1 pl2 p1 p2 hbb a1 a2 a3 a4 a5 a6
    simp only [Eff.look] at a3 a4
    by_cases he : b = nx
    · subst he
      have he' : b' ≠ b := fun h => hbb h.symm
      rw [Pm.set_same] at a1; injection a1 with a1; subst a1
      rw [if_pos rfl] at a3; injection a3 with a3; subst a3
      rw [Pm.set_ne he'] at a2
      rw [if_neg he'] at a4
      by_cases he0 : b' = b0
      · subst he0
        rw [if_pos rfl] at a4; injection a4 with a4; subst a4
        rw [(hl a6).2] at a5; cases a5
      · rw [if_neg he0] at a4
        rw [hb]
        exact h.excl b0 b' pl pl2 o0 p2 (fun h => he0 h.symm) hpl a2 hg a4 hown a6
    · rw [Pm.set_ne he] at a1
      rw [if_neg he] at a3
      have hb0 : b ≠ b0 := by
        intro he0
        subst he0
        rw [if_pos rfl] at a3; injection a3 with a3; subst a3
        rw [ho1] at a5; cases a5
      rw [if_neg hb0] at a3
      by_cases he' : b' = nx
      · subst he'
        rw [Pm.set_same] at a2; injection a2 with a2; subst a2
        rw [hb]
        exact h.excl b b0 pl1 pl p1 o0 hb0 a1 hpl a3 hg a5 hl0
      · rw [Pm.set_ne he'] at a2
        rw [if_neg he'] at a4
        by_cases he0 : b' = b0
        · subst he0
          rw [hpl] at a2; injection a2 with a2; subst a2
          exact h.excl b b' pl1 pl p1 o0 hb0 a1 hpl a3 hg a5 hl0
        · rw [if_neg he0] at a4
          exact h.excl b b' pl1 pl2 p1 p2 hbb a1 a2 a3 a4 a5 a6
  · intro k hk hnk
    rw [hw, Array.getElem?_setIfInBounds_ne (hnk b0 pl o0 hpl hg hown)]
  · intro b pl1 o' a1 a2 a3 a4
    simp only [Eff.look] at a2
    by_cases he : b = nx
    · subst he
      rw [Pm.set_same] at a1; injection a1 with a1; subst a1
      exact ⟨b0, pl, o0, hpl, hg, hown, hb.symm⟩
    · rw [Pm.set_ne he] at a1
      rw [if_neg he] at a2
      by_cases he0 : b = b0
      · subst he0
        rw [if_pos rfl] at a2; injection a2 with a2; subst a2
        rw [ho1] at a3; cases a3
      · rw [if_neg he0] at a2
        exact ⟨b, pl1, o', a1, a2, a3, rfl⟩
  · intro b pl1 o' a1 a2 a3 a4
    simp only [Eff.look] at a2
    by_cases he : b = nx
    · subst he
      rw [Pm.set_same] at a1; injection a1 with a1; subst a1
      exact ⟨b0, pl, o0, hpl, hg, hl0, hb.symm⟩
    · rw [Pm.set_ne he] at a1
      rw [if_neg he] at a2
      by_cases he0 : b = b0
      · subst he0
        exact ⟨b, pl, o0, hpl, hg, hl0, by rw [hpl] at a1; injection a1 with a1; rw [a1]⟩
      · rw [if_neg he0] at a2
        exact ⟨b, pl1, o', a1, a2, a3, rfl⟩
  · intro b hbb
    simp only [Eff.look] at hbb
    by_cases he : b = nx
    · subst he; rw [Pm.set_same]; rfl
    · rw [if_neg he] at hbb
      by_cases he0 : b = b0
      · subst he0; rw [Pm.set_ne he, hpl]; rfl
      · rw [if_neg he0] at hbb; exact absurd rfl hbb

/-- A row goes on under a new number in a new block. -/
theorem OpOk.moved {w' : World} {b0 : Nat} {v cv : Value} {o0 o1 o2 : AObj} {co : Obj} {pl pl' : Plc} {t : Bool} (h : HRel E ρ g w) (hn : ρ nx = none)
    (hpl : ρ b0 = some pl) (hg : g b0 = some o0) (hown : o0.owned = true) (hb : pl'.blk = w.heap.size)
    (hw : w'.heap = w.heap.push co) (hos : w'.os = w.os) (ht : w'.tape = w.tape) (hout : w'.output = w.output)
    (ho1 : o1.owned = false)
    (h1 : o1.live = true → ∀ co', ObjRel E ρ pl o0 co' → ObjRel E ρ pl o1 co') (h2 : ObjRel E (ρ.set nx pl') pl' o2 co) (hv : VRel (ρ.set nx pl') v cv) : OpOk E ρ g w ⟨some (b0, o1), some o2, t⟩ nx v cv w' := by
  have hl0 := live_of_owned hown
  have hlt : ∀ b pl1 o', ρ b = some pl1 → (if b = b0 then some o1 else g b) = some o' → o'.live = true → pl1.blk < w.heap.size := by
    intro b pl1 o' a1 a2 a3
    by_cases he0 : b = b0
    · subst he0
      rw [hpl] at a1; injection a1 with a1; subst a1
      exact h.lt hpl hg hl0
    · rw [if_neg he0] at a2
      exact h.lt a1 a2 a3
  refine ⟨⟨ρ.set nx pl', hv, ⟨?_, ?_⟩, ⟨Pm.le_set hn, by rw [hw]; simp, ?_, ?_, ?_, ?_, hos, ht, hout⟩, fun b hb => Pm.set_ne hb, fun h => by cases h⟩⟩
  · intro b pl1 o' a1 a2 a3
    simp only [Eff.look] at a2
    by_cases he : b = nx
    · subst he
      rw [Pm.set_same] at a1; injection a1 with a1; subst a1
      rw [if_pos rfl] at a2; injection a2 with a2; subst a2
      exact ⟨co, by rw [hw, hb]; simp, h2⟩
    · rw [Pm.set_ne he] at a1
      rw [if_neg he] at a2
      have hlt' := hlt b pl1 o' a1 a2 a3
      by_cases he0 : b = b0
      · subst he0
        rw [if_pos rfl] at a2; injection a2 with a2; subst a2
        rw [hpl] at a1; injection a1 with a1; subst a1
        obtain ⟨co', hc, hr⟩ := h.obj b pl o0 hpl hg hl0
        exact ⟨co', by rw [hw, Array.getElem?_push_lt hlt']; rw [Array.getElem?_eq_getElem hlt'] at hc; exact hc, (h1 a3 co' hr).mono (Pm.le_set hn)⟩
      · rw [if_neg he0] at a2
        obtain ⟨co', hc, hr⟩ := h.obj b pl1 o' a1 a2 a3
        exact ⟨co', by rw [hw, Array.getElem?_push_lt hlt']; rw [Array.getElem?_eq_getElem hlt'] at hc; exact hc, hr.mono (Pm.le_set hn)⟩
  · intro b b' pl1 pl2 p1 p2 hbb a1 a2 a3 a4 a5 a6
    simp only [Eff.look] at a3 a4
    by_cases he : b = nx
    · subst he
      have he' : b' ≠ b := fun h => hbb h.symm
      rw [Pm.set_same] at a1; injection a1 with a1; subst a1
      rw [Pm.set_ne he'] at a2
      rw [if_neg he'] at a4
      have := hlt b' pl2 p2 a2 a4 a6
      omega
    · rw [Pm.set_ne he] at a1
      rw [if_neg he] at a3
      by_cases he' : b' = nx
      · subst he'
        rw [Pm.set_same] at a2; injection a2 with a2; subst a2
        have := hlt b pl1 p1 a1 a3 (live_of_owned a5)
        omega
      · rw [Pm.set_ne he'] at a2
        rw [if_neg he'] at a4
        have hb0 : b ≠ b0 := by
          intro he0
          subst he0
          rw [if_pos rfl] at a3; injection a3 with a3; subst a3
          rw [ho1] at a5; cases a5
        rw [if_neg hb0] at a3
        by_cases he0 : b' = b0
        · subst he0
          rw [hpl] at a2; injection a2 with a2; subst a2
          exact h.excl b b' pl1 pl p1 o0 hb0 a1 hpl a3 hg a5 hl0
        · rw [if_neg he0] at a4
          exact h.excl b b' pl1 pl2 p1 p2 hbb a1 a2 a3 a4 a5 a6
  · intro k hk _
    rw [hw, Array.getElem?_push_lt hk, Array.getElem?_eq_getElem hk]
  · intro b pl1 o' a1 a2 a3 a4
    simp only [Eff.look] at a2
    by_cases he : b = nx
    · subst he
      rw [Pm.set_same] at a1; injection a1 with a1; subst a1
      omega
    · rw [Pm.set_ne he] at a1
      rw [if_neg he] at a2
      by_cases he0 : b = b0
      · subst he0
        rw [if_pos rfl] at a2; injection a2 with a2; subst a2
        rw [ho1] at a3; cases a3
      · rw [if_neg he0] at a2
        exact ⟨b, pl1, o', a1, a2, a3, rfl⟩
  · intro b pl1 o' a1 a2 a3 a4
    simp only [Eff.look] at a2
    by_cases he : b = nx
    · subst he
      rw [Pm.set_same] at a1; injection a1 with a1; subst a1
      omega
    · rw [Pm.set_ne he] at a1
      rw [if_neg he] at a2
      by_cases he0 : b = b0
      · subst he0
        exact ⟨b, pl, o0, hpl, hg, hl0, by rw [hpl] at a1; injection a1 with a1; rw [a1]⟩
      · rw [if_neg he0] at a2
        exact ⟨b, pl1, o', a1, a2, a3, rfl⟩
  · intro b hbb
    simp only [Eff.look] at hbb
    by_cases he : b = nx
    · subst he; rw [Pm.set_same]; rfl
    · rw [if_neg he] at hbb
      by_cases he0 : b = b0
      · subst he0; rw [Pm.set_ne he, hpl]; rfl
      · rw [if_neg he0] at hbb; exact absurd rfl hbb

/-! ### append -/
/-- What the second argument yields, in the model. -/
structure App (P : Program) (info : TypeInfo) (elem : TypeId) (xT : TypeId) (cx : Value) (n : Nat) (us : List Value) (w : World) : Prop where
  mk :: (out : ((∃ k m, P.underlying xT = some (.int k) ∧ cx = .int m n ∧ n ≤ 281474976710656 ∧ n * info.bytes ≤ 281474976710656 ∧ ∃ z, azero P elem = some z ∧ (us = if n * info.size = 0 then [] else azeros z.cells.toList n)) ∨
    ((∃ d, P.underlying xT = some d ∧ ∀ k, d ≠ .int k) ∧ (∀ w' : World, (Builtin.lenOf cx).run P w' = .ok n w') ∧ ∀ w' : World, w'.heap = w.heap → (Builtin.firstCells info.size n cx).run P w' = .ok us.toArray w')))

theorem azero_info {t : TypeId} {i : TypeInfo} {z : Value} (hi : P.info? t = some i) (hz : azero P t = some z) : i.zero = some z := by
  unfold azero at hz
  rw [hi] at hz
  simp only [Option.bind_some] at hz
  split at hz
  · rename_i z' hz2
    split at hz
    · injection hz with hz; rw [hz2, hz]
    · cases hz
  · cases hz

theorem run_append_in {sT xT ty elem : TypeId} {info : TypeInfo} {base : Option Addr} {sLen sCap n : Nat} {cx : Value} {us : List Value} (ht : P.underlying sT = some (.slice elem)) (hi : P.info? elem = some info) (ha : App P info elem xT cx n us w)
    (hroom : sLen + n ≤ sCap) {w' : World} (hst : ∀ a, base = some a → (storeCells (a.add (sLen * info.size)) us).run P w = .ok () w') (hb : base = none → w' = w) :
    (Builtin.append_ #[sT, xT] ty #[.slice base sLen sCap, cx]).run P w = .ok (.slice base (sLen + n) sCap) w' := by
  rcases ha.out with ⟨k, m, hx, rfl, h1, h2, z, hz, hus⟩ | ⟨⟨d, hx, hd⟩, h1, h2⟩
  · have hw : IntKind.i64.wrap (n : Int) = n := by rw [IntKind.wrap_i64]; omega
    have h48i : ¬ (281474976710656 < (n : Int) * (info.bytes : Int)) := by rw [← Int.natCast_mul]; omega
    have hneg : ¬ ((n : Int) < 0) := by omega
    have hzi := azero_info hi hz
    have hzc : (Builtin.zeroCells z.cells n).toList = azeros z.cells.toList n := zeroCells_list _ _
    by_cases h0 : n * info.size = 0
    · rw [if_pos h0] at hus
      subst hus
      cases base with
      | none => simp [Builtin.append_, run_underlying ht, run_underlying hx, sizeOf, typeInfo, hi, asInt, asIntOf, hw, hneg, h48i, hroom, h0, hb rfl]
      | some a =>
        have := hst a rfl
        simp [Builtin.append_, run_underlying ht, run_underlying hx, sizeOf, typeInfo, hi, asInt, asIntOf, hw, hneg, h48i, hroom, h0, this]
    · rw [if_neg h0] at hus
      subst hus
      cases base with
      | none => simp [Builtin.append_, run_underlying ht, run_underlying hx, sizeOf, typeInfo, zeroValue, hi, hzi, asInt, asIntOf, hw, hneg, h48i, hroom, h0, hb rfl]
      | some a =>
        have := hst a rfl
        simp [Builtin.append_, run_underlying ht, run_underlying hx, sizeOf, typeInfo, zeroValue, hi, hzi, asInt, asIntOf, hw, hneg, h48i, hroom, h0, hzc, this]
  · have hdm : ∀ (α : Type) (a b : α), (match d with | .int _ => a | _ => b) = b := by
      intro α a b
      cases d <;> first | rfl | exact absurd rfl (hd _)
    have h3 := h2 w rfl
    cases base with
    | none => simp [Builtin.append_, run_underlying ht, run_underlying hx, sizeOf, typeInfo, hi, hdm, h1, hroom, h3, hb rfl]
    | some a =>
      have := hst a rfl
      simp [Builtin.append_, run_underlying ht, run_underlying hx, sizeOf, typeInfo, hi, hdm, h1, hroom, h3, this]

theorem run_append_out {sT xT ty elem : TypeId} {info : TypeInfo} {z : Value} {base : Option Addr} {sLen sCap n : Nat} {cx : Value} {us olds : List Value} (ht : P.underlying sT = some (.slice elem)) (hi : P.info? elem = some info) (hz : azero P elem = some z)
    (ha : App P info elem xT cx n us w) (hroom : sCap < sLen + n) (h63 : sLen + n ≤ 9223372036854775807) (hfit : Builtin.nextslicecap (sLen + n) sCap * info.bytes ≤ 281474976710656)
    (hold : (Builtin.firstCells info.size sLen (.slice base sLen sCap)).run P w.drew = .ok olds.toArray w.drew) :
    (Builtin.append_ #[sT, xT] ty #[.slice base sLen sCap, cx]).run P w = .ok (.slice (some ⟨w.heap.size, 0, none⟩) (sLen + n) (grownCap w (sLen + n) sCap elem))
        (w.drew.alloc (.cells ((olds ++ us).toArray ++ Builtin.zeroCells z.cells (grownCap w (sLen + n) sCap elem - (sLen + n))) elem)) := by
  have hn : ¬ (sLen + n ≤ sCap) := by omega
  have h63' : ¬ (9223372036854775807 < ((sLen : Int) + (n : Int))) := by omega
  have h48' : ¬ (281474976710656 < Builtin.nextslicecap (sLen + n) sCap * info.bytes) := by omega
  have hzi := azero_info hi hz
  rcases ha.out with ⟨k, m, hx, rfl, h1, h2, z', hz', hus⟩ | ⟨⟨d, hx, hd⟩, h1, h2⟩
  · rw [hz] at hz'; injection hz' with hz'; subst hz'
    have hw : IntKind.i64.wrap (n : Int) = n := by rw [IntKind.wrap_i64]; omega
    have h48i : ¬ (281474976710656 < (n : Int) * (info.bytes : Int)) := by rw [← Int.natCast_mul]; omega
    have hneg : ¬ ((n : Int) < 0) := by omega
    have hzc : (Builtin.zeroCells z.cells n).toList = azeros z.cells.toList n := zeroCells_list _ _
    by_cases h0 : n * info.size = 0
    · rw [if_pos h0] at hus
      subst hus
      simp [Builtin.append_, run_underlying ht, run_underlying hx, sizeOf, typeInfo, zeroValue, hi, hzi, asInt, asIntOf, hw, hneg, h48i, hn, h63', h48', h0, Question.forced, hold, newRow, grownCap]
    · rw [if_neg h0] at hus
      subst hus
      have e : Builtin.zeroCells z.cells n = (azeros z.cells.toList n).toArray := by rw [← hzc]
      simp [Builtin.append_, run_underlying ht, run_underlying hx, sizeOf, typeInfo, zeroValue, hi, hzi, asInt, asIntOf, hw, hneg, h48i, hn, h63', h48', h0, Question.forced, hold, newRow, grownCap, e]
      refine congrArg (fun c => w.drew.alloc (Obj.cells c elem)) ?_
      apply Array.ext'
      simp
  · have hdm : ∀ (α : Type) (a b : α), (match d with | .int _ => a | _ => b) = b := by
      intro α a b
      cases d <;> first | rfl | exact absurd rfl (hd _)
    have h3 := h2 w.drew rfl
    simp [Builtin.append_, run_underlying ht, run_underlying hx, sizeOf, typeInfo, zeroValue, hi, hzi, hdm, h1, hn, h63', h48', Question.forced, hold, h3, newRow, grownCap]
    refine congrArg (fun c => w.drew.alloc (Obj.cells c elem)) ?_
    apply Array.ext'
    simp

theorem appended_run {info : TypeInfo} {elem xT : TypeId} {xd : TypeDesc} {x cx : Value} {n : Nat} {new : List Value} (hH : HRel E ρ g w) (hxd : P.underlying xT = some xd) (h : aappended P g elem info xd x = some (n, new)) (hx : VRel ρ x cx) :
    ∃ us, LRel ρ new us ∧ App P info elem xT cx n us w := by
  unfold aappended at h
  split at h
  · rename_i k m i
    rw [hx.int_inv]
    split at h
    · rename_i hc
      split at h
      · rename_i z hz
        split at h
        · rename_i hzs
          injection h with h; injection h with h1 h2; subst h1 h2
          have hn : (i.toNat : Int) = i := Int.toNat_of_nonneg hc.1
          have hb : i.toNat * info.bytes ≤ 281474976710656 := by
            have h3 := hc.2.2
            rw [← hn, ← Int.natCast_mul] at h3
            omega
          refine ⟨_, azeros_rel (azero_flat hz) _, ⟨.inl ⟨k, m, hxd, by rw [hn], by omega, hb, z, hz, ?_⟩⟩⟩
          split
          · rename_i h0
            have : (azeros z.cells.toList i.toNat).length = 0 := by rw [azeros_length, Array.length_toList, hzs, h0]
            exact List.eq_nil_of_length_eq_zero this
          · rfl
        · cases h
      · cases h
    · cases h
  · cases h
  · rename_i hne1 hne2
    split at h
    · rename_i n' hn'
      obtain ⟨l, hl, he⟩ := Option.map_eq_some_iff.1 h
      injection he with h1 h2; subst h1 h2
      obtain ⟨us, hur, hrun⟩ := afirst_run (P := P) hH hl hx
      exact ⟨us, hur, ⟨.inr ⟨⟨xd, hxd, fun k hk => by first | exact hne2 k hk | exact hne1 k hk⟩, alen_run hn' hx, hrun⟩⟩⟩
    · cases h

theorem aappend_run {share : Bool} {sT xT ty : TypeId} {s x cs cx v : Value} {e : Eff} (hH : HRel E ρ g w) (hnx : e.new ≠ none → ρ nx = none) (h : aappend P share g nx sT xT s x = some (v, e)) (hs : VRel ρ s cs) (hx : VRel ρ x cx) :
    ∃ cv w', (Builtin.append_ #[sT, xT] ty #[cs, cx]).run P w = .ok cv w' ∧ OpOk E ρ g w e nx v cv w' := by
  unfold aappend at h
  split at h
  · rename_i elem base len c ht
    split at h
    · rename_i info xd hi hxd
      split at h
      · cases h
      · rename_i n new happ
        split at h
        · rename_i hcond
          simp only [appFits, Bool.and_eq_true, decide_eq_true_eq, beq_iff_eq] at hcond
          obtain ⟨⟨⟨⟨⟨hb0, hb⟩, hsz⟩, hzz⟩, hnl⟩, hok⟩ := hcond
          obtain ⟨us, hur, hA⟩ := appended_run hH hxd happ hx
          obtain ⟨z, hz, hzs⟩ : ∃ z, azero P elem = some z ∧ z.cells.size = info.size := by
            cases hz : azero P elem with
            | none => simp [hz] at hzz
            | some z => exact ⟨z, rfl, by simpa [hz] using hzz⟩
          have hul : us.length = n * info.size := by rw [← hur.1]; exact hnl
          have hsmall : len + n ≤ 140737488355328 := Nat.le_trans (Nat.le_mul_of_pos_right _ hb0) hb
          obtain ⟨ca, cap, rfl, hlc, hsome, hshape⟩ := id hs.slice_inv
          split at h
          · rename_i hn0
            injection h with h; injection h with h1 h2; subst h1 h2 hn0
            have hu0 : us = [] := List.eq_nil_of_length_eq_zero (by simpa using hul)
            subst hu0
            refine ⟨_, w, run_append_in ht hi hA (by omega) (fun a _ => by simp [storeCells]) (fun _ => rfl), OpOk.still hH (SameHeap.refl w) hs⟩
          · rename_i hn0
            -- what a new row comes to
            have grown : ρ nx = none → ∀ (olds : List Value) (old : Nat), olds.length = len * info.size → old < len + n → ∀ l, LRel ρ l (olds ++ us) → ∀ own,
                (Builtin.firstCells info.size len (.slice ca len cap)).run P w.drew = .ok olds.toArray w.drew → old = cap →
                ∃ co : Obj, ∃ gc : Nat, ∃ C : Array Value, (Builtin.append_ #[sT, xT] ty #[.slice ca len cap, cx]).run P w = .ok (.slice (some ⟨w.heap.size, 0, none⟩) (len + n) gc) (w.drew.alloc co) ∧
                  ObjRel E (ρ.set nx ⟨w.heap.size, 0, C.size, info.size⟩) ⟨w.heap.size, 0, C.size, info.size⟩ (.cells l info.size own) co ∧
                  VRel (ρ.set nx ⟨w.heap.size, 0, C.size, info.size⟩) (asl nx 0 (len + n) info.size) (.slice (some ⟨w.heap.size, 0, none⟩) (len + n) gc) := by
              intro hn olds old hol hlt l hl own hold he
              subst he
              have hr := run_append_out (ty := ty) ht hi hz hA hlt (by omega) (growslice_fits hlt hb) hold
              have hge := grownCap_ge w (len + n) old elem
              refine ⟨_, _, (olds ++ us).toArray ++ Builtin.zeroCells z.cells (grownCap w (len + n) old elem - (len + n)), hr, ObjRel.row (rest := (Builtin.zeroCells z.cells (grownCap w (len + n) old elem - (len + n))).toList) (hl.mono (Pm.le_set hn)) (by simp) (fun i _ => by simp), VRel.slStart hsz hge ?_⟩
              simp only [Array.size_append, List.size_toArray, size_zeroCells, List.length_append, hol, hul, hzs, ← Nat.add_mul]
              have : len + n + (grownCap w (len + n) old elem - (len + n)) = grownCap w (len + n) old elem := by omega
              rw [this]
              exact Nat.le_refl _
            split at h
            · rename_i hc0
              split at h
              · rename_i hl0
                injection h with h; injection h with h1 h2; subst h1 h2 hc0 hl0
                have hn := hnx (by simp [Eff.mk1])
                rcases hshape with ⟨_, _, rfl⟩ | ⟨_, _, _, _, _, _, _, hc, _⟩
                · have hold : (Builtin.firstCells info.size 0 (.slice ca 0 0)).run P w.drew = .ok ([] : List Value).toArray w.drew := by
                    cases ca <;> simp [Builtin.firstCells, loadCells, loadCellsFrom]
                  obtain ⟨co, gc, C, hr, ho, hv⟩ := grown hn [] 0 (by simp) (by omega) new (by simpa using hur) true hold rfl
                  refine ⟨_, _, hr, OpOk.made hH hn rfl rfl rfl rfl rfl ho ?_⟩
                  simpa using hv
                · omega
              · cases h
            · rename_i hc0
              split at h
              · rename_i b off
                split at h
                · rename_i cs' esz hg
                  split at h
                  · rename_i hcc
                    obtain ⟨he1, he2, hoff⟩ := hcc
                    rcases hshape with ⟨h1, _⟩ | ⟨b', off', pl, ca', he, hca2, hpl, hc, hca, hxx⟩
                    · exact absurd h1 hc0
                    · subst hca2
                      injection he with he; injection he with e1 e2; subst e1 e2
                      obtain ⟨co, hco, hrel⟩ := hH.obj b pl _ hpl hg rfl
                      obtain ⟨hes, C, T, fz, rfl, k1, k2, k3, k4⟩ := id hrel
                      have hxx := hxx (by rw [hes, he1, he2])
                      subst he1
                      subst he2
                      obtain ⟨uo, huo, huol, huc⟩ := hH.row hpl hg off (len * info.size) hoff
                      have hnp : 0 < n * info.size := Nat.mul_pos (by omega) hsz
                      have hn : ρ nx = none := by
                        apply hnx
                        split at h
                        · split at h
                          · injection h with h; injection h with _ h; subst h; simp
                          · cases h
                        · injection h with h; injection h with _ h; subst h; simp
                      by_cases hroom : len + n ≤ cap
                      · -- there is room
                        have hca : ca' = ⟨pl.blk, pl.base + off, none⟩ := by rcases hca with h | h; exact h; omega
                        subst hca
                        have hfit : off + len * info.size + us.length ≤ pl.ext := by
                          have h5 : (len + n) * info.size ≤ cap * info.size := Nat.mul_le_mul_right _ hroom
                          rw [Nat.add_mul] at h5
                          omega
                        have hput := run_put P T fz pl.blk (pl.base + off + len * info.size) us 0 C w hco (by omega) (fun j hj => by
                          have := k4 rfl (off + len * info.size + j) (by omega)
                          rwa [show pl.base + off + len * info.size + 0 + j = pl.base + (off + len * info.size + j) by omega]) (cellOk_all hur hok)
                        have hr := run_append_in (ty := ty) ht hi hA hroom (base := some ⟨pl.blk, pl.base + off, none⟩) (w' := { w with heap := w.heap.setIfInBounds pl.blk (.cells (cput C (pl.base + off + len * info.size) us) T fz) }) (fun a ha => by injection ha with ha; subst ha; rw [add_plain]; exact hput) (fun h => by cases h)
                        have hnew : ∀ own, ObjRel E (ρ.set nx ⟨pl.blk, pl.base + off, pl.ext - off, info.size⟩) ⟨pl.blk, pl.base + off, pl.ext - off, info.size⟩ (.cells ((cs'.drop off).take (len * info.size) ++ new) info.size own) (.cells (cput C (pl.base + off + len * info.size) us) T fz) := by
                          intro own
                          refine ⟨rfl, _, _, _, rfl, ?_, ?_, fun i v hv => ?_, fun _ i hi => ?_⟩
                          · simp only [List.length_append, List.length_take, List.length_drop]
                            rw [hur.1]; omega
                          · rw [cput_size]; simp only; omega
                          · rw [cput_get _ _ _ _ (by omega)]
                            by_cases hi : i < len * info.size
                            · rw [List.getElem?_append_left (by simp; omega), List.getElem?_take_of_lt hi, List.getElem?_drop] at hv
                              rw [if_neg (by simp only; omega)]
                              obtain ⟨u, a, b⟩ := k3 _ _ hv
                              exact ⟨u, by rw [← a]; congr 1; simp only; omega, b.mono (Pm.le_set hn)⟩
                            · have htk : ((cs'.drop off).take (len * info.size)).length = len * info.size := by simp; omega
                              rw [List.getElem?_append_right (by rw [htk]; omega), htk] at hv
                              obtain ⟨u, a, b⟩ := hur.get? hv
                              have hlt := (List.getElem?_eq_some_iff.1 a).1
                              rw [if_pos (by simp only; omega)]
                              exact ⟨u, by rw [← a]; congr 1; simp only; omega, b.mono (Pm.le_set hn)⟩
                          · have := k4 rfl (off + i) (by simp only at hi; omega)
                            simp only
                            rwa [show pl.base + off + i = pl.base + (off + i) by omega]
                        have hvr : VRel (ρ.set nx ⟨pl.blk, pl.base + off, pl.ext - off, info.size⟩) (asl nx 0 (len + n) info.size) (.slice (some ⟨pl.blk, pl.base + off, none⟩) (len + n) cap) :=
                          VRel.sl (b := nx) (off := 0) Pm.set_same hsz hroom (.inl rfl) (fun _ => by simp only; omega)
                        split at h
                        · split at h
                          · rename_i hend
                            injection h with h; injection h with h1 h2; subst h1 h2
                            refine ⟨_, _, hr, OpOk.slid (pl' := ⟨pl.blk, pl.base + off, pl.ext - off, info.size⟩) hH hn hpl hg rfl rfl rfl rfl rfl rfl (fun _ => ⟨rfl, rfl⟩) rfl (fun _ => ?_) (hnew false) hvr⟩
                            refine ⟨hes, _, _, _, rfl, k1, by rw [cput_size]; exact k2, fun i v hv => ?_, fun h => by cases h⟩
                            obtain ⟨u, a, b⟩ := k3 _ _ hv
                            have hlt := (List.getElem?_eq_some_iff.1 hv).1
                            rw [cput_get _ _ _ _ (by omega), if_neg (by omega)]
                            exact ⟨u, a, b.mono (Pm.le_set hn)⟩
                          · cases h
                        · injection h with h; injection h with h1 h2; subst h1 h2
                          exact ⟨_, _, hr, OpOk.slid (pl' := ⟨pl.blk, pl.base + off, pl.ext - off, info.size⟩) hH hn hpl hg rfl rfl rfl rfl rfl rfl (fun h => by cases h) rfl (fun h => by cases h) (hnew true) hvr⟩
                      · -- there is none
                        have hold : (Builtin.firstCells info.size len (.slice (some ca') len cap)).run P w.drew = .ok uo.toArray w.drew := by
                          simp only [Builtin.firstCells]
                          rcases hca with rfl | hc0
                          · exact run_row P w.drew _ _ uo _ huol fun j u hu => huc j u hu
                          · have hl0 : len = 0 := by omega
                            subst hl0
                            have : uo = [] := List.eq_nil_of_length_eq_zero (by simpa using huol)
                            subst this
                            simp [loadCells, loadCellsFrom]
                        have gr := grown hn uo cap huol (by omega) ((cs'.drop off).take (len * info.size) ++ new) (huo.append hur)
                        split at h
                        · split at h
                          · injection h with h; injection h with h1 h2; subst h1 h2
                            obtain ⟨co, gc, C', hr, ho, hv⟩ := gr false hold rfl
                            refine ⟨_, _, hr, OpOk.moved hH hn hpl hg rfl rfl rfl rfl rfl rfl rfl (fun _ co' hr' => ?_) ho hv⟩
                            obtain ⟨q0, q1, q2, q3, q4, q5, q6, q7, _⟩ := hr'
                            exact ⟨q0, q1, q2, q3, q4, q5, q6, q7, fun h => by cases h⟩
                          · cases h
                        · injection h with h; injection h with h1 h2; subst h1 h2
                          obtain ⟨co, gc, C', hr, ho, hv⟩ := gr true hold rfl
                          exact ⟨_, _, hr, OpOk.moved hH hn hpl hg rfl rfl rfl rfl rfl rfl rfl (fun h => by cases h) ho hv⟩
                  · cases h
                · cases h
              · cases h
        · cases h
    · cases h
  · cases h

/-! ### copy, clear -/
theorem acopy_run {dT sT ty : TypeId} {d s cd cs v : Value} {e : Eff} (hH : HRel E ρ g w) (h : acopy P g dT d s = some (v, e)) (hd : VRel ρ d cd) (hs : VRel ρ s cs) :
    ∃ cv w', (Builtin.copy_ #[dT, sT] ty #[cd, cs]).run P w = .ok cv w' ∧ OpOk E ρ g w e nx v cv w' := by
  unfold acopy at h
  split at h
  · rename_i elem base dLen c sLen ht hsl
    split at h
    · rename_i size hsz
      split at h
      · rename_i new hnew
        obtain ⟨us, hur, hrun⟩ := afirst_run (P := P) hH hnew hs
        obtain ⟨ca, cap, rfl, hlc, hsome, hshape⟩ := id hd.slice_inv
        have hr0 : ∀ w', (∀ a, ca = some a → (storeCells a us).run P w = .ok () w') → (ca = none → w' = w) → (Builtin.copy_ #[dT, sT] ty #[.slice ca dLen cap, cs]).run P w = .ok (.int .i64 (Nat.min sLen dLen : Nat)) w' := by
          intro w' h1 h2
          have h3 := alen_run hsl hs (P := P) w
          have h4 := hrun w rfl
          cases ca with
          | none => simp [Builtin.copy_, run_underlying ht, h3, run_asize hsz, h4, h2 rfl, goInt]
          | some a => simp [Builtin.copy_, run_underlying ht, h3, run_asize hsz, h4, h1 a rfl, goInt]
        split at h
        · rename_i hemp
          injection h with h; injection h with h1 h2; subst h1 h2
          have : us = [] := List.eq_nil_of_length_eq_zero (by rw [← hur.1]; simpa using hemp)
          subst this
          exact ⟨_, w, hr0 w (fun a _ => by simp [storeCells]) (fun _ => rfl), OpOk.still hH (SameHeap.refl w) (.flat rfl)⟩
        · rename_i hemp
          split at h
          · cases h
          rename_i hc0'
          split at h
          · rename_i b off
            split at h
            · rename_i cs' esz hg
              split at h
              · rename_i hcc
                injection h with h; injection h with h1 h2; subst h1 h2
                have hdl : dLen ≠ 0 := by
                  intro h0
                  subst h0
                  apply hemp
                  unfold afirst at hnew
                  simp only [Nat.min_zero] at hnew
                  split at hnew <;> simp at hnew <;> simp [hnew]
                rcases hshape with ⟨h1, h2, _⟩ | ⟨b', off', pl, ca', he, hca2, hpl, hc, hca, hxx⟩
                · exact absurd h2 hdl
                · subst hca2
                  injection he with he; injection he with e1 e2; subst e1 e2
                  have hca : ca' = ⟨pl.blk, pl.base + off, none⟩ := by rcases hca with h | h; exact h; omega
                  subst hca
                  obtain ⟨w', hst, hO⟩ := put_ok (P := P) (nx := nx) (v := .int .i64 (Nat.min sLen dLen : Nat)) hH hpl hg hur hcc.1 hcc.2 (.flat rfl)
                  exact ⟨_, w', hr0 w' (fun a ha => by injection ha with ha; subst ha; exact hst) (fun h => by cases h), hO⟩
              · cases h
            · cases h
          · cases h
      · cases h
    · cases h
  · cases h

theorem aclear_run {t ty : TypeId} {x cx v : Value} {e : Eff} (hH : HRel E ρ g w) (h : aclear P g t x = some (v, e)) (hx : VRel ρ x cx) :
    ∃ cv w', (Builtin.clear_ #[t] ty #[cx]).run P w = .ok cv w' ∧ OpOk E ρ g w e nx v cv w' := by
  unfold aclear at h
  split at h
  · rename_i elem len c ht
    injection h with h; injection h with h1 h2; subst h1 h2
    obtain ⟨ca, cap, rfl, hlc, hsome, _⟩ := hx.slice_inv
    cases ca with
    | some a => simp at hsome
    | none => exact ⟨.tuple #[], w, by simp [Builtin.clear_, run_underlying ht], OpOk.still hH (SameHeap.refl w) (VRel.undef ρ)⟩
  · rename_i elem a c ht
    injection h with h; injection h with h1 h2; subst h1 h2
    obtain ⟨ca, cap, rfl, hlc, hsome, _⟩ := hx.slice_inv
    cases ca with
    | none => simp at hsome
    | some a => exact ⟨.tuple #[], w, by simp [Builtin.clear_, run_underlying ht], OpOk.still hH (SameHeap.refl w) (VRel.undef ρ)⟩
  · rename_i elem b off n c ht
    split at h
    · cases h
    rename_i hc0'
    split at h
    · rename_i z cs' esz hz hg
      split at h
      · rename_i hcc
        injection h with h; injection h with h1 h2; subst h1 h2
        obtain ⟨ca, cap, rfl, hlc, hsome, hshape⟩ := hx.slice_inv
        rcases hshape with ⟨h1, h2, _⟩ | ⟨b', off', pl, ca', he, hca2, hpl, hc, hca, hxx⟩
        · omega
        · subst hca2
          injection he with he; injection he with e1 e2; subst e1 e2
          have hca : ca' = ⟨pl.blk, pl.base + off, none⟩ := by rcases hca with h | h; exact h; omega
          subst hca
          have hok : (azeros z.cells.toList (n + 1)).all cellOk = true := by
            have : ∀ m, (azeros z.cells.toList m).all cellOk = true := by
              intro m
              induction m with
              | zero => rfl
              | succ m ih => simp only [azeros, List.all_append, hcc.2, ih, Bool.and_self]
            exact this _
          obtain ⟨w', hst, hO⟩ := put_ok (P := P) (nx := nx) (v := .tuple #[]) (cv := .tuple #[]) hH hpl hg (azeros_rel (azero_flat hz) (n + 1)) hcc.1 hok (VRel.undef ρ)
          refine ⟨.tuple #[], w', ?_, hO⟩
          simp only [Builtin.clear_, Sem.run_bind, List.getElem?_toArray, List.getElem?_cons_zero, run_underlying ht, Result.andThen_ok, run_azero hz, Sem.run_pure]
          rw [zeroCells_list, hst]
          rfl
      · cases h
    · cases h
  · cases h
end Go.Am
