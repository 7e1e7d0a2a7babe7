/- The frame of a claim, at arguments that are structs. -/
import Derived.Test.YtgngbcmhapmokaaDoorAmFrame
import Derived.Test.YtgngbcmhapmokaaDoorAmPure1
namespace Go.Am
open Go Go.ChangeShapes Go.WideShapes
theorem law_calls1 {E : AEnv} (hE : EnvOk E) {f : FuncId} {fn : Func} (hf : E.P.funcs[f]? = some fn) (hb : fn.body.isSome = true) (hsig : E.sig f = none) (k n : Nat) {args : List Value} {W : World} {Gs : List (Nat × List Value)}
    (hrun : ∀ om : Nat → Nat, ∃ h', acall E om k n (.fn f) args (H0 E.ng Gs) = some (.bool true, h')) (hflat : args.all flat1 = true)
    (hglob : ∀ x ∈ Gs, ∃ C T fz, W.heap[x.1]? = some (.cells C T fz) ∧ ∀ (i : Nat) (v : Value), x.2[i]? = some v → C[i]? = some v ∧ flat0 v = true) :
    Calls E.P f args.toArray W fun e W' => e = .returned (.bool true) ∧ OldKept W W' := by
  refine calls_of_run hE hf hb hsig k n (args := args) (h0 := H0 E.ng Gs) (ρ := fun b => if b < E.ng then some ⟨b, 0, (match Gs.find? (fun x => x.1 == b) with | some x => x.2.length | none => 0), 0⟩ else none) hrun ⟨fun b pl o q1 q2 q3 => ?_, fun b b' pl pl' o o' _ _ _ q2 _ q3 _ => ?_⟩ ?_ ?_ ?_ ?_
  · rw [H0_get] at q2
    split at q2
    · rename_i hb
      injection q2 with q2
      subst q2
      simp only [hb, if_true] at q1
      unfold gLook at q3 ⊢
      split at q3
      · rename_i x hx
        rw [hx] at q1
        simp only at q1
        injection q1 with q1; subst q1
        have hxb : x.1 = b := by have := List.find?_some hx; simpa using this
        obtain ⟨C, T, fz, h1, h2⟩ := hglob x (List.mem_of_find?_eq_some hx)
        rw [hxb] at h1
        refine ⟨_, h1, rfl, C, T, fz, rfl, Nat.le_refl _, ?_, fun i v hv => ?_, fun h => by cases h⟩
        · simp only [Nat.zero_add]
          cases hl : x.2.length with
          | zero => omega
          | succ m =>
            have hlt : m < x.2.length := by omega
            obtain ⟨h3, _⟩ := h2 m _ (List.getElem?_eq_getElem hlt)
            have := (Array.getElem?_eq_some_iff.1 h3).1
            omega
        · obtain ⟨h3, h4⟩ := h2 i v hv
          exact ⟨v, by simpa using h3, .flat h4⟩
      · cases q3
    · cases q2
  · rw [H0_get] at q2
    split at q2
    · injection q2 with q2
      subst q2
      unfold gLook at q3
      split at q3 <;> cases q3
    · cases q2
  · intro b hb
    have : ¬ b < E.ng := Nat.not_lt.2 hb
    simp only [this, if_false]
  · intro g hg
    exact ⟨_, if_pos hg, rfl, rfl⟩
  · simpa using LRel.flat1 (ρ := fun b => if b < E.ng then some ⟨b, 0, (match Gs.find? (fun x => x.1 == b) with | some x => x.2.length | none => 0), 0⟩ else none) (fun v hv => List.all_eq_true.1 hflat v hv)
  · intro b o hg
    rw [H0_get] at hg
    split at hg
    · injection hg with hg; subst hg
      unfold gLook
      split <;> rfl
    · cases hg

/-! ### The row's post -/
end Go.Am
