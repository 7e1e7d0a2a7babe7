/- The abstract machine: an environment whose summaries stand in a table. -/
import Derived.Test.YtgngbcmhapmokaaDoorAmPure1
namespace Go.Am
open Go
abbrev Sg := List Value → AHeap → Option (Value × AHeap)
def sigOf (T : List (Nat × Sg)) (L : List Nat) (f : FuncId) : Option Sg :=
  match T.find? (fun x => x.1 == f) with
  | some x => some x.2
  | none => if f ∈ L then none else some (fun _ _ => none)
def SigGood (E : AEnv) (x : Nat × Sg) : Prop := (∀ args h v h', x.2 args h = some (v, h') → KeepR h h') ∧ SigOk E x.1 x.2
theorem sgood_nil {E : AEnv} : ∀ x ∈ ([] : List (Nat × Sg)), SigGood E x := fun _ h => nomatch h
theorem sgood {E : AEnv} {f : Nat} {s : Sg} {T : List (Nat × Sg)} (hk : ∀ args h v h', s args h = some (v, h') → KeepR h h') (hs : SigOk E f s) (hT : ∀ x ∈ T, SigGood E x) : ∀ x ∈ (f, s) :: T, SigGood E x :=
  List.forall_mem_cons.2 ⟨⟨hk, hs⟩, hT⟩
theorem EnvOk.table {E : AEnv} {T : List (Nat × Sg)} {L : List Nat} (hsig : E.sig = sigOf T L) (hq : EqOk E.P E.eqOk) (hm : E.P.follows .mixedOrders = true)
    (hL : (L.all fun f => match E.P.funcs[f]? with | some fn => funcOk E f fn | none => true) = true) (hT : ∀ x ∈ T, SigGood E x) : EnvOk E := by
  refine EnvOk.mk' hq hm L hL (fun f hf => ?_) (fun f s hs => ?_) (fun f s hs => ?_)
  · rw [hsig] at hf
    unfold sigOf at hf
    cases hq : T.find? (fun x => x.1 == f) with
    | some x => rw [hq] at hf; cases hf
    | none =>
      rw [hq] at hf
      by_cases h : f ∈ L
      · exact h
      · simp only [if_neg h] at hf; cases hf
  · rw [hsig] at hs
    unfold sigOf at hs
    cases hq : T.find? (fun x => x.1 == f) with
    | some x => rw [hq] at hs; injection hs with hs; subst hs; exact (hT x (List.mem_of_find?_eq_some hq)).1
    | none =>
      rw [hq] at hs
      by_cases h : f ∈ L
      · simp only [if_pos h] at hs; cases hs
      · simp only [if_neg h] at hs; injection hs with hs; subst hs; intro _ _ _ _ h; cases h
  · rw [hsig] at hs
    unfold sigOf at hs
    cases hq : T.find? (fun x => x.1 == f) with
    | some x =>
      rw [hq] at hs; injection hs with hs; subst hs
      have := (hT x (List.mem_of_find?_eq_some hq)).2
      have e : x.1 = f := by have := List.find?_some hq; simpa using this
      rw [e] at this; exact this
    | none =>
      rw [hq] at hs
      by_cases h : f ∈ L
      · simp only [if_pos h] at hs; cases hs
      · simp only [if_neg h] at hs; injection hs with hs; subst hs; intro _ _ _ _ _ _ _ _ h; cases h
end Go.Am
