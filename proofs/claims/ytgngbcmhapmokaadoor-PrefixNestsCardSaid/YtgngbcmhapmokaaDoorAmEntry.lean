/- The abstract machine and the model: from a run of the machine to a call's contract. -/
import Derived.Test.YtgngbcmhapmokaaDoorAmSound
namespace Go.Am
open Go

variable {E : AEnv}

/-- Nothing that was there is turned. -/
structure OldKept (W W' : World) : Prop where
  os : W'.os = W.os
  output : W'.output = W.output
  size : W.heap.size ≤ W'.heap.size
  old : ∀ i, i < W.heap.size → W'.heap[i]? = W.heap[i]?

/-- **From the machine's run to the call's contract**: a law: whatever the oracles, it answers 'true'; what it is handed is not the machine's own. -/
theorem calls_of_run (hE : EnvOk E) {f : FuncId} {fn : Func} (hf : E.P.funcs[f]? = some fn) (hb : fn.body.isSome = true) (hsig : E.sig f = none) (k n : Nat) {args : List Value} {cargs : Array Value} {h0 : AHeap} {ρ : Pm} {W : World}
    (hres : ∀ om : Nat → Nat, ∃ h', acall E om k n (.fn f) args h0 = some (.bool true, h')) (hH : HRel E ρ h0.get W) (hfree : ∀ b, h0.size ≤ b → ρ b = none) (hG : GOk E ρ) (hargs : LRel ρ args cargs.toList)
    (hro : ∀ b o, h0.get b = some o → o.owned = false) : Calls E.P f cargs W fun e W' => e = .returned (.bool true) ∧ OldKept W W' := by
  have hfc := sound hE k n f args h0 (fun _ => 0) ρ (fun _ => True) W cargs (fun om' _ => let ⟨h', h⟩ := hres om'; ⟨_, h', h, fun _ _ => trivial⟩) hH (fun b hb _ => hfree b hb) hG hargs
  have hok := hE.code f fn hsig hf
  rcases hfc with ⟨v, w', h1, _⟩ | ⟨_, h2⟩
  · obtain ⟨c, hc⟩ := Option.isSome_iff_exists.1 hb
    simp only [funcOk, hc, Bool.and_eq_true, bne_iff_ne, ne_eq] at hok
    have hn : (fn.name == "runtime.NumGoroutine") = false := by simpa using hok.1.1
    simp only [callFunc, Sem.run_bind, run_program, Result.andThen_ok, hf, hn, hc, Option.isNone_some, Bool.false_eq_true, if_false, Sem.run_pure] at h1
    injection h1 with h1 _
    cases h1
  · refine (callsIn_wide.1 h2).mono fun e W' he => ?_
    cases e with
    | returned v =>
      obtain ⟨om', v', h', ρ', _, c2, c3, _, _, c6⟩ := he
      obtain ⟨h'', hq⟩ := hres om'
      have := c2 om' (Agree.refl _ _)
      simp only at this
      rw [hq] at this
      injection this with this; injection this with q1 _
      subst q1
      rw [c3.bool_inv]
      exact ⟨rfl, c6.os, c6.output, c6.size, fun i hi => c6.frame i hi fun b pl o _ h2 h3 => by rw [hro b o h2] at h3; cases h3⟩
    | panicked c => exact he.elim
    | outgrown => exact he.elim

/-- What is asked of the environment, of a list of functions. -/
theorem EnvOk.mk' (hq : EqOk E.P E.eqOk) (hm : E.P.follows .mixedOrders = true) (L : List Nat) (hL : (L.all fun f => match E.P.funcs[f]? with | some fn => funcOk E f fn | none => true) = true) (hs : ∀ f, E.sig f = none → f ∈ L) (hk : SigKeep E)
    (hsig : ∀ f s, E.sig f = some s → SigOk E f s) : EnvOk E := by
  refine ⟨hq, hm, fun f fn h1 h2 => ?_, hk, hsig⟩
  rw [List.all_eq_true] at hL
  have := hL f (hs f h1)
  rw [h2] at this
  exact this
end Go.Am
