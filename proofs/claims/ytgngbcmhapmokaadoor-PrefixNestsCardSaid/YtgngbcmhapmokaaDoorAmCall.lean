/- The abstract machine and the model: calls. -/
import Derived.Test.YtgngbcmhapmokaaDoorAmSim2
namespace Go.Am
open Go

variable {E : AEnv}

/-- A function told by a plain function: its contract. -/
def SigOk (E : AEnv) (f : FuncId) (s : List Value → AHeap → Option (Value × AHeap)) : Prop := ∀ (args : List Value) (h : AHeap) (ρ : Pm) (lim : Lim) (w : World) (cargs : Array Value) (v : Value) (h' : AHeap),
  s args h = some (v, h') → Under h'.size lim → HRel E ρ h.get w → Free ρ h.size lim → GOk E ρ → LRel ρ args cargs.toList →
    FC E.P f cargs w fun cv w' => ∃ ρ', VRel ρ' v cv ∧ HRel E ρ' h'.get w' ∧ PmOut ρ ρ' h.size h'.size ∧ Step ρ h.get w ρ' h'.get w'

structure EnvOk (E : AEnv) : Prop where
  eqOk : EqOk E.P E.eqOk
  mixed : E.P.follows .mixedOrders = true
  code : ∀ f fn, E.sig f = none → E.P.funcs[f]? = some fn → funcOk E f fn = true
  sigKeep : SigKeep E
  sig : ∀ f s, E.sig f = some s → SigOk E f s

def resOf (tmps : Array Value) : ResultVar → Sem Value
  | .tmp t => Pure.pure (tmps.getD t Go.undef)
  | .cell b t => Instr.loadAt t (tmps.getD b Go.undef)

theorem aresult_run {nt : Nat} {lim : Lim} {ρ : Pm} {s : ASt} {a : Act} {w : World} (hR : SRel E nt lim ρ s a w) {r : ResultVar} {v : Value} (h : aresult E.P s r = some v) :
    ∃ cv, VRel ρ v cv ∧ (resOf a.tmps r).run E.P w = .ok cv w ∧ (∀ b t, r = .cell b t → ∃ q, a.tmps.getD b Go.undef = .pointer (some q)) := by
  cases r with
  | tmp t =>
    simp only [aresult] at h; injection h with h; subst h
    exact ⟨_, hR.tmps t, rfl, fun b t h => by cases h⟩
  | cell b t =>
    simp only [aresult] at h
    have hb := hR.tmps b
    obtain ⟨u, hu, hr⟩ := aload_run hR.heap h hb
    refine ⟨u, hu, hr, fun b' t' he => ?_⟩
    injection he with h1 h2; subst h1 h2
    cases hcb : a.tmps.getD b Go.undef with
    | pointer q =>
      cases q with
      | none => rw [hcb] at hr; simp only [Instr.loadAt, Instr.sureAddr, stuck, Sem.run_bind] at hr; cases hr
      | some q => exact ⟨q, rfl⟩
    | _ => rw [hcb] at hr; simp only [Instr.loadAt, Instr.sureAddr, stuck, Sem.run_bind] at hr; cases hr

theorem aresults_run {nt : Nat} {lim : Lim} {ρ : Pm} {s : ASt} {a : Act} {w : World} (hR : SRel E nt lim ρ s a w) {g : ResultVar → Sem Value} (hg : ∀ t, g (.tmp t) = resOf a.tmps (.tmp t)) (hg' : ∀ b t q, a.tmps.getD b Go.undef = .pointer (some q) → g (.cell b t) = loadVar t q) :
    ∀ {rs : List ResultVar} {vs : List Value}, aresults E.P s rs = some vs → ∃ cvs, LRel ρ vs cvs ∧ (rs.mapM g).run E.P w = .ok cvs w := by
  intro rs
  induction rs with
  | nil =>
    intro vs h
    simp only [aresults] at h; injection h with h; subst h
    exact ⟨[], LRel.nil ρ, by simp⟩
  | cons r rs ih =>
    intro vs h
    simp only [aresults] at h
    split at h
    · rename_i v vs' hv hvs
      injection h with h; subst h
      obtain ⟨cv, h1, h2, h3⟩ := aresult_run hR hv
      obtain ⟨cvs, h4, h5⟩ := ih hvs
      have h2' : (g r).run E.P w = .ok cv w := by
        cases r with
        | tmp t => rw [hg]; exact h2
        | cell b t =>
          obtain ⟨q, hq⟩ := h3 b t rfl
          rw [hg' b t q hq]
          simpa only [resOf, hq, Instr.loadAt, Instr.sureAddr, pure_bind] using h2
      exact ⟨cv :: cvs, LRel.cons h1 h4, by simp only [List.mapM_cons, Sem.run_bind, h2', h5, Result.andThen_ok, Sem.run_pure]⟩
    · cases h

theorem aret_run {nt : Nat} {lim : Lim} {ρ : Pm} {s : ASt} {a : Act} {w : World} {fn : Func} {v : Value} {h' : AHeap} (hR : SRel E nt lim ρ s a w) (h : aret E.P fn s = some (v, h')) :
    ∃ cv, VRel ρ v cv ∧ (results fn a.tmps).run E.P w = .ok cv w := by
  unfold aret at h
  have main : ∀ vs, aresults E.P s fn.results.toList = some vs → ∃ cvs, LRel ρ vs cvs ∧ (results fn a.tmps).run E.P w = .ok (if h : cvs.toArray.size = 1 then cvs.toArray[0] else .tuple cvs.toArray) w := by
    intro vs hvs
    unfold results
    simp only [Sem.run_bind]
    obtain ⟨cvs, h1, h2⟩ := aresults_run hR (g := fun
      | .tmp t => Pure.pure (a.tmps.getD t Go.undef)
      | .cell b t => do loadVar t (← asAddr (a.tmps.getD b Go.undef))) (fun t => rfl) (fun b t q hq => by simp only [hq, asAddr, pure_bind]) hvs
    refine ⟨cvs, h1, ?_⟩
    have h3 := run_mapM_array _ fn.results cvs h2
    erw [h3]
    rfl
  split at h
  · rename_i v1 hvs
    injection h with h; injection h with h _; subst h
    obtain ⟨cvs, h1, h2⟩ := main _ hvs
    obtain ⟨cv, l, rfl, h3, h4⟩ := h1.cons_inv
    have := h4.nil_inv; subst this
    exact ⟨cv, h3, by simpa using h2⟩
  · rename_i vs hne hvs
    injection h with h; injection h with h _; subst h
    obtain ⟨cvs, h1, h2⟩ := main _ hvs
    have hl : ¬ cvs.toArray.size = 1 := by
      intro h1'
      have := h1.1
      simp only [List.size_toArray] at h1'
      rw [h1'] at this
      match vs, this with
      | [x], _ => exact hne x rfl
    rw [dif_neg hl] at h2
    exact ⟨_, VRel.tuple_l (by simpa using h1), h2⟩
  · cases h

theorem acallF_sim (hE : EnvOk E) {call : (Nat → Nat) → ACall} (hC : CallSim E call) (hK : ∀ om, CallKeep (call om)) (k : Nat) (hD : ∀ nt lim f, nt ≤ 4000 → DrawSim E Fence.wide 0 nt lim f call)
    (f : FuncId) (args : List Value) (h : AHeap) (om : Nat → Nat) (ρ : Pm) (lim : Lim) (w : World) (cargs : Array Value)
    (hall : ∀ om', Agree h.oc om om' → ∃ v h', acallF E om' (call om') k f args h = some (v, h') ∧ Under h'.size lim) (hH : HRel E ρ h.get w) (hfree : Free ρ h.size lim) (hG : GOk E ρ) (hargs : LRel ρ args cargs.toList) :
    FC E.P f cargs w (CallPost E (fun om => acallF E om (call om) k f args h) om h ρ w) := by
  obtain ⟨v0, h0, hr0, hlim0⟩ := hall om (Agree.refl _ _)
  cases hs : E.sig f with
  | some s =>
    have he : ∀ om, acallF E om (call om) k f args h = s args h := fun om => by simp only [acallF, hs]
    rw [he] at hr0
    refine (hE.sig f s hs args h ρ lim w cargs v0 h0 hr0 hlim0 hH hfree hG hargs).mono ?_
    rintro cv w' ⟨ρ', h1, h2, h3, h4⟩
    exact ⟨om, v0, h0, ρ', Agree.refl _ _, fun om' _ => by show acallF E om' (call om') k f args h = _; rw [he]; exact hr0, h1, h2, h3, h4⟩
  | none =>
    cases hf : E.P.funcs[f]? with
    | none => simp [acallF, hs, hf] at hr0
    | some fn =>
      cases hb : fn.body with
      | none => simp [acallF, hs, hf, hb] at hr0
      | some c =>
        have he : ∀ om, acallF E om (call om) k f args h = (if args.length ≤ fn.ntmps then (match aexec E om (call om) k f c none (tini fn.ntmps args, h) with
          | some (.normal, s) => aret E.P fn s
          | some (.ret, s) => aret E.P fn s
          | _ => none) else none) := fun om => by simp only [acallF, hs, hf, hb]; rfl
        have hok := hE.code f fn hs hf
        simp only [funcOk, hb, Bool.and_eq_true, bne_iff_ne, ne_eq, decide_eq_true_eq] at hok
        obtain ⟨⟨hname, hnt⟩, hcode⟩ := hok
        have hlen : args.length ≤ fn.ntmps := by
          rw [he] at hr0
          split at hr0
          · assumption
          · cases hr0
        simp only [he, if_pos hlen] at hall ⊢
        have hcl : args.length = cargs.size := by have := hargs.1; simpa using this
        refine .inr ⟨?_, ?_⟩
        · have hn : (fn.name == "runtime.NumGoroutine") = false := by simpa using hname
          simp only [callFunc, Sem.run_bind, run_program, Result.andThen_ok, hf, hn, hb, Option.isNone_some, Bool.false_eq_true, if_false, Sem.run_pure]
        · refine callsIn_of_wp hf hb trivial ?_
          have hR : SRel E fn.ntmps lim ρ (tini fn.ntmps args, h) { tmps := cargs ++ Array.replicate (fn.ntmps - cargs.size) Go.undef, defers := [] } w := by
            refine ⟨?_, by simp; omega, hH, hfree, hG⟩
            have := TRel.start hargs (fn.ntmps - cargs.size) (by omega) hnt
            simpa using this
          refine wpIn_mono (aexec_sim Wd.wide hE.eqOk hC hK (k := k) (f := f) (lim := lim) hnt (hD _ _ _ hnt) c none c hcode rfl (tini fn.ntmps args, h) om ρ _ w hR (fun om' hag => ?_)) ?_
          · obtain ⟨v, h', h1, h2⟩ := hall om' hag
            split at h1
            · rename_i s hs'
              exact ⟨_, _, hs', by rw [← aret_heap h1]; exact h2⟩
            · rename_i s hs'
              exact ⟨_, _, hs', by rw [← aret_heap h1]; exact h2⟩
            · cases h1
          · rintro e a1 w1 ⟨ae, om1, s1, ρ1, rfl, h2, h3, h4, h5, h6, h7, h8, h9⟩
            obtain ⟨v, h', q1, q2⟩ := hall om1 h2
            have hx := h4 om1 (Agree.refl _ _)
            simp only at hx
            rw [hx] at q1
            have fin : (∀ om', aexec E om' (call om') k f c none (tini fn.ntmps args, h) = some (ae, s1) → (match aexec E om' (call om') k f c none (tini fn.ntmps args, h) with
                | some (.normal, s) => aret E.P fn s
                | some (.ret, s) => aret E.P fn s
                | _ => none) = aret E.P fn s1) → aret E.P fn s1 = some (v, h') → a1.defers = [] ∧ ∃ v, (results fn a1.tmps).run E.P w1 = .ok v w1 ∧ retPost (CallPost E (fun om => (match aexec E om (call om) k f c none (tini fn.ntmps args, h) with
                | some (.normal, s) => aret E.P fn s
                | some (.ret, s) => aret E.P fn s
                | _ => none)) om h ρ w) (.returned v) w1 := by
              intro hm har
              obtain ⟨cv, g1, g2⟩ := aret_run h5 har
              have hh := aret_heap har
              subst hh
              exact ⟨h6, cv, g2, om1, v, s1.2, ρ1, h2, fun om' hag => by
                have := h4 om' hag
                simp only at this
                simp only
                rw [hm om' this]; exact har, g1, h5.heap, h7, h9⟩
            cases ae with
            | normal => exact fin (fun om' h => by rw [h]) q1
            | ret => exact fin (fun om' h => by rw [h]) q1
            | exit id => cases q1
            | goto l => cases q1

theorem acall_sim (hE : EnvOk E) (hD : ∀ call : (Nat → Nat) → ACall, CallSim E call → (∀ om, CallKeep (call om)) → ∀ nt lim f, nt ≤ 4000 → DrawSim E Fence.wide 0 nt lim f call) (k : Nat) : ∀ n, CallSim E (fun om => acall E om k n) := by
  intro n
  induction n with
  | zero =>
    intro f args h om ρ lim w cargs hall
    obtain ⟨v, h', h1, _⟩ := hall om (Agree.refl _ _)
    simp [acall] at h1
  | succ n ih =>
    intro f args h om ρ lim w cargs hall hH hfree hG hargs
    have hK : ∀ om, CallKeep (acall E om k n) := fun om => acall_keep hE.sigKeep om k n
    exact acallF_sim hE ih hK k (hD _ ih hK) f args h om ρ lim w cargs (fun om' hag => hall om' hag) hH hfree hG hargs
end Go.Am
