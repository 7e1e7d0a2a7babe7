/- The abstract machine and the model: a region in its text's order; calls. -/
import Derived.Test.YtgngbcmhapmokaaDoorAmOps6
import Derived.Test.YtgngbcmhapmokaaDoorAmKeep2
import Derived.Test.YtgngbcmhapmokaaDoorAmScope
import Derived.TacticsIn
namespace Go.Am
open Go

variable {E : AEnv}

def toExit : AExit → Exit
  | .normal => .normal
  | .exit id => .exit id
  | .goto l => .goto l
  | .ret => .ret

/-- New numbers alone are given new places. -/
def PmOut (ρ ρ' : Pm) (lo hi : Nat) : Prop := ∀ b, b < lo ∨ hi ≤ b → ρ' b = ρ b
theorem PmOut.refl (ρ : Pm) (lo hi : Nat) : PmOut ρ ρ lo hi := fun _ _ => rfl
theorem PmOut.trans {a b c : Pm} {x y z : Nat} (h : PmOut a b x y) (k : PmOut b c y z) (hxy : x ≤ y) (hyz : y ≤ z) : PmOut a c x z := fun i hi => by
  rw [k i (by omega), h i (by omega)]
abbrev Lim := Nat → Prop
def Under (n : Nat) (lim : Lim) : Prop := ∀ b, b < n → lim b
theorem Under.le {a b : Nat} {lim : Lim} (h : a ≤ b) (k : Under b lim) : Under a lim := fun x hx => k x (by omega)
def Free (ρ : Pm) (lo : Nat) (lim : Lim) : Prop := ∀ b, lo ≤ b → lim b → ρ b = none
theorem Free.out {ρ ρ' : Pm} {lo hi : Nat} {lim : Lim} (h : Free ρ lo lim) (k : PmOut ρ ρ' lo hi) (hl : lo ≤ hi) : Free ρ' hi lim := fun b h1 h2 => by
  rw [k b (.inr h1)]; exact h b (by omega) h2

/-- The globals' places. -/
def GOk (E : AEnv) (ρ : Pm) : Prop := ∀ g, g < E.ng → ∃ pl, ρ g = some pl ∧ pl.blk = g ∧ pl.base = 0
theorem GOk.mono {ρ ρ' : Pm} (hp : PmLe ρ ρ') (h : GOk E ρ) : GOk E ρ' := fun g hg => let ⟨pl, a, b⟩ := h g hg; ⟨pl, hp _ _ a, b⟩

theorem evRel {ρ : Pm} {tm : Tm} {a : Act} {ops : Array Operand} (hT : TRel ρ tm a.tmps) (hG : GOk E ρ) (ho : ops.toList.all (operandOk E.ng) = true) : EvRel ρ ops (aeval tm) a.eval := by
  intro x hx
  have hx := List.all_eq_true.1 ho x (by simpa using hx)
  cases x with
  | tmp t => exact hT t
  | const v => exact .flat hx
  | global g =>
    obtain ⟨pl, h1, h2, h3⟩ := hG g (by simpa [operandOk] using hx)
    have := VRel.ptr (b := g) (off := 0) h1
    rw [h2, h3] at this
    exact this
  | func f => exact .func (.func f) rfl (fun i h => absurd h (by simp)) rfl (fun i h => absurd h (by simp))

theorem yielded_eq {ρ : Pm} {tm : Tm} {a : Array Value} {ops : Array Oper} (hT : TRel ρ tm a) (j : Nat) : yielded ops a j = ayielded ops tm j := by
  unfold yielded ayielded
  cases hd : (ops[j]?).bind (·.dst) with
  | none => rfl
  | some t =>
    have h := hT t
    simp only [Option.bind_some, Option.map_some]
    cases hq : a[t]? with
    | none =>
      have he : a.getD t Go.undef = Go.undef := by simp [hq]
      rw [he] at h
      generalize tget 12 tm t = v at h
      cases v <;> first | rfl | (cases h; done)
    | some u =>
      have he : a.getD t Go.undef = u := by simp [hq]
      rw [he] at h
      generalize tget 12 tm t = v at h
      cases u with
      | bool b => cases h; rfl
      | _ => cases v <;> first | rfl | (cases h; done)

/-- What is asked of the world around. -/
structure Wd (F : Fence) : Prop where
  fn : ∀ f, F.fn f
  depth : F.depth = none
  conv : ∀ {P : Program} {f : FuncId} {args : Array Value} {w : World} {R : Ending → World → Prop} (n : Nat), CallsIn Fence.wide 0 P f args w R → CallsIn F n P f args w R
theorem Wd.wide : Wd Fence.wide := ⟨fun _ => trivial, rfl, fun _ h => ⟨h.1, fun cs _ => h.2 cs (room_wide _)⟩⟩
theorem Wd.inRound (l : Nat) : Wd (Fence.wide.inRound l) := ⟨fun _ => trivial, rfl, fun _ h => ⟨h.1, fun cs _ => h.2 cs (room_wide _)⟩⟩

def retPost (R : Value → World → Prop) : Ending → World → Prop
  | .returned v, w => R v w
  | _, _ => False
/-- A function is called, and it comes back. -/
def FC (P : Program) (f : FuncId) (args : Array Value) (w : World) (R : Value → World → Prop) : Prop :=
  (∃ v w', (callFunc f args).run P w = .ok (.value v) w' ∧ R v w') ∨ ((callFunc f args).run P w = .ok (.enter f args) w ∧ CallsIn Fence.wide 0 P f args w (retPost R))
theorem FC.mono {P : Program} {f : FuncId} {args : Array Value} {w : World} {R R' : Value → World → Prop} (h : FC P f args w R) (hr : ∀ v w, R v w → R' v w) : FC P f args w R' := by
  rcases h with ⟨v, w', h1, h2⟩ | ⟨h1, h2⟩
  · exact .inl ⟨v, w', h1, hr _ _ h2⟩
  · exact .inr ⟨h1, CallsIn.mono h2 fun e w' he => by cases e <;> first | exact hr _ _ he | exact he⟩

/-- A run whose outcome no oracle behind its end can turn. -/
def Det {α : Type} (f : (Nat → Nat) → Option α) (om : Nat → Nat) (n : Nat) (r : α) : Prop := ∀ om', Agree n om om' → f om' = some r

/-- A state, on both sides. -/
structure SRel (E : AEnv) (nt : Nat) (lim : Lim) (ρ : Pm) (s : ASt) (a : Act) (w : World) : Prop where
  tmps : TRel ρ s.1 a.tmps
  size : a.tmps.size = nt
  heap : HRel E ρ s.2.get w
  free : Free ρ s.2.size lim
  glob : GOk E ρ

/-- What a call comes to. -/
def CallPost (E : AEnv) (call : (Nat → Nat) → Option (Value × AHeap)) (om : Nat → Nat) (h : AHeap) (ρ : Pm) (w : World) (cv : Value) (w' : World) : Prop :=
  ∃ om' v h' ρ', Agree h.oc om om' ∧ Det call om' h'.oc (v, h') ∧ VRel ρ' v cv ∧ HRel E ρ' h'.get w' ∧ PmOut ρ ρ' h.size h'.size ∧ Step ρ h.get w ρ' h'.get w'
def CallSim (E : AEnv) (call : (Nat → Nat) → ACall) : Prop := ∀ (f : FuncId) (args : List Value) (h : AHeap) (om : Nat → Nat) (ρ : Pm) (lim : Lim) (w : World) (cargs : Array Value),
  (∀ om', Agree h.oc om om' → ∃ v h', call om' (.fn f) args h = some (v, h') ∧ Under h'.size lim) → HRel E ρ h.get w → Free ρ h.size lim → GOk E ρ → LRel ρ args cargs.toList →
    FC E.P f cargs w (CallPost E (fun om => call om (.fn f) args h) om h ρ w)

theorem HRel.look {ρ : Pm} {g g' : Look} {w : World} (h : HRel E ρ g w) (he : g = g') : HRel E ρ g' w := he ▸ h

/-- An operation in its text's order, where it is wanted. -/
theorem astep_sim {meas : Bool} {F : Fence} {n : Nat} (hF : Wd F) (hok : EqOk E.P E.eqOk) {call : (Nat → Nat) → ACall} (hC : CallSim E call) (hK : ∀ om, CallKeep (call om)) {o : Oper} {nt : Nat} {lim : Lim} {ρ : Pm} {tm : Tm} {h : AHeap} {a : Act} {w : World} {om : Nat → Nat} {share : Bool}
    {K : Act → World → Prop} {Q : Exit → Act → World → Prop} (hR : SRel E nt lim ρ (tm, h) a w) (hops : o.op.operands.toList.all (operandOk E.ng) = true)
    (hall : ∀ om', Agree h.oc om om' → ∃ v h' ft, astep E om' meas (call om') o (aeval tm) share h = some (v, h', ft) ∧ Under h'.size lim)
    (hk : ∀ om' v h' ft ρ' cv w', Agree h.oc om om' → h.oc ≤ h'.oc → Det (fun om => astep E om meas (call om) o (aeval tm) share h) om' h'.oc (v, h', ft) → VRel ρ' v cv → HRel E ρ' h'.get w' → PmOut ρ ρ' h.size h'.size → h.size ≤ h'.size →
      Step ρ h.get w ρ' h'.get w' → K (a.put o.dst cv) w') :
    o.wpIn F n E.P a w K Q := by
  have hev : EvRel ρ o.op.operands (aeval tm) a.eval := evRel hR.tmps hR.glob hops
  refine ⟨fun f _ => hF.fn f, ?_⟩
  by_cases hcall : ∃ f args argTypes, o.op = .call { callee := .value f, args := args, argTypes := argTypes }
  · obtain ⟨f, args, argTypes, hop⟩ := hcall
    have hsem : o.semAt F.round a.eval = execOp a.eval o := Oper.semAt_eq _ _ _ (by rw [hop]; intro c hc; cases hc)
    rw [hsem]
    rw [hop] at hev
    simp only [Op.operands, Call.operands] at hev
    have hfv : VRel ρ (aeval tm f) (a.eval f) := hev f (by simp)
    have hargs : LRel ρ (args.toList.map (aeval tm)) (args.map a.eval).toList := by
      rw [Array.toList_map]; exact EvRel.list fun x hx => hev x (by simp; exact .inr (by simpa using hx))
    have hst : ∀ om', astep E om' meas (call om') o (aeval tm) share h = (match aeval tm f with
        | .func (.func g) first captured => acallAt meas (call om') (.fn g) (first.toList ++ args.toList.map (aeval tm) ++ captured.toList) h
        | .func (.yield l) ⟨[]⟩ ⟨[]⟩ => acallAt meas (call om') (.yield l) (args.toList.map (aeval tm)) h
        | _ => none) := by intro om'; unfold astep; rw [hop]; rfl
    cases hfq : aeval tm f with
    | func fn first captured =>
      cases fn with
      | func g =>
        have hst' : ∀ om', astep E om' meas (call om') o (aeval tm) share h = acallAt meas (call om') (.fn g) (first.toList ++ args.toList.map (aeval tm) ++ captured.toList) h := by
          intro om'; rw [hst, hfq]
        rw [hfq] at hfv
        generalize hcf : a.eval f = cf at hfv
        cases hfv with
        | flat hf => simp [flat0] at hf
        | @func _ f' _ ys _ ds hfr hs1 hs2 hs3 hs4 =>
          have hf' := hfr.inv_func
          subst hf'
          have hl1 : LRel ρ first.toList ys.toList := ⟨by simpa using hs1, fun i h1 h2 => by simpa using hs2 i (by simpa using h1) (by simpa using h2)⟩
          have hl3 : LRel ρ captured.toList ds.toList := ⟨by simpa using hs3, fun i h1 h2 => by simpa using hs4 i (by simpa using h1) (by simpa using h2)⟩
          have hexec : execOp a.eval o = callFunc g (ys ++ args.map a.eval ++ ds) := by
            unfold execOp
            rw [hop]
            simp only [resolve, hcf, Deferred.ofValue, invoke]
            rfl
          rw [hexec]
          have hfc := hC g (first.toList ++ args.toList.map (aeval tm) ++ captured.toList) (hx meas h) om ρ lim w (ys ++ args.map a.eval ++ ds)
            (fun om' hag => by
              rw [hx_oc] at hag
              obtain ⟨v, h', ft, h1, h2⟩ := hall om' hag
              rw [hst', acallAt_eq] at h1
              split at h1
              · rename_i v1 h1' hc1
                injection h1 with h1; injection h1 with e1 e2; injection e2 with e2 e3; subst e1 e2
                exact ⟨_, _, hc1, by rw [hy_size] at h2; exact h2⟩
              · cases h1)
            (by rw [hx_get]; exact hR.heap) (by rw [hx_size]; exact hR.free) hR.glob (by simp only [Array.toList_append]; exact (hl1.append hargs).append hl3)
          have fin : ∀ cv w', CallPost E (fun om => call om (.fn g) (first.toList ++ args.toList.map (aeval tm) ++ captured.toList) (hx meas h)) om (hx meas h) ρ w cv w' → K (a.put o.dst cv) w' := by
            rintro cv w' ⟨om', v, h', ρ', c1, c2, c3, c4, c5, c6⟩
            have hkeep := hK om' _ _ _ _ _ (c2 om' (Agree.refl _ _))
            have ksz := hkeep.size
            have koc := hkeep.oc
            rw [hx_size] at ksz c5
            rw [hx_oc] at koc c1
            rw [hx_get] at c6
            refine hk om' v (hy meas h h') (fy meas h h') ρ' cv w' c1 (by rw [hy_oc]; exact koc) (fun om'' hag => ?_) c3 (by rw [hy_get]; exact c4) (by rw [hy_size]; exact c5) (by rw [hy_size]; exact ksz) (by rw [hy_get]; exact c6)
            show astep E om'' meas (call om'') o (aeval tm) share h = _
            rw [hst', acallAt_eq]
            rw [hy_oc] at hag
            have := c2 om'' hag
            simp only at this
            rw [this]
          rcases hfc with ⟨cv, w', h1, h2⟩ | ⟨h1, h2⟩
          · rw [h1]; exact fin _ _ h2
          · rw [h1]
            refine ⟨(fun hd => by rw [hF.depth] at hd; cases hd), ?_⟩
            refine CallsIn.mono (hF.conv _ h2) fun e w' he => ?_
            cases e with
            | returned v => exact fin _ _ he
            | panicked c => exact he.elim
            | outgrown => exact he.elim
      | yield l =>
        rw [hfq] at hfv
        generalize a.eval f = cf at hfv
        cases hfv with
        | flat hf => simp [flat0] at hf
        | func hfr => cases hfr
      | _ =>
        obtain ⟨v, h', ft, h1, _⟩ := hall om (Agree.refl _ _)
        rw [hst, hfq] at h1; cases h1
    | _ =>
      obtain ⟨v, h', ft, h1, _⟩ := hall om (Agree.refl _ _)
      rw [hst, hfq] at h1; cases h1
  · have hst : ∀ om', astep E om' meas (call om') o (aeval tm) share h = (match aop E om' o (aeval tm) share h.get h.size h.oc with | some (v, e) => some (v, e.run h, afoot o (aeval tm) h.get) | none => none) := by
      intro om'
      unfold astep
      split
      · rename_i f args argTypes hop; exact absurd ⟨f, args, argTypes, hop⟩ hcall
      · rfl
    have hsome : ∀ om', Agree h.oc om om' → ∃ v e, aop E om' o (aeval tm) share h.get h.size h.oc = some (v, e) ∧ Under (e.run h).size lim := by
      intro om' hag
      obtain ⟨v, h', ft, h1, h2⟩ := hall om' hag
      rw [hst] at h1
      split at h1
      · rename_i v1 e1 he
        injection h1 with h1; injection h1 with q1 q2; injection q2 with q2 q3; subst q1 q2
        exact ⟨_, _, he, h2⟩
      · cases h1
    have hsem : o.semAt F.round a.eval = execOp a.eval o := by
      refine Oper.semAt_eq _ _ _ (fun c hc => ?_)
      obtain ⟨v, e, h1, _⟩ := hsome om (Agree.refl _ _)
      unfold aop at h1
      rw [hc] at h1
      cases h1
    rw [hsem]
    obtain ⟨om', hag, v, e, hdet, ⟨⟨nxt, cv, w', hrun, hnxt, ⟨⟨ρ', hv, hH', hst', hout, hout'⟩⟩⟩⟩⟩ := aop_run (om := om) (o := o) (ev := aeval tm) (cev := a.eval) (share := share) (oc := h.oc) (nx := h.size) hok hR.heap (fun om' v e hag he hnew => by
        obtain ⟨v', e', h1, h2⟩ := hsome om' hag
        rw [he] at h1; injection h1 with h1; injection h1 with h1 h3; subst h1 h3
        rw [Eff.run_size] at h2
        refine hR.free h.size (Nat.le_refl _) (h2 _ ?_)
        cases hne : e.new with
        | none => exact absurd hne hnew
        | some _ => simp only; omega) hev (fun om' hag => by
        obtain ⟨v, e, h1, _⟩ := hsome om' hag
        rw [h1]; rfl)
    have hup : ∀ b o', e.upd = some (b, o') → ∃ o0, h.get b = some o0 := fun b o' hu => (aop_upd (hdet om' (Agree.refl _ _)) hu).2
    have hlook : e.look h.get h.size = (e.run h).get := by
      funext b
      rw [Eff.run_get hup]
      rfl
    have hsz := Eff.run_size e h
    have hkeep := Eff.run_keep hup
    have hpo : PmOut ρ ρ' h.size (e.run h).size := by
      intro b hb
      by_cases hbn : b = h.size
      · subst hbn
        cases hne : e.new with
        | none => exact hout' hne
        | some _ => rw [hne] at hsz; simp only at hsz; omega
      · exact hout b hbn
    rw [hlook] at hH' hst'
    have hfin := hk om' v (e.run h) (afoot o (aeval tm) h.get) ρ' cv w' hag hkeep.oc (fun om'' hag' => by
      show astep E om'' meas (call om'') o (aeval tm) share h = _
      rw [hst, hdet om'' (by rw [Eff.run_oc] at hag'; exact hag')]) hv hH' hpo hkeep.size hst'
    rw [hrun]
    rcases hnxt with rfl | ⟨rfl, rfl⟩
    · exact hfin
    · exact hfin

/-! ### A region in its text's order -/
theorem put_rel {ρ : Pm} {tm : Tm} {a : Act} {dst : Option Tmp} {v cv : Value} {nt : Nat} (hT : TRel ρ tm a.tmps) (hs : a.tmps.size = nt) (hd : dstOk nt dst = true) (hn : nt ≤ 4000) (hv : VRel ρ v cv) :
    TRel ρ (aputT tm dst v) (a.put dst cv).tmps ∧ (a.put dst cv).tmps.size = nt ∧ (a.put dst cv).defers = a.defers := by
  cases dst with
  | none => exact ⟨hT, hs, rfl⟩
  | some d =>
    have hlt : d < nt := by simpa [dstOk] using hd
    exact ⟨hT.put (by rw [hs]; exact hlt) (by rw [hs]; exact hn) hv, by simp [Act.put, hs], rfl⟩

def opsOk (ng nt : Nat) (o : Oper) : Bool := o.op.operands.toList.all (operandOk ng) && dstOk nt o.dst

theorem aops_sim {meas : Bool} {F : Fence} {n : Nat} (hF : Wd F) (hok : EqOk E.P E.eqOk) {call : (Nat → Nat) → ACall} (hC : CallSim E call) (hK : ∀ om, CallKeep (call om)) {f rid nt : Nat} {lim : Lim} (hnt : nt ≤ 4000) {ops : Array Oper} {Q : Exit → Act → World → Prop} :
    ∀ (l : List Oper) (i : Nat) (ρ : Pm) (tm : Tm) (h : AHeap) (ft : List Foot) (a : Act) (w : World) (om : Nat → Nat), l.all (opsOk E.ng nt) = true → SRel E nt lim ρ (tm, h) a w →
    (∀ om', Agree h.oc om om' → ∃ tm' h' ft', aops E om' meas (call om') f rid ops l i tm h ft = some (tm', h', ft') ∧ Under h'.size lim) →
    (∀ om' tm' h' ft' ρ' a' w', Agree h.oc om om' → h.oc ≤ h'.oc → Det (fun om => aops E om meas (call om) f rid ops l i tm h ft) om' h'.oc (tm', h', ft') → SRel E nt lim ρ' (tm', h') a' w' → a'.defers = a.defers → PmOut ρ ρ' h.size h'.size → h.size ≤ h'.size →
      Step ρ h.get w ρ' h'.get w' → Q .normal a' w') →
    wpListIn F n E.P ops Q l a w := by
  intro l
  induction l with
  | nil =>
    intro i ρ tm h ft a w om _ hR _ hk
    exact hk om tm h ft ρ a w (Agree.refl _ _) (Nat.le_refl _) (fun om' _ => rfl) hR rfl (PmOut.refl _ _ _) (Nat.le_refl _) (Step.refl _ _ _)
  | cons o l ih =>
    intro i ρ tm h ft a w om hl hR hall hk
    simp only [List.all_cons, Bool.and_eq_true] at hl
    obtain ⟨ho, hl⟩ := hl
    simp only [opsOk, Bool.and_eq_true] at ho
    have hy : yielded ops a.tmps = ayielded ops tm := funext fun j => yielded_eq hR.tmps j
    simp only [wpListIn, hy]
    simp only [aops] at hall hk
    by_cases hw : Region.wanted o (ayielded ops tm) = true
    · simp only [hw, if_true] at hall hk ⊢
      refine astep_sim (meas := meas) hF hok hC hK (om := om) (share := E.share f rid i) hR ho.1 (fun om' hag => ?_) ?_
      · obtain ⟨tm', h', ft', h1, h2⟩ := hall om' hag
        split at h1
        · rename_i v h1' t hs
          exact ⟨v, h1', t, hs, Under.le (aops_keep (hK om') _ _ _ _ _ _ _ _ h1).size h2⟩
        · cases h1
      · intro om' v h1 t ρ1 cv w1 hag hoc hdet hv hH1 hpo hsz hst
        have hp := put_rel (dst := o.dst) (hR.tmps.mono hst.le) hR.size ho.2 hnt hv
        refine ih (i + 1) ρ1 (aputT tm o.dst v) h1 (t :: ft) (a.put o.dst cv) w1 om' hl ⟨hp.1, hp.2.1, hH1, hR.free.out hpo hsz, hR.glob.mono hst.le⟩ (fun om'' hag' => ?_) ?_
        · obtain ⟨tm', h', ft', q1, q2⟩ := hall om'' (hag.trans hag' hoc)
          have := hdet om'' hag'
          simp only at this
          rw [this] at q1
          exact ⟨tm', h', ft', q1, q2⟩
        · intro om'' tm' h' ft' ρ' a' w' hag' hoc' hdet' hR' hdf hpo' hsz' hst'
          refine hk om'' tm' h' ft' ρ' a' w' (hag.trans hag' hoc) (Nat.le_trans hoc hoc') (fun om3 hag3 => ?_) hR' (by rw [hdf, hp.2.2]) (hpo.trans hpo' hsz hsz') (Nat.le_trans hsz hsz') (hst.trans hst')
          have e1 := hdet om3 (hag'.trans (hag3.mono hoc') (Nat.le_refl _))
          have e2 := hdet' om3 hag3
          simp only at e1 e2
          simp only [e1, e2]
    · simp only [hw, Bool.false_eq_true, if_false] at hall hk ⊢
      refine ⟨fun f _ => hF.fn f, ?_⟩
      have hp := put_rel (dst := o.dst) hR.tmps hR.size ho.2 hnt (VRel.undef ρ)
      refine ih (i + 1) ρ (aputT tm o.dst Go.undef) h (Foot.none :: ft) (a.put o.dst Go.undef) w om hl ⟨hp.1, hp.2.1, hR.heap, hR.free, hR.glob⟩ hall ?_
      intro om'' tm' h' ft' ρ' a' w' hag' hoc' hdet' hR' hdf hpo' hsz' hst'
      exact hk om'' tm' h' ft' ρ' a' w' hag' hoc' hdet' hR' (by rw [hdf, hp.2.2]) hpo' hsz' hst'
end Go.Am
