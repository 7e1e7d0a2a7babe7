/- The abstract machine alone: what a run leaves as it was. -/
import Derived.Test.YtgngbcmhapmokaaDoorAmKeep
namespace Go.Am
open Go

variable {E : AEnv}

theorem get_push (h : AHeap) (o : AObj) (b : Nat) : (h.push o).get b = if b = h.size then some o else h.get b := by
  unfold AHeap.push AHeap.get
  simp only
  by_cases hb : b = h.size
  · subst hb; simp
  · rw [if_neg hb]
    by_cases hlt : b < h.size
    · rw [if_pos (by omega), if_pos hlt]
      obtain ⟨m, hm⟩ : ∃ m, h.size - 1 - b = m ∧ h.size + 1 - 1 - b = m + 1 := ⟨h.size - 1 - b, rfl, by omega⟩
      rw [hm.1, hm.2]; simp
    · rw [if_neg (by omega), if_neg hlt]
theorem get_put {h : AHeap} {b0 : Nat} {o0 : AObj} (hb : h.get b0 = some o0) (o : AObj) (b : Nat) : (h.put b0 o).get b = if b = b0 then some o else h.get b := by
  unfold AHeap.get at hb
  split at hb
  · rename_i hlt
    unfold AHeap.put AHeap.get
    simp only
    have hl := (List.getElem?_eq_some_iff.1 hb).1
    by_cases he : b = b0
    · subst he
      rw [if_pos hlt, if_pos rfl]
      simp [hl]
    · rw [if_neg he]
      by_cases hlt' : b < h.size
      · rw [if_pos hlt', if_pos hlt']
        rw [List.getElem?_set_ne (by omega)]
      · rw [if_neg hlt', if_neg hlt']
  · cases hb
theorem get_lt {h : AHeap} {b : Nat} {o : AObj} (hb : h.get b = some o) : b < h.size := by
  unfold AHeap.get at hb
  split at hb
  · assumption
  · cases hb
theorem get_none {h : AHeap} {b : Nat} (hb : h.size ≤ b) : h.get b = none := by
  unfold AHeap.get
  rw [if_neg (by omega)]

structure KeepR (h h' : AHeap) : Prop where
  size : h.size ≤ h'.size
  oc : h.oc ≤ h'.oc
  wm : h'.wm ≤ h.wm
  same : ∀ b, b < h.size → b < h'.wm → h'.get b = h.get b
theorem KeepR.refl (h : AHeap) : KeepR h h := ⟨Nat.le_refl _, Nat.le_refl _, Nat.le_refl _, fun _ _ _ => rfl⟩
theorem KeepR.trans {a b c : AHeap} (h : KeepR a b) (k : KeepR b c) : KeepR a c :=
  ⟨Nat.le_trans h.size k.size, Nat.le_trans h.oc k.oc, Nat.le_trans k.wm h.wm, fun x h1 h2 => by
    rw [k.same x (Nat.lt_of_lt_of_le h1 h.size) h2, h.same x h1 (Nat.lt_of_lt_of_le h2 k.wm)]⟩
theorem KeepR.push (h : AHeap) (o : AObj) : KeepR h (h.push o) :=
  ⟨by simp [AHeap.push], Nat.le_refl _, Nat.le_refl _, fun b h1 _ => by rw [get_push, if_neg (by omega)]⟩
theorem KeepR.put {h : AHeap} {b0 : Nat} {o0 : AObj} (hb : h.get b0 = some o0) (o : AObj) : KeepR h (h.put b0 o) := by
  refine ⟨Nat.le_refl _, Nat.le_refl _, ?_, fun b h1 h2 => ?_⟩
  · simp only [AHeap.put]; split <;> omega
  · rw [get_put hb, if_neg]
    intro he; subst he
    simp only [AHeap.put] at h2
    split at h2 <;> omega

/-- An effect, run. -/
theorem Eff.run_get {e : Eff} {h : AHeap} (hu : ∀ b o, e.upd = some (b, o) → ∃ o0, h.get b = some o0) (b : Nat) :
    (e.run h).get b = (match e.new with
      | some o => if b = h.size then some o else (match e.upd with | some (b0, o0) => if b = b0 then some o0 else h.get b | none => h.get b)
      | none => match e.upd with | some (b0, o0) => if b = b0 then some o0 else h.get b | none => h.get b) := by
  obtain ⟨upd, new, tick⟩ := e
  have tk : ∀ (x : AHeap), (if tick = true then { x with oc := x.oc + 1 } else x).get b = x.get b := by
    intro x; cases tick <;> rfl
  cases upd with
  | none =>
    cases new with
    | none => simp only [Eff.run, tk]
    | some o => simp only [Eff.run, tk, get_push]
  | some u =>
    obtain ⟨b0, o0⟩ := u
    obtain ⟨o1, h1⟩ := hu b0 o0 rfl
    cases new with
    | none => simp only [Eff.run, tk, get_put h1]
    | some o => simp only [Eff.run, tk, get_push, get_put h1]; rfl
theorem Eff.run_size (e : Eff) (h : AHeap) : (e.run h).size = h.size + (match e.new with | some _ => 1 | none => 0) := by
  obtain ⟨upd, new, tick⟩ := e
  have tk : ∀ (x : AHeap), (if tick = true then { x with oc := x.oc + 1 } else x).size = x.size := by intro x; cases tick <;> rfl
  cases upd <;> cases new <;> simp only [Eff.run, tk] <;> rfl
theorem Eff.run_oc (e : Eff) (h : AHeap) : (e.run h).oc = h.oc + (if e.tick then 1 else 0) := by
  obtain ⟨upd, new, tick⟩ := e
  have tk : ∀ (x : AHeap), (if tick = true then { x with oc := x.oc + 1 } else x).oc = x.oc + (if tick then 1 else 0) := by intro x; cases tick <;> rfl
  cases upd <;> cases new <;> simp only [Eff.run, tk] <;> rfl
theorem Eff.run_keep {e : Eff} {h : AHeap} (hu : ∀ b o, e.upd = some (b, o) → ∃ o0, h.get b = some o0) : KeepR h (e.run h) := by
  obtain ⟨upd, new, tick⟩ := e
  have tk : ∀ (x : AHeap), KeepR x (if tick = true then { x with oc := x.oc + 1 } else x) := by
    intro x
    cases tick
    · exact KeepR.refl x
    · exact ⟨Nat.le_refl _, Nat.le_succ _, Nat.le_refl _, fun _ _ _ => rfl⟩
  cases upd with
  | none =>
    cases new with
    | none => exact tk _
    | some o => exact (KeepR.push _ _).trans (tk _)
  | some u =>
    obtain ⟨b0, o0⟩ := u
    obtain ⟨o1, h1⟩ := hu b0 o0 rfl
    cases new with
    | none => exact (KeepR.put h1 _).trans (tk _)
    | some o => exact ((KeepR.put h1 _).trans (KeepR.push _ _)).trans (tk _)

def CallKeep (call : ACall) : Prop := ∀ f args h v h', call f args h = some (v, h') → KeepR h h'

/-- A call that is measured: what it leaves, and what its measure says. -/
theorem acallAt_keep {call : ACall} (hc : CallKeep call) {f : ACallee} {args : List Value} {h h' : AHeap} {v : Value} {ft : Foot} (hr : acallAt true call f args h = some (v, h', ft)) :
    KeepR h h' ∧ ft.rAll = true ∧ ft.whi = h.size ∧ (∀ b, b < h.size → b < ft.wlo → h'.get b = h.get b) := by
  unfold acallAt at hr
  simp only [if_true] at hr
  split at hr
  · rename_i v1 h1 hcall
    injection hr with hr
    injection hr with e1 e2
    injection e2 with e2 e3
    subst e1 e2 e3
    have hk := hc _ _ _ _ _ hcall
    refine ⟨⟨hk.size, hk.oc, ?_, fun b a1 a2 => ?_⟩, rfl, rfl, fun b a1 a2 => hk.same b a1 a2⟩
    · simp only; split <;> omega
    · refine hk.same b a1 ?_
      simp only at a2
      split at a2 <;> omega
  · cases hr

def hx (meas : Bool) (h : AHeap) : AHeap := if meas then { h with wm := h.size } else h
def hy (meas : Bool) (h h' : AHeap) : AHeap := if meas then { h' with wm := if h.wm < h'.wm then h.wm else h'.wm } else h'
def fy (meas : Bool) (h h' : AHeap) : Foot := if meas then ⟨true, [], [], h'.wm, h.size⟩ else Foot.none
theorem acallAt_eq (meas : Bool) (call : ACall) (f : ACallee) (args : List Value) (h : AHeap) : acallAt meas call f args h = match call f args (hx meas h) with | some (v, h') => some (v, hy meas h h', fy meas h h') | none => none := by
  cases meas <;> rfl
theorem hx_get (meas : Bool) (h : AHeap) : (hx meas h).get = h.get := by cases meas <;> rfl
theorem hx_size (meas : Bool) (h : AHeap) : (hx meas h).size = h.size := by cases meas <;> rfl
theorem hx_oc (meas : Bool) (h : AHeap) : (hx meas h).oc = h.oc := by cases meas <;> rfl
theorem hy_get (meas : Bool) (h h' : AHeap) : (hy meas h h').get = h'.get := by cases meas <;> rfl
theorem hy_size (meas : Bool) (h h' : AHeap) : (hy meas h h').size = h'.size := by cases meas <;> rfl
theorem hy_oc (meas : Bool) (h h' : AHeap) : (hy meas h h').oc = h'.oc := by cases meas <;> rfl

theorem acallAt_keepR {meas : Bool} {call : ACall} (hc : CallKeep call) {f : ACallee} {args : List Value} {h h' : AHeap} {v : Value} {ft : Foot} (hr : acallAt meas call f args h = some (v, h', ft)) : KeepR h h' := by
  cases meas with
  | true => exact (acallAt_keep hc hr).1
  | false =>
    unfold acallAt at hr
    simp only [Bool.false_eq_true, if_false] at hr
    split at hr
    · rename_i v1 h1 hcall
      injection hr with hr; injection hr with e1 e2; injection e2 with e2 e3; subst e1 e2 e3
      exact hc _ _ _ _ _ hcall
    · cases hr

/-- One operation: what it leaves; what it turns. -/
structure StepKeep (P : Program) (o : Oper) (h h' : AHeap) (ft : Foot) : Prop where
  keep : KeepR h h'
  turned : ∀ b, b < h.size → h'.get b ≠ h.get b → b ∈ ft.ws ∨ (ft.wlo ≤ b ∧ b < ft.whi)
  quiet : touch P o.op = .no → ft.rs = [] ∧ ft.ws = [] ∧ ft.rAll = false
  reads : touch P o.op ≠ .writes → ft.ws = [] ∧ ¬ ft.wlo < ft.whi

theorem astep_keep {om : Nat → Nat} {call : ACall} (hc : CallKeep call) {o : Oper} {ev : Operand → Value} {share : Bool} {h h' : AHeap} {v : Value} {ft : Foot} (hr : astep E om true call o ev share h = some (v, h', ft)) :
    StepKeep E.P o h h' ft := by
  have fromCall : ∀ {f args}, touch E.P o.op = .writes → acallAt true call f args h = some (v, h', ft) → StepKeep E.P o h h' ft := by
    intro f args ht hr
    obtain ⟨h1, h2, h3, h4⟩ := acallAt_keep hc hr
    refine ⟨h1, fun b hb hne => .inr ⟨?_, by omega⟩, (fun h => by rw [ht] at h; cases h), fun h => absurd ht h⟩
    exact Nat.le_of_not_lt fun hlt => hne (h4 b hb hlt)
  unfold astep at hr
  split at hr
  · rename_i f args argTypes hop
    have ht : touch E.P o.op = .writes := by rw [hop]; rfl
    split at hr
    · exact fromCall ht hr
    · exact fromCall ht hr
    · cases hr
  · rename_i hop
    split at hr
    · rename_i v1 e hop'
      injection hr with hr
      injection hr with e1 e2
      injection e2 with e2 e3
      subst e1 e2 e3
      have hu : ∀ b o', e.upd = some (b, o') → ∃ o0, h.get b = some o0 := fun b o' hu => (aop_upd hop' hu).2
      have ht := aop_touch hop'
      refine ⟨Eff.run_keep hu, fun b hb hne => .inl ?_, fun h => ⟨(ht.1 h).1, (ht.1 h).2, ht.2.2.1⟩, fun h => ⟨?_, by rw [ht.2.2.2.1, ht.2.2.2.2]; omega⟩⟩
      · rw [Eff.run_get hu] at hne
        cases hupd : e.upd with
        | none =>
          rw [hupd] at hne
          exfalso; apply hne
          cases e.new with
          | none => rfl
          | some o => simp only; rw [if_neg (by omega)]
        | some u =>
          obtain ⟨b0, o0⟩ := u
          by_cases hbb : b = b0
          · subst hbb; exact (aop_upd hop' hupd).1
          · exfalso; apply hne
            rw [hupd]
            cases e.new with
            | none => simp only; rw [if_neg hbb]
            | some o => simp only; rw [if_neg (by omega), if_neg hbb]
      · cases htt : touch E.P o.op with
        | no => exact (ht.1 htt).2
        | reads => exact ht.2.1 htt
        | writes => exact absurd htt h
    · cases hr

theorem astep_keepR {meas : Bool} {om : Nat → Nat} {call : ACall} (hc : CallKeep call) {o : Oper} {ev : Operand → Value} {share : Bool} {h h' : AHeap} {v : Value} {ft : Foot} (hr : astep E om meas call o ev share h = some (v, h', ft)) : KeepR h h' := by
  unfold astep at hr
  split at hr
  · split at hr
    · exact acallAt_keepR hc hr
    · exact acallAt_keepR hc hr
    · cases hr
  · split at hr
    · rename_i v1 e hop'
      injection hr with hr
      injection hr with e1 e2
      injection e2 with e2 e3
      subst e1 e2 e3
      exact Eff.run_keep fun b o' hu => (aop_upd hop' hu).2
    · cases hr

theorem aops_keep {meas : Bool} {om : Nat → Nat} {call : ACall} (hc : CallKeep call) {f rid : Nat} {ops : Array Oper} : ∀ (l : List Oper) (i : Nat) (tm : Tm) (h : AHeap) (ft : List Foot) (tm' : Tm) (h' : AHeap) (ft' : List Foot),
    aops E om meas call f rid ops l i tm h ft = some (tm', h', ft') → KeepR h h' := by
  intro l
  induction l with
  | nil =>
    intro i tm h ft tm' h' ft' hr
    simp only [aops] at hr
    injection hr with hr; injection hr with _ hr; injection hr with hr _; subst hr
    exact KeepR.refl h
  | cons o l ih =>
    intro i tm h ft tm' h' ft' hr
    simp only [aops] at hr
    split at hr
    · split at hr
      · rename_i v h1 t hs
        exact (astep_keepR hc hs).trans (ih _ _ _ _ _ _ _ hr)
      · cases hr
    · exact ih _ _ _ _ _ _ _ hr

theorem aregion_keep {om : Nat → Nat} {call : ACall} (hc : CallKeep call) {f rid : Nat} {ops : Array Oper} {draw : Bool} {s s' : ASt} (hr : aregion E om call f rid ops draw s = some s') : KeepR s.2 s'.2 := by
  unfold aregion at hr
  split at hr
  · rename_i tm h ft ho
    have := aops_keep hc _ _ _ _ _ _ _ _ ho
    split at hr
    · split at hr
      · injection hr with hr; subst hr; exact this
      · cases hr
    · injection hr with hr; subst hr; exact this
  · cases hr

def BodyKeep (body : ASt → Option (AExit × ASt)) : Prop := ∀ s e s', body s = some (e, s') → KeepR s.2 s'.2
theorem aloop_keep {body : ASt → Option (AExit × ASt)} (hb : BodyKeep body) : ∀ k, BodyKeep (aloop body k) := by
  intro k
  induction k with
  | zero => intro s e s' h; simp [aloop] at h
  | succ k ih =>
    intro s e s' h
    simp only [aloop] at h
    split at h
    · rename_i s1 hs
      exact (hb _ _ _ hs).trans (ih _ _ _ h)
    · exact hb _ _ _ h
theorem ascope_keep {body : Option Nat → ASt → Option (AExit × ASt)} (hb : ∀ l, BodyKeep (body l)) : ∀ k l, BodyKeep (ascope body k l) := by
  intro k
  induction k with
  | zero => intro l s e s' h; simp [ascope] at h
  | succ k ih =>
    intro l s e s' h
    simp only [ascope] at h
    split at h
    · rename_i l' s1 hs
      exact (hb _ _ _ _ hs).trans (ih _ _ _ _ h)
    · exact hb _ _ _ _ h

theorem aexec_keep {om : Nat → Nat} {call : ACall} (hc : CallKeep call) (k f : Nat) : ∀ (c : Code) (l : Option Nat), BodyKeep (aexec E om call k f c l) := by
  intro c
  induction c with
  | skip =>
    intro l s e s' h
    cases l with
    | none => simp only [aexec] at h; injection h with h; injection h with _ h; subst h; exact KeepR.refl _
    | some l => simp [aexec] at h
  | region id ops draw =>
    intro l s e s' h
    cases l with
    | none =>
      simp only [aexec] at h
      obtain ⟨s1, h1, h2⟩ := Option.map_eq_some_iff.1 h
      injection h2 with _ h2; subst h2
      exact aregion_keep hc h1
    | some l => simp [aexec] at h
  | seq a b iha ihb =>
    intro l s e s' h
    cases l with
    | none =>
      simp only [aexec] at h
      split at h
      · rename_i s1 hs
        exact (iha _ _ _ _ hs).trans (ihb _ _ _ _ h)
      · exact iha _ _ _ _ h
    | some l =>
      simp only [aexec] at h
      split at h
      · split at h
        · rename_i s1 hs
          exact (iha _ _ _ _ hs).trans (ihb _ _ _ _ h)
        · exact iha _ _ _ _ h
      · exact ihb _ _ _ _ h
  | cond c t e iht ihe =>
    intro l s e' s' h
    cases l with
    | none =>
      simp only [aexec] at h
      split at h
      · exact iht _ _ _ _ h
      · exact ihe _ _ _ _ h
      · cases h
    | some l => simp [aexec] at h
  | block id b ih =>
    intro l s e s' h
    cases l with
    | none =>
      simp only [aexec] at h
      split at h
      · rename_i id' s1 hs
        split at h
        · injection h with h; injection h with _ h; subst h; exact ih _ _ _ _ hs
        · injection h with h; injection h with _ h; subst h; exact ih _ _ _ _ hs
      · exact ih _ _ _ _ h
    | some l => simp [aexec] at h
  | loop b ih =>
    intro l s e s' h
    cases l with
    | none => simp only [aexec] at h; exact aloop_keep (ih none) k _ _ _ h
    | some l => simp [aexec] at h
  | rangeFunc g ps a b iha ihb =>
    intro l s e s' h
    cases l with
    | none =>
      simp only [aexec] at h
      split at h
      · split at h
        · rename_i v h2 hcall
          have hk := hc _ _ _ _ _ hcall
          split at h
          · rename_i f' tm' ps' as' bd' st pend hg
            split at h
            · cases h
            · injection h with h; injection h with _ h; subst h
              exact (((KeepR.push _ _).trans (KeepR.push _ _)).trans hk).trans (KeepR.put hg _)
          · cases h
        · cases h
      · cases h
    | some l => simp [aexec] at h
  | exit id =>
    intro l s e s' h
    cases l with
    | none => simp only [aexec] at h; injection h with h; injection h with _ h; subst h; exact KeepR.refl _
    | some l => simp [aexec] at h
  | scope b ih =>
    intro l s e s' h
    cases l with
    | none => simp only [aexec] at h; exact ascope_keep ih k none _ _ _ h
    | some l => simp [aexec] at h
  | label l' =>
    intro l s e s' h
    cases l with
    | none => simp only [aexec] at h; injection h with h; injection h with _ h; subst h; exact KeepR.refl _
    | some l =>
      simp only [aexec] at h
      split at h
      · injection h with h; injection h with _ h; subst h; exact KeepR.refl _
      · cases h
  | goto l' =>
    intro l s e s' h
    cases l with
    | none => simp only [aexec] at h; injection h with h; injection h with _ h; subst h; exact KeepR.refl _
    | some l => simp [aexec] at h
  | ret =>
    intro l s e s' h
    cases l with
    | none => simp only [aexec] at h; injection h with h; injection h with _ h; subst h; exact KeepR.refl _
    | some l => simp [aexec] at h
  | refuse why =>
    intro l s e s' h
    cases l <;> simp [aexec] at h

theorem around_keep {om : Nat → Nat} {call : ACall} (hc : CallKeep call) {k l : Nat} {args : List Value} {h h' : AHeap} {v : Value} (hr : around E om call k l args h = some (v, h')) : KeepR h h' := by
  unfold around at hr
  split at hr
  · rename_i f tm ps a b st pd hg
    split at hr
    · split at hr
      · rename_i tm1 h1 ha
        have k1 := aexec_keep hc k f a none _ _ _ ha
        split at hr
        · rename_i f1 t1 p1 a1 b1 pd1 hg1
          split at hr
          · rename_i e tm3 h3 hb
            have k2 := aexec_keep hc k f b none _ _ _ hb
            split at hr
            · rename_i f4 t4 p4 a4 b4 st4 pd4 hg4
              injection hr with hr; injection hr with _ hr; subst hr
              exact ((k1.trans (KeepR.put hg1 _)).trans k2).trans (KeepR.put hg4 _)
            · cases hr
          · cases hr
        · cases hr
      · cases hr
    · cases hr
  · cases hr

theorem aret_heap {P : Program} {fn : Func} {s : ASt} {v : Value} {h : AHeap} (hr : aret P fn s = some (v, h)) : h = s.2 := by
  unfold aret at hr
  split at hr
  · injection hr with hr; injection hr with _ hr; exact hr.symm
  · injection hr with hr; injection hr with _ hr; exact hr.symm
  · cases hr

def SigKeep (E : AEnv) : Prop := ∀ f s, E.sig f = some s → ∀ args h v h', s args h = some (v, h') → KeepR h h'

theorem acallF_keep (hS : SigKeep E) {om : Nat → Nat} {call : ACall} (hc : CallKeep call) {k : Nat} {f : FuncId} {args : List Value} {h h' : AHeap} {v : Value} (hr : acallF E om call k f args h = some (v, h')) : KeepR h h' := by
  unfold acallF at hr
  split at hr
  · rename_i s hs
    exact hS f s hs _ _ _ _ hr
  · split at hr
    · split at hr
      · split at hr
        · split at hr
          · rename_i s he
            have := aexec_keep hc k f _ none _ _ _ he
            rw [aret_heap hr]; exact this
          · rename_i s he
            have := aexec_keep hc k f _ none _ _ _ he
            rw [aret_heap hr]; exact this
          · cases hr
        · cases hr
      · cases hr
    · cases hr

theorem acall_keep (hS : SigKeep E) (om : Nat → Nat) (k : Nat) : ∀ n, CallKeep (acall E om k n) := by
  intro n
  induction n with
  | zero => intro f args h v h' hr; simp [acall] at hr
  | succ n ih =>
    intro f args h v h' hr
    cases f with
    | fn f => exact acallF_keep hS ih hr
    | yield l => exact around_keep ih hr
end Go.Am
