/- The abstract machine alone: no oracle behind a run's end turns the run. -/
import Derived.Test.YtgngbcmhapmokaaDoorAmKeep2
import Derived.Test.YtgngbcmhapmokaaDoorAmSim2
namespace Go.Am
open Go

variable {E : AEnv}

def CallLoc (call : (Nat → Nat) → ACall) : Prop := ∀ om om' f args h v h', call om f args h = some (v, h') → Agree h'.oc om om' → call om' f args h = some (v, h')

theorem anext_locom {om om' : Nat → Nat} {look : Look} {oc : Nat} {it : Value} {s : Bool} {v : Value} {e : Eff} (h : anext om look oc it s = some (v, e)) (ha : Agree (oc + (if e.tick then 1 else 0)) om om') : anext om' look oc it s = some (v, e) := by
  unfold anext at h ⊢
  split at h
  · split at h
    · exact h
    · exact h
    · rename_i m since seen last hg
      split at h
      · rename_i es clock hgm
        split at h
        · cases h
        · rename_i hs
          rw [if_neg hs]
          by_cases hn : (acands es since seen).length ≤ 1
          · simp only [if_pos hn] at h ⊢
            exact h
          · have ht : e.tick = true := by
              simp only [if_neg hn] at h
              split at h
              · injection h with h; injection h with _ h; subst h; simp; omega
              · injection h with h; injection h with _ h; subst h; simp; omega
              · cases h
            rw [ht] at ha
            have := ha oc (by simp)
            simp only [if_neg hn] at h ⊢
            rw [this]
            exact h
      · cases h
    · cases h
  · cases h

theorem aop_locom {om om' : Nat → Nat} {o : Oper} {ev : Operand → Value} {share : Bool} {look : Look} {nx oc : Nat} {v : Value} {e : Eff} (h : aop E om o ev share look nx oc = some (v, e)) (ha : Agree (oc + (if e.tick then 1 else 0)) om om') :
    aop E om' o ev share look nx oc = some (v, e) := by
  by_cases hnext : ∃ it s, o.op = .next it s
  · obtain ⟨it, s, hop⟩ := hnext
    have he : ∀ om, aop E om o ev share look nx oc = anext om look oc (ev it) s := by intro om; unfold aop; rw [hop]
    rw [he] at h ⊢
    exact anext_locom h ha
  · rw [← aop_om (om := om) (fun it s hop => hnext ⟨it, s, hop⟩)]; exact h

theorem acallAt_loc {meas : Bool} {call : (Nat → Nat) → ACall} (hL : CallLoc call) {om om' : Nat → Nat} {f : ACallee} {args : List Value} {h h' : AHeap} {v : Value} {ft : Foot} (hr : acallAt meas (call om) f args h = some (v, h', ft)) (ha : Agree h'.oc om om') :
    acallAt meas (call om') f args h = some (v, h', ft) := by
  rw [acallAt_eq] at hr ⊢
  split at hr
  · rename_i v1 h1 hc
    injection hr with hr
    injection hr with e1 e2
    injection e2 with e2 e3
    subst e1 e2 e3
    rw [hy_oc] at ha
    rw [hL om om' _ _ _ _ _ hc ha]
  · cases hr

theorem astep_loc {meas : Bool} {call : (Nat → Nat) → ACall} (hL : CallLoc call) {om om' : Nat → Nat} {o : Oper} {ev : Operand → Value} {share : Bool} {h h' : AHeap} {v : Value} {ft : Foot} (hr : astep E om meas (call om) o ev share h = some (v, h', ft)) (ha : Agree h'.oc om om') :
    astep E om' meas (call om') o ev share h = some (v, h', ft) := by
  unfold astep at hr ⊢
  split at hr
  · split at hr
    · exact acallAt_loc hL hr ha
    · exact acallAt_loc hL hr ha
    · cases hr
  · split at hr
    · rename_i v1 e he
      injection hr with hr
      injection hr with e1 e2
      injection e2 with e2 e3
      subst e1 e2 e3
      rw [Eff.run_oc] at ha
      rw [aop_locom he ha]
    · cases hr

theorem aops_loc {meas : Bool} {call : (Nat → Nat) → ACall} (hL : CallLoc call) (hK : ∀ om, CallKeep (call om)) {om om' : Nat → Nat} {f rid : Nat} {ops : Array Oper} : ∀ (l : List Oper) (i : Nat) (tm : Tm) (h : AHeap) (ft : List Foot) (tm' : Tm) (h' : AHeap) (ft' : List Foot),
    aops E om meas (call om) f rid ops l i tm h ft = some (tm', h', ft') → Agree h'.oc om om' → aops E om' meas (call om') f rid ops l i tm h ft = some (tm', h', ft') := by
  intro l
  induction l with
  | nil => intro i tm h ft tm' h' ft' hr _; exact hr
  | cons o l ih =>
    intro i tm h ft tm' h' ft' hr ha
    simp only [aops] at hr ⊢
    split at hr
    · rename_i hw
      rw [if_pos hw]
      split at hr
      · rename_i v h1 t hs
        have hk := aops_keep (hK om) _ _ _ _ _ _ _ _ hr
        rw [astep_loc hL hs (ha.mono hk.oc)]
        exact ih _ _ _ _ _ _ _ hr ha
      · cases hr
    · rename_i hw
      rw [if_neg hw]
      exact ih _ _ _ _ _ _ _ hr ha

theorem aregion_loc {call : (Nat → Nat) → ACall} (hL : CallLoc call) (hK : ∀ om, CallKeep (call om)) {om om' : Nat → Nat} {f rid : Nat} {ops : Array Oper} {draw : Bool} {s s' : ASt} (hr : aregion E om (call om) f rid ops draw s = some s') (ha : Agree s'.2.oc om om') :
    aregion E om' (call om') f rid ops draw s = some s' := by
  unfold aregion at hr ⊢
  split at hr
  · rename_i tm h ft ho
    have e : s'.2 = h := by
      split at hr
      · split at hr
        · injection hr with hr; subst hr; rfl
        · cases hr
      · injection hr with hr; subst hr; rfl
    rw [e] at ha
    rw [aops_loc hL hK _ _ _ _ _ _ _ _ ho ha]
    exact hr
  · cases hr

def RunLoc (run : (Nat → Nat) → ASt → Option (AExit × ASt)) : Prop := ∀ om om' s e s', run om s = some (e, s') → Agree s'.2.oc om om' → run om' s = some (e, s')

theorem aloop_loc {run : (Nat → Nat) → ASt → Option (AExit × ASt)} (hr : RunLoc run) (hk : ∀ om, BodyKeep (run om)) : ∀ k, RunLoc (fun om s => aloop (run om) k s) := by
  intro k
  induction k with
  | zero => intro om om' s e s' h; simp [aloop] at h
  | succ k ih =>
    intro om om' s e s' h ha
    simp only [aloop] at h ⊢
    split at h
    · rename_i s1 hs
      rw [hr om om' _ _ _ hs (ha.mono (aloop_keep (hk om) k _ _ _ h).oc)]
      exact ih om om' _ _ _ h ha
    · rename_i hne
      rw [hr om om' _ _ _ h ha]
      cases e with
      | normal => exact absurd h (hne s')
      | _ => rfl
theorem ascope_loc {run : Option Nat → (Nat → Nat) → ASt → Option (AExit × ASt)} (hr : ∀ l, RunLoc (run l)) (hk : ∀ l om, BodyKeep (run l om)) : ∀ k l, RunLoc (fun om s => ascope (fun l => run l om) k l s) := by
  intro k
  induction k with
  | zero => intro l om om' s e s' h; simp [ascope] at h
  | succ k ih =>
    intro l om om' s e s' h ha
    simp only [ascope] at h ⊢
    split at h
    · rename_i l' s1 hs
      rw [hr l om om' _ _ _ hs (ha.mono (ascope_keep (fun l => hk l om) k _ _ _ _ h).oc)]
      exact ih (some l') om om' _ _ _ h ha
    · rename_i hne
      rw [hr l om om' _ _ _ h ha]
      cases e with
      | goto l' => exact absurd h (hne l' s')
      | _ => rfl

theorem seq_loc {run1 run2 : (Nat → Nat) → ASt → Option (AExit × ASt)} (h1 : RunLoc run1) (h2 : RunLoc run2) (hk : ∀ om, BodyKeep (run2 om)) : RunLoc (fun om s => match run1 om s with | some (.normal, s') => run2 om s' | r => r) := by
  intro om om' s e s' h ha
  simp only at h ⊢
  split at h
  · rename_i s1 hs
    rw [h1 om om' _ _ _ hs (ha.mono (hk om _ _ _ h).oc)]
    exact h2 om om' _ _ _ h ha
  · rename_i hne
    rw [h1 om om' _ _ _ h ha]
    cases e with
    | normal => exact absurd h (hne s')
    | _ => rfl

theorem aexec_loc {call : (Nat → Nat) → ACall} (hL : CallLoc call) (hK : ∀ om, CallKeep (call om)) (k f : Nat) : ∀ (c : Code) (l : Option Nat), RunLoc (fun om s => aexec E om (call om) k f c l s) := by
  have hX : ∀ (c : Code) (l : Option Nat) (om : Nat → Nat), BodyKeep (aexec E om (call om) k f c l) := fun c l om => aexec_keep (hK om) k f c l
  intro c
  induction c with
  | region id ops draw =>
    intro l om om' s e s' h ha
    cases l with
    | none =>
      simp only [aexec] at h ⊢
      obtain ⟨s1, h1, h2⟩ := Option.map_eq_some_iff.1 h
      injection h2 with h2 h3; subst h2 h3
      rw [aregion_loc hL hK h1 ha]; rfl
    | some l => simp [aexec] at h
  | seq a b iha ihb =>
    intro l
    cases l with
    | none =>
      have := seq_loc (iha none) (ihb none) (fun om => hX b none om)
      intro om om' s e s' h ha
      simp only [aexec] at h ⊢
      exact this om om' s e s' h ha
    | some l =>
      intro om om' s e s' h ha
      simp only [aexec] at h ⊢
      split at h
      · rename_i hl
        rw [if_pos hl]
        exact seq_loc (iha (some l)) (ihb none) (fun om => hX b none om) om om' s e s' h ha
      · rename_i hl
        rw [if_neg hl]
        exact ihb (some l) om om' s e s' h ha
  | cond c t e iht ihe =>
    intro l om om' s e' s' h ha
    cases l with
    | none =>
      simp only [aexec] at h ⊢
      split at h
      · exact iht none om om' _ _ _ h ha
      · exact ihe none om om' _ _ _ h ha
      · cases h
    | some l => simp [aexec] at h
  | block id b ih =>
    intro l om om' s e s' h ha
    cases l with
    | none =>
      simp only [aexec] at h ⊢
      split at h
      · rename_i id' s1 hs
        have : s1 = s' := by
          split at h
          · injection h with h; injection h with _ h
          · injection h with h; injection h with _ h
        subst this
        have := ih none om om' _ _ _ hs ha
        simp only at this
        rw [this]; exact h
      · rename_i hne
        have := ih none om om' _ _ _ h ha
        simp only at this
        rw [this]
        cases e with
        | exit id' => exact absurd h (hne id' s')
        | _ => rfl
    | some l => simp [aexec] at h
  | loop b ih =>
    intro l om om' s e s' h ha
    cases l with
    | none =>
      simp only [aexec] at h ⊢
      exact aloop_loc (ih none) (fun om => hX b none om) k om om' s e s' h ha
    | some l => simp [aexec] at h
  | rangeFunc g ps a b _ _ =>
    intro l om om' s e s' h ha
    cases l with
    | none =>
      simp only [aexec] at h ⊢
      split at h
      · split at h
        · rename_i v h2 hcall
          split at h
          · rename_i f' tm' ps' as' bd' st pend hg
            split at h
            · cases h
            · rename_i hst
              have hh := h
              injection h with h; injection h with _ h; subst h
              rw [hL om om' _ _ _ _ _ hcall ha]
              simp only [hg, if_neg hst]
              exact hh
          · cases h
        · cases h
      · cases h
    | some l => simp [aexec] at h
  | scope b ih =>
    intro l om om' s e s' h ha
    cases l with
    | none =>
      simp only [aexec] at h ⊢
      exact ascope_loc (run := fun l om s => aexec E om (call om) k f b l s) ih (fun l om => hX b l om) k none om om' s e s' h ha
    | some l => simp [aexec] at h
  | _ => intro l om om' s e s' h ha; cases l <;> first | exact h | (simp [aexec] at h; done) | (simp only [aexec] at h ⊢; exact h)

theorem around_loc {call : (Nat → Nat) → ACall} (hL : CallLoc call) (hK : ∀ om, CallKeep (call om)) {k l : Nat} {om om' : Nat → Nat} {args : List Value} {h h' : AHeap} {v : Value} (hr : around E om (call om) k l args h = some (v, h')) (ha : Agree h'.oc om om') :
    around E om' (call om') k l args h = some (v, h') := by
  unfold around at hr ⊢
  split at hr
  · rename_i f tm ps a b st pd hg
    split at hr
    · rename_i hlen
      rw [if_pos hlen]
      split at hr
      · rename_i tm1 h1 hx
        split at hr
        · rename_i f1 t1 p1 a1 b1 pd1 hg1
          split at hr
          · rename_i e tm3 h3 hb
            split at hr
            · rename_i f4 t4 p4 a4 b4 st4 pd4 hg4
              have hh := hr
              injection hr with hr; injection hr with _ hr; subst hr
              have ha : Agree h3.oc om om' := ha
              have k2 := aexec_keep (hK om) k f b none _ _ _ hb
              have q1 := aexec_loc hL hK k f a none om om' _ _ _ hx (ha.mono (show h1.oc ≤ h3.oc from k2.oc))
              have q2 := aexec_loc hL hK k f b none om om' _ _ _ hb ha
              simp only at q1 q2
              rw [q1]
              simp only [hg1, q2, hg4]
              exact hh
            · cases hr
          · cases hr
        · cases hr
      · cases hr
    · cases hr
  · cases hr

theorem acallF_loc {call : (Nat → Nat) → ACall} (hL : CallLoc call) (hK : ∀ om, CallKeep (call om)) {k : Nat} {f : FuncId} {om om' : Nat → Nat} {args : List Value} {h h' : AHeap} {v : Value} (hr : acallF E om (call om) k f args h = some (v, h')) (ha : Agree h'.oc om om') :
    acallF E om' (call om') k f args h = some (v, h') := by
  unfold acallF at hr ⊢
  split at hr
  · exact hr
  · split at hr
    · rename_i fn hf
      split at hr
      · rename_i c hb
        split at hr
        · rename_i hlen
          rw [if_pos hlen]
          split at hr
          · rename_i s hs
            have := aexec_loc hL hK k f c none om om' _ _ _ hs (by rw [← aret_heap hr]; exact ha)
            simp only at this
            rw [this]; exact hr
          · rename_i s hs
            have := aexec_loc hL hK k f c none om om' _ _ _ hs (by rw [← aret_heap hr]; exact ha)
            simp only at this
            rw [this]; exact hr
          · cases hr
        · cases hr
      · cases hr
    · cases hr

theorem acall_loc (hS : SigKeep E) (k : Nat) : ∀ n, CallLoc (fun om => acall E om k n) := by
  intro n
  induction n with
  | zero => intro om om' f args h v h' hr; simp [acall] at hr
  | succ n ih =>
    intro om om' f args h v h' hr ha
    cases f with
    | fn f => exact acallF_loc (call := fun om => acall E om k n) ih (fun om => acall_keep hS om k n) hr ha
    | yield l => exact around_loc (call := fun om => acall E om k n) ih (fun om => acall_keep hS om k n) hr ha
end Go.Am
