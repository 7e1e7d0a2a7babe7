/- The abstract machine and the model: code. -/
import Derived.Test.YtgngbcmhapmokaaDoorAmSim
namespace Go.Am
open Go

variable {E : AEnv}

/-- What a stretch of code comes to. -/
def CPost (E : AEnv) (nt : Nat) (lim : Lim) (run : (Nat → Nat) → Option (AExit × ASt)) (om : Nat → Nat) (s : ASt) (ρ : Pm) (a : Act) (w : World) : Exit → Act → World → Prop := fun e a' w' =>
  ∃ ae om' s' ρ', e = toExit ae ∧ Agree s.2.oc om om' ∧ s.2.oc ≤ s'.2.oc ∧ Det run om' s'.2.oc (ae, s') ∧ SRel E nt lim ρ' s' a' w' ∧ a'.defers = a.defers ∧ PmOut ρ ρ' s.2.size s'.2.size ∧ s.2.size ≤ s'.2.size ∧
    Step ρ s.2.get w ρ' s'.2.get w'
def CodeSim (E : AEnv) (F : Fence) (n nt : Nat) (lim : Lim) (run : (Nat → Nat) → ASt → Option (AExit × ASt)) (c : Code) : Prop := ∀ (s : ASt) (om : Nat → Nat) (ρ : Pm) (a : Act) (w : World), SRel E nt lim ρ s a w →
  (∀ om', Agree s.2.oc om om' → ∃ ae s', run om' s = some (ae, s') ∧ Under s'.2.size lim) → c.wpIn F n E.P (CPost E nt lim (fun om => run om s) om s ρ a w) a w

/-- One stretch behind another. -/
theorem CPost.bind {nt : Nat} {lim : Lim} {whole run1 run2 : (Nat → Nat) → Option (AExit × ASt)} {om om1 : Nat → Nat} {s s1 : ASt} {ρ ρ1 : Pm} {a a1 : Act} {w w1 : World} {ae1 : AExit} {e : Exit} {a2 : Act} {w2 : World}
    (hw : ∀ om, run1 om = some (ae1, s1) → whole om = run2 om) (hag : Agree s.2.oc om om1) (hoc : s.2.oc ≤ s1.2.oc) (hdet : Det run1 om1 s1.2.oc (ae1, s1)) (hdf : a1.defers = a.defers) (hpo : PmOut ρ ρ1 s.2.size s1.2.size) (hsz : s.2.size ≤ s1.2.size)
    (hst : Step ρ s.2.get w ρ1 s1.2.get w1) (h : CPost E nt lim run2 om1 s1 ρ1 a1 w1 e a2 w2) : CPost E nt lim whole om s ρ a w e a2 w2 := by
  obtain ⟨ae, om', s', ρ', h1, h2, h3, h4, h5, h6, h7, h8, h9⟩ := h
  refine ⟨ae, om', s', ρ', h1, hag.trans h2 hoc, Nat.le_trans hoc h3, fun om'' hag' => ?_, h5, h6.trans hdf, hpo.trans h7 hsz h8, Nat.le_trans hsz h8, hst.trans h9⟩
  rw [hw om'' (hdet om'' (h2.trans (hag'.mono h3) (Nat.le_refl _)))]
  exact h4 om'' hag'
theorem CPost.map {nt : Nat} {lim : Lim} {whole run1 : (Nat → Nat) → Option (AExit × ASt)} {om om1 : Nat → Nat} {s s1 : ASt} {ρ ρ1 : Pm} {a a1 : Act} {w w1 : World} {ae1 ae2 : AExit} {e : Exit}
    (hw : ∀ om, run1 om = some (ae1, s1) → whole om = some (ae2, s1)) (he : e = toExit ae2) (hag : Agree s.2.oc om om1) (hoc : s.2.oc ≤ s1.2.oc) (hdet : Det run1 om1 s1.2.oc (ae1, s1)) (hR : SRel E nt lim ρ1 s1 a1 w1) (hdf : a1.defers = a.defers) (hpo : PmOut ρ ρ1 s.2.size s1.2.size)
    (hsz : s.2.size ≤ s1.2.size) (hst : Step ρ s.2.get w ρ1 s1.2.get w1) : CPost E nt lim whole om s ρ a w e a1 w1 :=
  ⟨ae2, om1, s1, ρ1, he, hag, hoc, fun om'' hag' => hw om'' (hdet om'' hag'), hR, hdf, hpo, hsz, hst⟩
theorem CPost.now {nt : Nat} {lim : Lim} {run : (Nat → Nat) → Option (AExit × ASt)} {om : Nat → Nat} {s : ASt} {ρ : Pm} {a : Act} {w : World} {ae : AExit} (hr : ∀ om, run om = some (ae, s)) (hR : SRel E nt lim ρ s a w) : CPost E nt lim run om s ρ a w (toExit ae) a w :=
  ⟨ae, om, s, ρ, rfl, Agree.refl _ _, Nat.le_refl _, fun om' _ => hr om', hR, rfl, PmOut.refl _ _ _, Nat.le_refl _, Step.refl _ _ _⟩
/-- What was asked of the whole is asked of the rest. -/
theorem rest_ok {lim : Lim} {whole run1 run2 : (Nat → Nat) → Option (AExit × ASt)} {om om1 : Nat → Nat} {oc : Nat} {s1 : ASt} {ae1 : AExit} (hw : ∀ om, run1 om = some (ae1, s1) → whole om = run2 om) (hag : Agree oc om om1) (hoc : oc ≤ s1.2.oc) (hdet : Det run1 om1 s1.2.oc (ae1, s1))
    (hall : ∀ om', Agree oc om om' → ∃ ae s', whole om' = some (ae, s') ∧ Under s'.2.size lim) : ∀ om', Agree s1.2.oc om1 om' → ∃ ae s', run2 om' = some (ae, s') ∧ Under s'.2.size lim := fun om' hag' => by
  obtain ⟨ae, s', h1, h2⟩ := hall om' (hag.trans hag' hoc)
  rw [hw om' (hdet om' hag')] at h1
  exact ⟨ae, s', h1, h2⟩

theorem toExit_then {K : Act → World → Prop} {Q : Exit → Act → World → Prop} {ae : AExit} {a : Act} {w : World} (hn : ae = .normal → K a w) (hq : ae ≠ .normal → Q (toExit ae) a w) : Exit.then K Q (toExit ae) a w := by
  cases ae with
  | normal => exact hn rfl
  | exit id => exact hq (by simp)
  | goto l => exact hq (by simp)
  | ret => exact hq (by simp)

/-- Two stretches in a row. -/
theorem seq_sim {F : Fence} {n nt : Nat} {lim : Lim} {whole runA runB : (Nat → Nat) → ASt → Option (AExit × ASt)} {x y : Code}
    (hw : ∀ om s, whole om s = match runA om s with | some (.normal, s') => runB om s' | r => r) (hB : ∀ om, BodyKeep (runB om))
    (hx : CodeSim E F n nt lim runA x) (hy : CodeSim E F n nt lim runB y) : CodeSim E F n nt lim whole (.seq x y) := by
  intro s om ρ a w hR hall
  refine wpIn_seq (wpIn_mono (hx s om ρ a w hR fun om' hag => ?_) ?_)
  · obtain ⟨ae, s', h1, h2⟩ := hall om' hag
    rw [hw] at h1
    split at h1
    · rename_i s1 hs
      exact ⟨_, _, hs, Under.le (hB _ _ _ _ h1).size h2⟩
    · exact ⟨_, _, h1, h2⟩
  · rintro e a1 w1 ⟨ae, om1, s1, ρ1, rfl, h2, h3, h4, h5, h6, h7, h8, h9⟩
    refine toExit_then (fun hn => ?_) (fun hn => ?_)
    · subst hn
      have hw' : ∀ om, runA om s = some (.normal, s1) → whole om s = runB om s1 := fun om h => by rw [hw, h]
      exact wpIn_mono (hy s1 om1 ρ1 a1 w1 h5 (rest_ok (whole := fun om => whole om s) (run1 := fun om => runA om s) (run2 := fun om => runB om s1) hw' h2 h3 h4 hall)) fun e a2 w2 h =>
        CPost.bind (run1 := fun om => runA om s) hw' h2 h3 h4 h6 h7 h8 h9 h
    · refine CPost.map (run1 := fun om => runA om s) (ae1 := ae) (fun om h => ?_) rfl h2 h3 h4 h5 h6 h7 h8 h9
      rw [hw, h]
      cases ae with
      | normal => exact absurd rfl hn
      | _ => rfl

theorem loop_sim {F : Fence} {n nt k : Nat} {lim : Lim} {run : (Nat → Nat) → ASt → Option (AExit × ASt)} {c : Code} (hB : ∀ om, BodyKeep (run om)) (hc : CodeSim E F n nt lim run c) : CodeSim E F n nt lim (fun om s => aloop (run om) k s) (.loop c) := by
  intro s om ρ a w hR hall
  refine wpIn_loop_rounds k ?_
  have key : ∀ (k : Nat) (s : ASt) (om : Nat → Nat) (ρ : Pm) (a : Act) (w : World) (Q : Exit → Act → World → Prop), SRel E nt lim ρ s a w → (∀ om', Agree s.2.oc om om' → ∃ ae s', aloop (run om') k s = some (ae, s') ∧ Under s'.2.size lim) →
      (∀ e a' w', CPost E nt lim (fun om => aloop (run om) k s) om s ρ a w e a' w' → Q e a' w') → Code.roundsIn F n E.P c Q k a w := by
    intro k
    induction k with
    | zero =>
      intro s om ρ a w Q _ hall _
      obtain ⟨ae, s', h1, _⟩ := hall om (Agree.refl _ _)
      simp [aloop] at h1
    | succ k ih =>
      intro s om ρ a w Q hR hall hQ
      rw [roundsIn_succ]
      refine wpIn_mono (hc s om ρ a w hR fun om' hag => ?_) ?_
      · obtain ⟨ae, s', h1, h2⟩ := hall om' hag
        simp only [aloop] at h1
        split at h1
        · rename_i s1 hs
          exact ⟨_, _, hs, Under.le (aloop_keep (hB om') k _ _ _ h1).size h2⟩
        · exact ⟨_, _, h1, h2⟩
      · rintro e a1 w1 ⟨ae, om1, s1, ρ1, rfl, h2, h3, h4, h5, h6, h7, h8, h9⟩
        refine toExit_then (fun hn => ?_) (fun hn => ?_)
        · subst hn
          have hw' : ∀ om, run om s = some (.normal, s1) → aloop (run om) (k + 1) s = aloop (run om) k s1 := fun om h => by simp only [aloop, h]
          refine ih s1 om1 ρ1 a1 w1 Q h5 (rest_ok (whole := fun om => aloop (run om) (k + 1) s) (run1 := fun om => run om s) (run2 := fun om => aloop (run om) k s1) hw' h2 h3 h4 hall) fun e a2 w2 h => hQ _ _ _ ?_
          exact CPost.bind (run1 := fun om => run om s) hw' h2 h3 h4 h6 h7 h8 h9 h
        · refine hQ _ _ _ (CPost.map (run1 := fun om => run om s) (ae1 := ae) (fun om h => ?_) rfl h2 h3 h4 h5 h6 h7 h8 h9)
          simp only [aloop, h]
          cases ae with
          | normal => exact absurd rfl hn
          | _ => rfl
  exact key k s om ρ a w _ hR hall fun _ _ _ h => h

def startOf (c : Code) : Option Nat → Option Code
  | none => some c
  | some l => findLabel c l

theorem scope_sim {F : Fence} {n nt k : Nat} {lim : Lim} {run : Option Nat → (Nat → Nat) → ASt → Option (AExit × ASt)} {c : Code} (hB : ∀ l om, BodyKeep (run l om)) (hL : ∀ l om s r, run (some l) om s = some r → ∃ rest, findLabel c l = some rest)
    (hc : ∀ l rest, startOf c l = some rest → CodeSim E F n nt lim (run l) rest) : CodeSim E F n nt lim (fun om s => ascope (fun l => run l om) k none s) (.scope c) := by
  intro s om ρ a w hR hall
  refine wpIn_scope_passes k ?_
  have key : ∀ (k : Nat) (l : Option Nat) (cur : Code) (s : ASt) (om : Nat → Nat) (ρ : Pm) (a : Act) (w : World) (Q : Exit → Act → World → Prop), startOf c l = some cur → SRel E nt lim ρ s a w →
      (∀ om', Agree s.2.oc om om' → ∃ ae s', ascope (fun l => run l om') k l s = some (ae, s') ∧ Under s'.2.size lim) →
      (∀ e a' w', CPost E nt lim (fun om => ascope (fun l => run l om) k l s) om s ρ a w e a' w' → Q e a' w') → passes F n E.P c Q k cur a w := by
    intro k
    induction k with
    | zero =>
      intro l cur s om ρ a w Q _ _ hall _
      obtain ⟨ae, s', h1, _⟩ := hall om (Agree.refl _ _)
      simp [ascope] at h1
    | succ k ih =>
      intro l cur s om ρ a w Q hl hR hall hQ
      simp only [passes]
      refine wpIn_mono (hc l cur hl s om ρ a w hR fun om' hag => ?_) ?_
      · obtain ⟨ae, s', h1, h2⟩ := hall om' hag
        simp only [ascope] at h1
        split at h1
        · rename_i l' s1 hs
          exact ⟨_, _, hs, Under.le (ascope_keep (fun l => hB l om') k _ _ _ _ h1).size h2⟩
        · exact ⟨_, _, h1, h2⟩
      · rintro e a1 w1 ⟨ae, om1, s1, ρ1, rfl, h2, h3, h4, h5, h6, h7, h8, h9⟩
        have other : (∀ l', ae ≠ .goto l') → Q (toExit ae) a1 w1 := fun hng => by
          refine hQ _ _ _ (CPost.map (run1 := fun om => run l om s) (ae1 := ae) (fun om h => ?_) rfl h2 h3 h4 h5 h6 h7 h8 h9)
          simp only [ascope, h]
          cases ae with
          | goto l' => exact absurd rfl (hng l')
          | _ => rfl
        cases ae with
        | goto l' =>
          have hw' : ∀ om, run l om s = some (.goto l', s1) → ascope (fun l => run l om) (k + 1) l s = ascope (fun l => run l om) k (some l') s1 := fun om h => by simp only [ascope, h]
          have hrest := rest_ok (whole := fun om => ascope (fun l => run l om) (k + 1) l s) (run1 := fun om => run l om s) (run2 := fun om => ascope (fun l => run l om) k (some l') s1) hw' h2 h3 h4 hall
          obtain ⟨rest, hf⟩ : ∃ rest, findLabel c l' = some rest := by
            obtain ⟨ae, s', q1, _⟩ := hrest om1 (Agree.refl _ _)
            cases k with
            | zero => simp [ascope] at q1
            | succ k =>
              simp only [ascope] at q1
              cases hq : run (some l') om1 s1 with
              | none => rw [hq] at q1; cases q1
              | some r => exact hL _ _ _ _ hq
          exact ⟨rest, hf, ih (some l') rest s1 om1 ρ1 a1 w1 Q hf h5 hrest fun e a2 w2 h => hQ _ _ _ (CPost.bind (run1 := fun om => run l om s) hw' h2 h3 h4 h6 h7 h8 h9 h)⟩
        | normal => exact other (by simp)
        | exit id => exact other (by simp)
        | ret => exact other (by simp)
  exact key k none c s om ρ a w _ rfl hR hall fun _ _ _ h => h

theorem aexec_label {om : Nat → Nat} {call : ACall} {k f : Nat} : ∀ (c : Code) (l : Nat) (s : ASt) (r : AExit × ASt), aexec E om call k f c (some l) s = some r → ∃ rest, findLabel c l = some rest := by
  intro c
  induction c with
  | seq a b iha ihb =>
    intro l s r h
    simp only [aexec] at h
    split at h
    · rename_i hs
      obtain ⟨r1, h1⟩ := Option.isSome_iff_exists.1 hs
      exact ⟨.seq r1 b, by simp only [findLabel, h1]⟩
    · rename_i hs
      obtain ⟨r2, h2⟩ := ihb _ _ _ h
      have : findLabel a l = none := by
        cases hq : findLabel a l with
        | none => rfl
        | some x => rw [hq] at hs; exact absurd rfl hs
      exact ⟨r2, by simp only [findLabel, this, h2]⟩
  | label l' =>
    intro l s r h
    simp only [aexec] at h
    split at h
    · rename_i he; exact ⟨.skip, by simp [findLabel, he]⟩
    · cases h
  | _ => intro l s r h; simp [aexec] at h

/-- Regions whose order is drawn. -/
def DrawSim (E : AEnv) (F : Fence) (n nt : Nat) (lim : Lim) (f : Nat) (call : (Nat → Nat) → ACall) : Prop := ∀ id ops, codeOk E f nt (.region id ops true) = true →
  CodeSim E F n nt lim (fun om s => (aregion E om (call om) f id ops true s).map fun s' => (.normal, s')) (.region id ops true)

theorem aexec_sim {F : Fence} {n : Nat} (hF : Wd F) (hok : EqOk E.P E.eqOk) {call : (Nat → Nat) → ACall} (hC : CallSim E call) (hK : ∀ om, CallKeep (call om)) {k f nt : Nat} {lim : Lim} (hnt : nt ≤ 4000) (hD : DrawSim E F n nt lim f call) :
    ∀ (c : Code) (l : Option Nat) (rest : Code), codeOk E f nt c = true → startOf c l = some rest → CodeSim E F n nt lim (fun om s => aexec E om (call om) k f c l s) rest := by
  have hX : ∀ (c : Code) (l : Option Nat) (om : Nat → Nat), BodyKeep (aexec E om (call om) k f c l) := fun c l om => aexec_keep (hK om) k f c l
  intro c
  induction c with
  | skip =>
    intro l rest _ hl
    cases l with
    | some l => simp [startOf, findLabel] at hl
    | none =>
      injection hl with hl; subst hl
      intro s om ρ a w hR _
      exact wpIn_skip (CPost.now (ae := .normal) (fun om => by simp only [aexec]) hR)
  | region id ops draw =>
    intro l rest hco hl
    cases l with
    | some l => simp [startOf, findLabel] at hl
    | none =>
      injection hl with hl; subst hl
      cases draw with
      | true =>
        have := hD id ops hco
        simpa only [aexec] using this
      | false =>
        intro s om ρ a w hR hall
        have hcs : ops.toList.all (opsOk E.ng nt) = true := by
          simp only [codeOk, Bool.and_eq_true] at hco
          exact hco.1
        refine wpIn_region_list (aops_sim (meas := false) hF hok hC hK (rid := id) (f := f) hnt ops.toList 0 ρ s.1 s.2 [] a w om hcs hR (fun om' hag => ?_) ?_)
        · obtain ⟨ae, s', h1, h2⟩ := hall om' hag
          simp only [aexec] at h1
          obtain ⟨s1, q1, q2⟩ := Option.map_eq_some_iff.1 h1
          injection q2 with _ q2; subst q2
          unfold aregion at q1
          split at q1
          · rename_i tm h' ft' ho
            simp only [Bool.false_eq_true, if_false] at q1
            injection q1 with q1; subst q1
            exact ⟨_, _, _, ho, h2⟩
          · cases q1
        · intro om' tm' h' ft' ρ' a' w' h1 h2 h3 h4 h5 h6 h7 h8
          refine ⟨.normal, om', (tm', h'), ρ', rfl, h1, h2, fun om'' hag => ?_, h4, h5, h6, h7, h8⟩
          have := h3 om'' hag
          simp only at this
          simp only [aexec, aregion, this, Bool.false_eq_true, if_false, Option.map_some]
  | seq a b iha ihb =>
    intro l rest hco hl
    simp only [codeOk, Bool.and_eq_true] at hco
    cases l with
    | none =>
      injection hl with hl; subst hl
      exact seq_sim (fun om s => by simp only [aexec]; rfl) (fun om => hX b none om) (iha none a hco.1 rfl) (ihb none b hco.2 rfl)
    | some l =>
      simp only [startOf, findLabel] at hl
      split at hl
      · rename_i r hr
        injection hl with hl; subst hl
        exact seq_sim (fun om s => by simp only [aexec, hr, Option.isSome_some, if_true]; rfl) (fun om => hX b none om) (iha (some l) r hco.1 hr) (ihb none b hco.2 rfl)
      · rename_i hr
        have := ihb (some l) rest hco.2 hl
        have he : ∀ om s, aexec E om (call om) k f (.seq a b) (some l) s = aexec E om (call om) k f b (some l) s := fun om s => by simp only [aexec, hr, Option.isSome_none, Bool.false_eq_true, if_false]
        simpa only [he] using this
  | cond c t e iht ihe =>
    intro l rest hco hl
    simp only [codeOk, Bool.and_eq_true] at hco
    cases l with
    | some l => simp [startOf, findLabel] at hl
    | none =>
      injection hl with hl; subst hl
      intro s om ρ a w hR hall
      have hev : VRel ρ (aeval s.1 c) (a.eval c) := evRel (ops := #[c]) hR.tmps hR.glob (by simpa using hco.1.1) c (by simp)
      cases hq : aeval s.1 c with
      | bool b =>
        rw [hq] at hev
        refine wpIn_cond hev.bool_inv ?_
        cases b with
        | true =>
          have he : ∀ om, aexec E om (call om) k f (.cond c t e) none s = aexec E om (call om) k f t none s := fun om => by simp only [aexec, hq]
          simp only [he] at hall ⊢
          exact iht none t hco.1.2 rfl s om ρ a w hR hall
        | false =>
          have he : ∀ om, aexec E om (call om) k f (.cond c t e) none s = aexec E om (call om) k f e none s := fun om => by simp only [aexec, hq]
          simp only [he] at hall ⊢
          exact ihe none e hco.2 rfl s om ρ a w hR hall
      | _ =>
        obtain ⟨ae, s', h1, _⟩ := hall om (Agree.refl _ _)
        simp only [aexec, hq] at h1
        cases h1
  | block id b ih =>
    intro l rest hco hl
    simp only [codeOk] at hco
    cases l with
    | some l => simp [startOf, findLabel] at hl
    | none =>
      injection hl with hl; subst hl
      intro s om ρ a w hR hall
      refine wpIn_block (wpIn_mono (ih none b hco rfl s om ρ a w hR fun om' hag => ?_) ?_)
      · obtain ⟨ae, s', h1, h2⟩ := hall om' hag
        simp only [aexec] at h1
        split at h1
        · rename_i id' s1 hs
          split at h1
          · injection h1 with h1; injection h1 with _ h1; subst h1; exact ⟨_, _, hs, h2⟩
          · injection h1 with h1; injection h1 with _ h1; subst h1; exact ⟨_, _, hs, h2⟩
        · exact ⟨_, _, h1, h2⟩
      · rintro e a1 w1 ⟨ae, om1, s1, ρ1, rfl, h2, h3, h4, h5, h6, h7, h8, h9⟩
        cases ae with
        | exit id' =>
          simp only [toExit, Exit.inBlock]
          split
          · rename_i he
            refine CPost.map (run1 := fun om => aexec E om (call om) k f b none s) (ae2 := .normal) (fun om h => ?_) rfl h2 h3 h4 h5 h6 h7 h8 h9
            simp only [aexec, h, he, if_true]
          · rename_i he
            refine CPost.map (run1 := fun om => aexec E om (call om) k f b none s) (ae2 := .exit id') (fun om h => ?_) rfl h2 h3 h4 h5 h6 h7 h8 h9
            simp only [aexec, h, he, if_false]
        | normal => exact CPost.map (run1 := fun om => aexec E om (call om) k f b none s) (ae2 := .normal) (fun om h => by simp only [aexec, h]) rfl h2 h3 h4 h5 h6 h7 h8 h9
        | goto l' => exact CPost.map (run1 := fun om => aexec E om (call om) k f b none s) (ae2 := .goto l') (fun om h => by simp only [aexec, h]) rfl h2 h3 h4 h5 h6 h7 h8 h9
        | ret => exact CPost.map (run1 := fun om => aexec E om (call om) k f b none s) (ae2 := .ret) (fun om h => by simp only [aexec, h]) rfl h2 h3 h4 h5 h6 h7 h8 h9
  | loop b ih =>
    intro l rest hco hl
    simp only [codeOk] at hco
    cases l with
    | some l => simp [startOf, findLabel] at hl
    | none =>
      injection hl with hl; subst hl
      have := loop_sim (k := k) (fun om => hX b none om) (ih none b hco rfl)
      simpa only [aexec] using this
  | rangeFunc g ps a b _ _ => intro l rest hco; simp [codeOk] at hco
  | exit id =>
    intro l rest _ hl
    cases l with
    | some l => simp [startOf, findLabel] at hl
    | none =>
      injection hl with hl; subst hl
      intro s om ρ a w hR _
      exact wpIn_exit (CPost.now (ae := .exit id) (fun om => by simp only [aexec]) hR)
  | scope b ih =>
    intro l rest hco hl
    simp only [codeOk] at hco
    cases l with
    | some l => simp [startOf, findLabel] at hl
    | none =>
      injection hl with hl; subst hl
      have := scope_sim (k := k) (run := fun l om s => aexec E om (call om) k f b l s) (c := b) (fun l om => hX b l om) (fun l om s r h => aexec_label b l s r h) (fun l rest hl => ih l rest hco hl)
      simpa only [aexec] using this
  | label l' =>
    intro l rest _ hl
    cases l with
    | some l =>
      simp only [startOf, findLabel] at hl
      split at hl
      · rename_i he
        injection hl with hl; subst hl
        have he : l' = l := by simpa using he
        intro s om ρ a w hR _
        exact wpIn_skip (CPost.now (ae := .normal) (fun om => by simp only [aexec, he, if_true]) hR)
      · cases hl
    | none =>
      injection hl with hl; subst hl
      intro s om ρ a w hR _
      exact wpIn_label (CPost.now (ae := .normal) (fun om => by simp only [aexec]) hR)
  | goto l' =>
    intro l rest _ hl
    cases l with
    | some l => simp [startOf, findLabel] at hl
    | none =>
      injection hl with hl; subst hl
      intro s om ρ a w hR _
      exact wpIn_goto (CPost.now (ae := .goto l') (fun om => by simp only [aexec]) hR)
  | ret =>
    intro l rest _ hl
    cases l with
    | some l => simp [startOf, findLabel] at hl
    | none =>
      injection hl with hl; subst hl
      intro s om ρ a w hR _
      exact wpIn_ret (CPost.now (ae := .ret) (fun om => by simp only [aexec]) hR)
  | refuse why =>
    intro l rest _ hl
    cases l with
    | some l => simp [startOf, findLabel] at hl
    | none =>
      intro s om ρ a w _ hall
      obtain ⟨ae, s', h1, _⟩ := hall om (Agree.refl _ _)
      simp [aexec] at h1
end Go.Am
