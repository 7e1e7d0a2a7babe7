/- The abstract machine and the model: what the machine computes, the model's call computes. -/
import Derived.Test.YtgngbcmhapmokaaDoorAmDraw3
namespace Go.Am
open Go

variable {E : AEnv}

theorem draw_sim (hm : E.P.follows .mixedOrders = true) (hok : EqOk E.P E.eqOk) {call : (Nat → Nat) → ACall} (hC : CallSim E call) (hK : ∀ om, CallKeep (call om)) (hL : CallLoc call) {F : Fence} {n : Nat} (hF : Wd F) {nt : Nat} {lim : Lim} {f : Nat} (hnt : nt ≤ 4000) :
    DrawSim E F n nt lim f call := by
  intro id ops hco s om ρ0 a0 w0 hR hall
  simp only [codeOk, Bool.and_eq_true, Bool.not_true, Bool.false_or] at hco
  obtain ⟨hops, hdraw⟩ := hco
  have hops : ops.toList.all (opsOk E.ng nt) = true := hops
  have edge : ∀ (i : Nat) (o : Oper), ops[i]? = some o → ∀ e ∈ o.after, Region.binds .any e = true → e.on < i := by
    intro i o ho e he hb
    simp only [drawOk, Bool.and_eq_true] at hdraw
    have h2 := hdraw.1
    rw [List.all_eq_true] at h2
    have h3 := h2 (o, i) (by rw [List.mk_mem_zipIdx_iff_getElem?]; simpa using ho)
    simp only [Bool.and_eq_true] at h3
    have h4 := h3.1
    rw [List.all_eq_true] at h4
    have h5 := h4 e (by simpa using he)
    simpa [hb] using h5
  -- the run in the text's order
  obtain ⟨ae, s', h1, hlim⟩ := hall om (Agree.refl _ _)
  obtain ⟨s1, hreg, h2⟩ := Option.map_eq_some_iff.1 h1
  injection h2 with h2 h3; subst h2 h3
  obtain ⟨tm', h', ft', haops, hs1, hocc, hpairs⟩ : ∃ tm' h' ft', aops E om true (call om) f id ops ops.toList 0 s.1 s.2 [] = some (tm', h', ft') ∧ s1 = (tm', h') ∧ h'.oc = s.2.oc ∧ ((E.pairs f id).all fun (i, j) => (footAt ops.size ft' i).apart (footAt ops.size ft' j)) = true := by
    unfold aregion at hreg
    split at hreg
    · rename_i tm h ft ho
      simp only [if_true] at hreg
      split at hreg
      · rename_i hc
        injection hreg with hreg
        exact ⟨tm, h, ft, ho, hreg.symm, hc.1, hc.2⟩
      · cases hreg
    · cases hreg
  subst hs1
  have whole : ∀ om', Agree s.2.oc om om' → aregion E om' (call om') f id ops true s = some (tm', h') := fun om' hag => aregion_loc hL hK hreg (by rw [hocc]; exact hag)
  obtain ⟨T, H, V, FT, t1, t2, t3, t4, t5, t6⟩ := textRun ops.toList 0 s.1 s.2 [] tm' h' ft' haops
  simp only [Nat.zero_add, Array.length_toList] at t3 t4 t5 t6
  have hrun : ∀ i o, ops[i]? = some o → StepAt E om (call om) f id ops T H V FT i o := fun i o ho => t5 i o (by simpa using ho)
  have hT : TextOk ops T H V FT := textOk (hK om) hnt hops hdraw hrun (fun i j hij hi hj => by
    rw [List.all_eq_true] at hpairs
    have := hpairs (i, j) hij
    simp only [t6] at this
    rw [footAt_rev FT ops.size i hi, footAt_rev FT ops.size j hj] at this
    exact this)
  have hoc : (H ops.size).oc = (H 0).oc := by rw [t4, t2]; exact hocc
  refine wpIn_region_any hm ?_
  -- the end
  have atEnd : ∀ (S : Nat → Prop) (ρ : Pm) (a : Act) (w : World), (∀ k, k < ops.size → S k) → DInv E ops nt T H ρ0 w0 a0.defers S ρ a w →
      CPost E nt lim (fun om => (aregion E om (call om) f id ops true s).map fun s' => (.normal, s')) om s ρ0 a0 w0 .normal a w := by
    intro S ρ a w hS hI
    have hg : GS H ops.size S = h'.get := by
      funext b
      have : GS H ops.size S b = (H ops.size).get b := virt_at (i := ops.size) (fun k hk hnp => Classical.byContradiction fun hne => hnp ⟨hS k hk, hne⟩) (Nat.le_refl _) (fun k a b => by omega)
      rw [this, t4]
    have ht : ∀ t, TS ops T S t = tget 12 tm' t := by
      intro t
      have : TS ops T S t = tget 12 (T ops.size) t := virt_at (i := ops.size) (fun k hk hnp => by
        obtain ⟨x, hx⟩ : ∃ x, ops[k]? = some x := ⟨ops[k], Array.getElem?_eq_getElem hk⟩
        obtain ⟨q1, q2⟩ := hT.tmps k x hx
        rw [q1]
        cases hd : x.dst with
        | none => rfl
        | some d =>
          have hlt : d + 1 < 2 ^ 12 := Nat.lt_of_lt_of_le (Nat.succ_lt_succ (q2 d hd)) (by decide)
          show tget 12 (tset 12 (T k) d (V k)) t = _
          rw [tget_tset 12 _ _ _ _ hlt]
          by_cases hdt : d = t
          · subst hdt
            exact absurd ⟨hS k hk, by rw [hx]; exact hd⟩ hnp
          · rw [if_neg hdt]) (Nat.le_refl _) (fun k a b => by omega)
      rw [this, t3]
    have hsz : s.2.size ≤ h'.size := by
      have := hT.size (Nat.zero_le ops.size) (Nat.le_refl _)
      rw [t2, t4] at this; exact this
    have hpo : PmOut ρ0 ρ s.2.size h'.size := by have := hI.out; rw [t2, t4] at this; exact this
    refine ⟨.normal, om, (tm', h'), ρ, rfl, Agree.refl _ _, by simp only; omega, fun om'' hag => ?_, ⟨fun t => by rw [← ht]; exact hI.temps t, hI.size, by rw [← hg]; exact hI.heap, hR.free.out hpo hsz, hI.glob⟩, hI.defers, hpo, hsz, ?_⟩
    · simp only at hag ⊢
      rw [whole om'' (by rw [← hocc]; exact hag)]
      rfl
    · have := hI.step
      rw [t2, hg] at this
      exact this
  -- each order
  have key : ∀ (fuel : Nat) (listed : Array Bool) (ρ : Pm) (a : Act) (w : World), listed.size = ops.size → DInv E ops nt T H ρ0 w0 a0.defers (fun k => listed.getD k false = true) ρ a w →
      ((List.range ops.size).filter fun i => !listed.getD i false).length ≤ fuel →
      wpAnyIn F n E.P .any ops (CPost E nt lim (fun om => (aregion E om (call om) f id ops true s).map fun s' => (.normal, s')) om s ρ0 a0 w0) fuel listed a w := by
    intro fuel
    have allOf : ∀ (listed : Array Bool), listed.size = ops.size → Region.ready .any ops listed = [] → ∀ k, k < ops.size → listed.getD k false = true := by
      intro listed hsz hnil k
      induction k using Nat.strongRecOn with
      | _ k ih =>
        intro hk
        apply Classical.byContradiction
        intro hnk
        obtain ⟨o, ho⟩ : ∃ o, ops[k]? = some o := ⟨ops[k], Array.getElem?_eq_getElem hk⟩
        have : k ∈ Region.ready .any ops listed := by
          rw [mem_ready]
          refine ⟨?_, o, ho, fun e he hb => ih e.on (edge k o ho e he hb) (Nat.lt_trans (edge k o ho e he hb) hk)⟩
          have hlt : k < listed.size := by omega
          simp [hlt] at hnk ⊢
          exact hnk
        rw [hnil] at this
        cases this
    induction fuel with
    | zero =>
      intro listed ρ a w hsz hI hf
      have hall' : ∀ k, k < ops.size → listed.getD k false = true := by
        intro k hk
        apply Classical.byContradiction
        intro hnk
        have : k ∈ (List.range ops.size).filter fun i => !listed.getD i false := by
          rw [List.mem_filter, List.mem_range]
          exact ⟨hk, by simpa using hnk⟩
        have := List.length_pos_of_mem this
        omega
      refine ⟨?_, atEnd _ ρ a w hall' hI⟩
      apply List.eq_nil_iff_forall_not_mem.2
      intro k hkr
      rw [mem_ready] at hkr
      obtain ⟨h0, o, ho, _⟩ := hkr
      have hk : k < ops.size := (Array.getElem?_eq_some_iff.1 ho).1
      have h1 := hall' k hk
      have hlt : k < listed.size := by omega
      simp [hlt] at h0 h1
      rw [h0] at h1; cases h1
    | succ fuel ih =>
      intro listed ρ a w hsz hI hf
      refine ⟨fun hnil => atEnd _ ρ a w (allOf listed hsz hnil) hI, fun i hir => ?_⟩
      have hir' := hir
      rw [mem_ready] at hir'
      obtain ⟨h0, o, ho, hed⟩ := hir'
      have hi : i < ops.size := (Array.getElem?_eq_some_iff.1 ho).1
      have hlt : i < listed.size := by omega
      have hnS : ¬ listed.getD i false = true := by
        simp [hlt] at h0 ⊢; exact h0
      refine draw_step hF hok hC hK hL hT hrun hoc hops hI hi hnS (fun j hj => ?_) (fun ρ' a' w' hI' => ?_)
      · obtain ⟨e, he, hb, q⟩ := before_spec edge ho hj
        rcases q with q | q
        · rw [← q]; exact hed e he hb
        · exact hI.down e.on (hed e he hb) j q
      · have hS : (fun k => (listed.setIfInBounds i true).getD k false = true) = (fun k => listed.getD k false = true ∨ k = i) := by
          funext k
          apply propext
          by_cases hki : k = i
          · subst hki; simp [hlt]
          · rw [getD_set_ne false (fun h => hki h.symm)]; simp [hki]
        refine ih (listed.setIfInBounds i true) ρ' a' w' (by simpa using hsz) (by rw [hS]; exact hI') ?_
        -- one fewer
        have hlen : ∀ (l : List Nat), l.Nodup → i ∈ l → (l.filter fun k => !(listed.setIfInBounds i true).getD k false).length + 1 ≤ (l.filter fun k => !listed.getD k false).length := by
          intro l
          induction l with
          | nil => intro _ h; cases h
          | cons x l ihl =>
            intro hnd hmem
            rw [List.nodup_cons] at hnd
            by_cases hx : x = i
            · subst hx
              have h1 : (listed.setIfInBounds x true).getD x false = true := by simp [hlt]
              have h2 : ∀ k ∈ l, (!(listed.setIfInBounds x true).getD k false) = (!listed.getD k false) := fun k hk => by
                have hxk : x ≠ k := by intro h; rw [h] at hnd; exact hnd.1 hk
                rw [getD_set_ne false hxk]
              simp only [List.filter_cons, h1, Bool.not_true, Bool.false_eq_true, if_false]
              have h3 : (!listed.getD x false) = true := by
                cases hq : listed.getD x false with
                | false => rfl
                | true => exact absurd hq hnS
              rw [h3, if_pos rfl, List.length_cons, List.filter_congr h2]
              exact Nat.le_refl _
            · have hmem' : i ∈ l := by
                cases hmem with
                | head => exact absurd rfl hx
                | tail _ h => exact h
              have := ihl hnd.2 hmem'
              have h1 : (listed.setIfInBounds i true).getD x false = listed.getD x false := getD_set_ne false (fun h => hx h.symm)
              simp only [List.filter_cons, h1]
              split
              · simp only [List.length_cons]; omega
              · exact this
        have := hlen (List.range ops.size) List.nodup_range (List.mem_range.2 hi)
        omega
  refine key ops.size (Array.replicate ops.size false) ρ0 a0 _ (by simp) ?_ ?_
  · have hnone : ∀ k, ¬ (Array.replicate ops.size false).getD k false = true := by
      intro k
      simp [Array.getElem?_replicate]
      split <;> simp
    have hg : GS H ops.size (fun k => (Array.replicate ops.size false).getD k false = true) = s.2.get := by
      funext b
      have : GS H ops.size (fun k => (Array.replicate ops.size false).getD k false = true) b = (H 0).get b := virt_at (i := 0) (fun k hk => by omega) (by omega) (fun k _ _ hp => hnone k hp.1)
      rw [this, t2]
    have ht : ∀ t, TS ops T (fun k => (Array.replicate ops.size false).getD k false = true) t = tget 12 s.1 t := by
      intro t
      have : TS ops T (fun k => (Array.replicate ops.size false).getD k false = true) t = tget 12 (T 0) t := virt_at (i := 0) (fun k hk => by omega) (by omega) (fun k _ _ hp => hnone k hp.1)
      rw [this, t1]
    refine ⟨fun k hk => absurd hk (hnone k), fun t => by rw [ht]; exact hR.tmps t, hR.size, rfl, by rw [hg]; exact hR.heap.same (SameHeap.drew w0), fun k hk _ b hb1 hb2 => ?_, fun k _ hk => absurd hk (hnone k), PmOut.refl _ _ _, hR.glob, ?_⟩
    · have q1 := hT.size (Nat.zero_le k) (by omega)
      have q2 := hT.size (show k + 1 ≤ ops.size by omega) (Nat.le_refl _)
      rw [t2] at q1
      rw [t4] at q2
      exact hR.free b (by omega) (hlim b (by simp only; omega))
    · rw [t2, hg]
      exact Step.same (SameHeap.drew w0)
  · have := List.length_filter_le (fun i => !(Array.replicate ops.size false).getD i false) (List.range ops.size)
    rw [List.length_range] at this
    exact this

/-- **The machine is sound**: k rounds a loop, n calls deep, whatever the oracles: what it computes, the model's call computes. -/
theorem sound (hE : EnvOk E) (k : Nat) : ∀ n, CallSim E (fun om => acall E om k n) := by
  intro n
  induction n with
  | zero =>
    intro f args h om ρ lim w cargs hall
    obtain ⟨v, h', h1, _⟩ := hall om (Agree.refl _ _)
    simp [acall] at h1
  | succ n ih =>
    intro f args h om ρ lim w cargs hall hH hfree hG hargs
    have hK : ∀ om, CallKeep (acall E om k n) := fun om => acall_keep hE.sigKeep om k n
    exact acallF_sim hE ih hK k (fun nt lim f hnt => draw_sim hE.mixed hE.eqOk ih hK (acall_loc hE.sigKeep k n) Wd.wide hnt) f args h om ρ lim w cargs (fun om' hag => hall om' hag) hH hfree hG hargs

end Go.Am
