/- The abstract machine and the model: regions whose order is drawn: a step, and all of it. -/
import Derived.Test.YtgngbcmhapmokaaDoorAmDraw2
namespace Go.Am
open Go

variable {E : AEnv}

theorem blockOf_mapped {ρ : Pm} {v cv : Value} (h : VRel ρ v cv) : ∀ b ∈ blockOf v, (ρ b).isSome = true := by
  intro b hb
  cases h with
  | flat hf =>
    cases v with
    | pointer a => cases a <;> simp [flat0, blockOf] at hf hb
    | slice a n c =>
      cases a with
      | none => simp [blockOf] at hb
      | some a => simp [flat0] at hf
    | map r => cases r <;> simp [flat0, blockOf] at hf hb
    | _ => simp [blockOf] at hb
  | ptr h => simp only [blockOf, List.mem_singleton] at hb; subst hb; rw [h]; rfl
  | sl0 h => rename_i a ca; cases a <;> simp [blockOf] at hb
  | sl h he _ _ _ =>
    simp only [blockOf] at hb
    rw [if_neg (by omega)] at hb
    simp only [List.mem_singleton] at hb; subst hb; rw [h]; rfl
  | map h => simp only [blockOf, List.mem_singleton] at hb; subst hb; rw [h]; rfl
  | func => simp [blockOf] at hb
  | iface => simp [blockOf] at hb
  | agg => simp [blockOf] at hb
  | tuple => simp [blockOf] at hb

theorem afoot_from {o : Oper} {ev : Operand → Value} {look : Look} {b : Nat} (h : b ∈ (afoot o ev look).rs ++ (afoot o ev look).ws) :
    (∃ x ∈ o.op.operands, b ∈ blockOf (ev x)) ∨ (∃ x ∈ o.op.operands, b ∈ mapOf look (ev x) ∧ ∀ r ∈ blockOf (ev x), r ∈ (afoot o ev look).rs ++ (afoot o ev look).ws) := by
  have one : ∀ (x : Operand), x ∈ o.op.operands → b ∈ blockOf (ev x) → (∃ x ∈ o.op.operands, b ∈ blockOf (ev x)) ∨ (∃ x ∈ o.op.operands, b ∈ mapOf look (ev x) ∧ ∀ r ∈ blockOf (ev x), r ∈ (afoot o ev look).rs ++ (afoot o ev look).ws) := fun x h1 h2 => .inl ⟨x, h1, h2⟩
  cases hop : o.op with
  | load t x => simp only [afoot, hop, List.append_nil] at h; rw [hop] at one; exact one x (by simp [Op.operands]) h
  | store t x y => simp only [afoot, hop, List.nil_append] at h; rw [hop] at one; exact one x (by simp [Op.operands]) h
  | convert s t x => simp only [afoot, hop, List.append_nil] at h; rw [hop] at one; exact one x (by simp [Op.operands]) h
  | lookup t m k c => simp only [afoot, hop, List.append_nil] at h; rw [hop] at one; exact one m (by simp [Op.operands]) h
  | mapUpdate t m k x => simp only [afoot, hop, List.nil_append] at h; rw [hop] at one; exact one m (by simp [Op.operands]) h
  | insert t m k x => simp only [afoot, hop, List.nil_append] at h; rw [hop] at one; exact one m (by simp [Op.operands]) h
  | mapEntry t m k => simp only [afoot, hop, List.nil_append] at h; rw [hop] at one; exact one m (by simp [Op.operands]) h
  | entryStore t m s x => simp only [afoot, hop, List.nil_append] at h; rw [hop] at one; exact one m (by simp [Op.operands]) h
  | range t x => simp only [afoot, hop, List.append_nil] at h; rw [hop] at one; exact one x (by simp [Op.operands]) h
  | slice t x l hh m =>
    simp only [afoot, hop] at h
    rw [hop] at one
    refine one x (by simp [Op.operands]) ?_
    generalize ev x = y at h
    cases y with
    | pointer a =>
      cases a with
      | none => simp [Foot.none] at h
      | some a => simpa [blockOf] using h
    | _ => simp [Foot.none] at h
  | next it s =>
    rw [hop] at one
    have hf : afoot o ev look = ⟨false, mapOf look (ev it), blockOf (ev it), 0, 0⟩ := by unfold afoot; rw [hop]
    rw [hf] at h ⊢
    rcases List.mem_append.1 h with h | h
    · exact .inr ⟨it, by simp [Op.operands], h, fun r hr => List.mem_append_right _ hr⟩
    · exact .inl ⟨it, by simp [Op.operands], h⟩
  | entry it =>
    rw [hop] at one
    have hf : afoot o ev look = ⟨false, mapOf look (ev it) ++ blockOf (ev it), [], 0, 0⟩ := by unfold afoot; rw [hop]
    rw [hf] at h ⊢
    simp only [List.append_nil] at h ⊢
    rcases List.mem_append.1 h with h | h
    · exact .inr ⟨it, by simp [Op.operands], h, fun r hr => List.mem_append_right _ hr⟩
    · exact .inl ⟨it, by simp [Op.operands], h⟩
  | call c =>
    obtain ⟨callee, args, argTypes⟩ := c
    cases callee with
    | builtin bi =>
      rw [hop] at one
      have mem : ∀ (x : Operand), x ∈ args → x ∈ (Op.call { callee := .builtin bi, args := args, argTypes := argTypes }).operands := fun x hx => by simp [Op.operands, Call.operands, hx]
      have fin : ∀ v, v ∈ args.toList.map ev → b ∈ blockOf v → (∃ x ∈ (Op.call { callee := .builtin bi, args := args, argTypes := argTypes }).operands, b ∈ blockOf (ev x)) := by
        intro v hv hb
        obtain ⟨x, hx, rfl⟩ := List.mem_map.1 hv
        exact ⟨x, mem x (by simpa using hx), hb⟩
      left
      simp only [afoot, hop] at h
      generalize hl : args.toList.map ev = l at h fin
      split at h
      · simp only [List.mem_append] at h
        rcases h with h | h
        · exact fin _ (by simp) h
        · exact fin _ (by simp) h
      · simp only [List.mem_append] at h
        rcases h with h | h
        · exact fin _ (by simp) h
        · exact fin _ (by simp) h
      · simp only [List.nil_append] at h; exact fin _ (by simp) h
      · simp only [List.nil_append] at h; exact fin _ (by simp) h
      · simp only [List.append_nil, List.mem_singleton] at h; subst h; exact fin (.map (some _)) (List.mem_cons_self ..) (List.mem_cons_self ..)
      · simp [Foot.none] at h
    | value f => simp [afoot, hop, Foot.none] at h
    | invoke r m => simp [afoot, hop, Foot.none] at h
  | _ => simp [afoot, hop, Foot.none] at h

theorem evRel_at {ρ : Pm} {tm : Tm} {a : Act} {ops : Array Operand} (hT : ∀ t, .tmp t ∈ ops → VRel ρ (tget 12 tm t) (a.tmps.getD t Go.undef)) (hG : GOk E ρ) (ho : ops.toList.all (operandOk E.ng) = true) : EvRel ρ ops (aeval tm) a.eval := by
  intro x hx
  have hx' := List.all_eq_true.1 ho x (by simpa using hx)
  cases x with
  | tmp t => exact hT t hx
  | const v => exact .flat hx'
  | global g =>
    obtain ⟨pl, h1, h2, h3⟩ := hG g (by simpa [operandOk] using hx')
    have := VRel.ptr (b := g) (off := 0) h1
    rw [h2, h3] at this
    exact this
  | func f => exact .func (.func f) rfl (fun i h => absurd h (by simp)) rfl (fun i h => absurd h (by simp))

theorem yielded_at {ρ : Pm} {tm : Tm} {a : Array Value} {ops : Array Oper} (j : Nat) (hT : ∀ t, (ops[j]?).bind (·.dst) = some t → VRel ρ (tget 12 tm t) (a.getD t Go.undef)) : yielded ops a j = ayielded ops tm j := by
  unfold yielded ayielded
  cases hd : (ops[j]?).bind (·.dst) with
  | none => rfl
  | some t =>
    have h := hT t hd
    simp only [Option.bind_some, Option.map_some]
    cases hq : a[t]? with
    | none =>
      have he : a.getD t Go.undef = Go.undef := by simp [hq]
      rw [he] at h
      generalize tget 12 tm t = v at h
      cases v <;> first | rfl | (cases h; done)
    | some u =>
      have he : a.getD t Go.undef = u := by simp [hq]
      rw [he] at h
      generalize tget 12 tm t = v at h
      cases u with
      | bool b => cases h; rfl
      | _ => cases v <;> first | rfl | (cases h; done)

theorem draw_step {F : Fence} {n : Nat} (hF : Wd F) (hok : EqOk E.P E.eqOk) {call : (Nat → Nat) → ACall} (hC : CallSim E call) (hK : ∀ om, CallKeep (call om)) (hL : CallLoc call) {f id nt : Nat} {om : Nat → Nat} {ops : Array Oper}
    {T : Nat → Tm} {H : Nat → AHeap} {V : Nat → Value} {FT : Nat → Foot} {ρ0 ρ : Pm} {w0 w : World} {ds : List Deferred} {S : Nat → Prop} {a : Act} {i : Nat}
    (hT : TextOk ops T H V FT) (hrun : ∀ i o, ops[i]? = some o → StepAt E om (call om) f id ops T H V FT i o) (hoc : (H ops.size).oc = (H 0).oc) (hops : ops.toList.all (opsOk E.ng nt) = true)
    (hI : DInv E ops nt T H ρ0 w0 ds S ρ a w) (hi : i < ops.size) (hS : ¬ S i) (hready : ∀ j, ((Region.before ops).getD i 0).testBit j = true → S j) {Q : Exit → Act → World → Prop} {K : Act → World → Prop}
    (hk : ∀ ρ' a' w', DInv E ops nt T H ρ0 w0 ds (fun k => S k ∨ k = i) ρ' a' w' → K a' w') : wpOpIn F n E.P ops Q i K a w := by
  obtain ⟨o, ho⟩ : ∃ o, ops[i]? = some o := ⟨ops[i], Array.getElem?_eq_getElem hi⟩
  have hoo : o.op.operands.toList.all (operandOk E.ng) = true ∧ dstOk nt o.dst = true := by
    rw [List.all_eq_true] at hops
    have := hops o (by rw [Array.mem_toList_iff]; exact Array.mem_of_getElem? ho)
    simpa only [opsOk, Bool.and_eq_true] using this
  have hsame : (H (i + 1)).oc = (H i).oc := by
    have h1 := hT.oc (Nat.zero_le i) (by omega)
    have h2 := hT.oc (show i ≤ i + 1 by omega) (by omega)
    have h3 := hT.oc (show i + 1 ≤ ops.size by omega) (Nat.le_refl _)
    omega
  have htemp : ∀ t, t ∈ o.looksAt ops → VRel ρ (tget 12 (T i) t) (a.tmps.getD t Go.undef) := fun t ht => by
    rw [← hI.tempAt hT hi hS hready ho ht]; exact hI.temps t
  have hev : EvRel ρ o.op.operands (aeval (T i)) a.eval := evRel_at (fun t ht => htemp t (List.mem_append_left _ (List.mem_filterMap.2 ⟨.tmp t, by simpa using ht, rfl⟩))) hI.glob hoo.1
  have hwant : Region.wanted o (yielded ops a.tmps) = Region.wanted o (ayielded ops (T i)) := by
    unfold Region.wanted
    cases hg : o.guard with
    | none => rfl
    | some p =>
      obtain ⟨j, want⟩ := p
      simp only
      rw [yielded_at (ρ := ρ) (tm := T i) j (fun t ht => htemp t (List.mem_append_right _ (by rw [hg]; simp only; rw [ht]; simp)))]
  have hturn := hI.turns hT hi hS
  unfold wpOpIn
  simp only [ho, hwant]
  by_cases hw : Region.wanted o (ayielded ops (T i)) = true
  · rw [if_pos hw]
    have hst := (hrun i o ho).yes hw
    refine ⟨fun f _ => hF.fn f, ?_⟩
    by_cases hcall : ∃ f args argTypes, o.op = .call { callee := .value f, args := args, argTypes := argTypes }
    · obtain ⟨fo, args, argTypes, hop⟩ := hcall
      have hsem : o.semAt F.round a.eval = execOp a.eval o := Oper.semAt_eq _ _ _ (by rw [hop]; intro c hc; cases hc)
      rw [hsem]
      rw [hop] at hev
      simp only [Op.operands, Call.operands] at hev
      have hfv : VRel ρ (aeval (T i) fo) (a.eval fo) := hev fo (by simp)
      have hargs : LRel ρ (args.toList.map (aeval (T i))) (args.map a.eval).toList := by
        rw [Array.toList_map]; exact EvRel.list fun x hx => hev x (by simp; exact .inr (by simpa using hx))
      unfold astep at hst
      rw [hop] at hst
      simp only at hst
      cases hfq : aeval (T i) fo with
      | func fn first captured =>
        cases fn with
        | func g =>
          rw [hfq] at hst
          simp only at hst
          rw [hfq] at hfv
          generalize hcf : a.eval fo = cf at hfv
          cases hfv with
          | flat hf => simp [flat0] at hf
          | @func _ f' _ ys _ dds hfr hs1 hs2 hs3 hs4 =>
            have hf' := hfr.inv_func
            subst hf'
            have hl1 : LRel ρ first.toList ys.toList := ⟨by simpa using hs1, fun i h1 h2 => by simpa using hs2 i (by simpa using h1) (by simpa using h2)⟩
            have hl3 : LRel ρ captured.toList dds.toList := ⟨by simpa using hs3, fun i h1 h2 => by simpa using hs4 i (by simpa using h1) (by simpa using h2)⟩
            have hexec : execOp a.eval o = callFunc g (ys ++ args.map a.eval ++ dds) := by
              unfold execOp
              rw [hop]
              simp only [resolve, hcf, Deferred.ofValue, invoke]
              rfl
            rw [hexec]
            have hall := (acallAt_keep (hK om) hst).2.1
            have htouch : ∀ b, touches (FT i) b := fun b => .inl hall
            unfold acallAt at hst
            simp only [if_true] at hst
            split at hst
            · rename_i v1 h1 hcc
              injection hst with hst; injection hst with e1 e2; injection e2 with e2 e3
              have hg1 : h1.get = (H (i + 1)).get := by rw [← e2]; rfl
              have hs1' : h1.size = (H (i + 1)).size := by rw [← e2]
              have ho1 : h1.oc = (H (i + 1)).oc := by rw [← e2]
              have hag : ∀ b, b < (H i).size → (ρ b).isSome = true → GS H ops.size S b = (H i).get b := fun b hb hm => hI.agree hT hi hS hready hb hm (htouch b)
              have hHi : HRel E ρ (H i).get w := by
                refine ⟨fun b pl ob q1 q2 q3 => hI.heap.obj b pl ob q1 (by rw [hag b (get_lt q2) (by rw [q1]; rfl)]; exact q2) q3, fun b b' pl pl' ob ob' hne q1 q1' q2 q2' q3 q3' =>
                  hI.heap.excl b b' pl pl' ob ob' hne q1 q1' (by rw [hag b (get_lt q2) (by rw [q1]; rfl)]; exact q2) (by rw [hag b' (get_lt q2') (by rw [q1']; rfl)]; exact q2') q3 q3'⟩
              have hfc := hC g (first.toList ++ args.toList.map (aeval (T i)) ++ captured.toList) { H i with wm := (H i).size } om ρ (fun b => b < h1.size) w (ys ++ args.map a.eval ++ dds)
                (fun om' hag' => ⟨v1, h1, hL om om' _ _ _ _ _ hcc (by rw [ho1, hsame]; exact hag'), fun b hb => hb⟩)
                hHi (fun b hb1 hb2 => hI.dom i hi hS b hb1 (by rw [← hs1']; exact hb2)) hI.glob (by simp only [Array.toList_append]; exact (hl1.append hargs).append hl3)
              have fin : ∀ cv w', CallPost E (fun om => call om (.fn g) (first.toList ++ args.toList.map (aeval (T i)) ++ captured.toList) { H i with wm := (H i).size }) om { H i with wm := (H i).size } ρ w cv w' → K (a.put o.dst cv) w' := by
                rintro cv w' ⟨om', v, h', ρ', c1, c2, c3, c4, c5, c6⟩
                have hq := c2 om' (Agree.refl _ _)
                simp only at hq
                rw [hL om om' _ _ _ _ _ hcc (by rw [ho1, hsame]; exact c1)] at hq
                injection hq with hq; injection hq with q1 q2; subst q1 q2
                have c5 : PmOut ρ ρ' (H i).size (H (i + 1)).size := by rw [← hs1']; exact c5
                rw [hg1] at c4 c6
                have hle := hT.size (show i ≤ i + 1 by omega) (by omega)
                have hgr := graft (g' := GS H ops.size (fun k => S k ∨ k = i)) hle hI.heap c4 c6 c5 (fun b hb1 hb2 => hI.dom i hi hS b hb1 hb2) (fun b hb1 hb2 => hI.notYet hT hi hS hb1 hb2)
                  hag (fun b hb => get_none hb) (fun b hb => get_none hb) hturn
                refine hk ρ' _ w' (hI.next hT hi hS hready ho hoo.2 (by rw [← e1]; exact c3) hgr.1 hgr.2 c5 (fun b hne => c6.wr b hne))
              rcases hfc with ⟨cv, w', h1, h2⟩ | ⟨h1, h2⟩
              · rw [h1]; exact fin _ _ h2
              · rw [h1]
                refine ⟨(fun hd => by rw [hF.depth] at hd; cases hd), ?_⟩
                refine CallsIn.mono (hF.conv _ h2) fun e w' he => ?_
                cases e with
                | returned v => exact fin _ _ he
                | panicked c => exact he.elim
                | outgrown => exact he.elim
            · cases hst
        | yield l =>
          rw [hfq] at hfv
          generalize a.eval fo = cf at hfv
          cases hfv with
          | flat hf => simp [flat0] at hf
          | func hfr => cases hfr
        | _ => rw [hfq] at hst; cases hst
      | _ => rw [hfq] at hst; cases hst
    · unfold astep at hst
      split at hst
      · rename_i fo args argTypes hop; exact absurd ⟨fo, args, argTypes, hop⟩ hcall
      · split at hst
        · rename_i v e hop
          injection hst with hst; injection hst with e1 e2; injection e2 with e2 e3
          have htick : e.tick = false := by
            have := Eff.run_oc e (H i)
            rw [e2, hsame] at this
            cases ht : e.tick with
            | false => rfl
            | true => rw [ht] at this; simp at this
          -- what is touched is what the text's order has there
          have base : ∀ x ∈ o.op.operands, ∀ b ∈ blockOf (aeval (T i) x), (ρ b).isSome = true := fun x hx b hb => blockOf_mapped (hev x hx) b hb
          have tch : ∀ b, b ∈ (afoot o (aeval (T i)) (H i).get).rs ++ (afoot o (aeval (T i)) (H i).get).ws → touches (FT i) b := fun b hb => by
            rw [← e3]
            rcases List.mem_append.1 hb with h | h
            · exact .inr (.inl h)
            · exact .inr (.inr h)
          have mapped : ∀ b, b ∈ (afoot o (aeval (T i)) (H i).get).rs ++ (afoot o (aeval (T i)) (H i).get).ws → (ρ b).isSome = true := by
            intro b hb
            rcases afoot_from hb with ⟨x, hx, hbx⟩ | ⟨x, hx, hbx, hr⟩
            · exact base x hx b hbx
            · have hb0 := base x hx
              generalize hvx : aeval (T i) x = vx at hbx hr hb0
              cases vx with
              | pointer ad =>
                cases ad with
                | none => simp [mapOf] at hbx
                | some ad =>
                  simp only [mapOf] at hbx
                  split at hbx
                  · rename_i m since seen last hg
                    simp only [List.mem_singleton] at hbx
                    subst hbx
                    have hm := hb0 ad.block (by simp [blockOf])
                    have hgs := hI.agree hT hi hS hready (get_lt hg) hm (tch _ (hr ad.block (by simp [blockOf])))
                    obtain ⟨pl, hpl⟩ := Option.isSome_iff_exists.1 hm
                    obtain ⟨co, _, _, pl', hpl', _⟩ := hI.heap.obj ad.block pl _ hpl (by rw [hgs]; exact hg) rfl
                    rw [hpl']; rfl
                  · cases hbx
              | _ => simp [mapOf] at hbx
          have agr : ∀ b, b ∈ (afoot o (aeval (T i)) (H i).get).rs ++ (afoot o (aeval (T i)) (H i).get).ws → b < (H i).size → GS H ops.size S b = (H i).get b := fun b hb hlt => hI.agree hT hi hS hready hlt (mapped b hb) (tch b hb)
          have hgs : aop E om o (aeval (T i)) (E.share f id i) (GS H ops.size S) (H i).size (H i).oc = some (v, e) := aop_loc (fun b hb ob hob => by rw [agr b hb (get_lt hob)]; exact hob) hop
          have hdetm : ∀ om', Agree (H i).oc om om' → aop E om' o (aeval (T i)) (E.share f id i) (GS H ops.size S) (H i).size (H i).oc = some (v, e) := fun om' ha => aop_locom hgs (by rw [htick]; exact ha)
          have hsz := Eff.run_size e (H i)
          rw [e2] at hsz
          have hsem : o.semAt F.round a.eval = execOp a.eval o := by
            refine Oper.semAt_eq _ _ _ (fun c hc => ?_)
            unfold aop at hop
            rw [hc] at hop
            cases hop
          rw [hsem]
          obtain ⟨om', hag, v', e', hdet, ⟨⟨nxt, cv, w', hrun', hnxt, ⟨⟨ρ', hv, hH', hst', hout, hout'⟩⟩⟩⟩⟩ := aop_run (om := om) (o := o) (ev := aeval (T i)) (cev := a.eval) (share := E.share f id i) (oc := (H i).oc) (nx := (H i).size) hok hI.heap
            (fun om' v' e' ha he hnew => by
              rw [hdetm om' ha] at he; injection he with he; injection he with _ he; subst he
              refine hI.dom i hi hS _ (Nat.le_refl _) ?_
              cases hne : e.new with
              | none => exact absurd hne hnew
              | some _ => rw [hne] at hsz; simp only at hsz; omega) hev (fun om' ha => by rw [hdetm om' ha]; rfl)
          have hee := hdet om' (Agree.refl _ _)
          rw [hdetm om' hag] at hee
          injection hee with hee; injection hee with q1 q2; subst q1 q2
          have hup : ∀ b o', e.upd = some (b, o') → ∃ o0, (H i).get b = some o0 := fun b o' hu => (aop_upd hop hu).2
          have hups : ∀ b o', e.upd = some (b, o') → b ∈ (afoot o (aeval (T i)) (H i).get).rs ++ (afoot o (aeval (T i)) (H i).get).ws := fun b o' hu => List.mem_append_right _ (aop_upd hop hu).1
          have hget : ∀ b, (H (i + 1)).get b = (match e.new with
              | some o => if b = (H i).size then some o else (match e.upd with | some (b0, o0) => if b = b0 then some o0 else (H i).get b | none => (H i).get b)
              | none => match e.upd with | some (b0, o0) => if b = b0 then some o0 else (H i).get b | none => (H i).get b) := fun b => by rw [← e2]; exact Eff.run_get hup b
          have hlook : e.look (GS H ops.size S) (H i).size = GS H ops.size (fun k => S k ∨ k = i) := by
            funext b
            by_cases hc : (H (i + 1)).get b = (H i).get b
            · rw [(hturn b).2 hc]
              rw [hget b] at hc
              unfold Eff.look
              cases hn : e.new with
              | some on =>
                rw [hn] at hc
                simp only at hc ⊢
                by_cases hbn : b = (H i).size
                · rw [if_pos hbn] at hc
                  rw [hbn, get_none (Nat.le_refl _)] at hc; cases hc
                · rw [if_neg hbn] at hc ⊢
                  cases hu : e.upd with
                  | none => rfl
                  | some u =>
                    obtain ⟨b0, o0⟩ := u
                    rw [hu] at hc
                    simp only at hc ⊢
                    by_cases hbb : b = b0
                    · rw [if_pos hbb] at hc ⊢
                      subst hbb
                      obtain ⟨o1, h1⟩ := hup b o0 hu
                      rw [agr b (hups b o0 hu) (get_lt h1)]; exact hc
                    · rw [if_neg hbb]
              | none =>
                rw [hn] at hc
                simp only at hc ⊢
                cases hu : e.upd with
                | none => rfl
                | some u =>
                  obtain ⟨b0, o0⟩ := u
                  rw [hu] at hc
                  simp only at hc ⊢
                  by_cases hbb : b = b0
                  · rw [if_pos hbb] at hc ⊢
                    subst hbb
                    obtain ⟨o1, h1⟩ := hup b o0 hu
                    rw [agr b (hups b o0 hu) (get_lt h1)]; exact hc
                  · rw [if_neg hbb]
            · rw [(hturn b).1 hc]
              rw [hget b] at hc ⊢
              unfold Eff.look
              cases hn : e.new with
              | some on =>
                rw [hn] at hc
                simp only at hc ⊢
                by_cases hbn : b = (H i).size
                · rw [if_pos hbn, if_pos hbn]
                · rw [if_neg hbn] at hc ⊢
                  rw [if_neg hbn]
                  cases hu : e.upd with
                  | none => rw [hu] at hc; exact absurd rfl hc
                  | some u =>
                    obtain ⟨b0, o0⟩ := u
                    rw [hu] at hc
                    simp only at hc ⊢
                    by_cases hbb : b = b0
                    · rw [if_pos hbb, if_pos hbb]
                    · rw [if_neg hbb] at hc; exact absurd rfl hc
              | none =>
                rw [hn] at hc
                simp only at hc ⊢
                cases hu : e.upd with
                | none => rw [hu] at hc; exact absurd rfl hc
                | some u =>
                  obtain ⟨b0, o0⟩ := u
                  rw [hu] at hc
                  simp only at hc ⊢
                  by_cases hbb : b = b0
                  · rw [if_pos hbb, if_pos hbb]
                  · rw [if_neg hbb] at hc; exact absurd rfl hc
          rw [hlook] at hH' hst'
          have hpo : PmOut ρ ρ' (H i).size (H (i + 1)).size := by
            intro b hb
            by_cases hbn : b = (H i).size
            · subst hbn
              cases hne : e.new with
              | none => exact hout' hne
              | some _ => rw [hne] at hsz; simp only at hsz; omega
            · exact hout b hbn
          have hfin := hk ρ' (a.put o.dst cv) w' (hI.next hT hi hS hready ho hoo.2 (by rw [← e1]; exact hv) hH' hst' hpo (fun b hne => by
            by_cases hb : b < (H i).size
            · -- an old one: it is mapped
              rw [hget b] at hne
              have : ∃ o0, e.upd = some (b, o0) := by
                cases hu : e.upd with
                | none =>
                  rw [hu] at hne
                  cases hn : e.new with
                  | none => rw [hn] at hne; exact absurd rfl hne
                  | some _ => rw [hn] at hne; simp only at hne; rw [if_neg (by omega)] at hne; exact absurd rfl hne
                | some u =>
                  obtain ⟨b0, o0⟩ := u
                  by_cases hbb : b = b0
                  · subst hbb; exact ⟨o0, rfl⟩
                  · rw [hu] at hne
                    cases hn : e.new with
                    | none => rw [hn] at hne; simp only at hne; rw [if_neg hbb] at hne; exact absurd rfl hne
                    | some _ => rw [hn] at hne; simp only at hne; rw [if_neg (by omega), if_neg hbb] at hne; exact absurd rfl hne
              obtain ⟨o0, hu⟩ := this
              exact hst'.le.isSome (mapped b (hups b o0 hu))
            · refine hst'.wr b ?_
              rw [(hturn b).1 hne, hI.notYet hT hi hS (by omega) (made_lt (by omega) hne)]
              have hn0 : (H i).get b = none := get_none (by omega)
              rw [hn0] at hne
              exact hne))
          rw [hrun']
          rcases hnxt with rfl | ⟨rfl, rfl⟩
          · exact hfin
          · exact hfin
        · cases hst
  · rw [if_neg hw]
    obtain ⟨h1, h2, _⟩ := (hrun i o ho).no hw
    have hgs : GS H ops.size (fun k => S k ∨ k = i) = GS H ops.size S := funext fun b => (hturn b).2 (by rw [h1])
    refine ⟨fun f _ => hF.fn f, hk ρ _ w (hI.next hT hi hS hready ho hoo.2 (by rw [h2]; exact VRel.undef ρ) (by rw [hgs]; exact hI.heap) (by rw [hgs]; exact Step.refl _ _ _) (PmOut.refl _ _ _) (fun b hne => by rw [h1] at hne; exact absurd rfl hne))⟩
end Go.Am
