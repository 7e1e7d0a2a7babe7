/- The abstract machine and the model: regions whose order is drawn. -/
import Derived.Test.YtgngbcmhapmokaaDoorAmDraw
import Derived.Test.YtgngbcmhapmokaaDoorAmCall
namespace Go.Am
open Go

variable {E : AEnv}

/-- What a call turned is laid into what is there. -/
theorem graft {ρ ρ' : Pm} {g g' h h' : Look} {w w' : World} {lo hi : Nat} (hlohi : lo ≤ hi) (hg : HRel E ρ g w) (hh' : HRel E ρ' h' w') (hst : Step ρ h w ρ' h' w') (hout : PmOut ρ ρ' lo hi)
    (hfree : ∀ b, lo ≤ b → b < hi → ρ b = none) (hgn : ∀ b, lo ≤ b → b < hi → g b = none) (hag : ∀ b, b < lo → (ρ b).isSome = true → g b = h b) (hhn : ∀ b, lo ≤ b → h b = none) (hhn' : ∀ b, hi ≤ b → h' b = none)
    (hg' : ∀ b, (h' b ≠ h b → g' b = h' b) ∧ (h' b = h b → g' b = g b)) : HRel E ρ' g' w' ∧ Step ρ g w ρ' g' w' := by
  -- below hi, what is mapped is the call's
  have inn : ∀ b, b < hi → (ρ' b).isSome = true → g' b = h' b := by
    intro b hb hs
    by_cases hc : h' b = h b
    · rw [(hg' b).2 hc]
      by_cases hlo : b < lo
      · rw [hag b hlo (by rw [← hout b (.inl hlo)]; exact hs), hc]
      · rw [hgn b (by omega) hb, hc, hhn b (by omega)]
    · exact (hg' b).1 hc
  have outt : ∀ b, hi ≤ b → g' b = g b ∧ ρ' b = ρ b := fun b hb => ⟨(hg' b).2 (by rw [hhn' b hb, hhn b (by omega)]), hout b (.inr hb)⟩
  -- a place that was there, and is nobody's, is as it was
  have kept : ∀ b pl o, ρ b = some pl → g b = some o → o.live = true → hi ≤ b → w'.heap[pl.blk]? = w.heap[pl.blk]? := by
    intro b pl o h1 h2 h3 hb
    refine hst.frame _ (hg.lt h1 h2 h3) fun b0 pl0 o0 a1 a2 a3 => ?_
    have hb0 : b0 < lo := Nat.lt_of_not_le fun hle => by rw [hhn b0 hle] at a2; cases a2
    have := hag b0 hb0 (by rw [a1]; rfl)
    exact hg.excl b0 b pl0 pl o0 o (by omega) a1 h1 (by rw [this]; exact a2) h2 a3 h3
  have own' : ∀ b pl o, ρ' b = some pl → g' b = some o → o.owned = true → pl.blk < w.heap.size → ∃ b0 pl0 o0, ρ b0 = some pl0 ∧ g b0 = some o0 ∧ o0.owned = true ∧ pl0.blk = pl.blk ∧ (b < hi → b0 < lo) ∧ (hi ≤ b → b0 = b) := by
    intro b pl o h1 h2 h3 h4
    by_cases hb : b < hi
    · rw [inn b hb (by rw [h1]; rfl)] at h2
      obtain ⟨b0, pl0, o0, a1, a2, a3, a4⟩ := hst.own b pl o h1 h2 h3 h4
      have hb0 : b0 < lo := Nat.lt_of_not_le fun hle => by rw [hhn b0 hle] at a2; cases a2
      exact ⟨b0, pl0, o0, a1, by rw [hag b0 hb0 (by rw [a1]; rfl)]; exact a2, a3, a4, fun _ => hb0, fun h => absurd hb (by omega)⟩
    · obtain ⟨q1, q2⟩ := outt b (by omega)
      exact ⟨b, pl, o, by rw [← q2]; exact h1, by rw [← q1]; exact h2, h3, rfl, fun h => absurd h hb, fun _ => rfl⟩
  have liv' : ∀ b pl o, ρ' b = some pl → g' b = some o → o.live = true → pl.blk < w.heap.size → ∃ b0 pl0 o0, ρ b0 = some pl0 ∧ g b0 = some o0 ∧ o0.live = true ∧ pl0.blk = pl.blk ∧ (b < hi → b0 < lo) ∧ (hi ≤ b → b0 = b) := by
    intro b pl o h1 h2 h3 h4
    by_cases hb : b < hi
    · rw [inn b hb (by rw [h1]; rfl)] at h2
      obtain ⟨b0, pl0, o0, a1, a2, a3, a4⟩ := hst.liv b pl o h1 h2 h3 h4
      have hb0 : b0 < lo := Nat.lt_of_not_le fun hle => by rw [hhn b0 hle] at a2; cases a2
      exact ⟨b0, pl0, o0, a1, by rw [hag b0 hb0 (by rw [a1]; rfl)]; exact a2, a3, a4, fun _ => hb0, fun h => absurd hb (by omega)⟩
    · obtain ⟨q1, q2⟩ := outt b (by omega)
      exact ⟨b, pl, o, by rw [← q2]; exact h1, by rw [← q1]; exact h2, h3, rfl, fun h => absurd h hb, fun _ => rfl⟩
  refine ⟨⟨?_, ?_⟩, ⟨hst.le, hst.size, ?_, ?_, ?_, ?_, hst.os, hst.tape, hst.output⟩⟩
  · intro b pl o h1 h2 h3
    by_cases hb : b < hi
    · rw [inn b hb (by rw [h1]; rfl)] at h2
      exact hh'.obj b pl o h1 h2 h3
    · obtain ⟨q1, q2⟩ := outt b (by omega)
      rw [q1] at h2; rw [q2] at h1
      obtain ⟨co, hc, hr⟩ := hg.obj b pl o h1 h2 h3
      exact ⟨co, by rw [kept b pl o h1 h2 h3 (by omega)]; exact hc, hr.mono hst.le⟩
  · intro b b' pl pl' o o' hne h1 h1' h2 h2' h3 h3'
    by_cases hb : b < hi
    · by_cases hb' : b' < hi
      · rw [inn b hb (by rw [h1]; rfl)] at h2
        rw [inn b' hb' (by rw [h1']; rfl)] at h2'
        exact hh'.excl b b' pl pl' o o' hne h1 h1' h2 h2' h3 h3'
      · obtain ⟨q1, q2⟩ := outt b' (by omega)
        rw [q1] at h2'; rw [q2] at h1'
        have hlt := hg.lt h1' h2' h3'
        by_cases hblk : pl.blk < w.heap.size
        · obtain ⟨b0, pl0, o0, a1, a2, a3, a4, a5, _⟩ := own' b pl o h1 h2 h3 hblk
          rw [← a4]
          have := a5 hb
          exact hg.excl b0 b' pl0 pl' o0 o' (by omega) a1 h1' a2 h2' a3 h3'
        · omega
    · obtain ⟨q1, q2⟩ := outt b (by omega)
      rw [q1] at h2; rw [q2] at h1
      have hlt := hg.lt h1 h2 (live_of_owned h3)
      by_cases hblk : pl'.blk < w.heap.size
      · obtain ⟨b0, pl0, o0, a1, a2, a3, a4, a5, a6⟩ := liv' b' pl' o' h1' h2' h3' hblk
        rw [← a4]
        refine hg.excl b b0 pl pl0 o o0 ?_ h1 a1 h2 a2 h3 a3
        by_cases hb' : b' < hi
        · have := a5 hb'; omega
        · have := a6 (by omega); omega
      · omega
  · intro k hk hn
    refine hst.frame k hk fun b0 pl0 o0 a1 a2 a3 => ?_
    have hb0 : b0 < lo := Nat.lt_of_not_le fun hle => by rw [hhn b0 hle] at a2; cases a2
    exact hn b0 pl0 o0 a1 (by rw [hag b0 hb0 (by rw [a1]; rfl)]; exact a2) a3
  · intro b pl o h1 h2 h3 h4
    obtain ⟨b0, pl0, o0, a1, a2, a3, a4, _⟩ := own' b pl o h1 h2 h3 h4
    exact ⟨b0, pl0, o0, a1, a2, a3, a4⟩
  · intro b pl o h1 h2 h3 h4
    obtain ⟨b0, pl0, o0, a1, a2, a3, a4, _⟩ := liv' b pl o h1 h2 h3 h4
    exact ⟨b0, pl0, o0, a1, a2, a3, a4⟩
  · intro b hb
    by_cases hc : h' b = h b
    · exact absurd ((hg' b).2 hc) hb
    · exact hst.wr b hc

noncomputable def GS (H : Nat → AHeap) (n : Nat) (S : Nat → Prop) : Look := fun b => virt (fun i => (H i).get b) (fun k => S k ∧ (H (k + 1)).get b ≠ (H k).get b) n
noncomputable def TS (ops : Array Oper) (T : Nat → Tm) (S : Nat → Prop) (t : Nat) : Value := virt (fun i => tget 12 (T i) t) (fun k => S k ∧ (ops[k]?).bind (·.dst) = some t) ops.size

structure DInv (E : AEnv) (ops : Array Oper) (nt : Nat) (T : Nat → Tm) (H : Nat → AHeap) (ρ0 : Pm) (w0 : World) (ds : List Deferred) (S : Nat → Prop) (ρ : Pm) (a : Act) (w : World) : Prop where
  down : ∀ k, S k → ∀ j, ((Region.before ops).getD k 0).testBit j = true → S j
  temps : ∀ t, VRel ρ (TS ops T S t) (a.tmps.getD t Go.undef)
  size : a.tmps.size = nt
  defers : a.defers = ds
  heap : HRel E ρ (GS H ops.size S) w
  dom : ∀ k, k < ops.size → ¬ S k → ∀ b, (H k).size ≤ b → b < (H (k + 1)).size → ρ b = none
  wrote : ∀ k, k < ops.size → S k → ∀ b, (H (k + 1)).get b ≠ (H k).get b → (ρ b).isSome = true
  out : PmOut ρ0 ρ (H 0).size (H ops.size).size
  glob : GOk E ρ
  step : Step ρ0 (H 0).get w0 ρ (GS H ops.size S) w

section
variable {ops : Array Oper} {nt : Nat} {T : Nat → Tm} {H : Nat → AHeap} {V : Nat → Value} {FT : Nat → Foot} {ρ0 ρ : Pm} {w0 w : World} {ds : List Deferred} {S : Nat → Prop} {a : Act} {i : Nat}

theorem made_lt {k b : Nat} (hb : (H k).size ≤ b) (hne : (H (k + 1)).get b ≠ (H k).get b) : b < (H (k + 1)).size := by
  apply Nat.lt_of_not_le
  intro hle
  rw [get_none hle, get_none hb] at hne
  exact hne rfl

theorem DInv.agree (hT : TextOk ops T H V FT) (hI : DInv E ops nt T H ρ0 w0 ds S ρ a w) (hi : i < ops.size) (hS : ¬ S i) (hready : ∀ j, ((Region.before ops).getD i 0).testBit j = true → S j) {b : Nat} (hb : b < (H i).size) (hm : (ρ b).isSome = true) (ht : touches (FT i) b) :
    GS H ops.size S b = (H i).get b := by
  refine virt_at (i := i) (fun k hk hnp => ?_) (by omega) (fun k hk1 hk2 hp => ?_)
  · apply Classical.byContradiction
    intro hne
    have hnS : ¬ S k := fun h => hnp ⟨h, hne⟩
    by_cases hbk : b < (H k).size
    · exact hnS (hready k ((hT.conflict k i b (by omega) hi (by omega) hbk hne ht).1 hk))
    · rw [hI.dom k (by omega) hnS b (by omega) (made_lt (by omega) hne)] at hm
      cases hm
  · obtain ⟨hSk, hne⟩ := hp
    have hki : k ≠ i := fun h => hS (h ▸ hSk)
    have hbk : b < (H k).size := Nat.lt_of_lt_of_le hb (hT.size hk1 (by omega))
    exact hS (hI.down k hSk i ((hT.conflict k i b hk2 hi hki hbk hne ht).2 (by omega)))

theorem DInv.tempAt (hT : TextOk ops T H V FT) (hI : DInv E ops nt T H ρ0 w0 ds S ρ a w) (hi : i < ops.size) (hS : ¬ S i) (hready : ∀ j, ((Region.before ops).getD i 0).testBit j = true → S j) {o : Oper} (ho : ops[i]? = some o) {t : Nat} (ht : t ∈ o.looksAt ops) :
    TS ops T S t = tget 12 (T i) t := by
  refine virt_at (i := i) (fun k hk hnp => ?_) (by omega) (fun k hk1 hk2 hp => ?_)
  · obtain ⟨x, hx⟩ : ∃ x, ops[k]? = some x := ⟨ops[k]'(by omega), Array.getElem?_eq_getElem (by omega)⟩
    obtain ⟨h1, h2⟩ := hT.tmps k x hx
    rw [h1]
    cases hd : x.dst with
    | none => rfl
    | some d =>
      have hlt : d + 1 < 2 ^ 12 := Nat.lt_of_lt_of_le (Nat.succ_lt_succ (h2 d hd)) (by decide)
      show tget 12 (tset 12 (T k) d (V k)) t = _
      rw [tget_tset 12 _ _ _ _ hlt]
      by_cases hdt : d = t
      · subst hdt
        exfalso
        have := (hT.temp k i d x o hx ho (by omega) hd (.inl ht)).1 hk
        exact hnp ⟨hready k this, by rw [hx]; exact hd⟩
      · rw [if_neg hdt]
  · obtain ⟨hSk, hd⟩ := hp
    have hki : k ≠ i := fun h => hS (h ▸ hSk)
    obtain ⟨x, hx⟩ : ∃ x, ops[k]? = some x := ⟨ops[k]'(by omega), Array.getElem?_eq_getElem (by omega)⟩
    rw [hx] at hd
    exact hS (hI.down k hSk i ((hT.temp k i t x o hx ho hki hd (.inl ht)).2 (by omega)))

/-- Nothing is there yet of what an operation to come makes. -/
theorem DInv.notYet (hT : TextOk ops T H V FT) (hI : DInv E ops nt T H ρ0 w0 ds S ρ a w) (hi : i < ops.size) (hS : ¬ S i) {b : Nat} (hb : (H i).size ≤ b) (hb' : b < (H (i + 1)).size) : GS H ops.size S b = none := by
  have : GS H ops.size S b = (H 0).get b := virt_at (i := 0) (fun k hk => by omega) (by omega) (fun k _ hk hp => by
    have := hI.wrote k hk hp.1 b hp.2
    rw [hI.dom i hi hS b hb hb'] at this
    cases this)
  rw [this]
  exact get_none (Nat.le_trans (hT.size (Nat.zero_le _) (by omega)) hb)

theorem DInv.turns (hT : TextOk ops T H V FT) (hI : DInv E ops nt T H ρ0 w0 ds S ρ a w) (hi : i < ops.size) (hS : ¬ S i) (b : Nat) :
    ((H (i + 1)).get b ≠ (H i).get b → GS H ops.size (fun k => S k ∨ k = i) b = (H (i + 1)).get b) ∧ ((H (i + 1)).get b = (H i).get b → GS H ops.size (fun k => S k ∨ k = i) b = GS H ops.size S b) := by
  have h := virt_add (c := fun i => (H i).get b) (p := fun k => S k ∧ (H (k + 1)).get b ≠ (H k).get b) (p' := fun k => (S k ∨ k = i) ∧ (H (k + 1)).get b ≠ (H k).get b) (i := i)
    (fun k hk => by simp [hk]) (fun h => hS h.1) ops.size hi (fun hp k hk1 hk2 hq => by
      obtain ⟨_, hne⟩ := hp
      obtain ⟨hSk, hnek⟩ := hq
      by_cases hb : b < (H i).size
      · have hbk : b < (H k).size := Nat.lt_of_lt_of_le hb (hT.size (by omega) (by omega))
        exact hS (hI.down k hSk i ((hT.conflict k i b hk2 hi (by omega) hbk hnek (hT.wrote i b hi hb hne)).2 hk1))
      · have := hI.wrote k hk2 hSk b hnek
        rw [hI.dom i hi hS b (by omega) (made_lt (by omega) hne)] at this
        cases this)
  constructor
  · intro hne
    show virt _ _ _ = _
    rw [h, if_pos ⟨.inr rfl, hne⟩]
  · intro he
    show virt _ _ _ = virt _ _ _
    rw [h, if_neg (fun hp => hp.2 he)]

/-- An operation more. -/
theorem DInv.next (hT : TextOk ops T H V FT) (hI : DInv E ops nt T H ρ0 w0 ds S ρ a w) (hi : i < ops.size) (hS : ¬ S i) (hready : ∀ j, ((Region.before ops).getD i 0).testBit j = true → S j) {o : Oper} (ho : ops[i]? = some o) (hd : dstOk nt o.dst = true)
    {ρ' : Pm} {cv : Value} {w' : World} (hv : VRel ρ' (V i) cv) (hH : HRel E ρ' (GS H ops.size (fun k => S k ∨ k = i)) w') (hst : Step ρ (GS H ops.size S) w ρ' (GS H ops.size (fun k => S k ∨ k = i)) w')
    (hout : PmOut ρ ρ' (H i).size (H (i + 1)).size) (hwr : ∀ b, (H (i + 1)).get b ≠ (H i).get b → (ρ' b).isSome = true) : DInv E ops nt T H ρ0 w0 ds (fun k => S k ∨ k = i) ρ' (a.put o.dst cv) w' := by
  obtain ⟨ht1, ht2⟩ := hT.tmps i o ho
  refine ⟨fun k hk j hj => ?_, fun t => ?_, ?_, ?_, hH, fun k hk hnS b hb1 hb2 => ?_, fun k hk hSk b hne => ?_, fun b hb => ?_, hI.glob.mono hst.le, hI.step.trans hst⟩
  · rcases hk with hk | rfl
    · exact .inl (hI.down k hk j hj)
    · exact .inl (hready j hj)
  · have h := virt_add (c := fun i => tget 12 (T i) t) (p := fun k => S k ∧ (ops[k]?).bind (·.dst) = some t) (p' := fun k => (S k ∨ k = i) ∧ (ops[k]?).bind (·.dst) = some t) (i := i)
      (fun k hk => by simp [hk]) (fun h => hS h.1) ops.size hi (fun hp k hk1 hk2 hq => by
        obtain ⟨_, hdi⟩ := hp
        obtain ⟨hSk, hdk⟩ := hq
        obtain ⟨x, hx⟩ : ∃ x, ops[k]? = some x := ⟨ops[k]'(by omega), Array.getElem?_eq_getElem (by omega)⟩
        rw [ho] at hdi
        rw [hx] at hdk
        exact hS (hI.down k hSk i ((hT.temp k i t x o hx ho (by omega) hdk (.inr hdi)).2 hk1)))
    show VRel ρ' (virt _ _ _) _
    rw [h]
    by_cases hdt : o.dst = some t
    · rw [if_pos ⟨.inr rfl, by rw [ho]; exact hdt⟩]
      have hlt : t < nt := by rw [hdt] at hd; simpa [dstOk] using hd
      have e1 : tget 12 (T (i + 1)) t = V i := by
        rw [ht1, hdt]
        show tget 12 (tset 12 (T i) t (V i)) t = _
        have h3 : (t : Nat) < 4000 := ht2 t hdt
        rw [tget_tset 12 _ _ _ _ (by omega), if_pos rfl]
      have e2 : (a.put o.dst cv).tmps.getD t Go.undef = cv := by
        rw [hdt]
        have := hI.size
        simp only [Act.put]
        simp [this, hlt]
      rw [e1, e2]; exact hv
    · rw [if_neg (fun hp => hdt (by have := hp.2; rw [ho] at this; exact this))]
      have e2 : (a.put o.dst cv).tmps.getD t Go.undef = a.tmps.getD t Go.undef := by
        cases hdd : o.dst with
        | none => rfl
        | some d =>
          have hne : d ≠ t := fun h => hdt (by rw [hdd, h])
          simp only [Act.put]
          simp [Array.getElem?_setIfInBounds_ne hne]
      rw [e2]
      exact (hI.temps t).mono hst.le
  · cases hdd : o.dst with
    | none => exact hI.size
    | some d => simp only [Act.put, Array.size_setIfInBounds]; exact hI.size
  · cases o.dst <;> exact hI.defers
  · have hki : k ≠ i := fun h => hnS (.inr h)
    rw [hout b ?_]
    · exact hI.dom k hk (fun h => hnS (.inl h)) b hb1 hb2
    · rcases Nat.lt_or_ge k i with h | h
      · have := hT.size (show k + 1 ≤ i by omega) (by omega); omega
      · have := hT.size (show i + 1 ≤ k by omega) (by omega); omega
  · rcases hSk with hSk | rfl
    · exact hst.le.isSome (hI.wrote k hk hSk b hne)
    · exact hwr b hne
  · have h1 := hT.size (Nat.zero_le i) (by omega)
    have h2 := hT.size (show i + 1 ≤ ops.size by omega) (Nat.le_refl _)
    rw [hout b (by omega), hI.out b hb]
end
end Go.Am
