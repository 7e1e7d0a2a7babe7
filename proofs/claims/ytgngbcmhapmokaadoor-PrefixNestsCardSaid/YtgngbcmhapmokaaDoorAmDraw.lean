/- The abstract machine and the model: regions whose order is drawn: what the text's order gives, each order gives. Parts. -/
import Derived.Test.YtgngbcmhapmokaaDoorAmLoc
import Derived.OrdersIn
namespace Go.Am
open Go

variable {E : AEnv}

/-! ### Ahead of an operation -/
def rowOf (acc : Array Nat) (o : Oper) : Nat := o.after.foldl (fun s e => if Region.binds .any e then s ||| 2 ^ e.on ||| acc.getD e.on 0 else s) 0

theorem rowOf_bit {acc : Array Nat} {o : Oper} {j : Nat} (h : (rowOf acc o).testBit j = true) : ∃ e ∈ o.after, Region.binds .any e = true ∧ (e.on = j ∨ (acc.getD e.on 0).testBit j = true) := by
  have key : ∀ (l : List Edge) (s : Nat), (l.foldl (fun s e => if Region.binds .any e then s ||| 2 ^ e.on ||| acc.getD e.on 0 else s) s).testBit j = true →
      s.testBit j = true ∨ ∃ e ∈ l, Region.binds .any e = true ∧ (e.on = j ∨ (acc.getD e.on 0).testBit j = true) := by
    intro l
    induction l with
    | nil => intro s h; exact .inl h
    | cons e l ih =>
      intro s h
      simp only [List.foldl_cons] at h
      rcases ih _ h with h1 | ⟨e', h1, h2⟩
      · by_cases hb : Region.binds .any e = true
        · rw [if_pos hb] at h1
          simp only [Nat.testBit_or, Bool.or_eq_true] at h1
          rcases h1 with (h1 | h1) | h1
          · exact .inl h1
          · refine .inr ⟨e, List.mem_cons_self .., hb, .inl ?_⟩
            rw [Nat.testBit_two_pow] at h1
            simpa using h1
          · exact .inr ⟨e, List.mem_cons_self .., hb, .inr h1⟩
        · rw [if_neg hb] at h1; exact .inl h1
      · exact .inr ⟨e', List.mem_cons_of_mem _ h1, h2⟩
  unfold rowOf at h
  rw [← Array.foldl_toList] at h
  rcases key _ _ h with h1 | ⟨e, h1, h2⟩
  · simp at h1
  · exact ⟨e, by simpa using h1, h2⟩

theorem before_list (l : List Oper) : ∀ (acc : Array Nat), let R := l.foldl (fun acc o => acc.push (rowOf acc o)) acc
    R.size = acc.size + l.length ∧ (∀ k, k < acc.size → R.getD k 0 = acc.getD k 0) ∧
    ∀ i o, l[i]? = some o → ∃ B : Array Nat, B.size = acc.size + i ∧ (∀ k, k < B.size → B.getD k 0 = R.getD k 0) ∧ R.getD (acc.size + i) 0 = rowOf B o := by
  induction l with
  | nil => intro acc; exact ⟨rfl, fun _ _ => rfl, fun i o h => by simp at h⟩
  | cons o l ih =>
    intro acc
    obtain ⟨h1, h2, h3⟩ := ih (acc.push (rowOf acc o))
    simp only [Array.size_push] at h1 h2 h3
    simp only [List.foldl_cons, List.length_cons]
    refine ⟨by omega, fun k hk => ?_, fun i o' hi => ?_⟩
    · rw [h2 k (by omega)]
      simp [Array.getElem?_push, show k ≠ acc.size by omega]
    · cases i with
      | zero =>
        simp only [List.getElem?_cons_zero] at hi
        injection hi with hi; subst hi
        refine ⟨acc, rfl, fun k hk => ?_, ?_⟩
        · rw [h2 k (by omega)]
          simp [Array.getElem?_push, show k ≠ acc.size by omega]
        · rw [Nat.add_zero, h2 acc.size (by omega)]
          simp
      | succ i =>
        obtain ⟨B, b1, b2, b3⟩ := h3 i o' (by simpa using hi)
        exact ⟨B, by omega, b2, by rw [← b3]; congr 1; omega⟩

theorem before_spec {ops : Array Oper} (hlt : ∀ (i : Nat) (o : Oper), ops[i]? = some o → ∀ e ∈ o.after, Region.binds .any e = true → e.on < i) {i j : Nat} {o : Oper} (ho : ops[i]? = some o)
    (h : ((Region.before ops).getD i 0).testBit j = true) : ∃ e ∈ o.after, Region.binds .any e = true ∧ (e.on = j ∨ ((Region.before ops).getD e.on 0).testBit j = true) := by
  have he : Region.before ops = ops.toList.foldl (fun acc o => acc.push (rowOf acc o)) #[] := by
    unfold Region.before
    rw [← Array.foldl_toList]
    rfl
  obtain ⟨h1, h2, h3⟩ := before_list ops.toList #[]
  obtain ⟨B, b1, b2, b3⟩ := h3 i o (by simpa using ho)
  rw [← he] at b2 b3
  simp only [Array.size_empty, Nat.zero_add] at b1 b3
  rw [b3] at h
  obtain ⟨e, q1, q2, q3⟩ := rowOf_bit h
  refine ⟨e, q1, q2, ?_⟩
  rcases q3 with q3 | q3
  · exact .inl q3
  · exact .inr (by rw [← b2 e.on (by rw [b1]; exact hlt i o ho e q1 q2)]; exact q3)

/-! ### What is there once some are done -/
open Classical in
noncomputable def virt {β : Type} (c : Nat → β) (p : Nat → Prop) : Nat → β
  | 0 => c 0
  | k + 1 => if p k then c (k + 1) else virt c p k

theorem virt_at {β : Type} {c : Nat → β} {p : Nat → Prop} {i : Nat} (h1 : ∀ k, k < i → ¬ p k → c (k + 1) = c k) {m : Nat} (hm : i ≤ m) (h2 : ∀ k, i ≤ k → k < m → ¬ p k) : virt c p m = c i := by
  have front : ∀ j, j ≤ i → virt c p j = c j := by
    intro j
    induction j with
    | zero => intro _; rfl
    | succ j ih =>
      intro hj
      simp only [virt]
      by_cases hp : p j
      · rw [if_pos hp]
      · rw [if_neg hp, ih (by omega), h1 j (by omega) hp]
  obtain ⟨d, rfl⟩ : ∃ d, m = i + d := ⟨m - i, by omega⟩
  clear hm
  induction d with
  | zero => exact front i (Nat.le_refl _)
  | succ d ih =>
    show virt c p (i + d + 1) = c i
    simp only [virt]
    rw [if_neg (h2 (i + d) (by omega) (by omega))]
    exact ih fun k a b => h2 k a (by omega)

open Classical in
theorem virt_add {β : Type} {c : Nat → β} {p p' : Nat → Prop} {i : Nat} (hp : ∀ k, k ≠ i → (p' k ↔ p k)) (hpi : ¬ p i) : ∀ m, i < m → (p' i → ∀ k, i < k → k < m → ¬ p k) → virt c p' m = if p' i then c (i + 1) else virt c p m := by
  have front : ∀ j, j ≤ i → virt c p' j = virt c p j := by
    intro j
    induction j with
    | zero => intro _; rfl
    | succ j ih =>
      intro hj
      simp only [virt, hp j (by omega), ih (by omega)]
  intro m
  induction m with
  | zero => intro h; omega
  | succ m ih =>
    intro hm hno
    simp only [virt]
    by_cases hmi : m = i
    · subst hmi
      by_cases hq : p' m
      · rw [if_pos hq, if_pos hq]
      · rw [if_neg hq, if_neg hq, if_neg hpi, front m (Nat.le_refl _)]
    · have ih := ih (by omega) (fun a k b1 b2 => hno a k b1 (by omega))
      by_cases hq : p' i
      · rw [if_pos hq] at ih ⊢
        have : ¬ p' m := fun h => hno hq m (by omega) (by omega) ((hp m hmi).1 h)
        rw [if_neg this, ih]
      · rw [if_neg hq] at ih ⊢
        by_cases hpm : p m
        · rw [if_pos hpm, if_pos ((hp m hmi).2 hpm)]
        · rw [if_neg hpm, if_neg (fun h => hpm ((hp m hmi).1 h)), ih]

/-! ### The run in the text's order, step by step -/
structure StepAt (E : AEnv) (om : Nat → Nat) (call : ACall) (f rid : Nat) (ops : Array Oper) (T : Nat → Tm) (H : Nat → AHeap) (V : Nat → Value) (FT : Nat → Foot) (i : Nat) (o : Oper) : Prop where
  yes : Region.wanted o (ayielded ops (T i)) = true → astep E om true call o (aeval (T i)) (E.share f rid i) (H i) = some (V i, H (i + 1), FT i)
  no : Region.wanted o (ayielded ops (T i)) ≠ true → H (i + 1) = H i ∧ V i = Go.undef ∧ FT i = Foot.none
  tmps : T (i + 1) = aputT (T i) o.dst (V i)

theorem textRun {om : Nat → Nat} {call : ACall} {f rid : Nat} {ops : Array Oper} : ∀ (l : List Oper) (i : Nat) (tm : Tm) (h : AHeap) (ft : List Foot) (tm' : Tm) (h' : AHeap) (ft' : List Foot), aops E om true call f rid ops l i tm h ft = some (tm', h', ft') →
    ∃ (T : Nat → Tm) (H : Nat → AHeap) (V : Nat → Value) (FT : Nat → Foot), T i = tm ∧ H i = h ∧ T (i + l.length) = tm' ∧ H (i + l.length) = h' ∧ (∀ j o, l[j]? = some o → StepAt E om call f rid ops T H V FT (i + j) o) ∧
      ft' = ((List.range' i l.length).map FT).reverse ++ ft := by
  intro l
  induction l with
  | nil =>
    intro i tm h ft tm' h' ft' hr
    simp only [aops] at hr
    injection hr with hr; injection hr with e1 hr; injection hr with e2 e3; subst e1 e2 e3
    exact ⟨fun _ => tm, fun _ => h, fun _ => Go.undef, fun _ => Foot.none, rfl, rfl, rfl, rfl, fun j o hj => by simp at hj, by simp⟩
  | cons o l ih =>
    intro i tm h ft tm' h' ft' hr
    simp only [aops] at hr
    -- one operation, and the rest
    have join : ∀ (v : Value) (h1 : AHeap) (t : Foot), aops E om true call f rid ops l (i + 1) (aputT tm o.dst v) h1 (t :: ft) = some (tm', h', ft') →
        (Region.wanted o (ayielded ops tm) = true → astep E om true call o (aeval tm) (E.share f rid i) h = some (v, h1, t)) → (Region.wanted o (ayielded ops tm) ≠ true → h1 = h ∧ v = Go.undef ∧ t = Foot.none) →
        ∃ (T : Nat → Tm) (H : Nat → AHeap) (V : Nat → Value) (FT : Nat → Foot), T i = tm ∧ H i = h ∧ T (i + (o :: l).length) = tm' ∧ H (i + (o :: l).length) = h' ∧ (∀ j o', (o :: l)[j]? = some o' → StepAt E om call f rid ops T H V FT (i + j) o') ∧
          ft' = ((List.range' i (o :: l).length).map FT).reverse ++ ft := by
      intro v h1 t hr hy hn
      obtain ⟨T, H, V, FT, a1, a2, a3, a4, a5, a6⟩ := ih _ _ _ _ _ _ _ hr
      refine ⟨fun k => if k = i then tm else T k, fun k => if k = i then h else H k, fun k => if k = i then v else V k, fun k => if k = i then t else FT k, if_pos rfl, if_pos rfl, ?_, ?_, ?_, ?_⟩
      · simp only [List.length_cons]; rw [if_neg (by omega), show i + (l.length + 1) = i + 1 + l.length by omega]; exact a3
      · simp only [List.length_cons]; rw [if_neg (by omega), show i + (l.length + 1) = i + 1 + l.length by omega]; exact a4
      · intro j o' hj
        cases j with
        | zero =>
          simp only [List.getElem?_cons_zero] at hj
          injection hj with hj; subst hj
          simp only [Nat.add_zero]
          exact ⟨fun hw => by simp only [if_pos] at hw ⊢; rw [if_neg (by omega), a2]; exact hy hw, fun hw => by simp only [if_pos] at hw ⊢; rw [if_neg (by omega), a2]; exact hn hw, by simp only [if_pos]; rw [if_neg (by omega), a1]⟩
        | succ j =>
          have := a5 j o' (by simpa using hj)
          rw [show i + (j + 1) = i + 1 + j by omega]
          exact ⟨fun hw => by simp only [show ¬ (i + 1 + j = i) by omega, show ¬ (i + 1 + j + 1 = i) by omega, if_false] at hw ⊢; exact this.yes hw,
            fun hw => by simp only [show ¬ (i + 1 + j = i) by omega, show ¬ (i + 1 + j + 1 = i) by omega, if_false] at hw ⊢; exact this.no hw,
            by simp only [show ¬ (i + 1 + j = i) by omega, show ¬ (i + 1 + j + 1 = i) by omega, if_false]; exact this.tmps⟩
      · rw [a6]
        simp only [List.length_cons, List.range'_succ, List.map_cons, if_true, List.reverse_cons, List.append_assoc, List.singleton_append]
        congr 2
        apply List.map_congr_left
        intro k hk
        rw [List.mem_range'_1] at hk
        rw [if_neg (by omega)]
    split at hr
    · rename_i hw
      split at hr
      · rename_i v h1 t hs
        exact join v h1 t hr (fun _ => hs) (fun h => absurd hw h)
      · cases hr
    · rename_i hw
      exact join Go.undef h Foot.none hr (fun h => absurd h hw) (fun _ => ⟨rfl, rfl, rfl⟩)

theorem footAt_rev (FT : Nat → Foot) (n i : Nat) (hi : i < n) : footAt n (((List.range' 0 n).map FT).reverse ++ []) i = FT i := by
  unfold footAt
  rw [List.append_nil, List.getElem?_reverse (by simp; omega)]
  simp only [List.length_map, List.length_range']
  have e : n - 1 - (n - 1 - i) = i := by omega
  rw [e]
  simp [List.getElem?_range' hi]

/-! ### Who meets whom -/
def touches (t : Foot) (b : Nat) : Prop := t.rAll = true ∨ b ∈ t.rs ∨ b ∈ t.ws
def writesAt (t : Foot) (b : Nat) : Prop := b ∈ t.ws ∨ (t.wlo ≤ b ∧ b < t.whi)
theorem not_over {s t : Foot} {b : Nat} (hw : writesAt s b) (ht : touches t b) : s.over t = false := by
  have h1 : s.writes = true := by
    unfold Foot.writes
    rcases hw with h | h
    · have : s.ws.isEmpty = false := by cases hs : s.ws with
        | nil => rw [hs] at h; cases h
        | cons x xs => rfl
      simp [this]
    · have : s.wlo < s.whi := by omega
      simp [this]
  unfold Foot.over
  rw [h1]
  simp only [Bool.not_true, Bool.false_or, Bool.and_eq_false_iff]
  rcases ht with h | h
  · left; simp [h]
  · right
    rw [List.all_eq_false]
    refine ⟨b, by rcases h with h | h <;> simp [h], ?_⟩
    rcases hw with hw | hw
    · simp [hw]
    · simp [hw.1, hw.2]

structure TextOk (ops : Array Oper) (T : Nat → Tm) (H : Nat → AHeap) (V : Nat → Value) (FT : Nat → Foot) : Prop where
  keep : ∀ k, k < ops.size → KeepR (H k) (H (k + 1))
  wrote : ∀ k b, k < ops.size → b < (H k).size → (H (k + 1)).get b ≠ (H k).get b → touches (FT k) b
  conflict : ∀ k i b, k < ops.size → i < ops.size → k ≠ i → b < (H k).size → (H (k + 1)).get b ≠ (H k).get b → touches (FT i) b →
    (k < i → ((Region.before ops).getD i 0).testBit k = true) ∧ (i < k → ((Region.before ops).getD k 0).testBit i = true)
  temp : ∀ k i t x y, ops[k]? = some x → ops[i]? = some y → k ≠ i → x.dst = some t → (t ∈ y.looksAt ops ∨ y.dst = some t) →
    (k < i → ((Region.before ops).getD i 0).testBit k = true) ∧ (i < k → ((Region.before ops).getD k 0).testBit i = true)
  tmps : ∀ k o, ops[k]? = some o → T (k + 1) = aputT (T k) o.dst (V k) ∧ ∀ d, o.dst = some d → d < 4000

theorem TextOk.size {ops : Array Oper} {T : Nat → Tm} {H : Nat → AHeap} {V : Nat → Value} {FT : Nat → Foot} (h : TextOk ops T H V FT) {i j : Nat} (hij : i ≤ j) (hj : j ≤ ops.size) : (H i).size ≤ (H j).size := by
  obtain ⟨d, rfl⟩ : ∃ d, j = i + d := ⟨j - i, by omega⟩
  clear hij
  induction d with
  | zero => exact Nat.le_refl _
  | succ d ih => exact Nat.le_trans (ih (by omega)) (h.keep (i + d) (by omega)).size
theorem TextOk.oc {ops : Array Oper} {T : Nat → Tm} {H : Nat → AHeap} {V : Nat → Value} {FT : Nat → Foot} (h : TextOk ops T H V FT) {i j : Nat} (hij : i ≤ j) (hj : j ≤ ops.size) : (H i).oc ≤ (H j).oc := by
  obtain ⟨d, rfl⟩ : ∃ d, j = i + d := ⟨j - i, by omega⟩
  clear hij
  induction d with
  | zero => exact Nat.le_refl _
  | succ d ih => exact Nat.le_trans (ih (by omega)) (h.keep (i + d) (by omega)).oc

theorem textOk {om : Nat → Nat} {call : ACall} (hK : CallKeep call) {f rid : Nat} {ops : Array Oper} {nt : Nat} {T : Nat → Tm} {H : Nat → AHeap} {V : Nat → Value} {FT : Nat → Foot} (hnt : nt ≤ 4000) (hops : ops.toList.all (opsOk E.ng nt) = true)
    (hdraw : drawOk E.P (E.pairs f rid) ops = true) (hrun : ∀ i o, ops[i]? = some o → StepAt E om call f rid ops T H V FT i o) (hpairs : ∀ i j, (i, j) ∈ E.pairs f rid → i < ops.size → j < ops.size → (FT i).apart (FT j) = true) : TextOk ops T H V FT := by
  have hget : ∀ k, k < ops.size → ∃ o, ops[k]? = some o := fun k hk => ⟨ops[k], Array.getElem?_eq_getElem hk⟩
  have hsk : ∀ k o, ops[k]? = some o → StepKeep E.P o (H k) (H (k + 1)) (FT k) ∨ (H (k + 1) = H k ∧ FT k = Foot.none) := by
    intro k o ho
    have hs := hrun k o ho
    by_cases hw : Region.wanted o (ayielded ops (T k)) = true
    · exact .inl (astep_keep hK (hs.yes hw))
    · exact .inr ⟨(hs.no hw).1, (hs.no hw).2.2⟩
  have hpair : ∀ i j x y, ops[i]? = some x → ops[j]? = some y → i < j → ((Region.before ops).getD j 0).testBit i = true ∨ freePair E.P ops (E.pairs f rid) i j x y = true := by
    intro i j x y hx hy hij
    simp only [drawOk, Bool.and_eq_true] at hdraw
    have h2 := hdraw.2
    rw [List.all_eq_true] at h2
    have h3 := h2 (y, j) (by rw [List.mk_mem_zipIdx_iff_getElem?]; simpa using hy)
    rw [List.all_eq_true] at h3
    have h4 := h3 (x, i) (by rw [List.mk_mem_zipIdx_iff_getElem?]; simpa using hx)
    simp only [Bool.or_eq_true, Bool.not_eq_true', decide_eq_false_iff_not] at h4
    rcases h4 with (h4 | h4) | h4
    · exact absurd hij h4
    · exact .inl h4
    · exact .inr h4
  -- an operation that writes and one that touches
  have meets : ∀ k i b x y, ops[k]? = some x → ops[i]? = some y → b < (H k).size → (H (k + 1)).get b ≠ (H k).get b → touches (FT i) b →
      writesAt (FT k) b ∧ touch E.P x.op = .writes ∧ touch E.P y.op ≠ .no := by
    intro k i b x y hx hy hb hne ht
    rcases hsk k x hx with hs | ⟨hs, _⟩
    · have hw : writesAt (FT k) b := hs.turned b hb hne
      refine ⟨hw, ?_, ?_⟩
      · apply Decidable.byContradiction
        intro htt
        have := hs.reads htt
        rcases hw with hw | hw
        · rw [this.1] at hw; cases hw
        · omega
      · intro htt
        rcases hsk i y hy with hs' | ⟨_, hs'⟩
        · have := hs'.quiet htt
          rcases ht with h | h | h
          · rw [this.2.2] at h; cases h
          · rw [this.1] at h; cases h
          · rw [this.2.1] at h; cases h
        · rw [hs'] at ht
          rcases ht with h | h | h <;> cases h
    · rw [hs] at hne; exact absurd rfl hne
  have loud1 : ∀ s t : Touch, s = .writes → t ≠ .no → loud s t = true ∧ loud t s = true := by
    intro s t h1 h2; subst h1
    cases t with
    | no => exact absurd rfl h2
    | reads => exact ⟨rfl, rfl⟩
    | writes => exact ⟨rfl, rfl⟩
  refine ⟨fun k hk => ?_, fun k b hk hb hne => ?_, fun k i b hk hi hki hb hne ht => ?_, fun k i t x y hx hy hki hd hl => ?_, fun k o ho => ⟨(hrun k o ho).tmps, fun d hd => ?_⟩⟩
  · obtain ⟨o, ho⟩ := hget k hk
    rcases hsk k o ho with hs | ⟨hs, _⟩
    · exact hs.keep
    · rw [hs]; exact KeepR.refl _
  · obtain ⟨o, ho⟩ := hget k hk
    have hs := hrun k o ho
    by_cases hw : Region.wanted o (ayielded ops (T k)) = true
    · have hst := hs.yes hw
      have hsk := astep_keep hK hst
      rcases hsk.turned b hb hne with h | h
      · exact .inr (.inr h)
      · -- a range of writes: a call
        unfold astep at hst
        split at hst
        · split at hst
          · exact .inl (acallAt_keep hK hst).2.1
          · exact .inl (acallAt_keep hK hst).2.1
          · cases hst
        · split at hst
          · rename_i v e he
            injection hst with hst; injection hst with _ hst; injection hst with _ hst
            have := aop_touch he
            rw [← hst, this.2.2.2.2] at h
            omega
          · cases hst
    · rw [(hs.no hw).1] at hne; exact absurd rfl hne
  · obtain ⟨x, hx⟩ := hget k hk
    obtain ⟨y, hy⟩ := hget i hi
    obtain ⟨m1, m2, m3⟩ := meets k i b x y hx hy hb hne ht
    have hno := not_over m1 ht
    refine ⟨fun hlt => ?_, fun hlt => ?_⟩
    · rcases hpair k i x y hx hy hlt with h | h
      · exact h
      · simp only [freePair, Bool.and_eq_true, Bool.or_eq_true, (loud1 _ _ m2 m3).1, Bool.not_true, Bool.false_eq_true, false_or] at h
        have hp := hpairs k i (by simpa using h.2) hk hi
        simp only [Foot.apart, Bool.and_eq_true] at hp
        rw [hno] at hp; cases hp.1
    · rcases hpair i k y x hy hx hlt with h | h
      · exact h
      · simp only [freePair, Bool.and_eq_true, Bool.or_eq_true, (loud1 _ _ m2 m3).2, Bool.not_true, Bool.false_eq_true, false_or] at h
        have hp := hpairs i k (by simpa using h.2) hi hk
        simp only [Foot.apart, Bool.and_eq_true] at hp
        rw [hno] at hp; cases hp.2
  · refine ⟨fun hlt => ?_, fun hlt => ?_⟩
    · rcases hpair k i x y hx hy hlt with h | h
      · exact h
      · simp only [freePair, Bool.and_eq_true, hd] at h
        rcases hl with hl | hl
        · simp [hl] at h
        · simp [hl] at h
    · rcases hpair i k y x hy hx hlt with h | h
      · exact h
      · simp only [freePair, Bool.and_eq_true, hd] at h
        rcases hl with hl | hl
        · simp [hl] at h
        · rw [hl] at h; simp at h
  · rw [List.all_eq_true] at hops
    have h1 := hops o (by rw [Array.mem_toList_iff]; exact Array.mem_of_getElem? ho)
    simp only [opsOk, Bool.and_eq_true] at h1
    have h2 : d < nt := by
      have := h1.2
      rw [hd] at this
      simpa [dstOk] using this
    exact Nat.lt_of_lt_of_le h2 hnt
end Go.Am
