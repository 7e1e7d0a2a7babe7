/- The abstract machine: each operation that is no call of a function, on both sides. -/
import Derived.Test.YtgngbcmhapmokaaDoorAmOps5
namespace Go.Am
open Go

variable {P : Program} {w : World} {ρ : Pm} {E : AEnv} {g : Look} {nx : Nat}

def Agree (n : Nat) (om om' : Nat → Nat) : Prop := ∀ i, i < n → om' i = om i
theorem Agree.refl (n : Nat) (om : Nat → Nat) : Agree n om om := fun _ _ => rfl
theorem Agree.trans {n m : Nat} {a b c : Nat → Nat} (h : Agree n a b) (k : Agree m b c) (hm : n ≤ m) : Agree n a c := fun i hi => (k i (by omega)).trans (h i hi)
theorem Agree.mono {n m : Nat} {a b : Nat → Nat} (h : Agree m a b) (hm : n ≤ m) : Agree n a b := fun i hi => h i (by omega)

/-- What an operation comes to in the model. -/
structure Ran (E : AEnv) (ρ : Pm) (g : Look) (w : World) (e : Eff) (nx : Nat) (v : Value) (s : Sem Next) : Prop where
  mk :: (out : ∃ nxt cv w', s.run E.P w = .ok nxt w' ∧ (nxt = .value cv ∨ (nxt = .skip ∧ cv = Go.undef)) ∧ OpOk E ρ g w e nx v cv w')

theorem Ran.val {s : Sem Value} {e : Eff} {v cv : Value} {w' : World} (h : s.run E.P w = .ok cv w') (ho : OpOk E ρ g w e nx v cv w') : Ran E ρ g w e nx v (do pure (.value (← s))) :=
  ⟨⟨_, _, w', by simp only [Sem.run_bind, h, Result.andThen_ok, Sem.run_pure], .inl rfl, ho⟩⟩
theorem Ran.unit {s : Sem Unit} {e : Eff} {w' : World} (h : s.run E.P w = .ok () w') (ho : OpOk E ρ g w e nx Go.undef Go.undef w') : Ran E ρ g w e nx Go.undef (do s; pure .skip) :=
  ⟨⟨_, _, w', by simp only [Sem.run_bind, h, Result.andThen_ok, Sem.run_pure], .inr ⟨rfl, rfl⟩, ho⟩⟩
theorem Ran.pure {s : Sem Value} {v cv : Value} {t : Bool} (hH : HRel E ρ g w) (h : s.run E.P w = .ok cv w) (hv : VRel ρ v cv) : Ran E ρ g w ⟨none, none, t⟩ nx v (do pure (.value (← s))) :=
  Ran.val h (OpOk.still hH (SameHeap.refl w) hv)

/-! ### The next entry -/
inductive CRel (ρ : Pm) : List (Option MapEntry) → List (Option MapEntry) → Prop
  | nil : CRel ρ [] []
  | over {l cl : List (Option MapEntry)} (h : CRel ρ l cl) : CRel ρ (none :: l) (none :: cl)
  | entry {e ce : MapEntry} {l cl : List (Option MapEntry)} (he : ERel ρ e ce) (h : CRel ρ l cl) : CRel ρ (some e :: l) (some ce :: cl)
theorem CRel.length {l cl : List (Option MapEntry)} (h : CRel ρ l cl) : l.length = cl.length := by induction h <;> simp_all
theorem CRel.get {l cl : List (Option MapEntry)} (h : CRel ρ l cl) : ∀ {i : Nat}, (l[i]? = some none → cl[i]? = some none) ∧ (∀ e, l[i]? = some (some e) → ∃ ce, cl[i]? = some (some ce) ∧ ERel ρ e ce) := by
  induction h with
  | nil => intro i; exact ⟨fun h => by simp at h, fun e h => by simp at h⟩
  | over h ih =>
    intro i
    cases i with
    | zero => exact ⟨fun _ => rfl, fun e h => by simp at h⟩
    | succ i => simpa using ih
  | entry he h ih =>
    intro i
    cases i with
    | zero => exact ⟨fun h => by simp at h, fun e h => by simp at h; subst h; exact ⟨_, rfl, he⟩⟩
    | succ i => simpa using ih
theorem CRel.ofMap {es ces : List MapEntry} (h : MRel ρ es ces) : CRel ρ (es.map Option.some) (ces.map Option.some) := by
  induction h with
  | nil => exact .nil
  | cons h _ ih => exact .entry h ih

def ccands (ces : Array MapEntry) (since : Nat) (seen : List Nat) : Array (Option MapEntry) :=
  let left := ces.filter fun e => !seen.toArray.contains e.born
  let old := left.filter (·.born < since)
  let new := left.filter (·.born ≥ since)
  (if old.isEmpty then #[none] else #[]) ++ (old ++ new).map some

theorem cands_rel {es : List MapEntry} {ces : Array MapEntry} (h : MRel ρ es ces.toList) (since : Nat) (seen : List Nat) : CRel ρ (acands es since seen) (ccands ces since seen).toList := by
  unfold acands ccands
  have h1 : MRel ρ (es.filter fun e => !seen.contains e.born) (ces.filter fun e => !seen.toArray.contains e.born).toList := by
    rw [Array.toList_filter]
    simp only [List.contains_toArray]
    exact h.filter fun e ce hr => by rw [hr.born]
  have h2 : MRel ρ ((es.filter fun e => !seen.contains e.born).filter fun e => decide (e.born < since)) ((ces.filter fun e => !seen.toArray.contains e.born).filter (·.born < since)).toList := by
    rw [Array.toList_filter]
    exact h1.filter fun e ce hr => by rw [hr.born]
  have h3 : MRel ρ ((es.filter fun e => !seen.contains e.born).filter fun e => decide (since ≤ e.born)) ((ces.filter fun e => !seen.toArray.contains e.born).filter (·.born ≥ since)).toList := by
    rw [Array.toList_filter]
    exact h1.filter fun e ce hr => by rw [hr.born]
  have he : ((es.filter fun e => !seen.contains e.born).filter fun e => decide (e.born < since)).isEmpty = ((ces.filter fun e => !seen.toArray.contains e.born).filter (·.born < since)).isEmpty := by
    rw [h2.isEmpty, Array.isEmpty_toList]
  have h4 := CRel.ofMap (h2.append h3)
  simp only [Array.toList_append, Array.toList_map]
  rw [he]
  cases ((ces.filter fun e => !seen.toArray.contains e.born).filter (·.born < since)).isEmpty with
  | true => exact .over h4
  | false => exact h4

theorem anext_run {om : Nat → Nat} {oc : Nat} {it ci : Value} {isS : Bool} {ty : TypeId} (hH : HRel E ρ g w) (hi : VRel ρ it ci) (hall : ∀ om', Agree oc om om' → (anext om' g oc it isS).isSome = true) :
    ∃ om', Agree oc om om' ∧ ∃ v e cv w', (∀ om'', Agree (oc + (if e.tick then 1 else 0)) om' om'' → anext om'' g oc it isS = some (v, e)) ∧ (Instr.next ci isS ty).run P w = .ok cv w' ∧ OpOk E ρ g w e nx v cv w' := by
  have h0 := hall om (Agree.refl _ _)
  unfold anext at h0
  split at h0
  · rename_i r
    obtain ⟨pl, hpl, rfl⟩ := hi.ptr_inv
    split at h0
    · rename_i s pos hg
      obtain ⟨co, hc, hb, rfl⟩ := hH.obj r pl _ hpl hg rfl
      refine ⟨om, Agree.refl _ _, ?_⟩
      by_cases hp : pos < s.size
      · refine ⟨.tuple #[.bool true, .int .i64 pos, .int .i32 (Utf8.decode s pos).1], .up r (.strIter s (pos + (Utf8.decode s pos).2)), .tuple #[.bool true, .int .i64 pos, .int .i32 (Utf8.decode s pos).1], { w with heap := w.heap.setIfInBounds pl.blk (.stringIter s (pos + (Utf8.decode s pos).2)) }, fun om'' _ => by simp only [anext, hg, hp, if_true], ?_, OpOk.turnedTo hH hpl hg rfl ⟨hb, rfl⟩ (VRel.tuple_l (LRel.cons (.bool ρ _) (LRel.cons (.int ρ _ _) (LRel.cons (.int ρ _ _) (LRel.nil ρ)))))⟩
        simp only [Instr.next, hb, Nat.add_zero, Sem.run_bind, run_getObj_iter hc (by simp), Result.andThen_ok, hp, if_true, run_setObj_iter hc (by simp), Sem.run_pure, goInt]
      · refine ⟨.tuple #[.bool false], .id, .tuple #[.bool false], w, fun om'' _ => by simp only [anext, hg, hp, if_false], ?_, OpOk.still hH (SameHeap.refl w) (VRel.tuple_l (LRel.cons (.bool ρ _) (LRel.nil ρ)))⟩
        simp only [Instr.next, hb, Nat.add_zero, Sem.run_bind, run_getObj_iter hc (by simp), Result.andThen_ok, hp, if_false, Sem.run_pure]
    · rename_i since seen last hg
      obtain ⟨co, hc, hb, rfl⟩ := hH.obj r pl _ hpl hg rfl
      refine ⟨om, Agree.refl _ _, .tuple #[.bool false], .id, .tuple #[.bool false], w, fun om'' _ => by simp only [anext, hg], ?_, OpOk.still hH (SameHeap.refl w) (VRel.tuple_l (LRel.cons (.bool ρ _) (LRel.nil ρ)))⟩
      simp only [Instr.next, hb, Nat.add_zero, Sem.run_bind, run_getObj_iter hc (by simp), Result.andThen_ok, Sem.run_pure]
    · rename_i m since seen last hg
      obtain ⟨co, hc, hb, plm, hplm, rfl⟩ := hH.obj r pl _ hpl hg rfl
      split at h0
      · rename_i es clock hgm
        obtain ⟨ces, hcm, hmr⟩ := hH.map hplm hgm
        split at h0
        · cases h0
        · rename_i hstop
          have hcands := cands_rel hmr since seen
          have hlen := hcands.length
          have hstop' : ¬ ((!seen.toArray.isEmpty && !ces.isEmpty && ces.all (·.born ≥ last)) = true) := by
            have h1 : es.all (fun e => decide (last ≤ e.born)) = ces.all (·.born ≥ last) := by
              rw [← Array.all_toList]
              exact hmr.all fun e ce hr => by rw [hr.born]
            have h2 : es.isEmpty = ces.isEmpty := by rw [hmr.isEmpty, Array.isEmpty_toList]
            have h3 : seen.isEmpty = seen.toArray.isEmpty := by simp
            rw [← h1, ← h2, ← h3]
            exact hstop
          -- what the tape answers
          let n := (acands es since seen).length
          let om' : Nat → Nat := fun i => if i = oc then w.tape w.drawn (.mapNext n) else om i
          have hag : Agree oc om om' := fun i hi => if_neg (by omega)
          refine ⟨om', hag, ?_⟩
          have h1 := hall om' hag
          have hce : (ccands ces since seen).size = n := by rw [← Array.length_toList, ← hlen]
          -- the answer, and the world behind it
          obtain ⟨ix, w1, hix, hch, hsame⟩ : ∃ ix w1, (if n ≤ 1 then 0 else om' oc % n) = ix ∧ (choose (.mapNext n)).run P w = .ok ix w1 ∧ SameHeap w w1 := by
            by_cases hn : n ≤ 1
            · exact ⟨0, w, if_pos hn, by rw [run_choose_drew, if_pos (by simpa [Question.forced] using hn)], SameHeap.refl w⟩
            · refine ⟨om' oc % n, w.drew, if_neg hn, ?_, SameHeap.drew w⟩
              rw [run_choose_drew, if_neg (by simpa [Question.forced] using hn)]
              simp only [Question.cut, om', if_true]
          have hc1 : w1.heap[pl.blk]? = some (.mapIter (some plm.blk) since seen.toArray last) := by rw [hsame.heap]; exact hc
          have hhead : ∀ (cv : Value) (w' : World), (match (ccands ces since seen)[ix]? with
              | some (some e) => (do
                setObj pl.blk (.mapIter (some plm.blk) since (seen.toArray.push e.born) clock)
                Pure.pure (.tuple #[.bool true, e.key, e.val]) : Sem Value)
              | some none => Pure.pure (.tuple #[.bool false])
              | none => stuck "Next: no such candidate").run P w1 = .ok cv w' →
              (Instr.next (.pointer (some ⟨pl.blk, pl.base + 0, none⟩)) false ty).run P w = .ok cv w' := by
            intro cv w' h
            simp only [Instr.next, hb, Nat.add_zero, Sem.run_bind, run_getObj_iter hc (by simp), Result.andThen_ok, run_getObj_map hcm, if_neg hstop', Sem.run_pure]
            have hch' : Sem.run P (choose (Question.mapNext (ccands ces since seen).size)) w = .ok ix w1 := by rw [hce]; exact hch
            simp only [ccands] at hch' h
            rw [hch']
            exact h
          have hget := hcands.get (i := ix)
          have hae : ∀ om'', Agree (oc + (if n ≤ 1 then 0 else 1)) om' om'' → anext om'' g oc (.pointer (some ⟨r, 0, none⟩)) false = match (acands es since seen)[ix]? with
              | some (some e) => some (.tuple #[.bool true, e.key, e.val], ⟨some (r, .mapIter (some m) since (seen ++ [e.born]) clock), none, !decide (n ≤ 1)⟩)
              | some none => some (.tuple #[.bool false], ⟨none, none, !decide (n ≤ 1)⟩)
              | none => none := by
            intro om'' hag
            have hix' : (if n ≤ 1 then 0 else om'' oc % n) = ix := by
              rw [← hix]
              by_cases hn : n ≤ 1
              · rw [if_pos hn, if_pos hn]
              · rw [if_neg hn, if_neg hn, hag oc (by rw [if_neg hn]; omega)]
            simp only [anext, hg, hgm, if_neg hstop]
            rw [show (acands es since seen).length = n from rfl, hix']
            rfl
          rw [hae om' (Agree.refl _ _)] at h1
          have htick : ∀ om'', Agree (oc + (if (!decide (n ≤ 1)) = true then 1 else 0)) om' om'' → Agree (oc + (if n ≤ 1 then 0 else 1)) om' om'' := by
            intro om'' hag
            by_cases hn : n ≤ 1
            · simpa [hn] using hag
            · simpa [hn] using hag
          cases hq : (acands es since seen)[ix]? with
          | none => rw [hq] at h1; cases h1
          | some q =>
            cases q with
            | none =>
              have := hget.1 hq
              rw [Array.getElem?_toList] at this
              refine ⟨.tuple #[.bool false], ⟨none, none, !decide (n ≤ 1)⟩, .tuple #[.bool false], w1, fun om'' hag => by rw [hae om'' (htick om'' hag), hq], hhead _ _ ?_, OpOk.still hH hsame (VRel.tuple_l (LRel.cons (.bool ρ _) (LRel.nil ρ)))⟩
              simp only [this, Sem.run_pure]
            | some e =>
              obtain ⟨ce, hce2, hr⟩ := hget.2 e hq
              rw [Array.getElem?_toList] at hce2
              refine ⟨.tuple #[.bool true, e.key, e.val], ⟨some (r, .mapIter (some m) since (seen ++ [e.born]) clock), none, !decide (n ≤ 1)⟩, .tuple #[.bool true, ce.key, ce.val], { w1 with heap := w1.heap.setIfInBounds pl.blk (.mapIter (some plm.blk) since (seen.toArray.push ce.born) clock) }, fun om'' hag => by rw [hae om'' (htick om'' hag), hq], hhead _ _ ?_, ?_⟩
              · simp only [hce2, Sem.run_bind, run_setObj_iter hc1 (by simp), Result.andThen_ok, Sem.run_pure]
              · refine OpOk.turned (co := .mapIter (some plm.blk) since (seen.toArray.push ce.born) clock) hH hpl hg rfl (by simp only [hsame.heap]) hsame.os hsame.tape hsame.output ⟨hb, plm, hplm, ?_⟩ (VRel.tuple_l (LRel.cons (.bool ρ _) (LRel.cons (by rw [hr.key]; exact VRel.flat1 hr.flat) (LRel.cons hr.val (LRel.nil ρ)))))
                simp [hr.born]
      · cases h0
    · cases h0
  · cases h0

/-! ### All of them -/
theorem aop_om {om om' : Nat → Nat} {o : Oper} {ev : Operand → Value} {share : Bool} {oc : Nat} (hne : ∀ it s, o.op ≠ .next it s) : aop E om o ev share g nx oc = aop E om' o ev share g nx oc := by
  unfold aop
  split <;> first
    | rfl
    | (rename_i h; exact absurd h (hne _ _))

theorem pureE_some {x : Option Value} {v : Value} {e : Eff} (h : pureE x = some (v, e)) : x = some v ∧ e = .id := by
  cases x with
  | none => simp [pureE] at h
  | some y => simp [pureE] at h; exact ⟨by rw [h.1], h.2.symm⟩
theorem unitE_some {x : Option Eff} {v : Value} {e : Eff} (h : unitE x = some (v, e)) : x = some e ∧ v = Go.undef := by
  cases x with
  | none => simp [unitE] at h
  | some y => simp [unitE] at h; exact ⟨by rw [h.2], h.1.symm⟩

def EvRel (ρ : Pm) (ops : Array Operand) (ev cev : Operand → Value) : Prop := ∀ x ∈ ops, VRel ρ (ev x) (cev x)
theorem EvRel.one {x : Operand} {ev cev : Operand → Value} {ops : Array Operand} (h : EvRel ρ ops ev cev) (hx : x ∈ ops) : VRel ρ (ev x) (cev x) := h x hx
theorem EvRel.list {ev cev : Operand → Value} {xs : List Operand} (h : ∀ x ∈ xs, VRel ρ (ev x) (cev x)) : LRel ρ (xs.map ev) (xs.map cev) := by
  induction xs with
  | nil => exact LRel.nil ρ
  | cons x xs ih => exact LRel.cons (h x (List.mem_cons_self ..)) (ih fun y hy => h y (List.mem_cons_of_mem _ hy))
theorem EvRel.opt {ev cev : Operand → Value} {x : Option Operand} (h : ∀ y, x = some y → VRel ρ (ev y) (cev y)) : ORel ρ (x.map ev) (x.map cev) := by
  cases x with
  | none => trivial
  | some y => exact h y rfl

theorem two_of_map {α β : Type} {xs : Array α} {f : α → β} {a b : β} (h : xs.toList.map f = [a, b]) : ∃ x y, xs = #[x, y] ∧ f x = a ∧ f y = b := by
  obtain ⟨xs⟩ := xs
  match xs with
  | [] => simp at h
  | [_] => simp at h
  | [x, y] => simp at h; exact ⟨x, y, rfl, h.1, h.2⟩
  | _ :: _ :: _ :: _ => simp at h
theorem one_of_map {α β : Type} {xs : Array α} {f : α → β} {a : β} (h : xs.toList.map f = [a]) : ∃ x, xs = #[x] ∧ f x = a := by
  obtain ⟨xs⟩ := xs
  match xs with
  | [] => simp at h
  | [x] => simp at h; exact ⟨x, rfl, h⟩
  | _ :: _ :: _ => simp at h
theorem one_of_list {α : Type} {xs : Array α} {a : α} (h : xs.toList = [a]) : xs = #[a] := Array.ext' h
theorem two_of_list {α : Type} {xs : Array α} {a b : α} (h : xs.toList = [a, b]) : xs = #[a, b] := Array.ext' h

theorem alenOf_run {t ty : TypeId} {x cx v : Value} (hH : HRel E ρ g w) (h : alenOf P g t x = some v) (hx : VRel ρ x cx) : VRel ρ v v ∧ (Builtin.len_ #[t] ty #[cx]).run P w = .ok v w := by
  unfold alenOf at h
  split at h
  · rename_i s hu
    injection h with h; subst h
    rw [hx.string_inv]
    exact ⟨.flat rfl, by simp [Builtin.len_, run_underlying hu, goInt]⟩
  · rename_i n e hu
    injection h with h; subst h
    refine ⟨.flat rfl, ?_⟩
    simp [Builtin.len_, run_underlying hu, goInt]
  · rename_i e a n c hu
    injection h with h; subst h
    obtain ⟨ca, cap, rfl, _⟩ := hx.slice_inv
    exact ⟨.flat rfl, by simp [Builtin.len_, run_underlying hu, goInt]⟩
  · rename_i kt e hu
    obtain ⟨es, hes, rfl⟩ := Option.map_eq_some_iff.1 h
    rcases entries_run hH hes hx with ⟨rfl, rfl, rfl⟩ | ⟨r, pl, clock, ces, rfl, rfl, hpl, hg, hc, hmr⟩
    · exact ⟨.flat rfl, by simp [Builtin.len_, run_underlying hu, goInt]⟩
    · refine ⟨.flat rfl, ?_⟩
      have : ces.size = es.length := by rw [hmr.length, Array.length_toList]
      simp [Builtin.len_, run_underlying hu, run_getObj_map hc, goInt, this]
  · cases h

theorem abuiltin_run {b : Builtin} {argTypes : Array TypeId} {args : List Value} {cargs : Array Value} {share : Bool} {v : Value} {e : Eff} {ty : TypeId} {cs : Array Bool} (hok : EqOk E.P E.eqOk) (hH : HRel E ρ g w) (hn : e.new ≠ none → ρ nx = none)
    (h : abuiltin E b argTypes.toList args share g nx = some (v, e)) (hr : LRel ρ args cargs.toList) : Ran E ρ g w e nx v (builtin b argTypes ty cs cargs) := by
  have two : ∀ a b, args = [a, b] → ∃ ca cb, cargs = #[ca, cb] ∧ VRel ρ a ca ∧ VRel ρ b cb := by
    rintro a b rfl
    obtain ⟨ca, l, he, h1, h2⟩ := hr.cons_inv
    obtain ⟨cb, l', rfl, h3, h4⟩ := h2.cons_inv
    have := h4.nil_inv; subst this
    exact ⟨ca, cb, Array.ext' he, h1, h3⟩
  have one : ∀ a, args = [a] → ∃ ca, cargs = #[ca] ∧ VRel ρ a ca := by
    rintro a rfl
    obtain ⟨ca, l, he, h1, h2⟩ := hr.cons_inv
    have := h2.nil_inv; subst this
    exact ⟨ca, Array.ext' he, h1⟩
  unfold abuiltin at h
  split at h
  · rename_i s x sT xT hT
    obtain ⟨ca, cb, rfl, h1, h2⟩ := two _ _ rfl
    have := two_of_list hT; subst this
    obtain ⟨cv, w', hrun, ho⟩ := aappend_run (ty := ty) hH hn h h1 h2
    exact Ran.val hrun ho
  · rename_i d s dT sT hT
    obtain ⟨ca, cb, rfl, h1, h2⟩ := two _ _ rfl
    have := two_of_list hT; subst this
    obtain ⟨cv, w', hrun, ho⟩ := acopy_run (nx := nx) (ty := ty) hH h h1 h2
    exact Ran.val hrun ho
  · rename_i x t hT
    obtain ⟨ca, rfl, h1⟩ := one _ rfl
    have := one_of_list hT; subst this
    obtain ⟨v', hv', he⟩ := Option.map_eq_some_iff.1 h
    injection he with e1 e2; subst e1 e2
    obtain ⟨hv, hrun⟩ := alenOf_run (ty := ty) hH hv' h1
    exact Ran.pure hH hrun hv
  · rename_i t hT
    obtain ⟨ca, rfl, h1⟩ := one _ rfl
    have := one_of_list hT; subst this
    split at h
    · rename_i e' hu
      injection h with h; injection h with e1 e2; subst e1 e2
      have hca : ca = .slice none 0 0 := h1.flat0_eq rfl
      subst hca
      exact Ran.pure (cv := .int .i64 0) hH (by simp [Builtin.cap_, run_underlying hu, goInt]) (.flat rfl)
    · cases h
  · rename_i k x k' y
    obtain ⟨ca, cb, rfl, h1, h2⟩ := two _ _ rfl
    injection h with h; injection h with e1 e2; subst e1 e2
    rw [h1.int_inv, h2.int_inv]
    exact Ran.pure (cv := .int k (if y < x then y else x)) hH (by simp [Builtin.min_, Builtin.min2]) (.flat rfl)
  · rename_i k x k' y
    obtain ⟨ca, cb, rfl, h1, h2⟩ := two _ _ rfl
    injection h with h; injection h with e1 e2; subst e1 e2
    rw [h1.int_inv, h2.int_inv]
    exact Ran.pure (cv := .int k (if x < y then y else x)) hH (by simp [Builtin.max_, Builtin.max2]) (.flat rfl)
  · rename_i x t hT
    obtain ⟨ca, rfl, h1⟩ := one _ rfl
    have := one_of_list hT; subst this
    obtain ⟨cv, w', hrun, ho⟩ := aclear_run (nx := nx) (ty := ty) hH h h1
    exact Ran.val hrun ho
  · rename_i m k t u hT
    obtain ⟨ca, cb, rfl, h1, h2⟩ := two _ _ rfl
    have := two_of_list hT; subst this
    obtain ⟨cv, w', hrun, ho⟩ := adelete_run (nx := nx) (u := u) (ty := ty) hok hH h h1 h2
    exact Ran.val hrun ho
  · cases h

theorem parts_list {ev cev : Operand → Value} {parts : Array (Nat × Operand)} (h : ∀ p ∈ parts.toList, VRel ρ (ev p.2) (cev p.2)) :
    (parts.toList.map fun (i, x) => (i, ev x)).map (·.1) = (parts.map fun (i, x) => (i, cev x)).toList.map (·.1) ∧
    LRel ρ ((parts.toList.map fun (i, x) => (i, ev x)).map (·.2)) ((parts.map fun (i, x) => (i, cev x)).toList.map (·.2)) := by
  refine ⟨by simp [Function.comp_def], ?_⟩
  rw [Array.toList_map, List.map_map, List.map_map]
  generalize parts.toList = l at h
  induction l with
  | nil => exact LRel.nil ρ
  | cons p l ih => exact LRel.cons (h p (List.mem_cons_self ..)) (ih fun q hq => h q (List.mem_cons_of_mem _ hq))

theorem aop_run {om : Nat → Nat} {o : Oper} {ev cev : Operand → Value} {share : Bool} {oc : Nat} (hok : EqOk E.P E.eqOk) (hH : HRel E ρ g w) (hn : ∀ om' v e, Agree oc om om' → aop E om' o ev share g nx oc = some (v, e) → e.new ≠ none → ρ nx = none) (hev : EvRel ρ o.op.operands ev cev)
    (hall : ∀ om', Agree oc om om' → (aop E om' o ev share g nx oc).isSome = true) :
    ∃ om', Agree oc om om' ∧ ∃ v e, (∀ om'', Agree (oc + (if e.tick then 1 else 0)) om' om'' → aop E om'' o ev share g nx oc = some (v, e)) ∧ Ran E ρ g w e nx v (execOp cev o) := by
  by_cases hnext : ∃ it s, o.op = .next it s
  · obtain ⟨it, s, hop⟩ := hnext
    have hit : VRel ρ (ev it) (cev it) := hev it (by rw [hop]; simp [Op.operands])
    have he : ∀ om', aop E om' o ev share g nx oc = anext om' g oc (ev it) s := by intro om'; unfold aop; rw [hop]
    obtain ⟨om', ha, v, e, cv, w', h1, h2, h3⟩ := anext_run (ty := o.type) (nx := nx) hH hit (fun om' hag => by rw [← he]; exact hall om' hag)
    refine ⟨om', ha, v, e, fun om'' hag => by rw [he]; exact h1 om'' hag, ?_⟩
    unfold execOp
    rw [hop]
    exact Ran.val h2 h3
  · refine ⟨om, Agree.refl _ _, ?_⟩
    obtain ⟨⟨v, e⟩, h⟩ := Option.isSome_iff_exists.1 (hall om (Agree.refl _ _))
    refine ⟨v, e, fun om'' _ => by rw [← aop_om (om := om) (fun it s hop => hnext ⟨it, s, hop⟩)]; exact h, ?_⟩
    have hn := hn om v e (Agree.refl _ _) h
    have hE : ∀ x ∈ o.op.operands, VRel ρ (ev x) (cev x) := hev
    unfold aop at h
    unfold execOp
    split at h
    · rename_i x hop
      rw [hop] at hE ⊢; simp only [Op.operands] at hE
      injection h with h; injection h with e1 e2; subst e1 e2
      exact ⟨⟨_, _, w, rfl, .inl rfl, OpOk.still hH (SameHeap.refl w) (hE _ (by simp))⟩⟩
    · rename_i x hop
      rw [hop] at hE ⊢; simp only [Op.operands] at hE
      injection h with h; injection h with e1 e2; subst e1 e2
      exact ⟨⟨_, _, w, rfl, .inl rfl, OpOk.still hH (SameHeap.refl w) (hE _ (by simp))⟩⟩
    · rename_i c a b hop
      rw [hop] at hE ⊢; simp only [Op.operands] at hE
      split at h
      · rename_i t ht
        injection h with h; injection h with e1 e2; subst e1 e2
        have hc : VRel ρ (ev c) (cev c) := hE _ (by simp)
        rw [ht] at hc
        have hc' := hc.bool_inv
        refine ⟨⟨_, (if t then cev a else cev b), w, ?_, .inl rfl, OpOk.still hH (SameHeap.refl w) ?_⟩⟩
        · simp only [hc', asBool, Sem.run_bind, Sem.run_pure, Result.andThen_ok]
        · cases t
          · exact hE b (by simp)
          · exact hE a (by simp)
      · cases h
    · rename_i e' hop
      rw [hop] at hE ⊢
      obtain ⟨z, hz, he⟩ := Option.map_eq_some_iff.1 h
      injection he with e1 e2; subst e1 e2
      obtain ⟨cv, w', h1, h2⟩ := alloc_ok (P := E.P) (t := e') hH (hn (by simp [Eff.mk1])) (VRel.flat1 (azero_flat hz))
      refine Ran.val (s := Instr.alloc e' true (.tuple #[])) ?_ h2
      rw [← h1]
      simp [Instr.alloc, Instr.box, run_azero hz]
    · rename_i t x hop
      rw [hop] at hE ⊢; simp only [Op.operands] at hE
      injection h with h; injection h with e1 e2; subst e1 e2
      obtain ⟨cv, w', h1, h2⟩ := alloc_ok (P := E.P) (t := t) hH (hn (by simp [Eff.mk1])) (hE x (by simp))
      exact Ran.val h1 h2
    · rename_i t parts hop
      rw [hop] at hE ⊢; simp only [Op.operands] at hE
      obtain ⟨h1, rfl⟩ := pureE_some h
      have hp := parts_list (ρ := ρ) (ev := ev) (cev := cev) (parts := parts) fun p hp => hE p.2 (by simp; exact ⟨p.1, by simpa using hp⟩)
      obtain ⟨u, hu, hr⟩ := abuild_run h1 hp.1 hp.2
      exact Ran.pure hH (hr w) hu
    · rename_i t len parts hop
      rw [hop] at hE ⊢; simp only [Op.operands] at hE
      split at h
      · rename_i elem hu
        split at h
        · rename_i size z hs hz
          split at h
          · rename_i hc
            obtain ⟨cs, hcs, he⟩ := Option.map_eq_some_iff.1 h
            injection he with e1 e2; subst e1 e2
            have hp := parts_list (ρ := ρ) (ev := ev) (cev := cev) (parts := parts) fun p hp => hE p.2 (by simp; exact ⟨p.1, by simpa using hp⟩)
            obtain ⟨cv, w', h1, h2⟩ := buildSlice_run hH (hn (by simp [Eff.mk1])) hu hs hz hc.1 hc.2.1 hc.2.2 hcs hp.1 hp.2
            exact Ran.val h1 h2
          · cases h
        · cases h
      · cases h
    · rename_i t a hop
      rw [hop] at hE ⊢; simp only [Op.operands] at hE
      obtain ⟨h1, rfl⟩ := pureE_some h
      obtain ⟨u, hu, hr⟩ := aload_run hH h1 (hE a (by simp))
      exact Ran.pure hH hr hu
    · rename_i t a x hop
      rw [hop] at hE ⊢; simp only [Op.operands] at hE
      obtain ⟨h1, rfl⟩ := unitE_some h
      obtain ⟨w', hr, ho⟩ := astore_run (nx := nx) hH h1 (hE a (by simp)) (hE x (by simp))
      exact Ran.unit hr (ho _ (VRel.undef ρ))
    · rename_i x hop
      rw [hop] at hE ⊢; simp only [Op.operands] at hE
      have hx : VRel ρ (ev x) (cev x) := hE x (by simp)
      split at h
      · rename_i a ha
        rw [ha] at hx
        injection h with h; injection h with e1 e2; subst e1 e2
        cases hcx : cev x with
        | pointer b =>
          cases b with
          | none => rw [hcx] at hx; cases hx
          | some b => rw [hcx] at hx; exact ⟨⟨_, _, w, by simp [hcx], .inl rfl, OpOk.still hH (SameHeap.refl w) hx⟩⟩
        | _ => rw [hcx] at hx; cases hx
      · rename_i f fa fb hf
        rw [hf] at hx
        injection h with h; injection h with e1 e2; subst e1 e2
        cases hcx : cev x with
        | func fn a b =>
          rw [hcx] at hx
          have hfn : fn = .func f := by
            cases hx with
            | flat h => simp [flat0] at h
            | func hf => exact hf.inv_func
          subst hfn
          exact ⟨⟨_, _, w, by simp [hcx], .inl rfl, OpOk.still hH (SameHeap.refl w) hx⟩⟩
        | _ => rw [hcx] at hx; cases hx
      · rename_i l fa fb hf
        rw [hf] at hx
        generalize cev x = u at hx
        cases hx with
        | flat h => simp [flat0] at h
        | func hf => cases hf
      · cases h
    · rename_i op t x y yt hop
      rw [hop] at hE ⊢; simp only [Op.operands] at hE
      obtain ⟨h1, rfl⟩ := pureE_some h
      obtain ⟨hv, hr⟩ := abin_run hok h1 (hE x (by simp)) (hE y (by simp))
      refine Ran.pure (s := do eqGuard op t x y (cev x) (cev y); binOp op t (cev x) (cev y)) hH ?_ hv
      simp only [Sem.run_bind, (hr w).2 x y (fun hl => by simpa using hl), Result.andThen_ok, (hr w).1]
    · rename_i op t x hop
      rw [hop] at hE ⊢; simp only [Op.operands] at hE
      obtain ⟨h1, rfl⟩ := pureE_some h
      obtain ⟨hv, hr⟩ := aun_run (P := E.P) h1 (hE x (by simp))
      exact Ran.pure hH (hr w) hv
    · rename_i src dst x hop
      rw [hop] at hE ⊢; simp only [Op.operands] at hE
      obtain ⟨cv, w', h1, h2⟩ := aconv_run hH hn h (hE x (by simp))
      exact Ran.val h1 h2
    · rename_i t x hop
      rw [hop] at hE ⊢; simp only [Op.operands] at hE
      split at h
      · cases h
      · rename_i d hni hu
        injection h with h; injection h with e1 e2; subst e1 e2
        refine Ran.pure (cv := .iface t (cev x)) hH ?_ (.iface (hE x (by simp)))
        simp only [Instr.makeInterface, Sem.run_bind, run_underlying hu, Result.andThen_ok]
        cases d <;> first
          | rfl
          | (exfalso; first | exact hni _ hu | exact hni _ rfl | simp_all)
      · cases h
    · rename_i f first captured hop
      rw [hop] at hE ⊢; simp only [Op.operands] at hE
      injection h with h; injection h with e1 e2; subst e1 e2
      refine Ran.pure (cv := .func (.func f) (first.map cev) (captured.map cev)) hH rfl (.func (.func f) (by simp) (fun i h1 h2 => ?_) (by simp) (fun i h1 h2 => ?_))
      · simp only [Array.getElem_map]; exact hE _ (by simp)
      · simp only [Array.getElem_map]; exact hE _ (by simp)
    · rename_i t hop
      rw [hop]
      injection h with h; injection h with e1 e2; subst e1 e2
      refine Ran.val (s := Instr.makeMap t none) (cv := .map (some w.heap.size)) (w' := w.alloc (.map #[] 0)) (by simp [Instr.makeMap]) ?_
      exact OpOk.made (pl := ⟨w.heap.size, 0, 0, 0⟩) hH (hn (by simp [Eff.mk1])) rfl rfl rfl rfl rfl ⟨#[], rfl, .nil⟩ (VRel.map (pl := ⟨w.heap.size, 0, 0, 0⟩) Pm.set_same)
    · rename_i t r hop
      rw [hop] at hE ⊢; simp only [Op.operands] at hE
      have hr : VRel ρ (ev r) (cev r) := hE r (by simp)
      split at h
      · rename_i kt elem k n hu hn'
        injection h with h; injection h with e1 e2; subst e1 e2
        rw [hn'] at hr
        refine Ran.val (s := Instr.makeMap t (some (cev r))) (cv := .map (some w.heap.size)) (w' := w.alloc (.map #[] 0)) (by simp [Instr.makeMap, run_underlying hu, hr.int_inv, asInt, asIntOf]) ?_
        exact OpOk.made (pl := ⟨w.heap.size, 0, 0, 0⟩) hH (hn (by simp [Eff.mk1])) rfl rfl rfl rfl rfl ⟨#[], rfl, .nil⟩ (VRel.map (pl := ⟨w.heap.size, 0, 0, 0⟩) Pm.set_same)
      · cases h
    · rename_i t l c hop
      rw [hop] at hE ⊢; simp only [Op.operands] at hE
      obtain ⟨cv, w', h1, h2⟩ := amakeSlice_run hH hn h (hE l (by simp)) (hE c (by simp))
      exact Ran.val h1 h2
    · rename_i t x lo hi mx hop
      rw [hop] at hE ⊢; simp only [Op.operands] at hE
      obtain ⟨h1, rfl⟩ := pureE_some h
      obtain ⟨u, hu, hr⟩ := aslice_run hH h1 (hE x (by simp)) (EvRel.opt fun y hy => hE y (by simp [hy])) (EvRel.opt fun y hy => hE y (by simp [hy])) (EvRel.opt fun y hy => hE y (by simp [hy]))
      exact Ran.pure hH hr hu
    · rename_i s x f hop
      rw [hop] at hE ⊢; simp only [Op.operands] at hE
      obtain ⟨h1, rfl⟩ := pureE_some h
      obtain ⟨u, hu, hr⟩ := afieldAt_run h1 (hE x (by simp))
      exact Ran.pure hH (hr w) hu
    · rename_i t x f hop
      rw [hop] at hE ⊢; simp only [Op.operands] at hE
      obtain ⟨h1, rfl⟩ := pureE_some h
      obtain ⟨u, hu, hr⟩ := afield_run h1 (hE x (by simp))
      exact Ran.pure hH (hr w) hu
    · rename_i t x i hop
      rw [hop] at hE ⊢; simp only [Op.operands] at hE
      obtain ⟨h1, rfl⟩ := pureE_some h
      obtain ⟨u, hu, hr⟩ := aindexAt_run h1 (hE x (by simp)) (hE i (by simp))
      exact Ran.pure hH (hr w) hu
    · rename_i t x i hop
      rw [hop] at hE ⊢; simp only [Op.operands] at hE
      obtain ⟨h1, rfl⟩ := pureE_some h
      obtain ⟨u, hu, hr⟩ := aindex_run h1 (hE x (by simp)) (hE i (by simp))
      exact Ran.pure hH (hr w) hu
    · rename_i t m k cok hop
      rw [hop] at hE ⊢; simp only [Op.operands] at hE
      obtain ⟨h1, rfl⟩ := pureE_some h
      obtain ⟨u, hu, hr⟩ := alookup_run hok hH h1 (hE m (by simp)) (hE k (by simp))
      exact Ran.pure hH hr hu
    · rename_i t m k x hop
      rw [hop] at hE ⊢; simp only [Op.operands] at hE
      obtain ⟨h1, rfl⟩ := unitE_some h
      obtain ⟨w', hr, ho⟩ := aupdate_run (nx := nx) hok hH h1 (hE m (by simp)) (hE k (by simp)) (hE x (by simp))
      exact Ran.unit hr (ho _ (VRel.undef ρ))
    · rename_i t m k x hop
      rw [hop] at hE ⊢; simp only [Op.operands] at hE
      obtain ⟨h1, rfl⟩ := unitE_some h
      obtain ⟨w', hr, ho⟩ := aupdate_run (nx := nx) hok hH h1 (hE m (by simp)) (hE k (by simp)) (hE x (by simp))
      exact Ran.unit hr (ho _ (VRel.undef ρ))
    · rename_i t m k hop
      rw [hop] at hE ⊢; simp only [Op.operands] at hE
      obtain ⟨cv, w', h1, h2⟩ := amapEntry_run (nx := nx) hok hH h (hE m (by simp)) (hE k (by simp))
      exact Ran.val h1 h2
    · rename_i t m s x hop
      rw [hop] at hE ⊢; simp only [Op.operands] at hE
      obtain ⟨h1, rfl⟩ := unitE_some h
      obtain ⟨w', hr, ho⟩ := aentryStore_run (P := E.P) (t := t) (nx := nx) hH h1 (hE m (by simp)) (hE s (by simp)) (hE x (by simp))
      exact Ran.unit hr (ho _ (VRel.undef ρ))
    · rename_i t x hop
      rw [hop] at hE ⊢; simp only [Op.operands] at hE
      obtain ⟨cv, w', h1, h2⟩ := arange_run hH hn h (hE x (by simp))
      exact Ran.val h1 h2
    · rename_i it s hop
      exact absurd ⟨it, s, hop⟩ hnext
    · rename_i it hop
      rw [hop] at hE ⊢; simp only [Op.operands] at hE
      obtain ⟨h1, rfl⟩ := pureE_some h
      obtain ⟨u, hu, hr⟩ := aentry_run (P := E.P) hH h1 (hE it (by simp))
      exact Ran.pure hH hr hu
    · rename_i t i hop
      rw [hop] at hE ⊢; simp only [Op.operands] at hE
      have ht : VRel ρ (ev t) (cev t) := hE t (by simp)
      split at h
      · rename_i vs hvs
        rw [hvs] at ht
        obtain ⟨h1, rfl⟩ := pureE_some h
        obtain ⟨ys, hys, hl⟩ := ht.tuple_inv
        obtain ⟨u, hu, hv⟩ := hl.get? h1
        rw [Array.getElem?_toList] at hu
        exact Ran.pure hH (by simp only [hys, Instr.extract, hu, Sem.run_pure]) hv
      · cases h
    · rename_i b args argTypes hop
      rw [hop] at hE ⊢; simp only [Op.operands, Call.operands] at hE
      have hr : LRel ρ (args.toList.map ev) (args.map cev).toList := by
        rw [Array.toList_map]
        exact EvRel.list fun x hx => hE x (by simpa using hx)
      simp only [resolve, invoke, Sem.run_bind, Sem.run_pure, pure_bind]
      exact abuiltin_run hok hH hn h hr
    · cases h
end Go.Am
