/- From a run of the machine to a law's row: package variables that a row lists; arguments of one cell. -/
import Derived.Test.YtgngbcmhapmokaaDoorAmPure
import Derived.ChangeSame
import Derived.LaidLaws
import Derived.ChangeArms
namespace Go.Am
open Go Go.ChangeShapes Go.WideShapes

/-! ### What a listed datum says, cell by cell -/
def cellField (cell : TypeId → DataW Unit → Nat → Option Value) (P : Program) : List Field → List (DataW Unit) → Nat → Option Value
  | f :: fs, d :: ds, i => if f.offset ≤ i ∧ i < f.offset + P.cellsOf f.type then cell f.type d (i - f.offset) else cellField cell P fs ds i
  | _, _, _ => none
def cellAt (P : Program) : Nat → TypeId → DataW Unit → Nat → Option Value
  | 0, _, _, _ => none
  | k + 1, t, d, i =>
    match P.underlying t, d with
    | some (.int _), .lit (.int k n) => if i = 0 then some (.int k n) else none
    | some .bool, .lit (.bool b) => if i = 0 then some (.bool b) else none
    | some .string, .lit (.string l) => if i = 0 then some (.string ⟨⟨l⟩⟩) else none
    | some (.struct fs), .agg ps => cellField (cellAt P k) P fs.toList ps i
    | some (.array _ e), .agg ps =>
      if P.cellsOf e = 0 then none else
      match ps[i / P.cellsOf e]? with
      | some d' => cellAt P k e d' (i % P.cellsOf e)
      | none => none
    | _, _ => none

theorem mapM_get {α β : Type} {f : α → Option β} : ∀ {l : List α} {r : List β}, l.mapM f = some r → ∀ (i : Nat) (b : β), r[i]? = some b → ∃ a, l[i]? = some a ∧ f a = some b
  | [], r, h, i, b, hb => by
    simp at h; subst h; simp at hb
  | x :: l, r, h, i, b, hb => by
    simp only [List.mapM_cons, Option.bind_eq_bind, Option.bind_eq_some_iff, Option.pure_def, Option.some.injEq] at h
    obtain ⟨c, hc, r', hr', rfl⟩ := h
    cases i with
    | zero =>
      simp only [List.getElem?_cons_zero, Option.some.injEq] at hb
      subst hb
      exact ⟨x, rfl, hc⟩
    | succ i => simpa using mapM_get hr' i b (by simpa using hb)

theorem cellField_ok {P : Program} {cell : TypeId → DataW Unit → Nat → Option Value} {cs : List Value} {tr : TypeId → List Value → Option (DataW Unit × List MemPlace)}
    (hc : ∀ t l x i v, tr t l = some x → cell t x.1 i = some v → l[i]? = some v) :
    ∀ (fs : List Field) (xs : List (DataW Unit × List MemPlace)) (i : Nat) (v : Value), (∀ (j : Nat) (f : Field), fs[j]? = some f → tr f.type ((cs.drop f.offset).take (P.cellsOf f.type)) = xs[j]?) → xs.length = fs.length → cellField cell P fs (xs.map (·.1)) i = some v → cs[i]? = some v := by
  intro fs
  induction fs with
  | nil => intro xs i v h _ hv; simp [cellField] at hv
  | cons f fs ih =>
    intro xs i v h hl hv
    cases xs with
    | nil => simp at hl
    | cons x xs =>
      simp only [List.map_cons, cellField] at hv
      split at hv
      · rename_i hi
        have := hc _ _ _ _ _ (h 0 f rfl) hv
        rw [List.getElem?_take, if_pos (by omega), List.getElem?_drop] at this
        rwa [show f.offset + (i - f.offset) = i by omega] at this
      · exact ih xs i v (fun j g hg => by simpa using h (j + 1) g (by simpa using hg)) (by simpa using hl) hv

theorem cellAt_ok {P : Program} {w : World} {enc : TypeId × Value → Unit} {base : Nat} {sp : Nat → Bool} {held : Bool} : ∀ (k fuel : Nat) (t : TypeId) (cs : List Value) (x : DataW Unit × List MemPlace) (i : Nat) (v : Value),
    DataW.trod enc P w base sp held fuel t cs = some x → cellAt P k t x.1 i = some v → cs[i]? = some v := by
  intro k
  induction k with
  | zero => intro fuel t cs d i v _ h; simp [cellAt] at h
  | succ k ih =>
    intro fuel t cs x i v ht hv
    simp only [cellAt] at hv
    split at hv
    · rename_i k1 k2 n hu hd
      obtain ⟨m, rfl, rfl, _⟩ := DataW.trod_int hu ht
      simp only [DataW.lit.injEq, Lit.int.injEq] at hd
      obtain ⟨rfl, rfl⟩ := hd
      split at hv
      · rename_i hi; subst hi; simpa using hv
      · cases hv
    · rename_i b hu hd
      obtain ⟨m, rfl, rfl⟩ := DataW.trod_bool hu ht
      simp only [DataW.lit.injEq, Lit.bool.injEq] at hd
      subst hd
      split at hv
      · rename_i hi; subst hi; simpa using hv
      · cases hv
    · rename_i l hu hd
      obtain ⟨m, rfl, rfl, _⟩ := DataW.trod_string hu ht
      simp only [DataW.lit.injEq, Lit.string.injEq] at hd
      subst hd
      split at hv
      · rename_i hi; subst hi; simpa using hv
      · cases hv
    · rename_i fs ps hu hd
      obtain ⟨xs, n, rfl, rfl, hl, hlen, hf⟩ := DataW.trod_struct hu ht
      simp only [DataW.agg.injEq] at hd
      subst hd
      exact cellField_ok (tr := DataW.trod enc P w base sp held n) (fun t l x i v h1 h2 => ih n t l x i v h1 h2) fs.toList xs i v (fun j f hj => hf j f (by simpa using hj)) (by simpa using hlen) hv
    · rename_i m e ps hu hd
      cases fuel with
      | zero => simp [DataW.trod] at ht
      | succ fuel =>
        unfold DataW.trod at ht
        rw [hu] at ht
        simp only at ht
        split at ht
        · obtain ⟨xs, hm, rfl⟩ := Option.map_eq_some_iff.1 ht
          simp only [DataW.agg.injEq] at hd
          subst hd
          split at hv
          · cases hv
          · rename_i hz
            split at hv
            · rename_i d' hd'
              rw [List.getElem?_map] at hd'
              obtain ⟨y, hy, rfl⟩ := Option.map_eq_some_iff.1 hd'
              obtain ⟨a, ha, hy2⟩ := mapM_get hm _ y hy
              have := ih fuel e _ y _ v hy2 hv
              rw [List.getElem?_range (by have := (List.getElem?_eq_some_iff.1 ha).1; simpa using this)] at ha
              injection ha with ha; subst ha
              have hlt : i % P.cellsOf e < P.cellsOf e := Nat.mod_lt _ (by omega)
              rw [List.getElem?_take, if_pos hlt, List.getElem?_drop] at this
              rwa [show i / P.cellsOf e * P.cellsOf e + i % P.cellsOf e = i by rw [Nat.mul_comm]; exact Nat.div_add_mod i _] at this
            · cases hv
        · cases ht
    · cases hv

/-- What a listed variable holds. -/
theorem laid_in {P : Program} {w : World} {name : String} {d : DataW Unit} : ∀ {laid : List (String × DataW Unit)} {ps : List MemPlace}, DataW.LaidVars P w laid ps → (name, d) ∈ laid →
    ∃ g t cs fuel p, P.globalNamed name = some g ∧ (P.globals[g]?).map (·.type) = some t ∧ w.var? P name = some cs ∧ DataW.trod (fun _ => ()) P w 0 (fun _ => true) false fuel t cs.toList = some (d, p) := by
  intro laid
  induction laid with
  | nil => intro ps _ h; cases h
  | cons x laid ih =>
    intro ps h hm
    obtain ⟨n, d0⟩ := x
    obtain ⟨g, t, cs, fuel, p, q, h1, h2, h3, h4, h5, _⟩ := h
    cases hm with
    | head => exact ⟨g, t, cs, fuel, p, h1, h2, h3, h4⟩
    | tail _ hm => exact ih h5 hm
def sameCell : Option Value → Value → Bool
  | some v, u => fsame0 v u
  | none, _ => false
/-- What is asked once, by a run: the datum's cells are these. -/
def cellsAre (P : Program) (t : TypeId) (d : DataW Unit) (cells : List Value) : Bool := cells.zipIdx.all fun (v, i) => sameCell (cellAt P 8 t d i) v
theorem laid_cells {P : Program} {w : World} {name : String} {d : DataW Unit} {laid : List (String × DataW Unit)} {g : Nat} {t : TypeId} {cells : List Value} (h : laidMet P laid w) (hm : (name, d) ∈ laid) (hg : P.globalNamed name = some g) (ht : (P.globals[g]?).map (·.type) = some t)
    (hc : cellsAre P t d cells = true) : ∃ C T fz, w.heap[g]? = some (.cells C T fz) ∧ ∀ (i : Nat) (v : Value), cells[i]? = some v → C[i]? = some v ∧ flat0 v = true := by
  obtain ⟨ps, hl, _⟩ := h
  obtain ⟨g', t', cs, fuel, p, h1, h2, h3, h4⟩ := laid_in hl hm
  obtain rfl := Option.some.inj (hg.symm.trans h1)
  obtain rfl := Option.some.inj (ht.symm.trans h2)
  unfold World.var? at h3
  rw [hg] at h3
  simp only [Option.bind_some] at h3
  split at h3
  · rename_i C T fz he
    injection h3 with h3; subst h3
    refine ⟨C, T, fz, he, fun i v hv => ?_⟩
    unfold cellsAre at hc
    rw [List.all_eq_true] at hc
    have hx := hc (v, i) (by rw [List.mk_mem_zipIdx_iff_getElem?]; exact hv)
    simp only at hx
    cases hq : cellAt P 8 t d i with
    | none => rw [hq] at hx; cases hx
    | some u =>
      rw [hq] at hx
      obtain ⟨rfl, hf⟩ := fsame0_eq hx
      have := cellAt_ok 8 fuel t _ _ i u h4 hq
      exact ⟨by simpa using this, hf⟩
  · cases h3

/-! ### A law of plain arguments -/
theorem law_calls {E : AEnv} (hE : EnvOk E) {f : FuncId} {fn : Func} (hf : E.P.funcs[f]? = some fn) (hb : fn.body.isSome = true) (hsig : E.sig f = none) (k n : Nat) {args : List Value} {W : World} {Gs : List (Nat × List Value)}
    (hrun : ∀ om : Nat → Nat, ∃ h', acall E om k n (.fn f) args (H0 E.ng Gs) = some (.bool true, h')) (hflat : args.all flat0 = true)
    (hglob : ∀ x ∈ Gs, ∃ C T fz, W.heap[x.1]? = some (.cells C T fz) ∧ ∀ (i : Nat) (v : Value), x.2[i]? = some v → C[i]? = some v ∧ flat0 v = true) :
    Calls E.P f args.toArray W fun e W' => e = .returned (.bool true) ∧ OldKept W W' := by
  refine calls_of_run hE hf hb hsig k n (args := args) (h0 := H0 E.ng Gs) (ρ := fun b => if b < E.ng then some ⟨b, 0, (match Gs.find? (fun x => x.1 == b) with | some x => x.2.length | none => 0), 0⟩ else none) hrun ⟨fun b pl o q1 q2 q3 => ?_, fun b b' pl pl' o o' _ _ _ q2 _ q3 _ => ?_⟩ ?_ ?_ ?_ ?_
  · rw [H0_get] at q2
    split at q2
    · rename_i hb
      injection q2 with q2
      subst q2
      simp only [hb, if_true] at q1
      unfold gLook at q3 ⊢
      split at q3
      · rename_i x hx
        rw [hx] at q1
        simp only at q1
        injection q1 with q1; subst q1
        have hxb : x.1 = b := by have := List.find?_some hx; simpa using this
        obtain ⟨C, T, fz, h1, h2⟩ := hglob x (List.mem_of_find?_eq_some hx)
        rw [hxb] at h1
        refine ⟨_, h1, rfl, C, T, fz, rfl, Nat.le_refl _, ?_, fun i v hv => ?_, fun h => by cases h⟩
        · simp only [Nat.zero_add]
          cases hl : x.2.length with
          | zero => omega
          | succ m =>
            have hlt : m < x.2.length := by omega
            obtain ⟨h3, _⟩ := h2 m _ (List.getElem?_eq_getElem hlt)
            have := (Array.getElem?_eq_some_iff.1 h3).1
            omega
        · obtain ⟨h3, h4⟩ := h2 i v hv
          exact ⟨v, by simpa using h3, .flat h4⟩
      · cases q3
    · cases q2
  · rw [H0_get] at q2
    split at q2
    · injection q2 with q2
      subst q2
      unfold gLook at q3
      split at q3 <;> cases q3
    · cases q2
  · intro b hb
    have : ¬ b < E.ng := Nat.not_lt.2 hb
    simp only [this, if_false]
  · intro g hg
    exact ⟨_, if_pos hg, rfl, rfl⟩
  · simpa using LRel.flat (ρ := fun b => if b < E.ng then some ⟨b, 0, (match Gs.find? (fun x => x.1 == b) with | some x => x.2.length | none => 0), 0⟩ else none) (fun v hv => List.all_eq_true.1 hflat v hv)
  · intro b o hg
    rw [H0_get] at hg
    split at hg
    · injection hg with hg; subst hg
      unfold gLook
      split <;> rfl
    · cases hg

/-! ### The row's post -/
theorem OldKept.keptBut {W W' : World} (h : OldKept W W') (may : MemPlace → Prop) : W.keptBut W' may := by
  refine ⟨h.os, h.output, fun i hi => ?_⟩
  rw [h.old i hi]
  cases W.heap[i]? with
  | none => rfl
  | some o => cases o <;> first | exact ⟨rfl, rfl, rfl, fun _ _ => rfl⟩ | exact .inr ⟨rfl, rfl⟩ | rfl
theorem post_kept {H : Type} {enc : TypeId × Value → H} {P : Program} {f : Func} {s : ChangeSpec} {apart fresh handsOn : Bool} {W W' : World} {args : Array Value} {v : Value} {ds gs : List (DataW H)} {before pa pv : List MemPlace}
    (hW : DataW.Whole enc P f.params.toList s.vars apart W args.toList ds gs before)
    (hres : ∀ (b : Nat) (sp : Nat → Bool) (hd : Bool), DataW.TrodAll enc P W' b sp hd f.resultTypes.toList (v.resultList f.resultTypes.size) (s.fn H (ds ++ gs)).results [])
    (hargs : ∀ sp : Nat → Bool, (∀ p ∈ before, sp p.block = true) → DataW.TrodAll enc P W' 0 sp true f.params.toList args.toList (s.fn H (ds ++ gs)).args pa)
    (hvars : ∀ sp : Nat → Bool, (∀ p ∈ before, sp p.block = true) → DataW.TrodVars enc P W' sp s.vars (s.fn H (ds ++ gs)).vars pv)
    (hps : before = pa ++ pv) (hk : OldKept W W') : s.post enc P f apart fresh handsOn false W args v W' := by
  have hold : ∀ p ∈ before, (fun b => decide (b < W.heap.size)) p.block = true := fun p hp => by simpa using hW.lt p hp
  refine ⟨ds, gs, before, [], pa, pv, hW, hres _ _ _, hargs _ hold, hvars _ hold, World.keptBut_mono (fun p hp => ⟨hp, ?_⟩) (hk.keptBut _), fun h => by cases h⟩
  rw [hps, List.mem_append] at hp
  exact Or.inr hp
end Go.Am
