/- The abstract machine and the model: how values, heaps and frames are related. -/
import Derived.Test.YtgngbcmhapmokaaDoorAmDef
import Derived.RangeFuncLeaves
import Derived.OrdersIn
import Derived.LoopNIn
import Derived.TacticsIn
namespace Go.Am
open Go

/-! ### Values -/
structure Plc where
  blk : Nat
  base : Nat
  ext : Nat
  esz : Nat
abbrev Pm := Nat → Option Plc

inductive FRel (ρ : Pm) : Fn → Fn → Prop
  | func (f : FuncId) : FRel ρ (.func f) (.func f)

inductive VRel (ρ : Pm) : Value → Value → Prop
  | flat {v : Value} (h : flat0 v = true) : VRel ρ v v
  | ptr {b off : Nat} {pl : Plc} (h : ρ b = some pl) : VRel ρ (.pointer (some ⟨b, off, none⟩)) (.pointer (some ⟨pl.blk, pl.base + off, none⟩))
  | sl0 {a : Option Addr} {ca : Option Addr} (h : a.isSome = ca.isSome) : VRel ρ (.slice a 0 0) (.slice ca 0 0)
  | sl {b off len e cap : Nat} {pl : Plc} {ca : Addr} (h : ρ b = some pl) (he : 0 < e) (hl : len ≤ cap) (ha : ca = ⟨pl.blk, pl.base + off, none⟩ ∨ cap = 0)
      (hx : pl.esz = e → off + cap * e ≤ pl.ext) : VRel ρ (.slice (some ⟨b, off, none⟩) len e) (.slice (some ca) len cap)
  | map {r : Nat} {pl : Plc} (h : ρ r = some pl) : VRel ρ (.map (some r)) (.map (some pl.blk))
  | func {f f' : Fn} {xs ys cs ds : Array Value} (hf : FRel ρ f f') (hs : xs.size = ys.size) (h : ∀ i (h1 : i < xs.size) (h2 : i < ys.size), VRel ρ xs[i] ys[i])
      (hs' : cs.size = ds.size) (h' : ∀ i (h1 : i < cs.size) (h2 : i < ds.size), VRel ρ cs[i] ds[i]) : VRel ρ (.func f xs cs) (.func f' ys ds)
  | iface {t : TypeId} {v u : Value} (h : VRel ρ v u) : VRel ρ (.iface t v) (.iface t u)
  | agg {xs ys : Array Value} (hs : xs.size = ys.size) (h : ∀ i (h1 : i < xs.size) (h2 : i < ys.size), VRel ρ xs[i] ys[i]) : VRel ρ (.agg xs) (.agg ys)
  | tuple {xs ys : Array Value} (hs : xs.size = ys.size) (h : ∀ i (h1 : i < xs.size) (h2 : i < ys.size), VRel ρ xs[i] ys[i]) : VRel ρ (.tuple xs) (.tuple ys)

def PmLe (ρ ρ' : Pm) : Prop := ∀ b pl, ρ b = some pl → ρ' b = some pl
theorem PmLe.refl (ρ : Pm) : PmLe ρ ρ := fun _ _ h => h
theorem PmLe.trans {a b c : Pm} (h : PmLe a b) (k : PmLe b c) : PmLe a c := fun x pl hx => k x pl (h x pl hx)

theorem VRel.mono {ρ ρ' : Pm} (hp : PmLe ρ ρ') {v u : Value} (h : VRel ρ v u) : VRel ρ' v u := by
  induction h with
  | flat h => exact .flat h
  | ptr h => exact .ptr (hp _ _ h)
  | sl0 h => exact .sl0 h
  | sl h he hl ha hx => exact .sl (hp _ _ h) he hl ha hx
  | map h => exact .map (hp _ _ h)
  | func hf hs _ hs' _ ih ih' =>
    refine .func ?_ hs ih hs' ih'
    cases hf with
    | func f => exact .func f
  | iface _ ih => exact .iface ih
  | agg hs _ ih => exact .agg hs ih
  | tuple hs _ ih => exact .tuple hs ih

def LRel (ρ : Pm) (xs ys : List Value) : Prop := xs.length = ys.length ∧ ∀ i (h1 : i < xs.length) (h2 : i < ys.length), VRel ρ xs[i] ys[i]

theorem LRel.nil (ρ : Pm) : LRel ρ [] [] := ⟨rfl, fun i h => absurd h (by simp)⟩
theorem LRel.mono {ρ ρ' : Pm} (hp : PmLe ρ ρ') {xs ys : List Value} (h : LRel ρ xs ys) : LRel ρ' xs ys := ⟨h.1, fun i h1 h2 => (h.2 i h1 h2).mono hp⟩
theorem LRel.cons {ρ : Pm} {x y : Value} {xs ys : List Value} (h : VRel ρ x y) (hs : LRel ρ xs ys) : LRel ρ (x :: xs) (y :: ys) := by
  refine ⟨by simp [hs.1], fun i h1 h2 => ?_⟩
  cases i with
  | zero => exact h
  | succ i => exact hs.2 i (by simpa using h1) (by simpa using h2)
theorem LRel.cons_inv {ρ : Pm} {x : Value} {xs l : List Value} (h : LRel ρ (x :: xs) l) : ∃ y ys, l = y :: ys ∧ VRel ρ x y ∧ LRel ρ xs ys := by
  cases l with
  | nil => simp [LRel] at h
  | cons y ys =>
    refine ⟨y, ys, rfl, h.2 0 (by simp) (by simp), by have := h.1; simpa using this, fun i h1 h2 => ?_⟩
    exact h.2 (i + 1) (by simpa using h1) (by simpa using h2)
theorem LRel.nil_inv {ρ : Pm} {l : List Value} (h : LRel ρ [] l) : l = [] := by
  cases l with
  | nil => rfl
  | cons y ys => simp [LRel] at h
theorem LRel.get? {ρ : Pm} {xs ys : List Value} (h : LRel ρ xs ys) {i : Nat} {v : Value} (hv : xs[i]? = some v) : ∃ u, ys[i]? = some u ∧ VRel ρ v u := by
  obtain ⟨h1, rfl⟩ := List.getElem?_eq_some_iff.1 hv
  have h2 : i < ys.length := by rw [← h.1]; exact h1
  exact ⟨ys[i], List.getElem?_eq_getElem h2, h.2 i h1 h2⟩
theorem LRel.of_get {ρ : Pm} {xs ys : List Value} (hl : xs.length = ys.length) (h : ∀ (i : Nat) (v u : Value), xs[i]? = some v → ys[i]? = some u → VRel ρ v u) : LRel ρ xs ys :=
  ⟨hl, fun i h1 h2 => h i _ _ (List.getElem?_eq_getElem h1) (List.getElem?_eq_getElem h2)⟩
theorem LRel.append {ρ : Pm} {xs ys xs' ys' : List Value} (h : LRel ρ xs ys) (h' : LRel ρ xs' ys') : LRel ρ (xs ++ xs') (ys ++ ys') := by
  refine ⟨by simp [h.1, h'.1], fun i h1 h2 => ?_⟩
  by_cases hi : i < xs.length
  · rw [List.getElem_append_left hi, List.getElem_append_left (by rw [← h.1]; exact hi)]
    exact h.2 i hi _
  · rw [List.getElem_append_right (by omega), List.getElem_append_right (by rw [← h.1]; omega)]
    have := h.1
    simp only [← h.1]
    exact h'.2 _ (by simp at h1; omega) _
theorem LRel.take {ρ : Pm} {xs ys : List Value} (h : LRel ρ xs ys) (n : Nat) : LRel ρ (xs.take n) (ys.take n) := by
  refine ⟨by simp [h.1], fun i h1 h2 => ?_⟩
  simp only [List.getElem_take]
  exact h.2 i (by simp at h1; omega) (by simp at h2; omega)
theorem LRel.drop {ρ : Pm} {xs ys : List Value} (h : LRel ρ xs ys) (n : Nat) : LRel ρ (xs.drop n) (ys.drop n) := by
  refine ⟨by simp [h.1], fun i h1 h2 => ?_⟩
  simp only [List.getElem_drop]
  exact h.2 _ (by simp at h1; omega) (by simp at h2; omega)

theorem VRel.agg_l {ρ : Pm} {xs ys : Array Value} (h : LRel ρ xs.toList ys.toList) : VRel ρ (.agg xs) (.agg ys) :=
  .agg (by simpa using h.1) fun i h1 h2 => by have := h.2 i (by simpa using h1) (by simpa using h2); simpa only [Array.getElem_toList] using this
theorem VRel.tuple_l {ρ : Pm} {xs ys : Array Value} (h : LRel ρ xs.toList ys.toList) : VRel ρ (.tuple xs) (.tuple ys) :=
  .tuple (by simpa using h.1) fun i h1 h2 => by have := h.2 i (by simpa using h1) (by simpa using h2); simpa only [Array.getElem_toList] using this
theorem VRel.agg_inv {ρ : Pm} {xs : Array Value} {u : Value} (h : VRel ρ (.agg xs) u) : ∃ ys, u = .agg ys ∧ LRel ρ xs.toList ys.toList := by
  cases h with
  | flat h => simp [flat0] at h
  | agg hs h => exact ⟨_, rfl, by simpa using hs, fun i h1 h2 => by simpa using h i (by simpa using h1) (by simpa using h2)⟩
theorem VRel.tuple_inv {ρ : Pm} {xs : Array Value} {u : Value} (h : VRel ρ (.tuple xs) u) : ∃ ys, u = .tuple ys ∧ LRel ρ xs.toList ys.toList := by
  cases h with
  | flat h => simp [flat0] at h
  | tuple hs h => exact ⟨_, rfl, by simpa using hs, fun i h1 h2 => by simpa using h i (by simpa using h1) (by simpa using h2)⟩
theorem VRel.int_inv {ρ : Pm} {k : IntKind} {n : Int} {u : Value} (h : VRel ρ (.int k n) u) : u = .int k n := by cases h; rfl
theorem VRel.bool_inv {ρ : Pm} {b : Bool} {u : Value} (h : VRel ρ (.bool b) u) : u = .bool b := by cases h; rfl
theorem VRel.string_inv {ρ : Pm} {s : ByteArray} {u : Value} (h : VRel ρ (.string s) u) : u = .string s := by cases h; rfl
theorem VRel.ptr_inv {ρ : Pm} {b off : Nat} {u : Value} (h : VRel ρ (.pointer (some ⟨b, off, none⟩)) u) : ∃ pl, ρ b = some pl ∧ u = .pointer (some ⟨pl.blk, pl.base + off, none⟩) := by
  cases h with
  | flat h => simp [flat0] at h
  | ptr h => exact ⟨_, h, rfl⟩
theorem VRel.map_inv {ρ : Pm} {r : Nat} {u : Value} (h : VRel ρ (.map (some r)) u) : ∃ pl, ρ r = some pl ∧ u = .map (some pl.blk) := by
  cases h with
  | flat h => simp [flat0] at h
  | map h => exact ⟨_, h, rfl⟩
theorem VRel.undef (ρ : Pm) : VRel ρ Go.undef Go.undef := VRel.tuple rfl (fun i h => absurd h (by simp))
theorem VRel.int (ρ : Pm) (k : IntKind) (n : Int) : VRel ρ (.int k n) (.int k n) := .flat rfl
theorem VRel.bool (ρ : Pm) (b : Bool) : VRel ρ (.bool b) (.bool b) := .flat rfl
theorem VRel.string (ρ : Pm) (s : ByteArray) : VRel ρ (.string s) (.string s) := .flat rfl

/-- A value's cells. -/
theorem VRel.cells {ρ : Pm} {v u : Value} (h : VRel ρ v u) : LRel ρ v.cells.toList u.cells.toList := by
  cases h with
  | agg hs h => exact ⟨by simpa [Value.cells] using hs, fun i h1 h2 => by simp only [Value.cells, Array.getElem_toList]; exact h i _ _⟩
  | flat h =>
    cases v <;> first | (exact LRel.cons (.flat h) (.nil _)) | simp [flat0] at h
  | ptr h => exact LRel.cons (.ptr h) (.nil _)
  | sl0 h => exact LRel.cons (.sl0 h) (.nil _)
  | sl h he hl ha hx => exact LRel.cons (.sl h he hl ha hx) (.nil _)
  | map h => exact LRel.cons (.map h) (.nil _)
  | func hf hs h hs' h' => exact LRel.cons (.func hf hs h hs' h') (.nil _)
  | iface h => exact LRel.cons (.iface h) (.nil _)
  | tuple hs h => exact LRel.cons (.tuple hs h) (.nil _)
theorem VRel.cells_size {ρ : Pm} {v u : Value} (h : VRel ρ v u) : v.cells.size = u.cells.size := by have := h.cells.1; simpa using this
theorem VRel.cellOk {ρ : Pm} {v u : Value} (h : VRel ρ v u) (hc : Am.cellOk v = true) : Am.cellOk u = true := by
  cases h with
  | flat _ => exact hc
  | agg => simp [Am.cellOk] at hc
  | tuple => simp [Am.cellOk] at hc
  | _ => rfl
theorem VRel.flat1 {ρ : Pm} {v : Value} (h : Am.flat1 v = true) : VRel ρ v v := by
  cases v with
  | agg cs =>
    refine .agg rfl fun i h1 h2 => .flat ?_
    simp only [Am.flat1, List.all_eq_true] at h
    exact h _ (by simp)
  | _ => exact .flat h
theorem LRel.flat {ρ : Pm} {l : List Value} (h : ∀ v ∈ l, flat0 v = true) : LRel ρ l l := ⟨rfl, fun _ h1 _ => .flat (h _ (List.getElem_mem h1))⟩

/-! ### Objects, heaps -/
/-- Maps, iterators, rows that may be written: nobody else's. -/
def AObj.owned : AObj → Bool
  | .cells _ _ own => own
  | .dead => false
  | _ => true
def AObj.live : AObj → Bool
  | .dead => false
  | _ => true

/-- A frame's values. -/
def TRel (ρ : Pm) (tm : Tm) (a : Array Value) : Prop := ∀ i, VRel ρ (tget 12 tm i) (a.getD i Go.undef)

structure ERel (ρ : Pm) (e ce : MapEntry) : Prop where
  key : ce.key = e.key
  flat : flat1 e.key = true
  born : ce.born = e.born
  val : VRel ρ e.val ce.val
inductive MRel (ρ : Pm) : List MapEntry → List MapEntry → Prop
  | nil : MRel ρ [] []
  | cons {e ce : MapEntry} {es ces : List MapEntry} (h : ERel ρ e ce) (hs : MRel ρ es ces) : MRel ρ (e :: es) (ce :: ces)
theorem MRel.mono {ρ ρ' : Pm} (hp : PmLe ρ ρ') {es ces : List MapEntry} (h : MRel ρ es ces) : MRel ρ' es ces := by
  induction h with
  | nil => exact .nil
  | cons h _ ih => exact .cons ⟨h.key, h.flat, h.born, h.val.mono hp⟩ ih

def ObjRel (E : AEnv) (ρ : Pm) (pl : Plc) : AObj → Obj → Prop
  | .cells cs esz own, co => pl.esz = esz ∧ ∃ C T fz, co = .cells C T fz ∧ cs.length ≤ pl.ext ∧ pl.base + pl.ext ≤ C.size ∧
      (∀ (i : Nat) (v : Value), cs[i]? = some v → ∃ u, C[pl.base + i]? = some u ∧ VRel ρ v u) ∧ (own = true → ∀ i, i < pl.ext → ¬ (fz.1 ≤ pl.base + i ∧ pl.base + i < fz.2))
  | .map es clock, co => ∃ ces : Array MapEntry, co = .map ces clock ∧ MRel ρ es ces.toList
  | .strIter s pos, co => pl.base = 0 ∧ co = .stringIter s pos
  | .mapIter none since seen stepped, co => pl.base = 0 ∧ co = .mapIter none since seen.toArray stepped
  | .mapIter (some m) since seen stepped, co => pl.base = 0 ∧ ∃ pl', ρ m = some pl' ∧ co = .mapIter (some pl'.blk) since seen.toArray stepped
  | .loop .., _ => False
  | .defer, co => co = .deferred (some [])
  | .dead, _ => True

structure HRel (E : AEnv) (ρ : Pm) (g : Look) (w : World) : Prop where
  obj : ∀ b pl o, ρ b = some pl → g b = some o → o.live = true → ∃ co, w.heap[pl.blk]? = some co ∧ ObjRel E ρ pl o co
  excl : ∀ b b' pl pl' o o', b ≠ b' → ρ b = some pl → ρ b' = some pl' → g b = some o → g b' = some o' → o.owned = true → o'.live = true → pl.blk ≠ pl'.blk

/-- What a stretch of the run leaves as it was. -/
structure Step (ρ : Pm) (g : Look) (w : World) (ρ' : Pm) (g' : Look) (w' : World) : Prop where
  le : PmLe ρ ρ'
  size : w.heap.size ≤ w'.heap.size
  frame : ∀ k, k < w.heap.size → (∀ b pl o, ρ b = some pl → g b = some o → o.owned = true → pl.blk ≠ k) → w'.heap[k]? = w.heap[k]?
  own : ∀ b pl o, ρ' b = some pl → g' b = some o → o.owned = true → pl.blk < w.heap.size → ∃ b0 pl0 o0, ρ b0 = some pl0 ∧ g b0 = some o0 ∧ o0.owned = true ∧ pl0.blk = pl.blk
  liv : ∀ b pl o, ρ' b = some pl → g' b = some o → o.live = true → pl.blk < w.heap.size → ∃ b0 pl0 o0, ρ b0 = some pl0 ∧ g b0 = some o0 ∧ o0.live = true ∧ pl0.blk = pl.blk
  wr : ∀ b, g' b ≠ g b → (ρ' b).isSome = true
  os : w'.os = w.os
  tape : w'.tape = w.tape
  output : w'.output = w.output

theorem Step.refl (ρ : Pm) (g : Look) (w : World) : Step ρ g w ρ g w :=
  ⟨PmLe.refl _, Nat.le_refl _, fun _ _ _ => rfl, fun b pl o h1 h2 h3 _ => ⟨b, pl, o, h1, h2, h3, rfl⟩, fun b pl o h1 h2 h3 _ => ⟨b, pl, o, h1, h2, h3, rfl⟩, fun b h => absurd rfl h, rfl, rfl, rfl⟩
theorem PmLe.isSome {ρ ρ' : Pm} (h : PmLe ρ ρ') {b : Nat} (hb : (ρ b).isSome = true) : (ρ' b).isSome = true := by
  obtain ⟨pl, hp⟩ := Option.isSome_iff_exists.1 hb
  rw [h b pl hp]; rfl
theorem Step.trans {ρ ρ1 ρ2 : Pm} {g g1 g2 : Look} {w w1 w2 : World} (h : Step ρ g w ρ1 g1 w1) (k : Step ρ1 g1 w1 ρ2 g2 w2) : Step ρ g w ρ2 g2 w2 where
  le := h.le.trans k.le
  size := Nat.le_trans h.size k.size
  frame := fun x hx hn => by
    rw [k.frame x (Nat.lt_of_lt_of_le hx h.size), h.frame x hx hn]
    intro b pl o h1 h2 h3 he
    obtain ⟨b0, pl0, o0, a1, a2, a3, a4⟩ := h.own b pl o h1 h2 h3 (he ▸ hx)
    exact hn b0 pl0 o0 a1 a2 a3 (a4.trans he)
  own := fun b pl o h1 h2 h3 h4 => by
    obtain ⟨b0, pl0, o0, a1, a2, a3, a4⟩ := k.own b pl o h1 h2 h3 (Nat.lt_of_lt_of_le h4 h.size)
    obtain ⟨b1, pl1, o1, c1, c2, c3, c4⟩ := h.own b0 pl0 o0 a1 a2 a3 (a4 ▸ h4)
    exact ⟨b1, pl1, o1, c1, c2, c3, c4.trans a4⟩
  liv := fun b pl o h1 h2 h3 h4 => by
    obtain ⟨b0, pl0, o0, a1, a2, a3, a4⟩ := k.liv b pl o h1 h2 h3 (Nat.lt_of_lt_of_le h4 h.size)
    obtain ⟨b1, pl1, o1, c1, c2, c3, c4⟩ := h.liv b0 pl0 o0 a1 a2 a3 (a4 ▸ h4)
    exact ⟨b1, pl1, o1, c1, c2, c3, c4.trans a4⟩
  wr := fun b hb => by
    by_cases hc : g2 b = g1 b
    · exact k.le.isSome (h.wr b (by rwa [hc] at hb))
    · exact k.wr b hc
  os := k.os.trans h.os
  tape := k.tape.trans h.tape
  output := k.output.trans h.output

theorem HRel.lt {E : AEnv} {ρ : Pm} {g : Look} {w : World} (h : HRel E ρ g w) {b : Nat} {pl : Plc} {o : AObj} (h1 : ρ b = some pl) (h2 : g b = some o) (h3 : o.live = true) : pl.blk < w.heap.size := by
  obtain ⟨co, hc, _⟩ := h.obj b pl o h1 h2 h3
  exact (Array.getElem?_eq_some_iff.1 hc).1

theorem TRel.mono {ρ ρ' : Pm} (hp : PmLe ρ ρ') {tm : Tm} {a : Array Value} (h : TRel ρ tm a) : TRel ρ' tm a := fun i => (h i).mono hp
theorem ObjRel.mono {E : AEnv} {ρ ρ' : Pm} (hp : PmLe ρ ρ') {pl : Plc} {o : AObj} {co : Obj} (h : ObjRel E ρ pl o co) : ObjRel E ρ' pl o co := by
  cases o with
  | cells cs esz own =>
    obtain ⟨h0, C, T, fz, rfl, h1, h2, h3, h4⟩ := h
    exact ⟨h0, C, T, fz, rfl, h1, h2, fun i v hv => let ⟨u, a, b⟩ := h3 i v hv; ⟨u, a, b.mono hp⟩, h4⟩
  | map es clock =>
    obtain ⟨ces, rfl, h1⟩ := h
    exact ⟨ces, rfl, h1.mono hp⟩
  | strIter s pos => exact h
  | mapIter m since seen stepped =>
    cases m with
    | none => exact h
    | some m => obtain ⟨h0, pl', a, b⟩ := h; exact ⟨h0, pl', hp _ _ a, b⟩
  | loop f tm ps assign body st pend => exact h
  | defer => exact h
  | dead => trivial

/-! ### A frame's tree -/
theorem tget_e (k i : Nat) : tget k .e i = Go.undef := by cases k <;> rfl
theorem tget_tset (k : Nat) : ∀ (t : Tm) (i j : Nat) (x : Value), i + 1 < 2 ^ k → tget k (tset k t i x) j = if i = j then x else tget k t j := by
  induction k with
  | zero => intro t i j x h; simp at h
  | succ k ih =>
    intro t i j x h
    have h2 : 2 ^ (k + 1) = 2 * 2 ^ k := by rw [Nat.pow_succ]; omega
    rw [h2] at h
    cases t with
    | e =>
      simp only [tset, tget_e]
      by_cases hi : i = 0
      · subst hi
        rw [if_pos rfl]
        simp only [tget]
        by_cases hj : j = 0
        · subst hj; simp
        · rw [if_neg hj, if_neg (show ¬ (0 = j) by omega)]; split <;> exact tget_e _ _
      · rw [if_neg hi]
        by_cases ho : i % 2 = 1
        · rw [if_pos ho]
          simp only [tget]
          by_cases hj : j = 0
          · rw [if_pos hj, if_neg (by omega)]
          · rw [if_neg hj]
            by_cases hjo : j % 2 = 1
            · rw [if_pos hjo, ih _ _ _ _ (by omega), tget_e]
              by_cases he : i = j
              · subst he; simp
              · rw [if_neg he, if_neg (by omega)]
            · rw [if_neg hjo, tget_e, if_neg (by omega)]
        · rw [if_neg ho]
          simp only [tget]
          by_cases hj : j = 0
          · rw [if_pos hj, if_neg (by omega)]
          · rw [if_neg hj]
            by_cases hjo : j % 2 = 1
            · rw [if_pos hjo, tget_e, if_neg (by omega)]
            · rw [if_neg hjo, ih _ _ _ _ (by omega), tget_e]
              by_cases he : i = j
              · subst he; simp
              · rw [if_neg he, if_neg (by omega)]
    | n v l r =>
      simp only [tset]
      by_cases hi : i = 0
      · subst hi
        rw [if_pos rfl]
        simp only [tget]
        by_cases hj : j = 0
        · subst hj; simp
        · rw [if_neg hj, if_neg (show ¬ (0 = j) by omega), if_neg hj]
      · rw [if_neg hi]
        by_cases ho : i % 2 = 1
        · rw [if_pos ho]
          simp only [tget]
          by_cases hj : j = 0
          · rw [if_pos hj, if_neg (by omega), if_pos hj]
          · rw [if_neg hj, if_neg hj]
            by_cases hjo : j % 2 = 1
            · rw [if_pos hjo, if_pos hjo, ih _ _ _ _ (by omega)]
              by_cases he : i = j
              · subst he; simp
              · rw [if_neg he, if_neg (by omega)]
            · rw [if_neg hjo, if_neg hjo, if_neg (by omega)]
        · rw [if_neg ho]
          simp only [tget]
          by_cases hj : j = 0
          · rw [if_pos hj, if_neg (by omega), if_pos hj]
          · rw [if_neg hj, if_neg hj]
            by_cases hjo : j % 2 = 1
            · rw [if_pos hjo, if_pos hjo, if_neg (by omega)]
            · rw [if_neg hjo, if_neg hjo, ih _ _ _ _ (by omega)]
              by_cases he : i = j
              · subst he; simp
              · rw [if_neg he, if_neg (by omega)]

theorem TRel.put {ρ : Pm} {tm : Tm} {a : Array Value} (h : TRel ρ tm a) {d : Nat} {v u : Value} (hd : d < a.size) (hs : a.size ≤ 4000) (hv : VRel ρ v u) : TRel ρ (tset 12 tm d v) (a.setIfInBounds d u) := by
  intro i
  rw [tget_tset 12 tm d i v (by omega)]
  by_cases he : d = i
  · subst he
    simpa [hd] using hv
  · rw [if_neg he]
    have := h i
    simpa [Array.getElem?_setIfInBounds_ne he] using this
theorem tget_tof (l : List Value) : ∀ (i j : Nat) (t : Tm), i + l.length + 1 < 4096 → tget 12 (tof l i t) j = if i ≤ j ∧ j < i + l.length then l.getD (j - i) Go.undef else tget 12 t j := by
  induction l with
  | nil => intro i j t h; simp [tof]; omega
  | cons v vs ih =>
    intro i j t h
    simp only [List.length_cons] at h
    simp only [tof]
    rw [ih _ _ _ (by omega), tget_tset 12 _ _ _ _ (by omega)]
    simp only [List.length_cons]
    by_cases hij : i = j
    · subst hij
      rw [if_neg (by omega), if_pos rfl, if_pos (by omega)]
      simp
    · by_cases h1 : i + 1 ≤ j ∧ j < i + 1 + vs.length
      · rw [if_pos h1, if_pos (by omega)]
        obtain ⟨m, rfl⟩ : ∃ m, j = i + 1 + m := ⟨j - (i + 1), by omega⟩
        have e1 : i + 1 + m - (i + 1) = m := by omega
        have e2 : i + 1 + m - i = m + 1 := by omega
        rw [e1, e2]
        simp
      · rw [if_neg h1, if_neg hij, if_neg (by omega)]
theorem tget_blank (n j : Nat) (hn : n ≤ 4000) : tget 12 (tof (List.replicate n Go.undef) 0 .e) j = Go.undef := by
  rw [tget_tof _ 0 j .e (by simp; omega), tget_e]
  split
  · rw [List.getD_eq_getElem?_getD, List.getElem?_replicate]
    split <;> rfl
  · rfl
theorem TRel.start {ρ : Pm} {xs ys : List Value} (h : LRel ρ xs ys) (n : Nat) (hn : xs.length ≤ 4000) {m : Nat} (hm : m ≤ 4000) : TRel ρ (tini m xs) (ys.toArray ++ Array.replicate n Go.undef) := by
  intro i
  unfold tini
  rw [tget_tof xs 0 i _ (by omega), tget_blank m i hm]
  by_cases hi : i < xs.length
  · rw [if_pos (by omega)]
    have hi' : i < ys.length := by rw [← h.1]; exact hi
    have := h.2 i hi hi'
    simp only [Nat.sub_zero]
    simpa [List.getD_eq_getElem?_getD, List.getElem?_eq_getElem hi, Array.getElem?_append_left, hi'] using this
  · rw [if_neg (by omega)]
    have hi' : ys.length ≤ i := by rw [← h.1]; omega
    have : (ys.toArray ++ Array.replicate n Go.undef).getD i Go.undef = Go.undef := by
      simp only [Array.getD_eq_getD_getElem?]
      rw [Array.getElem?_append_right (by simpa using hi')]
      simp [Array.getElem?_replicate]
      split <;> rfl
    rw [this]
    exact VRel.undef ρ

/-! ### A world that differs in its heap alone -/
def World.withHeap (w : World) (h : Array Obj) : World := { w with heap := h }
end Go.Am
