/- The abstract machine: what is read, written and made in memory, on both sides. -/
import Derived.Test.YtgngbcmhapmokaaDoorAmRel
import Derived.Laws.Cells
import Derived.Laws.NewFold
import Derived.Laws.AppendOwn
namespace Go.Am
open Go

def Pm.set (ρ : Pm) (n : Nat) (pl : Plc) : Pm := fun b => if b = n then some pl else ρ b
theorem Pm.le_set {ρ : Pm} {n : Nat} {pl : Plc} (h : ρ n = none) : PmLe ρ (ρ.set n pl) := fun b pl' hb => by
  unfold Pm.set
  split
  · rename_i he; subst he; rw [h] at hb; cases hb
  · exact hb
theorem Pm.set_same {ρ : Pm} {n : Nat} {pl : Plc} : ρ.set n pl n = some pl := by simp [Pm.set]
theorem Pm.set_ne {ρ : Pm} {n b : Nat} {pl : Plc} (h : b ≠ n) : ρ.set n pl b = ρ b := by simp [Pm.set, h]

def Eff.look (e : Eff) (g : Look) (nx : Nat) : Look := fun b =>
  match e.new with
  | some o => if b = nx then some o else (match e.upd with | some (b0, o0) => if b = b0 then some o0 else g b | none => g b)
  | none => match e.upd with | some (b0, o0) => if b = b0 then some o0 else g b | none => g b

/-- What an operation comes to. -/
structure OpOk (E : AEnv) (ρ : Pm) (g : Look) (w : World) (e : Eff) (nx : Nat) (v cv : Value) (w' : World) : Prop where
  mk :: (out : ∃ ρ', VRel ρ' v cv ∧ HRel E ρ' (e.look g nx) w' ∧ Step ρ g w ρ' (e.look g nx) w' ∧ (∀ b, b ≠ nx → ρ' b = ρ b) ∧ (e.new = none → ρ' nx = ρ nx))

/-- The heap is as it was. -/
structure SameHeap (w w' : World) : Prop where
  heap : w'.heap = w.heap
  os : w'.os = w.os
  tape : w'.tape = w.tape
  output : w'.output = w.output
theorem SameHeap.refl (w : World) : SameHeap w w := ⟨rfl, rfl, rfl, rfl⟩
theorem SameHeap.drew (w : World) : SameHeap w w.drew := ⟨rfl, rfl, rfl, rfl⟩
theorem HRel.same {E : AEnv} {ρ : Pm} {g : Look} {w w' : World} (h : HRel E ρ g w) (hs : SameHeap w w') : HRel E ρ g w' :=
  ⟨fun b pl o h1 h2 h3 => by rw [hs.heap]; exact h.obj b pl o h1 h2 h3, h.excl⟩
theorem Step.same {ρ : Pm} {g : Look} {w w' : World} (hs : SameHeap w w') : Step ρ g w ρ g w' :=
  ⟨PmLe.refl _, by rw [hs.heap]; exact Nat.le_refl _, fun _ _ _ => by rw [hs.heap], fun b pl o h1 h2 h3 _ => ⟨b, pl, o, h1, h2, h3, rfl⟩, fun b pl o h1 h2 h3 _ => ⟨b, pl, o, h1, h2, h3, rfl⟩, fun b h => absurd rfl h, hs.os, hs.tape, hs.output⟩

theorem OpOk.still {E : AEnv} {ρ : Pm} {g : Look} {w w' : World} {nx : Nat} {v cv : Value} {t : Bool} (h : HRel E ρ g w) (hs : SameHeap w w') (hv : VRel ρ v cv) : OpOk E ρ g w ⟨none, none, t⟩ nx v cv w' :=
  ⟨⟨ρ, hv, h.same hs, Step.same hs, fun _ _ => rfl, fun _ => rfl⟩⟩

/-- One object more. -/
theorem OpOk.made {E : AEnv} {ρ : Pm} {g : Look} {w w' : World} {nx : Nat} {v cv : Value} {o : AObj} {co : Obj} {pl : Plc} {t : Bool} (h : HRel E ρ g w) (hn : ρ nx = none)
    (hw : w'.heap = w.heap.push co) (hos : w'.os = w.os) (ht : w'.tape = w.tape) (hout : w'.output = w.output)
    (hb : pl.blk = w.heap.size) (ho : ObjRel E (ρ.set nx pl) pl o co) (hv : VRel (ρ.set nx pl) v cv) : OpOk E ρ g w ⟨none, some o, t⟩ nx v cv w' := by
  refine ⟨⟨ρ.set nx pl, hv, ⟨?_, ?_⟩, ⟨Pm.le_set hn, ?_, ?_, ?_, ?_, ?_, hos, ht, hout⟩, fun b hb => Pm.set_ne hb, fun h => by cases h⟩⟩
  · intro b pl' o' h1 h2 h3
    simp only [Eff.look] at h2
    by_cases he : b = nx
    · subst he
      rw [Pm.set_same] at h1; injection h1 with h1; subst h1
      rw [if_pos rfl] at h2; injection h2 with h2; subst h2
      exact ⟨co, by rw [hw, hb]; simp, ho⟩
    · rw [Pm.set_ne he] at h1
      rw [if_neg he] at h2
      obtain ⟨co', hc, hr⟩ := h.obj b pl' o' h1 h2 h3
      have hlt := (Array.getElem?_eq_some_iff.1 hc).1
      exact ⟨co', by rw [hw, Array.getElem?_push_lt hlt]; rw [Array.getElem?_eq_getElem hlt] at hc; exact hc, hr.mono (Pm.le_set hn)⟩
  · intro b b' pl1 pl2 o1 o2 hne h1 h2 h3 h4 h5 h6
    simp only [Eff.look] at h3 h4
    by_cases he : b = nx
    · subst he
      have he' : b' ≠ b := fun h => hne h.symm
      rw [Pm.set_same] at h1; injection h1 with h1; subst h1
      rw [Pm.set_ne he'] at h2
      rw [if_neg he'] at h4
      have := h.lt h2 h4 h6
      omega
    · rw [Pm.set_ne he] at h1
      rw [if_neg he] at h3
      by_cases he' : b' = nx
      · subst he'
        rw [Pm.set_same] at h2; injection h2 with h2; subst h2
        have := h.lt h1 h3 (by cases o1 <;> simp_all [AObj.owned, AObj.live])
        omega
      · rw [Pm.set_ne he'] at h2
        rw [if_neg he'] at h4
        exact h.excl b b' pl1 pl2 o1 o2 hne h1 h2 h3 h4 h5 h6
  · rw [hw]; simp
  · intro k hk _
    rw [hw, Array.getElem?_push_lt hk, Array.getElem?_eq_getElem hk]
  · intro b pl' o' h1 h2 h3 h4
    simp only [Eff.look] at h2
    by_cases he : b = nx
    · subst he
      rw [Pm.set_same] at h1; injection h1 with h1; subst h1
      omega
    · rw [Pm.set_ne he] at h1
      rw [if_neg he] at h2
      exact ⟨b, pl', o', h1, h2, h3, rfl⟩
  · intro b pl' o' h1 h2 h3 h4
    simp only [Eff.look] at h2
    by_cases he : b = nx
    · subst he
      rw [Pm.set_same] at h1; injection h1 with h1; subst h1
      omega
    · rw [Pm.set_ne he] at h1
      rw [if_neg he] at h2
      exact ⟨b, pl', o', h1, h2, h3, rfl⟩
  · intro b hb
    simp only [Eff.look] at hb
    by_cases he : b = nx
    · subst he; rw [Pm.set_same]; rfl
    · rw [if_neg he] at hb; exact absurd rfl hb

/-- An object of ours is turned. -/
theorem OpOk.turned {E : AEnv} {ρ : Pm} {g : Look} {w w' : World} {nx b0 : Nat} {v cv : Value} {o0 o : AObj} {co : Obj} {pl : Plc} {t : Bool} (h : HRel E ρ g w)
    (hpl : ρ b0 = some pl) (hg : g b0 = some o0) (hown : o0.owned = true)
    (hw : w'.heap = w.heap.setIfInBounds pl.blk co) (hos : w'.os = w.os) (ht : w'.tape = w.tape) (hout : w'.output = w.output)
    (ho : ObjRel E ρ pl o co) (hv : VRel ρ v cv) : OpOk E ρ g w ⟨some (b0, o), none, t⟩ nx v cv w' := by
  have hl0 : o0.live = true := by cases o0 <;> simp_all [AObj.owned, AObj.live]
  refine ⟨⟨ρ, hv, ⟨?_, ?_⟩, ⟨PmLe.refl _, ?_, ?_, ?_, ?_, ?_, hos, ht, hout⟩, fun _ _ => rfl, fun _ => rfl⟩⟩
  · intro b pl' o' h1 h2 h3
    simp only [Eff.look] at h2
    by_cases he : b = b0
    · subst he
      rw [hpl] at h1; injection h1 with h1; subst h1
      rw [if_pos rfl] at h2; injection h2 with h2; subst h2
      refine ⟨co, ?_, ho⟩
      rw [hw]
      simp [h.lt hpl hg hl0]
    · rw [if_neg he] at h2
      obtain ⟨co', hc, hr⟩ := h.obj b pl' o' h1 h2 h3
      refine ⟨co', ?_, hr⟩
      rw [hw, Array.getElem?_setIfInBounds_ne (h.excl b0 b pl pl' o0 o' (fun h => he h.symm) hpl h1 hg h2 hown h3)]
      exact hc
  · intro b b' pl1 pl2 o1 o2 hne h1 h2 h3 h4 h5 h6
    simp only [Eff.look] at h3 h4
    by_cases he : b = b0
    · subst he
      have he' : b' ≠ b := fun h => hne h.symm
      rw [if_neg he'] at h4
      exact h.excl b b' pl1 pl2 o0 o2 hne h1 h2 hg h4 hown h6
    · rw [if_neg he] at h3
      by_cases he' : b' = b0
      · subst he'
        exact h.excl b b' pl1 pl2 o1 o0 hne h1 h2 h3 hg h5 hl0
      · rw [if_neg he'] at h4
        exact h.excl b b' pl1 pl2 o1 o2 hne h1 h2 h3 h4 h5 h6
  · rw [hw]; simp
  · intro k hk hn
    rw [hw, Array.getElem?_setIfInBounds_ne (hn b0 pl o0 hpl hg hown)]
  · intro b pl' o' h1 h2 h3 h4
    simp only [Eff.look] at h2
    by_cases he : b = b0
    · subst he
      exact ⟨b, pl, o0, hpl, hg, hown, by rw [hpl] at h1; injection h1 with h1; rw [h1]⟩
    · rw [if_neg he] at h2
      exact ⟨b, pl', o', h1, h2, h3, rfl⟩
  · intro b pl' o' h1 h2 h3 h4
    simp only [Eff.look] at h2
    by_cases he : b = b0
    · subst he
      exact ⟨b, pl, o0, hpl, hg, hl0, by rw [hpl] at h1; injection h1 with h1; rw [h1]⟩
    · rw [if_neg he] at h2
      exact ⟨b, pl', o', h1, h2, h3, rfl⟩
  · intro b hb
    simp only [Eff.look] at hb
    by_cases he : b = b0
    · subst he; rw [hpl]; rfl
    · rw [if_neg he] at hb; exact absurd rfl hb

/-! ### Reading -/
theorem add_plain (g j n : Nat) : (⟨g, j, none⟩ : Addr).add n = ⟨g, j + n, none⟩ := by unfold Addr.add; split <;> simp_all

theorem HRel.cells {E : AEnv} {ρ : Pm} {g : Look} {w : World} (h : HRel E ρ g w) {b : Nat} {pl : Plc} {cs : List Value} {esz : Nat} {own : Bool} (hpl : ρ b = some pl) (hg : g b = some (.cells cs esz own)) :
    pl.esz = esz ∧ ∃ C T fz, w.heap[pl.blk]? = some (.cells C T fz) ∧ cs.length ≤ pl.ext ∧ pl.base + pl.ext ≤ C.size ∧
      (∀ (i : Nat) (v : Value), cs[i]? = some v → ∃ u, C[pl.base + i]? = some u ∧ VRel ρ v u) ∧ (own = true → ∀ i, i < pl.ext → ¬ (fz.1 ≤ pl.base + i ∧ pl.base + i < fz.2)) := by
  obtain ⟨co, hc, h0, C, T, fz, rfl, rest⟩ := h.obj b pl _ hpl hg rfl
  exact ⟨h0, C, T, fz, hc, rest⟩

/-- A row of cells that is read. -/
theorem HRel.row {E : AEnv} {ρ : Pm} {g : Look} {w : World} (h : HRel E ρ g w) {b : Nat} {pl : Plc} {cs : List Value} {esz : Nat} {own : Bool} (hpl : ρ b = some pl) (hg : g b = some (.cells cs esz own))
    (off n : Nat) (hn : off + n ≤ cs.length) : ∃ us : List Value, LRel ρ ((cs.drop off).take n) us ∧ us.length = n ∧ ∀ j u, us[j]? = some u → w.cell? ⟨pl.blk, pl.base + off + j, none⟩ = some u := by
  obtain ⟨_, C, T, fz, hc, h1, h2, h3, _⟩ := h.cells hpl hg
  refine ⟨((C.toList.drop (pl.base + off)).take n), ?_, ?_, ?_⟩
  · refine LRel.of_get ?_ fun i v u hv hu => ?_
    · simp; omega
    · have hi : i < n := by
        have := (List.getElem?_eq_some_iff.1 hv).1
        simp at this; omega
      rw [List.getElem?_take_of_lt hi, List.getElem?_drop] at hv hu
      obtain ⟨u', a, b⟩ := h3 _ _ hv
      rw [← Array.getElem?_toList, ← Nat.add_assoc] at a
      rw [a] at hu; injection hu with hu; exact hu ▸ b
  · simp; omega
  · intro j u hu
    have hj : j < n := by
      have := (List.getElem?_eq_some_iff.1 hu).1
      simp at this; omega
    rw [List.getElem?_take_of_lt hj, List.getElem?_drop, Array.getElem?_toList] at hu
    simp only [World.cell?, hc]
    simpa using hu
theorem run_row (P : Program) (w : World) (b o : Nat) (us : List Value) (n : Nat) (hn : us.length = n) (h : ∀ j u, us[j]? = some u → w.cell? ⟨b, o + j, none⟩ = some u) :
    (loadCells ⟨b, o, none⟩ n).run P w = .ok us.toArray w := by
  subst hn
  exact run_loadCells_list w ⟨b, o, none⟩ us fun j v hv => by rw [add_plain]; exact h j v hv

/-! ### Writing -/
def cput (C : Array Value) (off : Nat) : List Value → Array Value
  | [] => C
  | v :: vs => cput (C.setIfInBounds off v) (off + 1) vs
theorem cput_size (vs : List Value) : ∀ (C : Array Value) (off : Nat), (cput C off vs).size = C.size := by
  induction vs with
  | nil => intro C off; rfl
  | cons v vs ih => intro C off; simp [cput, ih]
theorem cput_get (vs : List Value) : ∀ (C : Array Value) (off i : Nat), off + vs.length ≤ C.size → (cput C off vs)[i]? = if off ≤ i ∧ i < off + vs.length then vs[i - off]? else C[i]? := by
  induction vs with
  | nil => intro C off i h; simp [cput]; omega
  | cons v vs ih =>
    intro C off i h
    simp only [List.length_cons] at h
    simp only [cput, List.length_cons]
    rw [ih _ _ _ (by simp; omega)]
    by_cases h1 : off + 1 ≤ i ∧ i < off + 1 + vs.length
    · rw [if_pos h1, if_pos (by omega)]
      obtain ⟨m, rfl⟩ : ∃ m, i = off + 1 + m := ⟨i - (off + 1), by omega⟩
      have e1 : off + 1 + m - (off + 1) = m := by omega
      have e2 : off + 1 + m - off = m + 1 := by omega
      rw [e1, e2]; simp
    · rw [if_neg h1]
      by_cases h2 : i = off
      · subst h2
        have hi : i < C.size := by omega
        rw [if_pos (by omega)]
        simp [hi]
      · rw [if_neg (by omega), Array.getElem?_setIfInBounds_ne (fun h => h2 h.symm)]

theorem run_put (P : Program) (T : TypeId) (fz : Nat × Nat) (k o : Nat) (vs : List Value) : ∀ (i : Nat) (C : Array Value) (w : World), w.heap[k]? = some (.cells C T fz) → o + i + vs.length ≤ C.size →
    (∀ j, j < vs.length → ¬ (fz.1 ≤ o + i + j ∧ o + i + j < fz.2)) → vs.all cellOk = true →
    (storeCells ⟨k, o, none⟩ vs i).run P w = .ok () { w with heap := w.heap.setIfInBounds k (.cells (cput C (o + i) vs) T fz) } := by
  induction vs with
  | nil =>
    intro i C w hw _ _ _
    simp only [storeCells, Sem.run_pure, cput]
    have : w.heap.setIfInBounds k (.cells C T fz) = w.heap := by
      apply Array.ext_getElem?
      intro j
      by_cases hj : k = j
      · subst hj
        have := (Array.getElem?_eq_some_iff.1 hw).1
        simp [this]
        rw [Array.getElem?_eq_getElem this] at hw
        injection hw with hw; exact hw.symm
      · rw [Array.getElem?_setIfInBounds_ne hj]
    rw [this]
  | cons v vs ih =>
    intro i C w hw hl hfz hok
    simp only [List.all_cons, Bool.and_eq_true] at hok
    simp only [List.length_cons] at hl hfz
    have hlt := (Array.getElem?_eq_some_iff.1 hw).1
    have hcell : w.cell? ⟨k, o + i, none⟩ = C[o + i]? := by simp [World.cell?, hw]
    have hfr : w.frozen? ⟨k, o + i, none⟩ = false := by
      have := hfz 0 (by omega)
      obtain ⟨f1, f2⟩ := fz
      simp only [World.frozen?, hw]
      simp only [Nat.add_zero] at this
      simpa using this
    have hone : v.oneCell' = true := by cases v <;> simp_all [cellOk, Value.oneCell']
    have hset : w.setCell ⟨k, o + i, none⟩ v = { w with heap := w.heap.setIfInBounds k (.cells (C.setIfInBounds (o + i) v) T fz) } := by
      unfold World.setCell
      congr 1
      apply Array.ext_getElem?
      intro j
      rw [Array.getElem?_modify]
      by_cases hj : k = j
      · subst hj
        have hk : w.heap[k] = .cells C T fz := by rw [Array.getElem?_eq_getElem hlt] at hw; injection hw
        simp [hlt, hk]
      · rw [if_neg hj, Array.getElem?_setIfInBounds_ne hj]
    simp only [storeCells, Sem.run_bind]
    rw [add_plain, run_store P w _ v _ hone, hcell, Array.getElem?_eq_getElem (show o + i < C.size by omega)]
    simp only [hfr, Bool.false_eq_true, if_false, Result.andThen_ok]
    rw [hset, ih (i + 1) (C.setIfInBounds (o + i) v) _ (by simp [hlt]) (by simp; omega) (fun j hj => by
      have := hfz (j + 1) (by omega)
      rwa [show o + i + (j + 1) = o + (i + 1) + j by omega] at this) hok.2]
    simp only [cput]
    rw [show o + (i + 1) = o + i + 1 by omega]
    congr 2
    apply Array.ext_getElem?
    intro j
    by_cases hj : k = j
    · subst hj; simp [hlt]
    · simp [Array.getElem?_setIfInBounds_ne hj]

theorem aput_length (cs vs : List Value) (off : Nat) (h : off + vs.length ≤ cs.length) : (aput cs off vs).length = cs.length := by
  simp [aput]; omega
theorem aput_get (cs vs : List Value) (off i : Nat) (h : off + vs.length ≤ cs.length) : (aput cs off vs)[i]? = if off ≤ i ∧ i < off + vs.length then vs[i - off]? else cs[i]? := by
  unfold aput
  by_cases h1 : i < off
  · rw [if_neg (by omega), List.append_assoc, List.getElem?_append_left (by simp; omega), List.getElem?_take_of_lt h1]
  · by_cases h2 : i < off + vs.length
    · rw [if_pos (by omega), List.append_assoc, List.getElem?_append_right (by simp; omega), List.getElem?_append_left (by simp; omega)]
      congr 1; simp; omega
    · rw [if_neg (by omega), List.getElem?_append_right (by simp; omega), List.getElem?_drop]
      congr 1; simp; omega

/-- Cells of a row of ours are written. -/
theorem ObjRel.put {E : AEnv} {ρ : Pm} {pl : Plc} {cs : List Value} {esz : Nat} {own : Bool} {C : Array Value} {T : TypeId} {fz : Nat × Nat} (h : ObjRel E ρ pl (.cells cs esz own) (.cells C T fz))
    {off : Nat} {vs us : List Value} (hv : LRel ρ vs us) (hl : off + vs.length ≤ cs.length) : ObjRel E ρ pl (.cells (aput cs off vs) esz own) (.cells (cput C (pl.base + off) us) T fz) := by
  obtain ⟨h0, C', T', fz', he, h1, h2, h3, h4⟩ := h
  injection he with e1 e2 e3
  subst e1 e2 e3
  have hlen := hv.1
  refine ⟨h0, _, _, _, rfl, by rw [aput_length _ _ _ hl]; exact h1, by rw [cput_size]; exact h2, fun i v hi => ?_, h4⟩
  rw [aput_get _ _ _ _ hl] at hi
  rw [cput_get _ _ _ _ (by omega)]
  by_cases hc : off ≤ i ∧ i < off + vs.length
  · rw [if_pos hc] at hi
    rw [if_pos (by omega)]
    obtain ⟨u, a, b⟩ := hv.get? hi
    exact ⟨u, by rw [← a]; congr 1; omega, b⟩
  · rw [if_neg hc] at hi
    rw [if_neg (by omega)]
    exact h3 i v hi
end Go.Am
