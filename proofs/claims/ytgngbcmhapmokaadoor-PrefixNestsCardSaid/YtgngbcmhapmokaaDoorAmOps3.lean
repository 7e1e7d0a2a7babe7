/- The abstract machine: memory that is read, written and made, on both sides. -/
import Derived.Test.YtgngbcmhapmokaaDoorAmOps2
import Derived.Deep.AppendSrc
import Derived.Laws.BytesString
import Derived.Laws.MakeOwn
namespace Go.Am
open Go

variable {P : Program} {w : World} {ρ : Pm} {E : AEnv} {g : Look} {nx : Nat}

theorem aload_run {t : TypeId} {p cp v : Value} (hH : HRel E ρ g w) (h : aload P g t p = some v) (hp : VRel ρ p cp) : ∃ u, VRel ρ v u ∧ (Instr.loadAt t cp).run P w = .ok u w := by
  unfold aload at h
  split at h
  · rename_i b off
    obtain ⟨pl, hpl, rfl⟩ := hp.ptr_inv
    split at h
    · rename_i cs esz own hg
      unfold apartT at h
      split at h
      · rename_i b' n hb hn
        unfold apart at h
        cases b' with
        | true =>
          simp only [if_true] at h
          split at h
          · rename_i hle
            injection h with h; subst h
            obtain ⟨us, hr, hl, hc⟩ := hH.row hpl hg off n hle
            refine ⟨.agg us.toArray, VRel.agg_l (by simpa using hr), ?_⟩
            simp only [Instr.loadAt, Instr.sureAddr, loadVar, Sem.run_bind, Sem.run_pure, Result.andThen_ok, run_aisAgg hb, if_true, run_asize hn]
            rw [run_row P w _ _ us n hl hc]
            simp only [Result.andThen_ok]
          · cases h
        | false =>
          simp only [Bool.false_eq_true, if_false] at h
          obtain ⟨_, C, T, fz, hc, _, _, h3, _⟩ := hH.cells hpl hg
          obtain ⟨u, hu, hv⟩ := h3 _ _ h
          refine ⟨u, hv, ?_⟩
          have hcell : w.cell? ⟨pl.blk, pl.base + off, none⟩ = some u := by simp [World.cell?, hc, hu]
          simp only [Instr.loadAt, Instr.sureAddr, loadVar, Sem.run_bind, Sem.run_pure, Result.andThen_ok, run_aisAgg hb, Bool.false_eq_true, if_false, run_load, hcell]
      · cases h
    · cases h
  · cases h

theorem cellOk_all {l us : List Value} (h : LRel ρ l us) (ho : l.all cellOk = true) : us.all cellOk = true := by
  rw [List.all_eq_true] at ho ⊢
  intro u hu
  obtain ⟨i, hi, rfl⟩ := List.mem_iff_getElem.1 hu
  have hi' : i < l.length := by rw [h.1]; exact hi
  exact (h.2 i hi' hi).cellOk (ho _ (List.getElem_mem hi'))
theorem oneCell_of_cellOk {v : Value} (h : cellOk v = true) : v.oneCell' = true := by cases v <;> simp_all [cellOk, Value.oneCell']

/-- Cells of a row of ours are written: what the model does, and what it comes to. -/
theorem put_ok {b off : Nat} {pl : Plc} {cs vs us : List Value} {esz : Nat} {v cv : Value} (hH : HRel E ρ g w) (hpl : ρ b = some pl) (hg : g b = some (.cells cs esz true)) (hv : LRel ρ vs us) (hl : off + vs.length ≤ cs.length) (hok : vs.all cellOk = true) (hvr : VRel ρ v cv) :
    ∃ w', (storeCells ⟨pl.blk, pl.base + off, none⟩ us).run P w = .ok () w' ∧ OpOk E ρ g w ⟨some (b, .cells (aput cs off vs) esz true), none, false⟩ nx v cv w' := by
  obtain ⟨co, hc, hrel⟩ := hH.obj b pl _ hpl hg rfl
  obtain ⟨hes, C, T, fz, rfl, h1, h2, h3, h4⟩ := id hrel
  have hlen := hv.1
  refine ⟨_, run_put P T fz pl.blk (pl.base + off) us 0 C w hc (by omega) (fun j hj => ?_) (cellOk_all hv hok), ?_⟩
  · have := h4 rfl (off + j) (by omega)
    rwa [show pl.base + off + 0 + j = pl.base + (off + j) by omega]
  · exact OpOk.turned hH hpl hg rfl rfl rfl rfl rfl (hrel.put hv hl) hvr

theorem astore_run {t : TypeId} {p v cp cv : Value} {e : Eff} (hH : HRel E ρ g w) (h : astore P g t p v = some e) (hp : VRel ρ p cp) (hv : VRel ρ v cv) :
    ∃ w', (Instr.storeAt t cp cv).run P w = .ok () w' ∧ ∀ cv', VRel ρ Go.undef cv' → OpOk E ρ g w e nx Go.undef cv' w' := by
  unfold astore at h
  split at h
  · rename_i b off
    obtain ⟨pl, hpl, rfl⟩ := hp.ptr_inv
    split at h
    · rename_i cs esz n hg hn
      split at h
      · rename_i hc
        injection h with h; subst h
        obtain ⟨h1, h2, h3⟩ := hc
        have hl : off + v.cells.toList.length ≤ cs.length := by simp only [Array.length_toList]; omega
        obtain ⟨w', hr, hO⟩ := put_ok (P := P) (nx := nx) hH hpl hg hv.cells hl h3 (VRel.undef ρ)
        refine ⟨w', ?_, fun cv' hcv => ?_⟩
        · simp only [Instr.storeAt, Instr.sureAddr, storeVar, Sem.run_bind, Sem.run_pure, Result.andThen_ok, run_asize hn]
          rw [if_neg (by rw [← hv.cells_size]; exact fun h => h h1)]
          exact hr
        · obtain ⟨⟨ρ', a1, a2⟩⟩ := hO
          obtain ⟨w'', hr', hO'⟩ := put_ok (P := P) (nx := nx) hH hpl hg hv.cells hl h3 hcv
          rw [hr] at hr'
          injection hr' with _ hr'
          subst hr'
          exact hO'
      · cases h
    · cases h
  · cases h

/-! ### Rows that are made -/
theorem ObjRel.row {ρ : Pm} {k esz : Nat} {own : Bool} {cs us : List Value} {C : Array Value} {T : TypeId} {fz : Nat × Nat} {rest : List Value} (h : LRel ρ cs us) (hC : C.toList = us ++ rest) (hf : ∀ i, i < C.size → ¬ (fz.1 ≤ i ∧ i < fz.2)) :
    ObjRel E ρ ⟨k, 0, C.size, esz⟩ (.cells cs esz own) (.cells C T fz) := by
  have hl : C.size = us.length + rest.length := by rw [← Array.length_toList, hC, List.length_append]
  refine ⟨rfl, C, T, fz, rfl, ?_, by simp, fun i v hv => ?_, fun _ i hi => by simpa using hf i hi⟩
  · have := h.1; simp only; omega
  · obtain ⟨u, hu, hr⟩ := h.get? hv
    refine ⟨u, ?_, hr⟩
    rw [Nat.zero_add, ← Array.getElem?_toList, hC, List.getElem?_append_left (List.getElem?_eq_some_iff.1 hu).1]
    exact hu
theorem VRel.atStart {ρ : Pm} {nx k ext esz : Nat} : VRel (ρ.set nx ⟨k, 0, ext, esz⟩) (apt nx 0) (.pointer (some ⟨k, 0, none⟩)) := by
  have := VRel.ptr (ρ := ρ.set nx ⟨k, 0, ext, esz⟩) (b := nx) (off := 0) Pm.set_same
  exact this
theorem VRel.slStart {ρ : Pm} {nx k ext esz len cap : Nat} (he : 0 < esz) (hl : len ≤ cap) (hx : cap * esz ≤ ext) : VRel (ρ.set nx ⟨k, 0, ext, esz⟩) (asl nx 0 len esz) (.slice (some ⟨k, 0, none⟩) len cap) := by
  exact VRel.sl (ρ := ρ.set nx ⟨k, 0, ext, esz⟩) (b := nx) (off := 0) Pm.set_same he hl (.inl rfl) (fun _ => by simpa using hx)

theorem alloc_ok {t : TypeId} {v u : Value} (hH : HRel E ρ g w) (hn : ρ nx = none) (hv : VRel ρ v u) :
    ∃ cv w', (Instr.box t u).run P w = .ok cv w' ∧ OpOk E ρ g w (.mk1 (.cells v.cells.toList 0 true)) nx (apt nx 0) cv w' := by
  refine ⟨.pointer (some ⟨w.heap.size, 0, none⟩), w.alloc (.cells u.cells t), by simp [Instr.box, newVar, newRow], ?_⟩
  refine OpOk.made (pl := ⟨w.heap.size, 0, u.cells.size, 0⟩) hH hn rfl rfl rfl rfl rfl ?_ VRel.atStart
  exact ObjRel.row (rest := []) (hv.cells.mono (Pm.le_set hn)) (by simp) (fun i _ => by simp)

theorem azeros_run (z : Array Value) (n : Nat) : ((Array.range (n * z.size)).map fun i => z[i % z.size]!).toList = azeros z.toList n := by
  induction n with
  | zero => simp [azeros]
  | succ n ih =>
    apply List.ext_getElem?
    intro i
    simp only [azeros]
    by_cases hz : z.size = 0
    · have : z = #[] := Array.eq_empty_of_size_eq_zero hz
      subst this
      have hz0 : ∀ m, azeros (#[] : Array Value).toList m = [] := by intro m; induction m with
        | zero => rfl
        | succ m ih => simpa [azeros] using ih
      simp [hz0]
    · by_cases hi : i < z.size
      · have hlt : i < (n + 1) * z.size := Nat.lt_of_lt_of_le hi (by rw [Nat.succ_mul]; omega)
        rw [List.getElem?_append_left (by simpa using hi)]
        simp [hlt, Nat.mod_eq_of_lt hi, hi]
      · rw [List.getElem?_append_right (by simpa using hi), ← ih]
        obtain ⟨j, rfl⟩ : ∃ j, i = z.size + j := ⟨i - z.size, by omega⟩
        have e : z.size + j - z.toList.length = j := by simp
        rw [e]
        by_cases hj : j < n * z.size
        · have hlt : z.size + j < (n + 1) * z.size := by rw [Nat.succ_mul]; omega
          simp [hlt, hj]
        · have hlt : ¬ (z.size + j < (n + 1) * z.size) := by rw [Nat.succ_mul]; omega
          simp [hlt, hj]
theorem zeroCells_list (z : Array Value) (n : Nat) : (Builtin.zeroCells z n).toList = azeros z.toList n := azeros_run z n
theorem azeros_rel {z : Value} (hz : flat1 z = true) (n : Nat) : LRel ρ (azeros z.cells.toList n) (azeros z.cells.toList n) := by
  have hb : LRel ρ z.cells.toList z.cells.toList := (VRel.flat1 hz).cells
  induction n with
  | zero => exact LRel.nil ρ
  | succ n ih => exact hb.append ih
theorem azeros_length (z : List Value) (n : Nat) : (azeros z n).length = n * z.length := by
  induction n with
  | zero => simp [azeros]
  | succ n ih => simp [azeros, ih, Nat.succ_mul]; omega

theorem buildSlice_run {t elem : TypeId} {len size : Nat} {z : Value} {parts : List (Nat × Value)} {cparts : Array (Nat × Value)} {cs : List Value} (hH : HRel E ρ g w) (hn : ρ nx = none)
    (hu : P.underlying t = some (.slice elem)) (hs : asize P elem = some size) (hz : azero P elem = some z) (h1 : len * size ≤ 16777216) (h2 : z.cells.size = size) (h3 : 0 < size)
    (h : afill (fun i => some (i * size, size)) (azeros z.cells.toList len) parts = some cs) (hi : parts.map (·.1) = cparts.toList.map (·.1)) (hv : LRel ρ (parts.map (·.2)) (cparts.toList.map (·.2))) :
    ∃ cv w', (Instr.buildSlice t len cparts).run P w = .ok cv w' ∧ OpOk E ρ g w (.mk1 (.cells cs size true)) nx (asl nx 0 len (if len = 0 then 0 else size)) cv w' := by
  have hl : (azeros z.cells.toList len) = ((Array.range (len * size)).map fun i => z.cells[i % z.cells.size]!).toList := by rw [← h2, azeros_run]
  have hr0 : LRel ρ (azeros z.cells.toList len) ((Array.range (len * size)).map fun i => z.cells[i % z.cells.size]!).toList := by rw [← hl]; exact azeros_rel (azero_flat hz) len
  obtain ⟨us, hus, hur⟩ := afill_run (ρ := ρ) _ parts cparts.toList _ _ cs h hr0 hi hv
  have hfl : ∀ (parts : List (Nat × Value)) (cells cs : List Value), afill (fun i => some (i * size, size)) cells parts = some cs → cs.length = cells.length := by
    intro parts
    induction parts with
    | nil => intro cells cs h; simp only [afill] at h; injection h with h; rw [h]
    | cons p ps ih =>
      intro cells cs h
      obtain ⟨i, v⟩ := p
      simp only [afill] at h
      split at h
      · cases h
      · rename_i hc
        have := ih _ _ h
        simp only [Bool.not_eq_true, Bool.or_eq_false_iff, decide_eq_false_iff_not, ne_eq, Decidable.not_not] at hc
        rw [this]
        simp
        omega
  have hsz : us.size = len * size := by
    have h4 := hur.1
    have h5 := hfl _ _ _ h
    rw [azeros_length] at h5
    simp only [Array.length_toList] at h4 h5
    rw [← h4, h5, h2]
  refine ⟨.slice (some ⟨w.heap.size, 0, none⟩) len len, w.alloc (.cells us elem), ?_, ?_⟩
  · have hsmall : ¬ len * size > 2 ^ 24 := by simpa using h1
    by_cases h0 : len * size = 0
    · have hl0 : len = 0 := by
        rcases Nat.mul_eq_zero.1 h0 with h | h
        · exact h
        · omega
      subst hl0
      have hus' : Instr.fill (fun i => some (i * size, size)) #[] cparts.toList = some us := by
        have e : ((Array.range (0 * size)).map fun i => z.cells[i % z.cells.size]!) = #[] := by
          exact Array.eq_empty_of_size_eq_zero (by simp)
        rw [e] at hus; exact hus
      simp only [Instr.buildSlice, Sem.run_bind, run_underlying hu, Result.andThen_ok, run_asize hs, Nat.zero_mul, if_true, Sem.run_pure]
      rw [if_neg (by decide)]
      simp only [Sem.run_bind, Sem.run_pure, Result.andThen_ok]
      have e : (Array.map (fun x => (#[] : Array Value)[x % (#[] : Array Value).size]!) (Array.range 0)) = #[] := Array.eq_empty_of_size_eq_zero (by simp)
      rw [e, hus']
      simp [newRow]
    · simp only [Instr.buildSlice, Sem.run_bind, run_underlying hu, Result.andThen_ok, run_asize hs, if_neg hsmall, if_neg h0, run_azero hz, hus, Sem.run_pure]
      simp [newRow]
  · refine OpOk.made (pl := ⟨w.heap.size, 0, us.size, size⟩) hH hn rfl rfl rfl rfl rfl (ObjRel.row (rest := []) (hur.mono (Pm.le_set hn)) (by simp) (fun i _ => by simp)) ?_
    by_cases hl0 : len = 0
    · subst hl0
      simp only [if_true]
      exact .sl0 rfl
    · rw [if_neg hl0]
      exact VRel.slStart h3 (Nat.le_refl _) (by omega)

theorem amakeSlice_run {t : TypeId} {l c cl cc v : Value} {e : Eff} (hH : HRel E ρ g w) (hn : e.new ≠ none → ρ nx = none) (h : amakeSlice P nx t l c = some (v, e)) (hl : VRel ρ l cl) (hc : VRel ρ c cc) :
    ∃ cv w', (Instr.makeSlice t cl cc).run P w = .ok cv w' ∧ OpOk E ρ g w e nx v cv w' := by
  unfold amakeSlice at h
  split at h
  · rename_i elem k1 l k2 c hu
    rw [hl.int_inv, hc.int_inv]
    split at h
    · rename_i info z hi hz
      split at h
      · rename_i hcond
        obtain ⟨h1, h2, h3, h4, h5, h6⟩ := hcond
        injection h with h; injection h with h7 h8; subst h7 h8
        have hn := hn (by simp [Eff.mk1])
        have hz' : info.zero = some z := by
          unfold azero at hz
          rw [hi] at hz
          simp only [Option.bind_some] at hz
          split at hz
          · rename_i z' hz2
            split at hz
            · injection hz with hz; rw [hz2, hz]
            · cases hz
          · cases hz
        have hr := run_make w t elem info z hu hi hz' k1 k2 l c h1 h2 (by omega) (by omega) (P := P)
        refine ⟨_, _, hr, ?_⟩
        have hsz : (madeCells z.cells (c.toNat * info.size)).size = c.toNat * info.size := size_madeCells _ _
        have hlist : (madeCells z.cells (c.toNat * info.size)).toList = azeros z.cells.toList c.toNat := by
          have := azeros_run z.cells c.toNat
          rw [h5] at this
          rw [← this]
          unfold madeCells
          rw [h5]
        refine OpOk.made (pl := ⟨w.heap.size, 0, (madeCells z.cells (c.toNat * info.size)).size, info.size⟩) hH hn rfl rfl rfl rfl rfl
          (ObjRel.row (rest := []) ((azeros_rel (azero_flat hz) _).mono (Pm.le_set hn)) (by rw [hlist]; simp) (fun i _ => by simp)) ?_
        by_cases hc0 : c = 0
        · subst hc0
          have : l = 0 := by omega
          subst this
          exact .sl0 rfl
        · rw [if_neg hc0]
          refine VRel.slStart h6 (by omega) (by rw [hsz]; exact Nat.le_refl _)
      · cases h
    · cases h
  · cases h

/-! ### The first cells -/
theorem afirst_run {s n : Nat} {x cx : Value} {l : List Value} (hH : HRel E ρ g w) (h : afirst g s n x = some l) (hx : VRel ρ x cx) :
    ∃ us, LRel ρ l us ∧ ∀ w', w'.heap = w.heap → (Builtin.firstCells s n cx).run P w' = .ok us.toArray w' := by
  have hcell : ∀ (w' : World) (a : Addr), w'.heap = w.heap → w'.cell? a = w.cell? a := fun w' a hw => by simp [World.cell?, hw]
  unfold afirst at h
  split at h
  · obtain ⟨ca, cap, rfl, _, hs, _⟩ := hx.slice_inv
    cases ca with
    | some a => simp at hs
    | none =>
      split at h
      · injection h with h; subst h
        exact ⟨[], LRel.nil ρ, fun w' _ => by simp [Builtin.firstCells]⟩
      · cases h
  · rename_i b off len c
    obtain ⟨ca, cap, rfl, hlc, hs, hshape⟩ := hx.slice_inv
    cases ca with
    | none => simp at hs
    | some a =>
      split at h
      · rename_i h0
        injection h with h; subst h
        exact ⟨[], LRel.nil ρ, fun w' _ => by simp [Builtin.firstCells, h0, loadCells, loadCellsFrom]⟩
      · rename_i h0
        split at h
        · cases h
        · rename_i hlt
          split at h
          · rename_i cs esz own hg
            split at h
            · rename_i hle
              injection h with h; subst h
              have hn0 : n ≠ 0 := fun he => h0 (by simp [he])
              rcases hshape with ⟨h1, h2, h3⟩ | ⟨b', off', pl, ca', he, he', hpl, hc, hca, hxx⟩
              · omega
              · injection he with he; injection he with he1 he2; subst he1 he2
                injection he' with he'; subst he'
                have hca : a = ⟨pl.blk, pl.base + off, none⟩ := by rcases hca with h | h; exact h; omega
                subst hca
                obtain ⟨us, hr, hl, hc⟩ := hH.row hpl hg off (n * s) hle
                exact ⟨us, hr, fun w' hw => run_row P w' _ _ us _ hl fun j u hu => by rw [hcell w' _ hw]; exact hc j u hu⟩
            · cases h
          · cases h
  · rename_i x
    rw [hx.string_inv]
    injection h with h; subst h
    refine ⟨_, LRel.flat (fun v hv => by obtain ⟨_, _, rfl⟩ := List.mem_map.1 hv; rfl), fun w' _ => ?_⟩
    simp only [Builtin.firstCells, ByteArray.extract_list, Sem.run_pure]
    congr 1
    apply Array.ext'
    simp
  · cases h
theorem alen_run {x cx : Value} {n : Nat} (h : alen x = some n) (hx : VRel ρ x cx) : ∀ w, (Builtin.lenOf cx).run P w = .ok n w := by
  intro w
  unfold alen at h
  split at h
  · injection h with h; subst h
    obtain ⟨ca, cap, rfl, _⟩ := hx.slice_inv
    rfl
  · injection h with h; subst h
    rw [hx.string_inv]
    rfl
  · cases h

/-! ### Conversions -/
theorem freeze_last (h : Array Obj) (o : Obj) (f : Obj → Obj) : (h.push o).modify h.size f = h.push (f o) := by
  apply Array.ext_getElem?
  intro i
  rw [Array.getElem?_modify, Array.getElem?_push, Array.getElem?_push]
  by_cases hi : i = h.size
  · subst hi; simp
  · rw [if_neg (fun he => hi he.symm), if_neg hi, if_neg hi]

theorem abytes_inv : ∀ (cs : List Value) (l : List UInt8), abytes cs = some l → ∃ ns : List Int, cs = ns.map (Value.int .u8) ∧ l = ns.map fun n => UInt8.ofNat n.toNat := by
  intro cs
  induction cs with
  | nil => intro l h; simp only [abytes] at h; injection h with h; subst h; exact ⟨[], rfl, rfl⟩
  | cons c cs ih =>
    intro l h
    unfold abytes at h
    split at h
    · rename_i he; cases he
    · rename_i n r he
      injection he with he1 he2; subst he1 he2
      obtain ⟨l', hl', rfl⟩ := Option.map_eq_some_iff.1 h
      obtain ⟨ns, rfl, rfl⟩ := ih _ hl'
      exact ⟨n :: ns, rfl, rfl⟩
    · cases h
theorem fold_bytes (ns : List Int) : ∀ (s : ByteArray), ns.foldl (fun r n => r.push (UInt8.ofNat n.toNat)) s = ⟨⟨s.data.toList ++ ns.map fun n => UInt8.ofNat n.toNat⟩⟩ := by
  induction ns with
  | nil => intro s; simp
  | cons n ns ih =>
    intro s
    rw [List.foldl_cons, ih]
    simp [ByteArray.push]

theorem LRel.ints {ns : List Int} {us : List Value} {k : IntKind} (h : LRel ρ (ns.map (Value.int k)) us) : us = ns.map (Value.int k) := by
  apply List.ext_getElem?
  intro i
  cases hv : (ns.map (Value.int k))[i]? with
  | none =>
    have := h.1
    rw [List.getElem?_eq_none_iff] at hv ⊢
    omega
  | some v =>
    obtain ⟨u, hu, hr⟩ := h.get? hv
    rw [hu]
    rw [List.getElem?_map] at hv
    obtain ⟨n, _, rfl⟩ := Option.map_eq_some_iff.1 hv
    rw [hr.int_inv]

theorem aconv_run {src dst : TypeId} {x cx v : Value} {e : Eff} (hH : HRel E ρ g w) (hn : e.new ≠ none → ρ nx = none) (h : aconv P g nx src dst x = some (v, e)) (hx : VRel ρ x cx) :
    ∃ cv w', (convert src dst cx).run P w = .ok cv w' ∧ OpOk E ρ g w e nx v cv w' := by
  unfold aconv at h
  split at h
  · rename_i d k k' n h1 h2
    injection h with h; injection h with h7 h8; subst h7 h8
    rw [hx.int_inv]
    exact ⟨.int k (k.wrap n), w, by simp [convert, run_underlying h1, run_underlying h2, Conv.intToInt], OpOk.still hH (SameHeap.refl w) (by rw [awrap_eq]; exact .flat rfl)⟩
  · rename_i d k n h1 h2
    injection h with h; injection h with h7 h8; subst h7 h8
    rw [hx.int_inv]
    exact ⟨.string (Utf8.encode n), w, by simp [convert, run_underlying h1, run_underlying h2, Conv.intToString], OpOk.still hH (SameHeap.refl w) (.flat rfl)⟩
  · rename_i d s h1 h2
    injection h with h; injection h with h7 h8; subst h7 h8
    rw [hx.string_inv]
    exact ⟨.string s, w, by simp [convert, run_underlying h1, run_underlying h2], OpOk.still hH (SameHeap.refl w) (.flat rfl)⟩
  · rename_i d e' s h1 h2
    rw [hx.string_inv]
    split at h
    · rename_i h3 h4
      split at h
      · rename_i hsz
        injection h with h; injection h with h7 h8; subst h7 h8
        have hn := hn (by simp [Eff.mk1])
        have hcap : s.size ≤ (Question.appendCap s.size 0 e').cut (w.tape w.drawn (.appendCap s.size 0 e')) := by simp [Question.cut]
        generalize hcc : (Question.appendCap s.size 0 e').cut (w.tape w.drawn (.appendCap s.size 0 e')) = cap at hcap
        let C : Array Value := (s.data.map fun b => (.int .u8 b.toNat : Value)) ++ Array.replicate (cap - s.size) (.int .u8 0)
        have hCs : C.size = cap := by simp only [C, Array.size_append, Array.size_map, Array.size_replicate]; have : s.data.size = s.size := rfl; omega
        refine ⟨.slice (some ⟨w.heap.size, 0, none⟩) s.size cap, { (w.drew.alloc (.cells C e' (0, 0))) with heap := w.heap.push (.cells C e' (C.size, C.size + 1)) }, ?_, ?_⟩
        · simp only [convert, Sem.run_bind, run_underlying h1, run_underlying h2, Result.andThen_ok, run_underlying h3, Conv.stringToBytes, run_choose_drew, Question.forced, Bool.false_eq_true, if_false, hcc, newRow, run_newObj_alloc, Sem.run_pure, markStringish, run_shape]
          have hsh : (w.drew.alloc (.cells C e')).shape? w.drew.heap.size = some (e', C.size) := by
            have h0 : (w.drew.alloc (.cells C e')).heap[w.drew.heap.size]? = some (.cells C e' (0, 0)) := by
              show (w.heap.push _)[w.heap.size]? = _
              simp
            simp only [World.shape?, h0]
          have hC : (Array.map (fun b => (Value.int IntKind.u8 ↑b.toNat : Value)) s.data ++ Array.replicate (cap - s.size) (Value.int IntKind.u8 0)) = C := rfl
          rw [hC, hsh]
          simp only [run_freeze, World.freeze, Result.andThen_ok, Sem.run_pure, Nat.succ_ne_zero, if_false]
          congr 2
          show (w.heap.push _).modify w.heap.size _ = _
          rw [freeze_last]
          simp
        · refine OpOk.made (pl := ⟨w.heap.size, 0, C.size, 1⟩) hH hn rfl rfl rfl rfl rfl (ObjRel.row (us := s.data.toList.map fun b => (.int .u8 b.toNat : Value)) (rest := (Array.replicate (cap - s.size) (.int .u8 0 : Value)).toList) (LRel.flat (fun v hv => by obtain ⟨_, _, rfl⟩ := List.mem_map.1 hv; rfl)) (by simp [C]) (fun i hi => by simp only; omega)) ?_
          refine VRel.slStart (by omega) hcap (by omega)
      · cases h
    · cases h
  · rename_i e' a n c h1 h2
    obtain ⟨ca, cap, rfl, hlc, hs, hshape⟩ := id hx.slice_inv
    split at h
    · rename_i h3
      split at h
      · rename_i cs hcs
        obtain ⟨l, hl, he⟩ := Option.map_eq_some_iff.1 h
        injection he with h7 h8; subst h7 h8
        obtain ⟨us, hur, hrun⟩ := afirst_run (P := P) hH hcs hx
        obtain ⟨ns, rfl, rfl⟩ := abytes_inv _ _ hl
        have := hur.ints; subst this
        refine ⟨_, w, ?_, OpOk.still hH (SameHeap.refl w) (.flat rfl)⟩
        simp only [convert, Sem.run_bind, run_underlying h1, run_underlying h2, Result.andThen_ok, run_underlying h3]
        cases ca with
        | none =>
          have hns : ns = [] := by
            have := hrun w rfl
            simp only [Builtin.firstCells, Sem.run_pure] at this
            injection this with this
            have := congrArg Array.size this
            simp at this
            exact List.eq_nil_of_length_eq_zero (by omega)
          subst hns
          simp [Conv.bytesToString]
          rfl
        | some ad =>
          have := hrun w rfl
          simp only [Builtin.firstCells, Nat.mul_one] at this
          rw [run_bytesToString w ad n cap ns this, fold_bytes]
          rfl
      · cases h
    · cases h
  · cases h
end Go.Am
