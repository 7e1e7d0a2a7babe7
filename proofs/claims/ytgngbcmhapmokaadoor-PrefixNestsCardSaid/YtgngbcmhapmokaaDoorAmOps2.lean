/- The abstract machine: operators, cuts, places, parts, on both sides. -/
import Derived.Test.YtgngbcmhapmokaaDoorAmOps1
namespace Go.Am
open Go

variable {P : Program} {w : World} {ρ : Pm}

theorem map_bool {x : Option Bool} {f : Bool → Value} {v : Value} (h : x.map f = some v) : ∃ b, x = some b ∧ v = f b := by
  cases x with
  | none => simp at h
  | some b => exact ⟨b, rfl, by simpa using h.symm⟩

theorem binOp_eql (t : TypeId) (cx cy : Value) (r : Bool) (h1 : ∀ k a k' b, ¬ (cx = .int k a ∧ cy = .int k' b)) (h2 : ∀ a b, ¬ (cx = .string a ∧ cy = .string b)) (h3 : ∀ k a k' b, ¬ (cx = .float k a ∧ cy = .float k' b))
    (h4 : ∀ k a b k' c d, ¬ (cx = .complex k a b ∧ cy = .complex k' c d)) (he : (Op.equal t cx cy).run P w = .ok r w) : (binOp .eql t cx cy).run P w = .ok (.bool r) w ∧ (binOp .neq t cx cy).run P w = .ok (.bool (!r)) w := by
  cases cx <;> cases cy <;> first
    | exact absurd ⟨rfl, rfl⟩ (h1 _ _ _ _)
    | exact absurd ⟨rfl, rfl⟩ (h2 _ _)
    | exact absurd ⟨rfl, rfl⟩ (h3 _ _ _ _)
    | exact absurd ⟨rfl, rfl⟩ (h4 _ _ _ _ _ _)
    | exact ⟨by simp only [binOp, Sem.run_bind, he, Result.andThen_ok, Sem.run_pure], by simp only [binOp, Sem.run_bind, he, Result.andThen_ok, Sem.run_pure]⟩

theorem VRel.int_inv_r {k : IntKind} {n : Int} {v : Value} (h : VRel ρ v (.int k n)) : v = .int k n := by cases h; rfl
theorem VRel.string_inv_r {s : ByteArray} {v : Value} (h : VRel ρ v (.string s)) : v = .string s := by cases h; rfl
theorem VRel.float_inv_r {k : FloatKind} {n : Nat} {v : Value} (h : VRel ρ v (.float k n)) : v = .float k n := by cases h; rfl
theorem VRel.complex_inv_r {k : FloatKind} {a b : Nat} {v : Value} (h : VRel ρ v (.complex k a b)) : v = .complex k a b := by cases h; rfl

theorem aeq_float {ok : TypeId → Bool} {t : TypeId} {k k' : FloatKind} {a b : Nat} {lit : Bool} : aeq P ok t (.float k a) (.float k' b) lit = none := by
  unfold aeq
  split <;> first
    | rfl
    | (rename_i h1 _; cases h1; done)
    | (rename_i h1; cases h1; done)
    | skip
  all_goals simp_all [aeqT]
theorem aeq_complex {ok : TypeId → Bool} {t : TypeId} {k k' : FloatKind} {a b c d : Nat} {lit : Bool} : aeq P ok t (.complex k a b) (.complex k' c d) lit = none := by
  unfold aeq
  split <;> first
    | rfl
    | (rename_i h1 _; cases h1; done)
    | (rename_i h1; cases h1; done)
    | skip
  all_goals simp_all [aeqT]

theorem abin_run {ok : TypeId → Bool} (hok : EqOk P ok) {op : BinOp} {t : TypeId} {x y cx cy v : Value} {lit : Bool} (h : abin P ok op t x y lit = some v) (hx : VRel ρ x cx) (hy : VRel ρ y cy) :
    VRel ρ v v ∧ ∀ w, (binOp op t cx cy).run P w = .ok v w ∧ ∀ ox oy, (lit = true → isLit ox = true ∨ isLit oy = true) → (eqGuard op t ox oy cx cy).run P w = .ok () w := by
  unfold abin at h
  split at h
  · rw [hx.int_inv, hy.int_inv]
    split at h
    · cases h
    · rename_i hb
      injection h with h; subst h
      exact ⟨.flat rfl, fun w => ⟨by simp [binOp, Op.shift, hb, awrap_eq, Nat.min_def], fun ox oy _ => guard_plain _ _ _ _ _ _ _ (by simp) (by simp)⟩⟩
  · rw [hx.int_inv, hy.int_inv]
    split at h
    · cases h
    · rename_i hb
      injection h with h; subst h
      exact ⟨.flat rfl, fun w => ⟨by simp [binOp, Op.shift, hb, Nat.min_def], fun ox oy _ => guard_plain _ _ _ _ _ _ _ (by simp) (by simp)⟩⟩
  · rename_i h1 h2
    rw [hx.int_inv, hy.int_inv]
    split at h
    · rename_i hk; subst hk
      have := aint_run (P := P) (ρ := ρ) (t := t) h h1 h2
      exact ⟨this.1, fun w => ⟨this.2 w, fun ox oy _ => guard_plain _ _ _ _ _ _ _ (by simp) (by simp)⟩⟩
    · cases h
  · rw [hx.string_inv, hy.string_inv]
    have := astr_run (P := P) (ρ := ρ) (t := t) h
    exact ⟨this.1, fun w => ⟨this.2 w, fun ox oy _ => guard_plain _ _ _ _ _ _ _ (by simp) (by simp)⟩⟩
  · rename_i h1 h2
    obtain ⟨b, hb, rfl⟩ := map_bool h
    refine ⟨.flat rfl, fun w => ?_⟩
    have := aeq_run hok hb hx hy w
    refine ⟨(binOp_eql t cx cy b ?_ ?_ ?_ ?_ this.1).1, fun ox oy hl => this.2 _ ox oy hl⟩
    · rintro k a k' b ⟨rfl, rfl⟩; exact h1 _ _ _ _ hx.int_inv_r hy.int_inv_r
    · rintro a b ⟨rfl, rfl⟩; exact h2 _ _ hx.string_inv_r hy.string_inv_r
    · rintro k a k' b ⟨rfl, rfl⟩; rw [hx.float_inv_r, hy.float_inv_r, aeq_float] at hb; cases hb
    · rintro k a b k' c d ⟨rfl, rfl⟩; rw [hx.complex_inv_r, hy.complex_inv_r, aeq_complex] at hb; cases hb
  · rename_i h1 h2
    obtain ⟨b, hb, rfl⟩ := map_bool h
    refine ⟨.flat rfl, fun w => ?_⟩
    have := aeq_run hok hb hx hy w
    refine ⟨(binOp_eql t cx cy b ?_ ?_ ?_ ?_ this.1).2, fun ox oy hl => this.2 _ ox oy hl⟩
    · rintro k a k' b ⟨rfl, rfl⟩; exact h1 _ _ _ _ hx.int_inv_r hy.int_inv_r
    · rintro a b ⟨rfl, rfl⟩; exact h2 _ _ hx.string_inv_r hy.string_inv_r
    · rintro k a k' b ⟨rfl, rfl⟩; rw [hx.float_inv_r, hy.float_inv_r, aeq_float] at hb; cases hb
    · rintro k a b k' c d ⟨rfl, rfl⟩; rw [hx.complex_inv_r, hy.complex_inv_r, aeq_complex] at hb; cases hb
  · cases h

theorem aun_run {op : UnOp} {x cx v : Value} (h : aun op x = some v) (hx : VRel ρ x cx) : VRel ρ v v ∧ ∀ w, (Op.unary op cx).run P w = .ok v w := by
  unfold aun at h
  split at h
  · rw [hx.int_inv]
    simp only [aint] at h; injection h with h; subst h
    exact ⟨.flat rfl, fun w => by simp [Op.unary, Op.intArith, awrap_eq]⟩
  · rw [hx.int_inv]
    simp only [aint] at h; injection h with h; subst h
    exact ⟨.flat rfl, fun w => by simp [Op.unary, Op.intBits, awrap_eq]⟩
  · rw [hx.bool_inv]
    injection h with h; subst h
    exact ⟨.flat rfl, fun w => by simp [Op.unary]⟩
  · cases h

/-! ### Building -/
theorem fold_put (vs : List Value) : ∀ (off j0 : Nat) (C : Array Value), (vs.toArray.zipIdx j0).foldl (fun cs (c, j) => cs.setIfInBounds (off + j) c) C = cput C (off + j0) vs := by
  induction vs with
  | nil => intro off j0 C; rw [← Array.foldl_toList, Array.toList_zipIdx]; rfl
  | cons v vs ih =>
    intro off j0 C
    rw [← Array.foldl_toList, Array.toList_zipIdx]
    simp only [List.zipIdx_cons, List.foldl_cons, cput]
    have := ih off (j0 + 1) (C.setIfInBounds (off + j0) v)
    rw [← Array.foldl_toList, Array.toList_zipIdx] at this
    simpa [Nat.add_assoc] using this
theorem cput_toList (vs : List Value) (C : Array Value) (off : Nat) (h : off + vs.length ≤ C.size) : (cput C off vs).toList = C.toList.take off ++ vs ++ C.toList.drop (off + vs.length) := by
  apply List.ext_getElem?
  intro i
  rw [Array.getElem?_toList, cput_get _ _ _ _ h]
  have := aput_get C.toList vs off i (by simpa using h)
  unfold aput at this
  rw [this]
  simp

theorem afill_run (place : Nat → Option (Nat × Nat)) : ∀ (parts cparts : List (Nat × Value)) (cells : List Value) (C : Array Value) (cs : List Value), afill place cells parts = some cs → LRel ρ cells C.toList →
    parts.map (·.1) = cparts.map (·.1) → LRel ρ (parts.map (·.2)) (cparts.map (·.2)) → ∃ us, Instr.fill place C cparts = some us ∧ LRel ρ cs us.toList := by
  intro parts
  induction parts with
  | nil =>
    intro cparts cells C cs h hr hi _
    simp only [afill] at h; injection h with h; subst h
    cases cparts with
    | nil => exact ⟨C, rfl, hr⟩
    | cons a l => simp at hi
  | cons p parts ih =>
    intro cparts cells C cs h hr hi hv
    cases cparts with
    | nil => simp at hi
    | cons q cparts =>
      obtain ⟨i, v⟩ := p
      obtain ⟨j, u⟩ := q
      simp only [List.map_cons, List.cons.injEq] at hi
      obtain ⟨rfl, hi⟩ := hi
      simp only [List.map_cons] at hv
      obtain ⟨_, _, he, hvu, hv⟩ := hv.cons_inv
      injection he with he1 he2; subst he1 he2
      simp only [afill] at h
      simp only [Instr.fill]
      split at h
      · cases h
      · rename_i off size hp
        split at h
        · cases h
        · rename_i hc
          have hlen := hr.1
          have hcs := hvu.cells_size
          have hcl := hvu.cells
          simp only [Bool.not_eq_true, Bool.or_eq_false_iff, decide_eq_false_iff_not, ne_eq, Decidable.not_not] at hc
          rw [hp]
          simp only []
          rw [if_neg (by simp only [Bool.not_eq_true, Bool.or_eq_false_iff, decide_eq_false_iff_not, ne_eq, Decidable.not_not]; rw [← hcs]; simp only [Array.length_toList] at hlen; omega)]
          have hfit : off + u.cells.toList.length ≤ C.size := by simp only [Array.length_toList] at hlen ⊢; omega
          have e : (u.cells.zipIdx.foldl (fun cs (x : Value × Nat) => cs.setIfInBounds (off + x.2) x.1) C) = cput C off u.cells.toList := by
            have := fold_put u.cells.toList off 0 C
            simpa using this
          refine ih cparts _ _ cs h ?_ hi hv
          rw [e, cput_toList _ _ _ hfit]
          have : u.cells.toList.length = v.cells.size := by simp [hcs]
          rw [this]
          exact ((hr.take off).append hcl).append (hr.drop _)

theorem aplaces_run (fs : List Field) : ∀ (pl : List (Nat × Nat)), aplaces P fs = some pl → ∀ w, (fs.mapM fun f => (do pure (f.offset, ← sizeOf f.type) : Sem (Nat × Nat))).run P w = .ok pl w := by
  induction fs with
  | nil => intro pl h w; simp only [aplaces] at h; injection h with h; subst h; simp
  | cons f fs ih =>
    intro pl h w
    simp only [aplaces] at h
    split at h
    · rename_i n r hn hr
      injection h with h; subst h
      simp only [List.mapM_cons, Sem.run_bind, run_asize hn, Result.andThen_ok, Sem.run_pure, ih r hr w]
    · cases h

theorem run_mapM_array {α β : Type} (f : α → Sem β) (xs : Array α) (l : List β) (h : (xs.toList.mapM f).run P w = .ok l w) : (xs.mapM f).run P w = .ok l.toArray w := by
  rw [Array.mapM_eq_mapM_toList]
  show (Sem.run P (List.toArray <$> xs.toList.mapM f) w) = _
  rw [map_eq_pure_bind]
  simp only [Sem.run_bind, h, Result.andThen_ok, Sem.run_pure]

theorem abuild_run {t : TypeId} {parts : List (Nat × Value)} {cparts : Array (Nat × Value)} {v : Value} (h : abuild P t parts = some v) (hi : parts.map (·.1) = cparts.toList.map (·.1))
    (hv : LRel ρ (parts.map (·.2)) (cparts.toList.map (·.2))) : ∃ u, VRel ρ v u ∧ ∀ w, (Instr.build t cparts).run P w = .ok u w := by
  unfold abuild at h
  split at h
  · rename_i z fields hz hu
    split at h
    · rename_i pl hpl
      obtain ⟨cs, hcs, rfl⟩ := Option.map_eq_some_iff.1 h
      have hzr : LRel ρ z.cells.toList z.cells.toList := (VRel.flat1 (azero_flat hz)).cells
      obtain ⟨us, hus, hur⟩ := afill_run (ρ := ρ) _ parts cparts.toList _ z.cells cs hcs hzr hi hv
      refine ⟨.agg us, VRel.agg_l hur, fun w => ?_⟩
      simp only [Instr.build, Sem.run_bind, run_azero hz, Result.andThen_ok, run_underlying hu]
      rw [run_mapM_array _ fields pl (aplaces_run _ _ hpl w)]
      simp only [Result.andThen_ok]
      have : (fun (x : Nat) => pl.toArray[x]?) = (fun (x : Nat) => pl[x]?) := by funext x; simp
      rw [this, hus]
      rfl
    · cases h
  · rename_i z n elem hz hu
    split at h
    · rename_i n hn
      obtain ⟨cs, hcs, rfl⟩ := Option.map_eq_some_iff.1 h
      have hzr : LRel ρ z.cells.toList z.cells.toList := (VRel.flat1 (azero_flat hz)).cells
      obtain ⟨us, hus, hur⟩ := afill_run (ρ := ρ) _ parts cparts.toList _ z.cells cs hcs hzr hi hv
      refine ⟨.agg us, VRel.agg_l hur, fun w => ?_⟩
      simp only [Instr.build, Sem.run_bind, run_azero hz, Result.andThen_ok, run_underlying hu, run_asize hn, hus]
      rfl
    · cases h
  · cases h

/-! ### Cuts -/
theorem abound_some {v : Option Value} {d y n : Nat} (h : abound v d y = some n) (hd : d ≤ y) : n ≤ y := by
  unfold abound at h
  split at h
  · injection h with h; omega
  · split at h
    · rename_i hi; injection h with h; omega
    · cases h
  · cases h
def ORel (ρ : Pm) : Option Value → Option Value → Prop
  | none, none => True
  | some v, some u => VRel ρ v u
  | _, _ => False
theorem bound_run {v : Value} {u : Value} {y Y n : Nat} {c : BoundsCode} {d : Nat} (h : abound (some v) d y = some n) (hy : y ≤ Y) (hr : VRel ρ v u) : ∀ w, (Instr.sliceBound u Y c).run P w = .ok n w := by
  intro w
  unfold abound at h
  split at h
  · rename_i h0; cases h0
  · rename_i k i he
    injection he with he; subst he
    rw [hr.int_inv]
    split at h
    · rename_i hi
      injection h with h; subst h
      simp only [Instr.sliceBound, asIntOf, Sem.run_bind, Sem.run_pure, Result.andThen_ok]
      rw [if_pos (by omega)]
      rfl
    · cases h
  · cases h

/-- The bounds of a cut without a third. -/
theorem bounds_run {s : Bool} {len cap hh l : Nat} {lo hi clo chi : Option Value} (hl : abound lo 0 hh = some l) (hh' : abound hi len len = some hh) (hc : len ≤ cap) (rlo : ORel ρ lo clo) (rhi : ORel ρ hi chi) :
    ∀ w, (Instr.sliceBounds s len cap clo chi none).run P w = .ok (l, hh, cap) w := by
  intro w
  unfold Instr.sliceBounds
  cases hi with
  | none =>
    cases chi with
    | none =>
      simp only [abound] at hh'; injection hh' with hh'; subst hh'
      cases lo with
      | none =>
        cases clo with
        | none => simp only [abound] at hl; injection hl with hl; subst hl; rfl
        | some u => simp [ORel] at rlo
      | some v =>
        cases clo with
        | none => simp [ORel] at rlo
        | some u =>
          have := bound_run (c := .sliceB) (P := P) hl (Nat.le_refl _) rlo w
          simp only [Sem.run_bind, Sem.run_pure, Result.andThen_ok, Option.isSome_none, Bool.false_eq_true, if_false, this]
    | some u => simp [ORel] at rhi
  | some v =>
    cases chi with
    | none => simp [ORel] at rhi
    | some u =>
      have h1 := fun c => bound_run (c := c) (P := P) hh' hc rhi w
      cases lo with
      | none =>
        cases clo with
        | none =>
          simp only [abound] at hl; injection hl with hl; subst hl
          simp only [Sem.run_bind, Sem.run_pure, Result.andThen_ok, Option.isSome_none, Bool.false_eq_true, if_false, h1]
        | some u => simp [ORel] at rlo
      | some v =>
        cases clo with
        | none => simp [ORel] at rlo
        | some u =>
          have := bound_run (c := .sliceB) (P := P) hl (Nat.le_refl _) rlo w
          simp only [Sem.run_bind, Sem.run_pure, Result.andThen_ok, Option.isSome_none, Bool.false_eq_true, if_false, this, h1]

theorem VRel.slice_inv {a : Option Addr} {len c : Nat} {u : Value} (h : VRel ρ (.slice a len c) u) : ∃ ca cap, u = .slice ca len cap ∧ len ≤ cap ∧ a.isSome = ca.isSome ∧
    ((c = 0 ∧ len = 0 ∧ cap = 0) ∨ ∃ b off pl ca', a = some ⟨b, off, none⟩ ∧ ca = some ca' ∧ ρ b = some pl ∧ 0 < c ∧ (ca' = ⟨pl.blk, pl.base + off, none⟩ ∨ cap = 0) ∧ (pl.esz = c → off + cap * c ≤ pl.ext)) := by
  cases h with
  | flat h =>
    cases a with
    | some a => simp [flat0] at h
    | none =>
      cases len with
      | succ n => simp [flat0] at h
      | zero => cases c with
        | succ n => simp [flat0] at h
        | zero => exact ⟨none, 0, rfl, Nat.le_refl _, rfl, .inl ⟨rfl, rfl, rfl⟩⟩
  | sl0 h => exact ⟨_, _, rfl, Nat.le_refl _, h, .inl ⟨rfl, rfl, rfl⟩⟩
  | sl h he hl ha hx => exact ⟨_, _, rfl, hl, rfl, .inr ⟨_, _, _, _, rfl, rfl, h, he, ha, hx⟩⟩

theorem ByteArray.extract_list (s : ByteArray) (l h : Nat) : s.extract l h = ⟨⟨(s.data.toList.drop l).take (h - l)⟩⟩ := by
  apply ByteArray.ext
  rw [ByteArray.data_extract]
  apply Array.ext'
  rw [Array.toList_extract]

theorem aslice_run {E : AEnv} {g : Look} {t : TypeId} {x cx v : Value} {lo hi mx clo chi cmx : Option Value} (hH : HRel E ρ g w) (h : aslice P g t x lo hi mx = some v) (hx : VRel ρ x cx) (rlo : ORel ρ lo clo) (rhi : ORel ρ hi chi) (rmx : ORel ρ mx cmx) :
    ∃ u, VRel ρ v u ∧ (Instr.sliceAt t cx clo chi cmx).run P w = .ok u w := by
  unfold aslice at h
  split at h
  · rename_i s hu
    rw [hx.string_inv]
    split at h
    · rename_i hh hhi
      cases cmx with
      | some u => simp [ORel] at rmx
      | none =>
        split at h
        · rename_i l hlo
          injection h with h; subst h
          refine ⟨_, .flat rfl, ?_⟩
          simp only [Instr.sliceAt, Instr.slice, Sem.run_bind, run_underlying hu, Result.andThen_ok, Option.isSome_none, Bool.false_eq_true, if_false, Sem.run_pure]
          rw [bounds_run hlo hhi (Nat.le_refl _) rlo rhi w]
          simp only [Result.andThen_ok, Sem.run_pure, ByteArray.extract_list]
        · cases h
    · cases h
  · rename_i elem a len c hu
    obtain ⟨ca, cap, rfl, hlc, hsome, hshape⟩ := hx.slice_inv
    split at h
    · rename_i size hsz
      cases cmx with
      | some u => simp [ORel] at rmx
      | none =>
        split at h
        · rename_i hh hhi
          have hhle : hh ≤ len := abound_some hhi (Nat.le_refl _)
          split at h
          · rename_i l hlo
            have hlh : l ≤ hh := abound_some hlo (Nat.zero_le _)
            have hrun : (Instr.sliceAt t (.slice ca len cap) clo chi none).run P w = .ok (.slice (if cap = l then ca else ca.map (·.add (l * size))) (hh - l) (cap - l)) w := by
              simp only [Instr.sliceAt, Instr.slice, Sem.run_bind, run_underlying hu, Result.andThen_ok]
              rw [bounds_run hlo hhi hlc rlo rhi w]
              simp only [Result.andThen_ok, run_asize hsz, Sem.run_pure]
            split at h
            · rename_i hl0
              injection h with h; subst h hl0
              refine ⟨_, ?_, hrun⟩
              have e : (if cap = 0 then ca else ca.map (·.add (0 * size))) = ca := by
                split
                · rfl
                · cases ca <;> simp [Addr.add]
              rw [e]
              simp only [Nat.sub_zero]
              rcases hshape with ⟨rfl, rfl, rfl⟩ | ⟨b, off, pl, ca', rfl, rfl, hpl, hc, hca, hxx⟩
              · have : hh = 0 := by omega
                subst this
                exact .sl0 hsome
              · exact .sl hpl hc (by omega) hca hxx
            · rename_i hl0
              split at h
              · split at h
                · rename_i b off hcs
                  injection h with h; subst h
                  refine ⟨_, ?_, hrun⟩
                  rcases hshape with ⟨h1, h2, h3⟩ | ⟨b', off', pl, ca', he, rfl, hpl, hc, hca, hxx⟩
                  · omega
                  · injection he with he; injection he with he1 he2; subst he1 he2
                    have hca : ca' = ⟨pl.blk, pl.base + off, none⟩ := by rcases hca with h | h; exact h; omega
                    subst hca
                    have e : (if cap = l then some (⟨pl.blk, pl.base + off, none⟩ : Addr) else (some (⟨pl.blk, pl.base + off, none⟩ : Addr)).map (·.add (l * size))) = some (if cap = l then ⟨pl.blk, pl.base + off, none⟩ else ⟨pl.blk, pl.base + (off + l * size), none⟩) := by
                      split
                      · rfl
                      · simp [add_plain, Nat.add_assoc]
                    rw [e]
                    refine .sl hpl hc (by omega) ?_ ?_
                    · by_cases hcl : cap = l
                      · right; omega
                      · left; rw [if_neg hcl]
                    · intro hes
                      have := hxx hes
                      subst hcs
                      rw [Nat.add_assoc, ← Nat.add_mul]
                      have e2 : l + (cap - l) = cap := by omega
                      rw [e2]; exact this
                · cases h
              · cases h
          · cases h
        · cases h
    · rename_i size k m hsz
      split at h
      · rename_i hm
        obtain ⟨rfl, hlo⟩ := hm
        split at h
        · rename_i k' j
          split at h
          · rename_i hj
            subst hj
            injection h with h; subst h
            cases lo with
            | some _ => simp at hlo
            | none =>
              cases clo with
              | some _ => simp [ORel] at rlo
              | none =>
                cases cmx with
                | none => simp [ORel] at rmx
                | some um =>
                  cases chi with
                  | none => simp [ORel] at rhi
                  | some uh =>
                    simp only [ORel] at rmx rhi
                    rw [rmx.int_inv, rhi.int_inv]
                    refine ⟨.slice ca 0 0, .sl0 hsome, ?_⟩
                    simp [Instr.sliceAt, Instr.slice, run_underlying hu, Instr.sliceBounds, Instr.sliceBound, asIntOf, run_asize hsz]
          · cases h
        · cases h
      · cases h
    · cases h
  · rename_i n elem b off hu
    obtain ⟨pl, hpl, rfl⟩ := hx.ptr_inv
    split at h
    · rename_i size hsz
      cases cmx with
      | some u => simp [ORel] at rmx
      | none =>
        split at h
        · rename_i hh hhi
          have hhle : hh ≤ n := abound_some hhi (Nat.le_refl _)
          split at h
          · rename_i l hlo
            have hlh : l ≤ hh := abound_some hlo (Nat.zero_le _)
            split at h
            · rename_i cs esz own hg
              split at h
              · rename_i hc
                injection h with h; subst h
                obtain ⟨hes, C, T, fz, _, h1, _⟩ := hH.cells hpl hg
                refine ⟨.slice (some (if n = l then ⟨pl.blk, pl.base + off, none⟩ else ⟨pl.blk, pl.base + (off + l * size), none⟩)) (hh - l) (n - l), ?_, ?_⟩
                · refine .sl hpl hc.1 (by omega) ?_ ?_
                  · by_cases hcl : n = l
                    · right; omega
                    · left; rw [if_neg hcl]
                  · intro he
                    rcases hc.2 with h2 | h2
                    · exact absurd (hes.symm.trans he) h2
                    · rw [Nat.add_assoc, ← Nat.add_mul]
                      have e2 : l + (n - l) = n := by omega
                      rw [e2]; omega
                · simp only [Instr.sliceAt, Sem.run_bind, run_underlying hu, Result.andThen_ok, Instr.sureAddr, Sem.run_pure]
                  rw [bounds_run hlo hhi (Nat.le_refl _) rlo rhi w]
                  simp only [Result.andThen_ok, run_asize hsz, Sem.run_pure, add_plain, Nat.add_assoc]
              · cases h
            · cases h
          · cases h
        · cases h
    · cases h
  · cases h

/-! ### Places and parts -/
theorem aindex_run {t : TypeId} {x i cx ci v : Value} (h : aindex P t x i = some v) (hx : VRel ρ x cx) (hi : VRel ρ i ci) : ∃ u, VRel ρ v u ∧ ∀ w, (Instr.index t cx ci).run P w = .ok u w := by
  unfold aindex at h
  split at h
  · rename_i k i
    rw [hi.int_inv]
    split at h
    · rename_i len elem cs hu
      split at h
      · rename_i n hn
        split at h
        · rename_i hlt
          obtain ⟨ys, rfl, hys⟩ := hx.agg_inv
          obtain ⟨u, hv, hr⟩ := run_apart h hys
          refine ⟨u, hv, fun w => ?_⟩
          simp only [Instr.index, asIntOf, Sem.run_bind, Sem.run_pure, Result.andThen_ok, run_underlying hu, if_pos hlt, run_asize hn]
          exact hr w
        · cases h
      · cases h
    · rename_i s hu
      rw [hx.string_inv]
      split at h
      · rename_i h0
        obtain ⟨b, hb, rfl⟩ := Option.map_eq_some_iff.1 h
        refine ⟨_, .flat rfl, fun w => ?_⟩
        have hb' : s[i.toNat]? = some b := by
          obtain ⟨hlt, he⟩ := List.getElem?_eq_some_iff.1 hb
          have hlt' : i.toNat < s.size := by simpa using hlt
          rw [getElem?_pos s i.toNat hlt']
          congr 1
        simp only [Instr.index, asIntOf, Sem.run_bind, Sem.run_pure, Result.andThen_ok, run_underlying hu, if_pos h0, hb']
      · cases h
    · cases h
  · cases h

theorem aindexAt_run {t : TypeId} {x i cx ci v : Value} (h : aindexAt P t x i = some v) (hx : VRel ρ x cx) (hi : VRel ρ i ci) : ∃ u, VRel ρ v u ∧ ∀ w, (Instr.indexAt t cx ci).run P w = .ok u w := by
  unfold aindexAt at h
  split at h
  · rename_i k i
    rw [hi.int_inv]
    split at h
    · rename_i len elem b off hu
      split at h
      · rename_i n hn
        split at h
        · rename_i hlt
          injection h with h; subst h
          obtain ⟨pl, hpl, rfl⟩ := hx.ptr_inv
          refine ⟨_, .ptr hpl, fun w => ?_⟩
          simp only [Instr.indexAt, asIntOf, Sem.run_bind, Sem.run_pure, Result.andThen_ok, run_underlying hu, Instr.sureAddr, if_pos hlt, run_asize hn, add_plain, Nat.add_assoc]
        · cases h
      · cases h
    · rename_i elem b off len c hu
      split at h
      · rename_i n hn
        split at h
        · rename_i hlt
          injection h with h; subst h
          obtain ⟨ca, cap, rfl, hlc, hsome, hshape⟩ := hx.slice_inv
          rcases hshape with ⟨h1, h2, h3⟩ | ⟨b', off', pl, ca', he, rfl, hpl, hc, hca, hxx⟩
          · omega
          · injection he with he; injection he with he1 he2; subst he1 he2
            have hca : ca' = ⟨pl.blk, pl.base + off, none⟩ := by rcases hca with h | h; exact h; omega
            subst hca
            refine ⟨_, .ptr hpl, fun w => ?_⟩
            simp only [Instr.indexAt, asIntOf, Sem.run_bind, Sem.run_pure, Result.andThen_ok, run_underlying hu, if_pos hlt, run_asize hn, add_plain, Nat.add_assoc]
        · cases h
      · cases h
    · cases h
  · cases h

theorem afieldAt_run {s : TypeId} {p cp v : Value} {f : Nat} (h : afieldAt P s p f = some v) (hp : VRel ρ p cp) : ∃ u, VRel ρ v u ∧ ∀ w, (Instr.fieldAt s cp f).run P w = .ok u w := by
  unfold afieldAt at h
  split at h
  · rename_i fields b off hu
    split at h
    · rename_i fd hfd
      split at h
      · rename_i n hn
        split at h
        · cases h
        · rename_i hn0
          injection h with h; subst h
          obtain ⟨pl, hpl, rfl⟩ := hp.ptr_inv
          refine ⟨_, .ptr hpl, fun w => ?_⟩
          simp only [Instr.fieldAt, Sem.run_bind, Sem.run_pure, Result.andThen_ok, run_underlying hu, hfd, Instr.sureAddr, fieldPlace, run_asize hn, if_neg hn0, add_plain, Nat.add_assoc]
      · cases h
    · cases h
  · cases h

theorem afield_run {t : TypeId} {x cx v : Value} {f : Nat} (h : afield P t x f = some v) (hx : VRel ρ x cx) : ∃ u, VRel ρ v u ∧ ∀ w, (Instr.field t cx f).run P w = .ok u w := by
  unfold afield at h
  split at h
  · rename_i fields cs hu
    split at h
    · rename_i fd hfd
      obtain ⟨ys, rfl, hys⟩ := hx.agg_inv
      obtain ⟨u, hv, hr⟩ := run_apart h hys
      refine ⟨u, hv, fun w => ?_⟩
      simp only [Instr.field, Sem.run_bind, Result.andThen_ok, run_underlying hu, hfd, asAgg, Sem.run_pure]
      exact hr w
    · cases h
  · cases h
end Go.Am
