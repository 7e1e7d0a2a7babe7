/- The abstract machine: maps and what goes through them, on both sides. -/
import Derived.Test.YtgngbcmhapmokaaDoorAmOps4
namespace Go.Am
open Go

variable {P : Program} {w : World} {ρ : Pm} {E : AEnv} {g : Look} {nx : Nat}

theorem run_getObj_map {r : Nat} {es : Array MapEntry} {clock : Nat} (hb : w.heap[r]? = some (.map es clock)) : (getObj r).run P w = .ok (.map es clock) w := by simp [getObj, Sem.run, hb]
theorem run_setObj_map {r : Nat} {es : Array MapEntry} {clock : Nat} (o : Obj) (hb : w.heap[r]? = some (.map es clock)) : (setObj r o).run P w = .ok () { w with heap := w.heap.setIfInBounds r o } := by
  simp [setObj, Sem.run, hb]

theorem OpOk.turnedTo {b0 : Nat} {v cv : Value} {o0 o : AObj} {co : Obj} {pl : Plc} {t : Bool} (h : HRel E ρ g w)
    (hpl : ρ b0 = some pl) (hg : g b0 = some o0) (hown : o0.owned = true) (ho : ObjRel E ρ pl o co) (hv : VRel ρ v cv) : OpOk E ρ g w ⟨some (b0, o), none, t⟩ nx v cv { w with heap := w.heap.setIfInBounds pl.blk co } :=
  OpOk.turned h hpl hg hown rfl rfl rfl rfl ho hv

/-! ### Keys -/
theorem VRel.flat0_eq {k ck : Value} (hf : flat0 k = true) (h : VRel ρ k ck) : ck = k := by
  cases h with
  | flat _ => rfl
  | sl0 h =>
    rename_i a ca
    cases a with
    | some a => simp [flat0] at hf
    | none => cases ca with
      | none => rfl
      | some a => simp at h
  | _ => simp [flat0] at hf
theorem LRel.flat0_eq : ∀ {l us : List Value}, l.all flat0 = true → LRel ρ l us → us = l := by
  intro l
  induction l with
  | nil => intro us _ h; exact h.nil_inv
  | cons v l ih =>
    intro us hf h
    obtain ⟨u, us', rfl, h1, h2⟩ := h.cons_inv
    simp only [List.all_cons, Bool.and_eq_true] at hf
    rw [h1.flat0_eq hf.1, ih hf.2 h2]
theorem VRel.flat1_eq {k ck : Value} (hf : Am.flat1 k = true) (h : VRel ρ k ck) : ck = k := by
  cases k with
  | agg xs =>
    obtain ⟨ys, rfl, hr⟩ := h.agg_inv
    have := hr.flat0_eq hf
    congr 1
    exact Array.ext' this
  | _ => exact h.flat0_eq hf

theorem aeqFields_true {eq : TypeId → Value → Value → Option Bool} {xs : List Value} : ∀ {fs : List Field}, aeqFields eq P xs xs fs = some true → ∀ f ∈ fs, ∃ a, apartT P f.type xs f.offset = some a ∧ eq f.type a a = some true := by
  intro fs
  induction fs with
  | nil => intro _ f hf; cases hf
  | cons f0 fs ih =>
    intro h f hf
    simp only [aeqFields] at h
    split at h
    · cases h
    · split at h
      · rename_i a b ha hb
        have hab : a = b := by rw [ha] at hb; injection hb
        subst hab
        split at h
        · rename_i he
          cases hf with
          | head => exact ⟨a, ha, he⟩
          | tail _ hf => exact ih h f hf
        · rename_i hne; exact absurd h hne
      · cases h
theorem aeqItems_true {eq : Value → Value → Option Bool} {elem : TypeId} {n : Nat} {xs : List Value} : ∀ {k i : Nat}, aeqItems eq P elem n xs xs k i = some true → ∀ j, i ≤ j → j < i + k → ∃ a, apartT P elem xs (j * n) = some a ∧ eq a a = some true := by
  intro k
  induction k with
  | zero => intro i _ j h1 h2; omega
  | succ k ih =>
    intro i h j h1 h2
    simp only [aeqItems] at h
    split at h
    · rename_i a b ha hb
      have hab : a = b := by rw [ha] at hb; injection hb
      subst hab
      split at h
      · rename_i he
        by_cases hj : j = i
        · subst hj; exact ⟨a, ha, he⟩
        · exact ih h j (by omega) (by omega)
      · rename_i hne; exact absurd h hne
    · cases h

theorem forIn_all {α : Type} (l : List α) (body : α → PUnit → Sem (ForInStep PUnit)) (h : ∀ x ∈ l, (body x ⟨⟩).run P w = .ok (.yield ⟨⟩) w) : (forIn l (⟨⟩ : PUnit) body).run P w = .ok ⟨⟩ w := by
  induction l with
  | nil => simp
  | cons x l ih =>
    simp only [List.forIn_cons, Sem.run_bind, h x (List.mem_cons_self ..), Result.andThen_ok]
    exact ih fun y hy => h y (List.mem_cons_of_mem _ hy)

theorem checkKey_run {ok : TypeId → Bool} : ∀ (d : Nat) (t : TypeId) (k ck : Value), aeqT P ok d t k k = some true → VRel ρ k ck → ∀ em D, d ≤ D → ∀ w, (Instr.checkKey em D t ck).run P w = .ok () w := by
  intro d
  induction d with
  | zero => intro t k ck h; simp [aeqT] at h
  | succ d ih =>
    intro t k ck h hr em D hD w
    obtain ⟨D, rfl⟩ : ∃ m, D = m + 1 := ⟨D - 1, by omega⟩
    unfold aeqT at h
    split at h
    · rename_i hu _
      rw [hr.bool_inv]; simp [Instr.checkKey, run_underlying hu]
    · rename_i hu _
      rw [hr.int_inv]; simp [Instr.checkKey, run_underlying hu]
    · rename_i hu _
      rw [hr.string_inv]; simp [Instr.checkKey, run_underlying hu]
    · rename_i fields xs ys hu he
      split at h
      · injection he with he; subst he
        obtain ⟨xs', rfl, hxs⟩ := hr.agg_inv
        have ht := aeqFields_true h
        simp only [Instr.checkKey, Sem.run_bind, run_underlying hu, Result.andThen_ok]
        rw [← Array.forIn_toList]
        rw [forIn_all]
        · rfl
        · intro f hf
          obtain ⟨a, ha, hea⟩ := ht f hf
          obtain ⟨u, hv, hp⟩ := run_apart ha hxs
          by_cases hn : f.name = "_"
          · simp [hn]
          · simp [hn, hp, ih _ _ _ hea hv em D (by omega)]
      · cases h
    · rename_i len elem xs ys hu he
      split at h
      · injection he with he; subst he
        split at h
        · rename_i n hn
          obtain ⟨xs', rfl, hxs⟩ := hr.agg_inv
          have ht := aeqItems_true h
          simp only [Instr.checkKey, Sem.run_bind, run_underlying hu, Result.andThen_ok]
          rw [Std.Legacy.Range.forIn_eq_forIn_range', forIn_all]
          · rfl
          · intro j hj
            simp only [Std.Legacy.Range.size, Nat.sub_zero, Nat.add_one_sub_one, Nat.div_one, List.mem_range'_1] at hj
            obtain ⟨a, ha, hea⟩ := ht j (by omega) (by omega)
            obtain ⟨u, hv, hp⟩ := run_apart ha hxs
            simp [run_asize hn, hp, ih _ _ _ hea hv em D (by omega)]
        · cases h
      · cases h
    · cases h

theorem akey_inv {ok : TypeId → Bool} {kt : TypeId} {k : Value} (h : akey P ok kt k = true) : flat1 k = true ∧ aeqT P ok 12 kt k k = some true := by
  simp only [akey, Bool.and_eq_true] at h
  refine ⟨h.1, ?_⟩
  have h2 := h.2
  split at h2
  · assumption
  · cases h2
theorem aeqT_desc {ok : TypeId → Bool} {d : Nat} {t : TypeId} {x y : Value} {r : Bool} (h : aeqT P ok d t x y = some r) : ∃ k, P.underlying t = some k := by
  cases d with
  | zero => simp [aeqT] at h
  | succ d =>
    cases hu : P.underlying t with
    | none => simp [aeqT, hu] at h
    | some k => exact ⟨k, rfl⟩

/-- What is found, on both sides. -/
def FRes (ρ : Pm) : Option (Nat × Value) → Option (Nat × Value) → Prop
  | none, none => True
  | some (i, v), some (j, u) => i = j ∧ VRel ρ v u
  | _, _ => False

theorem same_now {ok : TypeId → Bool} {kt : TypeId} {kind : TypeDesc} {k x : Value} {b b' : Bool} (hu : P.underlying kt = some kind) (h : Instr.sameNow kind k x = some b) (h' : aeqT P ok 12 kt k x = some b') : b = b' := by
  unfold Instr.sameNow at h
  split at h
  · simp only [aeqT, hu] at h'
    split at h
    · rename_i hk; rw [if_pos hk] at h'; rw [h] at h'; injection h'
    · cases h
  · simp only [aeqT, hu, ← eqBytes_beq] at h'
    rw [h] at h'; injection h'
  · simp only [aeqT, hu] at h'
    rw [h] at h'; injection h'
  · cases h

theorem findNow_run {ok : TypeId → Bool} {kt : TypeId} {kind : TypeDesc} {k : Value} (hu : P.underlying kt = some kind) : ∀ (es ces : List MapEntry) (i : Nat) (r cr : Option (Nat × Value)), MRel ρ es ces → afind P ok kt k es i = some r → Instr.findNow kind k ces i = some cr → FRes ρ r cr := by
  intro es
  induction es with
  | nil =>
    intro ces i r cr hm h hc
    cases hm
    simp only [afind] at h; injection h with h; subst h
    simp only [Instr.findNow] at hc; injection hc with hc; subst hc
    trivial
  | cons e es ih =>
    intro ces i r cr hm h hc
    cases hm with
    | cons he hs =>
      simp only [afind] at h
      simp only [Instr.findNow] at hc
      split at hc
      · rename_i hn
        injection hc with hc; subst hc
        rw [he.key] at hn
        split at h
        · injection h with h; subst h; exact ⟨rfl, he.val⟩
        · rename_i hf; cases same_now hu hn hf
        · cases h
      · rename_i hn
        rw [he.key] at hn
        split at h
        · rename_i hf; cases same_now hu hn hf
        · exact ih _ _ _ _ hs h hc
        · cases h
      · cases hc

theorem findAsking_run {ok : TypeId → Bool} (hok : EqOk P ok) {kt : TypeId} {k : Value} (hk : VRel ρ k k) : ∀ (es ces : List MapEntry) (i : Nat) (r : Option (Nat × Value)), MRel ρ es ces → afind P ok kt k es i = some r →
    ∃ cr, (∀ w, (Instr.findAsking kt k ces i).run P w = .ok cr w) ∧ FRes ρ r cr := by
  intro es
  induction es with
  | nil =>
    intro ces i r hm h
    cases hm
    simp only [afind] at h; injection h with h; subst h
    exact ⟨none, fun w => by simp [Instr.findAsking], trivial⟩
  | cons e es ih =>
    intro ces i r hm h
    cases hm with
    | @cons _ ce _ ces he hs =>
      simp only [afind] at h
      have hev : VRel ρ e.key ce.key := by rw [he.key]; exact VRel.flat1 he.flat
      split at h
      · rename_i hf
        injection h with h; subst h
        refine ⟨some (i, ce.val), fun w => ?_, rfl, he.val⟩
        have := aeqT_run hok 12 kt _ _ _ _ true hf hk hev 10000 (by omega) w
        simp only [Instr.findAsking, Sem.run_bind, Op.equal, Op.maxDepth, this, Result.andThen_ok, if_true, Sem.run_pure]
      · rename_i hf
        obtain ⟨cr, hr, hfr⟩ := ih _ _ _ hs h
        refine ⟨cr, fun w => ?_, hfr⟩
        have := aeqT_run hok 12 kt _ _ _ _ false hf hk hev 10000 (by omega) w
        simp only [Instr.findAsking, Sem.run_bind, Op.equal, Op.maxDepth, this, Result.andThen_ok, Bool.false_eq_true, if_false, hr]
      · cases h

theorem findKey_run {ok : TypeId → Bool} (hok : EqOk P ok) {kt : TypeId} {k : Value} (hk : akey P ok kt k = true) {es ces : List MapEntry} {r : Option (Nat × Value)} (hm : MRel ρ es ces) (h : afind P ok kt k es 0 = some r) :
    ∃ cr, (∀ w, (Instr.findKey kt k ces).run P w = .ok cr w) ∧ FRes ρ r cr := by
  obtain ⟨hf, he⟩ := akey_inv hk
  obtain ⟨kind, hu⟩ := aeqT_desc he
  obtain ⟨cr, hr, hfr⟩ := findAsking_run hok (VRel.flat1 hf) es ces 0 r hm h
  cases hn : Instr.findNow kind k ces 0 with
  | none => exact ⟨cr, fun w => by simp only [Instr.findKey, Sem.run_bind, run_underlying hu, Result.andThen_ok, hn, hr], hfr⟩
  | some cr' => exact ⟨cr', fun w => by simp only [Instr.findKey, Sem.run_bind, run_underlying hu, Result.andThen_ok, hn, Sem.run_pure], findNow_run hu _ _ _ _ _ hm h hn⟩

/-! ### Entries -/
theorem MRel.length {es ces : List MapEntry} (h : MRel ρ es ces) : es.length = ces.length := by
  induction h with
  | nil => rfl
  | cons _ _ ih => simp [ih]
theorem MRel.get {es ces : List MapEntry} (h : MRel ρ es ces) : ∀ {i : Nat} {e : MapEntry}, es[i]? = some e → ∃ ce, ces[i]? = some ce ∧ ERel ρ e ce := by
  induction h with
  | nil => intro i e h; simp at h
  | cons h _ ih =>
    intro i e he
    cases i with
    | zero => simp at he; subst he; exact ⟨_, rfl, h⟩
    | succ i => simpa using ih (by simpa using he)
theorem MRel.none {es ces : List MapEntry} (h : MRel ρ es ces) {i : Nat} (he : es[i]? = none) : ces[i]? = none := by
  rw [List.getElem?_eq_none_iff] at he ⊢
  rw [← h.length]; exact he
theorem MRel.snoc {es ces : List MapEntry} {e ce : MapEntry} (h : MRel ρ es ces) (he : ERel ρ e ce) : MRel ρ (es ++ [e]) (ces ++ [ce]) := by
  induction h with
  | nil => exact .cons he .nil
  | cons h _ ih => exact .cons h ih
theorem MRel.modify {es ces : List MapEntry} {f cf : MapEntry → MapEntry} (h : MRel ρ es ces) : ∀ {i : Nat}, (∀ e ce, es[i]? = some e → ERel ρ e ce → ERel ρ (f e) (cf ce)) → MRel ρ (es.modify i f) (ces.modify i cf) := by
  induction h with
  | nil => intro i _; simpa using MRel.nil
  | cons h hs ih =>
    intro i hf
    cases i with
    | zero => simp only [List.modify_zero_cons]; exact .cons (hf _ _ rfl h) hs
    | succ i => simp only [List.modify_succ_cons]; exact .cons h (ih fun e ce he hr => hf e ce (by simpa using he) hr)
theorem MRel.erase {es ces : List MapEntry} (h : MRel ρ es ces) : ∀ {i : Nat}, MRel ρ (es.eraseIdx i) (ces.eraseIdx i) := by
  induction h with
  | nil => intro i; simpa using MRel.nil
  | cons h hs ih =>
    intro i
    cases i with
    | zero => simpa using hs
    | succ i => simpa using MRel.cons h ih
theorem MRel.filter {es ces : List MapEntry} {p : MapEntry → Bool} (hp : ∀ e ce, ERel ρ e ce → p e = p ce) (h : MRel ρ es ces) : MRel ρ (es.filter p) (ces.filter p) := by
  induction h with
  | nil => exact .nil
  | cons h _ ih =>
    simp only [List.filter_cons, ← hp _ _ h]
    split
    · exact .cons h ih
    · exact ih
theorem MRel.all {es ces : List MapEntry} {p : MapEntry → Bool} (hp : ∀ e ce, ERel ρ e ce → p e = p ce) (h : MRel ρ es ces) : es.all p = ces.all p := by
  induction h with
  | nil => rfl
  | cons h _ ih => simp only [List.all_cons, ih, hp _ _ h]
theorem MRel.findIdx {es ces : List MapEntry} {p : MapEntry → Bool} (hp : ∀ e ce, ERel ρ e ce → p e = p ce) (h : MRel ρ es ces) : es.findIdx? p = ces.findIdx? p := by
  induction h with
  | nil => rfl
  | cons h _ ih => simp only [List.findIdx?_cons, ih, hp _ _ h]
theorem MRel.find {es ces : List MapEntry} {p : MapEntry → Bool} (hp : ∀ e ce, ERel ρ e ce → p e = p ce) (h : MRel ρ es ces) : ∀ {e : MapEntry}, es.find? p = some e → ∃ ce, ces.find? p = some ce ∧ ERel ρ e ce := by
  induction h with
  | nil => intro e he; simp at he
  | cons h _ ih =>
    intro e he
    simp only [List.find?_cons, ← hp _ _ h] at he ⊢
    split at he
    · injection he with he; subst he; exact ⟨_, rfl, h⟩
    · exact ih he
theorem MRel.append {es ces fs cfs : List MapEntry} (h : MRel ρ es ces) (h' : MRel ρ fs cfs) : MRel ρ (es ++ fs) (ces ++ cfs) := by
  induction h with
  | nil => exact h'
  | cons h _ ih => exact .cons h ih
theorem MRel.isEmpty {es ces : List MapEntry} (h : MRel ρ es ces) : es.isEmpty = ces.isEmpty := by cases h <;> rfl

/-- A map of ours. -/
theorem HRel.map {r : Nat} {pl : Plc} {es : List MapEntry} {clock : Nat} (h : HRel E ρ g w) (hpl : ρ r = some pl) (hg : g r = some (.map es clock)) : ∃ ces : Array MapEntry, w.heap[pl.blk]? = some (.map ces clock) ∧ MRel ρ es ces.toList := by
  obtain ⟨co, hc, ces, rfl, hm⟩ := h.obj r pl _ hpl hg rfl
  exact ⟨ces, hc, hm⟩

theorem entries_run {m cm : Value} {es : List MapEntry} (hH : HRel E ρ g w) (h : aentries g m = some es) (hm : VRel ρ m cm) :
    (cm = .map none ∧ m = .map none ∧ es = []) ∨ ∃ r pl clock ces, m = .map (some r) ∧ cm = .map (some pl.blk) ∧ ρ r = some pl ∧ g r = some (.map es clock) ∧ w.heap[pl.blk]? = some (.map ces clock) ∧ MRel ρ es ces.toList := by
  unfold aentries at h
  split at h
  · injection h with h; subst h
    cases hm; exact .inl ⟨rfl, rfl, rfl⟩
  · rename_i r
    split at h
    · rename_i es' clock hg
      injection h with h; subst h
      obtain ⟨pl, hpl, rfl⟩ := hm.map_inv
      obtain ⟨ces, hc, hr⟩ := hH.map hpl hg
      exact .inr ⟨r, pl, clock, ces, rfl, rfl, hpl, hg, hc, hr⟩
    · cases h
  · cases h

theorem alookup_run {ok : TypeId → Bool} (hok : EqOk P ok) {t : TypeId} {m k cm ck v : Value} {commaOk : Bool} (hH : HRel E ρ g w) (h : alookup P ok g t m k commaOk = some v) (hm : VRel ρ m cm) (hk : VRel ρ k ck) :
    ∃ u, VRel ρ v u ∧ (Instr.lookup t cm ck commaOk).run P w = .ok u w := by
  unfold alookup at h
  split at h
  · rename_i kt elem hu
    split at h
    · rename_i es z hes hz
      split at h
      · rename_i hak
        have hck := hk.flat1_eq (akey_inv hak).1
        subst hck
        -- what the model finds
        have key : ∀ r, afind P ok kt ck es 0 = some r → ∃ cr, FRes ρ r cr ∧ (Instr.lookup t cm ck commaOk).run P w = .ok (match cr with | some (_, u) => if commaOk then .tuple #[u, .bool true] else u | none => if commaOk then .tuple #[z, .bool false] else z) w := by
          intro r hr
          rcases entries_run hH hes hm with ⟨rfl, rfl, rfl⟩ | ⟨r', pl, clock, ces, rfl, rfl, hpl, hg, hc, hmr⟩
          · simp only [afind] at hr; injection hr with hr; subst hr
            refine ⟨none, trivial, ?_⟩
            obtain ⟨cr, h1, h2⟩ := findKey_run hok hak (ρ := ρ) MRel.nil (show afind P ok kt ck [] 0 = some none from rfl)
            cases cr with
            | some p => simp [FRes] at h2
            | none => simp only [Instr.lookup, Sem.run_bind, run_underlying hu, Result.andThen_ok, Sem.run_pure, checkKey_run 12 kt ck ck (akey_inv hak).2 hk true 10000 (by omega) w, Array.isEmpty_empty, h1, run_azero hz, List.isEmpty_nil]
          · obtain ⟨cr, h1, h2⟩ := findKey_run hok hak hmr hr
            refine ⟨cr, h2, ?_⟩
            simp only [Instr.lookup, Sem.run_bind, run_underlying hu, Result.andThen_ok, run_getObj_map hc, Sem.run_pure, checkKey_run 12 kt ck ck (akey_inv hak).2 hk _ 10000 (by omega) w, h1]
            cases cr with
            | none => simp only [Sem.run_bind, run_azero hz, Result.andThen_ok, Sem.run_pure]
            | some p => simp only [Sem.run_bind, Sem.run_pure, Result.andThen_ok]
        split at h
        · rename_i i v' hf
          injection h with h; subst h
          obtain ⟨cr, h1, h2⟩ := key _ hf
          cases cr with
          | none => simp [FRes] at h1
          | some p =>
            obtain ⟨j, u⟩ := p
            refine ⟨_, ?_, h2⟩
            cases commaOk with
            | true => exact VRel.tuple_l (LRel.cons h1.2 (LRel.cons (.bool ρ _) (LRel.nil ρ)))
            | false => exact h1.2
        · rename_i hf
          injection h with h; subst h
          obtain ⟨cr, h1, h2⟩ := key _ hf
          cases cr with
          | some p => simp [FRes] at h1
          | none =>
            refine ⟨_, ?_, h2⟩
            cases commaOk with
            | true => exact VRel.tuple_l (LRel.cons (VRel.flat1 (azero_flat hz)) (LRel.cons (.bool ρ _) (LRel.nil ρ)))
            | false => exact VRel.flat1 (azero_flat hz)
        · cases h
      · cases h
    · cases h
  · cases h

/-! ### Writing -/
theorem fsame0_bits {x y : Value} (h : fsame0 x y = true) (n : Nat) : Instr.sameBits n x y = true := by
  unfold fsame0 at h
  split at h
  · simpa [Instr.sameBits] using h
  · simpa [Instr.sameBits] using h
  · simp only [Instr.sameBits, eqBytes_beq]; exact h
  · cases h
theorem fsameL_bits (n : Nat) : ∀ {xs ys : List Value}, fsameL xs ys = true → xs.length = ys.length ∧ ((xs.zip ys).all fun (x, y) => Instr.sameBits n x y) = true := by
  intro xs
  induction xs with
  | nil => intro ys h; cases ys <;> simp [fsameL] at h ⊢
  | cons x xs ih =>
    intro ys h
    cases ys with
    | nil => simp [fsameL] at h
    | cons y ys =>
      simp only [fsameL, Bool.and_eq_true] at h
      have := ih h.2
      exact ⟨by simp [this.1], by simp only [List.zip_cons_cons, List.all_cons, fsame0_bits h.1, this.2, Bool.and_self]⟩
theorem fsame_bits {x y : Value} (h : fsame x y = true) (n : Nat) : Instr.sameBits (n + 1) x y = true := by
  unfold fsame at h
  split at h
  · rename_i a b
    have := fsameL_bits n h
    simp only [Instr.sameBits, Bool.and_eq_true]
    exact ⟨by simpa using this.1, this.2⟩
  · exact fsame0_bits h _

theorem keyStays {es ces : List MapEntry} {i : Nat} {k : Value} (hm : MRel ρ es ces) (h : asameAt es i k = true) : ∃ ce, ces[i]? = some ce ∧ ∀ w, (Instr.keyThatStays ce.key k).run P w = .ok k w := by
  unfold asameAt at h
  split at h
  · rename_i e he
    obtain ⟨ce, hc, hr⟩ := hm.get he
    refine ⟨ce, hc, fun w => ?_⟩
    have := fsame_bits h 9999
    simp only [Instr.keyThatStays, hr.key, this, if_true, Sem.run_pure]
  · cases h

theorem aupdate_run {ok : TypeId → Bool} (hok : EqOk P ok) {t : TypeId} {m k v cm ck cv : Value} {e : Eff} (hH : HRel E ρ g w) (h : aupdate P ok g t m k v = some e) (hm : VRel ρ m cm) (hk : VRel ρ k ck) (hv : VRel ρ v cv) :
    ∃ w', (Instr.mapUpdate t cm ck cv).run P w = .ok () w' ∧ ∀ cu, VRel ρ Go.undef cu → OpOk E ρ g w e nx Go.undef cu w' := by
  unfold aupdate at h
  split at h
  · rename_i kt elem r hu
    split at h
    · rename_i es clock hg
      split at h
      · rename_i hak
        have hck := hk.flat1_eq (akey_inv hak).1
        subst hck
        obtain ⟨pl, hpl, rfl⟩ := hm.map_inv
        obtain ⟨ces, hc, hmr⟩ := hH.map hpl hg
        have hck := checkKey_run (P := P) 12 kt ck ck (akey_inv hak).2 hk false 10000 (by omega) w
        split at h
        · rename_i i v' hf
          split at h
          · rename_i hsame
            injection h with h; subst h
            obtain ⟨cr, h1, h2⟩ := findKey_run hok hak hmr hf
            cases cr with
            | none => simp [FRes] at h2
            | some p =>
              obtain ⟨j, u⟩ := p
              obtain ⟨rfl, _⟩ := h2
              obtain ⟨ce, hce, hst⟩ := keyStays (P := P) hmr hsame
              have hce' : ces[i]? = some ce := by rw [← Array.getElem?_toList]; exact hce
              refine ⟨_, ?_, fun cu hcu => OpOk.turnedTo (co := .map (ces.modify i fun e => { e with key := ck, val := cv }) clock) hH hpl hg rfl ⟨_, rfl, ?_⟩ hcu⟩
              · simp only [Instr.mapUpdate, Sem.run_bind, run_underlying hu, Result.andThen_ok, run_getObj_map hc, hck, h1, hce', Option.map_some, Option.getD_some, hst, run_setObj_map _ hc]
              · rw [Array.toList_modify]
                exact hmr.modify fun e ce _ hr => ⟨rfl, (akey_inv hak).1, hr.born, hv⟩
          · cases h
        · rename_i hf
          injection h with h; subst h
          obtain ⟨cr, h1, h2⟩ := findKey_run hok hak hmr hf
          cases cr with
          | some p => simp [FRes] at h2
          | none =>
            refine ⟨_, ?_, fun cu hcu => OpOk.turnedTo (co := .map (ces.push { key := ck, val := cv, born := clock }) (clock + 1)) hH hpl hg rfl ⟨_, rfl, ?_⟩ hcu⟩
            · simp only [Instr.mapUpdate, Sem.run_bind, run_underlying hu, Result.andThen_ok, run_getObj_map hc, hck, h1, run_setObj_map _ hc]
            · rw [Array.toList_push]
              exact hmr.snoc ⟨rfl, (akey_inv hak).1, rfl, hv⟩
        · cases h
      · cases h
    · cases h
  · cases h

theorem amapEntry_run {ok : TypeId → Bool} (hok : EqOk P ok) {t : TypeId} {m k v cm ck : Value} {e : Eff} (hH : HRel E ρ g w) (h : amapEntry P ok g t m k = some (v, e)) (hm : VRel ρ m cm) (hk : VRel ρ k ck) :
    ∃ cv w', (Instr.mapEntry t cm ck).run P w = .ok cv w' ∧ OpOk E ρ g w e nx v cv w' := by
  unfold amapEntry at h
  split at h
  · rename_i kt elem r hu
    split at h
    · rename_i es clock z hg hz
      split at h
      · rename_i hak
        have hck := hk.flat1_eq (akey_inv hak).1
        subst hck
        obtain ⟨pl, hpl, rfl⟩ := hm.map_inv
        obtain ⟨ces, hc, hmr⟩ := hH.map hpl hg
        have hck := checkKey_run (P := P) 12 kt ck ck (akey_inv hak).2 hk false 10000 (by omega) w
        split at h
        · rename_i i v' hf
          split at h
          · rename_i hsame
            injection h with h; injection h with h3 h4; subst h3 h4
            obtain ⟨cr, h1, h2⟩ := findKey_run hok hak hmr hf
            cases cr with
            | none => simp [FRes] at h2
            | some p =>
              obtain ⟨j, u⟩ := p
              obtain ⟨rfl, hvu⟩ := h2
              obtain ⟨ce, hce, hst⟩ := keyStays (P := P) hmr hsame
              have hce' : ces[i]? = some ce := by rw [← Array.getElem?_toList]; exact hce
              have hborn : (((es[i]?).map (·.born)).getD 0 : Nat) = ce.born := by
                unfold asameAt at hsame
                split at hsame
                · rename_i e he
                  obtain ⟨ce', hc', hr⟩ := hmr.get he
                  rw [hce] at hc'; injection hc' with hc'; subst hc'
                  simp [he, hr.born]
                · cases hsame
              rw [hborn]
              refine ⟨.tuple #[u, .int .i64 ce.born], _, ?_, OpOk.turnedTo (co := .map (ces.modify i fun e => { e with key := ck }) clock) hH hpl hg rfl ⟨_, rfl, ?_⟩ (VRel.tuple_l (LRel.cons hvu (LRel.cons (.int ρ _ _) (LRel.nil ρ))))⟩
              · simp only [Instr.mapEntry, Sem.run_bind, run_underlying hu, Result.andThen_ok, run_getObj_map hc, hck, h1, hce', Option.map_some, Option.getD_some, hst, run_setObj_map _ hc, Sem.run_pure, goInt]
              · rw [Array.toList_modify]
                exact hmr.modify fun e ce _ hr => ⟨rfl, (akey_inv hak).1, hr.born, hr.val⟩
          · cases h
        · rename_i hf
          injection h with h; injection h with h3 h4; subst h3 h4
          obtain ⟨cr, h1, h2⟩ := findKey_run hok hak hmr hf
          cases cr with
          | some p => simp [FRes] at h2
          | none =>
            have hzz := VRel.flat1 (ρ := ρ) (azero_flat hz)
            refine ⟨.tuple #[z, .int .i64 clock], _, ?_, OpOk.turnedTo (co := .map (ces.push { key := ck, val := z, born := clock }) (clock + 1)) hH hpl hg rfl ⟨_, rfl, ?_⟩ (VRel.tuple_l (LRel.cons hzz (LRel.cons (.int ρ _ _) (LRel.nil ρ))))⟩
            · simp only [Instr.mapEntry, Sem.run_bind, run_underlying hu, Result.andThen_ok, run_getObj_map hc, hck, h1, run_azero hz, run_setObj_map _ hc, Sem.run_pure, goInt]
            · rw [Array.toList_push]
              exact hmr.snoc ⟨rfl, (akey_inv hak).1, rfl, hzz⟩
        · cases h
      · cases h
    · cases h
  · cases h

theorem findIdx_list (ces : Array MapEntry) (p : MapEntry → Bool) : ces.findIdx? p = ces.toList.findIdx? p := by
  rw [← List.findIdx?_toArray]

theorem aentryStore_run {t : TypeId} {m s v cm cs cv : Value} {e : Eff} (hH : HRel E ρ g w) (h : aentryStore g m s v = some e) (hm : VRel ρ m cm) (hs : VRel ρ s cs) (hv : VRel ρ v cv) :
    ∃ w', (Instr.entryStore t cm cs cv).run P w = .ok () w' ∧ ∀ cu, VRel ρ Go.undef cu → OpOk E ρ g w e nx Go.undef cu w' := by
  unfold aentryStore at h
  split at h
  · rename_i r k born
    split at h
    · rename_i es clock hg
      obtain ⟨pl, hpl, rfl⟩ := hm.map_inv
      obtain ⟨ces, hc, hmr⟩ := hH.map hpl hg
      rw [hs.int_inv]
      split at h
      · rename_i i hi
        injection h with h; subst h
        have hi' : ces.findIdx? (fun e => (e.born : Int) == born) = some i := by
          rw [findIdx_list, ← hmr.findIdx (fun e ce hr => by rw [hr.born])]
          exact hi
        refine ⟨_, ?_, fun cu hcu => OpOk.turnedTo (co := .map (ces.modify i fun e => { e with val := cv }) clock) hH hpl hg rfl ⟨_, rfl, ?_⟩ hcu⟩
        · simp only [Instr.entryStore, Sem.run_bind, Result.andThen_ok, run_getObj_map hc, asInt, asIntOf, Sem.run_pure, hi', run_setObj_map _ hc]
        · rw [Array.toList_modify]
          exact hmr.modify fun e ce _ hr => ⟨hr.key, hr.flat, hr.born, hv⟩
      · cases h
    · cases h
  · cases h

theorem adelete_run {ok : TypeId → Bool} (hok : EqOk P ok) {t u ty : TypeId} {m k v cm ck : Value} {e : Eff} (hH : HRel E ρ g w) (h : adelete P ok g t m k = some (v, e)) (hm : VRel ρ m cm) (hk : VRel ρ k ck) :
    ∃ cv w', (Builtin.delete_ #[t, u] ty #[cm, ck]).run P w = .ok cv w' ∧ OpOk E ρ g w e nx v cv w' := by
  unfold adelete at h
  split at h
  · rename_i kt elem hu
    split at h
    · rename_i hak
      injection h with h; injection h with h3 h4; subst h3 h4
      have hck := hk.flat1_eq (akey_inv hak).1
      subst hck
      cases hm
      have hck := checkKey_run (P := P) 12 kt ck ck (akey_inv hak).2 hk true 10000 (by omega) w
      exact ⟨.tuple #[], w, by simp [Builtin.delete_, run_underlying hu, hck], OpOk.still hH (SameHeap.refl w) (VRel.undef ρ)⟩
    · cases h
  · rename_i kt elem r hu
    split at h
    · rename_i es clock hg
      split at h
      · rename_i hak
        have hck := hk.flat1_eq (akey_inv hak).1
        subst hck
        obtain ⟨pl, hpl, rfl⟩ := hm.map_inv
        obtain ⟨ces, hc, hmr⟩ := hH.map hpl hg
        have hck := checkKey_run (P := P) 12 kt ck ck (akey_inv hak).2 hk ces.isEmpty 10000 (by omega) w
        split at h
        · rename_i i v' hf
          injection h with h; injection h with h3 h4; subst h3 h4
          obtain ⟨cr, h1, h2⟩ := findKey_run hok hak hmr hf
          cases cr with
          | none => simp [FRes] at h2
          | some p =>
            obtain ⟨j, u⟩ := p
            obtain ⟨rfl, _⟩ := h2
            refine ⟨.tuple #[], _, ?_, OpOk.turnedTo (co := .map (ces.eraseIdxIfInBounds i) clock) hH hpl hg rfl ⟨_, rfl, ?_⟩ (VRel.undef ρ)⟩
            · simp only [Builtin.delete_, Sem.run_bind, List.getElem?_toArray, List.getElem?_cons_zero, List.getElem?_cons_succ, run_underlying hu, Result.andThen_ok, run_getObj_map hc, hck, h1, run_setObj_map _ hc, Sem.run_pure]
            · rw [Array.toList_eraseIdxIfInBounds]
              exact hmr.erase
        · rename_i hf
          injection h with h; injection h with h3 h4; subst h3 h4
          obtain ⟨cr, h1, h2⟩ := findKey_run hok hak hmr hf
          cases cr with
          | some p => simp [FRes] at h2
          | none =>
            refine ⟨.tuple #[], _, ?_, OpOk.turnedTo (co := .map ces clock) hH hpl hg rfl ⟨_, rfl, hmr⟩ (VRel.undef ρ)⟩
            simp only [Builtin.delete_, Sem.run_bind, List.getElem?_toArray, List.getElem?_cons_zero, List.getElem?_cons_succ, run_underlying hu, Result.andThen_ok, run_getObj_map hc, hck, h1, run_setObj_map _ hc, Sem.run_pure]
        · cases h
      · cases h
    · cases h
  · cases h

/-! ### Going through -/
theorem arange_run {t : TypeId} {x cx v : Value} {e : Eff} (hH : HRel E ρ g w) (hn : e.new ≠ none → ρ nx = none) (h : arange P g nx t x = some (v, e)) (hx : VRel ρ x cx) :
    ∃ cv w', (Instr.range t cx).run P w = .ok cv w' ∧ OpOk E ρ g w e nx v cv w' := by
  unfold arange at h
  split at h
  · rename_i s hu
    injection h with h; injection h with h3 h4; subst h3 h4; have hn := hn (by simp [Eff.mk1])
    rw [hx.string_inv]
    refine ⟨.pointer (some ⟨w.heap.size, 0, none⟩), w.alloc (.stringIter s 0), by simp [Instr.range, run_underlying hu], ?_⟩
    exact OpOk.made (pl := ⟨w.heap.size, 0, 0, 0⟩) hH hn rfl rfl rfl rfl rfl ⟨rfl, rfl⟩ VRel.atStart
  · rename_i kt elem hu
    injection h with h; injection h with h3 h4; subst h3 h4; have hn := hn (by simp [Eff.mk1])
    cases hx
    refine ⟨.pointer (some ⟨w.heap.size, 0, none⟩), w.alloc (.mapIter none 0 #[] 0), by simp [Instr.range, run_underlying hu], ?_⟩
    exact OpOk.made (pl := ⟨w.heap.size, 0, 0, 0⟩) hH hn rfl rfl rfl rfl rfl ⟨rfl, rfl⟩ VRel.atStart
  · rename_i kt elem m hu
    split at h
    · rename_i es clock hg
      injection h with h; injection h with h3 h4; subst h3 h4; have hn := hn (by simp [Eff.mk1])
      obtain ⟨pl, hpl, rfl⟩ := hx.map_inv
      obtain ⟨ces, hc, hmr⟩ := hH.map hpl hg
      refine ⟨.pointer (some ⟨w.heap.size, 0, none⟩), w.alloc (.mapIter (some pl.blk) clock #[] clock), by simp [Instr.range, run_underlying hu, run_getObj_map hc], ?_⟩
      exact OpOk.made (pl := ⟨w.heap.size, 0, 0, 0⟩) hH hn rfl rfl rfl rfl rfl ⟨rfl, pl, Pm.le_set hn _ _ hpl, rfl⟩ VRel.atStart
    · cases h
  · cases h

theorem run_getObj_iter {r : Nat} {o : Obj} (h : w.heap[r]? = some o) (hne : ∀ c e f, o ≠ .cells c e f) : (getObj r).run P w = .ok o w := by
  cases o <;> first
    | exact absurd rfl (hne _ _ _)
    | simp [getObj, Sem.run, h]
theorem run_setObj_iter {r : Nat} {o o' : Obj} (h : w.heap[r]? = some o) (hne : ∀ c e f, o ≠ .cells c e f) : (setObj r o').run P w = .ok () { w with heap := w.heap.setIfInBounds r o' } := by
  cases o <;> first
    | exact absurd rfl (hne _ _ _)
    | simp [setObj, Sem.run, h]

theorem aentry_run {it ci v : Value} (hH : HRel E ρ g w) (h : aentry g it = some v) (hi : VRel ρ it ci) : ∃ u, VRel ρ v u ∧ (Instr.entry ci).run P w = .ok u w := by
  unfold aentry at h
  split at h
  · rename_i r
    obtain ⟨pl, hpl, rfl⟩ := hi.ptr_inv
    split at h
    · rename_i m since seen stepped hg
      obtain ⟨co, hc, hb, plm, hplm, rfl⟩ := hH.obj r pl _ hpl hg rfl
      split at h
      · rename_i stamp es clock hlast hgm
        split at h
        · rename_i hcl
          split at h
          · rename_i e he
            injection h with h; subst h
            obtain ⟨ces, hcm, hmr⟩ := hH.map hplm hgm
            obtain ⟨ce, hce, hr⟩ := hmr.find (fun e ce hr => by rw [hr.born]) he
            rw [Array.find?_toList] at hce
            refine ⟨.tuple #[ce.key, ce.val], VRel.tuple_l (LRel.cons (by rw [hr.key]; exact VRel.flat1 hr.flat) (LRel.cons hr.val (LRel.nil ρ))), ?_⟩
            have hback : seen.toArray.back? = some stamp := by simpa using hlast
            simp only [Instr.entry, hb, Nat.add_zero, Sem.run_bind, run_getObj_iter hc (by simp), Result.andThen_ok, hback, run_getObj_map hcm, hcl, bne_self_eq_false, Bool.false_eq_true, if_false, hce, Sem.run_pure]
          · cases h
        · cases h
      · cases h
    · cases h
  · cases h
end Go.Am
