/- The abstract machine: library functions that the kit has walked: summaries. -/
import Derived.Test.YtgngbcmhapmokaaDoorAmExt
import Derived.Test.YtgngbcmhapmokaaDoorAmWp
import Derived.Shelf.Strings.OnBuilder
import Derived.Shelf.Strings.Split
import Derived.Shelf.Strconv.Atoi
import Derived.Lib.AtoiErrMem
namespace Go.Am
open Go Go.Proofs Go.Shelf Go.RowKit

variable {E : AEnv}

theorem fc_calls {P : Program} {f : FuncId} {args : Array Value} {w : World} {R : Value → World → Prop} (hen : (callFunc f args).run P w = .ok (.enter f args) w)
    (hc : Calls P f args w fun e w' => ∃ v, e = .returned v ∧ R v w') : FC P f args w R := by
  refine .inr ⟨hen, callsIn_wide.2 (hc.mono ?_)⟩
  rintro e w' ⟨v, rfl, h⟩
  exact h
theorem keep_below {ρ : Pm} {g : Look} {w w' : World} (hH : HRel E ρ g w) (hb : Below w.heap.size w w') : HRel E ρ g w' ∧ Step ρ g w ρ g w' := by
  refine ⟨⟨fun b pl o q1 q2 q3 => ?_, hH.excl⟩, ⟨PmLe.refl _, hb.size, fun i hi _ => hb.block i hi, fun b pl o q1 q2 q3 _ => ⟨b, pl, o, q1, q2, q3, rfl⟩, fun b pl o q1 q2 q3 _ => ⟨b, pl, o, q1, q2, q3, rfl⟩, fun b hb => absurd rfl hb, hb.os, hb.tape, hb.output⟩⟩
  obtain ⟨co, r1, r2⟩ := hH.obj b pl o q1 q2 q3
  exact ⟨co, by rw [hb.block _ (hH.lt q1 q2 q3)]; exact r1, r2⟩
theorem below_alloc (w : World) (o : Obj) : Below w.heap.size w (w.alloc o) :=
  ⟨rfl, rfl, rfl, (show w.heap.size ≤ (w.heap.push o).size by simp), fun k hk => (show (w.heap.push o)[k]? = w.heap[k]? by rw [Array.getElem?_push_lt hk, Array.getElem?_eq_getElem hk])⟩
theorem push_look (h : AHeap) (o : AObj) : (h.push o).get = Eff.look ⟨none, some o, false⟩ h.get h.size := by
  funext b
  simp only [Eff.look]
  by_cases hb : b = h.size
  · subst hb; rw [if_pos rfl]; exact W.gpush_new h o
  · rw [if_neg hb]
    by_cases hlt : b < h.size
    · exact W.gpush h o b hlt
    · unfold AHeap.get AHeap.push
      simp only
      rw [if_neg (by omega), if_neg (by omega)]

/-! ### strings.Split at a separator of one byte -/
def splitL (c : UInt8) : List UInt8 → List (List UInt8)
  | [] => [[]]
  | b :: l => if b == c then [] :: splitL c l else match splitL c l with
    | [] => [[b]]
    | x :: r => (b :: x) :: r
theorem splitL_ne (c : UInt8) (l : List UInt8) : splitL c l ≠ [] := by
  cases l with
  | nil => simp [splitL]
  | cons b l =>
    simp only [splitL]
    split
    · simp
    · split <;> simp
theorem index_cons (b c : UInt8) (l : List UInt8) : Lib.index (b :: l) [c] = if b = c then 0 else if Lib.index l [c] = -1 then -1 else Lib.index l [c] + 1 := by
  rw [Lib.index]
  by_cases hbc : b = c
  · subst hbc; simp [List.isPrefixOf]
  · have : (c == b) = false := by simpa using fun h => hbc h.symm
    simp [List.isPrefixOf, hbc, this]
theorem index_byte (c : UInt8) (l : List UInt8) : Lib.index l [c] = Lib.indexByte l c := by
  induction l with
  | nil => rfl
  | cons b l ih =>
    rw [index_cons, Lib.indexByte, ih]
    by_cases hbc : b = c
    · simp [hbc]
    · simp [hbc]
theorem splitK_one (c : UInt8) : ∀ (l : List UInt8), Lib.splitK [c] 0 (Lib.count l [c]) l = splitL c l := by
  intro l
  induction l with
  | nil => rw [splitL]; rfl
  | cons b l ih =>
    rw [splitL]
    by_cases hbc : b = c
    · subst hbc
      rw [Lib.count_cons_eq, Nat.add_comm]
      rw [Lib.splitK]
      have h0 : Lib.index (b :: l) [b] = 0 := by rw [index_cons, if_pos rfl]
      rw [h0]
      simp [ih]
    · rw [Lib.count_cons_ne b c l hbc]
      have hb' : (b == c) = false := by simpa using hbc
      rw [hb', ← ih]
      simp only [Bool.false_eq_true, if_false]
      generalize Lib.count l [c] = k
      cases k with
      | zero => rfl
      | succ k =>
        rw [Lib.splitK, Lib.splitK, index_cons, if_neg hbc]
        have hge := Lib.index_ge l [c]
        by_cases hm : Lib.index l [c] = -1
        · rw [if_pos hm]; simp [hm]
        · rw [if_neg hm]
          have e1 : (Lib.index l [c] == -1) = false := by simpa using hm
          have e2 : (Lib.index l [c] + 1 == -1) = false := by simp; omega
          rw [e1, e2]
          simp only [Bool.false_eq_true, if_false]
          have e3 : (Lib.index l [c] + 1).toNat = (Lib.index l [c]).toNat + 1 := by omega
          rw [e3]
          simp [Nat.add_right_comm]
theorem splitL_length (c : UInt8) (l : List UInt8) : (splitL c l).length = l.count c + 1 := by
  induction l with
  | nil => rfl
  | cons b l ih =>
    rw [splitL]
    by_cases hbc : b = c
    · subst hbc; simp [ih]
    · have hb' : (b == c) = false := by simpa using hbc
      rw [hb']
      have := splitL_ne c l
      simp only [Bool.false_eq_true, if_false]
      cases hs : splitL c l with
      | nil => exact absurd hs this
      | cons x r => rw [hs] at ih; simp at ih ⊢; rw [List.count_cons_of_ne (fun h => hbc h)]; omega
def strL (l : List UInt8) : Value := .string ⟨⟨l⟩⟩
theorem mk_toList (s : ByteArray) : (⟨⟨s.data.toList⟩⟩ : ByteArray) = s := rfl
theorem splitB_one (c : UInt8) (s : ByteArray) : (Lib.splitB ⟨#[c]⟩ 0 (Lib.countB s ⟨#[c]⟩) s).map Value.string = (splitL c s.data.toList).map strL := by
  have h := Lib.splitB_data ⟨#[c]⟩ 0 (Lib.countB s ⟨#[c]⟩) s
  have h2 : Lib.splitK [c] 0 (Lib.count s.data.toList [c]) s.data.toList = splitL c s.data.toList := splitK_one c _
  have h3 : (Lib.splitB ⟨#[c]⟩ 0 (Lib.countB s ⟨#[c]⟩) s).map (·.data.toList) = splitL c s.data.toList := h.trans h2
  rw [← h3, List.map_map]
  rfl
/-- strings.genSplit(s, sep, 0, -1). -/
def splitSig : List Value → AHeap → Option (Value × AHeap) := fun args h =>
  match args with
  | [.string s, .string sep, .int .i64 sv, .int .i64 n] =>
    match sep.data.toList with
    | [c] => if sv = 0 ∧ n = -1 ∧ s.data.toList.length < 4294967281 then
        some (asl h.size 0 (splitL c s.data.toList).length 1, h.push (.cells ((splitL c s.data.toList).map strL) 1 true))
      else none
    | _ => none
  | _ => none

theorem splitSig_keep : ∀ args h v h', splitSig args h = some (v, h') → KeepR h h' := by
  intro args h v h' hr
  unfold splitSig at hr
  split at hr
  · split at hr
    · split at hr
      · injection hr with hr; injection hr with _ hr; subst hr
        exact KeepR.push _ _
      · cases hr
    · cases hr
  · cases hr
theorem split_ok {ρr : Ren} (L : Lays.n221 E.P ρr) (L143 : ∀ (s : ByteArray) (c : UInt8) (w : World), Calls E.P (ρr.f 143) #[.string s, .string ⟨#[c]⟩] w fun e w' => e = .returned (.int .i64 (Lib.indexByte s.data.toList c)) ∧ w' = w)
    (L138 : ∀ (s : ByteArray) (c : UInt8) (w : World), Calls E.P (ρr.f 138) #[.string s, .string ⟨#[c]⟩] w fun e w' => e = .returned (.int .i64 (Lib.countByte s.data.toList c)) ∧ w' = w)
    (hi9 : (E.P.info? (ρr.t 9)).map (fun i => (i.zero, i.size, i.bytes)) = some (some (.string ByteArray.empty), 1, 16)) {f : FuncId} (hf : ρr.f 221 = f)
    (hen : ∀ args w, (callFunc f args).run E.P w = .ok (.enter f args) w) : SigOk E f splitSig := by
  intro args h ρ lim w cargs v h' hr hlim hH hfree _ hargs
  unfold splitSig at hr
  split at hr
  · rename_i s sep sv n
    split at hr
    · rename_i c hsep
      split at hr
      · rename_i hc
        obtain ⟨rfl, rfl, hsz⟩ := hc
        injection hr with hr; injection hr with e1 e2; subst e1 e2
        have hq := hargs.flat0_eq (show ([.string s, .string sep, .int .i64 0, .int .i64 (-1)] : List Value).all flat0 = true from rfl)
        have hca : cargs = #[.string s, .string sep, .int .i64 0, .int .i64 (-1)] := Array.ext' hq
        subst hca
        have hse : sep = ⟨#[c]⟩ := by
          have : sep = ⟨⟨sep.data.toList⟩⟩ := rfl
          rw [this, hsep]
        subst hse
        have hs : s.size < 4294967281 := hsz
        have hcount := Lib.splitB_all ⟨#[c]⟩ (Nat.le_refl 1) 0 _ s rfl
        have hle := Lib.countB_le ⟨#[c]⟩ (Nat.le_refl 1) s.size s (Nat.le_refl _)
        have hlen : (splitL c s.data.toList).length = Lib.countB s ⟨#[c]⟩ + 1 := by
          rw [← hcount, ← List.length_map (f := Value.string), splitB_one, List.length_map]
        have core := Any.strings_genSplit_core L hi9 s ⟨#[c]⟩ 0 (-1) (Lib.countB s ⟨#[c]⟩ + 1) w hs (Nat.le_refl 1) (Nat.zero_le _)
          (fun x cc _ => (L143 x c _).mono fun e w' he => ⟨by rw [he.1]; show _ = Ending.returned (Value.int .i64 (Lib.index x.data.toList [c])); rw [index_byte], he.2⟩) ((L138 s c w).mono fun e w' he => ⟨by rw [he.1]; show _ = Ending.returned (Value.int .i64 ((Lib.count s.data.toList [c] : Nat) : Int)); rw [Lib.count_one]; rfl, he.2⟩) (by decide) (by decide) (by rw [if_pos (by decide)]; omega)
        rw [hf, Nat.add_sub_cancel, hcount] at core
        refine fc_calls (hen _ _) (core.mono ?_)
        rintro e w' ⟨rfl, rfl⟩
        refine ⟨_, rfl, ?_⟩
        have ecells : Lib.cellsOf (Lib.splitB ⟨#[c]⟩ 0 (Lib.countB s ⟨#[c]⟩) s) (Lib.countB s ⟨#[c]⟩ + 1) = ((splitL c s.data.toList).map strL).toArray := by
          rw [← splitB_one, ← hcount]; exact Lib.cellsOf_full _
        rw [ecells]
        have hn : ρ h.size = none := hfree h.size (Nat.le_refl _) (hlim _ (Nat.lt_succ_self _))
        have hh : (w.alloc (.cells ((splitL c s.data.toList).map strL).toArray (ρr.t 9))).heap = w.heap.push (.cells ((splitL c s.data.toList).map strL).toArray (ρr.t 9)) := rfl
        have hlenm : ((splitL c s.data.toList).map strL).length = Lib.countB s ⟨#[c]⟩ + 1 := by rw [List.length_map, hlen]
        have hmade : OpOk E ρ h.get w ⟨none, some (.cells ((splitL c s.data.toList).map strL) 1 true), false⟩ h.size (asl h.size 0 (splitL c s.data.toList).length 1)
            (.slice (some ⟨w.heap.size, 0, none⟩) (Lib.countB s ⟨#[c]⟩ + 1) (Lib.countB s ⟨#[c]⟩ + 1)) (w.alloc (.cells ((splitL c s.data.toList).map strL).toArray (ρr.t 9))) := by
          refine OpOk.made (pl := ⟨w.heap.size, 0, Lib.countB s ⟨#[c]⟩ + 1, 1⟩) hH hn hh rfl rfl rfl rfl ?_ ?_
          · refine ⟨rfl, _, _, _, rfl, by rw [hlenm]; exact Nat.le_refl _, by show 0 + (Lib.countB s ⟨#[c]⟩ + 1) ≤ ((splitL c s.data.toList).map strL).toArray.size; simp [hlen], fun i v hv => ?_, fun _ i _ hh => ?_⟩
            · refine ⟨v, by simpa using hv, ?_⟩
              rw [List.getElem?_map] at hv
              obtain ⟨x, _, rfl⟩ := Option.map_eq_some_iff.1 hv
              exact .flat rfl
            · exact absurd hh.2 (Nat.not_lt_zero _)
          · unfold asl
            rw [hlen]
            exact .sl (Pm.set_same) (by decide) (Nat.le_refl _) (.inl rfl) (fun _ => by simp)
        obtain ⟨ρ', o1, o2, o3, o4, _⟩ := hmade.out
        exact ⟨ρ', o1, by rw [push_look]; exact o2, fun b hb => o4 b (by simp only [AHeap.push] at hb; omega), by rw [push_look]; exact o3⟩
      · cases hr
    · cases hr
  · cases hr

/-! ### strings.Join -/
def asStr : Value → Option ByteArray
  | .string s => some s
  | _ => none
def asStrs : List Value → Option (List ByteArray)
  | [] => some []
  | v :: l => match asStr v, asStrs l with
    | some s, some r => some (s :: r)
    | _, _ => none
theorem asStrs_map : ∀ {l : List Value} {xs : List ByteArray}, asStrs l = some xs → l = xs.map Value.string := by
  intro l
  induction l with
  | nil => intro xs h; injection h with h; subst h; rfl
  | cons v l ih =>
    intro xs h
    unfold asStrs at h
    split at h
    · rename_i s r hs hr
      injection h with h; subst h
      rw [List.map_cons, ← ih hr]
      cases v <;> simp [asStr] at hs
      subst hs; rfl
    · cases h
def joinSig : List Value → AHeap → Option (Value × AHeap) := fun args h =>
  match args with
  | [.slice (some ⟨b, off, none⟩) len e, .string sep] =>
    match h.get b with
    | some (.cells cs _ _) =>
      match asStrs ((cs.drop off).take len) with
      | some xs => if e = 1 ∧ 0 < len ∧ xs.length = len ∧ len ≤ 1000000 ∧ (Lib.join (xs.map (·.data.toList)) sep.data.toList).length ≤ 140737488355328 then
          some (.string ⟨⟨Lib.join (xs.map (·.data.toList)) sep.data.toList⟩⟩, h) else none
      | none => none
    | _ => none
  | _ => none
theorem joinSig_keep : ∀ args h v h', joinSig args h = some (v, h') → KeepR h h' := by
  intro args h v h' hr
  unfold joinSig at hr
  split at hr
  · split at hr
    · split at hr
      · split at hr
        · injection hr with hr; injection hr with _ hr; subst hr; exact KeepR.refl _
        · cases hr
      · cases hr
    · cases hr
  · cases hr
theorem join_ok {ρr : Ren} (L : Lays.n156 E.P ρr) (X : Builder.Extra E.P ρr) {f : FuncId} (hf : ρr.f 156 = f)
    (hen : ∀ args w, (callFunc f args).run E.P w = .ok (.enter f args) w) : SigOk E f joinSig := by
  intro args h ρ lim w cargs v h' hr hlim hH hfree _ hargs
  unfold joinSig at hr
  split at hr
  · rename_i b off len e sep
    split at hr
    · rename_i cs esz own hg
      split at hr
      · rename_i xs hxs
        split at hr
        · rename_i hc
          obtain ⟨rfl, hl0, hxl, hlm, hjl⟩ := hc
          injection hr with hr; injection hr with e1 e2; subst e1 e2
          obtain ⟨u1, l, hq, h1, h2⟩ := hargs.cons_inv
          obtain ⟨u2, l', rfl, h3, h4⟩ := h2.cons_inv
          have := h4.nil_inv; subst this
          have h3 := h3.string_inv; subst h3
          cases h1 with
          | flat hh => cases hh
          | sl hp he hle ha hx =>
            rename_i cap pl ca
            rcases ha with rfl | hc0
            · have hca : cargs = #[.slice (some ⟨pl.blk, pl.base + off, none⟩) len cap, .string sep] := Array.ext' hq
              subst hca
              obtain ⟨co, r1, r2⟩ := hH.obj b pl _ hp hg rfl
              obtain ⟨_, C, T, fz, rfl, s2, s3, s4, _⟩ := r2
              have hmap := asStrs_map hxs
              have core := Any.strings_Join L X pl.blk (pl.base + off) cap xs sep w (fun j x hj => ?_) ((Array.getElem?_eq_some_iff.1 r1).1) (by omega) (by omega) hjl
              · rw [hf, hxl] at core
                refine fc_calls (hen _ _) (core.mono ?_)
                rintro e w' ⟨rfl, hb⟩
                obtain ⟨k1, k2⟩ := keep_below hH hb
                exact ⟨_, rfl, ρ, .flat rfl, k1, PmOut.refl _ _ _, k2⟩
              · have hj' : ((cs.drop off).take len)[j]? = some (.string x) := by rw [hmap, List.getElem?_map, hj]; rfl
                have hjl : j < len := by rw [← hxl]; exact (List.getElem?_eq_some_iff.1 hj).1
                rw [List.getElem?_take_of_lt hjl, List.getElem?_drop] at hj'
                obtain ⟨u, t1, t2⟩ := s4 _ _ hj'
                have := t2.string_inv; subst this
                show World.cell? w ⟨pl.blk, pl.base + off + j, none⟩ = _
                unfold World.cell?
                rw [r1, Nat.add_assoc]
                simpa using t1
            · omega
        · cases hr
      · cases hr
    · cases hr
  · cases hr
theorem pureSig_calls {f : FuncId} {F : List Value → Option Value} (hen : ∀ args w, (callFunc f args).run E.P w = .ok (.enter f args) w)
    (hF : ∀ args v, args.all flat0 = true → F args = some v → vflat v = true ∧ ∀ w, Calls E.P f args.toArray w fun e w' => e = .returned v ∧ Below w.heap.size w w') : SigOk E f (pureSig [] F) := by
  intro args h ρ lim w cargs v h' hr hlim hH hfree _ hargs
  unfold pureSig at hr
  split at hr
  · rename_i hc
    obtain ⟨v', hv', he⟩ := Option.map_eq_some_iff.1 hr
    injection he with e1 e2; subst e1 e2
    have hq := hargs.flat0_eq hc.1
    have hca : cargs = args.toArray := Array.ext' (by simpa using hq)
    subst hca
    obtain ⟨hvf, hw⟩ := hF args v' hc.1 hv'
    refine fc_calls (hen _ _) ((hw w).mono ?_)
    rintro e w' ⟨rfl, hb⟩
    obtain ⟨k1, k2⟩ := keep_below hH hb
    exact ⟨_, rfl, ρ, vflat_rel hvf, k1, PmOut.refl _ _ _, k2⟩
  · cases hr
/-! ### strconv.Atoi -/
def atoiF : List Value → Option Value
  | [.string s] => if s.data.toList.length ≤ 18 then (Lib.atoi s.data.toList).map fun n => .tuple #[.int .i64 n, .nilIface] else none
  | _ => none
theorem atoi_ok {ρr : Ren} (L : Lays.n172 E.P ρr) {f : FuncId} (hf : ρr.f 172 = f)
    (hen : ∀ args w, (callFunc f args).run E.P w = .ok (.enter f args) w) : SigOk E f (pureSig [] atoiF) := by
  refine pureSig_calls hen fun args v hfl hv => ?_
  clear hfl
  unfold atoiF at hv
  split at hv
  · rename_i s
    split at hv
    · rename_i hs
      obtain ⟨n, hn, rfl⟩ := Option.map_eq_some_iff.1 hv
      refine ⟨rfl, fun w => ?_⟩
      have := Any.strconv_Atoi L s n hs hn w
      rw [hf] at this
      refine this.mono ?_
      rintro e w' ⟨rfl, t, rfl⟩
      exact ⟨rfl, Lib.bytesWorld_below _ _ _⟩
    · cases hv
  · cases hv
end Go.Am
