/- The abstract machine, guided: at each test, guard, operation, call, loop a guide may say what it comes to; what was met must then come to that: collected as a proposition. -/
import Derived.Test.YtgngbcmhapmokaaDoorAmDef
namespace Go.Am
open Go

inductive Gd where
  | go (n : Nat)
  | br (b : Bool)
  | val (v : Value)
  | st (v : Value) (h : AHeap)
  | code (e : AExit) (tm : Tm) (h : AHeap)
abbrev GSt := List Gd × Prop
/-- What the guide says here. -/
def gpop : List Gd → Option Gd × List Gd
  | [] => (none, [])
  | .go 0 :: r => gpop r
  | .go (n + 1) :: r => (none, .go n :: r)
  | x :: r => (some x, r)

abbrev GCall := ACallee → List Value → AHeap → GSt → Option ((Value × AHeap) × GSt)
/-- What a test met, and what was said. -/
def metBr (v : Value) (b : Bool) : Prop :=
  match v with
  | .bool c => c = b
  | _ => False
/-- What a guard met. -/
def metY (y : Option Bool) (b : Bool) : Prop :=
  match y with
  | some c => c = b
  | none => False
/-- An operation, and the heap behind it. -/
def aopH (E : AEnv) (om : Nat → Nat) (o : Oper) (ev : Operand → Value) (share : Bool) (h : AHeap) : Option (Value × AHeap) :=
  match aop E om o ev share h.get h.size h.oc with
  | some (v, e) => some (v, e.run h)
  | none => none

def gcallAt (meas : Bool) (call : GCall) (f : ACallee) (args : List Value) (h : AHeap) (x : GSt) : Option ((Value × AHeap × Foot) × GSt) :=
  if meas then
    match call f args { h with wm := h.size } x with
    | some ((v, h'), x') => some ((v, { h' with wm := if h.wm < h'.wm then h.wm else h'.wm }, ⟨true, [], [], h'.wm, h.size⟩), x')
    | none => none
  else
    match call f args h x with
    | some ((v, h'), x') => some ((v, h', Foot.none), x')
    | none => none

def gstep (E : AEnv) (om : Nat → Nat) (meas : Bool) (call : GCall) (o : Oper) (ev : Operand → Value) (share : Bool) (h : AHeap) (x : GSt) : Option ((Value × AHeap × Foot) × GSt) :=
  match o.op with
  | .call { callee := .value f, args, .. } =>
    match ev f with
    | .func (.func g) first captured => gcallAt meas call (.fn g) (first.toList ++ args.toList.map ev ++ captured.toList) h x
    | .func (.yield l) ⟨[]⟩ ⟨[]⟩ => gcallAt meas call (.yield l) (args.toList.map ev) h x
    | _ => none
  | _ =>
    match gpop x.1 with
    | (none, r) =>
      match aop E om o ev share h.get h.size h.oc with
      | some (v, e) => some ((v, e.run h, afoot o ev h.get), (r, x.2))
      | none => none
    | (some (.val v), r) => some ((v, h, afoot o ev h.get), (r, aop E om o ev share h.get h.size h.oc = some (v, .id) ∧ x.2))
    | (some (.st v h'), r) => some ((v, h', afoot o ev h.get), (r, aopH E om o ev share h = some (v, h') ∧ x.2))
    | _ => none

def gops (E : AEnv) (om : Nat → Nat) (meas : Bool) (call : GCall) (f rid : Nat) (ops : Array Oper) : List Oper → Nat → Tm → AHeap → List Foot → GSt → Option ((Tm × AHeap × List Foot) × GSt)
  | [], _, tm, h, ft, x => some ((tm, h, ft), x)
  | o :: rest, i, tm, h, ft, x =>
    match o.guard with
    | none =>
      match gstep E om meas call o (aeval tm) (E.share f rid i) h x with
      | some ((v, h', t), x') => gops E om meas call f rid ops rest (i + 1) (aputT tm o.dst v) h' (t :: ft) x'
      | none => none
    | some (j, want) =>
      match gpop x.1 with
      | (none, r) =>
        if Region.wanted o (ayielded ops tm) then
          match gstep E om meas call o (aeval tm) (E.share f rid i) h (r, x.2) with
          | some ((v, h', t), x') => gops E om meas call f rid ops rest (i + 1) (aputT tm o.dst v) h' (t :: ft) x'
          | none => none
        else gops E om meas call f rid ops rest (i + 1) (aputT tm o.dst undef) h (Foot.none :: ft) (r, x.2)
      | (some (.br true), r) =>
        match gstep E om meas call o (aeval tm) (E.share f rid i) h (r, metY (ayielded ops tm j) want ∧ x.2) with
        | some ((v, h', t), x') => gops E om meas call f rid ops rest (i + 1) (aputT tm o.dst v) h' (t :: ft) x'
        | none => none
      | (some (.br false), r) => gops E om meas call f rid ops rest (i + 1) (aputT tm o.dst undef) h (Foot.none :: ft) (r, metY (ayielded ops tm j) (!want) ∧ x.2)
      | _ => none

/-- Whether operations of open order kept out of each other's way. -/
def apartAll (n : Nat) (ps : List (Nat × Nat)) (ft : List Foot) : Bool := ps.all fun (i, j) => (footAt n ft i).apart (footAt n ft j)

def gregion (E : AEnv) (om : Nat → Nat) (call : GCall) (f rid : Nat) (ops : Array Oper) (draw : Bool) (s : ASt) (x : GSt) : Option (ASt × GSt) :=
  match gops E om draw call f rid ops ops.toList 0 s.1 s.2 [] x with
  | some ((tm, h, ft), x') =>
    if draw then
      match gpop x'.1 with
      | (none, r) => if h.oc = s.2.oc ∧ apartAll ops.size (E.pairs f rid) ft = true then some ((tm, h), (r, x'.2)) else none
      | (some (.br true), r) => some ((tm, h), (r, (h.oc = s.2.oc ∧ apartAll ops.size (E.pairs f rid) ft = true) ∧ x'.2))
      | _ => none
    else some ((tm, h), x')
  | none => none

def gloop (body : ASt → GSt → Option ((AExit × ASt) × GSt)) : Nat → ASt → GSt → Option ((AExit × ASt) × GSt)
  | 0, _, _ => none
  | k + 1, s, x =>
    match body s x with
    | some ((.normal, s'), x') => gloop body k s' x'
    | r => r
def gscope (from_ : Option Nat → ASt → GSt → Option ((AExit × ASt) × GSt)) : Nat → Option Nat → ASt → GSt → Option ((AExit × ASt) × GSt)
  | 0, _, _, _ => none
  | k + 1, l, s, x =>
    match from_ l s x with
    | some ((.goto l', s'), x') => gscope from_ k (some l') s' x'
    | r => r

/-- call: in the machine; ac: as it is. -/
def gexec (E : AEnv) (om : Nat → Nat) (call : GCall) (ac : ACall) (k : Nat) (f : Nat) : Code → Option Nat → ASt → GSt → Option ((AExit × ASt) × GSt)
  | .skip, none, s, x => some ((.normal, s), x)
  | .region id ops draw, none, s, x => match gregion E om call f id ops draw s x with
    | some (s', x') => some ((.normal, s'), x')
    | none => none
  | .seq a b, none, s, x =>
    match gexec E om call ac k f a none s x with
    | some ((.normal, s'), x') => gexec E om call ac k f b none s' x'
    | r => r
  | .seq a b, some l, s, x =>
    if (findLabel a l).isSome then
      match gexec E om call ac k f a (some l) s x with
      | some ((.normal, s'), x') => gexec E om call ac k f b none s' x'
      | r => r
    else gexec E om call ac k f b (some l) s x
  | .cond c t e, none, s, x =>
    match gpop x.1 with
    | (none, r) =>
      match aeval s.1 c with
      | .bool true => gexec E om call ac k f t none s (r, x.2)
      | .bool false => gexec E om call ac k f e none s (r, x.2)
      | _ => none
    | (some (.br true), r) => gexec E om call ac k f t none s (r, metBr (aeval s.1 c) true ∧ x.2)
    | (some (.br false), r) => gexec E om call ac k f e none s (r, metBr (aeval s.1 c) false ∧ x.2)
    | _ => none
  | .block id body, none, s, x =>
    match gexec E om call ac k f body none s x with
    | some ((.exit id', s'), x') => if id' = id then some ((.normal, s'), x') else some ((.exit id', s'), x')
    | r => r
  | .loop body, none, s, x =>
    match gpop x.1 with
    | (none, r) => gloop (gexec E om call ac k f body none) k s (r, x.2)
    | (some (.code e tm h), r) => some ((e, (tm, h)), (r, aloop (aexec E om ac k f body none) k s = some (e, (tm, h)) ∧ x.2))
    | _ => none
  | .exit id, none, s, x => some ((.exit id, s), x)
  | .scope body, none, s, x =>
    match gpop x.1 with
    | (none, r) => gscope (fun l => gexec E om call ac k f body l) k none s (r, x.2)
    | (some (.code e tm h), r) => some ((e, (tm, h)), (r, ascope (fun l => aexec E om ac k f body l) k none s = some (e, (tm, h)) ∧ x.2))
    | _ => none
  | .label _, none, s, x => some ((.normal, s), x)
  | .label l', some l, s, x => if l' = l then some ((.normal, s), x) else none
  | .goto l, none, s, x => some ((.goto l, s), x)
  | .ret, none, s, x => some ((.ret, s), x)
  | _, _, _, _ => none

def gresults (P : Program) (s : ASt) : List ResultVar → GSt → Option (List Value × GSt)
  | [], x => some ([], x)
  | .tmp t :: rs, x =>
    match gresults P s rs x with
    | some (vs, x') => some (tget 12 s.1 t :: vs, x')
    | none => none
  | .cell a t :: rs, x =>
    match gpop x.1 with
    | (none, r) =>
      match aload P s.2.get t (tget 12 s.1 a) with
      | some v => match gresults P s rs (r, x.2) with
        | some (vs, x') => some (v :: vs, x')
        | none => none
      | none => none
    | (some (.val v), r) =>
      match gresults P s rs (r, aload P s.2.get t (tget 12 s.1 a) = some v ∧ x.2) with
      | some (vs, x') => some (v :: vs, x')
      | none => none
    | _ => none
def gret (P : Program) (fn : Func) (s : ASt) (x : GSt) : Option ((Value × AHeap) × GSt) :=
  match gresults P s fn.results.toList x with
  | some ([v], x') => some ((v, s.2), x')
  | some (vs, x') => some ((.tuple ⟨vs⟩, s.2), x')
  | none => none

def gcallF (E : AEnv) (om : Nat → Nat) (call : GCall) (ac : ACall) (k : Nat) (f : FuncId) (args : List Value) (h : AHeap) (x : GSt) : Option ((Value × AHeap) × GSt) :=
  match E.sig f with
  | some s => match s args h with
    | some r => some (r, x)
    | none => none
  | none =>
    match E.P.funcs[f]? with
    | some fn =>
      match fn.body with
      | some c =>
        if args.length ≤ fn.ntmps then
          match gexec E om call ac k f c none (tini fn.ntmps args, h) x with
          | some ((.normal, s), x') => gret E.P fn s x'
          | some ((.ret, s), x') => gret E.P fn s x'
          | _ => none
        else none
      | none => none
    | none => none
/-- A call: said, or run. -/
def gsay (E : AEnv) (om : Nat → Nat) (k n : Nat) (inner : GCall) : GCall := fun c args h x =>
  match gpop x.1 with
  | (some (.st v h'), r) => some ((v, h'), (r, acall E om k n c args h = some (v, h') ∧ x.2))
  | (some (.val v), r) => some ((v, h), (r, acall E om k n c args h = some (v, h) ∧ x.2))
  | (none, r) => inner c args h (r, x.2)
  | _ => none
def gcallI (E : AEnv) (om : Nat → Nat) (k : Nat) : Nat → GCall
  | 0 => fun _ _ _ _ => none
  | n + 1 => fun c args h x =>
    match c with
    | .fn f => gcallF E om (gsay E om k n (gcallI E om k n)) (acall E om k n) k f args h x
    | .yield _ => none
def gcall (E : AEnv) (om : Nat → Nat) (k n : Nat) : GCall := gsay E om k n (gcallI E om k n)

/-! ### Words for paths -/
def bs (l : List Nat) : ByteArray := ⟨⟨l.map UInt8.ofNat⟩⟩
def fnAt (P : Program) (f : Nat) : Option Func := P.funcs[f]?
def fbody (P : Program) (f : Nat) : Code :=
  match P.funcs[f]? with
  | some fn => fn.body.getD .skip
  | none => .skip
def codeAt : List Nat → Code → Code
  | [], c => c
  | i :: p, .seq a b => codeAt p (if i = 0 then a else b)
  | i :: p, .cond _ a b => codeAt p (if i = 1 then a else b)
  | _ :: p, .block _ b => codeAt p b
  | _ :: p, .loop b => codeAt p b
  | _ :: p, .scope b => codeAt p b
  | _, c => c
def wmIn (h : AHeap) : AHeap := { h with wm := h.size }
def wmOut (h h' : AHeap) : AHeap := { h' with wm := if h.wm < h'.wm then h.wm else h'.wm }
def thenH (r : Option (Value × Eff)) (h : AHeap) : Option (Value × AHeap) :=
  match r with
  | some (v, e) => some (v, e.run h)
  | none => none
/-- One of two, by a test. -/
def pickE (b : Bool) (x y : Value) : Option (Value × Eff) := some (if b then x else y, .id)
theorem pickE_t {b : Bool} (h : b = true) (x y : Value) : pickE b x y = some (x, .id) := by subst h; rfl
theorem pickE_f {b : Bool} (h : b = false) (x y : Value) : pickE b x y = some (y, .id) := by subst h; rfl
/-- A place that does not matter. -/
def jv (l : List Value) (i : Nat) : Value := l.getD i undef
def nilE (x : Value) : Option (Value × Eff) :=
  match x with
  | .pointer (some a) => some (.pointer (some a), .id)
  | .func (.func f) a b => some (.func (.func f) a b, .id)
  | .func (.yield l) a b => some (.func (.yield l) a b, .id)
  | _ => none
def H00 (ng oc : Nat) : AHeap := ⟨List.replicate ng .dead, ng, ng, oc⟩

/-! ### What it says -/
variable {E : AEnv} {om : Nat → Nat}

def GAdds (x x' : GSt) : Prop := x'.2 → x.2
theorem GAdds.refl (x : GSt) : GAdds x x := fun h => h
theorem GAdds.trans {a b c : GSt} (h : GAdds a b) (k : GAdds b c) : GAdds a c := fun q => h (k q)

def CallG (hc : GCall) (call : ACall) : Prop := ∀ f args h x v h' x', hc f args h x = some ((v, h'), x') → GAdds x x' ∧ (x'.2 → call f args h = some (v, h'))

theorem gcallAt_ok {meas : Bool} {hc : GCall} {call : ACall} (hH : CallG hc call) {f : ACallee} {args : List Value} {h h' : AHeap} {x x' : GSt} {v : Value} {ft : Foot} (hr : gcallAt meas hc f args h x = some ((v, h', ft), x')) : GAdds x x' ∧ (x'.2 → acallAt meas call f args h = some (v, h', ft)) := by
  unfold gcallAt at hr
  unfold acallAt
  cases meas with
  | true =>
    simp only [if_true] at hr ⊢
    split at hr
    · rename_i v1 h1 x1 hq
      injection hr with hr; injection hr with e1 e2; injection e1 with e1 e3; injection e3 with e3 e4
      subst e1 e2 e3 e4
      obtain ⟨q1, q2⟩ := hH _ _ _ _ _ _ _ hq
      exact ⟨q1, fun hc => by rw [q2 hc]⟩
    · cases hr
  | false =>
    simp only [Bool.false_eq_true, if_false] at hr ⊢
    split at hr
    · rename_i v1 h1 x1 hq
      injection hr with hr; injection hr with e1 e2; injection e1 with e1 e3; injection e3 with e3 e4
      subst e1 e2 e3 e4
      obtain ⟨q1, q2⟩ := hH _ _ _ _ _ _ _ hq
      exact ⟨q1, fun hc => by rw [q2 hc]⟩
    · cases hr

theorem gstep_ok {meas : Bool} {hc : GCall} {call : ACall} (hH : CallG hc call) {o : Oper} {ev : Operand → Value} {share : Bool} {h h' : AHeap} {x x' : GSt} {v : Value} {ft : Foot} (hr : gstep E om meas hc o ev share h x = some ((v, h', ft), x')) :
    GAdds x x' ∧ (x'.2 → astep E om meas call o ev share h = some (v, h', ft)) := by
  by_cases hcall : ∃ f args argTypes, o.op = .call { callee := .value f, args := args, argTypes := argTypes }
  · obtain ⟨f, args, argTypes, hop⟩ := hcall
    unfold gstep at hr
    unfold astep
    rw [hop] at hr ⊢
    simp only at hr ⊢
    generalize ev f = w at hr ⊢
    split at hr
    · exact gcallAt_ok hH hr
    · exact gcallAt_ok hH hr
    · cases hr
  · have e0 : astep E om meas call o ev share h = (match aop E om o ev share h.get h.size h.oc with | some (v, e) => some (v, e.run h, afoot o ev h.get) | none => none) := by
      unfold astep
      split
      · rename_i f args argTypes hop; exact absurd ⟨f, args, argTypes, hop⟩ hcall
      · rfl
    rw [e0]
    unfold gstep at hr
    split at hr
    · rename_i f args argTypes hop; exact absurd ⟨f, args, argTypes, hop⟩ hcall
    · split at hr
      · split at hr
        · rename_i v1 e he
          injection hr with hr; injection hr with e1 e2; injection e1 with e1 e3; injection e3 with e3 e4
          subst e1 e2 e3 e4
          exact ⟨fun q => q, fun _ => rfl⟩
        · cases hr
      · injection hr with hr; injection hr with e1 e2; injection e1 with e1 e3; injection e3 with e3 e4
        subst e1 e2 e3 e4
        exact ⟨fun q => q.2, fun q => by rw [q.1]; rfl⟩
      · injection hr with hr; injection hr with e1 e2; injection e1 with e1 e3; injection e3 with e3 e4
        subst e1 e2 e3 e4
        refine ⟨fun q => q.2, fun q => ?_⟩
        have hq := q.1
        unfold aopH at hq
        split at hq
        · injection hq with hq; injection hq with e1 e2; subst e1 e2; rfl
        · cases hq
      · cases hr

theorem wanted_of {o : Oper} {j : Nat} {want : Bool} (h : o.guard = some (j, want)) (y : Nat → Option Bool) : Region.wanted o y = (y j == some want) := by
  unfold Region.wanted; rw [h]
theorem metY_t {y : Option Bool} {b : Bool} (h : metY y b) : (y == some b) = true := by
  unfold metY at h
  split at h
  · subst h; simp
  · cases h
theorem metY_f {y : Option Bool} {b : Bool} (h : metY y (!b)) : (y == some b) = false := by
  unfold metY at h
  split at h
  · subst h; cases b <;> rfl
  · cases h
theorem gops_ok {meas : Bool} {hc : GCall} {call : ACall} (hH : CallG hc call) {f rid : Nat} {ops : Array Oper} : ∀ (l : List Oper) (i : Nat) (tm : Tm) (h : AHeap) (ft : List Foot) (x : GSt) (r : Tm × AHeap × List Foot) (x' : GSt),
    gops E om meas hc f rid ops l i tm h ft x = some (r, x') → GAdds x x' ∧ (x'.2 → aops E om meas call f rid ops l i tm h ft = some r) := by
  intro l
  induction l with
  | nil => intro i tm h ft x r x' hr; simp only [gops] at hr; injection hr with hr; injection hr with e1 e2; subst e1 e2; exact ⟨GAdds.refl _, fun _ => rfl⟩
  | cons o l ih =>
    intro i tm h ft x r x' hr
    simp only [gops] at hr
    simp only [aops]
    split at hr
    · rename_i hg
      have hw : Region.wanted o (ayielded ops tm) = true := by unfold Region.wanted; rw [hg]
      rw [if_pos hw]
      split at hr
      · rename_i v h1 t x1 hs
        obtain ⟨q1, q2⟩ := gstep_ok hH hs
        obtain ⟨q3, q4⟩ := ih _ _ _ _ _ _ _ hr
        exact ⟨q1.trans q3, fun q => by rw [q2 (q3 q)]; exact q4 q⟩
      · cases hr
    · rename_i j want hg
      split at hr
      · split at hr
        · rename_i hw
          rw [if_pos hw]
          split at hr
          · rename_i v h1 t x1 hs
            obtain ⟨q1, q2⟩ := gstep_ok hH hs
            obtain ⟨q3, q4⟩ := ih _ _ _ _ _ _ _ hr
            exact ⟨fun q => q1 (q3 q), fun q => by rw [q2 (q3 q)]; exact q4 q⟩
          · cases hr
        · rename_i hw
          rw [if_neg hw]
          obtain ⟨q3, q4⟩ := ih _ _ _ _ _ _ _ hr
          exact ⟨q3, q4⟩
      · split at hr
        · rename_i v h1 t x1 hs
          obtain ⟨q1, q2⟩ := gstep_ok hH hs
          obtain ⟨q3, q4⟩ := ih _ _ _ _ _ _ _ hr
          refine ⟨fun q => (q1 (q3 q)).2, fun q => ?_⟩
          have hw : Region.wanted o (ayielded ops tm) = true := by rw [wanted_of hg]; exact metY_t (q1 (q3 q)).1
          rw [if_pos hw, q2 (q3 q)]; exact q4 q
        · cases hr
      · obtain ⟨q3, q4⟩ := ih _ _ _ _ _ _ _ hr
        refine ⟨fun q => (q3 q).2, fun q => ?_⟩
        have hw : Region.wanted o (ayielded ops tm) = false := by rw [wanted_of hg]; exact metY_f (q3 q).1
        rw [hw]; exact q4 q
      · cases hr

theorem gregion_ok {hc : GCall} {call : ACall} (hH : CallG hc call) {f rid : Nat} {ops : Array Oper} {draw : Bool} {s s' : ASt} {x x' : GSt} (hr : gregion E om hc f rid ops draw s x = some (s', x')) : GAdds x x' ∧ (x'.2 → aregion E om call f rid ops draw s = some s') := by
  unfold gregion at hr
  unfold aregion
  split at hr
  · rename_i tm h ft x1 ho
    obtain ⟨q1, q2⟩ := gops_ok hH _ _ _ _ _ _ _ _ ho
    split at hr
    · rename_i hd
      split at hr
      · split at hr
        · rename_i hcnd
          injection hr with hr; injection hr with e1 e2; subst e1 e2
          exact ⟨q1, fun q => by rw [q2 q]; simp only [hd, if_true]; exact if_pos hcnd⟩
        · cases hr
      · injection hr with hr; injection hr with e1 e2; subst e1 e2
        refine ⟨fun q => q1 q.2, fun q => ?_⟩
        have hcnd := q.1
        rw [q2 q.2]; simp only [hd, if_true]; exact if_pos hcnd
      · cases hr
    · rename_i hd
      injection hr with hr; injection hr with e1 e2; subst e1 e2
      exact ⟨q1, fun q => by rw [q2 q]; simp only [hd]; rfl⟩
  · cases hr

def RunG (hr : ASt → GSt → Option ((AExit × ASt) × GSt)) (run : ASt → Option (AExit × ASt)) : Prop := ∀ s x r x', hr s x = some (r, x') → GAdds x x' ∧ (x'.2 → run s = some r)

theorem gseq_ok {h1 h2 : ASt → GSt → Option ((AExit × ASt) × GSt)} {r1 r2 : ASt → Option (AExit × ASt)} (a : RunG h1 r1) (b : RunG h2 r2) :
    RunG (fun s x => match h1 s x with | some ((.normal, s'), x') => h2 s' x' | r => r) (fun s => match r1 s with | some (.normal, s') => r2 s' | r => r) := by
  intro s x r x' hr
  simp only at hr ⊢
  split at hr
  · rename_i s1 x1 hs
    obtain ⟨q1, q2⟩ := a _ _ _ _ hs
    obtain ⟨q3, q4⟩ := b _ _ _ _ hr
    exact ⟨q1.trans q3, fun q => by rw [q2 (q3 q)]; exact q4 q⟩
  · rename_i hne
    obtain ⟨q1, q2⟩ := a _ _ _ _ hr
    refine ⟨q1, fun q => ?_⟩
    rw [q2 q]
    obtain ⟨e, s1⟩ := r
    cases e with
    | normal => exact absurd hr (hne s1 x')
    | _ => rfl
theorem gloop_ok {hr : ASt → GSt → Option ((AExit × ASt) × GSt)} {run : ASt → Option (AExit × ASt)} (a : RunG hr run) : ∀ k, RunG (gloop hr k) (aloop run k) := by
  intro k
  induction k with
  | zero => intro s x r x' h; simp [gloop] at h
  | succ k ih =>
    intro s x r x' h
    have := gseq_ok a ih s x r x'
    simp only [gloop] at h
    simp only [aloop]
    exact this h
theorem gscope_ok {hr : Option Nat → ASt → GSt → Option ((AExit × ASt) × GSt)} {run : Option Nat → ASt → Option (AExit × ASt)} (a : ∀ l, RunG (hr l) (run l)) : ∀ k l, RunG (gscope hr k l) (ascope run k l) := by
  intro k
  induction k with
  | zero => intro l s x r x' h; simp [gscope] at h
  | succ k ih =>
    intro l s x r x' h
    simp only [gscope] at h
    simp only [ascope]
    split at h
    · rename_i l' s1 x1 hs
      obtain ⟨q1, q2⟩ := a l _ _ _ _ hs
      obtain ⟨q3, q4⟩ := ih (some l') _ _ _ _ h
      exact ⟨q1.trans q3, fun q => by rw [q2 (q3 q)]; exact q4 q⟩
    · rename_i hne
      obtain ⟨q1, q2⟩ := a l _ _ _ _ h
      refine ⟨q1, fun q => ?_⟩
      rw [q2 q]
      obtain ⟨e, s1⟩ := r
      cases e with
      | goto l' => exact absurd h (hne l' s1 x')
      | _ => rfl

theorem metBr_eq {v : Value} {b : Bool} (h : metBr v b) : v = .bool b := by
  unfold metBr at h
  split at h
  · rw [h]
  · cases h

theorem gexec_ok {hc : GCall} {call : ACall} (hH : CallG hc call) (k f : Nat) : ∀ (c : Code) (l : Option Nat), RunG (gexec E om hc call k f c l) (aexec E om call k f c l) := by
  intro c
  induction c with
  | region id ops draw =>
    intro l s x r x' h
    cases l with
    | none =>
      simp only [gexec] at h
      simp only [aexec]
      split at h
      · rename_i s1 x1 hq
        injection h with h; injection h with e1 e2; subst e1 e2
        obtain ⟨q1, q2⟩ := gregion_ok hH hq
        exact ⟨q1, fun q => by rw [q2 q]; rfl⟩
      · cases h
    | some l => simp [gexec] at h
  | seq a b iha ihb =>
    intro l s x r x' h
    cases l with
    | none =>
      simp only [gexec] at h
      simp only [aexec]
      exact gseq_ok (iha none) (ihb none) s x r x' h
    | some l =>
      simp only [gexec] at h
      simp only [aexec]
      split at h
      · rename_i hl
        rw [if_pos hl]
        exact gseq_ok (iha (some l)) (ihb none) s x r x' h
      · rename_i hl
        rw [if_neg hl]
        exact ihb (some l) s x r x' h
  | cond c t e iht ihe =>
    intro l s x r x' h
    cases l with
    | none =>
      simp only [gexec] at h
      simp only [aexec]
      split at h
      · split at h
        · rename_i he
          rw [he]; have q := iht none _ _ _ _ h; exact q
        · rename_i he
          rw [he]; have q := ihe none _ _ _ _ h; exact q
        · cases h
      · obtain ⟨q1, q2⟩ := iht none _ _ _ _ h
        refine ⟨fun q => (q1 q).2, fun q => ?_⟩
        rw [metBr_eq (q1 q).1]; exact q2 q
      · obtain ⟨q1, q2⟩ := ihe none _ _ _ _ h
        refine ⟨fun q => (q1 q).2, fun q => ?_⟩
        rw [metBr_eq (q1 q).1]; exact q2 q
      · cases h
    | some l => simp [gexec] at h
  | block id b ih =>
    intro l s x r x' h
    cases l with
    | none =>
      simp only [gexec] at h
      simp only [aexec]
      split at h
      · rename_i id' s1 x1 hs
        obtain ⟨q1, q2⟩ := ih none _ _ _ _ hs
        split at h
        · rename_i he
          injection h with h; injection h with e1 e2; subst e1 e2
          exact ⟨q1, fun q => by rw [q2 q]; simp only [he, if_true]⟩
        · rename_i he
          injection h with h; injection h with e1 e2; subst e1 e2
          exact ⟨q1, fun q => by rw [q2 q]; simp only [he, if_false]⟩
      · rename_i hne
        obtain ⟨q1, q2⟩ := ih none _ _ _ _ h
        refine ⟨q1, fun q => ?_⟩
        rw [q2 q]
        obtain ⟨e, s1⟩ := r
        cases e with
        | exit id' => exact absurd h (hne id' s1 x')
        | _ => rfl
    | some l => simp [gexec] at h
  | loop b ih =>
    intro l s x r x' h
    cases l with
    | none =>
      simp only [gexec] at h
      simp only [aexec]
      split at h
      · obtain ⟨q1, q2⟩ := gloop_ok (ih none) k s _ r x' h; exact ⟨q1, q2⟩
      · injection h with h; injection h with e1 e2; subst e1 e2
        exact ⟨fun q => q.2, fun q => q.1⟩
      · cases h
    | some l => simp [gexec] at h
  | scope b ih =>
    intro l s x r x' h
    cases l with
    | none =>
      simp only [gexec] at h
      simp only [aexec]
      split at h
      · obtain ⟨q1, q2⟩ := gscope_ok ih k none s _ r x' h; exact ⟨q1, q2⟩
      · injection h with h; injection h with e1 e2; subst e1 e2
        exact ⟨fun q => q.2, fun q => q.1⟩
      · cases h
    | some l => simp [gexec] at h
  | label l' =>
    intro l s x r x' h
    cases l with
    | none => simp only [gexec] at h; injection h with h; injection h with e1 e2; subst e1 e2; exact ⟨GAdds.refl _, fun _ => rfl⟩
    | some l =>
      simp only [gexec] at h
      simp only [aexec]
      split at h
      · rename_i he
        injection h with h; injection h with e1 e2; subst e1 e2
        exact ⟨GAdds.refl _, fun _ => by rw [if_pos he]⟩
      · cases h
  | _ =>
    intro l s x r x' h
    cases l <;> first
      | (simp [gexec] at h; done)
      | (simp only [gexec] at h; injection h with h; injection h with e1 e2; subst e1 e2; exact ⟨GAdds.refl _, fun _ => rfl⟩)

theorem gresults_ok {P : Program} {s : ASt} : ∀ (rs : List ResultVar) (x : GSt) (vs : List Value) (x' : GSt), gresults P s rs x = some (vs, x') → GAdds x x' ∧ (x'.2 → aresults P s rs = some vs) := by
  intro rs
  induction rs with
  | nil => intro x vs x' h; simp only [gresults] at h; injection h with h; injection h with e1 e2; subst e1 e2; exact ⟨GAdds.refl _, fun _ => rfl⟩
  | cons a rs ih =>
    intro x vs x' h
    cases a with
    | tmp t =>
      simp only [gresults] at h
      simp only [aresults, aresult]
      split at h
      · rename_i vs1 x1 hq
        injection h with h; injection h with e1 e2; subst e1 e2
        obtain ⟨q1, q2⟩ := ih _ _ _ hq
        exact ⟨q1, fun q => by rw [q2 q]⟩
      · cases h
    | cell a t =>
      simp only [gresults] at h
      simp only [aresults, aresult]
      split at h
      · split at h
        · rename_i v hv
          split at h
          · rename_i vs1 x1 hq
            injection h with h; injection h with e1 e2; subst e1 e2
            obtain ⟨q1, q2⟩ := ih _ _ _ hq
            exact ⟨q1, fun q => by rw [hv, q2 q]⟩
          · cases h
        · cases h
      · split at h
        · rename_i vs1 x1 hq
          injection h with h; injection h with e1 e2; subst e1 e2
          obtain ⟨q1, q2⟩ := ih _ _ _ hq
          exact ⟨fun q => (q1 q).2, fun q => by rw [(q1 q).1, q2 q]⟩
        · cases h
      · cases h

theorem gret_ok {P : Program} {fn : Func} {s : ASt} {x x' : GSt} {r : Value × AHeap} (h : gret P fn s x = some (r, x')) : GAdds x x' ∧ (x'.2 → aret P fn s = some r) := by
  unfold gret at h
  unfold aret
  split at h
  · rename_i v x1 hq
    injection h with h; injection h with e1 e2; subst e1 e2
    obtain ⟨q1, q2⟩ := gresults_ok _ _ _ _ hq
    exact ⟨q1, fun q => by rw [q2 q]⟩
  · rename_i vs x1 hne hq
    injection h with h; injection h with e1 e2; subst e1 e2
    obtain ⟨q1, q2⟩ := gresults_ok _ _ _ _ hq
    refine ⟨q1, fun q => ?_⟩
    rw [q2 q]
    split
    · rename_i he; injection he with he; exact (hne _ he).elim
    · rename_i he; injection he with he; rw [he]
    · rename_i he; cases he
  · cases h

theorem gcallF_ok {hc : GCall} {call : ACall} (hH : CallG hc call) {k : Nat} {f : FuncId} {args : List Value} {h : AHeap} {x x' : GSt} {r : Value × AHeap} (hr : gcallF E om hc call k f args h x = some (r, x')) : GAdds x x' ∧ (x'.2 → acallF E om call k f args h = some r) := by
  unfold gcallF at hr
  unfold acallF
  cases hs : E.sig f with
  | some sg =>
    simp only [hs] at hr ⊢
    split at hr
    · rename_i r1 hq
      injection hr with hr; injection hr with e1 e2; subst e1 e2
      exact ⟨GAdds.refl _, fun _ => hq⟩
    · cases hr
  | none =>
    simp only [hs] at hr ⊢
    cases hf : E.P.funcs[f]? with
    | none => simp only [hf] at hr; cases hr
    | some fn =>
      simp only [hf] at hr ⊢
      cases hb : fn.body with
      | none => simp only [hb] at hr; cases hr
      | some c =>
        simp only [hb] at hr ⊢
        split at hr
        · rename_i hl
          rw [if_pos hl]
          split at hr
          · rename_i s x1 hx
            obtain ⟨q1, q2⟩ := gexec_ok hH k f c none _ _ _ _ hx
            obtain ⟨q3, q4⟩ := gret_ok hr
            exact ⟨q1.trans q3, fun q => by rw [q2 (q3 q)]; exact q4 q⟩
          · rename_i s x1 hx
            obtain ⟨q1, q2⟩ := gexec_ok hH k f c none _ _ _ _ hx
            obtain ⟨q3, q4⟩ := gret_ok hr
            exact ⟨q1.trans q3, fun q => by rw [q2 (q3 q)]; exact q4 q⟩
          · cases hr
        · cases hr

theorem gsay_ok {k n : Nat} {inner : GCall} (hi : CallG inner (acall E om k n)) : CallG (gsay E om k n inner) (acall E om k n) := by
  intro f args h x v h' x' hr
  unfold gsay at hr
  split at hr
  · injection hr with hr; injection hr with e1 e2; injection e1 with e1 e3; subst e1 e2 e3
    exact ⟨fun q => q.2, fun q => q.1⟩
  · injection hr with hr; injection hr with e1 e2; injection e1 with e1 e3; subst e1 e2 e3
    exact ⟨fun q => q.2, fun q => q.1⟩
  · obtain ⟨q1, q2⟩ := hi _ _ _ _ _ _ _ hr; exact ⟨q1, q2⟩
  · cases hr
theorem gcallI_ok (k : Nat) : ∀ n, CallG (gcallI E om k n) (acall E om k n) := by
  intro n
  induction n with
  | zero => intro f args h x v h' x' hr; cases hr
  | succ n ih =>
    intro f args h x v h' x' hr
    cases f with
    | fn f => exact gcallF_ok (gsay_ok ih) hr
    | yield l => cases hr
theorem gcall_ok (k n : Nat) : CallG (gcall E om k n) (acall E om k n) := gsay_ok (gcallI_ok k n)

/-- **A path of a call**: guided; what it met holds; so it is the machine's answer. -/
theorem guided {k n : Nat} {f : FuncId} {args : List Value} {h h' : AHeap} {gs r : List Gd} {p : Prop} {v : Value} (hr : gcall E om k n (.fn f) args h (gs, True) = some ((v, h'), (r, p))) (hp : p) : acall E om k n (.fn f) args h = some (v, h') :=
  (gcall_ok k n _ _ _ _ _ _ _ hr).2 hp
/-- **A path of code**: of a loop's body, say. -/
theorem guidedC {k n f : Nat} {c : Code} {l : Option Nat} {tm tm' : Tm} {h h' : AHeap} {gs r : List Gd} {p : Prop} {e : AExit} (hr : gexec E om (gcall E om k n) (acall E om k n) k f c l (tm, h) (gs, True) = some ((e, (tm', h')), (r, p))) (hp : p) : aexec E om (acall E om k n) k f c l (tm, h) = some (e, (tm', h')) :=
  (gexec_ok (gcall_ok k n) k f c l _ _ _ _ hr).2 hp
end Go.Am
