/- The abstract machine, told what it cannot know: at a test that stands open a hint says the branch, at an operation that stands open a hint says what it comes to; what was met and what was said are collected. -/
import Derived.Test.YtgngbcmhapmokaaDoorAmDef
namespace Go.Am
open Go

inductive Hint where
  | go
  | br (b : Bool)
  | op (v : Value) (e : Eff)
inductive Cst where
  | br (v : Value) (b : Bool)
  | op (r : Option (Value × Eff)) (v : Value) (e : Eff)
  | want (w : Bool) (b : Bool)
def Cst.holds : Cst → Prop
  | .br v b => v = .bool b
  | .op r v e => r = some (v, e)
  | .want w b => w = b
def Csts : List Cst → Prop
  | [] => True
  | c :: cs => c.holds ∧ Csts cs
abbrev HS := List Hint × List Cst

/-- Where hints are asked for: in whose tests; at which operations. -/
structure Asks where
  test : FuncId → Bool
  op : FuncId → Nat → Nat → Bool
  want : FuncId → Nat → Nat → Bool

abbrev HCall := ACallee → List Value → AHeap → HS → Option ((Value × AHeap) × HS)

def hcallAt (meas : Bool) (call : HCall) (f : ACallee) (args : List Value) (h : AHeap) (x : HS) : Option ((Value × AHeap × Foot) × HS) :=
  if meas then
    match call f args { h with wm := h.size } x with
    | some ((v, h'), x') => some ((v, { h' with wm := if h.wm < h'.wm then h.wm else h'.wm }, ⟨true, [], [], h'.wm, h.size⟩), x')
    | none => none
  else
    match call f args h x with
    | some ((v, h'), x') => some ((v, h', Foot.none), x')
    | none => none

def hstep (E : AEnv) (om : Nat → Nat) (meas : Bool) (call : HCall) (o : Oper) (ev : Operand → Value) (share : Bool) (ask : Bool) (h : AHeap) (x : HS) : Option ((Value × AHeap × Foot) × HS) :=
  match o.op with
  | .call { callee := .value f, args, .. } =>
    match ev f with
    | .func (.func g) first captured => hcallAt meas call (.fn g) (first.toList ++ args.toList.map ev ++ captured.toList) h x
    | .func (.yield l) ⟨[]⟩ ⟨[]⟩ => hcallAt meas call (.yield l) (args.toList.map ev) h x
    | _ => none
  | _ =>
    if ask then
      match x.1 with
      | .op v e :: r => some ((v, e.run h, afoot o ev h.get), (r, .op (aop E om o ev share h.get h.size h.oc) v e :: x.2))
      | .go :: r => match aop E om o ev share h.get h.size h.oc with
        | some (v, e) => some ((v, e.run h, afoot o ev h.get), (r, x.2))
        | none => none
      | _ => none
    else
      match aop E om o ev share h.get h.size h.oc with
      | some (v, e) => some ((v, e.run h, afoot o ev h.get), x)
      | none => none

def hops (E : AEnv) (A : Asks) (om : Nat → Nat) (meas : Bool) (call : HCall) (f rid : Nat) (ops : Array Oper) : List Oper → Nat → Tm → AHeap → List Foot → HS → Option ((Tm × AHeap × List Foot) × HS)
  | [], _, tm, h, ft, x => some ((tm, h, ft), x)
  | o :: rest, i, tm, h, ft, x =>
    if A.want f rid i then
      match x.1 with
      | .br b :: r =>
        match b with
        | true =>
          match hstep E om meas call o (aeval tm) (E.share f rid i) (A.op f rid i) h (r, .want (Region.wanted o (ayielded ops tm)) true :: x.2) with
          | some ((v, h', t), x') => hops E A om meas call f rid ops rest (i + 1) (aputT tm o.dst v) h' (t :: ft) x'
          | none => none
        | false => hops E A om meas call f rid ops rest (i + 1) (aputT tm o.dst undef) h (Foot.none :: ft) (r, .want (Region.wanted o (ayielded ops tm)) false :: x.2)
      | _ => none
    else
    if Region.wanted o (ayielded ops tm) then
      match hstep E om meas call o (aeval tm) (E.share f rid i) (A.op f rid i) h x with
      | some ((v, h', t), x') => hops E A om meas call f rid ops rest (i + 1) (aputT tm o.dst v) h' (t :: ft) x'
      | none => none
    else hops E A om meas call f rid ops rest (i + 1) (aputT tm o.dst undef) h (Foot.none :: ft) x

def hregion (E : AEnv) (A : Asks) (om : Nat → Nat) (call : HCall) (f rid : Nat) (ops : Array Oper) (draw : Bool) (s : ASt) (x : HS) : Option (ASt × HS) :=
  match hops E A om draw call f rid ops ops.toList 0 s.1 s.2 [] x with
  | some ((tm, h, ft), x') =>
    if draw then
      (if h.oc = s.2.oc ∧ ((E.pairs f rid).all fun (i, j) => (footAt ops.size ft i).apart (footAt ops.size ft j)) = true then some ((tm, h), x') else none)
    else some ((tm, h), x')
  | none => none

def hloop (body : ASt → HS → Option ((AExit × ASt) × HS)) : Nat → ASt → HS → Option ((AExit × ASt) × HS)
  | 0, _, _ => none
  | k + 1, s, x =>
    match body s x with
    | some ((.normal, s'), x') => hloop body k s' x'
    | r => r
def hscope (from_ : Option Nat → ASt → HS → Option ((AExit × ASt) × HS)) : Nat → Option Nat → ASt → HS → Option ((AExit × ASt) × HS)
  | 0, _, _, _ => none
  | k + 1, l, s, x =>
    match from_ l s x with
    | some ((.goto l', s'), x') => hscope from_ k (some l') s' x'
    | r => r

def hexec (E : AEnv) (A : Asks) (om : Nat → Nat) (call : HCall) (k : Nat) (f : Nat) : Code → Option Nat → ASt → HS → Option ((AExit × ASt) × HS)
  | .skip, none, s, x => some ((.normal, s), x)
  | .region id ops draw, none, s, x => match hregion E A om call f id ops draw s x with
    | some (s', x') => some ((.normal, s'), x')
    | none => none
  | .seq a b, none, s, x =>
    match hexec E A om call k f a none s x with
    | some ((.normal, s'), x') => hexec E A om call k f b none s' x'
    | r => r
  | .seq a b, some l, s, x =>
    if (findLabel a l).isSome then
      match hexec E A om call k f a (some l) s x with
      | some ((.normal, s'), x') => hexec E A om call k f b none s' x'
      | r => r
    else hexec E A om call k f b (some l) s x
  | .cond c t e, none, s, x =>
    if A.test f then
      match x.1 with
      | .br b :: r =>
        match b with
        | true => hexec E A om call k f t none s (r, .br (aeval s.1 c) true :: x.2)
        | false => hexec E A om call k f e none s (r, .br (aeval s.1 c) false :: x.2)
      | .go :: r =>
        match aeval s.1 c with
        | .bool true => hexec E A om call k f t none s (r, x.2)
        | .bool false => hexec E A om call k f e none s (r, x.2)
        | _ => none
      | _ => none
    else
      match aeval s.1 c with
      | .bool true => hexec E A om call k f t none s x
      | .bool false => hexec E A om call k f e none s x
      | _ => none
  | .block id body, none, s, x =>
    match hexec E A om call k f body none s x with
    | some ((.exit id', s'), x') => if id' = id then some ((.normal, s'), x') else some ((.exit id', s'), x')
    | r => r
  | .loop body, none, s, x => hloop (hexec E A om call k f body none) k s x
  | .exit id, none, s, x => some ((.exit id, s), x)
  | .scope body, none, s, x => hscope (fun l => hexec E A om call k f body l) k none s x
  | .label _, none, s, x => some ((.normal, s), x)
  | .label l', some l, s, x => if l' = l then some ((.normal, s), x) else none
  | .goto l, none, s, x => some ((.goto l, s), x)
  | .ret, none, s, x => some ((.ret, s), x)
  | _, _, _, _ => none

def hcallF (E : AEnv) (A : Asks) (om : Nat → Nat) (call : HCall) (k : Nat) (f : FuncId) (args : List Value) (h : AHeap) (x : HS) : Option ((Value × AHeap) × HS) :=
  match E.sig f with
  | some s => match s args h with
    | some r => some (r, x)
    | none => none
  | none =>
    match E.P.funcs[f]? with
    | some fn =>
      match fn.body with
      | some c =>
        if args.length ≤ fn.ntmps then
          match hexec E A om call k f c none (tini fn.ntmps args, h) x with
          | some ((.normal, s), x') => match aret E.P fn s with
            | some r => some (r, x')
            | none => none
          | some ((.ret, s), x') => match aret E.P fn s with
            | some r => some (r, x')
            | none => none
          | _ => none
        else none
      | none => none
    | none => none

def hcall (E : AEnv) (A : Asks) (om : Nat → Nat) (k : Nat) : Nat → HCall
  | 0, _, _, _, _ => none
  | n + 1, .fn f, args, h, x => hcallF E A om (hcall E A om k n) k f args h x
  | _ + 1, .yield _, _, _, _ => none

/-! ### What it says -/
variable {E : AEnv} {A : Asks} {om : Nat → Nat}

/-- More was collected, nothing was lost. -/
def Adds (x x' : HS) : Prop := Csts x'.2 → Csts x.2
theorem Adds.refl (x : HS) : Adds x x := fun h => h
theorem Adds.trans {a b c : HS} (h : Adds a b) (k : Adds b c) : Adds a c := fun q => h (k q)

def CallH (hc : HCall) (call : ACall) : Prop := ∀ f args h x v h' x', hc f args h x = some ((v, h'), x') → Adds x x' ∧ (Csts x'.2 → call f args h = some (v, h'))

theorem hcallAt_ok {meas : Bool} {hc : HCall} {call : ACall} (hH : CallH hc call) {f : ACallee} {args : List Value} {h h' : AHeap} {x x' : HS} {v : Value} {ft : Foot} (hr : hcallAt meas hc f args h x = some ((v, h', ft), x')) : Adds x x' ∧ (Csts x'.2 → acallAt meas call f args h = some (v, h', ft)) := by
  unfold hcallAt at hr
  unfold acallAt
  cases meas with
  | true =>
    simp only [if_true] at hr ⊢
    split at hr
    · rename_i v1 h1 x1 hq
      injection hr with hr; injection hr with e1 e2; injection e1 with e1 e3; injection e3 with e3 e4
      subst e1 e2 e3 e4
      obtain ⟨q1, q2⟩ := hH _ _ _ _ _ _ _ hq
      exact ⟨q1, fun hc => by rw [q2 hc]⟩
    · cases hr
  | false =>
    simp only [Bool.false_eq_true, if_false] at hr ⊢
    split at hr
    · rename_i v1 h1 x1 hq
      injection hr with hr; injection hr with e1 e2; injection e1 with e1 e3; injection e3 with e3 e4
      subst e1 e2 e3 e4
      obtain ⟨q1, q2⟩ := hH _ _ _ _ _ _ _ hq
      exact ⟨q1, fun hc => by rw [q2 hc]⟩
    · cases hr

theorem hstep_ok {meas : Bool} {hc : HCall} {call : ACall} (hH : CallH hc call) {o : Oper} {ev : Operand → Value} {share ask : Bool} {h h' : AHeap} {x x' : HS} {v : Value} {ft : Foot} (hr : hstep E om meas hc o ev share ask h x = some ((v, h', ft), x')) :
    Adds x x' ∧ (Csts x'.2 → astep E om meas call o ev share h = some (v, h', ft)) := by
  by_cases hcall : ∃ f args argTypes, o.op = .call { callee := .value f, args := args, argTypes := argTypes }
  · obtain ⟨f, args, argTypes, hop⟩ := hcall
    unfold hstep at hr
    unfold astep
    rw [hop] at hr ⊢
    simp only at hr ⊢
    generalize ev f = w at hr ⊢
    split at hr
    · exact hcallAt_ok hH hr
    · exact hcallAt_ok hH hr
    · cases hr
  · have e0 : astep E om meas call o ev share h = (match aop E om o ev share h.get h.size h.oc with | some (v, e) => some (v, e.run h, afoot o ev h.get) | none => none) := by
      unfold astep
      split
      · rename_i f args argTypes hop; exact absurd ⟨f, args, argTypes, hop⟩ hcall
      · rfl
    rw [e0]
    unfold hstep at hr
    split at hr
    · rename_i f args argTypes hop; exact absurd ⟨f, args, argTypes, hop⟩ hcall
    · split at hr
      · split at hr
        · rename_i v1 e r hx
          injection hr with hr; injection hr with e1 e2; injection e1 with e1 e3; injection e3 with e3 e4
          subst e1 e2 e3 e4
          refine ⟨fun q => q.2, fun q => ?_⟩
          have : aop E om o ev share h.get h.size h.oc = some (v1, e) := q.1
          rw [this]
        · split at hr
          · rename_i v1 e he
            injection hr with hr; injection hr with e1 e2; injection e1 with e1 e3; injection e3 with e3 e4
            subst e1 e2 e3 e4
            exact ⟨fun q => q, fun _ => rfl⟩
          · cases hr
        · cases hr
      · split at hr
        · rename_i v1 e he
          injection hr with hr; injection hr with e1 e2; injection e1 with e1 e3; injection e3 with e3 e4
          subst e1 e2 e3 e4
          exact ⟨fun q => q, fun _ => rfl⟩
        · cases hr

theorem hops_ok {meas : Bool} {hc : HCall} {call : ACall} (hH : CallH hc call) {f rid : Nat} {ops : Array Oper} : ∀ (l : List Oper) (i : Nat) (tm : Tm) (h : AHeap) (ft : List Foot) (x : HS) (r : Tm × AHeap × List Foot) (x' : HS),
    hops E A om meas hc f rid ops l i tm h ft x = some (r, x') → Adds x x' ∧ (Csts x'.2 → aops E om meas call f rid ops l i tm h ft = some r) := by
  intro l
  induction l with
  | nil => intro i tm h ft x r x' hr; simp only [hops] at hr; injection hr with hr; injection hr with e1 e2; subst e1 e2; exact ⟨Adds.refl _, fun _ => rfl⟩
  | cons o l ih =>
    intro i tm h ft x r x' hr
    simp only [hops] at hr
    simp only [aops]
    split at hr
    · split at hr
      · split at hr
        · split at hr
          · rename_i v h1 t x1 hs
            obtain ⟨q1, q2⟩ := hstep_ok hH hs
            obtain ⟨q3, q4⟩ := ih _ _ _ _ _ _ _ hr
            refine ⟨fun q => (q1 (q3 q)).2, fun q => ?_⟩
            have hw : Region.wanted o (ayielded ops tm) = true := (q1 (q3 q)).1
            rw [if_pos hw, q2 (q3 q)]; exact q4 q
          · cases hr
        · obtain ⟨q3, q4⟩ := ih _ _ _ _ _ _ _ hr
          refine ⟨fun q => (q3 q).2, fun q => ?_⟩
          have hw : Region.wanted o (ayielded ops tm) = false := (q3 q).1
          rw [hw]; exact q4 q
      · cases hr
    split at hr
    · rename_i hw
      rw [if_pos hw]
      split at hr
      · rename_i v h1 t x1 hs
        obtain ⟨q1, q2⟩ := hstep_ok hH hs
        obtain ⟨q3, q4⟩ := ih _ _ _ _ _ _ _ hr
        exact ⟨q1.trans q3, fun q => by rw [q2 (q3 q)]; exact q4 q⟩
      · cases hr
    · rename_i hw
      rw [if_neg hw]
      exact ih _ _ _ _ _ _ _ hr

theorem hregion_ok {hc : HCall} {call : ACall} (hH : CallH hc call) {f rid : Nat} {ops : Array Oper} {draw : Bool} {s s' : ASt} {x x' : HS} (hr : hregion E A om hc f rid ops draw s x = some (s', x')) : Adds x x' ∧ (Csts x'.2 → aregion E om call f rid ops draw s = some s') := by
  unfold hregion at hr
  unfold aregion
  split at hr
  · rename_i tm h ft x1 ho
    obtain ⟨q1, q2⟩ := hops_ok hH _ _ _ _ _ _ _ _ ho
    split at hr
    · rename_i hd
      split at hr
      · rename_i hcnd
        injection hr with hr; injection hr with e1 e2; subst e1 e2
        exact ⟨q1, fun q => by rw [q2 q]; simp only [hd, if_true]; rw [if_pos hcnd]⟩
      · cases hr
    · rename_i hd
      injection hr with hr; injection hr with e1 e2; subst e1 e2
      exact ⟨q1, fun q => by rw [q2 q]; simp only [hd]; rfl⟩
  · cases hr

def RunH (hr : ASt → HS → Option ((AExit × ASt) × HS)) (run : ASt → Option (AExit × ASt)) : Prop := ∀ s x r x', hr s x = some (r, x') → Adds x x' ∧ (Csts x'.2 → run s = some r)

theorem hseq_ok {h1 h2 : ASt → HS → Option ((AExit × ASt) × HS)} {r1 r2 : ASt → Option (AExit × ASt)} (a : RunH h1 r1) (b : RunH h2 r2) :
    RunH (fun s x => match h1 s x with | some ((.normal, s'), x') => h2 s' x' | r => r) (fun s => match r1 s with | some (.normal, s') => r2 s' | r => r) := by
  intro s x r x' hr
  simp only at hr ⊢
  split at hr
  · rename_i s1 x1 hs
    obtain ⟨q1, q2⟩ := a _ _ _ _ hs
    obtain ⟨q3, q4⟩ := b _ _ _ _ hr
    exact ⟨q1.trans q3, fun q => by rw [q2 (q3 q)]; exact q4 q⟩
  · rename_i hne
    obtain ⟨q1, q2⟩ := a _ _ _ _ hr
    refine ⟨q1, fun q => ?_⟩
    rw [q2 q]
    obtain ⟨e, s1⟩ := r
    cases e with
    | normal => exact absurd hr (hne s1 x')
    | _ => rfl
theorem hloop_ok {hr : ASt → HS → Option ((AExit × ASt) × HS)} {run : ASt → Option (AExit × ASt)} (a : RunH hr run) : ∀ k, RunH (hloop hr k) (aloop run k) := by
  intro k
  induction k with
  | zero => intro s x r x' h; simp [hloop] at h
  | succ k ih =>
    intro s x r x' h
    have := hseq_ok a ih s x r x'
    simp only [hloop] at h
    simp only [aloop]
    exact this h
theorem hscope_ok {hr : Option Nat → ASt → HS → Option ((AExit × ASt) × HS)} {run : Option Nat → ASt → Option (AExit × ASt)} (a : ∀ l, RunH (hr l) (run l)) : ∀ k l, RunH (hscope hr k l) (ascope run k l) := by
  intro k
  induction k with
  | zero => intro l s x r x' h; simp [hscope] at h
  | succ k ih =>
    intro l s x r x' h
    simp only [hscope] at h
    simp only [ascope]
    split at h
    · rename_i l' s1 x1 hs
      obtain ⟨q1, q2⟩ := a l _ _ _ _ hs
      obtain ⟨q3, q4⟩ := ih (some l') _ _ _ _ h
      exact ⟨q1.trans q3, fun q => by rw [q2 (q3 q)]; exact q4 q⟩
    · rename_i hne
      obtain ⟨q1, q2⟩ := a l _ _ _ _ h
      refine ⟨q1, fun q => ?_⟩
      rw [q2 q]
      obtain ⟨e, s1⟩ := r
      cases e with
      | goto l' => exact absurd h (hne l' s1 x')
      | _ => rfl

theorem hexec_ok {hc : HCall} {call : ACall} (hH : CallH hc call) (k f : Nat) : ∀ (c : Code) (l : Option Nat), RunH (hexec E A om hc k f c l) (aexec E om call k f c l) := by
  intro c
  induction c with
  | region id ops draw =>
    intro l s x r x' h
    cases l with
    | none =>
      simp only [hexec] at h
      simp only [aexec]
      split at h
      · rename_i s1 x1 hq
        injection h with h; injection h with e1 e2; subst e1 e2
        obtain ⟨q1, q2⟩ := hregion_ok hH hq
        exact ⟨q1, fun q => by rw [q2 q]; rfl⟩
      · cases h
    | some l => simp [hexec] at h
  | seq a b iha ihb =>
    intro l s x r x' h
    cases l with
    | none =>
      simp only [hexec] at h
      simp only [aexec]
      exact hseq_ok (iha none) (ihb none) s x r x' h
    | some l =>
      simp only [hexec] at h
      simp only [aexec]
      split at h
      · rename_i hl
        rw [if_pos hl]
        exact hseq_ok (iha (some l)) (ihb none) s x r x' h
      · rename_i hl
        rw [if_neg hl]
        exact ihb (some l) s x r x' h
  | cond c t e iht ihe =>
    intro l s x r x' h
    cases l with
    | none =>
      simp only [hexec] at h
      simp only [aexec]
      split at h
      · split at h
        · split at h
          · obtain ⟨q1, q2⟩ := iht none _ _ _ _ h
            refine ⟨fun q => (q1 q).2, fun q => ?_⟩
            have : aeval s.1 c = .bool true := (q1 q).1
            rw [this]; exact q2 q
          · obtain ⟨q1, q2⟩ := ihe none _ _ _ _ h
            refine ⟨fun q => (q1 q).2, fun q => ?_⟩
            have : aeval s.1 c = .bool false := (q1 q).1
            rw [this]; exact q2 q
        · split at h
          · rename_i he
            rw [he]; have q := iht none _ _ _ _ h; exact q
          · rename_i he
            rw [he]; have q := ihe none _ _ _ _ h; exact q
          · cases h
        · cases h
      · split at h
        · rename_i he
          rw [he]; exact iht none s x r x' h
        · rename_i he
          rw [he]; exact ihe none s x r x' h
        · cases h
    | some l => simp [hexec] at h
  | block id b ih =>
    intro l s x r x' h
    cases l with
    | none =>
      simp only [hexec] at h
      simp only [aexec]
      split at h
      · rename_i id' s1 x1 hs
        obtain ⟨q1, q2⟩ := ih none _ _ _ _ hs
        split at h
        · rename_i he
          injection h with h; injection h with e1 e2; subst e1 e2
          exact ⟨q1, fun q => by rw [q2 q]; simp only [he, if_true]⟩
        · rename_i he
          injection h with h; injection h with e1 e2; subst e1 e2
          exact ⟨q1, fun q => by rw [q2 q]; simp only [he, if_false]⟩
      · rename_i hne
        obtain ⟨q1, q2⟩ := ih none _ _ _ _ h
        refine ⟨q1, fun q => ?_⟩
        rw [q2 q]
        obtain ⟨e, s1⟩ := r
        cases e with
        | exit id' => exact absurd h (hne id' s1 x')
        | _ => rfl
    | some l => simp [hexec] at h
  | loop b ih =>
    intro l s x r x' h
    cases l with
    | none =>
      simp only [hexec] at h
      simp only [aexec]
      exact hloop_ok (ih none) k s x r x' h
    | some l => simp [hexec] at h
  | scope b ih =>
    intro l s x r x' h
    cases l with
    | none =>
      simp only [hexec] at h
      simp only [aexec]
      exact hscope_ok ih k none s x r x' h
    | some l => simp [hexec] at h
  | label l' =>
    intro l s x r x' h
    cases l with
    | none => simp only [hexec] at h; injection h with h; injection h with e1 e2; subst e1 e2; exact ⟨Adds.refl _, fun _ => rfl⟩
    | some l =>
      simp only [hexec] at h
      simp only [aexec]
      split at h
      · rename_i he
        injection h with h; injection h with e1 e2; subst e1 e2
        exact ⟨Adds.refl _, fun _ => by rw [if_pos he]⟩
      · cases h
  | _ =>
    intro l s x r x' h
    cases l <;> first
      | (simp [hexec] at h; done)
      | (simp only [hexec] at h; injection h with h; injection h with e1 e2; subst e1 e2; exact ⟨Adds.refl _, fun _ => rfl⟩)

theorem hcallF_ok {hc : HCall} {call : ACall} (hH : CallH hc call) {k : Nat} {f : FuncId} {args : List Value} {h : AHeap} {x x' : HS} {r : Value × AHeap} (hr : hcallF E A om hc k f args h x = some (r, x')) : Adds x x' ∧ (Csts x'.2 → acallF E om call k f args h = some r) := by
  unfold hcallF at hr
  unfold acallF
  cases hs : E.sig f with
  | some sg =>
    simp only [hs] at hr ⊢
    split at hr
    · rename_i r1 hq
      injection hr with hr; injection hr with e1 e2; subst e1 e2
      exact ⟨Adds.refl _, fun _ => hq⟩
    · cases hr
  | none =>
    simp only [hs] at hr ⊢
    cases hf : E.P.funcs[f]? with
    | none => simp only [hf] at hr; cases hr
    | some fn =>
      simp only [hf] at hr ⊢
      cases hb : fn.body with
      | none => simp only [hb] at hr; cases hr
      | some c =>
        simp only [hb] at hr ⊢
        split at hr
        · rename_i hl
          rw [if_pos hl]
          split at hr
          · rename_i s x1 hx
            obtain ⟨q1, q2⟩ := hexec_ok hH k f c none _ _ _ _ hx
            split at hr
            · rename_i r1 hq
              injection hr with hr; injection hr with e1 e2; subst e1 e2
              exact ⟨q1, fun q => by rw [q2 q]; exact hq⟩
            · cases hr
          · rename_i s x1 hx
            obtain ⟨q1, q2⟩ := hexec_ok hH k f c none _ _ _ _ hx
            split at hr
            · rename_i r1 hq
              injection hr with hr; injection hr with e1 e2; subst e1 e2
              exact ⟨q1, fun q => by rw [q2 q]; exact hq⟩
            · cases hr
          · cases hr
        · cases hr

theorem hcall_ok (k : Nat) : ∀ n, CallH (hcall E A om k n) (acall E om k n) := by
  intro n
  induction n with
  | zero => intro f args h x v h' x' hr; simp [hcall] at hr
  | succ n ih =>
    intro f args h x v h' x' hr
    cases f with
    | fn f => exact hcallF_ok ih hr
    | yield l => simp [hcall] at hr

/-- **A path**: the machine, told; what it collected holds; so it is the machine's answer. -/
theorem told {k n : Nat} {f : FuncId} {args : List Value} {h : AHeap} {hs : List Hint} {cs : List Cst} {v : Value} {h' : AHeap} (hr : hcall E A om k n (.fn f) args h (hs, []) = some ((v, h'), ([], cs))) (hc : Csts cs) : acall E om k n (.fn f) args h = some (v, h') :=
  (hcall_ok k n _ _ _ _ _ _ _ hr).2 hc
end Go.Am
