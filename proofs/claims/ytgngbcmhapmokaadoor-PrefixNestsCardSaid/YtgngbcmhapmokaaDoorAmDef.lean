/- The abstract machine: a functional interpreter of the model's Code over a small heap of its own. Definitions alone. -/
import Derived.Calls
import Derived.LoopN
import Derived.ScopeJumps
import Derived.Orders
namespace Go.Am
open Go

/-! ### A frame's values: a tree -/
inductive Tm where
  | e
  | n (v : Value) (l r : Tm)
def tget : Nat → Tm → Nat → Value
  | 0, _, _ => undef
  | _ + 1, .e, _ => undef
  | k + 1, .n v l r, i => if i = 0 then v else if i % 2 = 1 then tget k l (i / 2) else tget k r (i / 2 - 1)
def tset : Nat → Tm → Nat → Value → Tm
  | 0, t, _, _ => t
  | k + 1, .e, i, x => if i = 0 then .n x .e .e else if i % 2 = 1 then .n undef (tset k .e (i / 2) x) .e else .n undef .e (tset k .e (i / 2 - 1) x)
  | k + 1, .n v l r, i, x => if i = 0 then .n x l r else if i % 2 = 1 then .n v (tset k l (i / 2) x) r else .n v l (tset k r (i / 2 - 1) x)
def tof : List Value → Nat → Tm → Tm
  | [], _, t => t
  | v :: vs, i, t => tof vs (i + 1) (tset 12 t i v)
/-- A frame at its start: all its places are laid. -/
def tini (n : Nat) (args : List Value) : Tm := tof args 0 (tof (List.replicate n undef) 0 .e)

inductive AExit where
  | normal | exit (id : Nat) | goto (l : Nat) | ret
  deriving DecidableEq, Inhabited
def AExit.code : AExit → Code
  | .normal => .skip
  | .exit id => .exit id
  | .goto l => .goto l
  | .ret => .ret

/-! ### The abstract heap -/
inductive AObj where
  | cells (cs : List Value) (esz : Nat) (own : Bool)
  | map (es : List MapEntry) (clock : Nat)
  | strIter (s : ByteArray) (pos : Nat)
  | mapIter (m : Option Nat) (since : Nat) (seen : List Nat) (stepped : Nat)
  /-- a range over a function: st: 0 ready, 1 busy, 2 done, 3 exhausted -/
  | loop (f : FuncId) (tm : Tm) (ps : List Tmp) (assign body : Code) (st : Nat) (pend : Option AExit)
  | defer
  | dead
  deriving Inhabited

structure AHeap where
  objs : List AObj
  size : Nat
  wm : Nat
  oc : Nat
  deriving Inhabited

abbrev Look := Nat → Option AObj
def AHeap.get (h : AHeap) (b : Nat) : Option AObj := if b < h.size then h.objs[h.size - 1 - b]? else none
def AHeap.push (h : AHeap) (o : AObj) : AHeap := { h with objs := o :: h.objs, size := h.size + 1 }
def AHeap.put (h : AHeap) (b : Nat) (o : AObj) : AHeap := { h with objs := h.objs.set (h.size - 1 - b) o, wm := if b < h.wm then b else h.wm }

/-- What an operation does to the heap: one object is turned; one is made. -/
structure Eff where
  upd : Option (Nat × AObj)
  new : Option AObj
  tick : Bool
def Eff.id : Eff := ⟨none, none, false⟩
def Eff.mk1 (o : AObj) : Eff := ⟨none, some o, false⟩
def Eff.up (b : Nat) (o : AObj) : Eff := ⟨some (b, o), none, false⟩
def Eff.run (e : Eff) (h : AHeap) : AHeap :=
  let h1 := match e.upd with | some (b, o) => h.put b o | none => h
  let h2 := match e.new with | some o => h1.push o | none => h1
  if e.tick then { h2 with oc := h2.oc + 1 } else h2

def apt (b off : Nat) : Value := .pointer (some ⟨b, off, none⟩)
/-- A slice: in the capacity's place stands the size of an element (0: the capacity is 0). -/
def asl (b off len e : Nat) : Value := .slice (some ⟨b, off, none⟩) len e

/-- A value without addresses, of one cell. -/
def flat0 : Value → Bool
  | .bool _ | .int _ _ | .float _ _ | .complex _ _ _ | .string _ | .pointer none | .slice none 0 0 | .map none | .chan none | .nilFunc | .nilIface => true
  | _ => false
def flat1 : Value → Bool
  | .agg cs => cs.toList.all flat0
  | v => flat0 v
/-- What may stand in a cell. -/
def cellOk : Value → Bool
  | .agg _ | .tuple _ => false
  | _ => true

/-! ### Types -/
def azero (P : Program) (t : TypeId) : Option Value :=
  match (P.info? t).bind (·.zero) with
  | some z => if flat1 z then some z else none
  | none => none
def asize (P : Program) (t : TypeId) : Option Nat := (P.info? t).map (·.size)
def aisAgg : Option TypeDesc → Option Bool
  | some (.struct _) => some true
  | some (.array _ _) => some true
  | some _ => some false
  | none => none

/-! ### Whole numbers, texts -/
def awrap (k : IntKind) (n : Int) : Int :=
  match k with
  | .u8 => n % 256
  | .u16 => n % 65536
  | .u32 => n % 4294967296
  | .u64 => n % 18446744073709551616
  | .i64 => if 9223372036854775808 ≤ n % 18446744073709551616 then n % 18446744073709551616 - 18446744073709551616 else n % 18446744073709551616
  | .i32 => if 2147483648 ≤ n % 4294967296 then n % 4294967296 - 4294967296 else n % 4294967296
  | .i16 => if 32768 ≤ n % 65536 then n % 65536 - 65536 else n % 65536
  | .i8 => if 128 ≤ n % 256 then n % 256 - 256 else n % 256
def aint (op : BinOp) (k : IntKind) (a b : Int) : Option Value :=
  match op with
  | .add => some (.int k (awrap k (a + b)))
  | .sub => some (.int k (awrap k (a - b)))
  | .mul => some (.int k (awrap k (a * b)))
  | .quo => if b = 0 then none else some (.int k (awrap k (a.tdiv b)))
  | .rem => if b = 0 then none else some (.int k (a.tmod b))
  | .and => some (.int k (awrap k ((BitVec.ofInt k.bits a &&& BitVec.ofInt k.bits b).toNat)))
  | .or => some (.int k (awrap k ((BitVec.ofInt k.bits a ||| BitVec.ofInt k.bits b).toNat)))
  | .xor => some (.int k (awrap k ((BitVec.ofInt k.bits a ^^^ BitVec.ofInt k.bits b).toNat)))
  | .andNot => some (.int k (awrap k ((BitVec.ofInt k.bits a &&& ~~~ BitVec.ofInt k.bits b).toNat)))
  | .eql => some (.bool (a == b))
  | .neq => some (.bool (a != b))
  | .lss => some (.bool (decide (a < b)))
  | .leq => some (.bool (decide (a ≤ b)))
  | .gtr => some (.bool (decide (a > b)))
  | .geq => some (.bool (decide (a ≥ b)))
  | _ => none

def eqBytes (a b : ByteArray) : Bool := a.data.toList == b.data.toList
def astr (op : BinOp) (a b : ByteArray) : Option Value :=
  match op with
  | .add => if a.size + b.size ≤ 9223372036854775807 then some (.string ⟨⟨a.data.toList ++ b.data.toList⟩⟩) else none
  | .eql => some (.bool (eqBytes a b))
  | .neq => some (.bool (!eqBytes a b))
  | .lss => some (.bool (Op.bytesLess a.data.toList b.data.toList))
  | .leq => some (.bool (Op.bytesLess a.data.toList b.data.toList || eqBytes a b))
  | .gtr => some (.bool (!(Op.bytesLess a.data.toList b.data.toList || eqBytes a b)))
  | .geq => some (.bool (!Op.bytesLess a.data.toList b.data.toList))
  | _ => none

/-- A part of cells. -/
def apart (agg : Bool) (n : Nat) (cs : List Value) (off : Nat) : Option Value :=
  if agg then (if off + n ≤ cs.length then some (.agg ⟨(cs.drop off).take n⟩) else none) else cs[off]?
def apartT (P : Program) (t : TypeId) (cs : List Value) (off : Nat) : Option Value :=
  match aisAgg (P.underlying t), asize P t with
  | some b, some n => apart b n cs off
  | _, _ => none

/-! ### Equality -/
def aeqItems (eq : Value → Value → Option Bool) (P : Program) (elem : TypeId) (n : Nat) (xs ys : List Value) : Nat → Nat → Option Bool
  | 0, _ => some true
  | k + 1, i =>
    match apartT P elem xs (i * n), apartT P elem ys (i * n) with
    | some a, some b =>
      match eq a b with
      | some true => aeqItems eq P elem n xs ys k (i + 1)
      | r => r
    | _, _ => none
def aeqFields (eq : TypeId → Value → Value → Option Bool) (P : Program) (xs ys : List Value) : List Field → Option Bool
  | [] => some true
  | f :: fs =>
    if f.name = "_" then none else
    match apartT P f.type xs f.offset, apartT P f.type ys f.offset with
    | some a, some b =>
      match eq f.type a b with
      | some true => aeqFields eq P xs ys fs
      | r => r
    | _, _ => none
def aeqT (P : Program) (ok : TypeId → Bool) : Nat → TypeId → Value → Value → Option Bool
  | 0, _, _, _ => none
  | d + 1, t, x, y =>
    match P.underlying t, x, y with
    | some .bool, .bool a, .bool b => some (a == b)
    | some (.int _), .int k a, .int k' b => if k = k' then some (a == b) else none
    | some .string, .string a, .string b => some (eqBytes a b)
    | some (.struct fields), .agg xs, .agg ys => if ok t then aeqFields (aeqT P ok d) P xs.toList ys.toList fields.toList else none
    | some (.array len elem), .agg xs, .agg ys =>
      if ok t then (match asize P elem with | some n => aeqItems (aeqT P ok d elem) P elem n xs.toList ys.toList len 0 | none => none) else none
    | _, _, _ => none
/-- '==' at the top: nil's, too. -/
def aeq (P : Program) (ok : TypeId → Bool) (t : TypeId) (x y : Value) (lit : Bool) : Option Bool :=
  match P.underlying t, x, y with
  | some (.interface _), .nilIface, .nilIface => if lit then some true else none
  | some (.interface _), .nilIface, .iface _ _ => some false
  | some (.interface _), .iface _ _, .nilIface => some false
  | some (.interface _), .iface t _, .iface t' _ => if t ≠ t' then some false else none
  | some (.pointer _), .pointer none, .pointer b => some b.isNone
  | some (.pointer _), .pointer (some _), .pointer none => some false
  | some (.slice _), .slice none _ _, .slice b _ _ => some b.isNone
  | some (.slice _), .slice (some _) _ _, .slice none _ _ => some false
  | some (.map _ _), .map none, .map b => some b.isNone
  | some (.map _ _), .map (some _), .map none => some false
  | some (.func _ _ _), .nilFunc, .nilFunc => some true
  | some (.func _ _ _), .nilFunc, .func _ _ _ => some false
  | some (.func _ _ _), .func _ _ _, .nilFunc => some false
  | _, _, _ => aeqT P ok 12 t x y

def isLit : Operand → Bool
  | .const _ => true
  | _ => false

def abin (P : Program) (ok : TypeId → Bool) (op : BinOp) (t : TypeId) (x y : Value) (lit : Bool) : Option Value :=
  match op, x, y with
  | .shl, .int k a, .int _ b => if b < 0 then none else some (.int k (awrap k (a * 2 ^ (Nat.min b.toNat k.bits))))
  | .shr, .int k a, .int _ b => if b < 0 then none else some (.int k (a.fdiv (2 ^ (Nat.min b.toNat k.bits))))
  | op, .int k a, .int k' b => if k = k' then aint op k a b else none
  | op, .string a, .string b => astr op a b
  | .eql, x, y => (aeq P ok t x y lit).map .bool
  | .neq, x, y => (aeq P ok t x y lit).map fun b => .bool (!b)
  | _, _, _ => none

def aun (op : UnOp) (x : Value) : Option Value :=
  match op, x with
  | .neg, .int k n => aint .sub k 0 n
  | .xor, .int k n => aint .xor k (if k.signed then -1 else k.max) n
  | .not, .bool b => some (.bool (!b))
  | _, _ => none

/-! ### Building -/
def afill (place : Nat → Option (Nat × Nat)) (cells : List Value) : List (Nat × Value) → Option (List Value)
  | [] => some cells
  | (i, v) :: rest =>
    match place i with
    | none => none
    | some (off, size) =>
      if v.cells.size ≠ size || off + v.cells.size > cells.length then none
      else afill place (cells.take off ++ v.cells.toList ++ cells.drop (off + v.cells.size)) rest
def aplaces (P : Program) : List Field → Option (List (Nat × Nat))
  | [] => some []
  | f :: fs =>
    match asize P f.type, aplaces P fs with
    | some n, some r => some ((f.offset, n) :: r)
    | _, _ => none
def abuild (P : Program) (t : TypeId) (parts : List (Nat × Value)) : Option Value :=
  match azero P t, P.underlying t with
  | some z, some (.struct fields) =>
    match aplaces P fields.toList with
    | some pl => (afill (pl[·]?) z.cells.toList parts).map fun cs => .agg ⟨cs⟩
    | none => none
  | some z, some (.array _ elem) =>
    match asize P elem with
    | some n => (afill (fun i => some (i * n, n)) z.cells.toList parts).map fun cs => .agg ⟨cs⟩
    | none => none
  | _, _ => none
/-- So many elements of a zero value's cells. -/
def azeros (z : List Value) : Nat → List Value
  | 0 => []
  | n + 1 => z ++ azeros z n

/-! ### Memory -/
def aload (P : Program) (look : Look) (t : TypeId) (p : Value) : Option Value :=
  match p with
  | .pointer (some ⟨b, off, none⟩) =>
    match look b with
    | some (.cells cs _ _) => apartT P t cs off
    | _ => none
  | _ => none
def aput (cs : List Value) (off : Nat) (vs : List Value) : List Value := cs.take off ++ vs ++ cs.drop (off + vs.length)
def astore (P : Program) (look : Look) (t : TypeId) (p v : Value) : Option Eff :=
  match p with
  | .pointer (some ⟨b, off, none⟩) =>
    match look b, asize P t with
    | some (.cells cs esz true), some n =>
      if v.cells.size = n ∧ off + n ≤ cs.length ∧ v.cells.toList.all cellOk = true then some (.up b (.cells (aput cs off v.cells.toList) esz true)) else none
    | _, _ => none
  | _ => none

/-- The cells of the first n elements of size s; a text's bytes. -/
def afirst (look : Look) (s n : Nat) : Value → Option (List Value)
  | .slice none _ _ => if n = 0 then some [] else none
  | .slice (some ⟨b, off, none⟩) len c =>
    if n * s = 0 then some [] else
    if len < n ∨ c = 0 then none else
    match look b with
    | some (.cells cs _ _) => if off + n * s ≤ cs.length then some ((cs.drop off).take (n * s)) else none
    | _ => none
  | .string x => some ((x.data.toList.take n).map fun c => .int .u8 c.toNat)
  | _ => none
def alen : Value → Option Nat
  | .slice _ n _ => some n
  | .string s => some s.size
  | _ => none

/-- What is appended: how many elements, and their cells. -/
def aappended (P : Program) (look : Look) (elem : TypeId) (info : TypeInfo) (xd : TypeDesc) (x : Value) : Option (Nat × List Value) :=
  match xd, x with
  | .int _, .int _ n =>
    if 0 ≤ n ∧ n ≤ 281474976710656 ∧ n * info.bytes ≤ 281474976710656 then
      match azero P elem with
      | some z => if z.cells.size = info.size then some (n.toNat, azeros z.cells.toList n.toNat) else none
      | none => none
    else none
  | .int _, _ => none
  | _, x =>
    match alen x with
    | some n => (afirst look info.size n x).map fun l => (n, l)
    | none => none

def appFits (P : Program) (elem : TypeId) (info : TypeInfo) (len n : Nat) (new : List Value) : Bool :=
  decide (0 < info.bytes) && decide ((len + n) * info.bytes ≤ 140737488355328) && decide (0 < info.size) &&
    (match azero P elem with | some z => z.cells.size == info.size | none => false) && new.length == n * info.size && new.all cellOk
/-- 'append'. share: the old row stays readable, and neither is written any more. -/
def aappend (P : Program) (share : Bool) (look : Look) (nx : Nat) (sT xT : TypeId) (s x : Value) : Option (Value × Eff) :=
  match P.underlying sT, s with
  | some (.slice elem), .slice base len c =>
    match P.info? elem, P.underlying xT with
    | some info, some xd =>
      match aappended P look elem info xd x with
      | none => none
      | some (n, new) =>
        if appFits P elem info len n new = true then
          if n = 0 then some (s, .id) else
          if c = 0 then (if len = 0 then some (asl nx 0 n info.size, .mk1 (.cells new info.size true)) else none) else
          match base with
          | some ⟨b, off, none⟩ =>
            match look b with
            | some (.cells cs esz true) =>
              if esz = info.size ∧ c = info.size ∧ off + len * esz ≤ cs.length then
                if share then
                  if off + len * esz = cs.length then some (asl nx 0 (len + n) esz, ⟨some (b, .cells cs esz false), some (.cells ((cs.drop off).take (len * esz) ++ new) esz false), false⟩) else none
                else some (asl nx 0 (len + n) esz, ⟨some (b, .dead), some (.cells ((cs.drop off).take (len * esz) ++ new) esz true), false⟩)
              else none
            | _ => none
          | _ => none
        else none
    | _, _ => none
  | _, _ => none

def acopy (P : Program) (look : Look) (dT : TypeId) (d s : Value) : Option (Value × Eff) :=
  match P.underlying dT, d, alen s with
  | some (.slice elem), .slice base dLen c, some sLen =>
    match asize P elem with
    | some size =>
      match afirst look size (Nat.min sLen dLen) s with
      | some new =>
        if new.isEmpty then some (.int .i64 (Nat.min sLen dLen : Nat), .id) else
        if c = 0 then none else
        match base with
        | some ⟨b, off, none⟩ =>
          match look b with
          | some (.cells cs esz true) => if off + new.length ≤ cs.length ∧ new.all cellOk = true then some (.int .i64 (Nat.min sLen dLen : Nat), .up b (.cells (aput cs off new) esz true)) else none
          | _ => none
        | _ => none
      | none => none
    | none => none
  | _, _, _ => none

def aclear (P : Program) (look : Look) (t : TypeId) (x : Value) : Option (Value × Eff) :=
  match P.underlying t, x with
  | some (.slice _), .slice none _ _ => some (.tuple #[], .id)
  | some (.slice _), .slice (some _) 0 _ => some (.tuple #[], .id)
  | some (.slice elem), .slice (some ⟨b, off, none⟩) (n + 1) c =>
    if c = 0 then none else
    match azero P elem, look b with
    | some z, some (.cells cs esz true) =>
      if off + (azeros z.cells.toList (n + 1)).length ≤ cs.length ∧ z.cells.toList.all cellOk = true then some (.tuple #[], .up b (.cells (aput cs off (azeros z.cells.toList (n + 1))) esz true)) else none
    | _, _ => none
  | _, _ => none

/-! ### Cuts -/
def abound (v : Option Value) (dflt y : Nat) : Option Nat :=
  match v with
  | none => some dflt
  | some (.int _ i) => if 0 ≤ i ∧ i ≤ y then some i.toNat else none
  | some _ => none
def aslice (P : Program) (look : Look) (t : TypeId) (x : Value) (lo hi mx : Option Value) : Option Value :=
  match P.underlying t, x with
  | some .string, .string s =>
    match mx, abound hi s.size s.size with
    | none, some hh => match abound lo 0 hh with
      | some l => some (.string ⟨⟨(s.data.toList.drop l).take (hh - l)⟩⟩)
      | none => none
    | _, _ => none
  | some (.slice elem), .slice a len c =>
    match asize P elem, mx with
    | some size, none =>
      match abound hi len len with
      | some hh => match abound lo 0 hh with
        | some l =>
          if l = 0 then some (.slice a hh c) else
          (match a with
           | some ⟨b, off, none⟩ => if c = size then some (.slice (some ⟨b, off + l * size, none⟩) (hh - l) c) else none
           | _ => none)
        | none => none
      | none => none
    | some _, some (.int _ m) =>   -- s[:0:0]
      if m = 0 ∧ lo.isNone = true then (match hi with | some (.int _ j) => if j = 0 then some (.slice a 0 0) else none | _ => none) else none
    | _, _ => none
  | some (.array n elem), .pointer (some ⟨b, off, none⟩) =>
    match asize P elem, mx with
    | some size, none =>
      match abound hi n n with
      | some hh => match abound lo 0 hh with
        | some l =>
          match look b with
          | some (.cells cs esz _) => if 0 < size ∧ (esz ≠ size ∨ off + n * size ≤ cs.length) then some (.slice (some ⟨b, off + l * size, none⟩) (hh - l) size) else none
          | _ => none
        | none => none
      | none => none
    | _, _ => none
  | _, _ => none

def aindex (P : Program) (t : TypeId) (x i : Value) : Option Value :=
  match i with
  | .int _ i =>
    match P.underlying t, x with
    | some (.array len elem), .agg cs =>
      match asize P elem with
      | some n => if 0 ≤ i ∧ i < len then apartT P elem cs.toList (i.toNat * n) else none
      | none => none
    | some .string, .string s =>
      if 0 ≤ i then (s.data.toList[i.toNat]?).map fun b => .int .u8 b.toNat else none
    | _, _ => none
  | _ => none
def aindexAt (P : Program) (t : TypeId) (x i : Value) : Option Value :=
  match i with
  | .int _ i =>
    match P.underlying t, x with
    | some (.array len elem), .pointer (some ⟨b, off, none⟩) =>
      match asize P elem with
      | some n => if 0 ≤ i ∧ i < len then some (apt b (off + i.toNat * n)) else none
      | none => none
    | some (.slice elem), .slice (some ⟨b, off, none⟩) len _ =>
      match asize P elem with
      | some n => if 0 ≤ i ∧ i < len then some (apt b (off + i.toNat * n)) else none
      | none => none
    | _, _ => none
  | _ => none
def afieldAt (P : Program) (s : TypeId) (p : Value) (f : Nat) : Option Value :=
  match P.underlying s, p with
  | some (.struct fields), .pointer (some ⟨b, off, none⟩) =>
    match fields[f]? with
    | some fd => match asize P fd.type with
      | some n => if n = 0 then none else some (apt b (off + fd.offset))
      | none => none
    | none => none
  | _, _ => none
def afield (P : Program) (t : TypeId) (x : Value) (f : Nat) : Option Value :=
  match P.underlying t, x with
  | some (.struct fields), .agg cs =>
    match fields[f]? with
    | some fd => apartT P fd.type cs.toList fd.offset
    | none => none
  | _, _ => none

/-! ### Conversions -/
def abytes : List Value → Option (List UInt8)
  | [] => some []
  | .int .u8 n :: r => (abytes r).map fun l => UInt8.ofNat n.toNat :: l
  | _ :: _ => none
def aconv (P : Program) (look : Look) (nx : Nat) (src dst : TypeId) (x : Value) : Option (Value × Eff) :=
  match P.underlying src, P.underlying dst, x with
  | some _, some (.int k), .int _ n => some (.int k (awrap k n), .id)
  | some _, some .string, .int _ n => some (.string (Utf8.encode n), .id)
  | some _, some .string, .string s => some (.string s, .id)
  | some _, some (.slice e), .string s =>
    match P.underlying e, asize P e with
    | some (.int .u8), some 1 => if s.size ≤ 140737488355328 then some (asl nx 0 s.size 1, .mk1 (.cells (s.data.toList.map fun c => .int .u8 c.toNat) 1 true)) else none
    | _, _ => none
  | some (.slice e), some .string, .slice a n c =>
    match P.underlying e with
    | some (.int .u8) =>
      match afirst look 1 n (.slice a n c) with
      | some cs => (abytes cs).map fun l => (.string ⟨⟨l⟩⟩, .id)
      | none => none
    | _ => none
  | _, _, _ => none

/-! ### Maps -/
def akey (P : Program) (ok : TypeId → Bool) (kt : TypeId) (k : Value) : Bool :=
  flat1 k && (match aeqT P ok 12 kt k k with
    | some true => true
    | _ => false)
def fsame0 : Value → Value → Bool
  | .bool a, .bool b => a == b
  | .int j a, .int k b => j == k && a == b
  | .string a, .string b => eqBytes a b
  | _, _ => false
def fsameL : List Value → List Value → Bool
  | [], [] => true
  | a :: as, b :: bs => fsame0 a b && fsameL as bs
  | _, _ => false
def fsame : Value → Value → Bool
  | .agg a, .agg b => fsameL a.toList b.toList
  | x, y => fsame0 x y
def asameAt (es : List MapEntry) (i : Nat) (k : Value) : Bool :=
  match es[i]? with
  | some e => fsame e.key k
  | none => false
def afind (P : Program) (ok : TypeId → Bool) (kt : TypeId) (k : Value) : List MapEntry → Nat → Option (Option (Nat × Value))
  | [], _ => some none
  | e :: es, i =>
    match aeqT P ok 12 kt k e.key with
    | some true => some (some (i, e.val))
    | some false => afind P ok kt k es (i + 1)
    | none => none
def aentries (look : Look) : Value → Option (List MapEntry)
  | .map none => some []
  | .map (some r) => match look r with | some (.map es _) => some es | _ => none
  | _ => none
def alookup (P : Program) (ok : TypeId → Bool) (look : Look) (t : TypeId) (m k : Value) (commaOk : Bool) : Option Value :=
  match P.underlying t with
  | some (.map kt elem) =>
    match aentries look m, azero P elem with
    | some es, some z =>
      if akey P ok kt k then
        match afind P ok kt k es 0 with
        | some (some (_, v)) => some (if commaOk then .tuple #[v, .bool true] else v)
        | some none => some (if commaOk then .tuple #[z, .bool false] else z)
        | none => none
      else none
    | _, _ => none
  | _ => none
def aupdate (P : Program) (ok : TypeId → Bool) (look : Look) (t : TypeId) (m k v : Value) : Option Eff :=
  match P.underlying t, m with
  | some (.map kt _), .map (some r) =>
    match look r with
    | some (.map es clock) =>
      if akey P ok kt k then
        match afind P ok kt k es 0 with
        | some (some (i, _)) => if asameAt es i k then some (.up r (.map (es.modify i fun e => { e with key := k, val := v }) clock)) else none
        | some none => some (.up r (.map (es ++ [{ key := k, val := v, born := clock }]) (clock + 1)))
        | none => none
      else none
    | _ => none
  | _, _ => none
def amapEntry (P : Program) (ok : TypeId → Bool) (look : Look) (t : TypeId) (m k : Value) : Option (Value × Eff) :=
  match P.underlying t, m with
  | some (.map kt elem), .map (some r) =>
    match look r, azero P elem with
    | some (.map es clock), some z =>
      if akey P ok kt k then
        match afind P ok kt k es 0 with
        | some (some (i, v)) => if asameAt es i k then some (.tuple #[v, .int .i64 (((es[i]?).map (·.born)).getD 0 : Nat)], .up r (.map (es.modify i fun e => { e with key := k }) clock)) else none
        | some none => some (.tuple #[z, .int .i64 clock], .up r (.map (es ++ [{ key := k, val := z, born := clock }]) (clock + 1)))
        | none => none
      else none
    | _, _ => none
  | _, _ => none
def aentryStore (look : Look) (m s v : Value) : Option Eff :=
  match m, s with
  | .map (some r), .int _ born =>
    match look r with
    | some (.map es clock) =>
      match es.findIdx? (fun e => (e.born : Int) == born) with
      | some i => some (.up r (.map (es.modify i fun e => { e with val := v }) clock))
      | none => none
    | _ => none
  | _, _ => none
def adelete (P : Program) (ok : TypeId → Bool) (look : Look) (t : TypeId) (m k : Value) : Option (Value × Eff) :=
  match P.underlying t, m with
  | some (.map kt _), .map none => if akey P ok kt k then some (.tuple #[], .id) else none
  | some (.map kt _), .map (some r) =>
    match look r with
    | some (.map es clock) =>
      if akey P ok kt k then
        match afind P ok kt k es 0 with
        | some (some (i, _)) => some (.tuple #[], .up r (.map (es.eraseIdx i) clock))
        | some none => some (.tuple #[], .up r (.map es clock))
        | none => none
      else none
    | _ => none
  | _, _ => none

def arange (P : Program) (look : Look) (nx : Nat) (t : TypeId) (x : Value) : Option (Value × Eff) :=
  match P.underlying t, x with
  | some .string, .string s => some (apt nx 0, .mk1 (.strIter s 0))
  | some (.map _ _), .map none => some (apt nx 0, .mk1 (.mapIter none 0 [] 0))
  | some (.map _ _), .map (some m) =>
    match look m with
    | some (.map _ clock) => some (apt nx 0, .mk1 (.mapIter (some m) clock [] clock))
    | _ => none
  | _, _ => none
/-- What may come next of a map's entries: none: it is over. -/
def acands (es : List MapEntry) (since : Nat) (seen : List Nat) : List (Option MapEntry) :=
  let left := es.filter fun e => !seen.contains e.born
  let old := left.filter fun e => decide (e.born < since)
  let new := left.filter fun e => decide (since ≤ e.born)
  (if old.isEmpty then [none] else []) ++ (old ++ new).map some
def anext (om : Nat → Nat) (look : Look) (oc : Nat) (it : Value) (isString : Bool) : Option (Value × Eff) :=
  match it with
  | .pointer (some ⟨r, 0, none⟩) =>
    match look r, isString with
    | some (.strIter s pos), true =>
      if pos < s.size then
        some (.tuple #[.bool true, .int .i64 pos, .int .i32 (Utf8.decode s pos).1], .up r (.strIter s (pos + (Utf8.decode s pos).2)))
      else some (.tuple #[.bool false], .id)
    | some (.mapIter none _ _ _), false => some (.tuple #[.bool false], .id)
    | some (.mapIter (some m) since seen last), false =>
      match look m with
      | some (.map es clock) =>
        if !seen.isEmpty && !es.isEmpty && es.all (fun e => decide (last ≤ e.born)) then none else
        match (acands es since seen)[if (acands es since seen).length ≤ 1 then 0 else om oc % (acands es since seen).length]? with
        | some (some e) => some (.tuple #[.bool true, e.key, e.val], ⟨some (r, .mapIter (some m) since (seen ++ [e.born]) clock), none, !decide ((acands es since seen).length ≤ 1)⟩)
        | some none => some (.tuple #[.bool false], ⟨none, none, !decide ((acands es since seen).length ≤ 1)⟩)
        | none => none
      | _ => none
    | _, _ => none
  | _ => none

def aentry (look : Look) (it : Value) : Option Value :=
  match it with
  | .pointer (some ⟨r, 0, none⟩) =>
    match look r with
    | some (.mapIter (some m) _ seen stepped) =>
      match seen.getLast?, look m with
      | some stamp, some (.map es clock) =>
        if clock = stepped then (match es.find? (fun e => e.born == stamp) with | some e => some (.tuple #[e.key, e.val]) | none => none) else none
      | _, _ => none
    | _ => none
  | _ => none

/-! ### The environment -/
inductive ACallee where
  | fn (f : FuncId)
  | yield (l : Nat)
abbrev ACall := ACallee → List Value → AHeap → Option (Value × AHeap)
structure AEnv where
  P : Program
  /-- types whose '==' goes cell by cell -/
  eqOk : TypeId → Bool
  /-- functions that are told by a plain function -/
  sig : FuncId → Option (List Value → AHeap → Option (Value × AHeap))
  /-- appends that leave the old row readable -/
  share : FuncId → Nat → Nat → Bool
  /-- pairs of operations of open order that must not touch each other -/
  pairs : FuncId → Nat → List (Nat × Nat)
  /-- how many globals are mapped -/
  ng : Nat

def aeval (tm : Tm) : Operand → Value
  | .tmp t => tget 12 tm t
  | .const v => v
  | .global g => apt g 0
  | .func f => .func (.func f) #[] #[]

def amakeSlice (P : Program) (nx : Nat) (t : TypeId) (l c : Value) : Option (Value × Eff) :=
  match P.underlying t, l, c with
  | some (.slice elem), .int _ l, .int _ c =>
    match P.info? elem, azero P elem with
    | some info, some z =>
      if 0 ≤ l ∧ l ≤ c ∧ c ≤ 281474976710656 ∧ info.bytes * c ≤ 140737488355328 ∧ z.cells.size = info.size ∧ 0 < info.size then
        some (asl nx 0 l.toNat (if c = 0 then 0 else info.size), .mk1 (.cells (azeros z.cells.toList c.toNat) info.size true))
      else none
    | _, _ => none
  | _, _, _ => none

def alenOf (P : Program) (look : Look) (t : TypeId) (x : Value) : Option Value :=
  match P.underlying t, x with
  | some .string, .string s => some (.int .i64 s.size)
  | some (.array n _), .agg _ => some (.int .i64 n)
  | some (.slice _), .slice _ n _ => some (.int .i64 n)
  | some (.map _ _), x => (aentries look x).map fun es => .int .i64 es.length
  | _, _ => none

def abuiltin (E : AEnv) (b : Builtin) (argTypes : List TypeId) (args : List Value) (share : Bool) (look : Look) (nx : Nat) : Option (Value × Eff) :=
  match b, args, argTypes with
  | .append, [s, x], [sT, xT] => aappend E.P share look nx sT xT s x
  | .copy, [d, s], [dT, _] => acopy E.P look dT d s
  | .len, [x], [t] => (alenOf E.P look t x).map fun v => (v, .id)
  | .cap, [.slice none 0 0], [t] => match E.P.underlying t with | some (.slice _) => some (.int .i64 0, .id) | _ => none
  | .min, [.int k x, .int _ y], _ => some (.int k (if y < x then y else x), .id)
  | .max, [.int k x, .int _ y], _ => some (.int k (if x < y then y else x), .id)
  | .clear, [x], [t] => aclear E.P look t x
  | .delete, [m, k], [t, _] => adelete E.P E.eqOk look t m k
  | _, _, _ => none

def pureE (x : Option Value) : Option (Value × Eff) := x.map fun v => (v, .id)
def unitE (x : Option Eff) : Option (Value × Eff) := x.map fun e => (undef, e)

/-- One operation that is no call of a function. -/
def aop (E : AEnv) (om : Nat → Nat) (o : Oper) (ev : Operand → Value) (share : Bool) (look : Look) (nx oc : Nat) : Option (Value × Eff) :=
  match o.op with
  | .move x => some (ev x, .id)
  | .assign x => some (ev x, .id)
  | .pick c a b => match ev c with | .bool t => some (if t then ev a else ev b, .id) | _ => none
  | .alloc e => (azero E.P e).map fun z => (apt nx 0, .mk1 (.cells z.cells.toList 0 true))
  | .box _ x => some (apt nx 0, .mk1 (.cells (ev x).cells.toList 0 true))
  | .build t parts => pureE (abuild E.P t (parts.toList.map fun (i, x) => (i, ev x)))
  | .buildSlice t len parts =>
    match E.P.underlying t with
    | some (.slice elem) =>
      match asize E.P elem, azero E.P elem with
      | some size, some z =>
        if len * size ≤ 16777216 ∧ z.cells.size = size ∧ 0 < size then
          (afill (fun i => some (i * size, size)) (azeros z.cells.toList len) (parts.toList.map fun (i, x) => (i, ev x))).map fun cs =>
            (asl nx 0 len (if len = 0 then 0 else size), .mk1 (.cells cs size true))
        else none
      | _, _ => none
    | _ => none
  | .load t a => pureE (aload E.P look t (ev a))
  | .store t a x => unitE (astore E.P look t (ev a) (ev x))
  | .nilCheck x =>
    match ev x with
    | .pointer (some a) => some (.pointer (some a), .id)
    | .func (.func f) a b => some (.func (.func f) a b, .id)
    | .func (.yield l) a b => some (.func (.yield l) a b, .id)
    | _ => none
  | .binOp op t x y _ => pureE (abin E.P E.eqOk op t (ev x) (ev y) (isLit x || isLit y))
  | .unOp op _ x => pureE (aun op (ev x))
  | .convert src dst x => aconv E.P look nx src dst (ev x)
  | .makeInterface t x => match E.P.underlying t with | some (.interface _) => none | some _ => some (.iface t (ev x), .id) | none => none
  | .makeFunc (.func f) first captured => some (.func (.func f) (first.map ev) (captured.map ev), .id)
  | .makeMap _ none => some (.map (some nx), .mk1 (.map [] 0))
  | .makeMap t (some r) => match E.P.underlying t, ev r with | some (.map _ _), .int _ _ => some (.map (some nx), .mk1 (.map [] 0)) | _, _ => none
  | .makeSlice t l c => amakeSlice E.P nx t (ev l) (ev c)
  | .slice t x lo hi mx => pureE (aslice E.P look t (ev x) (lo.map ev) (hi.map ev) (mx.map ev))
  | .fieldAddr s x f => pureE (afieldAt E.P s (ev x) f)
  | .field t x f => pureE (afield E.P t (ev x) f)
  | .indexAddr t x i => pureE (aindexAt E.P t (ev x) (ev i))
  | .index t x i => pureE (aindex E.P t (ev x) (ev i))
  | .lookup t m k ok => pureE (alookup E.P E.eqOk look t (ev m) (ev k) ok)
  | .mapUpdate t m k x => unitE (aupdate E.P E.eqOk look t (ev m) (ev k) (ev x))
  | .insert t m k x => unitE (aupdate E.P E.eqOk look t (ev m) (ev k) (ev x))
  | .mapEntry t m k => amapEntry E.P E.eqOk look t (ev m) (ev k)
  | .entryStore _ m s x => unitE (aentryStore look (ev m) (ev s) (ev x))
  | .range t x => arange E.P look nx t (ev x)
  | .next it isString => anext om look oc (ev it) isString
  | .entry it => pureE (aentry look (ev it))
  | .extract t i => match ev t with | .tuple vs => pureE (vs.toList[i]?) | _ => none
  | .call { callee := .builtin b, args, argTypes } => abuiltin E b argTypes.toList (args.toList.map ev) share look nx
  | _ => none

/-- What an operation that is no call of a function reads and writes of old memory. -/
structure Foot where
  rAll : Bool
  rs : List Nat
  ws : List Nat
  wlo : Nat
  whi : Nat
def Foot.none : Foot := ⟨false, [], [], 0, 0⟩
def blockOf : Value → List Nat
  | .pointer (some a) => [a.block]
  | .slice (some a) _ c => if c = 0 then [] else [a.block]
  | .map (some r) => [r]
  | _ => []
def mapOf (look : Look) : Value → List Nat
  | .pointer (some a) => match look a.block with | some (.mapIter (some m) _ _ _) => [m] | _ => []
  | _ => []
def afoot (o : Oper) (ev : Operand → Value) (look : Look) : Foot :=
  match o.op with
  | .load _ a => ⟨false, blockOf (ev a), [], 0, 0⟩
  | .store _ a _ => ⟨false, [], blockOf (ev a), 0, 0⟩
  | .convert _ _ x => ⟨false, blockOf (ev x), [], 0, 0⟩
  | .lookup _ m _ _ => ⟨false, blockOf (ev m), [], 0, 0⟩
  | .mapUpdate _ m _ _ | .insert _ m _ _ | .mapEntry _ m _ | .entryStore _ m _ _ => ⟨false, [], blockOf (ev m), 0, 0⟩
  | .range _ x => ⟨false, blockOf (ev x), [], 0, 0⟩
  | .slice _ x _ _ _ => (match ev x with | .pointer (some a) => ⟨false, [a.block], [], 0, 0⟩ | _ => Foot.none)
  | .next it _ => ⟨false, mapOf look (ev it), blockOf (ev it), 0, 0⟩
  | .entry it => ⟨false, mapOf look (ev it) ++ blockOf (ev it), [], 0, 0⟩
  | .call { callee := .builtin b, args, .. } =>
    match b, args.toList.map ev with
    | .append, [s, x] => ⟨false, blockOf x, blockOf s, 0, 0⟩
    | .copy, [d, s] => ⟨false, blockOf s, blockOf d, 0, 0⟩
    | .clear, [x] => ⟨false, [], blockOf x, 0, 0⟩
    | .delete, m :: _ => ⟨false, [], blockOf m, 0, 0⟩
    | .len, [.map (some r)] => ⟨false, [r], [], 0, 0⟩
    | _, _ => Foot.none
  | _ => Foot.none
def Foot.writes (a : Foot) : Bool := !a.ws.isEmpty || decide (a.wlo < a.whi)
def Foot.over (a b : Foot) : Bool :=
  !a.writes || (!b.rAll && (b.rs ++ b.ws).all fun x => !a.ws.contains x && !(decide (a.wlo ≤ x) && decide (x < a.whi)))
def Foot.apart (a b : Foot) : Bool := a.over b && b.over a

def ayielded (ops : Array Oper) (tm : Tm) (j : Nat) : Option Bool :=
  match ((ops[j]?).bind (·.dst)).map (tget 12 tm) with
  | some (.bool b) => some b
  | _ => none
def aputT (tm : Tm) (dst : Option Tmp) (v : Value) : Tm :=
  match dst with
  | some d => tset 12 tm d v
  | none => tm

/-- A call of a function, its writes measured if that is asked. -/
def acallAt (meas : Bool) (call : ACall) (f : ACallee) (args : List Value) (h : AHeap) : Option (Value × AHeap × Foot) :=
  if meas then
    match call f args { h with wm := h.size } with
    | some (v, h') => some (v, { h' with wm := if h.wm < h'.wm then h.wm else h'.wm }, ⟨true, [], [], h'.wm, h.size⟩)
    | none => none
  else
    match call f args h with
    | some (v, h') => some (v, h', Foot.none)
    | none => none

def astep (E : AEnv) (om : Nat → Nat) (meas : Bool) (call : ACall) (o : Oper) (ev : Operand → Value) (share : Bool) (h : AHeap) : Option (Value × AHeap × Foot) :=
  match o.op with
  | .call { callee := .value f, args, .. } =>
    match ev f with
    | .func (.func g) first captured => acallAt meas call (.fn g) (first.toList ++ args.toList.map ev ++ captured.toList) h
    | .func (.yield l) ⟨[]⟩ ⟨[]⟩ => acallAt meas call (.yield l) (args.toList.map ev) h
    | _ => none
  | _ =>
    match aop E om o ev share h.get h.size h.oc with
    | some (v, e) => some (v, e.run h, afoot o ev h.get)
    | none => none

def aops (E : AEnv) (om : Nat → Nat) (meas : Bool) (call : ACall) (f rid : Nat) (ops : Array Oper) : List Oper → Nat → Tm → AHeap → List Foot → Option (Tm × AHeap × List Foot)
  | [], _, tm, h, ft => some (tm, h, ft)
  | o :: rest, i, tm, h, ft =>
    if Region.wanted o (ayielded ops tm) then
      match astep E om meas call o (aeval tm) (E.share f rid i) h with
      | some (v, h', t) => aops E om meas call f rid ops rest (i + 1) (aputT tm o.dst v) h' (t :: ft)
      | none => none
    else aops E om meas call f rid ops rest (i + 1) (aputT tm o.dst undef) h (Foot.none :: ft)

def footAt (n : Nat) (ft : List Foot) (i : Nat) : Foot := (ft[n - 1 - i]?).getD Foot.none

abbrev ASt := Tm × AHeap

def aregion (E : AEnv) (om : Nat → Nat) (call : ACall) (f rid : Nat) (ops : Array Oper) (draw : Bool) (s : ASt) : Option ASt :=
  match aops E om draw call f rid ops ops.toList 0 s.1 s.2 [] with
  | some (tm, h, ft) =>
    if draw then
      (if h.oc = s.2.oc ∧ ((E.pairs f rid).all fun (i, j) => (footAt ops.size ft i).apart (footAt ops.size ft j)) = true then some (tm, h) else none)
    else some (tm, h)
  | none => none

/-- A loop: so many rounds at most. -/
def aloop (body : ASt → Option (AExit × ASt)) : Nat → ASt → Option (AExit × ASt)
  | 0, _ => none
  | k + 1, s =>
    match body s with
    | some (.normal, s') => aloop body k s'
    | r => r
/-- A scope: from a label again, so many times at most. -/
def ascope (from_ : Option Nat → ASt → Option (AExit × ASt)) : Nat → Option Nat → ASt → Option (AExit × ASt)
  | 0, _, _ => none
  | k + 1, l, s =>
    match from_ l s with
    | some (.goto l', s') => ascope from_ k (some l') s'
    | r => r

/-- Code, begun at its front, or behind a label. -/
def aexec (E : AEnv) (om : Nat → Nat) (call : ACall) (k : Nat) (f : Nat) : Code → Option Nat → ASt → Option (AExit × ASt)
  | .skip, none, s => some (.normal, s)
  | .region id ops draw, none, s => (aregion E om call f id ops draw s).map fun s' => (.normal, s')
  | .seq a b, none, s =>
    match aexec E om call k f a none s with
    | some (.normal, s') => aexec E om call k f b none s'
    | r => r
  | .seq a b, some l, s =>
    if (findLabel a l).isSome then
      match aexec E om call k f a (some l) s with
      | some (.normal, s') => aexec E om call k f b none s'
      | r => r
    else aexec E om call k f b (some l) s
  | .cond c t e, none, s =>
    match aeval s.1 c with
    | .bool true => aexec E om call k f t none s
    | .bool false => aexec E om call k f e none s
    | _ => none
  | .block id body, none, s =>
    match aexec E om call k f body none s with
    | some (.exit id', s') => if id' = id then some (.normal, s') else some (.exit id', s')
    | r => r
  | .loop body, none, s => aloop (aexec E om call k f body none) k s
  | .exit id, none, s => some (.exit id, s)
  | .scope body, none, s => ascope (fun l => aexec E om call k f body l) k none s
  | .label _, none, s => some (.normal, s)
  | .label l', some l, s => if l' = l then some (.normal, s) else none
  | .goto l, none, s => some (.goto l, s)
  | .ret, none, s => some (.ret, s)
  | .rangeFunc g ps assign body, none, s =>
    match aeval s.1 g with
    | .func (.func q) first captured =>
      match call (.fn q) (first.toList ++ .func (.yield (s.2.size + 1)) #[] #[] :: captured.toList) ((s.2.push .defer).push (.loop f s.1 ps.toList assign body 0 none)) with
      | some (_, h2) =>
        match h2.get (s.2.size + 1) with
        | some (.loop f' tm' ps' as' bd' st pend) =>
          if st = 1 then none else some (pend.getD .normal, (s.1, h2.put (s.2.size + 1) (.loop f' tm' ps' as' bd' 3 pend)))
        | _ => none
      | none => none
    | _ => none
  | _, _, _ => none

def aparams (tm : Tm) : List Tmp → List Value → Tm
  | p :: ps, v :: vs => aparams (tset 12 tm p v) ps vs
  | _, _ => tm
/-- One round of a range over a function. -/
def around (E : AEnv) (om : Nat → Nat) (call : ACall) (k : Nat) (l : Nat) (args : List Value) (h : AHeap) : Option (Value × AHeap) :=
  match h.get l with
  | some (.loop f tm ps assign body _ _) =>
    if args.length = ps.length then
      match aexec E om call k f assign none (aparams tm ps args, h) with
      | some (.normal, (tm1, h1)) =>
        match h1.get l with
        | some (.loop f1 t1 p1 a1 b1 0 pd1) =>
          match aexec E om call k f body none (tm1, h1.put l (.loop f1 t1 p1 a1 b1 1 pd1)) with
          | some (e, (_, h3)) =>
            match h3.get l with
            | some (.loop f4 t4 p4 a4 b4 _ _) =>
              some (.bool (decide (e = .normal)), h3.put l (.loop f4 t4 p4 a4 b4 (if e = .normal then 0 else 2) (if e = .normal then none else some e)))
            | _ => none
          | none => none
        | _ => none
      | _ => none
    else none
  | _ => none

def aresult (P : Program) (s : ASt) : ResultVar → Option Value
  | .tmp t => some (tget 12 s.1 t)
  | .cell a t => aload P s.2.get t (tget 12 s.1 a)
def aresults (P : Program) (s : ASt) : List ResultVar → Option (List Value)
  | [] => some []
  | r :: rs =>
    match aresult P s r, aresults P s rs with
    | some v, some vs => some (v :: vs)
    | _, _ => none
def aret (P : Program) (fn : Func) (s : ASt) : Option (Value × AHeap) :=
  match aresults P s fn.results.toList with
  | some [v] => some (v, s.2)
  | some vs => some (.tuple ⟨vs⟩, s.2)
  | none => none

def acallF (E : AEnv) (om : Nat → Nat) (call : ACall) (k : Nat) (f : FuncId) (args : List Value) (h : AHeap) : Option (Value × AHeap) :=
  match E.sig f with
  | some s => s args h
  | none =>
    match E.P.funcs[f]? with
    | some fn =>
      match fn.body with
      | some c =>
        if args.length ≤ fn.ntmps then
          match aexec E om call k f c none (tini fn.ntmps args, h) with
          | some (.normal, s) => aret E.P fn s
          | some (.ret, s) => aret E.P fn s
          | _ => none
        else none
      | none => none
    | none => none

/-- A call: k rounds at most a loop, n calls deep at most. -/
def acall (E : AEnv) (om : Nat → Nat) (k : Nat) : Nat → ACall
  | 0, _, _, _ => none
  | n + 1, .fn f, args, h => acallF E om (acall E om k n) k f args h
  | n + 1, .yield l, args, h => around E om (acall E om k n) k l args h

/-! ### What is asked of the code, once -/
def operandOk (ng : Nat) : Operand → Bool
  | .tmp _ => true
  | .const v => flat0 v
  | .global g => decide (g < ng)
  | .func _ => true
def dstOk (nt : Nat) : Option Tmp → Bool
  | some d => decide (d < nt)
  | none => true
inductive Touch where
  | no | reads | writes
  deriving DecidableEq
def touch (P : Program) : Op → Touch
  | .load .. | .lookup .. | .entry _ => .reads
  | .convert src _ _ => match P.underlying src with | some (.slice _) => .reads | _ => .no
  | .range t _ => match P.underlying t with | some .string => .no | _ => .reads
  | .slice t _ _ _ _ => match P.underlying t with | some (.array _ _) => .reads | _ => .no
  | .store .. | .mapUpdate .. | .insert .. | .mapEntry .. | .entryStore .. | .next .. => .writes
  | .call { callee := .builtin b, argTypes, .. } =>
    match b with
    | .append | .copy | .clear | .delete => .writes
    | .len => match (argTypes[0]?).bind P.underlying with | some (.map _ _) => .reads | _ => .no
    | _ => .no
  | .call { callee := .value _, .. } => .writes
  | _ => .no
def loud : Touch → Touch → Bool
  | .no, _ | _, .no => false
  | .reads, .reads => false
  | _, _ => true
def tmpsOf (xs : List Operand) : List Tmp := xs.filterMap fun | .tmp t => some t | _ => none
/-- Two operations of a region, i ahead of j in the text, that no edge orders: they share no temporary; if they may meet in memory, they are among the pairs. -/
def freePair (P : Program) (ops : Array Oper) (ps : List (Nat × Nat)) (i j : Nat) (x y : Oper) : Bool :=
  (match x.dst with | some d => !(y.looksAt ops).contains d && y.dst != some d | none => true) &&
  (match y.dst with | some d => !(x.looksAt ops).contains d | none => true) &&
  (!loud (touch P x.op) (touch P y.op) || ps.contains (i, j))
def drawOk (P : Program) (ps : List (Nat × Nat)) (ops : Array Oper) : Bool :=
  (ops.toList.zipIdx.all fun (o, i) =>
    (o.after.toList.all fun e => !Region.binds .any e || decide (e.on < i)) &&
    (match o.guard with | some (g, _) => o.after.toList.any fun e => Region.binds .any e && e.on == g | none => true)) &&
  (ops.toList.zipIdx.all fun (y, j) => ops.toList.zipIdx.all fun (x, i) =>
    !decide (i < j) || ((Region.before ops).getD j 0).testBit i || freePair P ops ps i j x y)
def codeOk (E : AEnv) (f nt : Nat) : Code → Bool
  | .region id ops draw =>
    (ops.toList.all fun o => o.op.operands.toList.all (operandOk E.ng) && dstOk nt o.dst) && (!draw || drawOk E.P (E.pairs f id) ops)
  | .seq a b => codeOk E f nt a && codeOk E f nt b
  | .cond c a b => operandOk E.ng c && codeOk E f nt a && codeOk E f nt b
  | .block _ b => codeOk E f nt b
  | .loop b => codeOk E f nt b
  | .scope b => codeOk E f nt b
  | .rangeFunc .. => false
  | _ => true
def funcOk (E : AEnv) (f : Nat) (fn : Func) : Bool :=
  match fn.body with
  | some c => (fn.name != "runtime.NumGoroutine") && decide (fn.ntmps ≤ 4000) && codeOk E f fn.ntmps c
  | none => true

/-- For a program of ours: the pairs that 'codeOk' wants. -/
def needPairs (P : Program) (ops : Array Oper) : List (Nat × Nat) :=
  ops.toList.zipIdx.flatMap fun (y, j) => ops.toList.zipIdx.filterMap fun (x, i) =>
    if i < j && !((Region.before ops).getD j 0).testBit i && loud (touch P x.op) (touch P y.op) then some (i, j) else none

end Go.Am
