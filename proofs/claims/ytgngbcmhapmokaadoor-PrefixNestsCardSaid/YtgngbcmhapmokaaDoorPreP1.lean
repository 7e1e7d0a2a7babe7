/- Part of a proof about a Go program: the abstract machine walks its code; no condition. -/
import Derived.Test.YtgngbcmhapmokaaDoorPreWords
import Derived.Test.YtgngbcmhapmokaaDoorPreEnv
open Go Go.Am Go.Am.W Go.Proofs
set_option maxRecDepth 100000
/-  -/
theorem pof_0 (om : Nat → Nat) (n : Nat) (x0 x1 x2 : Int)
    (c0 : pureE (abin (AEnv.P E1) (AEnv.eqOk E1) BinOp.shl 103 (Value.int IntKind.u64 4294967295) (Value.int IntKind.i64 (awrap IntKind.i64 (32 - if 0 < if 32 < x1 then 32 else x1 then if 32 < x1 then 32 else x1 else 0))) true) = some (Value.int IntKind.u64 x2, Eff.id))
    : acall E1 om 10000 (n + 2) (ACallee.fn 21) [Value.int IntKind.u32 x0, Value.int IntKind.i64 x1] (AHeap.mk [gLook [] 7, gLook [] 6, gLook [] 5, gLook [] 4, gLook [] 3, gLook [] 2, gLook [] 1, gLook [] 0] 8 8 0) = some (Value.agg (Array.mk [Value.int IntKind.u32 (awrap IntKind.u32 (↑(BitVec.toNat (BitVec.ofInt 32 x0 &&& BitVec.ofInt 32 (awrap IntKind.u32 x2))) : Int)), Value.int IntKind.i64 (if 0 < if 32 < x1 then 32 else x1 then if 32 < x1 then 32 else x1 else 0)]), AHeap.mk [AObj.cells [Value.int IntKind.u32 (awrap IntKind.u32 (↑(BitVec.toNat (BitVec.ofInt 32 x0 &&& BitVec.ofInt 32 (awrap IntKind.u32 x2))) : Int)), Value.int IntKind.i64 (if 0 < if 32 < x1 then 32 else x1 then if 32 < x1 then 32 else x1 else 0)] 0 true, gLook [] 7, gLook [] 6, gLook [] 5, gLook [] 4, gLook [] 3, gLook [] 2, gLook [] 1, gLook [] 0] 9 8 0) := by
  exact guided (gs := [.go 12, .val (Value.int IntKind.u64 x2)]) (r := []) (by kernel_rfl) (And.intro c0 (trivial))
/-  -/
theorem may_0 (om : Nat → Nat) (n : Nat) (x0 x1 x2 : Int) (b3 : Bool)
    (c0 : pureE (abin (AEnv.P E1) (AEnv.eqOk E1) BinOp.shl 103 (Value.int IntKind.u64 4294967295) (Value.int IntKind.i64 (awrap IntKind.i64 (32 - if 0 < if 32 < x1 then 32 else x1 then if 32 < x1 then 32 else x1 else 0))) true) = some (Value.int IntKind.u64 x2, Eff.id))
    (c1 : pureE (abin (AEnv.P E1) (AEnv.eqOk E1) BinOp.eql 31 (Value.agg (Array.mk [Value.int IntKind.u32 x0, Value.int IntKind.i64 x1])) (Value.agg (Array.mk [Value.int IntKind.u32 (awrap IntKind.u32 (↑(BitVec.toNat (BitVec.ofInt 32 x0 &&& BitVec.ofInt 32 (awrap IntKind.u32 x2))) : Int)), Value.int IntKind.i64 (if 0 < if 32 < x1 then 32 else x1 then if 32 < x1 then 32 else x1 else 0)])) false) = some (Value.bool b3, Eff.id))
    : acall E1 om 10000 (n + 3) (ACallee.fn 22) [Value.agg (Array.mk [Value.int IntKind.u32 x0, Value.int IntKind.i64 x1])] (AHeap.mk [gLook [] 7, gLook [] 6, gLook [] 5, gLook [] 4, gLook [] 3, gLook [] 2, gLook [] 1, gLook [] 0] 8 8 0) = some (Value.bool b3, AHeap.mk [AObj.cells [Value.int IntKind.u32 (awrap IntKind.u32 (↑(BitVec.toNat (BitVec.ofInt 32 x0 &&& BitVec.ofInt 32 (awrap IntKind.u32 x2))) : Int)), Value.int IntKind.i64 (if 0 < if 32 < x1 then 32 else x1 then if 32 < x1 then 32 else x1 else 0)] 0 true, AObj.cells [Value.int IntKind.u32 x0, Value.int IntKind.i64 x1] 0 true, gLook [] 7, gLook [] 6, gLook [] 5, gLook [] 4, gLook [] 3, gLook [] 2, gLook [] 1, gLook [] 0] 10 8 0) := by
  exact guided (gs := [.go 20, .val (Value.int IntKind.u64 x2), .go 7, .val (Value.bool b3)]) (r := []) (by kernel_rfl) (And.intro c1 (And.intro c0 (trivial)))
/-  + + + + + + + + -/
theorem has_0 (om : Nat → Nat) (n : Nat) (x0 x1 x2 x3 : Int) (b4 : Bool) (x5 : Int)
    (c0 : pureE (abin (AEnv.P E1) (AEnv.eqOk E1) BinOp.shl 103 (Value.int IntKind.u64 4294967295) (Value.int IntKind.i64 (awrap IntKind.i64 (32 - if 0 < if 32 < x1 then 32 else x1 then if 32 < x1 then 32 else x1 else 0))) true) = some (Value.int IntKind.u64 x3, Eff.id))
    (c1 : pureE (abin (AEnv.P E1) (AEnv.eqOk E1) BinOp.eql 31 (Value.agg (Array.mk [Value.int IntKind.u32 x0, Value.int IntKind.i64 x1])) (Value.agg (Array.mk [Value.int IntKind.u32 (awrap IntKind.u32 (↑(BitVec.toNat (BitVec.ofInt 32 x0 &&& BitVec.ofInt 32 (awrap IntKind.u32 x3))) : Int)), Value.int IntKind.i64 (if 0 < if 32 < x1 then 32 else x1 then if 32 < x1 then 32 else x1 else 0)])) false) = some (Value.bool b4, Eff.id))
    (c2 : b4 = true)
    (c6 : pureE (abin (AEnv.P E1) (AEnv.eqOk E1) BinOp.shl 103 (Value.int IntKind.u64 4294967295) (Value.int IntKind.i64 (awrap IntKind.i64 (32 - x1))) true) = some (Value.int IntKind.u64 x5, Eff.id))
    : acall E1 om 10000 (n + 4) (ACallee.fn 25) [Value.agg (Array.mk [Value.int IntKind.u32 x0, Value.int IntKind.i64 x1]), Value.int IntKind.u32 x2] (AHeap.mk [gLook [] 7, gLook [] 6, gLook [] 5, gLook [] 4, gLook [] 3, gLook [] 2, gLook [] 1, gLook [] 0] 8 8 0) = some (Value.bool (awrap IntKind.u32 (↑(BitVec.toNat (BitVec.ofInt 32 x2 &&& BitVec.ofInt 32 (awrap IntKind.u32 x5))) : Int) == x0), AHeap.mk [AObj.cells [Value.int IntKind.u32 (awrap IntKind.u32 (↑(BitVec.toNat (BitVec.ofInt 32 x0 &&& BitVec.ofInt 32 (awrap IntKind.u32 x3))) : Int)), Value.int IntKind.i64 (if 0 < if 32 < x1 then 32 else x1 then if 32 < x1 then 32 else x1 else 0)] 0 true, AObj.cells [Value.int IntKind.u32 x0, Value.int IntKind.i64 x1] 0 true, AObj.cells [Value.int IntKind.u32 x0, Value.int IntKind.i64 x1] 0 true, gLook [] 7, gLook [] 6, gLook [] 5, gLook [] 4, gLook [] 3, gLook [] 2, gLook [] 1, gLook [] 0] 11 8 0) := by
  exact guided (gs := [.go 24, .val (Value.int IntKind.u64 x3), .go 7, .val (Value.bool b4), .go 3, .br true, .go 1, .br true, .go 1, .br true, .go 1, .br true, .go 4, .val (Value.int IntKind.u64 x5), .go 2, .br true, .go 1, .br true, .go 1, .br true, .go 1, .br true, .go 1, .val (Value.bool (awrap IntKind.u32 (↑(BitVec.toNat (BitVec.ofInt 32 x2 &&& BitVec.ofInt 32 (awrap IntKind.u32 x5))) : Int) == x0))]) (r := []) (by kernel_rfl) (And.intro (pickE_t c2 (Value.bool (awrap IntKind.u32 (↑(BitVec.toNat (BitVec.ofInt 32 x2 &&& BitVec.ofInt 32 (awrap IntKind.u32 x5))) : Int) == x0)) (Value.bool false)) (And.intro c2 (And.intro c2 (And.intro c2 (And.intro c2 (And.intro c6 (And.intro c2 (And.intro c2 (And.intro c2 (And.intro c2 (And.intro c1 (And.intro c0 (trivial)))))))))))))
/-  - - - - - - - - -/
theorem has_1 (om : Nat → Nat) (n : Nat) (x0 x1 x2 x3 : Int) (b4 : Bool)
    (c0 : pureE (abin (AEnv.P E1) (AEnv.eqOk E1) BinOp.shl 103 (Value.int IntKind.u64 4294967295) (Value.int IntKind.i64 (awrap IntKind.i64 (32 - if 0 < if 32 < x1 then 32 else x1 then if 32 < x1 then 32 else x1 else 0))) true) = some (Value.int IntKind.u64 x3, Eff.id))
    (c1 : pureE (abin (AEnv.P E1) (AEnv.eqOk E1) BinOp.eql 31 (Value.agg (Array.mk [Value.int IntKind.u32 x0, Value.int IntKind.i64 x1])) (Value.agg (Array.mk [Value.int IntKind.u32 (awrap IntKind.u32 (↑(BitVec.toNat (BitVec.ofInt 32 x0 &&& BitVec.ofInt 32 (awrap IntKind.u32 x3))) : Int)), Value.int IntKind.i64 (if 0 < if 32 < x1 then 32 else x1 then if 32 < x1 then 32 else x1 else 0)])) false) = some (Value.bool b4, Eff.id))
    (c2 : b4 = false)
    : acall E1 om 10000 (n + 4) (ACallee.fn 25) [Value.agg (Array.mk [Value.int IntKind.u32 x0, Value.int IntKind.i64 x1]), Value.int IntKind.u32 x2] (AHeap.mk [gLook [] 7, gLook [] 6, gLook [] 5, gLook [] 4, gLook [] 3, gLook [] 2, gLook [] 1, gLook [] 0] 8 8 0) = some (Value.bool false, AHeap.mk [AObj.cells [Value.int IntKind.u32 (awrap IntKind.u32 (↑(BitVec.toNat (BitVec.ofInt 32 x0 &&& BitVec.ofInt 32 (awrap IntKind.u32 x3))) : Int)), Value.int IntKind.i64 (if 0 < if 32 < x1 then 32 else x1 then if 32 < x1 then 32 else x1 else 0)] 0 true, AObj.cells [Value.int IntKind.u32 x0, Value.int IntKind.i64 x1] 0 true, AObj.cells [Value.int IntKind.u32 x0, Value.int IntKind.i64 x1] 0 true, gLook [] 7, gLook [] 6, gLook [] 5, gLook [] 4, gLook [] 3, gLook [] 2, gLook [] 1, gLook [] 0] 11 8 0) := by
  exact guided (gs := [.go 24, .val (Value.int IntKind.u64 x3), .go 7, .val (Value.bool b4), .go 3, .br false, .br false, .br false, .br false, .br false, .br false, .br false, .br false, .val (Value.bool false)]) (r := []) (by kernel_rfl) (And.intro (pickE_f c2 (undef) (Value.bool false)) (And.intro c2 (And.intro c2 (And.intro c2 (And.intro c2 (And.intro c2 (And.intro c2 (And.intro c2 (And.intro c2 (And.intro c1 (And.intro c0 (trivial))))))))))))
/-  + + + + + + + + + + + + + + + + + -/
theorem cont_0 (om : Nat → Nat) (n : Nat) (x0 x1 x2 x3 x4 : Int) (b5 : Bool) (x6 : Int) (b7 : Bool) (x8 : Int)
    (c0 : pureE (abin (AEnv.P E1) (AEnv.eqOk E1) BinOp.shl 103 (Value.int IntKind.u64 4294967295) (Value.int IntKind.i64 (awrap IntKind.i64 (32 - if 0 < if 32 < x3 then 32 else x3 then if 32 < x3 then 32 else x3 else 0))) true) = some (Value.int IntKind.u64 x4, Eff.id))
    (c1 : pureE (abin (AEnv.P E1) (AEnv.eqOk E1) BinOp.eql 31 (Value.agg (Array.mk [Value.int IntKind.u32 x2, Value.int IntKind.i64 x3])) (Value.agg (Array.mk [Value.int IntKind.u32 (awrap IntKind.u32 (↑(BitVec.toNat (BitVec.ofInt 32 x2 &&& BitVec.ofInt 32 (awrap IntKind.u32 x4))) : Int)), Value.int IntKind.i64 (if 0 < if 32 < x3 then 32 else x3 then if 32 < x3 then 32 else x3 else 0)])) false) = some (Value.bool b5, Eff.id))
    (c2 : b5 = true)
    (c8 : decide (x3 ≥ x1) = true)
    (c12 : pureE (abin (AEnv.P E1) (AEnv.eqOk E1) BinOp.shl 103 (Value.int IntKind.u64 4294967295) (Value.int IntKind.i64 (awrap IntKind.i64 (32 - if 0 < if 32 < x1 then 32 else x1 then if 32 < x1 then 32 else x1 else 0))) true) = some (Value.int IntKind.u64 x6, Eff.id))
    (c13 : pureE (abin (AEnv.P E1) (AEnv.eqOk E1) BinOp.eql 31 (Value.agg (Array.mk [Value.int IntKind.u32 x0, Value.int IntKind.i64 x1])) (Value.agg (Array.mk [Value.int IntKind.u32 (awrap IntKind.u32 (↑(BitVec.toNat (BitVec.ofInt 32 x0 &&& BitVec.ofInt 32 (awrap IntKind.u32 x6))) : Int)), Value.int IntKind.i64 (if 0 < if 32 < x1 then 32 else x1 then if 32 < x1 then 32 else x1 else 0)])) false) = some (Value.bool b7, Eff.id))
    (c14 : b7 = true)
    (c18 : pureE (abin (AEnv.P E1) (AEnv.eqOk E1) BinOp.shl 103 (Value.int IntKind.u64 4294967295) (Value.int IntKind.i64 (awrap IntKind.i64 (32 - x1))) true) = some (Value.int IntKind.u64 x8, Eff.id))
    : acall E1 om 10000 (n + 5) (ACallee.fn 24) [Value.agg (Array.mk [Value.int IntKind.u32 x0, Value.int IntKind.i64 x1]), Value.agg (Array.mk [Value.int IntKind.u32 x2, Value.int IntKind.i64 x3])] (AHeap.mk [gLook [] 7, gLook [] 6, gLook [] 5, gLook [] 4, gLook [] 3, gLook [] 2, gLook [] 1, gLook [] 0] 8 8 0) = some (Value.bool (awrap IntKind.u32 (↑(BitVec.toNat (BitVec.ofInt 32 x2 &&& BitVec.ofInt 32 (awrap IntKind.u32 x8))) : Int) == x0), AHeap.mk [AObj.cells [Value.int IntKind.u32 (awrap IntKind.u32 (↑(BitVec.toNat (BitVec.ofInt 32 x0 &&& BitVec.ofInt 32 (awrap IntKind.u32 x6))) : Int)), Value.int IntKind.i64 (if 0 < if 32 < x1 then 32 else x1 then if 32 < x1 then 32 else x1 else 0)] 0 true, AObj.cells [Value.int IntKind.u32 x0, Value.int IntKind.i64 x1] 0 true, AObj.cells [Value.int IntKind.u32 x0, Value.int IntKind.i64 x1] 0 true, AObj.cells [Value.int IntKind.u32 (awrap IntKind.u32 (↑(BitVec.toNat (BitVec.ofInt 32 x2 &&& BitVec.ofInt 32 (awrap IntKind.u32 x4))) : Int)), Value.int IntKind.i64 (if 0 < if 32 < x3 then 32 else x3 then if 32 < x3 then 32 else x3 else 0)] 0 true, AObj.cells [Value.int IntKind.u32 x2, Value.int IntKind.i64 x3] 0 true, AObj.cells [Value.int IntKind.u32 x2, Value.int IntKind.i64 x3] 0 true, AObj.cells [Value.int IntKind.u32 x0, Value.int IntKind.i64 x1] 0 true, gLook [] 7, gLook [] 6, gLook [] 5, gLook [] 4, gLook [] 3, gLook [] 2, gLook [] 1, gLook [] 0] 15 8 0) := by
  exact guided (gs := [.go 25, .val (Value.int IntKind.u64 x4), .go 7, .val (Value.bool b5), .go 3, .br true, .go 1, .br true, .go 1, .br true, .go 1, .br true, .go 1, .br true, .go 1, .val (Value.bool (decide (x3 ≥ x1))), .go 1, .br true, .go 1, .br true, .go 1, .br true, .go 1, .br true, .go 24, .val (Value.int IntKind.u64 x6), .go 7, .val (Value.bool b7), .go 3, .br true, .go 1, .br true, .go 1, .br true, .go 1, .br true, .go 4, .val (Value.int IntKind.u64 x8), .go 2, .br true, .go 1, .br true, .go 1, .br true, .go 1, .br true, .go 1, .val (Value.bool (awrap IntKind.u32 (↑(BitVec.toNat (BitVec.ofInt 32 x2 &&& BitVec.ofInt 32 (awrap IntKind.u32 x8))) : Int) == x0)), .go 2, .val (Value.bool (awrap IntKind.u32 (↑(BitVec.toNat (BitVec.ofInt 32 x2 &&& BitVec.ofInt 32 (awrap IntKind.u32 x8))) : Int) == x0))]) (r := []) (by kernel_rfl) (And.intro (pickE_t c8 (Value.bool (awrap IntKind.u32 (↑(BitVec.toNat (BitVec.ofInt 32 x2 &&& BitVec.ofInt 32 (awrap IntKind.u32 x8))) : Int) == x0)) (Value.bool false)) (And.intro (pickE_t c14 (Value.bool (awrap IntKind.u32 (↑(BitVec.toNat (BitVec.ofInt 32 x2 &&& BitVec.ofInt 32 (awrap IntKind.u32 x8))) : Int) == x0)) (Value.bool false)) (And.intro c14 (And.intro c14 (And.intro c14 (And.intro c14 (And.intro c18 (And.intro c14 (And.intro c14 (And.intro c14 (And.intro c14 (And.intro c13 (And.intro c12 (And.intro c8 (And.intro c8 (And.intro c8 (And.intro c8 (And.intro (pickE_t c2 (Value.bool (decide (x3 ≥ x1))) (Value.bool false)) (And.intro c2 (And.intro c2 (And.intro c2 (And.intro c2 (And.intro c2 (And.intro c1 (And.intro c0 (trivial))))))))))))))))))))))))))
/-  + + + + + + + + + - - - - - - - - -/
theorem cont_1 (om : Nat → Nat) (n : Nat) (x0 x1 x2 x3 x4 : Int) (b5 : Bool) (x6 : Int) (b7 : Bool)
    (c0 : pureE (abin (AEnv.P E1) (AEnv.eqOk E1) BinOp.shl 103 (Value.int IntKind.u64 4294967295) (Value.int IntKind.i64 (awrap IntKind.i64 (32 - if 0 < if 32 < x3 then 32 else x3 then if 32 < x3 then 32 else x3 else 0))) true) = some (Value.int IntKind.u64 x4, Eff.id))
    (c1 : pureE (abin (AEnv.P E1) (AEnv.eqOk E1) BinOp.eql 31 (Value.agg (Array.mk [Value.int IntKind.u32 x2, Value.int IntKind.i64 x3])) (Value.agg (Array.mk [Value.int IntKind.u32 (awrap IntKind.u32 (↑(BitVec.toNat (BitVec.ofInt 32 x2 &&& BitVec.ofInt 32 (awrap IntKind.u32 x4))) : Int)), Value.int IntKind.i64 (if 0 < if 32 < x3 then 32 else x3 then if 32 < x3 then 32 else x3 else 0)])) false) = some (Value.bool b5, Eff.id))
    (c2 : b5 = true)
    (c8 : decide (x3 ≥ x1) = true)
    (c12 : pureE (abin (AEnv.P E1) (AEnv.eqOk E1) BinOp.shl 103 (Value.int IntKind.u64 4294967295) (Value.int IntKind.i64 (awrap IntKind.i64 (32 - if 0 < if 32 < x1 then 32 else x1 then if 32 < x1 then 32 else x1 else 0))) true) = some (Value.int IntKind.u64 x6, Eff.id))
    (c13 : pureE (abin (AEnv.P E1) (AEnv.eqOk E1) BinOp.eql 31 (Value.agg (Array.mk [Value.int IntKind.u32 x0, Value.int IntKind.i64 x1])) (Value.agg (Array.mk [Value.int IntKind.u32 (awrap IntKind.u32 (↑(BitVec.toNat (BitVec.ofInt 32 x0 &&& BitVec.ofInt 32 (awrap IntKind.u32 x6))) : Int)), Value.int IntKind.i64 (if 0 < if 32 < x1 then 32 else x1 then if 32 < x1 then 32 else x1 else 0)])) false) = some (Value.bool b7, Eff.id))
    (c14 : b7 = false)
    : acall E1 om 10000 (n + 5) (ACallee.fn 24) [Value.agg (Array.mk [Value.int IntKind.u32 x0, Value.int IntKind.i64 x1]), Value.agg (Array.mk [Value.int IntKind.u32 x2, Value.int IntKind.i64 x3])] (AHeap.mk [gLook [] 7, gLook [] 6, gLook [] 5, gLook [] 4, gLook [] 3, gLook [] 2, gLook [] 1, gLook [] 0] 8 8 0) = some (Value.bool false, AHeap.mk [AObj.cells [Value.int IntKind.u32 (awrap IntKind.u32 (↑(BitVec.toNat (BitVec.ofInt 32 x0 &&& BitVec.ofInt 32 (awrap IntKind.u32 x6))) : Int)), Value.int IntKind.i64 (if 0 < if 32 < x1 then 32 else x1 then if 32 < x1 then 32 else x1 else 0)] 0 true, AObj.cells [Value.int IntKind.u32 x0, Value.int IntKind.i64 x1] 0 true, AObj.cells [Value.int IntKind.u32 x0, Value.int IntKind.i64 x1] 0 true, AObj.cells [Value.int IntKind.u32 (awrap IntKind.u32 (↑(BitVec.toNat (BitVec.ofInt 32 x2 &&& BitVec.ofInt 32 (awrap IntKind.u32 x4))) : Int)), Value.int IntKind.i64 (if 0 < if 32 < x3 then 32 else x3 then if 32 < x3 then 32 else x3 else 0)] 0 true, AObj.cells [Value.int IntKind.u32 x2, Value.int IntKind.i64 x3] 0 true, AObj.cells [Value.int IntKind.u32 x2, Value.int IntKind.i64 x3] 0 true, AObj.cells [Value.int IntKind.u32 x0, Value.int IntKind.i64 x1] 0 true, gLook [] 7, gLook [] 6, gLook [] 5, gLook [] 4, gLook [] 3, gLook [] 2, gLook [] 1, gLook [] 0] 15 8 0) := by
  exact guided (gs := [.go 25, .val (Value.int IntKind.u64 x4), .go 7, .val (Value.bool b5), .go 3, .br true, .go 1, .br true, .go 1, .br true, .go 1, .br true, .go 1, .br true, .go 1, .val (Value.bool (decide (x3 ≥ x1))), .go 1, .br true, .go 1, .br true, .go 1, .br true, .go 1, .br true, .go 24, .val (Value.int IntKind.u64 x6), .go 7, .val (Value.bool b7), .go 3, .br false, .br false, .br false, .br false, .br false, .br false, .br false, .br false, .val (Value.bool false), .go 2, .val (Value.bool false)]) (r := []) (by kernel_rfl) (And.intro (pickE_t c8 (Value.bool false) (Value.bool false)) (And.intro (pickE_f c14 (undef) (Value.bool false)) (And.intro c14 (And.intro c14 (And.intro c14 (And.intro c14 (And.intro c14 (And.intro c14 (And.intro c14 (And.intro c14 (And.intro c13 (And.intro c12 (And.intro c8 (And.intro c8 (And.intro c8 (And.intro c8 (And.intro (pickE_t c2 (Value.bool (decide (x3 ≥ x1))) (Value.bool false)) (And.intro c2 (And.intro c2 (And.intro c2 (And.intro c2 (And.intro c2 (And.intro c1 (And.intro c0 (trivial)))))))))))))))))))))))))
/-  + + + + + - - - - -/
theorem cont_2 (om : Nat → Nat) (n : Nat) (x0 x1 x2 x3 x4 : Int) (b5 : Bool)
    (c0 : pureE (abin (AEnv.P E1) (AEnv.eqOk E1) BinOp.shl 103 (Value.int IntKind.u64 4294967295) (Value.int IntKind.i64 (awrap IntKind.i64 (32 - if 0 < if 32 < x3 then 32 else x3 then if 32 < x3 then 32 else x3 else 0))) true) = some (Value.int IntKind.u64 x4, Eff.id))
    (c1 : pureE (abin (AEnv.P E1) (AEnv.eqOk E1) BinOp.eql 31 (Value.agg (Array.mk [Value.int IntKind.u32 x2, Value.int IntKind.i64 x3])) (Value.agg (Array.mk [Value.int IntKind.u32 (awrap IntKind.u32 (↑(BitVec.toNat (BitVec.ofInt 32 x2 &&& BitVec.ofInt 32 (awrap IntKind.u32 x4))) : Int)), Value.int IntKind.i64 (if 0 < if 32 < x3 then 32 else x3 then if 32 < x3 then 32 else x3 else 0)])) false) = some (Value.bool b5, Eff.id))
    (c2 : b5 = true)
    (c8 : decide (x3 ≥ x1) = false)
    : acall E1 om 10000 (n + 5) (ACallee.fn 24) [Value.agg (Array.mk [Value.int IntKind.u32 x0, Value.int IntKind.i64 x1]), Value.agg (Array.mk [Value.int IntKind.u32 x2, Value.int IntKind.i64 x3])] (AHeap.mk [gLook [] 7, gLook [] 6, gLook [] 5, gLook [] 4, gLook [] 3, gLook [] 2, gLook [] 1, gLook [] 0] 8 8 0) = some (Value.bool false, AHeap.mk [AObj.cells [Value.int IntKind.u32 (awrap IntKind.u32 (↑(BitVec.toNat (BitVec.ofInt 32 x2 &&& BitVec.ofInt 32 (awrap IntKind.u32 x4))) : Int)), Value.int IntKind.i64 (if 0 < if 32 < x3 then 32 else x3 then if 32 < x3 then 32 else x3 else 0)] 0 true, AObj.cells [Value.int IntKind.u32 x2, Value.int IntKind.i64 x3] 0 true, AObj.cells [Value.int IntKind.u32 x2, Value.int IntKind.i64 x3] 0 true, AObj.cells [Value.int IntKind.u32 x0, Value.int IntKind.i64 x1] 0 true, gLook [] 7, gLook [] 6, gLook [] 5, gLook [] 4, gLook [] 3, gLook [] 2, gLook [] 1, gLook [] 0] 12 8 0) := by
  exact guided (gs := [.go 25, .val (Value.int IntKind.u64 x4), .go 7, .val (Value.bool b5), .go 3, .br true, .go 1, .br true, .go 1, .br true, .go 1, .br true, .go 1, .br true, .go 1, .val (Value.bool (decide (x3 ≥ x1))), .go 1, .br false, .br false, .br false, .br false, .val (Value.bool false)]) (r := []) (by kernel_rfl) (And.intro (pickE_f c8 (undef) (Value.bool false)) (And.intro c8 (And.intro c8 (And.intro c8 (And.intro c8 (And.intro (pickE_t c2 (Value.bool (decide (x3 ≥ x1))) (Value.bool false)) (And.intro c2 (And.intro c2 (And.intro c2 (And.intro c2 (And.intro c2 (And.intro c1 (And.intro c0 (trivial))))))))))))))
/-  - - - - - -/
theorem cont_3 (om : Nat → Nat) (n : Nat) (x0 x1 x2 x3 x4 : Int) (b5 : Bool)
    (c0 : pureE (abin (AEnv.P E1) (AEnv.eqOk E1) BinOp.shl 103 (Value.int IntKind.u64 4294967295) (Value.int IntKind.i64 (awrap IntKind.i64 (32 - if 0 < if 32 < x3 then 32 else x3 then if 32 < x3 then 32 else x3 else 0))) true) = some (Value.int IntKind.u64 x4, Eff.id))
    (c1 : pureE (abin (AEnv.P E1) (AEnv.eqOk E1) BinOp.eql 31 (Value.agg (Array.mk [Value.int IntKind.u32 x2, Value.int IntKind.i64 x3])) (Value.agg (Array.mk [Value.int IntKind.u32 (awrap IntKind.u32 (↑(BitVec.toNat (BitVec.ofInt 32 x2 &&& BitVec.ofInt 32 (awrap IntKind.u32 x4))) : Int)), Value.int IntKind.i64 (if 0 < if 32 < x3 then 32 else x3 then if 32 < x3 then 32 else x3 else 0)])) false) = some (Value.bool b5, Eff.id))
    (c2 : b5 = false)
    : acall E1 om 10000 (n + 5) (ACallee.fn 24) [Value.agg (Array.mk [Value.int IntKind.u32 x0, Value.int IntKind.i64 x1]), Value.agg (Array.mk [Value.int IntKind.u32 x2, Value.int IntKind.i64 x3])] (AHeap.mk [gLook [] 7, gLook [] 6, gLook [] 5, gLook [] 4, gLook [] 3, gLook [] 2, gLook [] 1, gLook [] 0] 8 8 0) = some (Value.bool false, AHeap.mk [AObj.cells [Value.int IntKind.u32 (awrap IntKind.u32 (↑(BitVec.toNat (BitVec.ofInt 32 x2 &&& BitVec.ofInt 32 (awrap IntKind.u32 x4))) : Int)), Value.int IntKind.i64 (if 0 < if 32 < x3 then 32 else x3 then if 32 < x3 then 32 else x3 else 0)] 0 true, AObj.cells [Value.int IntKind.u32 x2, Value.int IntKind.i64 x3] 0 true, AObj.cells [Value.int IntKind.u32 x2, Value.int IntKind.i64 x3] 0 true, AObj.cells [Value.int IntKind.u32 x0, Value.int IntKind.i64 x1] 0 true, gLook [] 7, gLook [] 6, gLook [] 5, gLook [] 4, gLook [] 3, gLook [] 2, gLook [] 1, gLook [] 0] 12 8 0) := by
  exact guided (gs := [.go 25, .val (Value.int IntKind.u64 x4), .go 7, .val (Value.bool b5), .go 3, .br false, .br false, .br false, .br false, .br false, .val (Value.bool false)]) (r := []) (by kernel_rfl) (And.intro (pickE_f c2 (undef) (Value.bool false)) (And.intro c2 (And.intro c2 (And.intro c2 (And.intro c2 (And.intro c2 (And.intro c1 (And.intro c0 (trivial)))))))))
/-  F F T F F T -/
theorem comp_0 (om : Nat → Nat) (n : Nat) (x0 x1 x2 x3 : Int)
    (c0 : (x0 != x0) = false)
    (c1 : (x2 != x2) = false)
    (c2 : decide (x0 < x2) = true)
    (c3 : (x1 != x1) = false)
    (c4 : (x3 != x3) = false)
    (c5 : decide (x1 < x3) = true)
    : acall E1 om 10000 (n + 3) (ACallee.fn 26) [Value.agg (Array.mk [Value.int IntKind.u32 x0, Value.int IntKind.i64 x1]), Value.agg (Array.mk [Value.int IntKind.u32 x2, Value.int IntKind.i64 x3])] (AHeap.mk [gLook [] 7, gLook [] 6, gLook [] 5, gLook [] 4, gLook [] 3, gLook [] 2, gLook [] 1, gLook [] 0] 8 8 0) = some (Value.int IntKind.i64 (-1), AHeap.mk [AObj.cells [Value.int IntKind.i64 (-1), Value.int IntKind.i64 (-1)] 1 true, AObj.cells [Value.int IntKind.u32 x2, Value.int IntKind.i64 x3] 0 true, AObj.cells [Value.int IntKind.u32 x0, Value.int IntKind.i64 x1] 0 true, gLook [] 7, gLook [] 6, gLook [] 5, gLook [] 4, gLook [] 3, gLook [] 2, gLook [] 1, gLook [] 0] 11 8 0) := by
  exact guided (gs := [.go 27, .br false, .go 1, .br false, .go 3, .br true, .go 24, .br false, .go 1, .br false, .go 3, .br true]) (r := []) (by kernel_rfl) (And.intro c5 (And.intro c4 (And.intro c3 (And.intro c2 (And.intro c1 (And.intro c0 (trivial)))))))
/-  F F T F F F T -/
theorem comp_1 (om : Nat → Nat) (n : Nat) (x0 x1 x2 x3 : Int)
    (c0 : (x0 != x0) = false)
    (c1 : (x2 != x2) = false)
    (c2 : decide (x0 < x2) = true)
    (c3 : (x1 != x1) = false)
    (c4 : (x3 != x3) = false)
    (c5 : decide (x1 < x3) = false)
    (c6 : decide (x1 > x3) = true)
    : acall E1 om 10000 (n + 3) (ACallee.fn 26) [Value.agg (Array.mk [Value.int IntKind.u32 x0, Value.int IntKind.i64 x1]), Value.agg (Array.mk [Value.int IntKind.u32 x2, Value.int IntKind.i64 x3])] (AHeap.mk [gLook [] 7, gLook [] 6, gLook [] 5, gLook [] 4, gLook [] 3, gLook [] 2, gLook [] 1, gLook [] 0] 8 8 0) = some (Value.int IntKind.i64 (-1), AHeap.mk [AObj.cells [Value.int IntKind.i64 (-1), Value.int IntKind.i64 1] 1 true, AObj.cells [Value.int IntKind.u32 x2, Value.int IntKind.i64 x3] 0 true, AObj.cells [Value.int IntKind.u32 x0, Value.int IntKind.i64 x1] 0 true, gLook [] 7, gLook [] 6, gLook [] 5, gLook [] 4, gLook [] 3, gLook [] 2, gLook [] 1, gLook [] 0] 11 8 0) := by
  exact guided (gs := [.go 27, .br false, .go 1, .br false, .go 3, .br true, .go 24, .br false, .go 1, .br false, .go 3, .br false, .go 3, .br true]) (r := []) (by kernel_rfl) (And.intro c6 (And.intro c5 (And.intro c4 (And.intro c3 (And.intro c2 (And.intro c1 (And.intro c0 (trivial))))))))
/-  F F T F F F F -/
theorem comp_2 (om : Nat → Nat) (n : Nat) (x0 x1 x2 x3 : Int)
    (c0 : (x0 != x0) = false)
    (c1 : (x2 != x2) = false)
    (c2 : decide (x0 < x2) = true)
    (c3 : (x1 != x1) = false)
    (c4 : (x3 != x3) = false)
    (c5 : decide (x1 < x3) = false)
    (c6 : decide (x1 > x3) = false)
    : acall E1 om 10000 (n + 3) (ACallee.fn 26) [Value.agg (Array.mk [Value.int IntKind.u32 x0, Value.int IntKind.i64 x1]), Value.agg (Array.mk [Value.int IntKind.u32 x2, Value.int IntKind.i64 x3])] (AHeap.mk [gLook [] 7, gLook [] 6, gLook [] 5, gLook [] 4, gLook [] 3, gLook [] 2, gLook [] 1, gLook [] 0] 8 8 0) = some (Value.int IntKind.i64 (-1), AHeap.mk [AObj.cells [Value.int IntKind.i64 (-1), Value.int IntKind.i64 0] 1 true, AObj.cells [Value.int IntKind.u32 x2, Value.int IntKind.i64 x3] 0 true, AObj.cells [Value.int IntKind.u32 x0, Value.int IntKind.i64 x1] 0 true, gLook [] 7, gLook [] 6, gLook [] 5, gLook [] 4, gLook [] 3, gLook [] 2, gLook [] 1, gLook [] 0] 11 8 0) := by
  exact guided (gs := [.go 27, .br false, .go 1, .br false, .go 3, .br true, .go 24, .br false, .go 1, .br false, .go 3, .br false, .go 3, .br false]) (r := []) (by kernel_rfl) (And.intro c6 (And.intro c5 (And.intro c4 (And.intro c3 (And.intro c2 (And.intro c1 (And.intro c0 (trivial))))))))
/-  F F F T F F T -/
theorem comp_3 (om : Nat → Nat) (n : Nat) (x0 x1 x2 x3 : Int)
    (c0 : (x0 != x0) = false)
    (c1 : (x2 != x2) = false)
    (c2 : decide (x0 < x2) = false)
    (c3 : decide (x0 > x2) = true)
    (c4 : (x1 != x1) = false)
    (c5 : (x3 != x3) = false)
    (c6 : decide (x1 < x3) = true)
    : acall E1 om 10000 (n + 3) (ACallee.fn 26) [Value.agg (Array.mk [Value.int IntKind.u32 x0, Value.int IntKind.i64 x1]), Value.agg (Array.mk [Value.int IntKind.u32 x2, Value.int IntKind.i64 x3])] (AHeap.mk [gLook [] 7, gLook [] 6, gLook [] 5, gLook [] 4, gLook [] 3, gLook [] 2, gLook [] 1, gLook [] 0] 8 8 0) = some (Value.int IntKind.i64 1, AHeap.mk [AObj.cells [Value.int IntKind.i64 1, Value.int IntKind.i64 (-1)] 1 true, AObj.cells [Value.int IntKind.u32 x2, Value.int IntKind.i64 x3] 0 true, AObj.cells [Value.int IntKind.u32 x0, Value.int IntKind.i64 x1] 0 true, gLook [] 7, gLook [] 6, gLook [] 5, gLook [] 4, gLook [] 3, gLook [] 2, gLook [] 1, gLook [] 0] 11 8 0) := by
  exact guided (gs := [.go 27, .br false, .go 1, .br false, .go 3, .br false, .go 3, .br true, .go 24, .br false, .go 1, .br false, .go 3, .br true]) (r := []) (by kernel_rfl) (And.intro c6 (And.intro c5 (And.intro c4 (And.intro c3 (And.intro c2 (And.intro c1 (And.intro c0 (trivial))))))))
/-  F F F T F F F T -/
theorem comp_4 (om : Nat → Nat) (n : Nat) (x0 x1 x2 x3 : Int)
    (c0 : (x0 != x0) = false)
    (c1 : (x2 != x2) = false)
    (c2 : decide (x0 < x2) = false)
    (c3 : decide (x0 > x2) = true)
    (c4 : (x1 != x1) = false)
    (c5 : (x3 != x3) = false)
    (c6 : decide (x1 < x3) = false)
    (c7 : decide (x1 > x3) = true)
    : acall E1 om 10000 (n + 3) (ACallee.fn 26) [Value.agg (Array.mk [Value.int IntKind.u32 x0, Value.int IntKind.i64 x1]), Value.agg (Array.mk [Value.int IntKind.u32 x2, Value.int IntKind.i64 x3])] (AHeap.mk [gLook [] 7, gLook [] 6, gLook [] 5, gLook [] 4, gLook [] 3, gLook [] 2, gLook [] 1, gLook [] 0] 8 8 0) = some (Value.int IntKind.i64 1, AHeap.mk [AObj.cells [Value.int IntKind.i64 1, Value.int IntKind.i64 1] 1 true, AObj.cells [Value.int IntKind.u32 x2, Value.int IntKind.i64 x3] 0 true, AObj.cells [Value.int IntKind.u32 x0, Value.int IntKind.i64 x1] 0 true, gLook [] 7, gLook [] 6, gLook [] 5, gLook [] 4, gLook [] 3, gLook [] 2, gLook [] 1, gLook [] 0] 11 8 0) := by
  exact guided (gs := [.go 27, .br false, .go 1, .br false, .go 3, .br false, .go 3, .br true, .go 24, .br false, .go 1, .br false, .go 3, .br false, .go 3, .br true]) (r := []) (by kernel_rfl) (And.intro c7 (And.intro c6 (And.intro c5 (And.intro c4 (And.intro c3 (And.intro c2 (And.intro c1 (And.intro c0 (trivial)))))))))
/-  F F F T F F F F -/
theorem comp_5 (om : Nat → Nat) (n : Nat) (x0 x1 x2 x3 : Int)
    (c0 : (x0 != x0) = false)
    (c1 : (x2 != x2) = false)
    (c2 : decide (x0 < x2) = false)
    (c3 : decide (x0 > x2) = true)
    (c4 : (x1 != x1) = false)
    (c5 : (x3 != x3) = false)
    (c6 : decide (x1 < x3) = false)
    (c7 : decide (x1 > x3) = false)
    : acall E1 om 10000 (n + 3) (ACallee.fn 26) [Value.agg (Array.mk [Value.int IntKind.u32 x0, Value.int IntKind.i64 x1]), Value.agg (Array.mk [Value.int IntKind.u32 x2, Value.int IntKind.i64 x3])] (AHeap.mk [gLook [] 7, gLook [] 6, gLook [] 5, gLook [] 4, gLook [] 3, gLook [] 2, gLook [] 1, gLook [] 0] 8 8 0) = some (Value.int IntKind.i64 1, AHeap.mk [AObj.cells [Value.int IntKind.i64 1, Value.int IntKind.i64 0] 1 true, AObj.cells [Value.int IntKind.u32 x2, Value.int IntKind.i64 x3] 0 true, AObj.cells [Value.int IntKind.u32 x0, Value.int IntKind.i64 x1] 0 true, gLook [] 7, gLook [] 6, gLook [] 5, gLook [] 4, gLook [] 3, gLook [] 2, gLook [] 1, gLook [] 0] 11 8 0) := by
  exact guided (gs := [.go 27, .br false, .go 1, .br false, .go 3, .br false, .go 3, .br true, .go 24, .br false, .go 1, .br false, .go 3, .br false, .go 3, .br false]) (r := []) (by kernel_rfl) (And.intro c7 (And.intro c6 (And.intro c5 (And.intro c4 (And.intro c3 (And.intro c2 (And.intro c1 (And.intro c0 (trivial)))))))))
/-  F F F F F F T -/
theorem comp_6 (om : Nat → Nat) (n : Nat) (x0 x1 x2 x3 : Int)
    (c0 : (x0 != x0) = false)
    (c1 : (x2 != x2) = false)
    (c2 : decide (x0 < x2) = false)
    (c3 : decide (x0 > x2) = false)
    (c4 : (x1 != x1) = false)
    (c5 : (x3 != x3) = false)
    (c6 : decide (x1 < x3) = true)
    : acall E1 om 10000 (n + 3) (ACallee.fn 26) [Value.agg (Array.mk [Value.int IntKind.u32 x0, Value.int IntKind.i64 x1]), Value.agg (Array.mk [Value.int IntKind.u32 x2, Value.int IntKind.i64 x3])] (AHeap.mk [gLook [] 7, gLook [] 6, gLook [] 5, gLook [] 4, gLook [] 3, gLook [] 2, gLook [] 1, gLook [] 0] 8 8 0) = some (Value.int IntKind.i64 (-1), AHeap.mk [AObj.cells [Value.int IntKind.i64 0, Value.int IntKind.i64 (-1)] 1 true, AObj.cells [Value.int IntKind.u32 x2, Value.int IntKind.i64 x3] 0 true, AObj.cells [Value.int IntKind.u32 x0, Value.int IntKind.i64 x1] 0 true, gLook [] 7, gLook [] 6, gLook [] 5, gLook [] 4, gLook [] 3, gLook [] 2, gLook [] 1, gLook [] 0] 11 8 0) := by
  exact guided (gs := [.go 27, .br false, .go 1, .br false, .go 3, .br false, .go 3, .br false, .go 24, .br false, .go 1, .br false, .go 3, .br true]) (r := []) (by kernel_rfl) (And.intro c6 (And.intro c5 (And.intro c4 (And.intro c3 (And.intro c2 (And.intro c1 (And.intro c0 (trivial))))))))
/-  F F F F F F F T -/
theorem comp_7 (om : Nat → Nat) (n : Nat) (x0 x1 x2 x3 : Int)
    (c0 : (x0 != x0) = false)
    (c1 : (x2 != x2) = false)
    (c2 : decide (x0 < x2) = false)
    (c3 : decide (x0 > x2) = false)
    (c4 : (x1 != x1) = false)
    (c5 : (x3 != x3) = false)
    (c6 : decide (x1 < x3) = false)
    (c7 : decide (x1 > x3) = true)
    : acall E1 om 10000 (n + 3) (ACallee.fn 26) [Value.agg (Array.mk [Value.int IntKind.u32 x0, Value.int IntKind.i64 x1]), Value.agg (Array.mk [Value.int IntKind.u32 x2, Value.int IntKind.i64 x3])] (AHeap.mk [gLook [] 7, gLook [] 6, gLook [] 5, gLook [] 4, gLook [] 3, gLook [] 2, gLook [] 1, gLook [] 0] 8 8 0) = some (Value.int IntKind.i64 1, AHeap.mk [AObj.cells [Value.int IntKind.i64 0, Value.int IntKind.i64 1] 1 true, AObj.cells [Value.int IntKind.u32 x2, Value.int IntKind.i64 x3] 0 true, AObj.cells [Value.int IntKind.u32 x0, Value.int IntKind.i64 x1] 0 true, gLook [] 7, gLook [] 6, gLook [] 5, gLook [] 4, gLook [] 3, gLook [] 2, gLook [] 1, gLook [] 0] 11 8 0) := by
  exact guided (gs := [.go 27, .br false, .go 1, .br false, .go 3, .br false, .go 3, .br false, .go 24, .br false, .go 1, .br false, .go 3, .br false, .go 3, .br true]) (r := []) (by kernel_rfl) (And.intro c7 (And.intro c6 (And.intro c5 (And.intro c4 (And.intro c3 (And.intro c2 (And.intro c1 (And.intro c0 (trivial)))))))))
/-  F F F F F F F F -/
theorem comp_8 (om : Nat → Nat) (n : Nat) (x0 x1 x2 x3 : Int)
    (c0 : (x0 != x0) = false)
    (c1 : (x2 != x2) = false)
    (c2 : decide (x0 < x2) = false)
    (c3 : decide (x0 > x2) = false)
    (c4 : (x1 != x1) = false)
    (c5 : (x3 != x3) = false)
    (c6 : decide (x1 < x3) = false)
    (c7 : decide (x1 > x3) = false)
    : acall E1 om 10000 (n + 3) (ACallee.fn 26) [Value.agg (Array.mk [Value.int IntKind.u32 x0, Value.int IntKind.i64 x1]), Value.agg (Array.mk [Value.int IntKind.u32 x2, Value.int IntKind.i64 x3])] (AHeap.mk [gLook [] 7, gLook [] 6, gLook [] 5, gLook [] 4, gLook [] 3, gLook [] 2, gLook [] 1, gLook [] 0] 8 8 0) = some (Value.int IntKind.i64 0, AHeap.mk [AObj.cells [Value.int IntKind.i64 0, Value.int IntKind.i64 0] 1 true, AObj.cells [Value.int IntKind.u32 x2, Value.int IntKind.i64 x3] 0 true, AObj.cells [Value.int IntKind.u32 x0, Value.int IntKind.i64 x1] 0 true, gLook [] 7, gLook [] 6, gLook [] 5, gLook [] 4, gLook [] 3, gLook [] 2, gLook [] 1, gLook [] 0] 11 8 0) := by
  exact guided (gs := [.go 27, .br false, .go 1, .br false, .go 3, .br false, .go 3, .br false, .go 24, .br false, .go 1, .br false, .go 3, .br false, .go 3, .br false]) (r := []) (by kernel_rfl) (And.intro c7 (And.intro c6 (And.intro c5 (And.intro c4 (And.intro c3 (And.intro c2 (And.intro c1 (And.intro c0 (trivial)))))))))
/-  + + + + + + + + -/
theorem pbit_0 (om : Nat → Nat) (n : Nat) (x0 x1 x2 : Int)
    (c0 : decide (x1 ≥ 0) = true)
    (c3 : decide (x1 < 32) = true)
    (c7 : pureE (abin (AEnv.P E1) (AEnv.eqOk E1) BinOp.shr 24 (Value.int IntKind.u32 x0) (Value.int IntKind.i64 (awrap IntKind.i64 (31 - x1))) false) = some (Value.int IntKind.u32 x2, Eff.id))
    : acall E1 om 10000 (n + 1) (ACallee.fn 27) [Value.int IntKind.u32 x0, Value.int IntKind.i64 x1] (AHeap.mk [gLook [] 7, gLook [] 6, gLook [] 5, gLook [] 4, gLook [] 3, gLook [] 2, gLook [] 1, gLook [] 0] 8 8 0) = some (Value.bool (awrap IntKind.u32 (↑(BitVec.toNat (BitVec.ofInt 32 x2 &&& BitVec.ofInt 32 1)) : Int) == 1), AHeap.mk [gLook [] 7, gLook [] 6, gLook [] 5, gLook [] 4, gLook [] 3, gLook [] 2, gLook [] 1, gLook [] 0] 8 8 0) := by
  exact guided (gs := [.go 5, .br true, .go 1, .br true, .go 1, .val (Value.bool (decide (x1 < 32))), .go 1, .br true, .go 1, .br true, .go 1, .br true, .go 1, .br true, .val (Value.int IntKind.u32 x2), .br true, .go 1, .br true, .go 1, .val (Value.bool (awrap IntKind.u32 (↑(BitVec.toNat (BitVec.ofInt 32 x2 &&& BitVec.ofInt 32 1)) : Int) == 1))]) (r := []) (by kernel_rfl) (And.intro (pickE_t c3 (Value.bool (awrap IntKind.u32 (↑(BitVec.toNat (BitVec.ofInt 32 x2 &&& BitVec.ofInt 32 1)) : Int) == 1)) (Value.bool false)) (And.intro c3 (And.intro c3 (And.intro c7 (And.intro c3 (And.intro c3 (And.intro c3 (And.intro c3 (And.intro (pickE_t c0 (Value.bool (decide (x1 < 32))) (Value.bool false)) (And.intro c0 (And.intro c0 (trivial))))))))))))
/-  + + - - - - - - -/
theorem pbit_1 (om : Nat → Nat) (n : Nat) (x0 x1 : Int)
    (c0 : decide (x1 ≥ 0) = true)
    (c3 : decide (x1 < 32) = false)
    : acall E1 om 10000 (n + 1) (ACallee.fn 27) [Value.int IntKind.u32 x0, Value.int IntKind.i64 x1] (AHeap.mk [gLook [] 7, gLook [] 6, gLook [] 5, gLook [] 4, gLook [] 3, gLook [] 2, gLook [] 1, gLook [] 0] 8 8 0) = some (Value.bool false, AHeap.mk [gLook [] 7, gLook [] 6, gLook [] 5, gLook [] 4, gLook [] 3, gLook [] 2, gLook [] 1, gLook [] 0] 8 8 0) := by
  exact guided (gs := [.go 5, .br true, .go 1, .br true, .go 1, .val (Value.bool (decide (x1 < 32))), .go 1, .br false, .br false, .br false, .br false, .br false, .br false, .val (Value.bool false)]) (r := []) (by kernel_rfl) (And.intro (pickE_f c3 (undef) (Value.bool false)) (And.intro c3 (And.intro c3 (And.intro c3 (And.intro c3 (And.intro c3 (And.intro c3 (And.intro (pickE_t c0 (Value.bool (decide (x1 < 32))) (Value.bool false)) (And.intro c0 (And.intro c0 (trivial)))))))))))
/-  - - -/
theorem pbit_2 (om : Nat → Nat) (n : Nat) (x0 x1 : Int)
    (c0 : decide (x1 ≥ 0) = false)
    : acall E1 om 10000 (n + 1) (ACallee.fn 27) [Value.int IntKind.u32 x0, Value.int IntKind.i64 x1] (AHeap.mk [gLook [] 7, gLook [] 6, gLook [] 5, gLook [] 4, gLook [] 3, gLook [] 2, gLook [] 1, gLook [] 0] 8 8 0) = some (Value.bool false, AHeap.mk [gLook [] 7, gLook [] 6, gLook [] 5, gLook [] 4, gLook [] 3, gLook [] 2, gLook [] 1, gLook [] 0] 8 8 0) := by
  exact guided (gs := [.go 5, .br false, .br false, .val (Value.bool false)]) (r := []) (by kernel_rfl) (And.intro (pickE_f c0 (undef) (Value.bool false)) (And.intro c0 (And.intro c0 (trivial))))
