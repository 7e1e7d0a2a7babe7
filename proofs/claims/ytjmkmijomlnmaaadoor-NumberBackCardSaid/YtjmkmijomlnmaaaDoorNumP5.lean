/- Part of a proof about a Go program: the abstract machine walks its code; no condition. -/
import Derived.Test.YtjmkmijomlnmaaaDoorNumEnv2
open Go Go.Am Go.Am.W Go.Proofs
set_option maxRecDepth 100000
/-  C20 C21 T C21 + + T -/
theorem nparse_0 (om : Nat → Nat) (n : Nat) (s0 : ByteArray) (h1 : AHeap) (s2 s3 : ByteArray) (b4 : Bool) (x5 : Int) (b6 : Bool) (x7 : Int) (b8 : Bool)
    (c0 : acall E2 om 10000 n (ACallee.fn 20) [Value.string s0, Value.string (bs [46])] h1 = some (Value.tuple (Array.mk [Value.string s2, Value.string s3, Value.bool b4]), h1))
    (c1 : acall E2 om 10000 n (ACallee.fn 21) [Value.string s2] h1 = some (Value.tuple (Array.mk [Value.int IntKind.u64 x5, Value.bool b6]), h1))
    (c2 : b4 = true)
    (c3 : acall E2 om 10000 n (ACallee.fn 21) [Value.string s3] h1 = some (Value.tuple (Array.mk [Value.int IntKind.u64 x7, Value.bool b8]), h1))
    (c4 : (!b6) = false)
    (c7 : (!b8) = true)
    : acall E2 om 10000 (n + 1) (ACallee.fn 7) [Value.string s0] h1 = some (Value.tuple (Array.mk [Value.int IntKind.u32 0, Value.int IntKind.i64 5]), h1) := by
  exact guided (gs := [.go 4, .val (Value.tuple (Array.mk [Value.string s2, Value.string s3, Value.bool b4])), .go 8, .val (Value.tuple (Array.mk [Value.int IntKind.u64 x5, Value.bool b6])), .go 8, .br true, .go 1, .val (Value.tuple (Array.mk [Value.int IntKind.u64 x7, Value.bool b8])), .go 8, .br true, .go 1, .br true, .go 1, .val (Value.bool !b8), .go 1, .br true]) (r := []) (by kernel_rfl) (And.intro c7 (And.intro (pickE_f c4 (Value.bool true) (Value.bool !b8)) (And.intro c4 (And.intro c4 (And.intro c3 (And.intro c2 (And.intro c1 (And.intro c0 (trivial)))))))))
/-  C20 C21 T C21 + + F + + + + + + + + T -/
theorem nparse_1 (om : Nat → Nat) (n : Nat) (s0 : ByteArray) (h1 : AHeap) (s2 s3 : ByteArray) (b4 : Bool) (x5 : Int) (b6 : Bool) (x7 : Int) (b8 : Bool)
    (c0 : acall E2 om 10000 n (ACallee.fn 20) [Value.string s0, Value.string (bs [46])] h1 = some (Value.tuple (Array.mk [Value.string s2, Value.string s3, Value.bool b4]), h1))
    (c1 : acall E2 om 10000 n (ACallee.fn 21) [Value.string s2] h1 = some (Value.tuple (Array.mk [Value.int IntKind.u64 x5, Value.bool b6]), h1))
    (c2 : b4 = true)
    (c3 : acall E2 om 10000 n (ACallee.fn 21) [Value.string s3] h1 = some (Value.tuple (Array.mk [Value.int IntKind.u64 x7, Value.bool b8]), h1))
    (c4 : (!b6) = false)
    (c7 : (!b8) = false)
    (c11 : decide (x5 > 65535) = false)
    (c16 : decide (x7 > 65535) = false)
    (c19 : decide (x5 > 4294967295) = true)
    : acall E2 om 10000 (n + 1) (ACallee.fn 7) [Value.string s0] h1 = some (Value.tuple (Array.mk [Value.int IntKind.u32 0, Value.int IntKind.i64 24]), h1) := by
  exact guided (gs := [.go 4, .val (Value.tuple (Array.mk [Value.string s2, Value.string s3, Value.bool b4])), .go 8, .val (Value.tuple (Array.mk [Value.int IntKind.u64 x5, Value.bool b6])), .go 8, .br true, .go 1, .val (Value.tuple (Array.mk [Value.int IntKind.u64 x7, Value.bool b8])), .go 8, .br true, .go 1, .br true, .go 1, .val (Value.bool !b8), .go 1, .br false, .go 2, .br true, .go 1, .br true, .go 1, .br true, .go 1, .br true, .go 1, .br true, .go 1, .br true, .val (Value.bool (decide (x7 > 65535))), .val (Value.bool (decide (x7 > 65535))), .go 1, .br true, .go 1, .br true, .go 1, .val (Value.bool (decide (x5 > 4294967295))), .go 1, .br true]) (r := []) (by kernel_rfl) (And.intro c19 (And.intro (pickE_f c16 (Value.bool true) (Value.bool (decide (x5 > 4294967295)))) (And.intro c16 (And.intro c16 (And.intro (pickE_t c2 (Value.bool (decide (x7 > 65535))) (Value.bool false)) (And.intro (pickE_f c11 (Value.bool true) (Value.bool (decide (x7 > 65535)))) (And.intro c2 (And.intro c11 (And.intro c11 (And.intro c2 (And.intro c2 (And.intro c2 (And.intro c7 (And.intro (pickE_f c4 (Value.bool true) (Value.bool !b8)) (And.intro c4 (And.intro c4 (And.intro c3 (And.intro c2 (And.intro c1 (And.intro c0 (trivial)))))))))))))))))))))
/-  C20 C21 T C21 + + F + + + + + + + + F T -/
theorem nparse_2 (om : Nat → Nat) (n : Nat) (s0 : ByteArray) (h1 : AHeap) (s2 s3 : ByteArray) (b4 : Bool) (x5 : Int) (b6 : Bool) (x7 : Int) (b8 : Bool)
    (c0 : acall E2 om 10000 n (ACallee.fn 20) [Value.string s0, Value.string (bs [46])] h1 = some (Value.tuple (Array.mk [Value.string s2, Value.string s3, Value.bool b4]), h1))
    (c1 : acall E2 om 10000 n (ACallee.fn 21) [Value.string s2] h1 = some (Value.tuple (Array.mk [Value.int IntKind.u64 x5, Value.bool b6]), h1))
    (c2 : b4 = true)
    (c3 : acall E2 om 10000 n (ACallee.fn 21) [Value.string s3] h1 = some (Value.tuple (Array.mk [Value.int IntKind.u64 x7, Value.bool b8]), h1))
    (c4 : (!b6) = false)
    (c7 : (!b8) = false)
    (c11 : decide (x5 > 65535) = false)
    (c16 : decide (x7 > 65535) = false)
    (c19 : decide (x5 > 4294967295) = false)
    : acall E2 om 10000 (n + 1) (ACallee.fn 7) [Value.string s0] h1 = some (Value.tuple (Array.mk [Value.int IntKind.u32 (awrap IntKind.u32 (awrap IntKind.u64 (↑(BitVec.toNat (BitVec.ofInt 64 (awrap IntKind.u64 (x5 * 65536)) ||| BitVec.ofInt 64 x7)) : Int))), Value.int IntKind.i64 0]), h1) := by
  exact guided (gs := [.go 4, .val (Value.tuple (Array.mk [Value.string s2, Value.string s3, Value.bool b4])), .go 8, .val (Value.tuple (Array.mk [Value.int IntKind.u64 x5, Value.bool b6])), .go 8, .br true, .go 1, .val (Value.tuple (Array.mk [Value.int IntKind.u64 x7, Value.bool b8])), .go 8, .br true, .go 1, .br true, .go 1, .val (Value.bool !b8), .go 1, .br false, .go 2, .br true, .go 1, .br true, .go 1, .br true, .go 1, .br true, .go 1, .br true, .go 1, .br true, .val (Value.bool (decide (x7 > 65535))), .val (Value.bool (decide (x7 > 65535))), .go 1, .br true, .go 1, .br true, .go 1, .val (Value.bool (decide (x5 > 4294967295))), .go 1, .br false, .go 2, .br true]) (r := []) (by kernel_rfl) (And.intro c2 (And.intro c19 (And.intro (pickE_f c16 (Value.bool true) (Value.bool (decide (x5 > 4294967295)))) (And.intro c16 (And.intro c16 (And.intro (pickE_t c2 (Value.bool (decide (x7 > 65535))) (Value.bool false)) (And.intro (pickE_f c11 (Value.bool true) (Value.bool (decide (x7 > 65535)))) (And.intro c2 (And.intro c11 (And.intro c11 (And.intro c2 (And.intro c2 (And.intro c2 (And.intro c7 (And.intro (pickE_f c4 (Value.bool true) (Value.bool !b8)) (And.intro c4 (And.intro c4 (And.intro c3 (And.intro c2 (And.intro c1 (And.intro c0 (trivial))))))))))))))))))))))
/-  C20 C21 T C21 + + F + + + + + + - - -/
theorem nparse_3 (om : Nat → Nat) (n : Nat) (s0 : ByteArray) (h1 : AHeap) (s2 s3 : ByteArray) (b4 : Bool) (x5 : Int) (b6 : Bool) (x7 : Int) (b8 : Bool)
    (c0 : acall E2 om 10000 n (ACallee.fn 20) [Value.string s0, Value.string (bs [46])] h1 = some (Value.tuple (Array.mk [Value.string s2, Value.string s3, Value.bool b4]), h1))
    (c1 : acall E2 om 10000 n (ACallee.fn 21) [Value.string s2] h1 = some (Value.tuple (Array.mk [Value.int IntKind.u64 x5, Value.bool b6]), h1))
    (c2 : b4 = true)
    (c3 : acall E2 om 10000 n (ACallee.fn 21) [Value.string s3] h1 = some (Value.tuple (Array.mk [Value.int IntKind.u64 x7, Value.bool b8]), h1))
    (c4 : (!b6) = false)
    (c7 : (!b8) = false)
    (c11 : decide (x5 > 65535) = false)
    (c16 : decide (x7 > 65535) = true)
    : acall E2 om 10000 (n + 1) (ACallee.fn 7) [Value.string s0] h1 = some (Value.tuple (Array.mk [Value.int IntKind.u32 0, Value.int IntKind.i64 24]), h1) := by
  exact guided (gs := [.go 4, .val (Value.tuple (Array.mk [Value.string s2, Value.string s3, Value.bool b4])), .go 8, .val (Value.tuple (Array.mk [Value.int IntKind.u64 x5, Value.bool b6])), .go 8, .br true, .go 1, .val (Value.tuple (Array.mk [Value.int IntKind.u64 x7, Value.bool b8])), .go 8, .br true, .go 1, .br true, .go 1, .val (Value.bool !b8), .go 1, .br false, .go 2, .br true, .go 1, .br true, .go 1, .br true, .go 1, .br true, .go 1, .br true, .go 1, .br true, .val (Value.bool (decide (x7 > 65535))), .val (Value.bool (decide (x7 > 65535))), .go 1, .br false, .br false, .val (Value.bool true)]) (r := []) (by kernel_rfl) (And.intro (pickE_t c16 (Value.bool true) (undef)) (And.intro c16 (And.intro c16 (And.intro (pickE_t c2 (Value.bool (decide (x7 > 65535))) (Value.bool false)) (And.intro (pickE_f c11 (Value.bool true) (Value.bool (decide (x7 > 65535)))) (And.intro c2 (And.intro c11 (And.intro c11 (And.intro c2 (And.intro c2 (And.intro c2 (And.intro c7 (And.intro (pickE_f c4 (Value.bool true) (Value.bool !b8)) (And.intro c4 (And.intro c4 (And.intro c3 (And.intro c2 (And.intro c1 (And.intro c0 (trivial))))))))))))))))))))
/-  C20 C21 T C21 + + F + + + - - + -/
theorem nparse_4 (om : Nat → Nat) (n : Nat) (s0 : ByteArray) (h1 : AHeap) (s2 s3 : ByteArray) (b4 : Bool) (x5 : Int) (b6 : Bool) (x7 : Int) (b8 : Bool)
    (c0 : acall E2 om 10000 n (ACallee.fn 20) [Value.string s0, Value.string (bs [46])] h1 = some (Value.tuple (Array.mk [Value.string s2, Value.string s3, Value.bool b4]), h1))
    (c1 : acall E2 om 10000 n (ACallee.fn 21) [Value.string s2] h1 = some (Value.tuple (Array.mk [Value.int IntKind.u64 x5, Value.bool b6]), h1))
    (c2 : b4 = true)
    (c3 : acall E2 om 10000 n (ACallee.fn 21) [Value.string s3] h1 = some (Value.tuple (Array.mk [Value.int IntKind.u64 x7, Value.bool b8]), h1))
    (c4 : (!b6) = false)
    (c7 : (!b8) = false)
    (c11 : decide (x5 > 65535) = true)
    : acall E2 om 10000 (n + 1) (ACallee.fn 7) [Value.string s0] h1 = some (Value.tuple (Array.mk [Value.int IntKind.u32 0, Value.int IntKind.i64 24]), h1) := by
  exact guided (gs := [.go 4, .val (Value.tuple (Array.mk [Value.string s2, Value.string s3, Value.bool b4])), .go 8, .val (Value.tuple (Array.mk [Value.int IntKind.u64 x5, Value.bool b6])), .go 8, .br true, .go 1, .val (Value.tuple (Array.mk [Value.int IntKind.u64 x7, Value.bool b8])), .go 8, .br true, .go 1, .br true, .go 1, .val (Value.bool !b8), .go 1, .br false, .go 2, .br true, .go 1, .br true, .go 1, .br true, .go 1, .br false, .br false, .br true, .val (Value.bool true), .val (Value.bool true)]) (r := []) (by kernel_rfl) (And.intro (pickE_t c2 (Value.bool true) (Value.bool false)) (And.intro (pickE_t c11 (Value.bool true) (undef)) (And.intro c2 (And.intro c11 (And.intro c11 (And.intro c2 (And.intro c2 (And.intro c2 (And.intro c7 (And.intro (pickE_f c4 (Value.bool true) (Value.bool !b8)) (And.intro c4 (And.intro c4 (And.intro c3 (And.intro c2 (And.intro c1 (And.intro c0 (trivial)))))))))))))))))
/-  C20 C21 T C21 - - -/
theorem nparse_5 (om : Nat → Nat) (n : Nat) (s0 : ByteArray) (h1 : AHeap) (s2 s3 : ByteArray) (b4 : Bool) (x5 : Int) (b6 : Bool) (x7 : Int) (b8 : Bool)
    (c0 : acall E2 om 10000 n (ACallee.fn 20) [Value.string s0, Value.string (bs [46])] h1 = some (Value.tuple (Array.mk [Value.string s2, Value.string s3, Value.bool b4]), h1))
    (c1 : acall E2 om 10000 n (ACallee.fn 21) [Value.string s2] h1 = some (Value.tuple (Array.mk [Value.int IntKind.u64 x5, Value.bool b6]), h1))
    (c2 : b4 = true)
    (c3 : acall E2 om 10000 n (ACallee.fn 21) [Value.string s3] h1 = some (Value.tuple (Array.mk [Value.int IntKind.u64 x7, Value.bool b8]), h1))
    (c4 : (!b6) = true)
    : acall E2 om 10000 (n + 1) (ACallee.fn 7) [Value.string s0] h1 = some (Value.tuple (Array.mk [Value.int IntKind.u32 0, Value.int IntKind.i64 5]), h1) := by
  exact guided (gs := [.go 4, .val (Value.tuple (Array.mk [Value.string s2, Value.string s3, Value.bool b4])), .go 8, .val (Value.tuple (Array.mk [Value.int IntKind.u64 x5, Value.bool b6])), .go 8, .br true, .go 1, .val (Value.tuple (Array.mk [Value.int IntKind.u64 x7, Value.bool b8])), .go 8, .br false, .br false, .val (Value.bool true)]) (r := []) (by kernel_rfl) (And.intro (pickE_t c4 (Value.bool true) (undef)) (And.intro c4 (And.intro c4 (And.intro c3 (And.intro c2 (And.intro c1 (And.intro c0 (trivial))))))))
/-  C20 C21 F + + - - - - T -/
theorem nparse_6 (om : Nat → Nat) (n : Nat) (s0 : ByteArray) (h1 : AHeap) (s2 s3 : ByteArray) (b4 : Bool) (x5 : Int) (b6 : Bool)
    (c0 : acall E2 om 10000 n (ACallee.fn 20) [Value.string s0, Value.string (bs [46])] h1 = some (Value.tuple (Array.mk [Value.string s2, Value.string s3, Value.bool b4]), h1))
    (c1 : acall E2 om 10000 n (ACallee.fn 21) [Value.string s2] h1 = some (Value.tuple (Array.mk [Value.int IntKind.u64 x5, Value.bool b6]), h1))
    (c2 : b4 = false)
    (c3 : (!b6) = false)
    (c11 : decide (x5 > 4294967295) = true)
    : acall E2 om 10000 (n + 1) (ACallee.fn 7) [Value.string s0] h1 = some (Value.tuple (Array.mk [Value.int IntKind.u32 0, Value.int IntKind.i64 24]), h1) := by
  exact guided (gs := [.go 4, .val (Value.tuple (Array.mk [Value.string s2, Value.string s3, Value.bool b4])), .go 8, .val (Value.tuple (Array.mk [Value.int IntKind.u64 x5, Value.bool b6])), .go 8, .br false, .go 3, .br true, .go 1, .br true, .go 1, .val (Value.bool false), .go 4, .br false, .br false, .br false, .go 2, .br false, .val (Value.bool false), .go 7, .br true]) (r := []) (by kernel_rfl) (And.intro c11 (And.intro (pickE_f c2 (undef) (Value.bool false)) (And.intro c2 (And.intro c2 (And.intro c2 (And.intro c2 (And.intro (pickE_f c3 (Value.bool true) (Value.bool false)) (And.intro c3 (And.intro c3 (And.intro c2 (And.intro c1 (And.intro c0 (trivial)))))))))))))
/-  C20 C21 F + + - - - - F F -/
theorem nparse_7 (om : Nat → Nat) (n : Nat) (s0 : ByteArray) (h1 : AHeap) (s2 s3 : ByteArray) (b4 : Bool) (x5 : Int) (b6 : Bool)
    (c0 : acall E2 om 10000 n (ACallee.fn 20) [Value.string s0, Value.string (bs [46])] h1 = some (Value.tuple (Array.mk [Value.string s2, Value.string s3, Value.bool b4]), h1))
    (c1 : acall E2 om 10000 n (ACallee.fn 21) [Value.string s2] h1 = some (Value.tuple (Array.mk [Value.int IntKind.u64 x5, Value.bool b6]), h1))
    (c2 : b4 = false)
    (c3 : (!b6) = false)
    (c11 : decide (x5 > 4294967295) = false)
    : acall E2 om 10000 (n + 1) (ACallee.fn 7) [Value.string s0] h1 = some (Value.tuple (Array.mk [Value.int IntKind.u32 (awrap IntKind.u32 x5), Value.int IntKind.i64 0]), h1) := by
  exact guided (gs := [.go 4, .val (Value.tuple (Array.mk [Value.string s2, Value.string s3, Value.bool b4])), .go 8, .val (Value.tuple (Array.mk [Value.int IntKind.u64 x5, Value.bool b6])), .go 8, .br false, .go 3, .br true, .go 1, .br true, .go 1, .val (Value.bool false), .go 4, .br false, .br false, .br false, .go 2, .br false, .val (Value.bool false), .go 7, .br false, .go 2, .br false]) (r := []) (by kernel_rfl) (And.intro c2 (And.intro c11 (And.intro (pickE_f c2 (undef) (Value.bool false)) (And.intro c2 (And.intro c2 (And.intro c2 (And.intro c2 (And.intro (pickE_f c3 (Value.bool true) (Value.bool false)) (And.intro c3 (And.intro c3 (And.intro c2 (And.intro c1 (And.intro c0 (trivial))))))))))))))
/-  C20 C21 F - - -/
theorem nparse_8 (om : Nat → Nat) (n : Nat) (s0 : ByteArray) (h1 : AHeap) (s2 s3 : ByteArray) (b4 : Bool) (x5 : Int) (b6 : Bool)
    (c0 : acall E2 om 10000 n (ACallee.fn 20) [Value.string s0, Value.string (bs [46])] h1 = some (Value.tuple (Array.mk [Value.string s2, Value.string s3, Value.bool b4]), h1))
    (c1 : acall E2 om 10000 n (ACallee.fn 21) [Value.string s2] h1 = some (Value.tuple (Array.mk [Value.int IntKind.u64 x5, Value.bool b6]), h1))
    (c2 : b4 = false)
    (c3 : (!b6) = true)
    : acall E2 om 10000 (n + 1) (ACallee.fn 7) [Value.string s0] h1 = some (Value.tuple (Array.mk [Value.int IntKind.u32 0, Value.int IntKind.i64 5]), h1) := by
  exact guided (gs := [.go 4, .val (Value.tuple (Array.mk [Value.string s2, Value.string s3, Value.bool b4])), .go 8, .val (Value.tuple (Array.mk [Value.int IntKind.u64 x5, Value.bool b6])), .go 8, .br false, .go 3, .br false, .br false, .val (Value.bool true)]) (r := []) (by kernel_rfl) (And.intro (pickE_t c3 (Value.bool true) (undef)) (And.intro c3 (And.intro c3 (And.intro c2 (And.intro c1 (And.intro c0 (trivial)))))))
/-  C22 T -/
theorem rparse_0 (om : Nat → Nat) (n : Nat) (s0 : ByteArray) (h1 : AHeap) (x2 x3 : Int)
    (c0 : acall E2 om 10000 n (ACallee.fn 22) [Value.string s0, Value.int IntKind.i64 0] h1 = some (Value.tuple (Array.mk [Value.int IntKind.i64 x2, Value.int IntKind.i64 x3]), h1))
    (c1 : (x3 == 0) = true)
    : acall E2 om 10000 (n + 1) (ACallee.fn 8) [Value.string s0] h1 = some (Value.tuple (Array.mk [Value.int IntKind.u32 0, Value.int IntKind.i64 5]), h1) := by
  exact guided (gs := [.go 4, .val (Value.tuple (Array.mk [Value.int IntKind.i64 x2, Value.int IntKind.i64 x3])), .go 7, .br true]) (r := []) (by kernel_rfl) (And.intro c1 (And.intro c0 (trivial)))
/-  C22 F T T -/
theorem rparse_1 (om : Nat → Nat) (n : Nat) (s0 : ByteArray) (h1 : AHeap) (x2 x3 : Int)
    (c0 : acall E2 om 10000 n (ACallee.fn 22) [Value.string s0, Value.int IntKind.i64 0] h1 = some (Value.tuple (Array.mk [Value.int IntKind.i64 x2, Value.int IntKind.i64 x3]), h1))
    (c1 : (x3 == 0) = false)
    (c2 : (x3 == (↑(ByteArray.size s0) : Int)) = true)
    (c3 : decide (x2 > 4294967295) = true)
    : acall E2 om 10000 (n + 1) (ACallee.fn 8) [Value.string s0] h1 = some (Value.tuple (Array.mk [Value.int IntKind.u32 0, Value.int IntKind.i64 24]), h1) := by
  exact guided (gs := [.go 4, .val (Value.tuple (Array.mk [Value.int IntKind.i64 x2, Value.int IntKind.i64 x3])), .go 7, .br false, .go 4, .br true, .go 2, .br true]) (r := []) (by kernel_rfl) (And.intro c3 (And.intro c2 (And.intro c1 (And.intro c0 (trivial)))))
/-  C22 F T F -/
theorem rparse_2 (om : Nat → Nat) (n : Nat) (s0 : ByteArray) (h1 : AHeap) (x2 x3 : Int)
    (c0 : acall E2 om 10000 n (ACallee.fn 22) [Value.string s0, Value.int IntKind.i64 0] h1 = some (Value.tuple (Array.mk [Value.int IntKind.i64 x2, Value.int IntKind.i64 x3]), h1))
    (c1 : (x3 == 0) = false)
    (c2 : (x3 == (↑(ByteArray.size s0) : Int)) = true)
    (c3 : decide (x2 > 4294967295) = false)
    : acall E2 om 10000 (n + 1) (ACallee.fn 8) [Value.string s0] h1 = some (Value.tuple (Array.mk [Value.int IntKind.u32 (awrap IntKind.u32 x2), Value.int IntKind.i64 0]), h1) := by
  exact guided (gs := [.go 4, .val (Value.tuple (Array.mk [Value.int IntKind.i64 x2, Value.int IntKind.i64 x3])), .go 7, .br false, .go 4, .br true, .go 2, .br false]) (r := []) (by kernel_rfl) (And.intro c3 (And.intro c2 (And.intro c1 (And.intro c0 (trivial)))))
/-  C22 F F T -/
theorem rparse_3 (om : Nat → Nat) (n : Nat) (s0 : ByteArray) (h1 : AHeap) (x2 x3 x4 : Int)
    (c0 : acall E2 om 10000 n (ACallee.fn 22) [Value.string s0, Value.int IntKind.i64 0] h1 = some (Value.tuple (Array.mk [Value.int IntKind.i64 x2, Value.int IntKind.i64 x3]), h1))
    (c1 : (x3 == 0) = false)
    (c2 : (x3 == (↑(ByteArray.size s0) : Int)) = false)
    (c3 : pureE (aindex (AEnv.P E2) 9 (Value.string s0) (Value.int IntKind.i64 x3)) = some (Value.int IntKind.u8 x4, Eff.id))
    (c4 : (x4 != 46) = true)
    : acall E2 om 10000 (n + 1) (ACallee.fn 8) [Value.string s0] h1 = some (Value.tuple (Array.mk [Value.int IntKind.u32 0, Value.int IntKind.i64 5]), h1) := by
  exact guided (gs := [.go 4, .val (Value.tuple (Array.mk [Value.int IntKind.i64 x2, Value.int IntKind.i64 x3])), .go 7, .br false, .go 4, .br false, .go 2, .val (Value.int IntKind.u8 x4), .go 1, .br true]) (r := []) (by kernel_rfl) (And.intro c4 (And.intro c3 (And.intro c2 (And.intro c1 (And.intro c0 (trivial))))))
/-  C22 F F F C22 + + + + + + + T -/
theorem rparse_4 (om : Nat → Nat) (n : Nat) (s0 : ByteArray) (h1 : AHeap) (x2 x3 x4 x5 x6 : Int)
    (c0 : acall E2 om 10000 n (ACallee.fn 22) [Value.string s0, Value.int IntKind.i64 0] h1 = some (Value.tuple (Array.mk [Value.int IntKind.i64 x2, Value.int IntKind.i64 x3]), h1))
    (c1 : (x3 == 0) = false)
    (c2 : (x3 == (↑(ByteArray.size s0) : Int)) = false)
    (c3 : pureE (aindex (AEnv.P E2) 9 (Value.string s0) (Value.int IntKind.i64 x3)) = some (Value.int IntKind.u8 x4, Eff.id))
    (c4 : (x4 != 46) = false)
    (c5 : acall E2 om 10000 n (ACallee.fn 22) [Value.string s0, Value.int IntKind.i64 (awrap IntKind.i64 (x3 + 1))] h1 = some (Value.tuple (Array.mk [Value.int IntKind.i64 x5, Value.int IntKind.i64 x6]), h1))
    (c6 : (x6 == 0) = false)
    (c14 : (awrap IntKind.i64 (awrap IntKind.i64 (x3 + 1) + x6) != (↑(ByteArray.size s0) : Int)) = true)
    : acall E2 om 10000 (n + 1) (ACallee.fn 8) [Value.string s0] h1 = some (Value.tuple (Array.mk [Value.int IntKind.u32 0, Value.int IntKind.i64 5]), h1) := by
  exact guided (gs := [.go 4, .val (Value.tuple (Array.mk [Value.int IntKind.i64 x2, Value.int IntKind.i64 x3])), .go 7, .br false, .go 4, .br false, .go 2, .val (Value.int IntKind.u8 x4), .go 1, .br false, .go 3, .val (Value.tuple (Array.mk [Value.int IntKind.i64 x5, Value.int IntKind.i64 x6])), .go 8, .br true, .go 1, .br true, .go 1, .br true, .go 1, .br true, .go 1, .br true, .go 1, .br true, .go 1, .br true, .go 1, .val (Value.bool (awrap IntKind.i64 (awrap IntKind.i64 (x3 + 1) + x6) != (↑(ByteArray.size s0) : Int))), .br true]) (r := []) (by kernel_rfl) (And.intro c14 (And.intro (pickE_f c6 (Value.bool true) (Value.bool (awrap IntKind.i64 (awrap IntKind.i64 (x3 + 1) + x6) != (↑(ByteArray.size s0) : Int)))) (And.intro c6 (And.intro c6 (And.intro c6 (And.intro c6 (And.intro c6 (And.intro c6 (And.intro c6 (And.intro c5 (And.intro c4 (And.intro c3 (And.intro c2 (And.intro c1 (And.intro c0 (trivial))))))))))))))))
/-  C22 F F F C22 + + + + + + + F + + T -/
theorem rparse_5 (om : Nat → Nat) (n : Nat) (s0 : ByteArray) (h1 : AHeap) (x2 x3 x4 x5 x6 : Int)
    (c0 : acall E2 om 10000 n (ACallee.fn 22) [Value.string s0, Value.int IntKind.i64 0] h1 = some (Value.tuple (Array.mk [Value.int IntKind.i64 x2, Value.int IntKind.i64 x3]), h1))
    (c1 : (x3 == 0) = false)
    (c2 : (x3 == (↑(ByteArray.size s0) : Int)) = false)
    (c3 : pureE (aindex (AEnv.P E2) 9 (Value.string s0) (Value.int IntKind.i64 x3)) = some (Value.int IntKind.u8 x4, Eff.id))
    (c4 : (x4 != 46) = false)
    (c5 : acall E2 om 10000 n (ACallee.fn 22) [Value.string s0, Value.int IntKind.i64 (awrap IntKind.i64 (x3 + 1))] h1 = some (Value.tuple (Array.mk [Value.int IntKind.i64 x5, Value.int IntKind.i64 x6]), h1))
    (c6 : (x6 == 0) = false)
    (c14 : (awrap IntKind.i64 (awrap IntKind.i64 (x3 + 1) + x6) != (↑(ByteArray.size s0) : Int)) = false)
    (c15 : decide (x2 > 65535) = false)
    (c18 : decide (x5 > 65535) = true)
    : acall E2 om 10000 (n + 1) (ACallee.fn 8) [Value.string s0] h1 = some (Value.tuple (Array.mk [Value.int IntKind.u32 0, Value.int IntKind.i64 24]), h1) := by
  exact guided (gs := [.go 4, .val (Value.tuple (Array.mk [Value.int IntKind.i64 x2, Value.int IntKind.i64 x3])), .go 7, .br false, .go 4, .br false, .go 2, .val (Value.int IntKind.u8 x4), .go 1, .br false, .go 3, .val (Value.tuple (Array.mk [Value.int IntKind.i64 x5, Value.int IntKind.i64 x6])), .go 8, .br true, .go 1, .br true, .go 1, .br true, .go 1, .br true, .go 1, .br true, .go 1, .br true, .go 1, .br true, .go 1, .val (Value.bool (awrap IntKind.i64 (awrap IntKind.i64 (x3 + 1) + x6) != (↑(ByteArray.size s0) : Int))), .br false, .go 3, .br true, .go 1, .br true, .go 1, .val (Value.bool (decide (x5 > 65535))), .br true]) (r := []) (by kernel_rfl) (And.intro c18 (And.intro (pickE_f c15 (Value.bool true) (Value.bool (decide (x5 > 65535)))) (And.intro c15 (And.intro c15 (And.intro c14 (And.intro (pickE_f c6 (Value.bool true) (Value.bool (awrap IntKind.i64 (awrap IntKind.i64 (x3 + 1) + x6) != (↑(ByteArray.size s0) : Int)))) (And.intro c6 (And.intro c6 (And.intro c6 (And.intro c6 (And.intro c6 (And.intro c6 (And.intro c6 (And.intro c5 (And.intro c4 (And.intro c3 (And.intro c2 (And.intro c1 (And.intro c0 (trivial))))))))))))))))))))
/-  C22 F F F C22 + + + + + + + F + + F -/
theorem rparse_6 (om : Nat → Nat) (n : Nat) (s0 : ByteArray) (h1 : AHeap) (x2 x3 x4 x5 x6 : Int)
    (c0 : acall E2 om 10000 n (ACallee.fn 22) [Value.string s0, Value.int IntKind.i64 0] h1 = some (Value.tuple (Array.mk [Value.int IntKind.i64 x2, Value.int IntKind.i64 x3]), h1))
    (c1 : (x3 == 0) = false)
    (c2 : (x3 == (↑(ByteArray.size s0) : Int)) = false)
    (c3 : pureE (aindex (AEnv.P E2) 9 (Value.string s0) (Value.int IntKind.i64 x3)) = some (Value.int IntKind.u8 x4, Eff.id))
    (c4 : (x4 != 46) = false)
    (c5 : acall E2 om 10000 n (ACallee.fn 22) [Value.string s0, Value.int IntKind.i64 (awrap IntKind.i64 (x3 + 1))] h1 = some (Value.tuple (Array.mk [Value.int IntKind.i64 x5, Value.int IntKind.i64 x6]), h1))
    (c6 : (x6 == 0) = false)
    (c14 : (awrap IntKind.i64 (awrap IntKind.i64 (x3 + 1) + x6) != (↑(ByteArray.size s0) : Int)) = false)
    (c15 : decide (x2 > 65535) = false)
    (c18 : decide (x5 > 65535) = false)
    : acall E2 om 10000 (n + 1) (ACallee.fn 8) [Value.string s0] h1 = some (Value.tuple (Array.mk [Value.int IntKind.u32 (awrap IntKind.u32 (awrap IntKind.i64 (awrap IntKind.i64 (65536 * x2) + x5))), Value.int IntKind.i64 0]), h1) := by
  exact guided (gs := [.go 4, .val (Value.tuple (Array.mk [Value.int IntKind.i64 x2, Value.int IntKind.i64 x3])), .go 7, .br false, .go 4, .br false, .go 2, .val (Value.int IntKind.u8 x4), .go 1, .br false, .go 3, .val (Value.tuple (Array.mk [Value.int IntKind.i64 x5, Value.int IntKind.i64 x6])), .go 8, .br true, .go 1, .br true, .go 1, .br true, .go 1, .br true, .go 1, .br true, .go 1, .br true, .go 1, .br true, .go 1, .val (Value.bool (awrap IntKind.i64 (awrap IntKind.i64 (x3 + 1) + x6) != (↑(ByteArray.size s0) : Int))), .br false, .go 3, .br true, .go 1, .br true, .go 1, .val (Value.bool (decide (x5 > 65535))), .br false]) (r := []) (by kernel_rfl) (And.intro c18 (And.intro (pickE_f c15 (Value.bool true) (Value.bool (decide (x5 > 65535)))) (And.intro c15 (And.intro c15 (And.intro c14 (And.intro (pickE_f c6 (Value.bool true) (Value.bool (awrap IntKind.i64 (awrap IntKind.i64 (x3 + 1) + x6) != (↑(ByteArray.size s0) : Int)))) (And.intro c6 (And.intro c6 (And.intro c6 (And.intro c6 (And.intro c6 (And.intro c6 (And.intro c6 (And.intro c5 (And.intro c4 (And.intro c3 (And.intro c2 (And.intro c1 (And.intro c0 (trivial))))))))))))))))))))
/-  C22 F F F C22 + + + + + + + F - - -/
theorem rparse_7 (om : Nat → Nat) (n : Nat) (s0 : ByteArray) (h1 : AHeap) (x2 x3 x4 x5 x6 : Int)
    (c0 : acall E2 om 10000 n (ACallee.fn 22) [Value.string s0, Value.int IntKind.i64 0] h1 = some (Value.tuple (Array.mk [Value.int IntKind.i64 x2, Value.int IntKind.i64 x3]), h1))
    (c1 : (x3 == 0) = false)
    (c2 : (x3 == (↑(ByteArray.size s0) : Int)) = false)
    (c3 : pureE (aindex (AEnv.P E2) 9 (Value.string s0) (Value.int IntKind.i64 x3)) = some (Value.int IntKind.u8 x4, Eff.id))
    (c4 : (x4 != 46) = false)
    (c5 : acall E2 om 10000 n (ACallee.fn 22) [Value.string s0, Value.int IntKind.i64 (awrap IntKind.i64 (x3 + 1))] h1 = some (Value.tuple (Array.mk [Value.int IntKind.i64 x5, Value.int IntKind.i64 x6]), h1))
    (c6 : (x6 == 0) = false)
    (c14 : (awrap IntKind.i64 (awrap IntKind.i64 (x3 + 1) + x6) != (↑(ByteArray.size s0) : Int)) = false)
    (c15 : decide (x2 > 65535) = true)
    : acall E2 om 10000 (n + 1) (ACallee.fn 8) [Value.string s0] h1 = some (Value.tuple (Array.mk [Value.int IntKind.u32 0, Value.int IntKind.i64 24]), h1) := by
  exact guided (gs := [.go 4, .val (Value.tuple (Array.mk [Value.int IntKind.i64 x2, Value.int IntKind.i64 x3])), .go 7, .br false, .go 4, .br false, .go 2, .val (Value.int IntKind.u8 x4), .go 1, .br false, .go 3, .val (Value.tuple (Array.mk [Value.int IntKind.i64 x5, Value.int IntKind.i64 x6])), .go 8, .br true, .go 1, .br true, .go 1, .br true, .go 1, .br true, .go 1, .br true, .go 1, .br true, .go 1, .br true, .go 1, .val (Value.bool (awrap IntKind.i64 (awrap IntKind.i64 (x3 + 1) + x6) != (↑(ByteArray.size s0) : Int))), .br false, .go 3, .br false, .br false, .val (Value.bool true)]) (r := []) (by kernel_rfl) (And.intro (pickE_t c15 (Value.bool true) (undef)) (And.intro c15 (And.intro c15 (And.intro c14 (And.intro (pickE_f c6 (Value.bool true) (Value.bool (awrap IntKind.i64 (awrap IntKind.i64 (x3 + 1) + x6) != (↑(ByteArray.size s0) : Int)))) (And.intro c6 (And.intro c6 (And.intro c6 (And.intro c6 (And.intro c6 (And.intro c6 (And.intro c6 (And.intro c5 (And.intro c4 (And.intro c3 (And.intro c2 (And.intro c1 (And.intro c0 (trivial)))))))))))))))))))
/-  C22 F F F C22 - - - - - - - -/
theorem rparse_8 (om : Nat → Nat) (n : Nat) (s0 : ByteArray) (h1 : AHeap) (x2 x3 x4 x5 x6 : Int)
    (c0 : acall E2 om 10000 n (ACallee.fn 22) [Value.string s0, Value.int IntKind.i64 0] h1 = some (Value.tuple (Array.mk [Value.int IntKind.i64 x2, Value.int IntKind.i64 x3]), h1))
    (c1 : (x3 == 0) = false)
    (c2 : (x3 == (↑(ByteArray.size s0) : Int)) = false)
    (c3 : pureE (aindex (AEnv.P E2) 9 (Value.string s0) (Value.int IntKind.i64 x3)) = some (Value.int IntKind.u8 x4, Eff.id))
    (c4 : (x4 != 46) = false)
    (c5 : acall E2 om 10000 n (ACallee.fn 22) [Value.string s0, Value.int IntKind.i64 (awrap IntKind.i64 (x3 + 1))] h1 = some (Value.tuple (Array.mk [Value.int IntKind.i64 x5, Value.int IntKind.i64 x6]), h1))
    (c6 : (x6 == 0) = true)
    : acall E2 om 10000 (n + 1) (ACallee.fn 8) [Value.string s0] h1 = some (Value.tuple (Array.mk [Value.int IntKind.u32 0, Value.int IntKind.i64 5]), h1) := by
  exact guided (gs := [.go 4, .val (Value.tuple (Array.mk [Value.int IntKind.i64 x2, Value.int IntKind.i64 x3])), .go 7, .br false, .go 4, .br false, .go 2, .val (Value.int IntKind.u8 x4), .go 1, .br false, .go 3, .val (Value.tuple (Array.mk [Value.int IntKind.i64 x5, Value.int IntKind.i64 x6])), .go 8, .br false, .br false, .br false, .br false, .br false, .br false, .br false, .val (Value.bool true)]) (r := []) (by kernel_rfl) (And.intro (pickE_t c6 (Value.bool true) (undef)) (And.intro c6 (And.intro c6 (And.intro c6 (And.intro c6 (And.intro c6 (And.intro c6 (And.intro c6 (And.intro c5 (And.intro c4 (And.intro c3 (And.intro c2 (And.intro c1 (And.intro c0 (trivial)))))))))))))))
/-  C11 T -/
theorem nshort_0 (om : Nat → Nat) (n : Nat) (x0 : Int) (h1 : AHeap) (b2 : Bool)
    (c0 : acall E2 om 10000 n (ACallee.fn 11) [Value.int IntKind.u32 x0] h1 = some (Value.bool b2, h1))
    (c1 : b2 = true)
    : acall E2 om 10000 (n + 1) (ACallee.fn 10) [Value.int IntKind.u32 x0] h1 = some (Value.int IntKind.u16 23456, h1) := by
  exact guided (gs := [.go 3, .val (Value.bool b2), .br true]) (r := []) (by kernel_rfl) (And.intro c1 (And.intro c0 (trivial)))
/-  C11 F -/
theorem nshort_1 (om : Nat → Nat) (n : Nat) (x0 : Int) (h1 : AHeap) (b2 : Bool)
    (c0 : acall E2 om 10000 n (ACallee.fn 11) [Value.int IntKind.u32 x0] h1 = some (Value.bool b2, h1))
    (c1 : b2 = false)
    : acall E2 om 10000 (n + 1) (ACallee.fn 10) [Value.int IntKind.u32 x0] h1 = some (Value.int IntKind.u16 (awrap IntKind.u16 x0), h1) := by
  exact guided (gs := [.go 3, .val (Value.bool b2), .br false]) (r := []) (by kernel_rfl) (And.intro c1 (And.intro c0 (trivial)))
/-  -/
theorem nwide_0 (om : Nat → Nat) (n : Nat) (x0 : Int) (h1 : AHeap)
    : acall E2 om 10000 (n + 1) (ACallee.fn 11) [Value.int IntKind.u32 x0] h1 = some (Value.bool (decide (x0 > 65535)), h1) := by
  exact guided (gs := []) (r := []) (by kernel_rfl) (trivial)
/-  C11 T C13 -/
theorem ndotted_0 (om : Nat → Nat) (n : Nat) (x0 : Int) (h1 : AHeap) (b2 : Bool) (s3 : ByteArray)
    (c0 : acall E2 om 10000 n (ACallee.fn 11) [Value.int IntKind.u32 x0] h1 = some (Value.bool b2, h1))
    (c1 : (!b2) = true)
    (c2 : acall E2 om 10000 n (ACallee.fn 13) [Value.int IntKind.u32 x0] h1 = some (Value.string s3, h1))
    : acall E2 om 10000 (n + 1) (ACallee.fn 12) [Value.int IntKind.u32 x0] h1 = some (Value.string s3, h1) := by
  exact guided (gs := [.go 3, .val (Value.bool b2), .go 1, .br true, .go 1, .val (Value.string s3)]) (r := []) (by kernel_rfl) (And.intro c2 (And.intro c1 (And.intro c0 (trivial))))
/-  C11 F C13 C13 -/
theorem ndotted_1 (om : Nat → Nat) (n : Nat) (x0 : Int) (h1 : AHeap) (b2 : Bool) (s3 s4 s5 s6 : ByteArray)
    (c0 : acall E2 om 10000 n (ACallee.fn 11) [Value.int IntKind.u32 x0] h1 = some (Value.bool b2, h1))
    (c1 : (!b2) = false)
    (c2 : acall E2 om 10000 n (ACallee.fn 13) [Value.int IntKind.u32 (Int.fdiv x0 65536)] h1 = some (Value.string s3, h1))
    (c3 : pureE (abin (AEnv.P E2) (AEnv.eqOk E2) BinOp.add 9 (Value.string s3) (Value.string (bs [46])) true) = some (Value.string s4, Eff.id))
    (c4 : acall E2 om 10000 n (ACallee.fn 13) [Value.int IntKind.u32 (awrap IntKind.u32 (↑(BitVec.toNat (BitVec.ofInt 32 x0 &&& BitVec.ofInt 32 65535)) : Int))] h1 = some (Value.string s5, h1))
    (c5 : pureE (abin (AEnv.P E2) (AEnv.eqOk E2) BinOp.add 9 (Value.string s4) (Value.string s5) false) = some (Value.string s6, Eff.id))
    : acall E2 om 10000 (n + 1) (ACallee.fn 12) [Value.int IntKind.u32 x0] h1 = some (Value.string s6, h1) := by
  exact guided (gs := [.go 3, .val (Value.bool b2), .go 1, .br false, .go 2, .val (Value.string s3), .val (Value.string s4), .go 2, .val (Value.string s5), .val (Value.string s6)]) (r := []) (by kernel_rfl) (And.intro c5 (And.intro c4 (And.intro c3 (And.intro c2 (And.intro c1 (And.intro c0 (trivial)))))))
/-  C23 -/
theorem ntext_0 (om : Nat → Nat) (n : Nat) (x0 : Int) (h1 : AHeap) (s2 : ByteArray)
    (c0 : acall E2 om 10000 n (ACallee.fn 23) [Value.int IntKind.u64 (awrap IntKind.u64 x0), Value.int IntKind.i64 10] h1 = some (Value.string s2, h1))
    : acall E2 om 10000 (n + 1) (ACallee.fn 13) [Value.int IntKind.u32 x0] h1 = some (Value.string s2, h1) := by
  exact guided (gs := [.go 4, .val (Value.string s2)]) (r := []) (by kernel_rfl) (And.intro c0 (trivial))
/-  T -/
theorem rshort_0 (om : Nat → Nat) (n : Nat) (x0 : Int) (h1 : AHeap)
    (c0 : decide (x0 > 65535) = true)
    : acall E2 om 10000 (n + 1) (ACallee.fn 15) [Value.int IntKind.u32 x0] h1 = some (Value.int IntKind.u16 23456, h1) := by
  exact guided (gs := [.go 4, .br true]) (r := []) (by kernel_rfl) (And.intro c0 (trivial))
/-  F -/
theorem rshort_1 (om : Nat → Nat) (n : Nat) (x0 : Int) (h1 : AHeap)
    (c0 : decide (x0 > 65535) = false)
    : acall E2 om 10000 (n + 1) (ACallee.fn 15) [Value.int IntKind.u32 x0] h1 = some (Value.int IntKind.u16 (awrap IntKind.u16 x0), h1) := by
  exact guided (gs := [.go 4, .br false]) (r := []) (by kernel_rfl) (And.intro c0 (trivial))
/-  T C18 -/
theorem rdotted_0 (om : Nat → Nat) (n : Nat) (x0 : Int) (h1 : AHeap) (s2 : ByteArray)
    (c0 : decide (x0 ≤ 65535) = true)
    (c1 : acall E2 om 10000 n (ACallee.fn 18) [Value.int IntKind.u32 x0] h1 = some (Value.string s2, h1))
    : acall E2 om 10000 (n + 1) (ACallee.fn 19) [Value.int IntKind.u32 x0] h1 = some (Value.string s2, h1) := by
  exact guided (gs := [.go 4, .br true, .go 1, .val (Value.string s2)]) (r := []) (by kernel_rfl) (And.intro c1 (And.intro c0 (trivial)))
/-  F C18 C18 -/
theorem rdotted_1 (om : Nat → Nat) (n : Nat) (x0 : Int) (h1 : AHeap) (s2 s3 s4 s5 : ByteArray)
    (c0 : decide (x0 ≤ 65535) = false)
    (c1 : acall E2 om 10000 n (ACallee.fn 18) [Value.int IntKind.u32 (awrap IntKind.u32 (Int.tdiv x0 65536))] h1 = some (Value.string s2, h1))
    (c2 : pureE (abin (AEnv.P E2) (AEnv.eqOk E2) BinOp.add 9 (Value.string s2) (Value.string (bs [46])) true) = some (Value.string s3, Eff.id))
    (c3 : acall E2 om 10000 n (ACallee.fn 18) [Value.int IntKind.u32 (Int.tmod x0 65536)] h1 = some (Value.string s4, h1))
    (c4 : pureE (abin (AEnv.P E2) (AEnv.eqOk E2) BinOp.add 9 (Value.string s3) (Value.string s4) false) = some (Value.string s5, Eff.id))
    : acall E2 om 10000 (n + 1) (ACallee.fn 19) [Value.int IntKind.u32 x0] h1 = some (Value.string s5, h1) := by
  exact guided (gs := [.go 4, .br false, .go 2, .val (Value.string s2), .val (Value.string s3), .go 2, .val (Value.string s4), .val (Value.string s5)]) (r := []) (by kernel_rfl) (And.intro c4 (And.intro c3 (And.intro c2 (And.intro c1 (And.intro c0 (trivial))))))
/-  + + + + + C26 + + + + + + + + + T -/
theorem digits_0 (om : Nat → Nat) (n : Nat) (s0 : ByteArray) (h1 : AHeap) (s2 : ByteArray) (x3 : Int)
    (c0 : eqBytes s0 (ByteArray.mk #[]) = false)
    (c4 : decide ((↑(ByteArray.size s0) : Int) > 10) = false)
    (c6 : acall E2 om 10000 n (ACallee.fn 26) [Value.string s0, Value.string (bs [48, 49, 50, 51, 52, 53, 54, 55, 56, 57])] h1 = some (Value.string s2, h1))
    (c9 : (!eqBytes s2 (ByteArray.mk #[])) = false)
    (c13 : decide ((↑(ByteArray.size s0) : Int) > 1) = true)
    (c15 : pureE (aindex (AEnv.P E2) 9 (Value.string s0) (Value.int IntKind.i64 0)) = some (Value.int IntKind.u8 x3, Eff.id))
    (c20 : (x3 == 48) = true)
    : acall E2 om 10000 (n + 1) (ACallee.fn 21) [Value.string s0] h1 = some (Value.tuple (Array.mk [Value.int IntKind.u64 0, Value.bool false]), h1) := by
  exact guided (gs := [.go 6, .br true, .go 1, .br true, .go 1, .br true, .go 1, .val (Value.bool (decide ((↑(ByteArray.size s0) : Int) > 10))), .go 1, .br true, .go 1, .br true, .val (Value.string s2), .br true, .go 1, .val (Value.bool !eqBytes s2 (ByteArray.mk #[])), .go 1, .br true, .go 1, .br true, .go 1, .br true, .go 1, .br true, .go 1, .br true, .go 1, .br true, .val (Value.int IntKind.u8 x3), .br true, .go 1, .br true, .val (Value.bool (x3 == 48)), .val (Value.bool (x3 == 48)), .br true]) (r := []) (by kernel_rfl) (And.intro c20 (And.intro (pickE_f c9 (Value.bool true) (Value.bool (x3 == 48))) (And.intro (pickE_t c13 (Value.bool (x3 == 48)) (Value.bool false)) (And.intro c9 (And.intro c13 (And.intro c15 (And.intro c13 (And.intro c13 (And.intro c9 (And.intro c9 (And.intro c9 (And.intro c9 (And.intro (pickE_f c4 (Value.bool true) (Value.bool !eqBytes s2 (ByteArray.mk #[]))) (And.intro c4 (And.intro c6 (And.intro c4 (And.intro c4 (And.intro (pickE_f c0 (Value.bool true) (Value.bool (decide ((↑(ByteArray.size s0) : Int) > 10)))) (And.intro c0 (And.intro c0 (And.intro c0 (trivial))))))))))))))))))))))
/-  + + + + + C26 + + + + + + + + + F C27 -/
theorem digits_1 (om : Nat → Nat) (n : Nat) (s0 : ByteArray) (h1 : AHeap) (s2 : ByteArray) (x3 x4 : Int) (w5 : Value) (b6 : Bool)
    (c0 : eqBytes s0 (ByteArray.mk #[]) = false)
    (c4 : decide ((↑(ByteArray.size s0) : Int) > 10) = false)
    (c6 : acall E2 om 10000 n (ACallee.fn 26) [Value.string s0, Value.string (bs [48, 49, 50, 51, 52, 53, 54, 55, 56, 57])] h1 = some (Value.string s2, h1))
    (c9 : (!eqBytes s2 (ByteArray.mk #[])) = false)
    (c13 : decide ((↑(ByteArray.size s0) : Int) > 1) = true)
    (c15 : pureE (aindex (AEnv.P E2) 9 (Value.string s0) (Value.int IntKind.i64 0)) = some (Value.int IntKind.u8 x3, Eff.id))
    (c20 : (x3 == 48) = false)
    (c21 : acall E2 om 10000 n (ACallee.fn 27) [Value.string s0, Value.int IntKind.i64 10, Value.int IntKind.i64 64] h1 = some (Value.tuple (Array.mk [Value.int IntKind.u64 x4, w5]), h1))
    (c22 : pureE (abin (AEnv.P E2) (AEnv.eqOk E2) BinOp.eql 58 w5 Value.nilIface true) = some (Value.bool b6, Eff.id))
    (c23 : AHeap.oc h1 = AHeap.oc h1 ∧ true = true)
    : acall E2 om 10000 (n + 1) (ACallee.fn 21) [Value.string s0] h1 = some (Value.tuple (Array.mk [Value.int IntKind.u64 x4, Value.bool b6]), h1) := by
  exact guided (gs := [.go 6, .br true, .go 1, .br true, .go 1, .br true, .go 1, .val (Value.bool (decide ((↑(ByteArray.size s0) : Int) > 10))), .go 1, .br true, .go 1, .br true, .val (Value.string s2), .br true, .go 1, .val (Value.bool !eqBytes s2 (ByteArray.mk #[])), .go 1, .br true, .go 1, .br true, .go 1, .br true, .go 1, .br true, .go 1, .br true, .go 1, .br true, .val (Value.int IntKind.u8 x3), .br true, .go 1, .br true, .val (Value.bool (x3 == 48)), .val (Value.bool (x3 == 48)), .br false, .go 1, .val (Value.tuple (Array.mk [Value.int IntKind.u64 x4, w5])), .go 7, .val (Value.bool b6), .go 2, .br true]) (r := []) (by kernel_rfl) (And.intro c23 (And.intro c22 (And.intro c21 (And.intro c20 (And.intro (pickE_f c9 (Value.bool true) (Value.bool (x3 == 48))) (And.intro (pickE_t c13 (Value.bool (x3 == 48)) (Value.bool false)) (And.intro c9 (And.intro c13 (And.intro c15 (And.intro c13 (And.intro c13 (And.intro c9 (And.intro c9 (And.intro c9 (And.intro c9 (And.intro (pickE_f c4 (Value.bool true) (Value.bool !eqBytes s2 (ByteArray.mk #[]))) (And.intro c4 (And.intro c6 (And.intro c4 (And.intro c4 (And.intro (pickE_f c0 (Value.bool true) (Value.bool (decide ((↑(ByteArray.size s0) : Int) > 10)))) (And.intro c0 (And.intro c0 (And.intro c0 (trivial)))))))))))))))))))))))))
/-  + + + + + C26 + + + + + - - - + C27 -/
theorem digits_2 (om : Nat → Nat) (n : Nat) (s0 : ByteArray) (h1 : AHeap) (s2 : ByteArray) (x3 : Int) (w4 : Value) (b5 : Bool)
    (c0 : eqBytes s0 (ByteArray.mk #[]) = false)
    (c4 : decide ((↑(ByteArray.size s0) : Int) > 10) = false)
    (c6 : acall E2 om 10000 n (ACallee.fn 26) [Value.string s0, Value.string (bs [48, 49, 50, 51, 52, 53, 54, 55, 56, 57])] h1 = some (Value.string s2, h1))
    (c9 : (!eqBytes s2 (ByteArray.mk #[])) = false)
    (c13 : decide ((↑(ByteArray.size s0) : Int) > 1) = false)
    (c19 : acall E2 om 10000 n (ACallee.fn 27) [Value.string s0, Value.int IntKind.i64 10, Value.int IntKind.i64 64] h1 = some (Value.tuple (Array.mk [Value.int IntKind.u64 x3, w4]), h1))
    (c20 : pureE (abin (AEnv.P E2) (AEnv.eqOk E2) BinOp.eql 58 w4 Value.nilIface true) = some (Value.bool b5, Eff.id))
    (c21 : AHeap.oc h1 = AHeap.oc h1 ∧ true = true)
    : acall E2 om 10000 (n + 1) (ACallee.fn 21) [Value.string s0] h1 = some (Value.tuple (Array.mk [Value.int IntKind.u64 x3, Value.bool b5]), h1) := by
  exact guided (gs := [.go 6, .br true, .go 1, .br true, .go 1, .br true, .go 1, .val (Value.bool (decide ((↑(ByteArray.size s0) : Int) > 10))), .go 1, .br true, .go 1, .br true, .val (Value.string s2), .br true, .go 1, .val (Value.bool !eqBytes s2 (ByteArray.mk #[])), .go 1, .br true, .go 1, .br true, .go 1, .br true, .go 1, .br true, .go 1, .br false, .br false, .br false, .br true, .val (Value.bool false), .val (Value.bool false), .go 2, .val (Value.tuple (Array.mk [Value.int IntKind.u64 x3, w4])), .go 7, .val (Value.bool b5), .go 2, .br true]) (r := []) (by kernel_rfl) (And.intro c21 (And.intro c20 (And.intro c19 (And.intro (pickE_f c9 (Value.bool true) (Value.bool false)) (And.intro (pickE_f c13 (undef) (Value.bool false)) (And.intro c9 (And.intro c13 (And.intro c13 (And.intro c13 (And.intro c9 (And.intro c9 (And.intro c9 (And.intro c9 (And.intro (pickE_f c4 (Value.bool true) (Value.bool !eqBytes s2 (ByteArray.mk #[]))) (And.intro c4 (And.intro c6 (And.intro c4 (And.intro c4 (And.intro (pickE_f c0 (Value.bool true) (Value.bool (decide ((↑(ByteArray.size s0) : Int) > 10)))) (And.intro c0 (And.intro c0 (And.intro c0 (trivial)))))))))))))))))))))))
/-  + + + + + C26 + - - - - - -/
theorem digits_3 (om : Nat → Nat) (n : Nat) (s0 : ByteArray) (h1 : AHeap) (s2 : ByteArray)
    (c0 : eqBytes s0 (ByteArray.mk #[]) = false)
    (c4 : decide ((↑(ByteArray.size s0) : Int) > 10) = false)
    (c6 : acall E2 om 10000 n (ACallee.fn 26) [Value.string s0, Value.string (bs [48, 49, 50, 51, 52, 53, 54, 55, 56, 57])] h1 = some (Value.string s2, h1))
    (c9 : (!eqBytes s2 (ByteArray.mk #[])) = true)
    : acall E2 om 10000 (n + 1) (ACallee.fn 21) [Value.string s0] h1 = some (Value.tuple (Array.mk [Value.int IntKind.u64 0, Value.bool false]), h1) := by
  exact guided (gs := [.go 6, .br true, .go 1, .br true, .go 1, .br true, .go 1, .val (Value.bool (decide ((↑(ByteArray.size s0) : Int) > 10))), .go 1, .br true, .go 1, .br true, .val (Value.string s2), .br true, .go 1, .val (Value.bool !eqBytes s2 (ByteArray.mk #[])), .go 1, .br false, .br false, .br false, .br false, .go 3, .br false, .val (Value.bool true)]) (r := []) (by kernel_rfl) (And.intro (pickE_t c9 (Value.bool true) (undef)) (And.intro c9 (And.intro c9 (And.intro c9 (And.intro c9 (And.intro c9 (And.intro (pickE_f c4 (Value.bool true) (Value.bool !eqBytes s2 (ByteArray.mk #[]))) (And.intro c4 (And.intro c6 (And.intro c4 (And.intro c4 (And.intro (pickE_f c0 (Value.bool true) (Value.bool (decide ((↑(ByteArray.size s0) : Int) > 10)))) (And.intro c0 (And.intro c0 (And.intro c0 (trivial))))))))))))))))
/-  + + + - - - -/
theorem digits_4 (om : Nat → Nat) (n : Nat) (s0 : ByteArray) (h1 : AHeap)
    (c0 : eqBytes s0 (ByteArray.mk #[]) = false)
    (c4 : decide ((↑(ByteArray.size s0) : Int) > 10) = true)
    : acall E2 om 10000 (n + 1) (ACallee.fn 21) [Value.string s0] h1 = some (Value.tuple (Array.mk [Value.int IntKind.u64 0, Value.bool false]), h1) := by
  exact guided (gs := [.go 6, .br true, .go 1, .br true, .go 1, .br true, .go 1, .val (Value.bool (decide ((↑(ByteArray.size s0) : Int) > 10))), .go 1, .br false, .br false, .br false, .val (Value.bool true)]) (r := []) (by kernel_rfl) (And.intro (pickE_t c4 (Value.bool true) (undef)) (And.intro c4 (And.intro c4 (And.intro c4 (And.intro (pickE_f c0 (Value.bool true) (Value.bool (decide ((↑(ByteArray.size s0) : Int) > 10)))) (And.intro c0 (And.intro c0 (And.intro c0 (trivial)))))))))
/-  - - - -/
theorem digits_5 (om : Nat → Nat) (n : Nat) (s0 : ByteArray) (h1 : AHeap)
    (c0 : eqBytes s0 (ByteArray.mk #[]) = true)
    : acall E2 om 10000 (n + 1) (ACallee.fn 21) [Value.string s0] h1 = some (Value.tuple (Array.mk [Value.int IntKind.u64 0, Value.bool false]), h1) := by
  exact guided (gs := [.go 6, .br false, .br false, .br false, .val (Value.bool true)]) (r := []) (by kernel_rfl) (And.intro (pickE_t c0 (Value.bool true) (undef)) (And.intro c0 (And.intro c0 (And.intro c0 (trivial)))))
-- loop row_L0: path [1, 1, 1, 0, 0, 0] of 22; lives [0, 1, 6, 7]
def row_L0_S (s0 : ByteArray) (x1 x2 x3 : Int) (tm : Tm) : Prop := ∃ j4 : List Value, tm = tof [Value.string s0, Value.int IntKind.i64 x1, jv j4 0, jv j4 1, jv j4 2, jv j4 3, Value.int IntKind.i64 x2, Value.int IntKind.i64 x3, jv j4 4, jv j4 5, jv j4 6, jv j4 7, jv j4 8, jv j4 9, jv j4 10, jv j4 11, jv j4 12, jv j4 13, jv j4 14, jv j4 15, jv j4 16, jv j4 17, jv j4 18, jv j4 19, jv j4 20, jv j4 21, jv j4 22, jv j4 23, jv j4 24, jv j4 25, jv j4 26, jv j4 27, jv j4 28, jv j4 29, jv j4 30, jv j4 31, jv j4 32, jv j4 33, jv j4 34, jv j4 35, jv j4 36, jv j4 37, jv j4 38, jv j4 39, jv j4 40, jv j4 41, jv j4 42, jv j4 43, jv j4 44, jv j4 45, jv j4 46, jv j4 47, jv j4 48, jv j4 49, jv j4 50, jv j4 51, jv j4 52, jv j4 53, jv j4 54, jv j4 55] 0 Tm.e
noncomputable def row_L0_B (om : Nat → Nat) (n : Nat) : ASt → Option (AExit × ASt) := aexec E2 om (acall E2 om 10000 n) 10000 22 (codeAt [1, 1, 1, 0, 0, 0] (fbody (AEnv.P E2) 22)) none
/-  + + + + + + + + + + + + + + T -/
theorem row_L0_0 (om : Nat → Nat) (n : Nat) (tm : Tm) (s0 : ByteArray) (x1 x2 x3 : Int) (h5 : AHeap) (x6 x7 x8 : Int)
    (hS : row_L0_S s0 x1 x2 x3 tm)
    (c0 : decide (awrap IntKind.i64 (x1 + x3) < (↑(ByteArray.size s0) : Int)) = true)
    (c3 : decide (x3 < 11) = true)
    (c8 : pureE (aindex (AEnv.P E2) 9 (Value.string s0) (Value.int IntKind.i64 (awrap IntKind.i64 (x1 + x3)))) = some (Value.int IntKind.u8 x6, Eff.id))
    (c11 : decide (x6 ≥ 48) = true)
    (c16 : pureE (aindex (AEnv.P E2) 9 (Value.string s0) (Value.int IntKind.i64 (awrap IntKind.i64 (x1 + x3)))) = some (Value.int IntKind.u8 x7, Eff.id))
    (c19 : decide (x7 ≤ 57) = true)
    (c20 : pureE (aindex (AEnv.P E2) 9 (Value.string s0) (Value.int IntKind.i64 (awrap IntKind.i64 (x1 + x3)))) = some (Value.int IntKind.u8 x8, Eff.id))
    : ∃ tm', row_L0_B om n (tm, h5) = some (AExit.normal, tm', h5) ∧ row_L0_S (s0) (x1) (awrap IntKind.i64 (awrap IntKind.i64 (10 * x2) + awrap IntKind.i64 (awrap IntKind.u8 (x8 - 48)))) (awrap IntKind.i64 (x3 + 1)) tm' := by
  obtain ⟨j4, rfl⟩ := hS
  exact ⟨tof [Value.string s0, Value.int IntKind.i64 x1, jv j4 0, jv j4 1, jv j4 2, jv j4 3, Value.int IntKind.i64 (awrap IntKind.i64 (awrap IntKind.i64 (10 * x2) + awrap IntKind.i64 (awrap IntKind.u8 (x8 - 48)))), Value.int IntKind.i64 (awrap IntKind.i64 (x3 + 1)), Value.int IntKind.i64 x1, Value.int IntKind.i64 x3, Value.int IntKind.i64 (awrap IntKind.i64 (x1 + x3)), Value.string s0, Value.int IntKind.i64 (↑(ByteArray.size s0) : Int), Value.bool (decide (awrap IntKind.i64 (x1 + x3) < (↑(ByteArray.size s0) : Int))), Value.bool (decide (awrap IntKind.i64 (x1 + x3) < (↑(ByteArray.size s0) : Int))), Value.int IntKind.i64 x3, Value.bool (decide (x3 < 11)), Value.bool (decide (x3 < 11)), Value.bool (decide (x3 < 11)), Value.string s0, Value.int IntKind.i64 x1, Value.int IntKind.i64 x3, Value.int IntKind.i64 (awrap IntKind.i64 (x1 + x3)), Value.int IntKind.u8 x6, Value.bool (decide (x6 ≥ 48)), Value.bool (decide (x6 ≥ 48)), Value.bool (decide (x6 ≥ 48)), Value.string s0, Value.int IntKind.i64 x1, Value.int IntKind.i64 x3, Value.int IntKind.i64 (awrap IntKind.i64 (x1 + x3)), Value.int IntKind.u8 x7, Value.bool (decide (x7 ≤ 57)), Value.bool (decide (x7 ≤ 57)), Value.int IntKind.i64 x2, Value.int IntKind.i64 (awrap IntKind.i64 (10 * x2)), Value.string s0, Value.int IntKind.i64 x1, Value.int IntKind.i64 x3, Value.int IntKind.i64 (awrap IntKind.i64 (x1 + x3)), Value.int IntKind.u8 x8, Value.int IntKind.u8 (awrap IntKind.u8 (x8 - 48)), Value.int IntKind.i64 (awrap IntKind.i64 (awrap IntKind.u8 (x8 - 48))), Value.int IntKind.i64 (awrap IntKind.i64 (awrap IntKind.i64 (10 * x2) + awrap IntKind.i64 (awrap IntKind.u8 (x8 - 48)))), Value.int IntKind.i64 x3, Value.int IntKind.i64 (awrap IntKind.i64 (x3 + 1)), jv j4 42, jv j4 43, jv j4 44, jv j4 45, jv j4 46, jv j4 47, jv j4 48, jv j4 49, jv j4 50, jv j4 51, jv j4 52, jv j4 53, jv j4 54, jv j4 55] 0 Tm.e, guidedC (gs := [.go 7, .br true, .go 1, .br true, .go 1, .val (Value.bool (decide (x3 < 11))), .go 1, .br true, .go 1, .br true, .go 1, .br true, .go 1, .br true, .go 1, .br true, .val (Value.int IntKind.u8 x6), .br true, .go 1, .val (Value.bool (decide (x6 ≥ 48))), .go 1, .br true, .go 1, .br true, .go 1, .br true, .go 1, .br true, .go 1, .br true, .val (Value.int IntKind.u8 x7), .br true, .go 1, .val (Value.bool (decide (x7 ≤ 57))), .br true, .go 6, .val (Value.int IntKind.u8 x8)]) (r := []) (by kernel_rfl) (And.intro c20 (And.intro c19 (And.intro (pickE_t c11 (Value.bool (decide (x7 ≤ 57))) (Value.bool false)) (And.intro c11 (And.intro c16 (And.intro c11 (And.intro c11 (And.intro c11 (And.intro c11 (And.intro c11 (And.intro (pickE_t c3 (Value.bool (decide (x6 ≥ 48))) (Value.bool false)) (And.intro c3 (And.intro c8 (And.intro c3 (And.intro c3 (And.intro c3 (And.intro c3 (And.intro c3 (And.intro (pickE_t c0 (Value.bool (decide (x3 < 11))) (Value.bool false)) (And.intro c0 (And.intro c0 (trivial)))))))))))))))))))))), [jv j4 0, jv j4 1, jv j4 2, jv j4 3, Value.int IntKind.i64 x1, Value.int IntKind.i64 x3, Value.int IntKind.i64 (awrap IntKind.i64 (x1 + x3)), Value.string s0, Value.int IntKind.i64 (↑(ByteArray.size s0) : Int), Value.bool (decide (awrap IntKind.i64 (x1 + x3) < (↑(ByteArray.size s0) : Int))), Value.bool (decide (awrap IntKind.i64 (x1 + x3) < (↑(ByteArray.size s0) : Int))), Value.int IntKind.i64 x3, Value.bool (decide (x3 < 11)), Value.bool (decide (x3 < 11)), Value.bool (decide (x3 < 11)), Value.string s0, Value.int IntKind.i64 x1, Value.int IntKind.i64 x3, Value.int IntKind.i64 (awrap IntKind.i64 (x1 + x3)), Value.int IntKind.u8 x6, Value.bool (decide (x6 ≥ 48)), Value.bool (decide (x6 ≥ 48)), Value.bool (decide (x6 ≥ 48)), Value.string s0, Value.int IntKind.i64 x1, Value.int IntKind.i64 x3, Value.int IntKind.i64 (awrap IntKind.i64 (x1 + x3)), Value.int IntKind.u8 x7, Value.bool (decide (x7 ≤ 57)), Value.bool (decide (x7 ≤ 57)), Value.int IntKind.i64 x2, Value.int IntKind.i64 (awrap IntKind.i64 (10 * x2)), Value.string s0, Value.int IntKind.i64 x1, Value.int IntKind.i64 x3, Value.int IntKind.i64 (awrap IntKind.i64 (x1 + x3)), Value.int IntKind.u8 x8, Value.int IntKind.u8 (awrap IntKind.u8 (x8 - 48)), Value.int IntKind.i64 (awrap IntKind.i64 (awrap IntKind.u8 (x8 - 48))), Value.int IntKind.i64 (awrap IntKind.i64 (awrap IntKind.i64 (10 * x2) + awrap IntKind.i64 (awrap IntKind.u8 (x8 - 48)))), Value.int IntKind.i64 x3, Value.int IntKind.i64 (awrap IntKind.i64 (x3 + 1)), jv j4 42, jv j4 43, jv j4 44, jv j4 45, jv j4 46, jv j4 47, jv j4 48, jv j4 49, jv j4 50, jv j4 51, jv j4 52, jv j4 53, jv j4 54, jv j4 55], by kernel_rfl⟩
def row_L0_X0 (s0 : ByteArray) (x1 x2 x3 : Int) (tm : Tm) : Prop := ∃ j4 : List Value, tm = tof [Value.string s0, Value.int IntKind.i64 x1, jv j4 0, jv j4 1, jv j4 2, jv j4 3, Value.int IntKind.i64 x2, Value.int IntKind.i64 x3, jv j4 4, jv j4 5, jv j4 6, jv j4 7, jv j4 8, jv j4 9, jv j4 10, jv j4 11, jv j4 12, jv j4 13, jv j4 14, jv j4 15, jv j4 16, jv j4 17, jv j4 18, jv j4 19, jv j4 20, jv j4 21, jv j4 22, jv j4 23, jv j4 24, jv j4 25, jv j4 26, jv j4 27, jv j4 28, jv j4 29, jv j4 30, jv j4 31, jv j4 32, jv j4 33, jv j4 34, jv j4 35, jv j4 36, jv j4 37, jv j4 38, jv j4 39, jv j4 40, jv j4 41, jv j4 42, jv j4 43, jv j4 44, jv j4 45, jv j4 46, jv j4 47, jv j4 48, jv j4 49, jv j4 50, jv j4 51, jv j4 52, jv j4 53, jv j4 54, jv j4 55] 0 Tm.e
/-  + + + + + + + + + + + + + + F -/
theorem row_L0_1 (om : Nat → Nat) (n : Nat) (tm : Tm) (s0 : ByteArray) (x1 x2 x3 : Int) (h5 : AHeap) (x6 x7 : Int)
    (hS : row_L0_S s0 x1 x2 x3 tm)
    (c0 : decide (awrap IntKind.i64 (x1 + x3) < (↑(ByteArray.size s0) : Int)) = true)
    (c3 : decide (x3 < 11) = true)
    (c8 : pureE (aindex (AEnv.P E2) 9 (Value.string s0) (Value.int IntKind.i64 (awrap IntKind.i64 (x1 + x3)))) = some (Value.int IntKind.u8 x6, Eff.id))
    (c11 : decide (x6 ≥ 48) = true)
    (c16 : pureE (aindex (AEnv.P E2) 9 (Value.string s0) (Value.int IntKind.i64 (awrap IntKind.i64 (x1 + x3)))) = some (Value.int IntKind.u8 x7, Eff.id))
    (c19 : decide (x7 ≤ 57) = false)
    : ∃ tm', row_L0_B om n (tm, h5) = some (AExit.exit 0, tm', h5) ∧ row_L0_X0 (s0) (x1) (x2) (x3) tm' := by
  obtain ⟨j4, rfl⟩ := hS
  exact ⟨tof [Value.string s0, Value.int IntKind.i64 x1, jv j4 0, jv j4 1, jv j4 2, jv j4 3, Value.int IntKind.i64 x2, Value.int IntKind.i64 x3, Value.int IntKind.i64 x1, Value.int IntKind.i64 x3, Value.int IntKind.i64 (awrap IntKind.i64 (x1 + x3)), Value.string s0, Value.int IntKind.i64 (↑(ByteArray.size s0) : Int), Value.bool (decide (awrap IntKind.i64 (x1 + x3) < (↑(ByteArray.size s0) : Int))), Value.bool (decide (awrap IntKind.i64 (x1 + x3) < (↑(ByteArray.size s0) : Int))), Value.int IntKind.i64 x3, Value.bool (decide (x3 < 11)), Value.bool (decide (x3 < 11)), Value.bool (decide (x3 < 11)), Value.string s0, Value.int IntKind.i64 x1, Value.int IntKind.i64 x3, Value.int IntKind.i64 (awrap IntKind.i64 (x1 + x3)), Value.int IntKind.u8 x6, Value.bool (decide (x6 ≥ 48)), Value.bool (decide (x6 ≥ 48)), Value.bool (decide (x6 ≥ 48)), Value.string s0, Value.int IntKind.i64 x1, Value.int IntKind.i64 x3, Value.int IntKind.i64 (awrap IntKind.i64 (x1 + x3)), Value.int IntKind.u8 x7, Value.bool (decide (x7 ≤ 57)), Value.bool (decide (x7 ≤ 57)), jv j4 30, jv j4 31, jv j4 32, jv j4 33, jv j4 34, jv j4 35, jv j4 36, jv j4 37, jv j4 38, jv j4 39, jv j4 40, jv j4 41, jv j4 42, jv j4 43, jv j4 44, jv j4 45, jv j4 46, jv j4 47, jv j4 48, jv j4 49, jv j4 50, jv j4 51, jv j4 52, jv j4 53, jv j4 54, jv j4 55] 0 Tm.e, guidedC (gs := [.go 7, .br true, .go 1, .br true, .go 1, .val (Value.bool (decide (x3 < 11))), .go 1, .br true, .go 1, .br true, .go 1, .br true, .go 1, .br true, .go 1, .br true, .val (Value.int IntKind.u8 x6), .br true, .go 1, .val (Value.bool (decide (x6 ≥ 48))), .go 1, .br true, .go 1, .br true, .go 1, .br true, .go 1, .br true, .go 1, .br true, .val (Value.int IntKind.u8 x7), .br true, .go 1, .val (Value.bool (decide (x7 ≤ 57))), .br false]) (r := []) (by kernel_rfl) (And.intro c19 (And.intro (pickE_t c11 (Value.bool (decide (x7 ≤ 57))) (Value.bool false)) (And.intro c11 (And.intro c16 (And.intro c11 (And.intro c11 (And.intro c11 (And.intro c11 (And.intro c11 (And.intro (pickE_t c3 (Value.bool (decide (x6 ≥ 48))) (Value.bool false)) (And.intro c3 (And.intro c8 (And.intro c3 (And.intro c3 (And.intro c3 (And.intro c3 (And.intro c3 (And.intro (pickE_t c0 (Value.bool (decide (x3 < 11))) (Value.bool false)) (And.intro c0 (And.intro c0 (trivial))))))))))))))))))))), [jv j4 0, jv j4 1, jv j4 2, jv j4 3, Value.int IntKind.i64 x1, Value.int IntKind.i64 x3, Value.int IntKind.i64 (awrap IntKind.i64 (x1 + x3)), Value.string s0, Value.int IntKind.i64 (↑(ByteArray.size s0) : Int), Value.bool (decide (awrap IntKind.i64 (x1 + x3) < (↑(ByteArray.size s0) : Int))), Value.bool (decide (awrap IntKind.i64 (x1 + x3) < (↑(ByteArray.size s0) : Int))), Value.int IntKind.i64 x3, Value.bool (decide (x3 < 11)), Value.bool (decide (x3 < 11)), Value.bool (decide (x3 < 11)), Value.string s0, Value.int IntKind.i64 x1, Value.int IntKind.i64 x3, Value.int IntKind.i64 (awrap IntKind.i64 (x1 + x3)), Value.int IntKind.u8 x6, Value.bool (decide (x6 ≥ 48)), Value.bool (decide (x6 ≥ 48)), Value.bool (decide (x6 ≥ 48)), Value.string s0, Value.int IntKind.i64 x1, Value.int IntKind.i64 x3, Value.int IntKind.i64 (awrap IntKind.i64 (x1 + x3)), Value.int IntKind.u8 x7, Value.bool (decide (x7 ≤ 57)), Value.bool (decide (x7 ≤ 57)), jv j4 30, jv j4 31, jv j4 32, jv j4 33, jv j4 34, jv j4 35, jv j4 36, jv j4 37, jv j4 38, jv j4 39, jv j4 40, jv j4 41, jv j4 42, jv j4 43, jv j4 44, jv j4 45, jv j4 46, jv j4 47, jv j4 48, jv j4 49, jv j4 50, jv j4 51, jv j4 52, jv j4 53, jv j4 54, jv j4 55], by kernel_rfl⟩
/-  + + + + + + + + - - - - - - -/
theorem row_L0_2 (om : Nat → Nat) (n : Nat) (tm : Tm) (s0 : ByteArray) (x1 x2 x3 : Int) (h5 : AHeap) (x6 : Int)
    (hS : row_L0_S s0 x1 x2 x3 tm)
    (c0 : decide (awrap IntKind.i64 (x1 + x3) < (↑(ByteArray.size s0) : Int)) = true)
    (c3 : decide (x3 < 11) = true)
    (c8 : pureE (aindex (AEnv.P E2) 9 (Value.string s0) (Value.int IntKind.i64 (awrap IntKind.i64 (x1 + x3)))) = some (Value.int IntKind.u8 x6, Eff.id))
    (c11 : decide (x6 ≥ 48) = false)
    : ∃ tm', row_L0_B om n (tm, h5) = some (AExit.exit 0, tm', h5) ∧ row_L0_X0 (s0) (x1) (x2) (x3) tm' := by
  obtain ⟨j4, rfl⟩ := hS
  exact ⟨tof [Value.string s0, Value.int IntKind.i64 x1, jv j4 0, jv j4 1, jv j4 2, jv j4 3, Value.int IntKind.i64 x2, Value.int IntKind.i64 x3, Value.int IntKind.i64 x1, Value.int IntKind.i64 x3, Value.int IntKind.i64 (awrap IntKind.i64 (x1 + x3)), Value.string s0, Value.int IntKind.i64 (↑(ByteArray.size s0) : Int), Value.bool (decide (awrap IntKind.i64 (x1 + x3) < (↑(ByteArray.size s0) : Int))), Value.bool (decide (awrap IntKind.i64 (x1 + x3) < (↑(ByteArray.size s0) : Int))), Value.int IntKind.i64 x3, Value.bool (decide (x3 < 11)), Value.bool (decide (x3 < 11)), Value.bool (decide (x3 < 11)), Value.string s0, Value.int IntKind.i64 x1, Value.int IntKind.i64 x3, Value.int IntKind.i64 (awrap IntKind.i64 (x1 + x3)), Value.int IntKind.u8 x6, Value.bool (decide (x6 ≥ 48)), Value.bool (decide (x6 ≥ 48)), Value.bool (decide (x6 ≥ 48)), undef, undef, undef, undef, undef, undef, Value.bool false, jv j4 30, jv j4 31, jv j4 32, jv j4 33, jv j4 34, jv j4 35, jv j4 36, jv j4 37, jv j4 38, jv j4 39, jv j4 40, jv j4 41, jv j4 42, jv j4 43, jv j4 44, jv j4 45, jv j4 46, jv j4 47, jv j4 48, jv j4 49, jv j4 50, jv j4 51, jv j4 52, jv j4 53, jv j4 54, jv j4 55] 0 Tm.e, guidedC (gs := [.go 7, .br true, .go 1, .br true, .go 1, .val (Value.bool (decide (x3 < 11))), .go 1, .br true, .go 1, .br true, .go 1, .br true, .go 1, .br true, .go 1, .br true, .val (Value.int IntKind.u8 x6), .br true, .go 1, .val (Value.bool (decide (x6 ≥ 48))), .go 1, .br false, .br false, .br false, .br false, .br false, .br false, .val (Value.bool false)]) (r := []) (by kernel_rfl) (And.intro (pickE_f c11 (undef) (Value.bool false)) (And.intro c11 (And.intro c11 (And.intro c11 (And.intro c11 (And.intro c11 (And.intro c11 (And.intro (pickE_t c3 (Value.bool (decide (x6 ≥ 48))) (Value.bool false)) (And.intro c3 (And.intro c8 (And.intro c3 (And.intro c3 (And.intro c3 (And.intro c3 (And.intro c3 (And.intro (pickE_t c0 (Value.bool (decide (x3 < 11))) (Value.bool false)) (And.intro c0 (And.intro c0 (trivial))))))))))))))))))), [jv j4 0, jv j4 1, jv j4 2, jv j4 3, Value.int IntKind.i64 x1, Value.int IntKind.i64 x3, Value.int IntKind.i64 (awrap IntKind.i64 (x1 + x3)), Value.string s0, Value.int IntKind.i64 (↑(ByteArray.size s0) : Int), Value.bool (decide (awrap IntKind.i64 (x1 + x3) < (↑(ByteArray.size s0) : Int))), Value.bool (decide (awrap IntKind.i64 (x1 + x3) < (↑(ByteArray.size s0) : Int))), Value.int IntKind.i64 x3, Value.bool (decide (x3 < 11)), Value.bool (decide (x3 < 11)), Value.bool (decide (x3 < 11)), Value.string s0, Value.int IntKind.i64 x1, Value.int IntKind.i64 x3, Value.int IntKind.i64 (awrap IntKind.i64 (x1 + x3)), Value.int IntKind.u8 x6, Value.bool (decide (x6 ≥ 48)), Value.bool (decide (x6 ≥ 48)), Value.bool (decide (x6 ≥ 48)), undef, undef, undef, undef, undef, undef, Value.bool false, jv j4 30, jv j4 31, jv j4 32, jv j4 33, jv j4 34, jv j4 35, jv j4 36, jv j4 37, jv j4 38, jv j4 39, jv j4 40, jv j4 41, jv j4 42, jv j4 43, jv j4 44, jv j4 45, jv j4 46, jv j4 47, jv j4 48, jv j4 49, jv j4 50, jv j4 51, jv j4 52, jv j4 53, jv j4 54, jv j4 55], by kernel_rfl⟩
/-  + + - - - - - - -/
theorem row_L0_3 (om : Nat → Nat) (n : Nat) (tm : Tm) (s0 : ByteArray) (x1 x2 x3 : Int) (h5 : AHeap)
    (hS : row_L0_S s0 x1 x2 x3 tm)
    (c0 : decide (awrap IntKind.i64 (x1 + x3) < (↑(ByteArray.size s0) : Int)) = true)
    (c3 : decide (x3 < 11) = false)
    : ∃ tm', row_L0_B om n (tm, h5) = some (AExit.exit 0, tm', h5) ∧ row_L0_X0 (s0) (x1) (x2) (x3) tm' := by
  obtain ⟨j4, rfl⟩ := hS
  exact ⟨tof [Value.string s0, Value.int IntKind.i64 x1, jv j4 0, jv j4 1, jv j4 2, jv j4 3, Value.int IntKind.i64 x2, Value.int IntKind.i64 x3, Value.int IntKind.i64 x1, Value.int IntKind.i64 x3, Value.int IntKind.i64 (awrap IntKind.i64 (x1 + x3)), Value.string s0, Value.int IntKind.i64 (↑(ByteArray.size s0) : Int), Value.bool (decide (awrap IntKind.i64 (x1 + x3) < (↑(ByteArray.size s0) : Int))), Value.bool (decide (awrap IntKind.i64 (x1 + x3) < (↑(ByteArray.size s0) : Int))), Value.int IntKind.i64 x3, Value.bool (decide (x3 < 11)), Value.bool (decide (x3 < 11)), Value.bool (decide (x3 < 11)), undef, undef, undef, undef, undef, undef, Value.bool false, Value.bool false, undef, undef, undef, undef, undef, undef, Value.bool false, jv j4 30, jv j4 31, jv j4 32, jv j4 33, jv j4 34, jv j4 35, jv j4 36, jv j4 37, jv j4 38, jv j4 39, jv j4 40, jv j4 41, jv j4 42, jv j4 43, jv j4 44, jv j4 45, jv j4 46, jv j4 47, jv j4 48, jv j4 49, jv j4 50, jv j4 51, jv j4 52, jv j4 53, jv j4 54, jv j4 55] 0 Tm.e, guidedC (gs := [.go 7, .br true, .go 1, .br true, .go 1, .val (Value.bool (decide (x3 < 11))), .go 1, .br false, .br false, .br false, .br false, .br false, .br false, .val (Value.bool false)]) (r := []) (by kernel_rfl) (And.intro (pickE_f c3 (undef) (Value.bool false)) (And.intro c3 (And.intro c3 (And.intro c3 (And.intro c3 (And.intro c3 (And.intro c3 (And.intro (pickE_t c0 (Value.bool (decide (x3 < 11))) (Value.bool false)) (And.intro c0 (And.intro c0 (trivial))))))))))), [jv j4 0, jv j4 1, jv j4 2, jv j4 3, Value.int IntKind.i64 x1, Value.int IntKind.i64 x3, Value.int IntKind.i64 (awrap IntKind.i64 (x1 + x3)), Value.string s0, Value.int IntKind.i64 (↑(ByteArray.size s0) : Int), Value.bool (decide (awrap IntKind.i64 (x1 + x3) < (↑(ByteArray.size s0) : Int))), Value.bool (decide (awrap IntKind.i64 (x1 + x3) < (↑(ByteArray.size s0) : Int))), Value.int IntKind.i64 x3, Value.bool (decide (x3 < 11)), Value.bool (decide (x3 < 11)), Value.bool (decide (x3 < 11)), undef, undef, undef, undef, undef, undef, Value.bool false, Value.bool false, undef, undef, undef, undef, undef, undef, Value.bool false, jv j4 30, jv j4 31, jv j4 32, jv j4 33, jv j4 34, jv j4 35, jv j4 36, jv j4 37, jv j4 38, jv j4 39, jv j4 40, jv j4 41, jv j4 42, jv j4 43, jv j4 44, jv j4 45, jv j4 46, jv j4 47, jv j4 48, jv j4 49, jv j4 50, jv j4 51, jv j4 52, jv j4 53, jv j4 54, jv j4 55], by kernel_rfl⟩
/-  - - -/
theorem row_L0_4 (om : Nat → Nat) (n : Nat) (tm : Tm) (s0 : ByteArray) (x1 x2 x3 : Int) (h5 : AHeap)
    (hS : row_L0_S s0 x1 x2 x3 tm)
    (c0 : decide (awrap IntKind.i64 (x1 + x3) < (↑(ByteArray.size s0) : Int)) = false)
    : ∃ tm', row_L0_B om n (tm, h5) = some (AExit.exit 0, tm', h5) ∧ row_L0_X0 (s0) (x1) (x2) (x3) tm' := by
  obtain ⟨j4, rfl⟩ := hS
  exact ⟨tof [Value.string s0, Value.int IntKind.i64 x1, jv j4 0, jv j4 1, jv j4 2, jv j4 3, Value.int IntKind.i64 x2, Value.int IntKind.i64 x3, Value.int IntKind.i64 x1, Value.int IntKind.i64 x3, Value.int IntKind.i64 (awrap IntKind.i64 (x1 + x3)), Value.string s0, Value.int IntKind.i64 (↑(ByteArray.size s0) : Int), Value.bool (decide (awrap IntKind.i64 (x1 + x3) < (↑(ByteArray.size s0) : Int))), Value.bool (decide (awrap IntKind.i64 (x1 + x3) < (↑(ByteArray.size s0) : Int))), undef, undef, Value.bool false, Value.bool false, undef, undef, undef, undef, undef, undef, Value.bool false, Value.bool false, undef, undef, undef, undef, undef, undef, Value.bool false, jv j4 30, jv j4 31, jv j4 32, jv j4 33, jv j4 34, jv j4 35, jv j4 36, jv j4 37, jv j4 38, jv j4 39, jv j4 40, jv j4 41, jv j4 42, jv j4 43, jv j4 44, jv j4 45, jv j4 46, jv j4 47, jv j4 48, jv j4 49, jv j4 50, jv j4 51, jv j4 52, jv j4 53, jv j4 54, jv j4 55] 0 Tm.e, guidedC (gs := [.go 7, .br false, .br false, .val (Value.bool false)]) (r := []) (by kernel_rfl) (And.intro (pickE_f c0 (undef) (Value.bool false)) (And.intro c0 (And.intro c0 (trivial)))), [jv j4 0, jv j4 1, jv j4 2, jv j4 3, Value.int IntKind.i64 x1, Value.int IntKind.i64 x3, Value.int IntKind.i64 (awrap IntKind.i64 (x1 + x3)), Value.string s0, Value.int IntKind.i64 (↑(ByteArray.size s0) : Int), Value.bool (decide (awrap IntKind.i64 (x1 + x3) < (↑(ByteArray.size s0) : Int))), Value.bool (decide (awrap IntKind.i64 (x1 + x3) < (↑(ByteArray.size s0) : Int))), undef, undef, Value.bool false, Value.bool false, undef, undef, undef, undef, undef, undef, Value.bool false, Value.bool false, undef, undef, undef, undef, undef, undef, Value.bool false, jv j4 30, jv j4 31, jv j4 32, jv j4 33, jv j4 34, jv j4 35, jv j4 36, jv j4 37, jv j4 38, jv j4 39, jv j4 40, jv j4 41, jv j4 42, jv j4 43, jv j4 44, jv j4 45, jv j4 46, jv j4 47, jv j4 48, jv j4 49, jv j4 50, jv j4 51, jv j4 52, jv j4 53, jv j4 54, jv j4 55], by kernel_rfl⟩
/-  L + + + + + + + + T -/
theorem row_0 (om : Nat → Nat) (n : Nat) (s0 : ByteArray) (x1 : Int) (h2 : AHeap)
    : ∃ tm0, row_L0_S (s0) (x1) (0) (0) tm0 ∧ ∀ (s3 : ByteArray) (x4 x5 x6 x8 : Int) (tn0 : Tm), aloop (row_L0_B om n) 10000 (tm0, h2) = some (AExit.exit 0, tn0, h2) → row_L0_X0 (s3) (x4) (x5) (x6) tn0 → (decide (x6 > 10) = false) → (decide (x6 > 1) = true) → (pureE (aindex (AEnv.P E2) 9 (Value.string s3) (Value.int IntKind.i64 x4)) = some (Value.int IntKind.u8 x8, Eff.id)) → ((x8 == 48) = true) → acall E2 om 10000 (n + 1) (ACallee.fn 22) [Value.string s0, Value.int IntKind.i64 x1] h2 = some (Value.tuple (Array.mk [Value.int IntKind.i64 0, Value.int IntKind.i64 0]), h2) := by
  refine ⟨tof [Value.string s0, Value.int IntKind.i64 x1, undef, undef, Value.int IntKind.i64 0, Value.int IntKind.i64 0, Value.int IntKind.i64 0, Value.int IntKind.i64 0, undef, undef, undef, undef, undef, undef, undef, undef, undef, undef, undef, undef, undef, undef, undef, undef, undef, undef, undef, undef, undef, undef, undef, undef, undef, undef, undef, undef, undef, undef, undef, undef, undef, undef, undef, undef, undef, undef, undef, undef, undef, undef, undef, undef, undef, undef, undef, undef, undef, undef, undef, undef] 0 Tm.e, ⟨[undef, undef, Value.int IntKind.i64 0, Value.int IntKind.i64 0, undef, undef, undef, undef, undef, undef, undef, undef, undef, undef, undef, undef, undef, undef, undef, undef, undef, undef, undef, undef, undef, undef, undef, undef, undef, undef, undef, undef, undef, undef, undef, undef, undef, undef, undef, undef, undef, undef, undef, undef, undef, undef, undef, undef, undef, undef, undef, undef, undef, undef, undef, undef], by kernel_rfl⟩, ?_⟩
  intro s3 x4 x5 x6 x8 tn0 e0 x0 c1 c4 c7 c12
  obtain ⟨j7, rfl⟩ := x0
  exact guided (gs := [.go 5, .code (AExit.exit 0) (tof [Value.string s3, Value.int IntKind.i64 x4, jv j7 0, jv j7 1, jv j7 2, jv j7 3, Value.int IntKind.i64 x5, Value.int IntKind.i64 x6, jv j7 4, jv j7 5, jv j7 6, jv j7 7, jv j7 8, jv j7 9, jv j7 10, jv j7 11, jv j7 12, jv j7 13, jv j7 14, jv j7 15, jv j7 16, jv j7 17, jv j7 18, jv j7 19, jv j7 20, jv j7 21, jv j7 22, jv j7 23, jv j7 24, jv j7 25, jv j7 26, jv j7 27, jv j7 28, jv j7 29, jv j7 30, jv j7 31, jv j7 32, jv j7 33, jv j7 34, jv j7 35, jv j7 36, jv j7 37, jv j7 38, jv j7 39, jv j7 40, jv j7 41, jv j7 42, jv j7 43, jv j7 44, jv j7 45, jv j7 46, jv j7 47, jv j7 48, jv j7 49, jv j7 50, jv j7 51, jv j7 52, jv j7 53, jv j7 54, jv j7 55] 0 Tm.e) (h2), .go 3, .br true, .go 1, .br true, .go 1, .br true, .go 1, .br true, .go 1, .br true, .go 1, .br true, .val (Value.int IntKind.u8 x8), .br true, .go 1, .br true, .val (Value.bool (x8 == 48)), .val (Value.bool (x8 == 48)), .br true]) (r := []) (by kernel_rfl) (And.intro c12 (And.intro (pickE_f c1 (Value.bool true) (Value.bool (x8 == 48))) (And.intro (pickE_t c4 (Value.bool (x8 == 48)) (Value.bool false)) (And.intro c1 (And.intro c4 (And.intro c7 (And.intro c4 (And.intro c4 (And.intro c4 (And.intro c1 (And.intro c1 (And.intro c1 (And.intro e0 (trivial))))))))))))))
/-  L + + + + + + + + F -/
theorem row_1 (om : Nat → Nat) (n : Nat) (s0 : ByteArray) (x1 : Int) (h2 : AHeap)
    : ∃ tm0, row_L0_S (s0) (x1) (0) (0) tm0 ∧ ∀ (s3 : ByteArray) (x4 x5 x6 x8 : Int) (tn0 : Tm), aloop (row_L0_B om n) 10000 (tm0, h2) = some (AExit.exit 0, tn0, h2) → row_L0_X0 (s3) (x4) (x5) (x6) tn0 → (decide (x6 > 10) = false) → (decide (x6 > 1) = true) → (pureE (aindex (AEnv.P E2) 9 (Value.string s3) (Value.int IntKind.i64 x4)) = some (Value.int IntKind.u8 x8, Eff.id)) → ((x8 == 48) = false) → acall E2 om 10000 (n + 1) (ACallee.fn 22) [Value.string s0, Value.int IntKind.i64 x1] h2 = some (Value.tuple (Array.mk [Value.int IntKind.i64 x5, Value.int IntKind.i64 x6]), h2) := by
  refine ⟨tof [Value.string s0, Value.int IntKind.i64 x1, undef, undef, Value.int IntKind.i64 0, Value.int IntKind.i64 0, Value.int IntKind.i64 0, Value.int IntKind.i64 0, undef, undef, undef, undef, undef, undef, undef, undef, undef, undef, undef, undef, undef, undef, undef, undef, undef, undef, undef, undef, undef, undef, undef, undef, undef, undef, undef, undef, undef, undef, undef, undef, undef, undef, undef, undef, undef, undef, undef, undef, undef, undef, undef, undef, undef, undef, undef, undef, undef, undef, undef, undef] 0 Tm.e, ⟨[undef, undef, Value.int IntKind.i64 0, Value.int IntKind.i64 0, undef, undef, undef, undef, undef, undef, undef, undef, undef, undef, undef, undef, undef, undef, undef, undef, undef, undef, undef, undef, undef, undef, undef, undef, undef, undef, undef, undef, undef, undef, undef, undef, undef, undef, undef, undef, undef, undef, undef, undef, undef, undef, undef, undef, undef, undef, undef, undef, undef, undef, undef, undef], by kernel_rfl⟩, ?_⟩
  intro s3 x4 x5 x6 x8 tn0 e0 x0 c1 c4 c7 c12
  obtain ⟨j7, rfl⟩ := x0
  exact guided (gs := [.go 5, .code (AExit.exit 0) (tof [Value.string s3, Value.int IntKind.i64 x4, jv j7 0, jv j7 1, jv j7 2, jv j7 3, Value.int IntKind.i64 x5, Value.int IntKind.i64 x6, jv j7 4, jv j7 5, jv j7 6, jv j7 7, jv j7 8, jv j7 9, jv j7 10, jv j7 11, jv j7 12, jv j7 13, jv j7 14, jv j7 15, jv j7 16, jv j7 17, jv j7 18, jv j7 19, jv j7 20, jv j7 21, jv j7 22, jv j7 23, jv j7 24, jv j7 25, jv j7 26, jv j7 27, jv j7 28, jv j7 29, jv j7 30, jv j7 31, jv j7 32, jv j7 33, jv j7 34, jv j7 35, jv j7 36, jv j7 37, jv j7 38, jv j7 39, jv j7 40, jv j7 41, jv j7 42, jv j7 43, jv j7 44, jv j7 45, jv j7 46, jv j7 47, jv j7 48, jv j7 49, jv j7 50, jv j7 51, jv j7 52, jv j7 53, jv j7 54, jv j7 55] 0 Tm.e) (h2), .go 3, .br true, .go 1, .br true, .go 1, .br true, .go 1, .br true, .go 1, .br true, .go 1, .br true, .val (Value.int IntKind.u8 x8), .br true, .go 1, .br true, .val (Value.bool (x8 == 48)), .val (Value.bool (x8 == 48)), .br false]) (r := []) (by kernel_rfl) (And.intro c12 (And.intro (pickE_f c1 (Value.bool true) (Value.bool (x8 == 48))) (And.intro (pickE_t c4 (Value.bool (x8 == 48)) (Value.bool false)) (And.intro c1 (And.intro c4 (And.intro c7 (And.intro c4 (And.intro c4 (And.intro c4 (And.intro c1 (And.intro c1 (And.intro c1 (And.intro e0 (trivial))))))))))))))
/-  L + + + - - - - + -/
theorem row_2 (om : Nat → Nat) (n : Nat) (s0 : ByteArray) (x1 : Int) (h2 : AHeap)
    : ∃ tm0, row_L0_S (s0) (x1) (0) (0) tm0 ∧ ∀ (s3 : ByteArray) (x4 x5 x6 : Int) (tn0 : Tm), aloop (row_L0_B om n) 10000 (tm0, h2) = some (AExit.exit 0, tn0, h2) → row_L0_X0 (s3) (x4) (x5) (x6) tn0 → (decide (x6 > 10) = false) → (decide (x6 > 1) = false) → acall E2 om 10000 (n + 1) (ACallee.fn 22) [Value.string s0, Value.int IntKind.i64 x1] h2 = some (Value.tuple (Array.mk [Value.int IntKind.i64 x5, Value.int IntKind.i64 x6]), h2) := by
  refine ⟨tof [Value.string s0, Value.int IntKind.i64 x1, undef, undef, Value.int IntKind.i64 0, Value.int IntKind.i64 0, Value.int IntKind.i64 0, Value.int IntKind.i64 0, undef, undef, undef, undef, undef, undef, undef, undef, undef, undef, undef, undef, undef, undef, undef, undef, undef, undef, undef, undef, undef, undef, undef, undef, undef, undef, undef, undef, undef, undef, undef, undef, undef, undef, undef, undef, undef, undef, undef, undef, undef, undef, undef, undef, undef, undef, undef, undef, undef, undef, undef, undef] 0 Tm.e, ⟨[undef, undef, Value.int IntKind.i64 0, Value.int IntKind.i64 0, undef, undef, undef, undef, undef, undef, undef, undef, undef, undef, undef, undef, undef, undef, undef, undef, undef, undef, undef, undef, undef, undef, undef, undef, undef, undef, undef, undef, undef, undef, undef, undef, undef, undef, undef, undef, undef, undef, undef, undef, undef, undef, undef, undef, undef, undef, undef, undef, undef, undef, undef, undef], by kernel_rfl⟩, ?_⟩
  intro s3 x4 x5 x6 tn0 e0 x0 c1 c4
  obtain ⟨j7, rfl⟩ := x0
  exact guided (gs := [.go 5, .code (AExit.exit 0) (tof [Value.string s3, Value.int IntKind.i64 x4, jv j7 0, jv j7 1, jv j7 2, jv j7 3, Value.int IntKind.i64 x5, Value.int IntKind.i64 x6, jv j7 4, jv j7 5, jv j7 6, jv j7 7, jv j7 8, jv j7 9, jv j7 10, jv j7 11, jv j7 12, jv j7 13, jv j7 14, jv j7 15, jv j7 16, jv j7 17, jv j7 18, jv j7 19, jv j7 20, jv j7 21, jv j7 22, jv j7 23, jv j7 24, jv j7 25, jv j7 26, jv j7 27, jv j7 28, jv j7 29, jv j7 30, jv j7 31, jv j7 32, jv j7 33, jv j7 34, jv j7 35, jv j7 36, jv j7 37, jv j7 38, jv j7 39, jv j7 40, jv j7 41, jv j7 42, jv j7 43, jv j7 44, jv j7 45, jv j7 46, jv j7 47, jv j7 48, jv j7 49, jv j7 50, jv j7 51, jv j7 52, jv j7 53, jv j7 54, jv j7 55] 0 Tm.e) (h2), .go 3, .br true, .go 1, .br true, .go 1, .br true, .go 1, .br false, .br false, .br false, .br false, .br true, .val (Value.bool false), .val (Value.bool false)]) (r := []) (by kernel_rfl) (And.intro (pickE_f c1 (Value.bool true) (Value.bool false)) (And.intro (pickE_f c4 (undef) (Value.bool false)) (And.intro c1 (And.intro c4 (And.intro c4 (And.intro c4 (And.intro c4 (And.intro c1 (And.intro c1 (And.intro c1 (And.intro e0 (trivial))))))))))))
/-  L - - - - -/
theorem row_3 (om : Nat → Nat) (n : Nat) (s0 : ByteArray) (x1 : Int) (h2 : AHeap)
    : ∃ tm0, row_L0_S (s0) (x1) (0) (0) tm0 ∧ ∀ (s3 : ByteArray) (x4 x5 x6 : Int) (tn0 : Tm), aloop (row_L0_B om n) 10000 (tm0, h2) = some (AExit.exit 0, tn0, h2) → row_L0_X0 (s3) (x4) (x5) (x6) tn0 → (decide (x6 > 10) = true) → acall E2 om 10000 (n + 1) (ACallee.fn 22) [Value.string s0, Value.int IntKind.i64 x1] h2 = some (Value.tuple (Array.mk [Value.int IntKind.i64 0, Value.int IntKind.i64 0]), h2) := by
  refine ⟨tof [Value.string s0, Value.int IntKind.i64 x1, undef, undef, Value.int IntKind.i64 0, Value.int IntKind.i64 0, Value.int IntKind.i64 0, Value.int IntKind.i64 0, undef, undef, undef, undef, undef, undef, undef, undef, undef, undef, undef, undef, undef, undef, undef, undef, undef, undef, undef, undef, undef, undef, undef, undef, undef, undef, undef, undef, undef, undef, undef, undef, undef, undef, undef, undef, undef, undef, undef, undef, undef, undef, undef, undef, undef, undef, undef, undef, undef, undef, undef, undef] 0 Tm.e, ⟨[undef, undef, Value.int IntKind.i64 0, Value.int IntKind.i64 0, undef, undef, undef, undef, undef, undef, undef, undef, undef, undef, undef, undef, undef, undef, undef, undef, undef, undef, undef, undef, undef, undef, undef, undef, undef, undef, undef, undef, undef, undef, undef, undef, undef, undef, undef, undef, undef, undef, undef, undef, undef, undef, undef, undef, undef, undef, undef, undef, undef, undef, undef, undef], by kernel_rfl⟩, ?_⟩
  intro s3 x4 x5 x6 tn0 e0 x0 c1
  obtain ⟨j7, rfl⟩ := x0
  exact guided (gs := [.go 5, .code (AExit.exit 0) (tof [Value.string s3, Value.int IntKind.i64 x4, jv j7 0, jv j7 1, jv j7 2, jv j7 3, Value.int IntKind.i64 x5, Value.int IntKind.i64 x6, jv j7 4, jv j7 5, jv j7 6, jv j7 7, jv j7 8, jv j7 9, jv j7 10, jv j7 11, jv j7 12, jv j7 13, jv j7 14, jv j7 15, jv j7 16, jv j7 17, jv j7 18, jv j7 19, jv j7 20, jv j7 21, jv j7 22, jv j7 23, jv j7 24, jv j7 25, jv j7 26, jv j7 27, jv j7 28, jv j7 29, jv j7 30, jv j7 31, jv j7 32, jv j7 33, jv j7 34, jv j7 35, jv j7 36, jv j7 37, jv j7 38, jv j7 39, jv j7 40, jv j7 41, jv j7 42, jv j7 43, jv j7 44, jv j7 45, jv j7 46, jv j7 47, jv j7 48, jv j7 49, jv j7 50, jv j7 51, jv j7 52, jv j7 53, jv j7 54, jv j7 55] 0 Tm.e) (h2), .go 3, .br false, .br false, .br false, .go 4, .br false, .val (Value.bool true)]) (r := []) (by kernel_rfl) (And.intro (pickE_t c1 (Value.bool true) (undef)) (And.intro c1 (And.intro c1 (And.intro c1 (And.intro c1 (And.intro e0 (trivial)))))))
/-  C24 -/
theorem hasp_0 (om : Nat → Nat) (n : Nat) (s0 s1 : ByteArray) (h2 : AHeap) (b3 : Bool)
    (c0 : acall E2 om 10000 n (ACallee.fn 24) [Value.string s0, Value.string s1] h2 = some (Value.bool b3, h2))
    : acall E2 om 10000 (n + 1) (ACallee.fn 14) [Value.string s0, Value.string s1] h2 = some (Value.bool b3, h2) := by
  exact guided (gs := [.go 4, .val (Value.bool b3)]) (r := []) (by kernel_rfl) (And.intro c0 (trivial))
/-  + + + + + + -/
theorem hasp2_0 (om : Nat → Nat) (n : Nat) (s0 s1 : ByteArray) (h2 : AHeap) (s3 : ByteArray)
    (c0 : decide ((↑(ByteArray.size s0) : Int) ≥ (↑(ByteArray.size s1) : Int)) = true)
    (c4 : pureE (aslice (AEnv.P E2) (AHeap.get h2) 9 (Value.string s0) none (some (Value.int IntKind.i64 (↑(ByteArray.size s1) : Int))) none) = some (Value.string s3, Eff.id))
    : acall E2 om 10000 (n + 1) (ACallee.fn 24) [Value.string s0, Value.string s1] h2 = some (Value.bool (eqBytes s3 s1), h2) := by
  exact guided (gs := [.go 8, .br true, .go 1, .br true, .go 1, .br true, .go 1, .br true, .val (Value.string s3), .br true, .go 1, .br true, .go 1, .val (Value.bool (eqBytes s3 s1))]) (r := []) (by kernel_rfl) (And.intro (pickE_t c0 (Value.bool (eqBytes s3 s1)) (Value.bool false)) (And.intro c0 (And.intro c0 (And.intro c4 (And.intro c0 (And.intro c0 (And.intro c0 (And.intro c0 (trivial)))))))))
/-  - - - - - - -/
theorem hasp2_1 (om : Nat → Nat) (n : Nat) (s0 s1 : ByteArray) (h2 : AHeap)
    (c0 : decide ((↑(ByteArray.size s0) : Int) ≥ (↑(ByteArray.size s1) : Int)) = false)
    : acall E2 om 10000 (n + 1) (ACallee.fn 24) [Value.string s0, Value.string s1] h2 = some (Value.bool false, h2) := by
  exact guided (gs := [.go 8, .br false, .br false, .br false, .br false, .br false, .br false, .val (Value.bool false)]) (r := []) (by kernel_rfl) (And.intro (pickE_f c0 (undef) (Value.bool false)) (And.intro c0 (And.intro c0 (And.intro c0 (And.intro c0 (And.intro c0 (And.intro c0 (trivial))))))))
/-  T -/
theorem rkind_0 (om : Nat → Nat) (n : Nat) (x0 : Int) (h1 : AHeap)
    (c0 : (x0 == 0) = true)
    : acall E2 om 10000 (n + 1) (ACallee.fn 17) [Value.int IntKind.u32 x0] h1 = some (Value.int IntKind.i64 1, h1) := by
  exact guided (gs := [.go 4, .br true]) (r := []) (by kernel_rfl) (And.intro c0 (trivial))
/-  F T -/
theorem rkind_1 (om : Nat → Nat) (n : Nat) (x0 : Int) (h1 : AHeap)
    (c0 : (x0 == 0) = false)
    (c1 : (x0 == 23456) = true)
    : acall E2 om 10000 (n + 1) (ACallee.fn 17) [Value.int IntKind.u32 x0] h1 = some (Value.int IntKind.i64 2, h1) := by
  exact guided (gs := [.go 4, .br false, .go 2, .br true]) (r := []) (by kernel_rfl) (And.intro c1 (And.intro c0 (trivial)))
/-  F F + + + + + + + + T -/
theorem rkind_2 (om : Nat → Nat) (n : Nat) (x0 : Int) (h1 : AHeap)
    (c0 : (x0 == 0) = false)
    (c1 : (x0 == 23456) = false)
    (c2 : decide (x0 ≥ 64512) = true)
    (c5 : decide (x0 ≤ 65534) = false)
    (c8 : decide (x0 ≥ 4200000000) = true)
    (c13 : decide (x0 ≤ 4294967294) = true)
    : acall E2 om 10000 (n + 1) (ACallee.fn 17) [Value.int IntKind.u32 x0] h1 = some (Value.int IntKind.i64 3, h1) := by
  exact guided (gs := [.go 4, .br false, .go 2, .br false, .go 3, .br true, .go 1, .br true, .go 1, .val (Value.bool (decide (x0 ≤ 65534))), .go 1, .br true, .go 1, .br true, .go 1, .br true, .go 1, .br true, .go 1, .br true, .go 1, .br true, .val (Value.bool (decide (x0 ≤ 4294967294))), .val (Value.bool (decide (x0 ≤ 4294967294))), .br true]) (r := []) (by kernel_rfl) (And.intro c13 (And.intro (pickE_f c5 (Value.bool true) (Value.bool (decide (x0 ≤ 4294967294)))) (And.intro (pickE_t c8 (Value.bool (decide (x0 ≤ 4294967294))) (Value.bool false)) (And.intro c5 (And.intro c8 (And.intro c8 (And.intro c5 (And.intro c5 (And.intro c5 (And.intro (pickE_t c2 (Value.bool (decide (x0 ≤ 65534))) (Value.bool false)) (And.intro c2 (And.intro c2 (And.intro c1 (And.intro c0 (trivial)))))))))))))))
/-  F F + + + + + + + + F + + + + + + + + + + T -/
theorem rkind_3 (om : Nat → Nat) (n : Nat) (x0 : Int) (h1 : AHeap)
    (c0 : (x0 == 0) = false)
    (c1 : (x0 == 23456) = false)
    (c2 : decide (x0 ≥ 64512) = true)
    (c5 : decide (x0 ≤ 65534) = false)
    (c8 : decide (x0 ≥ 4200000000) = true)
    (c13 : decide (x0 ≤ 4294967294) = false)
    (c14 : decide (x0 ≥ 64496) = true)
    (c17 : decide (x0 ≤ 64511) = false)
    (c20 : decide (x0 ≥ 65535) = true)
    (c25 : decide (x0 ≤ 65551) = false)
    (c28 : (x0 == 4294967295) = true)
    : acall E2 om 10000 (n + 1) (ACallee.fn 17) [Value.int IntKind.u32 x0] h1 = some (Value.int IntKind.i64 4, h1) := by
  exact guided (gs := [.go 4, .br false, .go 2, .br false, .go 3, .br true, .go 1, .br true, .go 1, .val (Value.bool (decide (x0 ≤ 65534))), .go 1, .br true, .go 1, .br true, .go 1, .br true, .go 1, .br true, .go 1, .br true, .go 1, .br true, .val (Value.bool (decide (x0 ≤ 4294967294))), .val (Value.bool (decide (x0 ≤ 4294967294))), .br false, .go 3, .br true, .go 1, .br true, .go 1, .val (Value.bool (decide (x0 ≤ 64511))), .go 1, .br true, .go 1, .br true, .go 1, .br true, .go 1, .br true, .go 1, .br true, .go 1, .br true, .val (Value.bool (decide (x0 ≤ 65551))), .val (Value.bool (decide (x0 ≤ 65551))), .go 1, .br true, .go 1, .br true, .go 1, .val (Value.bool (x0 == 4294967295)), .br true]) (r := []) (by kernel_rfl) (And.intro c28 (And.intro (pickE_f c25 (Value.bool true) (Value.bool (x0 == 4294967295))) (And.intro c25 (And.intro c25 (And.intro (pickE_f c17 (Value.bool true) (Value.bool (decide (x0 ≤ 65551)))) (And.intro (pickE_t c20 (Value.bool (decide (x0 ≤ 65551))) (Value.bool false)) (And.intro c17 (And.intro c20 (And.intro c20 (And.intro c17 (And.intro c17 (And.intro c17 (And.intro (pickE_t c14 (Value.bool (decide (x0 ≤ 64511))) (Value.bool false)) (And.intro c14 (And.intro c14 (And.intro c13 (And.intro (pickE_f c5 (Value.bool true) (Value.bool (decide (x0 ≤ 4294967294)))) (And.intro (pickE_t c8 (Value.bool (decide (x0 ≤ 4294967294))) (Value.bool false)) (And.intro c5 (And.intro c8 (And.intro c8 (And.intro c5 (And.intro c5 (And.intro c5 (And.intro (pickE_t c2 (Value.bool (decide (x0 ≤ 65534))) (Value.bool false)) (And.intro c2 (And.intro c2 (And.intro c1 (And.intro c0 (trivial))))))))))))))))))))))))))))))
/-  F F + + + + + - - + + + + + + + + + + + F -/
theorem rkind_4 (om : Nat → Nat) (n : Nat) (x0 : Int) (h1 : AHeap)
    (c0 : (x0 == 0) = false)
    (c1 : (x0 == 23456) = false)
    (c2 : decide (x0 ≥ 64512) = true)
    (c5 : decide (x0 ≤ 65534) = false)
    (c8 : decide (x0 ≥ 4200000000) = false)
    (c13 : decide (x0 ≥ 64496) = true)
    (c16 : decide (x0 ≤ 64511) = false)
    (c19 : decide (x0 ≥ 65535) = true)
    (c24 : decide (x0 ≤ 65551) = false)
    (c27 : (x0 == 4294967295) = false)
    : acall E2 om 10000 (n + 1) (ACallee.fn 17) [Value.int IntKind.u32 x0] h1 = some (Value.int IntKind.i64 5, h1) := by
  exact guided (gs := [.go 4, .br false, .go 2, .br false, .go 3, .br true, .go 1, .br true, .go 1, .val (Value.bool (decide (x0 ≤ 65534))), .go 1, .br true, .go 1, .br true, .go 1, .br true, .go 1, .br false, .br false, .br true, .val (Value.bool false), .val (Value.bool false), .go 4, .br true, .go 1, .br true, .go 1, .val (Value.bool (decide (x0 ≤ 64511))), .go 1, .br true, .go 1, .br true, .go 1, .br true, .go 1, .br true, .go 1, .br true, .go 1, .br true, .val (Value.bool (decide (x0 ≤ 65551))), .val (Value.bool (decide (x0 ≤ 65551))), .go 1, .br true, .go 1, .br true, .go 1, .val (Value.bool (x0 == 4294967295)), .br false]) (r := []) (by kernel_rfl) (And.intro c27 (And.intro (pickE_f c24 (Value.bool true) (Value.bool (x0 == 4294967295))) (And.intro c24 (And.intro c24 (And.intro (pickE_f c16 (Value.bool true) (Value.bool (decide (x0 ≤ 65551)))) (And.intro (pickE_t c19 (Value.bool (decide (x0 ≤ 65551))) (Value.bool false)) (And.intro c16 (And.intro c19 (And.intro c19 (And.intro c16 (And.intro c16 (And.intro c16 (And.intro (pickE_t c13 (Value.bool (decide (x0 ≤ 64511))) (Value.bool false)) (And.intro c13 (And.intro c13 (And.intro (pickE_f c5 (Value.bool true) (Value.bool false)) (And.intro (pickE_f c8 (undef) (Value.bool false)) (And.intro c5 (And.intro c8 (And.intro c8 (And.intro c5 (And.intro c5 (And.intro c5 (And.intro (pickE_t c2 (Value.bool (decide (x0 ≤ 65534))) (Value.bool false)) (And.intro c2 (And.intro c2 (And.intro c1 (And.intro c0 (trivial)))))))))))))))))))))))))))))
/-  F F + + + + + - - + + + + + + + + + - - -/
theorem rkind_5 (om : Nat → Nat) (n : Nat) (x0 : Int) (h1 : AHeap)
    (c0 : (x0 == 0) = false)
    (c1 : (x0 == 23456) = false)
    (c2 : decide (x0 ≥ 64512) = true)
    (c5 : decide (x0 ≤ 65534) = false)
    (c8 : decide (x0 ≥ 4200000000) = false)
    (c13 : decide (x0 ≥ 64496) = true)
    (c16 : decide (x0 ≤ 64511) = false)
    (c19 : decide (x0 ≥ 65535) = true)
    (c24 : decide (x0 ≤ 65551) = true)
    : acall E2 om 10000 (n + 1) (ACallee.fn 17) [Value.int IntKind.u32 x0] h1 = some (Value.int IntKind.i64 4, h1) := by
  exact guided (gs := [.go 4, .br false, .go 2, .br false, .go 3, .br true, .go 1, .br true, .go 1, .val (Value.bool (decide (x0 ≤ 65534))), .go 1, .br true, .go 1, .br true, .go 1, .br true, .go 1, .br false, .br false, .br true, .val (Value.bool false), .val (Value.bool false), .go 4, .br true, .go 1, .br true, .go 1, .val (Value.bool (decide (x0 ≤ 64511))), .go 1, .br true, .go 1, .br true, .go 1, .br true, .go 1, .br true, .go 1, .br true, .go 1, .br true, .val (Value.bool (decide (x0 ≤ 65551))), .val (Value.bool (decide (x0 ≤ 65551))), .go 1, .br false, .br false, .val (Value.bool true)]) (r := []) (by kernel_rfl) (And.intro (pickE_t c24 (Value.bool true) (undef)) (And.intro c24 (And.intro c24 (And.intro (pickE_f c16 (Value.bool true) (Value.bool (decide (x0 ≤ 65551)))) (And.intro (pickE_t c19 (Value.bool (decide (x0 ≤ 65551))) (Value.bool false)) (And.intro c16 (And.intro c19 (And.intro c19 (And.intro c16 (And.intro c16 (And.intro c16 (And.intro (pickE_t c13 (Value.bool (decide (x0 ≤ 64511))) (Value.bool false)) (And.intro c13 (And.intro c13 (And.intro (pickE_f c5 (Value.bool true) (Value.bool false)) (And.intro (pickE_f c8 (undef) (Value.bool false)) (And.intro c5 (And.intro c8 (And.intro c8 (And.intro c5 (And.intro c5 (And.intro c5 (And.intro (pickE_t c2 (Value.bool (decide (x0 ≤ 65534))) (Value.bool false)) (And.intro c2 (And.intro c2 (And.intro c1 (And.intro c0 (trivial))))))))))))))))))))))))))))
/-  F F + + - - - - -/
theorem rkind_6 (om : Nat → Nat) (n : Nat) (x0 : Int) (h1 : AHeap)
    (c0 : (x0 == 0) = false)
    (c1 : (x0 == 23456) = false)
    (c2 : decide (x0 ≥ 64512) = true)
    (c5 : decide (x0 ≤ 65534) = true)
    : acall E2 om 10000 (n + 1) (ACallee.fn 17) [Value.int IntKind.u32 x0] h1 = some (Value.int IntKind.i64 3, h1) := by
  exact guided (gs := [.go 4, .br false, .go 2, .br false, .go 3, .br true, .go 1, .br true, .go 1, .val (Value.bool (decide (x0 ≤ 65534))), .go 1, .br false, .br false, .br false, .go 2, .br false, .val (Value.bool true)]) (r := []) (by kernel_rfl) (And.intro (pickE_t c5 (Value.bool true) (undef)) (And.intro c5 (And.intro c5 (And.intro c5 (And.intro c5 (And.intro (pickE_t c2 (Value.bool (decide (x0 ≤ 65534))) (Value.bool false)) (And.intro c2 (And.intro c2 (And.intro c1 (And.intro c0 (trivial)))))))))))
/-  F F - - - - + + - - - - -/
theorem rkind_7 (om : Nat → Nat) (n : Nat) (x0 : Int) (h1 : AHeap)
    (c0 : (x0 == 0) = false)
    (c1 : (x0 == 23456) = false)
    (c2 : decide (x0 ≥ 64512) = false)
    (c5 : decide (x0 ≥ 4200000000) = false)
    (c8 : decide (x0 ≥ 64496) = true)
    (c11 : decide (x0 ≤ 64511) = true)
    : acall E2 om 10000 (n + 1) (ACallee.fn 17) [Value.int IntKind.u32 x0] h1 = some (Value.int IntKind.i64 4, h1) := by
  exact guided (gs := [.go 4, .br false, .go 2, .br false, .go 3, .br false, .br false, .val (Value.bool false), .go 7, .br false, .br false, .go 1, .val (Value.bool false), .go 5, .br true, .go 1, .br true, .go 1, .val (Value.bool (decide (x0 ≤ 64511))), .go 1, .br false, .br false, .br false, .go 2, .br false, .val (Value.bool true)]) (r := []) (by kernel_rfl) (And.intro (pickE_t c11 (Value.bool true) (undef)) (And.intro c11 (And.intro c11 (And.intro c11 (And.intro c11 (And.intro (pickE_t c8 (Value.bool (decide (x0 ≤ 64511))) (Value.bool false)) (And.intro c8 (And.intro c8 (And.intro (pickE_f c5 (undef) (Value.bool false)) (And.intro c5 (And.intro c5 (And.intro (pickE_f c2 (undef) (Value.bool false)) (And.intro c2 (And.intro c2 (And.intro c1 (And.intro c0 (trivial)))))))))))))))))
/-  F F - - - - - - - - F -/
theorem rkind_8 (om : Nat → Nat) (n : Nat) (x0 : Int) (h1 : AHeap)
    (c0 : (x0 == 0) = false)
    (c1 : (x0 == 23456) = false)
    (c2 : decide (x0 ≥ 64512) = false)
    (c5 : decide (x0 ≥ 4200000000) = false)
    (c8 : decide (x0 ≥ 64496) = false)
    (c11 : decide (x0 ≥ 65535) = false)
    (c14 : (x0 == 4294967295) = false)
    : acall E2 om 10000 (n + 1) (ACallee.fn 17) [Value.int IntKind.u32 x0] h1 = some (Value.int IntKind.i64 5, h1) := by
  exact guided (gs := [.go 4, .br false, .go 2, .br false, .go 3, .br false, .br false, .val (Value.bool false), .go 7, .br false, .br false, .go 1, .val (Value.bool false), .go 5, .br false, .br false, .val (Value.bool false), .go 7, .br false, .br false, .go 1, .val (Value.bool false), .go 7, .br false]) (r := []) (by kernel_rfl) (And.intro c14 (And.intro (pickE_f c11 (undef) (Value.bool false)) (And.intro c11 (And.intro c11 (And.intro (pickE_f c8 (undef) (Value.bool false)) (And.intro c8 (And.intro c8 (And.intro (pickE_f c5 (undef) (Value.bool false)) (And.intro c5 (And.intro c5 (And.intro (pickE_f c2 (undef) (Value.bool false)) (And.intro c2 (And.intro c2 (And.intro c1 (And.intro c0 (trivial))))))))))))))))
/-  T -/
theorem cut_0 (om : Nat → Nat) (n : Nat) (s0 : ByteArray) (h1 : AHeap) (s2 : ByteArray)
    (c0 : eqBytes (bs [46]) s0 = true)
    (c1 : pureE (aslice (AEnv.P E2) (AHeap.get h1) 9 (Value.string s0) (some (Value.int IntKind.i64 1)) none none) = some (Value.string s2, Eff.id))
    (c2 : AHeap.oc h1 = AHeap.oc h1 ∧ true = true)
    : acall E2 om 10000 (n + 5) (ACallee.fn 20) [Value.string s0, Value.string (bs [46])] h1 = some (Value.tuple (Array.mk [Value.string (ByteArray.mk (Array.mk (List.take 0 (List.drop 0 (Array.toList (ByteArray.data s0)))))), Value.string s2, Value.bool true]), h1) := by
  exact guided (gs := [.go 28, .br true, .go 13, .val (Value.string s2), .go 3, .br true]) (r := []) (by kernel_rfl) (And.intro c2 (And.intro c1 (And.intro c0 (trivial))))
/-  F T -/
theorem cut_1 (om : Nat → Nat) (n : Nat) (s0 : ByteArray) (h1 : AHeap) (s2 s3 : ByteArray)
    (c0 : eqBytes (bs [46]) s0 = false)
    (c1 : decide (byteAt (Array.toList (ByteArray.data s0)) 46 ≥ 0) = true)
    (c2 : pureE (aslice (AEnv.P E2) (AHeap.get h1) 9 (Value.string s0) none (some (Value.int IntKind.i64 (byteAt (Array.toList (ByteArray.data s0)) 46))) none) = some (Value.string s2, Eff.id))
    (c3 : pureE (aslice (AEnv.P E2) (AHeap.get h1) 9 (Value.string s0) (some (Value.int IntKind.i64 (awrap IntKind.i64 (byteAt (Array.toList (ByteArray.data s0)) 46 + 1)))) none none) = some (Value.string s3, Eff.id))
    (c4 : AHeap.oc h1 = AHeap.oc h1 ∧ true = true)
    : acall E2 om 10000 (n + 5) (ACallee.fn 20) [Value.string s0, Value.string (bs [46])] h1 = some (Value.tuple (Array.mk [Value.string s2, Value.string s3, Value.bool true]), h1) := by
  exact guided (gs := [.go 28, .br false, .go 17, .br true, .go 2, .val (Value.string s2), .go 5, .val (Value.string s3), .go 3, .br true]) (r := []) (by kernel_rfl) (And.intro c4 (And.intro c3 (And.intro c2 (And.intro c1 (And.intro c0 (trivial))))))
/-  F F -/
theorem cut_2 (om : Nat → Nat) (n : Nat) (s0 : ByteArray) (h1 : AHeap)
    (c0 : eqBytes (bs [46]) s0 = false)
    (c1 : decide (byteAt (Array.toList (ByteArray.data s0)) 46 ≥ 0) = false)
    : acall E2 om 10000 (n + 5) (ACallee.fn 20) [Value.string s0, Value.string (bs [46])] h1 = some (Value.tuple (Array.mk [Value.string s0, Value.string (bs []), Value.bool false]), h1) := by
  exact guided (gs := [.go 28, .br false, .go 17, .br false]) (r := []) (by kernel_rfl) (And.intro c1 (And.intro c0 (trivial)))
