/- Part of a proof about a Go program: the abstract machine walks its code; no condition. -/
import Derived.Test.YtjmkmijomlnmaaaDoorNumEnv2
open Go Go.Am Go.Am.W Go.Proofs
set_option maxRecDepth 100000
-- passed over: lshort_0  C10 C11 + + + + + + + + + + + + T
/-  C10 C11 + + + + + + + + + + + + F + + C11 + + + + C10 + + + + + + + C12 + + C13 + + + + + + + + + C13 + + + + + + C9 -/
theorem lshort_1 (om : Nat → Nat) (n : Nat) (x0 x1 : Int) (h2 : AHeap) (x3 : Int) (b4 b5 : Bool) (x6 : Int) (s7 s8 s9 : ByteArray) (b10 : Bool)
    (c0 : acall E2 om 10000 n (ACallee.fn 10) [Value.int IntKind.u32 x0] h2 = some (Value.int IntKind.u16 x3, h2))
    (c1 : acall E2 om 10000 n (ACallee.fn 11) [Value.int IntKind.u32 x0] h2 = some (Value.bool b4, h2))
    (c2 : b4 = false)
    (c5 : (!(x3 == 23456) == (x0 == 23456)) = false)
    (c10 : (!b4) = true)
    (c19 : (awrap IntKind.u32 x3 != x0) = false)
    (c23 : acall E2 om 10000 n (ACallee.fn 11) [Value.int IntKind.u32 x1] h2 = some (Value.bool b5, h2))
    (c25 : b5 = false)
    (c30 : acall E2 om 10000 n (ACallee.fn 10) [Value.int IntKind.u32 x1] h2 = some (Value.int IntKind.u16 x6, h2))
    (c37 : ((x3 == x6) == (x0 == x1)) = true)
    (c39 : acall E2 om 10000 n (ACallee.fn 12) [Value.int IntKind.u32 x0] h2 = some (Value.string s7, h2))
    (c42 : acall E2 om 10000 n (ACallee.fn 13) [Value.int IntKind.u32 x0] h2 = some (Value.string s8, h2))
    (c50 : (eqBytes s7 s8 == !b4) = true)
    (c55 : acall E2 om 10000 n (ACallee.fn 13) [Value.int IntKind.u32 x1] h2 = some (Value.string s9, h2))
    (c62 : (eqBytes s8 s9 == (x0 == x1)) = true)
    (c63 : acall E2 om 10000 n (ACallee.fn 9) [] h2 = some (Value.bool b10, h2))
    : acall E2 om 10000 (n + 1) (ACallee.fn 4) [Value.int IntKind.u32 x0, Value.int IntKind.u32 x1] h2 = some (Value.bool b10, h2) := by
  exact guided (gs := [.go 7, .val (Value.int IntKind.u16 x3), .go 2, .val (Value.bool b4), .go 1, .br true, .go 1, .br true, .go 1, .val (Value.bool (x0 == 23456)), .go 2, .br true, .go 1, .br true, .val (Value.bool b4), .br true, .go 1, .br true, .go 1, .br true, .go 1, .br true, .val (Value.int IntKind.u16 x3), .br true, .go 1, .br true, .go 1, .br true, .go 1, .br true, .val (Value.bool (awrap IntKind.u32 x3 != x0)), .val (Value.bool (awrap IntKind.u32 x3 != x0)), .br false, .go 1, .val (Value.bool b4), .go 1, .br true, .go 1, .br true, .val (Value.bool b5), .val (Value.bool b5), .go 1, .br true, .go 1, .br true, .val (Value.int IntKind.u16 x3), .br true, .go 1, .br true, .val (Value.int IntKind.u16 x6), .br true, .go 1, .br true, .go 1, .br true, .go 1, .br true, .go 1, .br true, .go 1, .val (Value.bool ((x3 == x6) == (x0 == x1))), .go 3, .br true, .go 1, .br true, .val (Value.string s7), .br true, .go 1, .br true, .val (Value.string s8), .br true, .go 1, .br true, .go 1, .br true, .val (Value.bool b4), .br true, .go 1, .br true, .go 1, .val (Value.bool (eqBytes s7 s8 == !b4)), .go 1, .br true, .go 1, .br true, .val (Value.string s8), .br true, .go 1, .br true, .val (Value.string s9), .br true, .go 1, .br true, .go 1, .br true, .go 1, .br true, .go 1, .br true, .go 1, .val (Value.bool (eqBytes s8 s9 == (x0 == x1))), .go 1, .br true, .val (Value.bool b10), .val (Value.bool b10)]) (r := []) (by kernel_rfl) (And.intro (pickE_t c62 (Value.bool b10) (Value.bool false)) (And.intro c63 (And.intro c62 (And.intro (pickE_t c50 (Value.bool (eqBytes s8 s9 == (x0 == x1))) (Value.bool false)) (And.intro c50 (And.intro c50 (And.intro c50 (And.intro c50 (And.intro c50 (And.intro c55 (And.intro c50 (And.intro c50 (And.intro c42 (And.intro c50 (And.intro c50 (And.intro (pickE_t c37 (Value.bool (eqBytes s7 s8 == !b4)) (Value.bool false)) (And.intro c37 (And.intro c37 (And.intro c1 (And.intro c37 (And.intro c37 (And.intro c37 (And.intro c42 (And.intro c37 (And.intro c37 (And.intro c39 (And.intro c37 (And.intro c37 (And.intro (pickE_f c25 (Value.bool true) (Value.bool ((x3 == x6) == (x0 == x1)))) (And.intro c25 (And.intro c25 (And.intro c25 (And.intro c25 (And.intro c25 (And.intro c30 (And.intro c25 (And.intro c25 (And.intro c0 (And.intro c25 (And.intro c25 (And.intro (pickE_f c2 (Value.bool true) (Value.bool b5)) (And.intro c23 (And.intro c2 (And.intro c2 (And.intro c1 (And.intro c19 (And.intro (pickE_f c5 (Value.bool true) (Value.bool (awrap IntKind.u32 x3 != x0))) (And.intro (pickE_t c10 (Value.bool (awrap IntKind.u32 x3 != x0)) (Value.bool false)) (And.intro c5 (And.intro c10 (And.intro c10 (And.intro c10 (And.intro c0 (And.intro c10 (And.intro c10 (And.intro c5 (And.intro c5 (And.intro c1 (And.intro c5 (And.intro c5 (And.intro (pickE_f c2 (Value.bool true) (Value.bool (x0 == 23456))) (And.intro c2 (And.intro c2 (And.intro c1 (And.intro c0 (trivial))))))))))))))))))))))))))))))))))))))))))))))))))))))))))))))))))
-- passed over: lshort_2  C10 C11 + + + + + + + + + + + + F + + C11 + + + + C10 + + + + + + + C12 + + C13 + + + + + + + + + C13 + + + + + -
-- passed over: lshort_3  C10 C11 + + + + + + + + + + + + F + + C11 + + + + C10 + + + + + + + C12 + + C13 + + + + + - - - - - - - - -
-- passed over: lshort_4  C10 C11 + + + + + + + + + + + + F + + C11 + + + + C10 + + + + + - - - - - - - - -
/-  C10 C11 + + + + + + + + + + + + F + + C11 - - - - - - - - - C12 C13 + + + + C13 + + + + + + C9 -/
theorem lshort_5 (om : Nat → Nat) (n : Nat) (x0 x1 : Int) (h2 : AHeap) (x3 : Int) (b4 b5 : Bool) (s6 s7 s8 : ByteArray) (b9 : Bool)
    (c0 : acall E2 om 10000 n (ACallee.fn 10) [Value.int IntKind.u32 x0] h2 = some (Value.int IntKind.u16 x3, h2))
    (c1 : acall E2 om 10000 n (ACallee.fn 11) [Value.int IntKind.u32 x0] h2 = some (Value.bool b4, h2))
    (c2 : b4 = false)
    (c5 : (!(x3 == 23456) == (x0 == 23456)) = false)
    (c10 : (!b4) = true)
    (c19 : (awrap IntKind.u32 x3 != x0) = false)
    (c23 : acall E2 om 10000 n (ACallee.fn 11) [Value.int IntKind.u32 x1] h2 = some (Value.bool b5, h2))
    (c25 : b5 = true)
    (c35 : acall E2 om 10000 n (ACallee.fn 12) [Value.int IntKind.u32 x0] h2 = some (Value.string s6, h2))
    (c36 : acall E2 om 10000 n (ACallee.fn 13) [Value.int IntKind.u32 x0] h2 = some (Value.string s7, h2))
    (c38 : (eqBytes s6 s7 == !b4) = true)
    (c43 : acall E2 om 10000 n (ACallee.fn 13) [Value.int IntKind.u32 x1] h2 = some (Value.string s8, h2))
    (c50 : (eqBytes s7 s8 == (x0 == x1)) = true)
    (c51 : acall E2 om 10000 n (ACallee.fn 9) [] h2 = some (Value.bool b9, h2))
    : acall E2 om 10000 (n + 1) (ACallee.fn 4) [Value.int IntKind.u32 x0, Value.int IntKind.u32 x1] h2 = some (Value.bool b9, h2) := by
  exact guided (gs := [.go 7, .val (Value.int IntKind.u16 x3), .go 2, .val (Value.bool b4), .go 1, .br true, .go 1, .br true, .go 1, .val (Value.bool (x0 == 23456)), .go 2, .br true, .go 1, .br true, .val (Value.bool b4), .br true, .go 1, .br true, .go 1, .br true, .go 1, .br true, .val (Value.int IntKind.u16 x3), .br true, .go 1, .br true, .go 1, .br true, .go 1, .br true, .val (Value.bool (awrap IntKind.u32 x3 != x0)), .val (Value.bool (awrap IntKind.u32 x3 != x0)), .br false, .go 1, .val (Value.bool b4), .go 1, .br true, .go 1, .br true, .val (Value.bool b5), .val (Value.bool b5), .go 1, .br false, .br false, .br false, .br false, .br false, .br false, .br false, .br false, .br false, .val (Value.bool true), .go 6, .val (Value.string s6), .go 3, .val (Value.string s7), .go 5, .val (Value.bool b4), .go 6, .br true, .go 1, .br true, .val (Value.string s7), .br true, .go 1, .br true, .val (Value.string s8), .br true, .go 1, .br true, .go 1, .br true, .go 1, .br true, .go 1, .br true, .go 1, .val (Value.bool (eqBytes s7 s8 == (x0 == x1))), .go 1, .br true, .val (Value.bool b9), .val (Value.bool b9)]) (r := []) (by kernel_rfl) (And.intro (pickE_t c50 (Value.bool b9) (Value.bool false)) (And.intro c51 (And.intro c50 (And.intro (pickE_t c38 (Value.bool (eqBytes s7 s8 == (x0 == x1))) (Value.bool false)) (And.intro c38 (And.intro c38 (And.intro c38 (And.intro c38 (And.intro c38 (And.intro c43 (And.intro c38 (And.intro c38 (And.intro c36 (And.intro c38 (And.intro c38 (And.intro c1 (And.intro c36 (And.intro c35 (And.intro (pickE_t c25 (Value.bool true) (undef)) (And.intro c25 (And.intro c25 (And.intro c25 (And.intro c25 (And.intro c25 (And.intro c25 (And.intro c25 (And.intro c25 (And.intro c25 (And.intro (pickE_f c2 (Value.bool true) (Value.bool b5)) (And.intro c23 (And.intro c2 (And.intro c2 (And.intro c1 (And.intro c19 (And.intro (pickE_f c5 (Value.bool true) (Value.bool (awrap IntKind.u32 x3 != x0))) (And.intro (pickE_t c10 (Value.bool (awrap IntKind.u32 x3 != x0)) (Value.bool false)) (And.intro c5 (And.intro c10 (And.intro c10 (And.intro c10 (And.intro c0 (And.intro c10 (And.intro c10 (And.intro c5 (And.intro c5 (And.intro c1 (And.intro c5 (And.intro c5 (And.intro (pickE_f c2 (Value.bool true) (Value.bool (x0 == 23456))) (And.intro c2 (And.intro c2 (And.intro c1 (And.intro c0 (trivial))))))))))))))))))))))))))))))))))))))))))))))))))))))
-- passed over: lshort_6  C10 C11 + + + + + + + + + + + + F + + C11 - - - - - - - - - C12 C13 + + + + C13 + + + + + -
-- passed over: lshort_7  C10 C11 + + + + + + + + + + + + F + + C11 - - - - - - - - - C12 C13 - - - - - - - - -
/-  C10 C11 + + + + + + - - - - - + + + C11 + + + + C10 + + + + + + + C12 + + C13 + + + + + + + + + C13 + + + + + + C9 -/
theorem lshort_8 (om : Nat → Nat) (n : Nat) (x0 x1 : Int) (h2 : AHeap) (x3 : Int) (b4 b5 : Bool) (x6 : Int) (s7 s8 s9 : ByteArray) (b10 : Bool)
    (c0 : acall E2 om 10000 n (ACallee.fn 10) [Value.int IntKind.u32 x0] h2 = some (Value.int IntKind.u16 x3, h2))
    (c1 : acall E2 om 10000 n (ACallee.fn 11) [Value.int IntKind.u32 x0] h2 = some (Value.bool b4, h2))
    (c2 : b4 = false)
    (c5 : (!(x3 == 23456) == (x0 == 23456)) = false)
    (c10 : (!b4) = false)
    (c21 : acall E2 om 10000 n (ACallee.fn 11) [Value.int IntKind.u32 x1] h2 = some (Value.bool b5, h2))
    (c23 : b5 = false)
    (c28 : acall E2 om 10000 n (ACallee.fn 10) [Value.int IntKind.u32 x1] h2 = some (Value.int IntKind.u16 x6, h2))
    (c35 : ((x3 == x6) == (x0 == x1)) = true)
    (c37 : acall E2 om 10000 n (ACallee.fn 12) [Value.int IntKind.u32 x0] h2 = some (Value.string s7, h2))
    (c40 : acall E2 om 10000 n (ACallee.fn 13) [Value.int IntKind.u32 x0] h2 = some (Value.string s8, h2))
    (c48 : (eqBytes s7 s8 == !b4) = true)
    (c53 : acall E2 om 10000 n (ACallee.fn 13) [Value.int IntKind.u32 x1] h2 = some (Value.string s9, h2))
    (c60 : (eqBytes s8 s9 == (x0 == x1)) = true)
    (c61 : acall E2 om 10000 n (ACallee.fn 9) [] h2 = some (Value.bool b10, h2))
    : acall E2 om 10000 (n + 1) (ACallee.fn 4) [Value.int IntKind.u32 x0, Value.int IntKind.u32 x1] h2 = some (Value.bool b10, h2) := by
  exact guided (gs := [.go 7, .val (Value.int IntKind.u16 x3), .go 2, .val (Value.bool b4), .go 1, .br true, .go 1, .br true, .go 1, .val (Value.bool (x0 == 23456)), .go 2, .br true, .go 1, .br true, .val (Value.bool b4), .br true, .go 1, .br true, .go 1, .br false, .br false, .br false, .br false, .br false, .br true, .val (Value.bool false), .val (Value.bool false), .go 2, .val (Value.bool b4), .go 1, .br true, .go 1, .br true, .val (Value.bool b5), .val (Value.bool b5), .go 1, .br true, .go 1, .br true, .val (Value.int IntKind.u16 x3), .br true, .go 1, .br true, .val (Value.int IntKind.u16 x6), .br true, .go 1, .br true, .go 1, .br true, .go 1, .br true, .go 1, .br true, .go 1, .val (Value.bool ((x3 == x6) == (x0 == x1))), .go 3, .br true, .go 1, .br true, .val (Value.string s7), .br true, .go 1, .br true, .val (Value.string s8), .br true, .go 1, .br true, .go 1, .br true, .val (Value.bool b4), .br true, .go 1, .br true, .go 1, .val (Value.bool (eqBytes s7 s8 == !b4)), .go 1, .br true, .go 1, .br true, .val (Value.string s8), .br true, .go 1, .br true, .val (Value.string s9), .br true, .go 1, .br true, .go 1, .br true, .go 1, .br true, .go 1, .br true, .go 1, .val (Value.bool (eqBytes s8 s9 == (x0 == x1))), .go 1, .br true, .val (Value.bool b10), .val (Value.bool b10)]) (r := []) (by kernel_rfl) (And.intro (pickE_t c60 (Value.bool b10) (Value.bool false)) (And.intro c61 (And.intro c60 (And.intro (pickE_t c48 (Value.bool (eqBytes s8 s9 == (x0 == x1))) (Value.bool false)) (And.intro c48 (And.intro c48 (And.intro c48 (And.intro c48 (And.intro c48 (And.intro c53 (And.intro c48 (And.intro c48 (And.intro c40 (And.intro c48 (And.intro c48 (And.intro (pickE_t c35 (Value.bool (eqBytes s7 s8 == !b4)) (Value.bool false)) (And.intro c35 (And.intro c35 (And.intro c1 (And.intro c35 (And.intro c35 (And.intro c35 (And.intro c40 (And.intro c35 (And.intro c35 (And.intro c37 (And.intro c35 (And.intro c35 (And.intro (pickE_f c23 (Value.bool true) (Value.bool ((x3 == x6) == (x0 == x1)))) (And.intro c23 (And.intro c23 (And.intro c23 (And.intro c23 (And.intro c23 (And.intro c28 (And.intro c23 (And.intro c23 (And.intro c0 (And.intro c23 (And.intro c23 (And.intro (pickE_f c2 (Value.bool true) (Value.bool b5)) (And.intro c21 (And.intro c2 (And.intro c2 (And.intro c1 (And.intro (pickE_f c5 (Value.bool true) (Value.bool false)) (And.intro (pickE_f c10 (undef) (Value.bool false)) (And.intro c5 (And.intro c10 (And.intro c10 (And.intro c10 (And.intro c10 (And.intro c10 (And.intro c5 (And.intro c5 (And.intro c1 (And.intro c5 (And.intro c5 (And.intro (pickE_f c2 (Value.bool true) (Value.bool (x0 == 23456))) (And.intro c2 (And.intro c2 (And.intro c1 (And.intro c0 (trivial))))))))))))))))))))))))))))))))))))))))))))))))))))))))))))))))
-- passed over: lshort_9  C10 C11 + + + + + + - - - - - + + + C11 + + + + C10 + + + + + + + C12 + + C13 + + + + + + + + + C13 + + + + + -
-- passed over: lshort_10  C10 C11 + + + + + + - - - - - + + + C11 + + + + C10 + + + + + + + C12 + + C13 + + + + + - - - - - - - - -
-- passed over: lshort_11  C10 C11 + + + + + + - - - - - + + + C11 + + + + C10 + + + + + - - - - - - - - -
/-  C10 C11 + + + + + + - - - - - + + + C11 - - - - - - - - - C12 C13 + + + + C13 + + + + + + C9 -/
theorem lshort_12 (om : Nat → Nat) (n : Nat) (x0 x1 : Int) (h2 : AHeap) (x3 : Int) (b4 b5 : Bool) (s6 s7 s8 : ByteArray) (b9 : Bool)
    (c0 : acall E2 om 10000 n (ACallee.fn 10) [Value.int IntKind.u32 x0] h2 = some (Value.int IntKind.u16 x3, h2))
    (c1 : acall E2 om 10000 n (ACallee.fn 11) [Value.int IntKind.u32 x0] h2 = some (Value.bool b4, h2))
    (c2 : b4 = false)
    (c5 : (!(x3 == 23456) == (x0 == 23456)) = false)
    (c10 : (!b4) = false)
    (c21 : acall E2 om 10000 n (ACallee.fn 11) [Value.int IntKind.u32 x1] h2 = some (Value.bool b5, h2))
    (c23 : b5 = true)
    (c33 : acall E2 om 10000 n (ACallee.fn 12) [Value.int IntKind.u32 x0] h2 = some (Value.string s6, h2))
    (c34 : acall E2 om 10000 n (ACallee.fn 13) [Value.int IntKind.u32 x0] h2 = some (Value.string s7, h2))
    (c36 : (eqBytes s6 s7 == !b4) = true)
    (c41 : acall E2 om 10000 n (ACallee.fn 13) [Value.int IntKind.u32 x1] h2 = some (Value.string s8, h2))
    (c48 : (eqBytes s7 s8 == (x0 == x1)) = true)
    (c49 : acall E2 om 10000 n (ACallee.fn 9) [] h2 = some (Value.bool b9, h2))
    : acall E2 om 10000 (n + 1) (ACallee.fn 4) [Value.int IntKind.u32 x0, Value.int IntKind.u32 x1] h2 = some (Value.bool b9, h2) := by
  exact guided (gs := [.go 7, .val (Value.int IntKind.u16 x3), .go 2, .val (Value.bool b4), .go 1, .br true, .go 1, .br true, .go 1, .val (Value.bool (x0 == 23456)), .go 2, .br true, .go 1, .br true, .val (Value.bool b4), .br true, .go 1, .br true, .go 1, .br false, .br false, .br false, .br false, .br false, .br true, .val (Value.bool false), .val (Value.bool false), .go 2, .val (Value.bool b4), .go 1, .br true, .go 1, .br true, .val (Value.bool b5), .val (Value.bool b5), .go 1, .br false, .br false, .br false, .br false, .br false, .br false, .br false, .br false, .br false, .val (Value.bool true), .go 6, .val (Value.string s6), .go 3, .val (Value.string s7), .go 5, .val (Value.bool b4), .go 6, .br true, .go 1, .br true, .val (Value.string s7), .br true, .go 1, .br true, .val (Value.string s8), .br true, .go 1, .br true, .go 1, .br true, .go 1, .br true, .go 1, .br true, .go 1, .val (Value.bool (eqBytes s7 s8 == (x0 == x1))), .go 1, .br true, .val (Value.bool b9), .val (Value.bool b9)]) (r := []) (by kernel_rfl) (And.intro (pickE_t c48 (Value.bool b9) (Value.bool false)) (And.intro c49 (And.intro c48 (And.intro (pickE_t c36 (Value.bool (eqBytes s7 s8 == (x0 == x1))) (Value.bool false)) (And.intro c36 (And.intro c36 (And.intro c36 (And.intro c36 (And.intro c36 (And.intro c41 (And.intro c36 (And.intro c36 (And.intro c34 (And.intro c36 (And.intro c36 (And.intro c1 (And.intro c34 (And.intro c33 (And.intro (pickE_t c23 (Value.bool true) (undef)) (And.intro c23 (And.intro c23 (And.intro c23 (And.intro c23 (And.intro c23 (And.intro c23 (And.intro c23 (And.intro c23 (And.intro c23 (And.intro (pickE_f c2 (Value.bool true) (Value.bool b5)) (And.intro c21 (And.intro c2 (And.intro c2 (And.intro c1 (And.intro (pickE_f c5 (Value.bool true) (Value.bool false)) (And.intro (pickE_f c10 (undef) (Value.bool false)) (And.intro c5 (And.intro c10 (And.intro c10 (And.intro c10 (And.intro c10 (And.intro c10 (And.intro c5 (And.intro c5 (And.intro c1 (And.intro c5 (And.intro c5 (And.intro (pickE_f c2 (Value.bool true) (Value.bool (x0 == 23456))) (And.intro c2 (And.intro c2 (And.intro c1 (And.intro c0 (trivial))))))))))))))))))))))))))))))))))))))))))))))))))))
-- passed over: lshort_13  C10 C11 + + + + + + - - - - - + + + C11 - - - - - - - - - C12 C13 + + + + C13 + + + + + -
-- passed over: lshort_14  C10 C11 + + + + + + - - - - - + + + C11 - - - - - - - - - C12 C13 - - - - - - - - -
-- passed over: lshort_15  C10 C11 + + - - - - -
-- passed over: lshort_16  C10 C11 - - + + + + + + + + + + T
/-  C10 C11 - - + + + + + + + + + + F - - C12 C13 + + + + C13 + + + + + + C9 -/
theorem lshort_17 (om : Nat → Nat) (n : Nat) (x0 x1 : Int) (h2 : AHeap) (x3 : Int) (b4 : Bool) (s5 s6 s7 : ByteArray) (b8 : Bool)
    (c0 : acall E2 om 10000 n (ACallee.fn 10) [Value.int IntKind.u32 x0] h2 = some (Value.int IntKind.u16 x3, h2))
    (c1 : acall E2 om 10000 n (ACallee.fn 11) [Value.int IntKind.u32 x0] h2 = some (Value.bool b4, h2))
    (c2 : b4 = true)
    (c5 : (!(x3 == 23456) == true) = false)
    (c10 : (!b4) = true)
    (c19 : (awrap IntKind.u32 x3 != x0) = false)
    (c24 : acall E2 om 10000 n (ACallee.fn 12) [Value.int IntKind.u32 x0] h2 = some (Value.string s5, h2))
    (c25 : acall E2 om 10000 n (ACallee.fn 13) [Value.int IntKind.u32 x0] h2 = some (Value.string s6, h2))
    (c27 : (eqBytes s5 s6 == !b4) = true)
    (c32 : acall E2 om 10000 n (ACallee.fn 13) [Value.int IntKind.u32 x1] h2 = some (Value.string s7, h2))
    (c39 : (eqBytes s6 s7 == (x0 == x1)) = true)
    (c40 : acall E2 om 10000 n (ACallee.fn 9) [] h2 = some (Value.bool b8, h2))
    : acall E2 om 10000 (n + 1) (ACallee.fn 4) [Value.int IntKind.u32 x0, Value.int IntKind.u32 x1] h2 = some (Value.bool b8, h2) := by
  exact guided (gs := [.go 7, .val (Value.int IntKind.u16 x3), .go 2, .val (Value.bool b4), .go 1, .br false, .br false, .val (Value.bool true), .go 2, .br true, .go 1, .br true, .val (Value.bool b4), .br true, .go 1, .br true, .go 1, .br true, .go 1, .br true, .val (Value.int IntKind.u16 x3), .br true, .go 1, .br true, .go 1, .br true, .go 1, .br true, .val (Value.bool (awrap IntKind.u32 x3 != x0)), .val (Value.bool (awrap IntKind.u32 x3 != x0)), .br false, .go 1, .val (Value.bool b4), .go 1, .br false, .br false, .val (Value.bool true), .go 17, .val (Value.string s5), .go 3, .val (Value.string s6), .go 5, .val (Value.bool b4), .go 6, .br true, .go 1, .br true, .val (Value.string s6), .br true, .go 1, .br true, .val (Value.string s7), .br true, .go 1, .br true, .go 1, .br true, .go 1, .br true, .go 1, .br true, .go 1, .val (Value.bool (eqBytes s6 s7 == (x0 == x1))), .go 1, .br true, .val (Value.bool b8), .val (Value.bool b8)]) (r := []) (by kernel_rfl) (And.intro (pickE_t c39 (Value.bool b8) (Value.bool false)) (And.intro c40 (And.intro c39 (And.intro (pickE_t c27 (Value.bool (eqBytes s6 s7 == (x0 == x1))) (Value.bool false)) (And.intro c27 (And.intro c27 (And.intro c27 (And.intro c27 (And.intro c27 (And.intro c32 (And.intro c27 (And.intro c27 (And.intro c25 (And.intro c27 (And.intro c27 (And.intro c1 (And.intro c25 (And.intro c24 (And.intro (pickE_t c2 (Value.bool true) (undef)) (And.intro c2 (And.intro c2 (And.intro c1 (And.intro c19 (And.intro (pickE_f c5 (Value.bool true) (Value.bool (awrap IntKind.u32 x3 != x0))) (And.intro (pickE_t c10 (Value.bool (awrap IntKind.u32 x3 != x0)) (Value.bool false)) (And.intro c5 (And.intro c10 (And.intro c10 (And.intro c10 (And.intro c0 (And.intro c10 (And.intro c10 (And.intro c5 (And.intro c5 (And.intro c1 (And.intro c5 (And.intro c5 (And.intro (pickE_t c2 (Value.bool true) (undef)) (And.intro c2 (And.intro c2 (And.intro c1 (And.intro c0 (trivial)))))))))))))))))))))))))))))))))))))))))))
-- passed over: lshort_18  C10 C11 - - + + + + + + + + + + F - - C12 C13 + + + + C13 + + + + + -
-- passed over: lshort_19  C10 C11 - - + + + + + + + + + + F - - C12 C13 - - - - - - - - -
/-  C10 C11 - - + + + + - - - - - + - - C12 C13 + + + + C13 + + + + + + C9 -/
theorem lshort_20 (om : Nat → Nat) (n : Nat) (x0 x1 : Int) (h2 : AHeap) (x3 : Int) (b4 : Bool) (s5 s6 s7 : ByteArray) (b8 : Bool)
    (c0 : acall E2 om 10000 n (ACallee.fn 10) [Value.int IntKind.u32 x0] h2 = some (Value.int IntKind.u16 x3, h2))
    (c1 : acall E2 om 10000 n (ACallee.fn 11) [Value.int IntKind.u32 x0] h2 = some (Value.bool b4, h2))
    (c2 : b4 = true)
    (c5 : (!(x3 == 23456) == true) = false)
    (c10 : (!b4) = false)
    (c22 : acall E2 om 10000 n (ACallee.fn 12) [Value.int IntKind.u32 x0] h2 = some (Value.string s5, h2))
    (c23 : acall E2 om 10000 n (ACallee.fn 13) [Value.int IntKind.u32 x0] h2 = some (Value.string s6, h2))
    (c25 : (eqBytes s5 s6 == !b4) = true)
    (c30 : acall E2 om 10000 n (ACallee.fn 13) [Value.int IntKind.u32 x1] h2 = some (Value.string s7, h2))
    (c37 : (eqBytes s6 s7 == (x0 == x1)) = true)
    (c38 : acall E2 om 10000 n (ACallee.fn 9) [] h2 = some (Value.bool b8, h2))
    : acall E2 om 10000 (n + 1) (ACallee.fn 4) [Value.int IntKind.u32 x0, Value.int IntKind.u32 x1] h2 = some (Value.bool b8, h2) := by
  exact guided (gs := [.go 7, .val (Value.int IntKind.u16 x3), .go 2, .val (Value.bool b4), .go 1, .br false, .br false, .val (Value.bool true), .go 2, .br true, .go 1, .br true, .val (Value.bool b4), .br true, .go 1, .br true, .go 1, .br false, .br false, .br false, .br false, .br false, .br true, .val (Value.bool false), .val (Value.bool false), .go 2, .val (Value.bool b4), .go 1, .br false, .br false, .val (Value.bool true), .go 17, .val (Value.string s5), .go 3, .val (Value.string s6), .go 5, .val (Value.bool b4), .go 6, .br true, .go 1, .br true, .val (Value.string s6), .br true, .go 1, .br true, .val (Value.string s7), .br true, .go 1, .br true, .go 1, .br true, .go 1, .br true, .go 1, .br true, .go 1, .val (Value.bool (eqBytes s6 s7 == (x0 == x1))), .go 1, .br true, .val (Value.bool b8), .val (Value.bool b8)]) (r := []) (by kernel_rfl) (And.intro (pickE_t c37 (Value.bool b8) (Value.bool false)) (And.intro c38 (And.intro c37 (And.intro (pickE_t c25 (Value.bool (eqBytes s6 s7 == (x0 == x1))) (Value.bool false)) (And.intro c25 (And.intro c25 (And.intro c25 (And.intro c25 (And.intro c25 (And.intro c30 (And.intro c25 (And.intro c25 (And.intro c23 (And.intro c25 (And.intro c25 (And.intro c1 (And.intro c23 (And.intro c22 (And.intro (pickE_t c2 (Value.bool true) (undef)) (And.intro c2 (And.intro c2 (And.intro c1 (And.intro (pickE_f c5 (Value.bool true) (Value.bool false)) (And.intro (pickE_f c10 (undef) (Value.bool false)) (And.intro c5 (And.intro c10 (And.intro c10 (And.intro c10 (And.intro c10 (And.intro c10 (And.intro c5 (And.intro c5 (And.intro c1 (And.intro c5 (And.intro c5 (And.intro (pickE_t c2 (Value.bool true) (undef)) (And.intro c2 (And.intro c2 (And.intro c1 (And.intro c0 (trivial)))))))))))))))))))))))))))))))))))))))))
-- passed over: lshort_21  C10 C11 - - + + + + - - - - - + - - C12 C13 + + + + C13 + + + + + -
-- passed over: lshort_22  C10 C11 - - + + + + - - - - - + - - C12 C13 - - - - - - - - -
-- passed over: lshort_23  C10 C11 - - - - - - -
