/- Part of a proof about a Go program: the abstract machine walks its code; no condition. -/
import Derived.Test.YtjmkmijomlnmaaaDoorNumEnv2
open Go Go.Am Go.Am.W Go.Proofs
set_option maxRecDepth 100000
/-  C11 + + C10 + + C15 + + + C16 + + C17 + + + C13 + + C18 + + + C12 + + C19 + + C9 -/
theorem ltells_0 (om : Nat → Nat) (n : Nat) (x0 : Int) (h1 : AHeap) (b2 : Bool) (x3 x4 x5 x6 : Int) (s7 s8 s9 s10 : ByteArray) (b11 : Bool)
    (c0 : acall E2 om 10000 n (ACallee.fn 11) [Value.int IntKind.u32 x0] h1 = some (Value.bool b2, h1))
    (c1 : (b2 == decide (x0 > 65535)) = true)
    (c3 : acall E2 om 10000 n (ACallee.fn 10) [Value.int IntKind.u32 x0] h1 = some (Value.int IntKind.u16 x3, h1))
    (c6 : acall E2 om 10000 n (ACallee.fn 15) [Value.int IntKind.u32 x0] h1 = some (Value.int IntKind.u16 x4, h1))
    (c9 : (x3 == x4) = true)
    (c11 : acall E2 om 10000 n (ACallee.fn 16) [Value.int IntKind.u32 x0] h1 = some (Value.int IntKind.i64 x5, h1))
    (c14 : acall E2 om 10000 n (ACallee.fn 17) [Value.int IntKind.u32 x0] h1 = some (Value.int IntKind.i64 x6, h1))
    (c17 : (x5 == x6) = true)
    (c19 : acall E2 om 10000 n (ACallee.fn 13) [Value.int IntKind.u32 x0] h1 = some (Value.string s7, h1))
    (c22 : acall E2 om 10000 n (ACallee.fn 18) [Value.int IntKind.u32 x0] h1 = some (Value.string s8, h1))
    (c25 : eqBytes s7 s8 = true)
    (c27 : acall E2 om 10000 n (ACallee.fn 12) [Value.int IntKind.u32 x0] h1 = some (Value.string s9, h1))
    (c30 : acall E2 om 10000 n (ACallee.fn 19) [Value.int IntKind.u32 x0] h1 = some (Value.string s10, h1))
    (c33 : eqBytes s9 s10 = true)
    (c34 : acall E2 om 10000 n (ACallee.fn 9) [] h1 = some (Value.bool b11, h1))
    : acall E2 om 10000 (n + 1) (ACallee.fn 6) [Value.int IntKind.u32 x0] h1 = some (Value.bool b11, h1) := by
  exact guided (gs := [.go 5, .val (Value.bool b2), .go 4, .br true, .go 1, .br true, .val (Value.int IntKind.u16 x3), .br true, .go 1, .br true, .val (Value.int IntKind.u16 x4), .br true, .go 1, .val (Value.bool (x3 == x4)), .go 1, .br true, .go 1, .br true, .val (Value.int IntKind.i64 x5), .br true, .go 1, .br true, .val (Value.int IntKind.i64 x6), .br true, .go 1, .val (Value.bool (x5 == x6)), .go 1, .br true, .go 1, .br true, .val (Value.string s7), .br true, .go 1, .br true, .val (Value.string s8), .br true, .go 1, .val (Value.bool (eqBytes s7 s8)), .go 1, .br true, .go 1, .br true, .val (Value.string s9), .br true, .go 1, .br true, .val (Value.string s10), .br true, .go 1, .val (Value.bool (eqBytes s9 s10)), .go 1, .br true, .val (Value.bool b11), .val (Value.bool b11)]) (r := []) (by kernel_rfl) (And.intro (pickE_t c33 (Value.bool b11) (Value.bool false)) (And.intro c34 (And.intro c33 (And.intro (pickE_t c25 (Value.bool (eqBytes s9 s10)) (Value.bool false)) (And.intro c25 (And.intro c30 (And.intro c25 (And.intro c25 (And.intro c27 (And.intro c25 (And.intro c25 (And.intro (pickE_t c17 (Value.bool (eqBytes s7 s8)) (Value.bool false)) (And.intro c17 (And.intro c22 (And.intro c17 (And.intro c17 (And.intro c19 (And.intro c17 (And.intro c17 (And.intro (pickE_t c9 (Value.bool (x5 == x6)) (Value.bool false)) (And.intro c9 (And.intro c14 (And.intro c9 (And.intro c9 (And.intro c11 (And.intro c9 (And.intro c9 (And.intro (pickE_t c1 (Value.bool (x3 == x4)) (Value.bool false)) (And.intro c1 (And.intro c6 (And.intro c1 (And.intro c1 (And.intro c3 (And.intro c1 (And.intro c1 (And.intro c0 (trivial)))))))))))))))))))))))))))))))))))))
-- passed over: ltells_1  C11 + + C10 + + C15 + + + C16 + + C17 + + + C13 + + C18 + + + C12 + + C19 + -
-- passed over: ltells_2  C11 + + C10 + + C15 + + + C16 + + C17 + + + C13 + + C18 + - - - - -
-- passed over: ltells_3  C11 + + C10 + + C15 + + + C16 + + C17 + - - - - -
-- passed over: ltells_4  C11 + + C10 + + C15 + - - - - -
-- passed over: ltells_5  C11 - - - - -
/-  C7 C8 + + + + C9 -/
theorem lreads_0 (om : Nat → Nat) (n : Nat) (s0 : ByteArray) (h1 : AHeap) (s2 : ByteArray) (x3 x4 x5 x6 : Int) (b7 : Bool)
    (c0 : pureE (aslice (AEnv.P E2) (AHeap.get h1) 9 (Value.string s0) none (some (Value.int IntKind.i64 (if 40 < (↑(ByteArray.size s0) : Int) then 40 else (↑(ByteArray.size s0) : Int)))) none) = some (Value.string s2, Eff.id))
    (c1 : acall E2 om 10000 n (ACallee.fn 7) [Value.string s2] h1 = some (Value.tuple (Array.mk [Value.int IntKind.u32 x3, Value.int IntKind.i64 x4]), h1))
    (c2 : acall E2 om 10000 n (ACallee.fn 8) [Value.string s2] h1 = some (Value.tuple (Array.mk [Value.int IntKind.u32 x5, Value.int IntKind.i64 x6]), h1))
    (c3 : (x3 == x5) = true)
    (c7 : (x4 == x6) = true)
    (c8 : acall E2 om 10000 n (ACallee.fn 9) [] h1 = some (Value.bool b7, h1))
    : acall E2 om 10000 (n + 1) (ACallee.fn 3) [Value.string s0] h1 = some (Value.bool b7, h1) := by
  exact guided (gs := [.go 6, .val (Value.string s2), .go 2, .val (Value.tuple (Array.mk [Value.int IntKind.u32 x3, Value.int IntKind.i64 x4])), .go 6, .val (Value.tuple (Array.mk [Value.int IntKind.u32 x5, Value.int IntKind.i64 x6])), .go 9, .br true, .go 1, .br true, .go 1, .br true, .go 1, .val (Value.bool (x4 == x6)), .go 1, .br true, .val (Value.bool b7), .val (Value.bool b7)]) (r := []) (by kernel_rfl) (And.intro (pickE_t c7 (Value.bool b7) (Value.bool false)) (And.intro c8 (And.intro c7 (And.intro (pickE_t c3 (Value.bool (x4 == x6)) (Value.bool false)) (And.intro c3 (And.intro c3 (And.intro c3 (And.intro c2 (And.intro c1 (And.intro c0 (trivial)))))))))))
-- passed over: lreads_1  C7 C8 + + + -
-- passed over: lreads_2  C7 C8 - - -
