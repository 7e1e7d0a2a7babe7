/- Part of a proof about a Go program: the abstract machine walks its code; no condition. -/
import Derived.Test.YtjmkmijomlnmaaaDoorNumWords
import Derived.Test.YtjmkmijomlnmaaaDoorNumEnv
open Go Go.Am Go.Am.W Go.Proofs
set_option maxRecDepth 100000
/-  -/
theorem contains_0 (om : Nat → Nat) (n : Nat) (b0 o1 : Nat) (x2 : Int) (h3 : AHeap) (p4 : Value) (b5 : Bool)
    (c0 : pureE (aindexAt (AEnv.P E1) 64 (Value.pointer (some (Addr.mk b0 o1 none))) (Value.int IntKind.u8 x2)) = some (p4, Eff.id))
    (c1 : pureE (aload (AEnv.P E1) (AHeap.get h3) 4 p4) = some (Value.bool b5, Eff.id))
    : acall E1 om 10000 (n + 1) (ACallee.fn 47) [Value.pointer (some (Addr.mk b0 o1 none)), Value.int IntKind.u8 x2] h3 = some (Value.bool b5, h3) := by
  exact guided (gs := [.go 5, .val (p4), .val (Value.bool b5)]) (r := []) (by kernel_rfl) (And.intro c1 (And.intro c0 (trivial)))
-- loop tleft_L0: path [1, 0, 0, 0] of 33; lives [0, 1]
def tleft_L0_S (s0 : ByteArray) (w1 : Value) (tm : Tm) : Prop := ∃ j2 : List Value, tm = tof [Value.string s0, w1, jv j2 0, jv j2 1, jv j2 2, jv j2 3, jv j2 4, jv j2 5, jv j2 6, jv j2 7, jv j2 8, jv j2 9, jv j2 10, jv j2 11, jv j2 12, jv j2 13] 0 Tm.e
noncomputable def tleft_L0_B (om : Nat → Nat) (n : Nat) : ASt → Option (AExit × ASt) := aexec E1 om (acall E1 om 10000 n) 10000 33 (codeAt [1, 0, 0, 0] (fbody (AEnv.P E1) 33)) none
def tleft_L0_X0 (s0 : ByteArray) (tm : Tm) : Prop := ∃ j1 : List Value, tm = tof [Value.string s0, jv j1 0, jv j1 1, jv j1 2, jv j1 3, jv j1 4, jv j1 5, jv j1 6, jv j1 7, jv j1 8, jv j1 9, jv j1 10, jv j1 11, jv j1 12, jv j1 13, jv j1 14] 0 Tm.e
/-  T C47 T -/
theorem tleft_L0_0 (om : Nat → Nat) (n : Nat) (tm : Tm) (s0 : ByteArray) (w1 : Value) (h3 : AHeap) (x4 : Int) (b5 : Bool)
    (hS : tleft_L0_S s0 w1 tm)
    (c0 : decide ((↑(ByteArray.size s0) : Int) > 0) = true)
    (c1 : pureE (aindex (AEnv.P E1) 9 (Value.string s0) (Value.int IntKind.i64 0)) = some (Value.int IntKind.u8 x4, Eff.id))
    (c2 : acall E1 om 10000 n (ACallee.fn 47) [w1, Value.int IntKind.u8 x4] h3 = some (Value.bool b5, h3))
    (c3 : (!b5) = true)
    : ∃ tm', tleft_L0_B om n (tm, h3) = some (AExit.exit 0, tm', h3) ∧ tleft_L0_X0 (s0) tm' := by
  obtain ⟨j2, rfl⟩ := hS
  exact ⟨tof [Value.string s0, w1, jv j2 0, jv j2 1, jv j2 2, Value.string s0, Value.int IntKind.i64 (↑(ByteArray.size s0) : Int), Value.bool (decide ((↑(ByteArray.size s0) : Int) > 0)), w1, Value.string s0, Value.int IntKind.u8 x4, Value.bool b5, Value.bool !b5, jv j2 11, jv j2 12, jv j2 13] 0 Tm.e, guidedC (gs := [.go 3, .br true, .go 2, .val (Value.int IntKind.u8 x4), .val (Value.bool b5), .go 1, .br true]) (r := []) (by kernel_rfl) (And.intro c3 (And.intro c2 (And.intro c1 (And.intro c0 (trivial))))), [w1, jv j2 0, jv j2 1, jv j2 2, Value.string s0, Value.int IntKind.i64 (↑(ByteArray.size s0) : Int), Value.bool (decide ((↑(ByteArray.size s0) : Int) > 0)), w1, Value.string s0, Value.int IntKind.u8 x4, Value.bool b5, Value.bool !b5, jv j2 11, jv j2 12, jv j2 13], by kernel_rfl⟩
/-  T C47 F -/
theorem tleft_L0_1 (om : Nat → Nat) (n : Nat) (tm : Tm) (s0 : ByteArray) (w1 : Value) (h3 : AHeap) (x4 : Int) (b5 : Bool) (s6 : ByteArray)
    (hS : tleft_L0_S s0 w1 tm)
    (c0 : decide ((↑(ByteArray.size s0) : Int) > 0) = true)
    (c1 : pureE (aindex (AEnv.P E1) 9 (Value.string s0) (Value.int IntKind.i64 0)) = some (Value.int IntKind.u8 x4, Eff.id))
    (c2 : acall E1 om 10000 n (ACallee.fn 47) [w1, Value.int IntKind.u8 x4] h3 = some (Value.bool b5, h3))
    (c3 : (!b5) = false)
    (c4 : pureE (aslice (AEnv.P E1) (AHeap.get h3) 9 (Value.string s0) (some (Value.int IntKind.i64 1)) none none) = some (Value.string s6, Eff.id))
    : ∃ tm', tleft_L0_B om n (tm, h3) = some (AExit.normal, tm', h3) ∧ tleft_L0_S (s6) (w1) tm' := by
  obtain ⟨j2, rfl⟩ := hS
  exact ⟨tof [Value.string s6, w1, jv j2 0, jv j2 1, jv j2 2, Value.string s0, Value.int IntKind.i64 (↑(ByteArray.size s0) : Int), Value.bool (decide ((↑(ByteArray.size s0) : Int) > 0)), w1, Value.string s0, Value.int IntKind.u8 x4, Value.bool b5, Value.bool !b5, Value.string s0, Value.string s6, jv j2 13] 0 Tm.e, guidedC (gs := [.go 3, .br true, .go 2, .val (Value.int IntKind.u8 x4), .val (Value.bool b5), .go 1, .br false, .go 1, .val (Value.string s6)]) (r := []) (by kernel_rfl) (And.intro c4 (And.intro c3 (And.intro c2 (And.intro c1 (And.intro c0 (trivial)))))), [jv j2 0, jv j2 1, jv j2 2, Value.string s0, Value.int IntKind.i64 (↑(ByteArray.size s0) : Int), Value.bool (decide ((↑(ByteArray.size s0) : Int) > 0)), w1, Value.string s0, Value.int IntKind.u8 x4, Value.bool b5, Value.bool !b5, Value.string s0, Value.string s6, jv j2 13], by kernel_rfl⟩
/-  F -/
theorem tleft_L0_2 (om : Nat → Nat) (n : Nat) (tm : Tm) (s0 : ByteArray) (w1 : Value) (h3 : AHeap)
    (hS : tleft_L0_S s0 w1 tm)
    (c0 : decide ((↑(ByteArray.size s0) : Int) > 0) = false)
    : ∃ tm', tleft_L0_B om n (tm, h3) = some (AExit.exit 0, tm', h3) ∧ tleft_L0_X0 (s0) tm' := by
  obtain ⟨j2, rfl⟩ := hS
  exact ⟨tof [Value.string s0, w1, jv j2 0, jv j2 1, jv j2 2, Value.string s0, Value.int IntKind.i64 (↑(ByteArray.size s0) : Int), Value.bool (decide ((↑(ByteArray.size s0) : Int) > 0)), jv j2 6, jv j2 7, jv j2 8, jv j2 9, jv j2 10, jv j2 11, jv j2 12, jv j2 13] 0 Tm.e, guidedC (gs := [.go 3, .br false]) (r := []) (by kernel_rfl) (And.intro c0 (trivial)), [w1, jv j2 0, jv j2 1, jv j2 2, Value.string s0, Value.int IntKind.i64 (↑(ByteArray.size s0) : Int), Value.bool (decide ((↑(ByteArray.size s0) : Int) > 0)), jv j2 6, jv j2 7, jv j2 8, jv j2 9, jv j2 10, jv j2 11, jv j2 12, jv j2 13], by kernel_rfl⟩
/-  L -/
theorem tleft_0 (om : Nat → Nat) (n : Nat) (s0 : ByteArray) (b1 o2 : Nat) (h3 : AHeap)
    : ∃ tm0, tleft_L0_S (s0) (Value.pointer (some (Addr.mk b1 o2 none))) tm0 ∧ ∀ (s4 : ByteArray) (tn0 : Tm), aloop (tleft_L0_B om n) 10000 (tm0, h3) = some (AExit.exit 0, tn0, h3) → tleft_L0_X0 (s4) tn0 → acall E1 om 10000 (n + 1) (ACallee.fn 33) [Value.string s0, Value.pointer (some (Addr.mk b1 o2 none))] h3 = some (Value.string s4, h3) := by
  refine ⟨tof [Value.string s0, Value.pointer (some (Addr.mk b1 o2 none)), undef, undef, Value.string (bs []), undef, undef, undef, undef, undef, undef, undef, undef, undef, undef, undef] 0 Tm.e, ⟨[undef, undef, Value.string (bs []), undef, undef, undef, undef, undef, undef, undef, undef, undef, undef, undef], by kernel_rfl⟩, ?_⟩
  intro s4 tn0 e0 x0
  obtain ⟨j5, rfl⟩ := x0
  exact guided (gs := [.go 2, .code (AExit.exit 0) (tof [Value.string s4, jv j5 0, jv j5 1, jv j5 2, jv j5 3, jv j5 4, jv j5 5, jv j5 6, jv j5 7, jv j5 8, jv j5 9, jv j5 10, jv j5 11, jv j5 12, jv j5 13, jv j5 14] 0 Tm.e) (h3)]) (r := []) (by kernel_rfl) (And.intro e0 (trivial))
-- loop tright_L0: path [1, 0, 0, 0] of 34; lives [0, 1]
def tright_L0_S (s0 : ByteArray) (w1 : Value) (tm : Tm) : Prop := ∃ j2 : List Value, tm = tof [Value.string s0, w1, jv j2 0, jv j2 1, jv j2 2, jv j2 3, jv j2 4, jv j2 5, jv j2 6, jv j2 7, jv j2 8, jv j2 9, jv j2 10, jv j2 11, jv j2 12, jv j2 13, jv j2 14, jv j2 15, jv j2 16, jv j2 17, jv j2 18, jv j2 19] 0 Tm.e
noncomputable def tright_L0_B (om : Nat → Nat) (n : Nat) : ASt → Option (AExit × ASt) := aexec E1 om (acall E1 om 10000 n) 10000 34 (codeAt [1, 0, 0, 0] (fbody (AEnv.P E1) 34)) none
def tright_L0_X0 (s0 : ByteArray) (tm : Tm) : Prop := ∃ j1 : List Value, tm = tof [Value.string s0, jv j1 0, jv j1 1, jv j1 2, jv j1 3, jv j1 4, jv j1 5, jv j1 6, jv j1 7, jv j1 8, jv j1 9, jv j1 10, jv j1 11, jv j1 12, jv j1 13, jv j1 14, jv j1 15, jv j1 16, jv j1 17, jv j1 18, jv j1 19, jv j1 20] 0 Tm.e
/-  T C47 T -/
theorem tright_L0_0 (om : Nat → Nat) (n : Nat) (tm : Tm) (s0 : ByteArray) (w1 : Value) (h3 : AHeap) (x4 : Int) (b5 : Bool)
    (hS : tright_L0_S s0 w1 tm)
    (c0 : decide ((↑(ByteArray.size s0) : Int) > 0) = true)
    (c1 : pureE (aindex (AEnv.P E1) 9 (Value.string s0) (Value.int IntKind.i64 (awrap IntKind.i64 ((↑(ByteArray.size s0) : Int) - 1)))) = some (Value.int IntKind.u8 x4, Eff.id))
    (c2 : acall E1 om 10000 n (ACallee.fn 47) [w1, Value.int IntKind.u8 x4] h3 = some (Value.bool b5, h3))
    (c3 : (!b5) = true)
    : ∃ tm', tright_L0_B om n (tm, h3) = some (AExit.exit 0, tm', h3) ∧ tright_L0_X0 (s0) tm' := by
  obtain ⟨j2, rfl⟩ := hS
  exact ⟨tof [Value.string s0, w1, jv j2 0, jv j2 1, jv j2 2, Value.string s0, Value.int IntKind.i64 (↑(ByteArray.size s0) : Int), Value.bool (decide ((↑(ByteArray.size s0) : Int) > 0)), w1, Value.string s0, Value.string s0, Value.int IntKind.i64 (↑(ByteArray.size s0) : Int), Value.int IntKind.i64 (awrap IntKind.i64 ((↑(ByteArray.size s0) : Int) - 1)), Value.int IntKind.u8 x4, Value.bool b5, Value.bool !b5, jv j2 14, jv j2 15, jv j2 16, jv j2 17, jv j2 18, jv j2 19] 0 Tm.e, guidedC (gs := [.go 3, .br true, .go 5, .val (Value.int IntKind.u8 x4), .val (Value.bool b5), .go 1, .br true]) (r := []) (by kernel_rfl) (And.intro c3 (And.intro c2 (And.intro c1 (And.intro c0 (trivial))))), [w1, jv j2 0, jv j2 1, jv j2 2, Value.string s0, Value.int IntKind.i64 (↑(ByteArray.size s0) : Int), Value.bool (decide ((↑(ByteArray.size s0) : Int) > 0)), w1, Value.string s0, Value.string s0, Value.int IntKind.i64 (↑(ByteArray.size s0) : Int), Value.int IntKind.i64 (awrap IntKind.i64 ((↑(ByteArray.size s0) : Int) - 1)), Value.int IntKind.u8 x4, Value.bool b5, Value.bool !b5, jv j2 14, jv j2 15, jv j2 16, jv j2 17, jv j2 18, jv j2 19], by kernel_rfl⟩
/-  T C47 F -/
theorem tright_L0_1 (om : Nat → Nat) (n : Nat) (tm : Tm) (s0 : ByteArray) (w1 : Value) (h3 : AHeap) (x4 : Int) (b5 : Bool) (s6 : ByteArray)
    (hS : tright_L0_S s0 w1 tm)
    (c0 : decide ((↑(ByteArray.size s0) : Int) > 0) = true)
    (c1 : pureE (aindex (AEnv.P E1) 9 (Value.string s0) (Value.int IntKind.i64 (awrap IntKind.i64 ((↑(ByteArray.size s0) : Int) - 1)))) = some (Value.int IntKind.u8 x4, Eff.id))
    (c2 : acall E1 om 10000 n (ACallee.fn 47) [w1, Value.int IntKind.u8 x4] h3 = some (Value.bool b5, h3))
    (c3 : (!b5) = false)
    (c4 : pureE (aslice (AEnv.P E1) (AHeap.get h3) 9 (Value.string s0) none (some (Value.int IntKind.i64 (awrap IntKind.i64 ((↑(ByteArray.size s0) : Int) - 1)))) none) = some (Value.string s6, Eff.id))
    : ∃ tm', tright_L0_B om n (tm, h3) = some (AExit.normal, tm', h3) ∧ tright_L0_S (s6) (w1) tm' := by
  obtain ⟨j2, rfl⟩ := hS
  exact ⟨tof [Value.string s6, w1, jv j2 0, jv j2 1, jv j2 2, Value.string s0, Value.int IntKind.i64 (↑(ByteArray.size s0) : Int), Value.bool (decide ((↑(ByteArray.size s0) : Int) > 0)), w1, Value.string s0, Value.string s0, Value.int IntKind.i64 (↑(ByteArray.size s0) : Int), Value.int IntKind.i64 (awrap IntKind.i64 ((↑(ByteArray.size s0) : Int) - 1)), Value.int IntKind.u8 x4, Value.bool b5, Value.bool !b5, Value.string s0, Value.string s0, Value.int IntKind.i64 (↑(ByteArray.size s0) : Int), Value.int IntKind.i64 (awrap IntKind.i64 ((↑(ByteArray.size s0) : Int) - 1)), Value.string s6, jv j2 19] 0 Tm.e, guidedC (gs := [.go 3, .br true, .go 5, .val (Value.int IntKind.u8 x4), .val (Value.bool b5), .go 1, .br false, .go 4, .val (Value.string s6)]) (r := []) (by kernel_rfl) (And.intro c4 (And.intro c3 (And.intro c2 (And.intro c1 (And.intro c0 (trivial)))))), [jv j2 0, jv j2 1, jv j2 2, Value.string s0, Value.int IntKind.i64 (↑(ByteArray.size s0) : Int), Value.bool (decide ((↑(ByteArray.size s0) : Int) > 0)), w1, Value.string s0, Value.string s0, Value.int IntKind.i64 (↑(ByteArray.size s0) : Int), Value.int IntKind.i64 (awrap IntKind.i64 ((↑(ByteArray.size s0) : Int) - 1)), Value.int IntKind.u8 x4, Value.bool b5, Value.bool !b5, Value.string s0, Value.string s0, Value.int IntKind.i64 (↑(ByteArray.size s0) : Int), Value.int IntKind.i64 (awrap IntKind.i64 ((↑(ByteArray.size s0) : Int) - 1)), Value.string s6, jv j2 19], by kernel_rfl⟩
/-  F -/
theorem tright_L0_2 (om : Nat → Nat) (n : Nat) (tm : Tm) (s0 : ByteArray) (w1 : Value) (h3 : AHeap)
    (hS : tright_L0_S s0 w1 tm)
    (c0 : decide ((↑(ByteArray.size s0) : Int) > 0) = false)
    : ∃ tm', tright_L0_B om n (tm, h3) = some (AExit.exit 0, tm', h3) ∧ tright_L0_X0 (s0) tm' := by
  obtain ⟨j2, rfl⟩ := hS
  exact ⟨tof [Value.string s0, w1, jv j2 0, jv j2 1, jv j2 2, Value.string s0, Value.int IntKind.i64 (↑(ByteArray.size s0) : Int), Value.bool (decide ((↑(ByteArray.size s0) : Int) > 0)), jv j2 6, jv j2 7, jv j2 8, jv j2 9, jv j2 10, jv j2 11, jv j2 12, jv j2 13, jv j2 14, jv j2 15, jv j2 16, jv j2 17, jv j2 18, jv j2 19] 0 Tm.e, guidedC (gs := [.go 3, .br false]) (r := []) (by kernel_rfl) (And.intro c0 (trivial)), [w1, jv j2 0, jv j2 1, jv j2 2, Value.string s0, Value.int IntKind.i64 (↑(ByteArray.size s0) : Int), Value.bool (decide ((↑(ByteArray.size s0) : Int) > 0)), jv j2 6, jv j2 7, jv j2 8, jv j2 9, jv j2 10, jv j2 11, jv j2 12, jv j2 13, jv j2 14, jv j2 15, jv j2 16, jv j2 17, jv j2 18, jv j2 19], by kernel_rfl⟩
/-  L -/
theorem tright_0 (om : Nat → Nat) (n : Nat) (s0 : ByteArray) (b1 o2 : Nat) (h3 : AHeap)
    : ∃ tm0, tright_L0_S (s0) (Value.pointer (some (Addr.mk b1 o2 none))) tm0 ∧ ∀ (s4 : ByteArray) (tn0 : Tm), aloop (tright_L0_B om n) 10000 (tm0, h3) = some (AExit.exit 0, tn0, h3) → tright_L0_X0 (s4) tn0 → acall E1 om 10000 (n + 1) (ACallee.fn 34) [Value.string s0, Value.pointer (some (Addr.mk b1 o2 none))] h3 = some (Value.string s4, h3) := by
  refine ⟨tof [Value.string s0, Value.pointer (some (Addr.mk b1 o2 none)), undef, undef, Value.string (bs []), undef, undef, undef, undef, undef, undef, undef, undef, undef, undef, undef, undef, undef, undef, undef, undef, undef] 0 Tm.e, ⟨[undef, undef, Value.string (bs []), undef, undef, undef, undef, undef, undef, undef, undef, undef, undef, undef, undef, undef, undef, undef, undef, undef], by kernel_rfl⟩, ?_⟩
  intro s4 tn0 e0 x0
  obtain ⟨j5, rfl⟩ := x0
  exact guided (gs := [.go 2, .code (AExit.exit 0) (tof [Value.string s4, jv j5 0, jv j5 1, jv j5 2, jv j5 3, jv j5 4, jv j5 5, jv j5 6, jv j5 7, jv j5 8, jv j5 9, jv j5 10, jv j5 11, jv j5 12, jv j5 13, jv j5 14, jv j5 15, jv j5 16, jv j5 17, jv j5 18, jv j5 19, jv j5 20] 0 Tm.e) (h3)]) (r := []) (by kernel_rfl) (And.intro e0 (trivial))
/-  + + C34 C33 -/
theorem trim_0 (om : Nat → Nat) (n : Nat) (s0 s1 s2 : ByteArray)
    (c0 : eqBytes s0 (ByteArray.mk #[]) = false)
    (c3 : acall E1 om 10000 (n + 1) (ACallee.fn 34) [Value.string s0, Value.pointer (some (Addr.mk 10 0 none))] (AHeap.mk [AObj.cells asTab 0 true, AObj.cells asTab 0 true, gLook [] 8, gLook [] 7, gLook [] 6, gLook [] 5, gLook [] 4, gLook [] 3, gLook [] 2, gLook [] 1, gLook [] 0] 11 9 0) = some (Value.string s1, AHeap.mk [AObj.cells asTab 0 true, AObj.cells asTab 0 true, gLook [] 8, gLook [] 7, gLook [] 6, gLook [] 5, gLook [] 4, gLook [] 3, gLook [] 2, gLook [] 1, gLook [] 0] 11 9 0))
    (c4 : acall E1 om 10000 (n + 1) (ACallee.fn 33) [Value.string s1, Value.pointer (some (Addr.mk 10 0 none))] (AHeap.mk [AObj.cells asTab 0 true, AObj.cells asTab 0 true, gLook [] 8, gLook [] 7, gLook [] 6, gLook [] 5, gLook [] 4, gLook [] 3, gLook [] 2, gLook [] 1, gLook [] 0] 11 9 0) = some (Value.string s2, AHeap.mk [AObj.cells asTab 0 true, AObj.cells asTab 0 true, gLook [] 8, gLook [] 7, gLook [] 6, gLook [] 5, gLook [] 4, gLook [] 3, gLook [] 2, gLook [] 1, gLook [] 0] 11 9 0))
    : acall E1 om 10000 (n + 2) (ACallee.fn 26) [Value.string s0, Value.string (bs [48, 49, 50, 51, 52, 53, 54, 55, 56, 57])] (AHeap.mk [gLook [] 8, gLook [] 7, gLook [] 6, gLook [] 5, gLook [] 4, gLook [] 3, gLook [] 2, gLook [] 1, gLook [] 0] 9 9 0) = some (Value.string s2, AHeap.mk [AObj.cells asTab 0 true, AObj.cells asTab 0 true, gLook [] 8, gLook [] 7, gLook [] 6, gLook [] 5, gLook [] 4, gLook [] 3, gLook [] 2, gLook [] 1, gLook [] 0] 11 9 0) := by
  exact guided (gs := [.go 5, .br true, .go 1, .br true, .go 1, .val (Value.bool false), .go 214, .val (Value.string s1), .val (Value.string s2)]) (r := []) (by kernel_rfl) (And.intro c4 (And.intro c3 (And.intro (pickE_f c0 (Value.bool true) (Value.bool false)) (And.intro c0 (And.intro c0 (trivial))))))
/-  - - -/
theorem trim_1 (om : Nat → Nat) (n : Nat) (s0 : ByteArray)
    (c0 : eqBytes s0 (ByteArray.mk #[]) = true)
    : acall E1 om 10000 (n + 2) (ACallee.fn 26) [Value.string s0, Value.string (bs [48, 49, 50, 51, 52, 53, 54, 55, 56, 57])] (AHeap.mk [gLook [] 8, gLook [] 7, gLook [] 6, gLook [] 5, gLook [] 4, gLook [] 3, gLook [] 2, gLook [] 1, gLook [] 0] 9 9 0) = some (Value.string s0, AHeap.mk [gLook [] 8, gLook [] 7, gLook [] 6, gLook [] 5, gLook [] 4, gLook [] 3, gLook [] 2, gLook [] 1, gLook [] 0] 9 9 0) := by
  exact guided (gs := [.go 5, .br false, .br false, .val (Value.bool true)]) (r := []) (by kernel_rfl) (And.intro (pickE_t c0 (Value.bool true) (undef)) (And.intro c0 (And.intro c0 (trivial))))
