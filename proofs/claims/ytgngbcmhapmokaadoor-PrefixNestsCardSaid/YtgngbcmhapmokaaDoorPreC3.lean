/- Part of a proof about a Go program: the abstract machine walks its code; no condition. -/
import Derived.Test.YtgngbcmhapmokaaDoorPreP2
import Derived.Test.YtgngbcmhapmokaaDoorPreC2
import Derived.Test.YtgngbcmhapmokaaDoorAmSigs
open Go Go.Am Go.Am.W Go.Proofs
set_option maxRecDepth 100000
section
variable (om : Nat → Nat) (n : Nat)
theorem pof3 (x : Nat) (B : Int) (b : Nat) (hB : B = b) (hb : b ≤ 32) (hx : x < 4294967296) (h : AHeap) : acall E3 om 10000 (n + 1) (.fn 21) [.int .u32 x, .int .i64 B] h = some (.agg #[.int .u32 (topF x b : Nat), .int .i64 (b : Nat)], h) := by
  subst hB
  have := acall_sig (om := om) (k := 10000) (n := n) (h := h) (E := E3) (f := 21) (s := gpure [] F21) rfl (gpure_eval (args := [.int .u32 x, .int .i64 (b : Int)]) (v := ofV x b) rfl (by unfold F21; simp only; rw [if_pos (by omega)]; rfl))
  unfold ofV at this
  rw [cl_id hb] at this
  exact this
theorem cont3 (x y : Nat) (b d : Int) (hx : x < 4294967296) (hy : y < 4294967296) (h : AHeap) : acall E3 om 10000 (n + 1) (.fn 24) [.agg #[.int .u32 x, .int .i64 b], .agg #[.int .u32 y, .int .i64 d]] h = some (.bool (contF x b y d), h) :=
  acall_sig (s := gpure [] F24) rfl (gpure_eval rfl (by unfold F24; simp only; rw [if_pos (by omega)]; rfl))
theorem has3 (x y : Nat) (b : Int) (hx : x < 4294967296) (hy : y < 4294967296) (h : AHeap) : acall E3 om 10000 (n + 1) (.fn 25) [.agg #[.int .u32 x, .int .i64 b], .int .u32 y] h = some (.bool (hasF x b y), h) :=
  acall_sig (s := gpure [] F25) rfl (gpure_eval rfl (by unfold F25; simp only; rw [if_pos (by omega)]; rfl))
theorem comp3 (x y b d : Int) (h : AHeap) : acall E3 om 10000 (n + 1) (.fn 26) [.agg #[.int .u32 x, .int .i64 b], .agg #[.int .u32 y, .int .i64 d]] h = some (.int .i64 (cmpF x b y d), h) :=
  acall_sig (s := gpure [] F26) rfl (gpure_eval rfl rfl)
theorem bit3 (x : Nat) (k : Int) (hx : x < 4294967296) (h : AHeap) : acall E3 om 10000 (n + 1) (.fn 27) [.int .u32 x, .int .i64 k] h = some (.bool (bitF x k), h) :=
  acall_sig (s := gpure [] F27) rfl (gpure_eval rfl (by unfold F27; simp only; rw [if_pos (by omega)]; rfl))
def GPow (h : AHeap) : Prop := (Gpow.all fun x => gIs h x.1 x.2) = true
theorem tells3 (h : AHeap) (hG : GPow h) : acall E3 om 10000 (n + 1) (.fn 16) [] h = some (.bool true, h) :=
  acall_sig (s := pureSig Gpow F16) rfl (pureSig_eval rfl hG rfl)
theorem bits33 (x : Int) : ∃ b : Nat, b ≤ 32 ∧ awrap .i64 (Int.tmod (awrap .u64 x) 33) = (b : Int) := by
  have h0 : 0 ≤ awrap .u64 x := Int.emod_nonneg _ (by decide)
  obtain ⟨m, hm⟩ := Int.eq_ofNat_of_zero_le h0
  refine ⟨m % 33, by omega, ?_⟩
  rw [hm]
  have : Int.tmod (m : Int) 33 = ((m % 33 : Nat) : Int) := rfl
  rw [this, awrap_i64 (by omega) (by omega)]
theorem pow_le_31 (b : Nat) (hb : b < 32) : 2 ^ (31 - b) < 4294967296 := Nat.lt_of_le_of_lt (Nat.pow_le_pow_right (by decide) (show 31 - b ≤ 31 by omega)) (by decide)
theorem shl24 (b : Nat) (hb : b < 32) : pureE (abin (AEnv.P E3) (AEnv.eqOk E3) BinOp.shl 24 (Value.int IntKind.u32 1) (Value.int IntKind.i64 (awrap IntKind.i64 (31 - (b : Int)))) true) = some (.int .u32 ((2 ^ (31 - b) : Nat) : Int), .id) := by
  rw [awrap_i64 (by omega) (by omega)]
  have h1 : Nat.min (31 - (b : Int)).toNat (IntKind.u32.bits) = 31 - b := by
    have : IntKind.u32.bits = 32 := rfl
    rw [this]
    have : (31 - (b : Int)).toNat = 31 - b := by omega
    rw [this]
    exact Nat.min_eq_left (by omega)
  have hp := pow_le_31 b hb
  show pureE (if 31 - (b : Int) < 0 then none else some (.int .u32 (awrap .u32 (1 * 2 ^ (Nat.min (31 - (b : Int)).toNat (IntKind.u32.bits)))))) = _
  rw [if_neg (by omega), h1]
  have e : (1 : Int) * 2 ^ (31 - b) = ((2 ^ (31 - b) : Nat) : Int) := by rw [Int.one_mul, Int.natCast_pow]; rfl
  rw [e, awrap_u32 (Int.natCast_nonneg _) (by omega)]
  rfl
theorem or24 (P q : Nat) (hP : P < 4294967296) (hq : q < 4294967296) (hs : P + q < 4294967296) (ho : P ||| q = P + q) : awrap .u32 ((BitVec.toNat (BitVec.ofInt 32 (P : Int) ||| BitVec.ofInt 32 (q : Int)) : Nat) : Int) = ((P + q : Nat) : Int) := by
  rw [BitVec.toNat_or]
  have t1 : (BitVec.ofInt 32 (P : Int)).toNat = P := by rw [BitVec.ofInt_natCast, BitVec.toNat_ofNat]; omega
  have t2 : (BitVec.ofInt 32 (q : Int)).toNat = q := by rw [BitVec.ofInt_natCast, BitVec.toNat_ofNat]; omega
  rw [t1, t2, ho, awrap_u32 (by omega) (by omega)]
theorem half_lt {P b : Nat} (h : IsP P b) (hb : b < 32) (hP : P < 4294967296) : P + 2 ^ (31 - b) < 4294967296 := by
  obtain ⟨k, hk⟩ := half_form h hb
  have e : 2 ^ 32 = 2 ^ b * (2 * 2 ^ (31 - b)) := by rw [← Nat.pow_succ', ← Nat.pow_add]; congr 1; omega
  have e' : 2 ^ b * (2 * 2 ^ (31 - b)) = 4294967296 := e.symm
  have hp : 0 < 2 ^ (31 - b) := Nat.pow_pos (by decide)
  generalize 2 ^ (31 - b) = t at *
  generalize 2 ^ b = u at *
  have hku : k < u := by
    apply Classical.byContradiction
    intro hh
    have := Nat.mul_le_mul_right (2 * t) (show u ≤ k by omega)
    omega
  have := Nat.mul_le_mul_right (2 * t) (show k + 1 ≤ u by omega)
  rw [Nat.add_mul] at this
  omega
theorem nests_run (x0 : Nat) (x1 : Int) (x2 : Nat) (x3 : Int) (y : Nat) (h0 : x0 < 4294967296) (h2 : x2 < 4294967296) (hy : y < 4294967296) :
    ∃ h', acall E3 om 10000 (n + 2) (.fn 7) [.agg #[.int .u32 x0, .int .i64 x1], .agg #[.int .u32 x2, .int .i64 x3], .int .u32 y] hNum = some (.bool true, h') := by
  obtain ⟨b, hb, hB⟩ := bits33 x1
  obtain ⟨d, hd, hD⟩ := bits33 x3
  have T1 := fun h => pof3 om n x0 _ b hB hb h0 h
  have T2 := fun h => pof3 om n x2 _ d hD hd h2 h
  have iP := IsP.of x0 hb
  have iQ := IsP.of x2 hd
  have lP : topF x0 b < 4294967296 := Nat.lt_of_le_of_lt (topF_le _ _) h0
  have lQ : topF x2 d < 4294967296 := Nat.lt_of_le_of_lt (topF_le _ _) h2
  generalize topF x0 b = P at *
  generalize topF x2 d = Q at *
  have tA := fun h => cont3 om n P Q b d lP lQ h
  have tB := fun h => cont3 om n Q P d b lQ lP h
  have tS := fun h => cont3 om n P P b b lP lP h
  have uP := fun h => has3 om n P y b lP hy h
  have uQ := fun h => has3 om n Q y d lQ hy h
  have uS := fun h => has3 om n P P b lP lP h
  have k1 := fun h => comp3 om n P Q b d h
  have k2 := fun h => comp3 om n Q P d b h
  have tl := fun h (hG : GPow h) => tells3 om n h hG
  have F_uS := nest5 iP
  have F_tS := nest5' iP
  have e31 := eq31 P b Q d
  have n3 := nest3 iP iQ
  have main : (contF P b Q d = true → (!(contF Q d P b == ((P : Int) == (Q : Int) && (b : Int) == (d : Int)))) = false) ∧ (contF P b Q d = false → (!(false == ((P : Int) == (Q : Int) && (b : Int) == (d : Int)))) = false) := by
    constructor
    · intro h; rw [h, Bool.true_and] at n3; rw [← n3]; cases contF Q d P b <;> rfl
    · intro h; rw [h, Bool.false_and] at n3; rw [← n3]; rfl
  by_cases hb32 : b = 32
  · have n32 : ((b : Int) == 32) = true := by subst hb32; rfl
    have n7 : (hasF P b y == ((y : Int) == (P : Int))) = true := by
      subst hb32
      rw [show ((32 : Nat) : Int) = 32 from rfl, nest7 iP]; simp
    cases F_uP : hasF P b y with
    | true =>
      cases F_tA : contF P b Q d with
      | true =>
        have nB := main.1 F_tA
        have n4 := decide_eq_false (nest4 iP iQ F_tA)
        cases F_uQ : hasF Q d y with
        | true => exact ⟨_, nests_31 om (n + 1) x0 x1 x2 x3 y _ _ _ _ _ _ _ _ _ _ _ _ _ _ _ _ _ (T1 _) (T2 _) (tA _) (tB _) (uP _) F_uP (uQ _) F_uQ (by rw [F_tA]; rfl) F_tA (by rw [F_uP]; rfl) e31 nB (k1 _) n4 (uS _) (by rw [F_uS]; rfl) (tS _) (by rw [F_tS]; rfl) (k1 _) (k2 _) (nest6 _ _ _ _) e31 (nest6' _ _ _ _) n32 (uP _) n7 (tl _ (by unfold GPow; kernel_rfl))⟩
        | false => exact ⟨_, nests_59 om (n + 1) x0 x1 x2 x3 y _ _ _ _ _ _ _ _ _ _ _ _ _ _ _ _ _ (T1 _) (T2 _) (tA _) (tB _) (uP _) F_uP (uQ _) F_uQ F_tA e31 nB (k1 _) n4 (uS _) (by rw [F_uS]; rfl) (tS _) (by rw [F_tS]; rfl) (k1 _) (k2 _) (nest6 _ _ _ _) e31 (nest6' _ _ _ _) n32 (uP _) n7 (tl _ (by unfold GPow; kernel_rfl))⟩
      | false =>
        have nF := main.2 F_tA
        cases F_uQ : hasF Q d y with
        | true =>
          have F_tB : contF Q d P b = true := (nest1 iP iQ F_uP F_uQ).resolve_left (by rw [F_tA]; simp)
          exact ⟨_, nests_17 om (n + 1) x0 x1 x2 x3 y _ _ _ _ _ _ _ _ _ _ _ _ _ _ _ _ (T1 _) (T2 _) (tA _) (tB _) (uP _) F_uP (uQ _) F_uQ (by rw [F_tA]; rfl) (by rw [F_tB]; rfl) F_tA e31 nF (uS _) (by rw [F_uS]; rfl) (tS _) (by rw [F_tS]; rfl) (k1 _) (k2 _) (nest6 _ _ _ _) e31 (nest6' _ _ _ _) n32 (uP _) n7 (tl _ (by unfold GPow; kernel_rfl))⟩
        | false => exact ⟨_, nests_73 om (n + 1) x0 x1 x2 x3 y _ _ _ _ _ _ _ _ _ _ _ _ _ _ _ _ (T1 _) (T2 _) (tA _) (tB _) (uP _) F_uP (uQ _) F_uQ F_tA e31 nF (uS _) (by rw [F_uS]; rfl) (tS _) (by rw [F_tS]; rfl) (k1 _) (k2 _) (nest6 _ _ _ _) e31 (nest6' _ _ _ _) n32 (uP _) n7 (tl _ (by unfold GPow; kernel_rfl))⟩
    | false =>
      cases F_tA : contF P b Q d with
      | true =>
        have nB := main.1 F_tA
        have n4 := decide_eq_false (nest4 iP iQ F_tA)
        cases F_uQ : hasF Q d y with
        | true => exact absurd (nest2 iP iQ F_tA F_uQ) (by rw [F_uP]; simp)
        | false => exact ⟨_, nests_101 om (n + 1) x0 x1 x2 x3 y _ _ _ _ _ _ _ _ _ _ _ _ _ _ _ _ _ (T1 _) (T2 _) (tA _) (tB _) (uP _) F_uP F_tA (uQ _) F_uQ e31 nB (k1 _) n4 (uS _) (by rw [F_uS]; rfl) (tS _) (by rw [F_tS]; rfl) (k1 _) (k2 _) (nest6 _ _ _ _) e31 (nest6' _ _ _ _) n32 (uP _) n7 (tl _ (by unfold GPow; kernel_rfl))⟩
      | false =>
        have nF := main.2 F_tA
        exact ⟨_, nests_115 om (n + 1) x0 x1 x2 x3 y _ _ _ _ _ _ _ _ _ _ _ _ _ _ _ (T1 _) (T2 _) (tA _) (tB _) (uP _) F_uP F_tA e31 nF (uS _) (by rw [F_uS]; rfl) (tS _) (by rw [F_tS]; rfl) (k1 _) (k2 _) (nest6 _ _ _ _) e31 (nest6' _ _ _ _) n32 (uP _) n7 (tl _ (by unfold GPow; kernel_rfl))⟩
  · have hb32 : b < 32 := by omega
    have n32 : ((b : Int) == 32) = false := by
      have : ¬ (b : Int) = 32 := by omega
      simpa using this
    have eS := shl24 b hb32
    have hw : awrap .i64 ((b : Int) + 1) = ((b + 1 : Nat) : Int) := by rw [awrap_i64 (by omega) (by omega)]; rfl
    have lH := half_lt iP hb32 lP
    have hH := or24 P (2 ^ (31 - b)) lP (pow_le_31 b hb32) lH (or_half iP hb32)
    have uL : ∀ h, acall E3 om 10000 (n + 1) (.fn 25) [.agg #[.int .u32 P, .int .i64 (awrap .i64 ((b : Int) + 1))], .int .u32 y] h = some (.bool (hasF P ((b + 1 : Nat) : Int) y), h) := fun h => by
      rw [hw]; exact has3 om n P y _ lP hy h
    have uH : ∀ h, acall E3 om 10000 (n + 1) (.fn 25) [.agg #[.int .u32 (awrap .u32 ((BitVec.toNat (BitVec.ofInt 32 (P : Int) ||| BitVec.ofInt 32 ((2 ^ (31 - b) : Nat) : Int)) : Nat) : Int)), .int .i64 (awrap .i64 ((b : Int) + 1))], .int .u32 y] h = some (.bool (hasF (P + 2 ^ (31 - b)) ((b + 1 : Nat) : Int) y), h) := fun h => by
      rw [hw, hH]; exact has3 om n _ y _ lH hy h
    have tL : ∀ h, acall E3 om 10000 (n + 1) (.fn 24) [.agg #[.int .u32 P, .int .i64 b], .agg #[.int .u32 P, .int .i64 (awrap .i64 ((b : Int) + 1))]] h = some (.bool (contF P b P ((b + 1 : Nat) : Int)), h) := fun h => by
      rw [hw]; exact cont3 om n P P b _ lP lP h
    have tH : ∀ h, acall E3 om 10000 (n + 1) (.fn 24) [.agg #[.int .u32 P, .int .i64 b], .agg #[.int .u32 (awrap .u32 ((BitVec.toNat (BitVec.ofInt 32 (P : Int) ||| BitVec.ofInt 32 ((2 ^ (31 - b) : Nat) : Int)) : Nat) : Int)), .int .i64 (awrap .i64 ((b : Int) + 1))]] h = some (.bool (contF P b (P + 2 ^ (31 - b)) ((b + 1 : Nat) : Int)), h) := fun h => by
      rw [hw, hH]; exact cont3 om n P _ b _ lP lH h
    have v1 : ∀ h, acall E3 om 10000 (n + 1) (.fn 27) [.int .u32 (awrap .u32 ((BitVec.toNat (BitVec.ofInt 32 (P : Int) ||| BitVec.ofInt 32 ((2 ^ (31 - b) : Nat) : Int)) : Nat) : Int)), .int .i64 b] h = some (.bool (bitF (P + 2 ^ (31 - b)) b), h) := fun h => by
      rw [hH]; exact bit3 om n _ _ lH h
    have v2 := fun h => bit3 om n P b lP h
    have F_tL := nest9 iP hb32
    have F_tH := nest10 iP hb32
    have F_v1 := (nest11 iP hb32).1
    have F_v2 := (nest11 iP hb32).2
    have n8 : (hasF P b y == !(hasF P ((b + 1 : Nat) : Int) y == hasF (P + 2 ^ (31 - b)) ((b + 1 : Nat) : Int) y)) = true := by rw [← nest8 iP hb32]; simp
    cases F_uP : hasF P b y with
    | true =>
      cases F_tA : contF P b Q d with
      | true =>
        have nB := main.1 F_tA
        have n4 := decide_eq_false (nest4 iP iQ F_tA)
        cases F_uQ : hasF Q d y with
        | true => exact ⟨_, nests_33 om (n + 1) x0 x1 x2 x3 y _ _ _ _ _ _ _ _ _ _ _ _ _ _ _ _ _ _ _ _ _ _ _ _ (T1 _) (T2 _) (tA _) (tB _) (uP _) F_uP (uQ _) F_uQ (by rw [F_tA]; rfl) F_tA (by rw [F_uP]; rfl) e31 nB (k1 _) n4 (uS _) (by rw [F_uS]; rfl) (tS _) (by rw [F_tS]; rfl) (k1 _) (k2 _) (nest6 _ _ _ _) e31 (nest6' _ _ _ _) n32 eS (uL _) (uH _) (tL _) F_tL (tH _) F_tH (uP _) n8 (v1 _) F_v1 (v2 _) (by rw [F_v2]; rfl) (tl _ (by unfold GPow; kernel_rfl))⟩
        | false => exact ⟨_, nests_61 om (n + 1) x0 x1 x2 x3 y _ _ _ _ _ _ _ _ _ _ _ _ _ _ _ _ _ _ _ _ _ _ _ _ (T1 _) (T2 _) (tA _) (tB _) (uP _) F_uP (uQ _) F_uQ F_tA e31 nB (k1 _) n4 (uS _) (by rw [F_uS]; rfl) (tS _) (by rw [F_tS]; rfl) (k1 _) (k2 _) (nest6 _ _ _ _) e31 (nest6' _ _ _ _) n32 eS (uL _) (uH _) (tL _) F_tL (tH _) F_tH (uP _) n8 (v1 _) F_v1 (v2 _) (by rw [F_v2]; rfl) (tl _ (by unfold GPow; kernel_rfl))⟩
      | false =>
        have nF := main.2 F_tA
        cases F_uQ : hasF Q d y with
        | true =>
          have F_tB : contF Q d P b = true := (nest1 iP iQ F_uP F_uQ).resolve_left (by rw [F_tA]; simp)
          exact ⟨_, nests_19 om (n + 1) x0 x1 x2 x3 y _ _ _ _ _ _ _ _ _ _ _ _ _ _ _ _ _ _ _ _ _ _ _ (T1 _) (T2 _) (tA _) (tB _) (uP _) F_uP (uQ _) F_uQ (by rw [F_tA]; rfl) (by rw [F_tB]; rfl) F_tA e31 nF (uS _) (by rw [F_uS]; rfl) (tS _) (by rw [F_tS]; rfl) (k1 _) (k2 _) (nest6 _ _ _ _) e31 (nest6' _ _ _ _) n32 eS (uL _) (uH _) (tL _) F_tL (tH _) F_tH (uP _) n8 (v1 _) F_v1 (v2 _) (by rw [F_v2]; rfl) (tl _ (by unfold GPow; kernel_rfl))⟩
        | false => exact ⟨_, nests_75 om (n + 1) x0 x1 x2 x3 y _ _ _ _ _ _ _ _ _ _ _ _ _ _ _ _ _ _ _ _ _ _ _ (T1 _) (T2 _) (tA _) (tB _) (uP _) F_uP (uQ _) F_uQ F_tA e31 nF (uS _) (by rw [F_uS]; rfl) (tS _) (by rw [F_tS]; rfl) (k1 _) (k2 _) (nest6 _ _ _ _) e31 (nest6' _ _ _ _) n32 eS (uL _) (uH _) (tL _) F_tL (tH _) F_tH (uP _) n8 (v1 _) F_v1 (v2 _) (by rw [F_v2]; rfl) (tl _ (by unfold GPow; kernel_rfl))⟩
    | false =>
      cases F_tA : contF P b Q d with
      | true =>
        have nB := main.1 F_tA
        have n4 := decide_eq_false (nest4 iP iQ F_tA)
        cases F_uQ : hasF Q d y with
        | true => exact absurd (nest2 iP iQ F_tA F_uQ) (by rw [F_uP]; simp)
        | false => exact ⟨_, nests_103 om (n + 1) x0 x1 x2 x3 y _ _ _ _ _ _ _ _ _ _ _ _ _ _ _ _ _ _ _ _ _ _ _ _ (T1 _) (T2 _) (tA _) (tB _) (uP _) F_uP F_tA (uQ _) F_uQ e31 nB (k1 _) n4 (uS _) (by rw [F_uS]; rfl) (tS _) (by rw [F_tS]; rfl) (k1 _) (k2 _) (nest6 _ _ _ _) e31 (nest6' _ _ _ _) n32 eS (uL _) (uH _) (tL _) F_tL (tH _) F_tH (uP _) n8 (v1 _) F_v1 (v2 _) (by rw [F_v2]; rfl) (tl _ (by unfold GPow; kernel_rfl))⟩
      | false =>
        have nF := main.2 F_tA
        exact ⟨_, nests_117 om (n + 1) x0 x1 x2 x3 y _ _ _ _ _ _ _ _ _ _ _ _ _ _ _ _ _ _ _ _ _ _ (T1 _) (T2 _) (tA _) (tB _) (uP _) F_uP F_tA e31 nF (uS _) (by rw [F_uS]; rfl) (tS _) (by rw [F_tS]; rfl) (k1 _) (k2 _) (nest6 _ _ _ _) e31 (nest6' _ _ _ _) n32 eS (uL _) (uH _) (tL _) F_tL (tH _) F_tH (uP _) n8 (v1 _) F_v1 (v2 _) (by rw [F_v2]; rfl) (tl _ (by unfold GPow; kernel_rfl))⟩
end
