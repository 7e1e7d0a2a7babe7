/- Part of a proof about a Go program: the abstract machine walks its code; no condition. -/
import Derived.Test.YtgngbcmhapmokaaDoorPreP1
open Go Go.Am Go.Am.W Go.Proofs
set_option maxRecDepth 100000
def cl (b : Int) : Nat := if 32 < b then 32 else b.toNat
theorem cl_le (b : Int) : cl b ≤ 32 := by unfold cl; split <;> omega
theorem cl_eq (b : Int) : (if 0 < if 32 < b then 32 else b then if 32 < b then 32 else b else 0 : Int) = (cl b : Int) := by
  unfold cl; split <;> split <;> omega
theorem cl_id {b : Nat} (h : b ≤ 32) : cl (b : Int) = b := by unfold cl; split <;> omega
def topF (x b : Nat) : Nat := x / 2 ^ (32 - b) * 2 ^ (32 - b)
theorem shl_ok {ok : TypeId → Bool} {P : Program} (b : Nat) (hb : b ≤ 32) : pureE (abin P ok .shl 103 (.int .u64 4294967295) (.int .i64 (awrap .i64 (32 - (b : Int)))) true) = some (.int .u64 ((4294967295 * 2 ^ (32 - b) : Nat) : Int), .id) := by
  rw [awrap_i64 (by omega) (by omega)]
  have hp : 2 ^ (32 - b) ≤ 2 ^ 32 := Nat.pow_le_pow_right (by decide) (by omega)
  have h1 : Nat.min (32 - (b : Int)).toNat (IntKind.u64.bits) = 32 - b := by
    have : IntKind.u64.bits = 64 := rfl
    rw [this]
    have : (32 - (b : Int)).toNat = 32 - b := by omega
    rw [this]
    exact Nat.min_eq_left (by omega)
  show pureE (if 32 - (b : Int) < 0 then none else some (.int .u64 (awrap .u64 (4294967295 * 2 ^ (Nat.min (32 - (b : Int)).toNat (IntKind.u64.bits)))))) = _
  rw [if_neg (show ¬ (32 - (b : Int)) < 0 by omega), h1]
  have e : (4294967295 : Int) * 2 ^ (32 - b) = ((4294967295 * 2 ^ (32 - b) : Nat) : Int) := by rw [Int.natCast_mul, Int.natCast_pow]; rfl
  rw [e, awrap_u64 (by omega) (by omega)]
  rfl
theorem mask_nat (x k : Nat) (hx : x < 2 ^ 32) (hk : k ≤ 32) : x &&& (2 ^ 32 - 2 ^ k) = x / 2 ^ k * 2 ^ k := by
  apply Nat.eq_of_testBit_eq
  intro i
  have hp0 : 0 < 2 ^ k := Nat.pow_pos (by decide)
  have hp : 2 ^ k ≤ 2 ^ 32 := Nat.pow_le_pow_right (by decide) hk
  have e : 2 ^ 32 - 2 ^ k = 2 ^ 32 - ((2 ^ k - 1) + 1) := by omega
  rw [Nat.testBit_and, e, Nat.testBit_two_pow_sub_succ (by omega), Nat.testBit_two_pow_sub_one, Nat.testBit_mul_two_pow, Nat.testBit_div_two_pow]
  by_cases hi : k ≤ i
  · have h1 : k + (i - k) = i := by omega
    by_cases h32 : i < 32
    · simp [hi, h1, h32, Nat.not_lt.2 hi]
    · have : x.testBit i = false := Nat.testBit_lt_two_pow (Nat.lt_of_lt_of_le hx (Nat.pow_le_pow_right (by decide) (by omega)))
      simp [hi, h1, this]
  · simp [hi, Nat.lt_of_not_le hi]
theorem and_top (x b : Nat) (hb : b ≤ 32) (hx : x < 4294967296) : awrap .u32 ((BitVec.toNat (BitVec.ofInt 32 (x : Int) &&& BitVec.ofInt 32 (awrap .u32 ((4294967295 * 2 ^ (32 - b) : Nat) : Int))) : Nat) : Int) = ((topF x b : Nat) : Int) := by
  have hp : 2 ^ (32 - b) ≤ 2 ^ 32 := Nat.pow_le_pow_right (by decide) (by omega)
  have hp0 : 0 < 2 ^ (32 - b) := Nat.pow_pos (by decide)
  have e1 : awrap .u32 ((4294967295 * 2 ^ (32 - b) : Nat) : Int) = ((4294967296 - 2 ^ (32 - b) : Nat) : Int) := by
    show (((4294967295 * 2 ^ (32 - b) : Nat) : Int) % 4294967296) = _
    omega
  rw [e1]
  have e2 : BitVec.toNat (BitVec.ofInt 32 (x : Int) &&& BitVec.ofInt 32 ((4294967296 - 2 ^ (32 - b) : Nat) : Int)) = topF x b := by
    rw [BitVec.toNat_and]
    have t1 : (BitVec.ofInt 32 (x : Int)).toNat = x := by rw [BitVec.ofInt_natCast, BitVec.toNat_ofNat]; omega
    have t2 : (BitVec.ofInt 32 ((4294967296 - 2 ^ (32 - b) : Nat) : Int)).toNat = 4294967296 - 2 ^ (32 - b) := by rw [BitVec.ofInt_natCast, BitVec.toNat_ofNat]; omega
    rw [t1, t2]
    unfold topF
    exact mask_nat x (32 - b) hx (by omega)
  rw [e2, awrap_u32 (by omega) ?_]
  have : topF x b ≤ x := Nat.div_mul_le_self _ _
  omega
def bb1 (x : Option Bool) (y : Option Bool) : Option Bool := match x with
  | some true => y
  | r => r
def bb2 (x y : Bool) : Option Bool := bb1 (some x) (bb1 (some y) (some true))
theorem bb2_eq (x y : Bool) : bb2 x y = some (x && y) := by cases x <;> cases y <;> rfl
theorem eq31' (a b c d : Int) : abin (AEnv.P E1) (AEnv.eqOk E1) BinOp.eql 31 (Value.agg (Array.mk [Value.int IntKind.u32 a, Value.int IntKind.i64 b])) (Value.agg (Array.mk [Value.int IntKind.u32 c, Value.int IntKind.i64 d])) false = Option.map Value.bool (bb2 (a == c) (b == d)) := by kernel_rfl
theorem eq31 (a b c d : Int) : pureE (abin (AEnv.P E1) (AEnv.eqOk E1) BinOp.eql 31 (Value.agg (Array.mk [Value.int IntKind.u32 a, Value.int IntKind.i64 b])) (Value.agg (Array.mk [Value.int IntKind.u32 c, Value.int IntKind.i64 d])) false) = some (.bool (a == c && b == d), .id) := by
  rw [eq31', bb2_eq]; rfl

variable (om : Nat → Nat) (n : Nat)
theorem fin_v {r : Option (Value × AHeap)} {v v' : Value} {h' : AHeap} (e : r = some (v, h')) (hv : v = v') : ∃ h', r = some (v', h') := ⟨h', by rw [e, hv]⟩
theorem natBeq (a b : Nat) : ((a : Int) == (b : Int)) = (a == b) := by
  rw [Bool.eq_iff_iff, beq_iff_eq, beq_iff_eq]; omega
theorem topF_le (x b : Nat) : topF x b ≤ x := Nat.div_mul_le_self _ _
/-- What prefix.Of answers. -/
def ofV (x : Nat) (b : Int) : Value := .agg #[.int .u32 (topF x (cl b)), .int .i64 (cl b)]
theorem pof_ok (x : Nat) (b : Int) (hx : x < 4294967296) : ∃ h', acall E1 om 10000 (n + 2) (.fn 21) [.int .u32 x, .int .i64 b] hLit = some (ofV x b, h') := by
  have h := pof_0 om n x b _ (by rw [cl_eq]; exact shl_ok (cl b) (cl_le b))
  rw [cl_eq, and_top _ _ (cl_le b) hx] at h
  exact ⟨_, h⟩
def mayF (x : Nat) (b : Int) : Bool := decide (0 ≤ b) && decide (b ≤ 32) && decide (topF x b.toNat = x)
theorem may_eq (x : Nat) (b : Int) : ((x : Int) == ((topF x (cl b) : Nat) : Int) && b == (cl b : Int)) = mayF x b := by
  rw [Bool.eq_iff_iff]
  unfold mayF
  simp only [Bool.and_eq_true, beq_iff_eq, decide_eq_true_eq]
  constructor
  · rintro ⟨h1, h2⟩
    have := cl_le b
    have hb : b.toNat = cl b := by omega
    exact ⟨⟨by omega, by omega⟩, by rw [hb]; omega⟩
  · rintro ⟨⟨h1, h2⟩, h3⟩
    obtain ⟨m, rfl⟩ := Int.eq_ofNat_of_zero_le h1
    rw [cl_id (by omega)]
    rw [Int.toNat_natCast] at h3
    exact ⟨by omega, rfl⟩
theorem may_ok (x : Nat) (b : Int) (hx : x < 4294967296) : ∃ h', acall E1 om 10000 (n + 3) (.fn 22) [.agg #[.int .u32 x, .int .i64 b]] hLit = some (.bool (mayF x b), h') := by
  have h := may_0 om n x b _ (mayF x b) (by rw [cl_eq]; exact shl_ok (cl b) (cl_le b)) (by rw [cl_eq, and_top _ _ (cl_le b) hx, eq31, may_eq])
  exact ⟨_, h⟩
def hasF (x : Nat) (b : Int) (y : Nat) : Bool := mayF x b && (topF y b.toNat == x)
theorem has_ok (x y : Nat) (b : Int) (hx : x < 4294967296) (hy : y < 4294967296) : ∃ h', acall E1 om 10000 (n + 4) (.fn 25) [.agg #[.int .u32 x, .int .i64 b], .int .u32 y] hLit = some (.bool (hasF x b y), h') := by
  by_cases hm : mayF x b = true
  · have hm' := hm
    unfold mayF at hm'
    simp only [Bool.and_eq_true, decide_eq_true_eq] at hm'
    obtain ⟨m, rfl⟩ := Int.eq_ofNat_of_zero_le hm'.1.1
    have h := has_0 om n x m y _ true _ (by rw [cl_eq]; exact shl_ok (cl m) (cl_le m)) (by rw [cl_eq, and_top _ _ (cl_le m) hx, eq31, may_eq, hm]) rfl (shl_ok m (by omega))
    rw [and_top _ _ (by omega) hy] at h
    refine fin_v h ?_
    unfold hasF
    rw [hm, Int.toNat_natCast, natBeq, Bool.true_and]
  · have hm : mayF x b = false := by simpa using hm
    have h := has_1 om n x b y _ false (by rw [cl_eq]; exact shl_ok (cl b) (cl_le b)) (by rw [cl_eq, and_top _ _ (cl_le b) hx, eq31, may_eq, hm]) rfl
    refine fin_v h ?_
    unfold hasF
    rw [hm]; rfl
def contF (x : Nat) (b : Int) (y : Nat) (d : Int) : Bool := mayF y d && decide (d ≥ b) && hasF x b y
theorem cont_ok (x y : Nat) (b d : Int) (hx : x < 4294967296) (hy : y < 4294967296) : ∃ h', acall E1 om 10000 (n + 5) (.fn 24) [.agg #[.int .u32 x, .int .i64 b], .agg #[.int .u32 y, .int .i64 d]] hLit = some (.bool (contF x b y d), h') := by
  by_cases hq : mayF y d = true
  · by_cases hd : d ≥ b
    · by_cases hm : mayF x b = true
      · have hm' := hm
        unfold mayF at hm'
        simp only [Bool.and_eq_true, decide_eq_true_eq] at hm'
        obtain ⟨m, rfl⟩ := Int.eq_ofNat_of_zero_le hm'.1.1
        have h := cont_0 om n x m y d _ true _ true _ (by rw [cl_eq]; exact shl_ok (cl d) (cl_le d)) (by rw [cl_eq, and_top _ _ (cl_le d) hy, eq31, may_eq, hq]) rfl (by simpa using hd)
          (by rw [cl_eq]; exact shl_ok (cl m) (cl_le m)) (by rw [cl_eq, and_top _ _ (cl_le m) hx, eq31, may_eq, hm]) rfl (shl_ok m (by omega))
        rw [and_top _ _ (by omega) hy] at h
        refine fin_v h ?_
        unfold contF hasF
        rw [hq, hm, Int.toNat_natCast, natBeq, decide_eq_true hd]; rfl
      · have hm : mayF x b = false := by simpa using hm
        have h := cont_1 om n x b y d _ true _ false (by rw [cl_eq]; exact shl_ok (cl d) (cl_le d)) (by rw [cl_eq, and_top _ _ (cl_le d) hy, eq31, may_eq, hq]) rfl (by simpa using hd)
          (by rw [cl_eq]; exact shl_ok (cl b) (cl_le b)) (by rw [cl_eq, and_top _ _ (cl_le b) hx, eq31, may_eq, hm]) rfl
        refine fin_v h ?_
        unfold contF hasF
        rw [hm]; simp
    · have h := cont_2 om n x b y d _ true (by rw [cl_eq]; exact shl_ok (cl d) (cl_le d)) (by rw [cl_eq, and_top _ _ (cl_le d) hy, eq31, may_eq, hq]) rfl (by simpa using hd)
      refine fin_v h ?_
      unfold contF
      simp [hd]
  · have hq : mayF y d = false := by simpa using hq
    have h := cont_3 om n x b y d _ false (by rw [cl_eq]; exact shl_ok (cl d) (cl_le d)) (by rw [cl_eq, and_top _ _ (cl_le d) hy, eq31, may_eq, hq]) rfl
    refine fin_v h ?_
    unfold contF
    rw [hq]; rfl
def cmpF (x : Int) (b : Int) (y : Int) (d : Int) : Int := if x < y then -1 else if x > y then 1 else if b < d then -1 else if b > d then 1 else 0
theorem comp_ok (x y b d : Int) : ∃ h', acall E1 om 10000 (n + 3) (.fn 26) [.agg #[.int .u32 x, .int .i64 b], .agg #[.int .u32 y, .int .i64 d]] hLit = some (.int .i64 (cmpF x b y d), h') := by
  have ne (z : Int) : (z != z) = false := by simp
  by_cases h1 : x < y
  · by_cases h3 : b < d
    · exact fin_v (comp_0 om n x b y d (ne _) (ne _) (by simpa using h1) (ne _) (ne _) (by simpa using h3)) (by unfold cmpF; simp [h1])
    · by_cases h4 : b > d
      · exact fin_v (comp_1 om n x b y d (ne _) (ne _) (by simpa using h1) (ne _) (ne _) (by simpa using h3) (by simpa using h4)) (by unfold cmpF; simp [h1])
      · exact fin_v (comp_2 om n x b y d (ne _) (ne _) (by simpa using h1) (ne _) (ne _) (by simpa using h3) (by simpa using h4)) (by unfold cmpF; simp [h1])
  · by_cases h2 : x > y
    · by_cases h3 : b < d
      · exact fin_v (comp_3 om n x b y d (ne _) (ne _) (by simpa using h1) (by simpa using h2) (ne _) (ne _) (by simpa using h3)) (by unfold cmpF; simp [h1, h2])
      · by_cases h4 : b > d
        · exact fin_v (comp_4 om n x b y d (ne _) (ne _) (by simpa using h1) (by simpa using h2) (ne _) (ne _) (by simpa using h3) (by simpa using h4)) (by unfold cmpF; simp [h1, h2])
        · exact fin_v (comp_5 om n x b y d (ne _) (ne _) (by simpa using h1) (by simpa using h2) (ne _) (ne _) (by simpa using h3) (by simpa using h4)) (by unfold cmpF; simp [h1, h2])
    · by_cases h3 : b < d
      · exact fin_v (comp_6 om n x b y d (ne _) (ne _) (by simpa using h1) (by simpa using h2) (ne _) (ne _) (by simpa using h3)) (by unfold cmpF; simp [h1, h2, h3])
      · by_cases h4 : b > d
        · exact fin_v (comp_7 om n x b y d (ne _) (ne _) (by simpa using h1) (by simpa using h2) (ne _) (ne _) (by simpa using h3) (by simpa using h4)) (by unfold cmpF; simp [h1, h2, h3, h4])
        · exact fin_v (comp_8 om n x b y d (ne _) (ne _) (by simpa using h1) (by simpa using h2) (ne _) (ne _) (by simpa using h3) (by simpa using h4)) (by unfold cmpF; simp [h1, h2, h3, h4])
def bitF (x : Nat) (k : Int) : Bool := decide (0 ≤ k) && decide (k < 32) && (x / 2 ^ (31 - k.toNat) % 2 == 1)
theorem pbit_ok (x : Nat) (k : Int) (hx : x < 4294967296) : ∃ h', acall E1 om 10000 (n + 1) (.fn 27) [.int .u32 x, .int .i64 k] hLit = some (.bool (bitF x k), h') := by
  by_cases h0 : k ≥ 0
  · by_cases h1 : k < 32
    · obtain ⟨m, rfl⟩ := Int.eq_ofNat_of_zero_le h0
      have hs : pureE (abin (AEnv.P E1) (AEnv.eqOk E1) BinOp.shr 24 (Value.int IntKind.u32 (x : Int)) (Value.int IntKind.i64 (awrap IntKind.i64 (31 - (m : Int)))) false) = some (.int .u32 ((x / 2 ^ (31 - m) : Nat) : Int), .id) := by
        rw [awrap_i64 (by omega) (by omega)]
        show pureE (if 31 - (m : Int) < 0 then none else some (.int .u32 ((x : Int).fdiv (2 ^ (Nat.min (31 - (m : Int)).toNat (IntKind.u32.bits)))))) = _
        have h2 : Nat.min (31 - (m : Int)).toNat (IntKind.u32.bits) = 31 - m := by
          have : IntKind.u32.bits = 32 := rfl
          rw [this]
          have : (31 - (m : Int)).toNat = 31 - m := by omega
          rw [this]
          exact Nat.min_eq_left (by omega)
        rw [if_neg (by omega), h2]
        have e : (2 : Int) ^ (31 - m) = ((2 ^ (31 - m) : Nat) : Int) := by rw [Int.natCast_pow]; rfl
        rw [e, Int.fdiv_eq_ediv_of_nonneg _ (Int.natCast_nonneg _), ← Int.natCast_ediv]
        rfl
      refine fin_v (pbit_0 om n x m _ (by simp) (by simpa using h1) hs) ?_
      unfold bitF
      have e2 : BitVec.toNat (BitVec.ofInt 32 ((x / 2 ^ (31 - m) : Nat) : Int) &&& BitVec.ofInt 32 1) = x / 2 ^ (31 - m) % 2 := by
        rw [BitVec.toNat_and]
        have hle : x / 2 ^ (31 - m) ≤ x := Nat.div_le_self _ _
        generalize x / 2 ^ (31 - m) = q at hle
        have t1 : (BitVec.ofInt 32 ((q : Nat) : Int)).toNat = q := by rw [BitVec.ofInt_natCast, BitVec.toNat_ofNat]; omega
        have t2 : (BitVec.ofInt 32 1).toNat = 1 := rfl
        rw [t1, t2, Nat.and_one_is_mod]
      rw [e2, awrap_u32 (by omega) (by omega), Int.toNat_natCast, decide_eq_true h0, decide_eq_true h1]
      congr 1
      rw [Bool.true_and, Bool.true_and, Bool.eq_iff_iff, beq_iff_eq, beq_iff_eq]; omega
    · refine fin_v (pbit_1 om n x k (by simpa using h0) (by simpa using h1)) ?_
      unfold bitF
      simp [h1]
  · refine fin_v (pbit_2 om n x k (by simpa using h0)) ?_
    unfold bitF
    simp; omega
