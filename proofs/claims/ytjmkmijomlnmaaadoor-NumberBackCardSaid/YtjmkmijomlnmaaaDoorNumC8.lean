/- Part of a proof about a Go program: the abstract machine walks its code; no condition. -/
import Derived.Test.YtjmkmijomlnmaaaDoorNumP5
open Go Go.Am Go.Am.W Go.Proofs
set_option maxRecDepth 100000
theorem acall_sig {E : AEnv} {om : Nat → Nat} {k n : Nat} {f : FuncId} {args : List Value} {h : AHeap} {r : Value × AHeap} {s : List Value → AHeap → Option (Value × AHeap)} (hs : E.sig f = some s) (hr : s args h = some r) : acall E om k (n + 1) (.fn f) args h = some r := by
  simp only [acall, acallF, hs, hr]
theorem pureSig_eval {Gs : List (Nat × List Value)} {F : List Value → Option Value} {args : List Value} {h : AHeap} {v : Value} (h1 : args.all flat0 = true) (h2 : (Gs.all fun x => gIs h x.1 x.2) = true) (h3 : F args = some v) : pureSig Gs F args h = some (v, h) := by
  unfold pureSig
  rw [if_pos ⟨h1, h2⟩, h3]; rfl
def GPow (h : AHeap) : Prop := (Gpow.all fun x => gIs h x.1 x.2) = true
def GSp (h : AHeap) : Prop := (Gsp.all fun x => gIs h x.1 x.2) = true
variable (om : Nat → Nat) (n : Nat) (h : AHeap)
theorem text_ok (m : Nat) (hm : m < 4294967296) (hG : GPow h) : acall E2 om 10000 (n + 2) (.fn 13) [.int .u32 m] h = some (.string ⟨⟨dec m⟩⟩, h) := by
  refine ntext_0 om (n + 1) m h _ ?_
  rw [awrap_u64 (by omega) (by omega)]
  exact acall_sig (s := pureSig Gpow F23) rfl (pureSig_eval rfl hG (by
    unfold F23
    simp only
    rw [if_pos ⟨trivial, by omega, by omega⟩, Int.toNat_natCast]))
theorem rtext_ok' (m : Nat) (hm : m < 4294967296) : acall E2 om 10000 (n + 1) (.fn 18) [.int .u32 m] h = some (.string ⟨⟨dec m⟩⟩, h) :=
  acall_sig (s := pureSig [] F18) rfl (pureSig_eval rfl rfl (by
    unfold F18
    simp only
    rw [if_pos ⟨by omega, by omega⟩, Int.toNat_natCast]))
theorem wide_ok (m : Nat) : acall E2 om 10000 (n + 1) (.fn 11) [.int .u32 m] h = some (.bool (decide ((m : Int) > 65535)), h) := nwide_0 om n m h
theorem and_mask (m : Nat) (hm : m < 4294967296) : awrap .u32 ((BitVec.toNat (BitVec.ofInt 32 (m : Int) &&& BitVec.ofInt 32 65535) : Nat) : Int) = ((m % 65536 : Nat) : Int) := by
  have : BitVec.toNat (BitVec.ofInt 32 (m : Int) &&& BitVec.ofInt 32 65535) = m % 65536 := by
    rw [BitVec.toNat_and, BitVec.toNat_ofInt, BitVec.toNat_ofInt]
    have e1 : ((m : Int) % ((2 ^ 32 : Nat) : Int)).toNat = m := by
      rw [show ((2 ^ 32 : Nat) : Int) = 4294967296 by decide]; omega
    have e2 : ((65535 : Int) % ((2 ^ 32 : Nat) : Int)).toNat = 2 ^ 16 - 1 := by decide
    rw [e1, e2, Nat.and_two_pow_sub_one_eq_mod]
  rw [this, awc32]; omega
/-- A number's dotted text. -/
def dotF (m : Nat) : List UInt8 := if m ≤ 65535 then dec m else dec (m / 65536) ++ [46] ++ dec (m % 65536)
theorem dec_len (m : Nat) : (dec m).length ≤ 20 := decF_len 20 m
theorem bs46 : bs [46] = ⟨⟨[46]⟩⟩ := rfl
theorem str_add' {E : AEnv} {t : TypeId} {ok : TypeId → Bool} {lit : Bool} {a b : List UInt8} (hl : a.length + b.length ≤ 9223372036854775807) :
    pureE (abin E.P ok .add t (.string ⟨⟨a⟩⟩) (.string ⟨⟨b⟩⟩) lit) = some (.string ⟨⟨a ++ b⟩⟩, .id) := by
  have e1 : (ByteArray.mk ⟨a⟩).size = a.length := rfl
  have e2 : (ByteArray.mk ⟨b⟩).size = b.length := rfl
  simp only [abin, astr, e1, e2, if_pos hl, W.pureE_some]
theorem dotted_ok (m : Nat) (hm : m < 4294967296) (hG : GPow h) : acall E2 om 10000 (n + 3) (.fn 12) [.int .u32 m] h = some (.string ⟨⟨dotF m⟩⟩, h) := by
  unfold dotF
  by_cases hle : m ≤ 65535
  · rw [if_pos hle]
    exact ndotted_0 om (n + 2) m h _ _ (wide_ok om (n + 1) h m) (by simp; omega) (text_ok om n h m hm hG)
  · rw [if_neg hle]
    have f1 : Int.fdiv (m : Int) 65536 = ((m / 65536 : Nat) : Int) := by rw [Int.fdiv_eq_ediv_of_nonneg _ (by omega)]; omega
    have l1 := dec_len (m / 65536)
    have l2 := dec_len (m % 65536)
    exact ndotted_1 om (n + 2) m h _ ⟨⟨dec (m / 65536)⟩⟩ ⟨⟨dec (m / 65536) ++ [46]⟩⟩ ⟨⟨dec (m % 65536)⟩⟩ ⟨⟨dec (m / 65536) ++ [46] ++ dec (m % 65536)⟩⟩ (wide_ok om (n + 1) h m) (by simp; omega)
      (by rw [f1]; exact text_ok om n h _ (by omega) hG) (by rw [bs46]; exact str_add' (by simp; omega)) (by rw [and_mask m hm]; exact text_ok om n h _ (by omega) hG) (str_add' (by simp; omega))
theorem rdotted_ok (m : Nat) (hm : m < 4294967296) : acall E2 om 10000 (n + 2) (.fn 19) [.int .u32 m] h = some (.string ⟨⟨dotF m⟩⟩, h) := by
  unfold dotF
  by_cases hle : m ≤ 65535
  · rw [if_pos hle]
    exact rdotted_0 om (n + 1) m h _ (by simp; omega) (rtext_ok' om n h m hm)
  · rw [if_neg hle]
    have l1 := dec_len (m / 65536)
    have l2 := dec_len (m % 65536)
    exact rdotted_1 om (n + 1) m h ⟨⟨dec (m / 65536)⟩⟩ ⟨⟨dec (m / 65536) ++ [46]⟩⟩ ⟨⟨dec (m % 65536)⟩⟩ ⟨⟨dec (m / 65536) ++ [46] ++ dec (m % 65536)⟩⟩ (by simp; omega)
      (by rw [show Int.tdiv (m : Int) 65536 = ((m / 65536 : Nat) : Int) from rfl, awc32, Nat.mod_eq_of_lt (by omega)]; exact rtext_ok' om n h _ (by omega)) (by rw [bs46]; exact str_add' (by simp; omega))
      (by rw [show Int.tmod (m : Int) 65536 = ((m % 65536 : Nat) : Int) from rfl]; exact rtext_ok' om n h _ (by omega)) (str_add' (by simp; omega))
def shortF (m : Nat) : Int := if m > 65535 then 23456 else m
theorem short_ok (m : Nat) (hm : m < 4294967296) : acall E2 om 10000 (n + 2) (.fn 10) [.int .u32 m] h = some (.int .u16 (shortF m), h) := by
  unfold shortF
  by_cases hle : m > 65535
  · rw [if_pos hle]; exact nshort_0 om (n + 1) m h _ (wide_ok om n h m) (by simp; omega)
  · rw [if_neg hle]
    have := nshort_1 om (n + 1) m h _ (wide_ok om n h m) (by simp; omega)
    rwa [awrap_u16 (by omega) (by omega)] at this
theorem rshort_ok (m : Nat) (hm : m < 4294967296) : acall E2 om 10000 (n + 1) (.fn 15) [.int .u32 m] h = some (.int .u16 (shortF m), h) := by
  unfold shortF
  by_cases hle : m > 65535
  · rw [if_pos hle]; exact rshort_0 om n m h (by simp; omega)
  · rw [if_neg hle]
    have := rshort_1 om n m h (by simp; omega)
    rwa [awrap_u16 (by omega) (by omega)] at this
theorem kind_ok' (m : Nat) (hm : m < 4294967296) (hG : GSp h) : acall E2 om 10000 (n + 1) (.fn 16) [.int .u32 m] h = some (.int .i64 (kindF m), h) :=
  acall_sig (s := pureSig Gsp F16) rfl (pureSig_eval rfl hG (by
    unfold F16
    simp only
    rw [if_pos ⟨by omega, by omega⟩]))
theorem rkind_ok (m : Nat) (hm : m < 4294967296) : acall E2 om 10000 (n + 1) (.fn 17) [.int .u32 m] h = some (.int .i64 (kindF m), h) := by
  have T : ∀ {p : Prop} [Decidable p], p → decide p = true := fun h => decide_eq_true h
  have F : ∀ {p : Prop} [Decidable p], ¬ p → decide p = false := fun h => decide_eq_false h
  have NE : ∀ {k : Int}, (m : Int) ≠ k → (((m : Int) == k) = false) := fun h => by simpa using h
  by_cases a0 : m = 0
  · subst a0; exact rkind_0 om n 0 h (by decide)
  by_cases a2 : m = 23456
  · subst a2; exact rkind_1 om n 23456 h (by decide) (by decide)
  by_cases a3 : m < 64496
  · have : kindF m = 5 := by unfold kindF; rw [if_neg (by omega), if_neg (by omega), if_neg (by omega), if_neg (by omega)]
    rw [this]
    exact rkind_8 om n m h (NE (by omega)) (NE (by omega)) (F (by omega)) (F (by omega)) (F (by omega)) (F (by omega)) (NE (by omega))
  by_cases a4 : m < 64512
  · have : kindF m = 4 := by unfold kindF; rw [if_neg (by omega), if_neg (by omega), if_neg (by omega), if_pos (by omega)]
    rw [this]
    exact rkind_7 om n m h (NE (by omega)) (NE (by omega)) (F (by omega)) (F (by omega)) (T (by omega)) (T (by omega))
  by_cases a5 : m ≤ 65534
  · have : kindF m = 3 := by unfold kindF; rw [if_neg (by omega), if_neg (by omega), if_pos (by omega)]
    rw [this]
    exact rkind_6 om n m h (NE (by omega)) (NE (by omega)) (T (by omega)) (T (by omega))
  by_cases a6 : m ≤ 65551
  · have : kindF m = 4 := by unfold kindF; rw [if_neg (by omega), if_neg (by omega), if_neg (by omega), if_pos (by omega)]
    rw [this]
    exact rkind_5 om n m h (NE (by omega)) (NE (by omega)) (T (by omega)) (F (by omega)) (F (by omega)) (T (by omega)) (F (by omega)) (T (by omega)) (T (by omega))
  by_cases a7 : m < 4200000000
  · have : kindF m = 5 := by unfold kindF; rw [if_neg (by omega), if_neg (by omega), if_neg (by omega), if_neg (by omega)]
    rw [this]
    exact rkind_4 om n m h (NE (by omega)) (NE (by omega)) (T (by omega)) (F (by omega)) (F (by omega)) (T (by omega)) (F (by omega)) (T (by omega)) (F (by omega)) (NE (by omega))
  by_cases a8 : m ≤ 4294967294
  · have : kindF m = 3 := by unfold kindF; rw [if_neg (by omega), if_neg (by omega), if_pos (by omega)]
    rw [this]
    exact rkind_2 om n m h (NE (by omega)) (NE (by omega)) (T (by omega)) (F (by omega)) (T (by omega)) (T (by omega))
  · have : m = 4294967295 := by omega
    subst this
    exact rkind_3 om n 4294967295 h (by decide) (by decide) (by decide) (by decide) (by decide) (by decide) (by decide) (by decide) (by decide) (by decide) (by decide)
theorem tells_ok : acall E2 om 10000 (n + 1) (.fn 9) [] h = some (.bool true, h) := acall_sig (s := pureSig [] F9) rfl (pureSig_eval rfl rfl rfl)
