/- Laws for what paths ask: operations on texts, rows of bytes; loops; numbers. -/
import Derived.Test.YtgngbcmhapmokaaDoorAmGuide
namespace Go.Am.W
open Go

/-! ### Loops -/
theorem loop_rule {body : ASt → Option (AExit × ASt)} (I : Nat → ASt → Prop) (Q : AExit → ASt → Prop)
    (hs : ∀ m s, I m s → ∃ e s', body s = some (e, s') ∧ ((e = .normal ∧ ∃ m', m' < m ∧ I m' s') ∨ (e ≠ .normal ∧ Q e s'))) :
    ∀ k m s, m < k → I m s → ∃ e s', aloop body k s = some (e, s') ∧ Q e s' := by
  intro k
  induction k with
  | zero => intro m s h; omega
  | succ k ih =>
    intro m s hm hI
    obtain ⟨e, s', h1, h2⟩ := hs m s hI
    rcases h2 with ⟨rfl, m', h3, h4⟩ | ⟨h3, h4⟩
    · obtain ⟨e', s'', q1, q2⟩ := ih m' s' (by omega) h4
      exact ⟨e', s'', by simp only [aloop, h1]; exact q1, q2⟩
    · refine ⟨e, s', ?_, h4⟩
      simp only [aloop, h1]
      cases e with
      | normal => exact absurd rfl h3
      | _ => rfl

/-- A loop with one way out. -/
theorem loop_to {body : ASt → Option (AExit × ASt)} {e0 : AExit} (I : Nat → Tm → AHeap → Prop) (Q : Tm → AHeap → Prop) (he : e0 ≠ .normal)
    (hs : ∀ m tm h, I m tm h → (∃ tm' h' m', body (tm, h) = some (.normal, tm', h') ∧ m' < m ∧ I m' tm' h') ∨ (∃ tm' h', body (tm, h) = some (e0, tm', h') ∧ Q tm' h'))
    {k m : Nat} {tm : Tm} {h : AHeap} (hm : m < k) (hI : I m tm h) : ∃ tm' h', aloop body k (tm, h) = some (e0, tm', h') ∧ Q tm' h' := by
  obtain ⟨e, s', h1, rfl, h2⟩ := loop_rule (fun m s => I m s.1 s.2) (fun e s => e = e0 ∧ Q s.1 s.2) (fun m s hI => by
    rcases hs m s.1 s.2 hI with ⟨tm', h', m', q1, q2, q3⟩ | ⟨tm', h', q1, q2⟩
    · exact ⟨_, _, q1, .inl ⟨rfl, m', q2, q3⟩⟩
    · exact ⟨_, _, q1, .inr ⟨he, rfl, q2⟩⟩) k m (tm, h) hm hI
  exact ⟨s'.1, s'.2, h1, h2⟩
/-- The same, the heap as it was. -/
theorem loop_q {body : ASt → Option (AExit × ASt)} {e0 : AExit} {h : AHeap} (I : Nat → Tm → Prop) (Q : Tm → Prop) (he : e0 ≠ .normal)
    (hs : ∀ m tm, I m tm → (∃ tm' m', body (tm, h) = some (.normal, tm', h) ∧ m' < m ∧ I m' tm') ∨ (∃ tm', body (tm, h) = some (e0, tm', h) ∧ Q tm'))
    {k m : Nat} {tm : Tm} (hm : m < k) (hI : I m tm) : ∃ tm', aloop body k (tm, h) = some (e0, tm', h) ∧ Q tm' := by
  obtain ⟨tm', h', h1, rfl, h2⟩ := loop_to (fun m tm h' => h' = h ∧ I m tm) (fun tm h' => h' = h ∧ Q tm) he (fun m tm h' hI => by
    obtain ⟨rfl, hI⟩ := hI
    rcases hs m tm hI with ⟨tm', m', q1, q2, q3⟩ | ⟨tm', q1, q2⟩
    · exact .inl ⟨tm', _, m', q1, q2, rfl, q3⟩
    · exact .inr ⟨tm', _, q1, rfl, q2⟩) hm ⟨rfl, hI⟩
  exact ⟨tm', h1, h2⟩

/-! ### Whole numbers -/
theorem awrap_i64 {n : Int} (h1 : -9223372036854775808 ≤ n) (h2 : n < 9223372036854775808) : awrap .i64 n = n := by
  simp only [awrap]; split <;> omega
theorem awrap_u64 {n : Int} (h1 : 0 ≤ n) (h2 : n < 18446744073709551616) : awrap .u64 n = n := by
  simp only [awrap]; omega
theorem awrap_u32 {n : Int} (h1 : 0 ≤ n) (h2 : n < 4294967296) : awrap .u32 n = n := by
  simp only [awrap]; omega
theorem awrap_u16 {n : Int} (h1 : 0 ≤ n) (h2 : n < 65536) : awrap .u16 n = n := by
  simp only [awrap]; omega
theorem awrap_u8 {n : Int} (h1 : 0 ≤ n) (h2 : n < 256) : awrap .u8 n = n := by
  simp only [awrap]; omega

/-! ### Texts -/
theorem pureE_some {v : Value} : pureE (some v) = some (v, .id) := rfl
theorem str_index {P : Program} {t : TypeId} {l : List UInt8} {k : IntKind} {i : Int} {x : UInt8} (ht : P.underlying t = some .string) (hi : 0 ≤ i) (hx : l[i.toNat]? = some x) :
    pureE (aindex P t (.string ⟨⟨l⟩⟩) (.int k i)) = some (.int .u8 x.toNat, .id) := by
  simp only [aindex, ht, if_pos hi, hx, Option.map_some, pureE_some]
theorem str_slice {P : Program} {look : Look} {t : TypeId} {l : List UInt8} {lo hi : Option Value} {a b : Nat} (ht : P.underlying t = some .string) (hh : abound hi l.length l.length = some b) (hl : abound lo 0 b = some a) :
    pureE (aslice P look t (.string ⟨⟨l⟩⟩) lo hi none) = some (.string ⟨⟨(l.drop a).take (b - a)⟩⟩, .id) := by
  have e : (ByteArray.mk ⟨l⟩).size = l.length := rfl
  simp only [aslice, ht, e, hh, hl, pureE_some]
theorem abound_none {d y : Nat} : abound none d y = some d := rfl
theorem abound_some {k : IntKind} {i : Int} {d y : Nat} (h1 : 0 ≤ i) (h2 : i ≤ y) : abound (some (.int k i)) d y = some i.toNat := by
  simp only [abound, h1, h2, and_self, if_true]
theorem eqBytes_mk (a b : List UInt8) : eqBytes ⟨⟨a⟩⟩ ⟨⟨b⟩⟩ = (a == b) := rfl

/-! ### Heaps -/
theorem gpush (h : AHeap) (o : AObj) (b : Nat) (hb : b < h.size) : (h.push o).get b = h.get b := by
  unfold AHeap.get AHeap.push
  simp only [hb, if_true, Nat.lt_succ_of_lt hb, Nat.add_sub_cancel]
  have : h.size - b = (h.size - 1 - b) + 1 := by omega
  rw [this, List.getElem?_cons_succ]
theorem gpush_new (h : AHeap) (o : AObj) : (h.push o).get h.size = some o := by
  unfold AHeap.get AHeap.push
  simp
theorem get_lt {h : AHeap} {b : Nat} {o : AObj} (hg : h.get b = some o) : b < h.size := by
  unfold AHeap.get at hg
  split at hg
  · assumption
  · cases hg

/-- A cell is read. -/
theorem load_cell {P : Program} {h : AHeap} {t : TypeId} {b off n : Nat} {cs : List Value} {esz : Nat} {own : Bool} {v : Value} (hg : h.get b = some (.cells cs esz own)) (ha : aisAgg (P.underlying t) = some false) (hs : asize P t = some n) (hc : cs[off]? = some v) :
    aload P h.get t (.pointer (some ⟨b, off, none⟩)) = some v := by
  simp only [aload, hg, apartT, ha, hs, apart, Bool.false_eq_true, if_false, hc]
theorem arr_at {P : Program} {t elem : TypeId} {len n b off : Nat} {k : IntKind} {i : Int} (ht : P.underlying t = some (.array len elem)) (hn : asize P elem = some n) (h1 : 0 ≤ i) (h2 : i < len) :
    pureE (aindexAt P t (.pointer (some ⟨b, off, none⟩)) (.int k i)) = some (.pointer (some ⟨b, off + i.toNat * n, none⟩), .id) := by
  simp only [aindexAt, ht, hn, h1, h2, and_self, if_true, apt, pureE_some]
theorem slc_at {P : Program} {t elem : TypeId} {len n b off c : Nat} {k : IntKind} {i : Int} (ht : P.underlying t = some (.slice elem)) (hn : asize P elem = some n) (h1 : 0 ≤ i) (h2 : i < len) :
    pureE (aindexAt P t (.slice (some ⟨b, off, none⟩) len c) (.int k i)) = some (.pointer (some ⟨b, off + i.toNat * n, none⟩), .id) := by
  simp only [aindexAt, ht, hn, h1, h2, and_self, if_true, apt, pureE_some]
/-! ### Rows of bytes -/
def byteV (c : UInt8) : Value := .int .u8 c.toNat
def bytesV (l : List UInt8) : List Value := l.map byteV
theorem bytesV_len (l : List UInt8) : (bytesV l).length = l.length := by simp [bytesV]
theorem bytesV_get (l : List UInt8) (i : Nat) : (bytesV l)[i]? = (l[i]?).map byteV := by simp [bytesV]
theorem str_bytes {P : Program} {look : Look} {h : AHeap} {ts tb e : TypeId} {l : List UInt8} (h0' : (P.underlying ts).isSome = true) (h1 : P.underlying tb = some (.slice e)) (h2 : P.underlying e = some (.int .u8)) (h3 : asize P e = some 1) (hl : l.length ≤ 140737488355328) :
    thenH (aconv P look h.size ts tb (.string ⟨⟨l⟩⟩)) h = some (.slice (some ⟨h.size, 0, none⟩) l.length 1, h.push (.cells (bytesV l) 1 true)) := by
  obtain ⟨d, h0⟩ := Option.isSome_iff_exists.1 h0'
  have e : (ByteArray.mk ⟨l⟩).size = l.length := rfl
  simp only [aconv, h0, h1, h2, h3, e, if_pos hl, thenH]
  rfl
theorem abytes_bytesV (l : List UInt8) : abytes (bytesV l) = some l := by
  induction l with
  | nil => rfl
  | cons x l ih =>
    simp only [bytesV, List.map_cons, byteV, abytes]
    have : abytes (List.map byteV l) = some l := ih
    rw [this]
    simp
theorem bytes_str {P : Program} {h : AHeap} {nx : Nat} {ts tb e : TypeId} {cs : List Value} {esz b off n : Nat} {own : Bool} {l : List UInt8} (h0 : P.underlying tb = some .string) (h1 : P.underlying ts = some (.slice e)) (h2 : P.underlying e = some (.int .u8)) (hg : h.get b = some (.cells cs esz own)) (hn : 0 < n) (hl : off + n ≤ cs.length) (hc : (cs.drop off).take n = bytesV l) :
    aconv P h.get nx ts tb (.slice (some ⟨b, off, none⟩) n 1) = some (.string ⟨⟨l⟩⟩, .id) := by
  have hn0 : ¬ n = 0 := by omega
  have hn1 : ¬ (n < n ∨ 1 = 0) := by omega
  simp only [aconv, h0, h1, h2, afirst, Nat.mul_one, if_neg hn0, if_neg hn1, hg, if_pos hl, hc, abytes_bytesV, Option.map_some]
theorem str_add {E : AEnv} {t : TypeId} {ok : TypeId → Bool} {a b : List UInt8} (hl : a.length + b.length ≤ 9223372036854775807) :
    pureE (abin E.P ok .add t (.string ⟨⟨a⟩⟩) (.string ⟨⟨b⟩⟩) false) = some (.string ⟨⟨a ++ b⟩⟩, .id) := by
  have e1 : (ByteArray.mk ⟨a⟩).size = a.length := rfl
  have e2 : (ByteArray.mk ⟨b⟩).size = b.length := rfl
  simp only [abin, astr, e1, e2, if_pos hl, pureE_some]
/-- A slice's length. -/
theorem len_slice {E : AEnv} {t e : TypeId} {look : Look} {nx : Nat} {a : Option Addr} {n c : Nat} (ht : E.P.underlying t = some (.slice e)) : abuiltin E .len [t] [.slice a n c] false look nx = some (.int .i64 n, .id) := by
  simp only [abuiltin, alenOf, ht, Option.map_some]
theorem size_push (h : AHeap) (o : AObj) : (h.push o).size = h.size + 1 := rfl
end Go.Am.W
