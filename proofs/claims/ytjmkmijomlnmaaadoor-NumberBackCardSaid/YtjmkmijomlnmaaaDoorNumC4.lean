/- Part of a proof about a Go program: the abstract machine walks its code; no condition. -/
import Derived.Test.YtjmkmijomlnmaaaDoorNumC3
open Go Go.Am Go.Am.W Go.Proofs
set_option maxRecDepth 100000
theorem smalls_get (k : Nat) (hk : k < 100) : smalls.data.toList[2 * k]? = some (dig (k / 10)) ∧ smalls.data.toList[2 * k + 1]? = some (dig k) := by
  have : ∀ k : Fin 100, smalls.data.toList[2 * k.val]? = some (dig (k.val / 10)) ∧ smalls.data.toList[2 * k.val + 1]? = some (dig k.val) := by decide +kernel
  exact this ⟨k, hk⟩
theorem smalls_len : smalls.data.toList.length = 200 := by decide +kernel
theorem dig_congr {a b : Nat} (h : a % 10 = b % 10) : dig a = dig b := by unfold dig; rw [h]
theorem digs36_get (k : Nat) (hk : k < 10) : digs36.data.toList[k]? = some (dig k) := by
  have : ∀ k : Fin 10, digs36.data.toList[k.val]? = some (dig k.val) := by decide +kernel
  exact this ⟨k, hk⟩
theorem take1 {l : List UInt8} {i : Nat} {x : UInt8} (h : l[i]? = some x) : (l.drop i).take 1 = [x] := by
  obtain ⟨hi, rfl⟩ := List.getElem?_eq_some_iff.1 h
  rw [List.drop_eq_getElem_cons hi]; rfl
theorem take2 {l : List UInt8} {i : Nat} {x y : UInt8} (h : l[i]? = some x) (h' : l[i + 1]? = some y) : (l.drop i).take 2 = [x, y] := by
  obtain ⟨hi, rfl⟩ := List.getElem?_eq_some_iff.1 h
  obtain ⟨hi', rfl⟩ := List.getElem?_eq_some_iff.1 h'
  rw [List.drop_eq_getElem_cons hi, List.drop_eq_getElem_cons hi']; rfl
theorem small_ok (om : Nat → Nat) (n m : Nat) (h : AHeap) (hm : m < 100) : acall E1 om 10000 (n + 1) (.fn 39) [.int .i64 m] h = some (.string ⟨⟨dec m⟩⟩, h) := by
  by_cases hlt : m < 10
  · refine small_0 om n m h ⟨⟨dec m⟩⟩ (by simp; omega) ?_
    have hd : dec m = [dig m] := decF_last _ _ hlt
    have := str_slice (P := E1.P) (look := h.get) (t := 9) (l := digs36.data.toList) (lo := some (.int .i64 (m : Int))) (hi := some (.int .i64 (awrap .i64 ((m : Int) + 1)))) (a := m) (b := m + 1) (by kernel_rfl)
      (by rw [awrap_i64 (by omega) (by omega)]; have e := W.abound_some (k := .i64) (i := (m : Int) + 1) (d := 36) (y := 36) (by omega) (by omega); have e2 : digs36.data.toList.length = 36 := by decide +kernel
          rw [e2, e]; congr 1)
      (by have e := W.abound_some (k := .i64) (i := (m : Int)) (d := 0) (y := m + 1) (by omega) (by omega); rw [e]; congr 1)
    rw [hd, this, show m + 1 - m = 1 by omega, take1 (digs36_get m hlt)]
  · refine small_1 om n m h ⟨⟨dec m⟩⟩ (by simp; omega) ?_
    have hd : dec m = [dig (m / 10), dig m] := by
      unfold dec; rw [decF_step _ _ (by omega), decF_last _ _ (by omega)]; rfl
    obtain ⟨g1, g2⟩ := smalls_get m hm
    have e0 : awrap .i64 ((m : Int) * 2) = ((2 * m : Nat) : Int) := by rw [awrap_i64 (by omega) (by omega)]; omega
    have := str_slice (P := E1.P) (look := h.get) (t := 9) (l := smalls.data.toList) (lo := some (.int .i64 (awrap .i64 ((m : Int) * 2)))) (hi := some (.int .i64 (awrap .i64 (awrap .i64 ((m : Int) * 2) + 2)))) (a := 2 * m) (b := 2 * m + 2) (by kernel_rfl)
      (by rw [e0, awrap_i64 (by omega) (by omega), smalls_len, W.abound_some (by omega) (by omega)]; congr 1)
      (by rw [e0, W.abound_some (by omega) (by omega)]; congr 1)
    rw [hd, this, show 2 * m + 2 - 2 * m = 2 by omega, take2 g1 g2]
theorem len8_get (k : Nat) (hk : k < 256) : len8.data.toList[k]? = some (UInt8.ofNat (if k = 0 then 0 else Nat.log2 k + 1)) := by
  have : ∀ k : Fin 256, len8.data.toList[k.val]? = some (UInt8.ofNat (if k.val = 0 then 0 else Nat.log2 k.val + 1)) := by decide +kernel
  exact this ⟨k, hk⟩
theorem len8_at (k : Nat) (hk : k < 256) (hk0 : 0 < k) : ∃ v : Nat, 1 ≤ v ∧ v ≤ 8 ∧ 2 ^ (v - 1) ≤ k ∧ k < 2 ^ v ∧ pureE (aindex E1.P 9 (.string len8) (.int .u8 (awrap .u8 (k : Int)))) = some (.int .u8 (v : Int), .id) := by
  have h1 := Nat.log2_self_le (n := k) (by omega)
  have h2 := Nat.lt_log2_self (n := k)
  have h3 : Nat.log2 k < 8 := (Nat.log2_lt (by omega)).2 (by omega)
  refine ⟨Nat.log2 k + 1, by omega, by omega, by simpa using h1, h2, ?_⟩
  have e : awrap .u8 (k : Int) = (k : Int) := awrap_u8 (by omega) (by omega)
  have hg := len8_get k hk
  rw [if_neg (by omega)] at hg
  rw [e]
  have := str_index (P := E1.P) (t := 9) (l := len8.data.toList) (k := .u8) (i := (k : Int)) (by kernel_rfl) (by omega) (by rw [Int.toNat_natCast]; exact hg)
  have e2 : (UInt8.ofNat (Nat.log2 k + 1)).toNat = Nat.log2 k + 1 := by rw [UInt8.toNat_ofNat']; omega
  rw [e2] at this
  exact this
theorem len64_ok (om : Nat → Nat) (n u : Nat) (h : AHeap) (hu : 0 < u) (hu2 : u < 4294967296) : ∃ L : Nat, 1 ≤ L ∧ L ≤ 32 ∧ 2 ^ (L - 1) ≤ u ∧ u < 2 ^ L ∧ acall E1 om 10000 (n + 1) (.fn 58) [.int .u64 u] h = some (.int .i64 (L : Int), h) := by
  have fd : ∀ (a b : Nat), Int.fdiv (a : Int) (b : Int) = ((a / b : Nat) : Int) := fun a b => by rw [Int.fdiv_eq_ediv_of_nonneg _ (by omega)]; rfl
  have f1 : Int.fdiv (u : Int) 65536 = ((u / 65536 : Nat) : Int) := fd u 65536
  have f2 : Int.fdiv (u : Int) 256 = ((u / 256 : Nat) : Int) := fd u 256
  have f3 : Int.fdiv (Int.fdiv (u : Int) 65536) 256 = ((u / 65536 / 256 : Nat) : Int) := by rw [f1]; exact fd _ 256
  have wrap : ∀ (c v : Nat), c ≤ 24 → v ≤ 8 → awrap .i64 ((c : Int) + awrap .i64 (v : Int)) = ((c + v : Nat) : Int) := fun c v h1 h2 => by
    rw [awrap_i64 (n := (v : Int)) (by omega) (by omega), awrap_i64 (by omega) (by omega)]; omega
  have fin : ∀ (c v d : Nat), c ≤ 24 → 1 ≤ v → v ≤ 8 → d = 2 ^ c → 2 ^ (v - 1) ≤ u / d → u / d < 2 ^ v → 2 ^ (c + v - 1) ≤ u ∧ u < 2 ^ (c + v) := by
    intro c v d _ hv _ hd a b
    subst hd
    have hp : 0 < 2 ^ c := Nat.pos_of_ne_zero (by simp)
    have e1 : 2 ^ (c + v - 1) = 2 ^ (v - 1) * 2 ^ c := by rw [show c + v - 1 = (v - 1) + c by omega, Nat.pow_add]
    have e2 : 2 ^ (c + v) = 2 ^ v * 2 ^ c := by rw [Nat.add_comm, Nat.pow_add]
    rw [e1, e2]
    exact ⟨(Nat.le_div_iff_mul_le hp).1 a, (Nat.div_lt_iff_lt_mul hp).1 b⟩
  by_cases h1 : u ≥ 65536
  · by_cases h2 : u / 65536 ≥ 256
    · obtain ⟨v, a, b, c, d, e⟩ := len8_at (u / 65536 / 256) (by omega) (by omega)
      have := len64_0 om n u h v (by simp; omega) (by simp; omega) (by rw [f1]; simp; omega) (by rw [f3]; exact e)
      rw [show awrap .i64 (24 + awrap .i64 (v : Int)) = ((24 + v : Nat) : Int) from wrap 24 v (by omega) b] at this
      have q := fin 24 v (65536 * 256) (by omega) a b (by decide) (by rw [← Nat.div_div_eq_div_mul]; exact c) (by rw [← Nat.div_div_eq_div_mul]; exact d)
      exact ⟨24 + v, by omega, by omega, q.1, q.2, this⟩
    · obtain ⟨v, a, b, c, d, e⟩ := len8_at (u / 65536) (by omega) (by omega)
      have := len64_1 om n u h v (by simp; omega) (by simp; omega) (by rw [f1]; simp; omega) (by rw [f1]; exact e)
      rw [show awrap .i64 (16 + awrap .i64 (v : Int)) = ((16 + v : Nat) : Int) from wrap 16 v (by omega) b] at this
      have q := fin 16 v 65536 (by omega) a b (by decide) c d
      exact ⟨16 + v, by omega, by omega, q.1, q.2, this⟩
  · by_cases h2 : u ≥ 256
    · obtain ⟨v, a, b, c, d, e⟩ := len8_at (u / 256) (by omega) (by omega)
      have := len64_2 om n u h v (by simp; omega) (by simp; omega) (by simp; omega) (by rw [f2]; exact e)
      rw [show awrap .i64 (8 + awrap .i64 (v : Int)) = ((8 + v : Nat) : Int) from wrap 8 v (by omega) b] at this
      have q := fin 8 v 256 (by omega) a b (by decide) c d
      exact ⟨8 + v, by omega, by omega, q.1, q.2, this⟩
    · obtain ⟨v, a, b, c, d, e⟩ := len8_at u (by omega) (by omega)
      have := len64_3 om n u h v (by simp; omega) (by simp; omega) (by simp; omega) e
      rw [show awrap .i64 (0 + awrap .i64 (v : Int)) = ((0 + v : Nat) : Int) from wrap 0 v (by omega) b] at this
      have q := fin 0 v 1 (by omega) a b (by decide) (by simpa using c) (by simpa using d)
      exact ⟨0 + v, by omega, by omega, q.1, q.2, this⟩
