/- Part of a proof about a Go program: the abstract machine walks its code; no condition. -/
import Derived.Test.YtjmkmijomlnmaaaDoorNumP1
open Go Go.Am Go.Am.W Go.Proofs
set_option maxRecDepth 100000
def isDig (b : UInt8) : Bool := decide (48 ≤ b.toNat) && decide (b.toNat ≤ 57)
theorem asTab_get (c : Nat) (hc : c < 256) : asTab[c]? = some (.bool (decide (48 ≤ c) && decide (c ≤ 57))) := by
  unfold asTab
  rw [List.getElem?_map, List.getElem?_range hc]; rfl
theorem contains_ok (om : Nat → Nat) (n b : Nat) (own : Bool) (c : UInt8) (h : AHeap) (hg : h.get b = some (.cells asTab 0 own)) :
    acall E1 om 10000 (n + 1) (.fn 47) [.pointer (some ⟨b, 0, none⟩), .int .u8 c.toNat] h = some (.bool (isDig c), h) := by
  have hc := c.toNat_lt
  refine contains_0 om n b 0 c.toNat h _ (isDig c) (arr_at (len := 256) (n := 1) (elem := 4) (by kernel_rfl) (by kernel_rfl) (by omega) (by omega)) ?_
  have : aload E1.P h.get 4 (.pointer (some ⟨b, 0 + (c.toNat : Int).toNat * 1, none⟩)) = some (.bool (isDig c)) :=
    load_cell (n := 1) hg (by kernel_rfl) (by kernel_rfl) (by simp [asTab_get c.toNat (by omega), isDig])
  rw [this]; rfl
def trimL (l : List UInt8) : List UInt8 := l.dropWhile isDig
def trimR (l : List UInt8) : List UInt8 := (l.reverse.dropWhile isDig).reverse
theorem size_pos (x : UInt8) (r : List UInt8) : decide (((⟨⟨x :: r⟩⟩ : ByteArray).size : Int) > 0) = true := by
  have : (⟨⟨x :: r⟩⟩ : ByteArray).size = r.length + 1 := rfl
  rw [this]; simp
theorem tleft_ok (om : Nat → Nat) (n b : Nat) (own : Bool) (l : List UInt8) (h : AHeap) (hg : h.get b = some (.cells asTab 0 own)) (hl : l.length < 10000) :
    acall E1 om 10000 (n + 2) (.fn 33) [.string ⟨⟨l⟩⟩, .pointer (some ⟨b, 0, none⟩)] h = some (.string ⟨⟨trimL l⟩⟩, h) := by
  obtain ⟨tm, hS, rest⟩ := tleft_0 om (n + 1) ⟨⟨l⟩⟩ b 0 h
  refine (fun ⟨tm', e, x⟩ => rest _ tm' e x) (loop_q (body := tleft_L0_B om (n + 1)) (e0 := .exit 0) (k := 10000) (m := l.length) (tm := tm) (h := h) (fun m tm => ∃ r, m = r.length ∧ trimL r = trimL l ∧ tleft_L0_S ⟨⟨r⟩⟩ (.pointer (some ⟨b, 0, none⟩)) tm) (fun tm => tleft_L0_X0 ⟨⟨trimL l⟩⟩ tm) (by simp) (fun m tm hI => ?_) hl ⟨l, rfl, rfl, hS⟩)
  obtain ⟨r, rfl, hr, hS⟩ := hI
  cases r with
  | nil =>
    obtain ⟨tm', q1, q2⟩ := tleft_L0_2 om (n + 1) tm _ _ h hS rfl
    exact .inr ⟨_, q1, by rw [← hr]; exact q2⟩
  | cons x r =>
    have hx : pureE (aindex E1.P 9 (.string ⟨⟨x :: r⟩⟩) (.int .i64 (Int.ofNat 0))) = some (.int .u8 x.toNat, .id) := str_index (by kernel_rfl) (by decide) rfl
    have hc := contains_ok om n b own x h hg
    cases hd : isDig x with
    | false =>
      rw [hd] at hc
      obtain ⟨tm', q1, q2⟩ := tleft_L0_0 om (n + 1) tm _ _ h _ _ hS (size_pos x r) hx hc rfl
      exact .inr ⟨_, q1, by rw [← hr, trimL, List.dropWhile_cons, hd]; exact q2⟩
    | true =>
      rw [hd] at hc
      obtain ⟨tm', q1, q2⟩ := tleft_L0_1 om (n + 1) tm _ _ h _ _ ⟨⟨r⟩⟩ hS (size_pos x r) hx hc rfl (by
        have := str_slice (P := E1.P) (look := h.get) (t := 9) (l := x :: r) (lo := some (.int .i64 (Int.ofNat 1))) (hi := none) (a := 1) (b := r.length + 1) (by kernel_rfl) abound_none (abound_some (by decide) (by simp; omega))
        simpa using this)
      exact .inl ⟨_, r.length, q1, by simp, r, rfl, by rw [← hr, trimL, trimL, List.dropWhile_cons, hd]; rfl, q2⟩
theorem trimR_snoc (r : List UInt8) (x : UInt8) : trimR (r ++ [x]) = if isDig x then trimR r else r ++ [x] := by
  simp only [trimR, List.reverse_append, List.reverse_cons, List.reverse_nil, List.nil_append, List.singleton_append, List.dropWhile_cons]
  split <;> simp
theorem tright_ok (om : Nat → Nat) (n b : Nat) (own : Bool) (l : List UInt8) (h : AHeap) (hg : h.get b = some (.cells asTab 0 own)) (hl : l.length < 10000) :
    acall E1 om 10000 (n + 2) (.fn 34) [.string ⟨⟨l⟩⟩, .pointer (some ⟨b, 0, none⟩)] h = some (.string ⟨⟨trimR l⟩⟩, h) := by
  obtain ⟨tm, hS, rest⟩ := tright_0 om (n + 1) ⟨⟨l⟩⟩ b 0 h
  refine (fun ⟨tm', e, x⟩ => rest _ tm' e x) (loop_q (body := tright_L0_B om (n + 1)) (e0 := .exit 0) (k := 10000) (m := l.length) (tm := tm) (h := h) (fun m tm => ∃ r, m = r.length ∧ m < 10000 ∧ trimR r = trimR l ∧ tright_L0_S ⟨⟨r⟩⟩ (.pointer (some ⟨b, 0, none⟩)) tm) (fun tm => tright_L0_X0 ⟨⟨trimR l⟩⟩ tm) (by simp) (fun m tm hI => ?_) hl ⟨l, rfl, hl, rfl, hS⟩)
  obtain ⟨r, rfl, hlt, hr, hS⟩ := hI
  rcases List.eq_nil_or_concat r with rfl | ⟨r, x, rfl⟩
  · obtain ⟨tm', q1, q2⟩ := tright_L0_2 om (n + 1) tm _ _ h hS rfl
    exact .inr ⟨_, q1, by rw [← hr]; exact q2⟩
  · have hsz : (ByteArray.mk ⟨r ++ [x]⟩).size = r.length + 1 := by show (r ++ [x]).length = _; simp
    have hpos : decide (((⟨⟨r ++ [x]⟩⟩ : ByteArray).size : Int) > 0) = true := by rw [hsz]; simp
    rw [List.concat_eq_append] at hr hS ⊢
    rw [List.concat_eq_append, List.length_append] at hlt
    have hw : awrap .i64 (((ByteArray.mk ⟨r ++ [x]⟩).size : Int) - 1) = r.length := by
      rw [hsz, awrap_i64 (by omega) (by simp at hlt; omega)]; omega
    have hx : pureE (aindex E1.P 9 (.string ⟨⟨r ++ [x]⟩⟩) (.int .i64 (awrap .i64 (((ByteArray.mk ⟨r ++ [x]⟩).size : Int) - 1)))) = some (.int .u8 x.toNat, .id) := by
      rw [hw]; exact str_index (by kernel_rfl) (by omega) (by simp)
    have hc := contains_ok om n b own x h hg
    cases hd : isDig x with
    | false =>
      rw [hd] at hc
      obtain ⟨tm', q1, q2⟩ := tright_L0_0 om (n + 1) tm _ _ h _ _ hS hpos hx hc rfl
      refine .inr ⟨_, q1, ?_⟩
      rw [← hr, trimR_snoc, hd]; exact q2
    | true =>
      rw [hd] at hc
      obtain ⟨tm', q1, q2⟩ := tright_L0_1 om (n + 1) tm _ _ h _ _ ⟨⟨r⟩⟩ hS hpos hx hc rfl (by
        rw [hw]
        have := str_slice (P := E1.P) (look := h.get) (t := 9) (l := r ++ [x]) (lo := none) (hi := some (.int .i64 r.length)) (a := 0) (b := r.length) (by kernel_rfl) (abound_some (by omega) (by simp; omega)) abound_none
        simpa using this)
      exact .inl ⟨_, r.length, q1, by simp, r, rfl, by simp at hlt; omega, by rw [← hr, trimR_snoc, hd]; rfl, q2⟩
def trimD (l : List UInt8) : List UInt8 := trimL (trimR l)
theorem trim_ok (om : Nat → Nat) (n : Nat) (l : List UInt8) (hl : l.length < 10000) : ∃ h', acall E1 om 10000 (n + 4) (.fn 26) [.string ⟨⟨l⟩⟩, cut10] hLit9 = some (.string ⟨⟨trimD l⟩⟩, h') := by
  have hlen : (trimR l).length < 10000 := by
    have : (trimR l).length ≤ l.length := by
      unfold trimR
      have := (List.dropWhile_sublist isDig (l := l.reverse)).length_le
      simpa using this
    omega
  cases l with
  | nil => exact ⟨_, trim_1 om (n + 2) ⟨⟨[]⟩⟩ rfl⟩
  | cons x r => exact ⟨_, trim_0 om (n + 2) _ ⟨⟨trimR (x :: r)⟩⟩ ⟨⟨trimD (x :: r)⟩⟩ rfl (tright_ok om (n + 1) 10 true _ _ rfl hl) (tleft_ok om (n + 1) 10 true _ _ rfl hlen)⟩
