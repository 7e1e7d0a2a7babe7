/- Part of a proof about a Go program: the abstract machine walks its code; no condition. -/
import Derived.Test.YtjmkmijomlnmaaaDoorNumC12
open Go Go.Am Go.Am.W Go.Proofs
set_option maxRecDepth 100000
/-! ### The two parse alike -/
theorem tw_all {α : Type} {p : α → Bool} {l : List α} (h : l.all p = true) : l.takeWhile p = l := by
  induction l with
  | nil => rfl
  | cons x l ih =>
    simp only [List.all_cons, Bool.and_eq_true] at h
    rw [List.takeWhile_cons, h.1]; simp [ih h.2]
theorem tw_app {α : Type} {p : α → Bool} {a : List α} {x : α} {b : List α} (ha : a.all p = true) (hx : p x = false) : (a ++ x :: b).takeWhile p = a := by
  induction a with
  | nil => simp [hx]
  | cons y a ih =>
    simp only [List.all_cons, Bool.and_eq_true] at ha
    simp [ha.1, ih ha.2]
theorem tw_app_not {α : Type} {p : α → Bool} {a b : List α} (ha : ¬ a.all p = true) : (a ++ b).takeWhile p = a.takeWhile p ∧ (a.takeWhile p).length < a.length := by
  induction a with
  | nil => simp at ha
  | cons y a ih =>
    rw [List.cons_append, List.takeWhile_cons, List.takeWhile_cons]
    cases hy : p y with
    | false => simp
    | true =>
      have : ¬ a.all p = true := fun h => ha (by simp [hy, h])
      obtain ⟨h1, h2⟩ := ih this
      simp [h1, h2]
/-- What a row of digits is, told by its run. -/
theorem rowF_of {l : List UInt8} {p : Nat} {r : List UInt8} (h : (l.drop p).takeWhile isDig = r) : rowF l p = if 10 < r.length ∨ 1 < r.length ∧ r.head? = some 48 then (0, 0) else (val r, r.length) := by
  unfold rowF runF
  rw [h]
  by_cases hr : r.length ≤ 11
  · rw [List.take_of_length_le hr]
  · have h1 : (r.take 11).length = 11 := by rw [List.length_take]; omega
    rw [if_pos (.inl (by omega)), if_pos (.inl (by omega))]
theorem digF_all {l : List UInt8} (h : l.all isDig = true) : digF l = if l = [] ∨ 10 < l.length ∨ 1 < l.length ∧ l.head? = some 48 then none else some (val l) := by
  unfold digF
  by_cases h1 : l = [] ∨ 10 < l.length ∨ 1 < l.length ∧ l.head? = some 48
  · rw [if_pos h1, if_neg]
    rintro ⟨a, b, _, d⟩
    rcases h1 with h1 | h1 | h1
    · exact a h1
    · omega
    · exact d h1
  · rw [if_neg h1, if_pos]
    exact ⟨fun hh => h1 (.inl hh), Nat.le_of_not_lt fun hh => h1 (.inr (.inl hh)), h, fun hh => h1 (.inr (.inr hh))⟩
theorem digF_not {l : List UInt8} (h : ¬ l.all isDig = true) : digF l = none := by
  unfold digF; rw [if_neg (fun hh => h hh.2.2.1)]
theorem dot_not_dig : isDig 46 = false := by decide
theorem cut_split {l : List UInt8} (hD : cutD l = true) : l = cutA l ++ 46 :: cutB l := by
  unfold cutD at hD
  have hD := of_decide_eq_true hD
  have h1 : l[(cutA l).length]? = some l[(cutA l).length] := List.getElem?_eq_getElem hD
  have h2 : notDot l[(cutA l).length] = false := by
    unfold cutA at h1 ⊢
    exact takeWhile_next h1
  have h3 : l[(cutA l).length] = 46 := by unfold notDot at h2; simpa using h2
  have h4 := List.take_append_drop (cutA l).length l
  rw [cutA_take, List.drop_eq_getElem_cons hD, h3] at h4
  exact h4.symm
theorem cutA_noDot (l : List UInt8) : (cutA l).all notDot = true := List.all_takeWhile
/-- A row that does not take all of what is ahead of a byte that is no digit. -/
theorem parse_eq (l : List UInt8) : parseF l = rparseF l := by
  unfold parseF
  cases hD : cutD l with
  | false =>
    rw [if_neg (by simp)]
    have hnd : l.all notDot = true := by have := cutA_noDot l; rw [cutA_all hD] at this; exact this
    unfold rparseF
    by_cases hall : l.all isDig = true
    · have hr := rowF_of (l := l) (p := 0) (r := l) (by rw [List.drop_zero]; exact tw_all hall)
      rw [digF_all hall, hr]
      by_cases h0 : l = []
      · subst h0; rfl
      · have hpos : 0 < l.length := by cases l with | nil => exact absurd rfl h0 | cons => simp
        by_cases h1 : 10 < l.length ∨ 1 < l.length ∧ l.head? = some 48
        · rw [if_pos (.inr h1), if_pos h1]; simp
        · rw [if_neg (by rintro (h | h); exact h0 h; exact h1 h), if_neg h1]
          have e0 : ¬ l.length = 0 := by omega
          simp only [e0, if_false, if_true]
    · rw [digF_not hall]
      simp only
      obtain ⟨t1, t2⟩ := tw_app_not (p := isDig) (a := l) (b := []) hall
      have hr := rowF_of (l := l) (p := 0) (r := l.takeWhile isDig) (by rw [List.drop_zero])
      rw [hr]
      by_cases hq : 10 < (l.takeWhile isDig).length ∨ 1 < (l.takeWhile isDig).length ∧ (l.takeWhile isDig).head? = some 48
      · rw [if_pos hq]; simp
      · rw [if_neg hq]
        simp only
        by_cases h0 : (l.takeWhile isDig).length = 0
        · rw [if_pos h0]
        · rw [if_neg h0, if_neg (by omega), if_pos]
          intro hh
          have := List.all_eq_true.1 hnd 46 (List.mem_of_getElem? hh)
          exact absurd this (by decide)
  | true =>
    rw [if_pos rfl]
    have hl := cut_split hD
    have hnd := cutA_noDot l
    generalize hA : cutA l = a at hl hnd ⊢
    generalize hB : cutB l = b at hl ⊢
    unfold rparseF
    by_cases hall : a.all isDig = true
    · have ht : (l.drop 0).takeWhile isDig = a := by rw [List.drop_zero, hl]; exact tw_app hall dot_not_dig
      have hr := rowF_of ht
      rw [digF_all hall, hr]
      by_cases h0 : a = []
      · subst h0; rfl
      · have hpos : 0 < a.length := by cases a with | nil => exact absurd rfl h0 | cons => simp
        by_cases h1 : 10 < a.length ∨ 1 < a.length ∧ a.head? = some 48
        · rw [if_pos (.inr h1), if_pos h1]; simp
        · rw [if_neg (by rintro (h | h); exact h0 h; exact h1 h), if_neg h1]
          simp only
          have hlen : l.length = a.length + 1 + b.length := by rw [hl]; simp; omega
          rw [if_neg (by omega), if_neg (by omega), if_neg (by rw [hl]; simp)]
          have hdrop : l.drop (a.length + 1) = b := by rw [hl]; simp
          have hr2 := rowF_of (l := l) (p := a.length + 1) (r := b.takeWhile isDig) (by rw [hdrop])
          rw [hr2]
          by_cases hb : b.all isDig = true
          · rw [tw_all hb, digF_all hb]
            by_cases k0 : b = []
            · subst k0; rfl
            · have kpos : 0 < b.length := by cases b with | nil => exact absurd rfl k0 | cons => simp
              by_cases k1 : 10 < b.length ∨ 1 < b.length ∧ b.head? = some 48
              · rw [if_pos (.inr k1), if_pos k1]; simp
              · rw [if_neg (by rintro (h | h); exact k0 h; exact k1 h), if_neg k1]
                have e2 : ¬ (b.length = 0 ∨ a.length + 1 + b.length ≠ l.length) := by omega
                simp only [e2, if_false]
          · rw [digF_not hb]
            obtain ⟨_, t2⟩ := tw_app_not (p := isDig) (a := b) (b := []) hb
            by_cases hq : 10 < (b.takeWhile isDig).length ∨ 1 < (b.takeWhile isDig).length ∧ (b.takeWhile isDig).head? = some 48
            · rw [if_pos hq]; simp
            · rw [if_neg hq]
              simp only
              rw [if_pos (.inr (by omega))]
    · rw [digF_not hall]
      simp only
      obtain ⟨t1, t2⟩ := tw_app_not (p := isDig) (a := a) (b := 46 :: b) hall
      have hr := rowF_of (l := l) (p := 0) (r := a.takeWhile isDig) (by rw [List.drop_zero, hl]; exact t1)
      rw [hr]
      have hlen : l.length = a.length + 1 + b.length := by rw [hl]; simp; omega
      by_cases hq : 10 < (a.takeWhile isDig).length ∨ 1 < (a.takeWhile isDig).length ∧ (a.takeWhile isDig).head? = some 48
      · rw [if_pos hq]; simp
      · rw [if_neg hq]
        simp only
        by_cases h0 : (a.takeWhile isDig).length = 0
        · rw [if_pos h0]
        · rw [if_neg h0, if_neg (by omega), if_pos]
          intro hh
          rw [hl, List.getElem?_append_left t2] at hh
          have := List.all_eq_true.1 hnd 46 (List.mem_of_getElem? hh)
          exact absurd this (by decide)
section
variable (om : Nat → Nat) (n : Nat) (h : AHeap)
theorem first40 (l : List UInt8) (look : Look) : pureE (aslice E2.P look 9 (.string ⟨⟨l⟩⟩) none (some (.int .i64 (if 40 < ((ByteArray.mk ⟨l⟩).size : Int) then 40 else ((ByteArray.mk ⟨l⟩).size : Int)))) none) = some (.string ⟨⟨l.take 40⟩⟩, .id) := by
  rw [bsz]
  by_cases h40 : (40 : Int) < (l.length : Int)
  · rw [if_pos h40]
    have := str_slice (P := E2.P) (look := look) (t := 9) (l := l) (lo := none) (hi := some (.int .i64 40)) (a := 0) (b := 40) (by kernel_rfl) (W.abound_some (i := 40) (by omega) (by omega)) W.abound_none
    simpa using this
  · rw [if_neg h40]
    have := str_slice (P := E2.P) (look := look) (t := 9) (l := l) (lo := none) (hi := some (.int .i64 (l.length : Int))) (a := 0) (b := l.length) (by kernel_rfl) (W.abound_some (by omega) (by omega)) W.abound_none
    rw [this, List.take_of_length_le (show l.length ≤ 40 by omega)]
    simp
theorem numberReads_run (l : List UInt8) : acall E2 om 10000 (n + 7) (.fn 3) [.string ⟨⟨l⟩⟩] h = some (.bool true, h) := by
  have hl : (l.take 40).length < 10000 := by rw [List.length_take]; omega
  have h1 := nparse_ok om n h (l.take 40) hl
  have h2 := rparse_ok om (n + 4) h (l.take 40) hl
  rw [← parse_eq] at h2
  unfold parseV at h1 h2
  exact lreads_0 om (n + 6) _ h _ _ _ _ _ _ (first40 l h.get) h1 h2 (by simp) (by simp) (tells_ok om (n + 5) h)
end
