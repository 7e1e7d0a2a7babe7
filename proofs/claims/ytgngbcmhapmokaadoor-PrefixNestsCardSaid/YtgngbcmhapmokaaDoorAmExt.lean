/- The abstract machine: functions that the model stands in for: summaries. -/
import Derived.Test.YtgngbcmhapmokaaDoorAmPure
import Derived.Laws.StandIn
namespace Go.Am
open Go

variable {E : AEnv}

def byteAt (l : List UInt8) (c : Int) : Int :=
  match l.findIdx? (fun b => (b.toNat : Int) == c) with
  | some i => i
  | none => -1
def indexByteSig : List Value → AHeap → Option (Value × AHeap) := fun args h =>
  match args with
  | [.string s, .int .u8 c] => if 0 ≤ c ∧ c < 256 then some (.int .i64 (byteAt s.data.toList c), h) else none
  | _ => none
theorem indexByteSig_keep : ∀ args h v h', indexByteSig args h = some (v, h') → KeepR h h' := by
  intro args h v h' hr
  unfold indexByteSig at hr
  split at hr
  · split at hr
    · injection hr with hr; injection hr with _ hr; subst hr; exact KeepR.refl _
    · cases hr
  · cases hr

theorem find_range (l : List UInt8) (p : UInt8 → Bool) : (List.range l.length).find? (fun i => p (l.getD i 0)) = l.findIdx? p := by
  induction l with
  | nil => rfl
  | cons x l ih =>
    rw [List.length_cons, List.range_succ_eq_map, List.find?_cons, List.findIdx?_cons]
    simp only [List.getD_cons_zero]
    cases hp : p x with
    | true => rfl
    | false =>
      simp only [Bool.false_eq_true, if_false]
      rw [List.find?_map, ← ih]
      simp [Function.comp_def]

theorem find_congr {α : Type} {p q : α → Bool} : ∀ {l : List α}, (∀ x ∈ l, p x = q x) → l.find? p = l.find? q := by
  intro l
  induction l with
  | nil => intro _; rfl
  | cons x l ih =>
    intro h
    rw [List.find?_cons, List.find?_cons, h x (List.mem_cons_self ..), ih fun y hy => h y (List.mem_cons_of_mem _ hy)]

theorem indexByte_ok {f : FuncId} {fn : Func} (hf : E.P.funcs[f]? = some fn) (hname : (fn.name == "runtime.NumGoroutine") = false) (hb : fn.body.isNone = true) (hn : Extern.findNext fn = none) (he : Extern.find fn = some Extern.BytealgIndexByte.indexByte) : SigOk E f indexByteSig := by
  intro args h ρ lim w cargs v h' hr _ hH _ hG hargs
  unfold indexByteSig at hr
  split at hr
  · rename_i s c
    split at hr
    · rename_i hc
      injection hr with hr; injection hr with e1 e2; subst e1 e2
      obtain ⟨u1, l, hq, h1, h2⟩ := hargs.cons_inv
      obtain ⟨u2, l', rfl, h3, h4⟩ := h2.cons_inv
      have := h4.nil_inv; subst this
      have hca : cargs = #[.string s, .int .u8 c] := by
        apply Array.ext'
        rw [hq, h1.string_inv, h3.int_inv]
      subst hca
      refine .inl ⟨.int .i64 (byteAt s.data.toList c), w, ?_, ρ, .flat rfl, hH, PmOut.refl _ _ _, Step.refl _ _ _⟩
      rw [run_callFunc_indexByte hf hname hb hn he]
      have hrun : (Extern.BytealgIndexByte.indexByte #[.string s, .int .u8 c]).run E.P w = .ok (.int .i64 (byteAt s.data.toList c)) w := by
        have hb1 : ∀ x : UInt8, (x == c.toNat.toUInt8) = ((x.toNat : Int) == c) := by
          intro x
          have hx := x.toNat_lt
          have hct : c.toNat.toUInt8.toNat = c.toNat := by
            simp only [Nat.toUInt8, UInt8.toNat_ofNat']
            omega
          rw [Bool.eq_iff_iff, beq_iff_eq, beq_iff_eq, ← UInt8.toNat_inj, hct]
          omega
        have e : (List.range s.size).find? (fun i => s[i]! == c.toNat.toUInt8) = s.data.toList.findIdx? (fun b => (b.toNat : Int) == c) := by
          rw [← find_range]
          have hl : s.size = s.data.toList.length := by simp
          rw [hl]
          refine find_congr fun i hi => ?_
          rw [List.mem_range] at hi
          rw [hb1]
          have : s[i]! = s.data.toList.getD i 0 := by
            have hi' : i < s.size := by rw [hl]; exact hi
            rw [getElem!_pos s i hi', List.getD_eq_getElem?_getD, List.getElem?_eq_getElem hi]
            rfl
          rw [this]
        show (match (List.range s.size).find? (fun i => s[i]! == c.toNat.toUInt8) with | some i => (Pure.pure (goInt i) : Sem Value) | none => Pure.pure (goInt (-1))).run E.P w = _
        rw [e]
        unfold byteAt
        cases s.data.toList.findIdx? (fun b => (b.toNat : Int) == c) <;> rfl
      rw [hrun]; rfl
    · cases hr
  · cases hr
end Go.Am
