/- The abstract machine: a function of values without addresses (structs among them), told by a plain function. -/
import Derived.Test.YtgngbcmhapmokaaDoorAmPure
namespace Go.Am
open Go

variable {E E' : AEnv}

theorem LRel.flat1_eq {ρ : Pm} : ∀ {l us : List Value}, l.all flat1 = true → LRel ρ l us → us = l := by
  intro l
  induction l with
  | nil => intro us _ h; exact h.nil_inv
  | cons x l ih =>
    intro us hf h
    obtain ⟨u, r, rfl, h1, h2⟩ := h.cons_inv
    simp only [List.all_cons, Bool.and_eq_true] at hf
    rw [VRel.flat1_eq hf.1 h1, ih hf.2 h2]
theorem LRel.flat1 {ρ : Pm} {l : List Value} (h : ∀ v ∈ l, flat1 v = true) : LRel ρ l l := ⟨rfl, fun _ h1 _ => VRel.flat1 (h _ (List.getElem_mem h1))⟩
def gflat : Value → Bool
  | .tuple vs => vs.toList.all flat1
  | v => flat1 v
theorem gflat_eq {ρ : Pm} {v cv : Value} (hf : gflat v = true) (h : VRel ρ v cv) : cv = v := by
  cases v with
  | tuple vs =>
    obtain ⟨ys, rfl, hr⟩ := h.tuple_inv
    have := hr.flat1_eq hf
    congr 1
    exact Array.ext' this
  | _ => exact VRel.flat1_eq hf h
theorem gflat_rel {ρ : Pm} {v : Value} (hf : gflat v = true) : VRel ρ v v := by
  cases v with
  | tuple vs =>
    simp only [gflat, List.all_eq_true] at hf
    exact VRel.tuple_l (LRel.flat1 hf)
  | _ => exact VRel.flat1 hf
/-- A function of plain values, told by F, where the globals Gs hold what they hold. -/
def gpure (Gs : List (Nat × List Value)) (F : List Value → Option Value) : List Value → AHeap → Option (Value × AHeap) := fun args h =>
  if args.all flat1 = true ∧ (Gs.all fun x => gIs h x.1 x.2) = true then (F args).map fun v => (v, h) else none
theorem gpure_keep (Gs : List (Nat × List Value)) (F : List Value → Option Value) : ∀ args h v h', gpure Gs F args h = some (v, h') → KeepR h h' := by
  intro args h v h' hr
  unfold gpure at hr
  split at hr
  · obtain ⟨v', _, h2⟩ := Option.map_eq_some_iff.1 hr
    injection h2 with _ h2; subst h2; exact KeepR.refl _
  · cases hr

theorem gpure_ok (hE : EnvOk E') (hP : E'.P = E.P) (hng : E'.ng = E.ng) {f : FuncId} {Gs : List (Nat × List Value)} {F : List Value → Option Value} (k n : Nat)
    (hF : ∀ (om : Nat → Nat) (args : List Value) (v : Value), args.all flat1 = true → F args = some v → gflat v = true ∧ ∃ h', acall E' om k n (.fn f) args (H0 E'.ng Gs) = some (v, h')) : SigOk E f (gpure Gs F) := by
  intro args h ρ lim w cargs v h' hr hlim hH hfree hG hargs
  unfold gpure at hr
  split at hr
  · rename_i hc
    obtain ⟨v', hv', he⟩ := Option.map_eq_some_iff.1 hr
    injection he with e1 e2; subst e1 e2
    obtain ⟨hvf, _⟩ := hF (fun _ => 0) args v' hc.1 hv'
    have hsound := sound hE k n f args (H0 E'.ng Gs) (fun _ => 0) (fun b => if b < E'.ng then ρ b else none) (fun _ => True) w cargs (fun om' _ => by
        obtain ⟨_, h1, q⟩ := hF om' args v' hc.1 hv'
        exact ⟨v', h1, q, fun _ _ => trivial⟩) ?_ ?_ ?_ ?_
    · rw [hP] at hsound
      refine hsound.mono ?_
      rintro cv w' ⟨om', v1, h1, ρ', _, c2, c3, _, _, c6⟩
      obtain ⟨_, h2, hq⟩ := hF om' args v' hc.1 hv'
      have := c2 om' (Agree.refl _ _)
      simp only at this
      rw [hq] at this
      injection this with this; injection this with q1 _; subst q1
      have hcv := gflat_eq hvf c3
      subst hcv
      have hold : ∀ i, i < w.heap.size → w'.heap[i]? = w.heap[i]? := fun i hi => c6.frame i hi fun b pl o _ g2 g3 => by
        rw [H0_get] at g2
        split at g2
        · injection g2 with g2
          subst g2
          unfold gLook at g3
          split at g3 <;> cases g3
        · cases g2
      refine ⟨ρ, gflat_rel hvf, ⟨fun b pl o q1 q2 q3 => ?_, hH.excl⟩, PmOut.refl _ _ _, ⟨PmLe.refl _, c6.size, fun i hi _ => hold i hi, fun b pl o q1 q2 q3 _ => ⟨b, pl, o, q1, q2, q3, rfl⟩, fun b pl o q1 q2 q3 _ => ⟨b, pl, o, q1, q2, q3, rfl⟩, fun b hb => absurd rfl hb, c6.os, c6.tape, c6.output⟩⟩
      obtain ⟨co, r1, r2⟩ := hH.obj b pl o q1 q2 q3
      exact ⟨co, by rw [hold _ (hH.lt q1 q2 q3)]; exact r1, r2⟩
    · refine ⟨fun b pl o q1 q2 q3 => ?_, fun b b' pl pl' o o' _ _ _ q2 _ q3 _ => ?_⟩
      · rw [H0_get] at q2
        split at q2
        · rename_i hb
          injection q2 with q2
          subst q2
          simp only [hb, if_true] at q1
          unfold gLook at q3 ⊢
          split at q3
          · rename_i x hx
            have hxb : x.1 = b := by have := List.find?_some hx; simpa using this
            have hmem := List.mem_of_find?_eq_some hx
            have hg := (List.all_eq_true.1 hc.2) x hmem
            obtain ⟨g1, g2⟩ := gIs_get hg
            rw [hxb] at g1
            obtain ⟨co, r1, r2⟩ := hH.obj b pl _ q1 g1 rfl
            refine ⟨co, r1, ?_⟩
            obtain ⟨s0, C, T, fz, s1, s2, s3, s4, s5⟩ := r2
            refine ⟨s0, C, T, fz, s1, s2, s3, fun i v hv => ?_, fun h => by cases h⟩
            obtain ⟨u, t1, t2⟩ := s4 i v hv
            have hvf : flat0 v = true := List.all_eq_true.1 g2 v (List.mem_of_getElem? hv)
            exact ⟨u, t1, by rw [t2.flat0_eq hvf]; exact .flat hvf⟩
          · cases q3
        · cases q2
      · rw [H0_get] at q2
        split at q2
        · injection q2 with q2
          subst q2
          unfold gLook at q3
          split at q3 <;> cases q3
        · cases q2
    · intro b hb _
      have : ¬ b < E'.ng := Nat.not_lt.2 hb
      simp only [this, if_false]
    · intro g hg
      obtain ⟨pl, q1, q2, q3⟩ := hG g (by rw [← hng]; exact hg)
      exact ⟨pl, by simp only [hg, if_true]; exact q1, q2, q3⟩
    · have := hargs.flat1_eq hc.1
      rw [this]
      exact LRel.flat1 (fun v hv => List.all_eq_true.1 hc.1 v hv)
  · cases hr
end Go.Am
