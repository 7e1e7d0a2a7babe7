/- NumberBack: for every input the law of this name answers true and its arguments read as before; the package variables that its row lists start as the program lays them (the card ties them); no further condition. -/
import Derived.Test.YtjmkmijomlnmaaaDoorCards
import Derived.Test.YtjmkmijomlnmaaaDoorTie
import Derived.WalkKit
import Derived.ProofKit
import Derived.OpenShut
import Derived.ChangeMaps5
import Derived.Deep.DeepHandedRow
import Derived.Deep.DeepWitnessRowRef
import Derived.Lay
import Derived.Test.YtjmkmijomlnmaaaDoorAmFrame
import Derived.Test.YtjmkmijomlnmaaaDoorNumC16
namespace Go.Proofs.YtjmkmijomlnmaaaDoor.numberBack
open Go.ChangeShapes Go.WideShapes Go.ChangeAt Go.RowKit Go.ChangeMaps Go.Am
set_option maxRecDepth 100000
theorem u32_nat {n : Int} (h : (Lit.int .u32 n).wf = true) : ∃ m : Nat, n = m ∧ m < 4294967296 := by
  simp only [Lit.wf, Bool.and_eq_true, decide_eq_true_eq] at h
  have h1 : (0 : Int) ≤ n := h.1
  have h2 : n ≤ (4294967295 : Int) := h.2
  exact ⟨n.toNat, by omega, by omega⟩
theorem own : ownKnob Tryd.prog.godebug = none := by kernel_rfl
theorem gPow : Tryd.prog.globalNamed "internal/strconv.uint64pow10" = some 2 := by kernel_rfl
theorem glob {W : World} (h : laidMetH Tryd.prog Rows.numberBackRow.laid W) : ∀ x ∈ Gpow, ∃ C T fz, W.heap[x.1]? = some (.cells C T fz) ∧ ∀ (i : Nat) (v : Value), x.2[i]? = some v → C[i]? = some v ∧ flat0 v = true := by
  have h : laidMet Tryd.prog Rows.numberBackRow.laid W := h
  intro x hx
  simp only [Gpow, List.mem_cons, List.mem_nil_iff, or_false] at hx
  subst hx
  exact laid_cells (name := "internal/strconv.uint64pow10") (d := Rows.laid_internal_strconv_uint64pow10) (t := 88) h (by simp [Rows.numberBackRow]) gPow (by kernel_rfl) (by kernel_rfl)
theorem pow : GPow (H0 E2.ng Gpow) := by unfold GPow; kernel_rfl
theorem run (om : Nat → Nat) (m0 : Nat) (h0 : m0 < 4294967296) (s1 : ByteArray) : ∃ h', acall E2 om 10000 10000 (.fn 5) [.int .u32 m0, .string s1] (H0 E2.ng Gpow) = some (.bool true, h') :=
  ⟨_, numberBack_run om 9992 _ m0 h0 s1.data.toList pow⟩
theorem contract (H : Type) (enc : TypeId × Value → H) (W : World) (base : Nat) (args : Array Value) (ds gs : List (DataW H)) (before : List MemPlace)
    (hval : ∀ (j : Nat) t v, Tryd.f5.params[j]? = some t → args[j]? = some v → Value.okWide Tryd.prog W .any base t v)
    (hW : DataW.Whole enc Tryd.prog Tryd.f5.params.toList Rows.numberBackSpec.vars false W args.toList ds gs before) (hL : laidMetH Tryd.prog Rows.numberBackRow.laid W) :
    Calls Tryd.prog 5 args W fun e W' => ∃ v, e = .returned v ∧ Rows.numberBackSpec.post enc Tryd.prog Tryd.f5 false true false false W args v W' := by
  have hW' := hW
  obtain ⟨p, q, hA0, hV, rfl, hfz, hnd⟩ := hW
  have hA : DataW.TrodAll enc Tryd.prog W 0 (fun _ => true) true Tryd.f5.params.toList args.toList ds p := hA0
  rw [Tryd.params5] at hA hval
  obtain ⟨v0, vs0, d0, ds0, p0, q0, hargs0, rfl, rfl, k0, r0⟩ := trodAll_cons hA
  obtain ⟨v1, vs1, d1, ds1, p1, q1, hargs1, rfl, rfl, k1, r1⟩ := trodAll_cons r0
  obtain rfl := hargs1
  obtain ⟨rfl, rfl, rfl⟩ := trodAll_nil r1
  obtain rfl : args = #[v0, v1] := by cases args; simp_all
  obtain ⟨rfl, rfl⟩ := trodVars_none hV
  obtain ⟨n0, rfl, rfl, rfl, hwf0⟩ := open_int Tryd.underlying22 (hval 0 22 v0 rfl rfl) k0
  obtain ⟨m0, rfl, h0⟩ := u32_nat hwf0
  obtain ⟨s1, rfl, rfl, rfl, hs1⟩ := open_string Tryd.underlying9 (hval 1 9 v1 rfl rfl) k1
  clear hA0
  simp only [List.append_nil] at hW'
  have walk := law_calls (E := E2) ok2 (fn := Tryd.f5) Tryd.func5 (by kernel_rfl) (by kernel_rfl) 10000 10000 (args := [.int .u32 m0, .string s1]) (W := W) (Gs := Gpow) (fun om => run om m0 h0 s1) rfl (glob hL)
  refine walk.mono fun e W' ⟨he, hg⟩ => ?_
  subst he
  exact ⟨_, rfl, post_kept (pa := []) (pv := []) hW' (fun _ _ _ => trodAll_cons_mk (shut_bool Tryd.underlying4 _) trodAll_mk0) (fun _ _ => (trodAll_cons_mk (shut_int Tryd.underlying22 hwf0) (trodAll_cons_mk (shut_string Tryd.underlying9 hs1) trodAll_mk0))) (fun _ _ => rfl) rfl hg⟩
noncomputable def laidWorld (os : Os) : World := World.laidAll Tryd.prog os Rows.numberBackRow.laid
theorem laid_met (os : Os) : laidMet Tryd.prog Rows.numberBackRow.laid ((laidWorld os).forCall (fun _ _ => 0) ⟨#[], #[.int .u32 0, .string ⟨#[]⟩], []⟩).memory :=
  laidMet_laidAll _ (by kernel_rfl) (by kernel_rfl)
theorem reads (os : Os) {H : Type} (enc : TypeId × Value → H) : ∃ places, DataW.whole enc Tryd.prog ((laidWorld os).forCall (fun _ _ => 0) ⟨#[], #[.int .u32 0, .string ⟨#[]⟩], []⟩).memory Tryd.f5.params.toList Rows.numberBackSpec.vars false (#[.int .u32 0, .string ⟨#[]⟩] : Array Value).toList 8 = some ([.lit (.int .u32 0), .lit (.string [])], [], places) :=
  ⟨[], by kernel_rfl⟩
theorem lifted (os : Os) (started : os.Started) (H : Type) (enc : TypeId × Value → H) (F : Stop.Interp) :
    ReturnsInHanded {} Tryd.checked os 5 .any ((OpenSpec.ofChange Rows.numberBackSpec).preRow enc Tryd.prog Tryd.f5 Rows.numberBackRow.domain false Rows.numberBackRow.laid) (((OpenSpec.ofChange Rows.numberBackSpec).at F).post enc Tryd.prog Tryd.f5 false true false false) := by
  obtain ⟨places, hx⟩ := reads os enc
  refine returnsInHanded_of_row (C := Tryd.checked) (s := OpenSpec.ofChange Rows.numberBackSpec) own started (by kernel_rfl) Tryd.func5
    (witness_row_atRef (enc := enc) (C := Tryd.checked) false (laidWorld os) #[.int .u32 0, .string ⟨#[]⟩] (World.laidAll_os _ _ _) (by kernel_rfl) (by kernel_rfl) (by kernel_rfl)
      (OpenSpec.preRow_of_cond 8 hx (by kernel_rfl) (fun k hk => by cases hk) (by kernel_rfl) (laid_met os))) ?_
  intro W base args ds gs before hval hW _ _ _ hL _ _
  exact contract H enc W base args ds gs before hval hW hL
theorem said : Rows.NumberBackSaid :=
  OpenClaim.holds_of_cond 5 Tryd.f5 rfl rfl rfl rfl rfl rfl rfl ⟨rfl, rfl, rfl, rfl, rfl⟩ rfl rfl rfl rfl rfl (by kernel_rfl) Tryd.func5 (by kernel_rfl)
    (of_decide_eq_true (by kernel_rfl)) (by unfold Func.isWrapper; first | (rw [if_pos (by decide +kernel)]; kernel_rfl) | (rw [if_neg (by decide +kernel)]; exact ⟨rfl, rfl⟩))
    (fun os started H enc _ F => by rw [OpenClaim.pre_eq_preRow]; exact lifted os started H enc F)
theorem plain (f : FuncId) (fn : Func) (hf : Tryd.pinned.checked.prog.funcNamed "consulate/consulatelaw04.NumberBack" = some f) (hfn : Tryd.pinned.checked.prog.funcs[f]? = some fn) :
    true = Tryd.pinned.checked.prog.looks [] ∧ ∀ (j : Nat) t, fn.params[j]? = some t → Tryd.pinned.checked.prog.wantsStandIn t = false := by
  obtain rfl : f = 5 := Option.some.inj ((show Tryd.prog.funcNamed "consulate/consulatelaw04.NumberBack" = some 5 by kernel_rfl).symm.trans hf) |>.symm
  obtain rfl : fn = Tryd.f5 := (Option.some.inj (Tryd.func5.symm.trans hfn)).symm
  refine ⟨by kernel_rfl, fun j t ht => ?_⟩
  rw [Tryd.params5] at ht
  have ht := Array.mem_of_getElem? ht
  simp only [List.mem_toArray, List.mem_cons, List.mem_nil_iff, or_false] at ht
  rcases ht with rfl | rfl
  · exact (show Tryd.prog.wantsStandIn 22 = false by kernel_rfl)
  · exact (show Tryd.prog.wantsStandIn 9 = false by kernel_rfl)
theorem card : Rows.NumberBackCardSaid :=
  Claim7.holds_tied_plain_at .later [] _ _ _ _ said (fun _ h => by cases h) (by kernel_rfl) (fun _ h => by cases h) numberBack_row_tie rfl ⟨rfl, rfl⟩ (by kernel_rfl) rfl plain (by kernel_rfl)
#print axioms card
end Go.Proofs.YtjmkmijomlnmaaaDoor.numberBack
