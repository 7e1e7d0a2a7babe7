/- PrefixNests: for every input the law of this name answers true and its arguments read as before; the package variables that its row lists start as the program lays them (the card ties them); no further condition. -/
import Derived.Test.YtgngbcmhapmokaaDoorCards
import Derived.Test.YtgngbcmhapmokaaDoorTie
import Derived.WalkKit
import Derived.ProofKit
import Derived.OpenShut
import Derived.ChangeMaps5
import Derived.Deep.DeepHandedRow
import Derived.Deep.DeepWitnessRowRef
import Derived.Lay
import Derived.Lib.SmallJoins
import Derived.Test.YtgngbcmhapmokaaDoorAmFrame1
import Derived.Test.YtgngbcmhapmokaaDoorPreC3
namespace Go.Proofs.YtgngbcmhapmokaaDoor.prefixNests
open Go.ChangeShapes Go.WideShapes Go.ChangeAt Go.RowKit Go.ChangeMaps Go.Joins Go.Am
set_option maxRecDepth 100000
theorem u32_nat {n : Int} (h : (Lit.int .u32 n).wf = true) : ∃ m : Nat, n = m ∧ m < 4294967296 := by
  simp only [Lit.wf, Bool.and_eq_true, decide_eq_true_eq] at h
  have h1 : (0 : Int) ≤ n := h.1
  have h2 : n ≤ (4294967295 : Int) := h.2
  exact ⟨n.toNat, by omega, by omega⟩
theorem own : ownKnob Tryd.prog.godebug = none := by kernel_rfl
theorem gPow : Tryd.prog.globalNamed "internal/strconv.uint64pow10" = some 3 := by kernel_rfl
theorem glob {W : World} (h : laidMetH Tryd.prog Rows.prefixNestsRow.laid W) : ∀ x ∈ Gpow, ∃ C T fz, W.heap[x.1]? = some (.cells C T fz) ∧ ∀ (i : Nat) (v : Value), x.2[i]? = some v → C[i]? = some v ∧ flat0 v = true := by
  have h : laidMet Tryd.prog Rows.prefixNestsRow.laid W := h
  intro x hx
  simp only [Gpow, List.mem_cons, List.mem_nil_iff, or_false] at hx
  subst hx
  exact laid_cells (name := "internal/strconv.uint64pow10") (d := Rows.laid_internal_strconv_uint64pow10) (t := 149) h (by simp [Rows.prefixNestsRow]) gPow (by kernel_rfl) (by kernel_rfl)
theorem pow : GPow (H0 E3.ng Gpow) := by unfold GPow; kernel_rfl
theorem run (om : Nat → Nat) (m0_0 : Nat) (h0_0 : m0_0 < 4294967296) (m0_1 : Int) (m1_0 : Nat) (h1_0 : m1_0 < 4294967296) (m1_1 : Int) (m2 : Nat) (h2 : m2 < 4294967296) : ∃ h', acall E3 om 10000 10000 (.fn 7) [.agg #[.int .u32 m0_0, .int .i64 m0_1], .agg #[.int .u32 m1_0, .int .i64 m1_1], .int .u32 m2] (H0 E3.ng Gpow) = some (.bool true, h') :=
  nests_run om 9998 m0_0 m0_1 m1_0 m1_1 m2 h0_0 h1_0 h2
theorem contract (H : Type) (enc : TypeId × Value → H) (W : World) (base : Nat) (args : Array Value) (ds gs : List (DataW H)) (before : List MemPlace)
    (hval : ∀ (j : Nat) t v, Tryd.f7.params[j]? = some t → args[j]? = some v → Value.okWide Tryd.prog W .any base t v)
    (hW : DataW.Whole enc Tryd.prog Tryd.f7.params.toList Rows.prefixNestsSpec.vars false W args.toList ds gs before) (hL : laidMetH Tryd.prog Rows.prefixNestsRow.laid W) :
    Calls Tryd.prog 7 args W fun e W' => ∃ v, e = .returned v ∧ Rows.prefixNestsSpec.post enc Tryd.prog Tryd.f7 false true false false W args v W' := by
  have hW' := hW
  obtain ⟨p, q, hA0, hV, rfl, hfz, hnd⟩ := hW
  have hA : DataW.TrodAll enc Tryd.prog W 0 (fun _ => true) true Tryd.f7.params.toList args.toList ds p := hA0
  rw [Tryd.params7] at hA hval
  obtain ⟨v0, vs0, d0, ds0, p0, q0, hargs0, rfl, rfl, k0, r0⟩ := trodAll_cons hA
  obtain ⟨v1, vs1, d1, ds1, p1, q1, hargs1, rfl, rfl, k1, r1⟩ := trodAll_cons r0
  obtain rfl := hargs1
  obtain ⟨v2, vs2, d2, ds2, p2, q2, hargs2, rfl, rfl, k2, r2⟩ := trodAll_cons r1
  obtain rfl := hargs2
  obtain ⟨rfl, rfl, rfl⟩ := trodAll_nil r2
  obtain rfl : args = #[v0, v1, v2] := by cases args; simp_all
  obtain ⟨rfl, rfl⟩ := trodVars_none hV
  obtain ⟨f0_0, f0_1, y0_0, y0_1, n0, rfl, rfl, rfl, t0_0, t0_1⟩ := open_agg2 Tryd.underlying31 (by kernel_rfl) (by kernel_rfl) (hval 0 31 v0 rfl rfl) k0
  obtain ⟨n0_0, e0_0, x0_0, hwf0_0⟩ := DataW.trod_int Tryd.underlying24 t0_0
  obtain rfl : f0_0 = .int .u32 n0_0 := by simpa using e0_0
  subst x0_0
  obtain ⟨m0_0, rfl, h0_0⟩ := u32_nat hwf0_0
  obtain ⟨m0_1, e0_1, x0_1, hwf0_1⟩ := DataW.trod_int Tryd.underlying3 t0_1
  obtain rfl : f0_1 = .int .i64 m0_1 := by simpa using e0_1
  subst x0_1
  obtain ⟨f1_0, f1_1, y1_0, y1_1, n1, rfl, rfl, rfl, t1_0, t1_1⟩ := open_agg2 Tryd.underlying31 (by kernel_rfl) (by kernel_rfl) (hval 1 31 v1 rfl rfl) k1
  obtain ⟨n1_0, e1_0, x1_0, hwf1_0⟩ := DataW.trod_int Tryd.underlying24 t1_0
  obtain rfl : f1_0 = .int .u32 n1_0 := by simpa using e1_0
  subst x1_0
  obtain ⟨m1_0, rfl, h1_0⟩ := u32_nat hwf1_0
  obtain ⟨m1_1, e1_1, x1_1, hwf1_1⟩ := DataW.trod_int Tryd.underlying3 t1_1
  obtain rfl : f1_1 = .int .i64 m1_1 := by simpa using e1_1
  subst x1_1
  obtain ⟨n2, rfl, rfl, rfl, hwf2⟩ := open_int Tryd.underlying23 (hval 2 23 v2 rfl rfl) k2
  obtain ⟨m2, rfl, h2⟩ := u32_nat hwf2
  clear hA0
  simp only [List.append_nil] at hW'
  have walk := law_calls1 (E := E3) ok3 (fn := Tryd.f7) Tryd.func7 (by kernel_rfl) (by kernel_rfl) 10000 10000 (args := [.agg #[.int .u32 m0_0, .int .i64 m0_1], .agg #[.int .u32 m1_0, .int .i64 m1_1], .int .u32 m2]) (W := W) (Gs := Gpow) (fun om => run om m0_0 h0_0 m0_1 m1_0 h1_0 m1_1 m2 h2) rfl (glob hL)
  refine walk.mono fun e W' ⟨he, hg⟩ => ?_
  subst he
  exact ⟨_, rfl, post_kept (pa := []) (pv := []) hW' (fun _ _ _ => trodAll_cons_mk (shut_bool Tryd.underlying4 _) trodAll_mk0) (fun _ _ => (trodAll_cons_mk (shut_agg2 Tryd.underlying31 (by kernel_rfl) (by kernel_rfl) ⟨1, trod_int_mk 0 Tryd.underlying24 hwf0_0⟩ ⟨1, trod_int_mk 0 Tryd.underlying3 hwf0_1⟩) (trodAll_cons_mk (shut_agg2 Tryd.underlying31 (by kernel_rfl) (by kernel_rfl) ⟨1, trod_int_mk 0 Tryd.underlying24 hwf1_0⟩ ⟨1, trod_int_mk 0 Tryd.underlying3 hwf1_1⟩) (trodAll_cons_mk (shut_int Tryd.underlying23 hwf2) trodAll_mk0)))) (fun _ _ => rfl) rfl hg⟩
noncomputable def laidWorld (os : Os) : World := World.laidAll Tryd.prog os Rows.prefixNestsRow.laid
theorem laid_met (os : Os) : laidMet Tryd.prog Rows.prefixNestsRow.laid ((laidWorld os).forCall (fun _ _ => 0) ⟨#[], #[.agg #[.int .u32 0, .int .i64 0], .agg #[.int .u32 0, .int .i64 0], .int .u32 0], []⟩).memory :=
  laidMet_laidAll _ (by kernel_rfl) (by kernel_rfl)
theorem reads (os : Os) {H : Type} (enc : TypeId × Value → H) : ∃ places, DataW.whole enc Tryd.prog ((laidWorld os).forCall (fun _ _ => 0) ⟨#[], #[.agg #[.int .u32 0, .int .i64 0], .agg #[.int .u32 0, .int .i64 0], .int .u32 0], []⟩).memory Tryd.f7.params.toList Rows.prefixNestsSpec.vars false (#[.agg #[.int .u32 0, .int .i64 0], .agg #[.int .u32 0, .int .i64 0], .int .u32 0] : Array Value).toList 8 = some ([.agg [.lit (.int .u32 0), .lit (.int .i64 0)], .agg [.lit (.int .u32 0), .lit (.int .i64 0)], .lit (.int .u32 0)], [], places) :=
  ⟨[], by kernel_rfl⟩
theorem lifted (os : Os) (started : os.Started) (H : Type) (enc : TypeId × Value → H) (F : Stop.Interp) :
    ReturnsInHanded {} Tryd.checked os 7 .any ((OpenSpec.ofChange Rows.prefixNestsSpec).preRow enc Tryd.prog Tryd.f7 Rows.prefixNestsRow.domain false Rows.prefixNestsRow.laid) (((OpenSpec.ofChange Rows.prefixNestsSpec).at F).post enc Tryd.prog Tryd.f7 false true false false) := by
  obtain ⟨places, hx⟩ := reads os enc
  refine returnsInHanded_of_row (C := Tryd.checked) (s := OpenSpec.ofChange Rows.prefixNestsSpec) own started (by kernel_rfl) Tryd.func7
    (witness_row_atRef (enc := enc) (C := Tryd.checked) false (laidWorld os) #[.agg #[.int .u32 0, .int .i64 0], .agg #[.int .u32 0, .int .i64 0], .int .u32 0] (World.laidAll_os _ _ _) (by kernel_rfl) (by kernel_rfl) (by kernel_rfl)
      (OpenSpec.preRow_of_cond 8 hx (by kernel_rfl) (fun k hk => by cases hk) (by kernel_rfl) (laid_met os))) ?_
  intro W base args ds gs before hval hW _ _ _ hL _ _
  exact contract H enc W base args ds gs before hval hW hL
theorem said : Rows.PrefixNestsSaid :=
  OpenClaim.holds_of_cond 7 Tryd.f7 rfl rfl rfl rfl rfl rfl rfl ⟨rfl, rfl, rfl, rfl, rfl⟩ rfl rfl rfl rfl rfl (by kernel_rfl) Tryd.func7 (by kernel_rfl)
    (of_decide_eq_true (by kernel_rfl)) (by unfold Func.isWrapper; first | (rw [if_pos (by decide +kernel)]; kernel_rfl) | (rw [if_neg (by decide +kernel)]; exact ⟨rfl, rfl⟩))
    (fun os started H enc _ F => by rw [OpenClaim.pre_eq_preRow]; exact lifted os started H enc F)
theorem plain (f : FuncId) (fn : Func) (hf : Tryd.pinned.checked.prog.funcNamed "consulate/consulatelaw02.PrefixNests" = some f) (hfn : Tryd.pinned.checked.prog.funcs[f]? = some fn) :
    true = Tryd.pinned.checked.prog.looks [] ∧ ∀ (j : Nat) t, fn.params[j]? = some t → Tryd.pinned.checked.prog.wantsStandIn t = false := by
  obtain rfl : f = 7 := Option.some.inj ((show Tryd.prog.funcNamed "consulate/consulatelaw02.PrefixNests" = some 7 by kernel_rfl).symm.trans hf) |>.symm
  obtain rfl : fn = Tryd.f7 := (Option.some.inj (Tryd.func7.symm.trans hfn)).symm
  refine ⟨by kernel_rfl, fun j t ht => ?_⟩
  rw [Tryd.params7] at ht
  have ht := Array.mem_of_getElem? ht
  simp only [List.mem_toArray, List.mem_cons, List.mem_nil_iff, or_false] at ht
  rcases ht with rfl | rfl | rfl
  · exact (show Tryd.prog.wantsStandIn 31 = false by kernel_rfl)
  · exact (show Tryd.prog.wantsStandIn 31 = false by kernel_rfl)
  · exact (show Tryd.prog.wantsStandIn 23 = false by kernel_rfl)
theorem card : Rows.PrefixNestsCardSaid :=
  Claim7.holds_tied_plain_at .later [] _ _ _ _ said (fun _ h => by cases h) (by kernel_rfl) (fun _ h => by cases h) prefixNests_row_tie rfl ⟨rfl, rfl⟩ (by kernel_rfl) rfl plain (by kernel_rfl)
#print axioms card
end Go.Proofs.YtgngbcmhapmokaaDoor.prefixNests
