/- Part of a proof about a Go program: the abstract machine walks its code; no condition. -/
import Derived.Test.YtgngbcmhapmokaaDoorAmLib
import Derived.Test.YtgngbcmhapmokaaDoorAmGuide
import Derived.Test.YtgngbcmhapmokaaDoorPreLay
import Derived.Test.YtgngbcmhapmokaaDoorProg
import Derived.KernelRfl
open Go Go.Am Go.Proofs
noncomputable def L1 : List Nat := (List.range 144).filter fun f => !(f == 0 || f == 1 || f == 46 || f == 38 || f == 48 || f == 101)
noncomputable def prs : Nat → Nat → List (Nat × Nat) := fun f r =>
  match [(3, (8, [(10, 11)])), (7, (1, [(7, 9), (7, 11)])), (7, (3, [(2, 3), (2, 4)])), (7, (6, [(2, 4), (2, 5), (12, 14), (12, 15)])), (7, (9, [(2, 5)])), (7, (12, [(2, 3)])), (15, (6, [(4, 8)])), (18, (3, [(2, 5)])), (19, (8, [(5, 7)])), (22, (1, [(0, 5)])), (25, (1, [(6, 9)])), (26, (1, [(4, 6), (4, 8)])), (33, (1, [(13, 14)])), (73, (0, [(8, 12)])), (81, (1, [(2, 3)])), (82, (1, [(2, 3)]))].find? (fun x => x.1 == f && x.2.1 == r) with
  | some x => x.2.2
  | none => []
noncomputable def E1 : AEnv where
  P := Tryd.prog
  eqOk := fun t => t == 31 || t == 35
  sig := fun f => if f = 46 then some splitSig else if f = 38 then some joinSig else if f = 48 then some (pureSig [] atoiF) else if f = 101 then some indexByteSig else if f ∈ L1 then none else some (fun _ _ => none)
  share := fun _ _ _ => false
  pairs := prs
  ng := 8
set_option maxRecDepth 100000
theorem mixed : E1.P.follows .mixedOrders = true := by kernel_rfl
theorem codes : (L1.all fun f => match E1.P.funcs[f]? with | some fn => funcOk E1 f fn | none => true) = true := by kernel_rfl
theorem f101 : ∃ fn, Tryd.prog.funcs[101]? = some fn ∧ (fn.name == "runtime.NumGoroutine") = false ∧ fn.body.isNone = true ∧ Extern.findNext fn = none ∧ Extern.find fn = some Extern.BytealgIndexByte.indexByte :=
  ⟨Tryd.prog.funcs[101]!, by kernel_rfl, by kernel_rfl, by kernel_rfl, by kernel_rfl, by kernel_rfl⟩
theorem eqok : EqOk Tryd.prog (fun t => t == 31 || t == 35) :=
  ⟨fun t h => by
    rcases Bool.or_eq_true_iff.1 h with h | h
    · rw [beq_iff_eq] at h; subst h; kernel_rfl
    · rw [beq_iff_eq] at h; subst h; kernel_rfl,
   fun t h => by
    rcases Bool.or_eq_true_iff.1 h with h | h
    · rw [beq_iff_eq] at h; subst h; kernel_rfl
    · rw [beq_iff_eq] at h; subst h; kernel_rfl⟩
theorem sig46 (E : AEnv) (hP : E.P = Tryd.prog) : SigOk E 46 splitSig := by
  obtain ⟨P, _⟩ := E
  subst hP
  exact split_ok Tryd.lays221 (fun s c w => Any.strings_Index_one { Tryd.lays221 with } s c w) (fun s c w => Any.strings_Count_one { Tryd.lays221 with } s c w) (by kernel_rfl) rfl (enters_of Tryd.lays221.f221 (by kernel_rfl) rfl)
theorem sig38 (E : AEnv) (hP : E.P = Tryd.prog) : SigOk E 38 joinSig := by
  obtain ⟨P, _⟩ := E
  subst hP
  exact join_ok Tryd.lays156 Tryd.Builder_Extra_156 rfl (enters_of Tryd.lays156.f156 (by kernel_rfl) rfl)
theorem sig48 (E : AEnv) (hP : E.P = Tryd.prog) : SigOk E 48 (pureSig [] atoiF) := by
  obtain ⟨P, _⟩ := E
  subst hP
  exact atoi_ok Tryd.lays172 rfl (enters_of Tryd.lays172.f172 (by kernel_rfl) rfl)
theorem ok1 : EnvOk E1 := by
  refine EnvOk.mk' eqok mixed L1 codes (fun f hf => ?_) (fun f s hs => ?_) (fun f s hs => ?_)
  · simp only [E1] at hf
    repeat (split at hf; · cases hf)
    split at hf
    · assumption
    · cases hf
  · simp only [E1] at hs
    split at hs
    · injection hs with hs; subst hs; exact splitSig_keep
    split at hs
    · injection hs with hs; subst hs; exact joinSig_keep
    split at hs
    · injection hs with hs; subst hs; exact pureSig_keep _ _
    split at hs
    · injection hs with hs; subst hs; exact indexByteSig_keep
    split at hs
    · cases hs
    · injection hs with hs; subst hs; intro _ _ _ _ h; cases h
  · simp only [E1] at hs
    split at hs
    · rename_i hf; injection hs with hs; subst hs hf; exact sig46 _ rfl
    split at hs
    · rename_i hf; injection hs with hs; subst hs hf; exact sig38 _ rfl
    split at hs
    · rename_i hf; injection hs with hs; subst hs hf; exact sig48 _ rfl
    split at hs
    · rename_i hf; injection hs with hs; subst hs hf
      obtain ⟨fn, a, b, c, d, e⟩ := f101
      exact indexByte_ok a b c d e
    split at hs
    · cases hs
    · injection hs with hs; subst hs; intro _ _ _ _ _ _ _ _ h; cases h
def show1 : Option (Value × AHeap) → Option Bool
  | some (.bool b, _) => some b
  | _ => none
