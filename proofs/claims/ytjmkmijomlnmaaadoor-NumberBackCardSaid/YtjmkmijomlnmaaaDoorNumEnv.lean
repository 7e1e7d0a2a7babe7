/- Part of a proof about a Go program: the abstract machine walks its code; no condition. -/
import Derived.Test.YtjmkmijomlnmaaaDoorAmExt
import Derived.Test.YtjmkmijomlnmaaaDoorAmGuide
import Derived.Test.YtjmkmijomlnmaaaDoorProg
import Derived.KernelRfl
open Go Go.Am Go.Proofs
noncomputable def L1 : List Nat := (List.range 76).filter fun f => !(f == 0 || f == 1 || f == 44 || f == 62)
noncomputable def E1 : AEnv where
  P := Tryd.prog
  eqOk := fun _ => false
  sig := fun f => if f = 62 then some indexByteSig else if f ∈ L1 then none else some (fun _ _ => none)
  share := fun _ _ _ => false
  pairs := fun f r => if f == 53 && r == 1 then [(2, 3)] else if f == 54 && r == 1 then [(2, 3)] else []
  ng := 9
set_option maxRecDepth 100000
theorem mixed : E1.P.follows .mixedOrders = true := by kernel_rfl
theorem codes : (L1.all fun f => match E1.P.funcs[f]? with | some fn => funcOk E1 f fn | none => true) = true := by kernel_rfl
theorem f62 : ∃ fn, Tryd.prog.funcs[62]? = some fn ∧ (fn.name == "runtime.NumGoroutine") = false ∧ fn.body.isNone = true ∧ Extern.findNext fn = none ∧ Extern.find fn = some Extern.BytealgIndexByte.indexByte :=
  ⟨Tryd.prog.funcs[62]!, by kernel_rfl, by kernel_rfl, by kernel_rfl, by kernel_rfl, by kernel_rfl⟩
theorem ok1 : EnvOk E1 := by
  refine EnvOk.mk' ⟨(fun t h => absurd h (by simp [E1])), (fun t h => absurd h (by simp [E1]))⟩ mixed L1 codes (fun f hf => ?_) (fun f s hs => ?_) (fun f s hs => ?_)
  · simp only [E1] at hf
    split at hf
    · cases hf
    · split at hf
      · assumption
      · cases hf
  · simp only [E1] at hs
    split at hs
    · injection hs with hs; subst hs; exact indexByteSig_keep
    · split at hs
      · cases hs
      · injection hs with hs; subst hs; intro _ _ _ _ h; cases h
  · simp only [E1] at hs
    split at hs
    · rename_i h62
      injection hs with hs; subst hs h62
      obtain ⟨fn, a, b, c, d, e⟩ := f62
      exact indexByte_ok a b c d e
    · split at hs
      · cases hs
      · injection hs with hs; subst hs; intro _ _ _ _ _ _ _ _ h; cases h
def show1 : Option (Value × AHeap) → Option Bool
  | some (.bool b, _) => some b
  | _ => none
theorem tells (om : Nat → Nat) : show1 (acall E1 om 1000 50 (.fn 9) [] (H0 9 [])) = some true := by kernel_rfl
theorem tells' (om : Nat → Nat) : ∃ h', acall E1 om 1000 50 (.fn 9) [] (H0 E1.ng []) = some (.bool true, h') := by
  have := tells om
  unfold show1 at this
  split at this
  · rename_i b h' he
    injection this with this; subst this
    exact ⟨h', he⟩
  · cases this
/-- 'tells' answers true, whatever the heap. -/
theorem tells_sig (E : AEnv) (hP : E1.P = E.P) (hng : E1.ng = E.ng) : SigOk E 9 (pureSig [] fun args => match args with | [] => some (.bool true) | _ => none) :=
  pureSig_ok ok1 hP hng 1000 50 (fun om args v _ hF => by
    split at hF
    · injection hF with hF; subst hF; exact ⟨rfl, tells' om⟩
    · cases hF)
