/- Part of a proof about a Go program: the abstract machine walks its code; no condition. -/
import Derived.Test.YtgngbcmhapmokaaDoorPreEnv
import Derived.Test.YtgngbcmhapmokaaDoorAmDigits
open Go Go.Am Go.Proofs
set_option maxRecDepth 100000
noncomputable def pow10s : List Value := (List.range 20).map fun k => .int .u64 ((10 ^ k : Nat) : Int)
noncomputable def Gpow : List (Nat × List Value) := [(3, pow10s)]
def isStr (l : List UInt8) : Option (Value × AHeap) → Bool
  | some (.string s, _) => s.data.toList == l
  | _ => false
theorem isStr_eq {l : List UInt8} {r : Option (Value × AHeap)} (h : isStr l r = true) : ∃ h', r = some (.string ⟨⟨l⟩⟩, h') := by
  unfold isStr at h
  split at h
  · rename_i s h'
    rw [beq_iff_eq] at h
    exact ⟨h', by rw [← h]⟩
  · cases h
theorem itoaT (om : Nat → Nat) : ((List.range 256).all fun n => isStr (dec n) (acall E1 om 1000 50 (.fn 37) [.int .i64 n] (H0 8 Gpow))) = true := by kernel_rfl
theorem itoa_at (om : Nat → Nat) (n : Nat) (hn : n < 256) : ∃ h', acall E1 om 1000 50 (.fn 37) [.int .i64 n] (H0 8 Gpow) = some (.string ⟨⟨dec n⟩⟩, h') :=
  isStr_eq (List.all_eq_true.1 (itoaT om) n (List.mem_range.2 hn))
