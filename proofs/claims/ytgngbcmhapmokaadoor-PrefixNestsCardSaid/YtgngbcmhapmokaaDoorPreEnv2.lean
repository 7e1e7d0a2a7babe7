/- Part of a proof about a Go program: the abstract machine walks its code; no condition. -/
import Derived.Test.YtgngbcmhapmokaaDoorPreItoa
open Go Go.Am Go.Proofs
set_option maxRecDepth 100000
def F37 : List Value → Option Value
  | [.int .i64 n] => if 0 ≤ n ∧ n < 256 then some (.string ⟨⟨dec n.toNat⟩⟩) else none
  | _ => none
def F16 : List Value → Option Value
  | [] => some (.bool true)
  | _ => none
theorem sig101 (E : AEnv) (hP : E.P = Tryd.prog) : SigOk E 101 indexByteSig := by
  obtain ⟨P, _⟩ := E
  subst hP
  obtain ⟨fn, a, b, c, d, e⟩ := f101
  exact indexByte_ok a b c d e
theorem sig37 (E : AEnv) (hP : E1.P = E.P) (hng : E1.ng = E.ng) : SigOk E 37 (pureSig Gpow F37) := pureSig_ok (E := E) (E' := E1) (Gs := Gpow) (F := F37) ok1 hP hng 1000 50 (fun om args v hfl hF => by
  clear hfl
  unfold F37 at hF
  split at hF
  · rename_i n
    split at hF
    · rename_i hc
      injection hF with hF; subst hF
      obtain ⟨m, rfl⟩ := Int.eq_ofNat_of_zero_le hc.1
      exact ⟨rfl, itoa_at om m (by omega)⟩
    · cases hF
  · cases hF)
theorem tellsT (om : Nat → Nat) : show1 (acall E1 om 1000 50 (.fn 16) [] (H0 8 Gpow)) = some true := by kernel_rfl
theorem sig16 (E : AEnv) (hP : E1.P = E.P) (hng : E1.ng = E.ng) : SigOk E 16 (pureSig Gpow F16) := pureSig_ok (E := E) (E' := E1) (Gs := Gpow) (F := F16) ok1 hP hng 1000 50 (fun om args v hfl hF => by
  clear hfl
  unfold F16 at hF
  split at hF
  · injection hF with hF; subst hF
    refine ⟨rfl, ?_⟩
    have := tellsT om
    unfold show1 at this
    split at this
    · rename_i b h' he
      injection this with this; subst this
      exact ⟨h', he⟩
    · cases this
  · cases hF)
