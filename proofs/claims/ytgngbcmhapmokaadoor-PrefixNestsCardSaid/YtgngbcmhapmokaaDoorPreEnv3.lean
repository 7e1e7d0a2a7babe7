/- Part of a proof about a Go program: the abstract machine walks its code; no condition. -/
import Derived.Test.YtgngbcmhapmokaaDoorPreEnv2
import Derived.Test.YtgngbcmhapmokaaDoorPreC1
import Derived.Test.YtgngbcmhapmokaaDoorAmTable
open Go Go.Am Go.Proofs
set_option maxRecDepth 100000
noncomputable def hNum : AHeap := H0 8 Gpow
def F21 : List Value → Option Value
  | [.int .u32 x, .int .i64 b] => if 0 ≤ x ∧ x < 4294967296 then some (ofV x.toNat b) else none
  | _ => none
def F22 : List Value → Option Value
  | [.agg ⟨[.int .u32 x, .int .i64 b]⟩] => if 0 ≤ x ∧ x < 4294967296 then some (.bool (mayF x.toNat b)) else none
  | _ => none
def F25 : List Value → Option Value
  | [.agg ⟨[.int .u32 x, .int .i64 b]⟩, .int .u32 y] => if (0 ≤ x ∧ x < 4294967296) ∧ 0 ≤ y ∧ y < 4294967296 then some (.bool (hasF x.toNat b y.toNat)) else none
  | _ => none
def F24 : List Value → Option Value
  | [.agg ⟨[.int .u32 x, .int .i64 b]⟩, .agg ⟨[.int .u32 y, .int .i64 d]⟩] => if (0 ≤ x ∧ x < 4294967296) ∧ 0 ≤ y ∧ y < 4294967296 then some (.bool (contF x.toNat b y.toNat d)) else none
  | _ => none
def F26 : List Value → Option Value
  | [.agg ⟨[.int .u32 x, .int .i64 b]⟩, .agg ⟨[.int .u32 y, .int .i64 d]⟩] => some (.int .i64 (cmpF x b y d))
  | _ => none
def F27 : List Value → Option Value
  | [.int .u32 x, .int .i64 k] => if 0 ≤ x ∧ x < 4294967296 then some (.bool (bitF x.toNat k)) else none
  | _ => none
theorem sig21 (E : AEnv) (hP : E1.P = E.P) (hng : E1.ng = E.ng) : SigOk E 21 (gpure [] F21) := gpure_ok (E := E) (E' := E1) (Gs := []) (F := F21) ok1 hP hng 10000 10 (fun om args v hfl hF => by
  clear hfl
  unfold F21 at hF
  split at hF
  · rename_i x b
    split at hF
    · rename_i hc
      injection hF with hF; subst hF
      obtain ⟨m, rfl⟩ := Int.eq_ofNat_of_zero_le hc.1
      exact ⟨rfl, pof_ok om 8 m b (by omega)⟩
    · cases hF
  · cases hF)
theorem sig22 (E : AEnv) (hP : E1.P = E.P) (hng : E1.ng = E.ng) : SigOk E 22 (gpure [] F22) := gpure_ok (E := E) (E' := E1) (Gs := []) (F := F22) ok1 hP hng 10000 10 (fun om args v hfl hF => by
  clear hfl
  unfold F22 at hF
  split at hF
  · rename_i x b
    split at hF
    · rename_i hc
      injection hF with hF; subst hF
      obtain ⟨m, rfl⟩ := Int.eq_ofNat_of_zero_le hc.1
      exact ⟨rfl, may_ok om 7 m b (by omega)⟩
    · cases hF
  · cases hF)
theorem sig25 (E : AEnv) (hP : E1.P = E.P) (hng : E1.ng = E.ng) : SigOk E 25 (gpure [] F25) := gpure_ok (E := E) (E' := E1) (Gs := []) (F := F25) ok1 hP hng 10000 10 (fun om args v hfl hF => by
  clear hfl
  unfold F25 at hF
  split at hF
  · rename_i x b y
    split at hF
    · rename_i hc
      injection hF with hF; subst hF
      obtain ⟨m, rfl⟩ := Int.eq_ofNat_of_zero_le hc.1.1
      obtain ⟨q, rfl⟩ := Int.eq_ofNat_of_zero_le hc.2.1
      exact ⟨rfl, has_ok om 6 m q b (by omega) (by omega)⟩
    · cases hF
  · cases hF)
theorem sig24 (E : AEnv) (hP : E1.P = E.P) (hng : E1.ng = E.ng) : SigOk E 24 (gpure [] F24) := gpure_ok (E := E) (E' := E1) (Gs := []) (F := F24) ok1 hP hng 10000 10 (fun om args v hfl hF => by
  clear hfl
  unfold F24 at hF
  split at hF
  · rename_i x b y d
    split at hF
    · rename_i hc
      injection hF with hF; subst hF
      obtain ⟨m, rfl⟩ := Int.eq_ofNat_of_zero_le hc.1.1
      obtain ⟨q, rfl⟩ := Int.eq_ofNat_of_zero_le hc.2.1
      exact ⟨rfl, cont_ok om 5 m q b d (by omega) (by omega)⟩
    · cases hF
  · cases hF)
theorem sig26 (E : AEnv) (hP : E1.P = E.P) (hng : E1.ng = E.ng) : SigOk E 26 (gpure [] F26) := gpure_ok (E := E) (E' := E1) (Gs := []) (F := F26) ok1 hP hng 10000 10 (fun om args v hfl hF => by
  clear hfl
  unfold F26 at hF
  split at hF
  · rename_i x b y d
    injection hF with hF; subst hF
    exact ⟨rfl, comp_ok om 7 x y b d⟩
  · cases hF)
theorem sig27 (E : AEnv) (hP : E1.P = E.P) (hng : E1.ng = E.ng) : SigOk E 27 (gpure [] F27) := gpure_ok (E := E) (E' := E1) (Gs := []) (F := F27) ok1 hP hng 10000 10 (fun om args v hfl hF => by
  clear hfl
  unfold F27 at hF
  split at hF
  · rename_i x b
    split at hF
    · rename_i hc
      injection hF with hF; subst hF
      obtain ⟨m, rfl⟩ := Int.eq_ofNat_of_zero_le hc.1
      exact ⟨rfl, pbit_ok om 9 m b (by omega)⟩
    · cases hF
  · cases hF)
noncomputable def E3_T : List (Nat × Sg) := [(46, splitSig), (38, joinSig), (48, pureSig [] atoiF), (101, indexByteSig), (37, pureSig Gpow F37), (16, pureSig Gpow F16), (21, gpure [] F21), (22, gpure [] F22), (25, gpure [] F25), (24, gpure [] F24), (26, gpure [] F26), (27, gpure [] F27)]
noncomputable def E3 : AEnv where
  P := Tryd.prog
  eqOk := fun t => t == 31 || t == 35
  sig := sigOf E3_T L1
  share := fun _ _ _ => false
  pairs := prs
  ng := 8
theorem mixed3 : E3.P.follows .mixedOrders = true := by kernel_rfl
theorem codes3 : (L1.all fun f => match E3.P.funcs[f]? with | some fn => funcOk E3 f fn | none => true) = true := by kernel_rfl
theorem ok3 : EnvOk E3 := EnvOk.table (T := E3_T) (L := L1) rfl eqok mixed3 codes3 (sgood (splitSig_keep) (sig46 _ rfl) (sgood (joinSig_keep) (sig38 _ rfl) (sgood (pureSig_keep _ _) (sig48 _ rfl) (sgood (indexByteSig_keep) (sig101 _ rfl) (sgood (pureSig_keep _ _) (sig37 _ rfl rfl) (sgood (pureSig_keep _ _) (sig16 _ rfl rfl) (sgood (gpure_keep _ _) (sig21 _ rfl rfl) (sgood (gpure_keep _ _) (sig22 _ rfl rfl) (sgood (gpure_keep _ _) (sig25 _ rfl rfl) (sgood (gpure_keep _ _) (sig24 _ rfl rfl) (sgood (gpure_keep _ _) (sig26 _ rfl rfl) (sgood (gpure_keep _ _) (sig27 _ rfl rfl) sgood_nil))))))))))))
