/- Part of a proof about a Go program: the abstract machine walks its code; no condition. -/
import Derived.Test.YtjmkmijomlnmaaaDoorNumC7
open Go Go.Am Go.Am.W Go.Proofs
set_option maxRecDepth 100000
/-! ### What the base functions come to, by plain functions -/
def F26 : List Value → Option Value
  | [.string s, .string c] => if c.data.toList = [48, 49, 50, 51, 52, 53, 54, 55, 56, 57] ∧ s.data.toList.length < 10000 then some (.string ⟨⟨trimD s.data.toList⟩⟩) else none
  | _ => none
def F27 : List Value → Option Value
  | [.string s, .int .i64 b, .int .i64 w] => if b = 10 ∧ w = 64 ∧ s.data.toList ≠ [] ∧ s.data.toList.all isDig = true ∧ s.data.toList.length ≤ 19 then some (.tuple #[.int .u64 (val s.data.toList : Nat), .nilIface]) else none
  | _ => none
def F23 : List Value → Option Value
  | [.int .u64 u, .int .i64 b] => if b = 10 ∧ 0 ≤ u ∧ u < 4294967296 then some (.string ⟨⟨dec u.toNat⟩⟩) else none
  | _ => none
def F18 : List Value → Option Value
  | [.int .u32 u] => if 0 ≤ u ∧ u < 4294967296 then some (.string ⟨⟨dec u.toNat⟩⟩) else none
  | _ => none
def F16 : List Value → Option Value
  | [.int .u32 u] => if 0 ≤ u ∧ u < 4294967296 then some (.int .i64 (kindF u)) else none
  | _ => none
def F9 : List Value → Option Value
  | [] => some (.bool true)
  | _ => none
def Gpow : List (Nat × List Value) := [(2, pow10s)]
def Gsp : List (Nat × List Value) := [(0, spansV)]
noncomputable def E2 : AEnv where
  P := Tryd.prog
  eqOk := fun _ => false
  sig := fun f =>
    if f = 62 then some indexByteSig else if f = 26 then some (pureSig [] F26) else if f = 27 then some (pureSig [] F27) else if f = 23 then some (pureSig Gpow F23)
    else if f = 18 then some (pureSig [] F18) else if f = 16 then some (pureSig Gsp F16) else if f = 9 then some (pureSig [] F9) else if f ∈ L1 then none else some (fun _ _ => none)
  share := fun _ _ _ => false
  pairs := fun f r => if f == 53 && r == 1 then [(2, 3)] else if f == 54 && r == 1 then [(2, 3)] else []
  ng := 9
theorem codes2 : (L1.all fun f => match E2.P.funcs[f]? with | some fn => funcOk E2 f fn | none => true) = true := by kernel_rfl
theorem sig26 : SigOk E2 26 (pureSig [] F26) := pureSig_ok (E := E2) (E' := E1) (Gs := []) (F := F26) ok1 rfl rfl 10000 10 (fun om args v hfl hF => by
  clear hfl
  unfold F26 at hF
  split at hF
  · rename_i s c
    obtain ⟨⟨s⟩⟩ := s; obtain ⟨⟨c⟩⟩ := c
    split at hF
    · rename_i hc
      injection hF with hF; subst hF
      refine ⟨rfl, ?_⟩
      obtain ⟨h1, h2⟩ := hc
      simp only at h1 h2
      subst h1
      exact trim_ok om 6 s h2
    · cases hF
  · cases hF)
theorem sig27 : SigOk E2 27 (pureSig [] F27) := pureSig_ok (E := E2) (E' := E1) (Gs := []) (F := F27) ok1 rfl rfl 10000 10 (fun om args v hfl hF => by
  clear hfl
  unfold F27 at hF
  split at hF
  · rename_i s b w
    obtain ⟨⟨s⟩⟩ := s
    split at hF
    · rename_i hc
      injection hF with hF; subst hF
      obtain ⟨rfl, rfl, h1, h2, h3⟩ := hc
      exact ⟨rfl, sparse_ok om 8 s hLit9 h1 h2 h3⟩
    · cases hF
  · cases hF)
theorem sig23 : SigOk E2 23 (pureSig Gpow F23) := pureSig_ok (E := E2) (E' := E1) (Gs := Gpow) (F := F23) ok1 rfl rfl 10000 10 (fun om args v hfl hF => by
  clear hfl
  unfold F23 at hF
  split at hF
  · rename_i u b
    split at hF
    · rename_i hc
      injection hF with hF; subst hF
      obtain ⟨rfl, h1, h2⟩ := hc
      obtain ⟨m, rfl⟩ : ∃ m : Nat, u = m := ⟨u.toNat, by omega⟩
      exact ⟨rfl, sfmt_ok om 6 m (by omega)⟩
    · cases hF
  · cases hF)
theorem sig18 : SigOk E2 18 (pureSig [] F18) := pureSig_ok (E := E2) (E' := E1) (Gs := []) (F := F18) ok1 rfl rfl 10000 10 (fun om args v hfl hF => by
  clear hfl
  unfold F18 at hF
  split at hF
  · rename_i u
    split at hF
    · rename_i hc
      injection hF with hF; subst hF
      obtain ⟨h1, h2⟩ := hc
      obtain ⟨m, rfl⟩ : ∃ m : Nat, u = m := ⟨u.toNat, by omega⟩
      exact ⟨rfl, rtext_ok om 9 m hLit9 (by omega)⟩
    · cases hF
  · cases hF)
theorem sig16 : SigOk E2 16 (pureSig Gsp F16) := pureSig_ok (E := E2) (E' := E1) (Gs := Gsp) (F := F16) ok1 rfl rfl 10000 10 (fun om args v hfl hF => by
  clear hfl
  unfold F16 at hF
  split at hF
  · rename_i u
    split at hF
    · rename_i hc
      injection hF with hF; subst hF
      exact ⟨rfl, kind_ok om 9 u hc.1 hc.2⟩
    · cases hF
  · cases hF)
theorem sig9 : SigOk E2 9 (pureSig [] F9) := pureSig_ok (E := E2) (E' := E1) (Gs := []) (F := F9) ok1 rfl rfl 1000 50 (fun om args v hfl hF => by
  clear hfl
  unfold F9 at hF
  split at hF
  · injection hF with hF; subst hF; exact ⟨rfl, tells' om⟩
  · cases hF)
theorem ok2 : EnvOk E2 := by
  refine EnvOk.mk' ⟨(fun t h => absurd h (by simp [E2])), (fun t h => absurd h (by simp [E2]))⟩ mixed L1 codes2 (fun f hf => ?_) (fun f s hs => ?_) (fun f s hs => ?_)
  · simp only [E2] at hf
    repeat (split at hf; · cases hf)
    split at hf
    · assumption
    · cases hf
  · simp only [E2] at hs
    split at hs
    · injection hs with hs; subst hs; exact indexByteSig_keep
    repeat (split at hs; · injection hs with hs; subst hs; exact pureSig_keep _ _)
    split at hs
    · cases hs
    · injection hs with hs; subst hs; intro _ _ _ _ h; cases h
  · simp only [E2] at hs
    split at hs
    · rename_i h62
      injection hs with hs; subst hs h62
      obtain ⟨fn, a, b, c, d, e⟩ := f62
      exact indexByte_ok a b c d e
    split at hs
    · rename_i hf; injection hs with hs; subst hs hf; exact sig26
    split at hs
    · rename_i hf; injection hs with hs; subst hs hf; exact sig27
    split at hs
    · rename_i hf; injection hs with hs; subst hs hf; exact sig23
    split at hs
    · rename_i hf; injection hs with hs; subst hs hf; exact sig18
    split at hs
    · rename_i hf; injection hs with hs; subst hs hf; exact sig16
    split at hs
    · rename_i hf; injection hs with hs; subst hs hf; exact sig9
    split at hs
    · cases hs
    · injection hs with hs; subst hs; intro _ _ _ _ _ _ _ _ h; cases h
