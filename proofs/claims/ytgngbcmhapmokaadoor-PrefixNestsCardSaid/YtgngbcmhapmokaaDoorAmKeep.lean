/- The abstract machine alone: what an operation looks at and what it turns; what a run leaves as it was. -/
import Derived.Test.YtgngbcmhapmokaaDoorAmDef
namespace Go.Am
open Go

variable {P : Program} {E : AEnv} {look look' : Look} {nx : Nat}

def LookLe (bs : List Nat) (look look' : Look) : Prop := ∀ b ∈ bs, ∀ o, look b = some o → look' b = some o

/-! ### What is looked at -/
theorem aload_loc {t : TypeId} {p v : Value} (hl : LookLe (blockOf p) look look') (h : aload P look t p = some v) : aload P look' t p = some v := by
  unfold aload at h ⊢
  split at h
  · rename_i b off
    split at h
    · rename_i cs esz own hg
      simp only [hl b (by simp [blockOf]) _ hg]; exact h
    · cases h
  · cases h
theorem astore_loc {t : TypeId} {p v : Value} {e : Eff} (hl : LookLe (blockOf p) look look') (h : astore P look t p v = some e) : astore P look' t p v = some e := by
  unfold astore at h ⊢
  split at h
  · rename_i b off
    split at h
    · rename_i cs esz n hg hn
      simp only [hl b (by simp [blockOf]) _ hg, hn]; exact h
    · cases h
  · cases h
theorem afirst_loc {s n : Nat} {x : Value} {l : List Value} (hl : LookLe (blockOf x) look look') (h : afirst look s n x = some l) : afirst look' s n x = some l := by
  unfold afirst at h ⊢
  split at h
  · exact h
  · rename_i b off len c
    split at h
    · rename_i h0; simp only [h0, if_true]; exact h
    · rename_i h0
      split at h
      · cases h
      · rename_i h1
        split at h
        · rename_i cs esz own hg
          simp only [if_neg h0, if_neg h1, hl b (by simp [blockOf]; omega) _ hg]; exact h
        · cases h
  · exact h
  · cases h
theorem aappended_loc {elem : TypeId} {info : TypeInfo} {xd : TypeDesc} {x : Value} {r : Nat × List Value} (hl : LookLe (blockOf x) look look') (h : aappended P look elem info xd x = some r) : aappended P look' elem info xd x = some r := by
  have key : (match alen x with | some n => (afirst look info.size n x).map fun l => (n, l) | none => none) = some r → (match alen x with | some n => (afirst look' info.size n x).map fun l => (n, l) | none => none) = some r := by
    intro h
    split at h
    · rename_i n hn
      obtain ⟨l, h1, h2⟩ := Option.map_eq_some_iff.1 h
      rw [afirst_loc hl h1, Option.map_some, h2]
    · cases h
  cases xd with
  | int k => cases x <;> exact h
  | _ => exact key h

theorem aappend_loc {share : Bool} {sT xT : TypeId} {s x : Value} {r : Value × Eff} (hl : LookLe (blockOf x ++ blockOf s) look look') (h : aappend P share look nx sT xT s x = some r) : aappend P share look' nx sT xT s x = some r := by
  unfold aappend at h ⊢
  split at h
  · rename_i elem base len c ht
    split at h
    · rename_i info xd hi hxd
      split at h
      · cases h
      · rename_i n new happ
        have := aappended_loc (fun b hb => hl b (List.mem_append_left _ hb)) happ
        simp only [this]
        split at h
        · rename_i hf
          rw [if_pos hf]
          split at h
          · rename_i h0; rw [if_pos h0]; exact h
          · rename_i h0
            rw [if_neg h0]
            split at h
            · rename_i h1; rw [if_pos h1]; exact h
            · rename_i h1
              rw [if_neg h1]
              split at h
              · rename_i b off
                split at h
                · rename_i cs esz hg
                  simp only [hl b (List.mem_append_right _ (by simp [blockOf]; omega)) _ hg]; exact h
                · cases h
              · cases h
        · cases h
    · cases h
  · cases h
theorem acopy_loc {dT : TypeId} {d s : Value} {r : Value × Eff} (hl : LookLe (blockOf s ++ blockOf d) look look') (h : acopy P look dT d s = some r) : acopy P look' dT d s = some r := by
  unfold acopy at h ⊢
  split at h
  · rename_i elem base dLen c sLen ht hsl
    split at h
    · rename_i size hsz
      split at h
      · rename_i new hnew
        have := afirst_loc (fun b hb => hl b (List.mem_append_left _ hb)) hnew
        simp only [this]
        split at h
        · rename_i h0; rw [if_pos h0]; exact h
        · rename_i h0
          rw [if_neg h0]
          split at h
          · cases h
          · rename_i h1
            rw [if_neg h1]
            split at h
            · rename_i b off
              split at h
              · rename_i cs esz hg
                simp only [hl b (List.mem_append_right _ (by simp [blockOf]; omega)) _ hg]; exact h
              · cases h
            · cases h
      · cases h
    · cases h
  · cases h
theorem aclear_loc {t : TypeId} {x : Value} {r : Value × Eff} (hl : LookLe (blockOf x) look look') (h : aclear P look t x = some r) : aclear P look' t x = some r := by
  unfold aclear at h ⊢
  split at h
  · exact h
  · exact h
  · rename_i elem b off n c ht
    split at h
    · cases h
    · rename_i h1
      rw [if_neg h1]
      split at h
      · rename_i z cs esz hz hg
        simp only [hz, hl b (by simp [blockOf]; omega) _ hg]; exact h
      · cases h
  · cases h
theorem aslice_loc {t : TypeId} {x : Value} {lo hi mx : Option Value} {v : Value} (hl : ∀ a, x = .pointer (some a) → LookLe [a.block] look look') (h : aslice P look t x lo hi mx = some v) : aslice P look' t x lo hi mx = some v := by
  unfold aslice at h ⊢
  split at h
  · exact h
  · exact h
  · rename_i n elem b off ht
    have hl := hl _ rfl
    split at h
    · rename_i size hsz
      split at h
      · rename_i hh hhi
        split at h
        · rename_i l hlo
          split at h
          · rename_i cs esz own hg
            simp only [hhi, hlo, hl b (by simp) _ hg]; exact h
          · cases h
        · cases h
      · cases h
    · cases h
  · cases h
theorem aconv_loc {src dst : TypeId} {x : Value} {r : Value × Eff} (hl : LookLe (blockOf x) look look') (h : aconv P look nx src dst x = some r) : aconv P look' nx src dst x = some r := by
  unfold aconv at h ⊢
  split at h
  · exact h
  · exact h
  · exact h
  · exact h
  · rename_i e a n c h1 h2
    split at h
    · rename_i h3
      split at h
      · rename_i cs hcs
        simp only [afirst_loc hl hcs]; exact h
      · cases h
    · cases h
  · cases h
theorem aentries_loc {m : Value} {es : List MapEntry} (hl : LookLe (blockOf m) look look') (h : aentries look m = some es) : aentries look' m = some es := by
  unfold aentries at h ⊢
  split at h
  · exact h
  · rename_i r
    split at h
    · rename_i es' c hg
      simp only [hl r (by simp [blockOf]) _ hg]; exact h
    · cases h
  · cases h
theorem alookup_loc {ok : TypeId → Bool} {t : TypeId} {m k v : Value} {c : Bool} (hl : LookLe (blockOf m) look look') (h : alookup P ok look t m k c = some v) : alookup P ok look' t m k c = some v := by
  unfold alookup at h ⊢
  split at h
  · split at h
    · rename_i es z hes hz
      simp only [hz, aentries_loc hl hes]; exact h
    · cases h
  · cases h
theorem aupdate_loc {ok : TypeId → Bool} {t : TypeId} {m k v : Value} {e : Eff} (hl : LookLe (blockOf m) look look') (h : aupdate P ok look t m k v = some e) : aupdate P ok look' t m k v = some e := by
  unfold aupdate at h ⊢
  split at h
  · rename_i kt elem r hu
    split at h
    · rename_i es c hg
      simp only [hl r (by simp [blockOf]) _ hg]; exact h
    · cases h
  · cases h
theorem amapEntry_loc {ok : TypeId → Bool} {t : TypeId} {m k : Value} {r : Value × Eff} (hl : LookLe (blockOf m) look look') (h : amapEntry P ok look t m k = some r) : amapEntry P ok look' t m k = some r := by
  unfold amapEntry at h ⊢
  split at h
  · rename_i kt elem b hu
    split at h
    · rename_i es c z hg hz
      simp only [hz, hl b (by simp [blockOf]) _ hg]; exact h
    · cases h
  · cases h
theorem aentryStore_loc {m s v : Value} {e : Eff} (hl : LookLe (blockOf m) look look') (h : aentryStore look m s v = some e) : aentryStore look' m s v = some e := by
  unfold aentryStore at h ⊢
  split at h
  · rename_i r k n
    split at h
    · rename_i es c hg
      simp only [hl r (by simp [blockOf]) _ hg]; exact h
    · cases h
  · cases h
theorem adelete_loc {ok : TypeId → Bool} {t : TypeId} {m k : Value} {r : Value × Eff} (hl : LookLe (blockOf m) look look') (h : adelete P ok look t m k = some r) : adelete P ok look' t m k = some r := by
  unfold adelete at h ⊢
  split at h
  · exact h
  · rename_i kt elem b hu
    split at h
    · rename_i es c hg
      simp only [hl b (by simp [blockOf]) _ hg]; exact h
    · cases h
  · cases h
theorem arange_loc {t : TypeId} {x : Value} {r : Value × Eff} (hl : LookLe (blockOf x) look look') (h : arange P look nx t x = some r) : arange P look' nx t x = some r := by
  unfold arange at h ⊢
  split at h
  · exact h
  · exact h
  · rename_i kt elem m hu
    split at h
    · rename_i es c hg
      simp only [hl m (by simp [blockOf]) _ hg]; exact h
    · cases h
  · cases h
theorem anext_loc {om : Nat → Nat} {oc : Nat} {it : Value} {s : Bool} {r : Value × Eff} (hl : LookLe (mapOf look it ++ blockOf it) look look') (h : anext om look oc it s = some r) : anext om look' oc it s = some r := by
  unfold anext at h ⊢
  split at h
  · rename_i b
    split at h
    · rename_i s' pos hg
      simp only [hl b (by simp [blockOf]) _ hg]; exact h
    · rename_i a1 a2 a3 hg
      simp only [hl b (by simp [blockOf]) _ hg]; exact h
    · rename_i m since seen last hg
      split at h
      · rename_i es c hgm
        simp only [hl b (by simp [blockOf]) _ hg, hl m (by simp [mapOf, hg]) _ hgm]; exact h
      · cases h
    · cases h
  · cases h
theorem aentry_loc {it v : Value} (hl : LookLe (mapOf look it ++ blockOf it) look look') (h : aentry look it = some v) : aentry look' it = some v := by
  unfold aentry at h ⊢
  split at h
  · rename_i b
    split at h
    · rename_i m since seen last hg
      split at h
      · rename_i st es c hs hgm
        simp only [hl b (by simp [blockOf]) _ hg, hs, hl m (by simp [mapOf, hg]) _ hgm]; exact h
      · cases h
    · cases h
  · cases h
theorem aentries_loc' {x : Value} {es : List MapEntry} (hl : ∀ r, x = .map (some r) → LookLe [r] look look') (h1 : aentries look x = some es) : aentries look' x = some es := by
  cases x with
  | map m =>
    cases m with
    | none => exact h1
    | some r => exact aentries_loc (hl r rfl) h1
  | _ => simp [aentries] at h1
theorem alenOf_loc {t : TypeId} {x v : Value} (hl : ∀ r, x = .map (some r) → LookLe [r] look look') (h : alenOf P look t x = some v) : alenOf P look' t x = some v := by
  unfold alenOf at h ⊢
  split at h
  · exact h
  · exact h
  · exact h
  · rename_i kt e hu
    obtain ⟨es, h1, h2⟩ := Option.map_eq_some_iff.1 h
    rw [aentries_loc' hl h1, Option.map_some, h2]
  · cases h
theorem pureE_loc {x y : Option Value} {r : Value × Eff} (hxy : ∀ v, x = some v → y = some v) (h : pureE x = some r) : pureE y = some r := by
  cases x with
  | none => simp [pureE] at h
  | some v => rw [hxy v rfl]; exact h
theorem unitE_loc {x y : Option Eff} {r : Value × Eff} (hxy : ∀ v, x = some v → y = some v) (h : unitE x = some r) : unitE y = some r := by
  cases x with
  | none => simp [unitE] at h
  | some v => rw [hxy v rfl]; exact h

theorem aop_loc {om : Nat → Nat} {o : Oper} {ev : Operand → Value} {share : Bool} {oc : Nat} {r : Value × Eff} (hl : LookLe ((afoot o ev look).rs ++ (afoot o ev look).ws) look look')
    (h : aop E om o ev share look nx oc = some r) : aop E om o ev share look' nx oc = some r := by
  unfold aop at h ⊢
  unfold afoot at hl
  split at h <;> rename_i hop <;> (try simp only [hop] at hl ⊢)
  all_goals first
    | exact h
    | exact pureE_loc (fun v hv => aload_loc (by simpa using hl) hv) h
    | exact unitE_loc (fun v hv => astore_loc (by simpa using hl) hv) h
    | exact aconv_loc (by simpa using hl) h
    | exact pureE_loc (fun v hv => aslice_loc (fun a ha => by rw [ha] at hl; simpa using hl) hv) h
    | exact pureE_loc (fun v hv => alookup_loc (by simpa using hl) hv) h
    | exact unitE_loc (fun v hv => aupdate_loc (by simpa using hl) hv) h
    | exact amapEntry_loc (by simpa using hl) h
    | exact unitE_loc (fun v hv => aentryStore_loc (by simpa using hl) hv) h
    | exact arange_loc (by simpa using hl) h
    | exact anext_loc (by simpa using hl) h
    | exact pureE_loc (fun v hv => aentry_loc (by simpa using hl) hv) h
    | skip
  rename_i b args argTypes
  generalize args.toList.map ev = l at h hl
  unfold abuiltin at h ⊢
  split at h
  · exact aappend_loc (by simpa using hl) h
  · exact acopy_loc (by simpa using hl) h
  · rename_i x t ht
    obtain ⟨v, h1, h2⟩ := Option.map_eq_some_iff.1 h
    have := alenOf_loc (look' := look') (fun r hr => by subst hr; simpa using hl) h1
    rw [this, Option.map_some, h2]
  · exact h
  · exact h
  · exact h
  · exact aclear_loc (by simpa using hl) h
  · exact adelete_loc (by simpa using hl) h
  · cases h

/-! ### What is turned -/
theorem astore_upd {t : TypeId} {p v : Value} {e : Eff} {b : Nat} {o : AObj} (h : astore P look t p v = some e) (hu : e.upd = some (b, o)) : b ∈ blockOf p ∧ ∃ o0, look b = some o0 := by
  unfold astore at h
  split at h
  · rename_i b' off
    split at h
    · rename_i cs esz n hg hn
      split at h
      · injection h with h; subst h
        simp only [Eff.up, Option.some.injEq, Prod.mk.injEq] at hu
        obtain ⟨rfl, _⟩ := hu
        exact ⟨by simp [blockOf], _, hg⟩
      · cases h
    · cases h
  · cases h
theorem aupdate_upd {ok : TypeId → Bool} {t : TypeId} {m k v : Value} {e : Eff} {b : Nat} {o : AObj} (h : aupdate P ok look t m k v = some e) (hu : e.upd = some (b, o)) : b ∈ blockOf m ∧ ∃ o0, look b = some o0 := by
  unfold aupdate at h
  split at h
  · rename_i kt elem r _
    split at h
    · rename_i es c hg
      have : b = r := by
        split at h
        · split at h
          · split at h
            · injection h with h; subst h; simp only [Eff.up, Option.some.injEq, Prod.mk.injEq] at hu; exact hu.1.symm
            · cases h
          · injection h with h; subst h; simp only [Eff.up, Option.some.injEq, Prod.mk.injEq] at hu; exact hu.1.symm
          · cases h
        · cases h
      subst this
      exact ⟨by simp [blockOf], _, hg⟩
    · cases h
  · cases h
theorem amapEntry_upd {ok : TypeId → Bool} {t : TypeId} {m k v : Value} {e : Eff} {b : Nat} {o : AObj} (h : amapEntry P ok look t m k = some (v, e)) (hu : e.upd = some (b, o)) : b ∈ blockOf m ∧ ∃ o0, look b = some o0 := by
  unfold amapEntry at h
  split at h
  · rename_i kt elem r _
    split at h
    · rename_i es c z hg hz
      have : b = r := by
        split at h
        · split at h
          · split at h
            · injection h with h; injection h with _ h; subst h; simp only [Eff.up, Option.some.injEq, Prod.mk.injEq] at hu; exact hu.1.symm
            · cases h
          · injection h with h; injection h with _ h; subst h; simp only [Eff.up, Option.some.injEq, Prod.mk.injEq] at hu; exact hu.1.symm
          · cases h
        · cases h
      subst this
      exact ⟨by simp [blockOf], _, hg⟩
    · cases h
  · cases h
theorem aentryStore_upd {m s v : Value} {e : Eff} {b : Nat} {o : AObj} (h : aentryStore look m s v = some e) (hu : e.upd = some (b, o)) : b ∈ blockOf m ∧ ∃ o0, look b = some o0 := by
  unfold aentryStore at h
  split at h
  · rename_i r k n
    split at h
    · rename_i es c hg
      split at h
      · injection h with h; subst h; simp only [Eff.up, Option.some.injEq, Prod.mk.injEq] at hu
        obtain ⟨rfl, _⟩ := hu
        exact ⟨by simp [blockOf], _, hg⟩
      · cases h
    · cases h
  · cases h
theorem adelete_upd {ok : TypeId → Bool} {t : TypeId} {m k v : Value} {e : Eff} {b : Nat} {o : AObj} (h : adelete P ok look t m k = some (v, e)) (hu : e.upd = some (b, o)) : b ∈ blockOf m ∧ ∃ o0, look b = some o0 := by
  unfold adelete at h
  split at h
  · split at h
    · injection h with h; injection h with _ h; subst h; simp [Eff.id] at hu
    · cases h
  · rename_i kt elem r _
    split at h
    · rename_i es c hg
      have : b = r := by
        split at h
        · split at h
          · injection h with h; injection h with _ h; subst h; simp only [Eff.up, Option.some.injEq, Prod.mk.injEq] at hu; exact hu.1.symm
          · injection h with h; injection h with _ h; subst h; simp only [Eff.up, Option.some.injEq, Prod.mk.injEq] at hu; exact hu.1.symm
          · cases h
        · cases h
      subst this
      exact ⟨by simp [blockOf], _, hg⟩
    · cases h
  · cases h
theorem anext_upd {om : Nat → Nat} {oc : Nat} {it v : Value} {s : Bool} {e : Eff} {b : Nat} {o : AObj} (h : anext om look oc it s = some (v, e)) (hu : e.upd = some (b, o)) : b ∈ blockOf it ∧ ∃ o0, look b = some o0 := by
  unfold anext at h
  split at h
  · rename_i r
    have key : ∀ o0, look r = some o0 → b = r → b ∈ blockOf (.pointer (some ⟨r, 0, none⟩)) ∧ ∃ o0, look b = some o0 := fun o0 h1 h2 => ⟨by simp [blockOf, h2], o0, h2 ▸ h1⟩
    split at h
    · rename_i s' pos hg
      refine key _ hg ?_
      split at h
      · injection h with h; injection h with _ h; subst h; simp only [Eff.up, Option.some.injEq, Prod.mk.injEq] at hu; exact hu.1.symm
      · injection h with h; injection h with _ h; subst h; simp [Eff.id] at hu
    · injection h with h; injection h with _ h; subst h; simp [Eff.id] at hu
    · rename_i m since seen last hg
      refine key _ hg ?_
      split at h
      · split at h
        · cases h
        · split at h
          · injection h with h; injection h with _ h; subst h; simp only [Option.some.injEq, Prod.mk.injEq] at hu; exact hu.1.symm
          · injection h with h; injection h with _ h; subst h; simp at hu
          · cases h
      · cases h
    · cases h
  · cases h
theorem aappend_upd {share : Bool} {sT xT : TypeId} {s x v : Value} {e : Eff} {b : Nat} {o : AObj} (h : aappend P share look nx sT xT s x = some (v, e)) (hu : e.upd = some (b, o)) : b ∈ blockOf s ∧ ∃ o0, look b = some o0 := by
  unfold aappend at h
  split at h
  · rename_i elem base len c ht
    split at h
    · split at h
      · cases h
      · split at h
        · split at h
          · injection h with h; injection h with _ h; subst h; simp [Eff.id] at hu
          · split at h
            · split at h
              · injection h with h; injection h with _ h; subst h; simp [Eff.mk1] at hu
              · cases h
            · rename_i hc
              split at h
              · rename_i b' off
                split at h
                · rename_i cs esz hg
                  have : b = b' := by
                    split at h
                    · split at h
                      · split at h
                        · injection h with h; injection h with _ h; subst h; simp only [Option.some.injEq, Prod.mk.injEq] at hu; exact hu.1.symm
                        · cases h
                      · injection h with h; injection h with _ h; subst h; simp only [Option.some.injEq, Prod.mk.injEq] at hu; exact hu.1.symm
                    · cases h
                  subst this
                  exact ⟨by simp [blockOf, hc], _, hg⟩
                · cases h
              · cases h
        · cases h
    · cases h
  · cases h
theorem acopy_upd {dT : TypeId} {d s v : Value} {e : Eff} {b : Nat} {o : AObj} (h : acopy P look dT d s = some (v, e)) (hu : e.upd = some (b, o)) : b ∈ blockOf d ∧ ∃ o0, look b = some o0 := by
  unfold acopy at h
  split at h
  · split at h
    · split at h
      · split at h
        · injection h with h; injection h with _ h; subst h; simp [Eff.id] at hu
        · split at h
          · cases h
          · rename_i hc
            split at h
            · rename_i b' off
              split at h
              · rename_i cs esz hg
                split at h
                · injection h with h; injection h with _ h; subst h; simp only [Eff.up, Option.some.injEq, Prod.mk.injEq] at hu
                  obtain ⟨rfl, _⟩ := hu
                  exact ⟨by simp [blockOf, hc], _, hg⟩
                · cases h
              · cases h
            · cases h
      · cases h
    · cases h
  · cases h
theorem aclear_upd {t : TypeId} {x v : Value} {e : Eff} {b : Nat} {o : AObj} (h : aclear P look t x = some (v, e)) (hu : e.upd = some (b, o)) : b ∈ blockOf x ∧ ∃ o0, look b = some o0 := by
  unfold aclear at h
  split at h
  · injection h with h; injection h with _ h; subst h; simp [Eff.id] at hu
  · injection h with h; injection h with _ h; subst h; simp [Eff.id] at hu
  · split at h
    · cases h
    · rename_i hc
      split at h
      · rename_i z cs esz hz hg
        split at h
        · injection h with h; injection h with _ h; subst h; simp only [Eff.up, Option.some.injEq, Prod.mk.injEq] at hu
          obtain ⟨rfl, _⟩ := hu
          exact ⟨by simp [blockOf, hc], _, hg⟩
        · cases h
      · cases h
  · cases h

theorem pureE_upd {x : Option Value} {v : Value} {e : Eff} (h : pureE x = some (v, e)) : e.upd = none := by
  cases x with
  | none => simp [pureE] at h
  | some y => simp [pureE] at h; rw [← h.2]; rfl
theorem unitE_eff {x : Option Eff} {v : Value} {e : Eff} (h : unitE x = some (v, e)) : x = some e := by
  cases x with
  | none => simp [unitE] at h
  | some y => simp [unitE] at h; rw [h.2]
theorem aconv_upd {src dst : TypeId} {x v : Value} {e : Eff} (h : aconv P look nx src dst x = some (v, e)) : e.upd = none := by
  unfold aconv at h
  repeat' split at h
  all_goals first
    | (cases h; done)
    | (injection h with h; injection h with _ h; subst h; rfl)
    | (obtain ⟨_, _, h⟩ := Option.map_eq_some_iff.1 h; injection h with _ h; subst h; rfl)
theorem arange_upd {t : TypeId} {x v : Value} {e : Eff} (h : arange P look nx t x = some (v, e)) : e.upd = none := by
  unfold arange at h
  repeat' split at h
  all_goals first
    | (cases h; done)
    | (injection h with h; injection h with _ h; subst h; rfl)
theorem amakeSlice_upd {t : TypeId} {l c v : Value} {e : Eff} (h : amakeSlice P nx t l c = some (v, e)) : e.upd = none := by
  unfold amakeSlice at h
  repeat' split at h
  all_goals first
    | (cases h; done)
    | (injection h with h; injection h with _ h; subst h; rfl)

theorem aop_upd {om : Nat → Nat} {o : Oper} {ev : Operand → Value} {share : Bool} {oc : Nat} {v : Value} {e : Eff} {b : Nat} {o' : AObj}
    (h : aop E om o ev share look nx oc = some (v, e)) (hu : e.upd = some (b, o')) : b ∈ (afoot o ev look).ws ∧ ∃ o0, look b = some o0 := by
  have no : ∀ {x : Option Value}, pureE x = some (v, e) → False := fun h => by rw [pureE_upd h] at hu; cases hu
  unfold aop at h
  unfold afoot
  split at h <;> rename_i hop <;> (try simp only [hop])
  all_goals first
    | (exact (no h).elim)
    | (injection h with h; injection h with _ h; subst h; cases hu; done)
    | (cases h; done)
    | (obtain ⟨_, _, h⟩ := Option.map_eq_some_iff.1 h; injection h with _ h; subst h; cases hu; done)
    | (exact astore_upd (unitE_eff h) hu)
    | (exact aupdate_upd (unitE_eff h) hu)
    | (exact amapEntry_upd h hu)
    | (exact aentryStore_upd (unitE_eff h) hu)
    | (exact anext_upd h hu)
    | (rw [aconv_upd h] at hu; cases hu; done)
    | (rw [arange_upd h] at hu; cases hu; done)
    | (rw [amakeSlice_upd h] at hu; cases hu; done)
    | skip
  case h_33 b' args argTypes =>
    generalize args.toList.map ev = l at h
    unfold abuiltin at h
    split at h
    · exact aappend_upd h hu
    · exact acopy_upd h hu
    · obtain ⟨_, _, h⟩ := Option.map_eq_some_iff.1 h; injection h with _ h; subst h; cases hu
    · split at h
      · injection h with h; injection h with _ h; subst h; cases hu
      · cases h
    · injection h with h; injection h with _ h; subst h; cases hu
    · injection h with h; injection h with _ h; subst h; cases hu
    · exact aclear_upd h hu
    · exact adelete_upd h hu
    · cases h
  all_goals repeat' split at h
  all_goals first
    | (cases h; done)
    | (exact (no h).elim)
    | (injection h with h; injection h with _ h; subst h; cases hu; done)
    | (obtain ⟨_, _, h⟩ := Option.map_eq_some_iff.1 h; injection h with _ h; subst h; cases hu; done)

/-! ### What may meet -/
theorem afirst_block {s n : Nat} {x : Value} {l : List Value} (_h : afirst look s n x = some l) (hx : ∀ a n c, x ≠ .slice a n c) : ∃ s, x = .string s := by
  cases x with
  | slice a n c => exact absurd rfl (hx _ _ _)
  | string s => exact ⟨s, rfl⟩
  | _ => simp [afirst] at _h

/-- An operation that is quiet by its text touches nothing; one that reads by its text turns nothing. -/
theorem aop_touch {om : Nat → Nat} {o : Oper} {ev : Operand → Value} {share : Bool} {oc : Nat} {r : Value × Eff} (h : aop E om o ev share look nx oc = some r) :
    (touch E.P o.op = .no → (afoot o ev look).rs = [] ∧ (afoot o ev look).ws = []) ∧ (touch E.P o.op = .reads → (afoot o ev look).ws = []) ∧ (afoot o ev look).rAll = false ∧ (afoot o ev look).wlo = 0 ∧ (afoot o ev look).whi = 0 := by
  have fin : ∀ (t : Touch) (f : Foot), f.rAll = false → f.wlo = 0 → f.whi = 0 → ((t = .no → f.rs = [] ∧ f.ws = []) ∧ (t = .reads → f.ws = [])) → (t = .no → f.rs = [] ∧ f.ws = []) ∧ (t = .reads → f.ws = []) ∧ f.rAll = false ∧ f.wlo = 0 ∧ f.whi = 0 :=
    fun t f a b c d => ⟨d.1, d.2, a, b, c⟩
  have rd : ∀ (f : Foot), f.ws = [] → (Touch.reads = .no → f.rs = [] ∧ f.ws = []) ∧ (Touch.reads = .reads → f.ws = []) := fun f h => ⟨(fun h => by cases h), fun _ => h⟩
  have wr : ∀ (f : Foot), (Touch.writes = .no → f.rs = [] ∧ f.ws = []) ∧ (Touch.writes = .reads → f.ws = []) := fun f => ⟨(fun h => by cases h), (fun h => by cases h)⟩
  unfold aop at h
  split at h <;> rename_i hop <;> first | (cases h; done) | (unfold afoot touch; rw [hop])
  all_goals first
    | exact ⟨fun _ => ⟨rfl, rfl⟩, fun _ => rfl, rfl, rfl, rfl⟩
    | exact fin _ _ rfl rfl rfl (rd _ rfl)
    | exact fin _ _ rfl rfl rfl (wr _)
    | (cases h; done)
    | skip
  · rename_i src dst x
    refine fin _ _ rfl rfl rfl ⟨fun h1 => ⟨?_, rfl⟩, fun _ => rfl⟩
    simp only at h1 ⊢
    generalize ev x = y at h
    unfold aconv at h
    split at h <;> first
      | rfl
      | (rename_i hs _; rw [hs] at h1; cases h1; done)
      | (cases h; done)
  · rename_i t x lo hi mx
    dsimp only
    generalize ev x = y at h ⊢
    obtain ⟨v, e⟩ := r
    replace h := (show aslice E.P look t y (lo.map ev) (hi.map ev) (mx.map ev) = some v by
      cases hq : aslice E.P look t y (lo.map ev) (hi.map ev) (mx.map ev) with
      | none => rw [hq] at h; cases h
      | some q => rw [hq] at h; simp [pureE] at h; rw [h.1])
    unfold aslice at h
    split at h
    · exact ⟨fun _ => ⟨rfl, rfl⟩, fun _ => rfl, rfl, rfl, rfl⟩
    · exact ⟨fun _ => ⟨rfl, rfl⟩, fun _ => rfl, rfl, rfl, rfl⟩
    · rename_i hu
      rw [hu]
      exact fin _ _ rfl rfl rfl (rd _ rfl)
    · cases h
  · rename_i t x
    dsimp only
    generalize ev x = y at h ⊢
    unfold arange at h
    split at h
    · exact ⟨fun _ => ⟨rfl, rfl⟩, fun _ => rfl, rfl, rfl, rfl⟩
    · rename_i hu
      rw [hu]
      exact ⟨(fun h => by cases h), fun _ => rfl, rfl, rfl, rfl⟩
    · rename_i hu
      rw [hu]
      exact ⟨(fun h => by cases h), fun _ => rfl, rfl, rfl, rfl⟩
    · cases h
  · rename_i b args argTypes
    dsimp only
    generalize args.toList.map ev = l at h ⊢
    unfold abuiltin at h
    split at h
    · exact fin _ _ rfl rfl rfl (wr _)
    · exact fin _ _ rfl rfl rfl (wr _)
    · rename_i y t hT
      have hT' : argTypes = #[t] := Array.ext' hT
      subst hT'
      obtain ⟨v, h1, _⟩ := Option.map_eq_some_iff.1 h
      unfold alenOf at h1
      split at h1
      · exact ⟨fun _ => ⟨rfl, rfl⟩, fun _ => rfl, rfl, rfl, rfl⟩
      · rename_i hu
        simp only [List.getElem?_toArray, List.getElem?_cons_zero, Option.bind_some, hu]
        exact ⟨fun _ => ⟨rfl, rfl⟩, fun _ => rfl, rfl, rfl, rfl⟩
      · exact ⟨fun _ => ⟨rfl, rfl⟩, fun _ => rfl, rfl, rfl, rfl⟩
      · rename_i hu
        simp only [List.getElem?_toArray, List.getElem?_cons_zero, Option.bind_some, hu]
        obtain ⟨es, h2, _⟩ := Option.map_eq_some_iff.1 h1
        unfold aentries at h2
        split at h2
        · exact ⟨(fun h => by cases h), fun _ => rfl, rfl, rfl, rfl⟩
        · exact ⟨(fun h => by cases h), fun _ => rfl, rfl, rfl, rfl⟩
        · cases h2
      · cases h1
    all_goals first
      | exact ⟨fun _ => ⟨rfl, rfl⟩, fun _ => rfl, rfl, rfl, rfl⟩
      | exact fin _ _ rfl rfl rfl (wr _)
      | cases h
end Go.Am
