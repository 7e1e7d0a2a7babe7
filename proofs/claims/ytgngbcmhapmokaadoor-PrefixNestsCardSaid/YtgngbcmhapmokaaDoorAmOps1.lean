/- The abstract machine: operations that only compute, on both sides. -/
import Derived.Test.YtgngbcmhapmokaaDoorAmMem
import Derived.ChangeKeysEq
import Derived.Laws.StructEq
namespace Go.Am
open Go

variable {P : Program} {w : World} {ρ : Pm}

theorem run_asize {t : TypeId} {n : Nat} (h : asize P t = some n) : (sizeOf t).run P w = .ok n w := by
  unfold asize at h
  obtain ⟨i, hi, rfl⟩ := Option.map_eq_some_iff.1 h
  simp [sizeOf, typeInfo, hi]
theorem run_info {t : TypeId} {i : TypeInfo} (h : P.info? t = some i) : (typeInfo t).run P w = .ok i w := by simp [typeInfo, h]
theorem azero_flat {t : TypeId} {z : Value} (h : azero P t = some z) : flat1 z = true := by
  unfold azero at h
  split at h
  · split at h
    · rename_i hf; injection h with h; exact h ▸ hf
    · cases h
  · cases h
theorem run_azero {t : TypeId} {z : Value} (h : azero P t = some z) : (zeroValue t).run P w = .ok z w := by
  unfold azero at h
  split at h
  · rename_i z' hz
    split at h
    · injection h with h; subst h
      obtain ⟨i, hi, hz⟩ := Option.bind_eq_some_iff.1 hz
      simp [zeroValue, typeInfo, hi, hz]
    · cases h
  · cases h
theorem run_aisAgg {t : TypeId} {b : Bool} (h : aisAgg (P.underlying t) = some b) : (isAgg t).run P w = .ok b w := by
  cases hu : P.underlying t with
  | none => rw [hu] at h; simp [aisAgg] at h
  | some d =>
    rw [hu] at h
    simp only [isAgg, Sem.run_bind, run_underlying hu, Result.andThen_ok]
    cases d <;> simp [aisAgg] at h <;> subst h <;> rfl

theorem run_apart {t : TypeId} {cs us : List Value} {off : Nat} {v : Value} (h : apartT P t cs off = some v) (hr : LRel ρ cs us) :
    ∃ u, VRel ρ v u ∧ ∀ w, (part t us.toArray off).run P w = .ok u w := by
  unfold apartT at h
  split at h
  · rename_i b n hb hn
    unfold apart at h
    cases b with
    | true =>
      simp only [if_true] at h
      split at h
      · rename_i hle
        injection h with h; subst h
        refine ⟨.agg ⟨(us.drop off).take n⟩, VRel.agg_l ((hr.drop off).take n), fun w => ?_⟩
        simp only [part, Sem.run_bind, run_aisAgg hb, Result.andThen_ok, if_true, run_asize hn, Sem.run_pure]
        congr 2
        apply Array.ext'
        simp
      · cases h
    | false =>
      simp only [Bool.false_eq_true, if_false] at h
      obtain ⟨u, hu, hv⟩ := hr.get? h
      refine ⟨u, hv, fun w => ?_⟩
      simp only [part, Sem.run_bind, run_aisAgg hb, Result.andThen_ok, Bool.false_eq_true, if_false]
      simp [hu]
  · cases h

theorem awrap_eq (k : IntKind) (n : Int) : awrap k n = k.wrap n := by
  cases k <;> simp [awrap, IntKind.wrap, IntKind.bits, IntKind.signed]

theorem eqBytes_eq (a b : ByteArray) : eqBytes a b = (a.toList == b.toList) := by
  unfold eqBytes
  rw [ByteArray.toList_eq, ByteArray.toList_eq]
theorem toList_data (x : ByteArray) : x.toList = x.data.toList := ByteArray.toList_eq x
theorem eqBytes_beq (a b : ByteArray) : (a == b) = eqBytes a b := by
  rw [eqBytes_eq]
  exact beq_toListBytes a b

theorem aint_run {op : BinOp} {k : IntKind} {a b : Int} {v : Value} {t : TypeId} (h : aint op k a b = some v) (h1 : op ≠ .shl) (h2 : op ≠ .shr) : VRel ρ v v ∧ ∀ w, (binOp op t (.int k a) (.int k b)).run P w = .ok v w := by
  cases op <;> simp only [aint] at h <;> first
    | (cases h; done)
    | (exact absurd rfl h1)
    | (exact absurd rfl h2)
    | (injection h with h; subst h; exact ⟨.flat rfl, fun w => by simp [binOp, Op.intArith, Op.intBits, Op.intCmp, awrap_eq]⟩)
    | (split at h
       · cases h
       · rename_i hb; injection h with h; subst h; exact ⟨.flat rfl, fun w => by simp [binOp, Op.intDiv, hb, awrap_eq]⟩)

theorem astr_run {op : BinOp} {a b : ByteArray} {v : Value} {t : TypeId} (h : astr op a b = some v) : VRel ρ v v ∧ ∀ w, (binOp op t (.string a) (.string b)).run P w = .ok v w := by
  cases op <;> simp only [astr] at h <;> first
    | (cases h; done)
    | (injection h with h; subst h; exact ⟨.flat rfl, fun w => by simp [binOp, Op.stringOp, eqBytes_eq, toList_data]⟩)
    | (split at h
       · rename_i hle
         injection h with h; subst h
         refine ⟨.flat rfl, fun w => ?_⟩
         have hm : ¬ (((a.size + b.size : Nat) : Int) > IntKind.i64.max) := by simp [IntKind.max, IntKind.signed, IntKind.bits]; omega
         simp only [binOp, Op.stringOp, if_neg hm]
         simp only [Sem.run_pure]
         congr 2
       · cases h)


structure EqOk (P : Program) (ok : TypeId → Bool) : Prop where
  held : ∀ t, ok t = true → P.stoodInHeld t = false
  guard : ∀ t, ok t = true → P.eqGuardType P.depth t = false

theorem aeqT_run {ok : TypeId → Bool} (hok : EqOk P ok) : ∀ (d : Nat) (t : TypeId) (x y cx cy : Value) (r : Bool), aeqT P ok d t x y = some r → VRel ρ x cx → VRel ρ y cy → ∀ D, d ≤ D → ∀ w, (Op.equalIn D t cx cy).run P w = .ok r w := by
  intro d
  induction d with
  | zero => intro t x y cx cy r h; simp [aeqT] at h
  | succ d ih =>
    intro t x y cx cy r h hx hy D hD w
    obtain ⟨D, rfl⟩ : ∃ m, D = m + 1 := ⟨D - 1, by omega⟩
    unfold aeqT at h
    split at h
    · rename_i hu
      injection h with h; subst h
      rw [hx.bool_inv, hy.bool_inv]
      exact run_equalIn_bool' w D t _ _ hu
    · rename_i hu
      split at h
      · rename_i hk
        injection h with h; subst h hk
        rw [hx.int_inv, hy.int_inv]
        exact run_equalIn_int w D t _ _ _ _ hu
      · cases h
    · rename_i hu
      injection h with h; subst h
      rw [hx.string_inv, hy.string_inv, eqBytes_eq]
      exact run_equalIn_string w D t _ _ hu
    · rename_i fields xs ys hu
      split at h
      · rename_i hk
        obtain ⟨xs', rfl, hxs⟩ := hx.agg_inv
        obtain ⟨ys', rfl, hys⟩ := hy.agg_inv
        have hf : P.fieldsOf t = fields := by simp [Program.fieldsOf, hu]
        rw [run_equalIn_struct w D t xs' ys' (by rw [hf]; exact hu) (hok.held t hk), hf]
        generalize fields.toList = fs at h
        clear hu hf
        induction fs with
        | nil => simp only [aeqFields] at h; injection h with h; subst h; rfl
        | cons f fs ihf =>
          simp only [aeqFields] at h
          split at h
          · cases h
          · rename_i hname
            split at h
            · rename_i a b ha hb
              obtain ⟨ua, va, ra⟩ := run_apart ha hxs
              obtain ⟨ub, vb, rb⟩ := run_apart hb hys
              simp only [Op.eqFields, ne_eq, hname, not_false_eq_true, if_true, Sem.run_bind, ra, rb, Result.andThen_ok]
              split at h
              · rename_i he
                rw [ih _ _ _ _ _ _ he va vb D (by omega) w]
                simp only [Result.andThen_ok, Bool.not_true, Bool.false_eq_true, if_false]
                exact ihf h
              · rename_i r' he hne
                cases r with
                | true => exact absurd h hne
                | false =>
                  rw [ih _ _ _ _ _ _ h va vb D (by omega) w]
                  simp
            · cases h
      · cases h
    · rename_i len elem xs ys hu
      split at h
      · rename_i hk
        split at h
        · rename_i n hn
          obtain ⟨xs', rfl, hxs⟩ := hx.agg_inv
          obtain ⟨ys', rfl, hys⟩ := hy.agg_inv
          have hn' := hn
          unfold asize at hn'
          obtain ⟨i, hi, hin⟩ := Option.map_eq_some_iff.1 hn'
          have hc : P.cellsOf elem = n := by simp [Program.cellsOf, hi, hin]
          rw [run_equalIn_array w D xs' ys' hu hi, hc, List.range_eq_range']
          have key : ∀ (k j : Nat) (r : Bool), aeqItems (aeqT P ok d elem) P elem n xs.toList ys.toList k j = some r → (Op.eqItems D elem n xs' ys' (List.range' j k)).run P w = .ok r w := by
            intro k
            induction k with
            | zero => intro j r h; simp only [aeqItems] at h; injection h with h; subst h; rfl
            | succ k ihk =>
              intro j r h
              simp only [aeqItems] at h
              split at h
              · rename_i a b ha hb
                obtain ⟨ua, va, ra⟩ := run_apart ha hxs
                obtain ⟨ub, vb, rb⟩ := run_apart hb hys
                simp only [List.range'_succ, Op.eqItems, Sem.run_bind, ra, rb, Result.andThen_ok]
                split at h
                · rename_i he
                  rw [ih _ _ _ _ _ _ he va vb D (by omega) w]
                  simp only [Result.andThen_ok, Bool.not_true, Bool.false_eq_true, if_false]
                  exact ihk _ _ h
                · rename_i r' he hne
                  cases r with
                  | true => exact absurd h hne
                  | false =>
                    rw [ih _ _ _ _ _ _ h va vb D (by omega) w]
                    simp
              · cases h
          exact key len 0 r h
        · cases h
      · cases h
    · cases h


theorem FRel.inv_func {f : FuncId} {u : Fn} (h : FRel ρ (.func f) u) : u = .func f := by cases h; rfl

theorem guard_plain (op : BinOp) (t : TypeId) (ox oy : Operand) (cx cy : Value) (w : World) (h1 : ¬ (cx = .nilIface ∧ cy = .nilIface)) (h2 : ∀ a b, ¬ (cx = .agg a ∧ cy = .agg b)) : (eqGuard op t ox oy cx cy).run P w = .ok () w := by
  cases op <;> first
    | rfl
    | (cases cx <;> first
        | rfl
        | (cases cy <;> first
            | rfl
            | exact absurd ⟨rfl, rfl⟩ h1
            | exact absurd ⟨rfl, rfl⟩ (h2 _ _)))
theorem guard_lit (op : BinOp) (t : TypeId) (ox oy : Operand) (w : World) (h : isLit ox = true ∨ isLit oy = true) : (eqGuard op t ox oy .nilIface .nilIface).run P w = .ok () w := by
  cases op <;> first
    | rfl
    | (cases ox <;> first
        | rfl
        | (cases oy <;> first
            | rfl
            | (simp [isLit] at h)))
theorem guard_agg (op : BinOp) (t : TypeId) (ox oy : Operand) (xs ys : Array Value) (w : World) (h : P.eqGuardType P.depth t = false) : (eqGuard op t ox oy (.agg xs) (.agg ys)).run P w = .ok () w :=
  run_eqGuard_agg w op t ox oy xs ys h
theorem equal_top (t : TypeId) (x y : Value) : Op.equal t x y = Op.equalIn (9999 + 1) t x y := rfl

theorem aeqT_ok {ok : TypeId → Bool} {d : Nat} {t : TypeId} {xs ys : Array Value} {r : Bool} (h : aeqT P ok d t (.agg xs) (.agg ys) = some r) : ok t = true := by
  cases d with
  | zero => simp [aeqT] at h
  | succ d =>
    simp only [aeqT] at h
    split at h <;> first
      | (rename_i hh; cases hh; done)
      | (split at h
         · assumption
         · cases h)
      | (cases h; done)
      | skip
    all_goals simp_all

theorem aeq_run {ok : TypeId → Bool} (hok : EqOk P ok) {t : TypeId} {x y cx cy : Value} {lit r : Bool} (h : aeq P ok t x y lit = some r) (hx : VRel ρ x cx) (hy : VRel ρ y cy) (w : World) :
    (Op.equal t cx cy).run P w = .ok r w ∧ (∀ (op : BinOp) (ox oy : Operand), (lit = true → isLit ox = true ∨ isLit oy = true) → (eqGuard op t ox oy cx cy).run P w = .ok () w) := by
  unfold aeq at h
  split at h
  · rename_i ms hu
    split at h
    · rename_i hl
      injection h with h; subst h
      cases hx; cases hy
      exact ⟨by rw [equal_top]; unfold Op.equalIn; simp [run_underlying hu], fun op ox oy hlit => guard_lit op t ox oy w (hlit hl)⟩
    · cases h
  · rename_i hu
    injection h with h; subst h
    cases hx
    cases hy with
    | flat h => simp [flat0] at h
    | iface h => exact ⟨by rw [equal_top]; unfold Op.equalIn; simp [run_underlying hu], fun op ox oy _ => guard_plain op t ox oy _ _ w (by simp) (by simp)⟩
  · rename_i hu
    injection h with h; subst h
    cases hy
    cases hx with
    | flat h => simp [flat0] at h
    | iface h => exact ⟨by rw [equal_top]; unfold Op.equalIn; simp [run_underlying hu], fun op ox oy _ => guard_plain op t ox oy _ _ w (by simp) (by simp)⟩
  · rename_i hu
    split at h
    · rename_i hne
      injection h with h; subst h
      cases hx with
      | flat h => simp [flat0] at h
      | iface h =>
        cases hy with
        | flat h => simp [flat0] at h
        | iface h' => exact ⟨by rw [equal_top]; unfold Op.equalIn; simp [run_underlying hu, hne], fun op ox oy _ => guard_plain op t ox oy _ _ w (by simp) (by simp)⟩
    · cases h
  · rename_i hu
    injection h with h; subst h
    cases hx
    cases hy with
    | flat h => rename_i b _; cases b <;> simp [flat0] at h; exact ⟨by rw [equal_top]; unfold Op.equalIn; simp [run_underlying hu], fun op ox oy _ => guard_plain op t ox oy _ _ w (by simp) (by simp)⟩
    | ptr h => exact ⟨by rw [equal_top]; unfold Op.equalIn; simp [run_underlying hu], fun op ox oy _ => guard_plain op t ox oy _ _ w (by simp) (by simp)⟩
  · rename_i hu
    injection h with h; subst h
    cases hy
    cases hx with
    | flat h => simp [flat0] at h
    | ptr h => exact ⟨by rw [equal_top]; unfold Op.equalIn; simp [run_underlying hu], fun op ox oy _ => guard_plain op t ox oy _ _ w (by simp) (by simp)⟩
  · rename_i a n c hu
    injection h with h; subst h
    refine ⟨?_, fun op ox oy _ => guard_plain op t ox oy _ _ w (by cases hx <;> simp) (by cases hx <;> simp)⟩
    have h1 : ∃ n c, cx = .slice none n c := by
      cases hx with
      | flat h => exact ⟨_, _, rfl⟩
      | sl0 h => rename_i ca; cases ca <;> simp at h; exact ⟨_, _, rfl⟩
    obtain ⟨n1, c1, rfl⟩ := h1
    have h2 : ∃ b n c, cy = .slice b n c ∧ b.isNone = a.isNone := by
      cases hy with
      | flat h => exact ⟨_, _, _, rfl, rfl⟩
      | sl0 h => rename_i ca; exact ⟨_, _, _, rfl, by cases ca <;> cases a <;> simp_all⟩
      | sl h => exact ⟨_, _, _, rfl, rfl⟩
    obtain ⟨b, n2, c2, rfl, hb⟩ := h2
    rw [equal_top]; unfold Op.equalIn
    simp only [Sem.run_bind, run_underlying hu, Result.andThen_ok, Sem.run_pure, hb]
  · rename_i hu
    injection h with h; subst h
    refine ⟨?_, fun op ox oy _ => guard_plain op t ox oy _ _ w (by cases hx <;> simp) (by cases hx <;> simp)⟩
    have hcy : ∃ n c, cy = .slice none n c := by
      cases hy with
      | flat h' => exact ⟨_, _, rfl⟩
      | sl0 h' => rename_i ca; cases ca <;> simp at h'; exact ⟨_, _, rfl⟩
    obtain ⟨n, c, rfl⟩ := hcy
    have h1 : ∃ a n c, cx = .slice (some a) n c := by
      cases hx with
      | flat h => simp [flat0] at h
      | sl0 h => rename_i ca; cases ca <;> simp at h; exact ⟨_, _, _, rfl⟩
      | sl h => exact ⟨_, _, _, rfl⟩
    obtain ⟨a, n1, c1, rfl⟩ := h1
    rw [equal_top]; unfold Op.equalIn
    simp [run_underlying hu]
  · rename_i hu
    injection h with h; subst h
    cases hx
    cases hy with
    | flat h => rename_i b _; cases b <;> simp [flat0] at h; exact ⟨by rw [equal_top]; unfold Op.equalIn; simp [run_underlying hu], fun op ox oy _ => guard_plain op t ox oy _ _ w (by simp) (by simp)⟩
    | map h => exact ⟨by rw [equal_top]; unfold Op.equalIn; simp [run_underlying hu], fun op ox oy _ => guard_plain op t ox oy _ _ w (by simp) (by simp)⟩
  · rename_i hu
    injection h with h; subst h
    cases hy
    cases hx with
    | flat h => simp [flat0] at h
    | map h => exact ⟨by rw [equal_top]; unfold Op.equalIn; simp [run_underlying hu], fun op ox oy _ => guard_plain op t ox oy _ _ w (by simp) (by simp)⟩
  · rename_i hu
    injection h with h; subst h
    cases hx; cases hy
    exact ⟨by rw [equal_top]; unfold Op.equalIn; simp [run_underlying hu], fun op ox oy _ => guard_plain op t ox oy _ _ w (by simp) (by simp)⟩
  · rename_i hu
    injection h with h; subst h
    cases hx
    cases hy with
    | flat h => simp [flat0] at h
    | func => exact ⟨by rw [equal_top]; unfold Op.equalIn; simp [run_underlying hu], fun op ox oy _ => guard_plain op t ox oy _ _ w (by simp) (by simp)⟩
  · rename_i hu
    injection h with h; subst h
    cases hy
    cases hx with
    | flat h => simp [flat0] at h
    | func => exact ⟨by rw [equal_top]; unfold Op.equalIn; simp [run_underlying hu], fun op ox oy _ => guard_plain op t ox oy _ _ w (by simp) (by simp)⟩
  · refine ⟨aeqT_run hok 12 t _ _ cx cy r h hx hy 10000 (by omega) w, fun op ox oy _ => ?_⟩
    by_cases ha : ∃ a b, cx = .agg a ∧ cy = .agg b
    · obtain ⟨a, b, rfl, rfl⟩ := ha
      refine guard_agg op t ox oy a b w (hok.guard t ?_)
      cases hx with
      | flat h => simp [flat0] at h
      | agg =>
        cases hy with
        | flat h => simp [flat0] at h
        | agg => exact aeqT_ok h
    · refine guard_plain op t ox oy _ _ w ?_ fun a b h => ha ⟨a, b, h⟩
      rintro ⟨rfl, rfl⟩
      cases hx; cases hy
      simp [aeqT] at h

end Go.Am
