/- Every operation that calls nothing: what the model does is what the abstract one says. -/
import Derived.Test.YtaeoiohcalonkaaGreatDoorAxS7
set_option linter.unusedVariables false
set_option linter.unusedSimpArgs false
namespace Go.Ax
open Go
variable {L : Type} {P : Program} {κ : Kappa} {ρ : Rho} {σ : AMem L} {w : World}

def okOperand : Operand → Bool
  | .const v => plain v
  | _ => true
def okOp (op : Op) : Bool := op.operands.toList.all okOperand

def FRel (ρ : Rho) (F : Fr) (a : Act) : Prop := ∀ i, VRel ρ (F i) (a.tmps.getD i undef)

theorem FRel.mono {ρ' : Rho} {F : Fr} {a : Act} (h : FRel ρ F a) (hρ : ρ.le ρ') : FRel ρ' F a := fun i => (h i).mono hρ

theorem eval_rel {F : Fr} {a : Act} (hF : FRel ρ F a) {x : Operand} (h : okOperand x = true) : VRel ρ (aEval F x) (a.eval x) := by
  cases x with
  | tmp t => exact hF t
  | const v => exact plain_rel ρ h
  | global g => exact .any _
  | func f => exact VRel.func_mk _ (.nil _) (.nil _)

/-- What an operation does: a value or nothing is left, the worlds fit. -/
def DoesOp (P : Program) (κ : Kappa) (ρ : Rho) (b : Nat) (s : Sem Next) (w : World) (v : Value) (σ' : AMem L) : Prop :=
  ∃ x v' w' ρ', s.run P w = .ok x w' ∧ (x = .value v' ∨ (x = .skip ∧ v' = undef)) ∧ ρ.le ρ' ∧ (∀ y, y ≠ b → ρ' y = ρ y) ∧ VRel ρ' v v' ∧ MRel P κ ρ' σ' w'

theorem Does.op {b : Nat} {s : Sem Value} {v : Value} {σ' : AMem L} (h : Does P κ ρ b s w v σ') : DoesOp P κ ρ b (do pure (.value (← s))) w v σ' := by
  obtain ⟨v', w', ρ', h1, h2, h3, h4, h5⟩ := h
  exact ⟨.value v', v', w', ρ', by simp [h1], .inl rfl, h2, h3, h4, h5⟩

theorem DoesOp.value {b : Nat} {v v' : Value} (hm : MRel P κ ρ σ w) (hv : VRel ρ v v') : DoesOp P κ ρ b (pure (.value v')) w v σ :=
  ⟨.value v', v', w, ρ, rfl, .inl rfl, ρ.le_refl, fun _ _ => rfl, hv, hm⟩

theorem DoesOp.read {b : Nat} {s : Sem Value} {v : Value} (hm : MRel P κ ρ σ w) (h : ∃ v', s.run P w = .ok v' w ∧ VRel ρ v v') : DoesOp P κ ρ b (do pure (.value (← s))) w v σ := by
  obtain ⟨v', h1, h2⟩ := h
  exact (Does.still hm h1 h2).op

theorem DoesOp.unit {b : Nat} {s : Sem Unit} {σ' : AMem L} (h : ∃ w', s.run P w = .ok () w' ∧ MRel P κ ρ σ' w') : DoesOp P κ ρ b (do s; pure .skip) w undef σ' := by
  obtain ⟨w', h1, h2⟩ := h
  exact ⟨.skip, undef, w', ρ, by simp [h1], .inr ⟨rfl, rfl⟩, ρ.le_refl, fun _ _ => rfl, .any _, h2⟩

theorem valued_some {v : Value} {o : Option Value} {σ' : AMem L} (h : valued σ o = some (v, σ')) : o = some v ∧ σ' = σ := by
  cases o with
  | none => cases h
  | some x => simp only [valued, Option.map_some, Option.some.injEq, Prod.mk.injEq] at h; exact ⟨by rw [h.1], h.2.symm⟩

theorem map_rel {F : Fr} {a : Act} (hF : FRel ρ F a) : ∀ (xs : List Operand), xs.all okOperand = true → LRel ρ (xs.map (aEval F)) (xs.map a.eval)
  | [], _ => .nil _
  | x :: xs, h => by
    simp only [List.all_cons, Bool.and_eq_true] at h
    exact .cons (eval_rel hF h.1) (map_rel hF xs h.2)

theorem optmap_rel {F : Fr} {a : Act} (hF : FRel ρ F a) {x : Option Operand} (h : ∀ y, x = some y → okOperand y = true) : OptRel ρ (x.map (aEval F)) (x.map a.eval) := by
  cases x with
  | none => trivial
  | some y => exact eval_rel hF (h y rfl)

theorem parts_rel {F : Fr} {a : Act} (hF : FRel ρ F a) (parts : Array (Nat × Operand)) (h : (parts.toList.map (·.2)).all okOperand = true) :
    PartsRel ρ (parts.toList.map fun (i, x) => (i, aEval F x)) (parts.map fun (i, x) => (i, a.eval x)).toList := by
  refine ⟨by simp [Function.comp_def], ?_⟩
  have := map_rel hF _ h
  simpa [Function.comp_def] using this

theorem run_builtin_call (f : Operand → Value) (dst : Option Tmp) (args : Array Operand) (argTypes : Array TypeId) (type : TypeId) (pos : String) (after : Array Edge) (guard : Option (Nat × Bool)) :
    ∃ consts : Array Bool, ∀ (bi : Builtin), (execOp f { dst := dst, op := .call { callee := .builtin bi, args := args, argTypes := argTypes }, type := type, pos := pos, after := after, guard := guard }).run P w = (builtin bi argTypes type consts (args.map f)).run P w := by
  refine ⟨?c, fun bi => ?_⟩
  rotate_left
  · simp only [execOp, resolve, invoke, Sem.run_bind, Sem.run_pure, Result.andThen_ok]
    rfl

set_option maxHeartbeats 1000000 in
theorem aOp_sound {o : Oper} {F : Fr} {a : Act} {b nx : Nat} {v : Value} {σ' : AMem L} (h : aOp P o.op F σ b nx = some (v, σ')) (hok : okOp o.op = true) (hF : FRel ρ F a) (hm : MRel P κ ρ σ w) (hb : Free ρ σ b nx) :
    DoesOp P κ ρ b (execOp a.eval o) w v σ' := by
  obtain ⟨dst, op, type, pos, after, guard⟩ := o
  simp only at h hok
  unfold okOp at hok
  unfold aOp at h
  split at h
  case h_1 x => -- move
    simp only [Option.some.injEq, Prod.mk.injEq] at h; obtain ⟨rfl, rfl⟩ := h
    simp only [Op.operands, List.all_cons, Bool.and_eq_true] at hok
    exact DoesOp.value hm (eval_rel hF hok.1)
  case h_2 x => -- assign
    simp only [Option.some.injEq, Prod.mk.injEq] at h; obtain ⟨rfl, rfl⟩ := h
    simp only [Op.operands, List.all_cons, Bool.and_eq_true] at hok
    exact DoesOp.value hm (eval_rel hF hok.1)
  case h_3 c x y => -- pick
    simp only [Op.operands, List.all_cons, Bool.and_eq_true] at hok
    split at h
    · rename_i t hc
      simp only [Option.some.injEq, Prod.mk.injEq] at h; obtain ⟨rfl, rfl⟩ := h
      have hcv := eval_rel hF hok.1
      rw [hc] at hcv
      have hcb := hcv.bool_inv
      refine ⟨.value (if t then a.eval x else a.eval y), _, w, ρ, ?_, .inl rfl, ρ.le_refl, fun _ _ => rfl, ?_, hm⟩
      · simp [execOp, hcb, asBool]
      · cases t
        · exact eval_rel hF hok.2.2.1
        · exact eval_rel hF hok.2.1
    · cases h
  case h_4 e => -- alloc
    split at h
    · rename_i z n hz hs
      split at h
      · rename_i hf
        simp only [Option.some.injEq, Prod.mk.injEq] at h; obtain ⟨rfl, rfl⟩ := h
        exact (alloc_sound hm hb hz hs (by simpa using hf)).op
      · cases h
    · cases h
  case h_5 e x => -- box
    simp only [Op.operands, List.all_cons, Bool.and_eq_true] at hok
    split at h
    · rename_i cs n hc hs
      simp only [Option.some.injEq, Prod.mk.injEq] at h; obtain ⟨rfl, rfl⟩ := h
      exact (box_sound hm hb hc hs (eval_rel hF hok.1)).op
    · cases h
  case h_6 t parts => -- build
    obtain ⟨h2, rfl⟩ := valued_some h
    exact DoesOp.read hm (build_sound h2 (parts_rel hF parts (by simpa [Op.operands] using hok)))
  case h_7 t len parts => -- buildSlice
    exact (buildSlice_sound hm hb h (parts_rel hF parts (by simpa [Op.operands] using hok))).op
  case h_8 t x => -- load
    simp only [Op.operands, List.all_cons, Bool.and_eq_true] at hok
    split at h
    · rename_i c off hx
      obtain ⟨h2, rfl⟩ := valued_some h
      have hv := eval_rel hF hok.1
      rw [hx] at hv
      obtain ⟨l, hl, _, he⟩ := hv.ptr_inv
      have := load_sound hm h2 hl
      refine DoesOp.read hm ?_
      rw [he]; exact this
    · cases h
  case h_9 t x y => -- store
    simp only [Op.operands, List.all_cons, Bool.and_eq_true] at hok
    split at h
    · rename_i c off hx
      have hv := eval_rel hF hok.1
      rw [hx] at hv
      obtain ⟨l, hl, _, he⟩ := hv.ptr_inv
      cases hs : aStore P t c off (aEval F y) σ with
      | none => rw [hs] at h; cases h
      | some σ2 =>
        rw [hs] at h
        simp only [silent, Option.map_some, Option.some.injEq, Prod.mk.injEq] at h; obtain ⟨rfl, rfl⟩ := h
        obtain ⟨w', h1, h2, _⟩ := store_sound hm hs hl (eval_rel hF hok.2.1)
        refine DoesOp.unit ⟨w', ?_, h2⟩
        rw [he]; exact h1
    · cases h
  case h_10 x => -- nilCheck
    simp only [Op.operands, List.all_cons, Bool.and_eq_true] at hok
    have hv := eval_rel hF hok.1
    split at h
    · rename_i ad hx
      simp only [Option.some.injEq, Prod.mk.injEq] at h; obtain ⟨rfl, rfl⟩ := h
      rw [hx] at hv
      obtain ⟨l, hl, hs, he⟩ := hv.ptr_inv
      refine ⟨.value (a.eval x), a.eval x, w, ρ, ?_, .inl rfl, ρ.le_refl, fun _ _ => rfl, hv, hm⟩
      simp [execOp, he]
    · rename_i f xs us hx
      simp only [Option.some.injEq, Prod.mk.injEq] at h; obtain ⟨rfl, rfl⟩ := h
      rw [hx] at hv
      obtain ⟨ys, vs, he, _, _⟩ := hv.func_inv
      refine ⟨.value (a.eval x), a.eval x, w, ρ, ?_, .inl rfl, ρ.le_refl, fun _ _ => rfl, hv, hm⟩
      simp [execOp, he]
    · cases h
  case h_11 op t x y u => -- binOp
    simp only [Op.operands, List.all_cons, Bool.and_eq_true] at hok
    obtain ⟨h2, rfl⟩ := valued_some h
    have hgen := fun (h2 : aBin P op t (aEval F x) (aEval F y) = some v) => And.intro (bin_sound (w := w) h2 (eval_rel hF hok.1) (eval_rel hF hok.2.1) x y) (aBin_self (ρ := ρ) h2)
    unfold aBinO at h2
    split at h2
    · rename_i hc
      simp only [Bool.and_eq_true] at hc
      obtain ⟨⟨c1, c2⟩, c3⟩ := hc
      obtain ⟨e, he, rfl⟩ := Option.map_eq_some_iff.1 h2
      have hy : y = .const .nilIface := by unfold isNilWord at c1; split at c1; rfl; cases c1
      have hx : aEval F x = .nilIface := by unfold isNilV at c2; split at c2; assumption; cases c2
      obtain ⟨ms, hu⟩ : ∃ ms, P.underlying t = some (.interface ms) := by unfold isIfaceT at c3; split at c3; exact ⟨_, by assumption⟩; cases c3
      subst hy
      have hv := eval_rel hF hok.1
      rw [hx] at hv
      have hxe : a.eval x = .nilIface := by generalize a.eval x = z at hv; cases hv; rfl
      have hye : a.eval (.const .nilIface) = .nilIface := rfl
      refine DoesOp.read hm ⟨.bool e, ?_, .bool e⟩
      have hg : (eqGuard op t x (.const .nilIface) .nilIface .nilIface).run P w = .ok () w := by cases op <;> simp [eqGuard]
      have heq : (Op.equal t .nilIface .nilIface).run P w = .ok true w := eq_base fun d => by rw [Op.equalIn, Sem.run_bind, run_underlying hu]; rfl
      have hs1 : binOp .eql t .nilIface .nilIface = (do pure (.bool (← Op.equal t .nilIface .nilIface))) := rfl
      have hs2 : binOp .neq t .nilIface .nilIface = (do pure (.bool (!(← Op.equal t .nilIface .nilIface)))) := rfl
      simp only [hxe, hye, Sem.run_bind, hg, Result.andThen_ok]
      cases op <;> simp only [isEq, Option.some.injEq, reduceCtorEq] at he
      · subst he; rw [hs1]; simp only [Sem.run_bind, heq, Result.andThen_ok, Sem.run_pure]
      · subst he; rw [hs2]; simp only [Sem.run_bind, heq, Result.andThen_ok, Sem.run_pure]; rfl
    · split at h2
      · obtain ⟨e, he, h3⟩ := Option.bind_eq_some_iff.1 h2
        obtain ⟨r, hr, rfl⟩ := Option.map_eq_some_iff.1 h3
        obtain ⟨k1, k2, k3, k4⟩ := eqStruct_sound (w := w) hr (eval_rel hF hok.1) (eval_rel hF hok.2.1)
        refine DoesOp.read hm ⟨.bool (if e then r else !r), ?_, .bool _⟩
        simp only [Sem.run_bind, k2, Result.andThen_ok]
        cases op <;> simp only [isEq, Option.some.injEq, reduceCtorEq] at he
        · subst he; rw [k3]; simp only [Sem.run_bind, k1, Result.andThen_ok, Sem.run_pure]; rfl
        · subst he; rw [k4]; simp only [Sem.run_bind, k1, Result.andThen_ok, Sem.run_pure]; rfl
      · exact DoesOp.read hm ⟨v, hgen h2⟩
  case h_12 op t x => -- unOp
    simp only [Op.operands, List.all_cons, Bool.and_eq_true] at hok
    obtain ⟨h2, rfl⟩ := valued_some h
    exact DoesOp.read hm ⟨v, un_sound h2 (eval_rel hF hok.1)⟩
  case h_13 s d x => -- convert
    simp only [Op.operands, List.all_cons, Bool.and_eq_true] at hok
    exact (conv_sound hm hb h (eval_rel hF hok.1)).op
  case h_14 fn xs us => -- makeFunc
    simp only [Option.some.injEq, Prod.mk.injEq] at h; obtain ⟨rfl, rfl⟩ := h
    simp only [Op.operands, Array.toList_append, List.all_append, Bool.and_eq_true] at hok
    refine ⟨.value (.func fn (xs.map a.eval) (us.map a.eval)), _, w, ρ, rfl, .inl rfl, ρ.le_refl, fun _ _ => rfl, VRel.func_mk _ ?_ ?_, hm⟩
    · simpa using map_rel hF _ hok.1
    · simpa using map_rel hF _ hok.2
  case h_15 t => -- makeMap
    simp only [Option.some.injEq, Prod.mk.injEq] at h; obtain ⟨rfl, rfl⟩ := h
    exact (makeMap_sound (t := t) hm hb).op
  case h_16 t l c => -- makeSlice
    simp only [Op.operands, List.all_cons, Bool.and_eq_true] at hok
    exact (makeSlice_sound hm hb h (eval_rel hF hok.1) (eval_rel hF hok.2.1)).op
  case h_17 t x lo hi => -- slice
    obtain ⟨h2, rfl⟩ := valued_some h
    have hx : okOperand x = true := by
      cases lo <;> cases hi <;> simp [Op.operands] at hok <;> first | exact hok | exact hok.1
    have hlo : ∀ y, lo = some y → okOperand y = true := by
      intro y hy; subst hy
      cases hi <;> simp [Op.operands] at hok <;> first | exact hok.2 | exact hok.2.1
    have hhi : ∀ y, hi = some y → okOperand y = true := by
      intro y hy; subst hy
      cases lo <;> simp [Op.operands] at hok <;> first | exact hok.2 | exact hok.2.2
    exact DoesOp.read hm (slice_sound hm h2 (eval_rel hF hx) (optmap_rel hF hlo) (optmap_rel hF hhi))
  case h_18 t x f => -- fieldAddr
    simp only [Op.operands, List.all_cons, Bool.and_eq_true] at hok
    obtain ⟨h2, rfl⟩ := valued_some h
    exact DoesOp.read hm (fieldAddr_sound h2 (eval_rel hF hok.1))
  case h_19 t x f => -- field
    simp only [Op.operands, List.all_cons, Bool.and_eq_true] at hok
    obtain ⟨h2, rfl⟩ := valued_some h
    exact DoesOp.read hm (field_sound h2 (eval_rel hF hok.1))
  case h_20 t x i => -- indexAddr
    simp only [Op.operands, List.all_cons, Bool.and_eq_true] at hok
    obtain ⟨h2, rfl⟩ := valued_some h
    exact DoesOp.read hm (indexAddr_sound h2 (eval_rel hF hok.1) (eval_rel hF hok.2.1))
  case h_21 t x i => -- index
    simp only [Op.operands, List.all_cons, Bool.and_eq_true] at hok
    obtain ⟨h2, rfl⟩ := valued_some h
    exact DoesOp.read hm (index_sound h2 (eval_rel hF hok.1) (eval_rel hF hok.2.1))
  case h_22 t m k ok => -- lookup
    simp only [Op.operands, List.all_cons, Bool.and_eq_true] at hok
    obtain ⟨h2, rfl⟩ := valued_some h
    exact DoesOp.read hm (lookup_sound hm h2 (eval_rel hF hok.1) (eval_rel hF hok.2.1))
  case h_23 t m k x => -- mapUpdate
    simp only [Op.operands, List.all_cons, Bool.and_eq_true] at hok
    cases hs : aMapUpdate P t (aEval F m) (aEval F k) (aEval F x) σ with
    | none => rw [hs] at h; cases h
    | some σ2 =>
      rw [hs] at h
      simp only [silent, Option.map_some, Option.some.injEq, Prod.mk.injEq] at h; obtain ⟨rfl, rfl⟩ := h
      exact DoesOp.unit (update_sound hm hs (eval_rel hF hok.1) (eval_rel hF hok.2.1) (eval_rel hF hok.2.2.1))
  case h_24 x i => -- extract
    simp only [Op.operands, List.all_cons, Bool.and_eq_true] at hok
    split at h
    · rename_i vs hx
      obtain ⟨h2, rfl⟩ := valued_some h
      have hv := eval_rel hF hok.1
      rw [hx] at hv
      cases hv' : a.eval x with
      | tuple ys =>
        rw [hv'] at hv
        by_cases h0 : vs = #[]
        · subst h0; simp at h2
        · have hr : LRel ρ vs.toList ys.toList := by
            cases hv with
            | any => simp at h0
            | tuple h1 h2 => exact arr_rel_iff.1 ⟨h1, h2⟩
          obtain ⟨y, hy, hvy⟩ := hr.get (i := i) (by simpa using h2)
          refine DoesOp.read hm ⟨y, ?_, hvy⟩
          have hy' : ys[i]? = some y := by simpa using hy
          simp [hv', Instr.extract, hy']
      | _ =>
        rw [hv'] at hv
        cases hv
        simp at h2
    · cases h
  case h_25 bi args argTypes => -- builtins
    have hargs : args.toList.all okOperand = true := by simpa [Op.operands, Call.operands] using hok
    obtain ⟨consts, hres⟩ := run_builtin_call (P := P) (w := w) a.eval dst args argTypes type pos after guard
    unfold DoesOp
    rw [hres]
    have hl : LRel ρ (args.toList.map (aEval F)) (args.toList.map a.eval) := map_rel hF _ hargs
    have hmap : ∀ l, args.toList.map a.eval = l → args.map a.eval = l.toArray := by intro l hl; subst hl; apply Array.ext'; simp
    have harr : ∀ l, argTypes.toList = l → argTypes = l.toArray := by intro l hl; subst hl; rfl
    have one : ∀ {x l}, LRel ρ [x] l → ∃ x', l = [x'] ∧ VRel ρ x x' := fun h => by
      obtain ⟨y, ys, rfl, h1, h2⟩ := h.uncons
      exact ⟨y, by rw [h2.nil_left], h1⟩
    have two : ∀ {x y l}, LRel ρ [x, y] l → ∃ x' y', l = [x', y'] ∧ VRel ρ x x' ∧ VRel ρ y y' := fun h => by
      obtain ⟨u, us, rfl, h1, h2⟩ := h.uncons
      obtain ⟨y', rfl, h3⟩ := one h2
      exact ⟨u, y', rfl, h1, h3⟩
    unfold aBuiltin at h
    split at h
    · rename_i x t h1 h2
      rw [h1] at hl
      obtain ⟨x', hx, hv⟩ := one hl
      rw [hmap _ hx, harr _ h2]
      obtain ⟨h3, rfl⟩ := valued_some h
      have := len_sound (ty := type) hm h3 hv
      exact (DoesOp.read hm ⟨v, this.1, this.2⟩ : DoesOp P κ ρ b _ w v σ')
    · rename_i s x t tx h1 h2
      rw [h1] at hl
      obtain ⟨s', x', hx, hv1, hv2⟩ := two hl
      rw [hmap _ hx, harr _ h2]
      split at h
      · rename_i kn hkn
        exact (appendZ_sound (ty := type) hm hb hkn h hv1 hv2).op
      · exact (append_sound (ty := type) hm hb h hv1 hv2).op
    · rename_i d s t ts h1 h2
      rw [h1] at hl
      obtain ⟨s', x', hx, hv1, hv2⟩ := two hl
      rw [hmap _ hx, harr _ h2]
      split at h
      · rename_i v1 hc
        simp only [Option.some.injEq, Prod.mk.injEq] at h; obtain ⟨rfl, rfl⟩ := h
        have := copyN_sound (ty := type) (w := w) (ts := (t :: ts).toArray) hc hv1 hv2 (by simp)
        exact (DoesOp.read hm ⟨v1, this.1, this.2⟩ : DoesOp P κ ρ b _ w v1 σ)
      · exact (copy_sound (ty := type) hm h hv1 hv2 b (by simp)).op
    · rename_i m k t ts h1 h2
      rw [h1] at hl
      obtain ⟨m', k', hx, hv1, hv2⟩ := two hl
      rw [hmap _ hx, harr _ h2]
      cases hs : aDelete P t m k σ with
      | none => rw [hs] at h; cases h
      | some σ2 =>
        rw [hs] at h
        simp only [silent, Option.map_some, Option.some.injEq, Prod.mk.injEq] at h; obtain ⟨rfl, rfl⟩ := h
        obtain ⟨w', h3, h4⟩ := delete_sound (ty := type) (ts := (t :: ts).toArray) hm (by simp) hs hv1 hv2
        have hd : Does P κ ρ b (Builtin.delete_ (t :: ts).toArray type #[m', k']) w undef σ2 := ⟨.tuple #[], w', ρ, h3, ρ.le_refl, fun _ _ => rfl, .any _, h4⟩
        exact hd.op
    · rename_i x y h1
      rw [h1] at hl
      obtain ⟨x', y', hx, hv1, hv2⟩ := two hl
      rw [hmap _ hx]
      obtain ⟨h3, rfl⟩ := valued_some h
      have := min_sound (P := P) (w := w) (ty := type) (ts := argTypes) h3 hv1 hv2
      exact (DoesOp.read hm ⟨v, this.1, this.2⟩ : DoesOp P κ ρ b _ w v σ')
    · rename_i x y h1
      rw [h1] at hl
      obtain ⟨x', y', hx, hv1, hv2⟩ := two hl
      rw [hmap _ hx]
      obtain ⟨h3, rfl⟩ := valued_some h
      have := max_sound (P := P) (w := w) (ty := type) (ts := argTypes) h3 hv1 hv2
      exact (DoesOp.read hm ⟨v, this.1, this.2⟩ : DoesOp P κ ρ b _ w v σ')
    · rename_i x t h1 h2
      rw [h1] at hl
      obtain ⟨x', hx, hv⟩ := one hl
      rw [hmap _ hx, harr _ h2]
      obtain ⟨h3, rfl⟩ := valued_some h
      have := cap_sound (ty := type) (w := w) h3 hv
      exact (DoesOp.read hm ⟨v, this.1, this.2⟩ : DoesOp P κ ρ b _ w v σ')
    · cases h
  case h_26 => cases h

end Go.Ax
