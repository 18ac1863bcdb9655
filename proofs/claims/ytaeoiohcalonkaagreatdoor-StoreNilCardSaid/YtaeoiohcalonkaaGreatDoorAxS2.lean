/- Operations on values alone. -/
import Derived.Test.YtaeoiohcalonkaaGreatDoorAxS1
set_option linter.unusedVariables false
set_option linter.unusedSimpArgs false
namespace Go.Ax
open Go
variable {L : Type} {P : Program} {ρ : Rho} {w : World}

theorem intBin_sound {op : BinOp} {k : IntKind} {a b : Int} {v : Value} {t : TypeId} (h : intBin op k a b = some v) : (binOp op t (.int k a) (.int k b)).run P w = .ok v w := by
  cases op <;> simp only [intBin, Option.some.injEq, reduceCtorEq] at h
  case quo => split at h <;> simp at h; rename_i h0; subst h; simp [binOp, Op.intDiv, h0]
  case rem => split at h <;> simp at h; rename_i h0; subst h; simp [binOp, Op.intDiv, h0]
  all_goals (subst h; simp only [binOp, ne_eq, not_true_eq_false, if_false]; rfl)

theorem shiftBin_sound {op : BinOp} {k k' : IntKind} {a b : Int} {v : Value} {t : TypeId} (ho : op = .shl ∨ op = .shr) (h : shiftBin op k a b = some v) : (binOp op t (.int k a) (.int k' b)).run P w = .ok v w := by
  unfold shiftBin at h
  split at h
  · cases h
  · rename_i hb
    rcases ho with rfl | rfl <;> simp at h <;> subst h <;> simp [binOp, Op.shift, hb]

theorem strBin_sound {op : BinOp} {a b : ByteArray} {v : Value} {t : TypeId} (h : strBin op a b = some v) : (binOp op t (.string a) (.string b)).run P w = .ok v w := by
  cases op <;> simp [strBin] at h
  case add =>
    obtain ⟨h0, rfl⟩ := h
    have : ¬ (((a.size + b.size : Nat) : Int) > IntKind.i64.max) := by
      have : IntKind.i64.max = 9223372036854775807 := rfl
      rw [this]; omega
    simp only [binOp, Op.stringOp, if_neg this]
    simp
  all_goals (subst h; simp [binOp, Op.stringOp])

theorem eq_base {t : TypeId} {x y : Value} {r : Bool} (h : ∀ d, (Op.equalIn (d + 1) t x y).run P w = .ok r w) : (Op.equal t x y).run P w = .ok r w := h 9999

theorem eqVal_sound {d : TypeDesc} {t : TypeId} {x y x' y' : Value} {r : Bool} (h : eqVal d x y = some r) (hu : P.underlying t = some d) (hx : VRel ρ x x') (hy : VRel ρ y y') :
    (Op.equal t x' y').run P w = .ok r w ∧ ∀ op X Y, (eqGuard op t X Y x' y').run P w = .ok () w := by
  unfold eqVal at h
  split at h <;> first | (cases h; done) | (simp only [Option.some.injEq] at h)
  · have := hx.bool_inv; have := hy.bool_inv; subst_vars
    exact ⟨eq_base fun d => by rw [Op.equalIn, Sem.run_bind, run_underlying hu]; rfl, fun op X Y => by cases op <;> rfl⟩
  · have := hx.nilp_inv; subst_vars
    rename_i b
    cases b with
    | none => have := hy.nilp_inv; subst_vars; exact ⟨eq_base fun d => by rw [Op.equalIn, Sem.run_bind, run_underlying hu]; rfl, fun op X Y => by cases op <;> rfl⟩
    | some a => obtain ⟨l, _, _, rfl⟩ := hy.ptr_inv; exact ⟨eq_base fun d => by rw [Op.equalIn, Sem.run_bind, run_underlying hu]; rfl, fun op X Y => by cases op <;> rfl⟩
  · obtain ⟨l, _, _, rfl⟩ := hx.ptr_inv; have := hy.nilp_inv; subst_vars
    exact ⟨eq_base fun d => by rw [Op.equalIn, Sem.run_bind, run_underlying hu]; rfl, fun op X Y => by cases op <;> rfl⟩
  · obtain ⟨rfl, rfl, rfl⟩ := hx.nils_inv
    rename_i b _ _
    cases b with
    | none => obtain ⟨rfl, rfl, rfl⟩ := hy.nils_inv; subst_vars; exact ⟨eq_base fun d => by rw [Op.equalIn, Sem.run_bind, run_underlying hu]; rfl, fun op X Y => by cases op <;> rfl⟩
    | some a =>
      obtain ⟨_, ⟨l, cap, _, _, _, _, rfl⟩ | ⟨_, x, rfl⟩⟩ := hy.slice_inv <;> subst_vars <;>
      exact ⟨eq_base fun d => by rw [Op.equalIn, Sem.run_bind, run_underlying hu]; rfl, fun op X Y => by cases op <;> rfl⟩
  · obtain ⟨rfl, rfl, rfl⟩ := hy.nils_inv
    obtain ⟨_, ⟨l, cap, _, _, _, _, rfl⟩ | ⟨_, x, rfl⟩⟩ := hx.slice_inv <;> subst_vars <;>
      exact ⟨eq_base fun d => by rw [Op.equalIn, Sem.run_bind, run_underlying hu]; rfl, fun op X Y => by cases op <;> rfl⟩
  · have := hx.nilm_inv; subst_vars
    rename_i b
    cases b with
    | none => have := hy.nilm_inv; subst_vars; exact ⟨eq_base fun d => by rw [Op.equalIn, Sem.run_bind, run_underlying hu]; rfl, fun op X Y => by cases op <;> rfl⟩
    | some a => obtain ⟨l, _, rfl⟩ := hy.map_inv; exact ⟨eq_base fun d => by rw [Op.equalIn, Sem.run_bind, run_underlying hu]; rfl, fun op X Y => by cases op <;> rfl⟩
  · obtain ⟨l, _, rfl⟩ := hx.map_inv; have := hy.nilm_inv; subst_vars
    exact ⟨eq_base fun d => by rw [Op.equalIn, Sem.run_bind, run_underlying hu]; rfl, fun op X Y => by cases op <;> rfl⟩
  · cases hx; cases hy; subst_vars
    exact ⟨eq_base fun d => by rw [Op.equalIn, Sem.run_bind, run_underlying hu]; rfl, fun op X Y => by cases op <;> rfl⟩
  · cases hx; obtain ⟨_, _, rfl, _⟩ := hy.func_inv; subst_vars
    exact ⟨eq_base fun d => by rw [Op.equalIn, Sem.run_bind, run_underlying hu]; rfl, fun op X Y => by cases op <;> rfl⟩
  · cases hy; obtain ⟨_, _, rfl, _⟩ := hx.func_inv; subst_vars
    exact ⟨eq_base fun d => by rw [Op.equalIn, Sem.run_bind, run_underlying hu]; rfl, fun op X Y => by cases op <;> rfl⟩

theorem eqVal_shape {d : TypeDesc} {t : TypeId} {x y x' y' : Value} {r : Bool} (h : eqVal d x y = some r) (hx : VRel ρ x x') (hy : VRel ρ y y') :
    binOp .eql t x' y' = (do pure (.bool (← Op.equal t x' y'))) ∧ binOp .neq t x' y' = (do pure (.bool (!(← Op.equal t x' y')))) := by
  unfold eqVal at h
  split at h <;> first | (cases h; done) | (simp only [Option.some.injEq] at h)
  · have := hx.bool_inv; have := hy.bool_inv; subst_vars
    exact ⟨rfl, rfl⟩
  · have := hx.nilp_inv; subst_vars
    rename_i b
    cases b with
    | none => have := hy.nilp_inv; subst_vars; exact ⟨rfl, rfl⟩
    | some a => obtain ⟨l, _, _, rfl⟩ := hy.ptr_inv; exact ⟨rfl, rfl⟩
  · obtain ⟨l, _, _, rfl⟩ := hx.ptr_inv; have := hy.nilp_inv; subst_vars
    exact ⟨rfl, rfl⟩
  · obtain ⟨rfl, rfl, rfl⟩ := hx.nils_inv
    rename_i b _ _
    cases b with
    | none => obtain ⟨rfl, rfl, rfl⟩ := hy.nils_inv; subst_vars; exact ⟨rfl, rfl⟩
    | some a =>
      obtain ⟨_, ⟨l, cap, _, _, _, _, rfl⟩ | ⟨_, x, rfl⟩⟩ := hy.slice_inv <;> subst_vars <;>
      exact ⟨rfl, rfl⟩
  · obtain ⟨rfl, rfl, rfl⟩ := hy.nils_inv
    obtain ⟨_, ⟨l, cap, _, _, _, _, rfl⟩ | ⟨_, x, rfl⟩⟩ := hx.slice_inv <;> subst_vars <;>
      exact ⟨rfl, rfl⟩
  · have := hx.nilm_inv; subst_vars
    rename_i b
    cases b with
    | none => have := hy.nilm_inv; subst_vars; exact ⟨rfl, rfl⟩
    | some a => obtain ⟨l, _, rfl⟩ := hy.map_inv; exact ⟨rfl, rfl⟩
  · obtain ⟨l, _, rfl⟩ := hx.map_inv; have := hy.nilm_inv; subst_vars
    exact ⟨rfl, rfl⟩
  · cases hx; cases hy; subst_vars
    exact ⟨rfl, rfl⟩
  · cases hx; obtain ⟨_, _, rfl, _⟩ := hy.func_inv; subst_vars
    exact ⟨rfl, rfl⟩
  · cases hy; obtain ⟨_, _, rfl, _⟩ := hx.func_inv; subst_vars
    exact ⟨rfl, rfl⟩


theorem bin_sound {op : BinOp} {t : TypeId} {x y x' y' v : Value} (h : aBin P op t x y = some v) (hx : VRel ρ x x') (hy : VRel ρ y y') (X Y : Operand) :
    (do eqGuard op t X Y x' y'; binOp op t x' y' : Sem Value).run P w = .ok v w := by
  unfold aBin at h
  split at h
  · rename_i k a k' b
    have := hx.int_inv; have := hy.int_inv; subst_vars
    have e : (eqGuard op t X Y (.int k a) (.int k' b)).run P w = .ok () w := by cases op <;> rfl
    simp only [Sem.run_bind, e, Result.andThen_ok]
    split at h
    · exact shiftBin_sound (.inl rfl) h
    · exact shiftBin_sound (.inr rfl) h
    · split at h
      · rename_i hk; subst hk; exact intBin_sound h
      · cases h
  · rename_i a b
    have := hx.string_inv; have := hy.string_inv; subst_vars
    have e : (eqGuard op t X Y (.string a) (.string b)).run P w = .ok () w := by cases op <;> rfl
    simp only [Sem.run_bind, e, Result.andThen_ok]
    exact strBin_sound h
  · split at h
    · rename_i e d he hu
      cases hr : eqVal d x y with
      | none => rw [hr] at h; cases h
      | some r =>
        rw [hr] at h
        simp only [Option.map_some, Option.some.injEq] at h
        obtain ⟨h1, h2⟩ := eqVal_sound (w := w) hr hu hx hy
        obtain ⟨h3, h4⟩ := eqVal_shape (t := t) hr hx hy
        simp only [Sem.run_bind, h2, Result.andThen_ok]
        cases op <;> simp only [isEq, Option.some.injEq, reduceCtorEq] at he
        · subst he; rw [h3]; simp only [Sem.run_bind, h1, Result.andThen_ok, Sem.run_pure]; rw [← h]; rfl
        · subst he; rw [h4]; simp only [Sem.run_bind, h1, Result.andThen_ok, Sem.run_pure]; rw [← h]; rfl
    · cases h

theorem aBin_self {op : BinOp} {t : TypeId} {x y v : Value} (h : aBin P op t x y = some v) : VRel ρ v v := by
  have hb : ∀ b, VRel ρ (.bool b) (.bool b) := fun b => .bool b
  unfold aBin at h
  split at h
  · split at h
    · unfold shiftBin at h; split at h; · cases h
      · split at h <;> simp at h <;> subst h <;> exact .int _ _
    · unfold shiftBin at h; split at h; · cases h
      · split at h <;> simp at h <;> subst h <;> exact .int _ _
    · split at h
      · unfold intBin at h; split at h <;> first | (cases h; done) | (simp only [Option.some.injEq] at h; subst h; first | exact .int _ _ | exact .bool _) | (split at h <;> first | (cases h; done) | (simp only [Option.some.injEq] at h; subst h; exact .int _ _))
      · cases h
  · unfold strBin at h; split at h <;> first | (cases h; done) | (simp only [Option.some.injEq] at h; subst h; first | exact .string _ | exact .bool _) | (split at h <;> first | (cases h; done) | (simp only [Option.some.injEq] at h; subst h; exact .string _))
  · split at h
    · rename_i e d he hu
      cases hr : eqVal d x y with
      | none => rw [hr] at h; cases h
      | some r => rw [hr] at h; simp only [Option.map_some, Option.some.injEq] at h; subst h; exact .bool _
    · cases h

theorem un_sound {op : UnOp} {x x' v : Value} (h : aUn op x = some v) (hx : VRel ρ x x') : (Op.unary op x').run P w = .ok v w ∧ VRel ρ v v := by
  unfold aUn at h
  split at h
  · have := hx.int_inv; subst_vars; simp only [Option.some.injEq] at h; subst h; exact ⟨rfl, .int _ _⟩
  · have := hx.int_inv; subst_vars
    simp only [intBin, Option.some.injEq] at h; subst h; exact ⟨rfl, .int _ _⟩
  · have := hx.bool_inv; subst_vars; simp only [Option.some.injEq] at h; subst h; exact ⟨rfl, .bool _⟩
  · cases h

def OptRel (ρ : Rho) : Option Value → Option Value → Prop
  | none, none => True
  | some a, some b => VRel ρ a b
  | _, _ => False

theorem bound_sound {v : Option Value} {dflt hi n : Nat} (h : bound v dflt hi = some n) {v' : Option Value} (hv : OptRel ρ v v') :
    (v = none ∧ v' = none ∧ n = dflt) ∨ (∃ k i, v' = some (.int k i) ∧ 0 ≤ i ∧ i ≤ hi ∧ n = i.toNat) := by
  cases v with
  | none =>
    cases v' with
    | none => simp only [bound, Option.some.injEq] at h; exact .inl ⟨rfl, rfl, h.symm⟩
    | some b => exact hv.elim
  | some x =>
    cases v' with
    | none => exact hv.elim
    | some b =>
      cases x with
      | int k i =>
        simp only [bound] at h
        split at h
        · rename_i hc
          simp only [Option.some.injEq] at h
          exact .inr ⟨k, i, by rw [VRel.int_inv (show VRel ρ (.int k i) b from hv)], hc.1, hc.2, h.symm⟩
        · cases h
      | _ => cases h

end Go.Ax
