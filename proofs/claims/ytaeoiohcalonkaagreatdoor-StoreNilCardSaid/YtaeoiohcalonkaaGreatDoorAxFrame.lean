/- What an operation may turn in abstract memory. -/
import Derived.Test.YtaeoiohcalonkaaGreatDoorAxS8
set_option linter.unusedVariables false
set_option linter.unusedSimpArgs false
namespace Go.Ax
open Go
variable {L : Type} {P : Program} {σ σ' : AMem L}

def SameLogic (σ σ' : AMem L) : Prop := ∀ b x, σ'.get b = some (.logic x) ↔ σ.get b = some (.logic x)
theorem SameLogic.refl (σ : AMem L) : SameLogic σ σ := fun _ _ => Iff.rfl
theorem SameLogic.trans {a b c : AMem L} (h : SameLogic a b) (k : SameLogic b c) : SameLogic a c := fun x y => (k x y).trans (h x y)

inductive Turn (σ : AMem L) (b nx : Nat) : AMem L → Prop where
  | same : Turn σ b nx σ
  | put (o : AObj L) (h : o.isLogic = false) : Turn σ b nx (σ.put b nx o)
  | set (c : Nat) (o o' : AObj L) (h1 : σ.get c = some o) (h2 : o.isLogic = false) (h3 : o'.isLogic = false) : Turn σ b nx (σ.set c o')
  | move (c : Nat) (o o' : AObj L) (h1 : σ.get c = some o) (h2 : o.isLogic = false) (h3 : o'.isLogic = false) : Turn σ b nx ((σ.kill c).put b nx o')

theorem Turn.logic {b nx : Nat} (h : Turn σ b nx σ') (hb : σ.get b = none) : SameLogic σ σ' := by
  intro x y
  cases h with
  | same => exact Iff.rfl
  | put o h =>
    rw [AMem.get_put]; split
    · rename_i e; subst e; rw [hb]; constructor
      · intro hh; cases hh; cases h
      · intro hh; cases hh
    · exact Iff.rfl
  | set c o o' h1 h2 h3 =>
    rw [AMem.get_set]; split
    · rename_i e; subst e; rw [h1]; constructor
      · intro hh; cases hh; cases h3
      · intro hh; cases hh; cases h2
    · exact Iff.rfl
  | move c o o' h1 h2 h3 =>
    rw [AMem.get_put]; split
    · rename_i e; subst e; rw [hb]; constructor
      · intro hh; cases hh; cases h3
      · intro hh; cases hh
    · rw [AMem.get_kill]; split
      · rename_i e; subst e; rw [h1]; constructor
        · intro hh; cases hh
        · intro hh; cases hh; cases h2
      · exact Iff.rfl

theorem Turn.next {b nx : Nat} (h : Turn σ b nx σ') : σ'.next = σ.next ∨ σ'.next = nx := by
  cases h <;> first | exact .inl rfl | exact .inr rfl

theorem Turn.get {b nx : Nat} (h : Turn σ b nx σ') {x : Nat} (hx : σ.get x = none) (hxb : x ≠ b) : σ'.get x = none := by
  cases h with
  | same => exact hx
  | put o h => rw [AMem.get_put, if_neg hxb]; exact hx
  | set c o o' h1 h2 h3 => rw [AMem.get_set]; split; · rename_i e; subst e; rw [hx] at h1; cases h1
                           · exact hx
  | move c o o' h1 h2 h3 => rw [AMem.get_put, if_neg hxb, AMem.get_kill]; split; · rfl
                            · exact hx

theorem aStore_turn {t b off : Nat} {v : Value} {c nx : Nat} (h : aStore P t b off v σ = some σ') : Turn σ c nx σ' := by
  unfold aStore at h
  split at h
  · rename_i hg _ _
    split at h
    · simp only [Option.some.injEq] at h; subst h; exact .set _ _ _ hg rfl rfl
    · cases h
  · cases h

theorem aOp_turn {op : Op} {F : Fr} {b nx : Nat} {v : Value} (h : aOp P op F σ b nx = some (v, σ')) : Turn σ b nx σ' := by
  have hval : ∀ {x : Option Value}, valued σ x = some (v, σ') → Turn σ b nx σ' := fun h => by obtain ⟨_, rfl⟩ := valued_some h; exact .same
  unfold aOp at h
  split at h
  case h_1 => simp only [Option.some.injEq, Prod.mk.injEq] at h; obtain ⟨_, rfl⟩ := h; exact .same
  case h_2 => simp only [Option.some.injEq, Prod.mk.injEq] at h; obtain ⟨_, rfl⟩ := h; exact .same
  case h_3 => split at h
              · simp only [Option.some.injEq, Prod.mk.injEq] at h; obtain ⟨_, rfl⟩ := h; exact .same
              · cases h
  case h_4 => split at h
              · split at h
                · simp only [Option.some.injEq, Prod.mk.injEq] at h; obtain ⟨_, rfl⟩ := h; exact .put _ rfl
                · cases h
              · cases h
  case h_5 => split at h
              · simp only [Option.some.injEq, Prod.mk.injEq] at h; obtain ⟨_, rfl⟩ := h; exact .put _ rfl
              · cases h
  case h_6 => exact hval h
  case h_7 =>
    unfold aBuildSlice at h
    split at h
    · split at h
      · split at h
        · cases h
        · split at h
          · simp only [Option.some.injEq, Prod.mk.injEq] at h; obtain ⟨_, rfl⟩ := h; exact .put _ rfl
          · cases h
      · cases h
    · cases h
  case h_8 => split at h
              · exact hval h
              · cases h
  case h_9 => split at h
              · rename_i c off _
                generalize hs : aStore P _ c off _ σ = r at h
                cases r with
                | none => cases h
                | some σ2 =>
                  simp only [silent, Option.map_some, Option.some.injEq, Prod.mk.injEq] at h; obtain ⟨_, rfl⟩ := h
                  exact aStore_turn hs
              · cases h
  case h_10 => split at h
               · simp only [Option.some.injEq, Prod.mk.injEq] at h; obtain ⟨_, rfl⟩ := h; exact .same
               · simp only [Option.some.injEq, Prod.mk.injEq] at h; obtain ⟨_, rfl⟩ := h; exact .same
               · cases h
  case h_11 => exact hval h
  case h_12 => exact hval h
  case h_13 =>
    unfold aConv at h
    split at h
    · simp only [Option.some.injEq, Prod.mk.injEq] at h; obtain ⟨_, rfl⟩ := h; exact .same
    · simp only [Option.some.injEq, Prod.mk.injEq] at h; obtain ⟨_, rfl⟩ := h; exact .same
    · split at h
      · simp only [Option.some.injEq, Prod.mk.injEq] at h; obtain ⟨_, rfl⟩ := h; exact .put _ rfl
      · cases h
    · split at h
      · simp only [Option.some.injEq, Prod.mk.injEq] at h; obtain ⟨_, rfl⟩ := h; exact .same
      · cases h
    · cases h
  case h_14 => simp only [Option.some.injEq, Prod.mk.injEq] at h; obtain ⟨_, rfl⟩ := h; exact .same
  case h_15 => simp only [Option.some.injEq, Prod.mk.injEq] at h; obtain ⟨_, rfl⟩ := h; exact .put _ rfl
  case h_16 =>
    unfold aMakeSlice at h
    split at h
    · split at h
      · split at h
        · cases h
        · split at h
          · simp only [Option.some.injEq, Prod.mk.injEq] at h; obtain ⟨_, rfl⟩ := h; exact .put _ rfl
          · cases h
      · cases h
    · cases h
  case h_17 => exact hval h
  case h_18 => exact hval h
  case h_19 => exact hval h
  case h_20 => exact hval h
  case h_21 => exact hval h
  case h_22 => exact hval h
  case h_23 t m k x =>
    generalize hs : aMapUpdate P t (aEval F m) (aEval F k) (aEval F x) σ = r at h
    cases r with
    | none => cases h
    | some σ2 =>
      simp only [silent, Option.map_some, Option.some.injEq, Prod.mk.injEq] at h; obtain ⟨_, rfl⟩ := h
      unfold aMapUpdate at hs
      split at hs
      · split at hs
        · rename_i hg
          split at hs
          · simp only [Option.some.injEq] at hs; subst hs; exact .set _ _ _ hg rfl rfl
          · cases hs
        · cases hs
      · cases hs
  case h_24 => split at h
               · exact hval h
               · cases h
  case h_25 =>
    unfold aBuiltin at h
    split at h
    · exact hval h
    · split at h
      · unfold aAppendZ at h
        split at h
        · split at h
          · split at h
            · cases h
            · split at h
              · simp only [Option.some.injEq, Prod.mk.injEq] at h; obtain ⟨_, rfl⟩ := h; exact .put _ rfl
              · cases h
          · cases h
        · cases h
      unfold aAppend at h
      split at h
      · split at h
        · split at h
          · split at h
            · cases h
            · split at h
              · split at h
                · simp only [Option.some.injEq, Prod.mk.injEq] at h; obtain ⟨_, rfl⟩ := h; exact .same
                · simp only [Option.some.injEq, Prod.mk.injEq] at h; obtain ⟨_, rfl⟩ := h; exact .put _ rfl
              · split at h
                · simp only [Option.some.injEq, Prod.mk.injEq] at h; obtain ⟨_, rfl⟩ := h; exact .same
                · split at h
                  · rename_i hg
                    split at h
                    · simp only [Option.some.injEq, Prod.mk.injEq] at h; obtain ⟨_, rfl⟩ := h; exact .move _ _ _ hg rfl rfl
                    · cases h
                  · cases h
              · cases h
          · cases h
        · cases h
      · cases h
    · split at h
      · simp only [Option.some.injEq, Prod.mk.injEq] at h; obtain ⟨_, rfl⟩ := h; exact .same
      unfold aCopy at h
      split at h
      · split at h
        · split at h
          · rename_i hg _
            split at h
            · cases h
            · simp only [Option.some.injEq, Prod.mk.injEq] at h; obtain ⟨_, rfl⟩ := h; exact .set _ _ _ hg rfl rfl
          · cases h
        · cases h
      · cases h
    · rename_i m k t ts _ _
      generalize hs : aDelete P t m k σ = r at h
      cases r with
      | none => cases h
      | some σ2 =>
        simp only [silent, Option.map_some, Option.some.injEq, Prod.mk.injEq] at h; obtain ⟨_, rfl⟩ := h
        unfold aDelete at hs
        split at hs
        · split at hs
          · rename_i hg
            split at hs
            · simp only [Option.some.injEq] at hs; subst hs; exact .set _ _ _ hg rfl rfl
            · cases hs
          · cases hs
        · cases hs
    · exact hval h
    · exact hval h
    · exact hval h
    · cases h
  case h_26 => cases h

end Go.Ax
