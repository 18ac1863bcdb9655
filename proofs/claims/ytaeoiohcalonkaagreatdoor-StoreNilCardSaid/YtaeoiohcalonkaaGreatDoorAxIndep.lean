/- Of what an operation's answer does not hang. -/
import Derived.Test.YtaeoiohcalonkaaGreatDoorAxWhole
set_option linter.unusedVariables false
set_option linter.unusedSimpArgs false
namespace Go.Ax
open Go
variable {L : Type} {P : Program}

theorem aEval_congr {F F' : Fr} {op : Op} (h : ∀ t, Operand.tmp t ∈ op.operands → F t = F' t) {x : Operand} (hx : x ∈ op.operands) : aEval F x = aEval F' x := by
  cases x with
  | tmp t => exact h t hx
  | _ => rfl

theorem aOp_congr {op : Op} {F F' : Fr} (h : ∀ t, Operand.tmp t ∈ op.operands → F t = F' t) (σ : AMem L) (b nx : Nat) : aOp P op F σ b nx = aOp P op F' σ b nx := by
  have e : ∀ x, x ∈ op.operands → aEval F x = aEval F' x := fun x hx => aEval_congr h hx
  cases op with
  | move x => simp only [aOp, e x (by simp [Op.operands])]
  | assign x => simp only [aOp, e x (by simp [Op.operands])]
  | pick c x y => simp only [aOp, e c (by simp [Op.operands]), e x (by simp [Op.operands]), e y (by simp [Op.operands])]
  | alloc t => rfl
  | box t x => simp only [aOp, e x (by simp [Op.operands])]
  | build t parts =>
    have : (parts.toList.map fun (i, x) => (i, aEval F x)) = parts.toList.map fun (i, x) => (i, aEval F' x) := by
      apply List.map_congr_left
      rintro ⟨i, x⟩ hx
      simp only
      rw [e x (by simp [Op.operands]; exact ⟨i, by simpa using hx⟩)]
    simp only [aOp, this]
  | buildSlice t len parts =>
    have : (parts.toList.map fun (i, x) => (i, aEval F x)) = parts.toList.map fun (i, x) => (i, aEval F' x) := by
      apply List.map_congr_left
      rintro ⟨i, x⟩ hx
      simp only
      rw [e x (by simp [Op.operands]; exact ⟨i, by simpa using hx⟩)]
    simp only [aOp, this]
  | load t x => simp only [aOp, e x (by simp [Op.operands])]
  | store t x y => simp only [aOp, e x (by simp [Op.operands]), e y (by simp [Op.operands])]
  | nilCheck x => simp only [aOp, e x (by simp [Op.operands])]
  | binOp o t x y u => simp only [aOp, aBinO, e x (by simp [Op.operands]), e y (by simp [Op.operands])]
  | unOp o t x => simp only [aOp, e x (by simp [Op.operands])]
  | convert s d x => simp only [aOp, e x (by simp [Op.operands])]
  | makeFunc fn xs us =>
    have h1 : xs.map (aEval F) = xs.map (aEval F') := by
      apply Array.map_congr_left; intro x hx; exact e x (by simp [Op.operands]; exact .inl hx)
    have h2 : us.map (aEval F) = us.map (aEval F') := by
      apply Array.map_congr_left; intro x hx; exact e x (by simp [Op.operands]; exact .inr hx)
    simp only [aOp, h1, h2]
  | makeMap t r => cases r <;> rfl
  | makeSlice t x y => simp only [aOp, e x (by simp [Op.operands]), e y (by simp [Op.operands])]
  | slice t x lo hi mx =>
    have h1 : lo.map (aEval F) = lo.map (aEval F') := by cases lo with
      | none => rfl
      | some y => simp only [Option.map_some]; rw [e y (by simp [Op.operands])]
    have h2 : hi.map (aEval F) = hi.map (aEval F') := by cases hi with
      | none => rfl
      | some y => simp only [Option.map_some]; rw [e y (by simp [Op.operands])]
    cases mx <;> simp only [aOp, e x (by simp [Op.operands]), h1, h2]
  | fieldAddr t x f => simp only [aOp, e x (by simp [Op.operands])]
  | field t x f => simp only [aOp, e x (by simp [Op.operands])]
  | indexAddr t x i => simp only [aOp, e x (by simp [Op.operands]), e i (by simp [Op.operands])]
  | index t x i => simp only [aOp, e x (by simp [Op.operands]), e i (by simp [Op.operands])]
  | lookup t m k ok => simp only [aOp, e m (by simp [Op.operands]), e k (by simp [Op.operands])]
  | mapUpdate t m k v => simp only [aOp, e m (by simp [Op.operands]), e k (by simp [Op.operands]), e v (by simp [Op.operands])]
  | extract x i => simp only [aOp, e x (by simp [Op.operands])]
  | call c =>
    obtain ⟨callee, args, argTypes⟩ := c
    cases callee with
    | builtin bi =>
      have : args.toList.map (aEval F) = args.toList.map (aEval F') := List.map_congr_left fun x hx => e x (by simp [Op.operands, Call.operands]; simpa using hx)
      simp only [aOp, this]
    | _ => rfl
  | _ => rfl

/-- Only computes. -/
def pureOp (P : Program) (op : Op) : Bool := !looks P op && !makes P op && !acts op

theorem valued_eq {σ σ' : AMem L} {v : Value} {x : Option Value} (h : valued σ x = some (v, σ')) (σ2 : AMem L) : σ' = σ ∧ valued σ2 x = some (v, σ2) := by
  obtain ⟨h1, h2⟩ := valued_some h
  exact ⟨h2, by rw [h1]; rfl⟩

theorem pure_indep {op : Op} {F : Fr} {σ σ' : AMem L} {b nx : Nat} {v : Value} (hp : pureOp P op = true) (h : aOp P op F σ b nx = some (v, σ')) :
    σ' = σ ∧ ∀ (σ2 : AMem L) (b2 nx2 : Nat), aOp P op F σ2 b2 nx2 = some (v, σ2) := by
  simp only [pureOp, Bool.and_eq_true, Bool.not_eq_true'] at hp
  obtain ⟨⟨hl, hmk⟩, ha⟩ := hp
  have key : ∀ x : Option Value, (∀ (σ2 : AMem L) (b2 nx2 : Nat), aOp P op F σ2 b2 nx2 = valued σ2 x) → σ' = σ ∧ ∀ (σ2 : AMem L) (b2 nx2 : Nat), aOp P op F σ2 b2 nx2 = some (v, σ2) := by
    intro x hx
    rw [hx] at h
    refine ⟨(valued_eq h σ).1, fun σ2 b2 nx2 => ?_⟩
    rw [hx]; exact (valued_eq h σ2).2
  cases op with
  | move x => exact key (some (aEval F x)) fun _ _ _ => rfl
  | assign x => exact key (some (aEval F x)) fun _ _ _ => rfl
  | pick c x y =>
    refine key (match aEval F c with | .bool t => some (if t then aEval F x else aEval F y) | _ => none) fun _ _ _ => ?_
    simp only [aOp]; cases aEval F c <;> rfl
  | build t parts => exact key _ fun _ _ _ => rfl
  | nilCheck x =>
    refine key (match aEval F x with | .pointer (some a) => some (.pointer (some a)) | .func (.func f) xs us => some (.func (.func f) xs us) | _ => none) fun _ _ _ => ?_
    simp only [aOp]
    split <;> simp_all [valued]
  | binOp o t x y u => exact key _ fun _ _ _ => rfl
  | unOp o t x => exact key _ fun _ _ _ => rfl
  | convert s d x =>
    simp only [aOp] at h ⊢
    simp only [looks] at hl
    simp only [makes] at hmk
    unfold aConv at h
    split at h
    · rename_i h1 h2 h3
      simp only [Option.some.injEq, Prod.mk.injEq] at h; obtain ⟨rfl, rfl⟩ := h
      exact ⟨rfl, fun _ _ _ => by simp [aConv, h1, h2, h3]⟩
    · rename_i h1 h2 h3
      simp only [Option.some.injEq, Prod.mk.injEq] at h; obtain ⟨rfl, rfl⟩ := h
      exact ⟨rfl, fun _ _ _ => by simp [aConv, h1, h2, h3]⟩
    · rename_i h1 h2 h3; rw [h2] at hmk; cases hmk
    · rename_i h1 h2 h3; rw [h1] at hl; cases hl
    · cases h
  | makeFunc fn xs us => exact key (some _) fun _ _ _ => rfl
  | fieldAddr t x f => exact key _ fun _ _ _ => rfl
  | field t x f => exact key _ fun _ _ _ => rfl
  | indexAddr t x i => exact key _ fun _ _ _ => rfl
  | index t x i => exact key _ fun _ _ _ => rfl
  | extract x i =>
    refine key (match aEval F x with | .tuple vs => vs[i]? | _ => none) fun _ _ _ => ?_
    simp only [aOp]; cases aEval F x <;> rfl
  | call c =>
    obtain ⟨callee, args, argTypes⟩ := c
    cases callee with
    | builtin bi =>
      have h' : aBuiltin P bi argTypes.toList (args.toList.map (aEval F)) σ b nx = some (v, σ') := h
      have goal : σ' = σ ∧ ∀ (σ2 : AMem L) (b2 nx2 : Nat), aBuiltin P bi argTypes.toList (args.toList.map (aEval F)) σ2 b2 nx2 = some (v, σ2) := by
        unfold aBuiltin at h' ⊢
        split at h'
        · rename_i x t h1 h2
          obtain ⟨h3, rfl⟩ := valued_some h'
          have hnm : ∀ k e, P.underlying t ≠ some (.map k e) := by
            intro k e hu
            have ht : argTypes[0]? = some t := by rw [← Array.getElem?_toList, h2]; rfl
            simp [looks, ht, hu] at hl
          refine ⟨rfl, fun σ2 _ _ => ?_⟩
          have : aLen P t x σ2 = some v := by
            unfold aLen at h3 ⊢
            split at h3
            · exact h3
            · exact h3
            · rename_i k e hu; exact absurd hu (hnm _ _)
            · rename_i k e r hu; exact absurd hu (hnm _ _)
            · cases h3
          simp only [this]; rfl
        · simp [acts] at ha
        · simp [acts] at ha
        · simp [acts] at ha
        · rename_i x y h1
          exact ⟨(valued_eq h' σ).1, fun σ2 _ _ => (valued_eq h' σ2).2⟩
        · rename_i x y h1
          exact ⟨(valued_eq h' σ).1, fun σ2 _ _ => (valued_eq h' σ2).2⟩
        · simp [acts] at ha
        · cases h'
      exact goal
    | _ => simp [acts] at ha
  | alloc => simp [makes] at hmk
  | box => simp [makes] at hmk
  | buildSlice => simp [makes] at hmk
  | makeSlice => simp [makes] at hmk
  | makeMap t r => cases r with
    | none => simp [makes] at hmk
    | some r => simp [aOp] at h
  | load => simp [looks] at hl
  | lookup => simp [looks] at hl
  | slice => simp [looks] at hl
  | store => simp [acts] at ha
  | mapUpdate => simp [acts] at ha
  | _ => simp [aOp] at h


def Le (σ σ2 : AMem L) : Prop := ∀ b o, σ.get b = some o → σ2.get b = some o

theorem Le.put {σ : AMem L} {c nx : Nat} {o : AObj L} (hc : σ.get c = none) : Le σ (σ.put c nx o) := by
  intro b ob hb
  rw [AMem.get_put, if_neg (by intro e; subst e; rw [hc] at hb; cases hb)]; exact hb

theorem aLoad_le {σ σ2 : AMem L} (hle : Le σ σ2) {t b off : Nat} {v : Value} (h : aLoad P t b off σ = some v) : aLoad P t b off σ2 = some v := by
  unfold aLoad at h ⊢
  split at h
  · rename_i h1 h2 h3; rw [hle _ _ h1, h2, h3]; exact h
  · rename_i h1 h2 h3; rw [hle _ _ h1, h2, h3]; exact h
  · cases h

theorem aSlice_le {σ σ2 : AMem L} (hle : Le σ σ2) {t : Nat} {x v : Value} {lo hi : Option Value} (h : aSlice P t x lo hi σ = some v) : aSlice P t x lo hi σ2 = some v := by
  unfold aSlice at h ⊢
  split at h
  · exact h
  · exact h
  · split at h
    · rename_i h1 _ _ _ _ _ h3 h4; simp only [h3, hle _ _ h4]; exact h
    · cases h
  · cases h

theorem sliceCells_le {σ σ2 : AMem L} (hle : Le σ σ2) {es : Nat} {x : Value} {l : List Value} (h : sliceCells σ es x = some l) : sliceCells σ2 es x = some l := by
  unfold sliceCells at h ⊢
  split at h
  · exact h
  · exact h
  · split at h
    · rename_i h1; simp only [hle _ _ h1]; exact h
    · cases h
  · cases h

theorem aLen_le {σ σ2 : AMem L} (hle : Le σ σ2) {t : Nat} {x v : Value} (h : aLen P t x σ = some v) : aLen P t x σ2 = some v := by
  unfold aLen at h ⊢
  split at h
  · exact h
  · exact h
  · exact h
  · split at h
    · rename_i h1; simp only [hle _ _ h1]; exact h
    · cases h
  · cases h

theorem aLookup_le {σ σ2 : AMem L} (hle : Le σ σ2) {t : Nat} {m k v : Value} {ok : Bool} (h : aLookup P t m k ok σ = some v) : aLookup P t m k ok σ2 = some v := by
  unfold aLookup at h ⊢
  split at h
  · rename_i h1
    split at h
    · rename_i h2 h3
      split at h
      · cases h
      · rename_i h4
        simp only [if_neg h4]
        split at h
        · exact h
        · split at h
          · rename_i h5; simp only [hle _ _ h5]; exact h
          · cases h
        · cases h
    · cases h
  · cases h

theorem looks_le {op : Op} {F : Fr} {σ σ' : AMem L} {b nx : Nat} {v : Value} (hp : looks P op = true) (hmk : makes P op = false) (h : aOp P op F σ b nx = some (v, σ')) :
    σ' = σ ∧ ∀ (σ2 : AMem L) (b2 nx2 : Nat), Le σ σ2 → aOp P op F σ2 b2 nx2 = some (v, σ2) := by
  cases op with
  | load t x =>
    simp only [aOp] at h ⊢
    generalize aEval F x = y at h ⊢
    split at h
    · obtain ⟨h1, rfl⟩ := valued_some h
      exact ⟨rfl, fun σ2 _ _ hle => by simp only [aLoad_le hle h1]; rfl⟩
    · cases h
  | lookup t m k ok =>
    simp only [aOp] at h ⊢
    obtain ⟨h1, rfl⟩ := valued_some h
    exact ⟨rfl, fun σ2 _ _ hle => by simp only [aLookup_le hle h1]; rfl⟩
  | slice t x lo hi mx =>
    cases mx with
    | some _ => simp [aOp] at h
    | none =>
      simp only [aOp] at h ⊢
      obtain ⟨h1, rfl⟩ := valued_some h
      exact ⟨rfl, fun σ2 _ _ hle => by simp only [aSlice_le hle h1]; rfl⟩
  | convert s d x =>
    simp only [aOp] at h ⊢
    simp only [looks] at hp
    unfold aConv at h
    split at h
    · rename_i h1 h2 h3
      simp only [Option.some.injEq, Prod.mk.injEq] at h; obtain ⟨rfl, rfl⟩ := h
      exact ⟨rfl, fun _ _ _ _ => by simp [aConv, h1, h2, h3]⟩
    · rename_i h1 h2 h3
      simp only [Option.some.injEq, Prod.mk.injEq] at h; obtain ⟨rfl, rfl⟩ := h
      exact ⟨rfl, fun _ _ _ _ => by simp [aConv, h1, h2, h3]⟩
    · rename_i h1 h2 h3
      simp only [makes] at hmk
      rw [h2] at hmk; cases hmk
    · rename_i e a n c h1 h2 h3
      split at h
      · rename_i l h4 h5
        simp only [Option.some.injEq, Prod.mk.injEq] at h; obtain ⟨rfl, rfl⟩ := h
        refine ⟨rfl, fun σ2 _ _ hle => ?_⟩
        obtain ⟨cs, h6, h7⟩ := Option.bind_eq_some_iff.1 h5
        simp [aConv, h1, h2, h3, h4, sliceCells_le hle h6, h7]
      · cases h
    · cases h
  | call c =>
    obtain ⟨callee, args, argTypes⟩ := c
    cases callee with
    | builtin bi =>
      cases bi <;> first | (simp [looks] at hp; done) | skip
      simp only [aOp] at h ⊢
      unfold aBuiltin at h ⊢
      split at h
      · rename_i h1 h2
        obtain ⟨h3, rfl⟩ := valued_some h
        exact ⟨rfl, fun σ2 _ _ hle => by simp only [aLen_le hle h3]; rfl⟩
      all_goals simp_all
    | _ => simp [looks] at hp
  | _ => simp [looks] at hp

theorem makes_indep {op : Op} {F : Fr} {b : Nat} {v : Value} {o : AObj L} (hp : makes P op = true) (hl : looks P op = false) (h : aNew P L op F b = some (v, o)) : o.isLogic = false ∧ o.isRo = false ∧ ∀ (σ : AMem L) (nx : Nat), aOp P op F σ b nx = some (v, σ.put b nx o) := by
  have key : ∀ (x : Option (Value × AObj L)), (∀ (σ : AMem L) (nx : Nat), aOp P op F σ b nx = x.map fun p => (p.1, σ.put b nx p.2)) → (∀ p, x = some p → p.2.isLogic = false ∧ p.2.isRo = false) →
      o.isLogic = false ∧ o.isRo = false ∧ ∀ (σ : AMem L) (nx : Nat), aOp P op F σ b nx = some (v, σ.put b nx o) := by
    intro x hx hq
    unfold aNew at h
    rw [hx] at h
    cases x with
    | none => simp at h
    | some p =>
      simp only [Option.map_some, AMem.get_put, if_true, Option.some.injEq, Prod.mk.injEq] at h
      obtain ⟨rfl, rfl⟩ := h
      exact ⟨(hq p rfl).1, (hq p rfl).2, fun σ nx => hx σ nx⟩
  cases op with
  | alloc e =>
    refine key (match zeroOf P e, szOf P e with | some z, some _ => if z.cells.all flat then some (.pointer (some ⟨b, 0, none⟩), .cells z.cells.toList e false) else none | _, _ => none) (fun σ nx => ?_) fun p hp => ?_
    · simp only [aOp]
      cases zeroOf P e <;> cases szOf P e <;> simp only [Option.map_none]
      split <;> rfl
    · split at hp
      · split at hp
        · cases hp; exact ⟨rfl, rfl⟩
        · cases hp
      · cases hp
  | box e x =>
    refine key (match cellsOf (aEval F x), szOf P e with | some cs, some _ => some (.pointer (some ⟨b, 0, none⟩), .cells cs e false) | _, _ => none) (fun σ nx => ?_) fun p hp => ?_
    · simp only [aOp]
      cases cellsOf (aEval F x) <;> cases szOf P e <;> rfl
    · split at hp
      · cases hp; exact ⟨rfl, rfl⟩
      · cases hp
  | buildSlice t len parts =>
    simp only [aNew, aOp] at h
    simp only [aOp]
    unfold aBuildSlice at h ⊢
    split at h
    · rename_i v' σ' h1
      split at h1
      · rename_i e he
        split at h1
        · rename_i es z hs hz
          split at h1
          · cases h1
          · rename_i hc
            simp only [if_neg hc]
            split at h1
            · rename_i cs hcs
              simp only [Option.some.injEq, Prod.mk.injEq] at h1
              obtain ⟨rfl, rfl⟩ := h1
              simp only [AMem.get_put, if_true, Option.map_some, Option.some.injEq, Prod.mk.injEq] at h
              obtain ⟨rfl, rfl⟩ := h
              exact ⟨rfl, rfl, fun _ _ => rfl⟩
            · cases h1
        · cases h1
      · cases h1
    · cases h
  | makeSlice t l c =>
    simp only [aNew, aOp] at h
    simp only [aOp]
    unfold aMakeSlice at h ⊢
    split at h
    · rename_i v' σ' h1
      split at h1
      · rename_i e k l' k' c' he hl' hc'
        split at h1
        · rename_i es z by_ hs hz hb
          split at h1
          · cases h1
          · rename_i hcc
            simp only [if_neg hcc]
            split at h1
            · rename_i hcs
              simp only [if_pos hcs]
              simp only [Option.some.injEq, Prod.mk.injEq] at h1
              obtain ⟨rfl, rfl⟩ := h1
              simp only [AMem.get_put, if_true, Option.map_some, Option.some.injEq, Prod.mk.injEq] at h
              obtain ⟨rfl, rfl⟩ := h
              exact ⟨rfl, rfl, fun _ _ => rfl⟩
            · cases h1
        · cases h1
      · cases h1
    · cases h
  | makeMap t r =>
    cases r with
    | some r => simp [makes] at hp
    | none => exact key (some (.map (some b), .map [])) (fun _ _ => rfl) fun p hp => by cases hp; exact ⟨rfl, rfl⟩
  | convert s d x =>
    simp only [makes] at hp
    simp only [looks] at hl
    simp only [aNew, aOp] at h
    simp only [aOp]
    split at h
    · rename_i v' σ' h1
      unfold aConv at h1
      split at h1
      · rename_i h2 h3 h4; rw [h3] at hp; cases hp
      · rename_i h2 h3 h4; rw [h3] at hp; cases hp
      · rename_i dd e str h2 h3 h4
        split at h1
        · rename_i h5 h6
          simp only [Option.some.injEq, Prod.mk.injEq] at h1
          obtain ⟨rfl, rfl⟩ := h1
          simp only [AMem.get_put, if_true, Option.map_some, Option.some.injEq, Prod.mk.injEq] at h
          obtain ⟨rfl, rfl⟩ := h
          exact ⟨rfl, rfl, fun σ nx => by simp [aConv, h2, h3, h4, h5, h6]⟩
        · cases h1
      · rename_i h2 h3 h4; rw [h3] at hp; cases hp
      · cases h1
    · cases h
  | _ => simp [makes] at hp

end Go.Ax
