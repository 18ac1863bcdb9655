/- A region that draws its order: steps that need not wait for one another may change places. -/
import Derived.Test.YtaeoiohcalonkaaGreatDoorAxIndep
import Derived.Test.YtaeoiohcalonkaaGreatDoorAxPhys
set_option linter.unusedVariables false
set_option linter.unusedSimpArgs false
namespace Go.Ax
open Go
variable {L : Type} {P : Program}

/-- A call's answer, and whatever follows of it. -/
def clo (call : Spec L) : Spec L := fun f args σ K => ∃ K0, call f args σ K0 ∧ ∀ v σ, K0 v σ → K v σ

theorem Sim.clo {rel : Rel P L} {call : Spec L} (h : Sim rel call) : Sim rel (clo call) := by
  rintro f args σ K ⟨K0, h0, hK⟩ κ ρ w args' hr hR
  refine (h f args σ K0 h0 κ ρ w args' hr hR).mono fun e w' he => ?_
  obtain ⟨v, v', ρ', σ', h1, h2, h3⟩ := he
  exact ⟨v, v', ρ', σ', h1, hK _ _ h2, h3⟩

theorem aWanted_congr {ops : Array Oper} {o : Oper} {F F' : Fr} (h : ∀ d ∈ o.looksAt ops, F d = F' d) : aWanted ops o F = aWanted ops o F' := by
  unfold aWanted
  split
  · rfl
  · rename_i j want hg
    cases hd : (ops[j]?).bind (·.dst) with
    | none => rfl
    | some t =>
      simp only
      rw [h t (by simp [Oper.looksAt, hg, hd])]

theorem looksAt_operands {ops : Array Oper} {o : Oper} {t : Nat} (h : Operand.tmp t ∈ o.op.operands) : t ∈ o.looksAt ops := by
  simp only [Oper.looksAt, List.mem_append, List.mem_filterMap]
  exact .inl ⟨.tmp t, by simpa using h, rfl⟩

theorem aOp_congr' {ops : Array Oper} {o : Oper} {F F' : Fr} (h : ∀ d ∈ o.looksAt ops, F d = F' d) (σ : AMem L) (b nx : Nat) : aOp P o.op F σ b nx = aOp P o.op F' σ b nx :=
  aOp_congr (fun t ht => h t (looksAt_operands ht)) σ b nx

theorem aNew_congr {ops : Array Oper} {o : Oper} {F F' : Fr} (h : ∀ d ∈ o.looksAt ops, F d = F' d) (b : Nat) : aNew P L o.op F b = aNew P L o.op F' b := by
  unfold aNew; rw [aOp_congr' h]

theorem put_comm {F : Fr} {d e : Option Nat} (v u : Value) (h : ∀ x, d = some x → e ≠ some x) : Fr.put (Fr.put F d v) e u = Fr.put (Fr.put F e u) d v := by
  cases d with
  | none => rfl
  | some d =>
    cases e with
    | none => rfl
    | some e =>
      have hne : e ≠ d := fun hh => h d rfl (by rw [hh])
      funext i
      simp only [Fr.put, Fr.set]
      by_cases h1 : i = e
      · subst h1; simp [hne]
      · simp [h1]

theorem put_agree {F : Fr} {d : Option Nat} {v : Value} {ds : List Nat} (h : ∀ x, d = some x → x ∉ ds) : ∀ x ∈ ds, Fr.put F d v x = F x := by
  intro x hx
  cases d with
  | none => rfl
  | some d =>
    have : x ≠ d := fun e => h d rfl (e ▸ hx)
    simp [Fr.put, Fr.set, this]

/-- A step, of frames that agree where it looks. -/
theorem aStep_congr {call : Spec L} {ops : Array Oper} {o : Oper} {F F' : Fr} {σ : AMem L} {b nx : Nat} {K K' : Fr → AMem L → Prop} (h : aStep P call ops o F σ b nx K) (hF : ∀ d ∈ o.looksAt ops, F d = F' d)
    (hK : ∀ u σ', K (Fr.put F o.dst u) σ' → K' (Fr.put F' o.dst u) σ') : aStep P (clo call) ops o F' σ b nx K' := by
  unfold aStep at h ⊢
  rw [← aWanted_congr hF]
  split at h
  · exact h.elim
  · exact hK _ _ h
  · split at h
    · rename_i f args argTypes hop
      have hev : ∀ x, x ∈ o.op.operands → aEval F x = aEval F' x := fun x hx => aEval_congr (fun t ht => hF t (looksAt_operands ht)) hx
      have h1 : aEval F f = aEval F' f := hev f (by simp [hop, Op.operands, Call.operands])
      have h2 : args.toList.map (aEval F) = args.toList.map (aEval F') := List.map_congr_left fun x hx => hev x (by simp [hop, Op.operands, Call.operands]; exact .inr (by simpa using hx))
      rw [← h1, ← h2]
      split at h
      · exact ⟨_, h, fun v σ' hk => hK _ _ hk⟩
      · exact h.elim
    · rw [← aOp_congr' (ops := ops) hF]
      split at h
      · exact hK _ _ h
      · exact h.elim

section
variable (P) (ops : Array Oper) (base : Nat)

/-- The answer of a step that acts not, and of one that makes a block. -/
def qRes (L : Type) (x : PItem) (F : Fr) (σ : AMem L) : Option (Value × Option (AObj L)) :=
  match x with
  | .op i => match ops[i]? with
    | none => none
    | some o => match aWanted ops o F with
      | none => none
      | some false => some (skipped, none)
      | some true => (aOp P o.op F σ (base + i) σ.next).map fun p => (p.1, none)
  | .mk i => match ops[i]? with
    | none => none
    | some o => match aWanted ops o F with
      | none => none
      | some false => some (skipped, none)
      | some true => (aNew P L o.op F (base + i)).map fun p => (p.1, some p.2)
  | .reveal _ => none

def PItem.idx : PItem → Option Nat
  | .op i | .mk i => some i
  | .reveal _ => none
def PItem.rev : PItem → Option Nat
  | .reveal i => some i
  | _ => none
def PItem.look : PItem → List Nat
  | .op i => [i]
  | _ => []
def PItem.dst (ops : Array Oper) (x : PItem) : Option Nat := x.idx.bind fun i => (ops[i]?).bind (·.dst)

/-- A step that acts not. -/
def Quiet (x : PItem) : Prop :=
  match x with
  | .op i => ∃ o, ops[i]? = some o ∧ acts o.op = false ∧ makes P o.op = false
  | .mk i => ∃ o, ops[i]? = some o ∧ makes P o.op = true ∧ looks P o.op = false ∧ acts o.op = false
  | .reveal _ => False
end

def addPend {L : Type} (pend : Nat → Option (AObj L)) (i : Option Nat) (o : Option (AObj L)) : Nat → Option (AObj L) :=
  match i, o with
  | some i, some o => setPend pend i o
  | _, _ => pend

theorem addPend_comm {pend : Nat → Option (AObj L)} {i j : Option Nat} {a b : Option (AObj L)} (h : ∀ x, i = some x → j ≠ some x) : addPend (addPend pend i a) j b = addPend (addPend pend j b) i a := by
  cases i with
  | none => rfl
  | some i =>
    cases j with
    | none => rfl
    | some j =>
      cases a with
      | none => rfl
      | some a =>
        cases b with
        | none => rfl
        | some b =>
          have hne : j ≠ i := fun e => h i rfl (by rw [e])
          funext x
          simp only [addPend, setPend]
          by_cases h1 : x = j
          · subst h1; simp [hne]
          · simp [h1]

variable {ops : Array Oper} {base : Nat} {W : Nat → Nat → Bool} {call : Spec L}

theorem aStep_noCall {call : Spec L} {ops : Array Oper} {o : Oper} (hnc : ∀ f args at', o.op ≠ .call { callee := .value f, args := args, argTypes := at' }) (F : Fr) (σ : AMem L) (b nx : Nat) (K : Fr → AMem L → Prop) :
    aStep P call ops o F σ b nx K = (match aWanted ops o F with
      | none => False
      | some false => K (Fr.put F o.dst skipped) σ
      | some true => match aOp P o.op F σ b nx with
        | some (v, σ') => K (Fr.put F o.dst v) σ'
        | none => False) := by
  obtain ⟨dst, op, type, pos, after, guard⟩ := o
  cases op with
  | call c =>
    obtain ⟨callee, args, at'⟩ := c
    cases callee with
    | value f => exact absurd rfl (hnc f args at')
    | _ => rfl
  | _ => rfl

theorem quiet_step {i : Nat} {o : Oper} (ho : ops[i]? = some o) (ha : acts o.op = false) (F : Fr) (σ : AMem L) (K : Fr → AMem L → Prop) (hsame : ∀ v σ', aOp P o.op F σ (base + i) σ.next = some (v, σ') → σ' = σ) :
    aStep P call ops o F σ (base + i) σ.next K ↔ ∃ v r, qRes P ops base L (.op i) F σ = some (v, r) ∧ r = none ∧ K (Fr.put F o.dst v) σ := by
  have hnc : ∀ f args at', o.op ≠ .call { callee := .value f, args := args, argTypes := at' } := fun f args at' e => by rw [e] at ha; simp [acts] at ha
  rw [aStep_noCall hnc]
  unfold qRes
  simp only [ho]
  cases hw : aWanted ops o F with
  | none => simp
  | some t =>
    cases t with
    | false =>
      simp only [Option.some.injEq, Prod.mk.injEq]
      constructor
      · intro h; exact ⟨_, _, ⟨rfl, rfl⟩, rfl, h⟩
      · rintro ⟨v, r, ⟨rfl, rfl⟩, _, h⟩; exact h
    | true =>
      simp only
      have key : (match aOp P o.op F σ (base + i) σ.next with
            | some (v, σ') => K (Fr.put F o.dst v) σ'
            | none => False) ↔ ∃ v r, (aOp P o.op F σ (base + i) σ.next).map (fun p => (p.1, (none : Option (AObj L)))) = some (v, r) ∧ r = none ∧ K (Fr.put F o.dst v) σ := by
        cases hop : aOp P o.op F σ (base + i) σ.next with
        | none => simp
        | some p =>
          obtain ⟨v, σ'⟩ := p
          have := hsame v σ' hop
          subst this
          simp only [Option.map_some, Option.some.injEq, Prod.mk.injEq]
          constructor
          · intro h; exact ⟨_, _, ⟨rfl, rfl⟩, rfl, h⟩
          · rintro ⟨v, r, ⟨rfl, rfl⟩, _, h⟩; exact h
      exact key

theorem quiet_same {o : Oper} (ha : acts o.op = false) (hm : makes P o.op = false) {F : Fr} {σ σ' : AMem L} {b nx : Nat} {v : Value} (h : aOp P o.op F σ b nx = some (v, σ')) : σ' = σ := by
  cases hl : looks P o.op with
  | true => exact (looks_le hl hm h).1
  | false => exact (pure_indep (by simp [pureOp, hl, hm, ha]) h).1

/-- The evaluator's step at a quiet item. -/
theorem aPl_quiet {x : PItem} (hx : Quiet P ops x) {rest : List PItem} {done : List Nat} {pend : Nat → Option (AObj L)} {F : Fr} {σ : AMem L} {K : Fr → AMem L → Prop} :
    aPl P call ops base W (x :: rest) done pend F σ K ↔ ∃ v r, qRes P ops base L x F σ = some (v, r) ∧ aPl P call ops base W rest (done ++ x.look) (addPend pend x.idx r) (Fr.put F (x.dst ops) v) σ K := by
  cases x with
  | op i =>
    obtain ⟨o, ho, ha, hm⟩ := hx
    simp only [aPl, ho]
    rw [quiet_step ho ha F σ _ (fun v σ' h => quiet_same ha hm h)]
    simp only [ha, Bool.false_eq_true, false_implies, true_and, PItem.look, PItem.dst, PItem.idx, Option.bind_some, ho]
    constructor
    · rintro ⟨v, r, h1, rfl, h2⟩; exact ⟨v, none, h1, h2⟩
    · rintro ⟨v, r, h1, h2⟩
      have : r = none := by
        simp only [qRes, ho] at h1
        split at h1
        · cases h1
        · cases h1; rfl
        · obtain ⟨p, _, hp⟩ := Option.map_eq_some_iff.1 h1; cases hp; rfl
      subst this
      exact ⟨v, none, h1, rfl, h2⟩
  | mk i =>
    obtain ⟨o, ho, _⟩ := hx
    simp only [aPl, ho, qRes, PItem.look, PItem.dst, PItem.idx, Option.bind_some, List.append_nil]
    cases hw : aWanted ops o F with
    | none => simp
    | some t =>
      cases t with
      | false =>
        simp only [Option.some.injEq, Prod.mk.injEq]
        constructor
        · intro h; exact ⟨_, _, ⟨rfl, rfl⟩, h⟩
        · rintro ⟨v, r, ⟨rfl, rfl⟩, h⟩; exact h
      | true =>
        cases hn : aNew P L o.op F (base + i) with
        | none => simp
        | some p =>
          simp only [Option.map_some, Option.some.injEq, Prod.mk.injEq]
          constructor
          · intro h; exact ⟨_, _, ⟨rfl, rfl⟩, h⟩
          · rintro ⟨v, r, ⟨rfl, rfl⟩, h⟩; exact h
  | reveal i => exact hx.elim

end Go.Ax
