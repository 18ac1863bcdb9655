/- A region that draws its order: steps that need not wait for one another may change places. -/
import Derived.Test.YtmnffigepjgnhaaGreatDoorAxC
import Derived.Orders
import Derived.CheckFast
import Derived.Tactics
set_option linter.unusedVariables false
set_option linter.unusedSimpArgs false
namespace Go.Ax
open Go
variable {L : Type} {P : Program}

/-- A call's answer, and whatever follows of it. -/
def clo (call : Spec L) : Spec L := fun f args σ K => ∃ K0, call f args σ K0 ∧ ∀ v σ, K0 v σ → K v σ

theorem Sim.clo {rel : Rel P L} {call : Spec L} (h : Sim rel call) : Sim rel (clo call) := by
  rintro f args σ K ⟨K0, h0, hK⟩ κ ρ w args' hr hR
  refine (h f args σ K0 h0 κ ρ w args' hr hR).mono fun e w' he => ?_
  obtain ⟨v, v', ρ', σ', h1, h2, h3⟩ := he
  exact ⟨v, v', ρ', σ', h1, hK _ _ h2, h3⟩

theorem aWanted_congr {ops : Array Oper} {o : Oper} {F F' : Fr} (h : ∀ d ∈ o.looksAt ops, F d = F' d) : aWanted ops o F = aWanted ops o F' := by
  unfold aWanted
  split
  · rfl
  · rename_i j want hg
    cases hd : (ops[j]?).bind (·.dst) with
    | none => rfl
    | some t =>
      simp only
      rw [h t (by simp [Oper.looksAt, hg, hd])]

theorem looksAt_operands {ops : Array Oper} {o : Oper} {t : Nat} (h : Operand.tmp t ∈ o.op.operands) : t ∈ o.looksAt ops := by
  simp only [Oper.looksAt, List.mem_append, List.mem_filterMap]
  exact .inl ⟨.tmp t, by simpa using h, rfl⟩

theorem aOp_congr' {ops : Array Oper} {o : Oper} {F F' : Fr} (h : ∀ d ∈ o.looksAt ops, F d = F' d) (σ : AMem L) (b nx : Nat) : aOp P o.op F σ b nx = aOp P o.op F' σ b nx :=
  aOp_congr (fun t ht => h t (looksAt_operands ht)) σ b nx

theorem aNew_congr {ops : Array Oper} {o : Oper} {F F' : Fr} (h : ∀ d ∈ o.looksAt ops, F d = F' d) (b : Nat) : aNew P L o.op F b = aNew P L o.op F' b := by
  unfold aNew; rw [aOp_congr' h]

theorem put_comm {F : Fr} {d e : Option Nat} (v u : Value) (h : ∀ x, d = some x → e ≠ some x) : Fr.put (Fr.put F d v) e u = Fr.put (Fr.put F e u) d v := by
  cases d with
  | none => rfl
  | some d =>
    cases e with
    | none => rfl
    | some e =>
      have hne : e ≠ d := fun hh => h d rfl (by rw [hh])
      funext i
      simp only [Fr.put, Fr.set]
      by_cases h1 : i = e
      · subst h1; simp [hne]
      · simp [h1]

theorem put_agree {F : Fr} {d : Option Nat} {v : Value} {ds : List Nat} (h : ∀ x, d = some x → x ∉ ds) : ∀ x ∈ ds, Fr.put F d v x = F x := by
  intro x hx
  cases d with
  | none => rfl
  | some d =>
    have : x ≠ d := fun e => h d rfl (e ▸ hx)
    simp [Fr.put, Fr.set, this]

/-- A step, of frames that agree where it looks. -/
theorem aStep_congr {call : Spec L} {ops : Array Oper} {o : Oper} {F F' : Fr} {σ : AMem L} {b nx : Nat} {K K' : Fr → AMem L → Prop} (h : aStep P call ops o F σ b nx K) (hF : ∀ d ∈ o.looksAt ops, F d = F' d)
    (hK : ∀ u σ', K (Fr.put F o.dst u) σ' → K' (Fr.put F' o.dst u) σ') : aStep P (clo call) ops o F' σ b nx K' := by
  unfold aStep at h ⊢
  rw [← aWanted_congr hF]
  split at h
  · exact h.elim
  · exact hK _ _ h
  · split at h
    · rename_i f args argTypes hop
      have hev : ∀ x, x ∈ o.op.operands → aEval F x = aEval F' x := fun x hx => aEval_congr (fun t ht => hF t (looksAt_operands ht)) hx
      have h1 : aEval F f = aEval F' f := hev f (by simp [hop, Op.operands, Call.operands])
      have h2 : args.toList.map (aEval F) = args.toList.map (aEval F') := List.map_congr_left fun x hx => hev x (by simp [hop, Op.operands, Call.operands]; exact .inr (by simpa using hx))
      rw [← h1, ← h2]
      split at h
      · exact ⟨_, h, fun v σ' hk => hK _ _ hk⟩
      · exact h.elim
    · rw [← aOp_congr' (ops := ops) hF]
      split at h
      · exact hK _ _ h
      · exact h.elim

section
variable (P) (ops : Array Oper) (base : Nat)

/-- The answer of a step that acts not, and of one that makes a block. -/
def qRes (L : Type) (x : PItem) (F : Fr) (σ : AMem L) : Option (Value × Option (AObj L)) :=
  match x with
  | .op i => match ops[i]? with
    | none => none
    | some o => match aWanted ops o F with
      | none => none
      | some false => some (skipped, none)
      | some true => (aOp P o.op F σ (base + i) σ.next).map fun p => (p.1, none)
  | .mk i => match ops[i]? with
    | none => none
    | some o => match aWanted ops o F with
      | none => none
      | some false => some (skipped, none)
      | some true => (aNew P L o.op F (base + i)).map fun p => (p.1, some p.2)
  | .reveal _ => none

def PItem.idx : PItem → Option Nat
  | .op i | .mk i => some i
  | .reveal _ => none
def PItem.rev : PItem → Option Nat
  | .reveal i => some i
  | _ => none
def PItem.look : PItem → List Nat
  | .op i => [i]
  | _ => []
def PItem.dst (ops : Array Oper) (x : PItem) : Option Nat := x.idx.bind fun i => (ops[i]?).bind (·.dst)

/-- A step that acts not. -/
def Quiet (x : PItem) : Prop :=
  match x with
  | .op i => ∃ o, ops[i]? = some o ∧ acts o.op = false ∧ makes P o.op = false
  | .mk i => ∃ o, ops[i]? = some o ∧ makes P o.op = true ∧ looks P o.op = false ∧ acts o.op = false
  | .reveal _ => False
end

def addPend {L : Type} (pend : Nat → Option (AObj L)) (i : Option Nat) (o : Option (AObj L)) : Nat → Option (AObj L) :=
  match i, o with
  | some i, some o => setPend pend i o
  | _, _ => pend

theorem addPend_comm {pend : Nat → Option (AObj L)} {i j : Option Nat} {a b : Option (AObj L)} (h : ∀ x, i = some x → j ≠ some x) : addPend (addPend pend i a) j b = addPend (addPend pend j b) i a := by
  cases i with
  | none => rfl
  | some i =>
    cases j with
    | none => rfl
    | some j =>
      cases a with
      | none => rfl
      | some a =>
        cases b with
        | none => rfl
        | some b =>
          have hne : j ≠ i := fun e => h i rfl (by rw [e])
          funext x
          simp only [addPend, setPend]
          by_cases h1 : x = j
          · subst h1; simp [hne]
          · simp [h1]

variable {ops : Array Oper} {base : Nat} {W : Nat → Nat → Bool} {call : Spec L}

theorem aStep_noCall {call : Spec L} {ops : Array Oper} {o : Oper} (hnc : ∀ f args at', o.op ≠ .call { callee := .value f, args := args, argTypes := at' }) (F : Fr) (σ : AMem L) (b nx : Nat) (K : Fr → AMem L → Prop) :
    aStep P call ops o F σ b nx K = (match aWanted ops o F with
      | none => False
      | some false => K (Fr.put F o.dst skipped) σ
      | some true => match aOp P o.op F σ b nx with
        | some (v, σ') => K (Fr.put F o.dst v) σ'
        | none => False) := by
  obtain ⟨dst, op, type, pos, after, guard⟩ := o
  cases op with
  | call c =>
    obtain ⟨callee, args, at'⟩ := c
    cases callee with
    | value f => exact absurd rfl (hnc f args at')
    | _ => rfl
  | _ => rfl

theorem quiet_step {i : Nat} {o : Oper} (ho : ops[i]? = some o) (ha : acts o.op = false) (F : Fr) (σ : AMem L) (K : Fr → AMem L → Prop) (hsame : ∀ v σ', aOp P o.op F σ (base + i) σ.next = some (v, σ') → σ' = σ) :
    aStep P call ops o F σ (base + i) σ.next K ↔ ∃ v r, qRes P ops base L (.op i) F σ = some (v, r) ∧ r = none ∧ K (Fr.put F o.dst v) σ := by
  have hnc : ∀ f args at', o.op ≠ .call { callee := .value f, args := args, argTypes := at' } := fun f args at' e => by rw [e] at ha; simp [acts] at ha
  rw [aStep_noCall hnc]
  unfold qRes
  simp only [ho]
  cases hw : aWanted ops o F with
  | none => simp
  | some t =>
    cases t with
    | false =>
      simp only [Option.some.injEq, Prod.mk.injEq]
      constructor
      · intro h; exact ⟨_, _, ⟨rfl, rfl⟩, rfl, h⟩
      · rintro ⟨v, r, ⟨rfl, rfl⟩, _, h⟩; exact h
    | true =>
      simp only
      have key : (match aOp P o.op F σ (base + i) σ.next with
            | some (v, σ') => K (Fr.put F o.dst v) σ'
            | none => False) ↔ ∃ v r, (aOp P o.op F σ (base + i) σ.next).map (fun p => (p.1, (none : Option (AObj L)))) = some (v, r) ∧ r = none ∧ K (Fr.put F o.dst v) σ := by
        cases hop : aOp P o.op F σ (base + i) σ.next with
        | none => simp
        | some p =>
          obtain ⟨v, σ'⟩ := p
          have := hsame v σ' hop
          subst this
          simp only [Option.map_some, Option.some.injEq, Prod.mk.injEq]
          constructor
          · intro h; exact ⟨_, _, ⟨rfl, rfl⟩, rfl, h⟩
          · rintro ⟨v, r, ⟨rfl, rfl⟩, _, h⟩; exact h
      exact key

theorem quiet_same {o : Oper} (ha : acts o.op = false) (hm : makes P o.op = false) {F : Fr} {σ σ' : AMem L} {b nx : Nat} {v : Value} (h : aOp P o.op F σ b nx = some (v, σ')) : σ' = σ := by
  cases hl : looks P o.op with
  | true => exact (looks_le hl hm h).1
  | false => exact (pure_indep (by simp [pureOp, hl, hm, ha]) h).1

/-- The evaluator's step at a quiet item. -/
theorem aPl_quiet {x : PItem} (hx : Quiet P ops x) {rest : List PItem} {done : List Nat} {pend : Nat → Option (AObj L)} {F : Fr} {σ : AMem L} {K : Fr → AMem L → Prop} :
    aPl P call ops base W (x :: rest) done pend F σ K ↔ ∃ v r, qRes P ops base L x F σ = some (v, r) ∧ aPl P call ops base W rest (done ++ x.look) (addPend pend x.idx r) (Fr.put F (x.dst ops) v) σ K := by
  cases x with
  | op i =>
    obtain ⟨o, ho, ha, hm⟩ := hx
    simp only [aPl, ho]
    rw [quiet_step ho ha F σ _ (fun v σ' h => quiet_same ha hm h)]
    simp only [ha, Bool.false_eq_true, false_implies, true_and, PItem.look, PItem.dst, PItem.idx, Option.bind_some, ho]
    constructor
    · rintro ⟨v, r, h1, rfl, h2⟩; exact ⟨v, none, h1, h2⟩
    · rintro ⟨v, r, h1, h2⟩
      have : r = none := by
        simp only [qRes, ho] at h1
        split at h1
        · cases h1
        · cases h1; rfl
        · obtain ⟨p, _, hp⟩ := Option.map_eq_some_iff.1 h1; cases hp; rfl
      subst this
      exact ⟨v, none, h1, rfl, h2⟩
  | mk i =>
    obtain ⟨o, ho, _⟩ := hx
    simp only [aPl, ho, qRes, PItem.look, PItem.dst, PItem.idx, Option.bind_some, List.append_nil]
    cases hw : aWanted ops o F with
    | none => simp
    | some t =>
      cases t with
      | false =>
        simp only [Option.some.injEq, Prod.mk.injEq]
        constructor
        · intro h; exact ⟨_, _, ⟨rfl, rfl⟩, h⟩
        · rintro ⟨v, r, ⟨rfl, rfl⟩, h⟩; exact h
      | true =>
        cases hn : aNew P L o.op F (base + i) with
        | none => simp
        | some p =>
          simp only [Option.map_some, Option.some.injEq, Prod.mk.injEq]
          constructor
          · intro h; exact ⟨_, _, ⟨rfl, rfl⟩, h⟩
          · rintro ⟨v, r, ⟨rfl, rfl⟩, h⟩; exact h
  | reveal i => exact hx.elim

end Go.Ax

/- Exchanging steps of a region. -/
namespace Go.Ax
open Go
variable {L : Type} {P : Program} {ops : Array Oper} {base : Nat} {W : Nat → Nat → Bool} {call : Spec L}

theorem clo_clo (call : Spec L) : clo (clo call) = clo call := by
  funext f args σ K
  apply propext
  constructor
  · rintro ⟨K0, ⟨K1, h1, h2⟩, h3⟩; exact ⟨K1, h1, fun v σ h => h3 _ _ (h2 _ _ h)⟩
  · intro h; exact ⟨K, h, fun _ _ h => h⟩

theorem aStep_mono {call : Spec L} (hc : clo call = call) {o : Oper} {F : Fr} {σ : AMem L} {b nx : Nat} {K K' : Fr → AMem L → Prop} (h : aStep P call ops o F σ b nx K)
    (hK : ∀ F' σ', K F' σ' → K' F' σ') : aStep P call ops o F σ b nx K' := by
  have := aStep_congr (F' := F) h (fun _ _ => rfl) (fun u σ' => hK _ σ')
  rwa [hc] at this

/-- Less is looked at again. -/
theorem aPl_done (hc : clo call = call) {K : Fr → AMem L → Prop} : ∀ (items : List PItem) (done done' : List Nat) (pend : Nat → Option (AObj L)) (F : Fr) (σ : AMem L), (∀ j ∈ done', j ∈ done) →
    aPl P call ops base W items done pend F σ K → aPl P call ops base W items done' pend F σ K
  | [], _, _, _, _, _, _, h => h
  | .op i :: rest, done, done', pend, F, σ, hd, h => by
    simp only [aPl] at h ⊢
    split at h
    · exact h.elim
    · refine aStep_mono hc h fun F' σ' hh => ⟨fun ha j hj => hh.1 ha j (hd j hj), aPl_done hc rest _ _ pend F' σ' ?_ hh.2⟩
      intro j hj
      simp only [List.mem_append] at hj ⊢
      exact hj.imp (hd j) id
  | .mk i :: rest, done, done', pend, F, σ, hd, h => by
    simp only [aPl] at h ⊢
    split at h
    · exact h.elim
    · split at h
      · exact h.elim
      · exact aPl_done hc rest _ _ _ _ _ hd h
      · split at h
        · exact aPl_done hc rest _ _ _ _ _ hd h
        · exact h.elim
  | .reveal i :: rest, done, done', pend, F, σ, hd, h => by
    simp only [aPl] at h ⊢
    split at h
    · exact aPl_done hc rest _ _ _ _ _ hd h
    · exact aPl_done hc rest _ _ _ _ _ hd h

/-- What a region's own text gives, the ways of waiting among it. -/
structure Static (P : Program) (ops : Array Oper) (W : Nat → Nat → Bool) : Prop where
  dsts : ∀ (i j : Nat) (oi oj : Oper) (d : Nat), ops[i]? = some oi → ops[j]? = some oj → oi.dst = some d → oj.dst = some d → i = j
  reads : ∀ (i j : Nat) (oi oj : Oper) (d : Nat), ops[i]? = some oi → ops[j]? = some oj → oi.dst = some d → d ∈ oj.looksAt ops → W j i = true ∨ (W i j = true ∧ looks P oj.op = false)
  closed : ∀ (i k : Nat), W i k = true → ∃ (o : Oper) (e : Edge), ops[i]? = some o ∧ e ∈ o.after ∧ Region.binds .any e = true ∧ (e.on = k ∨ W e.on k = true)
  irrefl : ∀ i, W i i = false

def PItem.slots (ops : Array Oper) (x : PItem) : List Nat :=
  match x.idx with
  | some i => match ops[i]? with
    | some o => o.looksAt ops
    | none => []
  | none => []

theorem qRes_congr {x : PItem} {F F' : Fr} {σ : AMem L} (h : ∀ d ∈ x.slots ops, F d = F' d) : qRes P ops base L x F σ = qRes P ops base L x F' σ := by
  cases x with
  | op i =>
    simp only [qRes]
    simp only [PItem.slots, PItem.idx] at h
    cases ho : ops[i]? with
    | none => rfl
    | some o =>
      simp only [ho] at h
      simp only
      rw [aWanted_congr h, aOp_congr' h]
  | mk i =>
    simp only [qRes]
    simp only [PItem.slots, PItem.idx] at h
    cases ho : ops[i]? with
    | none => rfl
    | some o =>
      simp only [ho] at h
      simp only
      rw [aWanted_congr h, aNew_congr h]
  | reveal i => rfl

/-- Neither waits for the other. -/
def Unrel (W : Nat → Nat → Bool) (x y : PItem) : Prop := ∀ i j, x.idx = some i → y.idx = some j → W i j = false ∧ W j i = false ∧ i ≠ j

theorem Unrel.symm {x y : PItem} (h : Unrel W x y) : Unrel W y x := fun i j hi hj => let ⟨a, b, c⟩ := h j i hj hi; ⟨b, a, c.symm⟩

theorem dst_notin (hs : Static P ops W) {x y : PItem} (h : Unrel W x y) : ∀ d, x.dst ops = some d → d ∉ y.slots ops := by
  intro d hd hm
  unfold PItem.dst at hd
  obtain ⟨i, hi, hd⟩ := Option.bind_eq_some_iff.1 hd
  obtain ⟨oi, hoi, hdi⟩ := Option.bind_eq_some_iff.1 hd
  unfold PItem.slots at hm
  split at hm
  · rename_i j hj
    split at hm
    · rename_i oj hoj
      obtain ⟨h1, h2, _⟩ := h i j hi hj
      rcases hs.reads i j oi oj d hoi hoj hdi hm with h3 | ⟨h3, _⟩
      · rw [h2] at h3; cases h3
      · rw [h1] at h3; cases h3
    · cases hm
  · cases hm

theorem dst_ne (hs : Static P ops W) {x y : PItem} (h : Unrel W x y) : ∀ d, x.dst ops = some d → y.dst ops ≠ some d := by
  intro d hd he
  unfold PItem.dst at hd he
  obtain ⟨i, hi, hd⟩ := Option.bind_eq_some_iff.1 hd
  obtain ⟨oi, hoi, hdi⟩ := Option.bind_eq_some_iff.1 hd
  obtain ⟨j, hj, he⟩ := Option.bind_eq_some_iff.1 he
  obtain ⟨oj, hoj, hdj⟩ := Option.bind_eq_some_iff.1 he
  exact (h i j hi hj).2.2 (hs.dsts i j oi oj d hoi hoj hdi hdj)

theorem idx_ne {x y : PItem} (h : Unrel W x y) : ∀ i, x.idx = some i → y.idx ≠ some i := fun i hi hj => (h i i hi hj).2.2 rfl

/-- A quiet step goes first. -/
theorem front_quiet (hc : clo call = call) (hs : Static P ops W) {x : PItem} (hx : Quiet P ops x) {K : Fr → AMem L → Prop} {post : List PItem} : ∀ (pre : List PItem) (done : List Nat) (pend : Nat → Option (AObj L)) (F : Fr) (σ : AMem L),
    (∀ y ∈ pre, Quiet P ops y ∧ Unrel W x y) → aPl P call ops base W (pre ++ x :: post) done pend F σ K →
      ∃ v r, qRes P ops base L x F σ = some (v, r) ∧ aPl P call ops base W (pre ++ post) done (addPend pend x.idx r) (Fr.put F (x.dst ops) v) σ K
  | [], done, pend, F, σ, _, h => by
    obtain ⟨v, r, h1, h2⟩ := (aPl_quiet hx).1 h
    exact ⟨v, r, h1, aPl_done hc post _ _ _ _ _ (fun j hj => by simp [hj]) h2⟩
  | y :: pre, done, pend, F, σ, hp, h => by
    obtain ⟨hy, hu⟩ := hp y (.head _)
    obtain ⟨u, s, h1, h2⟩ := (aPl_quiet hy).1 h
    obtain ⟨v, r, h3, h4⟩ := front_quiet hc hs hx pre _ _ _ _ (fun z hz => hp z (.tail _ hz)) h2
    refine ⟨v, r, ?_, (aPl_quiet hy).2 ⟨u, s, ?_, ?_⟩⟩
    · rw [← h3]; exact qRes_congr fun d hd => (put_agree (dst_notin hs hu.symm) d hd).symm
    · rw [← h1]; exact qRes_congr fun d hd => put_agree (dst_notin hs hu) d hd
    · rw [put_comm _ _ (dst_ne hs hu), addPend_comm (idx_ne hu)]; exact h4

theorem quiet_put {x : PItem} (hx : Quiet P ops x) {F : Fr} {σ : AMem L} {v : Value} {r : Option (AObj L)} {c nx : Nat} {o : AObj L} (hcn : σ.get c = none) (h : qRes P ops base L x F σ = some (v, r)) :
    qRes P ops base L x F (σ.put c nx o) = some (v, r) := by
  cases x with
  | op i =>
    obtain ⟨oi, ho, ha, hm⟩ := hx
    simp only [qRes, ho] at h ⊢
    split at h
    · cases h
    · exact h
    · obtain ⟨p, hp, hp2⟩ := Option.map_eq_some_iff.1 h
      obtain ⟨u, σ'⟩ := p
      have : aOp P oi.op F (σ.put c nx o) (base + i) (σ.put c nx o).next = some (u, σ.put c nx o) := by
        cases hl : looks P oi.op with
        | true => exact (looks_le hl hm hp).2 _ _ _ (Le.put hcn)
        | false => exact (pure_indep (by simp [pureOp, hl, hm, ha]) hp).2 _ _ _
      rw [this]
      simpa using hp2
  | mk i => exact h
  | reveal i => exact hx.elim

/-- A block is seen first. -/
theorem front_reveal {j : Nat} {K : Fr → AMem L → Prop} {post : List PItem} : ∀ (pre : List PItem) (done : List Nat) (pend : Nat → Option (AObj L)) (F : Fr) (σ : AMem L),
    (∀ y ∈ pre, Quiet P ops y ∧ y.idx ≠ some j) → σ.get (base + j) = none → aPl P call ops base W (pre ++ .reveal j :: post) done pend F σ K →
      aPl P call ops base W (.reveal j :: (pre ++ post)) done pend F σ K
  | [], _, _, _, _, _, _, h => h
  | y :: pre, done, pend, F, σ, hp, hg, h => by
    obtain ⟨hy, hne⟩ := hp y (.head _)
    obtain ⟨u, s, h1, h2⟩ := (aPl_quiet hy).1 h
    have h3 := front_reveal pre _ _ _ _ (fun z hz => hp z (.tail _ hz)) hg h2
    have hpend : addPend pend y.idx s j = pend j := by
      cases hi : y.idx with
      | none => rfl
      | some i =>
        cases s with
        | none => rfl
        | some s =>
          have : j ≠ i := fun e => hne (by rw [hi, e])
          simp [addPend, setPend, this]
    simp only [aPl, hpend] at h3 ⊢
    split at h3
    · exact (aPl_quiet hy).2 ⟨u, s, quiet_put hy hg h1, h3⟩
    · exact (aPl_quiet hy).2 ⟨u, s, h1, h3⟩

/-- An act goes ahead of a quiet step. -/
theorem swap_act (hc : clo call = call) (hs : Static P ops W) {x : PItem} (hx : Quiet P ops x) {e : Nat} {oe : Oper} (he : ops[e]? = some oe) (hea : acts oe.op = true) {K : Fr → AMem L → Prop} {post : List PItem} {done : List Nat}
    {pend : Nat → Option (AObj L)} {F : Fr} {σ : AMem L} (hu : Unrel W x (.op e)) (hd : ∀ j ∈ done, ∀ k, x.idx = some k → W j k = false)
    (h : aPl P call ops base W (x :: .op e :: post) done pend F σ K) : aPl P call ops base W (.op e :: x :: post) done pend F σ K := by
  obtain ⟨v, r, h1, h2⟩ := (aPl_quiet hx).1 h
  simp only [aPl, he] at h2 ⊢
  have hag : ∀ d ∈ oe.looksAt ops, Fr.put F (x.dst ops) v d = F d := put_agree (fun d hd' => by
    have := dst_notin hs hu d hd'
    simpa [PItem.slots, PItem.idx, he] using this)
  have hxd : PItem.dst ops (.op e) = oe.dst := by simp [PItem.dst, PItem.idx, he]
  have := aStep_congr (F' := F) (K' := fun F' σ' => (acts oe.op = true → aSame P ops base W e done F σ σ') ∧ aPl P call ops base W (x :: post) (done ++ [e]) pend F' σ' K) h2 hag ?_
  · rwa [hc] at this
  · rintro u σ' ⟨k1, k2⟩
    refine ⟨fun ha j hj hw oj hoj hl hwa => ?_, ?_⟩
    · -- what was looked at before
      have hag2 : ∀ d ∈ oj.looksAt ops, Fr.put F (x.dst ops) v d = F d := put_agree (fun d hd' hm => by
        unfold PItem.dst at hd'
        obtain ⟨k, hk, hd2⟩ := Option.bind_eq_some_iff.1 hd'
        obtain ⟨ok, hok, hdk⟩ := Option.bind_eq_some_iff.1 hd2
        rcases hs.reads k j ok oj d hok hoj hdk hm with h3 | ⟨_, h3⟩
        · rw [hd j hj k hk] at h3; cases h3
        · rw [hl] at h3; cases h3)
      have := k1 ha j (by simp [hj]) hw oj hoj hl (by rw [aWanted_congr hag2]; exact hwa)
      simpa only [aOp_congr' hag2] using this
    · refine (aPl_quiet hx).2 ⟨v, r, ?_, ?_⟩
      · -- the quiet step behind the act
        have e1 : qRes P ops base L x (Fr.put F oe.dst u) σ' = qRes P ops base L x F σ' := qRes_congr fun d hd' => put_agree (fun y hy => by
          have := dst_notin hs hu.symm y (by rw [hxd]; exact hy)
          exact this) d hd'
        rw [e1]
        cases x with
        | mk k => exact h1
        | reveal k => exact hx.elim
        | op k =>
          obtain ⟨ok, hok, hka, hkm⟩ := hx
          simp only [qRes, hok] at h1 ⊢
          split at h1
          · cases h1
          · exact h1
          · rename_i hwk
            obtain ⟨p, hp, hp2⟩ := Option.map_eq_some_iff.1 h1
            obtain ⟨y, σ2⟩ := p
            have hy : aOp P ok.op F σ' (base + k) σ'.next = some (y, σ') := by
              cases hl : looks P ok.op with
              | false => exact (pure_indep (by simp [pureOp, hl, hkm, hka]) hp).2 _ _ _
              | true =>
                have hag3 : ∀ d ∈ ok.looksAt ops, Fr.put F (PItem.dst ops (.op k)) v d = F d := put_agree (fun d hd' hm => by
                  have hdk : ok.dst = some d := by simpa [PItem.dst, PItem.idx, hok] using hd'
                  rcases hs.reads k k ok ok d hok hok hdk hm with h3 | ⟨_, h3⟩
                  · rw [hs.irrefl] at h3; cases h3
                  · rw [hl] at h3; cases h3)
                obtain ⟨_, hwek, _⟩ := hu k e rfl rfl
                obtain ⟨v', g1, g2⟩ := k1 hea k (by simp [PItem.look]) hwek ok hok hl (by rw [aWanted_congr hag3]; exact hwk)
                rw [aOp_congr' hag3] at g1 g2
                have hσ2 := (looks_le hl hkm hp).1
                subst hσ2
                have := (looks_le hl hkm hp).2 σ2 (base + k) σ2.next (fun _ _ h => h)
                rw [g1] at this
                cases this
                exact g2
            rw [hy]
            simpa using hp2
      · rw [put_comm _ _ (fun d hd' => by
          have := dst_ne hs hu.symm d (by rw [hxd]; exact hd')
          exact this)]
        exact aPl_done hc post _ _ _ _ _ (fun j hj => by
          simp only [List.mem_append, List.mem_singleton] at hj ⊢
          rcases hj with (h | h) | h
          · exact .inl (.inl h)
          · exact .inr h
          · exact .inl (.inr h)) k2

/-- An act goes ahead of quiet steps. -/
theorem front_act (hc : clo call = call) (hs : Static P ops W) {e : Nat} {oe : Oper} (he : ops[e]? = some oe) (hea : acts oe.op = true) {K : Fr → AMem L → Prop} {post : List PItem} : ∀ (pre : List PItem) (done : List Nat) (pend : Nat → Option (AObj L)) (F : Fr) (σ : AMem L),
    (∀ y ∈ pre, Quiet P ops y ∧ Unrel W y (.op e)) → (∀ j ∈ done, ∀ y ∈ pre, ∀ k, y.idx = some k → W j k = false) → pre.Pairwise (fun x y => ∀ i j, x.idx = some i → y.idx = some j → W i j = false) →
      aPl P call ops base W (pre ++ .op e :: post) done pend F σ K → aPl P call ops base W (.op e :: (pre ++ post)) done pend F σ K
  | [], _, _, _, _, _, _, _, h => h
  | y :: pre, done, pend, F, σ, hp, hd, hord, h => by
    obtain ⟨hy, hu⟩ := hp y (.head _)
    obtain ⟨u, s, h1, h2⟩ := (aPl_quiet hy).1 h
    have hord' := List.pairwise_cons.1 hord
    have h3 := front_act hc hs he hea pre _ _ _ _ (fun z hz => hp z (.tail _ hz)) (fun j hj z hz k hk => by
      simp only [List.mem_append] at hj
      rcases hj with hj | hj
      · exact hd j hj z (.tail _ hz) k hk
      · cases y with
        | op i =>
          simp only [PItem.look, List.mem_singleton] at hj
          subst hj
          exact hord'.1 z hz j k rfl hk
        | mk i => cases hj
        | reveal i => cases hj) hord'.2 h2
    have h4 : aPl P call ops base W (y :: .op e :: (pre ++ post)) done pend F σ K := (aPl_quiet hy).2 ⟨u, s, h1, h3⟩
    exact swap_act hc hs hy he hea hu (fun j hj k hk => hd j hj y (.head _) k hk) h4

end Go.Ax

/- A region that draws its order: one order stands for all. -/
namespace Go.Ax
open Go
variable {L : Type} {P : Program} {ops : Array Oper} {W : Nat → Nat → Bool} {call : Spec L}

theorem mem_mid {α : Type} {A B : List α} {y z : α} : z ∈ A ++ y :: B ↔ z = y ∨ z ∈ A ++ B := by
  simp only [List.mem_append, List.mem_cons]
  constructor
  · rintro (h | h | h)
    · exact .inr (.inl h)
    · exact .inl h
    · exact .inr (.inr h)
  · rintro (h | h | h)
    · exact .inr (.inl h)
    · exact .inl h
    · exact .inr (.inr h)

theorem sub_mid {α : Type} (A B : List α) (y : α) : (A ++ B).Sublist (A ++ y :: B) := List.Sublist.append (List.Sublist.refl A) (List.sublist_cons_self y B)

def IsAct (ops : Array Oper) (i : Nat) : Prop := ∃ o, ops[i]? = some o ∧ acts o.op = true

/-- 'x' may stand before 'y'. -/
def Bef (ops : Array Oper) (W : Nat → Nat → Bool) (x y : PItem) : Prop :=
  (∀ i j, x.idx = some i → y.idx = some j → i ≠ j ∧ W i j = false ∧ (IsAct ops i → W j i = true)) ∧
  (∀ r j, x.rev = some r → y.idx = some j → W j r = true) ∧ (∀ r s, x.rev = some r → y.rev = some s → r ≠ s)

def Unl (items : List PItem) (i : Nat) : Prop := ∃ x ∈ items, x.idx = some i

/-- The items still to come, and the marks of the model. -/
structure Skel (P : Program) (ops : Array Oper) (W : Nat → Nat → Bool) (items : List PItem) (listed : Array Bool) : Prop where
  pw : items.Pairwise (Bef ops W)
  kop : ∀ i, .op i ∈ items → ∃ o, ops[i]? = some o ∧ makes P o.op = false
  kmk : ∀ i, .mk i ∈ items → (∃ o, ops[i]? = some o ∧ makes P o.op = true ∧ looks P o.op = false ∧ acts o.op = false) ∧ .reveal i ∈ items
  krev : ∀ i, .reveal i ∈ items → ∃ o, ops[i]? = some o ∧ makes P o.op = true
  unl : ∀ i, i < ops.size → (listed.getD i true = false ↔ Unl items i)
  lsz : listed.size = ops.size
  closed : ∀ i k, i < ops.size → ¬ Unl items i → W i k = true → ¬ Unl items k

theorem lt_of_some {i : Nat} {o : Oper} (h : ops[i]? = some o) : i < ops.size := by
  rcases Nat.lt_or_ge i ops.size with h' | h'
  · exact h'
  · rw [Array.getElem?_eq_none h'] at h; cases h

namespace Skel
variable {items A B : List PItem} {listed : Array Bool} {x : PItem}

theorem lt (s : Skel P ops W items listed) {i : Nat} (h : Unl items i) : i < ops.size := by
  obtain ⟨x, hx, hi⟩ := h
  cases x with
  | op j => cases hi; obtain ⟨o, ho, _⟩ := s.kop _ hx; exact lt_of_some ho
  | mk j => cases hi; obtain ⟨⟨o, ho, _⟩, _⟩ := s.kmk _ hx; exact lt_of_some ho
  | reveal j => cases hi

theorem mid (s : Skel P ops W (A ++ x :: B) listed) : (∀ y ∈ A, Bef ops W y x) ∧ ∀ y ∈ B, Bef ops W x y := by
  have h := List.pairwise_append.1 s.pw
  exact ⟨fun y hy => h.2.2 y hy x (.head _), fun y hy => (List.pairwise_cons.1 h.2.1).1 y hy⟩

theorem unl_mid {i : Nat} (hi : x.idx = some i) (k : Nat) : Unl (A ++ x :: B) k ↔ k = i ∨ Unl (A ++ B) k := by
  constructor
  · rintro ⟨y, hy, hk⟩
    rcases mem_mid.1 hy with rfl | h
    · rw [hi] at hk; exact .inl (Option.some.inj hk).symm
    · exact .inr ⟨y, h, hk⟩
  · rintro (rfl | ⟨y, hy, hk⟩)
    · exact ⟨x, mem_mid.2 (.inl rfl), hi⟩
    · exact ⟨y, mem_mid.2 (.inr hy), hk⟩

theorem unl_rev {r : Nat} (k : Nat) : Unl (A ++ .reveal r :: B) k ↔ Unl (A ++ B) k := by
  constructor
  · rintro ⟨y, hy, hk⟩
    rcases mem_mid.1 hy with rfl | h
    · cases hk
    · exact ⟨y, h, hk⟩
  · rintro ⟨y, hy, hk⟩; exact ⟨y, mem_mid.2 (.inr hy), hk⟩

theorem not_unl (s : Skel P ops W (A ++ x :: B) listed) {i : Nat} (hi : x.idx = some i) : ¬ Unl (A ++ B) i := by
  rintro ⟨y, hy, hk⟩
  rcases List.mem_append.1 hy with h | h
  · exact ((s.mid.1 y h).1 i i hk hi).1 rfl
  · exact ((s.mid.2 y h).1 i i hi hk).1 rfl

theorem drop (s : Skel P ops W (A ++ x :: B) listed) {i : Nat} (hi : x.idx = some i) (hr : ∀ k, W i k = true → ¬ Unl (A ++ x :: B) k) : Skel P ops W (A ++ B) (listed.setIfInBounds i true) := by
  have hlt : i < ops.size := s.lt ⟨x, mem_mid.2 (.inl rfl), hi⟩
  refine ⟨s.pw.sublist (sub_mid A B x), fun j hj => s.kop j (mem_mid.2 (.inr hj)), fun j hj => ?_, fun j hj => s.krev j (mem_mid.2 (.inr hj)), fun j hj => ?_, by simpa using s.lsz, fun j k hj hn hw => ?_⟩
  · obtain ⟨h1, h2⟩ := s.kmk j (mem_mid.2 (.inr hj))
    refine ⟨h1, ?_⟩
    rcases mem_mid.1 h2 with h | h
    · rw [← h] at hi; cases hi
    · exact h
  · have h0 := s.unl j hj
    rw [unl_mid hi] at h0
    rw [Array.getD_eq_getD_getElem?, Array.getElem?_setIfInBounds]
    by_cases hji : i = j
    · subst hji
      rw [if_pos rfl, if_pos (by rw [s.lsz]; exact hlt)]
      simp only [Option.getD_some, Bool.true_eq_false, false_iff]
      exact s.not_unl hi
    · rw [if_neg hji, ← Array.getD_eq_getD_getElem?, h0]
      constructor
      · rintro (h | h); exact absurd h.symm hji; exact h
      · exact .inr
  · by_cases hji : j = i
    · subst hji
      intro hk; exact hr k hw ((unl_mid hi k).2 (.inr hk))
    · intro hk
      exact s.closed j k hj (fun h => by rcases (unl_mid hi j).1 h with h | h; exact hji h; exact hn h) hw ((unl_mid hi k).2 (.inr hk))

theorem rev_notin {r : Nat} (s : Skel P ops W (A ++ .reveal r :: B) listed) : .reveal r ∉ A ++ B := by
  intro h
  rcases List.mem_append.1 h with h | h
  · exact ((s.mid.1 _ h).2.2 r r rfl rfl) rfl
  · exact ((s.mid.2 _ h).2.2 r r rfl rfl) rfl

theorem dropRev {r : Nat} (s : Skel P ops W (A ++ .reveal r :: B) listed) (hr : ¬ Unl (A ++ .reveal r :: B) r) : Skel P ops W (A ++ B) listed := by
  refine ⟨s.pw.sublist (sub_mid A B _), fun j hj => s.kop j (mem_mid.2 (.inr hj)), fun j hj => ?_, fun j hj => s.krev j (mem_mid.2 (.inr hj)), fun j hj => ?_, s.lsz, fun j k hj hn hw => ?_⟩
  · obtain ⟨h1, h2⟩ := s.kmk j (mem_mid.2 (.inr hj))
    refine ⟨h1, ?_⟩
    rcases mem_mid.1 h2 with h | h
    · cases h; exact absurd ⟨_, mem_mid.2 (.inr hj), rfl⟩ hr
    · exact h
  · rw [s.unl j hj, unl_rev]
  · rw [← unl_rev (r := r)] at hn ⊢; exact s.closed j k hj hn hw

end Skel

def Lasting (P : Program) (ρ : Rho) (l : Loc) (o : Obj) (ob : AObj L) : Prop := ∀ (ρ' : Rho) (w' : World), ρ.le ρ' → w'.heap[l.blk]? = some o → ORel P ρ' w' l ob

/-- The worlds while a region's order is under way. -/
structure Way {P : Program} (rel : Rel P L) (ops : Array Oper) (κ : Kappa) (ρ0 : Rho) (σ0 : AMem L) (a0 : Act) (items : List PItem) (pend : Nat → Option (AObj L)) (F : Fr) (σ : AMem L) (ρ : Rho) (κ2 : Kappa) (a : Act) (w : World) : Prop where
  pe : κ2.env = κ.env
  le : ρ0.le ρ
  same : ∀ x, x < σ0.next → ρ x = ρ0 x
  none0 : ∀ x, x < σ0.next → σ0.get x = none → σ.get x = none
  nx : σ0.next + ops.size ≤ σ.next
  fr : FRel ρ F a
  sz : a.tmps.size = a0.tmps.size
  df : a.defers = a0.defers
  R : rel.R κ2 ρ σ w
  free : ∀ i, Unl items i → σ.get (σ0.next + i) = none ∧ ρ (σ0.next + i) = none
  hid : ∀ r, .reveal r ∈ items → σ.get (σ0.next + r) = none
  mkn : ∀ i, .mk i ∈ items → pend i = none
  p1 : ∀ r ob, .reveal r ∈ items → pend r = some ob → ∃ l o, ρ (σ0.next + r) = some l ∧ κ2 l.blk = some o ∧ κ l.blk = none ∧ ob.isLogic = false ∧ Lasting P ρ l o ob
  p2 : ∀ r s ob oc lr ls, .reveal r ∈ items → .reveal s ∈ items → pend r = some ob → pend s = some oc → ρ (σ0.next + r) = some lr → ρ (σ0.next + s) = some ls → lr.blk = ls.blk → r = s
  p3 : ∀ x, κ2 x = κ x ∨ ∃ r ob l, .reveal r ∈ items ∧ pend r = some ob ∧ ρ (σ0.next + r) = some l ∧ l.blk = x

section
variable {rel : Rel P L} {κ κ2 : Kappa} {ρ0 ρ : Rho} {σ0 σ : AMem L} {a0 a : Act} {items A B : List PItem} {pend : Nat → Option (AObj L)} {F : Fr} {w : World} {listed : Array Bool} {K : Fr → AMem L → Prop}

/-- A block is seen. -/
theorem Way.reveal {r : Nat} (h : Way rel ops κ ρ0 σ0 a0 (A ++ .reveal r :: B) pend F σ ρ κ2 a w) (s : Skel P ops W (A ++ .reveal r :: B) listed) (hr : ¬ Unl (A ++ .reveal r :: B) r)
    (hp : aPl P call ops σ0.next W (.reveal r :: (A ++ B)) [] pend F σ K) : ∃ σ' κ2', Way rel ops κ ρ0 σ0 a0 (A ++ B) pend F σ' ρ κ2' a w ∧ aPl P call ops σ0.next W (A ++ B) [] pend F σ' K := by
  have up : ∀ {z}, z ∈ A ++ B → z ∈ A ++ .reveal r :: B := fun h => mem_mid.2 (.inr h)
  have hrin : PItem.reveal r ∈ A ++ .reveal r :: B := mem_mid.2 (.inl rfl)
  have hrlt : r < ops.size := by obtain ⟨o, ho, _⟩ := s.krev r hrin; exact lt_of_some ho
  have hne : ∀ {i}, PItem.reveal i ∈ A ++ B → i ≠ r := fun hi e => s.rev_notin (e ▸ hi)
  simp only [aPl] at hp
  split at hp
  · rename_i ob hob
    obtain ⟨l, o, h1, h2, h3, h4, h5⟩ := h.p1 r ob hrin hob
    have hheap : w.heap[l.blk]? = some o := by
      obtain ⟨κ', hκ, hm, _⟩ := rel.opens h.R
      exact hm.kept _ _ (hκ _ _ h2)
    have hR := rel.shows h.R h2 h1 (h.hid r hrin) (nx := σ.next) (by have := h.nx; omega) (Nat.le_refl _) h4 (h5 ρ w ρ.le_refl hheap)
    refine ⟨_, κ2.del l.blk, ?_, hp⟩
    have hget : ∀ x, x ≠ σ0.next + r → (σ.put (σ0.next + r) σ.next ob).get x = σ.get x := fun x hx => by rw [AMem.get_put, if_neg hx]
    refine ⟨h.pe, h.le, h.same, fun x hx hg => ?_, h.nx, h.fr, h.sz, h.df, hR, fun i hi => ?_, fun i hi => ?_, fun i hi => h.mkn i (up hi), fun i oc hi hpi => ?_, fun i j oc od li lj hi hj => h.p2 i j oc od li lj (up hi) (up hj), fun x => ?_⟩
    · rw [hget x (by omega)]; exact h.none0 x hx hg
    · have hi' := (Skel.unl_rev (r := r) i).2 hi
      rw [hget _ (fun e => hr (by have : i = r := by omega
                                  exact this ▸ hi'))]
      exact h.free i hi'
    · rw [hget _ (by have := hne hi; omega)]; exact h.hid i (up hi)
    · obtain ⟨li, oi, k1, k2, k3, k4, k5⟩ := h.p1 i oc (up hi) hpi
      refine ⟨li, oi, k1, ?_, k3, k4, k5⟩
      simp only [Kappa.del]
      rw [if_neg (fun e => hne hi (h.p2 i r oc ob li l (up hi) hrin hpi hob k1 h1 e))]
      exact k2
    · simp only [Kappa.del]
      by_cases hx : x = l.blk
      · rw [if_pos hx, hx, h3]; exact .inl rfl
      · rw [if_neg hx]
        rcases h.p3 x with h' | ⟨i, oc, li, k1, k2, k3, k4⟩
        · exact .inl h'
        · rcases mem_mid.1 k1 with e | k1
          · cases e
            rw [h1] at k3; cases k3; exact absurd k4.symm hx
          · exact .inr ⟨i, oc, li, k1, k2, k3, k4⟩
  · rename_i hnone
    refine ⟨σ, κ2, ?_, hp⟩
    refine ⟨h.pe, h.le, h.same, h.none0, h.nx, h.fr, h.sz, h.df, h.R, fun i hi => h.free i ((Skel.unl_rev i).2 hi), fun i hi => h.hid i (up hi), fun i hi => h.mkn i (up hi), fun i oc hi => h.p1 i oc (up hi),
      fun i j oc od li lj hi hj => h.p2 i j oc od li lj (up hi) (up hj), fun x => ?_⟩
    rcases h.p3 x with h' | ⟨i, oc, li, k1, k2, k3, k4⟩
    · exact .inl h'
    · rcases mem_mid.1 k1 with e | k1
      · cases e; rw [hnone] at k2; cases k2
      · exact .inr ⟨i, oc, li, k1, k2, k3, k4⟩

/-- The end. -/
theorem finish {Q : Exit → Fr → AMem L → Prop} : ∀ (items : List PItem) (σ : AMem L) (κ2 : Kappa), (∀ i, ¬ Unl items i) → Skel P ops W items listed → Way rel ops κ ρ0 σ0 a0 items pend F σ ρ κ2 a w →
    aPl P call ops σ0.next W items [] pend F σ (Q .normal) → Ends rel κ ρ0 σ0 a0 Q .normal a w
  | [], σ, κ2, _, _, h, hp => by
    have : κ2 = κ := by
      refine Kappa.same (fun x => ?_) h.pe
      rcases h.p3 x with h' | ⟨i, oc, li, k1, _⟩
      · exact h'
      · cases k1
    subst this
    exact ⟨F, σ, ρ, hp, h.le, h.same, h.none0, by have := h.nx; omega, h.fr, h.sz, h.df, h.R⟩
  | .op i :: _, _, _, hu, _, _, _ => absurd ⟨_, .head _, rfl⟩ (hu i)
  | .mk i :: _, _, _, hu, _, _, _ => absurd ⟨_, .head _, rfl⟩ (hu i)
  | .reveal r :: rest, σ, κ2, hu, s, h, hp => by
    obtain ⟨σ', κ2', h', hp'⟩ := Way.reveal (A := []) (B := rest) h s (hu r) hp
    exact finish rest σ' κ2' (fun i hi => hu i ((Skel.unl_rev (A := []) i).2 hi)) (Skel.dropRev (A := []) s (hu r)) h' hp'

/-- Ahead of an operation that the model takes there is nothing that it waits for; what is to be seen is seen. -/
theorem stage {x : PItem} {j : Nat} (hx : x.idx = some j) : ∀ (n : Nat) (A : List PItem) (σ : AMem L) (κ2 : Kappa), A.length = n → Skel P ops W (A ++ x :: B) listed → (∀ k, W j k = true → ¬ Unl (A ++ x :: B) k) → Way rel ops κ ρ0 σ0 a0 (A ++ x :: B) pend F σ ρ κ2 a w →
    aPl P call ops σ0.next W (A ++ x :: B) [] pend F σ K →
      ∃ A' σ' κ2', Skel P ops W (A' ++ x :: B) listed ∧ (∀ k, W j k = true → ¬ Unl (A' ++ x :: B) k) ∧ Way rel ops κ ρ0 σ0 a0 (A' ++ x :: B) pend F σ' ρ κ2' a w ∧ aPl P call ops σ0.next W (A' ++ x :: B) [] pend F σ' K ∧
        (∀ y ∈ A', Quiet P ops y ∧ Unrel W x y) ∧ A'.filterMap PItem.idx = A.filterMap PItem.idx := by
  intro n
  induction n with
  | zero =>
    intro A σ κ2 hn s hw h hp
    have : A = [] := List.length_eq_zero_iff.1 hn
    subst this
    exact ⟨[], σ, κ2, s, hw, h, hp, (fun _ h => by cases h), rfl⟩
  | succ n ih =>
    intro A σ κ2 hn s hw h hp
    -- what stands ahead and is an operation, is quiet
    have quiet : ∀ y ∈ A, ∀ i, y.idx = some i → Quiet P ops y ∧ Unrel W x y := by
      intro y hy i hi
      have hb := s.mid.1 y hy
      have hun : Unl (A ++ x :: B) i := ⟨y, List.mem_append_left _ hy, hi⟩
      obtain ⟨h1, h2, h3⟩ := hb.1 i j hi hx
      have hna : ¬ IsAct ops i := fun ha => hw i (h3 ha) hun
      have hji : W j i = false := by
        cases hh : W j i with
        | false => rfl
        | true => exact absurd hun (hw i hh)
      refine ⟨?_, fun i' j' hi' hj' => ?_⟩
      · cases y with
        | op i' =>
          cases hi
          obtain ⟨o, ho, hm⟩ := s.kop i (List.mem_append_left _ hy)
          refine ⟨o, ho, ?_, hm⟩
          cases ha : acts o.op with
          | false => rfl
          | true => exact absurd ⟨o, ho, ha⟩ hna
        | mk i' =>
          cases hi
          exact (s.kmk i (List.mem_append_left _ hy)).1
        | reveal i' => cases hi
      · rw [hx] at hi'; cases hi'
        rw [hi] at hj'; cases hj'
        exact ⟨hji, h2, fun e => h1 e.symm⟩
    by_cases hall : ∀ y ∈ A, ∃ i, y.idx = some i
    · exact ⟨A, σ, κ2, s, hw, h, hp, (fun y hy => by obtain ⟨i, hi⟩ := hall y hy; exact quiet y hy i hi), rfl⟩
    · -- the first that is to be seen
      have hex : ∃ p r q, A = p ++ PItem.reveal r :: q ∧ ∀ y ∈ p, ∃ i, y.idx = some i := by
        clear ih hn s hw h hp quiet
        induction A with
        | nil => exact absurd (fun _ h => nomatch h) hall
        | cons y A ihA =>
          cases hy : y.idx with
          | none =>
            cases y with
            | op i => cases hy
            | mk i => cases hy
            | reveal r => exact ⟨[], r, A, rfl, fun _ h => nomatch h⟩
          | some i =>
            obtain ⟨p, r, q, rfl, hp⟩ := ihA (fun hh => hall fun z hz => by
              rcases List.mem_cons.1 hz with rfl | hz
              · exact ⟨i, hy⟩
              · exact hh z hz)
            refine ⟨y :: p, r, q, rfl, fun z hz => ?_⟩
            rcases List.mem_cons.1 hz with rfl | hz
            · exact ⟨i, hy⟩
            · exact hp z hz
      obtain ⟨p, r, q, rfl, hpi⟩ := hex
      have hWr : W j r = true := (s.mid.1 (.reveal r) (by simp)).2.1 r j rfl hx
      have hunr := hw r hWr
      have e1 : p ++ PItem.reveal r :: q ++ x :: B = p ++ PItem.reveal r :: (q ++ x :: B) := by simp
      rw [e1] at s hw h hp hunr
      have hp' := front_reveal p [] pend F σ (fun y hy => by
        obtain ⟨i, hi⟩ := hpi y hy
        refine ⟨(quiet y (by simp [hy]) i hi).1, fun e => hunr ⟨y, List.mem_append_left _ hy, e⟩⟩) (h.hid r (by simp)) hp
      obtain ⟨σ', κ2', h', hp''⟩ := Way.reveal h s hunr hp'
      have s' := s.dropRev hunr
      have e2 : p ++ (q ++ x :: B) = (p ++ q) ++ x :: B := by simp
      have e3 : p ++ q ++ x :: B = p ++ (q ++ x :: B) := e2.symm
      rw [e2] at h' hp'' s'
      have hu : ∀ i, Unl (p ++ q ++ x :: B) i ↔ Unl (p ++ PItem.reveal r :: (q ++ x :: B)) i := fun i => by rw [e3, Skel.unl_rev]
      obtain ⟨A', σ2, κ3, k1, k2, k3, k4, k5, k6⟩ := ih (p ++ q) σ' κ2' (by simp at hn ⊢; omega) s' (fun k hk hun => hw k hk ((hu k).1 hun)) h' hp''
      exact ⟨A', σ2, κ3, k1, k2, k3, k4, k5, by rw [k6, List.filterMap_append, List.filterMap_append, List.filterMap_cons]; rfl⟩
end

end Go.Ax

/- A region that draws its order: the whole. -/
namespace Go.Ax
open Go
variable {L : Type} {P : Program} {ops : Array Oper} {W : Nat → Nat → Bool} {call : Spec L}
variable {rel : Rel P L} {κ κ2 : Kappa} {ρ0 ρ : Rho} {σ0 σ : AMem L} {a0 a : Act} {items A B : List PItem} {pend : Nat → Option (AObj L)} {F : Fr} {w : World} {listed : Array Bool} {K : Fr → AMem L → Prop}

theorem kill_put {b : Nat} {ob : AObj L} (h : σ.get b = none) : (σ.put b σ.next ob).kill b = σ := by
  cases σ with
  | mk nx g =>
    simp only [AMem.kill, AMem.put, AMem.set, AMem.mk.injEq, true_and]
    funext x
    by_cases hx : x = b
    · subst hx; simp; exact h.symm
    · simp [hx]

/-- Behind an operation that was taken. -/
theorem Way.step {x : PItem} {i : Nat} (hx : x.idx = some i) (h : Way rel ops κ ρ0 σ0 a0 (A ++ x :: B) pend F σ ρ κ2 a w) (s : Skel P ops W (A ++ x :: B) listed) {F' : Fr} {σ' : AMem L} {ρ' : Rho} {a' : Act} {w' : World}
    (hle : ρ.le ρ') (hsame : ∀ y, y < σ.next → y ≠ σ0.next + i → ρ' y = ρ y) (hnone : ∀ y, y < σ.next → y ≠ σ0.next + i → σ.get y = none → σ'.get y = none) (hnx : σ.next ≤ σ'.next) (hF : FRel ρ' F' a') (hsz : a'.tmps.size = a.tmps.size) (hdf : a'.defers = a.defers) (hR : rel.R κ2 ρ' σ' w')
    (hhid : PItem.reveal i ∈ A ++ B → pend i = none ∧ σ'.get (σ0.next + i) = none) : Way rel ops κ ρ0 σ0 a0 (A ++ B) pend F' σ' ρ' κ2 a' w' := by
  have up : ∀ {z}, z ∈ A ++ B → z ∈ A ++ x :: B := fun h => mem_mid.2 (.inr h)
  have hlt : i < ops.size := s.lt ⟨x, mem_mid.2 (.inl rfl), hx⟩
  have hN := h.nx
  have hrlt : ∀ {r}, PItem.reveal r ∈ A ++ B → r < ops.size := fun hr => by obtain ⟨o, ho, _⟩ := s.krev _ (up hr); exact lt_of_some ho
  have hρ : ∀ {r}, r ≠ i → r < ops.size → ρ' (σ0.next + r) = ρ (σ0.next + r) := fun h1 h2 => hsame _ (by omega) (by omega)
  refine ⟨h.pe, Rho.le_trans h.le hle, fun y hy => ?_, fun y hy hg => hnone y (by omega) (by omega) (h.none0 y hy hg), by omega, hF, hsz.trans h.sz, hdf.trans h.df, hR, fun j hj => ?_, fun r hr => ?_, fun j hj => h.mkn j (up hj), fun r ob hr hp => ?_, fun r t ob oc lr ls hr ht hpr hpt h1 h2 hb => ?_, fun y => ?_⟩
  · rw [hsame y (by omega) (by omega)]; exact h.same y hy
  · have hji : j ≠ i := fun e => s.not_unl hx (e ▸ hj)
    have hj' := (Skel.unl_mid hx j).2 (.inr hj)
    have hjl := s.lt hj'
    obtain ⟨k1, k2⟩ := h.free j hj'
    exact ⟨hnone _ (by omega) (by omega) k1, by rw [hρ hji hjl]; exact k2⟩
  · by_cases hri : r = i
    · subst hri; exact (hhid hr).2
    · exact hnone _ (by have := hrlt hr; omega) (by omega) (h.hid r (up hr))
  · obtain ⟨l, o, k1, k2, k3, k4, k5⟩ := h.p1 r ob (up hr) hp
    exact ⟨l, o, hle _ _ k1, k2, k3, k4, fun ρ2 w2 hl2 hw2 => k5 ρ2 w2 (Rho.le_trans hle hl2) hw2⟩
  · have hri : r ≠ i := fun e => by subst e; rw [(hhid hr).1] at hpr; cases hpr
    have hti : t ≠ i := fun e => by subst e; rw [(hhid ht).1] at hpt; cases hpt
    rw [hρ hri (hrlt hr)] at h1
    rw [hρ hti (hrlt ht)] at h2
    exact h.p2 r t ob oc lr ls (up hr) (up ht) hpr hpt h1 h2 hb
  · rcases h.p3 y with h' | ⟨r, ob, l, k1, k2, k3, k4⟩
    · exact .inl h'
    · rcases mem_mid.1 k1 with e | k1
      · rw [← e] at hx; cases hx
      · exact .inr ⟨r, ob, l, k1, k2, hle _ _ k3, k4⟩

/-- Behind an operation that made a block. -/
theorem Way.made {i : Nat} (h : Way rel ops κ ρ0 σ0 a0 (A ++ .mk i :: B) pend F σ ρ κ2 a w) (s : Skel P ops W (A ++ .mk i :: B) listed) {F' : Fr} {ob : AObj L} {ρ' : Rho} {a' : Act} {w' : World}
    (hle : ρ.le ρ') (hsame : ∀ y, y < σ.next → y ≠ σ0.next + i → ρ' y = ρ y) (hF : FRel ρ' F' a') (hsz : a'.tmps.size = a.tmps.size) (hdf : a'.defers = a.defers) (hR : rel.R κ2 ρ' (σ.put (σ0.next + i) σ.next ob) w')
    (hol : ob.isLogic = false) (hor : ob.isRo = false) : ∃ κ3, Way rel ops κ ρ0 σ0 a0 (A ++ B) (addPend pend (some i) (some ob)) F' σ ρ' κ3 a' w' := by
  have up : ∀ {z}, z ∈ A ++ B → z ∈ A ++ .mk i :: B := fun h => mem_mid.2 (.inr h)
  have hin : PItem.mk i ∈ A ++ .mk i :: B := mem_mid.2 (.inl rfl)
  have hlt : i < ops.size := s.lt ⟨_, hin, rfl⟩
  have hN := h.nx
  have hrlt : ∀ {r}, PItem.reveal r ∈ A ++ B → r < ops.size := fun hr => by obtain ⟨o, ho, _⟩ := s.krev _ (up hr); exact lt_of_some ho
  have hρ : ∀ {r}, r ≠ i → r < ops.size → ρ' (σ0.next + r) = ρ (σ0.next + r) := fun h1 h2 => hsame _ (by omega) (by omega)
  have hg := (h.free i ⟨_, hin, rfl⟩).1
  have hrev : PItem.reveal i ∈ A ++ B := by
    rcases mem_mid.1 (s.kmk i hin).2 with e | e
    · cases e
    · exact e
  have hgb : (σ.put (σ0.next + i) σ.next ob).get (σ0.next + i) = some ob := by rw [AMem.get_put, if_pos rfl]
  obtain ⟨l, o, h1, h2, h3, h4⟩ := rel.hides hR hgb hol hor
  rw [kill_put hg] at h4
  have hlast : Lasting P ρ' l o ob := by
    obtain ⟨κ', _, hm, _⟩ := rel.opens hR
    obtain ⟨l', k1, k2⟩ := hm.live _ _ hgb hol
    rw [h1] at k1; cases k1
    intro ρ2 w2 hl2 hw2
    exact (k2.mono hl2).of_block (by rw [hw2, h2])
  have hκ : κ l.blk = none := by
    rcases h.p3 l.blk with h' | ⟨r, oc, lr, k1, k2, k3, k4⟩
    · rw [← h']; exact h3
    · obtain ⟨l2, o2, j1, j2, _⟩ := h.p1 r oc k1 k2
      rw [k3] at j1; cases j1
      rw [k4, h3] at j2; cases j2
  have hp : ∀ r, r ≠ i → addPend pend (some i) (some ob) r = pend r := fun r hr => by simp [addPend, setPend, hr]
  have hpi : addPend pend (some i) (some ob) i = some ob := by simp [addPend, setPend]
  -- the blocks that wait lie elsewhere
  have hother : ∀ r oc lr, PItem.reveal r ∈ A ++ B → pend r = some oc → ρ (σ0.next + r) = some lr → lr.blk ≠ l.blk := by
    intro r oc lr k1 k2 k3 e
    obtain ⟨l2, o2, j1, j2, _⟩ := h.p1 r oc (up k1) k2
    rw [k3] at j1; cases j1
    rw [e, h3] at j2; cases j2
  refine ⟨κ2.add l.blk o, h.pe, Rho.le_trans h.le hle, fun y hy => ?_, h.none0, h.nx, hF, hsz.trans h.sz, hdf.trans h.df, h4, fun j hj => ?_, fun r hr => h.hid r (up hr), fun j hj => ?_, fun r oc hr hpr => ?_, fun r t ob' oc lr ls hr ht hpr hpt k1 k2 hb => ?_, fun y => ?_⟩
  · rw [hsame y (by omega) (by omega)]; exact h.same y hy
  · have hji : j ≠ i := fun e => s.not_unl (x := .mk i) rfl (e ▸ hj)
    have hj' := (Skel.unl_mid (x := .mk i) rfl j).2 (.inr hj)
    obtain ⟨k1, k2⟩ := h.free j hj'
    exact ⟨k1, by rw [hρ hji (s.lt hj')]; exact k2⟩
  · have hji : j ≠ i := fun e => s.not_unl (x := .mk i) rfl ⟨.mk i, e ▸ hj, rfl⟩
    rw [hp j hji]; exact h.mkn j (up hj)
  · by_cases hri : r = i
    · subst hri
      rw [hpi] at hpr; cases hpr
      exact ⟨l, o, h1, by simp [Kappa.add], hκ, hol, hlast⟩
    · rw [hp r hri] at hpr
      obtain ⟨lr, or, k1, k2, k3, k4, k5⟩ := h.p1 r oc (up hr) hpr
      refine ⟨lr, or, hle _ _ k1, ?_, k3, k4, fun ρ2 w2 hl2 hw2 => k5 ρ2 w2 (Rho.le_trans hle hl2) hw2⟩
      simp only [Kappa.add]
      rw [if_neg (hother r oc lr hr hpr k1)]; exact k2
  · by_cases hri : r = i
    · by_cases hti : t = i
      · rw [hri, hti]
      · exfalso
        subst hri
        rw [h1] at k1; cases k1
        rw [hp t hti] at hpt
        rw [hρ hti (hrlt ht)] at k2
        exact hother t oc ls ht hpt k2 hb.symm
    · by_cases hti : t = i
      · exfalso
        subst hti
        rw [h1] at k2; cases k2
        rw [hp r hri] at hpr
        rw [hρ hri (hrlt hr)] at k1
        exact hother r _ lr hr hpr k1 hb
      · rw [hp r hri] at hpr
        rw [hp t hti] at hpt
        rw [hρ hri (hrlt hr)] at k1
        rw [hρ hti (hrlt ht)] at k2
        exact h.p2 r t _ _ _ _ (up hr) (up ht) hpr hpt k1 k2 hb
  · by_cases hy : y = l.blk
    · exact .inr ⟨i, ob, l, hrev, hpi, h1, hy.symm⟩
    · simp only [Kappa.add]
      rw [if_neg hy]
      rcases h.p3 y with h' | ⟨r, oc, lr, k1, k2, k3, k4⟩
      · exact .inl h'
      · have hri : r ≠ i := fun e => by subst e; rw [h.mkn r hin] at k2; cases k2
        rcases mem_mid.1 k1 with e | k1
        · cases e
        · exact .inr ⟨r, oc, lr, k1, by rw [hp r hri]; exact k2, hle _ _ k3, k4⟩

structure Facts (P : Program) (ops : Array Oper) (W : Nat → Nat → Bool) : Prop extends Static P ops W where
  edges : ∀ (i : Nat) (o : Oper) (e : Edge), ops[i]? = some o → e ∈ o.after → Region.binds .any e = true → W i e.on = true ∧ e.on < ops.size

theorem wpOp_of {Q : Exit → Act → World → Prop} {i : Nat} {o : Oper} (ho : ops[i]? = some o) {K : Act → World → Prop}
    (h : if Region.wanted o (yielded ops a.tmps) then o.wp P a w K Q else K (a.put o.dst undef) w) : wpOp P ops Q i K a w := by
  unfold wpOp
  simp only [ho]
  split
  · rename_i hw; rw [hw] at h; exact .inl h
  · rename_i hw
    simp only [Bool.not_eq_true] at hw
    rw [hw] at h; exact h

theorem unl_iff {i : Nat} : Unl items i ↔ i ∈ items.filterMap PItem.idx := by
  simp [Unl, List.mem_filterMap]

theorem getD_false_true {a : Array Bool} {i : Nat} (h : a.getD i false = true) : a.getD i true = true := by
  rw [Array.getD_eq_getD_getElem?] at h ⊢
  cases hx : a[i]? with
  | none => rfl
  | some b => rw [hx] at h; simpa using h

theorem getD_true_false {a : Array Bool} {i : Nat} (hi : i < a.size) (h : a.getD i true ≠ false) : a.getD i false = true := by
  rw [Array.getD_eq_getD_getElem?, Array.getElem?_eq_getElem hi] at h ⊢
  simpa using h

theorem any_sound (hsim : Sim rel call) (hc : clo call = call) (hf : Facts P ops W) (hok : ∀ o ∈ ops.toList, okOper a0.tmps.size o = true) {Q : Exit → Fr → AMem L → Prop} : ∀ (fuel : Nat) (listed : Array Bool) (items : List PItem) (pend : Nat → Option (AObj L)) (F : Fr) (σ : AMem L) (ρ : Rho) (κ2 : Kappa) (a : Act) (w : World),
    (items.filterMap PItem.idx).length = fuel → Skel P ops W items listed → Way rel ops κ ρ0 σ0 a0 items pend F σ ρ κ2 a w → aPl P call ops σ0.next W items [] pend F σ (Q .normal) →
      wpAny P .any ops (Ends rel κ ρ0 σ0 a0 Q) fuel listed a w := by
  intro fuel
  induction fuel with
  | zero =>
    intro listed items pend F σ ρ κ2 a w hn s h hp
    have hno : ∀ i, ¬ Unl items i := fun i hi => by
      rw [unl_iff, List.length_eq_zero_iff.1 hn] at hi; cases hi
    refine ⟨?_, finish items σ κ2 hno s h hp⟩
    cases hr : Region.ready .any ops listed with
    | nil => rfl
    | cons i rest =>
      have hi : i ∈ Region.ready .any ops listed := by rw [hr]; exact .head _
      obtain ⟨h1, o, ho, _⟩ := mem_ready.1 hi
      exact absurd ((s.unl i (lt_of_some ho)).1 h1) (hno i)
  | succ fuel ih =>
    intro listed items pend F σ ρ κ2 a w hn s h hp
    refine ⟨fun hnil => ?_, fun i hi => ?_⟩
    · -- the first operation waits for nothing
      exfalso
      cases hfm : items.filterMap PItem.idx with
      | nil => rw [hfm] at hn; cases hn
      | cons i rest =>
        have hi : i ∈ Region.ready .any ops listed := by
          have hun : Unl items i := by rw [unl_iff, hfm]; exact .head _
          obtain ⟨o, ho⟩ : ∃ o, ops[i]? = some o := ⟨_, Array.getElem?_eq_getElem (s.lt hun)⟩
          rw [mem_ready]
          refine ⟨(s.unl i (s.lt hun)).2 hun, o, ho, fun e he hb => ?_⟩
          obtain ⟨hW, hlt⟩ := hf.edges i o e ho he hb
          refine getD_true_false (by rw [s.lsz]; exact hlt) fun hfalse => ?_
          have hun2 := (s.unl e.on hlt).1 hfalse
          have hpw : (items.filterMap PItem.idx).Pairwise (fun i j => W i j = false) := by
            rw [List.pairwise_filterMap]
            exact s.pw.imp fun hb i hi j hj => (hb.1 i j hi hj).2.1
          rw [hfm] at hpw
          rw [unl_iff, hfm] at hun2
          rcases List.mem_cons.1 hun2 with e1 | e1
          · rw [e1, hf.irrefl] at hW; cases hW
          · rw [(List.pairwise_cons.1 hpw).1 _ e1] at hW; cases hW
        rw [hnil] at hi; cases hi
    · obtain ⟨h1, o, ho, hdeps⟩ := mem_ready.1 hi
      have hil := lt_of_some ho
      obtain ⟨x, hxm, hx⟩ := (s.unl i hil).1 h1
      obtain ⟨A, B, rfl⟩ := List.append_of_mem hxm
      have hnot : ∀ k, listed.getD k false = true → ¬ Unl (A ++ x :: B) k := fun k hk hun => by
        have := (s.unl k (s.lt hun)).2 hun
        rw [getD_false_true hk] at this; cases this
      have hwait : ∀ k, W i k = true → ¬ Unl (A ++ x :: B) k := by
        intro k hk
        obtain ⟨o', e, ho', he, hb, hor⟩ := hf.closed i k hk
        rw [ho] at ho'; cases ho'
        rcases hor with rfl | hor
        · exact hnot _ (hdeps e he hb)
        · exact s.closed e.on k (hf.edges i o e ho he hb).2 (hnot _ (hdeps e he hb)) hor
      obtain ⟨A', σ', κ2', s', hw', hway, hp', hq, hfm⟩ := stage hx A.length A σ κ2 rfl s hwait h hp
      have hlen : ((A' ++ B).filterMap PItem.idx).length = fuel := by
        simp only [List.filterMap_append, List.filterMap_cons, hx, List.length_append, List.length_cons] at hn ⊢
        rw [hfm]; omega
      have snew := s'.drop hx hw'
      have hoin : o ∈ ops.toList := List.mem_of_getElem? (by rw [Array.getElem?_toList]; exact ho)
      have hoko : okOper a.tmps.size o = true := by rw [hway.sz]; exact hok o hoin
      have hfree0 := hway.free i ⟨x, mem_mid.2 (.inl rfl), hx⟩
      have hfree : Free ρ σ' (σ0.next + i) σ'.next := ⟨hfree0.1, hfree0.2, Nat.le_refl _, by have := hway.nx; omega⟩
      -- an operation that makes no block
      have key : ∀ (_ : PItem.reveal i ∈ A' ++ B → pend i = none ∧ aStep P call ops o F σ' (σ0.next + i) σ'.next (fun _ σ2 => σ2 = σ')), aStep P call ops o F σ' (σ0.next + i) σ'.next (fun F2 σ2 => aPl P call ops σ0.next W (A' ++ B) [] pend F2 σ2 (Q .normal) ∧ (PItem.reveal i ∈ A' ++ B → σ2 = σ')) →
          wpOp P ops (Ends rel κ ρ0 σ0 a0 Q) i (wpAny P .any ops (Ends rel κ ρ0 σ0 a0 Q) fuel (listed.setIfInBounds i true)) a w := by
        intro hrev hst
        refine wpOp_of ho (step_sound (a := a) hsim hst hoko hway.fr hway.R hfree fun F2 σ2 ρ2 a2 w2 hK hle hsame hnone hnx hF hsz hdf hR => ?_)
        refine ih _ (A' ++ B) pend F2 σ2 ρ2 κ2' a2 w2 hlen snew (Way.step hx hway s' hle hsame hnone hnx hF hsz hdf hR fun hr => ⟨(hrev hr).1, ?_⟩) hK.1
        rw [hK.2 hr]; exact hfree0.1
      cases x with
      | reveal r => cases hx
      | op i' =>
        cases hx
        obtain ⟨o', ho', hm⟩ := s'.kop i (mem_mid.2 (.inl rfl))
        rw [ho] at ho'; cases ho'
        have hnr : PItem.reveal i ∉ A' ++ B := fun hr => by
          obtain ⟨o2, ho2, hm2⟩ := s'.krev i (mem_mid.2 (.inr hr))
          rw [ho] at ho2; cases ho2
          rw [hm] at hm2; cases hm2
        refine key (fun hr => absurd hr hnr) ?_
        cases ha : acts o.op with
        | true =>
          have hpa := front_act hc hf.toStatic ho ha A' [] pend F σ' (fun y hy => ⟨(hq y hy).1, (hq y hy).2.symm⟩) (fun _ hj => by cases hj)
            (by
              have := (List.pairwise_append.1 s'.pw).1
              exact this.imp fun hb i j hi hj => (hb.1 i j hi hj).2.1) hp'
          simp only [aPl, ho] at hpa
          exact aStep_mono hc hpa fun F2 σ2 hh => ⟨aPl_done hc _ _ _ _ _ _ (fun _ hj => by cases hj) hh.2, fun hr => absurd hr hnr⟩
        | false =>
          have hQ : Quiet P ops (.op i) := ⟨o, ho, ha, hm⟩
          obtain ⟨v, r, k1, k2⟩ := front_quiet hc hf.toStatic hQ A' [] pend F σ' hq hp'
          rw [quiet_step ho ha F σ' _ (fun v σ2 h => quiet_same ha hm h)]
          have hr : r = none := by
            simp only [qRes, ho] at k1
            split at k1
            · cases k1
            · cases k1; rfl
            · obtain ⟨p, _, hp⟩ := Option.map_eq_some_iff.1 k1; cases hp; rfl
          subst hr
          refine ⟨v, none, k1, rfl, ?_, fun hr => absurd hr hnr⟩
          simpa [PItem.dst, PItem.idx, ho, addPend] using k2
      | mk i' =>
        cases hx
        have hin : PItem.mk i ∈ A' ++ PItem.mk i :: B := mem_mid.2 (.inl rfl)
        obtain ⟨⟨o', ho', hm, hl, ha⟩, hrin⟩ := s'.kmk i hin
        rw [ho] at ho'; cases ho'
        have hQ : Quiet P ops (.mk i) := ⟨o, ho, hm, hl, ha⟩
        obtain ⟨v, r, k1, k2⟩ := front_quiet hc hf.toStatic hQ A' [] pend F σ' hq hp'
        have hnc : ∀ f args at', o.op ≠ .call { callee := .value f, args := args, argTypes := at' } := fun f args at' e => by rw [e] at ha; simp [acts] at ha
        simp only [PItem.dst, PItem.idx, ho, Option.bind_some] at k2
        simp only [qRes, ho] at k1
        split at k1
        · cases k1
        · rename_i hwant
          cases k1
          refine key (fun _ => ⟨hway.mkn i hin, ?_⟩) ?_
          · rw [aStep_noCall hnc, hwant]
          · rw [aStep_noCall hnc, hwant]
            exact ⟨by simpa [addPend] using k2, fun _ => rfl⟩
        · rename_i hwant
          obtain ⟨p, hp1, hp2⟩ := Option.map_eq_some_iff.1 k1
          obtain ⟨v', ob⟩ := p
          cases hp2
          obtain ⟨g1, g2, g3⟩ := makes_indep hm hl hp1
          have hst : aStep P call ops o F σ' (σ0.next + i) σ'.next (fun F2 σ2 => F2 = Fr.put F o.dst v' ∧ σ2 = σ'.put (σ0.next + i) σ'.next ob) := by
            rw [aStep_noCall hnc, hwant]
            simp only [g3, and_self]
          refine wpOp_of ho (step_sound (a := a) hsim hst hoko hway.fr hway.R hfree fun F2 σ2 ρ2 a2 w2 hK hle hsame hnone hnx hF hsz hdf hR => ?_)
          obtain ⟨rfl, rfl⟩ := hK
          obtain ⟨κ3, hway'⟩ := Way.made hway s' hle hsame hF hsz hdf hR g1 g2
          exact ih _ (A' ++ B) _ _ σ' ρ2 κ3 a2 w2 hlen snew hway' k2

end Go.Ax

/- A plan's check. -/
namespace Go.Ax
open Go
variable {L : Type} {P : Program} {ops : Array Oper} {call : Spec L} {rel : Rel P L}

def befB (ops : Array Oper) (W : Nat → Nat → Bool) (x y : PItem) : Bool :=
  match x, y with
  | .reveal r, .reveal s => r != s
  | .reveal r, .op j | .reveal r, .mk j => W j r
  | .op i, .op j | .op i, .mk j | .mk i, .op j | .mk i, .mk j => i != j && !W i j && (match ops[i]? with | some o => !acts o.op || W j i | none => true)
  | _, _ => true

def pairB {α : Type} (r : α → α → Bool) : List α → Bool
  | [] => true
  | x :: l => l.all (r x) && pairB r l

theorem pairB_sound {α : Type} {r : α → α → Bool} : ∀ {l : List α}, pairB r l = true → l.Pairwise fun x y => r x y = true
  | [], _ => .nil
  | x :: l, h => by
    simp only [pairB, Bool.and_eq_true, List.all_eq_true] at h
    exact .cons h.1 (pairB_sound h.2)

theorem befB_sound {W : Nat → Nat → Bool} {x y : PItem} (h : befB ops W x y = true) : Bef ops W x y := by
  refine ⟨fun i j hi hj => ?_, fun r j hr hj => ?_, fun r s hr hs => ?_⟩
  · have : i ≠ j ∧ W i j = false ∧ (match ops[i]? with | some o => !acts o.op || W j i | none => true) = true := by
      cases x <;> cases y <;> cases hi <;> cases hj <;> simp only [befB, Bool.and_eq_true, bne_iff_ne, ne_eq, Bool.not_eq_true'] at h <;> exact ⟨h.1.1, h.1.2, h.2⟩
    refine ⟨this.1, this.2.1, ?_⟩
    rintro ⟨o, ho, ha⟩
    have h3 := this.2.2
    rw [ho] at h3
    simpa [ha] using h3
  · cases x <;> cases hr
    cases y <;> cases hj <;> exact h
  · cases x <;> cases hr
    cases y <;> cases hs
    simpa [befB] using h

def itemOk (P : Program) (ops : Array Oper) (items : List PItem) (x : PItem) : Bool :=
  match x with
  | .op i => (match ops[i]? with | some o => !makes P o.op | none => false)
  | .mk i => (match ops[i]? with | some o => makes P o.op && !looks P o.op && !acts o.op | none => false) && items.any (fun y => match y with | .reveal j => j == i | _ => false)
  | .reveal i => (match ops[i]? with | some o => makes P o.op | none => false)

/-- What must be looked at again is told. -/
def relook (P : Program) (ops : Array Oper) (W : Nat → Nat → Bool) : List (PItem × List Nat) → List Nat → Bool
  | [], _ => true
  | (.op i, ls) :: rest, done =>
    (match ops[i]? with
     | some o => !acts o.op || done.all fun j => W i j || ls.contains j || (match ops[j]? with | some oj => !looks P oj.op | none => true)
     | none => true) && relook P ops W rest (done ++ [i])
  | _ :: rest, done => relook P ops W rest done

def opFacts (ops : Array Oper) (b : Array Nat) (i : Nat) : Bool :=
  match ops[i]? with
  | none => false
  | some o => (b.getD i 0 == CheckFast.one (fun j => b.getD j 0) o) && o.after.all (fun e => !Region.binds .any e || decide (e.on < ops.size)) && !((b.getD i 0).testBit i)

def pairFacts (P : Program) (ops : Array Oper) (W : Nat → Nat → Bool) (i j : Nat) : Bool :=
  match ops[i]? with
  | none => true
  | some oi => match oi.dst with
    | none => true
    | some d => match ops[j]? with
      | none => true
      | some oj => (i == j || oj.dst != some d) && (!(oj.looksAt ops).contains d || W j i || (W i j && !looks P oj.op))

def planOkW (P : Program) (ops : Array Oper) (plan : List (PItem × List Nat)) (b : Array Nat) : Bool :=
  let W := fun i j => (b.getD i 0).testBit j
  let items := plan.map (·.1)
  let ns := List.range ops.size
  let ix := items.filterMap PItem.idx
  b.size == ops.size && ns.all (opFacts ops b) && ns.all (fun i => ns.all (pairFacts P ops W i)) &&
  pairB (befB ops W) items && items.all (itemOk P ops items) && ns.all (fun i => ix.contains i) && ix.length == ops.size && relook P ops W plan []

def planOk (P : Program) (ops : Array Oper) (plan : List (PItem × List Nat)) : Bool := planOkW P ops plan (CheckFast.beforeF ops)

theorem fold_bits {look : Nat → Nat} {k : Nat} : ∀ (es : List Edge) (s : Nat), (es.foldl (fun s e => if Region.binds .any e then s ||| 2 ^ e.on ||| look e.on else s) s).testBit k = true ↔
    s.testBit k = true ∨ ∃ e ∈ es, Region.binds .any e = true ∧ (e.on = k ∨ (look e.on).testBit k = true)
  | [], s => by simp
  | e :: es, s => by
    rw [List.foldl_cons, fold_bits es]
    cases hb : Region.binds .any e with
    | false =>
      simp only [Bool.false_eq_true, if_false, List.mem_cons, exists_eq_or_imp, hb, false_and, false_or]
    | true =>
      simp only [if_true, Nat.testBit_or, Bool.or_eq_true, Nat.testBit_two_pow, decide_eq_true_eq, List.mem_cons, exists_eq_or_imp, hb, true_and]
      constructor
      · rintro (((h | h) | h) | h)
        · exact .inl h
        · exact .inr (.inl (.inl h))
        · exact .inr (.inl (.inr h))
        · exact .inr (.inr h)
      · rintro (h | (h | h) | h)
        · exact .inl (.inl (.inl h))
        · exact .inl (.inl (.inr h))
        · exact .inl (.inr h)
        · exact .inr h

theorem one_bits {look : Nat → Nat} {o : Oper} {k : Nat} : (CheckFast.one look o).testBit k = true ↔ ∃ e ∈ o.after, Region.binds .any e = true ∧ (e.on = k ∨ (look e.on).testBit k = true) := by
  unfold CheckFast.one
  rw [← Array.foldl_toList, fold_bits]
  simp

theorem facts_of {b : Array Nat} (hsz : b.size = ops.size) (h1 : ∀ i, i < ops.size → opFacts ops b i = true) (h2 : ∀ i j, i < ops.size → j < ops.size → pairFacts P ops (fun i j => (b.getD i 0).testBit j) i j = true) :
    Facts P ops fun i j => (b.getD i 0).testBit j := by
  have hop : ∀ {i o}, ops[i]? = some o → b.getD i 0 = CheckFast.one (fun j => b.getD j 0) o ∧ (∀ e ∈ o.after, Region.binds .any e = true → e.on < ops.size) ∧ (b.getD i 0).testBit i = false := by
    intro i o ho
    have := h1 i (lt_of_some ho)
    simp only [opFacts, ho, Bool.and_eq_true, beq_iff_eq, Array.all_eq_true_iff_forall_mem, Bool.or_eq_true, Bool.not_eq_true', decide_eq_true_eq] at this
    refine ⟨this.1.1, fun e he hb => ?_, this.2⟩
    rcases this.1.2 e he with h | h
    · rw [hb] at h; cases h
    · exact h
  have hpair : ∀ {i j oi oj d}, ops[i]? = some oi → ops[j]? = some oj → oi.dst = some d → (i = j ∨ oj.dst ≠ some d) ∧ (d ∈ oj.looksAt ops → (b.getD j 0).testBit i = true ∨ ((b.getD i 0).testBit j = true ∧ looks P oj.op = false)) := by
    intro i j oi oj d hi hj hd
    have := h2 i j (lt_of_some hi) (lt_of_some hj)
    simp only [pairFacts, hi, hj, hd, Bool.and_eq_true, Bool.or_eq_true, beq_iff_eq, bne_iff_ne, Bool.not_eq_true', List.contains_eq_mem, decide_eq_false_iff_not] at this
    refine ⟨this.1, fun hm => ?_⟩
    rcases this.2 with (h | h) | h
    · exact absurd hm h
    · exact .inl h
    · exact .inr h
  refine ⟨⟨fun i j oi oj d hi hj h3 h4 => ?_, fun i j oi oj d hi hj hd hm => (hpair hi hj hd).2 hm, fun i k hk => ?_, fun i => ?_⟩, fun i o e ho he hb => ?_⟩
  · rcases (hpair hi hj h3).1 with h | h
    · exact h
    · exact absurd h4 h
  · rcases Nat.lt_or_ge i ops.size with hlt | hge
    · have ho : ops[i]? = some ops[i] := Array.getElem?_eq_getElem hlt
      rw [(hop ho).1, one_bits] at hk
      obtain ⟨e, he, hb, hor⟩ := hk
      exact ⟨_, e, ho, he, hb, hor⟩
    · have : b.getD i 0 = 0 := by rw [Array.getD_eq_getD_getElem?, Array.getElem?_eq_none (by omega)]; rfl
      simp [this] at hk
  · rcases Nat.lt_or_ge i ops.size with hlt | hge
    · exact (hop (Array.getElem?_eq_getElem hlt)).2.2
    · have : b.getD i 0 = 0 := by rw [Array.getD_eq_getD_getElem?, Array.getElem?_eq_none (by omega)]; rfl
      simp [this]
  · refine ⟨?_, (hop ho).2.1 e he hb⟩
    rw [(hop ho).1, one_bits]
    exact ⟨e, he, hb, .inl rfl⟩

theorem aPlan_pl {base : Nat} {W : Nat → Nat → Bool} (hc : clo call = call) {K : Fr → AMem L → Prop} : ∀ (plan : List (PItem × List Nat)) (done : List Nat) (pend : Nat → Option (AObj L)) (F : Fr) (σ : AMem L), relook P ops W plan done = true →
    aPlan P call ops base plan pend F σ K → aPl P call ops base W (plan.map (·.1)) done pend F σ K
  | [], _, _, _, _, _, h => h
  | (.op i, ls) :: rest, done, pend, F, σ, hr, h => by
    simp only [aPlan, List.map_cons, aPl] at h ⊢
    simp only [relook, Bool.and_eq_true] at hr
    cases ho : ops[i]? with
    | none => rw [ho] at h; exact h.elim
    | some o =>
      simp only [ho] at h hr ⊢
      refine aStep_mono hc h fun F' σ' hh => ⟨fun ha j hj hw oj hoj hl hwant => ?_, aPlan_pl hc rest _ _ _ _ hr.2 hh.2⟩
      have h1 := hr.1
      simp only [ha, Bool.not_true, Bool.false_or, List.all_eq_true, Bool.or_eq_true, List.contains_eq_mem, decide_eq_true_eq] at h1
      rcases h1 j hj with (h2 | h2) | h2
      · rw [hw] at h2; cases h2
      · exact hh.1 j h2 oj hoj hwant
      · simp [hoj, hl] at h2
  | (.mk i, ls) :: rest, done, pend, F, σ, hr, h => by
    simp only [aPlan, List.map_cons, aPl] at h ⊢
    simp only [relook] at hr
    split at h
    · exact h.elim
    · split at h
      · exact h.elim
      · exact aPlan_pl hc rest _ _ _ _ hr h
      · split at h
        · exact aPlan_pl hc rest _ _ _ _ hr h
        · exact h.elim
  | (.reveal i, ls) :: rest, done, pend, F, σ, hr, h => by
    simp only [aPlan, List.map_cons, aPl] at h ⊢
    simp only [relook] at hr
    split at h
    · exact aPlan_pl hc rest _ _ _ _ hr h
    · exact aPlan_pl hc rest _ _ _ _ hr h

theorem skel_of {plan : List (PItem × List Nat)} {b : Array Nat} (h : planOkW P ops plan b = true) : Facts P ops (fun i j => (b.getD i 0).testBit j) ∧ Skel P ops (fun i j => (b.getD i 0).testBit j) (plan.map (·.1)) (Array.replicate ops.size false) ∧
    ((plan.map (·.1)).filterMap PItem.idx).length = ops.size ∧ relook P ops (fun i j => (b.getD i 0).testBit j) plan [] = true := by
  simp only [planOkW, Bool.and_eq_true, beq_iff_eq, List.all_eq_true, List.mem_range, List.contains_eq_mem, decide_eq_true_eq] at h
  obtain ⟨⟨⟨⟨⟨⟨⟨h1, h2⟩, h3⟩, h4⟩, h5⟩, h6⟩, h7⟩, h8⟩ := h
  refine ⟨facts_of h1 h2 fun i j hi hj => h3 i hi j hj, ?_, h7, h8⟩
  have hun : ∀ i, i < ops.size → Unl (plan.map (·.1)) i := fun i hi => unl_iff.2 (h6 i hi)
  refine ⟨(pairB_sound h4).imp befB_sound, fun i hi => ?_, fun i hi => ?_, fun i hi => ?_, fun i hi => ?_, by simp, fun i k hi hn => absurd (hun i hi) hn⟩
  · have := h5 _ hi
    simp only [itemOk] at this
    split at this
    · rename_i o ho; exact ⟨o, ho, by simpa using this⟩
    · cases this
  · have := h5 _ hi
    simp only [itemOk, Bool.and_eq_true, List.any_eq_true] at this
    obtain ⟨k1, y, hy, k2⟩ := this
    refine ⟨?_, ?_⟩
    · split at k1
      · rename_i o ho
        simp only [Bool.and_eq_true, Bool.not_eq_true'] at k1
        exact ⟨o, ho, k1.1.1, k1.1.2, k1.2⟩
      · cases k1
    · split at k2
      · rename_i j
        simp only [beq_iff_eq] at k2
        exact k2 ▸ hy
      · cases k2
  · have := h5 _ hi
    simp only [itemOk] at this
    split at this
    · rename_i o ho; exact ⟨o, ho, by simpa using this⟩
    · cases this
  · have := hun i hi
    simp only [this, iff_true]
    rw [Array.getD_eq_getD_getElem?, Array.getElem?_replicate, if_pos hi]; rfl

/-- Regions that draw: any order does what the plan says. -/
theorem draw_sound (hsim : Sim rel call) (hm : P.follows .mixedOrders = true) : DrawSound rel call (planOk P) := by
  intro id ops plan Q κ ρ F σ a w hplan hok hp hF hR
  obtain ⟨hf, hs, hlen, hrl⟩ := skel_of (P := P) (ops := ops) (plan := plan) hplan
  refine wp_region_any hm ?_
  have hcl : clo (clo call) = clo call := clo_clo call
  obtain ⟨κ', _, hmr, hclose⟩ := rel.opens hR
  have hR' : rel.R κ ρ (σ.skipTo (σ.next + ops.size)) { w with drawn := w.drawn + 1 } :=
    hclose ρ _ _ ρ.le_refl ((hmr.of_heap (w' := { w with drawn := w.drawn + 1 }) rfl).skipTo (by omega)) (SameLogic.refl _) (by simp [AMem.next_skipTo])
  have hfresh := fun b hb => hmr.fresh b hb
  have hp' : aPlan P (clo call) ops σ.next plan (fun _ => none) F (σ.skipTo (σ.next + ops.size)) (Q .normal) := by
    have : ∀ (plan : List (PItem × List Nat)) (pend : Nat → Option (AObj L)) (F : Fr) (σ1 : AMem L), aPlan P call ops σ.next plan pend F σ1 (Q .normal) → aPlan P (clo call) ops σ.next plan pend F σ1 (Q .normal) := by
      intro plan
      induction plan with
      | nil => exact fun _ _ _ h => h
      | cons x rest ih =>
        intro pend F σ1 h
        obtain ⟨x, ls⟩ := x
        cases x with
        | op i =>
          simp only [aPlan] at h ⊢
          split at h
          · exact h.elim
          · exact aStep_congr h (fun _ _ => rfl) fun u σ' hh => ⟨hh.1, ih _ _ _ hh.2⟩
        | mk i =>
          simp only [aPlan] at h ⊢
          split at h
          · exact h.elim
          · split at h
            · exact h.elim
            · exact ih _ _ _ h
            · split at h
              · exact ih _ _ _ h
              · exact h.elim
        | reveal i =>
          simp only [aPlan] at h ⊢
          split at h
          · exact ih _ _ _ h
          · exact ih _ _ _ h
    exact this _ _ _ _ hp
  refine any_sound hsim.clo hcl hf hok ops.size _ _ (fun _ => none) F (σ.skipTo (σ.next + ops.size)) ρ κ a _ hlen hs ?_ (aPlan_pl hcl plan [] _ F _ hrl hp')
  exact {
    pe := rfl, le := ρ.le_refl, same := fun _ _ => rfl, none0 := fun _ _ h => h, nx := by simp [AMem.next_skipTo], fr := hF, sz := rfl, df := rfl, R := hR'
    free := fun i _ => hfresh _ (by omega)
    hid := fun r _ => (hfresh _ (by omega)).1
    mkn := fun _ _ => rfl, p1 := fun _ _ _ h => (by cases h)
    p2 := fun _ _ _ _ _ _ _ _ h => (by cases h)
    p3 := fun _ => .inl rfl }

end Go.Ax

/- Functions: what the evaluator says of a body holds of its calls. -/
namespace Go.Ax
open Go
variable {L : Type} {P : Program} {rel : Rel P L} {call : Spec L}

def aResult (P : Program) (F : Fr) (σ : AMem L) : ResultVar → Option Value
  | .tmp t => some (F t)
  | .cell a t => match F a with
    | .pointer (some ⟨c, off, none⟩) => aLoad P t c off σ
    | _ => none
def aResults (P : Program) (rs : List ResultVar) (F : Fr) (σ : AMem L) : Option Value :=
  match rs with
  | [r] => aResult P F σ r
  | rs => (rs.mapM (aResult P F σ)).map fun vs => .tuple vs.toArray

/-- What a call is told to do. -/
abbrev Law (L : Type) := List Value → AMem L → (Value → AMem L → Prop) → Prop

def aEnd (P : Program) (rs : List ResultVar) (K : Value → AMem L → Prop) : Exit → Fr → AMem L → Prop
  | .normal, F, σ | .ret, F, σ => match aResults P rs F σ with
    | some v => K v σ
    | none => False
  | _, _, _ => False

def aArgs (args : List Value) : Fr := fun i => args.getD i undef

/-- A body run on arguments. -/
def aBody (P : Program) (call : Spec L) (plans : Plans) (fn : Func) (c : Code) : Law L := fun args σ K =>
  args.length ≤ fn.ntmps ∧ aCode P call plans c (aEnd P fn.results.toList K) (aArgs args) σ

/-- What the model does for one result. -/
def oneResult (tmps : Array Value) : ResultVar → Sem Value
  | .tmp t => pure (tmps.getD t undef)
  | .cell a t => do loadVar t (← asAddr (tmps.getD a undef))

theorem result_sound {κ : Kappa} {ρ : Rho} {σ : AMem L} {w : World} {F : Fr} {a : Act} {r : ResultVar} {v : Value} (hm : MRel P κ ρ σ w) (hF : FRel ρ F a) (h : aResult P F σ r = some v) :
    ∃ v', (oneResult a.tmps r).run P w = .ok v' w ∧ VRel ρ v v' := by
  cases r with
  | tmp t =>
    simp only [aResult, Option.some.injEq] at h; subst h
    exact ⟨a.tmps.getD t undef, by simp [oneResult], hF t⟩
  | cell d t =>
    simp only [aResult] at h
    split at h
    · rename_i c off hx
      have hv := hF d
      rw [hx] at hv
      obtain ⟨l, hl, hs, hv'⟩ := hv.ptr_inv
      obtain ⟨v', h1, h2⟩ := load_sound hm h hl
      refine ⟨v', ?_, h2⟩
      simpa [oneResult, hv', asAddr, Instr.loadAt, Instr.sureAddr] using h1
    · cases h

theorem resultsL_sound {κ : Kappa} {ρ : Rho} {σ : AMem L} {w : World} {F : Fr} {a : Act} (hm : MRel P κ ρ σ w) (hF : FRel ρ F a) : ∀ (rs : List ResultVar) (vs : List Value), rs.mapM (aResult P F σ) = some vs →
    ∃ vs', (rs.mapM (oneResult a.tmps)).run P w = .ok vs' w ∧ LRel ρ vs vs' ∧ vs.length = rs.length ∧ vs'.length = rs.length
  | [], vs, h => by
    simp only [List.mapM_nil] at h; cases h
    exact ⟨[], by simp, ⟨rfl, fun i x y hx => by simp at hx⟩, rfl, rfl⟩
  | r :: rs, vs, h => by
    simp only [List.mapM_cons] at h
    obtain ⟨v, hv, h⟩ := Option.bind_eq_some_iff.1 h
    obtain ⟨us, hu, h⟩ := Option.bind_eq_some_iff.1 h
    cases h
    obtain ⟨v', h1, h2⟩ := result_sound hm hF hv
    obtain ⟨us', h3, h4, h5, h6⟩ := resultsL_sound hm hF rs us hu
    refine ⟨v' :: us', ?_, LRel.cons h2 h4, by simp [h5], by simp [h6]⟩
    simp [List.mapM_cons, h1, h3]

theorem results_sound {fn : Func} {κ : Kappa} {ρ : Rho} {σ : AMem L} {w : World} {F : Fr} {a : Act} {v : Value} (hm : MRel P κ ρ σ w) (hF : FRel ρ F a) (h : aResults P fn.results.toList F σ = some v) :
    ∃ v', (results fn a.tmps).run P w = .ok v' w ∧ VRel ρ v v' := by
  have he : results fn a.tmps = (do
      let vs ← List.toArray <$> fn.results.toList.mapM (oneResult a.tmps)
      pure (if h : vs.size = 1 then vs[0] else .tuple vs)) := by
    unfold results
    rw [Array.mapM_eq_mapM_toList]
    rfl
  rw [he]
  unfold aResults at h
  split at h
  · rename_i r hr
    obtain ⟨v', h1, h2⟩ := result_sound hm hF h
    refine ⟨v', ?_, h2⟩
    simp [hr, List.mapM_cons, h1]
  · rename_i hne
    obtain ⟨vs, hvs, h⟩ := Option.map_eq_some_iff.1 h
    subst h
    obtain ⟨vs', h1, h2, h3, h4⟩ := resultsL_sound hm hF _ _ hvs
    refine ⟨.tuple vs'.toArray, ?_, ?_⟩
    · have hlen : vs'.length ≠ 1 := by
        rw [h4]
        intro h
        cases hl : fn.results.toList with
        | nil => rw [hl] at h; cases h
        | cons r rs =>
          cases rs with
          | nil => exact hne r hl
          | cons _ _ => rw [hl] at h; simp at h
      simp [h1, hlen]
    · exact VRel.tuple_mk (by simpa using h2)

/-- The facts of a function that do not hang on its arguments. -/
structure FnOk (P : Program) (plans : Plans) (f : FuncId) (fn : Func) (c : Code) : Prop where
  func : P.funcs[f]? = some fn
  body : fn.body = some c
  code : codeOk (planOk P) plans fn.ntmps c = true
  name : (fn.name == "runtime.NumGoroutine") = false

/-- A function whose body does what its law tells. -/
theorem Sim.add (hsim : Sim rel call) (hm : P.follows .mixedOrders = true) {plans : Plans} {f : FuncId} {fn : Func} {c : Code} (hf : FnOk P plans f fn c) {law : Law L}
    (hb : ∀ args σ K, law args σ K → aBody P call plans fn c args σ K) : Sim rel (fun g args σ K => call g args σ K ∨ (g = f ∧ law args σ K)) := by
  intro g args σ K h κ ρ w args' hargs hR
  rcases h with h | ⟨rfl, h⟩
  · exact hsim g args σ K h κ ρ w args' hargs hR
  refine .inl ⟨?_, fn, hf.func, by rw [hf.body]; rfl, hf.name⟩
  obtain ⟨hlen, hcode⟩ := hb args σ K h
  have hlen' : args'.size = args.length := by rw [hargs.1]; simp
  have hsz : (args' ++ Array.replicate (fn.ntmps - args'.size) undef).size = fn.ntmps := by simp; omega
  refine calls_of_wp hf.func hf.body ?_
  have hF : FRel ρ (aArgs args) { tmps := args' ++ Array.replicate (fn.ntmps - args'.size) undef, defers := [] } := by
    intro i
    simp only [aArgs]
    rw [Array.getD_eq_getD_getElem?, Array.getElem?_append, List.getD_eq_getElem?_getD]
    by_cases hi : i < args'.size
    · rw [if_pos hi]
      have h1 : args[i]? = some args[i] := List.getElem?_eq_getElem (by omega)
      have h2 : args'[i]? = some args'[i] := Array.getElem?_eq_getElem hi
      rw [h1, h2]
      exact hargs.2 i _ _ h1 (by simp)
    · rw [if_neg hi, List.getElem?_eq_none (by omega)]
      exact .any _
  refine wp_mono (code_sound hsim (draw_sound hsim hm) c _ κ ρ _ σ _ w (by rw [hsz]; exact hf.code) hcode hF hR) fun e a w' he => ?_
  obtain ⟨F', σ', ρ', k1, k2, k3, k9, k4, k5, k6, k7, k8⟩ := he
  obtain ⟨κ', _, hmr, _⟩ := rel.opens k8
  have fin : (∃ v, aResults P fn.results.toList F' σ' = some v ∧ K v σ') → a.defers = [] ∧ ∃ v, (results fn a.tmps).run P w' = .ok v w' ∧ CallEnd rel κ ρ σ K (.returned v) w' := by
    rintro ⟨v, hv, hK⟩
    obtain ⟨v', h1, h2⟩ := results_sound hmr k5 hv
    exact ⟨k7, v', h1, v, v', ρ', σ', rfl, hK, k2, k3, k9, k4, h2, k8⟩
  cases e with
  | normal => simp only [aEnd] at k1; exact fin (by split at k1; exact ⟨_, by assumption, k1⟩; exact k1.elim)
  | ret => simp only [aEnd] at k1; exact fin (by split at k1; exact ⟨_, by assumption, k1⟩; exact k1.elim)
  | exit id => exact k1.elim
  | goto l => exact k1.elim
  | panic ch => exact k1.elim
  | outgrown => exact k1.elim

end Go.Ax
