/- The evaluator of code over abstract memory; what it says holds of the model. -/
import Derived.Test.YtaeoiohcalonkaaGreatDoorAxFrame
import Derived.Scope
import Derived.ChangeMaps4
set_option linter.unusedVariables false
set_option linter.unusedSimpArgs false
namespace Go.Ax
open Go
variable {L : Type}

def Kappa.add (κ : Kappa) (c : Nat) (o : Obj) : Kappa := ⟨fun x => if x = c then some o else κ x, κ.env⟩
def Kappa.del (κ : Kappa) (c : Nat) : Kappa := ⟨fun x => if x = c then none else κ x, κ.env⟩

/-- A relation between abstract memory and World under which the operations run. -/
structure Rel (P : Program) (L : Type) where
  R : Kappa → Rho → AMem L → World → Prop
  opens : ∀ {κ : Kappa} {ρ : Rho} {σ : AMem L} {w : World}, R κ ρ σ w → ∃ κ', (∀ c o, κ c = some o → κ' c = some o) ∧ MRel P κ' ρ σ w ∧
    ∀ (ρ' : Rho) (σ' : AMem L) (w' : World), ρ.le ρ' → MRel P κ' ρ' σ' w' → SameLogic σ σ' → σ.next ≤ σ'.next → R κ ρ' σ' w'
  hides : ∀ {κ : Kappa} {ρ : Rho} {σ : AMem L} {w : World} {b : Nat} {o : AObj L}, R κ ρ σ w → σ.get b = some o → o.isLogic = false → o.isRo = false →
    ∃ l ob, ρ b = some l ∧ w.heap[l.blk]? = some ob ∧ κ l.blk = none ∧ R (κ.add l.blk ob) ρ (σ.kill b) w
  shows : ∀ {κ : Kappa} {ρ : Rho} {σ : AMem L} {w : World} {b nx : Nat} {l : Loc} {ob : Obj} {o : AObj L}, R κ ρ σ w → κ l.blk = some ob → ρ b = some l → σ.get b = none → b < nx → σ.next ≤ nx → o.isLogic = false → ORel P ρ w l o →
    R (κ.del l.blk) ρ (σ.put b nx o) w
  iters : ∀ {κ : Kappa} {ρ : Rho} {σ : AMem L} {w : World} (o : Obj), R κ ρ σ w → R (κ.add w.heap.size o) (ρ.add σ.next ⟨w.heap.size, 0, 1, 1⟩) (σ.skipTo (σ.next + 1)) (w.alloc o)
  turns : ∀ {κ : Kappa} {ρ : Rho} {σ : AMem L} {w : World} {c : Nat} {o : Obj} (o' : Obj), R κ ρ σ w → κ c = some o → R (κ.add c o') ρ σ (ChangeMaps.setBlock w c o')
  drops : ∀ {κ : Kappa} {ρ : Rho} {σ : AMem L} {w : World} {c : Nat} {o : Obj}, R (κ.add c o) ρ σ w → κ c = none → R κ ρ σ w

/-- What a call does, as the abstract side says it. -/
abbrev Spec (L : Type) := FuncId → List Value → AMem L → (Value → AMem L → Prop) → Prop

/-- A call's end: a value; the worlds fit. -/
def CallEnd {P : Program} (rel : Rel P L) (κ : Kappa) (ρ : Rho) (σ : AMem L) (K : Value → AMem L → Prop) (e : Ending) (w' : World) : Prop :=
  ∃ v v' ρ' σ', e = .returned v' ∧ K v σ' ∧ ρ.le ρ' ∧ (∀ x, x < σ.next → ρ' x = ρ x) ∧ (∀ x, x < σ.next → σ.get x = none → σ'.get x = none) ∧ σ.next ≤ σ'.next ∧ VRel ρ' v v' ∧ rel.R κ ρ' σ' w'

/-- A call ends so: of a Go function; of one that the model answers at once. -/
def Enters (P : Program) (f : FuncId) (args : Array Value) (w : World) (R : Ending → World → Prop) : Prop :=
  (Calls P f args w R ∧ ∃ fn, P.funcs[f]? = some fn ∧ fn.body.isSome = true ∧ (fn.name == "runtime.NumGoroutine") = false) ∨
  ∃ v w', (callFunc f args).run P w = .ok (.value v) w' ∧ R (.returned v) w'

theorem Enters.mono {P : Program} {f : FuncId} {args : Array Value} {w : World} {R R' : Ending → World → Prop} (h : Enters P f args w R) (hr : ∀ e w', R e w' → R' e w') : Enters P f args w R' := by
  rcases h with ⟨h, hf⟩ | ⟨v, w', h1, h2⟩
  · exact .inl ⟨h.mono hr, hf⟩
  · exact .inr ⟨v, w', h1, hr _ _ h2⟩

def Sim {P : Program} (rel : Rel P L) (call : Spec L) : Prop :=
  ∀ f args σ K, call f args σ K → ∀ (κ : Kappa) (ρ : Rho) (w : World) (args' : Array Value), LRel ρ args args'.toList → rel.R κ ρ σ w →
    Enters P f args' w (CallEnd rel κ ρ σ K)

def skipped : Value := .chan none

/-- Is the operation carried out? -/
def aWanted (ops : Array Oper) (o : Oper) (F : Fr) : Option Bool :=
  match o.guard with
  | none => some true
  | some (j, want) => match (ops[j]?).bind (·.dst) with
    | none => some false
    | some t => match F t with
      | .bool b => some (b == want)
      | .chan none => some false
      | _ => none

/-- One operation. 'b', 'nx': where a new block would lie. -/
def aStep (P : Program) (call : Spec L) (ops : Array Oper) (o : Oper) (F : Fr) (σ : AMem L) (b nx : Nat) (K : Fr → AMem L → Prop) : Prop :=
  match aWanted ops o F with
  | none => False
  | some false => K (Fr.put F o.dst skipped) σ
  | some true =>
    match o.op with
    | .call { callee := .value f, args, .. } =>
      match aEval F f with
      | .func (.func g) first captured => call g (first.toList ++ args.toList.map (aEval F) ++ captured.toList) σ fun v σ' => K (Fr.put F o.dst v) σ'
      | _ => False
    | op => match aOp P op F σ b nx with
      | some (v, σ') => K (Fr.put F o.dst v) σ'
      | none => False

def aOps (P : Program) (call : Spec L) (ops : Array Oper) : List Oper → Fr → AMem L → (Fr → AMem L → Prop) → Prop
  | [], F, σ, K => K F σ
  | o :: rest, F, σ, K => aStep P call ops o F σ σ.next (σ.next + 1) fun F' σ' => aOps P call ops rest F' σ' K

/-- Is the operation one that only looks at memory, whose value another operation could turn? -/
def looks (P : Program) : Op → Bool
  | .load .. | .lookup .. | .slice .. => true
  | .convert s _ _ => (match P.underlying s with | some (.slice _) => true | _ => false)
  | .call { callee := .builtin .len, argTypes, .. } => (match (argTypes[0]?).bind P.underlying with | some (.map _ _) => true | _ => false)
  | _ => false
/-- Does it make memory, and nothing else? -/
def makes (P : Program) : Op → Bool
  | .alloc _ | .box .. | .buildSlice .. | .makeSlice .. => true
  | .makeMap _ none => true
  | .convert _ d _ => (match P.underlying d with | some (.slice _) => true | _ => false)
  | _ => false
/-- Does it act? -/
def acts : Op → Bool
  | .call { callee := .builtin .len, .. } | .call { callee := .builtin .min, .. } | .call { callee := .builtin .max, .. } => false
  | .call _ | .store .. | .mapUpdate .. => true
  | _ => false

/-- What a new block holds, and its pointer: for an operation that makes memory. -/
def aNew (P : Program) (L : Type) (op : Op) (F : Fr) (b : Nat) : Option (Value × AObj L) :=
  match aOp P op F { next := 0, get := fun _ => none } b 1 with
  | some (v, σ) => (σ.get b).map fun o => (v, o)
  | none => none

/-- A step of an order told from outside: an operation; a block is made, and not yet seen; it is seen. -/
inductive PItem where
  | op (i : Nat)
  | mk (i : Nat)
  | reveal (i : Nat)

/-- Behind an act: what has only looked sees the same. -/
def aSame (P : Program) (ops : Array Oper) (base : Nat) (waits : Nat → Nat → Bool) (i : Nat) (done : List Nat) (F : Fr) (σ σ' : AMem L) : Prop :=
  ∀ j ∈ done, waits i j = false → ∀ oj, ops[j]? = some oj → looks P oj.op = true → aWanted ops oj F = some true →
    ∃ v, aOp P oj.op F σ (base + j) σ.next = some (v, σ) ∧ aOp P oj.op F σ' (base + j) σ'.next = some (v, σ')

def setPend {L : Type} (pend : Nat → Option (AObj L)) (i : Nat) (o : AObj L) : Nat → Option (AObj L) := fun x => if x = i then some o else pend x

/-- A region whose order is drawn: in an order of ours; what only looks is looked at again behind each act that need not wait for it. -/
def aPl (P : Program) (call : Spec L) (ops : Array Oper) (base : Nat) (waits : Nat → Nat → Bool) : List PItem → List Nat → (Nat → Option (AObj L)) → Fr → AMem L → (Fr → AMem L → Prop) → Prop
  | [], _, _, F, σ, K => K F σ
  | .op i :: rest, done, pend, F, σ, K =>
    match ops[i]? with
    | none => False
    | some o => aStep P call ops o F σ (base + i) σ.next fun F' σ' =>
        (acts o.op = true → aSame P ops base waits i done F σ σ') ∧ aPl P call ops base waits rest (done ++ [i]) pend F' σ' K
  | .mk i :: rest, done, pend, F, σ, K =>
    match ops[i]? with
    | none => False
    | some o => match aWanted ops o F with
      | none => False
      | some false => aPl P call ops base waits rest done pend (Fr.put F o.dst skipped) σ K
      | some true => match aNew P L o.op F (base + i) with
        | some (v, ob) => aPl P call ops base waits rest done (setPend pend i ob) (Fr.put F o.dst v) σ K
        | none => False
  | .reveal i :: rest, done, pend, F, σ, K =>
    match pend i with
    | some ob => aPl P call ops base waits rest done pend F (σ.put (base + i) σ.next ob) K
    | none => aPl P call ops base waits rest done pend F σ K

/-- The same, what is to be looked at again told from outside. -/
def aPlan (P : Program) (call : Spec L) (ops : Array Oper) (base : Nat) : List (PItem × List Nat) → (Nat → Option (AObj L)) → Fr → AMem L → (Fr → AMem L → Prop) → Prop
  | [], _, F, σ, K => K F σ
  | (.op i, ls) :: rest, pend, F, σ, K =>
    match ops[i]? with
    | none => False
    | some o => aStep P call ops o F σ (base + i) σ.next fun F' σ' =>
        (∀ j ∈ ls, ∀ oj, ops[j]? = some oj → aWanted ops oj F = some true →
          ∃ v, aOp P oj.op F σ (base + j) σ.next = some (v, σ) ∧ aOp P oj.op F σ' (base + j) σ'.next = some (v, σ')) ∧
        aPlan P call ops base rest pend F' σ' K
  | (.mk i, _) :: rest, pend, F, σ, K =>
    match ops[i]? with
    | none => False
    | some o => match aWanted ops o F with
      | none => False
      | some false => aPlan P call ops base rest pend (Fr.put F o.dst skipped) σ K
      | some true => match aNew P L o.op F (base + i) with
        | some (v, ob) => aPlan P call ops base rest (setPend pend i ob) (Fr.put F o.dst v) σ K
        | none => False
  | (.reveal i, _) :: rest, pend, F, σ, K =>
    match pend i with
    | some ob => aPlan P call ops base rest pend F (σ.put (base + i) σ.next ob) K
    | none => aPlan P call ops base rest pend F σ K

def Fr.keep (F : Fr) (ks : List Nat) : Fr := fun i => if i ∈ ks then F i else undef

def exThen (next : Fr → AMem L → Prop) (Q : Exit → Fr → AMem L → Prop) : Exit → Fr → AMem L → Prop
  | .normal, F, σ => next F σ
  | e, F, σ => Q e F σ
def exBlock (id : Nat) (Q : Exit → Fr → AMem L → Prop) : Exit → Fr → AMem L → Prop
  | .exit id', F, σ => if id' = id then Q .normal F σ else Q (.exit id') F σ
  | e, F, σ => Q e F σ

def exScope (Q : Exit → Fr → AMem L → Prop) : Exit → Fr → AMem L → Prop
  | .goto _, _, _ => False
  | e, F, σ => Q e F σ

/-- Rounds: what holds at each round's head, and a number that falls; what of the frame is forgotten there. -/
def aLoop (body : (Exit → Fr → AMem L → Prop) → Fr → AMem L → Prop) (Q : Exit → Fr → AMem L → Prop) (F : Fr) (σ : AMem L) : Prop :=
  ∃ (kp : Fr → Fr) (I : Nat → Fr → AMem L → Prop), (∀ F i, kp F i = F i ∨ kp F i = undef) ∧ (∃ n, I n (kp F) σ) ∧ ∀ n F σ, I n F σ → body (exThen (fun F' σ' => ∃ m, m < n ∧ I m (kp F') σ') Q) F σ

/-- The orders of the regions that draw, told from outside. -/
abbrev Plans := Nat → List (PItem × List Nat)

def waitsOf (ops : Array Oper) (i j : Nat) : Bool := ((Region.before ops).getD i 0).testBit j

def aCode (P : Program) (call : Spec L) (plans : Plans) : Code → (Exit → Fr → AMem L → Prop) → Fr → AMem L → Prop
  | .skip, Q, F, σ | .label _, Q, F, σ => Q .normal F σ
  | .region id ops draw, Q, F, σ =>
    if draw then aPlan P call ops σ.next (plans id) (fun _ => none) F (σ.skipTo (σ.next + ops.size)) (Q .normal)
    else aOps P call ops ops.toList F σ (Q .normal)
  | .seq a b, Q, F, σ => aCode P call plans a (exThen (aCode P call plans b Q) Q) F σ
  | .cond c a b, Q, F, σ => match aEval F c with
    | .bool t => if t then aCode P call plans a Q F σ else aCode P call plans b Q F σ
    | _ => False
  | .block id c, Q, F, σ => aCode P call plans c (exBlock id Q) F σ
  | .loop c, Q, F, σ => aLoop (aCode P call plans c) Q F σ
  | .exit id, Q, F, σ => Q (.exit id) F σ
  | .scope c, Q, F, σ => aCode P call plans c (exScope Q) F σ
  | .ret, Q, F, σ => Q .ret F σ
  | _, _, _, _ => False

end Go.Ax
