/- The evaluator of code over abstract memory; what it says holds of the model. -/
import Derived.Test.YtmnffigepjgnhaaGreatDoorAxB
import Derived.Scope
import Derived.ChangeMaps4
set_option linter.unusedVariables false
set_option linter.unusedSimpArgs false
namespace Go.Ax
open Go
variable {L : Type}

def Kappa.add (κ : Kappa) (c : Nat) (o : Obj) : Kappa := ⟨fun x => if x = c then some o else κ x, κ.env⟩
def Kappa.del (κ : Kappa) (c : Nat) : Kappa := ⟨fun x => if x = c then none else κ x, κ.env⟩

/-- A relation between abstract memory and World under which the operations run. -/
structure Rel (P : Program) (L : Type) where
  R : Kappa → Rho → AMem L → World → Prop
  opens : ∀ {κ : Kappa} {ρ : Rho} {σ : AMem L} {w : World}, R κ ρ σ w → ∃ κ', (∀ c o, κ c = some o → κ' c = some o) ∧ MRel P κ' ρ σ w ∧
    ∀ (ρ' : Rho) (σ' : AMem L) (w' : World), ρ.le ρ' → MRel P κ' ρ' σ' w' → SameLogic σ σ' → σ.next ≤ σ'.next → R κ ρ' σ' w'
  hides : ∀ {κ : Kappa} {ρ : Rho} {σ : AMem L} {w : World} {b : Nat} {o : AObj L}, R κ ρ σ w → σ.get b = some o → o.isLogic = false → o.isRo = false →
    ∃ l ob, ρ b = some l ∧ w.heap[l.blk]? = some ob ∧ κ l.blk = none ∧ R (κ.add l.blk ob) ρ (σ.kill b) w
  shows : ∀ {κ : Kappa} {ρ : Rho} {σ : AMem L} {w : World} {b nx : Nat} {l : Loc} {ob : Obj} {o : AObj L}, R κ ρ σ w → κ l.blk = some ob → ρ b = some l → σ.get b = none → b < nx → σ.next ≤ nx → o.isLogic = false → ORel P ρ w l o →
    R (κ.del l.blk) ρ (σ.put b nx o) w
  iters : ∀ {κ : Kappa} {ρ : Rho} {σ : AMem L} {w : World} (o : Obj), R κ ρ σ w → R (κ.add w.heap.size o) (ρ.add σ.next ⟨w.heap.size, 0, 1, 1⟩) (σ.skipTo (σ.next + 1)) (w.alloc o)
  turns : ∀ {κ : Kappa} {ρ : Rho} {σ : AMem L} {w : World} {c : Nat} {o : Obj} (o' : Obj), R κ ρ σ w → κ c = some o → R (κ.add c o') ρ σ (ChangeMaps.setBlock w c o')
  drops : ∀ {κ : Kappa} {ρ : Rho} {σ : AMem L} {w : World} {c : Nat} {o : Obj}, R (κ.add c o) ρ σ w → κ c = none → R κ ρ σ w

/-- What a call does, as the abstract side says it. -/
abbrev Spec (L : Type) := FuncId → List Value → AMem L → (Value → AMem L → Prop) → Prop

/-- A call's end: a value; the worlds fit. -/
def CallEnd {P : Program} (rel : Rel P L) (κ : Kappa) (ρ : Rho) (σ : AMem L) (K : Value → AMem L → Prop) (e : Ending) (w' : World) : Prop :=
  ∃ v v' ρ' σ', e = .returned v' ∧ K v σ' ∧ ρ.le ρ' ∧ (∀ x, x < σ.next → ρ' x = ρ x) ∧ (∀ x, x < σ.next → σ.get x = none → σ'.get x = none) ∧ σ.next ≤ σ'.next ∧ VRel ρ' v v' ∧ rel.R κ ρ' σ' w'

/-- A call ends so: of a Go function; of one that the model answers at once. -/
def Enters (P : Program) (f : FuncId) (args : Array Value) (w : World) (R : Ending → World → Prop) : Prop :=
  (Calls P f args w R ∧ ∃ fn, P.funcs[f]? = some fn ∧ fn.body.isSome = true ∧ (fn.name == "runtime.NumGoroutine") = false) ∨
  ∃ v w', (callFunc f args).run P w = .ok (.value v) w' ∧ R (.returned v) w'

theorem Enters.mono {P : Program} {f : FuncId} {args : Array Value} {w : World} {R R' : Ending → World → Prop} (h : Enters P f args w R) (hr : ∀ e w', R e w' → R' e w') : Enters P f args w R' := by
  rcases h with ⟨h, hf⟩ | ⟨v, w', h1, h2⟩
  · exact .inl ⟨h.mono hr, hf⟩
  · exact .inr ⟨v, w', h1, hr _ _ h2⟩

def Sim {P : Program} (rel : Rel P L) (call : Spec L) : Prop :=
  ∀ f args σ K, call f args σ K → ∀ (κ : Kappa) (ρ : Rho) (w : World) (args' : Array Value), LRel ρ args args'.toList → rel.R κ ρ σ w →
    Enters P f args' w (CallEnd rel κ ρ σ K)

def skipped : Value := .chan none

/-- Is the operation carried out? -/
def aWanted (ops : Array Oper) (o : Oper) (F : Fr) : Option Bool :=
  match o.guard with
  | none => some true
  | some (j, want) => match (ops[j]?).bind (·.dst) with
    | none => some false
    | some t => match F t with
      | .bool b => some (b == want)
      | .chan none => some false
      | _ => none

/-- One operation. 'b', 'nx': where a new block would lie. -/
def aStep (P : Program) (call : Spec L) (ops : Array Oper) (o : Oper) (F : Fr) (σ : AMem L) (b nx : Nat) (K : Fr → AMem L → Prop) : Prop :=
  match aWanted ops o F with
  | none => False
  | some false => K (Fr.put F o.dst skipped) σ
  | some true =>
    match o.op with
    | .call { callee := .value f, args, .. } =>
      match aEval F f with
      | .func (.func g) first captured => call g (first.toList ++ args.toList.map (aEval F) ++ captured.toList) σ fun v σ' => K (Fr.put F o.dst v) σ'
      | _ => False
    | op => match aOp P op F σ b nx with
      | some (v, σ') => K (Fr.put F o.dst v) σ'
      | none => False

def aOps (P : Program) (call : Spec L) (ops : Array Oper) : List Oper → Fr → AMem L → (Fr → AMem L → Prop) → Prop
  | [], F, σ, K => K F σ
  | o :: rest, F, σ, K => aStep P call ops o F σ σ.next (σ.next + 1) fun F' σ' => aOps P call ops rest F' σ' K

/-- Is the operation one that only looks at memory, whose value another operation could turn? -/
def looks (P : Program) : Op → Bool
  | .load .. | .lookup .. | .slice .. => true
  | .convert s _ _ => (match P.underlying s with | some (.slice _) => true | _ => false)
  | .call { callee := .builtin .len, argTypes, .. } => (match (argTypes[0]?).bind P.underlying with | some (.map _ _) => true | _ => false)
  | _ => false
/-- Does it make memory, and nothing else? -/
def makes (P : Program) : Op → Bool
  | .alloc _ | .box .. | .buildSlice .. | .makeSlice .. => true
  | .makeMap _ none => true
  | .convert _ d _ => (match P.underlying d with | some (.slice _) => true | _ => false)
  | _ => false
/-- Does it act? -/
def acts : Op → Bool
  | .call { callee := .builtin .len, .. } | .call { callee := .builtin .min, .. } | .call { callee := .builtin .max, .. } => false
  | .call _ | .store .. | .mapUpdate .. => true
  | _ => false

/-- What a new block holds, and its pointer: for an operation that makes memory. -/
def aNew (P : Program) (L : Type) (op : Op) (F : Fr) (b : Nat) : Option (Value × AObj L) :=
  match aOp P op F { next := 0, get := fun _ => none } b 1 with
  | some (v, σ) => (σ.get b).map fun o => (v, o)
  | none => none

/-- A step of an order told from outside: an operation; a block is made, and not yet seen; it is seen. -/
inductive PItem where
  | op (i : Nat)
  | mk (i : Nat)
  | reveal (i : Nat)

/-- Behind an act: what has only looked sees the same. -/
def aSame (P : Program) (ops : Array Oper) (base : Nat) (waits : Nat → Nat → Bool) (i : Nat) (done : List Nat) (F : Fr) (σ σ' : AMem L) : Prop :=
  ∀ j ∈ done, waits i j = false → ∀ oj, ops[j]? = some oj → looks P oj.op = true → aWanted ops oj F = some true →
    ∃ v, aOp P oj.op F σ (base + j) σ.next = some (v, σ) ∧ aOp P oj.op F σ' (base + j) σ'.next = some (v, σ')

def setPend {L : Type} (pend : Nat → Option (AObj L)) (i : Nat) (o : AObj L) : Nat → Option (AObj L) := fun x => if x = i then some o else pend x

/-- A region whose order is drawn: in an order of ours; what only looks is looked at again behind each act that need not wait for it. -/
def aPl (P : Program) (call : Spec L) (ops : Array Oper) (base : Nat) (waits : Nat → Nat → Bool) : List PItem → List Nat → (Nat → Option (AObj L)) → Fr → AMem L → (Fr → AMem L → Prop) → Prop
  | [], _, _, F, σ, K => K F σ
  | .op i :: rest, done, pend, F, σ, K =>
    match ops[i]? with
    | none => False
    | some o => aStep P call ops o F σ (base + i) σ.next fun F' σ' =>
        (acts o.op = true → aSame P ops base waits i done F σ σ') ∧ aPl P call ops base waits rest (done ++ [i]) pend F' σ' K
  | .mk i :: rest, done, pend, F, σ, K =>
    match ops[i]? with
    | none => False
    | some o => match aWanted ops o F with
      | none => False
      | some false => aPl P call ops base waits rest done pend (Fr.put F o.dst skipped) σ K
      | some true => match aNew P L o.op F (base + i) with
        | some (v, ob) => aPl P call ops base waits rest done (setPend pend i ob) (Fr.put F o.dst v) σ K
        | none => False
  | .reveal i :: rest, done, pend, F, σ, K =>
    match pend i with
    | some ob => aPl P call ops base waits rest done pend F (σ.put (base + i) σ.next ob) K
    | none => aPl P call ops base waits rest done pend F σ K

/-- The same, what is to be looked at again told from outside. -/
def aPlan (P : Program) (call : Spec L) (ops : Array Oper) (base : Nat) : List (PItem × List Nat) → (Nat → Option (AObj L)) → Fr → AMem L → (Fr → AMem L → Prop) → Prop
  | [], _, F, σ, K => K F σ
  | (.op i, ls) :: rest, pend, F, σ, K =>
    match ops[i]? with
    | none => False
    | some o => aStep P call ops o F σ (base + i) σ.next fun F' σ' =>
        (∀ j ∈ ls, ∀ oj, ops[j]? = some oj → aWanted ops oj F = some true →
          ∃ v, aOp P oj.op F σ (base + j) σ.next = some (v, σ) ∧ aOp P oj.op F σ' (base + j) σ'.next = some (v, σ')) ∧
        aPlan P call ops base rest pend F' σ' K
  | (.mk i, _) :: rest, pend, F, σ, K =>
    match ops[i]? with
    | none => False
    | some o => match aWanted ops o F with
      | none => False
      | some false => aPlan P call ops base rest pend (Fr.put F o.dst skipped) σ K
      | some true => match aNew P L o.op F (base + i) with
        | some (v, ob) => aPlan P call ops base rest (setPend pend i ob) (Fr.put F o.dst v) σ K
        | none => False
  | (.reveal i, _) :: rest, pend, F, σ, K =>
    match pend i with
    | some ob => aPlan P call ops base rest pend F (σ.put (base + i) σ.next ob) K
    | none => aPlan P call ops base rest pend F σ K

def Fr.keep (F : Fr) (ks : List Nat) : Fr := fun i => if i ∈ ks then F i else undef

def exThen (next : Fr → AMem L → Prop) (Q : Exit → Fr → AMem L → Prop) : Exit → Fr → AMem L → Prop
  | .normal, F, σ => next F σ
  | e, F, σ => Q e F σ
def exBlock (id : Nat) (Q : Exit → Fr → AMem L → Prop) : Exit → Fr → AMem L → Prop
  | .exit id', F, σ => if id' = id then Q .normal F σ else Q (.exit id') F σ
  | e, F, σ => Q e F σ

def exScope (Q : Exit → Fr → AMem L → Prop) : Exit → Fr → AMem L → Prop
  | .goto _, _, _ => False
  | e, F, σ => Q e F σ

/-- Rounds: what holds at each round's head, and a number that falls; what of the frame is forgotten there. -/
def aLoop (body : (Exit → Fr → AMem L → Prop) → Fr → AMem L → Prop) (Q : Exit → Fr → AMem L → Prop) (F : Fr) (σ : AMem L) : Prop :=
  ∃ (kp : Fr → Fr) (I : Nat → Fr → AMem L → Prop), (∀ F i, kp F i = F i ∨ kp F i = undef) ∧ (∃ n, I n (kp F) σ) ∧ ∀ n F σ, I n F σ → body (exThen (fun F' σ' => ∃ m, m < n ∧ I m (kp F') σ') Q) F σ

/-- The orders of the regions that draw, told from outside. -/
abbrev Plans := Nat → List (PItem × List Nat)

def waitsOf (ops : Array Oper) (i j : Nat) : Bool := ((Region.before ops).getD i 0).testBit j

def aCode (P : Program) (call : Spec L) (plans : Plans) : Code → (Exit → Fr → AMem L → Prop) → Fr → AMem L → Prop
  | .skip, Q, F, σ | .label _, Q, F, σ => Q .normal F σ
  | .region id ops draw, Q, F, σ =>
    if draw then aPlan P call ops σ.next (plans id) (fun _ => none) F (σ.skipTo (σ.next + ops.size)) (Q .normal)
    else aOps P call ops ops.toList F σ (Q .normal)
  | .seq a b, Q, F, σ => aCode P call plans a (exThen (aCode P call plans b Q) Q) F σ
  | .cond c a b, Q, F, σ => match aEval F c with
    | .bool t => if t then aCode P call plans a Q F σ else aCode P call plans b Q F σ
    | _ => False
  | .block id c, Q, F, σ => aCode P call plans c (exBlock id Q) F σ
  | .loop c, Q, F, σ => aLoop (aCode P call plans c) Q F σ
  | .exit id, Q, F, σ => Q (.exit id) F σ
  | .scope c, Q, F, σ => aCode P call plans c (exScope Q) F σ
  | .ret, Q, F, σ => Q .ret F σ
  | _, _, _, _ => False

end Go.Ax

/- The plain relation is one under which the operations run. -/
namespace Go.Ax
open Go
variable {L : Type} {P : Program} {κ : Kappa} {ρ : Rho} {σ : AMem L} {w : World}

theorem ORel.block {l : Loc} {o : AObj L} (h : ORel P ρ w l o) (hl : o.isLogic = false) : ∃ ob, w.heap[l.blk]? = some ob := by
  cases o with
  | cells vs e ro => obtain ⟨arr, fr, hh, _⟩ := h; exact ⟨_, hh⟩
  | map es => obtain ⟨ces, clock, hh, _⟩ := h; exact ⟨_, hh⟩
  | logic x => cases hl

theorem MRel.hide {b : Nat} {o : AObj L} (h : MRel P κ ρ σ w) (hb : σ.get b = some o) (hl : o.isLogic = false) (hro : o.isRo = false) :
    ∃ l ob, ρ b = some l ∧ w.heap[l.blk]? = some ob ∧ κ l.blk = none ∧ MRel P (κ.add l.blk ob) ρ (σ.kill b) w := by
  obtain ⟨l, hr, hor⟩ := h.live b o hb hl
  obtain ⟨ob, hob⟩ := hor.block hl
  refine ⟨l, ob, hr, hob, ?_, ?_⟩
  · cases hk : κ l.blk with
    | none => rfl
    | some o' => exact absurd rfl (h.apart _ _ b o l hk hb hl hr)
  · have hk := h.kill b
    exact {
      live := hk.live, inj := hk.inj, fresh := hk.fresh, old := hk.old
      kept := fun c oc hc => by
        simp only [Kappa.add] at hc
        split at hc
        · rename_i e; subst e; cases hc; exact hob
        · exact h.kept c oc hc
      apart := fun c oc x o1 l1 hc hx hxl hlx => by
        simp only [Kappa.add] at hc
        split at hc
        · rename_i e; subst e
          rw [AMem.get_kill] at hx
          split at hx
          · cases hx
          · rename_i hxb; exact h.inj x b o1 o l1 l hx hb hxb hxl hl (by simp [hro]) hlx hr
        · exact hk.apart c oc x o1 l1 hc hx hxl hlx
      env := hk.env }

theorem MRel.shown {b nx : Nat} {l : Loc} {ob : Obj} {o : AObj L} (h : MRel P κ ρ σ w) (hk : κ l.blk = some ob) (hr : ρ b = some l) (hb : σ.get b = none) (hn : b < nx) (hnx : σ.next ≤ nx) (_hl : o.isLogic = false) (hor : ORel P ρ w l o) :
    MRel P (κ.del l.blk) ρ (σ.put b nx o) w where
  live x o1 hx hxl := by
    rw [AMem.get_put] at hx
    split at hx
    · rename_i e; subst e; cases hx; exact ⟨l, hr, hor⟩
    · exact h.live x o1 hx hxl
  inj x y o1 o2 l1 l2 h1 h2 hne k1 k2 hro r1 r2 := by
    rw [AMem.get_put] at h1 h2
    by_cases hx : x = b
    · subst hx
      rw [if_neg (fun e => hne e.symm)] at h2
      rw [hr] at r1; cases r1
      exact fun e => h.apart _ _ y o2 l2 hk h2 k2 r2 e.symm
    · by_cases hy : y = b
      · subst hy
        rw [if_neg hx] at h1
        rw [hr] at r2; cases r2
        exact h.apart _ _ x o1 l1 hk h1 k1 r1
      · rw [if_neg hx] at h1; rw [if_neg hy] at h2
        exact h.inj x y o1 o2 l1 l2 h1 h2 hne k1 k2 hro r1 r2
  fresh x hx := by
    simp only [AMem.next_put] at hx
    rw [AMem.get_put, if_neg (by omega)]
    exact h.fresh x (by omega)
  old := h.old
  kept c oc hc := by
    simp only [Kappa.del] at hc
    split at hc
    · cases hc
    · exact h.kept c oc hc
  apart c oc x o1 l1 hc hx hxl hlx := by
    simp only [Kappa.del] at hc
    split at hc
    · cases hc
    · rename_i hcl
      rw [AMem.get_put] at hx
      split at hx
      · rename_i e; subst e; rw [hr] at hlx; cases hlx; exact fun e => hcl e.symm
      · exact h.apart c oc x o1 l1 hc hx hxl hlx
  env := h.env

theorem MRel.iter (h : MRel P κ ρ σ w) (o : Obj) : MRel P (κ.add w.heap.size o) (ρ.add σ.next ⟨w.heap.size, 0, 1, 1⟩) (σ.skipTo (σ.next + 1)) (w.alloc o) := by
  have hfr := (h.fresh σ.next (Nat.le_refl _)).2
  have hsz : (w.alloc o).heap.size = w.heap.size + 1 := by show (w.heap.push o).size = _; simp
  have hold : ∀ c, c < w.heap.size → (w.alloc o).heap[c]? = w.heap[c]? := fun c hc => by
    show (w.heap.push o)[c]? = _
    rw [Array.getElem?_push_lt hc, Array.getElem?_eq_getElem hc]
  have hne : ∀ {b : Nat} {x : AObj L}, σ.get b = some x → b ≠ σ.next := fun {b x} hb e => by
    have := (h.fresh σ.next (Nat.le_refl _)).1
    rw [e, this] at hb; cases hb
  refine { live := fun b x hb hl => ?_, inj := fun b c x y l l' hb hc hbc hx hy hro hl hl' => ?_, fresh := fun b hb => ?_, old := fun b l hl => ?_, kept := fun c x hc => ?_, apart := fun c x b y l hc hb hl hlb => ?_, env := h.env }
  · obtain ⟨l, hr, hor⟩ := h.live b x hb hl
    exact ⟨l, by rw [ρ.add_ne _ (hne hb)]; exact hr, (hor.mono (Rho.le_add _ hfr)).of_block (hold _ (h.old b l hr))⟩
  · rw [ρ.add_ne _ (hne hb)] at hl
    rw [ρ.add_ne _ (hne hc)] at hl'
    exact h.inj b c x y l l' hb hc hbc hx hy hro hl hl'
  · have hb' : σ.next + 1 ≤ b := hb
    exact ⟨(h.fresh b (by omega)).1, by rw [ρ.add_ne _ (by omega)]; exact (h.fresh b (by omega)).2⟩
  · rw [hsz]
    by_cases e : b = σ.next
    · subst e; rw [ρ.add_at] at hl; cases hl; exact Nat.lt_succ_self _
    · rw [ρ.add_ne _ e] at hl; exact Nat.lt_succ_of_lt (h.old b l hl)
  · simp only [Kappa.add] at hc
    split at hc
    · rename_i e; subst e; cases hc
      show (w.heap.push o)[w.heap.size]? = _
      simp
    · have hk := h.kept c x hc
      have hlt : c < w.heap.size := (Array.getElem?_eq_some_iff.1 hk).1
      rw [hold c hlt]; exact hk
  · rw [ρ.add_ne _ (hne hb)] at hlb
    simp only [Kappa.add] at hc
    split at hc
    · rename_i e; subst e; exact Nat.ne_of_lt (h.old b l hlb)
    · exact h.apart c x b y l hc hb hl hlb

theorem MRel.turn {c : Nat} {o : Obj} (o' : Obj) (h : MRel P κ ρ σ w) (hc : κ c = some o) : MRel P (κ.add c o') ρ σ (ChangeMaps.setBlock w c o') := by
  have hrest : ∀ x, x ≠ c → (ChangeMaps.setBlock w c o').heap[x]? = w.heap[x]? := fun x hx => by
    show (w.heap.setIfInBounds c o')[x]? = _
    rw [Array.getElem?_setIfInBounds_ne (fun e => hx e.symm)]
  have hlt : c < w.heap.size := (Array.getElem?_eq_some_iff.1 (h.kept c o hc)).1
  refine { live := fun b x hb hl => ?_, inj := h.inj, fresh := h.fresh, old := fun b l hl => ?_, kept := fun x ob hx => ?_, apart := fun x ob b y l hx hb hl hlb => ?_, env := h.env }
  · obtain ⟨l, hr, hor⟩ := h.live b x hb hl
    exact ⟨l, hr, hor.of_block (hrest _ (h.apart c o b x l hc hb hl hr))⟩
  · show l.blk < (w.heap.setIfInBounds c o').size
    rw [Array.size_setIfInBounds]; exact h.old b l hl
  · simp only [Kappa.add] at hx
    split at hx
    · rename_i e; subst e; cases hx
      show (w.heap.setIfInBounds x o')[x]? = _
      rw [Array.getElem?_setIfInBounds_self_of_lt hlt]
    · rename_i e; rw [hrest x e]; exact h.kept x ob hx
  · simp only [Kappa.add] at hx
    split at hx
    · rename_i e; subst e; exact h.apart x o b y l hc hb hl hlb
    · exact h.apart x ob b y l hx hb hl hlb

theorem MRel.drop {c : Nat} {o : Obj} (h : MRel P (κ.add c o) ρ σ w) (hc : κ c = none) : MRel P κ ρ σ w := by
  have hk : ∀ x ob, κ x = some ob → (κ.add c o) x = some ob := fun x ob hx => by
    simp only [Kappa.add]
    rw [if_neg (fun e => by rw [e, hc] at hx; cases hx)]; exact hx
  exact { live := h.live, inj := h.inj, fresh := h.fresh, old := h.old, kept := fun x ob hx => h.kept x ob (hk x ob hx), apart := fun x ob b y l hx hb hl hlb => h.apart x ob b y l (hk x ob hx) hb hl hlb, env := h.env }

/-- The plain relation. -/
def physRel (P : Program) (L : Type) : Rel P L where
  R := MRel P
  opens h := ⟨_, fun _ _ h => h, h, fun _ _ _ _ h _ _ => h⟩
  hides h hb hl hro := h.hide hb hl hro
  shows h hk hr hb hn hnx hl hor := h.shown hk hr hb hn hnx hl hor
  iters o h := h.iter o
  turns o h hc := h.turn o hc
  drops h hc := h.drop hc

end Go.Ax

/- What the evaluator says holds of the model: one operation, a region in the order of its text. -/
namespace Go.Ax
open Go
variable {L : Type} {P : Program} {rel : Rel P L} {call : Spec L} {κ : Kappa} {ρ : Rho} {σ : AMem L} {w : World}

theorem getD_some {a : Array Value} {t : Nat} {v : Value} (h : a.getD t undef = v) (hv : v ≠ undef) : a[t]? = some v := by
  rw [Array.getD_eq_getD_getElem?] at h
  cases hx : a[t]? with
  | none => rw [hx] at h; exact absurd h.symm hv
  | some y => rw [hx] at h; simp at h; rw [h]

theorem wanted_sound {ops : Array Oper} {o : Oper} {F : Fr} {a : Act} {t : Bool} (h : aWanted ops o F = some t) (hF : FRel ρ F a) : Region.wanted o (yielded ops a.tmps) = t := by
  unfold aWanted at h
  unfold Region.wanted
  split at h
  · rename_i hg; rw [hg]; simpa using h
  · rename_i j want hg
    rw [hg]
    simp only
    split at h
    · rename_i hd
      simp only [Option.some.injEq] at h; subst h
      simp [yielded, hd]
    · rename_i s hd
      split at h
      · rename_i b hb
        simp only [Option.some.injEq] at h; subst h
        have hv := hF s
        rw [hb] at hv
        have := getD_some hv.bool_inv (by simp [undef])
        simp [yielded, hd, this]
      · rename_i hb
        simp only [Option.some.injEq] at h; subst h
        have hv := hF s
        rw [hb] at hv
        have hu : a.tmps.getD s undef = undef := by generalize a.tmps.getD s undef = y at hv; cases hv; rfl
        have : ((some s).bind (a.tmps[·]?)) = none ∨ ((some s).bind (a.tmps[·]?)) = some undef := by
          simp only [Option.bind_some]
          rw [Array.getD_eq_getD_getElem?] at hu
          cases hx : a.tmps[s]? with
          | none => exact .inl rfl
          | some y => rw [hx] at hu; simp at hu; exact .inr (by rw [hu])
        rcases this with h | h <;> simp [yielded, hd, h, undef]
      · cases h

theorem FRel.put {F : Fr} {a : Act} {v v' : Value} {d : Option Nat} (h : FRel ρ F a) (hv : VRel ρ v v') (hd : ∀ x, d = some x → x < a.tmps.size) : FRel ρ (Fr.put F d v) (a.put d v') := by
  cases d with
  | none => exact h
  | some d =>
    intro i
    have hlt := hd d rfl
    simp only [Fr.put, Fr.set, Act.put]
    rw [Array.getD_eq_getD_getElem?, Array.getElem?_setIfInBounds]
    by_cases hi : i = d
    · subst hi
      rw [if_pos rfl, if_pos rfl, if_pos hlt]; exact hv
    · rw [if_neg hi, if_neg (fun e => hi e.symm)]
      have := h i
      rwa [Array.getD_eq_getD_getElem?] at this

theorem Act.put_size (a : Act) (d : Option Nat) (v : Value) : (a.put d v).tmps.size = a.tmps.size := by cases d <;> simp [Act.put]

def okCall (op : Op) : Bool :=
  match op with
  | .call { callee := .value f, args, .. } => okOperand f && args.toList.all okOperand
  | op => okOp op
/-- May the evaluator take the operation: its constants are plain, it writes into the frame. -/
def okOper (n : Nat) (o : Oper) : Bool := okCall o.op && (match o.dst with | some d => decide (d < n) | none => true)

theorem okOper_dst {n : Nat} {o : Oper} (h : okOper n o = true) : ∀ x, o.dst = some x → x < n := by
  intro x hx
  simp only [okOper, hx, Bool.and_eq_true, decide_eq_true_eq] at h
  exact h.2

theorem step_sound (hsim : Sim rel call) {ops : Array Oper} {o : Oper} {F : Fr} {b nx : Nat} {K : Fr → AMem L → Prop} {a : Act} {next : Act → World → Prop} {Q : Exit → Act → World → Prop}
    (h : aStep P call ops o F σ b nx K) (hok : okOper a.tmps.size o = true) (hF : FRel ρ F a) (hR : rel.R κ ρ σ w) (hb : Free ρ σ b nx)
    (hnext : ∀ F' σ' ρ' a' w', K F' σ' → ρ.le ρ' → (∀ x, x < σ.next → x ≠ b → ρ' x = ρ x) → (∀ x, x < σ.next → x ≠ b → σ.get x = none → σ'.get x = none) → σ.next ≤ σ'.next → FRel ρ' F' a' → a'.tmps.size = a.tmps.size → a'.defers = a.defers → rel.R κ ρ' σ' w' → next a' w') :
    if Region.wanted o (yielded ops a.tmps) then o.wp P a w next Q else next (a.put o.dst undef) w := by
  have hdst := okOper_dst hok
  unfold aStep at h
  split at h
  · exact h.elim
  · rename_i hw
    rw [wanted_sound hw hF]
    simp only [Bool.false_eq_true, if_false]
    exact hnext _ _ ρ _ _ h ρ.le_refl (fun _ _ _ => rfl) (fun _ _ _ h => h) (Nat.le_refl _) (hF.put .skip hdst) (Act.put_size ..) (by cases o.dst <;> rfl) hR
  · rename_i hw
    rw [wanted_sound hw hF]
    simp only [if_true]
    split at h
    · rename_i f args argTypes hop
      have hok' : okOperand f = true ∧ args.toList.all okOperand = true := by
        simp only [okOper, okCall, hop, Bool.and_eq_true] at hok; exact hok.1
      split at h
      · rename_i g first captured hf
        have hfv := eval_rel hF hok'.1
        rw [hf] at hfv
        obtain ⟨first', captured', hf', hr1, hr2⟩ := hfv.func_inv
        have hr3 := map_rel hF _ hok'.2
        have hargs : LRel ρ (first.toList ++ args.toList.map (aEval F) ++ captured.toList) (first' ++ args.map a.eval ++ captured').toList := by
          simp only [Array.toList_append, Array.toList_map]
          exact (hr1.append hr3).append hr2
        have hbase : (execOp a.eval o).run P w = (callFunc g (first' ++ args.map a.eval ++ captured')).run P w := by
          simp only [execOp, hop, resolve, hf', Deferred.ofValue, Sem.run_bind, Sem.run_pure, Result.andThen_ok, invoke]
        have hdone : ∀ (v'' : Value) (w' : World), CallEnd rel κ ρ σ (fun v σ' => K (Fr.put F o.dst v) σ') (.returned v'') w' → next (a.put o.dst v'') w' := by
          intro v'' w' he
          obtain ⟨v, v', ρ', σ', e, hK, hle, hsame, hnone, hnx, hv, hR'⟩ := he
          cases e
          exact hnext _ _ ρ' _ _ hK hle (fun x hx _ => hsame x hx) (fun x hx _ => hnone x hx) hnx ((hF.mono hle).put hv hdst) (Act.put_size ..) (by cases o.dst <;> rfl) hR'
        unfold Oper.wp
        rw [hbase]
        rcases hsim _ _ _ _ h κ ρ w _ hargs hR with ⟨hcalls, fn, hfn, hbody, hname⟩ | ⟨v, w', hrun, he⟩
        · have hexec : (callFunc g (first' ++ args.map a.eval ++ captured')).run P w = .ok (.enter g (first' ++ args.map a.eval ++ captured')) w := by
            have hne : ¬ fn.name = "runtime.NumGoroutine" := by simpa using hname
            have hnone : ¬ fn.body = none := by intro hb; rw [hb] at hbody; cases hbody
            simp [callFunc, run_program, hfn, hne, hnone]
          rw [hexec, Oper.upon_enter]
          refine hcalls.mono fun e w' he => ?_
          have he2 := he
          obtain ⟨v, v', ρ', σ', rfl, _⟩ := he2
          exact hdone _ _ he
        · rw [hrun, Oper.upon_value]
          exact hdone _ _ he
      · exact h.elim
    · rename_i hnc
      have hok' : okOp o.op = true := by
        simp only [okOper, Bool.and_eq_true] at hok
        have := hok.1
        unfold okCall at this
        split at this
        · rename_i f args at' hop; exact absurd hop (hnc _ _ _)
        · exact this
      split at h
      · rename_i v σ' hop
        obtain ⟨κ', _, hm, hclose⟩ := rel.opens hR
        obtain ⟨x, v', w', ρ', h1, h2, h3, h4, h5, h6⟩ := aOp_sound (o := o) (a := a) hop hok' hF hm hb
        have hturn := aOp_turn hop
        have hnx : σ.next ≤ σ'.next := by rcases hturn.next with e | e <;> rw [e]; · exact Nat.le_refl _
                                          · exact hb.le
        have hR' := hclose ρ' σ' w' h3 h6 (hturn.logic hb.get) hnx
        unfold Oper.wp
        rw [h1]
        have hgoal := hnext _ _ ρ' (a.put o.dst v') w' h h3 (fun x _ hx => h4 x hx) (fun x _ hx hg => hturn.get hg hx) hnx ((hF.mono h3).put h5 hdst) (Act.put_size ..) (by cases o.dst <;> rfl) hR'
        rcases h2 with rfl | ⟨rfl, rfl⟩
        · exact hgoal
        · exact hgoal
      · exact h.elim

/-- Free at the end. -/
theorem Rel.free (hR : rel.R κ ρ σ w) : Free ρ σ σ.next (σ.next + 1) := by
  obtain ⟨κ', _, hm, _⟩ := rel.opens hR
  exact Free.next hm

/-- What holds at the end of a piece of code. -/
def Ends (rel : Rel P L) (κ : Kappa) (ρ0 : Rho) (σ0 : AMem L) (a0 : Act) (Q : Exit → Fr → AMem L → Prop) : Exit → Act → World → Prop := fun e a w =>
  ∃ F σ ρ, Q e F σ ∧ ρ0.le ρ ∧ (∀ x, x < σ0.next → ρ x = ρ0 x) ∧ (∀ x, x < σ0.next → σ0.get x = none → σ.get x = none) ∧ σ0.next ≤ σ.next ∧ FRel ρ F a ∧ a.tmps.size = a0.tmps.size ∧ a.defers = a0.defers ∧ rel.R κ ρ σ w

theorem ops_sound (hsim : Sim rel call) {ops : Array Oper} {Q : Exit → Fr → AMem L → Prop} {ρ0 : Rho} {σ0 : AMem L} {a0 : Act} : ∀ (l : List Oper) (k : Nat), (∀ j, l[j]? = ops[k + j]?) → l.length + k = ops.size → (∀ o ∈ l, okOper a0.tmps.size o = true) →
    ∀ (F : Fr) (σ : AMem L) (ρ : Rho) (a : Act) (w : World), aOps P call ops l F σ (Q .normal) → ρ0.le ρ → (∀ x, x < σ0.next → ρ x = ρ0 x) → (∀ x, x < σ0.next → σ0.get x = none → σ.get x = none) → σ0.next ≤ σ.next → FRel ρ F a → a.tmps.size = a0.tmps.size → a.defers = a0.defers → rel.R κ ρ σ w →
      wpOps P ops (Ends rel κ ρ0 σ0 a0 Q) (List.range' k l.length) a w
  | [], k, _, _, _, F, σ, ρ, a, w, h, h1, h2, h8, h3, h4, h5, h6, h7 => ⟨F, σ, ρ, h, h1, h2, h8, h3, h4, h5, h6, h7⟩
  | o :: l, k, hl, hlen, hok, F, σ, ρ, a, w, h, h1, h2, h8, h3, h4, h5, h6, h7 => by
    have hk : ops[k]? = some o := by have := hl 0; simpa using this.symm
    simp only [List.length_cons, List.range'_succ, wpOps, hk]
    have := step_sound (a := a) (next := wpOps P ops (Ends rel κ ρ0 σ0 a0 Q) (List.range' (k + 1) l.length)) (Q := Ends rel κ ρ0 σ0 a0 Q) hsim (by exact h) (by rw [h5]; exact hok o (.head _)) h4 h7 (Rel.free h7)
      (fun F' σ' ρ' a' w' hK hle hsame hnone hnx hF' hsz hdf hR' => by
        refine ops_sound hsim l (k + 1) (fun j => ?_) (by simp at hlen; omega) (fun o ho => hok o (.tail _ ho)) F' σ' ρ' a' w' hK (Rho.le_trans h1 hle) (fun x hx => ?_) (fun x hx hg => hnone x (by omega) (by omega) (h8 x hx hg)) (by omega) hF' (by rw [hsz, h5]) (by rw [hdf, h6]) hR'
        · have := hl (j + 1); simp only [List.getElem?_cons_succ] at this; rw [this]; congr 1; omega
        · rw [hsame x (by omega) (by omega)]; exact h2 x hx)
    split
    · rename_i hw; rw [hw] at this; exact .inl this
    · rename_i hw
      simp only [Bool.not_eq_true] at hw
      rw [hw] at this; exact this

end Go.Ax

/- What the evaluator says of code holds of the model, the regions that draw their order taken as given. -/
namespace Go.Ax
open Go
variable {L : Type} {P : Program} {rel : Rel P L} {call : Spec L} {κ : Kappa} {ρ : Rho} {σ : AMem L} {w : World}

theorem wp_loop_idx {c : Code} {Q : Exit → Act → World → Prop} {a : Act} {w : World} (J : Nat → Act → World → Prop) (h₀ : ∃ n, J n a w)
    (round : ∀ n a w, J n a w → c.wp P (Exit.then (fun a' w' => ∃ m, m < n ∧ J m a' w') Q) a w) : (Code.loop c).wp P Q a w := by
  intro b k cs
  have key : ∀ n a w, J n a w → ∃ e a' w', Q e a' w' ∧ Arrives P (lone (b.at a (.code c :: .inLoop c :: k)) cs w) b k cs e a' w' := by
    intro n
    induction n using Nat.strongRecOn with
    | _ n ih =>
      intro a w hI
      obtain ⟨e, a₁, w₁, hq, harr⟩ := round n a w hI b (.inLoop c :: k) cs
      cases e with
      | normal =>
        obtain ⟨m, hlt, hI₁⟩ := hq
        obtain ⟨e₂, a₂, w₂, hq₂, harr₂⟩ := ih m hlt a₁ w₁ hI₁
        exact ⟨e₂, a₂, w₂, hq₂, .of_steps (Steps.trans harr (.one step_inLoop)) harr₂⟩
      | exit id => exact ⟨_, a₁, w₁, hq, .pass (x := .inLoop c) rfl (fun _ _ => .inl (by simp)) harr⟩
      | goto l => exact ⟨_, a₁, w₁, hq, .pass (x := .inLoop c) rfl (fun _ _ => .inl (by simp)) harr⟩
      | ret => exact ⟨_, a₁, w₁, hq, .pass (x := .inLoop c) rfl (fun _ _ => .inl (by simp)) harr⟩
      | panic ch => exact ⟨_, a₁, w₁, hq, .pass (x := .inLoop c) rfl (fun _ _ => .inl (by simp)) harr⟩
      | outgrown => exact ⟨_, a₁, w₁, hq, .pass (x := .inLoop c) rfl (fun _ _ => .inl (by simp)) harr⟩
  obtain ⟨n, hn⟩ := h₀
  obtain ⟨e, a', w', hq, harr⟩ := key n a w hn
  exact ⟨e, a', w', hq, .of_steps (.one step_loop) harr⟩

/-- What is asked of the orders that are told from outside. -/
abbrev PlanOk := Array Oper → List (PItem × List Nat) → Bool

def codeOk (ok : PlanOk) (plans : Plans) (n : Nat) : Code → Bool
  | .skip | .label _ | .exit _ | .ret => true
  | .region id ops draw => ops.toList.all (okOper n) && (!draw || ok ops (plans id))
  | .seq a b => codeOk ok plans n a && codeOk ok plans n b
  | .cond c a b => okOperand c && codeOk ok plans n a && codeOk ok plans n b
  | .block _ c | .loop c | .scope c => codeOk ok plans n c
  | _ => false

/-- Regions that draw: the orders do not matter. -/
def DrawSound {P : Program} (rel : Rel P L) (call : Spec L) (ok : PlanOk) : Prop :=
  ∀ (id : Nat) (ops : Array Oper) (plan : List (PItem × List Nat)) (Q : Exit → Fr → AMem L → Prop) (κ : Kappa) (ρ : Rho) (F : Fr) (σ : AMem L) (a : Act) (w : World),
    ok ops plan = true → (∀ o ∈ ops.toList, okOper a.tmps.size o = true) → aPlan P call ops σ.next plan (fun _ => none) F (σ.skipTo (σ.next + ops.size)) (Q .normal) → FRel ρ F a → rel.R κ ρ σ w →
      (Code.region id ops true).wp P (Ends rel κ ρ σ a Q) a w

theorem Ends.mono {Q Q' : Exit → Fr → AMem L → Prop} {ρ0 ρ1 : Rho} {σ0 σ1 : AMem L} {a0 a1 : Act} (h1 : ρ0.le ρ1) (h2 : ∀ x, x < σ0.next → ρ1 x = ρ0 x) (h6 : ∀ x, x < σ0.next → σ0.get x = none → σ1.get x = none) (h3 : σ0.next ≤ σ1.next) (h4 : a1.tmps.size = a0.tmps.size) (h5 : a1.defers = a0.defers)
    {e : Exit} {a : Act} {w : World} (h : Ends rel κ ρ1 σ1 a1 Q e a w) (hq : ∀ F σ, Q e F σ → Q' e F σ) : Ends rel κ ρ0 σ0 a0 Q' e a w := by
  obtain ⟨F, σ, ρ, k1, k2, k3, k9, k4, k5, k6, k7, k8⟩ := h
  exact ⟨F, σ, ρ, hq _ _ k1, Rho.le_trans h1 k2, fun x hx => by rw [k3 x (by omega)]; exact h2 x hx, fun x hx hg => k9 x (by omega) (h6 x hx hg), by omega, k5, k6.trans h4, k7.trans h5, k8⟩

theorem code_sound (hsim : Sim rel call) {ok : PlanOk} (hdraw : DrawSound rel call ok) {plans : Plans} : ∀ (c : Code) (Q : Exit → Fr → AMem L → Prop) (κ : Kappa) (ρ : Rho) (F : Fr) (σ : AMem L) (a : Act) (w : World),
    codeOk ok plans a.tmps.size c = true → aCode P call plans c Q F σ → FRel ρ F a → rel.R κ ρ σ w → c.wp P (Ends rel κ ρ σ a Q) a w := by
  intro c
  induction c with
  | skip => intro Q κ ρ F σ a w _ h hF hR; exact wp_skip ⟨F, σ, ρ, h, ρ.le_refl, fun _ _ => rfl, fun _ _ h => h, Nat.le_refl _, hF, rfl, rfl, hR⟩
  | label l => intro Q κ ρ F σ a w _ h hF hR; exact wp_label ⟨F, σ, ρ, h, ρ.le_refl, fun _ _ => rfl, fun _ _ h => h, Nat.le_refl _, hF, rfl, rfl, hR⟩
  | exit id => intro Q κ ρ F σ a w _ h hF hR; exact wp_exit ⟨F, σ, ρ, h, ρ.le_refl, fun _ _ => rfl, fun _ _ h => h, Nat.le_refl _, hF, rfl, rfl, hR⟩
  | ret => intro Q κ ρ F σ a w _ h hF hR; exact wp_ret ⟨F, σ, ρ, h, ρ.le_refl, fun _ _ => rfl, fun _ _ h => h, Nat.le_refl _, hF, rfl, rfl, hR⟩
  | region id ops draw =>
    intro Q κ ρ F σ a w hok h hF hR
    simp only [codeOk, Bool.and_eq_true, List.all_eq_true] at hok
    unfold aCode at h
    cases draw with
    | true =>
      simp only [if_true] at h
      simp only [Bool.not_true, Bool.false_or] at hok
      exact hdraw id ops (plans id) Q κ ρ F σ a w hok.2 hok.1 h hF hR
    | false =>
      simp only [Bool.false_eq_true, if_false] at h
      refine wp_region ?_
      have := ops_sound (κ := κ) (Q := Q) (ρ0 := ρ) (σ0 := σ) (a0 := a) hsim ops.toList 0 (fun j => by simp) (by simp) hok.1 F σ ρ a w h ρ.le_refl (fun _ _ => rfl) (fun _ _ h => h) (Nat.le_refl _) hF rfl rfl hR
      rw [List.range_eq_range']
      simpa using this
  | seq x y ihx ihy =>
    intro Q κ ρ F σ a w hok h hF hR
    simp only [codeOk, Bool.and_eq_true] at hok
    unfold aCode at h
    refine wp_seq (wp_mono (ihx _ κ ρ F σ a w hok.1 h hF hR) fun e a' w' he => ?_)
    cases e with
    | normal =>
      obtain ⟨F', σ', ρ', k1, k2, k3, k9, k4, k5, k6, k7, k8⟩ := he
      have := ihy Q κ ρ' F' σ' a' w' (by rw [k6]; exact hok.2) k1 k5 k8
      exact wp_mono this fun e a'' w'' he => he.mono k2 k3 k9 k4 k6 k7 fun _ _ h => h
    | exit id => exact he.mono ρ.le_refl (fun _ _ => rfl) (fun _ _ h => h) (Nat.le_refl _) rfl rfl fun _ _ h => h
    | goto l => exact he.mono ρ.le_refl (fun _ _ => rfl) (fun _ _ h => h) (Nat.le_refl _) rfl rfl fun _ _ h => h
    | ret => exact he.mono ρ.le_refl (fun _ _ => rfl) (fun _ _ h => h) (Nat.le_refl _) rfl rfl fun _ _ h => h
    | panic ch => exact he.mono ρ.le_refl (fun _ _ => rfl) (fun _ _ h => h) (Nat.le_refl _) rfl rfl fun _ _ h => h
    | outgrown => exact he.mono ρ.le_refl (fun _ _ => rfl) (fun _ _ h => h) (Nat.le_refl _) rfl rfl fun _ _ h => h
  | cond c x y ihx ihy =>
    intro Q κ ρ F σ a w hok h hF hR
    simp only [codeOk, Bool.and_eq_true] at hok
    unfold aCode at h
    split at h
    · rename_i t hc
      have hv := eval_rel hF hok.1.1
      rw [hc] at hv
      refine wp_cond (t := t) hv.bool_inv ?_
      cases t with
      | true => exact ihx Q κ ρ F σ a w hok.1.2 h hF hR
      | false => exact ihy Q κ ρ F σ a w hok.2 h hF hR
    · exact h.elim
  | block id c ih =>
    intro Q κ ρ F σ a w hok h hF hR
    simp only [codeOk] at hok
    unfold aCode at h
    refine wp_block (wp_mono (ih _ κ ρ F σ a w hok h hF hR) fun e a' w' he => ?_)
    cases e with
    | exit id' =>
      simp only [Exit.inBlock]
      split
      · rename_i hid; subst hid
        obtain ⟨F', σ', ρ', k1, k2⟩ := he
        simp only [exBlock, if_true] at k1
        exact ⟨F', σ', ρ', k1, k2⟩
      · rename_i hid
        obtain ⟨F', σ', ρ', k1, k2⟩ := he
        simp only [exBlock, hid, if_false] at k1
        exact ⟨F', σ', ρ', k1, k2⟩
    | normal => exact he.mono ρ.le_refl (fun _ _ => rfl) (fun _ _ h => h) (Nat.le_refl _) rfl rfl fun _ _ h => h
    | goto l => exact he.mono ρ.le_refl (fun _ _ => rfl) (fun _ _ h => h) (Nat.le_refl _) rfl rfl fun _ _ h => h
    | ret => exact he.mono ρ.le_refl (fun _ _ => rfl) (fun _ _ h => h) (Nat.le_refl _) rfl rfl fun _ _ h => h
    | panic ch => exact he.mono ρ.le_refl (fun _ _ => rfl) (fun _ _ h => h) (Nat.le_refl _) rfl rfl fun _ _ h => h
    | outgrown => exact he.mono ρ.le_refl (fun _ _ => rfl) (fun _ _ h => h) (Nat.le_refl _) rfl rfl fun _ _ h => h
  | loop c ih =>
    intro Q κ ρ F σ a w hok h hF hR
    simp only [codeOk] at hok
    unfold aCode at h
    obtain ⟨kp, I, hkp, ⟨n, h0⟩, hround⟩ := h
    have hkeep : ∀ {ρ : Rho} {F : Fr} {a : Act}, FRel ρ F a → FRel ρ (kp F) a := by
      intro ρ F a hF i
      rcases hkp F i with h | h
      · rw [h]; exact hF i
      · rw [h]; exact .any _
    refine wp_loop_idx (fun n a' w' => ∃ F' σ' ρ', I n F' σ' ∧ ρ.le ρ' ∧ (∀ x, x < σ.next → ρ' x = ρ x) ∧ (∀ x, x < σ.next → σ.get x = none → σ'.get x = none) ∧ σ.next ≤ σ'.next ∧ FRel ρ' F' a' ∧ a'.tmps.size = a.tmps.size ∧ a'.defers = a.defers ∧ rel.R κ ρ' σ' w')
      ⟨n, kp F, σ, ρ, h0, ρ.le_refl, fun _ _ => rfl, fun _ _ h => h, Nat.le_refl _, hkeep hF, rfl, rfl, hR⟩ ?_
    rintro n a' w' ⟨F', σ', ρ', k1, k2, k3, k9, k4, k5, k6, k7, k8⟩
    refine wp_mono (ih _ κ ρ' F' σ' a' w' (by rw [k6]; exact hok) (hround n F' σ' k1) k5 k8) fun e a'' w'' he => ?_
    have he' := fun (Q' : Exit → Fr → AMem L → Prop) (hq : ∀ F σ, exThen (fun F' σ' => ∃ m, m < n ∧ I m (kp F') σ') Q e F σ → Q' e F σ) => he.mono (Q' := Q') k2 k3 k9 k4 k6 k7 hq
    cases e with
    | normal =>
      obtain ⟨F2, σ2, ρ2, ⟨m, hm, hI⟩, j2, j3, j9, j4, j5, j6, j7, j8⟩ := he
      exact ⟨m, hm, kp F2, σ2, ρ2, hI, Rho.le_trans k2 j2, fun x hx => by rw [j3 x (by omega)]; exact k3 x hx, fun x hx hg => j9 x (by omega) (k9 x hx hg), by omega, hkeep j5, j6.trans k6, j7.trans k7, j8⟩
    | exit id => exact he' Q fun _ _ h => h
    | goto l => exact he' Q fun _ _ h => h
    | ret => exact he' Q fun _ _ h => h
    | panic ch => exact he' Q fun _ _ h => h
    | outgrown => exact he' Q fun _ _ h => h
  | scope c ih =>
    intro Q κ ρ F σ a w hok h hF hR
    simp only [codeOk] at hok
    unfold aCode at h
    refine wp_scope_straight (wp_mono (ih _ κ ρ F σ a w hok h hF hR) fun e a' w' he => ?_)
    cases e with
    | goto l => obtain ⟨F', σ', ρ', k1, _⟩ := he; exact k1.elim
    | normal => exact he.mono ρ.le_refl (fun _ _ => rfl) (fun _ _ h => h) (Nat.le_refl _) rfl rfl fun _ _ h => h
    | exit id => exact he.mono ρ.le_refl (fun _ _ => rfl) (fun _ _ h => h) (Nat.le_refl _) rfl rfl fun _ _ h => h
    | ret => exact he.mono ρ.le_refl (fun _ _ => rfl) (fun _ _ h => h) (Nat.le_refl _) rfl rfl fun _ _ h => h
    | panic ch => exact he.mono ρ.le_refl (fun _ _ => rfl) (fun _ _ h => h) (Nat.le_refl _) rfl rfl fun _ _ h => h
    | outgrown => exact he.mono ρ.le_refl (fun _ _ => rfl) (fun _ _ h => h) (Nat.le_refl _) rfl rfl fun _ _ h => h
  | rangeFunc f ps x y _ _ => intro Q κ ρ F σ a w hok; simp [codeOk] at hok
  | goto l => intro Q κ ρ F σ a w hok; simp [codeOk] at hok
  | refuse s => intro Q κ ρ F σ a w hok; simp [codeOk] at hok

end Go.Ax

/- Of what an operation's answer does not hang. -/
namespace Go.Ax
open Go
variable {L : Type} {P : Program}

theorem aEval_congr {F F' : Fr} {op : Op} (h : ∀ t, Operand.tmp t ∈ op.operands → F t = F' t) {x : Operand} (hx : x ∈ op.operands) : aEval F x = aEval F' x := by
  cases x with
  | tmp t => exact h t hx
  | _ => rfl

theorem aOp_congr {op : Op} {F F' : Fr} (h : ∀ t, Operand.tmp t ∈ op.operands → F t = F' t) (σ : AMem L) (b nx : Nat) : aOp P op F σ b nx = aOp P op F' σ b nx := by
  have e : ∀ x, x ∈ op.operands → aEval F x = aEval F' x := fun x hx => aEval_congr h hx
  cases op with
  | move x => simp only [aOp, e x (by simp [Op.operands])]
  | assign x => simp only [aOp, e x (by simp [Op.operands])]
  | pick c x y => simp only [aOp, e c (by simp [Op.operands]), e x (by simp [Op.operands]), e y (by simp [Op.operands])]
  | alloc t => rfl
  | box t x => simp only [aOp, e x (by simp [Op.operands])]
  | build t parts =>
    have : (parts.toList.map fun (i, x) => (i, aEval F x)) = parts.toList.map fun (i, x) => (i, aEval F' x) := by
      apply List.map_congr_left
      rintro ⟨i, x⟩ hx
      simp only
      rw [e x (by simp [Op.operands]; exact ⟨i, by simpa using hx⟩)]
    simp only [aOp, this]
  | buildSlice t len parts =>
    have : (parts.toList.map fun (i, x) => (i, aEval F x)) = parts.toList.map fun (i, x) => (i, aEval F' x) := by
      apply List.map_congr_left
      rintro ⟨i, x⟩ hx
      simp only
      rw [e x (by simp [Op.operands]; exact ⟨i, by simpa using hx⟩)]
    simp only [aOp, this]
  | load t x => simp only [aOp, e x (by simp [Op.operands])]
  | store t x y => simp only [aOp, e x (by simp [Op.operands]), e y (by simp [Op.operands])]
  | nilCheck x => simp only [aOp, e x (by simp [Op.operands])]
  | binOp o t x y u => simp only [aOp, aBinO, e x (by simp [Op.operands]), e y (by simp [Op.operands])]
  | unOp o t x => simp only [aOp, e x (by simp [Op.operands])]
  | convert s d x => simp only [aOp, e x (by simp [Op.operands])]
  | makeFunc fn xs us =>
    have h1 : xs.map (aEval F) = xs.map (aEval F') := by
      apply Array.map_congr_left; intro x hx; exact e x (by simp [Op.operands]; exact .inl hx)
    have h2 : us.map (aEval F) = us.map (aEval F') := by
      apply Array.map_congr_left; intro x hx; exact e x (by simp [Op.operands]; exact .inr hx)
    simp only [aOp, h1, h2]
  | makeMap t r => cases r <;> rfl
  | makeSlice t x y => simp only [aOp, e x (by simp [Op.operands]), e y (by simp [Op.operands])]
  | slice t x lo hi mx =>
    have h1 : lo.map (aEval F) = lo.map (aEval F') := by cases lo with
      | none => rfl
      | some y => simp only [Option.map_some]; rw [e y (by simp [Op.operands])]
    have h2 : hi.map (aEval F) = hi.map (aEval F') := by cases hi with
      | none => rfl
      | some y => simp only [Option.map_some]; rw [e y (by simp [Op.operands])]
    cases mx <;> simp only [aOp, e x (by simp [Op.operands]), h1, h2]
  | fieldAddr t x f => simp only [aOp, e x (by simp [Op.operands])]
  | field t x f => simp only [aOp, e x (by simp [Op.operands])]
  | indexAddr t x i => simp only [aOp, e x (by simp [Op.operands]), e i (by simp [Op.operands])]
  | index t x i => simp only [aOp, e x (by simp [Op.operands]), e i (by simp [Op.operands])]
  | lookup t m k ok => simp only [aOp, e m (by simp [Op.operands]), e k (by simp [Op.operands])]
  | mapUpdate t m k v => simp only [aOp, e m (by simp [Op.operands]), e k (by simp [Op.operands]), e v (by simp [Op.operands])]
  | extract x i => simp only [aOp, e x (by simp [Op.operands])]
  | call c =>
    obtain ⟨callee, args, argTypes⟩ := c
    cases callee with
    | builtin bi =>
      have : args.toList.map (aEval F) = args.toList.map (aEval F') := List.map_congr_left fun x hx => e x (by simp [Op.operands, Call.operands]; simpa using hx)
      simp only [aOp, this]
    | _ => rfl
  | _ => rfl

/-- Only computes. -/
def pureOp (P : Program) (op : Op) : Bool := !looks P op && !makes P op && !acts op

theorem valued_eq {σ σ' : AMem L} {v : Value} {x : Option Value} (h : valued σ x = some (v, σ')) (σ2 : AMem L) : σ' = σ ∧ valued σ2 x = some (v, σ2) := by
  obtain ⟨h1, h2⟩ := valued_some h
  exact ⟨h2, by rw [h1]; rfl⟩

theorem pure_indep {op : Op} {F : Fr} {σ σ' : AMem L} {b nx : Nat} {v : Value} (hp : pureOp P op = true) (h : aOp P op F σ b nx = some (v, σ')) :
    σ' = σ ∧ ∀ (σ2 : AMem L) (b2 nx2 : Nat), aOp P op F σ2 b2 nx2 = some (v, σ2) := by
  simp only [pureOp, Bool.and_eq_true, Bool.not_eq_true'] at hp
  obtain ⟨⟨hl, hmk⟩, ha⟩ := hp
  have key : ∀ x : Option Value, (∀ (σ2 : AMem L) (b2 nx2 : Nat), aOp P op F σ2 b2 nx2 = valued σ2 x) → σ' = σ ∧ ∀ (σ2 : AMem L) (b2 nx2 : Nat), aOp P op F σ2 b2 nx2 = some (v, σ2) := by
    intro x hx
    rw [hx] at h
    refine ⟨(valued_eq h σ).1, fun σ2 b2 nx2 => ?_⟩
    rw [hx]; exact (valued_eq h σ2).2
  cases op with
  | move x => exact key (some (aEval F x)) fun _ _ _ => rfl
  | assign x => exact key (some (aEval F x)) fun _ _ _ => rfl
  | pick c x y =>
    refine key (match aEval F c with | .bool t => some (if t then aEval F x else aEval F y) | _ => none) fun _ _ _ => ?_
    simp only [aOp]; cases aEval F c <;> rfl
  | build t parts => exact key _ fun _ _ _ => rfl
  | nilCheck x =>
    refine key (match aEval F x with | .pointer (some a) => some (.pointer (some a)) | .func (.func f) xs us => some (.func (.func f) xs us) | _ => none) fun _ _ _ => ?_
    simp only [aOp]
    split <;> simp_all [valued]
  | binOp o t x y u => exact key _ fun _ _ _ => rfl
  | unOp o t x => exact key _ fun _ _ _ => rfl
  | convert s d x =>
    simp only [aOp] at h ⊢
    simp only [looks] at hl
    simp only [makes] at hmk
    unfold aConv at h
    split at h
    · rename_i h1 h2 h3
      simp only [Option.some.injEq, Prod.mk.injEq] at h; obtain ⟨rfl, rfl⟩ := h
      exact ⟨rfl, fun _ _ _ => by simp [aConv, h1, h2, h3]⟩
    · rename_i h1 h2 h3
      simp only [Option.some.injEq, Prod.mk.injEq] at h; obtain ⟨rfl, rfl⟩ := h
      exact ⟨rfl, fun _ _ _ => by simp [aConv, h1, h2, h3]⟩
    · rename_i h1 h2 h3; rw [h2] at hmk; cases hmk
    · rename_i h1 h2 h3; rw [h1] at hl; cases hl
    · cases h
  | makeFunc fn xs us => exact key (some _) fun _ _ _ => rfl
  | fieldAddr t x f => exact key _ fun _ _ _ => rfl
  | field t x f => exact key _ fun _ _ _ => rfl
  | indexAddr t x i => exact key _ fun _ _ _ => rfl
  | index t x i => exact key _ fun _ _ _ => rfl
  | extract x i =>
    refine key (match aEval F x with | .tuple vs => vs[i]? | _ => none) fun _ _ _ => ?_
    simp only [aOp]; cases aEval F x <;> rfl
  | call c =>
    obtain ⟨callee, args, argTypes⟩ := c
    cases callee with
    | builtin bi =>
      have h' : aBuiltin P bi argTypes.toList (args.toList.map (aEval F)) σ b nx = some (v, σ') := h
      have goal : σ' = σ ∧ ∀ (σ2 : AMem L) (b2 nx2 : Nat), aBuiltin P bi argTypes.toList (args.toList.map (aEval F)) σ2 b2 nx2 = some (v, σ2) := by
        unfold aBuiltin at h' ⊢
        split at h'
        · rename_i x t h1 h2
          obtain ⟨h3, rfl⟩ := valued_some h'
          have hnm : ∀ k e, P.underlying t ≠ some (.map k e) := by
            intro k e hu
            have ht : argTypes[0]? = some t := by rw [← Array.getElem?_toList, h2]; rfl
            simp [looks, ht, hu] at hl
          refine ⟨rfl, fun σ2 _ _ => ?_⟩
          have : aLen P t x σ2 = some v := by
            unfold aLen at h3 ⊢
            split at h3
            · exact h3
            · exact h3
            · rename_i k e hu; exact absurd hu (hnm _ _)
            · rename_i k e r hu; exact absurd hu (hnm _ _)
            · cases h3
          simp only [this]; rfl
        · simp [acts] at ha
        · simp [acts] at ha
        · simp [acts] at ha
        · rename_i x y h1
          exact ⟨(valued_eq h' σ).1, fun σ2 _ _ => (valued_eq h' σ2).2⟩
        · rename_i x y h1
          exact ⟨(valued_eq h' σ).1, fun σ2 _ _ => (valued_eq h' σ2).2⟩
        · simp [acts] at ha
        · cases h'
      exact goal
    | _ => simp [acts] at ha
  | alloc => simp [makes] at hmk
  | box => simp [makes] at hmk
  | buildSlice => simp [makes] at hmk
  | makeSlice => simp [makes] at hmk
  | makeMap t r => cases r with
    | none => simp [makes] at hmk
    | some r => simp [aOp] at h
  | load => simp [looks] at hl
  | lookup => simp [looks] at hl
  | slice => simp [looks] at hl
  | store => simp [acts] at ha
  | mapUpdate => simp [acts] at ha
  | _ => simp [aOp] at h


def Le (σ σ2 : AMem L) : Prop := ∀ b o, σ.get b = some o → σ2.get b = some o

theorem Le.put {σ : AMem L} {c nx : Nat} {o : AObj L} (hc : σ.get c = none) : Le σ (σ.put c nx o) := by
  intro b ob hb
  rw [AMem.get_put, if_neg (by intro e; subst e; rw [hc] at hb; cases hb)]; exact hb

theorem aLoad_le {σ σ2 : AMem L} (hle : Le σ σ2) {t b off : Nat} {v : Value} (h : aLoad P t b off σ = some v) : aLoad P t b off σ2 = some v := by
  unfold aLoad at h ⊢
  split at h
  · rename_i h1 h2 h3; rw [hle _ _ h1, h2, h3]; exact h
  · rename_i h1 h2 h3; rw [hle _ _ h1, h2, h3]; exact h
  · cases h

theorem aSlice_le {σ σ2 : AMem L} (hle : Le σ σ2) {t : Nat} {x v : Value} {lo hi : Option Value} (h : aSlice P t x lo hi σ = some v) : aSlice P t x lo hi σ2 = some v := by
  unfold aSlice at h ⊢
  split at h
  · exact h
  · exact h
  · split at h
    · rename_i h1 _ _ _ _ _ h3 h4; simp only [h3, hle _ _ h4]; exact h
    · cases h
  · cases h

theorem sliceCells_le {σ σ2 : AMem L} (hle : Le σ σ2) {es : Nat} {x : Value} {l : List Value} (h : sliceCells σ es x = some l) : sliceCells σ2 es x = some l := by
  unfold sliceCells at h ⊢
  split at h
  · exact h
  · exact h
  · split at h
    · rename_i h1; simp only [hle _ _ h1]; exact h
    · cases h
  · cases h

theorem aLen_le {σ σ2 : AMem L} (hle : Le σ σ2) {t : Nat} {x v : Value} (h : aLen P t x σ = some v) : aLen P t x σ2 = some v := by
  unfold aLen at h ⊢
  split at h
  · exact h
  · exact h
  · exact h
  · split at h
    · rename_i h1; simp only [hle _ _ h1]; exact h
    · cases h
  · cases h

theorem aLookup_le {σ σ2 : AMem L} (hle : Le σ σ2) {t : Nat} {m k v : Value} {ok : Bool} (h : aLookup P t m k ok σ = some v) : aLookup P t m k ok σ2 = some v := by
  unfold aLookup at h ⊢
  split at h
  · rename_i h1
    split at h
    · rename_i h2 h3
      split at h
      · cases h
      · rename_i h4
        simp only [if_neg h4]
        split at h
        · exact h
        · split at h
          · rename_i h5; simp only [hle _ _ h5]; exact h
          · cases h
        · cases h
    · cases h
  · cases h

theorem looks_le {op : Op} {F : Fr} {σ σ' : AMem L} {b nx : Nat} {v : Value} (hp : looks P op = true) (hmk : makes P op = false) (h : aOp P op F σ b nx = some (v, σ')) :
    σ' = σ ∧ ∀ (σ2 : AMem L) (b2 nx2 : Nat), Le σ σ2 → aOp P op F σ2 b2 nx2 = some (v, σ2) := by
  cases op with
  | load t x =>
    simp only [aOp] at h ⊢
    generalize aEval F x = y at h ⊢
    split at h
    · obtain ⟨h1, rfl⟩ := valued_some h
      exact ⟨rfl, fun σ2 _ _ hle => by simp only [aLoad_le hle h1]; rfl⟩
    · cases h
  | lookup t m k ok =>
    simp only [aOp] at h ⊢
    obtain ⟨h1, rfl⟩ := valued_some h
    exact ⟨rfl, fun σ2 _ _ hle => by simp only [aLookup_le hle h1]; rfl⟩
  | slice t x lo hi mx =>
    cases mx with
    | some _ => simp [aOp] at h
    | none =>
      simp only [aOp] at h ⊢
      obtain ⟨h1, rfl⟩ := valued_some h
      exact ⟨rfl, fun σ2 _ _ hle => by simp only [aSlice_le hle h1]; rfl⟩
  | convert s d x =>
    simp only [aOp] at h ⊢
    simp only [looks] at hp
    unfold aConv at h
    split at h
    · rename_i h1 h2 h3
      simp only [Option.some.injEq, Prod.mk.injEq] at h; obtain ⟨rfl, rfl⟩ := h
      exact ⟨rfl, fun _ _ _ _ => by simp [aConv, h1, h2, h3]⟩
    · rename_i h1 h2 h3
      simp only [Option.some.injEq, Prod.mk.injEq] at h; obtain ⟨rfl, rfl⟩ := h
      exact ⟨rfl, fun _ _ _ _ => by simp [aConv, h1, h2, h3]⟩
    · rename_i h1 h2 h3
      simp only [makes] at hmk
      rw [h2] at hmk; cases hmk
    · rename_i e a n c h1 h2 h3
      split at h
      · rename_i l h4 h5
        simp only [Option.some.injEq, Prod.mk.injEq] at h; obtain ⟨rfl, rfl⟩ := h
        refine ⟨rfl, fun σ2 _ _ hle => ?_⟩
        obtain ⟨cs, h6, h7⟩ := Option.bind_eq_some_iff.1 h5
        simp [aConv, h1, h2, h3, h4, sliceCells_le hle h6, h7]
      · cases h
    · cases h
  | call c =>
    obtain ⟨callee, args, argTypes⟩ := c
    cases callee with
    | builtin bi =>
      cases bi <;> first | (simp [looks] at hp; done) | skip
      simp only [aOp] at h ⊢
      unfold aBuiltin at h ⊢
      split at h
      · rename_i h1 h2
        obtain ⟨h3, rfl⟩ := valued_some h
        exact ⟨rfl, fun σ2 _ _ hle => by simp only [aLen_le hle h3]; rfl⟩
      all_goals simp_all
    | _ => simp [looks] at hp
  | _ => simp [looks] at hp

theorem makes_indep {op : Op} {F : Fr} {b : Nat} {v : Value} {o : AObj L} (hp : makes P op = true) (hl : looks P op = false) (h : aNew P L op F b = some (v, o)) : o.isLogic = false ∧ o.isRo = false ∧ ∀ (σ : AMem L) (nx : Nat), aOp P op F σ b nx = some (v, σ.put b nx o) := by
  have key : ∀ (x : Option (Value × AObj L)), (∀ (σ : AMem L) (nx : Nat), aOp P op F σ b nx = x.map fun p => (p.1, σ.put b nx p.2)) → (∀ p, x = some p → p.2.isLogic = false ∧ p.2.isRo = false) →
      o.isLogic = false ∧ o.isRo = false ∧ ∀ (σ : AMem L) (nx : Nat), aOp P op F σ b nx = some (v, σ.put b nx o) := by
    intro x hx hq
    unfold aNew at h
    rw [hx] at h
    cases x with
    | none => simp at h
    | some p =>
      simp only [Option.map_some, AMem.get_put, if_true, Option.some.injEq, Prod.mk.injEq] at h
      obtain ⟨rfl, rfl⟩ := h
      exact ⟨(hq p rfl).1, (hq p rfl).2, fun σ nx => hx σ nx⟩
  cases op with
  | alloc e =>
    refine key (match zeroOf P e, szOf P e with | some z, some _ => if z.cells.all flat then some (.pointer (some ⟨b, 0, none⟩), .cells z.cells.toList e false) else none | _, _ => none) (fun σ nx => ?_) fun p hp => ?_
    · simp only [aOp]
      cases zeroOf P e <;> cases szOf P e <;> simp only [Option.map_none]
      split <;> rfl
    · split at hp
      · split at hp
        · cases hp; exact ⟨rfl, rfl⟩
        · cases hp
      · cases hp
  | box e x =>
    refine key (match cellsOf (aEval F x), szOf P e with | some cs, some _ => some (.pointer (some ⟨b, 0, none⟩), .cells cs e false) | _, _ => none) (fun σ nx => ?_) fun p hp => ?_
    · simp only [aOp]
      cases cellsOf (aEval F x) <;> cases szOf P e <;> rfl
    · split at hp
      · cases hp; exact ⟨rfl, rfl⟩
      · cases hp
  | buildSlice t len parts =>
    simp only [aNew, aOp] at h
    simp only [aOp]
    unfold aBuildSlice at h ⊢
    split at h
    · rename_i v' σ' h1
      split at h1
      · rename_i e he
        split at h1
        · rename_i es z hs hz
          split at h1
          · cases h1
          · rename_i hc
            simp only [if_neg hc]
            split at h1
            · rename_i cs hcs
              simp only [Option.some.injEq, Prod.mk.injEq] at h1
              obtain ⟨rfl, rfl⟩ := h1
              simp only [AMem.get_put, if_true, Option.map_some, Option.some.injEq, Prod.mk.injEq] at h
              obtain ⟨rfl, rfl⟩ := h
              exact ⟨rfl, rfl, fun _ _ => rfl⟩
            · cases h1
        · cases h1
      · cases h1
    · cases h
  | makeSlice t l c =>
    simp only [aNew, aOp] at h
    simp only [aOp]
    unfold aMakeSlice at h ⊢
    split at h
    · rename_i v' σ' h1
      split at h1
      · rename_i e k l' k' c' he hl' hc'
        split at h1
        · rename_i es z by_ hs hz hb
          split at h1
          · cases h1
          · rename_i hcc
            simp only [if_neg hcc]
            split at h1
            · rename_i hcs
              simp only [if_pos hcs]
              simp only [Option.some.injEq, Prod.mk.injEq] at h1
              obtain ⟨rfl, rfl⟩ := h1
              simp only [AMem.get_put, if_true, Option.map_some, Option.some.injEq, Prod.mk.injEq] at h
              obtain ⟨rfl, rfl⟩ := h
              exact ⟨rfl, rfl, fun _ _ => rfl⟩
            · cases h1
        · cases h1
      · cases h1
    · cases h
  | makeMap t r =>
    cases r with
    | some r => simp [makes] at hp
    | none => exact key (some (.map (some b), .map [])) (fun _ _ => rfl) fun p hp => by cases hp; exact ⟨rfl, rfl⟩
  | convert s d x =>
    simp only [makes] at hp
    simp only [looks] at hl
    simp only [aNew, aOp] at h
    simp only [aOp]
    split at h
    · rename_i v' σ' h1
      unfold aConv at h1
      split at h1
      · rename_i h2 h3 h4; rw [h3] at hp; cases hp
      · rename_i h2 h3 h4; rw [h3] at hp; cases hp
      · rename_i dd e str h2 h3 h4
        split at h1
        · rename_i h5 h6
          simp only [Option.some.injEq, Prod.mk.injEq] at h1
          obtain ⟨rfl, rfl⟩ := h1
          simp only [AMem.get_put, if_true, Option.map_some, Option.some.injEq, Prod.mk.injEq] at h
          obtain ⟨rfl, rfl⟩ := h
          exact ⟨rfl, rfl, fun σ nx => by simp [aConv, h2, h3, h4, h5, h6]⟩
        · cases h1
      · rename_i h2 h3 h4; rw [h3] at hp; cases hp
      · cases h1
    · cases h
  | _ => simp [makes] at hp

end Go.Ax
