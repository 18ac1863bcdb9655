/- Abstract memory, and when the model's World is as it says. -/
import Derived.Calls
import Derived.Orders
set_option linter.unusedVariables false
set_option linter.unusedSimpArgs false
namespace Go.Ax
open Go

/-- Where an abstract block lies: the model's block, the first cell, how many cells that block has, cells of an element. -/
structure Loc where
  blk : Nat
  off : Nat
  size : Nat
  es : Nat

abbrev Rho := Nat → Option Loc

def Rho.le (ρ ρ' : Rho) : Prop := ∀ b l, ρ b = some l → ρ' b = some l

theorem Rho.le_refl (ρ : Rho) : ρ.le ρ := fun _ _ h => h
theorem Rho.le_trans {a b c : Rho} (h : a.le b) (k : b.le c) : a.le c := fun x l hx => k x l (h x l hx)

/-- An abstract value and the model's. 'undef' is a value of which nothing is known. -/
inductive VRel (ρ : Rho) : Value → Value → Prop where
  | any (v : Value) : VRel ρ undef v
  | skip : VRel ρ (.chan none) undef
  | bool (b : Bool) : VRel ρ (.bool b) (.bool b)
  | int (k : IntKind) (n : Int) : VRel ρ (.int k n) (.int k n)
  | float (k : FloatKind) (n : Nat) : VRel ρ (.float k n) (.float k n)
  | string (s : ByteArray) : VRel ρ (.string s) (.string s)
  | nilp : VRel ρ (.pointer none) (.pointer none)
  | ptr {b off : Nat} {l : Loc} (h : ρ b = some l) : VRel ρ (.pointer (some ⟨b, off, none⟩)) (.pointer (some ⟨l.blk, l.off + off, none⟩))
  | nils : VRel ρ (.slice none 0 0) (.slice none 0 0)
  | slice {b off len cap : Nat} {l : Loc} (h : ρ b = some l) (hc : len ≤ cap) (hr : l.off + off + cap * l.es ≤ l.size) :
      VRel ρ (.slice (some ⟨b, off, none⟩) len len) (.slice (some ⟨l.blk, l.off + off, none⟩) len cap)
  | empty (a c : Addr) : VRel ρ (.slice (some a) 0 0) (.slice (some c) 0 0)
  | nilm : VRel ρ (.map none) (.map none)
  | map {b : Nat} {l : Loc} (h : ρ b = some l) : VRel ρ (.map (some b)) (.map (some l.blk))
  | func (fn : Fn) {xs ys us vs : Array Value} (h1 : xs.size = ys.size) (h2 : us.size = vs.size)
      (h3 : ∀ i, i < xs.size → VRel ρ (xs.getD i undef) (ys.getD i undef)) (h4 : ∀ i, i < us.size → VRel ρ (us.getD i undef) (vs.getD i undef)) :
      VRel ρ (.func fn xs us) (.func fn ys vs)
  | nilf : VRel ρ .nilFunc .nilFunc
  | iface (t : TypeId) {v v' : Value} (h : VRel ρ v v') : VRel ρ (.iface t v) (.iface t v')
  | nili : VRel ρ .nilIface .nilIface
  | agg {xs ys : Array Value} (h : xs.size = ys.size) (hx : ∀ i, i < xs.size → VRel ρ (xs.getD i undef) (ys.getD i undef)) : VRel ρ (.agg xs) (.agg ys)
  | tuple {xs ys : Array Value} (h : xs.size = ys.size) (hx : ∀ i, i < xs.size → VRel ρ (xs.getD i undef) (ys.getD i undef)) : VRel ρ (.tuple xs) (.tuple ys)

theorem VRel.mono {ρ ρ' : Rho} (h : ρ.le ρ') {v v' : Value} (hv : VRel ρ v v') : VRel ρ' v v' := by
  induction hv with
  | any v => exact .any v
  | skip => exact .skip
  | bool b => exact .bool b
  | int k n => exact .int k n
  | float k n => exact .float k n
  | string s => exact .string s
  | nilp => exact .nilp
  | ptr hb => exact .ptr (h _ _ hb)
  | nils => exact .nils
  | slice hb hc hr => exact .slice (h _ _ hb) hc hr
  | empty a c => exact .empty a c
  | nilm => exact .nilm
  | map hb => exact .map (h _ _ hb)
  | func fn h1 h2 _ _ i3 i4 => exact .func fn h1 h2 i3 i4
  | nilf => exact .nilf
  | iface t _ ih => exact .iface t ih
  | nili => exact .nili
  | agg h1 _ ih => exact .agg h1 ih
  | tuple h1 _ ih => exact .tuple h1 ih

/-- Lists of values, side by side. -/
def LRel (ρ : Rho) (xs ys : List Value) : Prop := xs.length = ys.length ∧ ∀ (i : Nat) (x y : Value), xs[i]? = some x → ys[i]? = some y → VRel ρ x y

theorem LRel.mono {ρ ρ' : Rho} (h : ρ.le ρ') {xs ys : List Value} (hv : LRel ρ xs ys) : LRel ρ' xs ys :=
  ⟨hv.1, fun i x y hx hy => (hv.2 i x y hx hy).mono h⟩

theorem LRel.nil (ρ : Rho) : LRel ρ [] [] := ⟨rfl, fun _ _ _ h => by simp at h⟩
theorem LRel.cons {ρ : Rho} {x y : Value} {xs ys : List Value} (h : VRel ρ x y) (hs : LRel ρ xs ys) : LRel ρ (x :: xs) (y :: ys) := by
  refine ⟨by simp [hs.1], fun i a b ha hb => ?_⟩
  cases i with
  | zero => simp at ha hb; subst ha hb; exact h
  | succ i => simp at ha hb; exact hs.2 i a b ha hb
theorem LRel.uncons {ρ : Rho} {x : Value} {xs l : List Value} (h : LRel ρ (x :: xs) l) : ∃ y ys, l = y :: ys ∧ VRel ρ x y ∧ LRel ρ xs ys := by
  cases l with
  | nil => have := h.1; simp at this
  | cons y ys =>
    refine ⟨y, ys, rfl, h.2 0 x y rfl rfl, by have := h.1; simp at this; exact this, fun i a b ha hb => h.2 (i + 1) a b (by simpa using ha) (by simpa using hb)⟩
theorem LRel.nil_left {ρ : Rho} {l : List Value} (h : LRel ρ [] l) : l = [] := by
  have := h.1; simp at this; exact List.eq_nil_of_length_eq_zero this.symm
theorem LRel.append {ρ : Rho} {xs ys us vs : List Value} (h : LRel ρ xs ys) (k : LRel ρ us vs) : LRel ρ (xs ++ us) (ys ++ vs) := by
  induction xs generalizing ys with
  | nil => rw [h.nil_left]; simpa using k
  | cons x xs ih =>
    obtain ⟨y, ys, rfl, hx, hs⟩ := h.uncons
    exact .cons hx (ih hs)
theorem LRel.set {ρ : Rho} {xs ys : List Value} (h : LRel ρ xs ys) (i : Nat) {x y : Value} (hv : VRel ρ x y) : LRel ρ (xs.set i x) (ys.set i y) := by
  refine ⟨by simp [h.1], fun j a b ha hb => ?_⟩
  rw [List.getElem?_set] at ha hb
  by_cases hij : i = j
  · subst hij
    simp only [if_true] at ha hb
    split at ha
    · split at hb
      · simp at ha hb; subst ha hb; exact hv
      · simp at hb
    · simp at ha
  · simp only [hij, if_false] at ha hb
    exact h.2 j a b ha hb
theorem LRel.drop {ρ : Rho} {xs ys : List Value} (h : LRel ρ xs ys) (n : Nat) : LRel ρ (xs.drop n) (ys.drop n) :=
  ⟨by simp [h.1], fun i a b ha hb => h.2 (n + i) a b (by simpa [List.getElem?_drop] using ha) (by simpa [List.getElem?_drop] using hb)⟩
theorem LRel.take {ρ : Rho} {xs ys : List Value} (h : LRel ρ xs ys) (n : Nat) : LRel ρ (xs.take n) (ys.take n) := by
  refine ⟨by simp [h.1], fun i a b ha hb => ?_⟩
  rw [List.getElem?_take] at ha hb
  by_cases hn : i < n
  · simp only [hn, if_true] at ha hb
    exact h.2 i a b ha hb
  · simp [hn] at ha
theorem LRel.get {ρ : Rho} {xs ys : List Value} (h : LRel ρ xs ys) {i : Nat} {x : Value} (hx : xs[i]? = some x) : ∃ y, ys[i]? = some y ∧ VRel ρ x y := by
  have hi : i < xs.length := by
    rcases Nat.lt_or_ge i xs.length with h | h
    · exact h
    · simp [List.getElem?_eq_none h] at hx
  have hi' : i < ys.length := by rw [← h.1]; exact hi
  exact ⟨ys[i], List.getElem?_eq_getElem hi', h.2 i x _ hx (List.getElem?_eq_getElem hi')⟩

theorem arr_rel_iff {ρ : Rho} {xs ys : Array Value} : (xs.size = ys.size ∧ ∀ i, i < xs.size → VRel ρ (xs.getD i undef) (ys.getD i undef)) ↔ LRel ρ xs.toList ys.toList := by
  constructor
  · rintro ⟨h1, h2⟩
    refine ⟨by simpa using h1, fun i x y hx hy => ?_⟩
    have hi : i < xs.size := by
      rcases Nat.lt_or_ge i xs.size with h | h
      · exact h
      · simp [Array.getElem?_eq_none h] at hx
    have hi' : i < ys.size := h1 ▸ hi
    have := h2 i hi
    rw [Array.getElem?_toList, Array.getElem?_eq_getElem hi, Option.some.injEq] at hx
    rw [Array.getElem?_toList, Array.getElem?_eq_getElem hi', Option.some.injEq] at hy
    rw [Array.getD_eq_getD_getElem?, Array.getD_eq_getD_getElem?, Array.getElem?_eq_getElem hi, Array.getElem?_eq_getElem hi'] at this
    subst hx hy
    exact this
  · rintro ⟨h1, h2⟩
    have h1' : xs.size = ys.size := by simpa using h1
    refine ⟨h1', fun i hi => ?_⟩
    have hi' : i < ys.size := h1' ▸ hi
    rw [Array.getD_eq_getD_getElem?, Array.getD_eq_getD_getElem?, Array.getElem?_eq_getElem hi, Array.getElem?_eq_getElem hi']
    exact h2 i _ _ (by simp [hi]) (by simp [hi'])

theorem VRel.agg_iff {ρ : Rho} {xs ys : Array Value} : VRel ρ (.agg xs) (.agg ys) ↔ LRel ρ xs.toList ys.toList := by
  rw [← arr_rel_iff]
  constructor
  · intro h; cases h with
    | agg h hx => exact ⟨h, hx⟩
  · rintro ⟨h, hx⟩; exact .agg h hx

theorem VRel.agg_inv {ρ : Rho} {xs : Array Value} {v : Value} (h : VRel ρ (.agg xs) v) : ∃ ys, v = .agg ys ∧ LRel ρ xs.toList ys.toList := by
  cases h with
  | agg h hx => exact ⟨_, rfl, arr_rel_iff.1 ⟨h, hx⟩⟩

theorem VRel.tuple_mk {ρ : Rho} {xs ys : Array Value} (h : LRel ρ xs.toList ys.toList) : VRel ρ (.tuple xs) (.tuple ys) :=
  have ⟨h, hx⟩ := arr_rel_iff.2 h
  .tuple h hx

theorem VRel.int_inv {ρ : Rho} {k : IntKind} {n : Int} {v : Value} (h : VRel ρ (.int k n) v) : v = .int k n := by cases h; rfl
theorem VRel.bool_inv {ρ : Rho} {b : Bool} {v : Value} (h : VRel ρ (.bool b) v) : v = .bool b := by cases h; rfl
theorem VRel.string_inv {ρ : Rho} {s : ByteArray} {v : Value} (h : VRel ρ (.string s) v) : v = .string s := by cases h; rfl
theorem VRel.float_inv {ρ : Rho} {k : FloatKind} {n : Nat} {v : Value} (h : VRel ρ (.float k n) v) : v = .float k n := by cases h; rfl
theorem VRel.nilp_inv {ρ : Rho} {v : Value} (h : VRel ρ (.pointer none) v) : v = .pointer none := by cases h; rfl
theorem VRel.ptr_inv {ρ : Rho} {a : Addr} {v : Value} (h : VRel ρ (.pointer (some a)) v) : ∃ l, ρ a.block = some l ∧ a.spot = none ∧ v = .pointer (some ⟨l.blk, l.off + a.off, none⟩) := by
  cases h with
  | ptr hb => exact ⟨_, hb, rfl, rfl⟩
theorem VRel.nils_inv {ρ : Rho} {n c : Nat} {v : Value} (h : VRel ρ (.slice none n c) v) : n = 0 ∧ c = 0 ∧ v = .slice none 0 0 := by cases h; exact ⟨rfl, rfl, rfl⟩
theorem VRel.slice_inv {ρ : Rho} {a : Addr} {n c : Nat} {v : Value} (h : VRel ρ (.slice (some a) n c) v) :
    n = c ∧ ((∃ l cap, ρ a.block = some l ∧ a.spot = none ∧ n ≤ cap ∧ l.off + a.off + cap * l.es ≤ l.size ∧ v = .slice (some ⟨l.blk, l.off + a.off, none⟩) n cap) ∨
      (n = 0 ∧ ∃ x, v = .slice (some x) 0 0)) := by
  cases h with
  | slice hb hc hr => exact ⟨rfl, .inl ⟨_, _, hb, rfl, hc, hr, rfl⟩⟩
  | empty a c => exact ⟨rfl, .inr ⟨rfl, _, rfl⟩⟩
theorem VRel.nilm_inv {ρ : Rho} {v : Value} (h : VRel ρ (.map none) v) : v = .map none := by cases h; rfl
theorem VRel.map_inv {ρ : Rho} {b : Nat} {v : Value} (h : VRel ρ (.map (some b)) v) : ∃ l, ρ b = some l ∧ v = .map (some l.blk) := by
  cases h with
  | map hb => exact ⟨_, hb, rfl⟩
theorem VRel.func_inv {ρ : Rho} {fn : Fn} {xs us : Array Value} {v : Value} (h : VRel ρ (.func fn xs us) v) :
    ∃ ys vs, v = .func fn ys vs ∧ LRel ρ xs.toList ys.toList ∧ LRel ρ us.toList vs.toList := by
  cases h with
  | func fn h1 h2 h3 h4 => exact ⟨_, _, rfl, arr_rel_iff.1 ⟨h1, h3⟩, arr_rel_iff.1 ⟨h2, h4⟩⟩
theorem VRel.func_mk {ρ : Rho} (fn : Fn) {xs ys us vs : Array Value} (h1 : LRel ρ xs.toList ys.toList) (h2 : LRel ρ us.toList vs.toList) : VRel ρ (.func fn xs us) (.func fn ys vs) :=
  have ⟨a, b⟩ := arr_rel_iff.2 h1
  have ⟨c, d⟩ := arr_rel_iff.2 h2
  .func fn a c b d

/-- The cells of a value whose shape is known. -/
def cellsOf : Value → Option (List Value)
  | .agg cs => some cs.toList
  | .tuple _ => none
  | .chan _ => none
  | v => some [v]

theorem cellsOf_rel {ρ : Rho} {v v' : Value} {cs : List Value} (hv : VRel ρ v v') (h : cellsOf v = some cs) : LRel ρ cs v'.cells.toList := by
  cases hv with
  | any => simp [cellsOf, undef] at h
  | skip => simp [cellsOf] at h
  | tuple => simp [cellsOf] at h
  | agg h1 h2 => simp only [cellsOf, Option.some.injEq] at h; subst h; exact arr_rel_iff.1 ⟨h1, h2⟩
  | bool b => simp only [cellsOf, Option.some.injEq] at h; subst h; exact .cons (.bool b) (.nil _)
  | int k n => simp only [cellsOf, Option.some.injEq] at h; subst h; exact .cons (.int k n) (.nil _)
  | float k n => simp only [cellsOf, Option.some.injEq] at h; subst h; exact .cons (.float k n) (.nil _)
  | string s => simp only [cellsOf, Option.some.injEq] at h; subst h; exact .cons (.string s) (.nil _)
  | nilp => simp only [cellsOf, Option.some.injEq] at h; subst h; exact .cons .nilp (.nil _)
  | ptr hb => simp only [cellsOf, Option.some.injEq] at h; subst h; exact .cons (.ptr hb) (.nil _)
  | nils => simp only [cellsOf, Option.some.injEq] at h; subst h; exact .cons .nils (.nil _)
  | slice hb hc hr => simp only [cellsOf, Option.some.injEq] at h; subst h; exact .cons (.slice hb hc hr) (.nil _)
  | empty a c => simp only [cellsOf, Option.some.injEq] at h; subst h; exact .cons (.empty a c) (.nil _)
  | nilm => simp only [cellsOf, Option.some.injEq] at h; subst h; exact .cons .nilm (.nil _)
  | map hb => simp only [cellsOf, Option.some.injEq] at h; subst h; exact .cons (.map hb) (.nil _)
  | func fn h1 h2 h3 h4 => simp only [cellsOf, Option.some.injEq] at h; subst h; exact .cons (.func fn h1 h2 h3 h4) (.nil _)
  | nilf => simp only [cellsOf, Option.some.injEq] at h; subst h; exact .cons .nilf (.nil _)
  | iface t hv => simp only [cellsOf, Option.some.injEq] at h; subst h; exact .cons (.iface t hv) (.nil _)
  | nili => simp only [cellsOf, Option.some.injEq] at h; subst h; exact .cons .nili (.nil _)

/-- A constant without addresses. -/
def flat : Value → Bool
  | .bool _ | .int _ _ | .float _ _ | .string _ | .pointer none | .slice none 0 0 | .map none | .nilFunc | .nilIface => true
  | _ => false
def plain : Value → Bool
  | .agg cs => cs.toList.all flat
  | .func (.func _) xs us => xs.isEmpty && us.isEmpty
  | .tuple xs => xs.isEmpty
  | v => flat v

theorem flat_rel (ρ : Rho) {v : Value} (h : flat v = true) : VRel ρ v v := by
  unfold flat at h
  split at h <;> first | exact .bool _ | exact .int _ _ | exact .float _ _ | exact .string _ | exact .nilp | exact .nils | exact .nilm | exact .nilf | exact .nili | simp at h

theorem LRel.refl_of {ρ : Rho} {xs : List Value} (h : ∀ x ∈ xs, VRel ρ x x) : LRel ρ xs xs :=
  ⟨rfl, fun i x y hx hy => by rw [hx] at hy; simp at hy; subst hy; exact h x (List.mem_of_getElem? hx)⟩

theorem plain_rel (ρ : Rho) {v : Value} (h : plain v = true) : VRel ρ v v := by
  unfold plain at h
  split at h
  · exact VRel.agg_iff.2 (LRel.refl_of fun x hx => flat_rel ρ (by simpa using List.all_eq_true.1 h x hx))
  · simp only [Bool.and_eq_true, Array.isEmpty_iff] at h; obtain ⟨rfl, rfl⟩ := h; exact VRel.func_mk _ (.nil _) (.nil _)
  · simp only [Array.isEmpty_iff] at h; subst h; exact .any _
  · exact flat_rel ρ h

/-- What an abstract block holds; 'ro': it is only read, others may share it. -/
inductive AObj (L : Type) where
  | cells (vs : List Value) (e : TypeId) (ro : Bool)
  | map (es : List (Value × Value))
  | logic (x : L)

def AObj.isRo {L : Type} : AObj L → Bool
  | .cells _ _ ro => ro
  | _ => false
def AObj.isLogic {L : Type} : AObj L → Bool
  | .logic _ => true
  | _ => false

structure AMem (L : Type) where
  next : Nat
  get : Nat → Option (AObj L)

namespace AMem
variable {L : Type}
def set (σ : AMem L) (b : Nat) (o : AObj L) : AMem L := { σ with get := fun x => if x = b then some o else σ.get x }
def kill (σ : AMem L) (b : Nat) : AMem L := { σ with get := fun x => if x = b then none else σ.get x }
/-- A new block. -/
def push (σ : AMem L) (o : AObj L) : AMem L := { next := σ.next + 1, get := fun x => if x = σ.next then some o else σ.get x }
/-- A new block at a place that was kept free. -/
def put (σ : AMem L) (b nx : Nat) (o : AObj L) : AMem L := { next := nx, get := fun x => if x = b then some o else σ.get x }
def skipTo (σ : AMem L) (nx : Nat) : AMem L := { σ with next := nx }

theorem get_set (σ : AMem L) (b x : Nat) (o : AObj L) : (σ.set b o).get x = if x = b then some o else σ.get x := rfl
theorem get_kill (σ : AMem L) (b x : Nat) : (σ.kill b).get x = if x = b then none else σ.get x := rfl
theorem get_push (σ : AMem L) (x : Nat) (o : AObj L) : (σ.push o).get x = if x = σ.next then some o else σ.get x := rfl
theorem get_put (σ : AMem L) (b nx x : Nat) (o : AObj L) : (σ.put b nx o).get x = if x = b then some o else σ.get x := rfl
theorem get_skipTo (σ : AMem L) (nx x : Nat) : (σ.skipTo nx).get x = σ.get x := rfl
theorem next_set (σ : AMem L) (b : Nat) (o : AObj L) : (σ.set b o).next = σ.next := rfl
theorem next_kill (σ : AMem L) (b : Nat) : (σ.kill b).next = σ.next := rfl
theorem next_push (σ : AMem L) (o : AObj L) : (σ.push o).next = σ.next + 1 := rfl
theorem next_put (σ : AMem L) (b nx : Nat) (o : AObj L) : (σ.put b nx o).next = nx := rfl
theorem next_skipTo (σ : AMem L) (nx : Nat) : (σ.skipTo nx).next = nx := rfl
end AMem

/-- The contents of blocks that nothing may touch. -/
structure Kappa where
  blk : Nat → Option Obj
  env : (Os × Array (Nat × ByteArray)) × (Nat → Question → Nat)
instance : CoeFun Kappa (fun _ => Nat → Option Obj) := ⟨Kappa.blk⟩
theorem Kappa.same {κ κ' : Kappa} (h : ∀ x, κ x = κ' x) (he : κ.env = κ'.env) : κ = κ' := by
  cases κ; cases κ'
  congr
  funext x; exact h x

/-- What lies outside of memory. -/
def envOf (w : World) : (Os × Array (Nat × ByteArray)) × (Nat → Question → Nat) := ((w.os, w.output), w.tape)

/-- No cell of a block from 'off' on is frozen. -/
def unfrozen (fr : Nat × Nat) (off size : Nat) : Prop := ∀ j, off ≤ j → j < size → ¬ (fr.1 ≤ j ∧ j < fr.2)

/-- Is the map's key one that is compared as it stands? -/
def keyFlat : Value → Bool
  | .int _ _ | .string _ | .bool _ => true
  | _ => false

/-- The stamps of a map's entries. -/
def Stamps (ces : Array MapEntry) (clock : Nat) : Prop := (∀ x ∈ ces.toList, x.born < clock) ∧ (ces.toList.map (·.born)).Nodup

def ORel {L : Type} (P : Program) (ρ : Rho) (w : World) (l : Loc) : AObj L → Prop
  | .cells vs e ro => ∃ arr fr, w.heap[l.blk]? = some (.cells arr e fr) ∧ arr.size = l.size ∧ l.off + vs.length ≤ l.size ∧ (P.info? e).map (·.size) = some l.es ∧
      (∀ i v, vs[i]? = some v → ∃ v', arr[l.off + i]? = some v' ∧ VRel ρ v v') ∧ (ro = false → unfrozen fr l.off l.size)
  | .map es => ∃ ces clock, w.heap[l.blk]? = some (.map ces clock) ∧ Stamps ces clock ∧ (es.map (·.1)).Nodup ∧ (∀ k ∈ es.map (·.1), keyFlat k = true) ∧
      ∃ es' : List (Value × Value), es'.Perm es ∧ es'.length = ces.size ∧ ∀ (i : Nat) (kv : Value × Value) (e : MapEntry), es'[i]? = some kv → ces[i]? = some e → e.key = kv.1 ∧ VRel ρ kv.2 e.val
  | .logic _ => True

structure MRel {L : Type} (P : Program) (κ : Kappa) (ρ : Rho) (σ : AMem L) (w : World) : Prop where
  live : ∀ b o, σ.get b = some o → o.isLogic = false → ∃ l, ρ b = some l ∧ ORel P ρ w l o
  inj : ∀ b c o o' l l', σ.get b = some o → σ.get c = some o' → b ≠ c → o.isLogic = false → o'.isLogic = false → (o.isRo && o'.isRo) = false → ρ b = some l → ρ c = some l' → l.blk ≠ l'.blk
  fresh : ∀ b, σ.next ≤ b → σ.get b = none ∧ ρ b = none
  old : ∀ b l, ρ b = some l → l.blk < w.heap.size
  kept : ∀ c o, κ c = some o → w.heap[c]? = some o
  apart : ∀ c o b o' l, κ c = some o → σ.get b = some o' → o'.isLogic = false → ρ b = some l → l.blk ≠ c
  env : envOf w = κ.env

end Go.Ax
