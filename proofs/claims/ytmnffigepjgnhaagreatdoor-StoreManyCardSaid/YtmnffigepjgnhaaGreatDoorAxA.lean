/- Abstract memory, and when the model's World is as it says. -/
import Derived.Calls
import Derived.Orders
import Derived.Laws.IdiomCopy
import Derived.Deep.AppendSrc
import Derived.Laws.Entries
set_option linter.unusedVariables false
set_option linter.unusedSimpArgs false
namespace Go.Ax
open Go

/-- Where an abstract block lies: the model's block, the first cell, how many cells that block has, cells of an element. -/
structure Loc where
  blk : Nat
  off : Nat
  size : Nat
  es : Nat

abbrev Rho := Nat → Option Loc

def Rho.le (ρ ρ' : Rho) : Prop := ∀ b l, ρ b = some l → ρ' b = some l

theorem Rho.le_refl (ρ : Rho) : ρ.le ρ := fun _ _ h => h
theorem Rho.le_trans {a b c : Rho} (h : a.le b) (k : b.le c) : a.le c := fun x l hx => k x l (h x l hx)

/-- An abstract value and the model's. 'undef' is a value of which nothing is known. -/
inductive VRel (ρ : Rho) : Value → Value → Prop where
  | any (v : Value) : VRel ρ undef v
  | skip : VRel ρ (.chan none) undef
  | bool (b : Bool) : VRel ρ (.bool b) (.bool b)
  | int (k : IntKind) (n : Int) : VRel ρ (.int k n) (.int k n)
  | float (k : FloatKind) (n : Nat) : VRel ρ (.float k n) (.float k n)
  | string (s : ByteArray) : VRel ρ (.string s) (.string s)
  | nilp : VRel ρ (.pointer none) (.pointer none)
  | ptr {b off : Nat} {l : Loc} (h : ρ b = some l) : VRel ρ (.pointer (some ⟨b, off, none⟩)) (.pointer (some ⟨l.blk, l.off + off, none⟩))
  | nils : VRel ρ (.slice none 0 0) (.slice none 0 0)
  | slice {b off len cap : Nat} {l : Loc} (h : ρ b = some l) (hc : len ≤ cap) (hr : l.off + off + cap * l.es ≤ l.size) :
      VRel ρ (.slice (some ⟨b, off, none⟩) len len) (.slice (some ⟨l.blk, l.off + off, none⟩) len cap)
  | empty (a c : Addr) : VRel ρ (.slice (some a) 0 0) (.slice (some c) 0 0)
  | nilm : VRel ρ (.map none) (.map none)
  | map {b : Nat} {l : Loc} (h : ρ b = some l) : VRel ρ (.map (some b)) (.map (some l.blk))
  | func (fn : Fn) {xs ys us vs : Array Value} (h1 : xs.size = ys.size) (h2 : us.size = vs.size)
      (h3 : ∀ i, i < xs.size → VRel ρ (xs.getD i undef) (ys.getD i undef)) (h4 : ∀ i, i < us.size → VRel ρ (us.getD i undef) (vs.getD i undef)) :
      VRel ρ (.func fn xs us) (.func fn ys vs)
  | nilf : VRel ρ .nilFunc .nilFunc
  | iface (t : TypeId) {v v' : Value} (h : VRel ρ v v') : VRel ρ (.iface t v) (.iface t v')
  | nili : VRel ρ .nilIface .nilIface
  | agg {xs ys : Array Value} (h : xs.size = ys.size) (hx : ∀ i, i < xs.size → VRel ρ (xs.getD i undef) (ys.getD i undef)) : VRel ρ (.agg xs) (.agg ys)
  | tuple {xs ys : Array Value} (h : xs.size = ys.size) (hx : ∀ i, i < xs.size → VRel ρ (xs.getD i undef) (ys.getD i undef)) : VRel ρ (.tuple xs) (.tuple ys)

theorem VRel.mono {ρ ρ' : Rho} (h : ρ.le ρ') {v v' : Value} (hv : VRel ρ v v') : VRel ρ' v v' := by
  induction hv with
  | any v => exact .any v
  | skip => exact .skip
  | bool b => exact .bool b
  | int k n => exact .int k n
  | float k n => exact .float k n
  | string s => exact .string s
  | nilp => exact .nilp
  | ptr hb => exact .ptr (h _ _ hb)
  | nils => exact .nils
  | slice hb hc hr => exact .slice (h _ _ hb) hc hr
  | empty a c => exact .empty a c
  | nilm => exact .nilm
  | map hb => exact .map (h _ _ hb)
  | func fn h1 h2 _ _ i3 i4 => exact .func fn h1 h2 i3 i4
  | nilf => exact .nilf
  | iface t _ ih => exact .iface t ih
  | nili => exact .nili
  | agg h1 _ ih => exact .agg h1 ih
  | tuple h1 _ ih => exact .tuple h1 ih

/-- Lists of values, side by side. -/
def LRel (ρ : Rho) (xs ys : List Value) : Prop := xs.length = ys.length ∧ ∀ (i : Nat) (x y : Value), xs[i]? = some x → ys[i]? = some y → VRel ρ x y

theorem LRel.mono {ρ ρ' : Rho} (h : ρ.le ρ') {xs ys : List Value} (hv : LRel ρ xs ys) : LRel ρ' xs ys :=
  ⟨hv.1, fun i x y hx hy => (hv.2 i x y hx hy).mono h⟩

theorem LRel.nil (ρ : Rho) : LRel ρ [] [] := ⟨rfl, fun _ _ _ h => by simp at h⟩
theorem LRel.cons {ρ : Rho} {x y : Value} {xs ys : List Value} (h : VRel ρ x y) (hs : LRel ρ xs ys) : LRel ρ (x :: xs) (y :: ys) := by
  refine ⟨by simp [hs.1], fun i a b ha hb => ?_⟩
  cases i with
  | zero => simp at ha hb; subst ha hb; exact h
  | succ i => simp at ha hb; exact hs.2 i a b ha hb
theorem LRel.uncons {ρ : Rho} {x : Value} {xs l : List Value} (h : LRel ρ (x :: xs) l) : ∃ y ys, l = y :: ys ∧ VRel ρ x y ∧ LRel ρ xs ys := by
  cases l with
  | nil => have := h.1; simp at this
  | cons y ys =>
    refine ⟨y, ys, rfl, h.2 0 x y rfl rfl, by have := h.1; simp at this; exact this, fun i a b ha hb => h.2 (i + 1) a b (by simpa using ha) (by simpa using hb)⟩
theorem LRel.nil_left {ρ : Rho} {l : List Value} (h : LRel ρ [] l) : l = [] := by
  have := h.1; simp at this; exact List.eq_nil_of_length_eq_zero this.symm
theorem LRel.append {ρ : Rho} {xs ys us vs : List Value} (h : LRel ρ xs ys) (k : LRel ρ us vs) : LRel ρ (xs ++ us) (ys ++ vs) := by
  induction xs generalizing ys with
  | nil => rw [h.nil_left]; simpa using k
  | cons x xs ih =>
    obtain ⟨y, ys, rfl, hx, hs⟩ := h.uncons
    exact .cons hx (ih hs)
theorem LRel.set {ρ : Rho} {xs ys : List Value} (h : LRel ρ xs ys) (i : Nat) {x y : Value} (hv : VRel ρ x y) : LRel ρ (xs.set i x) (ys.set i y) := by
  refine ⟨by simp [h.1], fun j a b ha hb => ?_⟩
  rw [List.getElem?_set] at ha hb
  by_cases hij : i = j
  · subst hij
    simp only [if_true] at ha hb
    split at ha
    · split at hb
      · simp at ha hb; subst ha hb; exact hv
      · simp at hb
    · simp at ha
  · simp only [hij, if_false] at ha hb
    exact h.2 j a b ha hb
theorem LRel.drop {ρ : Rho} {xs ys : List Value} (h : LRel ρ xs ys) (n : Nat) : LRel ρ (xs.drop n) (ys.drop n) :=
  ⟨by simp [h.1], fun i a b ha hb => h.2 (n + i) a b (by simpa [List.getElem?_drop] using ha) (by simpa [List.getElem?_drop] using hb)⟩
theorem LRel.take {ρ : Rho} {xs ys : List Value} (h : LRel ρ xs ys) (n : Nat) : LRel ρ (xs.take n) (ys.take n) := by
  refine ⟨by simp [h.1], fun i a b ha hb => ?_⟩
  rw [List.getElem?_take] at ha hb
  by_cases hn : i < n
  · simp only [hn, if_true] at ha hb
    exact h.2 i a b ha hb
  · simp [hn] at ha
theorem LRel.get {ρ : Rho} {xs ys : List Value} (h : LRel ρ xs ys) {i : Nat} {x : Value} (hx : xs[i]? = some x) : ∃ y, ys[i]? = some y ∧ VRel ρ x y := by
  have hi : i < xs.length := by
    rcases Nat.lt_or_ge i xs.length with h | h
    · exact h
    · simp [List.getElem?_eq_none h] at hx
  have hi' : i < ys.length := by rw [← h.1]; exact hi
  exact ⟨ys[i], List.getElem?_eq_getElem hi', h.2 i x _ hx (List.getElem?_eq_getElem hi')⟩

theorem arr_rel_iff {ρ : Rho} {xs ys : Array Value} : (xs.size = ys.size ∧ ∀ i, i < xs.size → VRel ρ (xs.getD i undef) (ys.getD i undef)) ↔ LRel ρ xs.toList ys.toList := by
  constructor
  · rintro ⟨h1, h2⟩
    refine ⟨by simpa using h1, fun i x y hx hy => ?_⟩
    have hi : i < xs.size := by
      rcases Nat.lt_or_ge i xs.size with h | h
      · exact h
      · simp [Array.getElem?_eq_none h] at hx
    have hi' : i < ys.size := h1 ▸ hi
    have := h2 i hi
    rw [Array.getElem?_toList, Array.getElem?_eq_getElem hi, Option.some.injEq] at hx
    rw [Array.getElem?_toList, Array.getElem?_eq_getElem hi', Option.some.injEq] at hy
    rw [Array.getD_eq_getD_getElem?, Array.getD_eq_getD_getElem?, Array.getElem?_eq_getElem hi, Array.getElem?_eq_getElem hi'] at this
    subst hx hy
    exact this
  · rintro ⟨h1, h2⟩
    have h1' : xs.size = ys.size := by simpa using h1
    refine ⟨h1', fun i hi => ?_⟩
    have hi' : i < ys.size := h1' ▸ hi
    rw [Array.getD_eq_getD_getElem?, Array.getD_eq_getD_getElem?, Array.getElem?_eq_getElem hi, Array.getElem?_eq_getElem hi']
    exact h2 i _ _ (by simp [hi]) (by simp [hi'])

theorem VRel.agg_iff {ρ : Rho} {xs ys : Array Value} : VRel ρ (.agg xs) (.agg ys) ↔ LRel ρ xs.toList ys.toList := by
  rw [← arr_rel_iff]
  constructor
  · intro h; cases h with
    | agg h hx => exact ⟨h, hx⟩
  · rintro ⟨h, hx⟩; exact .agg h hx

theorem VRel.agg_inv {ρ : Rho} {xs : Array Value} {v : Value} (h : VRel ρ (.agg xs) v) : ∃ ys, v = .agg ys ∧ LRel ρ xs.toList ys.toList := by
  cases h with
  | agg h hx => exact ⟨_, rfl, arr_rel_iff.1 ⟨h, hx⟩⟩

theorem VRel.tuple_mk {ρ : Rho} {xs ys : Array Value} (h : LRel ρ xs.toList ys.toList) : VRel ρ (.tuple xs) (.tuple ys) :=
  have ⟨h, hx⟩ := arr_rel_iff.2 h
  .tuple h hx

theorem VRel.int_inv {ρ : Rho} {k : IntKind} {n : Int} {v : Value} (h : VRel ρ (.int k n) v) : v = .int k n := by cases h; rfl
theorem VRel.bool_inv {ρ : Rho} {b : Bool} {v : Value} (h : VRel ρ (.bool b) v) : v = .bool b := by cases h; rfl
theorem VRel.string_inv {ρ : Rho} {s : ByteArray} {v : Value} (h : VRel ρ (.string s) v) : v = .string s := by cases h; rfl
theorem VRel.float_inv {ρ : Rho} {k : FloatKind} {n : Nat} {v : Value} (h : VRel ρ (.float k n) v) : v = .float k n := by cases h; rfl
theorem VRel.nilp_inv {ρ : Rho} {v : Value} (h : VRel ρ (.pointer none) v) : v = .pointer none := by cases h; rfl
theorem VRel.ptr_inv {ρ : Rho} {a : Addr} {v : Value} (h : VRel ρ (.pointer (some a)) v) : ∃ l, ρ a.block = some l ∧ a.spot = none ∧ v = .pointer (some ⟨l.blk, l.off + a.off, none⟩) := by
  cases h with
  | ptr hb => exact ⟨_, hb, rfl, rfl⟩
theorem VRel.nils_inv {ρ : Rho} {n c : Nat} {v : Value} (h : VRel ρ (.slice none n c) v) : n = 0 ∧ c = 0 ∧ v = .slice none 0 0 := by cases h; exact ⟨rfl, rfl, rfl⟩
theorem VRel.slice_inv {ρ : Rho} {a : Addr} {n c : Nat} {v : Value} (h : VRel ρ (.slice (some a) n c) v) :
    n = c ∧ ((∃ l cap, ρ a.block = some l ∧ a.spot = none ∧ n ≤ cap ∧ l.off + a.off + cap * l.es ≤ l.size ∧ v = .slice (some ⟨l.blk, l.off + a.off, none⟩) n cap) ∨
      (n = 0 ∧ ∃ x, v = .slice (some x) 0 0)) := by
  cases h with
  | slice hb hc hr => exact ⟨rfl, .inl ⟨_, _, hb, rfl, hc, hr, rfl⟩⟩
  | empty a c => exact ⟨rfl, .inr ⟨rfl, _, rfl⟩⟩
theorem VRel.nilm_inv {ρ : Rho} {v : Value} (h : VRel ρ (.map none) v) : v = .map none := by cases h; rfl
theorem VRel.map_inv {ρ : Rho} {b : Nat} {v : Value} (h : VRel ρ (.map (some b)) v) : ∃ l, ρ b = some l ∧ v = .map (some l.blk) := by
  cases h with
  | map hb => exact ⟨_, hb, rfl⟩
theorem VRel.func_inv {ρ : Rho} {fn : Fn} {xs us : Array Value} {v : Value} (h : VRel ρ (.func fn xs us) v) :
    ∃ ys vs, v = .func fn ys vs ∧ LRel ρ xs.toList ys.toList ∧ LRel ρ us.toList vs.toList := by
  cases h with
  | func fn h1 h2 h3 h4 => exact ⟨_, _, rfl, arr_rel_iff.1 ⟨h1, h3⟩, arr_rel_iff.1 ⟨h2, h4⟩⟩
theorem VRel.func_mk {ρ : Rho} (fn : Fn) {xs ys us vs : Array Value} (h1 : LRel ρ xs.toList ys.toList) (h2 : LRel ρ us.toList vs.toList) : VRel ρ (.func fn xs us) (.func fn ys vs) :=
  have ⟨a, b⟩ := arr_rel_iff.2 h1
  have ⟨c, d⟩ := arr_rel_iff.2 h2
  .func fn a c b d

/-- The cells of a value whose shape is known. -/
def cellsOf : Value → Option (List Value)
  | .agg cs => some cs.toList
  | .tuple _ => none
  | .chan _ => none
  | v => some [v]

theorem cellsOf_rel {ρ : Rho} {v v' : Value} {cs : List Value} (hv : VRel ρ v v') (h : cellsOf v = some cs) : LRel ρ cs v'.cells.toList := by
  cases hv with
  | any => simp [cellsOf, undef] at h
  | skip => simp [cellsOf] at h
  | tuple => simp [cellsOf] at h
  | agg h1 h2 => simp only [cellsOf, Option.some.injEq] at h; subst h; exact arr_rel_iff.1 ⟨h1, h2⟩
  | bool b => simp only [cellsOf, Option.some.injEq] at h; subst h; exact .cons (.bool b) (.nil _)
  | int k n => simp only [cellsOf, Option.some.injEq] at h; subst h; exact .cons (.int k n) (.nil _)
  | float k n => simp only [cellsOf, Option.some.injEq] at h; subst h; exact .cons (.float k n) (.nil _)
  | string s => simp only [cellsOf, Option.some.injEq] at h; subst h; exact .cons (.string s) (.nil _)
  | nilp => simp only [cellsOf, Option.some.injEq] at h; subst h; exact .cons .nilp (.nil _)
  | ptr hb => simp only [cellsOf, Option.some.injEq] at h; subst h; exact .cons (.ptr hb) (.nil _)
  | nils => simp only [cellsOf, Option.some.injEq] at h; subst h; exact .cons .nils (.nil _)
  | slice hb hc hr => simp only [cellsOf, Option.some.injEq] at h; subst h; exact .cons (.slice hb hc hr) (.nil _)
  | empty a c => simp only [cellsOf, Option.some.injEq] at h; subst h; exact .cons (.empty a c) (.nil _)
  | nilm => simp only [cellsOf, Option.some.injEq] at h; subst h; exact .cons .nilm (.nil _)
  | map hb => simp only [cellsOf, Option.some.injEq] at h; subst h; exact .cons (.map hb) (.nil _)
  | func fn h1 h2 h3 h4 => simp only [cellsOf, Option.some.injEq] at h; subst h; exact .cons (.func fn h1 h2 h3 h4) (.nil _)
  | nilf => simp only [cellsOf, Option.some.injEq] at h; subst h; exact .cons .nilf (.nil _)
  | iface t hv => simp only [cellsOf, Option.some.injEq] at h; subst h; exact .cons (.iface t hv) (.nil _)
  | nili => simp only [cellsOf, Option.some.injEq] at h; subst h; exact .cons .nili (.nil _)

/-- A constant without addresses. -/
def flat : Value → Bool
  | .bool _ | .int _ _ | .float _ _ | .string _ | .pointer none | .slice none 0 0 | .map none | .nilFunc | .nilIface => true
  | _ => false
def plain : Value → Bool
  | .agg cs => cs.toList.all flat
  | .func (.func _) xs us => xs.isEmpty && us.isEmpty
  | .tuple xs => xs.isEmpty
  | v => flat v

theorem flat_rel (ρ : Rho) {v : Value} (h : flat v = true) : VRel ρ v v := by
  unfold flat at h
  split at h <;> first | exact .bool _ | exact .int _ _ | exact .float _ _ | exact .string _ | exact .nilp | exact .nils | exact .nilm | exact .nilf | exact .nili | simp at h

theorem LRel.refl_of {ρ : Rho} {xs : List Value} (h : ∀ x ∈ xs, VRel ρ x x) : LRel ρ xs xs :=
  ⟨rfl, fun i x y hx hy => by rw [hx] at hy; simp at hy; subst hy; exact h x (List.mem_of_getElem? hx)⟩

theorem plain_rel (ρ : Rho) {v : Value} (h : plain v = true) : VRel ρ v v := by
  unfold plain at h
  split at h
  · exact VRel.agg_iff.2 (LRel.refl_of fun x hx => flat_rel ρ (by simpa using List.all_eq_true.1 h x hx))
  · simp only [Bool.and_eq_true, Array.isEmpty_iff] at h; obtain ⟨rfl, rfl⟩ := h; exact VRel.func_mk _ (.nil _) (.nil _)
  · simp only [Array.isEmpty_iff] at h; subst h; exact .any _
  · exact flat_rel ρ h

/-- What an abstract block holds; 'ro': it is only read, others may share it. -/
inductive AObj (L : Type) where
  | cells (vs : List Value) (e : TypeId) (ro : Bool)
  | map (es : List (Value × Value))
  | logic (x : L)

def AObj.isRo {L : Type} : AObj L → Bool
  | .cells _ _ ro => ro
  | _ => false
def AObj.isLogic {L : Type} : AObj L → Bool
  | .logic _ => true
  | _ => false

structure AMem (L : Type) where
  next : Nat
  get : Nat → Option (AObj L)

namespace AMem
variable {L : Type}
def set (σ : AMem L) (b : Nat) (o : AObj L) : AMem L := { σ with get := fun x => if x = b then some o else σ.get x }
def kill (σ : AMem L) (b : Nat) : AMem L := { σ with get := fun x => if x = b then none else σ.get x }
/-- A new block. -/
def push (σ : AMem L) (o : AObj L) : AMem L := { next := σ.next + 1, get := fun x => if x = σ.next then some o else σ.get x }
/-- A new block at a place that was kept free. -/
def put (σ : AMem L) (b nx : Nat) (o : AObj L) : AMem L := { next := nx, get := fun x => if x = b then some o else σ.get x }
def skipTo (σ : AMem L) (nx : Nat) : AMem L := { σ with next := nx }

theorem get_set (σ : AMem L) (b x : Nat) (o : AObj L) : (σ.set b o).get x = if x = b then some o else σ.get x := rfl
theorem get_kill (σ : AMem L) (b x : Nat) : (σ.kill b).get x = if x = b then none else σ.get x := rfl
theorem get_push (σ : AMem L) (x : Nat) (o : AObj L) : (σ.push o).get x = if x = σ.next then some o else σ.get x := rfl
theorem get_put (σ : AMem L) (b nx x : Nat) (o : AObj L) : (σ.put b nx o).get x = if x = b then some o else σ.get x := rfl
theorem get_skipTo (σ : AMem L) (nx x : Nat) : (σ.skipTo nx).get x = σ.get x := rfl
theorem next_set (σ : AMem L) (b : Nat) (o : AObj L) : (σ.set b o).next = σ.next := rfl
theorem next_kill (σ : AMem L) (b : Nat) : (σ.kill b).next = σ.next := rfl
theorem next_push (σ : AMem L) (o : AObj L) : (σ.push o).next = σ.next + 1 := rfl
theorem next_put (σ : AMem L) (b nx : Nat) (o : AObj L) : (σ.put b nx o).next = nx := rfl
theorem next_skipTo (σ : AMem L) (nx : Nat) : (σ.skipTo nx).next = nx := rfl
end AMem

/-- The contents of blocks that nothing may touch. -/
structure Kappa where
  blk : Nat → Option Obj
  env : (Os × Array (Nat × ByteArray)) × (Nat → Question → Nat)
instance : CoeFun Kappa (fun _ => Nat → Option Obj) := ⟨Kappa.blk⟩
theorem Kappa.same {κ κ' : Kappa} (h : ∀ x, κ x = κ' x) (he : κ.env = κ'.env) : κ = κ' := by
  cases κ; cases κ'
  congr
  funext x; exact h x

/-- What lies outside of memory. -/
def envOf (w : World) : (Os × Array (Nat × ByteArray)) × (Nat → Question → Nat) := ((w.os, w.output), w.tape)

/-- No cell of a block from 'off' on is frozen. -/
def unfrozen (fr : Nat × Nat) (off size : Nat) : Prop := ∀ j, off ≤ j → j < size → ¬ (fr.1 ≤ j ∧ j < fr.2)

/-- Is the map's key one that is compared as it stands? -/
def keyFlat : Value → Bool
  | .int _ _ | .string _ | .bool _ => true
  | _ => false

/-- The stamps of a map's entries. -/
def Stamps (ces : Array MapEntry) (clock : Nat) : Prop := (∀ x ∈ ces.toList, x.born < clock) ∧ (ces.toList.map (·.born)).Nodup

def ORel {L : Type} (P : Program) (ρ : Rho) (w : World) (l : Loc) : AObj L → Prop
  | .cells vs e ro => ∃ arr fr, w.heap[l.blk]? = some (.cells arr e fr) ∧ arr.size = l.size ∧ l.off + vs.length ≤ l.size ∧ (P.info? e).map (·.size) = some l.es ∧
      (∀ i v, vs[i]? = some v → ∃ v', arr[l.off + i]? = some v' ∧ VRel ρ v v') ∧ (ro = false → unfrozen fr l.off l.size)
  | .map es => ∃ ces clock, w.heap[l.blk]? = some (.map ces clock) ∧ Stamps ces clock ∧ (es.map (·.1)).Nodup ∧ (∀ k ∈ es.map (·.1), keyFlat k = true) ∧
      ∃ es' : List (Value × Value), es'.Perm es ∧ es'.length = ces.size ∧ ∀ (i : Nat) (kv : Value × Value) (e : MapEntry), es'[i]? = some kv → ces[i]? = some e → e.key = kv.1 ∧ VRel ρ kv.2 e.val
  | .logic _ => True

structure MRel {L : Type} (P : Program) (κ : Kappa) (ρ : Rho) (σ : AMem L) (w : World) : Prop where
  live : ∀ b o, σ.get b = some o → o.isLogic = false → ∃ l, ρ b = some l ∧ ORel P ρ w l o
  inj : ∀ b c o o' l l', σ.get b = some o → σ.get c = some o' → b ≠ c → o.isLogic = false → o'.isLogic = false → (o.isRo && o'.isRo) = false → ρ b = some l → ρ c = some l' → l.blk ≠ l'.blk
  fresh : ∀ b, σ.next ≤ b → σ.get b = none ∧ ρ b = none
  old : ∀ b l, ρ b = some l → l.blk < w.heap.size
  kept : ∀ c o, κ c = some o → w.heap[c]? = some o
  apart : ∀ c o b o' l, κ c = some o → σ.get b = some o' → o'.isLogic = false → ρ b = some l → l.blk ≠ c
  env : envOf w = κ.env

end Go.Ax

/- What each step on memory does to the relation between abstract memory and World. -/
namespace Go.Ax
open Go
variable {L : Type} {P : Program} {κ : Kappa} {ρ : Rho} {σ : AMem L} {w : World}

theorem env_setCells (b : Nat) : ∀ (vs : List Value) (o : Nat) (w : World), envOf (w.setCells b o vs) = envOf w
  | [], _, _ => rfl
  | v :: vs, o, w => (env_setCells b vs (o + 1) _).trans rfl

theorem MRel.of_heap {w' : World} (h : MRel P κ ρ σ w) (hh : w'.heap = w.heap) (hv : envOf w' = envOf w := by first | rfl | exact env_setCells ..) : MRel P κ ρ σ w' where
  live b o ho hl := by
    obtain ⟨l, hr, hor⟩ := h.live b o ho hl
    refine ⟨l, hr, ?_⟩
    cases o <;> simp only [ORel, hh] at hor ⊢ <;> exact hor
  inj := h.inj
  fresh := h.fresh
  old b l hb := by rw [hh]; exact h.old b l hb
  kept c o hc := by rw [hh]; exact h.kept c o hc
  apart := h.apart
  env := hv.trans h.env

theorem MRel.get_lt (h : MRel P κ ρ σ w) {b : Nat} {o : AObj L} (ho : σ.get b = some o) : b < σ.next := by
  rcases Nat.lt_or_ge b σ.next with hlt | hge
  · exact hlt
  · rw [(h.fresh b hge).1] at ho; cases ho

theorem MRel.cells (h : MRel P κ ρ σ w) {b : Nat} {vs : List Value} {e : TypeId} {ro : Bool} (ho : σ.get b = some (.cells vs e ro)) {l : Loc} (hl : ρ b = some l) :
    ORel P ρ w l (.cells (L := L) vs e ro) := by
  obtain ⟨l', hr, hor⟩ := h.live b _ ho rfl
  rw [hl] at hr; cases hr; exact hor

theorem MRel.cell (h : MRel P κ ρ σ w) {b : Nat} {vs : List Value} {e : TypeId} {ro : Bool} (ho : σ.get b = some (.cells vs e ro)) {l : Loc} (hl : ρ b = some l)
    {i : Nat} {v : Value} (hv : vs[i]? = some v) : ∃ v', w.cell? ⟨l.blk, l.off + i, none⟩ = some v' ∧ VRel ρ v v' := by
  obtain ⟨arr, fr, hh, hs, hlen, _, hc, _⟩ := h.cells ho hl
  obtain ⟨v', hv', hr⟩ := hc i v hv
  exact ⟨v', by simp [World.cell?, hh, hv'], hr⟩

/-- ρ with one block more. -/
def Rho.add (ρ : Rho) (b : Nat) (l : Loc) : Rho := fun x => if x = b then some l else ρ x
theorem Rho.add_at (ρ : Rho) (b : Nat) (l : Loc) : ρ.add b l b = some l := by simp [Rho.add]
theorem Rho.add_ne (ρ : Rho) {b x : Nat} (l : Loc) (h : x ≠ b) : ρ.add b l x = ρ x := by simp [Rho.add, h]
theorem Rho.le_add {ρ : Rho} {b : Nat} (l : Loc) (h : ρ b = none) : ρ.le (ρ.add b l) := by
  intro x l' hx
  by_cases hxb : x = b
  · subst hxb; rw [h] at hx; cases hx
  · rw [ρ.add_ne l hxb]; exact hx

theorem ORel.mono {ρ' : Rho} (hρ : ρ.le ρ') {l : Loc} {o : AObj L} (h : ORel P ρ w l o) : ORel P ρ' w l o := by
  cases o with
  | cells vs e ro =>
    obtain ⟨arr, fr, hh, hs, hlen, he, hc, hf⟩ := h
    exact ⟨arr, fr, hh, hs, hlen, he, fun i v hv => let ⟨v', h1, h2⟩ := hc i v hv; ⟨v', h1, h2.mono hρ⟩, hf⟩
  | map es =>
    obtain ⟨ces, clock, hh, hst, hn, hk, es', hp, hlen, hc⟩ := h
    exact ⟨ces, clock, hh, hst, hn, hk, es', hp, hlen, fun i kv e h1 h2 => let ⟨a, b⟩ := hc i kv e h1 h2; ⟨a, b.mono hρ⟩⟩
  | logic x => trivial

theorem ORel.of_block {w' : World} {l : Loc} {o : AObj L} (h : ORel P ρ w l o) (hh : w'.heap[l.blk]? = w.heap[l.blk]?) : ORel P ρ w' l o := by
  cases o with
  | cells vs e ro => unfold ORel at *; rw [hh]; exact h
  | map es => unfold ORel at *; rw [hh]; exact h
  | logic x => trivial

/-- A new abstract block over a new block of the model. -/
theorem MRel.put (h : MRel P κ ρ σ w) {b nx : Nat} {o : AObj L} {ob : Obj} {l : Loc} (hb : σ.get b = none) (hr : ρ b = none) (hn : σ.next ≤ nx) (hbn : b < nx) (hlb : l.blk = w.heap.size)
    (hor : ORel P (ρ.add b l) { w with heap := w.heap.push ob } l o) : MRel P κ (ρ.add b l) (σ.put b nx o) { w with heap := w.heap.push ob } where
  live x o' ho hl := by
    rw [AMem.get_put] at ho
    by_cases hx : x = b
    · subst hx
      simp only [if_true, Option.some.injEq] at ho
      subst ho
      exact ⟨l, ρ.add_at _ _, hor⟩
    · rw [if_neg hx] at ho
      obtain ⟨l', hr', hor'⟩ := h.live x o' ho hl
      refine ⟨l', by rw [ρ.add_ne l hx]; exact hr', (hor'.of_block ?_).mono (Rho.le_add l hr)⟩
      have := h.old x l' hr'
      simp [Array.getElem?_push, Nat.ne_of_lt this]
  inj x y o1 o2 l1 l2 h1 h2 hne k1 k2 hro r1 r2 := by
    rw [AMem.get_put] at h1 h2
    by_cases hx : x = b
    · subst hx
      have hy : y ≠ x := fun e => hne e.symm
      rw [ρ.add_at] at r1; cases r1
      rw [ρ.add_ne l hy] at r2
      have := h.old y l2 r2
      omega
    · by_cases hy : y = b
      · subst hy
        rw [ρ.add_at] at r2; cases r2
        rw [ρ.add_ne l hx] at r1
        have := h.old x l1 r1
        omega
      · rw [if_neg hx] at h1; rw [if_neg hy] at h2
        rw [ρ.add_ne l hx] at r1; rw [ρ.add_ne l hy] at r2
        exact h.inj x y o1 o2 l1 l2 h1 h2 hne k1 k2 hro r1 r2
  fresh x hx := by
    have hxb : x ≠ b := by intro e; subst e; exact absurd hbn (by simp [AMem.next_put] at hx; omega)
    rw [AMem.get_put, if_neg hxb, ρ.add_ne l hxb]
    exact h.fresh x (by simp [AMem.next_put] at hx; omega)
  old x l' hx := by
    by_cases hxb : x = b
    · subst hxb; rw [ρ.add_at] at hx; cases hx; simp [hlb]
    · rw [ρ.add_ne l hxb] at hx
      have := h.old x l' hx
      simp; omega
  kept c o' hc := by
    have := h.kept c o' hc
    have hlt : c < w.heap.size := (Array.getElem?_eq_some_iff.1 this).1
    simp only [Array.getElem?_push, Nat.ne_of_lt hlt, if_false]
    exact this
  apart c o' x o'' l' hc hx hl hlr := by
    rw [AMem.get_put] at hx
    by_cases hxb : x = b
    · subst hxb; rw [ρ.add_at] at hlr; cases hlr
      have hlt : c < w.heap.size := (Array.getElem?_eq_some_iff.1 (h.kept c o' hc)).1
      omega
    · rw [if_neg hxb] at hx; rw [ρ.add_ne l hxb] at hlr
      exact h.apart c o' x o'' l' hc hx hl hlr
  env := h.env

/-- A new row of cells; the model's may be longer. -/
theorem ORel.new_cells {w' : World} {c e : Nat} {vs : List Value} {cells : Array Value} {es : Nat} {fr : Nat × Nat} (he : (P.info? e).map (·.size) = some es)
    (hw : w'.heap[c]? = some (.cells cells e fr)) (hv : LRel ρ vs (cells.toList.take vs.length)) (hlen : vs.length ≤ cells.size) (hf : unfrozen fr 0 cells.size) :
    ORel P ρ w' ⟨c, 0, cells.size, es⟩ (.cells (L := L) vs e false) := by
  refine ⟨cells, fr, hw, rfl, by simpa using hlen, he, fun i v hi => ?_, fun _ => hf⟩
  obtain ⟨y, hy, hr⟩ := hv.get hi
  refine ⟨y, ?_, hr⟩
  rw [List.getElem?_take] at hy
  split at hy
  · simpa using hy
  · cases hy

theorem unfrozen_zero (off size : Nat) : unfrozen (0, 0) off size := fun j _ _ h => by have := h.2; simp at this

/-- A block's contents are changed, in place. -/
theorem MRel.change (h : MRel P κ ρ σ w) {w' : World} {b : Nat} {o o' : AObj L} {l : Loc} (ho : σ.get b = some o) (hol : o.isLogic = false) (hro : o.isRo = false) (hro' : o'.isRo = false) (hol' : o'.isLogic = false)
    (hl : ρ b = some l) (hor : ORel P ρ w' l o') (hsz : w'.heap.size = w.heap.size) (hrest : ∀ c, c ≠ l.blk → w'.heap[c]? = w.heap[c]?) (hv : envOf w' = envOf w := by first | rfl | exact env_setCells ..) : MRel P κ ρ (σ.set b o') w' where
  live x o1 hx hxl := by
    rw [AMem.get_set] at hx
    by_cases hxb : x = b
    · subst hxb; simp only [if_true, Option.some.injEq] at hx; subst hx; exact ⟨l, hl, hor⟩
    · rw [if_neg hxb] at hx
      obtain ⟨l1, hr1, hor1⟩ := h.live x o1 hx hxl
      exact ⟨l1, hr1, hor1.of_block (hrest _ (h.inj x b o1 o l1 l hx ho hxb hxl hol (by simp [hro]) hr1 hl))⟩
  inj x y o1 o2 l1 l2 h1 h2 hne k1 k2 hr r1 r2 := by
    rw [AMem.get_set] at h1 h2
    by_cases hx : x = b
    · subst hx
      rw [if_neg (fun e => hne e.symm)] at h2
      exact h.inj x y o o2 l1 l2 ho h2 hne hol k2 (by simp [hro]) r1 r2
    · by_cases hy : y = b
      · subst hy
        rw [if_neg hx] at h1
        exact h.inj x y o1 o l1 l2 h1 ho hne k1 hol (by simp [hro]) r1 r2
      · rw [if_neg hx] at h1; rw [if_neg hy] at h2
        exact h.inj x y o1 o2 l1 l2 h1 h2 hne k1 k2 hr r1 r2
  fresh x hx := by
    have := h.fresh x hx
    refine ⟨?_, this.2⟩
    rw [AMem.get_set]
    split
    · rename_i e; subst e; rw [this.1] at ho; cases ho
    · exact this.1
  old x l' hx := by rw [hsz]; exact h.old x l' hx
  kept c oc hc := by
    rw [hrest c (fun e => h.apart c oc b o l hc ho hol hl e.symm)]
    exact h.kept c oc hc
  apart c oc x o1 l1 hc hx hxl hlx := by
    rw [AMem.get_set] at hx
    by_cases hxb : x = b
    · subst hxb; exact h.apart c oc x o l1 hc ho hol hlx
    · rw [if_neg hxb] at hx; exact h.apart c oc x o1 l1 hc hx hxl hlx
  env := hv.trans h.env

/-- A block is forgotten. -/
theorem MRel.kill (h : MRel P κ ρ σ w) (b : Nat) : MRel P κ ρ (σ.kill b) w where
  live x o hx hl := by
    rw [AMem.get_kill] at hx
    split at hx
    · cases hx
    · exact h.live x o hx hl
  inj x y o1 o2 l1 l2 h1 h2 := by
    rw [AMem.get_kill] at h1 h2
    split at h1
    · cases h1
    · split at h2
      · cases h2
      · exact h.inj x y o1 o2 l1 l2 h1 h2
  fresh x hx := by
    have := h.fresh x hx
    refine ⟨?_, this.2⟩
    rw [AMem.get_kill]; split
    · rfl
    · exact this.1
  old := h.old
  kept := h.kept
  apart c oc x o1 l1 hc hx := by
    rw [AMem.get_kill] at hx
    split at hx
    · cases hx
    · exact h.apart c oc x o1 l1 hc hx
  env := h.env

/-- Fewer blocks, and those as they were. -/
theorem MRel.sub {σ' : AMem L} (h : MRel P κ ρ σ w) (hs : ∀ b o, σ'.get b = some o → o.isLogic = false → σ.get b = some o) (hl : ∀ b, σ.next ≤ b → σ'.get b = none) (hn : σ'.next = σ.next) : MRel P κ ρ σ' w where
  live b o hb hlg := h.live b o (hs b o hb hlg) hlg
  inj x y o1 o2 l1 l2 h1 h2 hne k1 k2 := h.inj x y o1 o2 l1 l2 (hs _ _ h1 k1) (hs _ _ h2 k2) hne k1 k2
  fresh b hb := ⟨hl b (hn ▸ hb), (h.fresh b (hn ▸ hb)).2⟩
  old := h.old
  kept := h.kept
  apart c oc x o1 l1 hc hx hlg := h.apart c oc x o1 l1 hc (hs _ _ hx hlg) hlg
  env := h.env

theorem MRel.skipTo (h : MRel P κ ρ σ w) {nx : Nat} (hn : σ.next ≤ nx) : MRel P κ ρ (σ.skipTo nx) w where
  live := h.live
  inj := h.inj
  fresh b hb := h.fresh b (Nat.le_trans hn hb)
  old := h.old
  kept := h.kept
  apart := h.apart
  env := h.env

/-- The old block's abstract block is dropped, another one stands for the same block of the model ('append' in place). -/
theorem MRel.rename (h : MRel P κ ρ σ w) {w' : World} {b b' nx : Nat} {o o' : AObj L} {l l' : Loc} (ho : σ.get b = some o) (hol : o.isLogic = false) (hro : o.isRo = false) (hro' : o'.isRo = false) (hol' : o'.isLogic = false)
    (hl : ρ b = some l) (hb : σ.get b' = none) (hr : ρ b' = none) (hn : σ.next ≤ nx) (hbn : b' < nx) (hll : l'.blk = l.blk)
    (hor : ORel P (ρ.add b' l') w' l' o') (hsz : w'.heap.size = w.heap.size) (hrest : ∀ c, c ≠ l.blk → w'.heap[c]? = w.heap[c]?) (hv : envOf w' = envOf w := by first | rfl | exact env_setCells ..) :
    MRel P κ (ρ.add b' l') ((σ.kill b).put b' nx o') w' := by
  have hne : b' ≠ b := by intro e; subst e; rw [hb] at ho; cases ho
  exact {
    live := fun x o1 hx hxl => by
      rw [AMem.get_put] at hx
      by_cases hxb : x = b'
      · subst hxb; simp only [if_true, Option.some.injEq] at hx; subst hx; exact ⟨l', ρ.add_at _ _, hor⟩
      · rw [if_neg hxb, AMem.get_kill] at hx
        split at hx
        · cases hx
        · rename_i hxb2
          obtain ⟨l1, hr1, hor1⟩ := h.live x o1 hx hxl
          refine ⟨l1, by rw [ρ.add_ne l' hxb]; exact hr1, (hor1.of_block (hrest _ (h.inj x b o1 o l1 l hx ho hxb2 hxl hol (by simp [hro]) hr1 hl))).mono (Rho.le_add l' hr)⟩
    inj := fun x y o1 o2 l1 l2 h1 h2 hxy k1 k2 hrr r1 r2 => by
      rw [AMem.get_put] at h1 h2
      by_cases hx : x = b'
      · subst hx
        have hy : y ≠ x := fun e => hxy e.symm
        rw [ρ.add_at] at r1; cases r1
        rw [ρ.add_ne _ hy] at r2
        rw [if_neg hy, AMem.get_kill] at h2
        split at h2
        · cases h2
        · rename_i hyb
          have := h.inj y b o2 o l2 l h2 ho hyb k2 hol (by simp [hro]) r2 hl
          omega
      · by_cases hy : y = b'
        · subst hy
          rw [ρ.add_at] at r2; cases r2
          rw [ρ.add_ne _ hx] at r1
          rw [if_neg hx, AMem.get_kill] at h1
          split at h1
          · cases h1
          · rename_i hxb
            have := h.inj x b o1 o l1 l h1 ho hxb k1 hol (by simp [hro]) r1 hl
            omega
        · rw [if_neg hx, AMem.get_kill] at h1; rw [if_neg hy, AMem.get_kill] at h2
          rw [ρ.add_ne _ hx] at r1; rw [ρ.add_ne _ hy] at r2
          split at h1
          · cases h1
          · split at h2
            · cases h2
            · exact h.inj x y o1 o2 l1 l2 h1 h2 hxy k1 k2 hrr r1 r2
    fresh := fun x hx => by
      have hxb : x ≠ b' := by intro e; subst e; exact absurd hbn (by simp [AMem.next_put] at hx; omega)
      have := h.fresh x (by simp [AMem.next_put] at hx; omega)
      rw [AMem.get_put, if_neg hxb, ρ.add_ne l' hxb, AMem.get_kill]
      refine ⟨?_, this.2⟩
      split
      · rfl
      · exact this.1
    old := fun x l1 hx => by
      rw [hsz]
      by_cases hxb : x = b'
      · subst hxb; rw [ρ.add_at] at hx; cases hx; rw [hll]; exact h.old b l hl
      · rw [ρ.add_ne _ hxb] at hx; exact h.old x l1 hx
    kept := fun c oc hc => by
      rw [hrest c (fun e => h.apart c oc b o l hc ho hol hl e.symm)]
      exact h.kept c oc hc
    apart := fun c oc x o1 l1 hc hx hxl hlx => by
      rw [AMem.get_put] at hx
      by_cases hxb : x = b'
      · subst hxb; rw [ρ.add_at] at hlx; cases hlx; rw [hll]; exact h.apart c oc b o l hc ho hol hl
      · rw [if_neg hxb, AMem.get_kill] at hx
        rw [ρ.add_ne _ hxb] at hlx
        split at hx
        · cases hx
        · exact h.apart c oc x o1 l1 hc hx hxl hlx
    env := hv.trans h.env }

end Go.Ax

/- What each operation does to abstract memory. -/
namespace Go.Ax
open Go

def szOf (P : Program) (t : TypeId) : Option Nat := (P.info? t).map (·.size)
def zeroOf (P : Program) (t : TypeId) : Option Value := (P.info? t).bind (·.zero)
def bytesOf (P : Program) (t : TypeId) : Option Nat := (P.info? t).map (·.bytes)
/-- A field's place and size, where it has cells. -/
def fieldAtOf (P : Program) (t : TypeId) (f : Nat) : Option (Nat × Nat) :=
  match P.underlying t with
  | some (.struct fs) => match fs[f]? with
    | some f => match szOf P f.type with
      | some (n + 1) => some (f.offset, n + 1)
      | _ => none
    | none => none
  | _ => none
/-- Is a value of the type several cells (a struct, an array)? -/
def aggOf (P : Program) (t : TypeId) : Option Bool :=
  match P.underlying t with
  | some (.struct _) | some (.array _ _) => some true
  | some _ => some false
  | none => none
def elemOf (P : Program) (t : TypeId) : Option TypeId :=
  match P.underlying t with
  | some (.slice e) => some e
  | _ => none
def arrOf (P : Program) (t : TypeId) : Option (Nat × TypeId) :=
  match P.underlying t with
  | some (.array n e) => some (n, e)
  | _ => none

abbrev Fr := Nat → Value
def Fr.set (F : Fr) (d : Nat) (v : Value) : Fr := fun i => if i = d then v else F i
def Fr.put (F : Fr) : Option Nat → Value → Fr
  | some d, v => F.set d v
  | none, _ => F

def aEval (F : Fr) : Operand → Value
  | .tmp t => F t
  | .const v => v
  | .global _ => undef
  | .func f => .func (.func f) #[] #[]

/-- Cells of a value that a store may lay. -/
def laidCell : Value → Bool
  | .agg _ | .tuple _ | .chan _ => false
  | _ => true
def oneCells (cs : List Value) : Bool := cs.all laidCell

def setAt : List Value → Nat → List Value → List Value
  | vs, _, [] => vs
  | vs, i, c :: cs => setAt (vs.set i c) (i + 1) cs

section
variable {L : Type}

def aLoad (P : Program) (t : TypeId) (b off : Nat) (σ : AMem L) : Option Value :=
  match σ.get b, aggOf P t, szOf P t with
  | some (.cells vs _ _), some false, some _ => vs[off]?
  | some (.cells vs _ _), some true, some n => if off + n ≤ vs.length then some (.agg ((vs.drop off).take n).toArray) else none
  | _, _, _ => none

def aStore (P : Program) (t : TypeId) (b off : Nat) (v : Value) (σ : AMem L) : Option (AMem L) :=
  match σ.get b, cellsOf v, szOf P t with
  | some (.cells vs e false), some cs, some n =>
    if cs.length = n ∧ off + n ≤ vs.length ∧ oneCells cs = true then some (σ.set b (.cells (setAt vs off cs) e false)) else none
  | _, _, _ => none

def intBin (op : BinOp) (k : IntKind) (x y : Int) : Option Value :=
  match op with
  | .add => some (.int k (k.wrap (x + y)))
  | .sub => some (.int k (k.wrap (x - y)))
  | .mul => some (.int k (k.wrap (x * y)))
  | .quo => if y = 0 then none else some (.int k (k.wrap (x.tdiv y)))
  | .rem => if y = 0 then none else some (.int k (x.tmod y))
  | .and => some (.int k (k.wrap (BitVec.ofInt k.bits x &&& BitVec.ofInt k.bits y).toNat))
  | .or => some (.int k (k.wrap (BitVec.ofInt k.bits x ||| BitVec.ofInt k.bits y).toNat))
  | .xor => some (.int k (k.wrap (BitVec.ofInt k.bits x ^^^ BitVec.ofInt k.bits y).toNat))
  | .andNot => some (.int k (k.wrap (BitVec.ofInt k.bits x &&& ~~~BitVec.ofInt k.bits y).toNat))
  | .eql => some (.bool (x == y))
  | .neq => some (.bool (x != y))
  | .lss => some (.bool (decide (x < y)))
  | .leq => some (.bool (decide (x ≤ y)))
  | .gtr => some (.bool (decide (x > y)))
  | .geq => some (.bool (decide (x ≥ y)))
  | _ => none

def shiftBin (op : BinOp) (k : IntKind) (x y : Int) : Option Value :=
  if y < 0 then none else
  match op with
  | .shl => some (.int k (k.wrap (x * 2 ^ (min y.toNat k.bits))))
  | .shr => some (.int k (x.fdiv (2 ^ (min y.toNat k.bits))))
  | _ => none

def strBin (op : BinOp) (x y : ByteArray) : Option Value :=
  match op with
  | .add => if x.size + y.size ≤ 9223372036854775807 then some (.string (x ++ y)) else none
  | .eql => some (.bool (x.toList == y.toList))
  | .neq => some (.bool !(x.toList == y.toList))
  | .lss => some (.bool (Op.bytesLess x.toList y.toList))
  | .leq => some (.bool (Op.bytesLess x.toList y.toList || x.toList == y.toList))
  | .gtr => some (.bool !(Op.bytesLess x.toList y.toList || x.toList == y.toList))
  | .geq => some (.bool !Op.bytesLess x.toList y.toList)
  | _ => none

def isEq : BinOp → Option Bool
  | .eql => some true
  | .neq => some false
  | _ => none

/-- '==' of two values that are no numbers and no strings: bools; one is nil. -/
def eqVal (d : TypeDesc) (x y : Value) : Option Bool :=
  match d, x, y with
  | .bool, .bool a, .bool b => some (a == b)
  | .pointer _, .pointer none, .pointer b => some b.isNone
  | .pointer _, .pointer (some _), .pointer none => some false
  | .slice _, .slice none _ _, .slice b _ _ => some b.isNone
  | .slice _, .slice (some _) _ _, .slice none _ _ => some false
  | .map _ _, .map none, .map b => some b.isNone
  | .map _ _, .map (some _), .map none => some false
  | .func _ _ _, .nilFunc, .nilFunc => some true
  | .func _ _ _, .nilFunc, .func _ _ _ => some false
  | .func _ _ _, .func _ _ _, .nilFunc => some false
  | _, _, _ => none

def aBin (P : Program) (op : BinOp) (t : TypeId) (x y : Value) : Option Value :=
  match x, y with
  | .int k a, .int k' b =>
    match op with
    | .shl | .shr => shiftBin op k a b
    | _ => if k = k' then intBin op k a b else none
  | .string a, .string b => strBin op a b
  | x, y => match isEq op, P.underlying t with
    | some e, some d => (eqVal d x y).map fun r => .bool (if e then r else !r)
    | _, _ => none

def aUn (op : UnOp) (x : Value) : Option Value :=
  match op, x with
  | .neg, .int k n => some (.int k (k.wrap (0 - n)))
  | .xor, .int k n => intBin .xor k (if k.signed then -1 else k.max) n
  | .not, .bool b => some (.bool !b)
  | _, _ => none

/-- The bytes that cells hold. -/
def bytesOfCells : List Value → Option (List UInt8)
  | [] => some []
  | .int .u8 n :: r => (bytesOfCells r).map (UInt8.ofNat n.toNat :: ·)
  | _ => none

def byteVals (l : List UInt8) : List Value := l.map fun b => .int .u8 b.toNat

/-- A slice's cells. -/
def sliceCells (σ : AMem L) (es : Nat) : Value → Option (List Value)
  | .slice none _ _ => some []
  | .slice (some _) 0 _ => some []
  | .slice (some ⟨b, off, none⟩) (n + 1) _ => match σ.get b with
    | some (.cells vs _ _) => if off + (n + 1) * es ≤ vs.length then some ((vs.drop off).take ((n + 1) * es)) else none
    | _ => none
  | _ => none

def aConv (P : Program) (src dst : TypeId) (x : Value) (σ : AMem L) (b nx : Nat) : Option (Value × AMem L) :=
  match P.underlying src, P.underlying dst, x with
  | some _, some (.int k), .int _ n => some (.int k (k.wrap n), σ)
  | some _, some .string, .string s => some (.string s, σ)
  | some _, some (.slice e), .string s =>
    match P.underlying e, szOf P e with
    | some (.int .u8), some 1 => some (.slice (some ⟨b, 0, none⟩) s.size s.size, σ.put b nx (.cells (byteVals s.data.toList) e false))
    | _, _ => none
  | some (.slice e), some .string, .slice a n c =>
    match P.underlying e, (sliceCells σ 1 (.slice a n c)).bind bytesOfCells with
    | some (.int .u8), some l => some (.string ⟨l.toArray⟩, σ)
    | _, _ => none
  | _, _, _ => none

def bound (v : Option Value) (dflt : Nat) (hi : Nat) : Option Nat :=
  match v with
  | none => some dflt
  | some (.int _ i) => if 0 ≤ i ∧ i ≤ hi then some i.toNat else none
  | _ => none

def aSlice (P : Program) (t : TypeId) (x : Value) (lo hi : Option Value) (σ : AMem L) : Option Value :=
  match P.underlying t, x with
  | some .string, .string s => (bound hi s.size s.size).bind fun h => (bound lo 0 h).map fun l => .string (s.extract l h)
  | some (.slice e), .slice none _ _ => (szOf P e).bind fun _ => (bound hi 0 0).bind fun h => (bound lo 0 h).map fun _ => .slice none 0 0
  | some (.slice e), .slice (some a) n _ => match szOf P e, σ.get a.block with
    | some es, some (.cells _ e' _) => if szOf P e' = some es then (bound hi n n).bind fun h => (bound lo 0 h).map fun l => .slice (some { a with off := a.off + l * es }) (h - l) (h - l) else none
    | _, _ => none
  | _, _ => none

def aIndexAddr (P : Program) (t : TypeId) (x ix : Value) : Option Value :=
  match ix, P.underlying t, x with
  | .int _ i, some (.array n e), .pointer (some a) => match szOf P e with
    | some es => if 0 ≤ i ∧ i < n then some (.pointer (some { a with off := a.off + i.toNat * es })) else none
    | none => none
  | .int _ i, some (.slice e), .slice (some a) n _ => match szOf P e with
    | some es => if 0 ≤ i ∧ i < n then some (.pointer (some { a with off := a.off + i.toNat * es })) else none
    | none => none
  | _, _, _ => none

def aPart (P : Program) (t : TypeId) (cs : Array Value) (off : Nat) : Option Value :=
  match aggOf P t, szOf P t with
  | some true, some n => if off + n ≤ cs.size then some (.agg (cs.extract off (off + n))) else none
  | some false, some _ => cs[off]?
  | _, _ => none

def aIndex (P : Program) (t : TypeId) (x ix : Value) : Option Value :=
  match ix, P.underlying t, x with
  | .int _ i, some .string, .string s => if 0 ≤ i then (s[i.toNat]?).map fun b => .int .u8 b.toNat else none
  | .int _ i, some (.array n e), .agg cs => match szOf P e with
    | some es => if 0 ≤ i ∧ i < n then aPart P e cs (i.toNat * es) else none
    | none => none
  | _, _, _ => none

def aField (P : Program) (t : TypeId) (x : Value) (f : Nat) : Option Value :=
  match P.underlying t, x with
  | some (.struct fs), .agg cs => match fs[f]? with
    | some f => aPart P f.type cs f.offset
    | none => none
  | _, _ => none

def aFieldAddr (P : Program) (t : TypeId) (x : Value) (f : Nat) : Option Value :=
  match fieldAtOf P t f, x with
  | some (o, _), .pointer (some a) => some (.pointer (some { a with off := a.off + o }))
  | _, _ => none

/-- A struct literal's cells. -/
def fillA (place : Nat → Option (Nat × Nat)) (cells : Array Value) : List (Nat × Value) → Option (Array Value)
  | [] => some cells
  | (i, v) :: rest =>
    match place i, cellsOf v with
    | some (off, size), some cs => if cs.length ≠ size || off + cs.length > cells.size then none
      else fillA place (setAt cells.toList off cs).toArray rest
    | _, _ => none

/-- The places and sizes of a struct's fields. -/
def placesOf (P : Program) (t : TypeId) : Option (List (Nat × Nat)) :=
  match P.underlying t with
  | some (.struct fs) => fs.toList.mapM fun f => (P.info? f.type).map fun i => (f.offset, i.size)
  | _ => none

def aBuild (P : Program) (t : TypeId) (parts : List (Nat × Value)) : Option Value :=
  match zeroOf P t, placesOf P t with
  | some z, some places => if z.cells.all flat then (fillA (places[·]?) z.cells parts).map .agg else none
  | some z, none => match arrOf P t with
    | some (_, e) => match szOf P e with
      | some es => if z.cells.all flat then (fillA (fun i => some (i * es, es)) z.cells parts).map .agg else none
      | none => none
    | none => none
  | _, _ => none

/-- So many cells, one element's zero again and again. -/
def zeroRow (z : Array Value) (n : Nat) : List Value := (List.range n).map fun i => z[i % z.size]!

def aBuildSlice (P : Program) (t : TypeId) (len : Nat) (parts : List (Nat × Value)) (σ : AMem L) (b nx : Nat) : Option (Value × AMem L) :=
  match elemOf P t with
  | some e => match szOf P e, zeroOf P e with
    | some es, some z => if z.cells.size ≠ es || es = 0 || len * es > 2 ^ 24 || !z.cells.all flat then none else
        match fillA (fun i => some (i * es, es)) (zeroRow z.cells (len * es)).toArray parts with
        | some cs => some (.slice (some ⟨b, 0, none⟩) len len, σ.put b nx (.cells cs.toList e false))
        | none => none
    | _, _ => none
  | none => none

def aMakeSlice (P : Program) (t : TypeId) (len cap : Value) (σ : AMem L) (b nx : Nat) : Option (Value × AMem L) :=
  match elemOf P t, len, cap with
  | some e, .int _ l, .int _ c => match szOf P e, zeroOf P e, bytesOf P e with
    | some es, some z, some by_ => if z.cells.size ≠ es || es = 0 || !z.cells.all flat then none else
        if 0 ≤ l ∧ l ≤ c ∧ c ≤ 9223372036854775807 ∧ by_ * c ≤ 281474976710656 then some (.slice (some ⟨b, 0, none⟩) l.toNat l.toNat, σ.put b nx (.cells (zeroRow z.cells (l.toNat * es)) e false)) else none
    | _, _, _ => none
  | _, _, _ => none

/-- What append takes from its second argument. -/
def aSrc (P : Program) (tx : TypeId) (es : Nat) (σ : AMem L) (x : Value) : Option (Nat × List Value) :=
  match P.underlying tx, x with
  | some (.slice _), .slice a n c => (sliceCells σ es (.slice a n c)).map fun l => (n, l)
  | some .string, .string s => if es = 1 then some (s.size, byteVals s.data.toList) else none
  | _, _ => none

def aAppend (P : Program) (t tx : TypeId) (s x : Value) (σ : AMem L) (b nx : Nat) : Option (Value × AMem L) :=
  match elemOf P t with
  | some e => match szOf P e, zeroOf P e, bytesOf P e with
    | some es, some z, some by_ => match aSrc P tx es σ x, sliceCells σ es s with
      | some (n, news), some olds =>
        if es = 0 || by_ = 0 || z.cells.size ≠ es || !oneCells news || (olds.length + news.length) * by_ > 2 ^ 46 then none else
        match s with
        | .slice none 0 _ => if n = 0 then some (.slice none 0 0, σ) else some (.slice (some ⟨b, 0, none⟩) n n, σ.put b nx (.cells news e false))
        | .slice (some a) len _ =>
          if n = 0 then some (.slice (some a) len len, σ) else
          match σ.get a.block with
          | some (.cells _ e' false) => if e' = e then some (.slice (some ⟨b, 0, none⟩) (len + n) (len + n), (σ.kill a.block).put b nx (.cells (olds ++ news) e false)) else none
          | _ => none
        | _ => none
      | _, _ => none
    | _, _, _ => none
  | none => none

def aLen (P : Program) (t : TypeId) (x : Value) (σ : AMem L) : Option Value :=
  match P.underlying t, x with
  | some .string, .string s => some (.int .i64 s.size)
  | some (.slice _), .slice _ n _ => some (.int .i64 n)
  | some (.map _ _), .map none => some (.int .i64 0)
  | some (.map _ _), .map (some r) => match σ.get r with
    | some (.map es) => some (.int .i64 es.length)
    | _ => none
  | _, _ => none

def aCopy (P : Program) (t : TypeId) (dst src : Value) (σ : AMem L) : Option (Value × AMem L) :=
  match elemOf P t with
  | some e => match szOf P e, dst with
    | some es, .slice (some ⟨b, off, none⟩) dn _ =>
      match σ.get b, (match src with | .string s => (if es = 1 then some (s.size, byteVals s.data.toList) else none) | .slice a n c => (sliceCells σ es (.slice a n c)).map fun l => (n, l) | _ => none) with
      | some (.cells vs e' false), some (n, l) =>
        if es = 0 || !oneCells (l.take (min n dn * es)) || off + dn * es > vs.length then none else
        some (.int .i64 ((min n dn : Nat) : Int), σ.set b (.cells (setAt vs off (l.take (min n dn * es))) e' false))
      | _, _ => none
    | _, _ => none
  | none => none

def keyEq : Value → Value → Bool
  | .int k a, .int k' b => k == k' && a == b
  | .string a, .string b => a == b
  | .bool a, .bool b => a == b
  | _, _ => false

def mapGet (k : Value) : List (Value × Value) → Option Value
  | [] => none
  | (k', v) :: r => if keyEq k k' then some v else mapGet k r
def mapSet (k v : Value) : List (Value × Value) → List (Value × Value)
  | [] => [(k, v)]
  | (k', v') :: r => if keyEq k k' then (k', v) :: r else (k', v') :: mapSet k v r
def mapDel (k : Value) : List (Value × Value) → List (Value × Value)
  | [] => []
  | (k', v') :: r => if keyEq k k' then r else (k', v') :: mapDel k r

/-- Is the key's type one whose values are compared as they stand, and is the key of it? -/
def keyFits (d : TypeDesc) (k : Value) : Bool :=
  match d, k with
  | .int k1, .int k2 _ => k1 == k2
  | .string, .string _ => true
  | .bool, .bool _ => true
  | _, _ => false

def mapOf (P : Program) (t : TypeId) : Option (TypeId × TypeId) :=
  match P.underlying t with
  | some (.map k e) => some (k, e)
  | _ => none

def aLookup (P : Program) (t : TypeId) (m k : Value) (commaOk : Bool) (σ : AMem L) : Option Value :=
  match mapOf P t with
  | some (kt, et) => match P.underlying kt, zeroOf P et with
    | some d, some z =>
      if !keyFits d k || !plain z then none else
      match m with
      | .map none => some (if commaOk then .tuple #[z, .bool false] else z)
      | .map (some r) => match σ.get r with
        | some (.map es) => if es.all (fun kv => keyFits d kv.1) then
            match mapGet k es with
            | some v => some (if commaOk then .tuple #[v, .bool true] else v)
            | none => some (if commaOk then .tuple #[z, .bool false] else z)
          else none
        | _ => none
      | _ => none
    | _, _ => none
  | none => none

def aMapUpdate (P : Program) (t : TypeId) (m k v : Value) (σ : AMem L) : Option (AMem L) :=
  match mapOf P t, m with
  | some (kt, _), .map (some r) => match P.underlying kt, σ.get r with
    | some d, some (.map es) => if keyFits d k && es.all (fun kv => keyFits d kv.1) then some (σ.set r (.map (mapSet k v es))) else none
    | _, _ => none
  | _, _ => none

def aDelete (P : Program) (t : TypeId) (m k : Value) (σ : AMem L) : Option (AMem L) :=
  match mapOf P t, m with
  | some (kt, _), .map (some r) => match P.underlying kt, σ.get r with
    | some d, some (.map es) => if keyFits d k && es.all (fun kv => keyFits d kv.1) then some (σ.set r (.map (mapDel k es))) else none
    | _, _ => none
  | _, _ => none

def aMin (x y : Value) : Option Value :=
  match x, y with
  | .int k a, .int _ b => some (.int k (if b < a then b else a))
  | _, _ => none
def aMax (x y : Value) : Option Value :=
  match x, y with
  | .int k a, .int _ b => some (.int k (if b > a then b else a))
  | _, _ => none

def valued (σ : AMem L) (v : Option Value) : Option (Value × AMem L) := v.map fun v => (v, σ)
def silent (σ : Option (AMem L)) : Option (Value × AMem L) := σ.map fun σ => (undef, σ)

/-- copy into a slice that is nil. -/
def aCopyN (P : Program) (t : TypeId) (d s : Value) : Option Value :=
  match elemOf P t, d with
  | some e, .slice none _ _ => match szOf P e, s with
    | some _, .slice _ _ _ => some (.int .i64 0)
    | some _, .string _ => some (.int .i64 0)
    | _, _ => none
  | _, _ => none

/-- append of a make, to a slice that is nil. -/
def aAppendZ (P : Program) (t : TypeId) (s x : Value) (σ : AMem L) (b nx : Nat) : Option (Value × AMem L) :=
  match elemOf P t, s, x with
  | some e, .slice none 0 _, .int _ k => match szOf P e, zeroOf P e, bytesOf P e with
    | some es, some z, some by_ => if z.cells.size ≠ es || es = 0 || by_ = 0 || !z.cells.all flat then none else
        if 0 < k ∧ k.toNat * by_ ≤ 2 ^ 46 then some (.slice (some ⟨b, 0, none⟩) k.toNat k.toNat, σ.put b nx (.cells (zeroRow z.cells (k.toNat * es)) e false)) else none
    | _, _, _ => none
  | _, _, _ => none

def aCap (P : Program) (t : TypeId) (x : Value) : Option Value :=
  match P.underlying t, x with
  | some (.slice _), .slice none _ _ => some (.int .i64 0)
  | _, _ => none

def aBuiltin (P : Program) (bi : Builtin) (ts : List TypeId) (args : List Value) (σ : AMem L) (b nx : Nat) : Option (Value × AMem L) :=
  match bi, args, ts with
  | .len, [x], [t] => valued σ (aLen P t x σ)
  | .append, [s, x], [t, tx] => (match P.underlying tx with
    | some (.int _) => aAppendZ P t s x σ b nx
    | _ => aAppend P t tx s x σ b nx)
  | .copy, [d, s], t :: _ => (match aCopyN P t d s with
    | some v => some (v, σ)
    | none => aCopy P t d s σ)
  | .delete, [m, k], t :: _ => silent (aDelete P t m k σ)
  | .min, [x, y], _ => valued σ (aMin x y)
  | .max, [x, y], _ => valued σ (aMax x y)
  | .cap, [x], [t] => valued σ (aCap P t x)
  | _, _, _ => none

/-- The cells of two structs, field by field: numbers, strings, bools. -/
def eqCells (P : Program) : List Field → Array Value → Array Value → Option Bool
  | [], _, _ => some true
  | f :: fs, xs, ys =>
    if f.name = "_" then none else
    match P.underlying f.type, xs[f.offset]?, ys[f.offset]? with
    | some (.int _), some (.int k a), some (.int k' b) => if k = k' then (if a == b then eqCells P fs xs ys else some false) else none
    | some .string, some (.string a), some (.string b) => if a == b then eqCells P fs xs ys else some false
    | some .bool, some (.bool a), some (.bool b) => if a == b then eqCells P fs xs ys else some false
    | _, _, _ => none

def eqStruct (P : Program) (t : TypeId) (x y : Value) : Option Bool :=
  match P.underlying t, x, y with
  | some (.struct fs), .agg xs, .agg ys => if P.stoodInHeld t || P.eqGuardType P.depth t then none else eqCells P fs.toList xs ys
  | _, _, _ => none

def isNilWord : Operand → Bool
  | .const .nilIface => true
  | _ => false
def isNilV : Value → Bool
  | .nilIface => true
  | _ => false
def isAggV : Value → Bool
  | .agg _ => true
  | _ => false
def isIfaceT : Option TypeDesc → Bool
  | some (.interface _) => true
  | _ => false

/-- '==' against the word nil, of an interface that is nil; of structs; else as the values say. -/
def aBinO (P : Program) (op : BinOp) (t : TypeId) (x y : Operand) (F : Fr) : Option Value :=
  if isNilWord y && isNilV (aEval F x) && isIfaceT (P.underlying t) then (isEq op).map .bool
  else if isAggV (aEval F x) then (isEq op).bind fun e => (eqStruct P t (aEval F x) (aEval F y)).map fun r => .bool (if e then r else !r)
  else aBin P op t (aEval F x) (aEval F y)

/-- An operation that calls nothing. 'b', 'nx': the next abstract block, and the number behind it. -/
def aOp (P : Program) (op : Op) (F : Fr) (σ : AMem L) (b nx : Nat) : Option (Value × AMem L) :=
  match op with
  | .move x | .assign x => some (aEval F x, σ)
  | .pick c x y => match aEval F c with
    | .bool t => some (if t then aEval F x else aEval F y, σ)
    | _ => none
  | .alloc e => match zeroOf P e, szOf P e with
    | some z, some _ => if z.cells.all flat then some (.pointer (some ⟨b, 0, none⟩), σ.put b nx (.cells z.cells.toList e false)) else none
    | _, _ => none
  | .box e x => match cellsOf (aEval F x), szOf P e with
    | some cs, some _ => some (.pointer (some ⟨b, 0, none⟩), σ.put b nx (.cells cs e false))
    | _, _ => none
  | .build t parts => valued σ (aBuild P t (parts.toList.map fun (i, x) => (i, aEval F x)))
  | .buildSlice t len parts => aBuildSlice P t len (parts.toList.map fun (i, x) => (i, aEval F x)) σ b nx
  | .load t a => match aEval F a with
    | .pointer (some ⟨c, off, none⟩) => valued σ (aLoad P t c off σ)
    | _ => none
  | .store t a x => match aEval F a with
    | .pointer (some ⟨c, off, none⟩) => silent (aStore P t c off (aEval F x) σ)
    | _ => none
  | .nilCheck x => match aEval F x with
    | .pointer (some a) => some (.pointer (some a), σ)
    | .func (.func f) xs us => some (.func (.func f) xs us, σ)
    | _ => none
  | .binOp op t x y _ => valued σ (aBinO P op t x y F)
  | .unOp op _ x => valued σ (aUn op (aEval F x))
  | .convert s d x => aConv P s d (aEval F x) σ b nx
  | .makeFunc fn xs us => some (.func fn (xs.map (aEval F)) (us.map (aEval F)), σ)
  | .makeMap _ none => some (.map (some b), σ.put b nx (.map []))
  | .makeSlice t l c => aMakeSlice P t (aEval F l) (aEval F c) σ b nx
  | .slice t x lo hi none => valued σ (aSlice P t (aEval F x) (lo.map (aEval F)) (hi.map (aEval F)) σ)
  | .fieldAddr t x f => valued σ (aFieldAddr P t (aEval F x) f)
  | .field t x f => valued σ (aField P t (aEval F x) f)
  | .indexAddr t x i => valued σ (aIndexAddr P t (aEval F x) (aEval F i))
  | .index t x i => valued σ (aIndex P t (aEval F x) (aEval F i))
  | .lookup t m k ok => valued σ (aLookup P t (aEval F m) (aEval F k) ok σ)
  | .mapUpdate t m k v => silent (aMapUpdate P t (aEval F m) (aEval F k) (aEval F v) σ)
  | .extract x i => match aEval F x with
    | .tuple vs => valued σ (vs[i]?)
    | _ => none
  | .call { callee := .builtin bi, args, argTypes } => aBuiltin P bi argTypes.toList (args.toList.map (aEval F)) σ b nx
  | _ => none
end

end Go.Ax

/- The operations that read and write cells do in the model what they do to abstract memory. -/
namespace Go.Ax
open Go
variable {L : Type} {P : Program} {κ : Kappa} {ρ : Rho} {σ : AMem L} {w : World}

/-- In the model: the value, the world, the map of blocks, with the block b more at most. -/
def Does (P : Program) (κ : Kappa) (ρ : Rho) (b : Nat) (s : Sem Value) (w : World) (v : Value) (σ' : AMem L) : Prop :=
  ∃ v' w' ρ', s.run P w = .ok v' w' ∧ ρ.le ρ' ∧ (∀ x, x ≠ b → ρ' x = ρ x) ∧ VRel ρ' v v' ∧ MRel P κ ρ' σ' w'

theorem Does.still {b : Nat} {s : Sem Value} {v v' : Value} (hm : MRel P κ ρ σ w) (h : s.run P w = .ok v' w) (hv : VRel ρ v v') : Does P κ ρ b s w v σ :=
  ⟨v', w, ρ, h, ρ.le_refl, fun _ _ => rfl, hv, hm⟩

theorem run_szOf {t n : Nat} (h : szOf P t = some n) (w : World) : (sizeOf t).run P w = .ok n w := by
  unfold szOf at h
  cases hi : P.info? t with
  | none => rw [hi] at h; cases h
  | some i => rw [hi] at h; simp at h; simp [sizeOf, typeInfo, hi, h]

theorem run_zeroOf {t : Nat} {z : Value} (h : zeroOf P t = some z) (w : World) : (zeroValue t).run P w = .ok z w := by
  unfold zeroOf at h
  cases hi : P.info? t with
  | none => rw [hi] at h; cases h
  | some i => rw [hi] at h; simp at h; simp [zeroValue, typeInfo, hi, h]

theorem run_aggOf {t : Nat} {b : Bool} (h : aggOf P t = some b) (w : World) : (isAgg t).run P w = .ok b w := by
  unfold aggOf at h
  simp only [isAgg, Sem.run_bind]
  split at h
  · rename_i fs hu; rw [run_underlying hu]; simp at h; subst h; rfl
  · rename_i n e hu; rw [run_underlying hu]; simp at h; subst h; rfl
  · rename_i d h1 h2 hu
    rw [run_underlying hu]
    simp only [Option.some.injEq] at h
    subst h
    cases d <;> first | rfl | exact absurd rfl (h1 _) | exact absurd rfl (h2 _ _)
  · cases h

theorem add_none (c o n : Nat) : (⟨c, o, none⟩ : Addr).add n = ⟨c, o + n, none⟩ := by unfold Addr.add; split <;> simp_all

/-- So many cells in a row. -/
theorem MRel.row (h : MRel P κ ρ σ w) {b : Nat} {vs : List Value} {e : TypeId} {ro : Bool} (ho : σ.get b = some (.cells vs e ro)) {l : Loc} (hl : ρ b = some l) {off n : Nat} (hn : off + n ≤ vs.length) :
    ∃ cs : List Value, LRel ρ ((vs.drop off).take n) cs ∧ cs.length = n ∧ ∀ (j : Nat) (v : Value), cs[j]? = some v → w.cell? ⟨l.blk, l.off + off + j, none⟩ = some v := by
  obtain ⟨arr, fr, hh, hs, hlen, _, hc, _⟩ := h.cells ho hl
  have hsz : l.off + off + n ≤ arr.size := by omega
  refine ⟨(arr.toList.drop (l.off + off)).take n, ⟨by simp; omega, fun i x y hx hy => ?_⟩, by simp; omega, fun j v hv => ?_⟩
  · have hi : i < n := by
      rcases Nat.lt_or_ge i n with h | h
      · exact h
      · rw [List.getElem?_take] at hx; simp [Nat.not_lt.2 h] at hx
    rw [List.getElem?_take, if_pos hi, List.getElem?_drop] at hx hy
    obtain ⟨v', hv', hr⟩ := hc _ _ hx
    rw [Array.getElem?_toList, show l.off + off + i = l.off + (off + i) by omega, hv'] at hy
    cases hy
    exact hr
  · have hj : j < n := by
      rcases Nat.lt_or_ge j n with h | h
      · exact h
      · rw [List.getElem?_take] at hv; simp [Nat.not_lt.2 h] at hv
    rw [List.getElem?_take, if_pos hj, List.getElem?_drop, Array.getElem?_toList] at hv
    simp [World.cell?, hh, hv]

theorem load_sound {t b off : Nat} {v : Value} {l : Loc} (hm : MRel P κ ρ σ w) (h : aLoad P t b off σ = some v) (hl : ρ b = some l) :
    ∃ v', (Instr.loadAt t (.pointer (some ⟨l.blk, l.off + off, none⟩))).run P w = .ok v' w ∧ VRel ρ v v' := by
  unfold aLoad at h
  split at h
  · rename_i vs e ro n hg ha hs
    obtain ⟨v', hc, hr⟩ := hm.cell hg hl h
    refine ⟨v', ?_, hr⟩
    simp [Instr.loadAt, Instr.sureAddr, loadVar, run_aggOf ha, hc]
  · rename_i vs e ro n hg ha hs
    split at h
    · rename_i hn
      simp only [Option.some.injEq] at h
      subst h
      obtain ⟨cs, hcs, hlen, hcell⟩ := hm.row hg hl hn
      refine ⟨.agg cs.toArray, ?_, VRel.agg_iff.2 (by simpa using hcs)⟩
      have := run_loadCells_list (P := P) w ⟨l.blk, l.off + off, none⟩ cs (fun j v hv => by rw [add_none]; exact hcell j v hv)
      rw [hlen] at this
      simp [Instr.loadAt, Instr.sureAddr, loadVar, run_aggOf ha, run_szOf hs, this]
    · cases h
  · cases h

theorem one_rel {v v' : Value} (h : VRel ρ v v') (h1 : laidCell v = true) : v'.oneCell' = true := by
  cases h <;> first | rfl | (simp [laidCell, undef] at h1)

theorem oneCells_rel {xs ys : List Value} (h : LRel ρ xs ys) (h1 : oneCells xs = true) : ∀ v ∈ ys, v.oneCell' = true := by
  intro v hv
  obtain ⟨i, hi, rfl⟩ := List.getElem_of_mem hv
  have hi' : i < xs.length := by rw [h.1]; exact hi
  have := h.2 i xs[i] ys[i] (List.getElem?_eq_getElem hi') (List.getElem?_eq_getElem hi)
  exact one_rel this (by simpa using List.all_eq_true.1 h1 _ (List.getElem_mem hi'))

theorem setAt_length : ∀ (cs vs : List Value) (i : Nat), (setAt vs i cs).length = vs.length
  | [], _, _ => rfl
  | c :: cs, vs, i => by rw [setAt, setAt_length cs]; simp

theorem setAt_get : ∀ (cs vs : List Value) (i : Nat), i + cs.length ≤ vs.length → ∀ j, (setAt vs i cs)[j]? = if i ≤ j ∧ j < i + cs.length then cs[j - i]? else vs[j]?
  | [], vs, i, _, j => by
    have : ¬ (i ≤ j ∧ j < i + ([] : List Value).length) := by simp only [List.length_nil]; omega
    rw [if_neg this]; rfl
  | c :: cs, vs, i, hl, j => by
    simp only [List.length_cons] at hl
    rw [setAt, setAt_get cs (vs.set i c) (i + 1) (by simp; omega) j]
    by_cases h1 : i + 1 ≤ j ∧ j < i + 1 + cs.length
    · rw [if_pos h1, if_pos (by simp; omega)]
      rw [show j - i = j - (i + 1) + 1 by omega]; simp
    · rw [if_neg h1, List.getElem?_set]
      by_cases h2 : i = j
      · subst h2
        rw [if_pos rfl, if_pos (by omega), if_pos (by simp)]; simp
      · rw [if_neg h2, if_neg (by simp only [List.length_cons]; omega)]

theorem setCells_heap {blk : Nat} {e : TypeId} {fr : Nat × Nat} : ∀ (zs : List Value) (o : Nat) (w : World) (arr : Array Value), w.heap[blk]? = some (.cells arr e fr) → o + zs.length ≤ arr.size →
    (w.setCells blk o zs).heap.size = w.heap.size ∧ (∀ c, c ≠ blk → (w.setCells blk o zs).heap[c]? = w.heap[c]?) ∧
      ∃ arr', (w.setCells blk o zs).heap[blk]? = some (.cells arr' e fr) ∧ arr'.size = arr.size ∧ ∀ j, arr'[j]? = if o ≤ j ∧ j < o + zs.length then zs[j - o]? else arr[j]? := by
  intro zs
  induction zs with
  | nil => intro o w arr hh hl; exact ⟨rfl, fun _ _ => rfl, arr, hh, rfl, fun j => by rw [if_neg (by simp only [List.length_nil]; omega)]⟩
  | cons z zs ih =>
    intro o w arr hh hl'
    simp only [List.length_cons] at hl'
    have hh' : (w.setCell ⟨blk, o, none⟩ z).heap[blk]? = some (.cells (arr.setIfInBounds o z) e fr) := by
      simp [World.setCell, Array.getElem?_modify, hh]
    obtain ⟨s1, s2, arr', s3, s4, s5⟩ := ih (o + 1) (w.setCell ⟨blk, o, none⟩ z) (arr.setIfInBounds o z) hh' (by simp; omega)
    refine ⟨?_, ?_, arr', ?_, ?_, ?_⟩
    · rw [World.setCells, s1]; simp [World.setCell]
    · intro c hc; rw [World.setCells, s2 c hc]; simp [World.setCell, Array.getElem?_modify, Ne.symm hc]
    · rw [World.setCells]; exact s3
    · rw [s4]; simp
    · intro j
      rw [s5 j]
      by_cases hj : o + 1 ≤ j ∧ j < o + 1 + zs.length
      · rw [if_pos hj, if_pos (by simp; omega), show j - o = j - (o + 1) + 1 by omega]; simp
      · rw [if_neg hj, Array.getElem?_setIfInBounds]
        by_cases ho : o = j
        · subst ho; rw [if_pos rfl, if_pos (by omega), if_pos (by simp)]; simp
        · rw [if_neg ho, if_neg (by simp only [List.length_cons]; omega)]

/-- Cells are laid, in place. -/
theorem MRel.setCells (hm : MRel P κ ρ σ w) {b off : Nat} {vs cs ys : List Value} {e : TypeId} {l : Loc} (hg : σ.get b = some (.cells vs e false)) (hl : ρ b = some l)
    (hn : off + cs.length ≤ vs.length) (hr : LRel ρ cs ys) (h1 : oneCells cs = true) :
    (storeCells ⟨l.blk, l.off + off, none⟩ ys).run P w = .ok () (w.setCells l.blk (l.off + off) ys) ∧
      MRel P κ ρ (σ.set b (.cells (setAt vs off cs) e false)) (w.setCells l.blk (l.off + off) ys) := by
  obtain ⟨arr, fr, hh, hs, hlen, hes, hc, hf⟩ := hm.cells hg hl
  have hcell : ∀ j, j < ys.length → (w.cell? ⟨l.blk, l.off + off + 0 + j, none⟩).isSome = true := fun j hj => by
    have : j < cs.length := by rw [hr.1]; exact hj
    have : l.off + off + j < arr.size := by omega
    simp [World.cell?, hh, this]
  have hfz : ∀ j, j < ys.length → w.frozen? ⟨l.blk, l.off + off + 0 + j, none⟩ = false := fun j hj => by
    have : j < cs.length := by rw [hr.1]; exact hj
    have hu := hf rfl (l.off + off + j) (by omega) (by omega)
    simp only [World.frozen?, hh, Nat.add_zero]
    simp only [Bool.and_eq_false_iff, decide_eq_false_iff_not]
    by_cases h : fr.1 ≤ l.off + off + j
    · right; intro h'; exact hu ⟨h, h'⟩
    · left; exact h
  refine ⟨?_, ?_⟩
  · have := run_storeCells_cells (P := P) l.blk (l.off + off) ys 0 w hcell hfz (oneCells_rel hr h1)
    simpa using this
  · obtain ⟨s1, s2, arr', s3, s4, s5⟩ := setCells_heap ys (l.off + off) w arr hh (by rw [← hr.1]; omega)
    refine hm.change hg rfl rfl rfl rfl hl ⟨arr', fr, s3, by omega, by rw [setAt_length]; exact hlen, hes, fun i v hv => ?_, fun _ => hf rfl⟩ s1 s2
    rw [setAt_get cs vs off hn i] at hv
    rw [s5 (l.off + i)]
    by_cases hi : off ≤ i ∧ i < off + cs.length
    · rw [if_pos hi] at hv
      rw [if_pos (by rw [← hr.1]; omega), show l.off + i - (l.off + off) = i - off by omega]
      exact hr.get hv
    · rw [if_neg hi] at hv
      rw [if_neg (by rw [← hr.1]; omega)]
      exact hc i v hv

theorem store_sound {t b off : Nat} {v v' : Value} {σ' : AMem L} {l : Loc} (hm : MRel P κ ρ σ w) (h : aStore P t b off v σ = some σ') (hl : ρ b = some l) (hv : VRel ρ v v') :
    ∃ w', (Instr.storeAt t (.pointer (some ⟨l.blk, l.off + off, none⟩)) v').run P w = .ok () w' ∧ MRel P κ ρ σ' w' ∧ σ'.next = σ.next := by
  unfold aStore at h
  split at h
  · rename_i vs e cs n hg hcs hs
    split at h
    · rename_i hc
      obtain ⟨h1, h2, h3⟩ := hc
      simp only [Option.some.injEq] at h
      subst h
      have hr := cellsOf_rel hv hcs
      have hle : off + cs.length ≤ vs.length := by omega
      obtain ⟨r1, r2⟩ := hm.setCells (cs := cs) hg hl hle hr h3
      refine ⟨_, ?_, r2, rfl⟩
      have hsz : v'.cells.size = n := by have := hr.1; simp at this; omega
      simp only [Instr.storeAt, Instr.sureAddr, storeVar, Sem.run_bind, Sem.run_pure, Result.andThen_ok, run_szOf hs]
      rw [if_neg (by simp [hsz])]
      exact r1
    · cases h
  · cases h

end Go.Ax

/- Operations on values alone. -/
namespace Go.Ax
open Go
variable {L : Type} {P : Program} {ρ : Rho} {w : World}

theorem intBin_sound {op : BinOp} {k : IntKind} {a b : Int} {v : Value} {t : TypeId} (h : intBin op k a b = some v) : (binOp op t (.int k a) (.int k b)).run P w = .ok v w := by
  cases op <;> simp only [intBin, Option.some.injEq, reduceCtorEq] at h
  case quo => split at h <;> simp at h; rename_i h0; subst h; simp [binOp, Op.intDiv, h0]
  case rem => split at h <;> simp at h; rename_i h0; subst h; simp [binOp, Op.intDiv, h0]
  all_goals (subst h; simp only [binOp, ne_eq, not_true_eq_false, if_false]; rfl)

theorem shiftBin_sound {op : BinOp} {k k' : IntKind} {a b : Int} {v : Value} {t : TypeId} (ho : op = .shl ∨ op = .shr) (h : shiftBin op k a b = some v) : (binOp op t (.int k a) (.int k' b)).run P w = .ok v w := by
  unfold shiftBin at h
  split at h
  · cases h
  · rename_i hb
    rcases ho with rfl | rfl <;> simp at h <;> subst h <;> simp [binOp, Op.shift, hb]

theorem strBin_sound {op : BinOp} {a b : ByteArray} {v : Value} {t : TypeId} (h : strBin op a b = some v) : (binOp op t (.string a) (.string b)).run P w = .ok v w := by
  cases op <;> simp [strBin] at h
  case add =>
    obtain ⟨h0, rfl⟩ := h
    have : ¬ (((a.size + b.size : Nat) : Int) > IntKind.i64.max) := by
      have : IntKind.i64.max = 9223372036854775807 := rfl
      rw [this]; omega
    simp only [binOp, Op.stringOp, if_neg this]
    simp
  all_goals (subst h; simp [binOp, Op.stringOp])

theorem eq_base {t : TypeId} {x y : Value} {r : Bool} (h : ∀ d, (Op.equalIn (d + 1) t x y).run P w = .ok r w) : (Op.equal t x y).run P w = .ok r w := h 9999

theorem eqVal_sound {d : TypeDesc} {t : TypeId} {x y x' y' : Value} {r : Bool} (h : eqVal d x y = some r) (hu : P.underlying t = some d) (hx : VRel ρ x x') (hy : VRel ρ y y') :
    (Op.equal t x' y').run P w = .ok r w ∧ ∀ op X Y, (eqGuard op t X Y x' y').run P w = .ok () w := by
  unfold eqVal at h
  split at h <;> first | (cases h; done) | (simp only [Option.some.injEq] at h)
  · have := hx.bool_inv; have := hy.bool_inv; subst_vars
    exact ⟨eq_base fun d => by rw [Op.equalIn, Sem.run_bind, run_underlying hu]; rfl, fun op X Y => by cases op <;> rfl⟩
  · have := hx.nilp_inv; subst_vars
    rename_i b
    cases b with
    | none => have := hy.nilp_inv; subst_vars; exact ⟨eq_base fun d => by rw [Op.equalIn, Sem.run_bind, run_underlying hu]; rfl, fun op X Y => by cases op <;> rfl⟩
    | some a => obtain ⟨l, _, _, rfl⟩ := hy.ptr_inv; exact ⟨eq_base fun d => by rw [Op.equalIn, Sem.run_bind, run_underlying hu]; rfl, fun op X Y => by cases op <;> rfl⟩
  · obtain ⟨l, _, _, rfl⟩ := hx.ptr_inv; have := hy.nilp_inv; subst_vars
    exact ⟨eq_base fun d => by rw [Op.equalIn, Sem.run_bind, run_underlying hu]; rfl, fun op X Y => by cases op <;> rfl⟩
  · obtain ⟨rfl, rfl, rfl⟩ := hx.nils_inv
    rename_i b _ _
    cases b with
    | none => obtain ⟨rfl, rfl, rfl⟩ := hy.nils_inv; subst_vars; exact ⟨eq_base fun d => by rw [Op.equalIn, Sem.run_bind, run_underlying hu]; rfl, fun op X Y => by cases op <;> rfl⟩
    | some a =>
      obtain ⟨_, ⟨l, cap, _, _, _, _, rfl⟩ | ⟨_, x, rfl⟩⟩ := hy.slice_inv <;> subst_vars <;>
      exact ⟨eq_base fun d => by rw [Op.equalIn, Sem.run_bind, run_underlying hu]; rfl, fun op X Y => by cases op <;> rfl⟩
  · obtain ⟨rfl, rfl, rfl⟩ := hy.nils_inv
    obtain ⟨_, ⟨l, cap, _, _, _, _, rfl⟩ | ⟨_, x, rfl⟩⟩ := hx.slice_inv <;> subst_vars <;>
      exact ⟨eq_base fun d => by rw [Op.equalIn, Sem.run_bind, run_underlying hu]; rfl, fun op X Y => by cases op <;> rfl⟩
  · have := hx.nilm_inv; subst_vars
    rename_i b
    cases b with
    | none => have := hy.nilm_inv; subst_vars; exact ⟨eq_base fun d => by rw [Op.equalIn, Sem.run_bind, run_underlying hu]; rfl, fun op X Y => by cases op <;> rfl⟩
    | some a => obtain ⟨l, _, rfl⟩ := hy.map_inv; exact ⟨eq_base fun d => by rw [Op.equalIn, Sem.run_bind, run_underlying hu]; rfl, fun op X Y => by cases op <;> rfl⟩
  · obtain ⟨l, _, rfl⟩ := hx.map_inv; have := hy.nilm_inv; subst_vars
    exact ⟨eq_base fun d => by rw [Op.equalIn, Sem.run_bind, run_underlying hu]; rfl, fun op X Y => by cases op <;> rfl⟩
  · cases hx; cases hy; subst_vars
    exact ⟨eq_base fun d => by rw [Op.equalIn, Sem.run_bind, run_underlying hu]; rfl, fun op X Y => by cases op <;> rfl⟩
  · cases hx; obtain ⟨_, _, rfl, _⟩ := hy.func_inv; subst_vars
    exact ⟨eq_base fun d => by rw [Op.equalIn, Sem.run_bind, run_underlying hu]; rfl, fun op X Y => by cases op <;> rfl⟩
  · cases hy; obtain ⟨_, _, rfl, _⟩ := hx.func_inv; subst_vars
    exact ⟨eq_base fun d => by rw [Op.equalIn, Sem.run_bind, run_underlying hu]; rfl, fun op X Y => by cases op <;> rfl⟩

theorem eqVal_shape {d : TypeDesc} {t : TypeId} {x y x' y' : Value} {r : Bool} (h : eqVal d x y = some r) (hx : VRel ρ x x') (hy : VRel ρ y y') :
    binOp .eql t x' y' = (do pure (.bool (← Op.equal t x' y'))) ∧ binOp .neq t x' y' = (do pure (.bool (!(← Op.equal t x' y')))) := by
  unfold eqVal at h
  split at h <;> first | (cases h; done) | (simp only [Option.some.injEq] at h)
  · have := hx.bool_inv; have := hy.bool_inv; subst_vars
    exact ⟨rfl, rfl⟩
  · have := hx.nilp_inv; subst_vars
    rename_i b
    cases b with
    | none => have := hy.nilp_inv; subst_vars; exact ⟨rfl, rfl⟩
    | some a => obtain ⟨l, _, _, rfl⟩ := hy.ptr_inv; exact ⟨rfl, rfl⟩
  · obtain ⟨l, _, _, rfl⟩ := hx.ptr_inv; have := hy.nilp_inv; subst_vars
    exact ⟨rfl, rfl⟩
  · obtain ⟨rfl, rfl, rfl⟩ := hx.nils_inv
    rename_i b _ _
    cases b with
    | none => obtain ⟨rfl, rfl, rfl⟩ := hy.nils_inv; subst_vars; exact ⟨rfl, rfl⟩
    | some a =>
      obtain ⟨_, ⟨l, cap, _, _, _, _, rfl⟩ | ⟨_, x, rfl⟩⟩ := hy.slice_inv <;> subst_vars <;>
      exact ⟨rfl, rfl⟩
  · obtain ⟨rfl, rfl, rfl⟩ := hy.nils_inv
    obtain ⟨_, ⟨l, cap, _, _, _, _, rfl⟩ | ⟨_, x, rfl⟩⟩ := hx.slice_inv <;> subst_vars <;>
      exact ⟨rfl, rfl⟩
  · have := hx.nilm_inv; subst_vars
    rename_i b
    cases b with
    | none => have := hy.nilm_inv; subst_vars; exact ⟨rfl, rfl⟩
    | some a => obtain ⟨l, _, rfl⟩ := hy.map_inv; exact ⟨rfl, rfl⟩
  · obtain ⟨l, _, rfl⟩ := hx.map_inv; have := hy.nilm_inv; subst_vars
    exact ⟨rfl, rfl⟩
  · cases hx; cases hy; subst_vars
    exact ⟨rfl, rfl⟩
  · cases hx; obtain ⟨_, _, rfl, _⟩ := hy.func_inv; subst_vars
    exact ⟨rfl, rfl⟩
  · cases hy; obtain ⟨_, _, rfl, _⟩ := hx.func_inv; subst_vars
    exact ⟨rfl, rfl⟩


theorem bin_sound {op : BinOp} {t : TypeId} {x y x' y' v : Value} (h : aBin P op t x y = some v) (hx : VRel ρ x x') (hy : VRel ρ y y') (X Y : Operand) :
    (do eqGuard op t X Y x' y'; binOp op t x' y' : Sem Value).run P w = .ok v w := by
  unfold aBin at h
  split at h
  · rename_i k a k' b
    have := hx.int_inv; have := hy.int_inv; subst_vars
    have e : (eqGuard op t X Y (.int k a) (.int k' b)).run P w = .ok () w := by cases op <;> rfl
    simp only [Sem.run_bind, e, Result.andThen_ok]
    split at h
    · exact shiftBin_sound (.inl rfl) h
    · exact shiftBin_sound (.inr rfl) h
    · split at h
      · rename_i hk; subst hk; exact intBin_sound h
      · cases h
  · rename_i a b
    have := hx.string_inv; have := hy.string_inv; subst_vars
    have e : (eqGuard op t X Y (.string a) (.string b)).run P w = .ok () w := by cases op <;> rfl
    simp only [Sem.run_bind, e, Result.andThen_ok]
    exact strBin_sound h
  · split at h
    · rename_i e d he hu
      cases hr : eqVal d x y with
      | none => rw [hr] at h; cases h
      | some r =>
        rw [hr] at h
        simp only [Option.map_some, Option.some.injEq] at h
        obtain ⟨h1, h2⟩ := eqVal_sound (w := w) hr hu hx hy
        obtain ⟨h3, h4⟩ := eqVal_shape (t := t) hr hx hy
        simp only [Sem.run_bind, h2, Result.andThen_ok]
        cases op <;> simp only [isEq, Option.some.injEq, reduceCtorEq] at he
        · subst he; rw [h3]; simp only [Sem.run_bind, h1, Result.andThen_ok, Sem.run_pure]; rw [← h]; rfl
        · subst he; rw [h4]; simp only [Sem.run_bind, h1, Result.andThen_ok, Sem.run_pure]; rw [← h]; rfl
    · cases h

theorem aBin_self {op : BinOp} {t : TypeId} {x y v : Value} (h : aBin P op t x y = some v) : VRel ρ v v := by
  have hb : ∀ b, VRel ρ (.bool b) (.bool b) := fun b => .bool b
  unfold aBin at h
  split at h
  · split at h
    · unfold shiftBin at h; split at h; · cases h
      · split at h <;> simp at h <;> subst h <;> exact .int _ _
    · unfold shiftBin at h; split at h; · cases h
      · split at h <;> simp at h <;> subst h <;> exact .int _ _
    · split at h
      · unfold intBin at h; split at h <;> first | (cases h; done) | (simp only [Option.some.injEq] at h; subst h; first | exact .int _ _ | exact .bool _) | (split at h <;> first | (cases h; done) | (simp only [Option.some.injEq] at h; subst h; exact .int _ _))
      · cases h
  · unfold strBin at h; split at h <;> first | (cases h; done) | (simp only [Option.some.injEq] at h; subst h; first | exact .string _ | exact .bool _) | (split at h <;> first | (cases h; done) | (simp only [Option.some.injEq] at h; subst h; exact .string _))
  · split at h
    · rename_i e d he hu
      cases hr : eqVal d x y with
      | none => rw [hr] at h; cases h
      | some r => rw [hr] at h; simp only [Option.map_some, Option.some.injEq] at h; subst h; exact .bool _
    · cases h

theorem un_sound {op : UnOp} {x x' v : Value} (h : aUn op x = some v) (hx : VRel ρ x x') : (Op.unary op x').run P w = .ok v w ∧ VRel ρ v v := by
  unfold aUn at h
  split at h
  · have := hx.int_inv; subst_vars; simp only [Option.some.injEq] at h; subst h; exact ⟨rfl, .int _ _⟩
  · have := hx.int_inv; subst_vars
    simp only [intBin, Option.some.injEq] at h; subst h; exact ⟨rfl, .int _ _⟩
  · have := hx.bool_inv; subst_vars; simp only [Option.some.injEq] at h; subst h; exact ⟨rfl, .bool _⟩
  · cases h

def OptRel (ρ : Rho) : Option Value → Option Value → Prop
  | none, none => True
  | some a, some b => VRel ρ a b
  | _, _ => False

theorem bound_sound {v : Option Value} {dflt hi n : Nat} (h : bound v dflt hi = some n) {v' : Option Value} (hv : OptRel ρ v v') :
    (v = none ∧ v' = none ∧ n = dflt) ∨ (∃ k i, v' = some (.int k i) ∧ 0 ≤ i ∧ i ≤ hi ∧ n = i.toNat) := by
  cases v with
  | none =>
    cases v' with
    | none => simp only [bound, Option.some.injEq] at h; exact .inl ⟨rfl, rfl, h.symm⟩
    | some b => exact hv.elim
  | some x =>
    cases v' with
    | none => exact hv.elim
    | some b =>
      cases x with
      | int k i =>
        simp only [bound] at h
        split at h
        · rename_i hc
          simp only [Option.some.injEq] at h
          exact .inr ⟨k, i, by rw [VRel.int_inv (show VRel ρ (.int k i) b from hv)], hc.1, hc.2, h.symm⟩
        · cases h
      | _ => cases h

end Go.Ax

/- Slices, indexes, fields. -/
namespace Go.Ax
open Go
variable {L : Type} {P : Program} {κ : Kappa} {ρ : Rho} {σ : AMem L} {w : World}

theorem run_sliceBound_ok {k : IntKind} {i : Int} {y : Nat} {code : BoundsCode} (h0 : 0 ≤ i) (h1 : i ≤ y) : (Instr.sliceBound (.int k i) y code).run P w = .ok i.toNat w := by
  simp [Instr.sliceBound, asIntOf, h0, h1]

theorem run_sliceBounds_ok {isSlice : Bool} {len cap h l : Nat} {lo hi lo' hi' : Option Value} {n : Nat} (hn : n ≤ cap) (hh : bound hi n n = some h) (hl : bound lo 0 h = some l) (hlo : OptRel ρ lo lo') (hhi : OptRel ρ hi hi') (hlen : len = n) :
    (Instr.sliceBounds isSlice len cap lo' hi' none).run P w = .ok (l, h, cap) w ∧ l ≤ h ∧ h ≤ n := by
  rcases bound_sound hh hhi with ⟨_, rfl, rfl⟩ | ⟨k, i, rfl, h0, h1, rfl⟩
  · rcases bound_sound hl hlo with ⟨_, rfl, rfl⟩ | ⟨k, i, rfl, h0, h1, rfl⟩
    · exact ⟨by simp [Instr.sliceBounds, hlen], by omega, by omega⟩
    · subst hlen
      exact ⟨by simp [Instr.sliceBounds, run_sliceBound_ok h0 h1], by omega, by omega⟩
  · have h2 : i ≤ cap := by omega
    rcases bound_sound hl hlo with ⟨_, rfl, rfl⟩ | ⟨k', i', rfl, h0', h1', rfl⟩
    · exact ⟨by simp [Instr.sliceBounds, run_sliceBound_ok h0 h2], by omega, by omega⟩
    · exact ⟨by simp [Instr.sliceBounds, run_sliceBound_ok h0 h2, run_sliceBound_ok h0' h1'], by omega, by omega⟩

theorem run_sliceAt_eq {t : TypeId} {d : TypeDesc} (hu : P.underlying t = some d) (hd : ∀ n e, d ≠ .array n e) (x : Value) (lo hi mx : Option Value) : (Instr.sliceAt t x lo hi mx).run P w = (Instr.slice t x lo hi mx).run P w := by
  simp only [Instr.sliceAt, Sem.run_bind, run_underlying hu, Result.andThen_ok]

theorem slice_sound {t : TypeId} {x x' v : Value} {lo hi lo' hi' : Option Value} (hm : MRel P κ ρ σ w) (h : aSlice P t x lo hi σ = some v) (hx : VRel ρ x x') (hlo : OptRel ρ lo lo') (hhi : OptRel ρ hi hi') :
    ∃ v', (Instr.sliceAt t x' lo' hi' none).run P w = .ok v' w ∧ VRel ρ v v' := by
  unfold aSlice at h
  split at h
  · rename_i s hu
    have := hx.string_inv; subst this
    obtain ⟨hh, h1, h2⟩ := Option.bind_eq_some_iff.1 h
    obtain ⟨l, h3, rfl⟩ := Option.map_eq_some_iff.1 h2
    obtain ⟨r, _, _⟩ := run_sliceBounds_ok (P := P) (w := w) (isSlice := false) (cap := s.size) (Nat.le_refl _) h1 h3 hlo hhi rfl
    refine ⟨_, ?_, .string _⟩
    rw [run_sliceAt_eq hu (by intro n e; simp)]
    simp [Instr.slice, run_underlying hu, r]
  · rename_i e n c hu
    obtain ⟨rfl, rfl, rfl⟩ := hx.nils_inv
    obtain ⟨es, he, h⟩ := Option.bind_eq_some_iff.1 h
    obtain ⟨hh, h1, h2⟩ := Option.bind_eq_some_iff.1 h
    obtain ⟨l, h3, rfl⟩ := Option.map_eq_some_iff.1 h2
    obtain ⟨r, h4, h5⟩ := run_sliceBounds_ok (P := P) (w := w) (isSlice := true) (len := 0) (cap := 0) (Nat.le_refl _) h1 h3 hlo hhi rfl
    obtain rfl : hh = 0 := by omega
    obtain rfl : l = 0 := by omega
    refine ⟨_, ?_, .nils⟩
    rw [run_sliceAt_eq hu (by intro n e; simp)]
    simp [Instr.slice, run_underlying hu, r, run_szOf he]
  · rename_i e a n c hu
    split at h
    · rename_i es vs e' ro he hg
      split at h
      · rename_i he'
        obtain ⟨hh, h1, h2⟩ := Option.bind_eq_some_iff.1 h
        obtain ⟨l, h3, rfl⟩ := Option.map_eq_some_iff.1 h2
        obtain ⟨_, ⟨lc, cap, hr, hsp, hc, hroom, rfl⟩ | ⟨rfl, y, rfl⟩⟩ := hx.slice_inv
        · obtain ⟨r, h4, h5⟩ := run_sliceBounds_ok (P := P) (w := w) (isSlice := true) (len := n) (cap := cap) hc h1 h3 hlo hhi rfl
          have hes : lc.es = es := by
            obtain ⟨_, _, _, _, _, hz, _⟩ := hm.cells hg hr
            unfold szOf at he'
            rw [hz] at he'; simpa using he'
          by_cases hcl : cap = l
          · subst hcl
            obtain rfl : hh = cap := by omega
            refine ⟨.slice (some ⟨lc.blk, lc.off + a.off, none⟩) 0 0, ?_, ?_⟩
            · rw [run_sliceAt_eq hu (by intro n e; simp)]
              simp [Instr.slice, run_underlying hu, r, run_szOf he]
            · rw [Nat.sub_self]; exact .empty _ _
          · refine ⟨.slice (some ⟨lc.blk, lc.off + a.off + l * es, none⟩) (hh - l) (cap - l), ?_, ?_⟩
            · rw [run_sliceAt_eq hu (by intro n e; simp)]
              simp [Instr.slice, run_underlying hu, r, run_szOf he, hcl, add_none]
            · have hsp' : a = ⟨a.block, a.off, none⟩ := by cases a; simp at hsp; simp [hsp]
              rw [hsp']
              have hmul : l * lc.es + (cap - l) * lc.es = cap * lc.es := by rw [← Nat.add_mul]; congr 1; omega
              have := VRel.slice (ρ := ρ) (b := a.block) (off := a.off + l * es) (len := hh - l) (cap := cap - l) hr (by omega) (by rw [← hes]; omega)
              rw [show lc.off + a.off + l * es = lc.off + (a.off + l * es) by omega]
              exact this
        · obtain ⟨r, h4, h5⟩ := run_sliceBounds_ok (P := P) (w := w) (isSlice := true) (len := 0) (cap := 0) (Nat.le_refl _) h1 h3 hlo hhi rfl
          obtain rfl : hh = 0 := by omega
          obtain rfl : l = 0 := by omega
          refine ⟨.slice (some y) 0 0, ?_, .empty _ _⟩
          rw [run_sliceAt_eq hu (by intro n e; simp)]
          simp [Instr.slice, run_underlying hu, r, run_szOf he]
      · cases h
    · cases h
  · cases h

theorem indexAddr_sound {t : TypeId} {x x' ix ix' v : Value} (h : aIndexAddr P t x ix = some v) (hx : VRel ρ x x') (hi : VRel ρ ix ix') : ∃ v', (Instr.indexAt t x' ix').run P w = .ok v' w ∧ VRel ρ v v' := by
  unfold aIndexAddr at h
  split at h
  · rename_i k i n e a hu
    have := hi.int_inv; subst this
    obtain ⟨l, hr, hsp, rfl⟩ := hx.ptr_inv
    split at h
    · rename_i es he
      split at h
      · rename_i hc
        simp only [Option.some.injEq] at h
        subst h
        refine ⟨.pointer (some ⟨l.blk, l.off + a.off + i.toNat * es, none⟩), ?_, ?_⟩
        · simp [Instr.indexAt, asIntOf, run_underlying hu, Instr.sureAddr, hc, run_szOf he, add_none]
        · have := VRel.ptr (ρ := ρ) (b := a.block) (off := a.off + i.toNat * es) hr
          rw [hsp, show l.off + a.off + i.toNat * es = l.off + (a.off + i.toNat * es) by omega]
          exact this
      · cases h
    · cases h
  · rename_i k i e a n c hu
    have := hi.int_inv; subst this
    split at h
    · rename_i es he
      split at h
      · rename_i hc
        simp only [Option.some.injEq] at h
        subst h
        obtain ⟨_, ⟨l, cap, hr, hsp, _, _, rfl⟩ | ⟨rfl, y, rfl⟩⟩ := hx.slice_inv
        · refine ⟨.pointer (some ⟨l.blk, l.off + a.off + i.toNat * es, none⟩), ?_, ?_⟩
          · simp [Instr.indexAt, asIntOf, run_underlying hu, hc, run_szOf he, add_none]
          · have := VRel.ptr (ρ := ρ) (b := a.block) (off := a.off + i.toNat * es) hr
            rw [hsp, show l.off + a.off + i.toNat * es = l.off + (a.off + i.toNat * es) by omega]
            exact this
        · omega
      · cases h
    · cases h
  · cases h

theorem part_sound {t : TypeId} {cs cs' : Array Value} {off : Nat} {v : Value} (h : aPart P t cs off = some v) (hr : LRel ρ cs.toList cs'.toList) : ∃ v', (part t cs' off).run P w = .ok v' w ∧ VRel ρ v v' := by
  unfold aPart at h
  split at h
  · rename_i n ha hn
    split at h
    · rename_i hc
      simp only [Option.some.injEq] at h
      subst h
      refine ⟨.agg (cs'.extract off (off + n)), ?_, ?_⟩
      · simp [part, run_aggOf ha, run_szOf hn]
      · rw [VRel.agg_iff]
        simp only [Array.toList_extract, List.extract_eq_take_drop]
        exact (hr.drop off).take _
    · cases h
  · rename_i n ha hn
    have : cs.toList[off]? = some v := by simpa using h
    obtain ⟨y, hy, hv⟩ := hr.get this
    have hy' : cs'[off]? = some y := by simpa using hy
    refine ⟨y, ?_, hv⟩
    simp [part, run_aggOf ha, hy']
  · cases h

theorem index_sound {t : TypeId} {x x' ix ix' v : Value} (h : aIndex P t x ix = some v) (hx : VRel ρ x x') (hi : VRel ρ ix ix') : ∃ v', (Instr.index t x' ix').run P w = .ok v' w ∧ VRel ρ v v' := by
  unfold aIndex at h
  split at h
  · rename_i k i s hu
    have := hi.int_inv; subst this
    have := hx.string_inv; subst this
    split at h
    · rename_i h0
      obtain ⟨b, hb, rfl⟩ := Option.map_eq_some_iff.1 h
      exact ⟨_, by simp [Instr.index, asIntOf, run_underlying hu, h0, hb], .int _ _⟩
    · cases h
  · rename_i k i n e cs hu
    have := hi.int_inv; subst this
    obtain ⟨cs', rfl, hr⟩ := hx.agg_inv
    split at h
    · rename_i es he
      split at h
      · rename_i hc
        obtain ⟨v', h1, h2⟩ := part_sound (w := w) h hr
        exact ⟨v', by simp [Instr.index, asIntOf, run_underlying hu, hc, run_szOf he, h1], h2⟩
      · cases h
    · cases h
  · cases h

theorem field_sound {t : TypeId} {x x' v : Value} {f : Nat} (h : aField P t x f = some v) (hx : VRel ρ x x') : ∃ v', (Instr.field t x' f).run P w = .ok v' w ∧ VRel ρ v v' := by
  unfold aField at h
  split at h
  · rename_i fs cs hu
    obtain ⟨cs', rfl, hr⟩ := hx.agg_inv
    split at h
    · rename_i fd hf
      obtain ⟨v', h1, h2⟩ := part_sound (w := w) h hr
      exact ⟨v', by simp [Instr.field, run_underlying hu, hf, asAgg, h1], h2⟩
    · cases h
  · cases h

theorem fieldAddr_sound {t : TypeId} {x x' v : Value} {f : Nat} (h : aFieldAddr P t x f = some v) (hx : VRel ρ x x') : ∃ v', (Instr.fieldAt t x' f).run P w = .ok v' w ∧ VRel ρ v v' := by
  unfold aFieldAddr at h
  split at h
  · rename_i o n a hf
    simp only [Option.some.injEq] at h
    subst h
    obtain ⟨l, hr, hsp, rfl⟩ := hx.ptr_inv
    unfold fieldAtOf at hf
    split at hf
    · rename_i fs hu
      split at hf
      · rename_i fd hfd
        split at hf
        · rename_i m hs
          simp only [Option.some.injEq, Prod.mk.injEq] at hf
          obtain ⟨rfl, rfl⟩ := hf
          refine ⟨.pointer (some ⟨l.blk, l.off + a.off + fd.offset, none⟩), ?_, ?_⟩
          · simp [Instr.fieldAt, run_underlying hu, hfd, Instr.sureAddr, fieldPlace, run_szOf hs, add_none]
          · have := VRel.ptr (ρ := ρ) (b := a.block) (off := a.off + fd.offset) hr
            rw [hsp, show l.off + a.off + fd.offset = l.off + (a.off + fd.offset) by omega]
            exact this
        · cases hf
      · cases hf
    · cases hf
  · cases h

theorem beq_same {b : Bool} {r : Bool} {o : Option Bool} (h : (if b then o else some false) = some r) : b = false ∧ r = false ∨ b = true ∧ o = some r := by
  cases b with
  | false => simp only [Bool.false_eq_true, if_false, Option.some.injEq] at h; exact .inl ⟨rfl, h.symm⟩
  | true => simp only [if_true] at h; exact .inr ⟨rfl, h⟩

def eqBody (xs ys : Array Value) (f : Field) (_ : Option Bool × Unit) : Sem (ForInStep (Option Bool × Unit)) :=
  if f.name ≠ "_" then do
    let a ← part f.type xs f.offset
    let b ← part f.type ys f.offset
    let r ← Op.equalIn (9998 + 1) f.type a b
    if (!r) = true then pure (ForInStep.done (some false, ()))
    else pure (ForInStep.yield (none, ()))
  else pure (ForInStep.yield (none, ()))

theorem eqCells_run {xs ys xs' ys' : Array Value} (hx : LRel ρ xs.toList xs'.toList) (hy : LRel ρ ys.toList ys'.toList) : ∀ (fs : List Field) (r : Bool), eqCells P fs xs ys = some r →
    (forIn fs ((none : Option Bool), ()) (eqBody xs' ys')).run P w = .ok (if r then none else some false, ()) w
  | [], r, h => by
    simp only [eqCells, Option.some.injEq] at h; subst h
    simp
  | f :: fs, r, h => by
    simp only [eqCells] at h
    split at h
    · cases h
    · rename_i hname
      have ih := eqCells_run hx hy fs
      have step : ∀ (v u : Value) (b : Bool), (part f.type xs' f.offset).run P w = .ok v w → (part f.type ys' f.offset).run P w = .ok u w → (Op.equalIn (9998 + 1) f.type v u).run P w = .ok b w → (b = false ∧ r = false ∨ b = true ∧ eqCells P fs xs ys = some r) →
          (forIn (f :: fs) ((none : Option Bool), ()) (eqBody xs' ys')).run P w = .ok (if r then none else some false, ()) w := by
        intro v u b h1 h2 h3 h4
        rw [List.forIn_cons]
        rcases h4 with ⟨rfl, rfl⟩ | ⟨rfl, h4⟩
        · simp [eqBody, hname, h1, h2, h3]
        · have := ih r h4
          simp [eqBody, hname, h1, h2, h3, this]
      have key : ∀ (v : Value) (cs cs' : Array Value), LRel ρ cs.toList cs'.toList → aggOf P f.type = some false → cs[f.offset]? = some v → (∀ z, VRel ρ v z → z = v) → (part f.type cs' f.offset).run P w = .ok v w := by
        intro v cs cs' hr ha hv hz
        obtain ⟨z, h1, h2⟩ := hr.get (i := f.offset) (x := v) (by simpa using hv)
        have := hz z h2; subst this
        have h1' : cs'[f.offset]? = some z := by simpa using h1
        simp [part, run_aggOf ha, h1']
      split at h
      · rename_i k0 k a k' b hu hxa hyb
        split at h
        · rename_i hk; subst hk
          have ha : aggOf P f.type = some false := by unfold aggOf; rw [hu]
          exact step _ _ _ (key _ _ _ hx ha hxa fun z hz => hz.int_inv) (key _ _ _ hy ha hyb fun z hz => hz.int_inv) (by rw [Op.equalIn, Sem.run_bind, run_underlying hu]; simp) (beq_same h)
        · cases h
      · rename_i a b hu hxa hyb
        have ha : aggOf P f.type = some false := by unfold aggOf; rw [hu]
        exact step _ _ _ (key _ _ _ hx ha hxa fun z hz => hz.string_inv) (key _ _ _ hy ha hyb fun z hz => hz.string_inv) (by rw [Op.equalIn, Sem.run_bind, run_underlying hu]; simp) (beq_same h)
      · rename_i a b hu hxa hyb
        have ha : aggOf P f.type = some false := by unfold aggOf; rw [hu]
        exact step _ _ _ (key _ _ _ hx ha hxa fun z hz => hz.bool_inv) (key _ _ _ hy ha hyb fun z hz => hz.bool_inv) (by rw [Op.equalIn, Sem.run_bind, run_underlying hu]; simp) (beq_same h)
      · cases h

theorem eqStruct_sound {t : TypeId} {x y x' y' : Value} {r : Bool} (h : eqStruct P t x y = some r) (hx : VRel ρ x x') (hy : VRel ρ y y') :
    (Op.equal t x' y').run P w = .ok r w ∧ (∀ op X Y, (eqGuard op t X Y x' y').run P w = .ok () w) ∧ binOp .eql t x' y' = (do pure (.bool (← Op.equal t x' y'))) ∧ binOp .neq t x' y' = (do pure (.bool (!(← Op.equal t x' y')))) := by
  unfold eqStruct at h
  split at h
  · rename_i fs xs ys hu
    split at h
    · cases h
    · rename_i hc
      simp only [Bool.or_eq_true, not_or, Bool.not_eq_true] at hc
      obtain ⟨xs', rfl, hxr⟩ := hx.agg_inv
      obtain ⟨ys', rfl, hyr⟩ := hy.agg_inv
      refine ⟨?_, fun op X Y => ?_, rfl, rfl⟩
      · show (Op.equalIn (9998 + 1 + 1) t (.agg xs') (.agg ys')).run P w = _
        rw [Op.equalIn, Sem.run_bind, run_underlying hu]
        simp only [Result.andThen_ok, Sem.run_bind, run_program, hc.1, Bool.false_eq_true, if_false]
        have := eqCells_run (w := w) hxr hyr fs.toList r h
        rw [Array.forIn_toList] at this
        have e : (forIn fs ((none : Option Bool), ()) fun f __s =>
              if f.name ≠ "_" then do
                let __do_lift ← part f.type xs' f.offset
                let __do_lift_1 ← part f.type ys' f.offset
                let __do_lift ← Op.equalIn (9998 + 1) f.type __do_lift __do_lift_1
                if (!__do_lift) = true then pure (ForInStep.done (some false, ()))
                  else pure (ForInStep.yield (none, ()))
              else pure (ForInStep.yield (none, ()))) = forIn fs ((none : Option Bool), ()) (eqBody xs' ys') := rfl
        rw [e, this]
        cases r <;> simp
      · cases op <;> simp [eqGuard, run_program, hc.2]
  · cases h

end Go.Ax

/- Operations that make memory. -/
namespace Go.Ax
open Go
variable {L : Type} {P : Program} {κ : Kappa} {ρ : Rho} {σ : AMem L} {w : World}

/-- The number of a new abstract block. -/
structure Free (ρ : Rho) (σ : AMem L) (b nx : Nat) : Prop where
  get : σ.get b = none
  map : ρ b = none
  le : σ.next ≤ nx
  lt : b < nx

theorem Free.next (hm : MRel P κ ρ σ w) : Free ρ σ σ.next (σ.next + 1) :=
  ⟨(hm.fresh _ (Nat.le_refl _)).1, (hm.fresh _ (Nat.le_refl _)).2, by omega, by omega⟩

theorem alloc_does {b nx : Nat} (hm : MRel P κ ρ σ w) (hb : Free ρ σ b nx) {s : Sem Value} {v v' : Value} {w' : World} {cells : Array Value} {vs : List Value} {e es : Nat} {fr : Nat × Nat}
    (he : szOf P e = some es) (hv : LRel ρ vs (cells.toList.take vs.length)) (hlen : vs.length ≤ cells.size) (hf : unfrozen fr 0 cells.size)
    (hrun : s.run P w = .ok v' w') (hw : w'.heap = w.heap.push (.cells cells e fr)) (hval : VRel (ρ.add b ⟨w.heap.size, 0, cells.size, es⟩) v v') (hen : envOf w' = envOf w := by first | rfl | exact env_setCells ..) : Does P κ ρ b s w v (σ.put b nx (.cells vs e false)) := by
  have hle := Rho.le_add ⟨w.heap.size, 0, cells.size, es⟩ hb.map
  refine ⟨v', w', ρ.add b ⟨w.heap.size, 0, cells.size, es⟩, hrun, hle, fun x hx => ρ.add_ne _ hx, hval, ?_⟩
  refine MRel.of_heap (w := { w with heap := w.heap.push (.cells cells e fr) }) ?_ hw hen
  exact hm.put hb.get hb.map hb.le hb.lt rfl (ORel.new_cells he (by simp) (hv.mono hle) hlen hf)

theorem LRel.flat {ρ : Rho} {vs : List Value} (h : vs.all flat = true) : LRel ρ vs vs := LRel.refl_of fun x hx => flat_rel ρ (List.all_eq_true.1 h x hx)

theorem alloc_sound {e n : Nat} {z : Value} {b nx : Nat} (hm : MRel P κ ρ σ w) (hb : Free ρ σ b nx) (hz : zeroOf P e = some z) (hs : szOf P e = some n) (hf : z.cells.all Ax.flat = true) :
    Does P κ ρ b (Instr.alloc e true (.tuple #[])) w (.pointer (some ⟨b, 0, none⟩)) (σ.put b nx (.cells z.cells.toList e false)) := by
  have hf' : z.cells.toList.all Ax.flat = true := by simpa using hf
  have := VRel.ptr (ρ := ρ.add b ⟨w.heap.size, 0, z.cells.size, n⟩) (off := 0) (ρ.add_at b _)
  simp only [Nat.add_zero] at this
  exact alloc_does hm hb hs (cells := z.cells) (fr := (0, 0)) (by rw [List.take_of_length_le (by simp)]; exact LRel.flat hf') (by simp) (unfrozen_zero _ _)
    (by simp only [Instr.alloc, Sem.run_bind, run_zeroOf hz, Result.andThen_ok, newVar, newRow, run_newObj, Sem.run_pure]; rfl) rfl this

theorem box_sound {e n : Nat} {v v' : Value} {cs : List Value} {b nx : Nat} (hm : MRel P κ ρ σ w) (hb : Free ρ σ b nx) (hc : cellsOf v = some cs) (hs : szOf P e = some n) (hv : VRel ρ v v') :
    Does P κ ρ b (Instr.box e v') w (.pointer (some ⟨b, 0, none⟩)) (σ.put b nx (.cells cs e false)) := by
  have hr := cellsOf_rel hv hc
  have hl : cs.length = v'.cells.size := by have := hr.1; simpa using this
  have := VRel.ptr (ρ := ρ.add b ⟨w.heap.size, 0, v'.cells.size, n⟩) (off := 0) (ρ.add_at b _)
  simp only [Nat.add_zero] at this
  exact alloc_does hm hb hs (cells := v'.cells) (fr := (0, 0)) (by rw [List.take_of_length_le (by simp; omega)]; exact hr) (by omega) (unfrozen_zero _ _)
    (by simp only [Instr.box, Sem.run_bind, newVar, newRow, run_newObj, Sem.run_pure, Result.andThen_ok]; rfl) rfl this

theorem foldl_set (ys : List Value) : ∀ (cells : Array Value) (off k : Nat), k + off + ys.length ≤ cells.size → ((ys.zipIdx k).foldl (fun cs (c, j) => cs.setIfInBounds (off + j) c) cells).toList = setAt cells.toList (off + k) ys := by
  induction ys with
  | nil => intro cells off k _; rfl
  | cons y ys ih =>
    intro cells off k hl
    simp only [List.length_cons] at hl
    rw [List.zipIdx_cons, List.foldl_cons, ih _ off (k + 1) (by simp; omega), setAt]
    simp [Nat.add_assoc]

theorem fill_sound {place : Nat → Option (Nat × Nat)} : ∀ (parts parts' : List (Nat × Value)) (cells cells' : Array Value) {r : Array Value}, fillA place cells parts = some r → LRel ρ cells.toList cells'.toList →
    parts.map (·.1) = parts'.map (·.1) → LRel ρ (parts.map (·.2)) (parts'.map (·.2)) → ∃ r', Instr.fill place cells' parts' = some r' ∧ LRel ρ r.toList r'.toList
  | [], parts', cells, cells', r, h, hc, h1, _ => by
    simp only [fillA, Option.some.injEq] at h
    subst h
    have : parts' = [] := by simpa using h1.symm
    subst this
    exact ⟨cells', rfl, hc⟩
  | (i, v) :: rest, parts', cells, cells', r, h, hc, h1, h2 => by
    cases parts' with
    | nil => simp at h1
    | cons p parts' =>
      obtain ⟨i', v'⟩ := p
      simp only [List.map_cons, List.cons.injEq] at h1
      obtain ⟨rfl, h1⟩ := h1
      obtain ⟨y, ys, he, hv, hs⟩ := h2.uncons
      simp only [List.map_cons, List.cons.injEq] at he
      obtain ⟨rfl, rfl⟩ := he
      simp only [fillA] at h
      split at h
      · rename_i off size cs hp hcs
        split at h
        · cases h
        · rename_i hcond
          simp only [Bool.or_eq_true, decide_eq_true_eq, not_or, ne_eq, Decidable.not_not, gt_iff_lt, Nat.not_lt] at hcond
          have hr := cellsOf_rel hv hcs
          have hsz : v'.cells.size = cs.length := by have := hr.1; simpa using this.symm
          have hcsz : cells'.size = cells.size := by have := hc.1; simpa using this.symm
          have hf := foldl_set v'.cells.toList cells' off 0 (by simp; omega)
          have key : Instr.fill place cells' ((i, v') :: parts') = Instr.fill place (v'.cells.zipIdx.foldl (fun cs (c, j) => cs.setIfInBounds (off + j) c) cells') parts' := by
            simp only [Instr.fill, hp]
            rw [if_neg (by simp; omega)]
          rw [key]
          have hfold : v'.cells.zipIdx.foldl (fun cs (c, j) => cs.setIfInBounds (off + j) c) cells' = (setAt cells'.toList off v'.cells.toList).toArray := by
            apply Array.ext'
            rw [← Array.foldl_toList, Array.toList_zipIdx]
            simpa using hf
          rw [hfold]
          refine fill_sound rest parts' _ _ h ?_ h1 hs
          have : ∀ (cs ys xs zs : List Value) (o : Nat), LRel ρ xs zs → LRel ρ cs ys → LRel ρ (setAt xs o cs) (setAt zs o ys) := by
            intro cs
            induction cs with
            | nil => intro ys xs zs o hx hy; rw [hy.nil_left]; exact hx
            | cons c cs ih =>
              intro ys xs zs o hx hy
              obtain ⟨y, ys, rfl, hcy, hcs⟩ := hy.uncons
              exact ih ys _ _ _ (hx.set o hcy) hcs
          exact this cs v'.cells.toList cells.toList cells'.toList off hc hr
      · cases h


/-- The parts of a literal, abstract and the model's. -/
structure PartsRel (ρ : Rho) (parts parts' : List (Nat × Value)) : Prop where
  idx : parts.map (·.1) = parts'.map (·.1)
  val : LRel ρ (parts.map (·.2)) (parts'.map (·.2))

theorem build_sound {t : TypeId} {parts : List (Nat × Value)} {parts' : Array (Nat × Value)} {v : Value} (h : aBuild P t parts = some v) (hp : PartsRel ρ parts parts'.toList) : ∃ v', (Instr.build t parts').run P w = .ok v' w ∧ VRel ρ v v' := by
  unfold aBuild at h
  split at h
  · rename_i z places hz hpl
    split at h
    · rename_i hf
      obtain ⟨r, hr, rfl⟩ := Option.map_eq_some_iff.1 h
      obtain ⟨r', h1, h2⟩ := fill_sound _ _ _ z.cells hr (LRel.flat (by simpa using hf)) hp.idx hp.val
      refine ⟨.agg r', run_build w t parts' r' ?_, VRel.agg_iff.2 h2⟩
      unfold placesOf at hpl
      split at hpl
      · rename_i fs hu
        unfold zeroOf at hz
        cases hi : P.info? t with
        | none => rw [hi] at hz; cases hz
        | some it =>
          rw [hi] at hz
          simp only [Option.bind_some] at hz
          simp only [Program.built, hi, hu, hz, hpl]
          simpa using h1
      · cases hpl
    · cases h
  · rename_i z hz hpl
    split at h
    · rename_i n e ha
      have hu : P.underlying t = some (.array n e) := by
        unfold arrOf at ha; split at ha <;> simp at ha; obtain ⟨rfl, rfl⟩ := ha; assumption
      split at h
      · rename_i es he
        split at h
        · rename_i hf
          obtain ⟨r, hr, rfl⟩ := Option.map_eq_some_iff.1 h
          obtain ⟨r', h1, h2⟩ := fill_sound _ _ _ z.cells hr (LRel.flat (by simpa using hf)) hp.idx hp.val
          refine ⟨.agg r', ?_, VRel.agg_iff.2 h2⟩
          simp [Instr.build, run_zeroOf hz, run_underlying hu, run_szOf he, h1]
        · cases h
      · cases h
    · cases h
  · cases h

theorem zeroRow_rel {z : Array Value} (hf : z.all flat = true) (n : Nat) (hz : 0 < z.size) : (zeroRow z n).all flat = true := by
  rw [List.all_eq_true]
  intro x hx
  obtain ⟨i, _, rfl⟩ := List.mem_map.1 hx
  have hi : i % z.size < z.size := Nat.mod_lt _ hz
  rw [getElem!_pos z (i % z.size) hi]
  exact Array.all_eq_true.1 hf _ hi

theorem zeroRow_take {z : Array Value} {n m : Nat} (h : n ≤ m) : (zeroRow z m).take n = zeroRow z n := by
  unfold zeroRow
  rw [← List.map_take, List.take_range]
  congr 2; omega

theorem zeroRow_arr {z : Array Value} {n : Nat} : ((Array.range n).map (z[· % z.size]!)).toList = zeroRow z n := by
  simp [zeroRow]

theorem zeroRow_length {z : Array Value} {n : Nat} : (zeroRow z n).length = n := by simp [zeroRow]

theorem fillA_size {place : Nat → Option (Nat × Nat)} : ∀ (parts : List (Nat × Value)) (cells : Array Value) {r : Array Value}, fillA place cells parts = some r → r.size = cells.size
  | [], _, _, h => by simp only [fillA, Option.some.injEq] at h; subst h; rfl
  | (i, v) :: rest, cells, r, h => by
    simp only [fillA] at h
    split at h
    · split at h
      · cases h
      · rw [fillA_size rest _ h]; simp [setAt_length]
    · cases h

theorem buildSlice_sound {t : TypeId} {len : Nat} {parts : List (Nat × Value)} {parts' : Array (Nat × Value)} {v : Value} {σ' : AMem L} {b nx : Nat} (hm : MRel P κ ρ σ w) (hb : Free ρ σ b nx)
    (h : aBuildSlice P t len parts σ b nx = some (v, σ')) (hp : PartsRel ρ parts parts'.toList) : Does P κ ρ b (Instr.buildSlice t len parts') w v σ' := by
  unfold aBuildSlice at h
  split at h
  · rename_i e he
    have hu : P.underlying t = some (.slice e) := by
      unfold elemOf at he; split at he <;> simp at he; subst he; assumption
    split at h
    · rename_i es z hs hz
      split at h
      · cases h
      · rename_i hcond
        simp only [Bool.or_eq_true, decide_eq_true_eq, not_or, ne_eq, Decidable.not_not, gt_iff_lt, Nat.not_lt, Bool.not_eq_true'] at hcond
        obtain ⟨⟨⟨c1, c2⟩, c3⟩, c4⟩ := hcond
        split at h
        · rename_i cs hcs
          simp only [Option.some.injEq, Prod.mk.injEq] at h
          obtain ⟨rfl, rfl⟩ := h
          have hfl : z.cells.all Ax.flat = true := by simpa using c4
          have hz' : LRel ρ (zeroRow z.cells (len * es)).toArray.toList ((Array.range (len * es)).map (z.cells[· % z.cells.size]!)).toList := by
            rw [zeroRow_arr]; exact LRel.flat (zeroRow_rel hfl _ (by omega))
          obtain ⟨r', h1, h2⟩ := fill_sound _ _ _ _ hcs hz' hp.idx hp.val
          have hsz := fillA_size _ _ hcs
          have hl : cs.size = len * es := by rw [hsz]; simp [zeroRow_length]
          have hl' : r'.size = len * es := by have := h2.1; simp at this; omega
          have hval := VRel.slice (ρ := ρ.add b ⟨w.heap.size, 0, r'.size, es⟩) (off := 0) (len := len) (cap := len) (ρ.add_at b _) (Nat.le_refl _) (by simp [hl'])
          simp only [Nat.add_zero] at hval
          refine alloc_does hm hb hs (cells := r') (fr := (0, 0)) (by rw [List.take_of_length_le (by simp; omega)]; exact h2) (by simp; omega) (unfrozen_zero _ _) (v' := .slice (some ⟨w.heap.size, 0, none⟩) len len) (w' := { w with heap := w.heap.push (.cells r' e) }) ?_ rfl hval
          have c3' : ¬ (16777216 < len * es) := by omega
          by_cases h0 : len * es = 0
          · have hr0 : r' = #[] := Array.eq_empty_of_size_eq_zero (by omega)
            have e0 : ∀ f : Nat → Value, (Array.range (len * es)).map f = #[] := fun f => Array.eq_empty_of_size_eq_zero (by simp [h0])
            rw [e0] at h1
            simp only [Instr.buildSlice, Sem.run_bind, run_underlying hu, Result.andThen_ok, run_szOf hs, e0, h1]
            rw [if_neg (by omega), if_pos h0]
            simp [newRow, hr0]
          · simp only [Instr.buildSlice, Sem.run_bind, run_underlying hu, Result.andThen_ok, run_szOf hs, h0]
            simp [run_zeroOf hz, h1, newRow, c3']
        · cases h
    · cases h
  · cases h

end Go.Ax
