/- The natives, each with its law. -/
import Derived.Test.YtmnffigepjgnhaaGreatDoorNatSorted
set_option linter.unusedVariables false
set_option linter.unusedSimpArgs false
namespace Go.Proofs
open Go Go.Ax
set_option maxRecDepth 100000
variable {L : Type}

/-! Functions without a body. -/
theorem extFrom : ExtOk PP 122 Tryz.f122 Extern.MathFloatBits.float64frombits := ⟨Tryz.func122, by kernel_rfl, by kernel_rfl, by kernel_rfl, by kernel_rfl⟩
theorem extBits : ExtOk PP 123 Tryz.f123 Extern.MathFloatBits.float64bits := ⟨Tryz.func123, by kernel_rfl, by kernel_rfl, by kernel_rfl, by kernel_rfl⟩
theorem extCmp : ExtOk PP 183 Tryz.f183 Extern.BytealgCompare.compare := ⟨Tryz.func183, by kernel_rfl, by kernel_rfl, by kernel_rfl, by kernel_rfl⟩

def natFrom (args : List Value) : Option Value :=
  match args with
  | [.int .u64 n] => some (.float .f64 n.toNat)
  | _ => none
def natBits (args : List Value) : Option Value :=
  match args with
  | [.float .f64 n] => some (.int .u64 n)
  | _ => none
def natCmp (args : List Value) : Option Value :=
  match args with
  | [.string a, .string b] => some (.int .i64 (Extern.BytealgCompare.cmp a b))
  | _ => none

def nat0 : Natives L := fun f => match f with
  | 122 => some (pureNat natFrom)
  | 123 => some (pureNat natBits)
  | 183 => some (pureNat natCmp)
  | _ => none

noncomputable def rel0 (L : Type) : Rel PP L := physRel PP L

theorem sim_ext3 (rel : Rel PP L) : Sim rel (fun g args σ K => ((False ∨ (g = 122 ∧ ∃ v, natFrom args = some v ∧ K v σ)) ∨ (g = 123 ∧ ∃ v, natBits args = some v ∧ K v σ)) ∨ (g = 183 ∧ ∃ v, natCmp args = some v ∧ K v σ)) := by
  refine Sim.ext (law := fun args σ K => ∃ v, natCmp args = some v ∧ K v σ) (Sim.ext (law := fun args σ K => ∃ v, natBits args = some v ∧ K v σ) (Sim.ext (law := fun args σ K => ∃ v, natFrom args = some v ∧ K v σ) (sim_none rel) extFrom ?_) extBits ?_) extCmp ?_
  · rintro args σ K ⟨v, hv, hK⟩
    unfold natFrom at hv
    split at hv
    · cases hv
      rename_i n
      refine ⟨_, hK, fun ρ args' h => ?_⟩
      obtain ⟨y, ys, h1, h2, h3⟩ := h.uncons
      have h4 := h3.nil_left
      subst h4
      have h5 := h2.int_inv
      subst h5
      have h6 : args' = #[.int .u64 n] := Array.toList_inj.1 h1
      subst h6
      exact ⟨_, .float _ _, fun w => rfl⟩
    · cases hv
  · rintro args σ K ⟨v, hv, hK⟩
    unfold natBits at hv
    split at hv
    · cases hv
      rename_i n
      refine ⟨_, hK, fun ρ args' h => ?_⟩
      obtain ⟨y, ys, h1, h2, h3⟩ := h.uncons
      have h4 := h3.nil_left
      subst h4
      have h5 := h2.float_inv
      subst h5
      have h6 : args' = #[.float .f64 n] := Array.toList_inj.1 h1
      subst h6
      exact ⟨_, .int _ _, fun w => rfl⟩
    · cases hv
  · rintro args σ K ⟨v, hv, hK⟩
    unfold natCmp at hv
    split at hv
    · cases hv
      rename_i a b
      refine ⟨_, hK, fun ρ args' h => ?_⟩
      obtain ⟨y, ys, h1, h2, h3⟩ := h.uncons
      obtain ⟨z, zs, h1', h2', h3'⟩ := h3.uncons
      have h4 := h3'.nil_left
      subst h4
      have h5 := h2.string_inv
      subst h5
      have h5 := h2'.string_inv
      subst h5
      subst h1'
      have h6 : args' = #[.string a, .string b] := Array.toList_inj.1 h1
      subst h6
      exact ⟨_, .int _ _, fun w => rfl⟩
    · cases hv

theorem sim_nat0 (rel : Rel PP L) : Sim rel (runSpec fun f args m => (nat0 (L := L) f).bind fun g => g args m) := by
  refine (sim_ext3 rel).weaken fun g args σ K h => ?_
  obtain ⟨m, v, m', rfl, h, hK⟩ := h
  obtain ⟨gg, h1, h2⟩ := Option.bind_eq_some_iff.1 h
  unfold nat0 at h1
  split at h1
  · cases h1
    obtain ⟨u, hu, he⟩ := Option.map_eq_some_iff.1 h2
    cases he
    exact .inl (.inl (.inr ⟨rfl, _, hu, hK⟩))
  · cases h1
    obtain ⟨u, hu, he⟩ := Option.map_eq_some_iff.1 h2
    cases he
    exact .inl (.inr ⟨rfl, _, hu, hK⟩)
  · cases h1
    obtain ⟨u, hu, he⟩ := Option.map_eq_some_iff.1 h2
    cases he
    exact .inr ⟨rfl, _, hu, hK⟩
  · cases h1

/-! The sort of the disk's names. -/
def nmCurrent : Value := .string ⟨#[99, 117, 114, 114, 101, 110, 116]⟩
def nmList : Value := .string ⟨#[108, 105, 115, 116, 45, 48]⟩
def cmpFn : Value := .func (.func 65) #[] #[]

def same1 : List Value → List Value → Bool
  | [x], [y] => sameC x y
  | [x, y], [u, v] => sameC x u && sameC y v
  | _, _ => false

def isEndT (x : Option (Value × CMem Empty)) : Bool := match x with | some (.tuple ⟨[]⟩, _) => true | _ => false
def isEndB (vs : List Value) (x : Option (Value × CMem Empty)) : Bool := match x with
  | some (.tuple ⟨[]⟩, m) => (match m.tr.get 0 with | some (.cells us e false) => e == 9 && sameL us vs | _ => false)
  | _ => false

set_option maxRecDepth 1000000
theorem sort_nil : isEndT (crun PP tab.get nat0 1000 40 64 [.slice none 0 0, cmpFn] ⟨0, .nil⟩) = true := by kernel_rfl
theorem sort_ab : isEndB [nmCurrent, nmList] (crun PP tab.get nat0 1000 40 64 [.slice (some ⟨0, 0, none⟩) 2 2, cmpFn] ⟨1, .node (some (.cells [nmCurrent, nmList] 9 false)) .nil .nil⟩) = true := by kernel_rfl
theorem sort_ba : isEndB [nmCurrent, nmList] (crun PP tab.get nat0 1000 40 64 [.slice (some ⟨0, 0, none⟩) 2 2, cmpFn] ⟨1, .node (some (.cells [nmList, nmCurrent] 9 false)) .nil .nil⟩) = true := by kernel_rfl

end Go.Proofs
