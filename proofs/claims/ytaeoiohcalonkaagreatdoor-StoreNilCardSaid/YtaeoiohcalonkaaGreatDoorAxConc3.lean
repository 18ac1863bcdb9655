/- Running functions on known values. -/
import Derived.Test.YtaeoiohcalonkaaGreatDoorAxConc2
set_option linter.unusedVariables false
set_option linter.unusedSimpArgs false
namespace Go.Ax
open Go
variable {L : Type} {P : Program}

structure Entry where
  ntmps : Nat
  rs : List ResultVar
  code : Code
  plans : Plans

def Entry.Good (P : Program) (f : Nat) (en : Entry) : Prop := ∃ fn, FnOk P en.plans f fn en.code ∧ fn.ntmps = en.ntmps ∧ fn.results.toList = en.rs

def Tr.ofList {α : Type} : List (Nat × α) → Tr α
  | [] => .nil
  | (i, x) :: l => Tr.forceT ((Tr.ofList l).set i (some x)) id
theorem Tr.ofList_get {α : Type} : ∀ (l : List (Nat × α)) (i : Nat) (x : α), (Tr.ofList l).get i = some x → (i, x) ∈ l
  | [], _, _, h => by cases h
  | (j, y) :: l, i, x, h => by
    simp only [Tr.ofList, Tr.forceT_eq, id, Tr.get_set] at h
    split at h
    · rename_i e; subst e; cases h; exact .head _
    · exact .tail _ (Tr.ofList_get l i x h)

def initF : List Value → Nat → Tr Value → Tr Value
  | [], _, t => t
  | v :: vs, i, t => initF vs (i + 1) (t.set i (some v))

theorem initF_get : ∀ (args : List Value) (i : Nat) (t : Tr Value) (j : Nat), (initF args i t).get j = if i ≤ j ∧ j < i + args.length then args[j - i]? else t.get j
  | [], i, t, j => by
    rw [if_neg (by simp only [List.length_nil]; omega)]; rfl
  | v :: vs, i, t, j => by
    simp only [initF, List.length_cons]
    rw [initF_get vs (i + 1) _ j, Tr.get_set]
    by_cases h1 : i + 1 ≤ j ∧ j < i + 1 + vs.length
    · rw [if_pos h1, if_pos (by omega), show j - i = j - (i + 1) + 1 by omega]; rfl
    · rw [if_neg h1]
      by_cases h2 : j = i
      · subst h2; rw [if_pos rfl, if_pos (by omega)]; simp
      · rw [if_neg h2, if_neg (by omega)]

theorem absF_init (args : List Value) : absF (initF args 0 .nil) = aArgs args := by
  funext i
  simp only [absF, aArgs, initF_get, Tr.get_nil, List.getD_eq_getElem?_getD]
  by_cases h : i < args.length
  · rw [if_pos (by omega)]; simp
  · rw [if_neg (by omega), List.getElem?_eq_none (by omega)]

/-- Functions that are told in Lean. -/
abbrev Natives (L : Type) := FuncId → Option (List Value → CMem L → Option (Value × CMem L))

def crun (P : Program) (tab : FuncId → Option Entry) (nat : Natives L) (N : Nat) : Nat → CCall L
  | 0 => fun _ _ _ => none
  | n + 1 => fun f args m =>
    match nat f with
    | some g => g args m
    | none => match tab f with
      | none => none
      | some en => match Nat.ble args.length en.ntmps with
        | false => none
        | true => Tr.forceT (initF args 0 .nil) fun F => match cCode P (crun P tab nat N n) en.plans N en.code F m with
          | some (.normal, F', m') => (match aResults P en.rs (absF F') m'.abs with
            | some v => headV v fun v => some (v, m')
            | none => none)
          | some (.ret, F', m') => (match aResults P en.rs (absF F') m'.abs with
            | some v => headV v fun v => some (v, m')
            | none => none)
          | _ => none

/-- What a run says, as a law of calls. -/
def runSpec (run : CCall L) : Spec L := fun f args σ K => ∃ m v m', σ = m.abs ∧ run f args m = some (v, m') ∧ K v m'.abs

theorem crun_sim {rel : Rel P L} (hm : P.follows .mixedOrders = true) {tab : FuncId → Option Entry} {nat : Natives L} {N : Nat} (htab : ∀ f en, tab f = some en → en.Good P f)
    (hnat : Sim rel (runSpec fun f args m => (nat f).bind fun g => g args m)) : ∀ n, Sim rel (runSpec (crun P tab nat N n))
  | 0 => by
    rintro f args σ K ⟨m, v, m', _, h, _⟩
    cases h
  | n + 1 => by
    have ih := crun_sim hm htab hnat (N := N) n
    rintro f args σ K ⟨m, v, m', rfl, h, hK⟩
    simp only [crun] at h
    split at h
    · rename_i g hg
      exact hnat f args m.abs K ⟨m, v, m', rfl, by simp only [hg, Option.bind_some]; exact h, hK⟩
    · split at h
      · cases h
      · rename_i en hen
        obtain ⟨fn, hok, hnt, hrs⟩ := htab f en hen
        refine Sim.add ih hm hok (law := fun args σ K => args = args ∧ aBody P (runSpec (crun P tab nat N n)) en.plans fn en.code args σ K) (fun _ _ _ h => h.2) f args m.abs K (.inr ⟨rfl, rfl, ?_⟩)
        split at h
        · cases h
        · rename_i hlen
          rw [Tr.forceT_eq] at h
          refine ⟨by rw [hnt]; exact Nat.le_of_ble_eq_true hlen, ?_⟩
          rw [← absF_init]
          have hfit : CallsFit (crun P tab nat N n) (runSpec (crun P tab nat N n)) := fun g as m v m' h K hK => ⟨m, v, m', rfl, h, hK⟩
          split at h
          · rename_i F' m1 hc
            refine cCode_sound hfit _ _ _ _ _ _ _ hc ?_
            split at h
            · rename_i v1 hv
              rw [headV_eq] at h
              cases h
              simp only [aEnd, hrs, hv]; exact hK
            · cases h
          · rename_i F' m1 hc
            refine cCode_sound hfit _ _ _ _ _ _ _ hc ?_
            split at h
            · rename_i v1 hv
              rw [headV_eq] at h
              cases h
              simp only [aEnd, hrs, hv]; exact hK
            · cases h
          · cases h

end Go.Ax
