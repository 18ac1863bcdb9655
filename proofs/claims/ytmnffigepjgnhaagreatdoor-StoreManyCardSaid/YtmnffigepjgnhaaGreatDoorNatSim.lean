/- The natives together. -/
import Derived.Test.YtmnffigepjgnhaaGreatDoorNatAll
set_option linter.unusedVariables false
set_option linter.unusedSimpArgs false
namespace Go.Proofs
open Go Go.Ax
set_option maxRecDepth 100000

theorem perm_two {α : Type} {x y : α} {l : List α} (h : l.Perm [x, y]) : l = [x, y] ∨ l = [y, x] := by
  have hl := h.length_eq
  match l, hl with
  | [a, b], _ =>
    have ha : a ∈ [x, y] := h.mem_iff.1 (by simp)
    rcases List.mem_cons.1 ha with rfl | ha
    · have := (List.perm_cons a).1 h
      rw [List.perm_singleton.1 this]; exact .inl rfl
    · have hay : a = y := by simpa using ha
      subst hay
      have := (List.perm_cons a).1 (h.trans (List.Perm.swap a x []))
      rw [List.perm_singleton.1 this]; exact .inr rfl

abbrev SF : FuncId := 64
abbrev nmA : List Value := [nmCurrent, nmList]
abbrev nmB : List Value := [nmList, nmCurrent]

def callSort : Ax.Spec Empty := fun g xs σ K =>
  (((g = SF ∧ xs = [.slice none 0 0, cmpFn]) ∧ K (.tuple #[]) σ) ∨
    (g = SF ∧ ∃ b, xs = .slice (some ⟨b, 0, none⟩) 2 2 :: [cmpFn] ∧ σ.get b = some (.cells nmA 9 false) ∧ K (.tuple #[]) (σ.set b (.cells nmA 9 false)))) ∨
    (g = SF ∧ ∃ b, xs = .slice (some ⟨b, 0, none⟩) 2 2 :: [cmpFn] ∧ σ.get b = some (.cells nmB 9 false) ∧ K (.tuple #[]) (σ.set b (.cells nmA 9 false)))

theorem sim_run0 (n : Nat) : Sim (physRel PP Empty) (runSpec (crun PP tab.get nat0 1000 n)) := crun_sim mixed tab_good (sim_nat0 _) n

theorem endT_law {f : FuncId} {xs : List Value} {m : CMem Empty} (h : isEndT (crun PP tab.get nat0 1000 40 f xs m) = true) : runSpec (crun PP tab.get nat0 1000 40) f xs m.abs (fun u _ => u = .tuple #[]) := by
  unfold isEndT at h
  split at h
  · rename_i m' he
    exact ⟨m, _, m', rfl, he, rfl⟩
  · cases h

theorem endB_law {f : FuncId} {xs vs : List Value} {m : CMem Empty} (h : isEndB vs (crun PP tab.get nat0 1000 40 f xs m) = true) :
    runSpec (crun PP tab.get nat0 1000 40) f xs m.abs (fun u σ1 => u = .tuple #[] ∧ σ1.get 0 = some (.cells vs 9 false)) := by
  unfold isEndB at h
  split at h
  · rename_i m' he
    split at h
    · rename_i us e hg
      simp only [Bool.and_eq_true, beq_iff_eq] at h
      obtain ⟨rfl, h2⟩ := h
      rw [sameL_eq h2] at hg
      exact ⟨m, _, m', rfl, he, rfl, hg⟩
    · cases h
  · cases h

theorem abs_nil : (⟨0, .nil⟩ : CMem Empty).abs = ⟨0, fun _ => none⟩ := amem_ext rfl fun _ => rfl
theorem abs_one (vs : List Value) : (⟨1, .node (some (.cells vs 9 false)) .nil .nil⟩ : CMem Empty).abs = oneBlk vs 9 := by
  refine amem_ext rfl fun x => ?_
  cases x with
  | zero => rfl
  | succ x =>
    show (Tr.node (some (.cells vs 9 false)) .nil .nil : Tr (AObj Empty)).get (x + 1) = if x + 1 = 0 then some (.cells vs 9 false) else none
    rw [Tr.get_succ, if_neg (show ¬ (x + 1 = 0) by omega)]
    split <;> rfl

theorem sim_sort (rel : Rel PP Empty) : Sim rel callSort := by
  refine ((Sim.pure (sim_run0 40) (args := [.slice none 0 0, cmpFn]) (v := .tuple #[]) rfl rfl ?_).or (Sim.block (sim_run0 40) (rest := [cmpFn]) (v := .tuple #[]) (n := 2) (vs := nmA) (vs' := nmA) (e := 9) (by omega) rfl rfl rfl rfl rfl ?_)).or
    (Sim.block (sim_run0 40) (rest := [cmpFn]) (v := .tuple #[]) (n := 2) (vs := nmB) (vs' := nmA) (e := 9) (by omega) rfl rfl rfl rfl rfl ?_)
  · have := endT_law sort_nil
    rw [abs_nil] at this; exact this
  · have := endB_law sort_ab
    rw [abs_one] at this; exact this
  · have := endB_law sort_ba
    rw [abs_one] at this; exact this

def natSorted (args : List Value) (m : CMem Empty) : Option (Value × CMem Empty) :=
  match args with
  | [.map (some r)] => match m.tr.get r with
    | some (.map es) => match Nat.blt r m.next && strKeys es with
      | true => (match es with
        | [] => forceN (m.next + 1) fun nx => some (.slice none 0 0, ⟨nx, m.tr⟩)
        | _ => match sameL (es.map (·.1)) nmA || sameL (es.map (·.1)) nmB with
          | true => forceN (m.next + 4) fun b => Tr.forceT (m.tr.set b (some (.cells nmA 9 false))) fun t => some (.slice (some ⟨b, 0, none⟩) 2 2, ⟨b + 1, t⟩)
          | false => none)
      | false => none
    | _ => none
  | _ => none

theorem sorted_law (args : List Value) (σ : AMem Empty) (K : Value → AMem Empty → Prop) (hwf : ∀ b, σ.next ≤ b → σ.get b = none) (h : runSpec (fun _ args m => natSorted args m) 0 args σ K) :
    aBodyX PP callSort plans28 Tryz.f28 code28 args σ (fun v σ1 => ∃ σ', Less σ1 σ' ∧ K v σ') := by
  obtain ⟨m, v, m', rfl, h, hK⟩ := h
  simp only at h
  unfold natSorted at h
  split at h
  · rename_i r
    split at h
    · rename_i es hr
      split at h
      · rename_i hb
        rw [Bool.and_eq_true, Nat.blt_eq] at hb
        split at h
        · rw [forceN_eq] at h
          cases h
          refine sorted_body callSort _ r [] m.abs hr hb.1 hb.2 (by simp) [] (fun σ1 K hK => .inl (.inl ⟨⟨rfl, rfl⟩, hK⟩)) (fun ks hne hp => absurd (by simpa using hp) hne) (fun _ σ1 hn hg => ⟨_, ⟨?_, fun x => ?_⟩, hK⟩) (fun h => absurd rfl h)
          · rw [hn]; exact Nat.le_refl _
          · show m.tr.get x = σ1.get x ∨ _
            by_cases hx : x < m.abs.next
            · exact .inl (hg x hx).symm
            · have h1 : m.tr.get x = none := hwf x (by omega)
              cases h2 : σ1.get x with
              | none => exact .inl h1
              | some o =>
                cases o with
                | logic y => exact y.elim
                | _ => exact .inr (.inl ⟨h1, fun y h => by cases h⟩)
        · rename_i hne
          split at h
          · rename_i hs
            rw [forceN_eq, Tr.forceT_eq] at h
            cases h
            have hk : es.map (·.1) = nmA ∨ es.map (·.1) = nmB := by
              rw [Bool.or_eq_true] at hs
              exact hs.imp sameL_eq sameL_eq
            have hlen : es.length = 2 := by
              rcases hk with hk | hk
              · have := congrArg List.length hk; simpa using this
              · have := congrArg List.length hk; simpa using this
            refine sorted_body callSort _ r es m.abs hr hb.1 hb.2 (by omega) nmA (fun σ1 K hK => .inl (.inl ⟨⟨rfl, rfl⟩, hK⟩)) (fun ks _ hp σ1 b K hg hK => ?_) (fun h => absurd h (by rintro rfl; simp at hlen)) (fun _ σ1 hn hg hB => ?_)
            · have hks : ks = nmA ∨ ks = nmB := by
                rcases hk with hk | hk
                · rw [hk] at hp; exact perm_two hp
                · rw [hk] at hp; exact (perm_two hp).symm
              rcases hks with rfl | rfl
              · exact .inl (.inr ⟨rfl, b, rfl, hg, hK⟩)
              · exact .inr ⟨rfl, b, rfl, hg, hK⟩
            · rw [hlen] at hn hB ⊢
              refine ⟨_, ⟨?_, fun x => ?_⟩, hK⟩
              · rw [hn]; exact Nat.le_refl _
              · have e : (⟨m.next + 4 + 1, m.tr.set (m.next + 4) (some (.cells nmA 9 false))⟩ : CMem Empty).abs.get x = if x = m.abs.next + 4 then some (.cells nmA 9 false) else m.abs.get x := Tr.get_set ..
                rw [e]
                by_cases hx : x = m.abs.next + 4
                · subst hx; rw [if_pos rfl, hB]; exact .inl rfl
                · rw [if_neg hx]
                  by_cases hx2 : x < m.abs.next
                  · exact .inl (hg x hx2).symm
                  · have h1 : m.abs.get x = none := hwf x (by omega)
                    cases h2 : σ1.get x with
                    | none => exact .inl h1
                    | some o =>
                      cases o with
                      | logic y => exact y.elim
                      | _ => exact .inr (.inl ⟨h1, fun y h => by cases h⟩)
          · cases h
      · cases h
    · cases h
  · cases h

/-! All of them. -/
def nat1 : Natives Empty := fun f => match f with
  | 122 => some (pureNat natFrom)
  | 123 => some (pureNat natBits)
  | 183 => some (pureNat natCmp)
  | 80 => some natSize
  | 141 => some natCopied
  | 28 => some natSorted
  | _ => none

theorem sim_size (rel : Rel PP Empty) : Sim rel (fun g xs σ K => g = 80 ∧ runSpec (fun _ args m => natSize args m) 0 xs σ K) :=
  (Sim.addX (sim_none rel) mixed fnokx80 (law := fun xs σ K => runSpec (fun _ args m => natSize args m) 0 xs σ K) (fun xs σ K h => size_law _ xs σ K h)).weaken fun _ _ _ _ h => .inr h
theorem sim_copied (rel : Rel PP Empty) : Sim rel (fun g xs σ K => g = 141 ∧ runSpec (fun _ args m => natCopied args m) 0 xs σ K) :=
  Sim.less (Sim.addX (sim_none rel) mixed fnokx141 (law := fun xs σ K => aBodyX PP (fun _ _ _ _ => False) plans141 Tryz.f141 code141 xs σ K) (fun _ _ _ h => h)) fun _ xs σ K _ h => .inr ⟨h.1, copied_law _ xs σ K h.2⟩
theorem sim_sorted (rel : Rel PP Empty) : Sim rel (fun g xs σ K => g = 28 ∧ runSpec (fun _ args m => natSorted args m) 0 xs σ K) :=
  Sim.less (Sim.addX (sim_sort rel) mixed fnokx28 (law := fun xs σ K => aBodyX PP callSort plans28 Tryz.f28 code28 xs σ K) (fun _ _ _ h => h)) fun _ xs σ K hw h => .inr ⟨h.1, sorted_law xs σ K hw h.2⟩

theorem sim_nat1 (rel : Rel PP Empty) : Sim rel (runSpec fun f args m => (nat1 f).bind fun g => g args m) := by
  refine ((((sim_nat0 rel).or (sim_size rel)).or (sim_copied rel)).or (sim_sorted rel)).weaken fun g args σ K h => ?_
  obtain ⟨m, v, m', rfl, h, hK⟩ := h
  obtain ⟨gg, h1, h2⟩ := Option.bind_eq_some_iff.1 h
  unfold nat1 at h1
  split at h1
  · cases h1; exact .inl (.inl (.inl ⟨m, v, m', rfl, h2, hK⟩))
  · cases h1; exact .inl (.inl (.inl ⟨m, v, m', rfl, h2, hK⟩))
  · cases h1; exact .inl (.inl (.inl ⟨m, v, m', rfl, h2, hK⟩))
  · cases h1; exact .inl (.inl (.inr ⟨rfl, m, v, m', rfl, h2, hK⟩))
  · cases h1; exact .inl (.inr ⟨rfl, m, v, m', rfl, h2, hK⟩)
  · cases h1; exact .inr ⟨rfl, m, v, m', rfl, h2, hK⟩
  · cases h1

theorem sim_run1 (rel : Rel PP Empty) (n : Nat) : Sim rel (runSpec (crun PP tab.get nat1 1000 n)) := crun_sim mixed tab_good (sim_nat1 rel) n

def isTrue (x : Option (Value × CMem Empty)) : Bool := match x with | some (.bool true, _) => true | _ => false
set_option maxRecDepth 1000000
end Go.Proofs
