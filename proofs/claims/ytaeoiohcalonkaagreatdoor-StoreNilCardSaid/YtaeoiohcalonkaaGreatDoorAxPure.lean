/- Calls in any memory: runs that touch nothing; memory that says less. -/
import Derived.Test.YtaeoiohcalonkaaGreatDoorAxNat
import Derived.Test.YtaeoiohcalonkaaGreatDoorAxRangeX
set_option linter.unusedVariables false
set_option linter.unusedSimpArgs false
namespace Go.Ax
open Go
variable {L : Type} {P : Program} {rel : Rel P L} {call call' : Spec L}

theorem Sim.or (h : Sim rel call) (h' : Sim rel call') : Sim rel (fun g args σ K => call g args σ K ∨ call' g args σ K) := by
  intro g args σ K hc κ ρ w args' hargs hR
  rcases hc with hc | hc
  · exact h g args σ K hc κ ρ w args' hargs hR
  · exact h' g args σ K hc κ ρ w args' hargs hR

theorem Sim.weaken (h : Sim rel call) (hw : ∀ g args σ K, call' g args σ K → call g args σ K) : Sim rel call' :=
  fun g args σ K hc => h g args σ K (hw g args σ K hc)

/-- What says less: blocks gone, a map's entries in another order, more numbers taken. -/
structure Less (σ σ' : AMem L) : Prop where
  next : σ.next ≤ σ'.next
  get : ∀ b, σ'.get b = σ.get b ∨ (σ'.get b = none ∧ ∀ x, σ.get b ≠ some (.logic x)) ∨ ∃ es es', σ.get b = some (.map es) ∧ σ'.get b = some (.map es') ∧ es.Perm es'

theorem Less.refl (σ : AMem L) : Less σ σ := ⟨Nat.le_refl _, fun _ => .inl rfl⟩

theorem Less.logic {σ σ' : AMem L} (h : Less σ σ') : SameLogic σ σ' := by
  intro b x
  rcases h.get b with e | ⟨e, hn⟩ | ⟨es, es', e1, e2, _⟩
  · rw [e]
  · rw [e]; exact ⟨fun h => (by cases h), fun h => absurd h (hn x)⟩
  · rw [e1, e2]; simp

theorem MRel.less {κ : Kappa} {ρ : Rho} {σ σ' : AMem L} {w : World} (h : MRel P κ ρ σ w) (hl : Less σ σ') (hn : ∀ b, σ'.next ≤ b → ρ b = none) : MRel P κ ρ σ' w := by
  have key : ∀ b o, σ'.get b = some o → ∃ o', σ.get b = some o' ∧ o'.isLogic = o.isLogic ∧ o'.isRo = o.isRo := by
    intro b o ho
    rcases hl.get b with e | ⟨e, _⟩ | ⟨es, es', e1, e2, _⟩
    · exact ⟨o, by rw [← e]; exact ho, rfl, rfl⟩
    · rw [e] at ho; cases ho
    · rw [e2] at ho; cases ho
      exact ⟨_, e1, rfl, rfl⟩
  refine { live := fun b o ho hlo => ?_, inj := fun b c o o' l l' hb hc hbc hx hy hro => ?_, fresh := fun b hb => ⟨?_, hn b hb⟩, old := h.old, kept := h.kept, apart := fun c o b o' l hc hb hlo => ?_, env := h.env }
  · rcases hl.get b with e | ⟨e, _⟩ | ⟨es, es', e1, e2, hp⟩
    · exact h.live b o (by rw [← e]; exact ho) hlo
    · rw [e] at ho; cases ho
    · rw [e2] at ho; cases ho
      obtain ⟨l, hr, ces, clock, h1, h2, h3, h4, es2, h5, h6, h7⟩ := h.live b _ e1 rfl
      refine ⟨l, hr, ces, clock, h1, h2, ((hp.map _).nodup_iff).1 h3, fun k hk => h4 k (((hp.map _).mem_iff).2 hk), es2, h5.trans hp, h6, h7⟩
  · obtain ⟨o1, b1, b2, b3⟩ := key b o hb
    obtain ⟨o2, c1, c2, c3⟩ := key c o' hc
    exact h.inj b c o1 o2 l l' b1 c1 hbc (by rw [b2]; exact hx) (by rw [c2]; exact hy) (by rw [b3, c3]; exact hro)
  · rcases hl.get b with e | ⟨e, _⟩ | ⟨es, es', e1, e2, hp⟩
    · rw [e]; exact (h.fresh b (Nat.le_trans hl.next hb)).1
    · exact e
    · rw [(h.fresh b (Nat.le_trans hl.next hb)).1] at e1; cases e1
  · obtain ⟨o1, b1, b2, _⟩ := key b o' hb
    exact h.apart c o b o1 l hc b1 (by rw [b2]; exact hlo)

/-- A call may be told by less. -/
theorem Sim.less (h : Sim rel call) (hw : ∀ g args σ K, (∀ b, σ.next ≤ b → σ.get b = none) → call' g args σ K → call g args σ (fun v σ1 => ∃ σ', Less σ1 σ' ∧ K v σ')) : Sim rel call' := by
  intro g args σ K hc κ ρ w args' hargs hR
  obtain ⟨_, _, hm0, _⟩ := rel.opens hR
  refine (h g args σ _ (hw g args σ K (fun b hb => (hm0.fresh b hb).1) hc) κ ρ w args' hargs hR).mono fun e w' he => ?_
  obtain ⟨u, v', ρ', σ1, k1, ⟨σ', hl, hK⟩, k2, k3, k4, k5, k6, k7⟩ := he
  obtain ⟨κ', _, hm, hclose⟩ := rel.opens k7
  refine ⟨u, v', ρ', σ', k1, hK, k2, k3, fun x hx hg => ?_, Nat.le_trans k5 hl.next, k6, hclose ρ' σ' w' ρ'.le_refl (hm.less hl fun b hb => (hm.fresh b (Nat.le_trans hl.next hb)).2) hl.logic hl.next⟩
  have := k4 x hx hg
  rcases hl.get x with e | ⟨e, _⟩ | ⟨es, es', e1, e2, _⟩
  · rw [e]; exact this
  · exact e
  · rw [this] at e1; cases e1

/-- A value without addresses; or one that is not looked at. -/
def bare : Value → Bool
  | .chan none => true
  | .func (.func _) xs us => xs.isEmpty && us.isEmpty
  | v => flat v

theorem bare_rel {ρ ρ' : Rho} {v v' : Value} (h : bare v = true) (hv : VRel ρ v v') : VRel ρ' v v' := by
  cases hv with
  | any => exact .any _
  | skip => exact .skip
  | bool b => exact .bool b
  | int k n => exact .int k n
  | float k n => exact .float k n
  | string s => exact .string s
  | nilp => exact .nilp
  | ptr hb => simp [bare, flat] at h
  | nils => exact .nils
  | slice hb hc hr => simp [bare, flat] at h
  | empty a c => exact .empty a c
  | nilm => exact .nilm
  | map hb => simp [bare, flat] at h
  | func fn h1 h2 h3 h4 =>
    rename_i xs ys us vs
    cases fn with
    | func f =>
      simp only [bare, Bool.and_eq_true, Array.isEmpty_iff] at h
      obtain ⟨rfl, rfl⟩ := h
      exact .func _ h1 h2 (fun i hi => by simp at hi) (fun i hi => by simp at hi)
    | _ => simp [bare, flat] at h
  | nilf => exact .nilf
  | iface t hv => simp [bare, flat] at h
  | nili => exact .nili
  | agg => simp [bare, flat] at h
  | tuple => simp [bare, flat] at h

def bareR (v : Value) : Bool := bare v || (match v with | .tuple xs => xs.toList.all bare | _ => false)

theorem bareR_rel {ρ ρ' : Rho} {v v' : Value} (h : bareR v = true) (hv : VRel ρ v v') : VRel ρ' v v' := by
  unfold bareR at h
  rw [Bool.or_eq_true] at h
  rcases h with h | h
  · exact bare_rel h hv
  · split at h
    · cases hv with
      | any => exact .any _
      | tuple h1 h2 =>
        refine .tuple h1 fun i hi => bare_rel ?_ (h2 i hi)
        refine List.all_eq_true.1 h _ ?_
        rw [Array.getD_eq_getD_getElem?, Array.getElem?_eq_getElem hi]
        simp
    · cases h

/-- A run that starts with nothing is a call in any memory, that it leaves as it was. -/
theorem Sim.pure {f : FuncId} {args : List Value} {v : Value} (hrun : Sim (physRel P L) call) (hb : args.all bare = true) (hv : bareR v = true)
    (h : call f args ⟨0, fun _ => none⟩ (fun u _ => u = v)) : Sim rel (fun g as σ K => (g = f ∧ as = args) ∧ K v σ) := by
  rintro g as σ K ⟨⟨rfl, rfl⟩, hK⟩ κ ρ w args' hargs hR
  obtain ⟨κ', _, hm, hclose⟩ := rel.opens hR
  have hm0 : MRel P ⟨fun c => w.heap[c]?, envOf w⟩ (fun _ => none) (⟨0, fun _ => none⟩ : AMem L) w :=
    { live := fun b o ho => (by cases ho), inj := fun b c o o' l l' hb => (by cases hb), fresh := fun b _ => ⟨rfl, rfl⟩, old := fun b l hl => (by cases hl), kept := fun c o hc => hc, apart := fun c o b o' l hc hb => (by cases hb), env := rfl }
  have hargs0 : LRel (fun _ => none) as args'.toList := ⟨hargs.1, fun i x y hx hy => bare_rel (List.all_eq_true.1 hb x (List.mem_of_getElem? hx)) (hargs.2 i x y hx hy)⟩
  refine (hrun g as _ _ h _ _ w args' hargs0 hm0).mono fun e w' he => ?_
  obtain ⟨u, v', ρ', σ1, k1, rfl, k2, k3, k4, k5, k6, k7⟩ := he
  have hk : ∀ c, c < w.heap.size → w'.heap[c]? = w.heap[c]? := fun c hc => by
    have h1 : w.heap[c]? = some w.heap[c] := Array.getElem?_eq_getElem hc
    have := (show MRel P ⟨fun c => w.heap[c]?, envOf w⟩ ρ' σ1 w' from k7).kept c _ h1
    rw [this, h1]
  have hsz : w.heap.size ≤ w'.heap.size := by
    rcases Nat.lt_or_ge w'.heap.size w.heap.size with hlt | hge
    · have := hk w'.heap.size hlt
      rw [Array.getElem?_eq_none (Nat.le_refl _), Array.getElem?_eq_getElem hlt] at this
      cases this
    · exact hge
  have hm' : MRel P κ' ρ σ w' := hm.of_ext (fun c o hc => hm.kept_lt hc) hsz hk (show MRel P ⟨fun c => w.heap[c]?, envOf w⟩ ρ' σ1 w' from k7).env
  exact ⟨u, v', ρ, σ, k1, hK, ρ.le_refl, fun _ _ => rfl, fun _ _ h => h, Nat.le_refl _, bareR_rel hv k6, hclose ρ σ w' ρ.le_refl hm' (SameLogic.refl σ) (Nat.le_refl _)⟩

end Go.Ax
