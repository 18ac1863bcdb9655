/- What the evaluator says of code holds of the model, the regions that draw their order taken as given. -/
import Derived.Test.YtaeoiohcalonkaaGreatDoorAxSound
set_option linter.unusedVariables false
set_option linter.unusedSimpArgs false
namespace Go.Ax
open Go
variable {L : Type} {P : Program} {rel : Rel P L} {call : Spec L} {κ : Kappa} {ρ : Rho} {σ : AMem L} {w : World}

theorem wp_loop_idx {c : Code} {Q : Exit → Act → World → Prop} {a : Act} {w : World} (J : Nat → Act → World → Prop) (h₀ : ∃ n, J n a w)
    (round : ∀ n a w, J n a w → c.wp P (Exit.then (fun a' w' => ∃ m, m < n ∧ J m a' w') Q) a w) : (Code.loop c).wp P Q a w := by
  intro b k cs
  have key : ∀ n a w, J n a w → ∃ e a' w', Q e a' w' ∧ Arrives P (lone (b.at a (.code c :: .inLoop c :: k)) cs w) b k cs e a' w' := by
    intro n
    induction n using Nat.strongRecOn with
    | _ n ih =>
      intro a w hI
      obtain ⟨e, a₁, w₁, hq, harr⟩ := round n a w hI b (.inLoop c :: k) cs
      cases e with
      | normal =>
        obtain ⟨m, hlt, hI₁⟩ := hq
        obtain ⟨e₂, a₂, w₂, hq₂, harr₂⟩ := ih m hlt a₁ w₁ hI₁
        exact ⟨e₂, a₂, w₂, hq₂, .of_steps (Steps.trans harr (.one step_inLoop)) harr₂⟩
      | exit id => exact ⟨_, a₁, w₁, hq, .pass (x := .inLoop c) rfl (fun _ _ => .inl (by simp)) harr⟩
      | goto l => exact ⟨_, a₁, w₁, hq, .pass (x := .inLoop c) rfl (fun _ _ => .inl (by simp)) harr⟩
      | ret => exact ⟨_, a₁, w₁, hq, .pass (x := .inLoop c) rfl (fun _ _ => .inl (by simp)) harr⟩
      | panic ch => exact ⟨_, a₁, w₁, hq, .pass (x := .inLoop c) rfl (fun _ _ => .inl (by simp)) harr⟩
      | outgrown => exact ⟨_, a₁, w₁, hq, .pass (x := .inLoop c) rfl (fun _ _ => .inl (by simp)) harr⟩
  obtain ⟨n, hn⟩ := h₀
  obtain ⟨e, a', w', hq, harr⟩ := key n a w hn
  exact ⟨e, a', w', hq, .of_steps (.one step_loop) harr⟩

/-- What is asked of the orders that are told from outside. -/
abbrev PlanOk := Array Oper → List (PItem × List Nat) → Bool

def codeOk (ok : PlanOk) (plans : Plans) (n : Nat) : Code → Bool
  | .skip | .label _ | .exit _ | .ret => true
  | .region id ops draw => ops.toList.all (okOper n) && (!draw || ok ops (plans id))
  | .seq a b => codeOk ok plans n a && codeOk ok plans n b
  | .cond c a b => okOperand c && codeOk ok plans n a && codeOk ok plans n b
  | .block _ c | .loop c | .scope c => codeOk ok plans n c
  | _ => false

/-- Regions that draw: the orders do not matter. -/
def DrawSound {P : Program} (rel : Rel P L) (call : Spec L) (ok : PlanOk) : Prop :=
  ∀ (id : Nat) (ops : Array Oper) (plan : List (PItem × List Nat)) (Q : Exit → Fr → AMem L → Prop) (κ : Kappa) (ρ : Rho) (F : Fr) (σ : AMem L) (a : Act) (w : World),
    ok ops plan = true → (∀ o ∈ ops.toList, okOper a.tmps.size o = true) → aPlan P call ops σ.next plan (fun _ => none) F (σ.skipTo (σ.next + ops.size)) (Q .normal) → FRel ρ F a → rel.R κ ρ σ w →
      (Code.region id ops true).wp P (Ends rel κ ρ σ a Q) a w

theorem Ends.mono {Q Q' : Exit → Fr → AMem L → Prop} {ρ0 ρ1 : Rho} {σ0 σ1 : AMem L} {a0 a1 : Act} (h1 : ρ0.le ρ1) (h2 : ∀ x, x < σ0.next → ρ1 x = ρ0 x) (h6 : ∀ x, x < σ0.next → σ0.get x = none → σ1.get x = none) (h3 : σ0.next ≤ σ1.next) (h4 : a1.tmps.size = a0.tmps.size) (h5 : a1.defers = a0.defers)
    {e : Exit} {a : Act} {w : World} (h : Ends rel κ ρ1 σ1 a1 Q e a w) (hq : ∀ F σ, Q e F σ → Q' e F σ) : Ends rel κ ρ0 σ0 a0 Q' e a w := by
  obtain ⟨F, σ, ρ, k1, k2, k3, k9, k4, k5, k6, k7, k8⟩ := h
  exact ⟨F, σ, ρ, hq _ _ k1, Rho.le_trans h1 k2, fun x hx => by rw [k3 x (by omega)]; exact h2 x hx, fun x hx hg => k9 x (by omega) (h6 x hx hg), by omega, k5, k6.trans h4, k7.trans h5, k8⟩

theorem code_sound (hsim : Sim rel call) {ok : PlanOk} (hdraw : DrawSound rel call ok) {plans : Plans} : ∀ (c : Code) (Q : Exit → Fr → AMem L → Prop) (κ : Kappa) (ρ : Rho) (F : Fr) (σ : AMem L) (a : Act) (w : World),
    codeOk ok plans a.tmps.size c = true → aCode P call plans c Q F σ → FRel ρ F a → rel.R κ ρ σ w → c.wp P (Ends rel κ ρ σ a Q) a w := by
  intro c
  induction c with
  | skip => intro Q κ ρ F σ a w _ h hF hR; exact wp_skip ⟨F, σ, ρ, h, ρ.le_refl, fun _ _ => rfl, fun _ _ h => h, Nat.le_refl _, hF, rfl, rfl, hR⟩
  | label l => intro Q κ ρ F σ a w _ h hF hR; exact wp_label ⟨F, σ, ρ, h, ρ.le_refl, fun _ _ => rfl, fun _ _ h => h, Nat.le_refl _, hF, rfl, rfl, hR⟩
  | exit id => intro Q κ ρ F σ a w _ h hF hR; exact wp_exit ⟨F, σ, ρ, h, ρ.le_refl, fun _ _ => rfl, fun _ _ h => h, Nat.le_refl _, hF, rfl, rfl, hR⟩
  | ret => intro Q κ ρ F σ a w _ h hF hR; exact wp_ret ⟨F, σ, ρ, h, ρ.le_refl, fun _ _ => rfl, fun _ _ h => h, Nat.le_refl _, hF, rfl, rfl, hR⟩
  | region id ops draw =>
    intro Q κ ρ F σ a w hok h hF hR
    simp only [codeOk, Bool.and_eq_true, List.all_eq_true] at hok
    unfold aCode at h
    cases draw with
    | true =>
      simp only [if_true] at h
      simp only [Bool.not_true, Bool.false_or] at hok
      exact hdraw id ops (plans id) Q κ ρ F σ a w hok.2 hok.1 h hF hR
    | false =>
      simp only [Bool.false_eq_true, if_false] at h
      refine wp_region ?_
      have := ops_sound (κ := κ) (Q := Q) (ρ0 := ρ) (σ0 := σ) (a0 := a) hsim ops.toList 0 (fun j => by simp) (by simp) hok.1 F σ ρ a w h ρ.le_refl (fun _ _ => rfl) (fun _ _ h => h) (Nat.le_refl _) hF rfl rfl hR
      rw [List.range_eq_range']
      simpa using this
  | seq x y ihx ihy =>
    intro Q κ ρ F σ a w hok h hF hR
    simp only [codeOk, Bool.and_eq_true] at hok
    unfold aCode at h
    refine wp_seq (wp_mono (ihx _ κ ρ F σ a w hok.1 h hF hR) fun e a' w' he => ?_)
    cases e with
    | normal =>
      obtain ⟨F', σ', ρ', k1, k2, k3, k9, k4, k5, k6, k7, k8⟩ := he
      have := ihy Q κ ρ' F' σ' a' w' (by rw [k6]; exact hok.2) k1 k5 k8
      exact wp_mono this fun e a'' w'' he => he.mono k2 k3 k9 k4 k6 k7 fun _ _ h => h
    | exit id => exact he.mono ρ.le_refl (fun _ _ => rfl) (fun _ _ h => h) (Nat.le_refl _) rfl rfl fun _ _ h => h
    | goto l => exact he.mono ρ.le_refl (fun _ _ => rfl) (fun _ _ h => h) (Nat.le_refl _) rfl rfl fun _ _ h => h
    | ret => exact he.mono ρ.le_refl (fun _ _ => rfl) (fun _ _ h => h) (Nat.le_refl _) rfl rfl fun _ _ h => h
    | panic ch => exact he.mono ρ.le_refl (fun _ _ => rfl) (fun _ _ h => h) (Nat.le_refl _) rfl rfl fun _ _ h => h
    | outgrown => exact he.mono ρ.le_refl (fun _ _ => rfl) (fun _ _ h => h) (Nat.le_refl _) rfl rfl fun _ _ h => h
  | cond c x y ihx ihy =>
    intro Q κ ρ F σ a w hok h hF hR
    simp only [codeOk, Bool.and_eq_true] at hok
    unfold aCode at h
    split at h
    · rename_i t hc
      have hv := eval_rel hF hok.1.1
      rw [hc] at hv
      refine wp_cond (t := t) hv.bool_inv ?_
      cases t with
      | true => exact ihx Q κ ρ F σ a w hok.1.2 h hF hR
      | false => exact ihy Q κ ρ F σ a w hok.2 h hF hR
    · exact h.elim
  | block id c ih =>
    intro Q κ ρ F σ a w hok h hF hR
    simp only [codeOk] at hok
    unfold aCode at h
    refine wp_block (wp_mono (ih _ κ ρ F σ a w hok h hF hR) fun e a' w' he => ?_)
    cases e with
    | exit id' =>
      simp only [Exit.inBlock]
      split
      · rename_i hid; subst hid
        obtain ⟨F', σ', ρ', k1, k2⟩ := he
        simp only [exBlock, if_true] at k1
        exact ⟨F', σ', ρ', k1, k2⟩
      · rename_i hid
        obtain ⟨F', σ', ρ', k1, k2⟩ := he
        simp only [exBlock, hid, if_false] at k1
        exact ⟨F', σ', ρ', k1, k2⟩
    | normal => exact he.mono ρ.le_refl (fun _ _ => rfl) (fun _ _ h => h) (Nat.le_refl _) rfl rfl fun _ _ h => h
    | goto l => exact he.mono ρ.le_refl (fun _ _ => rfl) (fun _ _ h => h) (Nat.le_refl _) rfl rfl fun _ _ h => h
    | ret => exact he.mono ρ.le_refl (fun _ _ => rfl) (fun _ _ h => h) (Nat.le_refl _) rfl rfl fun _ _ h => h
    | panic ch => exact he.mono ρ.le_refl (fun _ _ => rfl) (fun _ _ h => h) (Nat.le_refl _) rfl rfl fun _ _ h => h
    | outgrown => exact he.mono ρ.le_refl (fun _ _ => rfl) (fun _ _ h => h) (Nat.le_refl _) rfl rfl fun _ _ h => h
  | loop c ih =>
    intro Q κ ρ F σ a w hok h hF hR
    simp only [codeOk] at hok
    unfold aCode at h
    obtain ⟨kp, I, hkp, ⟨n, h0⟩, hround⟩ := h
    have hkeep : ∀ {ρ : Rho} {F : Fr} {a : Act}, FRel ρ F a → FRel ρ (kp F) a := by
      intro ρ F a hF i
      rcases hkp F i with h | h
      · rw [h]; exact hF i
      · rw [h]; exact .any _
    refine wp_loop_idx (fun n a' w' => ∃ F' σ' ρ', I n F' σ' ∧ ρ.le ρ' ∧ (∀ x, x < σ.next → ρ' x = ρ x) ∧ (∀ x, x < σ.next → σ.get x = none → σ'.get x = none) ∧ σ.next ≤ σ'.next ∧ FRel ρ' F' a' ∧ a'.tmps.size = a.tmps.size ∧ a'.defers = a.defers ∧ rel.R κ ρ' σ' w')
      ⟨n, kp F, σ, ρ, h0, ρ.le_refl, fun _ _ => rfl, fun _ _ h => h, Nat.le_refl _, hkeep hF, rfl, rfl, hR⟩ ?_
    rintro n a' w' ⟨F', σ', ρ', k1, k2, k3, k9, k4, k5, k6, k7, k8⟩
    refine wp_mono (ih _ κ ρ' F' σ' a' w' (by rw [k6]; exact hok) (hround n F' σ' k1) k5 k8) fun e a'' w'' he => ?_
    have he' := fun (Q' : Exit → Fr → AMem L → Prop) (hq : ∀ F σ, exThen (fun F' σ' => ∃ m, m < n ∧ I m (kp F') σ') Q e F σ → Q' e F σ) => he.mono (Q' := Q') k2 k3 k9 k4 k6 k7 hq
    cases e with
    | normal =>
      obtain ⟨F2, σ2, ρ2, ⟨m, hm, hI⟩, j2, j3, j9, j4, j5, j6, j7, j8⟩ := he
      exact ⟨m, hm, kp F2, σ2, ρ2, hI, Rho.le_trans k2 j2, fun x hx => by rw [j3 x (by omega)]; exact k3 x hx, fun x hx hg => j9 x (by omega) (k9 x hx hg), by omega, hkeep j5, j6.trans k6, j7.trans k7, j8⟩
    | exit id => exact he' Q fun _ _ h => h
    | goto l => exact he' Q fun _ _ h => h
    | ret => exact he' Q fun _ _ h => h
    | panic ch => exact he' Q fun _ _ h => h
    | outgrown => exact he' Q fun _ _ h => h
  | scope c ih =>
    intro Q κ ρ F σ a w hok h hF hR
    simp only [codeOk] at hok
    unfold aCode at h
    refine wp_scope_straight (wp_mono (ih _ κ ρ F σ a w hok h hF hR) fun e a' w' he => ?_)
    cases e with
    | goto l => obtain ⟨F', σ', ρ', k1, _⟩ := he; exact k1.elim
    | normal => exact he.mono ρ.le_refl (fun _ _ => rfl) (fun _ _ h => h) (Nat.le_refl _) rfl rfl fun _ _ h => h
    | exit id => exact he.mono ρ.le_refl (fun _ _ => rfl) (fun _ _ h => h) (Nat.le_refl _) rfl rfl fun _ _ h => h
    | ret => exact he.mono ρ.le_refl (fun _ _ => rfl) (fun _ _ h => h) (Nat.le_refl _) rfl rfl fun _ _ h => h
    | panic ch => exact he.mono ρ.le_refl (fun _ _ => rfl) (fun _ _ h => h) (Nat.le_refl _) rfl rfl fun _ _ h => h
    | outgrown => exact he.mono ρ.le_refl (fun _ _ => rfl) (fun _ _ h => h) (Nat.le_refl _) rfl rfl fun _ _ h => h
  | rangeFunc f ps x y _ _ => intro Q κ ρ F σ a w hok; simp [codeOk] at hok
  | goto l => intro Q κ ρ F σ a w hok; simp [codeOk] at hok
  | refuse s => intro Q κ ρ F σ a w hok; simp [codeOk] at hok

end Go.Ax
