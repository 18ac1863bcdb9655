/- A plan's check. -/
import Derived.Test.YtaeoiohcalonkaaGreatDoorAxDraw4
import Derived.CheckFast
set_option linter.unusedVariables false
set_option linter.unusedSimpArgs false
namespace Go.Ax
open Go
variable {L : Type} {P : Program} {ops : Array Oper} {call : Spec L} {rel : Rel P L}

def befB (ops : Array Oper) (W : Nat → Nat → Bool) (x y : PItem) : Bool :=
  match x, y with
  | .reveal r, .reveal s => r != s
  | .reveal r, .op j | .reveal r, .mk j => W j r
  | .op i, .op j | .op i, .mk j | .mk i, .op j | .mk i, .mk j => i != j && !W i j && (match ops[i]? with | some o => !acts o.op || W j i | none => true)
  | _, _ => true

def pairB {α : Type} (r : α → α → Bool) : List α → Bool
  | [] => true
  | x :: l => l.all (r x) && pairB r l

theorem pairB_sound {α : Type} {r : α → α → Bool} : ∀ {l : List α}, pairB r l = true → l.Pairwise fun x y => r x y = true
  | [], _ => .nil
  | x :: l, h => by
    simp only [pairB, Bool.and_eq_true, List.all_eq_true] at h
    exact .cons h.1 (pairB_sound h.2)

theorem befB_sound {W : Nat → Nat → Bool} {x y : PItem} (h : befB ops W x y = true) : Bef ops W x y := by
  refine ⟨fun i j hi hj => ?_, fun r j hr hj => ?_, fun r s hr hs => ?_⟩
  · have : i ≠ j ∧ W i j = false ∧ (match ops[i]? with | some o => !acts o.op || W j i | none => true) = true := by
      cases x <;> cases y <;> cases hi <;> cases hj <;> simp only [befB, Bool.and_eq_true, bne_iff_ne, ne_eq, Bool.not_eq_true'] at h <;> exact ⟨h.1.1, h.1.2, h.2⟩
    refine ⟨this.1, this.2.1, ?_⟩
    rintro ⟨o, ho, ha⟩
    have h3 := this.2.2
    rw [ho] at h3
    simpa [ha] using h3
  · cases x <;> cases hr
    cases y <;> cases hj <;> exact h
  · cases x <;> cases hr
    cases y <;> cases hs
    simpa [befB] using h

def itemOk (P : Program) (ops : Array Oper) (items : List PItem) (x : PItem) : Bool :=
  match x with
  | .op i => (match ops[i]? with | some o => !makes P o.op | none => false)
  | .mk i => (match ops[i]? with | some o => makes P o.op && !looks P o.op && !acts o.op | none => false) && items.any (fun y => match y with | .reveal j => j == i | _ => false)
  | .reveal i => (match ops[i]? with | some o => makes P o.op | none => false)

/-- What must be looked at again is told. -/
def relook (P : Program) (ops : Array Oper) (W : Nat → Nat → Bool) : List (PItem × List Nat) → List Nat → Bool
  | [], _ => true
  | (.op i, ls) :: rest, done =>
    (match ops[i]? with
     | some o => !acts o.op || done.all fun j => W i j || ls.contains j || (match ops[j]? with | some oj => !looks P oj.op | none => true)
     | none => true) && relook P ops W rest (done ++ [i])
  | _ :: rest, done => relook P ops W rest done

def opFacts (ops : Array Oper) (b : Array Nat) (i : Nat) : Bool :=
  match ops[i]? with
  | none => false
  | some o => (b.getD i 0 == CheckFast.one (fun j => b.getD j 0) o) && o.after.all (fun e => !Region.binds .any e || decide (e.on < ops.size)) && !((b.getD i 0).testBit i)

def pairFacts (P : Program) (ops : Array Oper) (W : Nat → Nat → Bool) (i j : Nat) : Bool :=
  match ops[i]? with
  | none => true
  | some oi => match oi.dst with
    | none => true
    | some d => match ops[j]? with
      | none => true
      | some oj => (i == j || oj.dst != some d) && (!(oj.looksAt ops).contains d || W j i || (W i j && !looks P oj.op))

def planOkW (P : Program) (ops : Array Oper) (plan : List (PItem × List Nat)) (b : Array Nat) : Bool :=
  let W := fun i j => (b.getD i 0).testBit j
  let items := plan.map (·.1)
  let ns := List.range ops.size
  let ix := items.filterMap PItem.idx
  b.size == ops.size && ns.all (opFacts ops b) && ns.all (fun i => ns.all (pairFacts P ops W i)) &&
  pairB (befB ops W) items && items.all (itemOk P ops items) && ns.all (fun i => ix.contains i) && ix.length == ops.size && relook P ops W plan []

def planOk (P : Program) (ops : Array Oper) (plan : List (PItem × List Nat)) : Bool := planOkW P ops plan (CheckFast.beforeF ops)

theorem fold_bits {look : Nat → Nat} {k : Nat} : ∀ (es : List Edge) (s : Nat), (es.foldl (fun s e => if Region.binds .any e then s ||| 2 ^ e.on ||| look e.on else s) s).testBit k = true ↔
    s.testBit k = true ∨ ∃ e ∈ es, Region.binds .any e = true ∧ (e.on = k ∨ (look e.on).testBit k = true)
  | [], s => by simp
  | e :: es, s => by
    rw [List.foldl_cons, fold_bits es]
    cases hb : Region.binds .any e with
    | false =>
      simp only [Bool.false_eq_true, if_false, List.mem_cons, exists_eq_or_imp, hb, false_and, false_or]
    | true =>
      simp only [if_true, Nat.testBit_or, Bool.or_eq_true, Nat.testBit_two_pow, decide_eq_true_eq, List.mem_cons, exists_eq_or_imp, hb, true_and]
      constructor
      · rintro (((h | h) | h) | h)
        · exact .inl h
        · exact .inr (.inl (.inl h))
        · exact .inr (.inl (.inr h))
        · exact .inr (.inr h)
      · rintro (h | (h | h) | h)
        · exact .inl (.inl (.inl h))
        · exact .inl (.inl (.inr h))
        · exact .inl (.inr h)
        · exact .inr h

theorem one_bits {look : Nat → Nat} {o : Oper} {k : Nat} : (CheckFast.one look o).testBit k = true ↔ ∃ e ∈ o.after, Region.binds .any e = true ∧ (e.on = k ∨ (look e.on).testBit k = true) := by
  unfold CheckFast.one
  rw [← Array.foldl_toList, fold_bits]
  simp

theorem facts_of {b : Array Nat} (hsz : b.size = ops.size) (h1 : ∀ i, i < ops.size → opFacts ops b i = true) (h2 : ∀ i j, i < ops.size → j < ops.size → pairFacts P ops (fun i j => (b.getD i 0).testBit j) i j = true) :
    Facts P ops fun i j => (b.getD i 0).testBit j := by
  have hop : ∀ {i o}, ops[i]? = some o → b.getD i 0 = CheckFast.one (fun j => b.getD j 0) o ∧ (∀ e ∈ o.after, Region.binds .any e = true → e.on < ops.size) ∧ (b.getD i 0).testBit i = false := by
    intro i o ho
    have := h1 i (lt_of_some ho)
    simp only [opFacts, ho, Bool.and_eq_true, beq_iff_eq, Array.all_eq_true_iff_forall_mem, Bool.or_eq_true, Bool.not_eq_true', decide_eq_true_eq] at this
    refine ⟨this.1.1, fun e he hb => ?_, this.2⟩
    rcases this.1.2 e he with h | h
    · rw [hb] at h; cases h
    · exact h
  have hpair : ∀ {i j oi oj d}, ops[i]? = some oi → ops[j]? = some oj → oi.dst = some d → (i = j ∨ oj.dst ≠ some d) ∧ (d ∈ oj.looksAt ops → (b.getD j 0).testBit i = true ∨ ((b.getD i 0).testBit j = true ∧ looks P oj.op = false)) := by
    intro i j oi oj d hi hj hd
    have := h2 i j (lt_of_some hi) (lt_of_some hj)
    simp only [pairFacts, hi, hj, hd, Bool.and_eq_true, Bool.or_eq_true, beq_iff_eq, bne_iff_ne, Bool.not_eq_true', List.contains_eq_mem, decide_eq_false_iff_not] at this
    refine ⟨this.1, fun hm => ?_⟩
    rcases this.2 with (h | h) | h
    · exact absurd hm h
    · exact .inl h
    · exact .inr h
  refine ⟨⟨fun i j oi oj d hi hj h3 h4 => ?_, fun i j oi oj d hi hj hd hm => (hpair hi hj hd).2 hm, fun i k hk => ?_, fun i => ?_⟩, fun i o e ho he hb => ?_⟩
  · rcases (hpair hi hj h3).1 with h | h
    · exact h
    · exact absurd h4 h
  · rcases Nat.lt_or_ge i ops.size with hlt | hge
    · have ho : ops[i]? = some ops[i] := Array.getElem?_eq_getElem hlt
      rw [(hop ho).1, one_bits] at hk
      obtain ⟨e, he, hb, hor⟩ := hk
      exact ⟨_, e, ho, he, hb, hor⟩
    · have : b.getD i 0 = 0 := by rw [Array.getD_eq_getD_getElem?, Array.getElem?_eq_none (by omega)]; rfl
      simp [this] at hk
  · rcases Nat.lt_or_ge i ops.size with hlt | hge
    · exact (hop (Array.getElem?_eq_getElem hlt)).2.2
    · have : b.getD i 0 = 0 := by rw [Array.getD_eq_getD_getElem?, Array.getElem?_eq_none (by omega)]; rfl
      simp [this]
  · refine ⟨?_, (hop ho).2.1 e he hb⟩
    rw [(hop ho).1, one_bits]
    exact ⟨e, he, hb, .inl rfl⟩

theorem aPlan_pl {base : Nat} {W : Nat → Nat → Bool} (hc : clo call = call) {K : Fr → AMem L → Prop} : ∀ (plan : List (PItem × List Nat)) (done : List Nat) (pend : Nat → Option (AObj L)) (F : Fr) (σ : AMem L), relook P ops W plan done = true →
    aPlan P call ops base plan pend F σ K → aPl P call ops base W (plan.map (·.1)) done pend F σ K
  | [], _, _, _, _, _, h => h
  | (.op i, ls) :: rest, done, pend, F, σ, hr, h => by
    simp only [aPlan, List.map_cons, aPl] at h ⊢
    simp only [relook, Bool.and_eq_true] at hr
    cases ho : ops[i]? with
    | none => rw [ho] at h; exact h.elim
    | some o =>
      simp only [ho] at h hr ⊢
      refine aStep_mono hc h fun F' σ' hh => ⟨fun ha j hj hw oj hoj hl hwant => ?_, aPlan_pl hc rest _ _ _ _ hr.2 hh.2⟩
      have h1 := hr.1
      simp only [ha, Bool.not_true, Bool.false_or, List.all_eq_true, Bool.or_eq_true, List.contains_eq_mem, decide_eq_true_eq] at h1
      rcases h1 j hj with (h2 | h2) | h2
      · rw [hw] at h2; cases h2
      · exact hh.1 j h2 oj hoj hwant
      · simp [hoj, hl] at h2
  | (.mk i, ls) :: rest, done, pend, F, σ, hr, h => by
    simp only [aPlan, List.map_cons, aPl] at h ⊢
    simp only [relook] at hr
    split at h
    · exact h.elim
    · split at h
      · exact h.elim
      · exact aPlan_pl hc rest _ _ _ _ hr h
      · split at h
        · exact aPlan_pl hc rest _ _ _ _ hr h
        · exact h.elim
  | (.reveal i, ls) :: rest, done, pend, F, σ, hr, h => by
    simp only [aPlan, List.map_cons, aPl] at h ⊢
    simp only [relook] at hr
    split at h
    · exact aPlan_pl hc rest _ _ _ _ hr h
    · exact aPlan_pl hc rest _ _ _ _ hr h

theorem skel_of {plan : List (PItem × List Nat)} {b : Array Nat} (h : planOkW P ops plan b = true) : Facts P ops (fun i j => (b.getD i 0).testBit j) ∧ Skel P ops (fun i j => (b.getD i 0).testBit j) (plan.map (·.1)) (Array.replicate ops.size false) ∧
    ((plan.map (·.1)).filterMap PItem.idx).length = ops.size ∧ relook P ops (fun i j => (b.getD i 0).testBit j) plan [] = true := by
  simp only [planOkW, Bool.and_eq_true, beq_iff_eq, List.all_eq_true, List.mem_range, List.contains_eq_mem, decide_eq_true_eq] at h
  obtain ⟨⟨⟨⟨⟨⟨⟨h1, h2⟩, h3⟩, h4⟩, h5⟩, h6⟩, h7⟩, h8⟩ := h
  refine ⟨facts_of h1 h2 fun i j hi hj => h3 i hi j hj, ?_, h7, h8⟩
  have hun : ∀ i, i < ops.size → Unl (plan.map (·.1)) i := fun i hi => unl_iff.2 (h6 i hi)
  refine ⟨(pairB_sound h4).imp befB_sound, fun i hi => ?_, fun i hi => ?_, fun i hi => ?_, fun i hi => ?_, by simp, fun i k hi hn => absurd (hun i hi) hn⟩
  · have := h5 _ hi
    simp only [itemOk] at this
    split at this
    · rename_i o ho; exact ⟨o, ho, by simpa using this⟩
    · cases this
  · have := h5 _ hi
    simp only [itemOk, Bool.and_eq_true, List.any_eq_true] at this
    obtain ⟨k1, y, hy, k2⟩ := this
    refine ⟨?_, ?_⟩
    · split at k1
      · rename_i o ho
        simp only [Bool.and_eq_true, Bool.not_eq_true'] at k1
        exact ⟨o, ho, k1.1.1, k1.1.2, k1.2⟩
      · cases k1
    · split at k2
      · rename_i j
        simp only [beq_iff_eq] at k2
        exact k2 ▸ hy
      · cases k2
  · have := h5 _ hi
    simp only [itemOk] at this
    split at this
    · rename_i o ho; exact ⟨o, ho, by simpa using this⟩
    · cases this
  · have := hun i hi
    simp only [this, iff_true]
    rw [Array.getD_eq_getD_getElem?, Array.getElem?_replicate, if_pos hi]; rfl

/-- Regions that draw: any order does what the plan says. -/
theorem draw_sound (hsim : Sim rel call) (hm : P.follows .mixedOrders = true) : DrawSound rel call (planOk P) := by
  intro id ops plan Q κ ρ F σ a w hplan hok hp hF hR
  obtain ⟨hf, hs, hlen, hrl⟩ := skel_of (P := P) (ops := ops) (plan := plan) hplan
  refine wp_region_any hm ?_
  have hcl : clo (clo call) = clo call := clo_clo call
  obtain ⟨κ', _, hmr, hclose⟩ := rel.opens hR
  have hR' : rel.R κ ρ (σ.skipTo (σ.next + ops.size)) { w with drawn := w.drawn + 1 } :=
    hclose ρ _ _ ρ.le_refl ((hmr.of_heap (w' := { w with drawn := w.drawn + 1 }) rfl).skipTo (by omega)) (SameLogic.refl _) (by simp [AMem.next_skipTo])
  have hfresh := fun b hb => hmr.fresh b hb
  have hp' : aPlan P (clo call) ops σ.next plan (fun _ => none) F (σ.skipTo (σ.next + ops.size)) (Q .normal) := by
    have : ∀ (plan : List (PItem × List Nat)) (pend : Nat → Option (AObj L)) (F : Fr) (σ1 : AMem L), aPlan P call ops σ.next plan pend F σ1 (Q .normal) → aPlan P (clo call) ops σ.next plan pend F σ1 (Q .normal) := by
      intro plan
      induction plan with
      | nil => exact fun _ _ _ h => h
      | cons x rest ih =>
        intro pend F σ1 h
        obtain ⟨x, ls⟩ := x
        cases x with
        | op i =>
          simp only [aPlan] at h ⊢
          split at h
          · exact h.elim
          · exact aStep_congr h (fun _ _ => rfl) fun u σ' hh => ⟨hh.1, ih _ _ _ hh.2⟩
        | mk i =>
          simp only [aPlan] at h ⊢
          split at h
          · exact h.elim
          · split at h
            · exact h.elim
            · exact ih _ _ _ h
            · split at h
              · exact ih _ _ _ h
              · exact h.elim
        | reveal i =>
          simp only [aPlan] at h ⊢
          split at h
          · exact ih _ _ _ h
          · exact ih _ _ _ h
    exact this _ _ _ _ hp
  refine any_sound hsim.clo hcl hf hok ops.size _ _ (fun _ => none) F (σ.skipTo (σ.next + ops.size)) ρ κ a _ hlen hs ?_ (aPlan_pl hcl plan [] _ F _ hrl hp')
  exact {
    pe := rfl, le := ρ.le_refl, same := fun _ _ => rfl, none0 := fun _ _ h => h, nx := by simp [AMem.next_skipTo], fr := hF, sz := rfl, df := rfl, R := hR'
    free := fun i _ => hfresh _ (by omega)
    hid := fun r _ => (hfresh _ (by omega)).1
    mkn := fun _ _ => rfl, p1 := fun _ _ _ h => (by cases h)
    p2 := fun _ _ _ _ _ _ _ _ h => (by cases h)
    p3 := fun _ => .inl rfl }

end Go.Ax
