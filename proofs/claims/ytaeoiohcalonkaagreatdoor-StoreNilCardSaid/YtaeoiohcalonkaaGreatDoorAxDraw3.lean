/- A region that draws its order: one order stands for all. -/
import Derived.Test.YtaeoiohcalonkaaGreatDoorAxDraw2
import Derived.Orders
set_option linter.unusedVariables false
set_option linter.unusedSimpArgs false
namespace Go.Ax
open Go
variable {L : Type} {P : Program} {ops : Array Oper} {W : Nat → Nat → Bool} {call : Spec L}

theorem mem_mid {α : Type} {A B : List α} {y z : α} : z ∈ A ++ y :: B ↔ z = y ∨ z ∈ A ++ B := by
  simp only [List.mem_append, List.mem_cons]
  constructor
  · rintro (h | h | h)
    · exact .inr (.inl h)
    · exact .inl h
    · exact .inr (.inr h)
  · rintro (h | h | h)
    · exact .inr (.inl h)
    · exact .inl h
    · exact .inr (.inr h)

theorem sub_mid {α : Type} (A B : List α) (y : α) : (A ++ B).Sublist (A ++ y :: B) := List.Sublist.append (List.Sublist.refl A) (List.sublist_cons_self y B)

def IsAct (ops : Array Oper) (i : Nat) : Prop := ∃ o, ops[i]? = some o ∧ acts o.op = true

/-- 'x' may stand before 'y'. -/
def Bef (ops : Array Oper) (W : Nat → Nat → Bool) (x y : PItem) : Prop :=
  (∀ i j, x.idx = some i → y.idx = some j → i ≠ j ∧ W i j = false ∧ (IsAct ops i → W j i = true)) ∧
  (∀ r j, x.rev = some r → y.idx = some j → W j r = true) ∧ (∀ r s, x.rev = some r → y.rev = some s → r ≠ s)

def Unl (items : List PItem) (i : Nat) : Prop := ∃ x ∈ items, x.idx = some i

/-- The items still to come, and the marks of the model. -/
structure Skel (P : Program) (ops : Array Oper) (W : Nat → Nat → Bool) (items : List PItem) (listed : Array Bool) : Prop where
  pw : items.Pairwise (Bef ops W)
  kop : ∀ i, .op i ∈ items → ∃ o, ops[i]? = some o ∧ makes P o.op = false
  kmk : ∀ i, .mk i ∈ items → (∃ o, ops[i]? = some o ∧ makes P o.op = true ∧ looks P o.op = false ∧ acts o.op = false) ∧ .reveal i ∈ items
  krev : ∀ i, .reveal i ∈ items → ∃ o, ops[i]? = some o ∧ makes P o.op = true
  unl : ∀ i, i < ops.size → (listed.getD i true = false ↔ Unl items i)
  lsz : listed.size = ops.size
  closed : ∀ i k, i < ops.size → ¬ Unl items i → W i k = true → ¬ Unl items k

theorem lt_of_some {i : Nat} {o : Oper} (h : ops[i]? = some o) : i < ops.size := by
  rcases Nat.lt_or_ge i ops.size with h' | h'
  · exact h'
  · rw [Array.getElem?_eq_none h'] at h; cases h

namespace Skel
variable {items A B : List PItem} {listed : Array Bool} {x : PItem}

theorem lt (s : Skel P ops W items listed) {i : Nat} (h : Unl items i) : i < ops.size := by
  obtain ⟨x, hx, hi⟩ := h
  cases x with
  | op j => cases hi; obtain ⟨o, ho, _⟩ := s.kop _ hx; exact lt_of_some ho
  | mk j => cases hi; obtain ⟨⟨o, ho, _⟩, _⟩ := s.kmk _ hx; exact lt_of_some ho
  | reveal j => cases hi

theorem mid (s : Skel P ops W (A ++ x :: B) listed) : (∀ y ∈ A, Bef ops W y x) ∧ ∀ y ∈ B, Bef ops W x y := by
  have h := List.pairwise_append.1 s.pw
  exact ⟨fun y hy => h.2.2 y hy x (.head _), fun y hy => (List.pairwise_cons.1 h.2.1).1 y hy⟩

theorem unl_mid {i : Nat} (hi : x.idx = some i) (k : Nat) : Unl (A ++ x :: B) k ↔ k = i ∨ Unl (A ++ B) k := by
  constructor
  · rintro ⟨y, hy, hk⟩
    rcases mem_mid.1 hy with rfl | h
    · rw [hi] at hk; exact .inl (Option.some.inj hk).symm
    · exact .inr ⟨y, h, hk⟩
  · rintro (rfl | ⟨y, hy, hk⟩)
    · exact ⟨x, mem_mid.2 (.inl rfl), hi⟩
    · exact ⟨y, mem_mid.2 (.inr hy), hk⟩

theorem unl_rev {r : Nat} (k : Nat) : Unl (A ++ .reveal r :: B) k ↔ Unl (A ++ B) k := by
  constructor
  · rintro ⟨y, hy, hk⟩
    rcases mem_mid.1 hy with rfl | h
    · cases hk
    · exact ⟨y, h, hk⟩
  · rintro ⟨y, hy, hk⟩; exact ⟨y, mem_mid.2 (.inr hy), hk⟩

theorem not_unl (s : Skel P ops W (A ++ x :: B) listed) {i : Nat} (hi : x.idx = some i) : ¬ Unl (A ++ B) i := by
  rintro ⟨y, hy, hk⟩
  rcases List.mem_append.1 hy with h | h
  · exact ((s.mid.1 y h).1 i i hk hi).1 rfl
  · exact ((s.mid.2 y h).1 i i hi hk).1 rfl

theorem drop (s : Skel P ops W (A ++ x :: B) listed) {i : Nat} (hi : x.idx = some i) (hr : ∀ k, W i k = true → ¬ Unl (A ++ x :: B) k) : Skel P ops W (A ++ B) (listed.setIfInBounds i true) := by
  have hlt : i < ops.size := s.lt ⟨x, mem_mid.2 (.inl rfl), hi⟩
  refine ⟨s.pw.sublist (sub_mid A B x), fun j hj => s.kop j (mem_mid.2 (.inr hj)), fun j hj => ?_, fun j hj => s.krev j (mem_mid.2 (.inr hj)), fun j hj => ?_, by simpa using s.lsz, fun j k hj hn hw => ?_⟩
  · obtain ⟨h1, h2⟩ := s.kmk j (mem_mid.2 (.inr hj))
    refine ⟨h1, ?_⟩
    rcases mem_mid.1 h2 with h | h
    · rw [← h] at hi; cases hi
    · exact h
  · have h0 := s.unl j hj
    rw [unl_mid hi] at h0
    rw [Array.getD_eq_getD_getElem?, Array.getElem?_setIfInBounds]
    by_cases hji : i = j
    · subst hji
      rw [if_pos rfl, if_pos (by rw [s.lsz]; exact hlt)]
      simp only [Option.getD_some, Bool.true_eq_false, false_iff]
      exact s.not_unl hi
    · rw [if_neg hji, ← Array.getD_eq_getD_getElem?, h0]
      constructor
      · rintro (h | h); exact absurd h.symm hji; exact h
      · exact .inr
  · by_cases hji : j = i
    · subst hji
      intro hk; exact hr k hw ((unl_mid hi k).2 (.inr hk))
    · intro hk
      exact s.closed j k hj (fun h => by rcases (unl_mid hi j).1 h with h | h; exact hji h; exact hn h) hw ((unl_mid hi k).2 (.inr hk))

theorem rev_notin {r : Nat} (s : Skel P ops W (A ++ .reveal r :: B) listed) : .reveal r ∉ A ++ B := by
  intro h
  rcases List.mem_append.1 h with h | h
  · exact ((s.mid.1 _ h).2.2 r r rfl rfl) rfl
  · exact ((s.mid.2 _ h).2.2 r r rfl rfl) rfl

theorem dropRev {r : Nat} (s : Skel P ops W (A ++ .reveal r :: B) listed) (hr : ¬ Unl (A ++ .reveal r :: B) r) : Skel P ops W (A ++ B) listed := by
  refine ⟨s.pw.sublist (sub_mid A B _), fun j hj => s.kop j (mem_mid.2 (.inr hj)), fun j hj => ?_, fun j hj => s.krev j (mem_mid.2 (.inr hj)), fun j hj => ?_, s.lsz, fun j k hj hn hw => ?_⟩
  · obtain ⟨h1, h2⟩ := s.kmk j (mem_mid.2 (.inr hj))
    refine ⟨h1, ?_⟩
    rcases mem_mid.1 h2 with h | h
    · cases h; exact absurd ⟨_, mem_mid.2 (.inr hj), rfl⟩ hr
    · exact h
  · rw [s.unl j hj, unl_rev]
  · rw [← unl_rev (r := r)] at hn ⊢; exact s.closed j k hj hn hw

end Skel

def Lasting (P : Program) (ρ : Rho) (l : Loc) (o : Obj) (ob : AObj L) : Prop := ∀ (ρ' : Rho) (w' : World), ρ.le ρ' → w'.heap[l.blk]? = some o → ORel P ρ' w' l ob

/-- The worlds while a region's order is under way. -/
structure Way {P : Program} (rel : Rel P L) (ops : Array Oper) (κ : Kappa) (ρ0 : Rho) (σ0 : AMem L) (a0 : Act) (items : List PItem) (pend : Nat → Option (AObj L)) (F : Fr) (σ : AMem L) (ρ : Rho) (κ2 : Kappa) (a : Act) (w : World) : Prop where
  pe : κ2.env = κ.env
  le : ρ0.le ρ
  same : ∀ x, x < σ0.next → ρ x = ρ0 x
  none0 : ∀ x, x < σ0.next → σ0.get x = none → σ.get x = none
  nx : σ0.next + ops.size ≤ σ.next
  fr : FRel ρ F a
  sz : a.tmps.size = a0.tmps.size
  df : a.defers = a0.defers
  R : rel.R κ2 ρ σ w
  free : ∀ i, Unl items i → σ.get (σ0.next + i) = none ∧ ρ (σ0.next + i) = none
  hid : ∀ r, .reveal r ∈ items → σ.get (σ0.next + r) = none
  mkn : ∀ i, .mk i ∈ items → pend i = none
  p1 : ∀ r ob, .reveal r ∈ items → pend r = some ob → ∃ l o, ρ (σ0.next + r) = some l ∧ κ2 l.blk = some o ∧ κ l.blk = none ∧ ob.isLogic = false ∧ Lasting P ρ l o ob
  p2 : ∀ r s ob oc lr ls, .reveal r ∈ items → .reveal s ∈ items → pend r = some ob → pend s = some oc → ρ (σ0.next + r) = some lr → ρ (σ0.next + s) = some ls → lr.blk = ls.blk → r = s
  p3 : ∀ x, κ2 x = κ x ∨ ∃ r ob l, .reveal r ∈ items ∧ pend r = some ob ∧ ρ (σ0.next + r) = some l ∧ l.blk = x

section
variable {rel : Rel P L} {κ κ2 : Kappa} {ρ0 ρ : Rho} {σ0 σ : AMem L} {a0 a : Act} {items A B : List PItem} {pend : Nat → Option (AObj L)} {F : Fr} {w : World} {listed : Array Bool} {K : Fr → AMem L → Prop}

/-- A block is seen. -/
theorem Way.reveal {r : Nat} (h : Way rel ops κ ρ0 σ0 a0 (A ++ .reveal r :: B) pend F σ ρ κ2 a w) (s : Skel P ops W (A ++ .reveal r :: B) listed) (hr : ¬ Unl (A ++ .reveal r :: B) r)
    (hp : aPl P call ops σ0.next W (.reveal r :: (A ++ B)) [] pend F σ K) : ∃ σ' κ2', Way rel ops κ ρ0 σ0 a0 (A ++ B) pend F σ' ρ κ2' a w ∧ aPl P call ops σ0.next W (A ++ B) [] pend F σ' K := by
  have up : ∀ {z}, z ∈ A ++ B → z ∈ A ++ .reveal r :: B := fun h => mem_mid.2 (.inr h)
  have hrin : PItem.reveal r ∈ A ++ .reveal r :: B := mem_mid.2 (.inl rfl)
  have hrlt : r < ops.size := by obtain ⟨o, ho, _⟩ := s.krev r hrin; exact lt_of_some ho
  have hne : ∀ {i}, PItem.reveal i ∈ A ++ B → i ≠ r := fun hi e => s.rev_notin (e ▸ hi)
  simp only [aPl] at hp
  split at hp
  · rename_i ob hob
    obtain ⟨l, o, h1, h2, h3, h4, h5⟩ := h.p1 r ob hrin hob
    have hheap : w.heap[l.blk]? = some o := by
      obtain ⟨κ', hκ, hm, _⟩ := rel.opens h.R
      exact hm.kept _ _ (hκ _ _ h2)
    have hR := rel.shows h.R h2 h1 (h.hid r hrin) (nx := σ.next) (by have := h.nx; omega) (Nat.le_refl _) h4 (h5 ρ w ρ.le_refl hheap)
    refine ⟨_, κ2.del l.blk, ?_, hp⟩
    have hget : ∀ x, x ≠ σ0.next + r → (σ.put (σ0.next + r) σ.next ob).get x = σ.get x := fun x hx => by rw [AMem.get_put, if_neg hx]
    refine ⟨h.pe, h.le, h.same, fun x hx hg => ?_, h.nx, h.fr, h.sz, h.df, hR, fun i hi => ?_, fun i hi => ?_, fun i hi => h.mkn i (up hi), fun i oc hi hpi => ?_, fun i j oc od li lj hi hj => h.p2 i j oc od li lj (up hi) (up hj), fun x => ?_⟩
    · rw [hget x (by omega)]; exact h.none0 x hx hg
    · have hi' := (Skel.unl_rev (r := r) i).2 hi
      rw [hget _ (fun e => hr (by have : i = r := by omega
                                  exact this ▸ hi'))]
      exact h.free i hi'
    · rw [hget _ (by have := hne hi; omega)]; exact h.hid i (up hi)
    · obtain ⟨li, oi, k1, k2, k3, k4, k5⟩ := h.p1 i oc (up hi) hpi
      refine ⟨li, oi, k1, ?_, k3, k4, k5⟩
      simp only [Kappa.del]
      rw [if_neg (fun e => hne hi (h.p2 i r oc ob li l (up hi) hrin hpi hob k1 h1 e))]
      exact k2
    · simp only [Kappa.del]
      by_cases hx : x = l.blk
      · rw [if_pos hx, hx, h3]; exact .inl rfl
      · rw [if_neg hx]
        rcases h.p3 x with h' | ⟨i, oc, li, k1, k2, k3, k4⟩
        · exact .inl h'
        · rcases mem_mid.1 k1 with e | k1
          · cases e
            rw [h1] at k3; cases k3; exact absurd k4.symm hx
          · exact .inr ⟨i, oc, li, k1, k2, k3, k4⟩
  · rename_i hnone
    refine ⟨σ, κ2, ?_, hp⟩
    refine ⟨h.pe, h.le, h.same, h.none0, h.nx, h.fr, h.sz, h.df, h.R, fun i hi => h.free i ((Skel.unl_rev i).2 hi), fun i hi => h.hid i (up hi), fun i hi => h.mkn i (up hi), fun i oc hi => h.p1 i oc (up hi),
      fun i j oc od li lj hi hj => h.p2 i j oc od li lj (up hi) (up hj), fun x => ?_⟩
    rcases h.p3 x with h' | ⟨i, oc, li, k1, k2, k3, k4⟩
    · exact .inl h'
    · rcases mem_mid.1 k1 with e | k1
      · cases e; rw [hnone] at k2; cases k2
      · exact .inr ⟨i, oc, li, k1, k2, k3, k4⟩

/-- The end. -/
theorem finish {Q : Exit → Fr → AMem L → Prop} : ∀ (items : List PItem) (σ : AMem L) (κ2 : Kappa), (∀ i, ¬ Unl items i) → Skel P ops W items listed → Way rel ops κ ρ0 σ0 a0 items pend F σ ρ κ2 a w →
    aPl P call ops σ0.next W items [] pend F σ (Q .normal) → Ends rel κ ρ0 σ0 a0 Q .normal a w
  | [], σ, κ2, _, _, h, hp => by
    have : κ2 = κ := by
      refine Kappa.same (fun x => ?_) h.pe
      rcases h.p3 x with h' | ⟨i, oc, li, k1, _⟩
      · exact h'
      · cases k1
    subst this
    exact ⟨F, σ, ρ, hp, h.le, h.same, h.none0, by have := h.nx; omega, h.fr, h.sz, h.df, h.R⟩
  | .op i :: _, _, _, hu, _, _, _ => absurd ⟨_, .head _, rfl⟩ (hu i)
  | .mk i :: _, _, _, hu, _, _, _ => absurd ⟨_, .head _, rfl⟩ (hu i)
  | .reveal r :: rest, σ, κ2, hu, s, h, hp => by
    obtain ⟨σ', κ2', h', hp'⟩ := Way.reveal (A := []) (B := rest) h s (hu r) hp
    exact finish rest σ' κ2' (fun i hi => hu i ((Skel.unl_rev (A := []) i).2 hi)) (Skel.dropRev (A := []) s (hu r)) h' hp'

/-- Ahead of an operation that the model takes there is nothing that it waits for; what is to be seen is seen. -/
theorem stage {x : PItem} {j : Nat} (hx : x.idx = some j) : ∀ (n : Nat) (A : List PItem) (σ : AMem L) (κ2 : Kappa), A.length = n → Skel P ops W (A ++ x :: B) listed → (∀ k, W j k = true → ¬ Unl (A ++ x :: B) k) → Way rel ops κ ρ0 σ0 a0 (A ++ x :: B) pend F σ ρ κ2 a w →
    aPl P call ops σ0.next W (A ++ x :: B) [] pend F σ K →
      ∃ A' σ' κ2', Skel P ops W (A' ++ x :: B) listed ∧ (∀ k, W j k = true → ¬ Unl (A' ++ x :: B) k) ∧ Way rel ops κ ρ0 σ0 a0 (A' ++ x :: B) pend F σ' ρ κ2' a w ∧ aPl P call ops σ0.next W (A' ++ x :: B) [] pend F σ' K ∧
        (∀ y ∈ A', Quiet P ops y ∧ Unrel W x y) ∧ A'.filterMap PItem.idx = A.filterMap PItem.idx := by
  intro n
  induction n with
  | zero =>
    intro A σ κ2 hn s hw h hp
    have : A = [] := List.length_eq_zero_iff.1 hn
    subst this
    exact ⟨[], σ, κ2, s, hw, h, hp, (fun _ h => by cases h), rfl⟩
  | succ n ih =>
    intro A σ κ2 hn s hw h hp
    -- what stands ahead and is an operation, is quiet
    have quiet : ∀ y ∈ A, ∀ i, y.idx = some i → Quiet P ops y ∧ Unrel W x y := by
      intro y hy i hi
      have hb := s.mid.1 y hy
      have hun : Unl (A ++ x :: B) i := ⟨y, List.mem_append_left _ hy, hi⟩
      obtain ⟨h1, h2, h3⟩ := hb.1 i j hi hx
      have hna : ¬ IsAct ops i := fun ha => hw i (h3 ha) hun
      have hji : W j i = false := by
        cases hh : W j i with
        | false => rfl
        | true => exact absurd hun (hw i hh)
      refine ⟨?_, fun i' j' hi' hj' => ?_⟩
      · cases y with
        | op i' =>
          cases hi
          obtain ⟨o, ho, hm⟩ := s.kop i (List.mem_append_left _ hy)
          refine ⟨o, ho, ?_, hm⟩
          cases ha : acts o.op with
          | false => rfl
          | true => exact absurd ⟨o, ho, ha⟩ hna
        | mk i' =>
          cases hi
          exact (s.kmk i (List.mem_append_left _ hy)).1
        | reveal i' => cases hi
      · rw [hx] at hi'; cases hi'
        rw [hi] at hj'; cases hj'
        exact ⟨hji, h2, fun e => h1 e.symm⟩
    by_cases hall : ∀ y ∈ A, ∃ i, y.idx = some i
    · exact ⟨A, σ, κ2, s, hw, h, hp, (fun y hy => by obtain ⟨i, hi⟩ := hall y hy; exact quiet y hy i hi), rfl⟩
    · -- the first that is to be seen
      have hex : ∃ p r q, A = p ++ PItem.reveal r :: q ∧ ∀ y ∈ p, ∃ i, y.idx = some i := by
        clear ih hn s hw h hp quiet
        induction A with
        | nil => exact absurd (fun _ h => nomatch h) hall
        | cons y A ihA =>
          cases hy : y.idx with
          | none =>
            cases y with
            | op i => cases hy
            | mk i => cases hy
            | reveal r => exact ⟨[], r, A, rfl, fun _ h => nomatch h⟩
          | some i =>
            obtain ⟨p, r, q, rfl, hp⟩ := ihA (fun hh => hall fun z hz => by
              rcases List.mem_cons.1 hz with rfl | hz
              · exact ⟨i, hy⟩
              · exact hh z hz)
            refine ⟨y :: p, r, q, rfl, fun z hz => ?_⟩
            rcases List.mem_cons.1 hz with rfl | hz
            · exact ⟨i, hy⟩
            · exact hp z hz
      obtain ⟨p, r, q, rfl, hpi⟩ := hex
      have hWr : W j r = true := (s.mid.1 (.reveal r) (by simp)).2.1 r j rfl hx
      have hunr := hw r hWr
      have e1 : p ++ PItem.reveal r :: q ++ x :: B = p ++ PItem.reveal r :: (q ++ x :: B) := by simp
      rw [e1] at s hw h hp hunr
      have hp' := front_reveal p [] pend F σ (fun y hy => by
        obtain ⟨i, hi⟩ := hpi y hy
        refine ⟨(quiet y (by simp [hy]) i hi).1, fun e => hunr ⟨y, List.mem_append_left _ hy, e⟩⟩) (h.hid r (by simp)) hp
      obtain ⟨σ', κ2', h', hp''⟩ := Way.reveal h s hunr hp'
      have s' := s.dropRev hunr
      have e2 : p ++ (q ++ x :: B) = (p ++ q) ++ x :: B := by simp
      have e3 : p ++ q ++ x :: B = p ++ (q ++ x :: B) := e2.symm
      rw [e2] at h' hp'' s'
      have hu : ∀ i, Unl (p ++ q ++ x :: B) i ↔ Unl (p ++ PItem.reveal r :: (q ++ x :: B)) i := fun i => by rw [e3, Skel.unl_rev]
      obtain ⟨A', σ2, κ3, k1, k2, k3, k4, k5, k6⟩ := ih (p ++ q) σ' κ2' (by simp at hn ⊢; omega) s' (fun k hk hun => hw k hk ((hu k).1 hun)) h' hp''
      exact ⟨A', σ2, κ3, k1, k2, k3, k4, k5, by rw [k6, List.filterMap_append, List.filterMap_append, List.filterMap_cons]; rfl⟩
end

end Go.Ax
