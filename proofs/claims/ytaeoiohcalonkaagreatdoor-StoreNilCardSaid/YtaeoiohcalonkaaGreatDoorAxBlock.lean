/- A run on one block of known cells is a call in any memory that has such a block. -/
import Derived.Test.YtaeoiohcalonkaaGreatDoorAxPure
set_option linter.unusedVariables false
set_option linter.unusedSimpArgs false
namespace Go.Ax
open Go
variable {L : Type} {P : Program} {rel : Rel P L} {call call' : Spec L}

def oneBlk (vs : List Value) (e : TypeId) : AMem L := ⟨1, fun b => if b = 0 then some (.cells vs e false) else none⟩

theorem Sim.block {f : FuncId} {rest : List Value} {v : Value} {n : Nat} {vs vs' : List Value} {e : TypeId} (hrun : Sim (physRel P L) call) (hn : 0 < n) (hb : rest.all bare = true) (hvs : vs.all bare = true) (hvs' : vs'.all bare = true) (hv : bareR v = true) (hlen : vs'.length = vs.length)
    (h : call f (.slice (some ⟨0, 0, none⟩) n n :: rest) (oneBlk vs e) (fun u σ1 => u = v ∧ σ1.get 0 = some (.cells vs' e false))) :
    Sim rel (fun g as σ K => g = f ∧ ∃ b, as = .slice (some ⟨b, 0, none⟩) n n :: rest ∧ σ.get b = some (.cells vs e false) ∧ K v (σ.set b (.cells vs' e false))) := by
  rintro g as σ K ⟨rfl, b, rfl, hbg, hK⟩ κ ρ w args' hargs hR
  obtain ⟨κ', _, hm, hclose⟩ := rel.opens hR
  obtain ⟨l, hl, hor⟩ := hm.live b _ hbg rfl
  obtain ⟨x', rest', hx', hs, hrest⟩ := hargs.uncons
  obtain ⟨_, hs2⟩ := hs.slice_inv
  rcases hs2 with ⟨l', cap, hl', _, hc, hr, rfl⟩ | ⟨h0, _⟩
  case inr => omega
  simp only at hl'
  rw [hl] at hl'; cases hl'
  obtain ⟨arr, fr, h1, h2, h3, h4, h5, h6⟩ := hor
  have hbl : l.blk < w.heap.size := hm.old b l hl
  let ρ0 : Rho := fun x => if x = 0 then some l else none
  let κ0 : Kappa := ⟨fun c => if c = l.blk then none else w.heap[c]?, envOf w⟩
  have hm0 : MRel P κ0 ρ0 (oneBlk vs e : AMem L) w := by
    refine { live := fun x o ho hlo => ?_, inj := fun x y o o' lx ly hx hy hxy => ?_, fresh := fun x hx => ?_, old := fun x lx hx => ?_, kept := fun c o hc => ?_, apart := fun c o x o' lx hc hx hlo hlx => ?_, env := rfl }
    · simp only [oneBlk] at ho
      split at ho
      · rename_i hx; subst hx; cases ho
        exact ⟨l, by simp [ρ0], arr, fr, h1, h2, h3, h4, fun i v hv => let ⟨v', a, b⟩ := h5 i v hv; ⟨v', a, bare_rel (List.all_eq_true.1 hvs v (List.mem_of_getElem? hv)) b⟩, h6⟩
      · cases ho
    · simp only [oneBlk] at hx hy
      split at hx
      · split at hy
        · rename_i a b; subst a; subst b; exact absurd rfl hxy
        · cases hy
      · cases hx
    · have hx' : 1 ≤ x := hx
      constructor
      · simp only [oneBlk]; rw [if_neg (by omega)]
      · simp only [ρ0]; rw [if_neg (by omega)]
    · simp only [ρ0] at hx
      split at hx
      · cases hx; exact hbl
      · cases hx
    · simp only [κ0] at hc
      split at hc
      · cases hc
      · exact hc
    · simp only [κ0] at hc
      split at hc
      · cases hc
      · rename_i hcl
        simp only [ρ0] at hlx
        split at hlx
        · cases hlx; exact fun e => hcl e.symm
        · cases hlx
  have hargs0 : LRel ρ0 (.slice (some ⟨0, 0, none⟩) n n :: rest) args'.toList := by
    rw [hx']
    refine .cons ?_ ⟨hrest.1, fun i x y hx hy => bare_rel (List.all_eq_true.1 hb x (List.mem_of_getElem? hx)) (hrest.2 i x y hx hy)⟩
    exact VRel.slice (ρ := ρ0) (b := 0) (off := 0) (len := n) (cap := cap) (l := l) (by simp [ρ0]) hc hr
  refine (hrun g _ _ _ h _ _ w args' hargs0 hm0).mono fun en w' he => ?_
  obtain ⟨u, v', ρ', σ1, k1, ⟨rfl, hg0⟩, k2, k3, k4, k5, k6, k7⟩ := he
  have k7' : MRel P κ0 ρ' σ1 w' := k7
  obtain ⟨l2, hl2, arr', fr', g1, g2, g3, g4, g5, g6⟩ := k7'.live 0 _ hg0 rfl
  have hl2' : l2 = l := by
    have := k2 0 l (by simp [ρ0])
    rw [this] at hl2; cases hl2; rfl
  subst hl2'
  have hk : ∀ c, c < w.heap.size → c ≠ l2.blk → w'.heap[c]? = w.heap[c]? := fun c hc hne => by
    have h1 : w.heap[c]? = some w.heap[c] := Array.getElem?_eq_getElem hc
    rw [k7'.kept c w.heap[c] (by simp only [κ0]; rw [if_neg hne, h1]), h1]
  have hsz : w.heap.size ≤ w'.heap.size := by
    rcases Nat.lt_or_ge w'.heap.size w.heap.size with hlt | hge
    · have h7 : w'.heap.size ≠ l2.blk := fun e => by
        have : l2.blk < w'.heap.size := k7'.old 0 l2 (k2 0 l2 (by simp [ρ0]))
        omega
      have := hk w'.heap.size hlt h7
      rw [Array.getElem?_eq_none (Nat.le_refl _), Array.getElem?_eq_getElem hlt] at this
      cases this
    · exact hge
  have key : ∀ x o, (σ.set b (.cells vs' e false)).get x = some o → ∃ o', σ.get x = some o' ∧ o'.isLogic = o.isLogic ∧ o'.isRo = o.isRo := by
    intro x o ho
    rw [AMem.get_set] at ho
    split at ho
    · rename_i hx; subst hx; cases ho; exact ⟨_, hbg, rfl, rfl⟩
    · exact ⟨o, ho, rfl, rfl⟩
  have hm' : MRel P κ' ρ (σ.set b (.cells vs' e false)) w' := by
    refine { live := fun x o ho hlo => ?_, inj := fun x y o o' lx ly hx hy hxy hxl hyl hro => ?_, fresh := fun x hx => ?_, old := fun x lx hx => Nat.lt_of_lt_of_le (hm.old x lx hx) hsz, kept := fun c o hc => ?_, apart := fun c o x o' lx hc hx hlo => ?_, env := k7'.env.trans hm.env }
    · rw [AMem.get_set] at ho
      split at ho
      · rename_i hx; subst hx; cases ho
        exact ⟨l2, hl, arr', fr', g1, g2, g3, g4, fun i v hv => let ⟨v', a, b⟩ := g5 i v hv; ⟨v', a, bare_rel (List.all_eq_true.1 hvs' v (List.mem_of_getElem? hv)) b⟩, g6⟩
      · rename_i hxb
        obtain ⟨lx, hlx, horx⟩ := hm.live x o ho hlo
        exact ⟨lx, hlx, horx.of_block (hk _ (hm.old x lx hlx) (hm.inj x b o _ lx l2 ho hbg hxb hlo rfl (by simp [AObj.isRo]) hlx hl))⟩
    · obtain ⟨o1, b1, b2, b3⟩ := key x o hx
      obtain ⟨o2, c1, c2, c3⟩ := key y o' hy
      exact hm.inj x y o1 o2 lx ly b1 c1 hxy (by rw [b2]; exact hxl) (by rw [c2]; exact hyl) (by rw [b3, c3]; exact hro)
    · have hxb : x ≠ b := fun e => by
        have hx' : σ.next ≤ x := hx
        rw [e] at hx'
        rw [(hm.fresh b hx').1] at hbg; cases hbg
      rw [AMem.get_set, if_neg hxb]
      exact hm.fresh x hx
    · have h8 := hm.kept c o hc
      have hlt : c < w.heap.size := (Array.getElem?_eq_some_iff.1 h8).1
      rw [hk c hlt (fun e => hm.apart c o b _ l2 hc hbg rfl hl e.symm)]; exact h8
    · obtain ⟨o1, b1, b2, _⟩ := key x o' hx
      exact hm.apart c o x o1 lx hc b1 (by rw [b2]; exact hlo)
  have hsl : SameLogic σ (σ.set b (.cells vs' e false)) := by
    intro x y
    rw [AMem.get_set]
    split
    · rename_i hx; subst hx; rw [hbg]; simp
    · exact Iff.rfl
  refine ⟨u, v', ρ, σ.set b (.cells vs' e false), k1, hK, ρ.le_refl, fun _ _ => rfl, fun x hx hg => ?_, Nat.le_refl _, bareR_rel hv k6, hclose ρ _ w' ρ.le_refl hm' hsl (Nat.le_refl _)⟩
  rw [AMem.get_set]
  split
  · rename_i hxb; subst hxb; rw [hbg] at hg; cases hg
  · exact hg

end Go.Ax
