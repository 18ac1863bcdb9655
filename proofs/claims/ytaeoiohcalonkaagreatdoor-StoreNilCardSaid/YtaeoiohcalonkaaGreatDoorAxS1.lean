/- The operations that read and write cells do in the model what they do to abstract memory. -/
import Derived.Test.YtaeoiohcalonkaaGreatDoorAxOp
set_option linter.unusedVariables false
set_option linter.unusedSimpArgs false
namespace Go.Ax
open Go
variable {L : Type} {P : Program} {κ : Kappa} {ρ : Rho} {σ : AMem L} {w : World}

/-- In the model: the value, the world, the map of blocks, with the block b more at most. -/
def Does (P : Program) (κ : Kappa) (ρ : Rho) (b : Nat) (s : Sem Value) (w : World) (v : Value) (σ' : AMem L) : Prop :=
  ∃ v' w' ρ', s.run P w = .ok v' w' ∧ ρ.le ρ' ∧ (∀ x, x ≠ b → ρ' x = ρ x) ∧ VRel ρ' v v' ∧ MRel P κ ρ' σ' w'

theorem Does.still {b : Nat} {s : Sem Value} {v v' : Value} (hm : MRel P κ ρ σ w) (h : s.run P w = .ok v' w) (hv : VRel ρ v v') : Does P κ ρ b s w v σ :=
  ⟨v', w, ρ, h, ρ.le_refl, fun _ _ => rfl, hv, hm⟩

theorem run_szOf {t n : Nat} (h : szOf P t = some n) (w : World) : (sizeOf t).run P w = .ok n w := by
  unfold szOf at h
  cases hi : P.info? t with
  | none => rw [hi] at h; cases h
  | some i => rw [hi] at h; simp at h; simp [sizeOf, typeInfo, hi, h]

theorem run_zeroOf {t : Nat} {z : Value} (h : zeroOf P t = some z) (w : World) : (zeroValue t).run P w = .ok z w := by
  unfold zeroOf at h
  cases hi : P.info? t with
  | none => rw [hi] at h; cases h
  | some i => rw [hi] at h; simp at h; simp [zeroValue, typeInfo, hi, h]

theorem run_aggOf {t : Nat} {b : Bool} (h : aggOf P t = some b) (w : World) : (isAgg t).run P w = .ok b w := by
  unfold aggOf at h
  simp only [isAgg, Sem.run_bind]
  split at h
  · rename_i fs hu; rw [run_underlying hu]; simp at h; subst h; rfl
  · rename_i n e hu; rw [run_underlying hu]; simp at h; subst h; rfl
  · rename_i d h1 h2 hu
    rw [run_underlying hu]
    simp only [Option.some.injEq] at h
    subst h
    cases d <;> first | rfl | exact absurd rfl (h1 _) | exact absurd rfl (h2 _ _)
  · cases h

theorem add_none (c o n : Nat) : (⟨c, o, none⟩ : Addr).add n = ⟨c, o + n, none⟩ := by unfold Addr.add; split <;> simp_all

/-- So many cells in a row. -/
theorem MRel.row (h : MRel P κ ρ σ w) {b : Nat} {vs : List Value} {e : TypeId} {ro : Bool} (ho : σ.get b = some (.cells vs e ro)) {l : Loc} (hl : ρ b = some l) {off n : Nat} (hn : off + n ≤ vs.length) :
    ∃ cs : List Value, LRel ρ ((vs.drop off).take n) cs ∧ cs.length = n ∧ ∀ (j : Nat) (v : Value), cs[j]? = some v → w.cell? ⟨l.blk, l.off + off + j, none⟩ = some v := by
  obtain ⟨arr, fr, hh, hs, hlen, _, hc, _⟩ := h.cells ho hl
  have hsz : l.off + off + n ≤ arr.size := by omega
  refine ⟨(arr.toList.drop (l.off + off)).take n, ⟨by simp; omega, fun i x y hx hy => ?_⟩, by simp; omega, fun j v hv => ?_⟩
  · have hi : i < n := by
      rcases Nat.lt_or_ge i n with h | h
      · exact h
      · rw [List.getElem?_take] at hx; simp [Nat.not_lt.2 h] at hx
    rw [List.getElem?_take, if_pos hi, List.getElem?_drop] at hx hy
    obtain ⟨v', hv', hr⟩ := hc _ _ hx
    rw [Array.getElem?_toList, show l.off + off + i = l.off + (off + i) by omega, hv'] at hy
    cases hy
    exact hr
  · have hj : j < n := by
      rcases Nat.lt_or_ge j n with h | h
      · exact h
      · rw [List.getElem?_take] at hv; simp [Nat.not_lt.2 h] at hv
    rw [List.getElem?_take, if_pos hj, List.getElem?_drop, Array.getElem?_toList] at hv
    simp [World.cell?, hh, hv]

theorem load_sound {t b off : Nat} {v : Value} {l : Loc} (hm : MRel P κ ρ σ w) (h : aLoad P t b off σ = some v) (hl : ρ b = some l) :
    ∃ v', (Instr.loadAt t (.pointer (some ⟨l.blk, l.off + off, none⟩))).run P w = .ok v' w ∧ VRel ρ v v' := by
  unfold aLoad at h
  split at h
  · rename_i vs e ro n hg ha hs
    obtain ⟨v', hc, hr⟩ := hm.cell hg hl h
    refine ⟨v', ?_, hr⟩
    simp [Instr.loadAt, Instr.sureAddr, loadVar, run_aggOf ha, hc]
  · rename_i vs e ro n hg ha hs
    split at h
    · rename_i hn
      simp only [Option.some.injEq] at h
      subst h
      obtain ⟨cs, hcs, hlen, hcell⟩ := hm.row hg hl hn
      refine ⟨.agg cs.toArray, ?_, VRel.agg_iff.2 (by simpa using hcs)⟩
      have := run_loadCells_list (P := P) w ⟨l.blk, l.off + off, none⟩ cs (fun j v hv => by rw [add_none]; exact hcell j v hv)
      rw [hlen] at this
      simp [Instr.loadAt, Instr.sureAddr, loadVar, run_aggOf ha, run_szOf hs, this]
    · cases h
  · cases h

theorem one_rel {v v' : Value} (h : VRel ρ v v') (h1 : laidCell v = true) : v'.oneCell' = true := by
  cases h <;> first | rfl | (simp [laidCell, undef] at h1)

theorem oneCells_rel {xs ys : List Value} (h : LRel ρ xs ys) (h1 : oneCells xs = true) : ∀ v ∈ ys, v.oneCell' = true := by
  intro v hv
  obtain ⟨i, hi, rfl⟩ := List.getElem_of_mem hv
  have hi' : i < xs.length := by rw [h.1]; exact hi
  have := h.2 i xs[i] ys[i] (List.getElem?_eq_getElem hi') (List.getElem?_eq_getElem hi)
  exact one_rel this (by simpa using List.all_eq_true.1 h1 _ (List.getElem_mem hi'))

theorem setAt_length : ∀ (cs vs : List Value) (i : Nat), (setAt vs i cs).length = vs.length
  | [], _, _ => rfl
  | c :: cs, vs, i => by rw [setAt, setAt_length cs]; simp

theorem setAt_get : ∀ (cs vs : List Value) (i : Nat), i + cs.length ≤ vs.length → ∀ j, (setAt vs i cs)[j]? = if i ≤ j ∧ j < i + cs.length then cs[j - i]? else vs[j]?
  | [], vs, i, _, j => by
    have : ¬ (i ≤ j ∧ j < i + ([] : List Value).length) := by simp only [List.length_nil]; omega
    rw [if_neg this]; rfl
  | c :: cs, vs, i, hl, j => by
    simp only [List.length_cons] at hl
    rw [setAt, setAt_get cs (vs.set i c) (i + 1) (by simp; omega) j]
    by_cases h1 : i + 1 ≤ j ∧ j < i + 1 + cs.length
    · rw [if_pos h1, if_pos (by simp; omega)]
      rw [show j - i = j - (i + 1) + 1 by omega]; simp
    · rw [if_neg h1, List.getElem?_set]
      by_cases h2 : i = j
      · subst h2
        rw [if_pos rfl, if_pos (by omega), if_pos (by simp)]; simp
      · rw [if_neg h2, if_neg (by simp only [List.length_cons]; omega)]

theorem setCells_heap {blk : Nat} {e : TypeId} {fr : Nat × Nat} : ∀ (zs : List Value) (o : Nat) (w : World) (arr : Array Value), w.heap[blk]? = some (.cells arr e fr) → o + zs.length ≤ arr.size →
    (w.setCells blk o zs).heap.size = w.heap.size ∧ (∀ c, c ≠ blk → (w.setCells blk o zs).heap[c]? = w.heap[c]?) ∧
      ∃ arr', (w.setCells blk o zs).heap[blk]? = some (.cells arr' e fr) ∧ arr'.size = arr.size ∧ ∀ j, arr'[j]? = if o ≤ j ∧ j < o + zs.length then zs[j - o]? else arr[j]? := by
  intro zs
  induction zs with
  | nil => intro o w arr hh hl; exact ⟨rfl, fun _ _ => rfl, arr, hh, rfl, fun j => by rw [if_neg (by simp only [List.length_nil]; omega)]⟩
  | cons z zs ih =>
    intro o w arr hh hl'
    simp only [List.length_cons] at hl'
    have hh' : (w.setCell ⟨blk, o, none⟩ z).heap[blk]? = some (.cells (arr.setIfInBounds o z) e fr) := by
      simp [World.setCell, Array.getElem?_modify, hh]
    obtain ⟨s1, s2, arr', s3, s4, s5⟩ := ih (o + 1) (w.setCell ⟨blk, o, none⟩ z) (arr.setIfInBounds o z) hh' (by simp; omega)
    refine ⟨?_, ?_, arr', ?_, ?_, ?_⟩
    · rw [World.setCells, s1]; simp [World.setCell]
    · intro c hc; rw [World.setCells, s2 c hc]; simp [World.setCell, Array.getElem?_modify, Ne.symm hc]
    · rw [World.setCells]; exact s3
    · rw [s4]; simp
    · intro j
      rw [s5 j]
      by_cases hj : o + 1 ≤ j ∧ j < o + 1 + zs.length
      · rw [if_pos hj, if_pos (by simp; omega), show j - o = j - (o + 1) + 1 by omega]; simp
      · rw [if_neg hj, Array.getElem?_setIfInBounds]
        by_cases ho : o = j
        · subst ho; rw [if_pos rfl, if_pos (by omega), if_pos (by simp)]; simp
        · rw [if_neg ho, if_neg (by simp only [List.length_cons]; omega)]

/-- Cells are laid, in place. -/
theorem MRel.setCells (hm : MRel P κ ρ σ w) {b off : Nat} {vs cs ys : List Value} {e : TypeId} {l : Loc} (hg : σ.get b = some (.cells vs e false)) (hl : ρ b = some l)
    (hn : off + cs.length ≤ vs.length) (hr : LRel ρ cs ys) (h1 : oneCells cs = true) :
    (storeCells ⟨l.blk, l.off + off, none⟩ ys).run P w = .ok () (w.setCells l.blk (l.off + off) ys) ∧
      MRel P κ ρ (σ.set b (.cells (setAt vs off cs) e false)) (w.setCells l.blk (l.off + off) ys) := by
  obtain ⟨arr, fr, hh, hs, hlen, hes, hc, hf⟩ := hm.cells hg hl
  have hcell : ∀ j, j < ys.length → (w.cell? ⟨l.blk, l.off + off + 0 + j, none⟩).isSome = true := fun j hj => by
    have : j < cs.length := by rw [hr.1]; exact hj
    have : l.off + off + j < arr.size := by omega
    simp [World.cell?, hh, this]
  have hfz : ∀ j, j < ys.length → w.frozen? ⟨l.blk, l.off + off + 0 + j, none⟩ = false := fun j hj => by
    have : j < cs.length := by rw [hr.1]; exact hj
    have hu := hf rfl (l.off + off + j) (by omega) (by omega)
    simp only [World.frozen?, hh, Nat.add_zero]
    simp only [Bool.and_eq_false_iff, decide_eq_false_iff_not]
    by_cases h : fr.1 ≤ l.off + off + j
    · right; intro h'; exact hu ⟨h, h'⟩
    · left; exact h
  refine ⟨?_, ?_⟩
  · have := run_storeCells_cells (P := P) l.blk (l.off + off) ys 0 w hcell hfz (oneCells_rel hr h1)
    simpa using this
  · obtain ⟨s1, s2, arr', s3, s4, s5⟩ := setCells_heap ys (l.off + off) w arr hh (by rw [← hr.1]; omega)
    refine hm.change hg rfl rfl rfl rfl hl ⟨arr', fr, s3, by omega, by rw [setAt_length]; exact hlen, hes, fun i v hv => ?_, fun _ => hf rfl⟩ s1 s2
    rw [setAt_get cs vs off hn i] at hv
    rw [s5 (l.off + i)]
    by_cases hi : off ≤ i ∧ i < off + cs.length
    · rw [if_pos hi] at hv
      rw [if_pos (by rw [← hr.1]; omega), show l.off + i - (l.off + off) = i - off by omega]
      exact hr.get hv
    · rw [if_neg hi] at hv
      rw [if_neg (by rw [← hr.1]; omega)]
      exact hc i v hv

theorem store_sound {t b off : Nat} {v v' : Value} {σ' : AMem L} {l : Loc} (hm : MRel P κ ρ σ w) (h : aStore P t b off v σ = some σ') (hl : ρ b = some l) (hv : VRel ρ v v') :
    ∃ w', (Instr.storeAt t (.pointer (some ⟨l.blk, l.off + off, none⟩)) v').run P w = .ok () w' ∧ MRel P κ ρ σ' w' ∧ σ'.next = σ.next := by
  unfold aStore at h
  split at h
  · rename_i vs e cs n hg hcs hs
    split at h
    · rename_i hc
      obtain ⟨h1, h2, h3⟩ := hc
      simp only [Option.some.injEq] at h
      subst h
      have hr := cellsOf_rel hv hcs
      have hle : off + cs.length ≤ vs.length := by omega
      obtain ⟨r1, r2⟩ := hm.setCells (cs := cs) hg hl hle hr h3
      refine ⟨_, ?_, r2, rfl⟩
      have hsz : v'.cells.size = n := by have := hr.1; simp at this; omega
      simp only [Instr.storeAt, Instr.sureAddr, storeVar, Sem.run_bind, Sem.run_pure, Result.andThen_ok, run_szOf hs]
      rw [if_neg (by simp [hsz])]
      exact r1
    · cases h
  · cases h

end Go.Ax
