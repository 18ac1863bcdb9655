/- slices.Delete at snapshots: its law. -/
import Derived.Test.YtmnffigepjgnhaaGreatDoorDelWalk
import Derived.Test.YtmnffigepjgnhaaGreatDoorAxF
import Derived.Test.YtmnffigepjgnhaaGreatDoorAxTab
set_option linter.unusedVariables false
set_option linter.unusedSimpArgs false
namespace Go.Proofs
open Go Go.Ax Go.Lib
set_option maxRecDepth 100000
variable {L : Type}

abbrev DF : FuncId := 33
def zeroSnaps (k : Nat) : List Value := (List.replicate k [Value.int .i64 0, Value.int .i64 0]).flatten

theorem zeroSnaps_length : ∀ k, (zeroSnaps k).length = k * 2
  | 0 => rfl
  | k + 1 => by
    have := zeroSnaps_length k
    unfold zeroSnaps at *
    rw [List.replicate_succ, List.flatten_cons, List.length_append, this]
    simp; omega

theorem zeroSnaps_flat (k : Nat) : ∀ v ∈ zeroSnaps k, v = Value.int .i64 0 := by
  intro v hv
  unfold zeroSnaps at hv
  obtain ⟨l, hl, hv⟩ := List.mem_flatten.1 hv
  rw [List.eq_of_mem_replicate hl] at hv
  simpa using hv

theorem zeroCells_snap (k : Nat) : (Builtin.zeroCells #[Value.int .i64 0, Value.int .i64 0] k).toList = zeroSnaps k := by
  apply List.ext_getElem
  · rw [zeroSnaps_length]; simp [Builtin.zeroCells, Nat.mul_comm]
  · intro i h1 h2
    rw [zeroSnaps_flat k _ (List.getElem_mem h2)]
    have : i % 2 = 0 ∨ i % 2 = 1 := by omega
    rcases this with h | h <;> simp [Builtin.zeroCells, h]

def callDelete : Ax.Spec L := fun g xs σ K => g = DF ∧ ∃ b off n i j vs e, xs = [.slice (some ⟨b, off, none⟩) n n, .int .i64 (Int.ofNat i), .int .i64 (Int.ofNat j)] ∧ σ.get b = some (.cells vs e false) ∧ szOf PP e = some 2 ∧ off + n * 2 ≤ vs.length ∧ i < j ∧ j ≤ n ∧ n < 1000000 ∧
  oneCells ((vs.drop (off + j * 2)).take ((n - j) * 2)) = true ∧
  K (.slice (some ⟨b, off, none⟩) (i + (n - j)) (i + (n - j))) ((σ.set b (.cells (setAt vs (off + i * 2) ((vs.drop (off + j * 2)).take ((n - j) * 2))) e false)).set b (.cells (setAt (setAt vs (off + i * 2) ((vs.drop (off + j * 2)).take ((n - j) * 2))) (off + (i + (n - j)) * 2) (zeroSnaps (n - (i + (n - j))))) e false))

theorem sim_delete (rel : Rel PP L) : Sim rel (callDelete (L := L)) := by
  rintro g xs σ K ⟨rfl, b, off, n, i, j, vs, e, rfl, hg, hsz, hlen, hij, hjn, hn, hone, hK⟩ κ ρ w args' hargs hR
  obtain ⟨κ', _, hm0, hclose⟩ := rel.opens hR
  have hm : MRel PP κ' ρ σ w.drew := hm0.of_heap rfl
  obtain ⟨l, hl, hor⟩ := hm.live b _ hg rfl
  obtain ⟨arr, fr, h1, h2, h3, h4, h5, h6⟩ := hor
  have hes : l.es = 2 := by
    unfold szOf at hsz
    rw [h4] at hsz
    simpa using hsz
  obtain ⟨x0, xs0, a0, r0, q0⟩ := hargs.uncons
  obtain ⟨x1, xs1, a1, r1, q1⟩ := q0.uncons
  obtain ⟨x2, xs2, a2, r2, q2⟩ := q1.uncons
  have a3 := q2.nil_left
  subst a3 a2 a1
  have r1' := r1.int_inv; subst r1'
  have r2' := r2.int_inv; subst r2'
  obtain ⟨_, hs⟩ := r0.slice_inv
  rcases hs with ⟨l', cap, hl', _, hc, hr, rfl⟩ | ⟨h0, _⟩
  case inr => omega
  simp only at hl'
  rw [hl] at hl'; cases hl'
  rw [hes] at hr
  have hargs' : args' = #[.slice (some ⟨l.blk, l.off + off, none⟩) n cap, .int .i64 (i : Int), .int .i64 (j : Int)] := Array.toList_inj.1 a0
  subst hargs'
  have hcapm : n ≤ 9223372036854775807 := by omega
  -- the cells that move
  let ys : List Value := (arr.toList.drop (l.off + off + j * 2)).take ((n - j) * 2)
  have hys : ys.length = (n - j) * 2 := by simp only [ys, List.length_take, List.length_drop, Array.length_toList]; omega
  have hysg : ∀ t, t < (n - j) * 2 → ys[t]? = arr[l.off + off + j * 2 + t]? := fun t ht => by
    simp only [ys, List.getElem?_take, if_pos ht, List.getElem?_drop, Array.getElem?_toList]
  have hrel : LRel ρ ((vs.drop (off + j * 2)).take ((n - j) * 2)) ys := by
    refine ⟨by rw [hys]; simp; omega, fun t x y hx hy => ?_⟩
    have ht : t < (n - j) * 2 := by
      have := (List.getElem?_eq_some_iff.1 hy).1; omega
    rw [hysg t ht] at hy
    rw [List.getElem?_take, if_pos ht, List.getElem?_drop] at hx
    obtain ⟨v', k1, k2⟩ := h5 _ x hx
    rw [show l.off + (off + j * 2 + t) = l.off + off + j * 2 + t by omega, hy] at k1
    cases k1
    exact k2
  have hnl : ((vs.drop (off + j * 2)).take ((n - j) * 2)).length = (n - j) * 2 := by simp; omega
  obtain ⟨hst1, hm1⟩ := hm.setCells (off := off + i * 2) hg hl (by rw [hnl]; omega) hrel hone
  have hg1 : (σ.set b (.cells (setAt vs (off + i * 2) ((vs.drop (off + j * 2)).take ((n - j) * 2))) e false)).get b = some (.cells (setAt vs (off + i * 2) ((vs.drop (off + j * 2)).take ((n - j) * 2))) e false) := by rw [AMem.get_set, if_pos rfl]
  have hzr : LRel ρ (zeroSnaps (n - (i + (n - j)))) (zeroSnaps (n - (i + (n - j)))) := LRel.refl_of fun x hx => by rw [zeroSnaps_flat _ x hx]; exact .int _ _
  have hzo : oneCells (zeroSnaps (n - (i + (n - j)))) = true := by
    unfold oneCells
    refine List.all_eq_true.2 fun x hx => ?_
    rw [zeroSnaps_flat _ x hx]; rfl
  obtain ⟨hst2, hm2⟩ := hm1.setCells (off := off + (i + (n - j)) * 2) hg1 hl (by rw [zeroSnaps_length, setAt_length]; omega) hzr hzo
  have hcell : ∀ t, l.off + t < l.size → (w.drew.cell? ⟨l.blk, l.off + t, none⟩) = arr[l.off + t]? := fun t ht => by
    simp [World.cell?, show w.drew.heap[l.blk]? = some (.cells arr e fr) from h1]
  have hfz : ∀ t, l.off + t < l.size → w.drew.frozen? ⟨l.blk, l.off + t, none⟩ = false := fun t ht => by
    have hu := h6 rfl (l.off + t) (by omega) (by omega)
    simp only [World.frozen?, show w.drew.heap[l.blk]? = some (.cells arr e fr) from h1]
    simp only [Bool.and_eq_false_iff, decide_eq_false_iff_not]
    by_cases h : fr.1 ≤ l.off + t
    · right; intro h'; exact hu ⟨h, h'⟩
    · left; exact h
  obtain ⟨A, hA, hsrc⟩ : ∃ A : Addr, (if cap = j then some (⟨l.blk, l.off + off, none⟩ : Addr) else some ⟨l.blk, l.off + off + j * 2, none⟩) = some A ∧ (∀ t u, ys[t]? = some u → w.drew.cell? (A.add t) = some u) := by
    by_cases h : cap = j
    · refine ⟨⟨l.blk, l.off + off, none⟩, by simp [h], fun t u hu => ?_⟩
      have := (List.getElem?_eq_some_iff.1 hu).1
      omega
    · refine ⟨⟨l.blk, l.off + off + j * 2, none⟩, by simp [h], fun t u hu => ?_⟩
      have ht : t < (n - j) * 2 := by have := (List.getElem?_eq_some_iff.1 hu).1; omega
      rw [hysg t ht] at hu
      rw [Addr.add_lit, show l.off + off + j * 2 + t = l.off + (off + j * 2 + t) by omega, hcell _ (by omega)]
      rw [← hu]; congr 1; omega
  have i0 : ∃ ti, PP.info? 95 = some ti ∧ ti.size = 2 := ⟨_, rfl, by kernel_rfl⟩
  obtain ⟨ti, hi0, hz1⟩ := i0
  have hz : ∀ w, (zeroValue 95).run PP w = .ok (.agg #[.int .i64 0, .int .i64 0]) w := fun w => by kernel_rfl
  have hu : Program.underlying PP 76 = some (.slice 95) := by kernel_rfl
  have hcl : ∀ ty, (Builtin.clear_ #[76] ty #[.slice (some ⟨l.blk, l.off + off + (i + (n - j)) * 2, none⟩) (n - (i + (n - j))) (cap - (i + (n - j)))]).run PP (w.drew.setCells l.blk (l.off + (off + i * 2)) ys) =
      .ok (.tuple #[]) ((w.drew.setCells l.blk (l.off + (off + i * 2)) ys).setCells l.blk (l.off + (off + (i + (n - j)) * 2)) (zeroSnaps (n - (i + (n - j))))) := fun ty => by
    obtain ⟨m, hmm⟩ : ∃ m, n - (i + (n - j)) = m + 1 := ⟨n - (i + (n - j)) - 1, by omega⟩
    rw [hmm] at hst2 ⊢
    rw [show l.off + off + (i + (n - j)) * 2 = l.off + (off + (i + (n - j)) * 2) by omega]
    simp [Builtin.clear_, run_underlying hu, hz, Value.cells, zeroCells_snap, hst2]
  have hwalk := delete_walk l.blk (l.off + off) n cap i j w ys _ hij hjn hc hcapm A hA hys hsrc (fun u hu => oneCells_rel hrel hone u hu) (fun t ht => by
      rw [hys] at ht
      rw [show l.off + off + i * 2 + t = l.off + (off + i * 2 + t) by omega]
      refine ⟨?_, hfz _ (by omega)⟩
      rw [hcell _ (by omega), Array.getElem?_eq_getElem (by omega)]; rfl)
    (w.drew.setCells l.blk (l.off + off + i * 2) ys) rfl ti hi0 hz1 (by
      rw [show l.off + off + i * 2 = l.off + (off + i * 2) by omega]; exact hcl)
  refine .inl ⟨hwalk.mono fun en w' he => ?_, Tryz.f33, Tryz.func33, by kernel_rfl, by kernel_rfl⟩
  obtain ⟨rfl, rfl⟩ := he
  refine ⟨_, _, ρ, _, rfl, hK, ρ.le_refl, fun _ _ => rfl, fun x hx hgx => ?_, Nat.le_refl _, ?_, hclose ρ _ _ ρ.le_refl hm2 ?_ (Nat.le_refl _)⟩
  · rw [AMem.get_set, AMem.get_set]
    split
    · rename_i h; subst h; rw [hg] at hgx; cases hgx
    · exact hgx
  · refine VRel.slice hl (by omega) ?_
    rw [hes]; exact hr
  · intro x y
    rw [AMem.get_set, AMem.get_set]
    split
    · rename_i h; subst h; rw [hg]; simp
    · exact Iff.rfl
end Go.Proofs
