/- copy, len, maps. -/
import Derived.Test.YtaeoiohcalonkaaGreatDoorAxS5
import Derived.Laws.IdiomCopy
set_option linter.unusedVariables false
set_option linter.unusedSimpArgs false
namespace Go.Ax
open Go
variable {L : Type} {P : Program} {κ : Kappa} {ρ : Rho} {σ : AMem L} {w : World}

theorem len_sound {t ty : TypeId} {x x' v : Value} (hm : MRel P κ ρ σ w) (h : aLen P t x σ = some v) (hx : VRel ρ x x') : (Builtin.len_ #[t] ty #[x']).run P w = .ok v w ∧ VRel ρ v v := by
  unfold aLen at h
  split at h
  · rename_i s hu
    have := hx.string_inv; subst this
    simp only [Option.some.injEq] at h; subst h
    exact ⟨by simp [Builtin.len_, run_underlying hu, goInt], .int _ _⟩
  · rename_i e a n c hu
    simp only [Option.some.injEq] at h; subst h
    refine ⟨?_, .int _ _⟩
    cases a with
    | none => obtain ⟨rfl, rfl, rfl⟩ := hx.nils_inv; simp [Builtin.len_, run_underlying hu, goInt]
    | some a =>
      obtain ⟨rfl, ⟨l, cap, _, _, _, _, rfl⟩ | ⟨rfl, y, rfl⟩⟩ := hx.slice_inv <;> simp [Builtin.len_, run_underlying hu, goInt]
  · rename_i k e hu
    have := hx.nilm_inv; subst this
    simp only [Option.some.injEq] at h; subst h
    exact ⟨by simp [Builtin.len_, run_underlying hu, goInt], .int _ _⟩
  · rename_i k e r hu
    obtain ⟨l, hr, rfl⟩ := hx.map_inv
    split at h
    · rename_i es hg
      simp only [Option.some.injEq] at h; subst h
      obtain ⟨l', hr', ces, clock, hh, _, _, _, es', hp, hlen, _⟩ := hm.live r _ hg rfl
      rw [hr] at hr'; cases hr'
      have : es.length = ces.size := by rw [← hp.length_eq]; exact hlen
      refine ⟨?_, .int _ _⟩
      simp [Builtin.len_, run_underlying hu, goInt, getObj, Sem.run, hh, this]
    · cases h
  · cases h

theorem min_sound {ty : TypeId} {ts : Array TypeId} {x y x' y' v : Value} (h : aMin x y = some v) (hx : VRel ρ x x') (hy : VRel ρ y y') : (Builtin.min_ ts ty #[x', y']).run P w = .ok v w ∧ VRel ρ v v := by
  unfold aMin at h
  split at h
  · have := hx.int_inv; have := hy.int_inv; subst_vars
    simp only [Option.some.injEq] at h; subst h
    exact ⟨by simp [Builtin.min_, Builtin.min2], .int _ _⟩
  · cases h
theorem max_sound {ty : TypeId} {ts : Array TypeId} {x y x' y' v : Value} (h : aMax x y = some v) (hx : VRel ρ x x') (hy : VRel ρ y y') : (Builtin.max_ ts ty #[x', y']).run P w = .ok v w ∧ VRel ρ v v := by
  unfold aMax at h
  split at h
  · have := hx.int_inv; have := hy.int_inv; subst_vars
    simp only [Option.some.injEq] at h; subst h
    exact ⟨by simp [Builtin.max_, Builtin.max2], .int _ _⟩
  · cases h

theorem copy_sound {t ty : TypeId} {ts : Array TypeId} {d d' s s' v : Value} {σ' : AMem L} (hm : MRel P κ ρ σ w) (h : aCopy P t d s σ = some (v, σ')) (hd : VRel ρ d d') (hs : VRel ρ s s') (b : Nat) (ht : ts[0]? = some t) :
    Does P κ ρ b (Builtin.copy_ ts ty #[d', s']) w v σ' := by
  unfold aCopy at h
  split at h
  · rename_i e he
    have hu := elemOf_spec he
    split at h
    · rename_i es c off dn cc hes
      split at h
      · rename_i vs e' n l hg hsrc
        split at h
        · cases h
        · rename_i hcond
          simp only [Bool.or_eq_true, decide_eq_true_eq, not_or, Bool.not_eq_true', gt_iff_lt, Nat.not_lt] at hcond
          obtain ⟨⟨c1, c2⟩, c3⟩ := hcond
          simp only [Option.some.injEq, Prod.mk.injEq] at h
          obtain ⟨rfl, rfl⟩ := h
          have hone : oneCells (l.take (min n dn * es)) = true := by simpa using c2
          -- what is read
          have hsrc' : ∃ ys, (Builtin.lenOf s').run P w = .ok n w ∧ LRel ρ l ys ∧ ys.length = n * es ∧ (Builtin.firstCells es (min n dn) s').run P w = .ok (ys.take (min n dn * es)).toArray w := by
            split at hsrc
            · rename_i str
              have := hs.string_inv; subst this
              split at hsrc
              · rename_i hes1
                simp only [Option.some.injEq, Prod.mk.injEq] at hsrc
                obtain ⟨rfl, rfl⟩ := hsrc
                subst hes1
                refine ⟨byteVals str.data.toList, rfl, byteVals_rel _ _, by simp only [byteVals, List.length_map, size_list]; omega, ?_⟩
                simp only [Builtin.firstCells, Sem.run_pure, Nat.mul_one]
                congr 1
                apply Array.ext'
                simp [byteVals]
              · cases hsrc
            · rename_i a m c'
              obtain ⟨cs, h2, h3⟩ := Option.map_eq_some_iff.1 hsrc
              simp only [Prod.mk.injEq] at h3
              obtain ⟨rfl, rfl⟩ := h3
              obtain ⟨a', cap', ys, rfl, hr, hlen, hcell, hnil⟩ := sliceCells_sound hm hs ⟨_, rfl⟩ h2
              refine ⟨ys, rfl, hr, hlen, ?_⟩
              cases a' with
              | none =>
                obtain rfl := hnil rfl
                have : ys = [] := by simpa using hlen
                subst this
                simp [Builtin.firstCells]
              | some ad =>
                have hle : min m dn * es ≤ m * es := Nat.mul_le_mul_right _ (Nat.min_le_left _ _)
                exact run_firstCells_some (P := P) w es (min m dn) ad m cap' _ (by simp; omega) (fun j v hv => by
                  rw [List.getElem?_take] at hv
                  split at hv
                  · exact hcell ad rfl j v hv
                  · cases hv)
            · cases hsrc
          obtain ⟨ys, hlen, hr, hyl, hfirst⟩ := hsrc'
          have hrt := hr.take (min n dn * es)
          have hle : (l.take (min n dn * es)).length ≤ dn * es := by
            rw [List.length_take]
            have : min n dn * es ≤ dn * es := Nat.mul_le_mul_right _ (Nat.min_le_right _ _)
            omega
          obtain ⟨rfl, ⟨lc, cap, hrr, hsp, hc, hroom, rfl⟩ | ⟨rfl, y, rfl⟩⟩ := hd.slice_inv
          · obtain ⟨r1, r2⟩ := hm.setCells (b := c) (off := off) hg hrr (by omega) hrt hone
            refine ⟨_, _, ρ, ?_, ρ.le_refl, fun _ _ => rfl, .int .i64 (min n dn : Nat), r2⟩
            simp only [Builtin.copy_, ht]
            simp only [List.getElem?_toArray, List.getElem?_cons_zero, List.getElem?_cons_succ]
            simp only [Sem.run_bind, run_underlying hu, Result.andThen_ok, hlen, run_szOf hes]
            have hmin : Nat.min n dn = min n dn := rfl
            rw [hmin, hfirst]
            simp only [Result.andThen_ok]
            rw [r1]
            simp [goInt]
          · obtain ⟨lc, hrr, _⟩ := hm.live c _ hg rfl
            have h0 : l.take (min n 0 * es) = [] := by simp
            rw [h0] at hrt hone ⊢
            obtain ⟨r1, r2⟩ := hm.setCells (b := c) (off := off) (cs := []) (ys := []) hg hrr (by simp; omega) (.nil _) hone
            refine ⟨.int .i64 0, _, ρ, ?_, ρ.le_refl, fun _ _ => rfl, by simpa using VRel.int .i64 0, r2⟩
            simp only [Builtin.copy_, ht]
            simp only [List.getElem?_toArray, List.getElem?_cons_zero, List.getElem?_cons_succ]
            simp only [Sem.run_bind, run_underlying hu, Result.andThen_ok, hlen, run_szOf hes]
            have hmin : Nat.min n 0 = 0 := by simp
            rw [hmin]
            have hf0 : (Builtin.firstCells es 0 s').run P w = .ok #[] w := by
              have := hfirst
              simpa using this
            rw [hf0]
            simp [storeCells, goInt, World.setCells]
      · cases h
    · cases h
  · cases h

theorem copyN_sound {t ty : TypeId} {ts : Array TypeId} {d d' s s' v : Value} (h : aCopyN P t d s = some v) (hd : VRel ρ d d') (hs : VRel ρ s s') (ht : ts[0]? = some t) :
    (Builtin.copy_ ts ty #[d', s']).run P w = .ok v w ∧ VRel ρ v v := by
  unfold aCopyN at h
  split at h
  · rename_i e n c he
    have hu := elemOf_spec he
    obtain ⟨_, _, rfl⟩ := hd.nils_inv
    split at h
    · rename_i es a m cc hes
      simp only [Option.some.injEq] at h; subst h
      refine ⟨?_, .int _ _⟩
      cases a with
      | none =>
        obtain ⟨rfl, rfl, rfl⟩ := hs.nils_inv
        simp [Builtin.copy_, ht, run_underlying hu, run_szOf hes, Builtin.lenOf, Builtin.firstCells, goInt]
      | some a =>
        have hl : ∀ ad : Addr, (loadCells ad 0).run P w = .ok #[] w := fun ad => by
          have := run_loadCells_list (P := P) w ad [] (fun j v hj => by simp at hj)
          simpa using this
        obtain ⟨_, ⟨l, cap, _, _, _, _, rfl⟩ | ⟨rfl, y, rfl⟩⟩ := hs.slice_inv
        · simp [Builtin.copy_, ht, run_underlying hu, run_szOf hes, Builtin.lenOf, Builtin.firstCells, goInt, hl]
        · simp [Builtin.copy_, ht, run_underlying hu, run_szOf hes, Builtin.lenOf, Builtin.firstCells, goInt, hl]
    · rename_i es b hes
      simp only [Option.some.injEq] at h; subst h
      have := hs.string_inv; subst this
      refine ⟨?_, .int _ _⟩
      simp [Builtin.copy_, ht, run_underlying hu, run_szOf hes, Builtin.lenOf, Builtin.firstCells, goInt]
    · cases h
  · cases h

end Go.Ax
