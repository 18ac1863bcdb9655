/- Slices, indexes, fields. -/
import Derived.Test.YtaeoiohcalonkaaGreatDoorAxS2
set_option linter.unusedVariables false
set_option linter.unusedSimpArgs false
namespace Go.Ax
open Go
variable {L : Type} {P : Program} {κ : Kappa} {ρ : Rho} {σ : AMem L} {w : World}

theorem run_sliceBound_ok {k : IntKind} {i : Int} {y : Nat} {code : BoundsCode} (h0 : 0 ≤ i) (h1 : i ≤ y) : (Instr.sliceBound (.int k i) y code).run P w = .ok i.toNat w := by
  simp [Instr.sliceBound, asIntOf, h0, h1]

theorem run_sliceBounds_ok {isSlice : Bool} {len cap h l : Nat} {lo hi lo' hi' : Option Value} {n : Nat} (hn : n ≤ cap) (hh : bound hi n n = some h) (hl : bound lo 0 h = some l) (hlo : OptRel ρ lo lo') (hhi : OptRel ρ hi hi') (hlen : len = n) :
    (Instr.sliceBounds isSlice len cap lo' hi' none).run P w = .ok (l, h, cap) w ∧ l ≤ h ∧ h ≤ n := by
  rcases bound_sound hh hhi with ⟨_, rfl, rfl⟩ | ⟨k, i, rfl, h0, h1, rfl⟩
  · rcases bound_sound hl hlo with ⟨_, rfl, rfl⟩ | ⟨k, i, rfl, h0, h1, rfl⟩
    · exact ⟨by simp [Instr.sliceBounds, hlen], by omega, by omega⟩
    · subst hlen
      exact ⟨by simp [Instr.sliceBounds, run_sliceBound_ok h0 h1], by omega, by omega⟩
  · have h2 : i ≤ cap := by omega
    rcases bound_sound hl hlo with ⟨_, rfl, rfl⟩ | ⟨k', i', rfl, h0', h1', rfl⟩
    · exact ⟨by simp [Instr.sliceBounds, run_sliceBound_ok h0 h2], by omega, by omega⟩
    · exact ⟨by simp [Instr.sliceBounds, run_sliceBound_ok h0 h2, run_sliceBound_ok h0' h1'], by omega, by omega⟩

theorem run_sliceAt_eq {t : TypeId} {d : TypeDesc} (hu : P.underlying t = some d) (hd : ∀ n e, d ≠ .array n e) (x : Value) (lo hi mx : Option Value) : (Instr.sliceAt t x lo hi mx).run P w = (Instr.slice t x lo hi mx).run P w := by
  simp only [Instr.sliceAt, Sem.run_bind, run_underlying hu, Result.andThen_ok]

theorem slice_sound {t : TypeId} {x x' v : Value} {lo hi lo' hi' : Option Value} (hm : MRel P κ ρ σ w) (h : aSlice P t x lo hi σ = some v) (hx : VRel ρ x x') (hlo : OptRel ρ lo lo') (hhi : OptRel ρ hi hi') :
    ∃ v', (Instr.sliceAt t x' lo' hi' none).run P w = .ok v' w ∧ VRel ρ v v' := by
  unfold aSlice at h
  split at h
  · rename_i s hu
    have := hx.string_inv; subst this
    obtain ⟨hh, h1, h2⟩ := Option.bind_eq_some_iff.1 h
    obtain ⟨l, h3, rfl⟩ := Option.map_eq_some_iff.1 h2
    obtain ⟨r, _, _⟩ := run_sliceBounds_ok (P := P) (w := w) (isSlice := false) (cap := s.size) (Nat.le_refl _) h1 h3 hlo hhi rfl
    refine ⟨_, ?_, .string _⟩
    rw [run_sliceAt_eq hu (by intro n e; simp)]
    simp [Instr.slice, run_underlying hu, r]
  · rename_i e n c hu
    obtain ⟨rfl, rfl, rfl⟩ := hx.nils_inv
    obtain ⟨es, he, h⟩ := Option.bind_eq_some_iff.1 h
    obtain ⟨hh, h1, h2⟩ := Option.bind_eq_some_iff.1 h
    obtain ⟨l, h3, rfl⟩ := Option.map_eq_some_iff.1 h2
    obtain ⟨r, h4, h5⟩ := run_sliceBounds_ok (P := P) (w := w) (isSlice := true) (len := 0) (cap := 0) (Nat.le_refl _) h1 h3 hlo hhi rfl
    obtain rfl : hh = 0 := by omega
    obtain rfl : l = 0 := by omega
    refine ⟨_, ?_, .nils⟩
    rw [run_sliceAt_eq hu (by intro n e; simp)]
    simp [Instr.slice, run_underlying hu, r, run_szOf he]
  · rename_i e a n c hu
    split at h
    · rename_i es vs e' ro he hg
      split at h
      · rename_i he'
        obtain ⟨hh, h1, h2⟩ := Option.bind_eq_some_iff.1 h
        obtain ⟨l, h3, rfl⟩ := Option.map_eq_some_iff.1 h2
        obtain ⟨_, ⟨lc, cap, hr, hsp, hc, hroom, rfl⟩ | ⟨rfl, y, rfl⟩⟩ := hx.slice_inv
        · obtain ⟨r, h4, h5⟩ := run_sliceBounds_ok (P := P) (w := w) (isSlice := true) (len := n) (cap := cap) hc h1 h3 hlo hhi rfl
          have hes : lc.es = es := by
            obtain ⟨_, _, _, _, _, hz, _⟩ := hm.cells hg hr
            unfold szOf at he'
            rw [hz] at he'; simpa using he'
          by_cases hcl : cap = l
          · subst hcl
            obtain rfl : hh = cap := by omega
            refine ⟨.slice (some ⟨lc.blk, lc.off + a.off, none⟩) 0 0, ?_, ?_⟩
            · rw [run_sliceAt_eq hu (by intro n e; simp)]
              simp [Instr.slice, run_underlying hu, r, run_szOf he]
            · rw [Nat.sub_self]; exact .empty _ _
          · refine ⟨.slice (some ⟨lc.blk, lc.off + a.off + l * es, none⟩) (hh - l) (cap - l), ?_, ?_⟩
            · rw [run_sliceAt_eq hu (by intro n e; simp)]
              simp [Instr.slice, run_underlying hu, r, run_szOf he, hcl, add_none]
            · have hsp' : a = ⟨a.block, a.off, none⟩ := by cases a; simp at hsp; simp [hsp]
              rw [hsp']
              have hmul : l * lc.es + (cap - l) * lc.es = cap * lc.es := by rw [← Nat.add_mul]; congr 1; omega
              have := VRel.slice (ρ := ρ) (b := a.block) (off := a.off + l * es) (len := hh - l) (cap := cap - l) hr (by omega) (by rw [← hes]; omega)
              rw [show lc.off + a.off + l * es = lc.off + (a.off + l * es) by omega]
              exact this
        · obtain ⟨r, h4, h5⟩ := run_sliceBounds_ok (P := P) (w := w) (isSlice := true) (len := 0) (cap := 0) (Nat.le_refl _) h1 h3 hlo hhi rfl
          obtain rfl : hh = 0 := by omega
          obtain rfl : l = 0 := by omega
          refine ⟨.slice (some y) 0 0, ?_, .empty _ _⟩
          rw [run_sliceAt_eq hu (by intro n e; simp)]
          simp [Instr.slice, run_underlying hu, r, run_szOf he]
      · cases h
    · cases h
  · cases h

theorem indexAddr_sound {t : TypeId} {x x' ix ix' v : Value} (h : aIndexAddr P t x ix = some v) (hx : VRel ρ x x') (hi : VRel ρ ix ix') : ∃ v', (Instr.indexAt t x' ix').run P w = .ok v' w ∧ VRel ρ v v' := by
  unfold aIndexAddr at h
  split at h
  · rename_i k i n e a hu
    have := hi.int_inv; subst this
    obtain ⟨l, hr, hsp, rfl⟩ := hx.ptr_inv
    split at h
    · rename_i es he
      split at h
      · rename_i hc
        simp only [Option.some.injEq] at h
        subst h
        refine ⟨.pointer (some ⟨l.blk, l.off + a.off + i.toNat * es, none⟩), ?_, ?_⟩
        · simp [Instr.indexAt, asIntOf, run_underlying hu, Instr.sureAddr, hc, run_szOf he, add_none]
        · have := VRel.ptr (ρ := ρ) (b := a.block) (off := a.off + i.toNat * es) hr
          rw [hsp, show l.off + a.off + i.toNat * es = l.off + (a.off + i.toNat * es) by omega]
          exact this
      · cases h
    · cases h
  · rename_i k i e a n c hu
    have := hi.int_inv; subst this
    split at h
    · rename_i es he
      split at h
      · rename_i hc
        simp only [Option.some.injEq] at h
        subst h
        obtain ⟨_, ⟨l, cap, hr, hsp, _, _, rfl⟩ | ⟨rfl, y, rfl⟩⟩ := hx.slice_inv
        · refine ⟨.pointer (some ⟨l.blk, l.off + a.off + i.toNat * es, none⟩), ?_, ?_⟩
          · simp [Instr.indexAt, asIntOf, run_underlying hu, hc, run_szOf he, add_none]
          · have := VRel.ptr (ρ := ρ) (b := a.block) (off := a.off + i.toNat * es) hr
            rw [hsp, show l.off + a.off + i.toNat * es = l.off + (a.off + i.toNat * es) by omega]
            exact this
        · omega
      · cases h
    · cases h
  · cases h

theorem part_sound {t : TypeId} {cs cs' : Array Value} {off : Nat} {v : Value} (h : aPart P t cs off = some v) (hr : LRel ρ cs.toList cs'.toList) : ∃ v', (part t cs' off).run P w = .ok v' w ∧ VRel ρ v v' := by
  unfold aPart at h
  split at h
  · rename_i n ha hn
    split at h
    · rename_i hc
      simp only [Option.some.injEq] at h
      subst h
      refine ⟨.agg (cs'.extract off (off + n)), ?_, ?_⟩
      · simp [part, run_aggOf ha, run_szOf hn]
      · rw [VRel.agg_iff]
        simp only [Array.toList_extract, List.extract_eq_take_drop]
        exact (hr.drop off).take _
    · cases h
  · rename_i n ha hn
    have : cs.toList[off]? = some v := by simpa using h
    obtain ⟨y, hy, hv⟩ := hr.get this
    have hy' : cs'[off]? = some y := by simpa using hy
    refine ⟨y, ?_, hv⟩
    simp [part, run_aggOf ha, hy']
  · cases h

theorem index_sound {t : TypeId} {x x' ix ix' v : Value} (h : aIndex P t x ix = some v) (hx : VRel ρ x x') (hi : VRel ρ ix ix') : ∃ v', (Instr.index t x' ix').run P w = .ok v' w ∧ VRel ρ v v' := by
  unfold aIndex at h
  split at h
  · rename_i k i s hu
    have := hi.int_inv; subst this
    have := hx.string_inv; subst this
    split at h
    · rename_i h0
      obtain ⟨b, hb, rfl⟩ := Option.map_eq_some_iff.1 h
      exact ⟨_, by simp [Instr.index, asIntOf, run_underlying hu, h0, hb], .int _ _⟩
    · cases h
  · rename_i k i n e cs hu
    have := hi.int_inv; subst this
    obtain ⟨cs', rfl, hr⟩ := hx.agg_inv
    split at h
    · rename_i es he
      split at h
      · rename_i hc
        obtain ⟨v', h1, h2⟩ := part_sound (w := w) h hr
        exact ⟨v', by simp [Instr.index, asIntOf, run_underlying hu, hc, run_szOf he, h1], h2⟩
      · cases h
    · cases h
  · cases h

theorem field_sound {t : TypeId} {x x' v : Value} {f : Nat} (h : aField P t x f = some v) (hx : VRel ρ x x') : ∃ v', (Instr.field t x' f).run P w = .ok v' w ∧ VRel ρ v v' := by
  unfold aField at h
  split at h
  · rename_i fs cs hu
    obtain ⟨cs', rfl, hr⟩ := hx.agg_inv
    split at h
    · rename_i fd hf
      obtain ⟨v', h1, h2⟩ := part_sound (w := w) h hr
      exact ⟨v', by simp [Instr.field, run_underlying hu, hf, asAgg, h1], h2⟩
    · cases h
  · cases h

theorem fieldAddr_sound {t : TypeId} {x x' v : Value} {f : Nat} (h : aFieldAddr P t x f = some v) (hx : VRel ρ x x') : ∃ v', (Instr.fieldAt t x' f).run P w = .ok v' w ∧ VRel ρ v v' := by
  unfold aFieldAddr at h
  split at h
  · rename_i o n a hf
    simp only [Option.some.injEq] at h
    subst h
    obtain ⟨l, hr, hsp, rfl⟩ := hx.ptr_inv
    unfold fieldAtOf at hf
    split at hf
    · rename_i fs hu
      split at hf
      · rename_i fd hfd
        split at hf
        · rename_i m hs
          simp only [Option.some.injEq, Prod.mk.injEq] at hf
          obtain ⟨rfl, rfl⟩ := hf
          refine ⟨.pointer (some ⟨l.blk, l.off + a.off + fd.offset, none⟩), ?_, ?_⟩
          · simp [Instr.fieldAt, run_underlying hu, hfd, Instr.sureAddr, fieldPlace, run_szOf hs, add_none]
          · have := VRel.ptr (ρ := ρ) (b := a.block) (off := a.off + fd.offset) hr
            rw [hsp, show l.off + a.off + fd.offset = l.off + (a.off + fd.offset) by omega]
            exact this
        · cases hf
      · cases hf
    · cases hf
  · cases h

theorem beq_same {b : Bool} {r : Bool} {o : Option Bool} (h : (if b then o else some false) = some r) : b = false ∧ r = false ∨ b = true ∧ o = some r := by
  cases b with
  | false => simp only [Bool.false_eq_true, if_false, Option.some.injEq] at h; exact .inl ⟨rfl, h.symm⟩
  | true => simp only [if_true] at h; exact .inr ⟨rfl, h⟩

def eqBody (xs ys : Array Value) (f : Field) (_ : Option Bool × Unit) : Sem (ForInStep (Option Bool × Unit)) :=
  if f.name ≠ "_" then do
    let a ← part f.type xs f.offset
    let b ← part f.type ys f.offset
    let r ← Op.equalIn (9998 + 1) f.type a b
    if (!r) = true then pure (ForInStep.done (some false, ()))
    else pure (ForInStep.yield (none, ()))
  else pure (ForInStep.yield (none, ()))

theorem eqCells_run {xs ys xs' ys' : Array Value} (hx : LRel ρ xs.toList xs'.toList) (hy : LRel ρ ys.toList ys'.toList) : ∀ (fs : List Field) (r : Bool), eqCells P fs xs ys = some r →
    (forIn fs ((none : Option Bool), ()) (eqBody xs' ys')).run P w = .ok (if r then none else some false, ()) w
  | [], r, h => by
    simp only [eqCells, Option.some.injEq] at h; subst h
    simp
  | f :: fs, r, h => by
    simp only [eqCells] at h
    split at h
    · cases h
    · rename_i hname
      have ih := eqCells_run hx hy fs
      have step : ∀ (v u : Value) (b : Bool), (part f.type xs' f.offset).run P w = .ok v w → (part f.type ys' f.offset).run P w = .ok u w → (Op.equalIn (9998 + 1) f.type v u).run P w = .ok b w → (b = false ∧ r = false ∨ b = true ∧ eqCells P fs xs ys = some r) →
          (forIn (f :: fs) ((none : Option Bool), ()) (eqBody xs' ys')).run P w = .ok (if r then none else some false, ()) w := by
        intro v u b h1 h2 h3 h4
        rw [List.forIn_cons]
        rcases h4 with ⟨rfl, rfl⟩ | ⟨rfl, h4⟩
        · simp [eqBody, hname, h1, h2, h3]
        · have := ih r h4
          simp [eqBody, hname, h1, h2, h3, this]
      have key : ∀ (v : Value) (cs cs' : Array Value), LRel ρ cs.toList cs'.toList → aggOf P f.type = some false → cs[f.offset]? = some v → (∀ z, VRel ρ v z → z = v) → (part f.type cs' f.offset).run P w = .ok v w := by
        intro v cs cs' hr ha hv hz
        obtain ⟨z, h1, h2⟩ := hr.get (i := f.offset) (x := v) (by simpa using hv)
        have := hz z h2; subst this
        have h1' : cs'[f.offset]? = some z := by simpa using h1
        simp [part, run_aggOf ha, h1']
      split at h
      · rename_i k0 k a k' b hu hxa hyb
        split at h
        · rename_i hk; subst hk
          have ha : aggOf P f.type = some false := by unfold aggOf; rw [hu]
          exact step _ _ _ (key _ _ _ hx ha hxa fun z hz => hz.int_inv) (key _ _ _ hy ha hyb fun z hz => hz.int_inv) (by rw [Op.equalIn, Sem.run_bind, run_underlying hu]; simp) (beq_same h)
        · cases h
      · rename_i a b hu hxa hyb
        have ha : aggOf P f.type = some false := by unfold aggOf; rw [hu]
        exact step _ _ _ (key _ _ _ hx ha hxa fun z hz => hz.string_inv) (key _ _ _ hy ha hyb fun z hz => hz.string_inv) (by rw [Op.equalIn, Sem.run_bind, run_underlying hu]; simp) (beq_same h)
      · rename_i a b hu hxa hyb
        have ha : aggOf P f.type = some false := by unfold aggOf; rw [hu]
        exact step _ _ _ (key _ _ _ hx ha hxa fun z hz => hz.bool_inv) (key _ _ _ hy ha hyb fun z hz => hz.bool_inv) (by rw [Op.equalIn, Sem.run_bind, run_underlying hu]; simp) (beq_same h)
      · cases h

theorem eqStruct_sound {t : TypeId} {x y x' y' : Value} {r : Bool} (h : eqStruct P t x y = some r) (hx : VRel ρ x x') (hy : VRel ρ y y') :
    (Op.equal t x' y').run P w = .ok r w ∧ (∀ op X Y, (eqGuard op t X Y x' y').run P w = .ok () w) ∧ binOp .eql t x' y' = (do pure (.bool (← Op.equal t x' y'))) ∧ binOp .neq t x' y' = (do pure (.bool (!(← Op.equal t x' y')))) := by
  unfold eqStruct at h
  split at h
  · rename_i fs xs ys hu
    split at h
    · cases h
    · rename_i hc
      simp only [Bool.or_eq_true, not_or, Bool.not_eq_true] at hc
      obtain ⟨xs', rfl, hxr⟩ := hx.agg_inv
      obtain ⟨ys', rfl, hyr⟩ := hy.agg_inv
      refine ⟨?_, fun op X Y => ?_, rfl, rfl⟩
      · show (Op.equalIn (9998 + 1 + 1) t (.agg xs') (.agg ys')).run P w = _
        rw [Op.equalIn, Sem.run_bind, run_underlying hu]
        simp only [Result.andThen_ok, Sem.run_bind, run_program, hc.1, Bool.false_eq_true, if_false]
        have := eqCells_run (w := w) hxr hyr fs.toList r h
        rw [Array.forIn_toList] at this
        have e : (forIn fs ((none : Option Bool), ()) fun f __s =>
              if f.name ≠ "_" then do
                let __do_lift ← part f.type xs' f.offset
                let __do_lift_1 ← part f.type ys' f.offset
                let __do_lift ← Op.equalIn (9998 + 1) f.type __do_lift __do_lift_1
                if (!__do_lift) = true then pure (ForInStep.done (some false, ()))
                  else pure (ForInStep.yield (none, ()))
              else pure (ForInStep.yield (none, ()))) = forIn fs ((none : Option Bool), ()) (eqBody xs' ys') := rfl
        rw [e, this]
        cases r <;> simp
      · cases op <;> simp [eqGuard, run_program, hc.2]
  · cases h

end Go.Ax
