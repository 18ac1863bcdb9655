/- Operations that make memory. -/
import Derived.Test.YtaeoiohcalonkaaGreatDoorAxS3
set_option linter.unusedVariables false
set_option linter.unusedSimpArgs false
namespace Go.Ax
open Go
variable {L : Type} {P : Program} {κ : Kappa} {ρ : Rho} {σ : AMem L} {w : World}

/-- The number of a new abstract block. -/
structure Free (ρ : Rho) (σ : AMem L) (b nx : Nat) : Prop where
  get : σ.get b = none
  map : ρ b = none
  le : σ.next ≤ nx
  lt : b < nx

theorem Free.next (hm : MRel P κ ρ σ w) : Free ρ σ σ.next (σ.next + 1) :=
  ⟨(hm.fresh _ (Nat.le_refl _)).1, (hm.fresh _ (Nat.le_refl _)).2, by omega, by omega⟩

theorem alloc_does {b nx : Nat} (hm : MRel P κ ρ σ w) (hb : Free ρ σ b nx) {s : Sem Value} {v v' : Value} {w' : World} {cells : Array Value} {vs : List Value} {e es : Nat} {fr : Nat × Nat}
    (he : szOf P e = some es) (hv : LRel ρ vs (cells.toList.take vs.length)) (hlen : vs.length ≤ cells.size) (hf : unfrozen fr 0 cells.size)
    (hrun : s.run P w = .ok v' w') (hw : w'.heap = w.heap.push (.cells cells e fr)) (hval : VRel (ρ.add b ⟨w.heap.size, 0, cells.size, es⟩) v v') (hen : envOf w' = envOf w := by first | rfl | exact env_setCells ..) : Does P κ ρ b s w v (σ.put b nx (.cells vs e false)) := by
  have hle := Rho.le_add ⟨w.heap.size, 0, cells.size, es⟩ hb.map
  refine ⟨v', w', ρ.add b ⟨w.heap.size, 0, cells.size, es⟩, hrun, hle, fun x hx => ρ.add_ne _ hx, hval, ?_⟩
  refine MRel.of_heap (w := { w with heap := w.heap.push (.cells cells e fr) }) ?_ hw hen
  exact hm.put hb.get hb.map hb.le hb.lt rfl (ORel.new_cells he (by simp) (hv.mono hle) hlen hf)

theorem LRel.flat {ρ : Rho} {vs : List Value} (h : vs.all flat = true) : LRel ρ vs vs := LRel.refl_of fun x hx => flat_rel ρ (List.all_eq_true.1 h x hx)

theorem alloc_sound {e n : Nat} {z : Value} {b nx : Nat} (hm : MRel P κ ρ σ w) (hb : Free ρ σ b nx) (hz : zeroOf P e = some z) (hs : szOf P e = some n) (hf : z.cells.all Ax.flat = true) :
    Does P κ ρ b (Instr.alloc e true (.tuple #[])) w (.pointer (some ⟨b, 0, none⟩)) (σ.put b nx (.cells z.cells.toList e false)) := by
  have hf' : z.cells.toList.all Ax.flat = true := by simpa using hf
  have := VRel.ptr (ρ := ρ.add b ⟨w.heap.size, 0, z.cells.size, n⟩) (off := 0) (ρ.add_at b _)
  simp only [Nat.add_zero] at this
  exact alloc_does hm hb hs (cells := z.cells) (fr := (0, 0)) (by rw [List.take_of_length_le (by simp)]; exact LRel.flat hf') (by simp) (unfrozen_zero _ _)
    (by simp only [Instr.alloc, Sem.run_bind, run_zeroOf hz, Result.andThen_ok, newVar, newRow, run_newObj, Sem.run_pure]; rfl) rfl this

theorem box_sound {e n : Nat} {v v' : Value} {cs : List Value} {b nx : Nat} (hm : MRel P κ ρ σ w) (hb : Free ρ σ b nx) (hc : cellsOf v = some cs) (hs : szOf P e = some n) (hv : VRel ρ v v') :
    Does P κ ρ b (Instr.box e v') w (.pointer (some ⟨b, 0, none⟩)) (σ.put b nx (.cells cs e false)) := by
  have hr := cellsOf_rel hv hc
  have hl : cs.length = v'.cells.size := by have := hr.1; simpa using this
  have := VRel.ptr (ρ := ρ.add b ⟨w.heap.size, 0, v'.cells.size, n⟩) (off := 0) (ρ.add_at b _)
  simp only [Nat.add_zero] at this
  exact alloc_does hm hb hs (cells := v'.cells) (fr := (0, 0)) (by rw [List.take_of_length_le (by simp; omega)]; exact hr) (by omega) (unfrozen_zero _ _)
    (by simp only [Instr.box, Sem.run_bind, newVar, newRow, run_newObj, Sem.run_pure, Result.andThen_ok]; rfl) rfl this

theorem foldl_set (ys : List Value) : ∀ (cells : Array Value) (off k : Nat), k + off + ys.length ≤ cells.size → ((ys.zipIdx k).foldl (fun cs (c, j) => cs.setIfInBounds (off + j) c) cells).toList = setAt cells.toList (off + k) ys := by
  induction ys with
  | nil => intro cells off k _; rfl
  | cons y ys ih =>
    intro cells off k hl
    simp only [List.length_cons] at hl
    rw [List.zipIdx_cons, List.foldl_cons, ih _ off (k + 1) (by simp; omega), setAt]
    simp [Nat.add_assoc]

theorem fill_sound {place : Nat → Option (Nat × Nat)} : ∀ (parts parts' : List (Nat × Value)) (cells cells' : Array Value) {r : Array Value}, fillA place cells parts = some r → LRel ρ cells.toList cells'.toList →
    parts.map (·.1) = parts'.map (·.1) → LRel ρ (parts.map (·.2)) (parts'.map (·.2)) → ∃ r', Instr.fill place cells' parts' = some r' ∧ LRel ρ r.toList r'.toList
  | [], parts', cells, cells', r, h, hc, h1, _ => by
    simp only [fillA, Option.some.injEq] at h
    subst h
    have : parts' = [] := by simpa using h1.symm
    subst this
    exact ⟨cells', rfl, hc⟩
  | (i, v) :: rest, parts', cells, cells', r, h, hc, h1, h2 => by
    cases parts' with
    | nil => simp at h1
    | cons p parts' =>
      obtain ⟨i', v'⟩ := p
      simp only [List.map_cons, List.cons.injEq] at h1
      obtain ⟨rfl, h1⟩ := h1
      obtain ⟨y, ys, he, hv, hs⟩ := h2.uncons
      simp only [List.map_cons, List.cons.injEq] at he
      obtain ⟨rfl, rfl⟩ := he
      simp only [fillA] at h
      split at h
      · rename_i off size cs hp hcs
        split at h
        · cases h
        · rename_i hcond
          simp only [Bool.or_eq_true, decide_eq_true_eq, not_or, ne_eq, Decidable.not_not, gt_iff_lt, Nat.not_lt] at hcond
          have hr := cellsOf_rel hv hcs
          have hsz : v'.cells.size = cs.length := by have := hr.1; simpa using this.symm
          have hcsz : cells'.size = cells.size := by have := hc.1; simpa using this.symm
          have hf := foldl_set v'.cells.toList cells' off 0 (by simp; omega)
          have key : Instr.fill place cells' ((i, v') :: parts') = Instr.fill place (v'.cells.zipIdx.foldl (fun cs (c, j) => cs.setIfInBounds (off + j) c) cells') parts' := by
            simp only [Instr.fill, hp]
            rw [if_neg (by simp; omega)]
          rw [key]
          have hfold : v'.cells.zipIdx.foldl (fun cs (c, j) => cs.setIfInBounds (off + j) c) cells' = (setAt cells'.toList off v'.cells.toList).toArray := by
            apply Array.ext'
            rw [← Array.foldl_toList, Array.toList_zipIdx]
            simpa using hf
          rw [hfold]
          refine fill_sound rest parts' _ _ h ?_ h1 hs
          have : ∀ (cs ys xs zs : List Value) (o : Nat), LRel ρ xs zs → LRel ρ cs ys → LRel ρ (setAt xs o cs) (setAt zs o ys) := by
            intro cs
            induction cs with
            | nil => intro ys xs zs o hx hy; rw [hy.nil_left]; exact hx
            | cons c cs ih =>
              intro ys xs zs o hx hy
              obtain ⟨y, ys, rfl, hcy, hcs⟩ := hy.uncons
              exact ih ys _ _ _ (hx.set o hcy) hcs
          exact this cs v'.cells.toList cells.toList cells'.toList off hc hr
      · cases h


/-- The parts of a literal, abstract and the model's. -/
structure PartsRel (ρ : Rho) (parts parts' : List (Nat × Value)) : Prop where
  idx : parts.map (·.1) = parts'.map (·.1)
  val : LRel ρ (parts.map (·.2)) (parts'.map (·.2))

theorem build_sound {t : TypeId} {parts : List (Nat × Value)} {parts' : Array (Nat × Value)} {v : Value} (h : aBuild P t parts = some v) (hp : PartsRel ρ parts parts'.toList) : ∃ v', (Instr.build t parts').run P w = .ok v' w ∧ VRel ρ v v' := by
  unfold aBuild at h
  split at h
  · rename_i z places hz hpl
    split at h
    · rename_i hf
      obtain ⟨r, hr, rfl⟩ := Option.map_eq_some_iff.1 h
      obtain ⟨r', h1, h2⟩ := fill_sound _ _ _ z.cells hr (LRel.flat (by simpa using hf)) hp.idx hp.val
      refine ⟨.agg r', run_build w t parts' r' ?_, VRel.agg_iff.2 h2⟩
      unfold placesOf at hpl
      split at hpl
      · rename_i fs hu
        unfold zeroOf at hz
        cases hi : P.info? t with
        | none => rw [hi] at hz; cases hz
        | some it =>
          rw [hi] at hz
          simp only [Option.bind_some] at hz
          simp only [Program.built, hi, hu, hz, hpl]
          simpa using h1
      · cases hpl
    · cases h
  · rename_i z hz hpl
    split at h
    · rename_i n e ha
      have hu : P.underlying t = some (.array n e) := by
        unfold arrOf at ha; split at ha <;> simp at ha; obtain ⟨rfl, rfl⟩ := ha; assumption
      split at h
      · rename_i es he
        split at h
        · rename_i hf
          obtain ⟨r, hr, rfl⟩ := Option.map_eq_some_iff.1 h
          obtain ⟨r', h1, h2⟩ := fill_sound _ _ _ z.cells hr (LRel.flat (by simpa using hf)) hp.idx hp.val
          refine ⟨.agg r', ?_, VRel.agg_iff.2 h2⟩
          simp [Instr.build, run_zeroOf hz, run_underlying hu, run_szOf he, h1]
        · cases h
      · cases h
    · cases h
  · cases h

theorem zeroRow_rel {z : Array Value} (hf : z.all flat = true) (n : Nat) (hz : 0 < z.size) : (zeroRow z n).all flat = true := by
  rw [List.all_eq_true]
  intro x hx
  obtain ⟨i, _, rfl⟩ := List.mem_map.1 hx
  have hi : i % z.size < z.size := Nat.mod_lt _ hz
  rw [getElem!_pos z (i % z.size) hi]
  exact Array.all_eq_true.1 hf _ hi

theorem zeroRow_take {z : Array Value} {n m : Nat} (h : n ≤ m) : (zeroRow z m).take n = zeroRow z n := by
  unfold zeroRow
  rw [← List.map_take, List.take_range]
  congr 2; omega

theorem zeroRow_arr {z : Array Value} {n : Nat} : ((Array.range n).map (z[· % z.size]!)).toList = zeroRow z n := by
  simp [zeroRow]

theorem zeroRow_length {z : Array Value} {n : Nat} : (zeroRow z n).length = n := by simp [zeroRow]

theorem fillA_size {place : Nat → Option (Nat × Nat)} : ∀ (parts : List (Nat × Value)) (cells : Array Value) {r : Array Value}, fillA place cells parts = some r → r.size = cells.size
  | [], _, _, h => by simp only [fillA, Option.some.injEq] at h; subst h; rfl
  | (i, v) :: rest, cells, r, h => by
    simp only [fillA] at h
    split at h
    · split at h
      · cases h
      · rw [fillA_size rest _ h]; simp [setAt_length]
    · cases h

theorem buildSlice_sound {t : TypeId} {len : Nat} {parts : List (Nat × Value)} {parts' : Array (Nat × Value)} {v : Value} {σ' : AMem L} {b nx : Nat} (hm : MRel P κ ρ σ w) (hb : Free ρ σ b nx)
    (h : aBuildSlice P t len parts σ b nx = some (v, σ')) (hp : PartsRel ρ parts parts'.toList) : Does P κ ρ b (Instr.buildSlice t len parts') w v σ' := by
  unfold aBuildSlice at h
  split at h
  · rename_i e he
    have hu : P.underlying t = some (.slice e) := by
      unfold elemOf at he; split at he <;> simp at he; subst he; assumption
    split at h
    · rename_i es z hs hz
      split at h
      · cases h
      · rename_i hcond
        simp only [Bool.or_eq_true, decide_eq_true_eq, not_or, ne_eq, Decidable.not_not, gt_iff_lt, Nat.not_lt, Bool.not_eq_true'] at hcond
        obtain ⟨⟨⟨c1, c2⟩, c3⟩, c4⟩ := hcond
        split at h
        · rename_i cs hcs
          simp only [Option.some.injEq, Prod.mk.injEq] at h
          obtain ⟨rfl, rfl⟩ := h
          have hfl : z.cells.all Ax.flat = true := by simpa using c4
          have hz' : LRel ρ (zeroRow z.cells (len * es)).toArray.toList ((Array.range (len * es)).map (z.cells[· % z.cells.size]!)).toList := by
            rw [zeroRow_arr]; exact LRel.flat (zeroRow_rel hfl _ (by omega))
          obtain ⟨r', h1, h2⟩ := fill_sound _ _ _ _ hcs hz' hp.idx hp.val
          have hsz := fillA_size _ _ hcs
          have hl : cs.size = len * es := by rw [hsz]; simp [zeroRow_length]
          have hl' : r'.size = len * es := by have := h2.1; simp at this; omega
          have hval := VRel.slice (ρ := ρ.add b ⟨w.heap.size, 0, r'.size, es⟩) (off := 0) (len := len) (cap := len) (ρ.add_at b _) (Nat.le_refl _) (by simp [hl'])
          simp only [Nat.add_zero] at hval
          refine alloc_does hm hb hs (cells := r') (fr := (0, 0)) (by rw [List.take_of_length_le (by simp; omega)]; exact h2) (by simp; omega) (unfrozen_zero _ _) (v' := .slice (some ⟨w.heap.size, 0, none⟩) len len) (w' := { w with heap := w.heap.push (.cells r' e) }) ?_ rfl hval
          have c3' : ¬ (16777216 < len * es) := by omega
          by_cases h0 : len * es = 0
          · have hr0 : r' = #[] := Array.eq_empty_of_size_eq_zero (by omega)
            have e0 : ∀ f : Nat → Value, (Array.range (len * es)).map f = #[] := fun f => Array.eq_empty_of_size_eq_zero (by simp [h0])
            rw [e0] at h1
            simp only [Instr.buildSlice, Sem.run_bind, run_underlying hu, Result.andThen_ok, run_szOf hs, e0, h1]
            rw [if_neg (by omega), if_pos h0]
            simp [newRow, hr0]
          · simp only [Instr.buildSlice, Sem.run_bind, run_underlying hu, Result.andThen_ok, run_szOf hs, h0]
            simp [run_zeroOf hz, h1, newRow, c3']
        · cases h
    · cases h
  · cases h

end Go.Ax
