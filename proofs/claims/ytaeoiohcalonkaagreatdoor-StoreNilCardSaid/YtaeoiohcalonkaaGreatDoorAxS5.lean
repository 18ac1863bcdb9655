/- make, append, copy, conversions, len. -/
import Derived.Test.YtaeoiohcalonkaaGreatDoorAxS4
import Derived.Laws.MakeOwn
import Derived.Laws.BytesArg
import Derived.Lib.ConvBytes
import Derived.IntWalk
import Derived.Lib.AppendZeros
set_option linter.unusedVariables false
set_option linter.unusedSimpArgs false
namespace Go.Ax
open Go
variable {L : Type} {P : Program} {κ : Kappa} {ρ : Rho} {σ : AMem L} {w : World}

theorem elemOf_spec {t e : TypeId} (he : elemOf P t = some e) : P.underlying t = some (.slice e) := by
  unfold elemOf at he; split at he <;> simp at he; subst he; assumption

theorem run_bytesOf {t n : Nat} (h : bytesOf P t = some n) : ∃ i, P.info? t = some i ∧ i.bytes = n := by
  unfold bytesOf at h
  cases hi : P.info? t with
  | none => rw [hi] at h; cases h
  | some i => rw [hi] at h; simp at h; exact ⟨i, rfl, h⟩

theorem makeSlice_sound {t : TypeId} {x y v : Value} {x' y' : Value} {σ' : AMem L} {b nx : Nat} (hm : MRel P κ ρ σ w) (hb : Free ρ σ b nx)
    (h : aMakeSlice P t x y σ b nx = some (v, σ')) (hx : VRel ρ x x') (hy : VRel ρ y y') : Does P κ ρ b (Instr.makeSlice t x' y') w v σ' := by
  unfold aMakeSlice at h
  split at h
  · rename_i e k l k' c he
    have := hx.int_inv; have := hy.int_inv; subst_vars
    have hu := elemOf_spec he
    split at h
    · rename_i es z by_ hs hz hby
      obtain ⟨it, hit, rfl⟩ := run_bytesOf hby
      split at h
      · cases h
      · rename_i hcond
        simp only [Bool.or_eq_true, decide_eq_true_eq, not_or, ne_eq, Decidable.not_not, Bool.not_eq_true'] at hcond
        obtain ⟨⟨c1, c2⟩, c3⟩ := hcond
        split at h
        · rename_i hc
          obtain ⟨h0, h1, h2, h3⟩ := hc
          simp only [Option.some.injEq, Prod.mk.injEq] at h
          obtain ⟨rfl, rfl⟩ := h
          have hfl : z.cells.all Ax.flat = true := by simpa using c3
          have hle : l.toNat * es ≤ c.toNat * es := Nat.mul_le_mul_right _ (by omega)
          have hval := VRel.slice (ρ := ρ.add b ⟨w.heap.size, 0, c.toNat * es, es⟩) (off := 0) (len := l.toNat) (cap := c.toNat) (ρ.add_at b _) (by omega) (by simp)
          simp only [Nat.add_zero] at hval
          have harr : ((Array.range (c.toNat * es)).map (z.cells[· % z.cells.size]!)).size = c.toNat * es := by simp
          refine alloc_does hm hb hs (cells := (Array.range (c.toNat * es)).map (z.cells[· % z.cells.size]!)) (fr := (0, 0)) ?_ ?_ (unfrozen_zero _ _)
            (v' := .slice (some ⟨w.heap.size, 0, none⟩) l.toNat c.toNat) (w' := { w with heap := w.heap.push (.cells ((Array.range (c.toNat * es)).map (z.cells[· % z.cells.size]!)) e) }) ?_ rfl (by rw [harr]; exact hval)
          · rw [zeroRow_length, zeroRow_arr, zeroRow_take hle]; exact LRel.flat (zeroRow_rel hfl _ (by omega))
          · rw [zeroRow_length]; simp; omega
          · have hsz : it.size = es := by unfold szOf at hs; rw [hit] at hs; simpa using hs
            have hzz : it.zero = some z := by unfold zeroOf at hz; rw [hit] at hz; simpa using hz
            have := run_make (P := P) w t e it z hu hit hzz k k' l c h0 h1 h3 h2
            rw [this, hsz]; rfl
        · cases h
    · cases h
  · cases h

theorem sliceCells_sound {es n : Nat} {x x' : Value} {cs : List Value} {c : Nat} (hm : MRel P κ ρ σ w) (hx : VRel ρ x x') (hxs : ∃ a, x = .slice a n c) (h : sliceCells σ es x = some cs) :
    ∃ a' cap' ys, x' = .slice a' n cap' ∧ LRel ρ cs ys ∧ ys.length = n * es ∧ (∀ ad, a' = some ad → ∀ (j : Nat) (v : Value), ys[j]? = some v → w.cell? (ad.add j) = some v) ∧ (a' = none → n = 0) := by
  obtain ⟨a, rfl⟩ := hxs
  cases a with
  | none =>
    obtain ⟨rfl, rfl, rfl⟩ := hx.nils_inv
    simp only [sliceCells, Option.some.injEq] at h
    subst h
    exact ⟨none, 0, [], rfl, .nil _, by simp, fun _ h => (by cases h), fun _ => rfl⟩
  | some a =>
    obtain ⟨rfl, ⟨l, cap, hr, hsp, hc, hroom, rfl⟩ | ⟨rfl, y, rfl⟩⟩ := hx.slice_inv
    · cases n with
      | zero =>
        simp only [sliceCells, Option.some.injEq] at h
        subst h
        exact ⟨_, _, [], rfl, .nil _, by simp, fun ad _ j v hv => by simp at hv, fun h => by cases h⟩
      | succ n =>
        obtain ⟨ab, ao, as⟩ := a
        simp only at hsp hr hroom
        subst hsp
        simp only [sliceCells] at h
        split at h
        · rename_i vs e ro hg
          split at h
          · rename_i hn
            simp only [Option.some.injEq] at h
            subst h
            obtain ⟨ys, h1, h2, h3⟩ := hm.row hg hr hn
            refine ⟨_, _, ys, rfl, h1, h2, fun ad had j v hv => ?_, fun h => by cases h⟩
            cases had
            rw [add_none]; exact h3 j v hv
          · cases h
        · cases h
    · simp only [sliceCells, Option.some.injEq] at h
      subst h
      exact ⟨_, _, [], rfl, .nil _, by simp, fun ad _ j v hv => by simp at hv, fun h => by cases h⟩

theorem bytesOfCells_spec : ∀ (cs : List Value) {l : List UInt8}, bytesOfCells cs = some l → ∃ xs : List Int, cs = xs.map (Value.int .u8) ∧ l = xs.map fun n => UInt8.ofNat n.toNat
  | [], l, h => by simp only [bytesOfCells, Option.some.injEq] at h; subst h; exact ⟨[], rfl, rfl⟩
  | v :: r, l, h => by
    unfold bytesOfCells at h
    split at h
    · rename_i e; cases e
    · rename_i n r' e
      cases e
      obtain ⟨l', hl, rfl⟩ := Option.map_eq_some_iff.1 h
      obtain ⟨xs, rfl, rfl⟩ := bytesOfCells_spec _ hl
      exact ⟨n :: xs, rfl, rfl⟩
    · cases h

theorem byteVals_arr (s : ByteArray) : (s.data.map fun b => Value.int .u8 b.toNat).toList = byteVals s.data.toList := by simp [byteVals]
theorem byteVals_rel (ρ : Rho) (l : List UInt8) : LRel ρ (byteVals l) (byteVals l) := LRel.refl_of fun x hx => by obtain ⟨b, _, rfl⟩ := List.mem_map.1 hx; exact .int _ _
theorem size_list (s : ByteArray) : s.data.toList.length = s.size := by rw [Array.length_toList]; rfl

theorem conv_sound {src dst : TypeId} {x x' v : Value} {σ' : AMem L} {b nx : Nat} (hm : MRel P κ ρ σ w) (hb : Free ρ σ b nx) (h : aConv P src dst x σ b nx = some (v, σ')) (hx : VRel ρ x x') :
    Does P κ ρ b (convert src dst x') w v σ' := by
  unfold aConv at h
  split at h
  · rename_i d k k' n hs hd
    have := hx.int_inv; subst this
    simp only [Option.some.injEq, Prod.mk.injEq] at h
    obtain ⟨rfl, rfl⟩ := h
    refine Does.still hm (v' := .int k (k.wrap n)) ?_ (.int _ _)
    simp only [convert, Sem.run_bind, run_underlying hs, run_underlying hd, Result.andThen_ok]
    cases d <;> rfl
  · rename_i d s hs hd
    have := hx.string_inv; subst this
    simp only [Option.some.injEq, Prod.mk.injEq] at h
    obtain ⟨rfl, rfl⟩ := h
    refine Does.still hm (v' := .string s) ?_ (.string _)
    simp only [convert, Sem.run_bind, run_underlying hs, run_underlying hd, Result.andThen_ok]
    cases d <;> rfl
  · rename_i d e s hs hd
    have := hx.string_inv; subst this
    split at h
    · rename_i he hes
      simp only [Option.some.injEq, Prod.mk.injEq] at h
      obtain ⟨rfl, rfl⟩ := h
      have hrun := Lib.run_convert_string_bytes (P := P) w src dst e s hs hd he
      have hcap : s.size ≤ grownCap w s.size 0 e := by simp only [grownCap, Question.cut]; omega
      have hsz : (Lib.bytesCells w e s).size = grownCap w s.size 0 e := by
        simp only [Lib.bytesCells, Array.size_append, Array.size_map, Array.size_replicate]
        have : s.data.size = s.size := rfl
        omega
      have hval := VRel.slice (ρ := ρ.add b ⟨w.heap.size, 0, (Lib.bytesCells w e s).size, 1⟩) (off := 0) (len := s.size) (cap := grownCap w s.size 0 e) (ρ.add_at b _) hcap (by simp [hsz])
      simp only [Nat.add_zero] at hval
      refine alloc_does hm hb hes (cells := Lib.bytesCells w e s) (fr := ((Lib.bytesCells w e s).size, (Lib.bytesCells w e s).size + 1)) ?_ ?_ ?_ hrun ?_ hval
      · have : (byteVals s.data.toList).length = s.size := by simp only [byteVals, List.length_map]; exact size_list s
        rw [this]
        have e1 : (Lib.bytesCells w e s).toList.take s.size = byteVals s.data.toList := by
          simp only [Lib.bytesCells, Array.toList_append]
          rw [byteVals_arr, List.take_append_of_le_length (by rw [this]; omega), List.take_of_length_le (by rw [this]; omega)]
        rw [e1]; exact byteVals_rel _ _
      · rw [hsz]; simp only [byteVals, List.length_map, size_list]; exact hcap
      · intro j _ h2 h3; omega
      · have : (0 : Nat) ≠ 1 := by decide
        simp only [Lib.bytesWorld, World.freeze]
        rw [if_neg (by decide)]
        apply Array.ext_getElem?
        intro i
        simp only [Array.getElem?_modify]
        by_cases hi : i = w.heap.size
        · subst hi; simp [World.alloc, World.drew, -World.alloc_eq, -World.drew_eq]
        · simp [World.alloc, World.drew, -World.alloc_eq, -World.drew_eq, Array.getElem?_push, hi, Ne.symm hi]
    · cases h
  · rename_i e a n c hs hd
    split at h
    · rename_i l he hl
      simp only [Option.some.injEq, Prod.mk.injEq] at h
      obtain ⟨rfl, rfl⟩ := h
      obtain ⟨cs, h1, h2⟩ := Option.bind_eq_some_iff.1 hl
      obtain ⟨a', cap', ys, rfl, hr, hlen, hcell, hnil⟩ := sliceCells_sound hm hx ⟨_, rfl⟩ h1
      obtain ⟨xs, rfl, rfl⟩ := bytesOfCells_spec _ h2
      have hys : ys = xs.map (Value.int .u8) := by
        apply List.ext_getElem?
        intro i
        by_cases hi : i < xs.length
        · have h3 : (xs.map (Value.int .u8))[i]? = some (.int .u8 xs[i]) := by simp [hi]
          obtain ⟨y, hy, hv⟩ := hr.get h3
          rw [hy, h3, hv.int_inv]
        · have := hr.1
          simp at this
          rw [List.getElem?_eq_none (by omega), List.getElem?_eq_none (by simp; omega)]
      refine Does.still hm (v' := .string ⟨(xs.map fun n => UInt8.ofNat n.toNat).toArray⟩) ?_ (.string _)
      cases a' with
      | none =>
        have hn0 := hnil rfl
        have : xs = [] := by
          have := hr.1; simp at this
          exact List.eq_nil_of_length_eq_zero (by omega)
        subst this
        exact run_convert_bytes_nil w src e hs he n cap' dst hd
      | some ad =>
        have hxl : xs.length = n := by have := hlen; rw [hys] at this; simpa using this
        have hload : (loadCells ad n).run P w = .ok (xs.map (Value.int .u8)).toArray w := by
          have := run_loadCells_list (P := P) w ad (xs.map (Value.int .u8)) (fun j v hj => hcell ad rfl j v (by rw [hys]; exact hj))
          simpa [hxl] using this
        rw [run_convert_bytes_string w src dst e _ n cap' hs he hd, run_bytesToString w _ n cap' xs hload, foldl_push_bytes]
        simp [ByteArray.empty, ByteArray.emptyWithCapacity]
        rfl
    · cases h
  · cases h


theorem src_sound {tx : TypeId} {es n : Nat} {x x' : Value} {news : List Value} (hm : MRel P κ ρ σ w) (h : aSrc P tx es σ x = some (n, news)) (hx : VRel ρ x x') (h1 : oneCells news = true) :
    ∃ ys, Src P es tx x' n ys w ∧ LRel ρ news ys := by
  unfold aSrc at h
  split at h
  · rename_i e' a m c hu
    obtain ⟨cs, h2, h3⟩ := Option.map_eq_some_iff.1 h
    simp only [Prod.mk.injEq] at h3
    obtain ⟨rfl, rfl⟩ := h3
    obtain ⟨a', cap', ys, rfl, hr, hlen, hcell, hnil⟩ := sliceCells_sound hm hx ⟨_, rfl⟩ h2
    refine ⟨ys, ?_, hr⟩
    cases a' with
    | none =>
      obtain rfl := hnil rfl
      obtain rfl : ys = [] := by simpa using hlen
      exact Src.ofNil w hu cap'
    | some ad => exact Src.ofSlice w hu ad m cap' ys hlen (hcell ad rfl) (oneCells_rel hr h1)
  · rename_i s hu
    have := hx.string_inv; subst this
    split at h
    · rename_i hes
      simp only [Option.some.injEq, Prod.mk.injEq] at h
      obtain ⟨rfl, rfl⟩ := h
      subst hes
      exact ⟨byteCells s, Src.ofString w hu s, byteVals_rel _ _⟩
    · cases h
  · cases h

theorem drew_heap (w : World) : w.drew.heap = w.heap := rfl

/-- Where there is no room: a new row. -/
theorem grow_does {t tx ty e es n len cap : Nat} {it : TypeInfo} {z x' : Value} {base : Option Addr} {olds news os ys : List Value} {b nx : Nat} (hm : MRel P κ ρ σ w) (hb : Free ρ σ b nx)
    (hu : P.underlying t = some (.slice e)) (hit : P.info? e = some it) (hes : it.size = es) (hzz : it.zero = some z) (hS : Src P es tx x' n ys w) (hN : LRel ρ news ys) (hO : LRel ρ olds os)
    (hold : (Builtin.firstCells es len (.slice base len cap)).run P w.drew = .ok os.toArray w.drew) (hol : os.length = len * es) (he0 : es ≠ 0) (hb0 : it.bytes ≠ 0) (hzs : z.cells.size = es) (hg : cap < len + n)
    (hfit : (olds.length + news.length) * it.bytes ≤ 70368744177664) :
    Does P κ ρ b (Builtin.append_ #[t, tx] ty #[.slice base len cap, x']) w (.slice (some ⟨b, 0, none⟩) (len + n) (len + n)) (σ.put b nx (.cells (olds ++ news) e false)) := by
  subst hes
  have hnl : news.length = n * it.size := by rw [hN.1, hS.newsLen]
  have hol' : olds.length = len * it.size := by rw [hO.1, hol]
  have h1 : len + n ≤ olds.length + news.length := by
    rw [hnl, hol', ← Nat.add_mul]; exact Nat.le_mul_of_pos_right _ (by omega)
  have h2 : (len + n) * it.bytes ≤ 70368744177664 := Nat.le_trans (Nat.mul_le_mul_right _ h1) hfit
  have h3 : len + n ≤ (len + n) * it.bytes := Nat.le_mul_of_pos_right _ (by omega)
  have hrun := run_append_grow_src (P := P) w t tx ty e it z hu hit hzz base len cap os hold x' n ys hS hg (by omega) (growslice_fits hg (by omega))
  have hcap : len + n ≤ grownCap w (len + n) cap e := by simp only [grownCap, Question.cut]; omega
  have hs : szOf P e = some it.size := by simp [szOf, hit]
  obtain ⟨C, hC⟩ : ∃ C, C = (os ++ ys).toArray ++ Builtin.zeroCells z.cells (grownCap w (len + n) cap e - (len + n)) := ⟨_, rfl⟩
  rw [← hC] at hrun
  have hCs : C.size = grownCap w (len + n) cap e * it.size := by
    have e1 : (Builtin.zeroCells z.cells (grownCap w (len + n) cap e - (len + n))).size = (grownCap w (len + n) cap e - (len + n)) * it.size := by simp [Builtin.zeroCells, hzs]
    have e2 : ys.length = n * it.size := hS.newsLen
    rw [hC, Array.size_append, e1]
    simp only [List.size_toArray, List.length_append, hol, e2]
    rw [← Nat.add_mul, ← Nat.add_mul]; congr 1; omega
  have hCt : C.toList.take (olds ++ news).length = os ++ ys := by
    have e2 : (olds ++ news).length = (os ++ ys).length := by simp [hN.1, hO.1]
    rw [hC, Array.toList_append, e2, List.take_append_of_le_length (by simp)]
    exact List.take_of_length_le (by simp)
  have hle : (olds ++ news).length ≤ C.size := by
    have e2 : ys.length = n * it.size := hS.newsLen
    rw [hCs, List.length_append, hol', hnl, ← Nat.add_mul]; exact Nat.mul_le_mul_right _ hcap
  have hval := VRel.slice (ρ := ρ.add b ⟨w.heap.size, 0, C.size, it.size⟩) (off := 0) (len := len + n) (cap := grownCap w (len + n) cap e) (ρ.add_at b _) hcap (by simp [hCs])
  simp only [Nat.add_zero] at hval
  exact alloc_does hm hb hs (cells := C) (fr := (0, 0)) (by rw [hCt]; exact hO.append hN) hle (unfrozen_zero _ _) hrun rfl hval

theorem append_sound {t tx ty : TypeId} {s s' x x' v : Value} {σ' : AMem L} {b nx : Nat} (hm : MRel P κ ρ σ w) (hb : Free ρ σ b nx) (h : aAppend P t tx s x σ b nx = some (v, σ')) (hs : VRel ρ s s') (hx : VRel ρ x x') :
    Does P κ ρ b (Builtin.append_ #[t, tx] ty #[s', x']) w v σ' := by
  unfold aAppend at h
  split at h
  · rename_i e he
    have hu := elemOf_spec he
    split at h
    · rename_i es z by_ hes hz hby
      obtain ⟨it, hit, rfl⟩ := run_bytesOf hby
      have hsz : it.size = es := by unfold szOf at hes; rw [hit] at hes; simpa using hes
      have hzz : it.zero = some z := by unfold zeroOf at hz; rw [hit] at hz; simpa using hz
      split at h
      · rename_i n news olds hsrc hold
        split at h
        · cases h
        · rename_i hcond
          simp only [Bool.or_eq_true, decide_eq_true_eq, not_or, Bool.not_eq_true', gt_iff_lt, Nat.not_lt, ne_eq, Decidable.not_not] at hcond
          obtain ⟨⟨⟨⟨c1, cb⟩, cz⟩, c2⟩, c3⟩ := hcond
          have hone : oneCells news = true := by simpa using c2
          obtain ⟨ys, hS, hN⟩ := src_sound hm hsrc hx hone
          have hnl : news.length = n * es := by rw [hN.1, hS.newsLen]
          have hnone : ∀ base, n = 0 → (Builtin.append_ #[t, tx] ty #[.slice base 0 0, x']).run P w = .ok (.slice base 0 0) w := by
            intro base hn0
            subst hn0
            have hys : ys = [] := by have := hS.newsLen; simpa using this
            subst hys
            subst hsz
            rcases hS.kind with ⟨e', hk⟩ | hk <;> cases base <;> simp [Builtin.append_, run_underlying hu, run_underlying hk, sizeOf, typeInfo, hit, hS.len, hS.cells, storeCells]
          split at h
          · -- nil
            rename_i cc
            obtain ⟨_, rfl, rfl⟩ := hs.nils_inv
            simp only [sliceCells, Option.some.injEq] at hold
            subst hold
            split at h
            · rename_i hn0
              simp only [Option.some.injEq, Prod.mk.injEq] at h
              obtain ⟨rfl, rfl⟩ := h
              exact Does.still hm (hnone none hn0) .nils
            · rename_i hn0
              simp only [Option.some.injEq, Prod.mk.injEq] at h
              obtain ⟨rfl, rfl⟩ := h
              have := grow_does (len := 0) (cap := 0) (base := none) (t := t) (tx := tx) (ty := ty) hm hb hu hit hsz hzz hS hN (.nil _) (run_firstCells_none w.drew es 0 0 0) (by simp) c1 cb cz (by omega) c3
              simpa using this
          · rename_i a len cc
            split at h
            · rename_i hn0
              simp only [Option.some.injEq, Prod.mk.injEq] at h
              obtain ⟨rfl, rfl⟩ := h
              obtain ⟨rfl, ⟨l, cap, hr, hsp, hc, hroom, rfl⟩ | ⟨rfl, y, rfl⟩⟩ := hs.slice_inv
              · subst hn0
                have hys : ys = [] := by have := hS.newsLen; simpa using this
                subst hys
                subst hsz
                have hrun := run_append_room_src (P := P) w t tx ty e it hu hit l.blk (l.off + a.off) len cap x' 0 [] hS (by omega) (fun j hj => by simp at hj) (fun j hj => by simp at hj)
                have ha : a = ⟨a.block, a.off, none⟩ := by cases a; simp at hsp; simp [hsp]
                refine Does.still hm (v' := .slice (some ⟨l.blk, l.off + a.off, none⟩) len cap) (by simpa [World.setCells] using hrun) ?_
                rw [ha]; exact .slice hr hc hroom
              · exact Does.still hm (hnone (some y) hn0) (.empty _ _)
            · rename_i hn0
              split at h
              · rename_i vs e' hg
                split at h
                · rename_i hee
                  simp only [Option.some.injEq, Prod.mk.injEq] at h
                  obtain ⟨rfl, rfl⟩ := h
                  have hbk : b ≠ a.block := by intro hh; have := hb.get; rw [hh, hg] at this; cases this
                  have hbfree : Free ρ (σ.kill a.block) b nx := ⟨by rw [AMem.get_kill, if_neg hbk]; exact hb.get, hb.map, hb.le, hb.lt⟩
                  obtain ⟨rfl, ⟨l, cap, hr, hsp, hc, hroom, rfl⟩ | ⟨rfl, y, rfl⟩⟩ := hs.slice_inv
                  · obtain ⟨a', cap', os, he1, hO, hol, hcell, _⟩ := sliceCells_sound hm hs ⟨_, rfl⟩ hold
                    cases he1
                    have hee' := hee
                    subst hee'
                    by_cases hfit : len + n ≤ cap
                    · -- in place
                      obtain ⟨arr, fr, hh, hs1, hs2, hs3, hs4, hs5⟩ := hm.cells hg hr
                      have hles : l.es = es := by unfold szOf at hes; rw [hs3] at hes; simpa using hes
                      have hlen2 : ys.length = n * es := hS.newsLen
                      have hmul : (len + n) * es ≤ cap * es := Nat.mul_le_mul_right _ hfit
                      have hadd : (len + n) * es = len * es + n * es := Nat.add_mul ..
                      have hroom' : l.off + a.off + cap * es ≤ l.size := by rw [← hles]; exact hroom
                      subst hsz
                      have hrun := run_append_room_src (P := P) w t tx ty _ it hu hit l.blk (l.off + a.off) len cap x' n ys hS hfit
                        (fun j hj => by
                          have : l.off + a.off + len * it.size + j < arr.size := by omega
                          simp [World.cell?, hh, this])
                        (fun j hj => by
                          have hu := hs5 rfl (l.off + a.off + len * it.size + j) (by omega) (by omega)
                          simp only [World.frozen?, hh]
                          simp only [Bool.and_eq_false_iff, decide_eq_false_iff_not]
                          by_cases h : fr.1 ≤ l.off + a.off + len * it.size + j
                          · right; intro h'; exact hu ⟨h, h'⟩
                          · left; exact h)
                      obtain ⟨t1, t2, arr', t3, t4, t5⟩ := setCells_heap ys (l.off + a.off + len * it.size) w arr hh (by omega)
                      have hle := Rho.le_add (⟨l.blk, l.off + a.off, l.size, l.es⟩ : Loc) hb.map
                      refine ⟨_, _, ρ.add b ⟨l.blk, l.off + a.off, l.size, l.es⟩, hrun, hle, fun x hx => ρ.add_ne _ hx, ?_, ?_⟩
                      · have := VRel.slice (ρ := ρ.add b ⟨l.blk, l.off + a.off, l.size, l.es⟩) (off := 0) (len := len + n) (cap := cap) (ρ.add_at b _) hfit (by simpa using hroom)
                        simpa using this
                      · refine hm.rename (l' := ⟨l.blk, l.off + a.off, l.size, l.es⟩) hg rfl rfl rfl rfl hr hb.get hb.map hb.le hb.lt rfl ?_ t1 t2
                        have hol2 : olds.length = len * it.size := by rw [hO.1, hol]
                        have hlx : l.off + a.off + (olds ++ news).length ≤ l.size := by simp only [List.length_append]; omega
                        refine ⟨arr', fr, t3, t4.trans hs1, hlx, hs3, fun i v hi => ?_, fun _ j hj1 hj2 => hs5 rfl j (by simp only at hj1; omega) hj2⟩
                        simp only
                        rw [t5]
                        by_cases hi2 : i < olds.length
                        · rw [List.getElem?_append_left hi2] at hi
                          rw [if_neg (by omega)]
                          obtain ⟨y, hy, hv⟩ := hO.get hi
                          have := hcell _ rfl i y hy
                          rw [add_none] at this
                          simp only [World.cell?, hh] at this
                          exact ⟨y, by simpa using this, hv.mono hle⟩
                        · rw [List.getElem?_append_right (by omega)] at hi
                          obtain ⟨y, hy, hv⟩ := hN.get hi
                          have hil : i - olds.length < news.length := by
                            rcases Nat.lt_or_ge (i - olds.length) news.length with h | h
                            · exact h
                            · rw [List.getElem?_eq_none h] at hi; cases hi
                          rw [if_pos (by omega)]
                          exact ⟨y, by rw [← hy]; congr 1; omega, hv.mono hle⟩
                    · refine grow_does (hm.kill _) hbfree hu hit hsz hzz hS hN hO ?_ hol c1 cb cz (by omega) c3
                      exact run_firstCells_some (P := P) w.drew es len _ len cap os hol (fun j v hv => by simpa using hcell _ rfl j v hv)
                  · simp only [sliceCells, Option.some.injEq] at hold
                    subst hold
                    have := grow_does (len := 0) (cap := 0) (base := some y) (t := t) (tx := tx) (ty := ty) (hm.kill _) hbfree hu hit hsz hzz hS hN (.nil _) (run_firstCells_some (P := P) w.drew es 0 y 0 0 [] (by simp) (fun j v hv => by simp at hv)) (by simp) c1 cb cz (by omega) c3
                    simpa using this
                · cases h
              · cases h
          · cases h
      · cases h
    · cases h
  · cases h

theorem appendZ_sound {t tx ty : TypeId} {kn : IntKind} {s s' x x' v : Value} {σ' : AMem L} {b nx : Nat} (hm : MRel P κ ρ σ w) (hb : Free ρ σ b nx) (htx : P.underlying tx = some (.int kn)) (h : aAppendZ P t s x σ b nx = some (v, σ')) (hs : VRel ρ s s') (hx : VRel ρ x x') :
    Does P κ ρ b (Builtin.append_ #[t, tx] ty #[s', x']) w v σ' := by
  unfold aAppendZ at h
  split at h
  · rename_i e cc k n he
    have hu := elemOf_spec he
    obtain ⟨_, rfl, rfl⟩ := hs.nils_inv
    have := hx.int_inv; subst_vars
    split at h
    · rename_i es z by_ hes hz hby
      obtain ⟨it, hit, rfl⟩ := run_bytesOf hby
      have hsz : it.size = es := by unfold szOf at hes; rw [hit] at hes; simpa using hes
      have hzz : it.zero = some z := by unfold zeroOf at hz; rw [hit] at hz; simpa using hz
      split at h
      · cases h
      · rename_i hcond
        simp only [Bool.or_eq_true, decide_eq_true_eq, not_or, ne_eq, Decidable.not_not, Bool.not_eq_true'] at hcond
        obtain ⟨⟨⟨c1, c2⟩, cb⟩, c3⟩ := hcond
        split at h
        · rename_i hc
          obtain ⟨h0, h1⟩ := hc
          simp only [Option.some.injEq, Prod.mk.injEq] at h
          obtain ⟨rfl, rfl⟩ := h
          have hfl : z.cells.all Ax.flat = true := by simpa using c3
          obtain ⟨m, rfl⟩ : ∃ m : Nat, n = m := ⟨n.toNat, by omega⟩
          simp only [Int.toNat_natCast] at h1 ⊢
          have hm1 : m ≤ m * it.bytes := Nat.le_mul_of_pos_right _ (by omega)
          have hrun := Lib.run_append_nil_zeros (P := P) w t tx ty e it z k kn hu htx hit hzz m (by omega) (by omega) (by omega) (by omega)
          have hcap : m ≤ grownCap w m 0 e := by simp only [grownCap, Question.cut]; omega
          obtain ⟨C, hC⟩ : ∃ C, C = Builtin.zeroCells z.cells m ++ Builtin.zeroCells z.cells (grownCap w m 0 e - m) := ⟨_, rfl⟩
          rw [← hC] at hrun
          have e0 : ∀ j, (Builtin.zeroCells z.cells j).size = j * es := by intro j; simp [Builtin.zeroCells, c1]
          have hCs : C.size = grownCap w m 0 e * es := by
            rw [hC, Array.size_append, e0, e0, ← Nat.add_mul]; congr 1; omega
          have hCt : C.toList.take (zeroRow z.cells (m * es)).length = (Builtin.zeroCells z.cells m).toList := by
            rw [hC, Array.toList_append, zeroRow_length, List.take_append_of_le_length (by rw [Array.length_toList, e0]; exact Nat.le_refl _)]
            exact List.take_of_length_le (by rw [Array.length_toList, e0]; exact Nat.le_refl _)
          have hzr : (Builtin.zeroCells z.cells m).toList = zeroRow z.cells (m * es) := by
            simp [Builtin.zeroCells, zeroRow, c1, List.range_eq_range']
          have hle : (zeroRow z.cells (m * es)).length ≤ C.size := by rw [zeroRow_length, hCs]; exact Nat.mul_le_mul_right _ hcap
          have hval := VRel.slice (ρ := ρ.add b ⟨w.heap.size, 0, C.size, es⟩) (off := 0) (len := m) (cap := grownCap w m 0 e) (ρ.add_at b _) hcap (by simp [hCs])
          simp only [Nat.add_zero] at hval
          exact alloc_does hm hb hes (cells := C) (fr := (0, 0)) (by rw [hCt, hzr]; exact LRel.flat (zeroRow_rel hfl _ (by omega))) hle (unfrozen_zero _ _) hrun rfl hval
        · cases h
    · cases h
  · cases h

theorem cap_sound {t ty : TypeId} {x x' v : Value} (h : aCap P t x = some v) (hx : VRel ρ x x') : (Builtin.cap_ #[t] ty #[x']).run P w = .ok v w ∧ VRel ρ v v := by
  unfold aCap at h
  split at h
  · rename_i e n c hu
    simp only [Option.some.injEq] at h; subst h
    obtain ⟨rfl, rfl, rfl⟩ := hx.nils_inv
    refine ⟨?_, .int _ _⟩
    simp [Builtin.cap_, run_underlying hu, goInt]
  · cases h

end Go.Ax
