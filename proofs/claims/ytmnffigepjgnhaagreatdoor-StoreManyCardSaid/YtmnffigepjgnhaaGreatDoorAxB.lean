/- make, append, copy, conversions, len. -/
import Derived.Test.YtmnffigepjgnhaaGreatDoorAxA
import Derived.Laws.MakeOwn
import Derived.Laws.BytesArg
import Derived.Lib.ConvBytes
import Derived.IntWalk
import Derived.Lib.AppendZeros
import Derived.Laws.IdiomCopy
import Derived.MapKept
set_option linter.unusedVariables false
set_option linter.unusedSimpArgs false
namespace Go.Ax
open Go
variable {L : Type} {P : Program} {κ : Kappa} {ρ : Rho} {σ : AMem L} {w : World}

theorem elemOf_spec {t e : TypeId} (he : elemOf P t = some e) : P.underlying t = some (.slice e) := by
  unfold elemOf at he; split at he <;> simp at he; subst he; assumption

theorem run_bytesOf {t n : Nat} (h : bytesOf P t = some n) : ∃ i, P.info? t = some i ∧ i.bytes = n := by
  unfold bytesOf at h
  cases hi : P.info? t with
  | none => rw [hi] at h; cases h
  | some i => rw [hi] at h; simp at h; exact ⟨i, rfl, h⟩

theorem makeSlice_sound {t : TypeId} {x y v : Value} {x' y' : Value} {σ' : AMem L} {b nx : Nat} (hm : MRel P κ ρ σ w) (hb : Free ρ σ b nx)
    (h : aMakeSlice P t x y σ b nx = some (v, σ')) (hx : VRel ρ x x') (hy : VRel ρ y y') : Does P κ ρ b (Instr.makeSlice t x' y') w v σ' := by
  unfold aMakeSlice at h
  split at h
  · rename_i e k l k' c he
    have := hx.int_inv; have := hy.int_inv; subst_vars
    have hu := elemOf_spec he
    split at h
    · rename_i es z by_ hs hz hby
      obtain ⟨it, hit, rfl⟩ := run_bytesOf hby
      split at h
      · cases h
      · rename_i hcond
        simp only [Bool.or_eq_true, decide_eq_true_eq, not_or, ne_eq, Decidable.not_not, Bool.not_eq_true'] at hcond
        obtain ⟨⟨c1, c2⟩, c3⟩ := hcond
        split at h
        · rename_i hc
          obtain ⟨h0, h1, h2, h3⟩ := hc
          simp only [Option.some.injEq, Prod.mk.injEq] at h
          obtain ⟨rfl, rfl⟩ := h
          have hfl : z.cells.all Ax.flat = true := by simpa using c3
          have hle : l.toNat * es ≤ c.toNat * es := Nat.mul_le_mul_right _ (by omega)
          have hval := VRel.slice (ρ := ρ.add b ⟨w.heap.size, 0, c.toNat * es, es⟩) (off := 0) (len := l.toNat) (cap := c.toNat) (ρ.add_at b _) (by omega) (by simp)
          simp only [Nat.add_zero] at hval
          have harr : ((Array.range (c.toNat * es)).map (z.cells[· % z.cells.size]!)).size = c.toNat * es := by simp
          refine alloc_does hm hb hs (cells := (Array.range (c.toNat * es)).map (z.cells[· % z.cells.size]!)) (fr := (0, 0)) ?_ ?_ (unfrozen_zero _ _)
            (v' := .slice (some ⟨w.heap.size, 0, none⟩) l.toNat c.toNat) (w' := { w with heap := w.heap.push (.cells ((Array.range (c.toNat * es)).map (z.cells[· % z.cells.size]!)) e) }) ?_ rfl (by rw [harr]; exact hval)
          · rw [zeroRow_length, zeroRow_arr, zeroRow_take hle]; exact LRel.flat (zeroRow_rel hfl _ (by omega))
          · rw [zeroRow_length]; simp; omega
          · have hsz : it.size = es := by unfold szOf at hs; rw [hit] at hs; simpa using hs
            have hzz : it.zero = some z := by unfold zeroOf at hz; rw [hit] at hz; simpa using hz
            have := run_make (P := P) w t e it z hu hit hzz k k' l c h0 h1 h3 h2
            rw [this, hsz]; rfl
        · cases h
    · cases h
  · cases h

theorem sliceCells_sound {es n : Nat} {x x' : Value} {cs : List Value} {c : Nat} (hm : MRel P κ ρ σ w) (hx : VRel ρ x x') (hxs : ∃ a, x = .slice a n c) (h : sliceCells σ es x = some cs) :
    ∃ a' cap' ys, x' = .slice a' n cap' ∧ LRel ρ cs ys ∧ ys.length = n * es ∧ (∀ ad, a' = some ad → ∀ (j : Nat) (v : Value), ys[j]? = some v → w.cell? (ad.add j) = some v) ∧ (a' = none → n = 0) := by
  obtain ⟨a, rfl⟩ := hxs
  cases a with
  | none =>
    obtain ⟨rfl, rfl, rfl⟩ := hx.nils_inv
    simp only [sliceCells, Option.some.injEq] at h
    subst h
    exact ⟨none, 0, [], rfl, .nil _, by simp, fun _ h => (by cases h), fun _ => rfl⟩
  | some a =>
    obtain ⟨rfl, ⟨l, cap, hr, hsp, hc, hroom, rfl⟩ | ⟨rfl, y, rfl⟩⟩ := hx.slice_inv
    · cases n with
      | zero =>
        simp only [sliceCells, Option.some.injEq] at h
        subst h
        exact ⟨_, _, [], rfl, .nil _, by simp, fun ad _ j v hv => by simp at hv, fun h => by cases h⟩
      | succ n =>
        obtain ⟨ab, ao, as⟩ := a
        simp only at hsp hr hroom
        subst hsp
        simp only [sliceCells] at h
        split at h
        · rename_i vs e ro hg
          split at h
          · rename_i hn
            simp only [Option.some.injEq] at h
            subst h
            obtain ⟨ys, h1, h2, h3⟩ := hm.row hg hr hn
            refine ⟨_, _, ys, rfl, h1, h2, fun ad had j v hv => ?_, fun h => by cases h⟩
            cases had
            rw [add_none]; exact h3 j v hv
          · cases h
        · cases h
    · simp only [sliceCells, Option.some.injEq] at h
      subst h
      exact ⟨_, _, [], rfl, .nil _, by simp, fun ad _ j v hv => by simp at hv, fun h => by cases h⟩

theorem bytesOfCells_spec : ∀ (cs : List Value) {l : List UInt8}, bytesOfCells cs = some l → ∃ xs : List Int, cs = xs.map (Value.int .u8) ∧ l = xs.map fun n => UInt8.ofNat n.toNat
  | [], l, h => by simp only [bytesOfCells, Option.some.injEq] at h; subst h; exact ⟨[], rfl, rfl⟩
  | v :: r, l, h => by
    unfold bytesOfCells at h
    split at h
    · rename_i e; cases e
    · rename_i n r' e
      cases e
      obtain ⟨l', hl, rfl⟩ := Option.map_eq_some_iff.1 h
      obtain ⟨xs, rfl, rfl⟩ := bytesOfCells_spec _ hl
      exact ⟨n :: xs, rfl, rfl⟩
    · cases h

theorem byteVals_arr (s : ByteArray) : (s.data.map fun b => Value.int .u8 b.toNat).toList = byteVals s.data.toList := by simp [byteVals]
theorem byteVals_rel (ρ : Rho) (l : List UInt8) : LRel ρ (byteVals l) (byteVals l) := LRel.refl_of fun x hx => by obtain ⟨b, _, rfl⟩ := List.mem_map.1 hx; exact .int _ _
theorem size_list (s : ByteArray) : s.data.toList.length = s.size := by rw [Array.length_toList]; rfl

theorem conv_sound {src dst : TypeId} {x x' v : Value} {σ' : AMem L} {b nx : Nat} (hm : MRel P κ ρ σ w) (hb : Free ρ σ b nx) (h : aConv P src dst x σ b nx = some (v, σ')) (hx : VRel ρ x x') :
    Does P κ ρ b (convert src dst x') w v σ' := by
  unfold aConv at h
  split at h
  · rename_i d k k' n hs hd
    have := hx.int_inv; subst this
    simp only [Option.some.injEq, Prod.mk.injEq] at h
    obtain ⟨rfl, rfl⟩ := h
    refine Does.still hm (v' := .int k (k.wrap n)) ?_ (.int _ _)
    simp only [convert, Sem.run_bind, run_underlying hs, run_underlying hd, Result.andThen_ok]
    cases d <;> rfl
  · rename_i d s hs hd
    have := hx.string_inv; subst this
    simp only [Option.some.injEq, Prod.mk.injEq] at h
    obtain ⟨rfl, rfl⟩ := h
    refine Does.still hm (v' := .string s) ?_ (.string _)
    simp only [convert, Sem.run_bind, run_underlying hs, run_underlying hd, Result.andThen_ok]
    cases d <;> rfl
  · rename_i d e s hs hd
    have := hx.string_inv; subst this
    split at h
    · rename_i he hes
      simp only [Option.some.injEq, Prod.mk.injEq] at h
      obtain ⟨rfl, rfl⟩ := h
      have hrun := Lib.run_convert_string_bytes (P := P) w src dst e s hs hd he
      have hcap : s.size ≤ grownCap w s.size 0 e := by simp only [grownCap, Question.cut]; omega
      have hsz : (Lib.bytesCells w e s).size = grownCap w s.size 0 e := by
        simp only [Lib.bytesCells, Array.size_append, Array.size_map, Array.size_replicate]
        have : s.data.size = s.size := rfl
        omega
      have hval := VRel.slice (ρ := ρ.add b ⟨w.heap.size, 0, (Lib.bytesCells w e s).size, 1⟩) (off := 0) (len := s.size) (cap := grownCap w s.size 0 e) (ρ.add_at b _) hcap (by simp [hsz])
      simp only [Nat.add_zero] at hval
      refine alloc_does hm hb hes (cells := Lib.bytesCells w e s) (fr := ((Lib.bytesCells w e s).size, (Lib.bytesCells w e s).size + 1)) ?_ ?_ ?_ hrun ?_ hval
      · have : (byteVals s.data.toList).length = s.size := by simp only [byteVals, List.length_map]; exact size_list s
        rw [this]
        have e1 : (Lib.bytesCells w e s).toList.take s.size = byteVals s.data.toList := by
          simp only [Lib.bytesCells, Array.toList_append]
          rw [byteVals_arr, List.take_append_of_le_length (by rw [this]; omega), List.take_of_length_le (by rw [this]; omega)]
        rw [e1]; exact byteVals_rel _ _
      · rw [hsz]; simp only [byteVals, List.length_map, size_list]; exact hcap
      · intro j _ h2 h3; omega
      · have : (0 : Nat) ≠ 1 := by decide
        simp only [Lib.bytesWorld, World.freeze]
        rw [if_neg (by decide)]
        apply Array.ext_getElem?
        intro i
        simp only [Array.getElem?_modify]
        by_cases hi : i = w.heap.size
        · subst hi; simp [World.alloc, World.drew, -World.alloc_eq, -World.drew_eq]
        · simp [World.alloc, World.drew, -World.alloc_eq, -World.drew_eq, Array.getElem?_push, hi, Ne.symm hi]
    · cases h
  · rename_i e a n c hs hd
    split at h
    · rename_i l he hl
      simp only [Option.some.injEq, Prod.mk.injEq] at h
      obtain ⟨rfl, rfl⟩ := h
      obtain ⟨cs, h1, h2⟩ := Option.bind_eq_some_iff.1 hl
      obtain ⟨a', cap', ys, rfl, hr, hlen, hcell, hnil⟩ := sliceCells_sound hm hx ⟨_, rfl⟩ h1
      obtain ⟨xs, rfl, rfl⟩ := bytesOfCells_spec _ h2
      have hys : ys = xs.map (Value.int .u8) := by
        apply List.ext_getElem?
        intro i
        by_cases hi : i < xs.length
        · have h3 : (xs.map (Value.int .u8))[i]? = some (.int .u8 xs[i]) := by simp [hi]
          obtain ⟨y, hy, hv⟩ := hr.get h3
          rw [hy, h3, hv.int_inv]
        · have := hr.1
          simp at this
          rw [List.getElem?_eq_none (by omega), List.getElem?_eq_none (by simp; omega)]
      refine Does.still hm (v' := .string ⟨(xs.map fun n => UInt8.ofNat n.toNat).toArray⟩) ?_ (.string _)
      cases a' with
      | none =>
        have hn0 := hnil rfl
        have : xs = [] := by
          have := hr.1; simp at this
          exact List.eq_nil_of_length_eq_zero (by omega)
        subst this
        exact run_convert_bytes_nil w src e hs he n cap' dst hd
      | some ad =>
        have hxl : xs.length = n := by have := hlen; rw [hys] at this; simpa using this
        have hload : (loadCells ad n).run P w = .ok (xs.map (Value.int .u8)).toArray w := by
          have := run_loadCells_list (P := P) w ad (xs.map (Value.int .u8)) (fun j v hj => hcell ad rfl j v (by rw [hys]; exact hj))
          simpa [hxl] using this
        rw [run_convert_bytes_string w src dst e _ n cap' hs he hd, run_bytesToString w _ n cap' xs hload, foldl_push_bytes]
        simp [ByteArray.empty, ByteArray.emptyWithCapacity]
        rfl
    · cases h
  · cases h


theorem src_sound {tx : TypeId} {es n : Nat} {x x' : Value} {news : List Value} (hm : MRel P κ ρ σ w) (h : aSrc P tx es σ x = some (n, news)) (hx : VRel ρ x x') (h1 : oneCells news = true) :
    ∃ ys, Src P es tx x' n ys w ∧ LRel ρ news ys := by
  unfold aSrc at h
  split at h
  · rename_i e' a m c hu
    obtain ⟨cs, h2, h3⟩ := Option.map_eq_some_iff.1 h
    simp only [Prod.mk.injEq] at h3
    obtain ⟨rfl, rfl⟩ := h3
    obtain ⟨a', cap', ys, rfl, hr, hlen, hcell, hnil⟩ := sliceCells_sound hm hx ⟨_, rfl⟩ h2
    refine ⟨ys, ?_, hr⟩
    cases a' with
    | none =>
      obtain rfl := hnil rfl
      obtain rfl : ys = [] := by simpa using hlen
      exact Src.ofNil w hu cap'
    | some ad => exact Src.ofSlice w hu ad m cap' ys hlen (hcell ad rfl) (oneCells_rel hr h1)
  · rename_i s hu
    have := hx.string_inv; subst this
    split at h
    · rename_i hes
      simp only [Option.some.injEq, Prod.mk.injEq] at h
      obtain ⟨rfl, rfl⟩ := h
      subst hes
      exact ⟨byteCells s, Src.ofString w hu s, byteVals_rel _ _⟩
    · cases h
  · cases h

theorem drew_heap (w : World) : w.drew.heap = w.heap := rfl

/-- Where there is no room: a new row. -/
theorem grow_does {t tx ty e es n len cap : Nat} {it : TypeInfo} {z x' : Value} {base : Option Addr} {olds news os ys : List Value} {b nx : Nat} (hm : MRel P κ ρ σ w) (hb : Free ρ σ b nx)
    (hu : P.underlying t = some (.slice e)) (hit : P.info? e = some it) (hes : it.size = es) (hzz : it.zero = some z) (hS : Src P es tx x' n ys w) (hN : LRel ρ news ys) (hO : LRel ρ olds os)
    (hold : (Builtin.firstCells es len (.slice base len cap)).run P w.drew = .ok os.toArray w.drew) (hol : os.length = len * es) (he0 : es ≠ 0) (hb0 : it.bytes ≠ 0) (hzs : z.cells.size = es) (hg : cap < len + n)
    (hfit : (olds.length + news.length) * it.bytes ≤ 70368744177664) :
    Does P κ ρ b (Builtin.append_ #[t, tx] ty #[.slice base len cap, x']) w (.slice (some ⟨b, 0, none⟩) (len + n) (len + n)) (σ.put b nx (.cells (olds ++ news) e false)) := by
  subst hes
  have hnl : news.length = n * it.size := by rw [hN.1, hS.newsLen]
  have hol' : olds.length = len * it.size := by rw [hO.1, hol]
  have h1 : len + n ≤ olds.length + news.length := by
    rw [hnl, hol', ← Nat.add_mul]; exact Nat.le_mul_of_pos_right _ (by omega)
  have h2 : (len + n) * it.bytes ≤ 70368744177664 := Nat.le_trans (Nat.mul_le_mul_right _ h1) hfit
  have h3 : len + n ≤ (len + n) * it.bytes := Nat.le_mul_of_pos_right _ (by omega)
  have hrun := run_append_grow_src (P := P) w t tx ty e it z hu hit hzz base len cap os hold x' n ys hS hg (by omega) (growslice_fits hg (by omega))
  have hcap : len + n ≤ grownCap w (len + n) cap e := by simp only [grownCap, Question.cut]; omega
  have hs : szOf P e = some it.size := by simp [szOf, hit]
  obtain ⟨C, hC⟩ : ∃ C, C = (os ++ ys).toArray ++ Builtin.zeroCells z.cells (grownCap w (len + n) cap e - (len + n)) := ⟨_, rfl⟩
  rw [← hC] at hrun
  have hCs : C.size = grownCap w (len + n) cap e * it.size := by
    have e1 : (Builtin.zeroCells z.cells (grownCap w (len + n) cap e - (len + n))).size = (grownCap w (len + n) cap e - (len + n)) * it.size := by simp [Builtin.zeroCells, hzs]
    have e2 : ys.length = n * it.size := hS.newsLen
    rw [hC, Array.size_append, e1]
    simp only [List.size_toArray, List.length_append, hol, e2]
    rw [← Nat.add_mul, ← Nat.add_mul]; congr 1; omega
  have hCt : C.toList.take (olds ++ news).length = os ++ ys := by
    have e2 : (olds ++ news).length = (os ++ ys).length := by simp [hN.1, hO.1]
    rw [hC, Array.toList_append, e2, List.take_append_of_le_length (by simp)]
    exact List.take_of_length_le (by simp)
  have hle : (olds ++ news).length ≤ C.size := by
    have e2 : ys.length = n * it.size := hS.newsLen
    rw [hCs, List.length_append, hol', hnl, ← Nat.add_mul]; exact Nat.mul_le_mul_right _ hcap
  have hval := VRel.slice (ρ := ρ.add b ⟨w.heap.size, 0, C.size, it.size⟩) (off := 0) (len := len + n) (cap := grownCap w (len + n) cap e) (ρ.add_at b _) hcap (by simp [hCs])
  simp only [Nat.add_zero] at hval
  exact alloc_does hm hb hs (cells := C) (fr := (0, 0)) (by rw [hCt]; exact hO.append hN) hle (unfrozen_zero _ _) hrun rfl hval

theorem append_sound {t tx ty : TypeId} {s s' x x' v : Value} {σ' : AMem L} {b nx : Nat} (hm : MRel P κ ρ σ w) (hb : Free ρ σ b nx) (h : aAppend P t tx s x σ b nx = some (v, σ')) (hs : VRel ρ s s') (hx : VRel ρ x x') :
    Does P κ ρ b (Builtin.append_ #[t, tx] ty #[s', x']) w v σ' := by
  unfold aAppend at h
  split at h
  · rename_i e he
    have hu := elemOf_spec he
    split at h
    · rename_i es z by_ hes hz hby
      obtain ⟨it, hit, rfl⟩ := run_bytesOf hby
      have hsz : it.size = es := by unfold szOf at hes; rw [hit] at hes; simpa using hes
      have hzz : it.zero = some z := by unfold zeroOf at hz; rw [hit] at hz; simpa using hz
      split at h
      · rename_i n news olds hsrc hold
        split at h
        · cases h
        · rename_i hcond
          simp only [Bool.or_eq_true, decide_eq_true_eq, not_or, Bool.not_eq_true', gt_iff_lt, Nat.not_lt, ne_eq, Decidable.not_not] at hcond
          obtain ⟨⟨⟨⟨c1, cb⟩, cz⟩, c2⟩, c3⟩ := hcond
          have hone : oneCells news = true := by simpa using c2
          obtain ⟨ys, hS, hN⟩ := src_sound hm hsrc hx hone
          have hnl : news.length = n * es := by rw [hN.1, hS.newsLen]
          have hnone : ∀ base, n = 0 → (Builtin.append_ #[t, tx] ty #[.slice base 0 0, x']).run P w = .ok (.slice base 0 0) w := by
            intro base hn0
            subst hn0
            have hys : ys = [] := by have := hS.newsLen; simpa using this
            subst hys
            subst hsz
            rcases hS.kind with ⟨e', hk⟩ | hk <;> cases base <;> simp [Builtin.append_, run_underlying hu, run_underlying hk, sizeOf, typeInfo, hit, hS.len, hS.cells, storeCells]
          split at h
          · -- nil
            rename_i cc
            obtain ⟨_, rfl, rfl⟩ := hs.nils_inv
            simp only [sliceCells, Option.some.injEq] at hold
            subst hold
            split at h
            · rename_i hn0
              simp only [Option.some.injEq, Prod.mk.injEq] at h
              obtain ⟨rfl, rfl⟩ := h
              exact Does.still hm (hnone none hn0) .nils
            · rename_i hn0
              simp only [Option.some.injEq, Prod.mk.injEq] at h
              obtain ⟨rfl, rfl⟩ := h
              have := grow_does (len := 0) (cap := 0) (base := none) (t := t) (tx := tx) (ty := ty) hm hb hu hit hsz hzz hS hN (.nil _) (run_firstCells_none w.drew es 0 0 0) (by simp) c1 cb cz (by omega) c3
              simpa using this
          · rename_i a len cc
            split at h
            · rename_i hn0
              simp only [Option.some.injEq, Prod.mk.injEq] at h
              obtain ⟨rfl, rfl⟩ := h
              obtain ⟨rfl, ⟨l, cap, hr, hsp, hc, hroom, rfl⟩ | ⟨rfl, y, rfl⟩⟩ := hs.slice_inv
              · subst hn0
                have hys : ys = [] := by have := hS.newsLen; simpa using this
                subst hys
                subst hsz
                have hrun := run_append_room_src (P := P) w t tx ty e it hu hit l.blk (l.off + a.off) len cap x' 0 [] hS (by omega) (fun j hj => by simp at hj) (fun j hj => by simp at hj)
                have ha : a = ⟨a.block, a.off, none⟩ := by cases a; simp at hsp; simp [hsp]
                refine Does.still hm (v' := .slice (some ⟨l.blk, l.off + a.off, none⟩) len cap) (by simpa [World.setCells] using hrun) ?_
                rw [ha]; exact .slice hr hc hroom
              · exact Does.still hm (hnone (some y) hn0) (.empty _ _)
            · rename_i hn0
              split at h
              · rename_i vs e' hg
                split at h
                · rename_i hee
                  simp only [Option.some.injEq, Prod.mk.injEq] at h
                  obtain ⟨rfl, rfl⟩ := h
                  have hbk : b ≠ a.block := by intro hh; have := hb.get; rw [hh, hg] at this; cases this
                  have hbfree : Free ρ (σ.kill a.block) b nx := ⟨by rw [AMem.get_kill, if_neg hbk]; exact hb.get, hb.map, hb.le, hb.lt⟩
                  obtain ⟨rfl, ⟨l, cap, hr, hsp, hc, hroom, rfl⟩ | ⟨rfl, y, rfl⟩⟩ := hs.slice_inv
                  · obtain ⟨a', cap', os, he1, hO, hol, hcell, _⟩ := sliceCells_sound hm hs ⟨_, rfl⟩ hold
                    cases he1
                    have hee' := hee
                    subst hee'
                    by_cases hfit : len + n ≤ cap
                    · -- in place
                      obtain ⟨arr, fr, hh, hs1, hs2, hs3, hs4, hs5⟩ := hm.cells hg hr
                      have hles : l.es = es := by unfold szOf at hes; rw [hs3] at hes; simpa using hes
                      have hlen2 : ys.length = n * es := hS.newsLen
                      have hmul : (len + n) * es ≤ cap * es := Nat.mul_le_mul_right _ hfit
                      have hadd : (len + n) * es = len * es + n * es := Nat.add_mul ..
                      have hroom' : l.off + a.off + cap * es ≤ l.size := by rw [← hles]; exact hroom
                      subst hsz
                      have hrun := run_append_room_src (P := P) w t tx ty _ it hu hit l.blk (l.off + a.off) len cap x' n ys hS hfit
                        (fun j hj => by
                          have : l.off + a.off + len * it.size + j < arr.size := by omega
                          simp [World.cell?, hh, this])
                        (fun j hj => by
                          have hu := hs5 rfl (l.off + a.off + len * it.size + j) (by omega) (by omega)
                          simp only [World.frozen?, hh]
                          simp only [Bool.and_eq_false_iff, decide_eq_false_iff_not]
                          by_cases h : fr.1 ≤ l.off + a.off + len * it.size + j
                          · right; intro h'; exact hu ⟨h, h'⟩
                          · left; exact h)
                      obtain ⟨t1, t2, arr', t3, t4, t5⟩ := setCells_heap ys (l.off + a.off + len * it.size) w arr hh (by omega)
                      have hle := Rho.le_add (⟨l.blk, l.off + a.off, l.size, l.es⟩ : Loc) hb.map
                      refine ⟨_, _, ρ.add b ⟨l.blk, l.off + a.off, l.size, l.es⟩, hrun, hle, fun x hx => ρ.add_ne _ hx, ?_, ?_⟩
                      · have := VRel.slice (ρ := ρ.add b ⟨l.blk, l.off + a.off, l.size, l.es⟩) (off := 0) (len := len + n) (cap := cap) (ρ.add_at b _) hfit (by simpa using hroom)
                        simpa using this
                      · refine hm.rename (l' := ⟨l.blk, l.off + a.off, l.size, l.es⟩) hg rfl rfl rfl rfl hr hb.get hb.map hb.le hb.lt rfl ?_ t1 t2
                        have hol2 : olds.length = len * it.size := by rw [hO.1, hol]
                        have hlx : l.off + a.off + (olds ++ news).length ≤ l.size := by simp only [List.length_append]; omega
                        refine ⟨arr', fr, t3, t4.trans hs1, hlx, hs3, fun i v hi => ?_, fun _ j hj1 hj2 => hs5 rfl j (by simp only at hj1; omega) hj2⟩
                        simp only
                        rw [t5]
                        by_cases hi2 : i < olds.length
                        · rw [List.getElem?_append_left hi2] at hi
                          rw [if_neg (by omega)]
                          obtain ⟨y, hy, hv⟩ := hO.get hi
                          have := hcell _ rfl i y hy
                          rw [add_none] at this
                          simp only [World.cell?, hh] at this
                          exact ⟨y, by simpa using this, hv.mono hle⟩
                        · rw [List.getElem?_append_right (by omega)] at hi
                          obtain ⟨y, hy, hv⟩ := hN.get hi
                          have hil : i - olds.length < news.length := by
                            rcases Nat.lt_or_ge (i - olds.length) news.length with h | h
                            · exact h
                            · rw [List.getElem?_eq_none h] at hi; cases hi
                          rw [if_pos (by omega)]
                          exact ⟨y, by rw [← hy]; congr 1; omega, hv.mono hle⟩
                    · refine grow_does (hm.kill _) hbfree hu hit hsz hzz hS hN hO ?_ hol c1 cb cz (by omega) c3
                      exact run_firstCells_some (P := P) w.drew es len _ len cap os hol (fun j v hv => by simpa using hcell _ rfl j v hv)
                  · simp only [sliceCells, Option.some.injEq] at hold
                    subst hold
                    have := grow_does (len := 0) (cap := 0) (base := some y) (t := t) (tx := tx) (ty := ty) (hm.kill _) hbfree hu hit hsz hzz hS hN (.nil _) (run_firstCells_some (P := P) w.drew es 0 y 0 0 [] (by simp) (fun j v hv => by simp at hv)) (by simp) c1 cb cz (by omega) c3
                    simpa using this
                · cases h
              · cases h
          · cases h
      · cases h
    · cases h
  · cases h

theorem appendZ_sound {t tx ty : TypeId} {kn : IntKind} {s s' x x' v : Value} {σ' : AMem L} {b nx : Nat} (hm : MRel P κ ρ σ w) (hb : Free ρ σ b nx) (htx : P.underlying tx = some (.int kn)) (h : aAppendZ P t s x σ b nx = some (v, σ')) (hs : VRel ρ s s') (hx : VRel ρ x x') :
    Does P κ ρ b (Builtin.append_ #[t, tx] ty #[s', x']) w v σ' := by
  unfold aAppendZ at h
  split at h
  · rename_i e cc k n he
    have hu := elemOf_spec he
    obtain ⟨_, rfl, rfl⟩ := hs.nils_inv
    have := hx.int_inv; subst_vars
    split at h
    · rename_i es z by_ hes hz hby
      obtain ⟨it, hit, rfl⟩ := run_bytesOf hby
      have hsz : it.size = es := by unfold szOf at hes; rw [hit] at hes; simpa using hes
      have hzz : it.zero = some z := by unfold zeroOf at hz; rw [hit] at hz; simpa using hz
      split at h
      · cases h
      · rename_i hcond
        simp only [Bool.or_eq_true, decide_eq_true_eq, not_or, ne_eq, Decidable.not_not, Bool.not_eq_true'] at hcond
        obtain ⟨⟨⟨c1, c2⟩, cb⟩, c3⟩ := hcond
        split at h
        · rename_i hc
          obtain ⟨h0, h1⟩ := hc
          simp only [Option.some.injEq, Prod.mk.injEq] at h
          obtain ⟨rfl, rfl⟩ := h
          have hfl : z.cells.all Ax.flat = true := by simpa using c3
          obtain ⟨m, rfl⟩ : ∃ m : Nat, n = m := ⟨n.toNat, by omega⟩
          simp only [Int.toNat_natCast] at h1 ⊢
          have hm1 : m ≤ m * it.bytes := Nat.le_mul_of_pos_right _ (by omega)
          have hrun := Lib.run_append_nil_zeros (P := P) w t tx ty e it z k kn hu htx hit hzz m (by omega) (by omega) (by omega) (by omega)
          have hcap : m ≤ grownCap w m 0 e := by simp only [grownCap, Question.cut]; omega
          obtain ⟨C, hC⟩ : ∃ C, C = Builtin.zeroCells z.cells m ++ Builtin.zeroCells z.cells (grownCap w m 0 e - m) := ⟨_, rfl⟩
          rw [← hC] at hrun
          have e0 : ∀ j, (Builtin.zeroCells z.cells j).size = j * es := by intro j; simp [Builtin.zeroCells, c1]
          have hCs : C.size = grownCap w m 0 e * es := by
            rw [hC, Array.size_append, e0, e0, ← Nat.add_mul]; congr 1; omega
          have hCt : C.toList.take (zeroRow z.cells (m * es)).length = (Builtin.zeroCells z.cells m).toList := by
            rw [hC, Array.toList_append, zeroRow_length, List.take_append_of_le_length (by rw [Array.length_toList, e0]; exact Nat.le_refl _)]
            exact List.take_of_length_le (by rw [Array.length_toList, e0]; exact Nat.le_refl _)
          have hzr : (Builtin.zeroCells z.cells m).toList = zeroRow z.cells (m * es) := by
            simp [Builtin.zeroCells, zeroRow, c1, List.range_eq_range']
          have hle : (zeroRow z.cells (m * es)).length ≤ C.size := by rw [zeroRow_length, hCs]; exact Nat.mul_le_mul_right _ hcap
          have hval := VRel.slice (ρ := ρ.add b ⟨w.heap.size, 0, C.size, es⟩) (off := 0) (len := m) (cap := grownCap w m 0 e) (ρ.add_at b _) hcap (by simp [hCs])
          simp only [Nat.add_zero] at hval
          exact alloc_does hm hb hes (cells := C) (fr := (0, 0)) (by rw [hCt, hzr]; exact LRel.flat (zeroRow_rel hfl _ (by omega))) hle (unfrozen_zero _ _) hrun rfl hval
        · cases h
    · cases h
  · cases h

theorem cap_sound {t ty : TypeId} {x x' v : Value} (h : aCap P t x = some v) (hx : VRel ρ x x') : (Builtin.cap_ #[t] ty #[x']).run P w = .ok v w ∧ VRel ρ v v := by
  unfold aCap at h
  split at h
  · rename_i e n c hu
    simp only [Option.some.injEq] at h; subst h
    obtain ⟨rfl, rfl, rfl⟩ := hx.nils_inv
    refine ⟨?_, .int _ _⟩
    simp [Builtin.cap_, run_underlying hu, goInt]
  · cases h

end Go.Ax

/- copy, len, maps. -/
namespace Go.Ax
open Go
variable {L : Type} {P : Program} {κ : Kappa} {ρ : Rho} {σ : AMem L} {w : World}

theorem len_sound {t ty : TypeId} {x x' v : Value} (hm : MRel P κ ρ σ w) (h : aLen P t x σ = some v) (hx : VRel ρ x x') : (Builtin.len_ #[t] ty #[x']).run P w = .ok v w ∧ VRel ρ v v := by
  unfold aLen at h
  split at h
  · rename_i s hu
    have := hx.string_inv; subst this
    simp only [Option.some.injEq] at h; subst h
    exact ⟨by simp [Builtin.len_, run_underlying hu, goInt], .int _ _⟩
  · rename_i e a n c hu
    simp only [Option.some.injEq] at h; subst h
    refine ⟨?_, .int _ _⟩
    cases a with
    | none => obtain ⟨rfl, rfl, rfl⟩ := hx.nils_inv; simp [Builtin.len_, run_underlying hu, goInt]
    | some a =>
      obtain ⟨rfl, ⟨l, cap, _, _, _, _, rfl⟩ | ⟨rfl, y, rfl⟩⟩ := hx.slice_inv <;> simp [Builtin.len_, run_underlying hu, goInt]
  · rename_i k e hu
    have := hx.nilm_inv; subst this
    simp only [Option.some.injEq] at h; subst h
    exact ⟨by simp [Builtin.len_, run_underlying hu, goInt], .int _ _⟩
  · rename_i k e r hu
    obtain ⟨l, hr, rfl⟩ := hx.map_inv
    split at h
    · rename_i es hg
      simp only [Option.some.injEq] at h; subst h
      obtain ⟨l', hr', ces, clock, hh, _, _, _, es', hp, hlen, _⟩ := hm.live r _ hg rfl
      rw [hr] at hr'; cases hr'
      have : es.length = ces.size := by rw [← hp.length_eq]; exact hlen
      refine ⟨?_, .int _ _⟩
      simp [Builtin.len_, run_underlying hu, goInt, getObj, Sem.run, hh, this]
    · cases h
  · cases h

theorem min_sound {ty : TypeId} {ts : Array TypeId} {x y x' y' v : Value} (h : aMin x y = some v) (hx : VRel ρ x x') (hy : VRel ρ y y') : (Builtin.min_ ts ty #[x', y']).run P w = .ok v w ∧ VRel ρ v v := by
  unfold aMin at h
  split at h
  · have := hx.int_inv; have := hy.int_inv; subst_vars
    simp only [Option.some.injEq] at h; subst h
    exact ⟨by simp [Builtin.min_, Builtin.min2], .int _ _⟩
  · cases h
theorem max_sound {ty : TypeId} {ts : Array TypeId} {x y x' y' v : Value} (h : aMax x y = some v) (hx : VRel ρ x x') (hy : VRel ρ y y') : (Builtin.max_ ts ty #[x', y']).run P w = .ok v w ∧ VRel ρ v v := by
  unfold aMax at h
  split at h
  · have := hx.int_inv; have := hy.int_inv; subst_vars
    simp only [Option.some.injEq] at h; subst h
    exact ⟨by simp [Builtin.max_, Builtin.max2], .int _ _⟩
  · cases h

theorem copy_sound {t ty : TypeId} {ts : Array TypeId} {d d' s s' v : Value} {σ' : AMem L} (hm : MRel P κ ρ σ w) (h : aCopy P t d s σ = some (v, σ')) (hd : VRel ρ d d') (hs : VRel ρ s s') (b : Nat) (ht : ts[0]? = some t) :
    Does P κ ρ b (Builtin.copy_ ts ty #[d', s']) w v σ' := by
  unfold aCopy at h
  split at h
  · rename_i e he
    have hu := elemOf_spec he
    split at h
    · rename_i es c off dn cc hes
      split at h
      · rename_i vs e' n l hg hsrc
        split at h
        · cases h
        · rename_i hcond
          simp only [Bool.or_eq_true, decide_eq_true_eq, not_or, Bool.not_eq_true', gt_iff_lt, Nat.not_lt] at hcond
          obtain ⟨⟨c1, c2⟩, c3⟩ := hcond
          simp only [Option.some.injEq, Prod.mk.injEq] at h
          obtain ⟨rfl, rfl⟩ := h
          have hone : oneCells (l.take (min n dn * es)) = true := by simpa using c2
          -- what is read
          have hsrc' : ∃ ys, (Builtin.lenOf s').run P w = .ok n w ∧ LRel ρ l ys ∧ ys.length = n * es ∧ (Builtin.firstCells es (min n dn) s').run P w = .ok (ys.take (min n dn * es)).toArray w := by
            split at hsrc
            · rename_i str
              have := hs.string_inv; subst this
              split at hsrc
              · rename_i hes1
                simp only [Option.some.injEq, Prod.mk.injEq] at hsrc
                obtain ⟨rfl, rfl⟩ := hsrc
                subst hes1
                refine ⟨byteVals str.data.toList, rfl, byteVals_rel _ _, by simp only [byteVals, List.length_map, size_list]; omega, ?_⟩
                simp only [Builtin.firstCells, Sem.run_pure, Nat.mul_one]
                congr 1
                apply Array.ext'
                simp [byteVals]
              · cases hsrc
            · rename_i a m c'
              obtain ⟨cs, h2, h3⟩ := Option.map_eq_some_iff.1 hsrc
              simp only [Prod.mk.injEq] at h3
              obtain ⟨rfl, rfl⟩ := h3
              obtain ⟨a', cap', ys, rfl, hr, hlen, hcell, hnil⟩ := sliceCells_sound hm hs ⟨_, rfl⟩ h2
              refine ⟨ys, rfl, hr, hlen, ?_⟩
              cases a' with
              | none =>
                obtain rfl := hnil rfl
                have : ys = [] := by simpa using hlen
                subst this
                simp [Builtin.firstCells]
              | some ad =>
                have hle : min m dn * es ≤ m * es := Nat.mul_le_mul_right _ (Nat.min_le_left _ _)
                exact run_firstCells_some (P := P) w es (min m dn) ad m cap' _ (by simp; omega) (fun j v hv => by
                  rw [List.getElem?_take] at hv
                  split at hv
                  · exact hcell ad rfl j v hv
                  · cases hv)
            · cases hsrc
          obtain ⟨ys, hlen, hr, hyl, hfirst⟩ := hsrc'
          have hrt := hr.take (min n dn * es)
          have hle : (l.take (min n dn * es)).length ≤ dn * es := by
            rw [List.length_take]
            have : min n dn * es ≤ dn * es := Nat.mul_le_mul_right _ (Nat.min_le_right _ _)
            omega
          obtain ⟨rfl, ⟨lc, cap, hrr, hsp, hc, hroom, rfl⟩ | ⟨rfl, y, rfl⟩⟩ := hd.slice_inv
          · obtain ⟨r1, r2⟩ := hm.setCells (b := c) (off := off) hg hrr (by omega) hrt hone
            refine ⟨_, _, ρ, ?_, ρ.le_refl, fun _ _ => rfl, .int .i64 (min n dn : Nat), r2⟩
            simp only [Builtin.copy_, ht]
            simp only [List.getElem?_toArray, List.getElem?_cons_zero, List.getElem?_cons_succ]
            simp only [Sem.run_bind, run_underlying hu, Result.andThen_ok, hlen, run_szOf hes]
            have hmin : Nat.min n dn = min n dn := rfl
            rw [hmin, hfirst]
            simp only [Result.andThen_ok]
            rw [r1]
            simp [goInt]
          · obtain ⟨lc, hrr, _⟩ := hm.live c _ hg rfl
            have h0 : l.take (min n 0 * es) = [] := by simp
            rw [h0] at hrt hone ⊢
            obtain ⟨r1, r2⟩ := hm.setCells (b := c) (off := off) (cs := []) (ys := []) hg hrr (by simp; omega) (.nil _) hone
            refine ⟨.int .i64 0, _, ρ, ?_, ρ.le_refl, fun _ _ => rfl, by simpa using VRel.int .i64 0, r2⟩
            simp only [Builtin.copy_, ht]
            simp only [List.getElem?_toArray, List.getElem?_cons_zero, List.getElem?_cons_succ]
            simp only [Sem.run_bind, run_underlying hu, Result.andThen_ok, hlen, run_szOf hes]
            have hmin : Nat.min n 0 = 0 := by simp
            rw [hmin]
            have hf0 : (Builtin.firstCells es 0 s').run P w = .ok #[] w := by
              have := hfirst
              simpa using this
            rw [hf0]
            simp [storeCells, goInt, World.setCells]
      · cases h
    · cases h
  · cases h

theorem copyN_sound {t ty : TypeId} {ts : Array TypeId} {d d' s s' v : Value} (h : aCopyN P t d s = some v) (hd : VRel ρ d d') (hs : VRel ρ s s') (ht : ts[0]? = some t) :
    (Builtin.copy_ ts ty #[d', s']).run P w = .ok v w ∧ VRel ρ v v := by
  unfold aCopyN at h
  split at h
  · rename_i e n c he
    have hu := elemOf_spec he
    obtain ⟨_, _, rfl⟩ := hd.nils_inv
    split at h
    · rename_i es a m cc hes
      simp only [Option.some.injEq] at h; subst h
      refine ⟨?_, .int _ _⟩
      cases a with
      | none =>
        obtain ⟨rfl, rfl, rfl⟩ := hs.nils_inv
        simp [Builtin.copy_, ht, run_underlying hu, run_szOf hes, Builtin.lenOf, Builtin.firstCells, goInt]
      | some a =>
        have hl : ∀ ad : Addr, (loadCells ad 0).run P w = .ok #[] w := fun ad => by
          have := run_loadCells_list (P := P) w ad [] (fun j v hj => by simp at hj)
          simpa using this
        obtain ⟨_, ⟨l, cap, _, _, _, _, rfl⟩ | ⟨rfl, y, rfl⟩⟩ := hs.slice_inv
        · simp [Builtin.copy_, ht, run_underlying hu, run_szOf hes, Builtin.lenOf, Builtin.firstCells, goInt, hl]
        · simp [Builtin.copy_, ht, run_underlying hu, run_szOf hes, Builtin.lenOf, Builtin.firstCells, goInt, hl]
    · rename_i es b hes
      simp only [Option.some.injEq] at h; subst h
      have := hs.string_inv; subst this
      refine ⟨?_, .int _ _⟩
      simp [Builtin.copy_, ht, run_underlying hu, run_szOf hes, Builtin.lenOf, Builtin.firstCells, goInt]
    · cases h
  · cases h

end Go.Ax

/- Maps. -/
namespace Go.Ax
open Go
variable {L : Type} {P : Program} {κ : Kappa} {ρ : Rho} {σ : AMem L} {w : World}

theorem isKey_of {d : TypeDesc} {k : Value} (h : keyFits d k = true) : MapKept.IsKey d k := by
  unfold keyFits at h
  split at h <;> simp_all [MapKept.IsKey]

theorem keyEq_iff {k k' : Value} (h : keyFlat k = true) : keyEq k k' = true ↔ k = k' := by
  cases k <;> simp [keyFlat] at h <;> cases k' <;> simp [keyEq, MapKept.bytes_beq]

theorem keyFlat_of_fits {d : TypeDesc} {k : Value} (h : keyFits d k = true) : keyFlat k = true := by
  unfold keyFits at h; split at h <;> first | rfl | (cases h; done)

theorem mapGet_some {k v : Value} : ∀ {es : List (Value × Value)}, mapGet k es = some v → ∃ k', (k', v) ∈ es ∧ keyEq k k' = true
  | [], h => by cases h
  | (k', v') :: r, h => by
    unfold mapGet at h
    split at h
    · rename_i hk; cases h; exact ⟨k', .head _, hk⟩
    · obtain ⟨k2, h1, h2⟩ := mapGet_some h; exact ⟨k2, .tail _ h1, h2⟩
theorem mapGet_none {k : Value} : ∀ {es : List (Value × Value)}, mapGet k es = none → ∀ kv ∈ es, keyEq k kv.1 = false
  | [], _ => by simp
  | (k', v') :: r, h => by
    unfold mapGet at h
    split at h
    · cases h
    · rename_i hk
      intro kv hkv
      cases hkv with
      | head => simpa using hk
      | tail _ h2 => exact mapGet_none h kv h2

def others (k : Value) (es : List (Value × Value)) : List (Value × Value) := es.filter fun kv => !keyEq k kv.1

theorem Stamps.push {ces : Array MapEntry} {clock : Nat} {k v : Value} (h : Stamps ces clock) : Stamps (ces.push { key := k, val := v, born := clock }) (clock + 1) := by
  refine ⟨fun x hx => ?_, ?_⟩
  · simp only [Array.toList_push, List.mem_append, List.mem_singleton] at hx
    rcases hx with hx | rfl
    · exact Nat.lt_succ_of_lt (h.1 x hx)
    · exact Nat.lt_succ_self _
  · simp only [Array.toList_push, List.map_append, List.map_cons, List.map_nil]
    rw [List.nodup_append]
    refine ⟨h.2, by simp, fun a ha b hb => ?_⟩
    simp only [List.mem_singleton] at hb
    obtain ⟨x, hx, rfl⟩ := List.mem_map.1 ha
    have := h.1 x hx
    omega
theorem Stamps.modify {ces : Array MapEntry} {clock i : Nat} {k v : Value} (h : Stamps ces clock) : Stamps (ces.modify i fun e => { e with key := k, val := v }) clock := by
  have hb : (ces.modify i fun e => { e with key := k, val := v }).toList.map (·.born) = ces.toList.map (·.born) := by
    apply List.ext_getElem?
    intro j
    simp only [List.getElem?_map, Array.getElem?_toList, Array.getElem?_modify]
    split
    · cases ces[j]? <;> rfl
    · rfl
  refine ⟨fun x hx => ?_, by rw [hb]; exact h.2⟩
  have : x.born ∈ ces.toList.map (·.born) := by rw [← hb]; exact List.mem_map.2 ⟨x, hx, rfl⟩
  obtain ⟨y, hy, e⟩ := List.mem_map.1 this
  rw [← e]; exact h.1 y hy
theorem Stamps.erase {ces ces' : Array MapEntry} {clock i : Nat} (h : Stamps ces clock) (he : ces'.toList = ces.toList.eraseIdx i) : Stamps ces' clock := by
  have hs : (ces.toList.eraseIdx i).Sublist ces.toList := List.eraseIdx_sublist ..
  exact ⟨fun x hx => h.1 x (hs.subset (he ▸ hx)), by rw [he]; exact (hs.map _).nodup h.2⟩

theorem mapSet_perm {k v : Value} (hk : keyFlat k = true) : ∀ {es : List (Value × Value)}, (es.map (·.1)).Nodup → (mapSet k v es).Perm ((k, v) :: others k es)
  | [], _ => by simp [mapSet, others]
  | (k', v') :: r, hn => by
    simp only [List.map_cons, List.nodup_cons] at hn
    unfold mapSet
    split
    · rename_i h
      have := (keyEq_iff hk).1 h; subst this
      have hr : others k r = r := by
        unfold others
        rw [List.filter_eq_self]
        intro kv hkv
        cases he : keyEq k kv.1 with
        | false => rfl
        | true => exact absurd (List.mem_map_of_mem (f := (·.1)) hkv) (by rw [(keyEq_iff hk).1 he] at hn; exact hn.1)
      have : others k ((k, v') :: r) = r := by
        have h2 : keyEq k k = true := h
        simp only [others, List.filter_cons, h2]; simpa [others] using hr
      rw [this]
    · rename_i h
      have : others k ((k', v') :: r) = (k', v') :: others k r := by
        simp only [others, List.filter_cons]; rw [if_pos (by simpa using h)]
      rw [this]
      exact ((mapSet_perm hk hn.2).cons _).trans (List.Perm.swap _ _ _)

theorem mapDel_eq {k : Value} (hk : keyFlat k = true) : ∀ {es : List (Value × Value)}, (es.map (·.1)).Nodup → mapDel k es = others k es
  | [], _ => rfl
  | (k', v') :: r, hn => by
    simp only [List.map_cons, List.nodup_cons] at hn
    unfold mapDel
    split
    · rename_i h
      have := (keyEq_iff hk).1 h; subst this
      symm
      have h2 : keyEq k k = true := h
      simp only [others, List.filter_cons, h2]
      simp only [Bool.not_true, Bool.false_eq_true, if_false]
      rw [List.filter_eq_self]
      intro kv hkv
      cases he : keyEq k kv.1 with
      | false => rfl
      | true => exact absurd (List.mem_map_of_mem (f := (·.1)) hkv) (by rw [(keyEq_iff hk).1 he] at hn; exact hn.1)
    · rename_i h
      simp only [others, List.filter_cons]
      rw [if_pos (by simpa using h), mapDel_eq hk hn.2]; rfl

theorem others_perm {k : Value} {a b : List (Value × Value)} (h : a.Perm b) : (others k a).Perm (others k b) := h.filter _

theorem mapSet_congr {k v : Value} (hk : keyFlat k = true) {a b : List (Value × Value)} (h : a.Perm b) (hn : (b.map (·.1)).Nodup) : (mapSet k v a).Perm (mapSet k v b) :=
  (mapSet_perm hk ((h.map _).nodup_iff.2 hn)).trans (((others_perm h).cons _).trans (mapSet_perm hk hn).symm)

theorem mapSet_at {k v u : Value} (hk : keyFlat k = true) : ∀ {es : List (Value × Value)} {i : Nat}, (es.map (·.1)).Nodup → es[i]? = some (k, u) → mapSet k v es = es.set i (k, v)
  | [], i, _, h => by simp at h
  | (k', v') :: r, i, hn, h => by
    simp only [List.map_cons, List.nodup_cons] at hn
    cases i with
    | zero =>
      simp only [List.getElem?_cons_zero, Option.some.injEq, Prod.mk.injEq] at h
      obtain ⟨rfl, rfl⟩ := h
      rw [mapSet, if_pos ((keyEq_iff hk).2 rfl)]; rfl
    | succ i =>
      simp only [List.getElem?_cons_succ] at h
      have hne : ¬ keyEq k k' = true := fun e => by
        have := (keyEq_iff hk).1 e; subst this
        exact hn.1 (List.mem_map_of_mem (f := (·.1)) (List.mem_of_getElem? h))
      rw [mapSet, if_neg hne, mapSet_at hk hn.2 h]; rfl

theorem mapSet_new {k v : Value} : ∀ {es : List (Value × Value)}, (∀ kv ∈ es, keyEq k kv.1 = false) → mapSet k v es = es ++ [(k, v)]
  | [], _ => rfl
  | (k', v') :: r, h => by
    rw [mapSet, if_neg (by rw [h _ (.head _)]; simp), mapSet_new fun kv hkv => h kv (.tail _ hkv)]; rfl

theorem mapDel_at {k u : Value} (hk : keyFlat k = true) : ∀ {es : List (Value × Value)} {i : Nat}, (es.map (·.1)).Nodup → es[i]? = some (k, u) → mapDel k es = es.eraseIdx i
  | [], i, _, h => by simp at h
  | (k', v') :: r, i, hn, h => by
    simp only [List.map_cons, List.nodup_cons] at hn
    cases i with
    | zero =>
      simp only [List.getElem?_cons_zero, Option.some.injEq, Prod.mk.injEq] at h
      obtain ⟨rfl, rfl⟩ := h
      rw [mapDel, if_pos ((keyEq_iff hk).2 rfl)]; rfl
    | succ i =>
      simp only [List.getElem?_cons_succ] at h
      have hne : ¬ keyEq k k' = true := fun e => by
        have := (keyEq_iff hk).1 e; subst this
        exact hn.1 (List.mem_map_of_mem (f := (·.1)) (List.mem_of_getElem? h))
      rw [mapDel, if_neg hne, mapDel_at hk hn.2 h]; rfl
theorem mapDel_none {k : Value} : ∀ {es : List (Value × Value)}, (∀ kv ∈ es, keyEq k kv.1 = false) → mapDel k es = es
  | [], _ => rfl
  | (k', v') :: r, h => by
    rw [mapDel, if_neg (by rw [h _ (.head _)]; simp), mapDel_none fun kv hkv => h kv (.tail _ hkv)]

/-- The model's entries, beside the abstract ones. -/
structure MapIs (ρ : Rho) (es' : List (Value × Value)) (ces : Array MapEntry) : Prop where
  len : es'.length = ces.size
  at_ : ∀ (i : Nat) (kv : Value × Value) (e : MapEntry), es'[i]? = some kv → ces[i]? = some e → e.key = kv.1 ∧ VRel ρ kv.2 e.val

theorem mapOf_spec {t k e : TypeId} (h : mapOf P t = some (k, e)) : P.underlying t = some (.map k e) := by
  unfold mapOf at h; split at h <;> simp at h; obtain ⟨rfl, rfl⟩ := h; assumption

/-- Where a key stands. -/
theorem find_sound {d : TypeDesc} {k : Value} {es es' : List (Value × Value)} {ces : Array MapEntry} (hk : keyFits d k = true) (hall : ∀ kv ∈ es, keyFits d kv.1 = true) (hp : es'.Perm es) (hn : (es.map (·.1)).Nodup) (hi : MapIs ρ es' ces) :
    (mapGet k es = none ∧ Instr.findNow d k ces.toList 0 = some none ∧ (∀ kv ∈ es', keyEq k kv.1 = false)) ∨
      (∃ v i e, mapGet k es = some v ∧ Instr.findNow d k ces.toList 0 = some (some (i, e.val)) ∧ ces[i]? = some e ∧ e.key = k ∧ es'[i]? = some (k, v) ∧ VRel ρ v e.val) := by
  have hkf := keyFlat_of_fits hk
  have hn' : (es'.map (·.1)).Nodup := (hp.map _).nodup_iff.2 hn
  have hkeys : ∀ x ∈ ces.toList, MapKept.IsKey d x.key := by
    intro x hx
    obtain ⟨i, hi1, hi2⟩ := List.getElem_of_mem hx
    have hlt : i < ces.size := by simpa using hi1
    have hlt' : i < es'.length := by rw [hi.len]; exact hlt
    have := hi.at_ i es'[i] ces[i] (List.getElem?_eq_getElem hlt') (Array.getElem?_eq_getElem hlt)
    have hx' : x = ces[i] := by rw [← hi2]; simp
    rw [hx', this.1]
    exact isKey_of (hall _ (hp.mem_iff.1 (List.getElem_mem hlt')))
  rcases MapKept.findNow_spec (isKey_of hk) ces.toList 0 hkeys with ⟨h1, h2⟩ | ⟨j, e, h1, h2, h3⟩
  · left
    have hno : ∀ kv ∈ es', keyEq k kv.1 = false := by
      intro kv hkv
      obtain ⟨i, hi1, hi2⟩ := List.getElem_of_mem hkv
      have hlt : i < ces.size := by rw [← hi.len]; exact hi1
      have := hi.at_ i kv ces[i] (by rw [List.getElem?_eq_getElem hi1, hi2]) (Array.getElem?_eq_getElem hlt)
      have hne := h2 ces[i] (by simp)
      cases he : keyEq k kv.1 with
      | false => rfl
      | true => exact absurd (this.1.trans ((keyEq_iff hkf).1 he).symm) hne
    refine ⟨?_, h1, hno⟩
    cases hg : mapGet k es with
    | none => rfl
    | some v =>
      obtain ⟨k', hm1, hm2⟩ := mapGet_some hg
      rw [hno _ (hp.mem_iff.2 hm1)] at hm2; cases hm2
  · right
    have hc : ces[j]? = some e := by simpa using h2
    have hlt : j < ces.size := (Array.getElem?_eq_some_iff.1 hc).1
    have hlt' : j < es'.length := by rw [hi.len]; exact hlt
    have hat := hi.at_ j es'[j] e (List.getElem?_eq_getElem hlt') hc
    have hkey : es'[j].1 = k := hat.1.symm.trans h3
    have hmem : es'[j] ∈ es := hp.mem_iff.1 (List.getElem_mem hlt')
    cases hg : mapGet k es with
    | none =>
      have := mapGet_none hg _ hmem
      rw [(keyEq_iff hkf).2 hkey.symm] at this; cases this
    | some v =>
      obtain ⟨k', hm1, hm2⟩ := mapGet_some hg
      have := (keyEq_iff hkf).1 hm2; subst this
      have hv : es'[j] = (k, v) := by
        have h4 : (k, v) ∈ es' := hp.mem_iff.2 hm1
        obtain ⟨i, hi1, hi2⟩ := List.getElem_of_mem h4
        have : i = j := by
          have h5 : (es'.map (·.1))[i]'(by simpa using hi1) = (es'.map (·.1))[j]'(by simpa using hlt') := by simp [hi2, hkey]
          rcases Nat.lt_trichotomy i j with hlt2 | h6 | hlt2
          · exact absurd h5 (List.pairwise_iff_getElem.1 hn' i j _ _ hlt2)
          · exact h6
          · exact absurd h5.symm (List.pairwise_iff_getElem.1 hn' j i _ _ hlt2)
        subst this; exact hi2
      refine ⟨v, j, e, rfl, by simpa using h1, hc, h3, by rw [List.getElem?_eq_getElem hlt', hv], ?_⟩
      have := hat.2; rw [hv] at this; exact this


theorem lookup_sound {t : TypeId} {m m' k k' v : Value} {ok : Bool} (hm : MRel P κ ρ σ w) (h : aLookup P t m k ok σ = some v) (hmv : VRel ρ m m') (hkv : VRel ρ k k') :
    ∃ v', (Instr.lookup t m' k' ok).run P w = .ok v' w ∧ VRel ρ v v' := by
  unfold aLookup at h
  split at h
  · rename_i kt et hmo
    have hu := mapOf_spec hmo
    split at h
    · rename_i d z hd hz
      split at h
      · cases h
      · rename_i hc
        simp only [Bool.or_eq_true, Bool.not_eq_true', not_or, Bool.not_eq_false] at hc
        obtain ⟨hk, hz2⟩ := hc
        have hkk : k' = k := by
          have := keyFlat_of_fits hk
          cases k <;> simp [keyFlat] at this
          · exact hkv.bool_inv
          · exact hkv.int_inv
          · exact hkv.string_inv
        subst hkk
        have hzr := plain_rel ρ hz2
        have hmiss : VRel ρ (if ok then .tuple #[z, .bool false] else z) (if ok then .tuple #[z, .bool false] else z) := by
          cases ok
          · exact hzr
          · exact VRel.tuple_mk (.cons hzr (.cons (.bool _) (.nil _)))
        split at h
        · have := hmv.nilm_inv; subst this
          simp only [Option.some.injEq] at h; subst h
          refine ⟨_, ?_, hmiss⟩
          simp only [Instr.lookup, Sem.run_bind, run_underlying hu, Result.andThen_ok, Sem.run_pure]
          rw [MapKept.run_checkKey hd (isKey_of hk) _ 9999]
          simp only [Result.andThen_ok]
          rw [MapKept.run_findKey hd (show Instr.findNow d k' (#[] : Array MapEntry).toList 0 = some none from rfl)]
          simp [run_zeroOf hz]
        · rename_i r
          obtain ⟨l, hr, rfl⟩ := hmv.map_inv
          split at h
          · rename_i es hg
            split at h
            · rename_i hall
              obtain ⟨l', hr', ces, clock, hh, hst, hn, hf, es', hp, hlen, hat⟩ := hm.live r _ hg rfl
              rw [hr] at hr'; cases hr'
              have hall' : ∀ kv ∈ es, keyFits d kv.1 = true := fun kv hkv => by simpa using List.all_eq_true.1 hall kv hkv
              have hlk : ∀ res, Instr.findNow d k' ces.toList 0 = some res → (Instr.lookup t (.map (some l.blk)) k' ok).run P w =
                  ((match res with | some (_, v) => pure (v, true) | none => do pure (← zeroValue et, false) : Sem (Value × Bool)).run P w).andThen fun p w' => .ok (if ok then .tuple #[p.1, .bool p.2] else p.1) w' := by
                intro res hres
                simp only [Instr.lookup, Sem.run_bind, run_underlying hu, Result.andThen_ok, MapKept.run_getObj_map hh, Sem.run_pure]
                rw [MapKept.run_checkKey hd (isKey_of hk) _ 9999]
                simp only [Result.andThen_ok]
                rw [MapKept.run_findKey hd hres]
                cases res with
                | none => simp [run_zeroOf hz]
                | some p => simp
              rcases find_sound (ρ := ρ) hk hall' hp hn ⟨hlen, hat⟩ with ⟨h1, h2, _⟩ | ⟨v2, i, e, h1, h2, _, _, _, h6⟩
              · rw [h1] at h
                simp only [Option.some.injEq] at h; subst h
                exact ⟨_, by rw [hlk _ h2]; simp [run_zeroOf hz], hmiss⟩
              · rw [h1] at h
                simp only [Option.some.injEq] at h; subst h
                refine ⟨if ok then .tuple #[e.val, .bool true] else e.val, by rw [hlk _ h2]; simp, ?_⟩
                cases ok
                · exact h6
                · exact VRel.tuple_mk (.cons h6 (.cons (.bool _) (.nil _)))
            · cases h
          · cases h
        · cases h
    · cases h
  · cases h

theorem keys_mapSet {k v : Value} (hk : keyFlat k = true) {es : List (Value × Value)} (hn : (es.map (·.1)).Nodup) (hf : ∀ x ∈ es.map (·.1), keyFlat x = true) : ((mapSet k v es).map (·.1)).Nodup ∧ ∀ x ∈ (mapSet k v es).map (·.1), keyFlat x = true := by
  have hp := mapSet_perm (v := v) hk hn
  have hsub : (others k es).Sublist es := List.filter_sublist
  have hko : k ∉ (others k es).map (·.1) := by
    intro hmem
    obtain ⟨kv, h1, h2⟩ := List.mem_map.1 hmem
    have := (List.mem_filter.1 h1).2
    rw [(keyEq_iff hk).2 h2.symm] at this; simp at this
  refine ⟨((hp.map (·.1)).nodup_iff).2 (List.nodup_cons.2 ⟨hko, (hsub.map _).nodup hn⟩), fun x hx => ?_⟩
  have := (hp.map (·.1)).mem_iff.1 hx
  simp only [List.map_cons, List.mem_cons] at this
  rcases this with rfl | h
  · exact hk
  · exact hf x ((hsub.map _).subset h)

theorem update_sound {t : TypeId} {m m' k k' v v' : Value} {σ' : AMem L} (hm : MRel P κ ρ σ w) (h : aMapUpdate P t m k v σ = some σ') (hmv : VRel ρ m m') (hkv : VRel ρ k k') (hv : VRel ρ v v') :
    ∃ w', (Instr.mapUpdate t m' k' v').run P w = .ok () w' ∧ MRel P κ ρ σ' w' := by
  unfold aMapUpdate at h
  split at h
  · rename_i kt et r hmo
    have hu := mapOf_spec hmo
    obtain ⟨l, hr, rfl⟩ := hmv.map_inv
    split at h
    · rename_i d es hd hg
      split at h
      · rename_i hc
        simp only [Bool.and_eq_true] at hc
        obtain ⟨hk, hall⟩ := hc
        simp only [Option.some.injEq] at h; subst h
        have hkf := keyFlat_of_fits hk
        have hkk : k' = k := by
          have := hkf
          cases k <;> simp [keyFlat] at this
          · exact hkv.bool_inv
          · exact hkv.int_inv
          · exact hkv.string_inv
        subst hkk
        obtain ⟨l', hr', ces, clock, hh, hst, hn, hf, es', hp, hlen, hat⟩ := hm.live r _ hg rfl
        rw [hr] at hr'; cases hr'
        have hall' : ∀ kv ∈ es, keyFits d kv.1 = true := fun kv hkv => by simpa using List.all_eq_true.1 hall kv hkv
        have hn' : (es'.map (·.1)).Nodup := (hp.map _).nodup_iff.2 hn
        have hlt : l.blk < w.heap.size := hm.old r l hr
        obtain ⟨hk1, hk2⟩ := keys_mapSet (v := v) hkf hn hf
        rcases find_sound (ρ := ρ) hk hall' hp hn ⟨hlen, hat⟩ with ⟨h1, h2, h3⟩ | ⟨v2, i, e, h1, h2, h3, h4, h5, h6⟩
        · refine ⟨{ w with heap := w.heap.setIfInBounds l.blk (.map (ces.push { key := k', val := v', born := clock }) (clock + 1)) }, ?_, ?_⟩
          · simp only [Instr.mapUpdate, Sem.run_bind, run_underlying hu, Result.andThen_ok, MapKept.run_getObj_map hh]
            rw [MapKept.run_checkKey hd (isKey_of hk) _ 9999]
            simp only [Result.andThen_ok]
            rw [MapKept.run_findKey hd h2]
            simp only [Result.andThen_ok]
            rw [MapKept.run_setObj_map _ hh]
          · refine hm.change hg rfl rfl rfl rfl hr ⟨ces.push { key := k', val := v', born := clock }, clock + 1, by simp [hlt], hst.push, hk1, hk2, es' ++ [(k', v)], ?_, by simp [hlen], fun j kv e hj he => ?_⟩ (by simp) (fun c hc => by simp [Ne.symm hc])
            · rw [← mapSet_new (v := v) h3]
              exact mapSet_congr hkf hp hn
            · rcases Nat.lt_or_ge j es'.length with hj2 | hj2
              · rw [List.getElem?_append_left hj2] at hj
                rw [Array.getElem?_push_lt (by omega)] at he
                exact hat j kv e hj (by rw [Array.getElem?_eq_getElem (by omega)]; exact he)
              · rw [List.getElem?_append_right hj2] at hj
                have : j = es'.length := by
                  rcases Nat.lt_or_ge es'.length j with h | h
                  · rw [List.getElem?_eq_none (by simp; omega)] at hj; cases hj
                  · omega
                subst this
                rw [hlen, Array.getElem?_push_size] at he
                simp at hj he
                subst hj he
                exact ⟨rfl, hv⟩
        · have hil : i < ces.size := (Array.getElem?_eq_some_iff.1 h3).1
          refine ⟨{ w with heap := w.heap.setIfInBounds l.blk (.map (ces.modify i fun e => { e with key := k', val := v' }) clock) }, ?_, ?_⟩
          · simp only [Instr.mapUpdate, Sem.run_bind, run_underlying hu, Result.andThen_ok, MapKept.run_getObj_map hh]
            rw [MapKept.run_checkKey hd (isKey_of hk) _ 9999]
            simp only [Result.andThen_ok]
            rw [MapKept.run_findKey hd h2]
            simp only [Result.andThen_ok, h3, Option.map_some, Option.getD_some, h4]
            have hkt : (Instr.keyThatStays k' k').run P w = .ok k' w := by
              have : Instr.sameBits 10000 k' k' = true := by
                have := hkf
                cases k' <;> simp [keyFlat] at this <;> simp [Instr.sameBits, MapKept.bytes_beq]
              simp [Instr.keyThatStays, this]
            rw [Sem.run_bind, hkt]
            simp only [Result.andThen_ok]
            rw [MapKept.run_setObj_map _ hh]
          · refine hm.change hg rfl rfl rfl rfl hr ⟨ces.modify i fun e => { e with key := k', val := v' }, clock, by simp [hlt], hst.modify, hk1, hk2, es'.set i (k', v), ?_, by simp [hlen], fun j kv e' hj he => ?_⟩ (by simp) (fun c hc => by simp [Ne.symm hc])
            · rw [← mapSet_at (v := v) hkf hn' h5]
              exact mapSet_congr hkf hp hn
            · rw [List.getElem?_set] at hj
              rw [Array.getElem?_modify] at he
              by_cases hij : i = j
              · subst hij
                rw [if_pos rfl, if_pos (by omega)] at hj
                rw [if_pos rfl, h3] at he
                simp at hj he
                subst hj he
                exact ⟨rfl, hv⟩
              · rw [if_neg hij] at hj he
                exact hat j kv e' hj he
      · cases h
    · cases h
  · cases h

theorem delete_sound {t ty : TypeId} {ts : Array TypeId} {m m' k k' : Value} {σ' : AMem L} (hm : MRel P κ ρ σ w) (ht : ts[0]? = some t) (h : aDelete P t m k σ = some σ') (hmv : VRel ρ m m') (hkv : VRel ρ k k') :
    ∃ w', (Builtin.delete_ ts ty #[m', k']).run P w = .ok (.tuple #[]) w' ∧ MRel P κ ρ σ' w' := by
  unfold aDelete at h
  split at h
  · rename_i kt et r hmo
    have hu := mapOf_spec hmo
    obtain ⟨l, hr, rfl⟩ := hmv.map_inv
    split at h
    · rename_i d es hd hg
      split at h
      · rename_i hc
        simp only [Bool.and_eq_true] at hc
        obtain ⟨hk, hall⟩ := hc
        simp only [Option.some.injEq] at h; subst h
        have hkf := keyFlat_of_fits hk
        have hkk : k' = k := by
          have := hkf
          cases k <;> simp [keyFlat] at this
          · exact hkv.bool_inv
          · exact hkv.int_inv
          · exact hkv.string_inv
        subst hkk
        obtain ⟨l', hr', ces, clock, hh, hst, hn, hf, es', hp, hlen, hat⟩ := hm.live r _ hg rfl
        rw [hr] at hr'; cases hr'
        have hall' : ∀ kv ∈ es, keyFits d kv.1 = true := fun kv hkv => by simpa using List.all_eq_true.1 hall kv hkv
        have hn' : (es'.map (·.1)).Nodup := (hp.map _).nodup_iff.2 hn
        have hlt : l.blk < w.heap.size := hm.old r l hr
        have hsub : (others k' es).Sublist es := List.filter_sublist
        have hnd : ((mapDel k' es).map (·.1)).Nodup := by rw [mapDel_eq hkf hn]; exact (hsub.map _).nodup hn
        have hfd : ∀ x ∈ (mapDel k' es).map (·.1), keyFlat x = true := by rw [mapDel_eq hkf hn]; exact fun x hx => hf x ((hsub.map _).subset hx)
        have hpd : (mapDel k' es').Perm (mapDel k' es) := by rw [mapDel_eq hkf hn, mapDel_eq hkf hn']; exact others_perm hp
        rcases find_sound (ρ := ρ) hk hall' hp hn ⟨hlen, hat⟩ with ⟨h1, h2, h3⟩ | ⟨v2, i, e, h1, h2, h3, h4, h5, h6⟩
        · refine ⟨{ w with heap := w.heap.setIfInBounds l.blk (.map ces clock) }, ?_, ?_⟩
          · simp only [Builtin.delete_, ht]
            simp only [List.getElem?_toArray, List.getElem?_cons_zero, List.getElem?_cons_succ]
            simp only [Sem.run_bind, run_underlying hu, Result.andThen_ok, MapKept.run_getObj_map hh]
            rw [MapKept.run_checkKey hd (isKey_of hk) _ 9999]
            simp only [Result.andThen_ok]
            rw [MapKept.run_findKey hd h2]
            simp only [Result.andThen_ok]
            rw [Sem.run_bind, MapKept.run_setObj_map _ hh]
            rfl
          · refine hm.change hg rfl rfl rfl rfl hr ⟨ces, clock, by simp [hlt], hst, hnd, hfd, es', ?_, hlen, hat⟩ (by simp) (fun c hc => by simp [Ne.symm hc])
            rw [← mapDel_none h3]; exact hpd
        · have hil : i < ces.size := (Array.getElem?_eq_some_iff.1 h3).1
          refine ⟨{ w with heap := w.heap.setIfInBounds l.blk (.map (ces.eraseIdxIfInBounds i) clock) }, ?_, ?_⟩
          · simp only [Builtin.delete_, ht]
            simp only [List.getElem?_toArray, List.getElem?_cons_zero, List.getElem?_cons_succ]
            simp only [Sem.run_bind, run_underlying hu, Result.andThen_ok, MapKept.run_getObj_map hh]
            rw [MapKept.run_checkKey hd (isKey_of hk) _ 9999]
            simp only [Result.andThen_ok]
            rw [MapKept.run_findKey hd h2]
            simp only [Result.andThen_ok]
            rw [Sem.run_bind, MapKept.run_setObj_map _ hh]
            rfl
          · have hsz : (ces.eraseIdxIfInBounds i).toList = ces.toList.eraseIdx i := by
              unfold Array.eraseIdxIfInBounds; rw [dif_pos hil]; simp
            refine hm.change hg rfl rfl rfl rfl hr ⟨ces.eraseIdxIfInBounds i, clock, by simp [hlt], hst.erase hsz, hnd, hfd, es'.eraseIdx i, ?_, ?_, fun j kv e' hj he => ?_⟩ (by simp) (fun c hc => by simp [Ne.symm hc])
            · rw [← mapDel_at hkf hn' h5]; exact hpd
            · rw [← Array.length_toList, hsz, List.length_eraseIdx, List.length_eraseIdx]; simp [hlen]
            · rw [← Array.getElem?_toList, hsz, List.getElem?_eraseIdx] at he
              rw [List.getElem?_eraseIdx] at hj
              split at hj
              · rename_i hji; rw [if_pos hji] at he; exact hat j kv e' hj (by simpa using he)
              · rename_i hji; rw [if_neg hji] at he; exact hat (j + 1) kv e' hj (by simpa using he)
      · cases h
    · cases h
  · cases h

theorem makeMap_sound {t : TypeId} {b nx : Nat} (hm : MRel P κ ρ σ w) (hb : Free ρ σ b nx) : Does P κ ρ b (Instr.makeMap t none) w (.map (some b)) (σ.put b nx (.map [])) := by
  have hle := Rho.le_add (⟨w.heap.size, 0, 0, 0⟩ : Loc) hb.map
  refine ⟨.map (some w.heap.size), { w with heap := w.heap.push (.map #[] 0) }, ρ.add b ⟨w.heap.size, 0, 0, 0⟩, rfl, hle, fun x hx => ρ.add_ne _ hx, .map (ρ.add_at b _), ?_⟩
  exact hm.put hb.get hb.map hb.le hb.lt rfl ⟨#[], 0, by simp, ⟨by simp, by simp⟩, by simp, by simp, [], by simp, by simp, fun i kv e h => by simp at h⟩

end Go.Ax

/- Every operation that calls nothing: what the model does is what the abstract one says. -/
namespace Go.Ax
open Go
variable {L : Type} {P : Program} {κ : Kappa} {ρ : Rho} {σ : AMem L} {w : World}

def okOperand : Operand → Bool
  | .const v => plain v
  | _ => true
def okOp (op : Op) : Bool := op.operands.toList.all okOperand

def FRel (ρ : Rho) (F : Fr) (a : Act) : Prop := ∀ i, VRel ρ (F i) (a.tmps.getD i undef)

theorem FRel.mono {ρ' : Rho} {F : Fr} {a : Act} (h : FRel ρ F a) (hρ : ρ.le ρ') : FRel ρ' F a := fun i => (h i).mono hρ

theorem eval_rel {F : Fr} {a : Act} (hF : FRel ρ F a) {x : Operand} (h : okOperand x = true) : VRel ρ (aEval F x) (a.eval x) := by
  cases x with
  | tmp t => exact hF t
  | const v => exact plain_rel ρ h
  | global g => exact .any _
  | func f => exact VRel.func_mk _ (.nil _) (.nil _)

/-- What an operation does: a value or nothing is left, the worlds fit. -/
def DoesOp (P : Program) (κ : Kappa) (ρ : Rho) (b : Nat) (s : Sem Next) (w : World) (v : Value) (σ' : AMem L) : Prop :=
  ∃ x v' w' ρ', s.run P w = .ok x w' ∧ (x = .value v' ∨ (x = .skip ∧ v' = undef)) ∧ ρ.le ρ' ∧ (∀ y, y ≠ b → ρ' y = ρ y) ∧ VRel ρ' v v' ∧ MRel P κ ρ' σ' w'

theorem Does.op {b : Nat} {s : Sem Value} {v : Value} {σ' : AMem L} (h : Does P κ ρ b s w v σ') : DoesOp P κ ρ b (do pure (.value (← s))) w v σ' := by
  obtain ⟨v', w', ρ', h1, h2, h3, h4, h5⟩ := h
  exact ⟨.value v', v', w', ρ', by simp [h1], .inl rfl, h2, h3, h4, h5⟩

theorem DoesOp.value {b : Nat} {v v' : Value} (hm : MRel P κ ρ σ w) (hv : VRel ρ v v') : DoesOp P κ ρ b (pure (.value v')) w v σ :=
  ⟨.value v', v', w, ρ, rfl, .inl rfl, ρ.le_refl, fun _ _ => rfl, hv, hm⟩

theorem DoesOp.read {b : Nat} {s : Sem Value} {v : Value} (hm : MRel P κ ρ σ w) (h : ∃ v', s.run P w = .ok v' w ∧ VRel ρ v v') : DoesOp P κ ρ b (do pure (.value (← s))) w v σ := by
  obtain ⟨v', h1, h2⟩ := h
  exact (Does.still hm h1 h2).op

theorem DoesOp.unit {b : Nat} {s : Sem Unit} {σ' : AMem L} (h : ∃ w', s.run P w = .ok () w' ∧ MRel P κ ρ σ' w') : DoesOp P κ ρ b (do s; pure .skip) w undef σ' := by
  obtain ⟨w', h1, h2⟩ := h
  exact ⟨.skip, undef, w', ρ, by simp [h1], .inr ⟨rfl, rfl⟩, ρ.le_refl, fun _ _ => rfl, .any _, h2⟩

theorem valued_some {v : Value} {o : Option Value} {σ' : AMem L} (h : valued σ o = some (v, σ')) : o = some v ∧ σ' = σ := by
  cases o with
  | none => cases h
  | some x => simp only [valued, Option.map_some, Option.some.injEq, Prod.mk.injEq] at h; exact ⟨by rw [h.1], h.2.symm⟩

theorem map_rel {F : Fr} {a : Act} (hF : FRel ρ F a) : ∀ (xs : List Operand), xs.all okOperand = true → LRel ρ (xs.map (aEval F)) (xs.map a.eval)
  | [], _ => .nil _
  | x :: xs, h => by
    simp only [List.all_cons, Bool.and_eq_true] at h
    exact .cons (eval_rel hF h.1) (map_rel hF xs h.2)

theorem optmap_rel {F : Fr} {a : Act} (hF : FRel ρ F a) {x : Option Operand} (h : ∀ y, x = some y → okOperand y = true) : OptRel ρ (x.map (aEval F)) (x.map a.eval) := by
  cases x with
  | none => trivial
  | some y => exact eval_rel hF (h y rfl)

theorem parts_rel {F : Fr} {a : Act} (hF : FRel ρ F a) (parts : Array (Nat × Operand)) (h : (parts.toList.map (·.2)).all okOperand = true) :
    PartsRel ρ (parts.toList.map fun (i, x) => (i, aEval F x)) (parts.map fun (i, x) => (i, a.eval x)).toList := by
  refine ⟨by simp [Function.comp_def], ?_⟩
  have := map_rel hF _ h
  simpa [Function.comp_def] using this

theorem run_builtin_call (f : Operand → Value) (dst : Option Tmp) (args : Array Operand) (argTypes : Array TypeId) (type : TypeId) (pos : String) (after : Array Edge) (guard : Option (Nat × Bool)) :
    ∃ consts : Array Bool, ∀ (bi : Builtin), (execOp f { dst := dst, op := .call { callee := .builtin bi, args := args, argTypes := argTypes }, type := type, pos := pos, after := after, guard := guard }).run P w = (builtin bi argTypes type consts (args.map f)).run P w := by
  refine ⟨?c, fun bi => ?_⟩
  rotate_left
  · simp only [execOp, resolve, invoke, Sem.run_bind, Sem.run_pure, Result.andThen_ok]
    rfl

set_option maxHeartbeats 1000000 in
theorem aOp_sound {o : Oper} {F : Fr} {a : Act} {b nx : Nat} {v : Value} {σ' : AMem L} (h : aOp P o.op F σ b nx = some (v, σ')) (hok : okOp o.op = true) (hF : FRel ρ F a) (hm : MRel P κ ρ σ w) (hb : Free ρ σ b nx) :
    DoesOp P κ ρ b (execOp a.eval o) w v σ' := by
  obtain ⟨dst, op, type, pos, after, guard⟩ := o
  simp only at h hok
  unfold okOp at hok
  unfold aOp at h
  split at h
  case h_1 x => -- move
    simp only [Option.some.injEq, Prod.mk.injEq] at h; obtain ⟨rfl, rfl⟩ := h
    simp only [Op.operands, List.all_cons, Bool.and_eq_true] at hok
    exact DoesOp.value hm (eval_rel hF hok.1)
  case h_2 x => -- assign
    simp only [Option.some.injEq, Prod.mk.injEq] at h; obtain ⟨rfl, rfl⟩ := h
    simp only [Op.operands, List.all_cons, Bool.and_eq_true] at hok
    exact DoesOp.value hm (eval_rel hF hok.1)
  case h_3 c x y => -- pick
    simp only [Op.operands, List.all_cons, Bool.and_eq_true] at hok
    split at h
    · rename_i t hc
      simp only [Option.some.injEq, Prod.mk.injEq] at h; obtain ⟨rfl, rfl⟩ := h
      have hcv := eval_rel hF hok.1
      rw [hc] at hcv
      have hcb := hcv.bool_inv
      refine ⟨.value (if t then a.eval x else a.eval y), _, w, ρ, ?_, .inl rfl, ρ.le_refl, fun _ _ => rfl, ?_, hm⟩
      · simp [execOp, hcb, asBool]
      · cases t
        · exact eval_rel hF hok.2.2.1
        · exact eval_rel hF hok.2.1
    · cases h
  case h_4 e => -- alloc
    split at h
    · rename_i z n hz hs
      split at h
      · rename_i hf
        simp only [Option.some.injEq, Prod.mk.injEq] at h; obtain ⟨rfl, rfl⟩ := h
        exact (alloc_sound hm hb hz hs (by simpa using hf)).op
      · cases h
    · cases h
  case h_5 e x => -- box
    simp only [Op.operands, List.all_cons, Bool.and_eq_true] at hok
    split at h
    · rename_i cs n hc hs
      simp only [Option.some.injEq, Prod.mk.injEq] at h; obtain ⟨rfl, rfl⟩ := h
      exact (box_sound hm hb hc hs (eval_rel hF hok.1)).op
    · cases h
  case h_6 t parts => -- build
    obtain ⟨h2, rfl⟩ := valued_some h
    exact DoesOp.read hm (build_sound h2 (parts_rel hF parts (by simpa [Op.operands] using hok)))
  case h_7 t len parts => -- buildSlice
    exact (buildSlice_sound hm hb h (parts_rel hF parts (by simpa [Op.operands] using hok))).op
  case h_8 t x => -- load
    simp only [Op.operands, List.all_cons, Bool.and_eq_true] at hok
    split at h
    · rename_i c off hx
      obtain ⟨h2, rfl⟩ := valued_some h
      have hv := eval_rel hF hok.1
      rw [hx] at hv
      obtain ⟨l, hl, _, he⟩ := hv.ptr_inv
      have := load_sound hm h2 hl
      refine DoesOp.read hm ?_
      rw [he]; exact this
    · cases h
  case h_9 t x y => -- store
    simp only [Op.operands, List.all_cons, Bool.and_eq_true] at hok
    split at h
    · rename_i c off hx
      have hv := eval_rel hF hok.1
      rw [hx] at hv
      obtain ⟨l, hl, _, he⟩ := hv.ptr_inv
      cases hs : aStore P t c off (aEval F y) σ with
      | none => rw [hs] at h; cases h
      | some σ2 =>
        rw [hs] at h
        simp only [silent, Option.map_some, Option.some.injEq, Prod.mk.injEq] at h; obtain ⟨rfl, rfl⟩ := h
        obtain ⟨w', h1, h2, _⟩ := store_sound hm hs hl (eval_rel hF hok.2.1)
        refine DoesOp.unit ⟨w', ?_, h2⟩
        rw [he]; exact h1
    · cases h
  case h_10 x => -- nilCheck
    simp only [Op.operands, List.all_cons, Bool.and_eq_true] at hok
    have hv := eval_rel hF hok.1
    split at h
    · rename_i ad hx
      simp only [Option.some.injEq, Prod.mk.injEq] at h; obtain ⟨rfl, rfl⟩ := h
      rw [hx] at hv
      obtain ⟨l, hl, hs, he⟩ := hv.ptr_inv
      refine ⟨.value (a.eval x), a.eval x, w, ρ, ?_, .inl rfl, ρ.le_refl, fun _ _ => rfl, hv, hm⟩
      simp [execOp, he]
    · rename_i f xs us hx
      simp only [Option.some.injEq, Prod.mk.injEq] at h; obtain ⟨rfl, rfl⟩ := h
      rw [hx] at hv
      obtain ⟨ys, vs, he, _, _⟩ := hv.func_inv
      refine ⟨.value (a.eval x), a.eval x, w, ρ, ?_, .inl rfl, ρ.le_refl, fun _ _ => rfl, hv, hm⟩
      simp [execOp, he]
    · cases h
  case h_11 op t x y u => -- binOp
    simp only [Op.operands, List.all_cons, Bool.and_eq_true] at hok
    obtain ⟨h2, rfl⟩ := valued_some h
    have hgen := fun (h2 : aBin P op t (aEval F x) (aEval F y) = some v) => And.intro (bin_sound (w := w) h2 (eval_rel hF hok.1) (eval_rel hF hok.2.1) x y) (aBin_self (ρ := ρ) h2)
    unfold aBinO at h2
    split at h2
    · rename_i hc
      simp only [Bool.and_eq_true] at hc
      obtain ⟨⟨c1, c2⟩, c3⟩ := hc
      obtain ⟨e, he, rfl⟩ := Option.map_eq_some_iff.1 h2
      have hy : y = .const .nilIface := by unfold isNilWord at c1; split at c1; rfl; cases c1
      have hx : aEval F x = .nilIface := by unfold isNilV at c2; split at c2; assumption; cases c2
      obtain ⟨ms, hu⟩ : ∃ ms, P.underlying t = some (.interface ms) := by unfold isIfaceT at c3; split at c3; exact ⟨_, by assumption⟩; cases c3
      subst hy
      have hv := eval_rel hF hok.1
      rw [hx] at hv
      have hxe : a.eval x = .nilIface := by generalize a.eval x = z at hv; cases hv; rfl
      have hye : a.eval (.const .nilIface) = .nilIface := rfl
      refine DoesOp.read hm ⟨.bool e, ?_, .bool e⟩
      have hg : (eqGuard op t x (.const .nilIface) .nilIface .nilIface).run P w = .ok () w := by cases op <;> simp [eqGuard]
      have heq : (Op.equal t .nilIface .nilIface).run P w = .ok true w := eq_base fun d => by rw [Op.equalIn, Sem.run_bind, run_underlying hu]; rfl
      have hs1 : binOp .eql t .nilIface .nilIface = (do pure (.bool (← Op.equal t .nilIface .nilIface))) := rfl
      have hs2 : binOp .neq t .nilIface .nilIface = (do pure (.bool (!(← Op.equal t .nilIface .nilIface)))) := rfl
      simp only [hxe, hye, Sem.run_bind, hg, Result.andThen_ok]
      cases op <;> simp only [isEq, Option.some.injEq, reduceCtorEq] at he
      · subst he; rw [hs1]; simp only [Sem.run_bind, heq, Result.andThen_ok, Sem.run_pure]
      · subst he; rw [hs2]; simp only [Sem.run_bind, heq, Result.andThen_ok, Sem.run_pure]; rfl
    · split at h2
      · obtain ⟨e, he, h3⟩ := Option.bind_eq_some_iff.1 h2
        obtain ⟨r, hr, rfl⟩ := Option.map_eq_some_iff.1 h3
        obtain ⟨k1, k2, k3, k4⟩ := eqStruct_sound (w := w) hr (eval_rel hF hok.1) (eval_rel hF hok.2.1)
        refine DoesOp.read hm ⟨.bool (if e then r else !r), ?_, .bool _⟩
        simp only [Sem.run_bind, k2, Result.andThen_ok]
        cases op <;> simp only [isEq, Option.some.injEq, reduceCtorEq] at he
        · subst he; rw [k3]; simp only [Sem.run_bind, k1, Result.andThen_ok, Sem.run_pure]; rfl
        · subst he; rw [k4]; simp only [Sem.run_bind, k1, Result.andThen_ok, Sem.run_pure]; rfl
      · exact DoesOp.read hm ⟨v, hgen h2⟩
  case h_12 op t x => -- unOp
    simp only [Op.operands, List.all_cons, Bool.and_eq_true] at hok
    obtain ⟨h2, rfl⟩ := valued_some h
    exact DoesOp.read hm ⟨v, un_sound h2 (eval_rel hF hok.1)⟩
  case h_13 s d x => -- convert
    simp only [Op.operands, List.all_cons, Bool.and_eq_true] at hok
    exact (conv_sound hm hb h (eval_rel hF hok.1)).op
  case h_14 fn xs us => -- makeFunc
    simp only [Option.some.injEq, Prod.mk.injEq] at h; obtain ⟨rfl, rfl⟩ := h
    simp only [Op.operands, Array.toList_append, List.all_append, Bool.and_eq_true] at hok
    refine ⟨.value (.func fn (xs.map a.eval) (us.map a.eval)), _, w, ρ, rfl, .inl rfl, ρ.le_refl, fun _ _ => rfl, VRel.func_mk _ ?_ ?_, hm⟩
    · simpa using map_rel hF _ hok.1
    · simpa using map_rel hF _ hok.2
  case h_15 t => -- makeMap
    simp only [Option.some.injEq, Prod.mk.injEq] at h; obtain ⟨rfl, rfl⟩ := h
    exact (makeMap_sound (t := t) hm hb).op
  case h_16 t l c => -- makeSlice
    simp only [Op.operands, List.all_cons, Bool.and_eq_true] at hok
    exact (makeSlice_sound hm hb h (eval_rel hF hok.1) (eval_rel hF hok.2.1)).op
  case h_17 t x lo hi => -- slice
    obtain ⟨h2, rfl⟩ := valued_some h
    have hx : okOperand x = true := by
      cases lo <;> cases hi <;> simp [Op.operands] at hok <;> first | exact hok | exact hok.1
    have hlo : ∀ y, lo = some y → okOperand y = true := by
      intro y hy; subst hy
      cases hi <;> simp [Op.operands] at hok <;> first | exact hok.2 | exact hok.2.1
    have hhi : ∀ y, hi = some y → okOperand y = true := by
      intro y hy; subst hy
      cases lo <;> simp [Op.operands] at hok <;> first | exact hok.2 | exact hok.2.2
    exact DoesOp.read hm (slice_sound hm h2 (eval_rel hF hx) (optmap_rel hF hlo) (optmap_rel hF hhi))
  case h_18 t x f => -- fieldAddr
    simp only [Op.operands, List.all_cons, Bool.and_eq_true] at hok
    obtain ⟨h2, rfl⟩ := valued_some h
    exact DoesOp.read hm (fieldAddr_sound h2 (eval_rel hF hok.1))
  case h_19 t x f => -- field
    simp only [Op.operands, List.all_cons, Bool.and_eq_true] at hok
    obtain ⟨h2, rfl⟩ := valued_some h
    exact DoesOp.read hm (field_sound h2 (eval_rel hF hok.1))
  case h_20 t x i => -- indexAddr
    simp only [Op.operands, List.all_cons, Bool.and_eq_true] at hok
    obtain ⟨h2, rfl⟩ := valued_some h
    exact DoesOp.read hm (indexAddr_sound h2 (eval_rel hF hok.1) (eval_rel hF hok.2.1))
  case h_21 t x i => -- index
    simp only [Op.operands, List.all_cons, Bool.and_eq_true] at hok
    obtain ⟨h2, rfl⟩ := valued_some h
    exact DoesOp.read hm (index_sound h2 (eval_rel hF hok.1) (eval_rel hF hok.2.1))
  case h_22 t m k ok => -- lookup
    simp only [Op.operands, List.all_cons, Bool.and_eq_true] at hok
    obtain ⟨h2, rfl⟩ := valued_some h
    exact DoesOp.read hm (lookup_sound hm h2 (eval_rel hF hok.1) (eval_rel hF hok.2.1))
  case h_23 t m k x => -- mapUpdate
    simp only [Op.operands, List.all_cons, Bool.and_eq_true] at hok
    cases hs : aMapUpdate P t (aEval F m) (aEval F k) (aEval F x) σ with
    | none => rw [hs] at h; cases h
    | some σ2 =>
      rw [hs] at h
      simp only [silent, Option.map_some, Option.some.injEq, Prod.mk.injEq] at h; obtain ⟨rfl, rfl⟩ := h
      exact DoesOp.unit (update_sound hm hs (eval_rel hF hok.1) (eval_rel hF hok.2.1) (eval_rel hF hok.2.2.1))
  case h_24 x i => -- extract
    simp only [Op.operands, List.all_cons, Bool.and_eq_true] at hok
    split at h
    · rename_i vs hx
      obtain ⟨h2, rfl⟩ := valued_some h
      have hv := eval_rel hF hok.1
      rw [hx] at hv
      cases hv' : a.eval x with
      | tuple ys =>
        rw [hv'] at hv
        by_cases h0 : vs = #[]
        · subst h0; simp at h2
        · have hr : LRel ρ vs.toList ys.toList := by
            cases hv with
            | any => simp at h0
            | tuple h1 h2 => exact arr_rel_iff.1 ⟨h1, h2⟩
          obtain ⟨y, hy, hvy⟩ := hr.get (i := i) (by simpa using h2)
          refine DoesOp.read hm ⟨y, ?_, hvy⟩
          have hy' : ys[i]? = some y := by simpa using hy
          simp [hv', Instr.extract, hy']
      | _ =>
        rw [hv'] at hv
        cases hv
        simp at h2
    · cases h
  case h_25 bi args argTypes => -- builtins
    have hargs : args.toList.all okOperand = true := by simpa [Op.operands, Call.operands] using hok
    obtain ⟨consts, hres⟩ := run_builtin_call (P := P) (w := w) a.eval dst args argTypes type pos after guard
    unfold DoesOp
    rw [hres]
    have hl : LRel ρ (args.toList.map (aEval F)) (args.toList.map a.eval) := map_rel hF _ hargs
    have hmap : ∀ l, args.toList.map a.eval = l → args.map a.eval = l.toArray := by intro l hl; subst hl; apply Array.ext'; simp
    have harr : ∀ l, argTypes.toList = l → argTypes = l.toArray := by intro l hl; subst hl; rfl
    have one : ∀ {x l}, LRel ρ [x] l → ∃ x', l = [x'] ∧ VRel ρ x x' := fun h => by
      obtain ⟨y, ys, rfl, h1, h2⟩ := h.uncons
      exact ⟨y, by rw [h2.nil_left], h1⟩
    have two : ∀ {x y l}, LRel ρ [x, y] l → ∃ x' y', l = [x', y'] ∧ VRel ρ x x' ∧ VRel ρ y y' := fun h => by
      obtain ⟨u, us, rfl, h1, h2⟩ := h.uncons
      obtain ⟨y', rfl, h3⟩ := one h2
      exact ⟨u, y', rfl, h1, h3⟩
    unfold aBuiltin at h
    split at h
    · rename_i x t h1 h2
      rw [h1] at hl
      obtain ⟨x', hx, hv⟩ := one hl
      rw [hmap _ hx, harr _ h2]
      obtain ⟨h3, rfl⟩ := valued_some h
      have := len_sound (ty := type) hm h3 hv
      exact (DoesOp.read hm ⟨v, this.1, this.2⟩ : DoesOp P κ ρ b _ w v σ')
    · rename_i s x t tx h1 h2
      rw [h1] at hl
      obtain ⟨s', x', hx, hv1, hv2⟩ := two hl
      rw [hmap _ hx, harr _ h2]
      split at h
      · rename_i kn hkn
        exact (appendZ_sound (ty := type) hm hb hkn h hv1 hv2).op
      · exact (append_sound (ty := type) hm hb h hv1 hv2).op
    · rename_i d s t ts h1 h2
      rw [h1] at hl
      obtain ⟨s', x', hx, hv1, hv2⟩ := two hl
      rw [hmap _ hx, harr _ h2]
      split at h
      · rename_i v1 hc
        simp only [Option.some.injEq, Prod.mk.injEq] at h; obtain ⟨rfl, rfl⟩ := h
        have := copyN_sound (ty := type) (w := w) (ts := (t :: ts).toArray) hc hv1 hv2 (by simp)
        exact (DoesOp.read hm ⟨v1, this.1, this.2⟩ : DoesOp P κ ρ b _ w v1 σ)
      · exact (copy_sound (ty := type) hm h hv1 hv2 b (by simp)).op
    · rename_i m k t ts h1 h2
      rw [h1] at hl
      obtain ⟨m', k', hx, hv1, hv2⟩ := two hl
      rw [hmap _ hx, harr _ h2]
      cases hs : aDelete P t m k σ with
      | none => rw [hs] at h; cases h
      | some σ2 =>
        rw [hs] at h
        simp only [silent, Option.map_some, Option.some.injEq, Prod.mk.injEq] at h; obtain ⟨rfl, rfl⟩ := h
        obtain ⟨w', h3, h4⟩ := delete_sound (ty := type) (ts := (t :: ts).toArray) hm (by simp) hs hv1 hv2
        have hd : Does P κ ρ b (Builtin.delete_ (t :: ts).toArray type #[m', k']) w undef σ2 := ⟨.tuple #[], w', ρ, h3, ρ.le_refl, fun _ _ => rfl, .any _, h4⟩
        exact hd.op
    · rename_i x y h1
      rw [h1] at hl
      obtain ⟨x', y', hx, hv1, hv2⟩ := two hl
      rw [hmap _ hx]
      obtain ⟨h3, rfl⟩ := valued_some h
      have := min_sound (P := P) (w := w) (ty := type) (ts := argTypes) h3 hv1 hv2
      exact (DoesOp.read hm ⟨v, this.1, this.2⟩ : DoesOp P κ ρ b _ w v σ')
    · rename_i x y h1
      rw [h1] at hl
      obtain ⟨x', y', hx, hv1, hv2⟩ := two hl
      rw [hmap _ hx]
      obtain ⟨h3, rfl⟩ := valued_some h
      have := max_sound (P := P) (w := w) (ty := type) (ts := argTypes) h3 hv1 hv2
      exact (DoesOp.read hm ⟨v, this.1, this.2⟩ : DoesOp P κ ρ b _ w v σ')
    · rename_i x t h1 h2
      rw [h1] at hl
      obtain ⟨x', hx, hv⟩ := one hl
      rw [hmap _ hx, harr _ h2]
      obtain ⟨h3, rfl⟩ := valued_some h
      have := cap_sound (ty := type) (w := w) h3 hv
      exact (DoesOp.read hm ⟨v, this.1, this.2⟩ : DoesOp P κ ρ b _ w v σ')
    · cases h
  case h_26 => cases h

end Go.Ax

/- What an operation may turn in abstract memory. -/
namespace Go.Ax
open Go
variable {L : Type} {P : Program} {σ σ' : AMem L}

def SameLogic (σ σ' : AMem L) : Prop := ∀ b x, σ'.get b = some (.logic x) ↔ σ.get b = some (.logic x)
theorem SameLogic.refl (σ : AMem L) : SameLogic σ σ := fun _ _ => Iff.rfl
theorem SameLogic.trans {a b c : AMem L} (h : SameLogic a b) (k : SameLogic b c) : SameLogic a c := fun x y => (k x y).trans (h x y)

inductive Turn (σ : AMem L) (b nx : Nat) : AMem L → Prop where
  | same : Turn σ b nx σ
  | put (o : AObj L) (h : o.isLogic = false) : Turn σ b nx (σ.put b nx o)
  | set (c : Nat) (o o' : AObj L) (h1 : σ.get c = some o) (h2 : o.isLogic = false) (h3 : o'.isLogic = false) : Turn σ b nx (σ.set c o')
  | move (c : Nat) (o o' : AObj L) (h1 : σ.get c = some o) (h2 : o.isLogic = false) (h3 : o'.isLogic = false) : Turn σ b nx ((σ.kill c).put b nx o')

theorem Turn.logic {b nx : Nat} (h : Turn σ b nx σ') (hb : σ.get b = none) : SameLogic σ σ' := by
  intro x y
  cases h with
  | same => exact Iff.rfl
  | put o h =>
    rw [AMem.get_put]; split
    · rename_i e; subst e; rw [hb]; constructor
      · intro hh; cases hh; cases h
      · intro hh; cases hh
    · exact Iff.rfl
  | set c o o' h1 h2 h3 =>
    rw [AMem.get_set]; split
    · rename_i e; subst e; rw [h1]; constructor
      · intro hh; cases hh; cases h3
      · intro hh; cases hh; cases h2
    · exact Iff.rfl
  | move c o o' h1 h2 h3 =>
    rw [AMem.get_put]; split
    · rename_i e; subst e; rw [hb]; constructor
      · intro hh; cases hh; cases h3
      · intro hh; cases hh
    · rw [AMem.get_kill]; split
      · rename_i e; subst e; rw [h1]; constructor
        · intro hh; cases hh
        · intro hh; cases hh; cases h2
      · exact Iff.rfl

theorem Turn.next {b nx : Nat} (h : Turn σ b nx σ') : σ'.next = σ.next ∨ σ'.next = nx := by
  cases h <;> first | exact .inl rfl | exact .inr rfl

theorem Turn.get {b nx : Nat} (h : Turn σ b nx σ') {x : Nat} (hx : σ.get x = none) (hxb : x ≠ b) : σ'.get x = none := by
  cases h with
  | same => exact hx
  | put o h => rw [AMem.get_put, if_neg hxb]; exact hx
  | set c o o' h1 h2 h3 => rw [AMem.get_set]; split; · rename_i e; subst e; rw [hx] at h1; cases h1
                           · exact hx
  | move c o o' h1 h2 h3 => rw [AMem.get_put, if_neg hxb, AMem.get_kill]; split; · rfl
                            · exact hx

theorem aStore_turn {t b off : Nat} {v : Value} {c nx : Nat} (h : aStore P t b off v σ = some σ') : Turn σ c nx σ' := by
  unfold aStore at h
  split at h
  · rename_i hg _ _
    split at h
    · simp only [Option.some.injEq] at h; subst h; exact .set _ _ _ hg rfl rfl
    · cases h
  · cases h

theorem aOp_turn {op : Op} {F : Fr} {b nx : Nat} {v : Value} (h : aOp P op F σ b nx = some (v, σ')) : Turn σ b nx σ' := by
  have hval : ∀ {x : Option Value}, valued σ x = some (v, σ') → Turn σ b nx σ' := fun h => by obtain ⟨_, rfl⟩ := valued_some h; exact .same
  unfold aOp at h
  split at h
  case h_1 => simp only [Option.some.injEq, Prod.mk.injEq] at h; obtain ⟨_, rfl⟩ := h; exact .same
  case h_2 => simp only [Option.some.injEq, Prod.mk.injEq] at h; obtain ⟨_, rfl⟩ := h; exact .same
  case h_3 => split at h
              · simp only [Option.some.injEq, Prod.mk.injEq] at h; obtain ⟨_, rfl⟩ := h; exact .same
              · cases h
  case h_4 => split at h
              · split at h
                · simp only [Option.some.injEq, Prod.mk.injEq] at h; obtain ⟨_, rfl⟩ := h; exact .put _ rfl
                · cases h
              · cases h
  case h_5 => split at h
              · simp only [Option.some.injEq, Prod.mk.injEq] at h; obtain ⟨_, rfl⟩ := h; exact .put _ rfl
              · cases h
  case h_6 => exact hval h
  case h_7 =>
    unfold aBuildSlice at h
    split at h
    · split at h
      · split at h
        · cases h
        · split at h
          · simp only [Option.some.injEq, Prod.mk.injEq] at h; obtain ⟨_, rfl⟩ := h; exact .put _ rfl
          · cases h
      · cases h
    · cases h
  case h_8 => split at h
              · exact hval h
              · cases h
  case h_9 => split at h
              · rename_i c off _
                generalize hs : aStore P _ c off _ σ = r at h
                cases r with
                | none => cases h
                | some σ2 =>
                  simp only [silent, Option.map_some, Option.some.injEq, Prod.mk.injEq] at h; obtain ⟨_, rfl⟩ := h
                  exact aStore_turn hs
              · cases h
  case h_10 => split at h
               · simp only [Option.some.injEq, Prod.mk.injEq] at h; obtain ⟨_, rfl⟩ := h; exact .same
               · simp only [Option.some.injEq, Prod.mk.injEq] at h; obtain ⟨_, rfl⟩ := h; exact .same
               · cases h
  case h_11 => exact hval h
  case h_12 => exact hval h
  case h_13 =>
    unfold aConv at h
    split at h
    · simp only [Option.some.injEq, Prod.mk.injEq] at h; obtain ⟨_, rfl⟩ := h; exact .same
    · simp only [Option.some.injEq, Prod.mk.injEq] at h; obtain ⟨_, rfl⟩ := h; exact .same
    · split at h
      · simp only [Option.some.injEq, Prod.mk.injEq] at h; obtain ⟨_, rfl⟩ := h; exact .put _ rfl
      · cases h
    · split at h
      · simp only [Option.some.injEq, Prod.mk.injEq] at h; obtain ⟨_, rfl⟩ := h; exact .same
      · cases h
    · cases h
  case h_14 => simp only [Option.some.injEq, Prod.mk.injEq] at h; obtain ⟨_, rfl⟩ := h; exact .same
  case h_15 => simp only [Option.some.injEq, Prod.mk.injEq] at h; obtain ⟨_, rfl⟩ := h; exact .put _ rfl
  case h_16 =>
    unfold aMakeSlice at h
    split at h
    · split at h
      · split at h
        · cases h
        · split at h
          · simp only [Option.some.injEq, Prod.mk.injEq] at h; obtain ⟨_, rfl⟩ := h; exact .put _ rfl
          · cases h
      · cases h
    · cases h
  case h_17 => exact hval h
  case h_18 => exact hval h
  case h_19 => exact hval h
  case h_20 => exact hval h
  case h_21 => exact hval h
  case h_22 => exact hval h
  case h_23 t m k x =>
    generalize hs : aMapUpdate P t (aEval F m) (aEval F k) (aEval F x) σ = r at h
    cases r with
    | none => cases h
    | some σ2 =>
      simp only [silent, Option.map_some, Option.some.injEq, Prod.mk.injEq] at h; obtain ⟨_, rfl⟩ := h
      unfold aMapUpdate at hs
      split at hs
      · split at hs
        · rename_i hg
          split at hs
          · simp only [Option.some.injEq] at hs; subst hs; exact .set _ _ _ hg rfl rfl
          · cases hs
        · cases hs
      · cases hs
  case h_24 => split at h
               · exact hval h
               · cases h
  case h_25 =>
    unfold aBuiltin at h
    split at h
    · exact hval h
    · split at h
      · unfold aAppendZ at h
        split at h
        · split at h
          · split at h
            · cases h
            · split at h
              · simp only [Option.some.injEq, Prod.mk.injEq] at h; obtain ⟨_, rfl⟩ := h; exact .put _ rfl
              · cases h
          · cases h
        · cases h
      unfold aAppend at h
      split at h
      · split at h
        · split at h
          · split at h
            · cases h
            · split at h
              · split at h
                · simp only [Option.some.injEq, Prod.mk.injEq] at h; obtain ⟨_, rfl⟩ := h; exact .same
                · simp only [Option.some.injEq, Prod.mk.injEq] at h; obtain ⟨_, rfl⟩ := h; exact .put _ rfl
              · split at h
                · simp only [Option.some.injEq, Prod.mk.injEq] at h; obtain ⟨_, rfl⟩ := h; exact .same
                · split at h
                  · rename_i hg
                    split at h
                    · simp only [Option.some.injEq, Prod.mk.injEq] at h; obtain ⟨_, rfl⟩ := h; exact .move _ _ _ hg rfl rfl
                    · cases h
                  · cases h
              · cases h
          · cases h
        · cases h
      · cases h
    · split at h
      · simp only [Option.some.injEq, Prod.mk.injEq] at h; obtain ⟨_, rfl⟩ := h; exact .same
      unfold aCopy at h
      split at h
      · split at h
        · split at h
          · rename_i hg _
            split at h
            · cases h
            · simp only [Option.some.injEq, Prod.mk.injEq] at h; obtain ⟨_, rfl⟩ := h; exact .set _ _ _ hg rfl rfl
          · cases h
        · cases h
      · cases h
    · rename_i m k t ts _ _
      generalize hs : aDelete P t m k σ = r at h
      cases r with
      | none => cases h
      | some σ2 =>
        simp only [silent, Option.map_some, Option.some.injEq, Prod.mk.injEq] at h; obtain ⟨_, rfl⟩ := h
        unfold aDelete at hs
        split at hs
        · split at hs
          · rename_i hg
            split at hs
            · simp only [Option.some.injEq] at hs; subst hs; exact .set _ _ _ hg rfl rfl
            · cases hs
          · cases hs
        · cases hs
    · exact hval h
    · exact hval h
    · exact hval h
    · cases h
  case h_26 => cases h

end Go.Ax
