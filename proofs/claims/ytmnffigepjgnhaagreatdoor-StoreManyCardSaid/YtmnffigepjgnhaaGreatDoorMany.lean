/- The law of so many snapshots: the runs. -/
import Derived.Test.YtmnffigepjgnhaaGreatDoorNatDelete
import Derived.Test.YtmnffigepjgnhaaGreatDoorNatAwake
import Derived.Test.YtmnffigepjgnhaaGreatDoorAxF
set_option linter.unusedVariables false
set_option linter.unusedSimpArgs false
namespace Go.Proofs
open Go Go.Ax Go.RowKit
set_option maxRecDepth 1000000

def natDelete (args : List Value) (m : CMem Empty) : Option (Value × CMem Empty) :=
  match args with
  | [.slice (some ⟨b, off, none⟩) n n', .int .i64 (.ofNat i), .int .i64 (.ofNat j)] => match m.tr.get b with
    | some (.cells vs e false) => match Nat.beq n n' && Nat.beq e 95 && Nat.ble (off + n * 2) vs.length && Nat.blt i j && Nat.ble j n && Nat.blt n 1000000 && oneCells ((vs.drop (off + j * 2)).take ((n - j) * 2)) with
      | true => forceN (i + (n - j)) fun k => forceL (setAt (setAt vs (off + i * 2) ((vs.drop (off + j * 2)).take ((n - j) * 2))) (off + (i + (n - j)) * 2) (zeroSnaps (n - (i + (n - j))))) fun cs =>
          Tr.forceT (m.tr.set b (some (.cells cs e false))) fun t => some (.slice (some ⟨b, off, none⟩) k k, ⟨m.next, t⟩)
      | false => none
    | _ => none
  | _ => none
def natAwake (args : List Value) (m : CMem Empty) : Option (Value × CMem Empty) :=
  match args with
  | [] => some (.bool true, m)
  | _ => none

def nat2 : Natives Empty := fun f => match f with
  | 122 => some (pureNat natFrom)
  | 123 => some (pureNat natBits)
  | 183 => some (pureNat natCmp)
  | 80 => some natSize
  | 141 => some natCopied
  | 28 => some natSorted
  | 33 => some natDelete
  | 5 => some natAwake
  | _ => none

theorem szSnap : szOf PP 95 = some 2 := by kernel_rfl

theorem delete_law (xs : List Value) (σ : AMem Empty) (K : Value → AMem Empty → Prop) (h : runSpec (fun _ args m => natDelete args m) 0 xs σ K) : callDelete (L := Empty) DF xs σ K := by
  obtain ⟨m, v, m', rfl, h, hK⟩ := h
  simp only at h
  unfold natDelete at h
  split at h
  · rename_i b off n n' i j
    split at h
    · rename_i vs e hg
      split at h
      · rename_i hb
        simp only [Bool.and_eq_true, Nat.beq_eq, Nat.blt_eq] at hb
        obtain ⟨⟨⟨⟨⟨⟨rfl, rfl⟩, h1⟩, h2⟩, h3⟩, h4⟩, h5⟩ := hb
        rw [forceN_eq, forceL_eq, Tr.forceT_eq] at h
        cases h
        refine ⟨rfl, b, off, n, i, j, vs, _, rfl, hg, szSnap, Nat.le_of_ble_eq_true h1, h2, Nat.le_of_ble_eq_true h3, h4, h5, ?_⟩
        have e : ∀ A B : AObj Empty, ((m.abs.set b A).set b B) = (⟨m.next, m.tr.set b (some B)⟩ : CMem Empty).abs := fun A B => amem_ext rfl fun x => by
          rw [AMem.get_set, AMem.get_set]
          refine Eq.trans ?_ (Tr.get_set m.tr b x (some B)).symm
          by_cases hx : x = b
          · rw [if_pos hx, if_pos hx]
          · rw [if_neg hx, if_neg hx, if_neg hx]; rfl
        rw [e]
        exact hK
      · cases h
    · cases h
  · cases h

theorem sim_nat2 (rel : Rel PP Empty) : Sim rel (runSpec fun f args m => (nat2 f).bind fun g => g args m) := by
  refine (((sim_nat1 rel).or (sim_delete rel)).or (sim_awake rel)).weaken fun g args σ K h => ?_
  obtain ⟨m, v, m', rfl, h, hK⟩ := h
  obtain ⟨gg, h1, h2⟩ := Option.bind_eq_some_iff.1 h
  unfold nat2 at h1
  split at h1
  · cases h1; exact .inl (.inl ⟨m, v, m', rfl, h2, hK⟩)
  · cases h1; exact .inl (.inl ⟨m, v, m', rfl, h2, hK⟩)
  · cases h1; exact .inl (.inl ⟨m, v, m', rfl, h2, hK⟩)
  · cases h1; exact .inl (.inl ⟨m, v, m', rfl, h2, hK⟩)
  · cases h1; exact .inl (.inl ⟨m, v, m', rfl, h2, hK⟩)
  · cases h1; exact .inl (.inl ⟨m, v, m', rfl, h2, hK⟩)
  · cases h1; exact .inl (.inr (delete_law args m.abs K ⟨m, v, m', rfl, h2, hK⟩))
  · cases h1
    unfold natAwake at h2
    split at h2
    · cases h2; exact .inr ⟨⟨rfl, rfl⟩, hK⟩
    · cases h2
  · cases h1

noncomputable abbrev run2 (n : Nat) : CCall Empty := crun PP tab.get nat2 1000 n
theorem sim_run2 (rel : Rel PP Empty) (n : Nat) : Sim rel (runSpec (run2 n)) := crun_sim mixed tab_good (sim_nat2 rel) n

/-! The law's own code: what comes ahead of its argument; what comes behind. Told of any runner, so that nothing is reckoned on the way. -/
def sl : Code → Code
  | .seq a _ => a
  | c => c
def sr : Code → Code
  | .seq _ b => b
  | c => c

/-- So many pieces, one behind another. -/
def runSeq (P : Program) (run : CCall Empty) (plans : Plans) : Nat → Code → Tr Value → CMem Empty → Option (Code × Tr Value × CMem Empty)
  | 0, c, F, m => some (c, F, m)
  | k + 1, c, F, m => match c with
    | .seq a b => (match cCode P run plans 1000 a F m with
      | some (.normal, F', m') => runSeq P run plans k b F' m'
      | _ => none)
    | _ => none

theorem runSeq_sound {P : Program} {run : CCall Empty} {plans : Plans} {Q : Exit → Fr → AMem Empty → Prop} : ∀ (k : Nat) (c : Code) (F : Tr Value) (m : CMem Empty) (c' : Code) (F' : Tr Value) (m' : CMem Empty), runSeq P run plans k c F m = some (c', F', m') →
    aCode P (runSpec run) plans c' Q (absF F') m'.abs → aCode P (runSpec run) plans c Q (absF F) m.abs
  | 0, c, F, m, c', F', m', h, hq => by cases h; exact hq
  | k + 1, c, F, m, c', F', m', h, hq => by
    unfold runSeq at h
    split at h
    · rename_i a b
      split at h
      · rename_i F1 m1 hc
        have := runSeq_sound k b F1 m1 c' F' m' h hq
        unfold aCode
        exact cCode_sound (fun g xs m v m' h K hK => ⟨m, v, m', rfl, h, hK⟩) _ _ _ _ _ _ _ hc this
      · cases h
    · cases h

abbrev regM : Code := (Code.region 11 #[{ dst := some 43, op := Op.move (Operand.tmp 3), type := 33, pos := "law.go:180", after := #[], guard := none }, { dst := some 44, op := Op.move (Operand.tmp 0), type := 5, pos := "law.go:180", after := #[], guard := none }, { dst := some 45, op := Op.convert 5 3 (Operand.tmp 44), type := 3, pos := "law.go:180", after := #[{ on := 1, ground := Ground.data }], guard := none }, { dst := some 46, op := Op.binOp Go.BinOp.rem 3 (Operand.tmp 45) (Operand.const (.int Go.IntKind.i64 (16))) 3, type := 3, pos := "law.go:180", after := #[{ on := 2, ground := Ground.data }], guard := none }, { dst := some 47, op := Op.binOp Go.BinOp.add 3 (Operand.const (.int Go.IntKind.i64 (1))) (Operand.tmp 46) 3, type := 3, pos := "law.go:180", after := #[{ on := 3, ground := Ground.data }], guard := none }, { dst := some 48, op := Op.call { callee := Callee.value (Operand.func 15), args := #[(Operand.tmp 43), (Operand.tmp 47)], argTypes := #[33, 3] }, type := 34, pos := "law.go:180", after := #[{ on := 0, ground := Ground.data }, { on := 4, ground := Ground.data }], guard := none }, { dst := some 11, op := Op.assign (Operand.tmp 48), type := 34, pos := "law.go:180", after := #[{ on := 5, ground := Ground.data }, { on := 5, ground := Ground.chain }, { on := 0, ground := Ground.phase }, { on := 1, ground := Ground.phase }, { on := 2, ground := Ground.phase }, { on := 3, ground := Ground.phase }, { on := 4, ground := Ground.phase }, { on := 5, ground := Ground.phase }], guard := none }] false)
def endM (P : Program) (run : CCall Empty) (plans : Plans) (rest : Code) (F : Tr Value) (m : CMem Empty) : Bool := match cCode P run plans 1000 rest F m with
  | some (.ret, F', _) => (match absF F' 2 with | .bool true => true | _ => false)
  | _ => false
/-- A run to the argument's use, with the number that it comes to. -/
def checkM (P : Program) (run : CCall Empty) (plans : Plans) (c : Code) (n j k : Int) : Bool := match runSeq P run plans 5 c (initF [.int .u8 n] 0 .nil) ⟨0, .nil⟩ with
  | some (.seq _ rest, F, m) => (match F.get 3 with
    | some s => headV s fun s => (match run 15 [s, .int .i64 k] m with
      | some (v, m') => Tr.forceT (((((((F.set 43 (some s)).set 44 (some (.int .u8 n))).set 45 (some (.int .i64 n))).set 46 (some (.int .i64 j))).set 47 (some (.int .i64 k))).set 48 (some v)).set 11 (some v)) fun F => endM P run plans rest F m'
      | none => false)
    | none => false)
  | _ => false
def pre0 (P : Program) (run : CCall Empty) (plans : Plans) (c : Code) (n : Int) : Option Value := match runSeq P run plans 5 c (initF [.int .u8 n] 0 .nil) ⟨0, .nil⟩ with
  | some (_, F, _) => F.get 0
  | none => none
def isReg (P : Program) (run : CCall Empty) (plans : Plans) (c : Code) (n : Int) : Option Code := match runSeq P run plans 5 c (initF [.int .u8 n] 0 .nil) ⟨0, .nil⟩ with
  | some (c, _, _) => some (sl c)
  | none => none

theorem un5 : Program.underlying PP 5 = some (.int .u8) := by kernel_rfl
theorem un3' : Program.underlying PP 3 = some (.int .i64) := by kernel_rfl

theorem many_core {run : CCall Empty} {plans : Plans} {c : Code} {n j k : Int} {rs : List ResultVar} (hrs : rs = [.tmp 2]) (h0' : 0 ≤ n) (h1 : n < 256) (hj : n % 16 = j) (hk : k = 1 + j) (hreg : isReg PP run plans c n = some regM) (h0 : pre0 PP run plans c n = some (.int .u8 n)) (hc : checkM PP run plans c n j k = true) :
    aCode PP (runSpec run) plans c (aEnd PP rs fun u _ => u = .bool true) (aArgs [.int .u8 n]) ⟨0, fun _ => none⟩ := by
  unfold checkM at hc
  unfold pre0 at h0
  unfold isReg at hreg
  split at hc
  · rename_i c1 rest F m hpre
    rw [hpre] at h0 hreg
    simp only [sl, Option.some.injEq] at h0 hreg
    subst hreg
    rw [← absF_init, ← abs_nil]
    refine runSeq_sound 5 _ _ _ _ _ _ hpre ?_
    split at hc
    · rename_i s hs
      rw [headV_eq] at hc
      split at hc
      · rename_i v m' hfree
        rw [Tr.forceT_eq] at hc
        unfold endM at hc
        split at hc
        · rename_i F' m'' hend
          split at hc
          · rename_i hres
            have h3 : absF F 3 = s := by simp only [absF, hs, Option.getD_some]
            have h00 : absF F 0 = .int .u8 n := by simp only [absF, h0, Option.getD_some]
            have hw : IntKind.wrap .i64 n = n := wrap_i64 (by omega) (by omega)
            have hm : Int.tmod n 16 = j := by rw [Int.tmod_eq_emod_of_nonneg h0']; exact hj
            have hw2 : IntKind.wrap .i64 j = j := wrap_i64 (by omega) (by omega)
            have hw3 : IntKind.wrap .i64 (1 + j) = k := by rw [wrap_i64 (by omega) (by omega)]; exact hk.symm
            have h16 : ((16 : Int) = 0) = False := by simp
            unfold regM
            unfold aCode
            simp only [Option.getD_some, Option.bind_some, Option.map_some, Option.map_none, Option.bind_none, aCode, aOps, aPlan, aStep, aWanted, aOp, valued, silent, Bool.false_eq_true, if_false, if_true, exThen, exBlock, exScope, put_some, put_none, evT, evC, evF, set_same, set_ne, Nat.reduceBEq, Nat.reduceEqDiff, aBinO, isNilWord, isNilV, isAggV, Bool.false_and, Bool.and_false, aBin, intBin, aUn, aBuiltin, aMin, aMax, aArgs, List.getD_cons_zero, List.getD_cons_succ, List.map_cons, List.map_nil, aEnd, aResults, aResult, List.mapM_cons, List.mapM_nil, List.cons_append, List.nil_append, List.append_nil, Option.pure_def, Option.bind_eq_bind, keep_mem, List.mem_cons, List.not_mem_nil, or_false, false_or, true_or, or_true, reduceIte, not_false_eq_true, forall_const, and_true, true_and, List.forall_mem_nil, reduceCtorEq, isEq, Array.toList_map, AMem.next_put, AMem.next_kill, AMem.next_set, AMem.next_skipTo, eq_self, laid_int, laid_bool, laid_string, laid_slice, laid_pointer, conv_int un5 un3', h3, h00, hw, hw2, hw3, hm, h16]
            refine ⟨m, v, m', rfl, hfree, ?_⟩
            simp only [← absF_set]
            refine cCode_sound (fun g xs m v m' h K hK => ⟨m, v, m', rfl, h, hK⟩) _ _ _ _ _ _ _ hend ?_
            subst hrs
            simp only [aEnd, aResults, aResult]
            exact hres
          · cases hc
        · cases hc
      · cases hc
    · cases hc
  · cases hc
end Go.Proofs
