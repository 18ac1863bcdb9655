/- Running code on known values, inside the kernel. -/
import Derived.Test.YtaeoiohcalonkaaGreatDoorAxTr
set_option linter.unusedVariables false
set_option linter.unusedSimpArgs false
namespace Go.Ax
open Go
variable {L : Type} {P : Program}

structure CMem (L : Type) where
  next : Nat
  tr : Tr (AObj L)
def CMem.abs (m : CMem L) : AMem L := ⟨m.next, m.tr.get⟩
def absF (F : Tr Value) : Fr := fun i => (F.get i).getD undef

section
variable {β : Type}
def forceN (n : Nat) (k : Nat → β) : β := match n with | 0 => k 0 | m + 1 => k (m + 1)
theorem forceN_eq (n : Nat) (k : Nat → β) : forceN n k = k n := by cases n <;> rfl
def forceI (n : Int) (k : Int → β) : β := match n with | .ofNat n => forceN n fun n => k (.ofNat n) | .negSucc n => forceN n fun n => k (.negSucc n)
theorem forceI_eq (n : Int) (k : Int → β) : forceI n k = k n := by cases n <;> simp only [forceI, forceN_eq]
def forceL {α : Type} (l : List α) (k : List α → β) : β := match l with | [] => k [] | x :: l => forceL l fun l => k (x :: l)
theorem forceL_eq {α : Type} : ∀ (l : List α) (k : List α → β), forceL l k = k l
  | [], _ => rfl
  | x :: l, k => by simp only [forceL, forceL_eq l]
def forceA (a : Addr) (k : Addr → β) : β := match a with | ⟨b, o, s⟩ => forceN b fun b => forceN o fun o => k ⟨b, o, s⟩
theorem forceA_eq (a : Addr) (k : Addr → β) : forceA a k = k a := by cases a; simp only [forceA, forceN_eq]
def forceV (v : Value) (k : Value → β) : β :=
  match v with
  | .int kd n => forceI n fun n => k (.int kd n)
  | .bool b => (match b with | true => k (.bool true) | false => k (.bool false))
  | .pointer (some a) => forceA a fun a => k (.pointer (some a))
  | .slice (some a) n c => forceA a fun a => forceN n fun n => forceN c fun c => k (.slice (some a) n c)
  | .map (some b) => forceN b fun b => k (.map (some b))
  | .agg ⟨cs⟩ => forceL cs fun cs => k (.agg ⟨cs⟩)
  | .tuple ⟨cs⟩ => forceL cs fun cs => k (.tuple ⟨cs⟩)
  | .string ⟨⟨cs⟩⟩ => forceL cs fun cs => k (.string ⟨⟨cs⟩⟩)
  | v => k v
theorem forceV_eq (v : Value) (k : Value → β) : forceV v k = k v := by
  unfold forceV
  split <;> first | rfl | (simp only [forceI_eq, forceA_eq, forceN_eq, forceL_eq]; done) | (split <;> rfl)
/-- The same, but numbers and truths inside are left as they are. -/
def headV (v : Value) (k : Value → β) : β :=
  match v with
  | .int kd n => k (.int kd n)
  | .bool b => k (.bool b)
  | .string s => k (.string s)
  | .pointer (some a) => forceA a fun a => k (.pointer (some a))
  | .slice (some a) n c => forceA a fun a => forceN n fun n => forceN c fun c => k (.slice (some a) n c)
  | .map (some b) => forceN b fun b => k (.map (some b))
  | .agg ⟨cs⟩ => forceL cs fun cs => k (.agg ⟨cs⟩)
  | .tuple ⟨cs⟩ => forceL cs fun cs => k (.tuple ⟨cs⟩)
  | v => k v
theorem headV_eq (v : Value) (k : Value → β) : headV v k = k v := by
  unfold headV
  split <;> first | rfl | (simp only [forceA_eq, forceN_eq, forceL_eq]; done)
def forceO (o : AObj L) (k : AObj L → β) : β :=
  match o with
  | .cells vs e ro => forceL vs fun vs => k (.cells vs e ro)
  | .map es => forceL es fun es => k (.map es)
  | .logic x => k (.logic x)
theorem forceO_eq (o : AObj L) (k : AObj L → β) : forceO o k = k o := by cases o <;> simp only [forceO, forceL_eq]
end

/-- Does it reckon a new value? -/
def computes : Op → Bool
  | .binOp .. | .unOp .. | .convert .. | .call _ => true
  | _ => false

/-- May the operation turn memory? -/
def touches : Op → Bool
  | .alloc _ | .box .. | .buildSlice .. | .makeSlice .. | .makeMap .. | .convert .. | .store .. | .mapUpdate .. | .call _ => true
  | _ => false

/-- The old block that it turns. -/
def target (F : Fr) : Op → Option Nat
  | .store _ a _ => match aEval F a with
    | .pointer (some a) => some a.block
    | _ => none
  | .mapUpdate _ m _ _ => match aEval F m with
    | .map (some r) => some r
    | _ => none
  | .call { args, .. } => match args[0]? with
    | some x => match aEval F x with
      | .slice (some a) _ _ => some a.block
      | .map (some r) => some r
      | _ => none
    | none => none
  | _ => none

theorem aOp_still {op : Op} {F : Fr} {σ σ' : AMem L} {b nx : Nat} {v : Value} (ht : touches op = false) (h : aOp P op F σ b nx = some (v, σ')) : σ' = σ := by
  have key : ∀ x : Option Value, valued σ x = some (v, σ') → σ' = σ := fun x hx => (valued_some hx).2
  cases op with
  | move x => simp only [aOp, Option.some.injEq, Prod.mk.injEq] at h; exact h.2.symm
  | assign x => simp only [aOp, Option.some.injEq, Prod.mk.injEq] at h; exact h.2.symm
  | pick c x y =>
    simp only [aOp] at h
    split at h
    · simp only [Option.some.injEq, Prod.mk.injEq] at h; exact h.2.symm
    · cases h
  | build t parts => exact key _ h
  | load t x =>
    simp only [aOp] at h
    split at h
    · exact key _ h
    · cases h
  | nilCheck x =>
    simp only [aOp] at h
    split at h
    · simp only [Option.some.injEq, Prod.mk.injEq] at h; exact h.2.symm
    · simp only [Option.some.injEq, Prod.mk.injEq] at h; exact h.2.symm
    · cases h
  | binOp o t x y u => exact key _ h
  | unOp o t x => exact key _ h
  | makeFunc fn xs us => simp only [aOp, Option.some.injEq, Prod.mk.injEq] at h; exact h.2.symm
  | slice t x lo hi mx =>
    cases mx with
    | none => exact key _ h
    | some _ => simp [aOp] at h
  | fieldAddr t x f => exact key _ h
  | field t x f => exact key _ h
  | indexAddr t x i => exact key _ h
  | index t x i => exact key _ h
  | lookup t m k ok => exact key _ h
  | extract x i =>
    simp only [aOp] at h
    split at h
    · exact key _ h
    · cases h
  | alloc => cases ht
  | box => cases ht
  | buildSlice => cases ht
  | makeSlice => cases ht
  | makeMap => cases ht
  | convert => cases ht
  | store => cases ht
  | mapUpdate => cases ht
  | call => cases ht
  | _ => simp [aOp] at h

theorem put_elsewhere (σ : AMem L) {b nx x : Nat} (o : AObj L) (h : x ≠ b) : (σ.put b nx o).get x = σ.get x := by rw [AMem.get_put, if_neg h]
theorem set_elsewhere (σ : AMem L) {b x : Nat} (o : AObj L) (h : x ≠ b) : (σ.set b o).get x = σ.get x := by rw [AMem.get_set, if_neg h]

theorem aOp_only {op : Op} {F : Fr} {σ σ' : AMem L} {b nx : Nat} {v : Value} (h : aOp P op F σ b nx = some (v, σ')) {x : Nat} (hx : x ≠ b) (ht : target F op ≠ some x) : σ'.get x = σ.get x := by
  cases hto : touches op with
  | false => rw [aOp_still hto h]
  | true =>
  cases op with
  | alloc t =>
    simp only [aOp] at h
    split at h
    · split at h
      · cases h; exact put_elsewhere _ _ hx
      · cases h
    · cases h
  | box t y =>
    simp only [aOp] at h
    split at h
    · cases h; exact put_elsewhere _ _ hx
    · cases h
  | buildSlice t len parts =>
    simp only [aOp] at h
    unfold aBuildSlice at h
    split at h
    · split at h
      · split at h
        · cases h
        · split at h
          · cases h; exact put_elsewhere _ _ hx
          · cases h
      · cases h
    · cases h
  | makeSlice t y z =>
    simp only [aOp] at h
    unfold aMakeSlice at h
    split at h
    · split at h
      · split at h
        · cases h
        · split at h
          · cases h; exact put_elsewhere _ _ hx
          · cases h
      · cases h
    · cases h
  | makeMap t r =>
    cases r with
    | none => simp only [aOp] at h; cases h; exact put_elsewhere _ _ hx
    | some r => simp [aOp] at h
  | convert s d y =>
    simp only [aOp] at h
    unfold aConv at h
    split at h
    · cases h; rfl
    · cases h; rfl
    · split at h
      · cases h; exact put_elsewhere _ _ hx
      · cases h
    · split at h
      · cases h; rfl
      · cases h
    · cases h
  | store t a y =>
    simp only [aOp] at h
    simp only [target] at ht
    split at h
    · rename_i c off ha
      simp only [ha, ne_eq, Option.some.injEq] at ht
      obtain ⟨σ1, h1, h2⟩ := Option.map_eq_some_iff.1 h
      cases h2
      unfold aStore at h1
      repeat' split at h1
      all_goals first | (cases h1; done) | (cases h1; exact set_elsewhere _ _ (fun e => ht e.symm))
    · cases h
  | mapUpdate t m k y =>
    simp only [aOp] at h
    simp only [target] at ht
    obtain ⟨σ1, h1, h2⟩ := Option.map_eq_some_iff.1 h
    cases h2
    unfold aMapUpdate at h1
    split at h1
    · rename_i r _ hm
      simp only [hm, ne_eq, Option.some.injEq] at ht
      repeat' split at h1
      all_goals first | (cases h1; done) | (cases h1; exact set_elsewhere _ _ (fun e => ht e.symm))
    · cases h1
  | call c =>
    obtain ⟨callee, args, argTypes⟩ := c
    cases callee with
    | builtin bi =>
      simp only [aOp] at h
      have ht' : ∀ y ys, args.toList.map (aEval F) = y :: ys → (∀ a n c, y = .slice (some a) n c → a.block ≠ x) ∧ (∀ r, y = .map (some r) → r ≠ x) := by
        intro y ys hy
        cases hl : args.toList with
        | nil => rw [hl] at hy; cases hy
        | cons z zs =>
          rw [hl] at hy
          simp only [List.map_cons, List.cons.injEq] at hy
          have hz : args[0]? = some z := by rw [← Array.getElem?_toList, hl]; rfl
          simp only [target, hz, hy.1] at ht
          refine ⟨fun a n c e => ?_, fun r e => ?_⟩
          · subst e; simpa using ht
          · subst e; simpa using ht
      generalize args.toList.map (aEval F) = vs at h ht'
      unfold aBuiltin at h
      split at h
      · rw [(valued_some h).2]
      · rename_i s y t tx hvs hts
        have hs := (ht' _ _ rfl).1
        split at h
        · unfold aAppendZ at h
          split at h
          · split at h
            · split at h
              · cases h
              · split at h
                · cases h; exact put_elsewhere _ _ hx
                · cases h
            · cases h
          · cases h
        unfold aAppend at h
        split at h
        · split at h
          · split at h
            · split at h
              · cases h
              · split at h
                · split at h
                  · cases h; rfl
                  · cases h; exact put_elsewhere _ _ hx
                · split at h
                  · cases h; rfl
                  · split at h
                    · split at h
                      · cases h
                        rw [put_elsewhere _ _ hx, AMem.get_kill, if_neg (fun e => hs _ _ _ rfl e.symm)]
                      · cases h
                    · cases h
                · cases h
            · cases h
          · cases h
        · cases h
      · rename_i d s t _ hvs hts
        have hd := (ht' _ _ rfl).1
        split at h
        · cases h; rfl
        unfold aCopy at h
        split at h
        · split at h
          · split at h
            · split at h
              · cases h
              · cases h; exact set_elsewhere _ _ (fun e => hd _ _ _ rfl e.symm)
            · cases h
          · cases h
        · cases h
      · rename_i m k t _ hvs hts
        have hm := (ht' _ _ rfl).2
        obtain ⟨σ1, h1, h2⟩ := Option.map_eq_some_iff.1 h
        cases h2
        unfold aDelete at h1
        split at h1
        · split at h1
          · split at h1
            · cases h1; exact set_elsewhere _ _ (fun e => hm _ rfl e.symm)
            · cases h1
          · cases h1
        · cases h1
      · rw [(valued_some h).2]
      · rw [(valued_some h).2]
      · rw [(valued_some h).2]
      · cases h
    | _ => simp [aOp] at h
  | _ => cases hto

end Go.Ax
