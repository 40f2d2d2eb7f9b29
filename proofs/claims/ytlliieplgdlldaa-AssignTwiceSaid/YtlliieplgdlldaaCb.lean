/- What the functions of law 46 answer, by the evaluator: package core.
   Conditions: those that each theorem names. -/
import Derived.Test.YtlliieplgdlldaaCa
namespace Go.Proofs.Ytlliieplgdlldaa
open Go Go.Ev
set_option linter.unusedSimpArgs false
set_option linter.unusedVariables false
set_option maxRecDepth 10000

structure FormD where
  args : Int
  binds : Bool
  con : Bool
  num : Bool
  fn : Bool
  more : Bool
  take : Bool
  next : Bool
  branch : Bool
def formV (d : FormD) : List V := [intV d.args, boolV d.binds, boolV d.con, boolV d.num, boolV d.fn, boolV d.more, boolV d.take, boolV d.next, boolV d.branch]
def form0 : FormD := ⟨0, false, false, false, false, false, false, false, false⟩
def formL : List FormD :=
  [⟨1, false, false, false, false, false, false, false, false⟩,
   ⟨0, true, false, true, false, false, false, true, false⟩,
   ⟨2, true, false, true, false, false, false, true, false⟩,
   ⟨-1, true, true, false, false, false, false, true, false⟩,
   ⟨1, true, false, false, false, false, false, true, false⟩,
   ⟨1, false, false, false, false, false, false, true, false⟩,
   ⟨-1, true, false, false, true, false, false, true, false⟩,
   ⟨-1, false, false, false, true, false, false, false, false⟩,
   ⟨-1, false, true, true, true, true, false, false, false⟩,
   ⟨1, false, false, false, false, false, true, false, true⟩]
def isOp (op : Int) : Bool := decide (0 ≤ op ∧ op < 10)
def formOf (op : Int) : FormD := if isOp op then (formL[op.toNat]?).getD form0 else form0

theorem forms_len : (formL.flatMap formV).length = 90 := rfl
theorem forms_strip : (V.agg (formL.flatMap formV)).strip = .agg (formL.flatMap formV) := rfl
theorem forms_closed (n : Nat) : V.closedL n (formL.flatMap formV) = true := closedL_flat (fun _ => rfl) _

theorem forms_ok : Ans 29 [] fun r => r = .agg (formL.flatMap formV) := by
  intro H
  rw [WC_fn rfl rfl]
  refine ⟨rfl, ?_⟩
  simp only [c29, r29_0, go_sem, ↓reduceIte, Nat.reduceEqDiff, Nat.reduceAdd, Nat.reduceLeDiff, Nat.reduceBEq]
  rw [r29_1, W_reg]
  refine WR_run 11 (T' := [(0, .ref H.blks.length 0), (1, .agg (formV formL[0])), (2, .agg (formV formL[1])), (3, .agg (formV formL[2])), (4, .agg (formV formL[3])), (5, .agg (formV formL[4])), (6, .agg (formV formL[5])), (7, .agg (formV formL[6])), (8, .agg (formV formL[7])), (9, .agg (formV formL[8])), (10, .agg (formV formL[9])), (11, .agg (formL.flatMap formV))]) (by kernel_rfl) ?_
  have h90 := forms_len
  have hst := forms_strip
  have hcl := forms_closed
  generalize formL.flatMap formV = fv at *
  simp only [go_sem, ↓reduceIte, Nat.reduceEqDiff, Nat.reduceAdd, Nat.reduceLeDiff, Nat.reduceBEq, h90]
  rw [List.take_of_length_le (by rw [h90]; exact Nat.le_refl _)]
  refine finish_new (by simp [New_insN, New_nil]) ?_ ⟨rfl, hst⟩
  simp only [Bool.false_eq_true, if_false, hst, V.closed, hcl]

theorem of_ok (op : Int) : Ans 22 [intV op] fun r => r = .tup [.agg (formV (formOf op)), boolV (isOp op)] := by
  intro H
  rw [WC_fn rfl rfl]
  refine ⟨rfl, ?_⟩
  by_cases h0 : op < 0
  · simp only [c22, r22_0, r22_1, r22_2, r22_3, intV, go_sem, ↓reduceIte, Nat.reduceEqDiff, Nat.reduceAdd, Nat.reduceLeDiff, Nat.reduceBEq, h0, fillV]
    refine finish_new (by simp [New_insN, New_nil]) rfl ⟨rfl, ?_⟩
    have : isOp op = false := by simp [isOp]; omega
    simp only [formOf, this]
    rfl
  by_cases h1 : op ≥ 10
  · simp only [c22, r22_0, r22_1, r22_2, r22_3, intV, go_sem, ↓reduceIte, Nat.reduceEqDiff, Nat.reduceAdd, Nat.reduceLeDiff, Nat.reduceBEq, h0, h1, fillV]
    refine finish_new (by simp [New_insN, New_nil]) rfl ⟨rfl, ?_⟩
    have : isOp op = false := by simp [isOp]; omega
    simp only [formOf, this]
    rfl
  simp only [c22, r22_0, r22_1, r22_2, r22_3, intV, go_sem, ↓reduceIte, Nat.reduceEqDiff, Nat.reduceAdd, Nat.reduceLeDiff, Nat.reduceBEq, h0, h1]
  refine (forms_ok _).mono ?_
  rintro r o ⟨rfl, rfl⟩
  have hh : op = 0 ∨ op = 1 ∨ op = 2 ∨ op = 3 ∨ op = 4 ∨ op = 5 ∨ op = 6 ∨ op = 7 ∨ op = 8 ∨ op = 9 := by omega
  have e : ∃ fv, fv.length = 9 ∧ idxAV 10 9 (some 9) (.agg (formL.flatMap formV)) (.lit (.int .i64 op)) = some (.agg fv) ∧ fv = formV (formOf op) ∧ isOp op = true := by
    rcases hh with rfl | rfl | rfl | rfl | rfl | rfl | rfl | rfl | rfl | rfl <;> exact ⟨_, rfl, rfl, rfl, rfl⟩
  obtain ⟨fv, h9, e1, e2, e3⟩ := e
  simp only [go_sem, ↓reduceIte, Nat.reduceEqDiff, Nat.reduceAdd, Nat.reduceLeDiff, Nat.reduceBEq, e1, h9]
  rw [List.take_of_length_le (by rw [h9]; exact Nat.le_refl _), e2, e3]
  exact finish_new (by simp [New_insN, New_nil]) rfl ⟨rfl, rfl⟩
end Go.Proofs.Ytlliieplgdlldaa
