/- What the functions of law 46 answer, by the evaluator: the library's small functions on slices.
   Conditions: those that each theorem names. -/
import Derived.Test.YtlliieplgdlldaaT46
import Derived.Test.YtlliieplgdlldaaWa
import Derived.Test.YtlliieplgdlldaaFun
namespace Go.Proofs.Ytlliieplgdlldaa
open Go Go.Ev
set_option linter.unusedSimpArgs false
set_option linter.unusedVariables false

/-- a call that leaves the heap and answers r -/
def Ans (f : FuncId) (args : List V) (P : V → Prop) : Prop := ∀ H : Heap, WC env46 f args H fun r o => o = none ∧ P r

theorem index_ok {v : V} {l : List Int} {x : Int} (h : IsSl I1 v l) (hl : l.length ≤ 140737488355328) :
    Ans 28 [v, intV x] fun r => ∃ i : Int, r = intV i ∧ (0 ≤ i ↔ x ∈ l) := by
  intro H
  rw [WC_fn rfl rfl]
  refine ⟨rfl, ?_⟩
  simp only [c28, r28_0, r28_1, b28_9, intV, go_sem, ↓reduceIte, Nat.reduceEqDiff, Nat.reduceAdd, Nat.reduceLeDiff, Nat.reduceBEq, h.len]
  refine W_for l.length (fun k (_ : Unit) => [(0, v), (1, intV x), (7, .lit (.int .i64 l.length)), (8, .lit (.int .i64 k))]) (fun _ _ => ⟨H.blks, []⟩) (fun k _ => x ∉ l.take k) ?_ () (by simp) rfl rfl
  intro k _ hk hi
  rcases Nat.lt_or_ge k l.length with hlt | hge
  · simp (disch := omega) only [l28_8, r28_2, r28_3, r28_4, r28_5, b28_6, r28_7, intV, go_sem, ↓reduceIte, Nat.reduceEqDiff, Nat.reduceAdd, Nat.reduceLeDiff, Nat.reduceBEq, hlt, h.iAddrN I1_len k hlt, drop_lt hlt, I1, i64_in]
    split
    · rename_i e
      refine finish_new (New_nil.2 trivial) rfl ⟨rfl, k, rfl, ?_⟩
      rw [e]
      simp
    · rename_i e
      have h2 : x ∉ l.take (k + 1) := by
        rw [List.take_succ_eq_append_getElem hlt]
        simp only [List.mem_append, List.mem_singleton, hi, e, or_self, not_false_eq_true]
      exact ⟨hlt, (), h2, rfl, rfl⟩
  · simp only [l28_8, r28_2, r28_10, intV, go_sem, ↓reduceIte, Nat.reduceEqDiff, Nat.reduceAdd, Nat.reduceLeDiff, Nat.reduceBEq, Nat.not_lt.2 hge]
    refine finish_new (New_nil.2 trivial) rfl ⟨rfl, -1, rfl, ?_⟩
    rw [List.take_of_length_le hge] at hi
    simp [hi]

theorem contains_ok {v : V} {l : List Int} {x : Int} (h : IsSl I1 v l) (hl : l.length ≤ 140737488355328) :
    Ans 21 [v, intV x] fun r => r = .lit (.bool (decide (x ∈ l))) := by
  intro H
  rw [WC_fn rfl rfl]
  refine ⟨rfl, ?_⟩
  simp only [c21, r21_0, r21_1, intV, go_sem, ↓reduceIte, Nat.reduceEqDiff, Nat.reduceAdd, Nat.reduceLeDiff, Nat.reduceBEq]
  refine (index_ok h hl _).mono ?_
  rintro r o ⟨rfl, i, rfl, hi⟩
  simp only [intV, go_sem, ↓reduceIte, Nat.reduceEqDiff, Nat.reduceAdd, Nat.reduceLeDiff, Nat.reduceBEq]
  refine finish_new (New_nil.2 trivial) rfl ⟨rfl, ?_⟩
  by_cases hx : x ∈ l
  · simp [hx, hi.2 hx]; rfl
  · have : ¬ 0 ≤ i := fun h => hx (hi.1 h)
    simp [hx, this]; rfl

def V1 (v : V) : List V := [v]
theorem V1_len (v : V) : (V1 v).length = 1 := rfl

theorem indexFunc_ok {v : V} {l : List V} {g : FuncId} {a b : List V} {p : V → Bool} (h : IsSl V1 v l) (hl : l.length ≤ 140737488355328) (hp : ∀ s, s ∈ l → Ans g (a ++ s :: b) fun r => r = .lit (.bool (p s))) :
    Ans 27 [v, .fn g a b] fun r => ∃ i : Int, r = intV i ∧ (0 ≤ i ↔ ∃ s, s ∈ l ∧ p s = true) := by
  intro H
  rw [WC_fn rfl rfl]
  refine ⟨rfl, ?_⟩
  simp only [c27, r27_0, r27_1, b27_9, intV, go_sem, ↓reduceIte, Nat.reduceEqDiff, Nat.reduceAdd, Nat.reduceLeDiff, Nat.reduceBEq, h.len]
  refine W_for l.length (fun k (_ : Unit) => [(0, v), (1, .fn g a b), (7, .lit (.int .i64 l.length)), (8, .lit (.int .i64 k))]) (fun _ _ => ⟨H.blks, []⟩) (fun k _ => ∀ s, s ∈ l.take k → p s = false) ?_ () (by simp) rfl rfl
  intro k _ hk hi
  rcases Nat.lt_or_ge k l.length with hlt | hge
  · simp (disch := omega) only [l27_8, r27_2, r27_3, r27_4, r27_5, b27_6, r27_7, intV, go_sem, ↓reduceIte, Nat.reduceEqDiff, Nat.reduceAdd, Nat.reduceLeDiff, Nat.reduceBEq, hlt, h.iAddrN V1_len k hlt, drop_lt hlt, V1, i64_in]
    refine (hp l[k] (List.getElem_mem hlt) _).mono ?_
    rintro r o ⟨rfl, rfl⟩
    simp (disch := omega) only [l27_8, r27_2, r27_3, r27_4, r27_5, b27_6, r27_7, intV, go_sem, ↓reduceIte, Nat.reduceEqDiff, Nat.reduceAdd, Nat.reduceLeDiff, Nat.reduceBEq, i64_in, hlt]
    split
    · rename_i e
      refine finish_new (New_nil.2 trivial) rfl ⟨rfl, k, rfl, ?_⟩
      refine ⟨fun _ => ⟨_, List.getElem_mem hlt, e⟩, fun _ => by omega⟩
    · rename_i e
      refine ⟨hlt, (), ?_, rfl, rfl⟩
      rw [List.take_succ_eq_append_getElem hlt]
      intro s hs
      rcases List.mem_append.1 hs with hs | hs
      · exact hi s hs
      · rw [List.mem_singleton.1 hs]
        simpa using e
  · simp only [l27_8, r27_2, r27_10, intV, go_sem, ↓reduceIte, Nat.reduceEqDiff, Nat.reduceAdd, Nat.reduceLeDiff, Nat.reduceBEq, Nat.not_lt.2 hge]
    refine finish_new (New_nil.2 trivial) rfl ⟨rfl, -1, rfl, ?_⟩
    rw [List.take_of_length_le hge] at hi
    refine ⟨fun h => by omega, ?_⟩
    rintro ⟨s, hs, e⟩
    rw [hi s hs] at e
    cases e

theorem containsFunc_ok {v : V} {l : List V} {g : FuncId} {a b : List V} {p : V → Bool} (h : IsSl V1 v l) (hl : l.length ≤ 140737488355328) (hp : ∀ s, s ∈ l → Ans g (a ++ s :: b) fun r => r = .lit (.bool (p s))) :
    Ans 19 [v, .fn g a b] fun r => r = .lit (.bool (l.any p)) := by
  intro H
  rw [WC_fn rfl rfl]
  refine ⟨rfl, ?_⟩
  simp only [c19, r19_0, r19_1, intV, go_sem, ↓reduceIte, Nat.reduceEqDiff, Nat.reduceAdd, Nat.reduceLeDiff, Nat.reduceBEq]
  refine (indexFunc_ok h hl hp _).mono ?_
  rintro r o ⟨rfl, i, rfl, hi⟩
  simp only [intV, go_sem, ↓reduceIte, Nat.reduceEqDiff, Nat.reduceAdd, Nat.reduceLeDiff, Nat.reduceBEq]
  refine finish_new (New_nil.2 trivial) rfl ⟨rfl, ?_⟩
  have : decide (i ≥ 0) = l.any p := by
    by_cases hx : ∃ s, s ∈ l ∧ p s = true
    · rw [decide_eq_true (hi.2 hx), Eq.comm, List.any_eq_true]
      exact hx
    · have h0 : ¬ i ≥ 0 := fun h => hx (hi.1 h)
      rw [decide_eq_false h0, Eq.comm, List.any_eq_false]
      intro s hs e
      exact hx ⟨s, hs, e⟩
  rw [this]
  rfl

/-- the function that Interfere hands to ContainsFunc -/
theorem both_ok {v : V} {l : List Int} {x y : Int} (h : IsSl I1 v l) (hl : l.length ≤ 140737488355328) :
    Ans 20 [v, .imm [intV x], .imm [intV y]] fun r => r = .lit (.bool (decide (x ∈ l) && decide (y ∈ l))) := by
  intro H
  rw [WC_fn rfl rfl]
  refine ⟨rfl, ?_⟩
  simp only [c20, r20_0, r20_1, intV, go_sem, ↓reduceIte, Nat.reduceEqDiff, Nat.reduceAdd, Nat.reduceLeDiff, Nat.reduceBEq]
  refine (contains_ok h hl _).mono ?_
  rintro r o ⟨rfl, rfl⟩
  by_cases hx : x ∈ l
  · simp only [intV, go_sem, ↓reduceIte, Nat.reduceEqDiff, Nat.reduceAdd, Nat.reduceLeDiff, Nat.reduceBEq, hx, decide_true, BEq.rfl]
    refine (contains_ok h hl _).mono ?_
    rintro r o ⟨rfl, rfl⟩
    simp only [intV, go_sem, ↓reduceIte, Nat.reduceEqDiff, Nat.reduceAdd, Nat.reduceLeDiff, Nat.reduceBEq]
    exact finish_new (New_nil.2 trivial) rfl ⟨rfl, by simp [hx]; rfl⟩
  · simp only [intV, go_sem, ↓reduceIte, Nat.reduceEqDiff, Nat.reduceAdd, Nat.reduceLeDiff, Nat.reduceBEq, hx, decide_false, beq_true, Bool.false_eq_true]
    exact finish_new (New_nil.2 trivial) rfl ⟨rfl, by simp [hx]; rfl⟩
end Go.Proofs.Ytlliieplgdlldaa
