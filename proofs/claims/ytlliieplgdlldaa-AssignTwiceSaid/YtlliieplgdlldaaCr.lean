/- What the functions of law 46 answer, by the evaluator: Few.
   Conditions: those that each theorem names. -/
import Derived.Test.YtlliieplgdlldaaCq
namespace Go.Proofs.Ytlliieplgdlldaa
open Go Go.Ev
set_option linter.unusedSimpArgs false
set_option linter.unusedVariables false
set_option maxRecDepth 10000

theorem nodeR2 (n : NodeD) (r : List V) : fAddrV 2 (.imm (nodeV n ++ r)) = some (.imm (intsV n.args :: (intV n.con :: intV n.num :: intV n.fn :: intsV n.more :: boolV n.take :: slV brV n.brs :: intV n.next :: r))) := by
  simp [fAddrV, nodeV]
theorem nodeR6 (n : NodeD) (r : List V) : fAddrV 6 (.imm (nodeV n ++ r)) = some (.imm (intsV n.more :: (boolV n.take :: slV brV n.brs :: intV n.next :: r))) := by
  simp [fAddrV, nodeV]
theorem nodeR8 (n : NodeD) (r : List V) : fAddrV 8 (.imm (nodeV n ++ r)) = some (.imm (slV brV n.brs :: (intV n.next :: r))) := by
  simp [fAddrV, nodeV]

def FewN (n : NodeD) : Prop := n.argl.length ≤ 20 ∧ n.morel.length ≤ 20 ∧ n.brl.length ≤ 20 ∧ ∀ b, b ∈ n.brl → b.bindl.length ≤ 20

theorem few_ok {f : FunD} (hok : okFun f) : Ans 6 [.agg (funV f)] fun r => ∃ c, r = boolV c ∧ (c = true → FewD f) := by
  rintro ⟨B, wr0⟩
  rw [WC_fn rfl rfl]
  refine ⟨rfl, ?_⟩
  have hvs := (varsIs f).len
  have hcs := (codeIs f).len
  have hcl : f.codel.length ≤ maxLen := by
    unfold FunD.codel
    cases h : f.code with
    | none => simp
    | some l => exact (hok.2.2.2.1 l h).1
  have hml : maxLen = 9223372036854775807 := by decide
  simp only [c6, r6_0, r6_1, b6_16, go_sem, ↓reduceIte, Nat.reduceEqDiff, Nat.reduceAdd, Nat.reduceLeDiff, Nat.reduceBEq, funV_strip2]
  have no : finQ false ⟨B, wr0⟩ (fun r o => o = none ∧ ∃ c, r = boolV c ∧ (c = true → FewD f)) (.lit (.bool false)) ⟨B, []⟩ := finish_new (New_nil.2 trivial) rfl ⟨rfl, false, rfl, fun h => by cases h⟩
  refine W_for f.codel.length (fun k (_ : Unit) => [(1, .imm (funV f)), (3, .lit (.int .i64 k))]) (fun _ _ => ⟨B, []⟩) (fun k _ => ∀ n, n ∈ f.codel.take k → FewN n) ?_ () (by simp) rfl rfl
  intro k _ hk hi
  rcases Nat.lt_or_ge k f.codel.length with hlt | hge
  · have ha := (is_ints f.codel[k].args).is.len
    have hm := (is_ints f.codel[k].more).is.len
    have hb := (is_slV (f := brV) f.codel[k].brs).is.len
    have ha' : lenV (intsV f.codel[k].args) = some f.codel[k].argl.length := ha
    have hm' : lenV (intsV f.codel[k].more) = some f.codel[k].morel.length := hm
    have hb' : lenV (slV brV f.codel[k].brs) = some f.codel[k].brl.length := hb
    by_cases p1 : f.codel[k].argl.length > 20
    · have p1' : (f.codel[k].argl.length : Int) > 20 := by omega
      simp (disch := omega) only [l6_15, r6_2, b6_13, r6_3, r6_4, go_sem, ↓reduceIte, Nat.reduceEqDiff, Nat.reduceAdd, Nat.reduceLeDiff, Nat.reduceBEq, fun4, hcs, hlt, (codeIs f).iAddrN nodeV_len k hlt, drop_lt hlt, nodeR2, ha', p1']
      exact no
    by_cases p2 : f.codel[k].morel.length > 20
    · have p1' : ¬ (f.codel[k].argl.length : Int) > 20 := by omega
      have p2' : (f.codel[k].morel.length : Int) > 20 := by omega
      simp (disch := omega) only [l6_15, r6_2, b6_13, r6_3, r6_4, go_sem, ↓reduceIte, Nat.reduceEqDiff, Nat.reduceAdd, Nat.reduceLeDiff, Nat.reduceBEq, fun4, hcs, hlt, (codeIs f).iAddrN nodeV_len k hlt, drop_lt hlt, nodeR2, nodeR6, ha', hm', p1', p2']
      exact no
    by_cases p3 : f.codel[k].brl.length > 20
    · have p1' : ¬ (f.codel[k].argl.length : Int) > 20 := by omega
      have p2' : ¬ (f.codel[k].morel.length : Int) > 20 := by omega
      have p3' : (f.codel[k].brl.length : Int) > 20 := by omega
      simp (disch := omega) only [l6_15, r6_2, b6_13, r6_3, r6_4, go_sem, ↓reduceIte, Nat.reduceEqDiff, Nat.reduceAdd, Nat.reduceLeDiff, Nat.reduceBEq, fun4, hcs, hlt, (codeIs f).iAddrN nodeV_len k hlt, drop_lt hlt, nodeR2, nodeR6, nodeR8, ha', hm', hb', p1', p2', p3']
      exact no
    have p1' : ¬ (f.codel[k].argl.length : Int) > 20 := by omega
    have p2' : ¬ (f.codel[k].morel.length : Int) > 20 := by omega
    have p3' : ¬ (f.codel[k].brl.length : Int) > 20 := by omega
    simp (disch := omega) only [l6_15, r6_2, b6_13, r6_3, r6_5, b6_12, go_sem, ↓reduceIte, Nat.reduceEqDiff, Nat.reduceAdd, Nat.reduceLeDiff, Nat.reduceBEq, fun4, hcs, hlt, (codeIs f).iAddrN nodeV_len k hlt, drop_lt hlt, nodeR2, nodeR6, nodeR8, ha', hm', hb', p1', p2', p3']
    have hbr := is_slV (f := brV) f.codel[k].brs
    refine W_for f.codel[k].brl.length (fun j (_ : Unit) => [(1, .imm (funV f)), (3, .lit (.int .i64 k)), (4, .lit (.int .i64 j))]) (fun _ _ => ⟨B, []⟩) (fun j _ => ∀ b, b ∈ f.codel[k].brl.take j → b.bindl.length ≤ 20) ?_ () (by simp) rfl rfl
    intro j _ hj hij
    rcases Nat.lt_or_ge j f.codel[k].brl.length with hlt2 | hge2
    · have hlt2' : j < (f.codel[k].brs.getD []).length := hlt2
      have hd2 : (f.codel[k].brs.getD []).drop j = f.codel[k].brl[j] :: f.codel[k].brl.drop (j + 1) := drop_lt hlt2
      have hbl' : lenV (intsV f.codel[k].brl[j].binds) = some f.codel[k].brl[j].bindl.length := (is_ints _).is.len
      by_cases p4 : f.codel[k].brl[j].bindl.length > 20
      · have p4' : (f.codel[k].brl[j].bindl.length : Int) > 20 := by omega
        simp (disch := omega) only [l6_11, r6_6, r6_7, r6_8, b6_9, go_sem, ↓reduceIte, Nat.reduceEqDiff, Nat.reduceAdd, Nat.reduceLeDiff, Nat.reduceBEq, fun4, hlt2, (codeIs f).iAddrN nodeV_len k hlt, drop_lt hlt, nodeR8, hb', hbr.is.iAddrN brV_len j hlt2', hd2, brV, hbl', p4']
        exact no
      · have p4' : ¬ (f.codel[k].brl[j].bindl.length : Int) > 20 := by omega
        simp (disch := omega) only [l6_11, r6_6, r6_7, r6_10, b6_9, go_sem, ↓reduceIte, Nat.reduceEqDiff, Nat.reduceAdd, Nat.reduceLeDiff, Nat.reduceBEq, fun4, hlt2, (codeIs f).iAddrN nodeV_len k hlt, drop_lt hlt, nodeR8, hb', hbr.is.iAddrN brV_len j hlt2', hd2, brV, hbl', p4', i64_in]
        refine ⟨hlt2, (), fun b hb2 => ?_, rfl, rfl⟩
        rw [List.take_succ_eq_append_getElem hlt2] at hb2
        rcases List.mem_append.1 hb2 with hb2 | hb2
        · exact hij b hb2
        · rw [List.mem_singleton] at hb2
          subst hb2
          omega
    · rw [List.take_of_length_le hge2] at hij
      simp (disch := omega) only [l6_11, r6_6, r6_14, go_sem, ↓reduceIte, Nat.reduceEqDiff, Nat.reduceAdd, Nat.reduceLeDiff, Nat.reduceBEq, fun4, Nat.not_lt.2 hge2, (codeIs f).iAddrN nodeV_len k hlt, drop_lt hlt, nodeR8, hb', i64_in]
      refine ⟨hlt, (), fun n hn => ?_, rfl, rfl⟩
      rw [List.take_succ_eq_append_getElem hlt] at hn
      rcases List.mem_append.1 hn with hn | hn
      · exact hi n hn
      · rw [List.mem_singleton] at hn
        subst hn
        exact ⟨by omega, by omega, by omega, hij⟩
  · rw [List.take_of_length_le hge] at hi
    by_cases p1 : f.codel.length ≤ 80
    · have p1' : (f.codel.length : Int) ≤ 80 := by omega
      simp only [l6_15, r6_2, r6_17, go_sem, ↓reduceIte, Nat.reduceEqDiff, Nat.reduceAdd, Nat.reduceLeDiff, Nat.reduceBEq, fun4, fun3, hcs, hvs, Nat.not_lt.2 hge, p1']
      refine finish_new (New_nil.2 trivial) rfl ⟨rfl, _, rfl, fun h => ?_⟩
      rw [decide_eq_true_eq] at h
      exact ⟨p1, by omega, hi⟩
    · have p1' : ¬ (f.codel.length : Int) ≤ 80 := by omega
      simp only [l6_15, r6_2, r6_17, go_sem, ↓reduceIte, Nat.reduceEqDiff, Nat.reduceAdd, Nat.reduceLeDiff, Nat.reduceBEq, fun4, fun3, hcs, hvs, Nat.not_lt.2 hge, p1']
      exact no
end Go.Proofs.Ytlliieplgdlldaa
