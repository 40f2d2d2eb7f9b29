/- What the functions of law 46 answer, by the evaluator: Kids and Binds of package core.
   Conditions: those that each theorem names. -/
import Derived.Test.YtlliieplgdlldaaCb
namespace Go.Proofs.Ytlliieplgdlldaa
open Go Go.Ev
set_option linter.unusedSimpArgs false
set_option linter.unusedVariables false
set_option maxRecDepth 10000

theorem is_slV {α : Type} {f : α → List V} (o : Option (List α)) : IsSl0 f (slV f o) (o.getD []) := by
  cases o with
  | none => exact .inl ⟨rfl, rfl⟩
  | some l => exact .inr rfl
theorem is_ints (o : Option (List Int)) : IsSl0 I1 (intsV o) (o.getD []) := is_slV (f := I1) o
theorem brV_len (b : BrD) : (brV b).length = 2 := rfl
theorem nodeV_len (n : NodeD) : (nodeV n).length = 10 := rfl
theorem varV_len (n : VarD) : (varV n).length = 2 := rfl
theorem intsV_strip1 {o : Option (List Int)} : (intsV o).strip1 = intsV o := (is_ints o).strip1
theorem slV_strip1 {α : Type} {f : α → List V} {o : Option (List α)} : (slV f o).strip1 = slV f o := (is_slV o).strip1
theorem I1_strip (a : Int) : (I1 a).map V.strip1 = I1 a := rfl

def NodeD.brl (n : NodeD) : List BrD := n.brs.getD []
def NodeD.form (n : NodeD) : FormD := formOf n.op
def kids (n : NodeD) : List Int := (if n.form.next then [n.next] else []) ++ (if n.form.branch then n.brl.map (·.next) else [])

structure St where
  x : V
  ext : List ABlk
  wr : List Nat

theorem kids_ok (n : NodeD) (hl : n.brl.length ≤ 1000) : Ans 15 [.agg (nodeV n)] fun r => IsSl0 I1 r (kids n) := by
  rintro ⟨B, wr0⟩
  rw [WC_fn rfl rfl]
  refine ⟨rfl, ?_⟩
  simp only [c15, r15_0, r15_1, r15_2, r15_3, nodeV, intV, boolV, go_sem, ↓reduceIte, Nat.reduceEqDiff, Nat.reduceAdd, Nat.reduceLeDiff, Nat.reduceBEq, intsV_strip1, slV_strip1]
  refine (of_ok n.op _).mono ?_
  rintro r o ⟨rfl, rfl⟩
  simp only [go_sem, ↓reduceIte, Nat.reduceEqDiff, Nat.reduceAdd, Nat.reduceLeDiff, Nat.reduceBEq, formV, intV, boolV]
  have hbr := is_slV (f := brV) n.brs
  -- behind the first if
  have tail : ∀ (r : Tm) (s : St) (l : List Int), Grow I1 1 B s.ext s.x l → New B.length s.wr → l.length ≤ 1 →
    W env46 (.seq (.seq r15_5 (.cond (.t 22) (.seq r15_6 b15_13) .skip)) (.seq r15_14 (.frz 2 .ret))) ([(1, .imm (nodeV n)), (3, .imm (formV n.form)), (5, s.x)] ++ r) ⟨B ++ s.ext, s.wr⟩ (retQ [.tmp 2] false ⟨B, wr0⟩ fun r o => o = none ∧ IsSl0 I1 r (l ++ (if n.form.branch then n.brl.map (·.next) else []))) := by
    intro r s l hg hw hle
    simp only [r15_5, r15_6, b15_13, formV, intV, boolV, go_sem, ↓reduceIte, Nat.reduceEqDiff, Nat.reduceAdd, Nat.reduceLeDiff, Nat.reduceBEq]
    split
    · simp only [nodeV, intV, boolV, go_sem, ↓reduceIte, Nat.reduceEqDiff, Nat.reduceAdd, Nat.reduceLeDiff, Nat.reduceBEq, hbr.is.len]
      refine W_for n.brl.length (fun k (s : St) => [(5, s.x), (24, slV brV n.brs), (25, .lit (.int .i64 n.brl.length)), (26, .lit (.int .i64 k))]) (fun _ s => ⟨B ++ s.ext, s.wr⟩) (fun k s => Grow I1 1 B s.ext s.x (l ++ (n.brl.take k).map (·.next)) ∧ New B.length s.wr) ?_ s ⟨by simpa using hg, hw⟩ rfl rfl
      rintro k s hk ⟨hg, hw⟩
      rcases Nat.lt_or_ge k n.brl.length with hlt | hge
      · have hlt' : k < (n.brs.getD []).length := hlt
        have hd : (n.brs.getD []).drop k = n.brl[k] :: n.brl.drop (k + 1) := drop_lt hlt
        have hb2 : IsSl0 I1 (intsV n.brl[k].binds) _ := is_ints n.brl[k].binds
        simp only [l15_12, r15_7, r15_8, b15_10, r15_9, intV, go_sem, ↓reduceIte, Nat.reduceEqDiff, Nat.reduceAdd, Nat.reduceLeDiff, Nat.reduceBEq, hlt, hbr.is.iAddrN brV_len k hlt', hd, brV, hb2.strip1]
        refine app_grow (l2 := [n.brl[k].next]) I1_len I1_strip (hg.more _) (.inr ⟨_, rfl⟩) (by simp; omega) (by simp; omega) (by simp [New_insN, hw]) ?_
        intro v' ext' wr' hg' hw' _ o ho
        simp (disch := omega) only [ho, r15_11, go_sem, ↓reduceIte, Nat.reduceEqDiff, Nat.reduceAdd, Nat.reduceLeDiff, Nat.reduceBEq, i64_in]
        have e : l ++ (n.brl.take (k + 1)).map (·.next) = l ++ (n.brl.take k).map (·.next) ++ [n.brl[k].next] := by
          rw [List.take_succ_eq_append_getElem hlt, List.map_append, List.append_assoc]
          rfl
        exact ⟨hlt, ⟨v', ext', wr'⟩, ⟨by rw [e]; exact hg', hw'⟩, rfl, rfl⟩
      · rw [List.take_of_length_le hge] at hg
        simp only [l15_12, r15_7, r15_14, intV, go_sem, ↓reduceIte, Nat.reduceEqDiff, Nat.reduceAdd, Nat.reduceLeDiff, Nat.reduceBEq, Nat.not_lt.2 hge, hg.is.frz]
        exact finish_new hw (hg.is.closed I1_closed) ⟨rfl, hg.is.strip0⟩
    · simp only [r15_14, go_sem, ↓reduceIte, Nat.reduceEqDiff, Nat.reduceAdd, Nat.reduceLeDiff, Nat.reduceBEq, hg.is.frz]
      exact finish_new hw (hg.is.closed I1_closed) ⟨rfl, hg.is.strip0⟩
  split
  · rename_i hn
    have hn' : (formOf n.op).next = true := hn
    simp only [r15_4, intV, go_sem, ↓reduceIte, Nat.reduceEqDiff, Nat.reduceAdd, Nat.reduceLeDiff, Nat.reduceBEq]
    refine app_grow (l2 := [n.next]) I1_len I1_strip Grow.nil (.inr ⟨_, rfl⟩) (by simp) (by simp) (by simp [New_insN, New_nil]) ?_
    intro v' ext' wr' hg' hw' _ o ho
    simp only [ho, go_sem, ↓reduceIte, Nat.reduceEqDiff, Nat.reduceAdd, Nat.reduceLeDiff, Nat.reduceBEq]
    have := tail [] ⟨v', ext', wr'⟩ _ hg' hw' (by simp)
    rw [show kids n = [n.next] ++ (if n.form.branch then n.brl.map (·.next) else []) by simp [kids, NodeD.form, hn']]
    simpa only [W_seq, nodeV, formV, NodeD.form, intV, boolV, List.nil_append, List.cons_append] using this
  · rename_i hn
    have hn' : (formOf n.op).next = false := by simpa using hn
    have := tail [(15, .lit (.bool (formOf n.op).next))] ⟨.lit (.slice none 0 0), [.dead], insN B.length (insN B.length [])⟩ [] Grow.nil (by simp [New_insN, New_nil]) (by simp)
    rw [show kids n = [] ++ (if n.form.branch then n.brl.map (·.next) else []) by simp [kids, NodeD.form, hn']]
    simpa only [W_seq, nodeV, formV, NodeD.form, intV, boolV, List.nil_append, List.cons_append] using this
def BrD.bindl (b : BrD) : List Int := b.binds.getD []
def binds (n : NodeD) : List Int := (if n.form.binds then [n.var] else []) ++ (if n.form.branch then n.brl.flatMap (·.bindl) else [])
theorem flat_bound {l : List BrD} (h : ∀ b, b ∈ l → b.bindl.length ≤ 1000) : ∀ k, ((l.take k).flatMap (·.bindl)).length ≤ k * 1000 := by
  induction l with
  | nil => intro k; simp
  | cons a l ih =>
    intro k
    cases k with
    | zero => simp
    | succ k =>
      have h1 := ih (fun b hb => h b (by simp [hb])) k
      have h2 := h a (by simp)
      simp only [List.take_succ_cons, List.flatMap_cons, List.length_append]
      omega

theorem binds_ok (n : NodeD) (hl : n.brl.length ≤ 1000) (hbl : ∀ b, b ∈ n.brl → b.bindl.length ≤ 1000) : Ans 16 [.agg (nodeV n)] fun r => IsSl0 I1 r (binds n) := by
  rintro ⟨B, wr0⟩
  rw [WC_fn rfl rfl]
  refine ⟨rfl, ?_⟩
  simp only [c16, r16_0, r16_1, r16_2, r16_3, nodeV, intV, boolV, go_sem, ↓reduceIte, Nat.reduceEqDiff, Nat.reduceAdd, Nat.reduceLeDiff, Nat.reduceBEq, intsV_strip1, slV_strip1]
  refine (of_ok n.op _).mono ?_
  rintro r o ⟨rfl, rfl⟩
  simp only [go_sem, ↓reduceIte, Nat.reduceEqDiff, Nat.reduceAdd, Nat.reduceLeDiff, Nat.reduceBEq, formV, intV, boolV]
  have hbr := is_slV (f := brV) n.brs
  -- behind the first if
  have tail : ∀ (r : Tm) (s : St) (l : List Int), Grow I1 1 B s.ext s.x l → New B.length s.wr → l.length ≤ 1 →
    W env46 (.seq (.seq r16_5 (.cond (.t 22) (.seq r16_6 b16_13) .skip)) (.seq r16_14 (.frz 2 .ret))) ([(1, .imm (nodeV n)), (3, .imm (formV n.form)), (5, s.x)] ++ r) ⟨B ++ s.ext, s.wr⟩ (retQ [.tmp 2] false ⟨B, wr0⟩ fun r o => o = none ∧ IsSl0 I1 r (l ++ (if n.form.branch then n.brl.flatMap (·.bindl) else []))) := by
    intro r s l hg hw hle
    simp only [r16_5, r16_6, b16_13, formV, intV, boolV, go_sem, ↓reduceIte, Nat.reduceEqDiff, Nat.reduceAdd, Nat.reduceLeDiff, Nat.reduceBEq]
    split
    · simp only [nodeV, intV, boolV, go_sem, ↓reduceIte, Nat.reduceEqDiff, Nat.reduceAdd, Nat.reduceLeDiff, Nat.reduceBEq, hbr.is.len]
      refine W_for n.brl.length (fun k (s : St) => [(5, s.x), (24, slV brV n.brs), (25, .lit (.int .i64 n.brl.length)), (26, .lit (.int .i64 k))]) (fun _ s => ⟨B ++ s.ext, s.wr⟩) (fun k s => Grow I1 1 B s.ext s.x (l ++ (n.brl.take k).flatMap (·.bindl)) ∧ New B.length s.wr) ?_ s ⟨by simpa using hg, hw⟩ rfl rfl
      rintro k s hk ⟨hg, hw⟩
      rcases Nat.lt_or_ge k n.brl.length with hlt | hge
      · have hlt' : k < (n.brs.getD []).length := hlt
        have hd : (n.brs.getD []).drop k = n.brl[k] :: n.brl.drop (k + 1) := drop_lt hlt
        have hb2 : IsSl0 I1 (intsV n.brl[k].binds) _ := is_ints n.brl[k].binds
        simp only [l16_12, r16_7, r16_8, b16_10, r16_9, intV, go_sem, ↓reduceIte, Nat.reduceEqDiff, Nat.reduceAdd, Nat.reduceLeDiff, Nat.reduceBEq, hlt, hbr.is.iAddrN brV_len k hlt', hd, brV, hb2.strip1]
        have hsz := flat_bound hbl k
        have hk1 := hbl _ (List.getElem_mem hlt)
        refine app_grow (l2 := n.brl[k].bindl) I1_len I1_strip (hg.more _) hb2.is (by rw [List.length_append]; omega) (by rw [List.length_append]; omega) (by simp [New_insN, hw]) ?_
        intro v' ext' wr' hg' hw' _ o ho
        simp (disch := omega) only [ho, r16_11, go_sem, ↓reduceIte, Nat.reduceEqDiff, Nat.reduceAdd, Nat.reduceLeDiff, Nat.reduceBEq, i64_in]
        have e : l ++ (n.brl.take (k + 1)).flatMap (·.bindl) = l ++ (n.brl.take k).flatMap (·.bindl) ++ n.brl[k].bindl := by
          rw [List.take_succ_eq_append_getElem hlt, List.flatMap_append, List.append_assoc]
          simp only [List.flatMap_cons, List.flatMap_nil, List.append_nil]
          rfl
        exact ⟨hlt, ⟨v', ext', wr'⟩, ⟨by rw [e]; exact hg', hw'⟩, rfl, rfl⟩
      · rw [List.take_of_length_le hge] at hg
        simp only [l16_12, r16_7, r16_14, intV, go_sem, ↓reduceIte, Nat.reduceEqDiff, Nat.reduceAdd, Nat.reduceLeDiff, Nat.reduceBEq, Nat.not_lt.2 hge, hg.is.frz]
        exact finish_new hw (hg.is.closed I1_closed) ⟨rfl, hg.is.strip0⟩
    · simp only [r16_14, go_sem, ↓reduceIte, Nat.reduceEqDiff, Nat.reduceAdd, Nat.reduceLeDiff, Nat.reduceBEq, hg.is.frz]
      exact finish_new hw (hg.is.closed I1_closed) ⟨rfl, hg.is.strip0⟩
  split
  · rename_i hn
    have hn' : (formOf n.op).binds = true := hn
    simp only [r16_4, intV, go_sem, ↓reduceIte, Nat.reduceEqDiff, Nat.reduceAdd, Nat.reduceLeDiff, Nat.reduceBEq]
    refine app_grow (l2 := [n.var]) I1_len I1_strip Grow.nil (.inr ⟨_, rfl⟩) (by simp) (by simp) (by simp [New_insN, New_nil]) ?_
    intro v' ext' wr' hg' hw' _ o ho
    simp only [ho, go_sem, ↓reduceIte, Nat.reduceEqDiff, Nat.reduceAdd, Nat.reduceLeDiff, Nat.reduceBEq]
    have := tail [] ⟨v', ext', wr'⟩ _ hg' hw' (by simp)
    rw [show binds n = [n.var] ++ (if n.form.branch then n.brl.flatMap (·.bindl) else []) by simp [binds, NodeD.form, hn']]
    simpa only [W_seq, nodeV, formV, NodeD.form, intV, boolV, List.nil_append, List.cons_append] using this
  · rename_i hn
    have hn' : (formOf n.op).binds = false := by simpa using hn
    have := tail [(15, .lit (.bool (formOf n.op).binds))] ⟨.lit (.slice none 0 0), [.dead], insN B.length (insN B.length [])⟩ [] Grow.nil (by simp [New_insN, New_nil]) (by simp)
    rw [show binds n = [] ++ (if n.form.branch then n.brl.flatMap (·.bindl) else []) by simp [binds, NodeD.form, hn']]
    simpa only [W_seq, nodeV, formV, NodeD.form, intV, boolV, List.nil_append, List.cons_append] using this
end Go.Proofs.Ytlliieplgdlldaa
