/- What the functions of law 46 answer, by the evaluator: Clone, Uses.
   Conditions: those that each theorem names. -/
import Derived.Test.YtlliieplgdlldaaCc
namespace Go.Proofs.Ytlliieplgdlldaa
open Go Go.Ev
set_option linter.unusedSimpArgs false
set_option linter.unusedVariables false
set_option maxRecDepth 10000

theorem isNil_is {α : Type} {f : α → List V} {v : V} {l : List α} (h : IsSl f v l) : ∃ b, eqV .slice v (.lit (.slice .none 0 0)) = some b ∧ (b = true → v = .lit (.slice .none 0 0) ∧ l = []) ∧ (b = false → ∃ own, v = .sl (l.flatMap f) l.length own) := by
  rcases h with ⟨rfl, rfl⟩ | ⟨own, rfl⟩
  · exact ⟨true, rfl, fun _ => ⟨rfl, rfl⟩, fun h => by cases h⟩
  · exact ⟨false, rfl, fun h => by (cases h), fun _ => ⟨own, rfl⟩⟩

/-- a slice of one's own, in the block after those of B, or nothing -/
inductive Mine (B : List ABlk) : V → List Int → List ABlk → Prop
  | nil : Mine B (.lit (.slice .none 0 0)) [] []
  | none : Mine B (.sl [] 0 (.cap 0)) [] []
  | row (l : List Int) (h : l ≠ []) : Mine B (.msl B.length 0 l.length 1 none) l [.cells (l.flatMap I1)]

theorem clone_ok {v : V} {l : List Int} (h : IsSl I1 v l) (hl : l.length ≤ 1000000) (H : Heap) : WC env46 34 [v] H fun r o => ∃ e, Mine H.blks r l e ∧ o.getD H = ⟨H.blks ++ e, H.wr⟩ := by
  rw [WC_fn rfl rfl]
  refine ⟨rfl, ?_⟩
  obtain ⟨b, hb, hb1, hb2⟩ := isNil_is h
  simp only [c34, r34_0, r34_1, go_sem, ↓reduceIte, Nat.reduceEqDiff, Nat.reduceAdd, Nat.reduceLeDiff, Nat.reduceBEq, hb]
  cases b with
  | true =>
    obtain ⟨rfl, rfl⟩ := hb1 rfl
    simp only [r34_2, go_sem, ↓reduceIte, Nat.reduceEqDiff, Nat.reduceAdd, Nat.reduceLeDiff, Nat.reduceBEq]
    exact finish_new (New_nil.2 trivial) rfl ⟨[], .nil, by simp⟩
  | false =>
    simp only [r34_3, go_sem, ↓reduceIte, Nat.reduceEqDiff, Nat.reduceAdd, Nat.reduceLeDiff, Nat.reduceBEq, appV, src_is I1_len h]
    by_cases h0 : l.length = 0
    · have := List.eq_nil_of_length_eq_zero h0
      subst this
      simp only [List.length_nil, go_sem, ↓reduceIte, Nat.reduceEqDiff, Nat.reduceAdd, Nat.reduceLeDiff, Nat.reduceBEq]
      exact finish_new (New_nil.2 trivial) rfl ⟨[], .none, by simp⟩
    · have hm : 0 < l.length := by omega
      have hs : l.length * 8 ≤ 140737488355328 ∧ l.length ≤ 140737488355328 := by omega
      simp only [h0, hm, hs, Nat.zero_mul, go_sem, ↓reduceIte, Nat.reduceEqDiff, Nat.reduceAdd, Nat.reduceLeDiff, Nat.reduceBEq]
      have hne : l ≠ [] := by rintro rfl; simp at h0
      refine ⟨[.cells (l.flatMap I1)], ?_, ?_⟩
      · simp only [finish, List.filter_nil, List.all_nil, Bool.and_true, V.closed, go_sem, ↓reduceIte, Nat.reduceEqDiff, Nat.reduceAdd, Nat.reduceLeDiff, Nat.reduceBEq, Nat.lt_irrefl]
        exact .row l hne
      · simp [finish, V.closed, addN]

/-! ### a slice of one's own -/
def Own1 (B ext : List ABlk) (v : V) (l : List Int) : Prop := (l = [] ∧ (v = .lit (.slice .none 0 0) ∨ v = .sl [] 0 (.cap 0))) ∨ (l ≠ [] ∧ ∃ i, v = .msl (B.length + i) 0 l.length 1 none ∧ ext[i]? = some (.cells (l.flatMap I1)))
theorem Mine.own {B ext e : List ABlk} {v : V} {l : List Int} (h : Mine (B ++ ext) v l e) : Own1 B (ext ++ e) v l := by
  cases h with
  | nil => exact .inl ⟨rfl, .inl rfl⟩
  | none => exact .inl ⟨rfl, .inr rfl⟩
  | row l h => exact .inr ⟨h, ext.length, by rw [List.length_append], by simp⟩
theorem Own1.len {B ext : List ABlk} {v : V} {l : List Int} (h : Own1 B ext v l) : lenV v = some l.length := by
  rcases h with ⟨rfl, rfl | rfl⟩ | ⟨_, i, rfl, _⟩ <;> rfl
theorem I1_get (l : List Int) (k : Nat) : (l.flatMap I1)[k]? = (l[k]?).map intV := by
  induction l generalizing k with
  | nil => simp
  | cons a l ih => cases k <;> simp [I1, ih, intV]
theorem Own1.read {B ext : List ABlk} {v : V} {l : List Int} (h : Own1 B ext v l) {k : Nat} (hk : k < l.length) : ∃ a, iAddrV 1 v (.lit (.int .i64 k)) = some a ∧ ∀ wr, loadV ⟨B ++ ext, wr⟩ none a = some (intV l[k]) := by
  rcases h with ⟨rfl, _⟩ | ⟨_, i, rfl, hi⟩
  · simp at hk
  · refine ⟨_, by rw [iAddr_msl, if_pos (by omega)], fun wr => ?_⟩
    have e : cellsAt (B ++ ext) (B.length + i) = some (l.flatMap I1) := by rw [cellsAt_app]; exact cellsAt_of hi
    rw [load_ref, e, Option.bind_some, part_none, I1_get]
    simp [hk]
theorem Own1.keep {B ext ext' : List ABlk} {v : V} {l : List Int} (h : Own1 B ext v l) (hk : ∀ (j : Nat) (b : ABlk), ext[j]? = some b → b.isRow = false → ext'[j]? = some b) : Own1 B ext' v l :=
  h.imp id fun ⟨a, i, h1, h2⟩ => ⟨a, i, h1, hk _ _ h2 rfl⟩

theorem app_own {B ext : List ABlk} {wr : List Nat} {x y : V} {l l2 : List Int} (hx : Own1 B ext x l) (hy : IsSl I1 y l2) (hb : l.length + l2.length ≤ 1000000) (hw : New B.length wr) {P : V × Option Heap → Prop}
    (h : ∀ v' ext' wr', Own1 B ext' v' (l ++ l2) → New B.length wr' → ∀ o : Option Heap, o.getD ⟨B ++ ext, wr⟩ = ⟨B ++ ext', wr'⟩ → P (v', o)) :
    Opt (appV ⟨B ++ ext, wr⟩ true 1 8 x y) P := by
  simp only [appV, src_is I1_len hy]
  by_cases h0 : l2.length = 0
  · have : l2 = [] := List.eq_nil_of_length_eq_zero h0
    subst this
    simp only [List.length_nil, if_true]
    rcases hx with ⟨rfl, rfl | rfl⟩ | ⟨hne, i, rfl, hi⟩
    · exact Opt_some.2 (h _ ext wr (.inl ⟨rfl, .inl rfl⟩) hw none rfl)
    · exact Opt_some.2 (h _ ext wr (.inl ⟨rfl, .inr rfl⟩) hw none rfl)
    · exact Opt_some.2 (h _ ext wr (by rw [List.append_nil]; exact .inr ⟨hne, i, rfl, hi⟩) hw none rfl)
  · rw [if_neg h0]
    have hne2 : l2 ≠ [] := by rintro rfl; simp at h0
    have hm : 0 < l2.length := by omega
    have hs : l2.length * 8 ≤ 140737488355328 ∧ l2.length ≤ 140737488355328 := by omega
    rcases hx with ⟨rfl, rfl | rfl⟩ | ⟨hne, i, rfl, hi⟩
    · simp only [Nat.zero_add, hs, go_sem, ↓reduceIte, Nat.reduceEqDiff, Nat.reduceAdd, Nat.reduceLeDiff, Nat.reduceBEq, List.length_nil, Nat.zero_mul]
      exact h _ (ext ++ [.cells (l2.flatMap I1)]) wr (.inr ⟨hne2, ext.length, by simp [List.length_append], by simp⟩) hw _ (by simp [Heap.push])
    · simp only [Nat.zero_add, hs, hm, go_sem, ↓reduceIte, Nat.reduceEqDiff, Nat.reduceAdd, Nat.reduceLeDiff, Nat.reduceBEq, List.length_nil, Nat.zero_mul]
      exact h _ (ext ++ [.cells (l2.flatMap I1)]) wr (.inr ⟨hne2, ext.length, by simp [List.length_append], by simp⟩) hw _ (by simp [Heap.push])
    · have hs : (l.length + l2.length) * 8 ≤ 140737488355328 ∧ l.length + l2.length ≤ 140737488355328 := by omega
      simp only [get_app, hi, hs, and_self, if_true, flatMap_len I1_len]
      refine Opt_some.2 (h _ (ext.set i .dead ++ [.cells ((l ++ l2).flatMap I1)]) (insN (B.length + i) wr) (.inr ⟨by simp [hne], ext.length, by simp [List.length_append, Heap.write], by simp⟩) (New_insN.2 ⟨by omega, hw⟩) _ (by simp [Heap.push, Heap.write]))

theorem Own1.frz {B ext : List ABlk} {v : V} {l : List Int} (h : Own1 B ext v l) {wr : List Nat} (hw : New B.length wr) : ∃ v' ext' wr', frzV ⟨B ++ ext, wr⟩ v = some (v', ⟨B ++ ext', wr'⟩) ∧ IsSl I1 v' l ∧ New B.length wr' := by
  rcases h with ⟨rfl, rfl | rfl⟩ | ⟨_, i, rfl, hi⟩
  · exact ⟨_, ext, wr, rfl, .nil, hw⟩
  · exact ⟨_, ext, wr, rfl, .inr ⟨_, rfl⟩, hw⟩
  · have e : cellsAt (B ++ ext) (B.length + i) = some (l.flatMap I1) := by rw [cellsAt_app]; exact cellsAt_of hi
    refine ⟨_, ext.set i .dead, insN (B.length + i) wr, by rw [frz_msl, e, Option.map_some, Heap.write, set_app], .inr ⟨.none, ?_⟩, New_insN.2 ⟨by omega, hw⟩⟩
    rw [List.drop_zero, List.take_of_length_le (by rw [flatMap_len I1_len]; exact Nat.le_refl _), map_flat I1_strip]

def NodeD.argl (n : NodeD) : List Int := n.args.getD []
def NodeD.morel (n : NodeD) : List Int := n.more.getD []
def uses (n : NodeD) : List Int := if isOp n.op = false ∨ n.form.args = 0 then [] else if n.form.more = false then n.argl else (n.argl ++ n.morel).filter fun v => decide (0 ≤ v)

theorem uses_ok (n : NodeD) (ha : n.argl.length ≤ 1000) (hm : n.morel.length ≤ 1000) : Ans 26 [.agg (nodeV n)] fun r => IsSl0 I1 r (uses n) := by
  rintro ⟨B, wr0⟩
  rw [WC_fn rfl rfl]
  refine ⟨rfl, ?_⟩
  simp only [c26, r26_0, r26_1, nodeV, intV, boolV, go_sem, ↓reduceIte, Nat.reduceEqDiff, Nat.reduceAdd, Nat.reduceLeDiff, Nat.reduceBEq, intsV_strip1, slV_strip1]
  refine (of_ok n.op _).mono ?_
  rintro r o ⟨rfl, rfl⟩
  simp only [go_sem, ↓reduceIte, Nat.reduceEqDiff, Nat.reduceAdd, Nat.reduceLeDiff, Nat.reduceBEq, formV, intV, boolV]
  have hargs : IsSl0 I1 (intsV n.args) n.argl := is_ints n.args
  have hmore : IsSl0 I1 (intsV n.more) n.morel := is_ints n.more
  by_cases h0 : isOp n.op = false
  · have hu : uses n = [] := by simp [uses, h0]
    simp only [r26_2, r26_3, go_sem, ↓reduceIte, Nat.reduceEqDiff, Nat.reduceAdd, Nat.reduceLeDiff, Nat.reduceBEq, h0]
    rw [hu]
    exact finish_new (by simp [New_insN, New_nil]) rfl ⟨rfl, .inl ⟨rfl, rfl⟩⟩
  have h0' : isOp n.op = true := by simpa using h0
  by_cases h1 : n.form.args = 0
  · have hu : uses n = [] := by simp [uses, h1]
    have h1' : (formOf n.op).args = 0 := h1
    simp only [r26_2, r26_3, go_sem, ↓reduceIte, Nat.reduceEqDiff, Nat.reduceAdd, Nat.reduceLeDiff, Nat.reduceBEq, h0', h1']
    rw [hu]
    exact finish_new (by simp [New_insN, New_nil]) rfl ⟨rfl, .inl ⟨rfl, rfl⟩⟩
  have h1' : ¬ (formOf n.op).args = 0 := h1
  by_cases h2 : n.form.more = false
  · have hu : uses n = n.argl := by simp [uses, h0, h1, h2]
    have h2' : (formOf n.op).more = false := h2
    simp only [r26_2, r26_4, r26_5, go_sem, ↓reduceIte, Nat.reduceEqDiff, Nat.reduceAdd, Nat.reduceLeDiff, Nat.reduceBEq, h0', h1', h2']
    refine (clone_ok hargs.is (by omega) _).mono ?_
    rintro r o ⟨e, he, ho⟩
    simp only [ho, go_sem, ↓reduceIte, Nat.reduceEqDiff, Nat.reduceAdd, Nat.reduceLeDiff, Nat.reduceBEq]
    have hown : Own1 B (.dead :: e) r n.argl := he.own (ext := [.dead])
    obtain ⟨v', ext', wr', e1, e2, e3⟩ := hown.frz (wr := insN B.length (insN B.length [])) (by simp [New_insN, New_nil])
    simp only [e1, go_sem, ↓reduceIte, Nat.reduceEqDiff, Nat.reduceAdd, Nat.reduceLeDiff, Nat.reduceBEq]
    rw [hu]
    exact finish_new e3 (e2.closed I1_closed) ⟨rfl, e2.strip0⟩
  · have h2' : (formOf n.op).more = true := by simpa [NodeD.form] using h2
    have hu : uses n = (n.argl ++ n.morel).filter fun v => decide (0 ≤ v) := by simp [uses, h0, h1, h2]
    simp only [r26_2, r26_4, r26_6, r26_7, go_sem, ↓reduceIte, Nat.reduceEqDiff, Nat.reduceAdd, Nat.reduceLeDiff, Nat.reduceBEq, h0', h1', h2']
    refine (clone_ok hargs.is (by omega) _).mono ?_
    rintro r o ⟨e, he, ho⟩
    have hown : Own1 B (.dead :: e) r n.argl := he.own (ext := [.dead])
    simp only [ho, go_sem, ↓reduceIte, Nat.reduceEqDiff, Nat.reduceAdd, Nat.reduceLeDiff, Nat.reduceBEq]
    refine app_own hown hmore.is (by omega) (by simp [New_insN, New_nil]) ?_
    intro v' ext' wr' hv hw o2 ho2
    rw [hu]
    have hlen : (n.argl ++ n.morel).length ≤ 2000 := by rw [List.length_append]; omega
    generalize n.argl ++ n.morel = L at hv hlen ⊢
    simp only [ho2, go_sem, ↓reduceIte, Nat.reduceEqDiff, Nat.reduceAdd, Nat.reduceLeDiff, Nat.reduceBEq, b26_15, hv.len]
    refine W_for L.length (fun k (s : St) => [(5, s.x), (32, v'), (33, .lit (.int .i64 L.length)), (34, .lit (.int .i64 k))]) (fun _ s => ⟨B ++ s.ext, s.wr⟩) (fun k s => Grow I1 1 B s.ext s.x ((L.take k).filter fun v => decide (0 ≤ v)) ∧ New B.length s.wr ∧ Own1 B s.ext v' L) ?_ ⟨_, ext', wr'⟩ ⟨Grow.nil, hw, hv⟩ rfl rfl
    rintro k s hk ⟨hg, hw, hv⟩
    rcases Nat.lt_or_ge k L.length with hlt | hge
    · obtain ⟨a, e1, e2⟩ := hv.read hlt
      have ht : L.take (k + 1) = L.take k ++ [L[k]] := List.take_succ_eq_append_getElem hlt
      by_cases hp : L[k] ≥ 0
      · simp only [l26_14, r26_8, r26_9, r26_10, r26_11, b26_12, intV, go_sem, ↓reduceIte, Nat.reduceEqDiff, Nat.reduceAdd, Nat.reduceLeDiff, Nat.reduceBEq, hlt, e1, e2, hp]
        have hsz := List.length_filter_le (fun v => decide (0 ≤ v)) (L.take k)
        have hsz2 : (L.take k).length ≤ k := by simp; omega
        have hL := hlen
        refine app_grow (l2 := [L[k]]) I1_len I1_strip hg (.inr ⟨_, rfl⟩) (by simp only [List.length_cons, List.length_nil]; omega) (by simp only [List.length_cons, List.length_nil]; omega) hw ?_
        intro v2 ext2 wr2 hg2 hw2 hk2 o ho
        simp (disch := omega) only [ho, r26_13, go_sem, ↓reduceIte, Nat.reduceEqDiff, Nat.reduceAdd, Nat.reduceLeDiff, Nat.reduceBEq, i64_in]
        refine ⟨hlt, ⟨v2, ext2, wr2⟩, ⟨?_, hw2, hv.keep hk2⟩, rfl, rfl⟩
        rw [ht, List.filter_append]
        have : [L[k]].filter (fun v => decide (0 ≤ v)) = [L[k]] := by simp; omega
        rw [this]
        exact hg2
      · simp (disch := omega) only [l26_14, r26_8, r26_9, r26_10, r26_13, b26_12, intV, go_sem, ↓reduceIte, Nat.reduceEqDiff, Nat.reduceAdd, Nat.reduceLeDiff, Nat.reduceBEq, hlt, e1, e2, hp, i64_in]
        refine ⟨hlt, s, ⟨?_, hw, hv⟩, rfl, rfl⟩
        rw [ht, List.filter_append]
        have : [L[k]].filter (fun v => decide (0 ≤ v)) = [] := by simp; omega
        rw [this, List.append_nil]
        exact hg
    · rw [List.take_of_length_le hge] at hg
      simp only [l26_14, r26_8, r26_16, intV, go_sem, ↓reduceIte, Nat.reduceEqDiff, Nat.reduceAdd, Nat.reduceLeDiff, Nat.reduceBEq, Nat.not_lt.2 hge, hg.is.frz]
      exact finish_new hw (hg.is.closed I1_closed) ⟨rfl, hg.is.strip0⟩
end Go.Proofs.Ytlliieplgdlldaa
