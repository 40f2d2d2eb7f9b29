/- What the functions of law 46 answer, by the evaluator: live.of, live.At, live.Interfere.
   Conditions: those that each theorem names. -/
import Derived.Test.YtlliieplgdlldaaCl
namespace Go.Proofs.Ytlliieplgdlldaa
open Go Go.Ev
set_option linter.unusedSimpArgs false
set_option linter.unusedVariables false
set_option maxRecDepth 10000

theorem is_cells {v : V} {l : List Int} (h : IsSl I1 v l) : v.cells = [v] ∧ v.isCell = true ∧ boxable v = true ∧ IsSl0 I1 v.strip1 l := by
  rcases h with ⟨rfl, rfl⟩ | ⟨own, rfl⟩
  · exact ⟨rfl, rfl, rfl, .inl ⟨rfl, rfl⟩⟩
  · exact ⟨rfl, rfl, rfl, .inr rfl⟩
mutual
theorem Tr.nodes_eq : ∀ t : Tr, t.nodes = t.pos :: t.subs
  | .mk p n ks => by simp only [Tr.nodes, Tr.pos, Tr.subs, Ks.nodes_eq ks]
theorem Ks.nodes_eq : ∀ ks : Ks, ks.nodes = ks.subs
  | .nil => rfl
  | .cons b t r => by simp only [Ks.nodes, Ks.subs, Tr.nodes_eq t, Ks.nodes_eq r, List.cons_append]
end
theorem Shaped.nodup {f : FunD} {t : Tr} (h : Shaped f t) : t.nodes.Nodup := by
  rw [Tr.nodes_eq, List.nodup_cons]
  refine ⟨fun hm => ?_, h.subs.2⟩
  have h1 := (h.subs.1 _ hm).2.2
  have hb := h.ok.pos
  rw [h.pos] at h1 hb
  rw [List.getElem?_set_self (by simp; omega)] at h1
  cases h1

/-- what live.of leaves behind -/
def Lived (f : FunD) (t : Tr) (B : List ABlk) (ext : List ABlk) : Prop :=
  ∃ q s vs ss tk, LvH f B.length q ext s vs ss tk ∧ t.At s.A ∧ s.S.length ≤ 10000 ∧ (∀ l, l ∈ s.S → l.length ≤ 100000) ∧ ∀ a b, (∃ l, l ∈ s.S ∧ a ∈ l ∧ b ∈ l) ↔ ((0 ≤ a ∧ a < f.params) ∧ (0 ≤ b ∧ b < f.params)) ∨ t.Meet a b

theorem of_live {f : FunD} {t : Tr} (hf : FewD f) (hw : Well f t) (H : Heap) : WC env46 18 [.agg (funV f)] H fun r o => r = .tup [.ref (H.blks.length + 2) 0, intV 0] ∧ ∃ ext wr', o.getD H = ⟨H.blks ++ ext, wr'⟩ ∧ (∀ b, b ∈ wr' → b ∈ H.wr ∨ H.blks.length ≤ b) ∧ Lived f t H.blks ext := by
  obtain ⟨B, wr0⟩ := H
  refine WC_fnK keeps46 rfl rfl rfl ?_
  simp only [c18, r18_0, r18_1, go_sem, ↓reduceIte, Nat.reduceEqDiff, Nat.reduceAdd, Nat.reduceLeDiff, Nat.reduceBEq, funV_strip2, fun7]
  refine (maps_ok hf _).mono ?_
  rintro r o ⟨rfl, vn, vv, e, ln, lv, rfl, h1, h2, he, h3, h4⟩
  by_cases e0 : e = 0
  rotate_left
  · exact absurd ⟨hw.par, .inr ⟨t, hw.tree⟩⟩ (h4 e0)
  subst e0
  have hext := hw.ext
  have hpar := hw.par
  obtain ⟨N, hN⟩ : ∃ N : Nat, f.params = N := ⟨f.params.toNat, by omega⟩
  have hnv := hf.vars
  simp only [go_sem, ↓reduceIte, Nat.reduceEqDiff, Nat.reduceAdd, Nat.reduceLeDiff, Nat.reduceBEq, ne_eq, r18_2, intV, fun6, boolV, hext]
  simp only [r18_4, r18_5, r18_6, b18_13, go_sem, ↓reduceIte, Nat.reduceEqDiff, Nat.reduceAdd, Nat.reduceLeDiff, Nat.reduceBEq, fun1, intV]
  refine W_for N (fun k (st : Lk) => [(1, .imm (funV f)), (7, .imm [.ref (B.length + 2) 0]), (8, st.av), (28, .lit (.int .i64 f.params)), (29, .lit (.int .i64 k))])
    (fun _ st => ⟨B ++ st.ext, st.wr⟩)
    (fun k st => ∃ tp, GrowG I1 B.length st.ext st.av (pars k) tp ∧ New B.length st.wr ∧ st.ext[0]? = some (.map []) ∧ st.ext[1]? = some (.map []) ∧ st.ext[2]? = some (.cells [.map B.length, .map (B.length + 1), .lit (.slice none 0 0)])) ?_
    ⟨[.map [], .map [], .cells [.map B.length, .map (B.length + 1), .lit (.slice none 0 0)], .dead], insN (B.length + 3) (insN (B.length + 3) []), ⟨[], []⟩, .lit (.slice none 0 0), []⟩
    ⟨none, .nil, by simp [New_insN, New_nil], rfl, rfl, rfl⟩ rfl rfl
  rintro k ⟨ext, wr, sx, pv, ax⟩ hk ⟨tp, i1, i2, i3, i4, i5⟩
  simp only at i1 i2 i3 i4 i5
  have hl3 : 3 ≤ ext.length := by
    have := (List.getElem?_eq_some_iff.1 i5).1
    omega
  have hpl : (pars k).length = k := by simp [pars]
  rcases Nat.lt_or_ge k N with hlt | hge
  · have hk1 : (k : Int) < f.params := by omega
    simp (disch := omega) only [l18_12, r18_7, r18_8, r18_9, b18_10, go_sem, ↓reduceIte, Nat.reduceEqDiff, Nat.reduceAdd, Nat.reduceLeDiff, Nat.reduceBEq, hk1]
    refine app_gen (l2 := [(k : Int)]) I1_len rfl i1 (.inr ⟨_, rfl⟩) (by simp only [List.length_cons, List.length_nil]; omega) (by omega) i2 ?_
    intro v2 ext2 wr2 tp2 hg2 hle2 hfr2 htk2 hw2 o2 ho2
    simp (disch := omega) only [ho2, go_sem, ↓reduceIte, Nat.reduceEqDiff, Nat.reduceAdd, Nat.reduceLeDiff, Nat.reduceBEq, r18_11, i64_in]
    have key : ∀ (j : Nat) (b : ABlk), ext[j]? = some b → b.isRow = false → ext2[j]? = some b := by
      intro j b hb hr
      rw [hfr2 j (List.getElem?_eq_some_iff.1 hb).1 (i1.ne hb hr)]
      exact hb
    exact ⟨hlt, ⟨ext2, wr2, sx, v2, ax⟩, ⟨tp2, by rw [pars_succ]; exact hg2, hw2, key _ _ i3 rfl, key _ _ i4 rfl, key _ _ i5 rfl⟩, rfl, rfl⟩
  · have hkN : k = N := by omega
    subst hkN
    have hk1 : ¬ (k : Int) < f.params := by omega
    have hc2 := cellsAt_of i5
    obtain ⟨c1, c2, c3, c4⟩ := is_cells i1.is
    simp only [l18_12, r18_7, r18_14, go_sem, ↓reduceIte, Nat.reduceEqDiff, Nat.reduceAdd, Nat.reduceLeDiff, Nat.reduceBEq, hk1, hc2, c1, c2]
    refine app_gen (f := V1) (l := []) (l2 := [pv.strip1]) V1_len (by simp only [V1, List.flatMap_cons, List.flatMap_nil, List.append_nil, List.map_cons, List.map_nil, c4.strip1]) .nil (.inr ⟨_, rfl⟩) (by simp) (by omega) i2 ?_
    intro v2 ext2 wr2 tk2 hg2 hle2 hfr2 htk2 hw2 o2 ho2
    have key : ∀ (j : Nat) (b : ABlk), ext[j]? = some b → ext2[j]? = some b := by
      intro j b hb
      rw [hfr2 j (List.getElem?_eq_some_iff.1 hb).1 (by simp)]
      exact hb
    have hc22 := cellsAt_of (key _ _ i5)
    have hv2c : v2.cells = [v2] := hg2.is.cells
    have hv2b : boxable v2 = true := hg2.is.box
    have hl2 := hle2
    simp only [ho2, go_sem, ↓reduceIte, Nat.reduceEqDiff, Nat.reduceAdd, Nat.reduceLeDiff, Nat.reduceBEq, hc22, hv2c, hv2b, r18_15, r18_16, r18_17, fun5, List.length_set]
    -- the heap as the visit takes it
    have hL : LvH f B.length ext2.length (ext2.set 2 (.cells [.map B.length, .map (B.length + 1), v2]) ++ [.cells [liveV f B.length ext2.length]]) ⟨[], [pars k]⟩ v2 ([] ++ [pv.strip1]) tk2 := by
      refine ⟨by omega, ⟨[], ?_, trivial⟩, ⟨[], [], ?_, trivial⟩, ?_, (hg2.set (key _ _ i5) rfl _).more _, .cons c4 .nil, ?_⟩
      · rw [List.getElem?_append_left (by rw [List.length_set]; omega), List.getElem?_set_ne (by decide)]; exact key _ _ i3
      · rw [List.getElem?_append_left (by rw [List.length_set]; omega), List.getElem?_set_ne (by decide)]; exact key _ _ i4
      · rw [List.getElem?_append_left (by rw [List.length_set]; omega), List.getElem?_set_self (by omega)]
      · rw [List.getElem?_append_right (by rw [List.length_set]; exact Nat.le_refl _), List.length_set, Nat.sub_self]; rfl
    generalize hE : ext2.set 2 (.cells [.map B.length, .map (B.length + 1), v2]) = E at hL ⊢
    have hEl : ext2.length = E.length := by rw [← hE, List.length_set]
    rw [hEl] at hL ⊢
    have hvis : ∀ X : List V, X = [liveV f B.length E.length] → X[0]? = some (liveV f B.length E.length) := fun X h => by rw [h]; rfl
    simp only [go_sem, ↓reduceIte, Nat.reduceEqDiff, Nat.reduceAdd, Nat.reduceLeDiff, Nat.reduceBEq, fun5]
    have hnd := hw.tree.nodup
    have htl := hw.tree.nodes_len
    have hnc := hf.code
    refine (show WC env46 24 [intV f.body, .imm (funV f), .ref (B.length + E.length) 0, .imm [.ref (B.length + 2) 0]] ⟨B ++ (E ++ [.cells [liveV f B.length E.length]]), insN (B.length + E.length) (insN (B.length + 2) wr2)⟩ _ from ?_)
    rw [← hw.tree.pos]
    refine (lvisit_ok hf t.nodes.length t (Nat.le_refl _) hw.tree.ok hnd hL (by simp [New_insN, hw2]) (by simp only [List.length_cons, List.length_nil]; omega) (by omega)).mono ?_
    rintro r o3 ⟨s', ext', wr', vs', ss', tk', ho3, hw3, hL3, hle3, hfr3, htk3, hpost⟩
    have ho3' : o3.getD ⟨B ++ (E ++ [.cells [.fn 24 [] [.imm (funV f), .ref (B.length + E.length) 0, .imm [.ref (B.length + 2) 0]]]]), insN (B.length + E.length) (insN (B.length + 2) wr2)⟩ = ⟨B ++ ext', wr'⟩ := ho3
    simp only [ho3', go_sem, ↓reduceIte, Nat.reduceEqDiff, Nat.reduceAdd, Nat.reduceLeDiff, Nat.reduceBEq, r18_18]
    refine fin_any fun hk o D wrD hoD hD hcase hwr => ?_
    have hst : (V.tup [.ref (B.length + 2) 0, .lit (.int .i64 0)]).strip = .tup [.ref (B.length + 2) 0, .lit (.int .i64 0)] := rfl
    simp only [Bool.false_eq_true, if_false, hst] at hcase ⊢
    rcases hcase with rfl | ⟨_, hcl, _⟩
    · refine ⟨trivial, ext', wrD, hoD, fun b hb => (hwr b hb).imp id (hw3 b), _, s', vs', ss', tk', hL3, hpost.at_, ?_, hpost.small (fun l hl => by rw [List.mem_singleton] at hl; subst hl; omega), ?_⟩
      · obtain ⟨Sn, q1, q2, q3⟩ := hpost.sets
        rw [q1]
        simp only [List.length_append, List.length_cons, List.length_nil]
        omega
      obtain ⟨Sn, q1, q2, q3⟩ := hpost.sets
      intro a b
      rw [q1]
      constructor
      · rintro ⟨l, hl, ha, hb⟩
        rcases List.mem_append.1 hl with hl | hl
        · simp only [List.mem_singleton] at hl
          subst hl
          rw [mem_pars] at ha hb
          exact .inl ⟨by omega, by omega⟩
        · exact .inr ((q3 a b).1 ⟨l, hl, ha, hb⟩)
      · rintro (⟨ha, hb⟩ | h)
        · exact ⟨pars k, by simp, by rw [mem_pars]; omega, by rw [mem_pars]; omega⟩
        · obtain ⟨l, hl, ha, hb⟩ := (q3 a b).2 h
          exact ⟨l, by simp [hl], ha, hb⟩
    · exfalso
      simp [V.closed, V.closedL] at hcl
      omega

mutual
/-- u stands in a tree -/
def Tr.Has : Tr → Tr → Prop
  | .mk p n ks, u => u = .mk p n ks ∨ ks.Has u
def Ks.Has : Ks → Tr → Prop
  | .nil, _ => False
  | .cons _ t r, u => t.Has u ∨ r.Has u
end
mutual
theorem Tr.At.has {A : List (Int × List Int)} {u : Tr} : ∀ t : Tr, t.At A → t.Has u → u.At A
  | .mk p n ks, h, h' => by
    rcases h' with rfl | h'
    · exact h
    · exact Ks.At.has ks h.2 h'
theorem Ks.At.has {A : List (Int × List Int)} {u : Tr} : ∀ ks : Ks, ks.At A → ks.Has u → u.At A
  | .nil, _, h => h.elim
  | .cons b t r, h, h' => h'.elim (Tr.At.has t h.1) (Ks.At.has r h.2)
end
mutual
theorem Tr.Has.len {u : Tr} : ∀ t : Tr, t.Has u → u.nodes.length ≤ t.nodes.length
  | .mk p n ks, h => by
    rcases h with rfl | h
    · exact Nat.le_refl _
    · have := Ks.Has.len ks h
      simp only [Tr.nodes, List.length_cons]
      omega
theorem Ks.Has.len {u : Tr} : ∀ ks : Ks, ks.Has u → u.nodes.length ≤ ks.nodes.length
  | .nil, h => h.elim
  | .cons b t r, h => by
    simp only [Ks.nodes, List.length_append]
    rcases h with h | h
    · have := Tr.Has.len t h; omega
    · have := Ks.Has.len r h; omega
end

theorem at_ok {f : FunD} {t u : Tr} (hf : FewD f) (hw : Well f t) (hu : t.Has u) : Ans 13 [.agg (funV f), intV u.pos] fun r => ∃ vl l, r = .tup [vl, intV 0] ∧ IsSl0 I1 vl l ∧ (∀ x, x ∈ l ↔ u.Live x) ∧ l.length ≤ 100000 := by
  rintro ⟨B, wr0⟩
  rw [WC_fn rfl rfl]
  refine ⟨rfl, ?_⟩
  simp only [c13, r13_0, r13_1, go_sem, ↓reduceIte, Nat.reduceEqDiff, Nat.reduceAdd, Nat.reduceLeDiff, Nat.reduceBEq, funV_strip2, fun7]
  refine (of_live hf hw _).mono ?_
  rintro r o ⟨rfl, ext, wr', ho, hwr, q, s, vs, ss, tk, hL, hat, hS, hsm, hmeet⟩
  simp only at ho hwr hL
  have hw' : New B.length wr' := fun b hb => (hwr b hb).elim (fun h => by cases h) id
  obtain ⟨l, hl1, hl2, hl3⟩ := (Tr.At.has t hat hu).root
  obtain ⟨es, hes, hrep⟩ := hL.at_
  obtain ⟨v, hv1, hv2⟩ := (find_rep hrep).2 l hl1
  have hm : mapAt ext 0 = some es := mapAt_of hes
  have hfc := cellsAt_of hL.facts
  have hlen := Tr.Has.len t hu
  have htl := hw.tree.nodes_len
  have hnc := hf.code
  simp only [ho, go_sem, ↓reduceIte, Nat.reduceEqDiff, Nat.reduceAdd, Nat.reduceLeDiff, Nat.reduceBEq, ne_eq, r13_2, r13_4, r13_5, r13_7, intV, hfc, hm, hv1, hv2.is.frz]
  have hst : (V.tup [v, .lit (.int .i64 0)]).strip = .tup [v.strip2, .lit (.int .i64 0)] := rfl
  refine finish_new hw' ?_ ⟨rfl, v.strip2, l, ?_, hv2.is.strip2, hl2, by omega⟩
  · simp only [Bool.false_eq_true, if_false, hst, closed_tup, closedL_cons, closedL_nil, hv2.is.strip2.closed I1_closed, closed_lit, Bool.and_self]
  · simp only [Bool.false_eq_true, if_false, hst, intV]

/-- two variables interfere -/
def Inter (f : FunD) (t : Tr) (a b : Int) : Prop := a ≠ b ∧ (((0 ≤ a ∧ a < f.params) ∧ (0 ≤ b ∧ b < f.params)) ∨ t.Meet a b)

def listOf : V → List Int
  | .sl cs _ _ => (litInts cs).getD []
  | _ => []
theorem listOf_is {v : V} {l : List Int} (h : IsSl0 I1 v l) : listOf v = l := by
  rcases h with ⟨rfl, rfl⟩ | rfl
  · rfl
  · simp only [listOf, flat_map, litInts_map, Option.getD_some]
theorem RepS.of {ss : List V} {S : List (List Int)} (h : RepS ss S) : ∀ v, v ∈ ss → ∃ l, l ∈ S ∧ IsSl0 I1 v l := by
  induction h with
  | nil => simp
  | cons a b ih =>
    intro v hv
    rcases List.mem_cons.1 hv with rfl | hv
    · exact ⟨_, by simp, a⟩
    · obtain ⟨l, h1, h2⟩ := ih v hv
      exact ⟨l, by simp [h1], h2⟩
theorem RepS.to {ss : List V} {S : List (List Int)} (h : RepS ss S) : ∀ l, l ∈ S → ∃ v, v ∈ ss ∧ IsSl0 I1 v l := by
  induction h with
  | nil => simp
  | cons a b ih =>
    intro l hl
    rcases List.mem_cons.1 hl with rfl | hl
    · exact ⟨_, by simp, a⟩
    · obtain ⟨v, h1, h2⟩ := ih l hl
      exact ⟨v, by simp [h1], h2⟩

theorem interfere_ok {f : FunD} {t : Tr} (hf : FewD f) (hw : Well f t) {a b : Int} (ha : InV f a) (hb : InV f b) : Ans 9 [.agg (funV f), intV a, intV b] fun r => ∃ x : Bool, r = .tup [boolV x, intV 0] ∧ (x = true ↔ Inter f t a b) := by
  rintro ⟨B, wr0⟩
  rw [WC_fn rfl rfl]
  refine ⟨rfl, ?_⟩
  simp only [c9, r9_0, r9_1, go_sem, ↓reduceIte, Nat.reduceEqDiff, Nat.reduceAdd, Nat.reduceLeDiff, Nat.reduceBEq, funV_strip2, fun7, intV]
  refine (of_live hf hw _).mono ?_
  rintro r o ⟨rfl, ext, wr', ho, hwr, q, s, vs, ss, tk, hL, hat, hS, hsm, hmeet⟩
  simp only at ho hwr hL
  have hw' : New B.length wr' := fun b hb => (hwr b hb).elim (fun h => by cases h) id
  have hfc := cellsAt_of hL.facts
  have hvs := (varsIs f).len
  have a1 : ¬ a < 0 := by have := ha.1; omega
  have b1 : ¬ b < 0 := by have := hb.1; omega
  have a2 : ¬ a ≥ (f.varl.length : Int) := by have := ha.2; omega
  have b2 : ¬ b ≥ (f.varl.length : Int) := by have := hb.2; omega
  by_cases hab : a = b
  · subst hab
    simp only [ho, go_sem, ↓reduceIte, Nat.reduceEqDiff, Nat.reduceAdd, Nat.reduceLeDiff, Nat.reduceBEq, ne_eq, r9_2, r9_4, r9_6, intV, hfc, fun3, hvs, a1, a2]
    exact finish_new hw' rfl ⟨rfl, false, rfl, fun h => by (cases h), fun h => absurd rfl h.1⟩
  · simp only [ho, go_sem, ↓reduceIte, Nat.reduceEqDiff, Nat.reduceAdd, Nat.reduceLeDiff, Nat.reduceBEq, ne_eq, r9_2, r9_4, r9_6, intV, hfc, fun3, hvs, a1, a2, b1, b2, hab]
    refine (containsFunc_ok (g := 20) (a := []) (b := [.imm [intV a], .imm [intV b]]) (p := fun v => decide (a ∈ listOf v) && decide (b ∈ listOf v)) hL.sets.is (by rw [hL.rep.len]; omega) (fun v hv => ?_) _).mono ?_
    · obtain ⟨l, h1, h2⟩ := hL.rep.of v hv
      have := both_ok (x := a) (y := b) h2.is (by have := hsm l h1; omega)
      rw [listOf_is h2]
      exact this
    · rintro r o2 ⟨rfl, rfl⟩
      simp only [go_sem, ↓reduceIte, Nat.reduceEqDiff, Nat.reduceAdd, Nat.reduceLeDiff, Nat.reduceBEq, ne_eq, hab]
      refine finish_new hw' rfl ⟨rfl, _, rfl, ?_⟩
      rw [List.any_eq_true]
      constructor
      · rintro ⟨v, hv, hp⟩
        obtain ⟨l, h1, h2⟩ := hL.rep.of v hv
        rw [listOf_is h2] at hp
        simp only [Bool.and_eq_true, decide_eq_true_eq] at hp
        exact ⟨hab, (hmeet a b).1 ⟨l, h1, hp.1, hp.2⟩⟩
      · rintro ⟨_, h⟩
        obtain ⟨l, h1, h2, h3⟩ := (hmeet a b).2 h
        obtain ⟨v, hv1, hv2⟩ := hL.rep.to l h1
        exact ⟨v, hv1, by rw [listOf_is hv2]; simp [h2, h3]⟩
end Go.Proofs.Ytlliieplgdlldaa
