/- What the functions of law 46 answer, by the evaluator: Compact, united.
   Conditions: those that each theorem names. -/
import Derived.Test.YtlliieplgdlldaaCd
namespace Go.Proofs.Ytlliieplgdlldaa
open Go Go.Ev
set_option linter.unusedSimpArgs false
set_option linter.unusedVariables false
set_option maxRecDepth 10000

theorem I1_splice {C : List Int} {i : Nat} {x : Int} (h : i < C.length) : (C.flatMap I1).take i ++ .lit (.int .i64 x) :: (C.flatMap I1).drop (i + 1) = (C.set i x).flatMap I1 := by
  induction C generalizing i with
  | nil => simp at h
  | cons a C ih =>
    cases i with
    | zero => simp [I1]
    | succ i =>
      simp only [List.length_cons] at h
      have := ih (i := i) (by omega)
      simp only [List.flatMap_cons, I1, List.cons_append, List.nil_append, List.take_succ_cons, List.drop_succ_cons, List.set_cons_succ]
      rw [← this]

structure Cs where
  C : List Int
  i : Nat
  wr : List Nat

theorem compact_ok {D : List ABlk} {wr0 : List Nat} {b : Nat} {L : List Int} (hD : D[b]? = some (.cells (L.flatMap I1))) (hL : L ≠ []) (hs : L.length ≤ 1000000) :
    WC env46 36 [.msl b 0 L.length 1 none] ⟨D, wr0⟩ fun r o => ∃ l', IsSl0 I1 r l' ∧ (∀ x, x ∈ l' ↔ x ∈ L) ∧ l'.length ≤ L.length ∧ ∃ wr', o.getD ⟨D, wr0⟩ = ⟨D.set b .dead, wr'⟩ ∧ ∀ x, x ∈ wr' → x ∈ wr0 ∨ x = b := by
  have hb : b < D.length := (List.getElem?_eq_some_iff.1 hD).1
  have hc := cellsAt_of hD
  rw [WC_fn rfl rfl]
  refine ⟨rfl, ?_⟩
  -- the slice goes back whole
  have whole : ∀ (M : List Int), (∀ x, x ∈ M ↔ x ∈ L) → M.length ≤ L.length → ∀ wr : List Nat, (∀ x, x ∈ wr → x = b) → finQ false ⟨D, wr0⟩ (fun r o => ∃ l', IsSl0 I1 r l' ∧ (∀ x, x ∈ l' ↔ x ∈ L) ∧ l'.length ≤ L.length ∧ ∃ wr', o.getD ⟨D, wr0⟩ = ⟨D.set b .dead, wr'⟩ ∧ ∀ x, x ∈ wr' → x ∈ wr0 ∨ x = b)
      (.sl (M.flatMap I1) M.length .none) ⟨D.set b .dead, insN b wr⟩ := by
    intro M hM1 hM2 wr hwr
    refine finish_take ((IsSl.sl (f := I1) (own := .none) (l := M) rfl).closed I1_closed) ?_ ?_ ?_
    · intro c x hcm hlt hx
      rcases mem_insN.1 hcm with rfl | hcm
      · simp [hlt] at hx; subst hx; rfl
      · have := hwr c hcm
        subst this
        simp [hlt] at hx; subst hx; rfl
    · intro hn
      exact absurd (hn b (mem_insN.2 (.inl rfl))) (by simp; omega)
    · intro o wr' ho hw
      refine ⟨M, .inr rfl, hM1, hM2, wr', ?_, ?_⟩
      · rw [ho]; exact congrArg (fun l => (⟨l, wr'⟩ : Heap)) (List.take_of_length_le (by simp))
      · intro x hx
        rcases hw x hx with h | ⟨h, _⟩
        · exact .inl h
        · rcases mem_insN.1 h with rfl | h
          · exact .inr rfl
          · exact .inr (hwr x h)
  by_cases h2 : L.length < 2
  · have h2' : (L.length : Int) < 2 := by omega
    simp only [c36, r36_0, r36_1, r36_2, go_sem, ↓reduceIte, Nat.reduceEqDiff, Nat.reduceAdd, Nat.reduceLeDiff, Nat.reduceBEq, h2', hc]
    rw [List.take_of_length_le (by rw [flatMap_len I1_len]; omega), map_flat I1_strip]
    exact whole L (fun _ => Iff.rfl) (Nat.le_refl _) [] (by simp)
  have h2' : ¬ (L.length : Int) < 2 := by omega
  simp only [c36, r36_0, r36_1, r36_3, b36_21, go_sem, ↓reduceIte, Nat.reduceEqDiff, Nat.reduceAdd, Nat.reduceLeDiff, Nat.reduceBEq, h2', hc]
  refine W_for (L.length - 1) (fun m (_ : Unit) => [(0, .msl b 0 L.length 1 none), (3, .lit (.int .i64 ((m + 1 : Nat) : Int)))]) (fun _ _ => ⟨D, []⟩) (fun m _ => True) ?_ () trivial rfl rfl
  intro m _ hm _
  rcases Nat.lt_or_ge m (L.length - 1) with hlt | hge
  · have hk : ((m + 1 : Nat) : Int) < L.length := by omega
    have hk0 : (0 : Int) ≤ ((m + 1 : Nat) : Int) := by omega
    have e1 : ((m + 1 : Nat) : Int) - 1 = (m : Int) := by omega
    have g1 : (L.flatMap I1)[m + 1]? = some (.lit (.int .i64 (L[m + 1]'(by omega)))) := by rw [I1_get, List.getElem?_eq_getElem (by omega)]; rfl
    have g2 : (L.flatMap I1)[m]? = some (.lit (.int .i64 (L[m]'(by omega)))) := by rw [I1_get, List.getElem?_eq_getElem (by omega)]; rfl
    have hm1 : (m : Int) < L.length := by omega
    by_cases hq : L[m + 1]'(by omega) = L[m]'(by omega)
    · have hsl : m + 1 < L.length ∧ m + 1 ≤ L.length := by omega
      simp (disch := omega) only [l36_20, r36_4, r36_5, b36_18, r36_6, r36_7, b36_15, go_sem, ↓reduceIte, Nat.reduceEqDiff, Nat.reduceAdd, Nat.reduceLeDiff, Nat.reduceBEq, hk, hk0, e1, i64_in, hc, g1, g2, hm1, hq, hsl, Int.natCast_nonneg]
      refine W_for (L.length - (m + 1) - 1) (fun j (s : Cs) => [(0, .msl b 0 L.length 1 none), (3, .lit (.int .i64 (s.i : Int))), (4, .msl b (m + 1) (L.length - (m + 1)) 1 none), (5, .lit (.int .i64 ((j + 1 : Nat) : Int)))])
        (fun _ s => ⟨D.set b (.cells (s.C.flatMap I1)), s.wr⟩)
        (fun j s => s.C.length = L.length ∧ s.i ≤ m + 1 + j ∧ (∀ q, m + 1 + j ≤ q → s.C[q]? = L[q]?) ∧ (∀ x, x ∈ s.C.take s.i ↔ x ∈ L.take (m + 1 + j + 1)) ∧ ∀ x, x ∈ s.wr → x = b) ?_ ⟨L, m + 1, []⟩ ⟨rfl, Nat.le_refl _, fun _ _ => rfl, ?_, by simp⟩ rfl ?_
      · rintro j ⟨C, i, wr⟩ hj ⟨i1, i2, i3, i4, i5⟩
        simp only at i1 i2 i3 i4 i5
        have hcc : cellsAt (D.set b (.cells (C.flatMap I1))) b = some (C.flatMap I1) := cellsAt_set hb
        rcases Nat.lt_or_ge j (L.length - (m + 1) - 1) with hlt2 | hge2
        · have k1 : ((j + 1 : Nat) : Int) < ((L.length - (m + 1) : Nat) : Int) := by omega
          have k2 : (0 : Int) ≤ ((j + 1 : Nat) : Int) := by omega
          have k3 : ((j + 1 : Nat) : Int) - 1 = (j : Int) := by omega
          have k4 : (j : Int) < ((L.length - (m + 1) : Nat) : Int) := by omega
          have k5 : (0 : Int) ≤ (i : Int) ∧ (i : Int) < L.length := by omega
          have f1 : (C.flatMap I1)[m + 1 + (j + 1)]? = some (.lit (.int .i64 (L[m + 1 + (j + 1)]'(by omega)))) := by rw [I1_get, i3 _ (by omega), List.getElem?_eq_getElem (by omega)]; rfl
          have f2 : (C.flatMap I1)[m + 1 + j]? = some (.lit (.int .i64 (L[m + 1 + j]'(by omega)))) := by rw [I1_get, i3 _ (by omega), List.getElem?_eq_getElem (by omega)]; rfl
          have ht : L.take (m + 1 + (j + 1) + 1) = L.take (m + 1 + j + 1) ++ [L[m + 1 + (j + 1)]'(by omega)] := by
            rw [List.take_succ_eq_append_getElem (by omega)]
            rfl
          by_cases hne : L[m + 1 + (j + 1)]'(by omega) = L[m + 1 + j]'(by omega)
          · simp (disch := omega) only [l36_14, r36_8, r36_9, b36_12, r36_13, go_sem, ↓reduceIte, Nat.reduceEqDiff, Nat.reduceAdd, Nat.reduceLeDiff, Nat.reduceBEq, hcc, k1, k2, k3, k4, f1, f2, hne, i64_in, Int.natCast_nonneg, ne_eq]
            refine ⟨hlt2, ⟨C, i, wr⟩, ⟨i1, by simp only; omega, fun q hq => i3 q (by omega), ?_, i5⟩, rfl, rfl⟩
            intro x
            rw [ht, List.mem_append, List.mem_singleton, hne]
            simp only
            rw [i4 x]
            constructor
            · exact .inl
            · rintro (h | rfl)
              · exact h
              · rw [List.mem_take_iff_getElem]
                exact ⟨m + 1 + j, by omega, rfl⟩
          · have hwl : 1 = 1 ∧ i + 1 ≤ (C.flatMap I1).length := by rw [flatMap_len I1_len]; omega
            simp (disch := omega) only [l36_14, r36_8, r36_9, b36_12, r36_10, r36_11, r36_13, go_sem, ↓reduceIte, Nat.reduceEqDiff, Nat.reduceAdd, Nat.reduceLeDiff, Nat.reduceBEq, hcc, k1, k2, k3, k4, k5, f1, f2, hne, i64_in, Int.natCast_nonneg, ne_eq, hwl.2]
            rw [I1_splice (by omega)]
            refine ⟨hlt2, ⟨C.set i (L[m + 1 + (j + 1)]'(by omega)), i + 1, insN b wr⟩, ⟨by simpa using i1, by simp only; omega, fun q hq => ?_, ?_, ?_⟩, rfl, ?_⟩
            · simp only
              rw [List.getElem?_set_ne (by omega)]
              exact i3 q (by omega)
            · intro x
              rw [ht, List.mem_append, List.mem_singleton]
              simp only
              rw [List.take_succ_eq_append_getElem (by simp; omega), List.mem_append, List.mem_singleton, List.getElem_set_self, List.take_set_of_le (Nat.le_refl _), i4 x]
            · intro x hx
              rcases mem_insN.1 hx with rfl | hx
              · rfl
              · exact i5 x hx
            · simp [List.set_set]
        · have k1 : ¬ ((j + 1 : Nat) : Int) < ((L.length - (m + 1) : Nat) : Int) := by omega
          have k5 : (0 : Int) ≤ (i : Int) := by omega
          have k6 : i < L.length ∧ i ≤ L.length := by omega
          have k7 : 0 < i := by
            rcases Nat.eq_zero_or_pos i with rfl | h
            · have := (i4 L[0]).2 (by rw [List.mem_take_iff_getElem]; exact ⟨0, by omega, rfl⟩)
              simp at this
            · exact h
          have hfl := flatMap_len (f := I1) I1_len C
          have k8 : i + (L.length - i) ≤ (C.flatMap I1).length := by omega
          have ev : ∀ Y : List V, List.map V.strip1 (List.take i (List.take i (C.flatMap I1) ++ Y)) = (C.take i).flatMap I1 := by
            intro Y
            have h1 : (List.take i (C.flatMap I1)).length = i := by rw [List.length_take]; omega
            rw [List.take_append_of_le_length (by omega), List.take_of_length_le (by omega)]
            have h2 : (C.flatMap I1).take i = (C.take i).flatMap I1 := by
              apply List.ext_getElem?
              intro q
              rw [List.getElem?_take, I1_get, I1_get, List.getElem?_take]
              split <;> rfl
            rw [h2, map_flat I1_strip]
          have hci : (C.take i).length = i := by rw [List.length_take]; omega
          simp only [l36_14, r36_8, r36_16, r36_17, go_sem, ↓reduceIte, Nat.reduceEqDiff, Nat.reduceAdd, Nat.reduceLeDiff, Nat.reduceBEq, hcc, k1, k5, k6, k7, k8, List.set_set, cellsAt_set hb, Nat.sub_zero, ev]
          have := whole (C.take i) (fun x => by rw [i4 x, List.take_of_length_le (by omega)]) (by omega) (insN b wr) (by
            intro x hx
            rcases mem_insN.1 hx with rfl | hx
            · rfl
            · exact i5 x hx)
          rw [hci] at this
          exact this
      · intro x
        simp only [Nat.add_zero]
        rw [List.take_succ_eq_append_getElem (show m + 1 < L.length by omega), List.mem_append, List.mem_singleton, hq]
        constructor
        · exact .inl
        · rintro (h | rfl)
          · exact h
          · rw [List.mem_take_iff_getElem]
            exact ⟨m, by omega, rfl⟩
      · have : D.set b (.cells (L.flatMap I1)) = D := by
          apply List.ext_getElem?
          intro q
          rw [List.getElem?_set]
          split
          · rename_i e
            subst e
            exact hD.symm
          · rfl
        rw [this]
    · simp (disch := omega) only [l36_20, r36_4, r36_5, b36_18, r36_19, go_sem, ↓reduceIte, Nat.reduceEqDiff, Nat.reduceAdd, Nat.reduceLeDiff, Nat.reduceBEq, hk, hk0, e1, i64_in, hc, g1, g2, hm1, hq, Int.natCast_nonneg]
      exact ⟨hlt, (), trivial, rfl, rfl⟩
  · have hk : ¬ ((m + 1 : Nat) : Int) < L.length := by omega
    simp only [l36_20, r36_4, r36_22, go_sem, ↓reduceIte, Nat.reduceEqDiff, Nat.reduceAdd, Nat.reduceLeDiff, Nat.reduceBEq, hk, hc]
    rw [List.take_of_length_le (by rw [flatMap_len I1_len]; omega), map_flat I1_strip]
    exact whole L (fun _ => Iff.rfl) (Nat.le_refl _) [] (by simp)

theorem compact_none {v : V} {H : Heap} (hv : v = .lit (.slice .none 0 0) ∨ v = .sl [] 0 (.cap 0)) : WC env46 36 [v] H fun r o => IsSl0 I1 r [] ∧ o = none := by
  rw [WC_fn rfl rfl]
  refine ⟨rfl, ?_⟩
  have h02 : ((0 : Nat) : Int) < 2 := by decide
  rcases hv with rfl | rfl
  · simp only [c36, r36_0, r36_1, r36_2, go_sem, ↓reduceIte, Nat.reduceEqDiff, Nat.reduceAdd, Nat.reduceLeDiff, Nat.reduceBEq, h02]
    exact finish_new (New_nil.2 trivial) rfl ⟨.inl ⟨rfl, rfl⟩, rfl⟩
  · simp only [c36, r36_0, r36_1, r36_2, go_sem, ↓reduceIte, Nat.reduceEqDiff, Nat.reduceAdd, Nat.reduceLeDiff, Nat.reduceBEq, h02]
    exact finish_new (New_nil.2 trivial) rfl ⟨.inr rfl, rfl⟩

theorem flat_map (l : List Int) : l.flatMap I1 = l.map intV := by
  induction l with
  | nil => rfl
  | cons a l ih => simp [I1, ih, intV]
theorem litInts_map (l : List Int) : litInts (l.map intV) = some l := by
  induction l with
  | nil => rfl
  | cons a l ih => simp [litInts, intV] at ih ⊢; exact ih
theorem sortI_len (l : List Int) : (sortI l).length = l.length := by rw [sortI_eq]; simp
theorem sortI_mem (l : List Int) (x : Int) : x ∈ sortI l ↔ x ∈ l := by rw [sortI_eq]; simp

theorem sort_own {B ext : List ABlk} {v : V} {l : List Int} {wr : List Nat} (h : Own1 B ext v l) (hl : l.length ≤ 1000000) (hw : New B.length wr) : ∃ ext' wr' o, sortG [v] ⟨B ++ ext, wr⟩ = some (.tup [], o) ∧ o.getD ⟨B ++ ext, wr⟩ = ⟨B ++ ext', wr'⟩ ∧ Own1 B ext' v (sortI l) ∧ New B.length wr' := by
  rcases h with ⟨rfl, rfl | rfl⟩ | ⟨hne, i, rfl, hi⟩
  · exact ⟨ext, wr, none, rfl, rfl, .inl ⟨rfl, .inl rfl⟩, hw⟩
  · exact ⟨ext, wr, none, rfl, rfl, .inl ⟨rfl, .inr rfl⟩, hw⟩
  · have hfl := flatMap_len (f := I1) I1_len l
    have hi2 := (List.getElem?_eq_some_iff.1 hi).1
    refine ⟨ext.set i (.cells ((sortI l).flatMap I1)), insN (B.length + i) wr, some ((⟨B ++ ext, wr⟩ : Heap).write (B.length + i) (.cells (splice (l.flatMap I1) 0 ((sortI l).map intV)))), ?_, ?_, .inr ⟨?_, i, ?_, ?_⟩, New_insN.2 ⟨by omega, hw⟩⟩
    · simp only [sortG, get_app, hi]
      rw [if_pos (by omega), List.drop_zero, List.take_of_length_le (by omega), flat_map, litInts_map]
    · rw [Option.getD_some, Heap.write]
      simp only
      rw [set_app, splice_all (by simp [sortI_len, flat_map]), flat_map]
    · intro e
      have := sortI_len l
      rw [e] at this
      exact hne (List.eq_nil_of_length_eq_zero (by simpa using this.symm))
    · rw [sortI_len]
    · simp [hi2]

theorem compact_own {B ext : List ABlk} {v : V} {l : List Int} {wr : List Nat} (h : Own1 B ext v l) (hl : l.length ≤ 1000000) (hw : New B.length wr) :
    WC env46 36 [v] ⟨B ++ ext, wr⟩ fun r o => ∃ l', IsSl0 I1 r l' ∧ (∀ x, x ∈ l' ↔ x ∈ l) ∧ l'.length ≤ l.length ∧ ∃ ext' wr', o.getD ⟨B ++ ext, wr⟩ = ⟨B ++ ext', wr'⟩ ∧ New B.length wr' := by
  rcases h with ⟨rfl, h⟩ | ⟨hne, i, rfl, hi⟩
  · refine (compact_none h).mono ?_
    rintro r o ⟨h1, rfl⟩
    exact ⟨[], h1, fun _ => Iff.rfl, Nat.le_refl _, ext, wr, rfl, hw⟩
  · refine (compact_ok (D := B ++ ext) (by rw [get_app]; exact hi) hne hl).mono ?_
    rintro r o ⟨l', h1, h2, h3, wr', h4, h5⟩
    refine ⟨l', h1, h2, h3, ext.set i .dead, wr', by rw [h4, set_app], fun x hx => ?_⟩
    rcases h5 x hx with h | rfl
    · exact hw x h
    · omega

theorem united_ok {va vb : V} {a b : List Int} (ha : IsSl I1 va a) (hb : IsSl I1 vb b) (hs : a.length + b.length ≤ 1000000) :
    Ans 25 [va, vb] fun r => ∃ l, IsSl0 I1 r l ∧ (∀ x, x ∈ l ↔ x ∈ a ∨ x ∈ b) ∧ l.length ≤ a.length + b.length := by
  rintro ⟨B, wr0⟩
  rw [WC_fn rfl rfl]
  refine ⟨rfl, ?_⟩
  simp only [c25, r25_0, r25_1, go_sem, ↓reduceIte, Nat.reduceEqDiff, Nat.reduceAdd, Nat.reduceLeDiff, Nat.reduceBEq]
  refine (clone_ok ha (by omega) _).mono ?_
  rintro r o ⟨e, he, ho⟩
  have hown : Own1 B e r a := by
    have := Mine.own (B := B) (ext := []) (e := e) (by rw [List.append_nil]; exact he)
    exact this
  simp only [ho, go_sem, ↓reduceIte, Nat.reduceEqDiff, Nat.reduceAdd, Nat.reduceLeDiff, Nat.reduceBEq]
  refine app_own hown hb (by omega) (by simp [New_nil]) ?_
  intro v' ext' wr' hv hw o2 ho2
  obtain ⟨ext2, wr2, o3, e1, e2, e3, e4⟩ := sort_own hv (by rw [List.length_append]; omega) hw
  have hso : env46.intr 35 = some sortG := rfl
  simp only [ho2, go_sem, ↓reduceIte, Nat.reduceEqDiff, Nat.reduceAdd, Nat.reduceLeDiff, Nat.reduceBEq, r25_2, WC_intr hso, e1, e2, r25_3]
  refine (compact_own e3 (by rw [sortI_len, List.length_append]; omega) e4).mono ?_
  rintro r o ⟨l', h1, h2, h3, ext3, wr3, h4, h5⟩
  simp only [h4, go_sem, ↓reduceIte, Nat.reduceEqDiff, Nat.reduceAdd, Nat.reduceLeDiff, Nat.reduceBEq, h1.is.frz]
  refine finish_new h5 (h1.is.closed I1_closed) ⟨rfl, l', h1.is.strip0, fun x => ?_, ?_⟩
  · rw [h2, sortI_mem, List.mem_append]
  · rw [sortI_len, List.length_append] at h3
    exact h3
end Go.Proofs.Ytlliieplgdlldaa
