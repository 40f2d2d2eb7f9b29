/- The law AssignTwice answers true, by the evaluator.
   Conditions: none but that the arguments are read as the rows say. -/
import Derived.Test.YtlliieplgdlldaaCs
namespace Go.Proofs.Ytlliieplgdlldaa
open Go Go.Ev
set_option linter.unusedSimpArgs false
set_option linter.unusedVariables false
set_option maxRecDepth 10000

theorem says4 : Says 4 := by
  intro f a b hok ha hb
  suffices h : WC env46 4 [.agg (funV f), byteV a, byteV b] ⟨[], []⟩ fun r o => o = none ∧ r = .lit (.bool true) by
    obtain ⟨n, v, o, h1, h2, h3⟩ := h
    exact ⟨n, by rw [h1, h2, h3]⟩
  obtain ⟨B, hB⟩ : ∃ B : List ABlk, B = [] := ⟨_, rfl⟩
  have haw : WC env46 5 [] ⟨B, []⟩ fun r o => o = none ∧ r = .lit (.bool true) := by rw [hB]; exact awake_ok
  rw [← hB]
  clear hB
  rw [WC_fn rfl rfl]
  refine ⟨rfl, ?_⟩
  have yes : ∀ (ext : List ABlk) (wr : List Nat), New B.length wr → finQ false ⟨B, []⟩ (fun r o => o = none ∧ r = .lit (.bool true)) (.lit (.bool true)) ⟨B ++ ext, wr⟩ := fun ext wr hw => finish_new hw rfl ⟨rfl, rfl⟩
  have yes0 : finQ false ⟨B, []⟩ (fun r o => o = none ∧ r = .lit (.bool true)) (.lit (.bool true)) ⟨B, []⟩ := finish_new (New_nil.2 trivial) rfl ⟨rfl, rfl⟩
  have ha0 := ha.1
  have ha1 := ha.2
  have hb0 := hb.1
  have hb1 := hb.2
  simp only [c4, r4_0, r4_1, byteV, go_sem, ↓reduceIte, Nat.reduceEqDiff, Nat.reduceAdd, Nat.reduceLeDiff, Nat.reduceBEq, funV_strip2]
  refine haw.mono ?_
  rintro r o ⟨rfl, rfl⟩
  simp only [go_sem, ↓reduceIte, Nat.reduceEqDiff, Nat.reduceAdd, Nat.reduceLeDiff, Nat.reduceBEq, r4_3, fun7]
  refine (few_ok hok _).mono ?_
  rintro r o ⟨rfl, c, rfl, hc⟩
  cases c with
  | false =>
    simp only [go_sem, ↓reduceIte, Nat.reduceEqDiff, Nat.reduceAdd, Nat.reduceLeDiff, Nat.reduceBEq, boolV, r4_4]
    exact yes0
  | true =>
    have hf := hc rfl
    simp only [go_sem, ↓reduceIte, Nat.reduceEqDiff, Nat.reduceAdd, Nat.reduceLeDiff, Nat.reduceBEq, boolV, r4_5, fun7]
    refine (regs_ok hf _).mono ?_
    rintro r o (⟨e, he, rfl, rfl⟩ | ⟨t, out, ext, wr', hW, hC, rfl, ho, hwr, hext⟩)
    · simp (disch := omega) only [go_sem, ↓reduceIte, Nat.reduceEqDiff, Nat.reduceAdd, Nat.reduceLeDiff, Nat.reduceBEq, r4_6, r4_7, intV, ne_eq, he]
      exact yes0
    · simp only at ho hwr hext
      have hw' : New B.length wr' := fun b hb => (hwr b hb).elim (fun h => by cases h) id
      have hnv := hf.vars
      have hol := hC.len
      have hel : 0 < ext.length := (List.getElem?_eq_some_iff.1 hext).1
      by_cases p0 : f.varl.length = 0
      · have p0' : (f.varl.length : Int) = 0 := by omega
        have p0'' : ((f.varl.length : Int) = 0) = True := eq_true p0'
        simp (disch := omega) only [ho, go_sem, ↓reduceIte, Nat.reduceEqDiff, Nat.reduceAdd, Nat.reduceLeDiff, Nat.reduceBEq, r4_6, r4_7, intV, ne_eq, p0'']
        exact yes _ _ hw'
      have pn : ((f.varl.length : Int) = 0) = False := eq_false (by omega)
      have x0 : 0 ≤ a.tmod f.varl.length := Int.tmod_nonneg _ ha.1
      have x1 : a.tmod f.varl.length < f.varl.length := Int.tmod_lt_of_pos _ (by omega)
      have y0 : 0 ≤ b.tmod f.varl.length := Int.tmod_nonneg _ hb.1
      have y1 : b.tmod f.varl.length < f.varl.length := Int.tmod_lt_of_pos _ (by omega)
      generalize hxe : a.tmod f.varl.length = x at x0 x1
      generalize hye : b.tmod f.varl.length = y at y0 y1
      have hxi : InV f x := ⟨x0, x1⟩
      have hyi : InV f y := ⟨y0, y1⟩
      have hx2 : 0 ≤ x ∧ x < (f.varl.length : Int) := hxi
      have hy2 : 0 ≤ y ∧ y < (f.varl.length : Int) := hyi
      simp (disch := omega) only [ho, go_sem, ↓reduceIte, Nat.reduceEqDiff, Nat.reduceAdd, Nat.reduceLeDiff, Nat.reduceBEq, r4_6, r4_8, r4_9, intV, ne_eq, pn, hxe, hye, i64_in, fun7]
      refine (interfere_ok (a := x) (b := y) hf hW hxi hyi _).mono ?_
      rintro r o2 ⟨rfl, c, rfl, hI⟩
      cases c with
      | false =>
        simp (disch := omega) only [go_sem, ↓reduceIte, Nat.reduceEqDiff, Nat.reduceAdd, Nat.reduceLeDiff, Nat.reduceBEq, r4_10, r4_12, r4_13, intV, boolV, ne_eq]
        exact yes _ _ hw'
      | true =>
        have hI := hI.1 rfl
        have hcells : cellsAt ext 0 = some (out.flatMap I1) := cellsAt_of hext
        have hgy : (out.flatMap I1)[y.toNat]? = some (.lit (.int .i64 (og out y))) := by rw [I1_get, og_get hol hyi]; rfl
        have hxl : x.toNat < out.length := by omega
        have hfl := I1_flen out
        have hx3 : x.toNat + 1 ≤ (out.flatMap I1).length := by omega
        have hne := hC.dist x y hI
        have hxv := hI.left hW
        have hyv := hI.symm.left hW
        have hv1 := hC.v1
        have hyr := (hv1 y hyi).1 hyv
        -- the list with one register changed
        have hog : ∀ z, InV f z → og (out.set x.toNat (og out y)) z = if z = x then og out y else og out z := fun z hz => og_set hol hxi hz
        have hV1 : V1ok f t (out.set x.toNat (og out y)) := by
          intro z hz
          rw [hog z hz]
          by_cases e : z = x
          · subst e
            rw [if_pos rfl]
            exact ⟨fun _ => hyr, fun h => absurd hxv h⟩
          · rw [if_neg e]
            exact hv1 z hz
        have hcb : cellsAt (B ++ ext.set 0 (.cells ((out.set x.toNat (og out y)).flatMap I1))) B.length = some ((out.set x.toNat (og out y)).flatMap I1) := by rw [cellsAt_app0]; exact cellsAt_set hel
        have hsl : (out.set x.toNat (og out y)).length = f.varl.length := by rw [List.length_set]; exact hol
        have hw2 : New B.length (insN B.length wr') := New_insN.2 ⟨Nat.le_refl _, hw'⟩
        by_cases p1 : x < f.params
        · have hn2 : ¬ V2ok f (out.set x.toNat (og out y)) := by
            intro h
            have h1 := h x x0 p1
            rw [hog x hxi, if_pos rfl] at h1
            have h2 := hC.par x x0 p1
            exact hne (h2.trans h1.symm)
          simp (disch := omega) only [go_sem, ↓reduceIte, Nat.reduceEqDiff, Nat.reduceAdd, Nat.reduceLeDiff, Nat.reduceBEq, r4_10, r4_12, r4_14, r4_15, r4_16, r4_17, r4_18, intV, boolV, ne_eq, hx2, hy2, hcells, hgy, hx3, I1_set hxl, fun1, fun7, p1]
          refine (check_ok hf hW hcb hsl hV1).mono ?_
          rintro r o3 ⟨rfl, hres⟩
          rw [hres.2.1 hn2]
          simp only [go_sem, ↓reduceIte, Nat.reduceEqDiff, Nat.reduceAdd, Nat.reduceLeDiff, Nat.reduceBEq, intV]
          exact yes _ _ hw2
        · have hV2 : V2ok f (out.set x.toNat (og out y)) := by
            intro z h1 h2
            have := hW.par
            rw [hog z ⟨h1, by omega⟩, if_neg (by omega)]
            exact hC.par z h1 h2
          have hxy : x ≠ y := hI.1
          have hox : og (out.set x.toNat (og out y)) x = og out y := by rw [hog x hxi, if_pos rfl]
          have hoy : og (out.set x.toNat (og out y)) y = og out y := by rw [hog y hyi, if_neg (Ne.symm hxy)]
          have hn3 : ¬ V3ok f t (out.set x.toNat (og out y)) := by
            intro h
            rcases Int.lt_or_gt_of_ne hxy with hlt | hgt
            · exact h y x hyi x0 hlt (by rw [hoy]; exact hyr.1) (by rw [hox, hoy]) hI.symm
            · exact h x y hxi y0 hgt (by rw [hox]; exact hyr.1) (by rw [hox, hoy]) hI
          simp (disch := omega) only [go_sem, ↓reduceIte, Nat.reduceEqDiff, Nat.reduceAdd, Nat.reduceLeDiff, Nat.reduceBEq, r4_10, r4_12, r4_14, r4_15, r4_16, r4_18, intV, boolV, ne_eq, hx2, hy2, hcells, hgy, hx3, I1_set hxl, fun1, fun7, p1]
          refine (check_ok hf hW hcb hsl hV1).mono ?_
          rintro r o3 ⟨rfl, hres⟩
          rw [hres.2.2 hV2 hn3]
          simp only [go_sem, ↓reduceIte, Nat.reduceEqDiff, Nat.reduceAdd, Nat.reduceLeDiff, Nat.reduceBEq, intV]
          exact yes _ _ hw2

/-- the given statement -/
theorem assign_twice_holds : Rows.AssignTwiceSaid := row4 says4
end Go.Proofs.Ytlliieplgdlldaa
