/- The laws AssignSwaps and AssignTwice answer true, by the evaluator.
   Conditions: none but that the arguments are read as the rows say. -/
import Derived.Test.YtlliieplgdlldaaCr
import Derived.Test.YtlliieplgdlldaaRow46
namespace Go.Proofs.Ytlliieplgdlldaa
open Go Go.Ev
set_option linter.unusedSimpArgs false
set_option linter.unusedVariables false
set_option maxRecDepth 10000

theorem awake_ok : WC env46 5 [] ⟨[], []⟩ fun r o => o = none ∧ r = .lit (.bool true) := by
  have h := awake_ev
  cases he : evCall env46 3000 5 [] ⟨[], []⟩ with
  | none => rw [he] at h; cases h
  | some p =>
    obtain ⟨v, o⟩ := p
    rw [he] at h
    simp only [Option.map_some, Option.some.injEq, Prod.mk.injEq] at h
    refine ⟨3000, v, o, he, ?_, ?_⟩
    · simpa using h.2
    · have := h.1
      split at this
      · rw [this]
      · cases this

mutual
theorem Tr.meet_symm {a b : Int} : ∀ t : Tr, t.Meet a b → t.Meet b a
  | .mk p n ks, h => h.imp (fun h => ⟨h.2, h.1⟩) (Ks.meet_symm ks)
theorem Ks.meet_symm {a b : Int} : ∀ ks : Ks, ks.Meet a b → ks.Meet b a
  | .nil, h => h.elim
  | .cons bd t r, h => by
    rcases h with h | h | h
    · exact .inl ⟨h.2, h.1⟩
    · exact .inr (.inl (Tr.meet_symm t h))
    · exact .inr (.inr (Ks.meet_symm r h))
end
theorem Inter.symm {f : FunD} {t : Tr} {a b : Int} (h : Inter f t a b) : Inter f t b a := ⟨h.1.symm, h.2.imp (fun h => ⟨h.2, h.1⟩) (Tr.meet_symm t)⟩
theorem Inter.left {f : FunD} {t : Tr} {a b : Int} (hW : Well f t) (h : Inter f t a b) : a < f.params ∨ a ∈ t.vars := by
  rcases h.2 with ⟨h, _⟩ | h
  · exact .inl h.2
  · have := (Tr.meet_in t hW.tree.ok hW.tree.sc h).1
    exact this.imp (fun h => h.2) id
theorem Colour.v1 {f : FunD} {t : Tr} {o : List Int} (h : Colour f t o) : V1ok f t o := by
  intro x hx
  refine ⟨fun hp => ?_, fun hp => h.none x hx (fun h => hp (.inl h)) fun h => hp (.inr h)⟩
  by_cases hm : x ∈ t.vars
  · exact h.rng x hm
  · have hlt := hp.resolve_right hm
    rw [h.par x hx.1 hlt]
    have := h.p16
    have := hx.1
    omega

def swapI (x y z : Int) : Int := if z = x then y else if z = y then x else z

structure Sw where
  o : List Int
  wr : List Nat

theorem says3 : Says 3 := by
  intro f a b hok ha hb
  suffices h : WC env46 3 [.agg (funV f), byteV a, byteV b] ⟨[], []⟩ fun r o => o = none ∧ r = .lit (.bool true) by
    obtain ⟨n, v, o, h1, h2, h3⟩ := h
    exact ⟨n, by rw [h1, h2, h3]⟩
  obtain ⟨B, hB⟩ : ∃ B : List ABlk, B = [] := ⟨_, rfl⟩
  have haw : WC env46 5 [] ⟨B, []⟩ fun r o => o = none ∧ r = .lit (.bool true) := by rw [hB]; exact awake_ok
  rw [← hB]
  clear hB
  rw [WC_fn rfl rfl]
  refine ⟨rfl, ?_⟩
  have yes : ∀ (ext : List ABlk) (wr : List Nat), New B.length wr → finQ false ⟨B, []⟩ (fun r o => o = none ∧ r = .lit (.bool true)) (.lit (.bool true)) ⟨B ++ ext, wr⟩ := fun ext wr hw => finish_new hw rfl ⟨rfl, rfl⟩
  have yes0 : finQ false ⟨B, []⟩ (fun r o => o = none ∧ r = .lit (.bool true)) (.lit (.bool true)) ⟨B, []⟩ := finish_new (New_nil.2 trivial) rfl ⟨rfl, rfl⟩
  simp only [c3, r3_0, r3_1, byteV, go_sem, ↓reduceIte, Nat.reduceEqDiff, Nat.reduceAdd, Nat.reduceLeDiff, Nat.reduceBEq, funV_strip2]
  refine haw.mono ?_
  rintro r o ⟨rfl, rfl⟩
  simp only [go_sem, ↓reduceIte, Nat.reduceEqDiff, Nat.reduceAdd, Nat.reduceLeDiff, Nat.reduceBEq, r3_3, fun7]
  refine (few_ok hok _).mono ?_
  rintro r o ⟨rfl, c, rfl, hc⟩
  cases c with
  | false =>
    simp only [go_sem, ↓reduceIte, Nat.reduceEqDiff, Nat.reduceAdd, Nat.reduceLeDiff, Nat.reduceBEq, boolV, r3_4]
    exact yes0
  | true =>
    have hf := hc rfl
    simp only [go_sem, ↓reduceIte, Nat.reduceEqDiff, Nat.reduceAdd, Nat.reduceLeDiff, Nat.reduceBEq, boolV, r3_5, fun7]
    refine (regs_ok hf _).mono ?_
    have x0 : 0 ≤ a.tmod 16 := Int.tmod_nonneg _ ha.1
    have x1 : a.tmod 16 < 16 := Int.tmod_lt_of_pos _ (by decide)
    have y0 : 0 ≤ b.tmod 16 := Int.tmod_nonneg _ hb.1
    have y1 : b.tmod 16 < 16 := Int.tmod_lt_of_pos _ (by decide)
    have h16 : ¬ (16 : Int) = 0 := by decide
    generalize hxe : a.tmod 16 = x at x0 x1
    generalize hye : b.tmod 16 = y at y0 y1
    rintro r o (⟨e, he, rfl, rfl⟩ | ⟨t, out, ext, wr', hW, hC, rfl, ho, hwr, hext⟩)
    · simp (disch := omega) only [go_sem, ↓reduceIte, Nat.reduceEqDiff, Nat.reduceAdd, Nat.reduceLeDiff, Nat.reduceBEq, r3_6, r3_7, r3_8, intV, ne_eq, h16, hxe, hye, i64_in, he]
      exact yes0
    · simp only at ho hwr hext
      have hw' : New B.length wr' := fun b hb => (hwr b hb).elim (fun h => by cases h) id
      by_cases p1 : x < f.params
      · simp (disch := omega) only [ho, go_sem, ↓reduceIte, Nat.reduceEqDiff, Nat.reduceAdd, Nat.reduceLeDiff, Nat.reduceBEq, r3_6, r3_7, r3_8, intV, ne_eq, h16, hxe, hye, i64_in, fun1, p1]
        exact yes _ _ hw'
      by_cases p2 : y < f.params
      · simp (disch := omega) only [ho, go_sem, ↓reduceIte, Nat.reduceEqDiff, Nat.reduceAdd, Nat.reduceLeDiff, Nat.reduceBEq, r3_6, r3_7, r3_8, intV, ne_eq, h16, hxe, hye, i64_in, fun1, p1, p2]
        exact yes _ _ hw'
      simp (disch := omega) only [ho, go_sem, ↓reduceIte, Nat.reduceEqDiff, Nat.reduceAdd, Nat.reduceLeDiff, Nat.reduceBEq, r3_6, r3_7, r3_9, b3_20, intV, ne_eq, h16, hxe, hye, i64_in, fun1, p1, p2]
      have hnv := hf.vars
      have hol := hC.len
      have hel : 0 < ext.length := (List.getElem?_eq_some_iff.1 hext).1
      refine W_for f.varl.length (fun k (_ : Sw) => [(3, .imm (funV f)), (7, .msl B.length 0 f.varl.length 1 (some f.varl.length)), (9, .lit (.int .i64 x)), (10, .lit (.int .i64 y)), (11, .lit (.int .i64 k))])
        (fun _ s => ⟨B ++ ext.set 0 (.cells (s.o.flatMap I1)), s.wr⟩) (fun k s => s.o.length = f.varl.length ∧ New B.length s.wr ∧ ∀ z, InV f z → og s.o z = if z < k then swapI x y (og out z) else og out z) ?_
        ⟨out, wr'⟩ ⟨hol, hw', fun z hz => by rw [if_neg]; have := hz.1; omega⟩ rfl ?_
      rotate_left
      · have : ext.set 0 (.cells (out.flatMap I1)) = ext := by
          apply List.ext_getElem?
          intro q
          rw [List.getElem?_set]
          split
          · rename_i e
            subst e
            rw [hext]
          · rfl
        rw [this]
      rintro k ⟨o1, wr1⟩ hk ⟨i1, i2, i3⟩
      simp only at i1 i2 i3
      have hcells : cellsAt (ext.set 0 (.cells (o1.flatMap I1))) 0 = some (o1.flatMap I1) := cellsAt_set hel
      rcases Nat.lt_or_ge k f.varl.length with hlt | hge
      · have hki : InV f (k : Int) := ⟨by omega, by omega⟩
        have hk2 : (0 : Int) ≤ (k : Int) ∧ (k : Int) < (f.varl.length : Int) := hki
        have hg : (o1.flatMap I1)[k]? = some (.lit (.int .i64 (og out (k : Int)))) := by
          have := og_get i1 hki
          rw [i3 _ hki, if_neg (by omega), Int.toNat_natCast] at this
          rw [I1_get, this]
          rfl
        have hfl := I1_flen o1
        have hk3 : k + 1 ≤ (o1.flatMap I1).length := by omega
        have step : ∀ r : Int, r = swapI x y (og out (k : Int)) → ∀ z, InV f z → og (o1.set k r) z = if z < ((k + 1 : Nat) : Int) then swapI x y (og out z) else og out z := by
          intro r hr z hz
          have := og_set (r := r) i1 hki hz
          rw [Int.toNat_natCast] at this
          rw [this]
          by_cases e : z = k
          · subst e
            rw [if_pos rfl, if_pos (by omega), hr]
          · rw [if_neg e, i3 z hz]
            by_cases h : z < k
            · rw [if_pos h, if_pos (by omega)]
            · rw [if_neg h, if_neg (by omega)]
        by_cases q1 : og out (k : Int) = x
        · have q1' : (og out (k : Int) = x) = True := eq_true q1
          simp (disch := omega) only [l3_19, r3_10, r3_11, r3_12, r3_13, b3_17, b3_16, r3_18, go_sem, ↓reduceIte, Nat.reduceEqDiff, Nat.reduceAdd, Nat.reduceLeDiff, Nat.reduceBEq, hlt, hk2, hcells, hg, q1', hk3, I1_set (C := o1) (i := k) (by omega), List.set_set, i64_in]
          exact ⟨hlt, ⟨o1.set k y, insN B.length wr1⟩, ⟨by simpa using i1, New_insN.2 ⟨by omega, i2⟩, step y (by rw [swapI, if_pos q1])⟩, rfl, rfl⟩
        by_cases q2 : og out (k : Int) = y
        · have q1' : (og out (k : Int) = x) = False := eq_false q1
          have q2' : (og out (k : Int) = y) = True := eq_true q2
          simp (disch := omega) only [l3_19, r3_10, r3_11, r3_12, r3_14, r3_15, b3_17, b3_16, r3_18, go_sem, ↓reduceIte, Nat.reduceEqDiff, Nat.reduceAdd, Nat.reduceLeDiff, Nat.reduceBEq, hlt, hk2, hcells, hg, q1', q2', hk3, I1_set (C := o1) (i := k) (by omega), List.set_set, i64_in]
          exact ⟨hlt, ⟨o1.set k x, insN B.length wr1⟩, ⟨by simpa using i1, New_insN.2 ⟨by omega, i2⟩, step x (by rw [swapI, if_neg q1, if_pos q2])⟩, rfl, rfl⟩
        · have q1' : (og out (k : Int) = x) = False := eq_false q1
          have q2' : (og out (k : Int) = y) = False := eq_false q2
          simp (disch := omega) only [l3_19, r3_10, r3_11, r3_12, r3_14, b3_17, b3_16, r3_18, go_sem, ↓reduceIte, Nat.reduceEqDiff, Nat.reduceAdd, Nat.reduceLeDiff, Nat.reduceBEq, hlt, hk2, hcells, hg, q1', q2', i64_in]
          refine ⟨hlt, ⟨o1, wr1⟩, ⟨i1, i2, fun z hz => ?_⟩, rfl, rfl⟩
          simp only
          rw [i3 z hz]
          by_cases e : z = k
          · subst e
            rw [if_neg (by omega), if_pos (by omega), swapI, if_neg q1, if_neg q2]
          · by_cases h : z < k
            · rw [if_pos h, if_pos (by omega)]
            · rw [if_neg h, if_neg (by omega)]
      · have hfin : ∀ z, InV f z → og o1 z = swapI x y (og out z) := fun z hz => by rw [i3 z hz, if_pos (by have := hz.2; omega)]
        simp only [l3_19, r3_10, r3_21, go_sem, ↓reduceIte, Nat.reduceEqDiff, Nat.reduceAdd, Nat.reduceLeDiff, Nat.reduceBEq, Nat.not_lt.2 hge, fun7]
        have hcb : cellsAt (B ++ ext.set 0 (.cells (o1.flatMap I1))) B.length = some (o1.flatMap I1) := by rw [cellsAt_app0]; exact hcells
        have hv1 := hC.v1
        have hV1 : V1ok f t o1 := by
          intro z hz
          rw [hfin z hz]
          refine ⟨fun hp => ?_, fun hp => ?_⟩
          · have := (hv1 z hz).1 hp
            unfold swapI
            split
            · omega
            · split <;> omega
          · rw [(hv1 z hz).2 hp, swapI, if_neg (by omega), if_neg (by omega)]
        refine (check_ok hf hW hcb i1 hV1).mono ?_
        rintro r o2 ⟨rfl, hres⟩
        have hV2 : V2ok f o1 := by
          intro z h1 h2
          have := hW.par
          rw [hfin z ⟨h1, by omega⟩, hC.par z h1 h2, swapI, if_neg (by omega), if_neg (by omega)]
        have hV3 : V3ok f t o1 := by
          intro c d hc hd hcd h0 heq hI
          have hdi : InV f d := ⟨hd, by have := hc.2; omega⟩
          rw [hfin c hc, hfin d hdi] at heq
          refine hC.dist c d hI ?_
          unfold swapI at heq
          split at heq <;> split at heq <;> (try split at heq) <;> (try split at heq) <;> omega
        rw [hres.1 hV2 hV3]
        simp only [go_sem, ↓reduceIte, Nat.reduceEqDiff, Nat.reduceAdd, Nat.reduceLeDiff, Nat.reduceBEq, intV]
        exact yes _ _ i2

/-- the given statement -/
theorem assign_swaps_holds : Rows.AssignSwapsSaid := row3 says3
end Go.Proofs.Ytlliieplgdlldaa
