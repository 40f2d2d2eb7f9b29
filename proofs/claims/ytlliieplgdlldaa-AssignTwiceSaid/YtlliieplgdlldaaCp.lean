/- What the functions of law 46 answer, by the evaluator: assign.Registers.
   Conditions: those that each theorem names. -/
import Derived.Test.YtlliieplgdlldaaCo
namespace Go.Proofs.Ytlliieplgdlldaa
open Go Go.Ev
set_option linter.unusedSimpArgs false
set_option linter.unusedVariables false
set_option maxRecDepth 10000

/-- an assignment as Registers returns it -/
structure Colour (f : FunD) (t : Tr) (o : List Int) : Prop where
  len : o.length = f.varl.length
  par : ∀ x, 0 ≤ x → x < f.params → og o x = x
  p16 : f.params ≤ 16
  rng : ∀ x, x ∈ t.vars → 0 ≤ og o x ∧ og o x < 16
  none : ∀ x, InV f x → ¬ x < f.params → x ∉ t.vars → og o x = -1
  dist : ∀ a b, Inter f t a b → og o a ≠ og o b

theorem vars_par {f : FunD} {t : Tr} (h : Shaped f t) (hp : 0 ≤ f.params ∧ f.params ≤ f.varl.length) {x : Int} (hx : x ∈ t.vars) : ¬ x < f.params := by
  obtain ⟨h1, h2, h3⟩ := h.vars.1 x hx
  intro hlt
  rw [marks0, setAll_get (fun v hv => (mem_pars.1 hv).1) h1 (by simp; omega), if_pos (by rw [mem_pars]; omega)] at h3
  cases h3

/-- what Registers answers -/
def RegRes (f : FunD) (H : Heap) (r : V) (o : Option Heap) : Prop :=
  (∃ e, e ≠ 0 ∧ r = .tup [.lit (.slice none 0 0), intV e] ∧ o = none) ∨
  ∃ t out ext wr', Well f t ∧ Colour f t out ∧ r = .tup [.msl H.blks.length 0 f.varl.length 1 (some f.varl.length), intV 0] ∧ o.getD H = ⟨H.blks ++ ext, wr'⟩ ∧ (∀ b, b ∈ wr' → b ∈ H.wr ∨ H.blks.length ≤ b) ∧ ext[0]? = some (.cells (out.flatMap I1))

theorem regs_ok {f : FunD} (hf : FewD f) (H : Heap) : WC env46 7 [.agg (funV f)] H (RegRes f H) := by
  obtain ⟨B, wr0⟩ := H
  refine WC_fnK keeps46 rfl rfl rfl ?_
  -- an error
  have bad : ∀ (e : Int) (ext : List ABlk) (wr : List Nat), e ≠ 0 → New B.length wr → finK false ⟨B, wr0⟩ (RegRes f ⟨B, wr0⟩) (.tup [.lit (.slice none 0 0), .lit (.int .i64 e)]) ⟨B ++ ext, wr⟩ :=
    fun e ext wr he hw _ => finish_new hw rfl (.inl ⟨e, he, rfl, rfl⟩)
  have hvs := (varsIs f).len
  have hnv := hf.vars
  simp only [c7, r7_0, r7_1, go_sem, ↓reduceIte, Nat.reduceEqDiff, Nat.reduceAdd, Nat.reduceLeDiff, Nat.reduceBEq, funV_strip2, fun7]
  refine (ashaped_ok hf _).mono ?_
  rintro r ro ⟨rfl, c, rfl, hc⟩
  cases c with
  | false =>
    simp only [go_sem, ↓reduceIte, Nat.reduceEqDiff, Nat.reduceAdd, Nat.reduceLeDiff, Nat.reduceBEq, boolV, r7_2]
    have := bad 3 [] [] (by decide) (New_nil.2 trivial)
    rw [List.append_nil] at this
    exact this
  | true =>
    obtain ⟨t, hW⟩ := hc.1 rfl
    have hpar := hW.par
    have q1 : (0 : Int) ≤ (f.varl.length : Int) ∧ (f.varl.length : Int) ≤ (f.varl.length : Int) ∧ (f.varl.length : Int) * ((8 : Nat) : Int) ≤ 140737488355328 ∧ (f.varl.length : Int) ≤ 140737488355328 ∧ (0 + 1 : Nat) = 1 := by omega
    simp only [go_sem, ↓reduceIte, Nat.reduceEqDiff, Nat.reduceAdd, Nat.reduceLeDiff, Nat.reduceBEq, boolV, r7_3, r7_4, b7_11, fun3, hvs, q1, reptI]
    refine W_for f.varl.length (fun k (_ : Ro) => [(1, .imm (funV f)), (4, tO f B.length), (17, .lit (.int .i64 f.varl.length)), (18, .lit (.int .i64 k))])
      (fun _ s => ⟨B ++ [.cells (s.o.flatMap I1), .dead], s.wr⟩) (fun k s => s.o.length = f.varl.length ∧ New B.length s.wr ∧ ∀ j, j < k → s.o[j]? = some (-1)) ?_
      ⟨[], insN (B.length + 1) (insN (B.length + 1) []), List.replicate f.varl.length 0⟩ ⟨by simp, by simp [New_insN, New_nil], by simp⟩ rfl rfl
    rintro k ⟨_, wr, o⟩ hk ⟨i1, i2, i3⟩
    simp only at i1 i2 i3
    rcases Nat.lt_or_ge k f.varl.length with hlt | hge
    · have hl := I1_flen o
      have hk2 : (0 : Int) ≤ (k : Int) ∧ (k : Int) < (f.varl.length : Int) := by omega
      have hk3 : k + 1 ≤ (o.flatMap I1).length := by omega
      simp (disch := omega) only [l7_10, r7_5, r7_6, r7_7, b7_8, r7_9, tO, go_sem, ↓reduceIte, Nat.reduceEqDiff, Nat.reduceAdd, Nat.reduceLeDiff, Nat.reduceBEq, hlt, hk2, hk3, I1_set (C := o) (i := k) (by omega), i64_in]
      refine ⟨hlt, ⟨[], insN B.length wr, o.set k (-1)⟩, ⟨by simpa using i1, New_insN.2 ⟨by omega, i2⟩, fun j hj => ?_⟩, rfl, rfl⟩
      simp only
      rw [List.getElem?_set]
      split
      · rw [if_pos (by omega)]
      · exact i3 j (by omega)
    have hog : ∀ x, InV f x → og o x = -1 := by
      intro x hx
      have := i3 x.toNat (by have := hx.1; have := hx.2; omega)
      simp [og, this]
    simp only [l7_10, r7_5, r7_12, b7_21, go_sem, ↓reduceIte, Nat.reduceEqDiff, Nat.reduceAdd, Nat.reduceLeDiff, Nat.reduceBEq, Nat.not_lt.2 hge, fun1, intV]
    clear hk hge i3 k
    obtain ⟨N, hN⟩ : ∃ N : Nat, f.params = N := ⟨f.params.toNat, by omega⟩
    refine W_for N (fun k (_ : Ro) => [(1, .imm (funV f)), (4, tO f B.length), (26, .lit (.int .i64 f.params)), (27, .lit (.int .i64 k))])
      (fun _ s => ⟨B ++ [.cells (s.o.flatMap I1), .dead], s.wr⟩) (fun k s => s.o.length = f.varl.length ∧ New B.length s.wr ∧ k ≤ 16 ∧ ∀ x, InV f x → og s.o x = if x < k then x else -1) ?_
      ⟨[], wr, o⟩ ⟨i1, i2, by omega, fun x hx => by rw [hog x hx, if_neg]; have := hx.1; omega⟩ rfl rfl
    clear i1 i2 hog wr o
    rintro k ⟨_, wr, o⟩ hk ⟨i1, i2, i3, i4⟩
    simp only at i1 i2 i3 i4
    rcases Nat.lt_or_ge k N with hlt | hge
    · have hk1 : (k : Int) < f.params := by omega
      by_cases h16 : k < 16
      · have hk4 : ¬ (k : Int) ≥ 16 := by omega
        have hl := I1_flen o
        have hk2 : (0 : Int) ≤ (k : Int) ∧ (k : Int) < (f.varl.length : Int) := by omega
        have hk3 : k + 1 ≤ (o.flatMap I1).length := by omega
        simp (disch := omega) only [l7_20, r7_13, r7_14, r7_15, r7_17, b7_18, r7_19, tO, go_sem, ↓reduceIte, Nat.reduceEqDiff, Nat.reduceAdd, Nat.reduceLeDiff, Nat.reduceBEq, hk1, hk2, hk3, hk4, I1_set (C := o) (i := k) (by omega), i64_in]
        refine ⟨hlt, ⟨[], insN B.length wr, o.set k k⟩, ⟨by simpa using i1, New_insN.2 ⟨by omega, i2⟩, by omega, fun x hx => ?_⟩, rfl, rfl⟩
        simp only
        have := og_set (r := (k : Int)) i1 (show InV f (k : Int) from hk2) hx
        rw [Int.toNat_natCast] at this
        rw [this, i4 x hx]
        by_cases e : x = k
        · subst e
          rw [if_pos rfl, if_pos (by omega)]
        · rw [if_neg e]
          split <;> split <;> omega
      · have hk4 : (k : Int) ≥ 16 := by omega
        simp (disch := omega) only [l7_20, r7_13, r7_14, r7_15, r7_16, b7_18, tO, go_sem, ↓reduceIte, Nat.reduceEqDiff, Nat.reduceAdd, Nat.reduceLeDiff, Nat.reduceBEq, hk1, hk4]
        exact bad 19 _ _ (by decide) i2
    · have hkN : k = N := by omega
      subst hkN
      have hk1 : ¬ (k : Int) < f.params := by omega
      simp only [l7_20, r7_13, r7_22, r7_23, r7_24, r7_25, go_sem, ↓reduceIte, Nat.reduceEqDiff, Nat.reduceAdd, Nat.reduceLeDiff, Nat.reduceBEq, hk1, fun5, intV]
      have hRg : Rg f B.length [.cells (o.flatMap I1), .dead, .dead, .cells [.fn 14 [] [.imm (funV f), .imm [.fn 12 [] [.imm (funV f), tO f B.length]], .ref (B.length + 3) 0]]] o := ⟨Nat.le_refl _, rfl, rfl, i1⟩
      have hS := hW.tree
      have hvp := fun x => vars_par hS hpar (x := x)
      have hpre : VPre f t (fun v => 0 ≤ v ∧ v < f.params) o := by
        have hinv : ∀ x, x ∈ t.vars → InV f x := fun x hx => hS.vars_in x hx
        have hlv : ∀ x, t.Live x → (0 ≤ x ∧ x < f.params) := fun x hx => Tr.live_sc t hS.ok hS.sc hx
        have hog : ∀ x, (0 ≤ x ∧ x < f.params) → og o x = x := fun x hx => by rw [i4 x ⟨hx.1, by omega⟩, if_pos (by omega)]
        refine ⟨hS.sc, fun x hx => ⟨hx.1, by omega⟩, fun x hx h2 => hvp x hx h2.2, hS.vars.2, hinv, fun x hx => ?_, fun x hx => ?_, fun x y hx hy hne => ?_, fun x hx => ?_⟩
        · rw [i4 x hx]
          split <;> omega
        · rw [hog x (hlv x hx)]
          exact (hlv x hx).1
        · rw [hog x (hlv x hx), hog y (hlv y hy)]
          exact hne
        · rw [i4 x (hinv x hx), if_neg (by have := hvp x hx; omega)]
          omega
      refine (show WC env46 14 [intV f.body, .imm (funV f), .imm [putV f B.length], .ref (B.length + 3) 0] ⟨B ++ [.cells (o.flatMap I1), .dead, .dead, .cells [.fn 14 [] [.imm (funV f), .imm [.fn 12 [] [.imm (funV f), tO f B.length]], .ref (B.length + 3) 0]]], _⟩ _ from ?_)
      rw [← hS.pos]
      refine (rvisit_ok hf hW t.nodes.length t (Nat.le_refl _) hS.ok (Tr.Has.self t) hpre hRg (by simp [New_insN, i2])).mono ?_
      rintro r rv ⟨c, ext', wr', o', rfl, hrv, hw', hR', hvis⟩
      cases c with
      | false =>
        simp only [hrv, go_sem, ↓reduceIte, Nat.reduceEqDiff, Nat.reduceAdd, Nat.reduceLeDiff, Nat.reduceBEq, boolV, r7_26]
        exact bad 19 _ _ (by decide) hw'
      | true =>
        have hvis := hvis rfl
        simp only [hrv, go_sem, ↓reduceIte, Nat.reduceEqDiff, Nat.reduceAdd, Nat.reduceLeDiff, Nat.reduceBEq, boolV]
        simp only [r7_27, tO, go_sem, ↓reduceIte, Nat.reduceEqDiff, Nat.reduceAdd, Nat.reduceLeDiff, Nat.reduceBEq]
        refine fin_any fun hk o2 D wrD hoD hD hcase hwr => ?_
        have hst : (V.tup [.msl B.length 0 f.varl.length 1 (some f.varl.length), .lit (.int .i64 0)]).strip = .tup [.msl B.length 0 f.varl.length 1 (some f.varl.length), .lit (.int .i64 0)] := rfl
        simp only [Bool.false_eq_true, if_false, hst] at hcase ⊢
        rcases hcase with rfl | ⟨_, hcl, _⟩
        · refine .inr ⟨t, o', ext', wrD, hW, ⟨hvis.len, fun x h1 h2 => ?_, by omega, hvis.rng, fun x h1 h2 h3 => ?_, fun a b hab => ?_⟩, rfl, hoD, fun b hb => (hwr b hb).imp id (hw' b), hR'.out⟩
          · have hxi : InV f x := ⟨h1, by omega⟩
            rw [hvis.same x hxi (fun hm => hvp x hm h2), i4 x hxi, if_pos (by omega)]
          · rw [hvis.same x h1 h3, i4 x h1, if_neg (by omega)]
          · obtain ⟨hne, h⟩ := hab
            rcases h with ⟨ha, hb⟩ | h
            · have hai : InV f a := ⟨ha.1, by omega⟩
              have hbi : InV f b := ⟨hb.1, by omega⟩
              rw [hvis.same a hai (fun hm => hvp a hm ha.2), hvis.same b hbi (fun hm => hvp b hm hb.2), i4 a hai, i4 b hbi, if_pos (by omega), if_pos (by omega)]
              exact hne
            · exact hvis.meet a b h hne
        · exfalso
          simp [V.closed, V.closedL] at hcl
end Go.Proofs.Ytlliieplgdlldaa
