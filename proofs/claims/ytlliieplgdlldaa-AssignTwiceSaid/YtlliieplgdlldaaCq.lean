/- What the functions of law 46 answer, by the evaluator: assign.Check.
   Conditions: those that each theorem names. -/
import Derived.Test.YtlliieplgdlldaaCp
namespace Go.Proofs.Ytlliieplgdlldaa
open Go Go.Ev
set_option linter.unusedSimpArgs false
set_option linter.unusedVariables false
set_option maxRecDepth 10000

/-- the registers are in their ranges -/
def V1ok (f : FunD) (t : Tr) (o : List Int) : Prop := ∀ x, InV f x → ((x < f.params ∨ x ∈ t.vars) → 0 ≤ og o x ∧ og o x < 16) ∧ (¬ (x < f.params ∨ x ∈ t.vars) → og o x = -1)
def V2ok (f : FunD) (o : List Int) : Prop := ∀ x, 0 ≤ x → x < f.params → og o x = x
def V3ok (f : FunD) (t : Tr) (o : List Int) : Prop := ∀ a b, InV f a → 0 ≤ b → b < a → 0 ≤ og o a → og o a = og o b → ¬ Inter f t a b

/-- what Check answers -/
def CheckRes (f : FunD) (t : Tr) (o : List Int) (r : V) : Prop := (V2ok f o → V3ok f t o → r = intV 0) ∧ (¬ V2ok f o → r = intV 1) ∧ (V2ok f o → ¬ V3ok f t o → r = intV 12)

theorem check_ok {f : FunD} {t : Tr} (hf : FewD f) (hW : Well f t) {B : List ABlk} {wr0 : List Nat} {b : Nat} {o : List Int} {cap : Option Nat} (hb : cellsAt B b = some (o.flatMap I1)) (ho : o.length = f.varl.length) (h1 : V1ok f t o) :
    WC env46 8 [.agg (funV f), .msl b 0 f.varl.length 1 cap] ⟨B, wr0⟩ fun r ro => ro = none ∧ CheckRes f t o r := by
  rw [WC_fn rfl rfl]
  refine ⟨rfl, ?_⟩
  have hvs := (varsIs f).len
  have hnv := hf.vars
  have hog : ∀ x : Int, InV f x → (o.flatMap I1)[x.toNat]? = some (.lit (.int .i64 (og o x))) := fun x hx => by rw [I1_get, og_get ho hx]; rfl
  have hogN : ∀ k : Nat, k < f.varl.length → (o.flatMap I1)[k]? = some (.lit (.int .i64 (og o (k : Int)))) := fun k hk => by
    have := hog (k : Int) ⟨by omega, by omega⟩
    rwa [Int.toNat_natCast] at this
  simp only [c8, r8_0, r8_1, go_sem, ↓reduceIte, Nat.reduceEqDiff, Nat.reduceAdd, Nat.reduceLeDiff, Nat.reduceBEq, funV_strip2, fun7]
  refine (ashaped_ok hf _).mono ?_
  rintro r ro ⟨rfl, c, rfl, hc⟩
  have hct : c = true := hc.2 ⟨t, hW⟩
  subst hct
  simp only [go_sem, ↓reduceIte, Nat.reduceEqDiff, Nat.reduceAdd, Nat.reduceLeDiff, Nat.reduceBEq, boolV, r8_3, r8_5, fun3, hvs, ne_eq, fun7]
  refine (maps_ok hf _).mono ?_
  rintro r ro ⟨rfl, vn, vv, e, ln, lv, rfl, hn, hv, he, h3, h4⟩
  by_cases e0 : e = 0
  rotate_left
  · exact absurd ⟨hW.par, .inr ⟨t, hW.tree⟩⟩ (h4 e0)
  subst e0
  obtain ⟨hpar, hll, h3⟩ := h3 rfl
  rcases h3 with h3 | ⟨_, t', ht', h3⟩
  · rw [hW.ext] at h3; cases h3
  have htt : t' = t := Tr.Ok.uniq t' t ht'.ok hW.tree.ok (ht'.pos.trans hW.tree.pos.symm)
  subst htt
  simp only [go_sem, ↓reduceIte, Nat.reduceEqDiff, Nat.reduceAdd, Nat.reduceLeDiff, Nat.reduceBEq, r8_6, b8_14]
  refine W_for f.varl.length (fun k (_ : Unit) => [(1, .msl b 0 f.varl.length 1 cap), (2, .imm (funV f)), (6, vv), (30, .msl b 0 f.varl.length 1 cap), (31, .lit (.int .i64 f.varl.length)), (32, .lit (.int .i64 k))])
    (fun _ _ => ⟨B, []⟩) (fun _ _ => True) ?_ () trivial rfl rfl
  intro k _ hk _
  rcases Nat.lt_or_ge k f.varl.length with hlt | hge
  · have hki : InV f (k : Int) := ⟨by omega, by omega⟩
    have hk2 : (0 : Int) ≤ (k : Int) ∧ (k : Int) < (f.varl.length : Int) := hki
    have hkl : k < lv.length := by omega
    obtain ⟨x1, x2⟩ := h1 k hki
    have hx := h3 k lv[k] (List.getElem?_eq_getElem hkl)
    by_cases hp : lv[k] ≥ 0
    · have hr := x1 (hx.1 hp)
      have r1 : ¬ og o (k : Int) < 0 := by omega
      have r2 : ¬ og o (k : Int) ≥ 16 := by omega
      have r3 : ¬ lv[k] < 0 := by omega
      simp (disch := omega) only [l8_13, r8_7, r8_8, r8_9, b8_11, r8_12, go_sem, ↓reduceIte, Nat.reduceEqDiff, Nat.reduceAdd, Nat.reduceLeDiff, Nat.reduceBEq, hlt, hk2, hb, hogN k hlt, hv.is.iAddrN I1_len k hkl, drop_lt hkl, I1, hp, r1, r2, r3, i64_in, ne_eq]
      exact ⟨hlt, (), trivial, rfl, rfl⟩
    · have hr := x2 (fun h => hp (hx.2 h))
      have r3 : lv[k] < 0 := by omega
      simp (disch := omega) only [l8_13, r8_7, r8_8, r8_9, b8_11, r8_12, go_sem, ↓reduceIte, Nat.reduceEqDiff, Nat.reduceAdd, Nat.reduceLeDiff, Nat.reduceBEq, hlt, hk2, hb, hogN k hlt, hv.is.iAddrN I1_len k hkl, drop_lt hkl, I1, hp, hr, r3, i64_in, ne_eq]
      exact ⟨hlt, (), trivial, rfl, rfl⟩
  simp only [l8_13, r8_7, r8_15, b8_23, go_sem, ↓reduceIte, Nat.reduceEqDiff, Nat.reduceAdd, Nat.reduceLeDiff, Nat.reduceBEq, Nat.not_lt.2 hge, fun1, intV]
  clear hk hge k
  obtain ⟨N, hN⟩ : ∃ N : Nat, f.params = N := ⟨f.params.toNat, by omega⟩
  refine W_for N (fun k (_ : Unit) => [(1, .msl b 0 f.varl.length 1 cap), (2, .imm (funV f)), (63, .lit (.int .i64 f.params)), (64, .lit (.int .i64 k))])
    (fun _ _ => ⟨B, []⟩) (fun k _ => ∀ x : Int, 0 ≤ x → x < k → og o x = x) ?_ () (fun x h1 h2 => by omega) rfl rfl
  intro k _ hk hi
  rcases Nat.lt_or_ge k N with hlt | hge
  · have hk1 : (k : Int) < f.params := by omega
    have hk2 : (0 : Int) ≤ (k : Int) ∧ (k : Int) < (f.varl.length : Int) := by omega
    by_cases hq : og o (k : Int) = (k : Int)
    · simp (disch := omega) only [l8_22, r8_16, r8_17, r8_18, b8_20, r8_21, go_sem, ↓reduceIte, Nat.reduceEqDiff, Nat.reduceAdd, Nat.reduceLeDiff, Nat.reduceBEq, hk1, hk2, hb, hogN k (by omega), hq, i64_in, ne_eq]
      refine ⟨hlt, (), fun x q1 q2 => ?_, rfl, rfl⟩
      by_cases e : x = k
      · rw [e]; exact hq
      · exact hi x q1 (by omega)
    · simp (disch := omega) only [l8_22, r8_16, r8_17, r8_18, r8_19, b8_20, go_sem, ↓reduceIte, Nat.reduceEqDiff, Nat.reduceAdd, Nat.reduceLeDiff, Nat.reduceBEq, hk1, hk2, hb, hogN k (by omega), hq, i64_in, ne_eq]
      have hn2 : ¬ V2ok f o := fun h => hq (h k (by omega) hk1)
      exact finish_new (New_nil.2 trivial) rfl ⟨rfl, fun h => absurd h hn2, fun _ => rfl, fun h => absurd h hn2⟩
  have hV2 : V2ok f o := fun x q1 q2 => hi x q1 (by omega)
  have hk1 : ¬ (k : Int) < f.params := by omega
  simp only [l8_22, r8_16, r8_24, b8_41, go_sem, ↓reduceIte, Nat.reduceEqDiff, Nat.reduceAdd, Nat.reduceLeDiff, Nat.reduceBEq, hk1]
  clear hi hk1 hk hge k
  refine W_for f.varl.length (fun k (_ : Unit) => [(1, .msl b 0 f.varl.length 1 cap), (2, .imm (funV f)), (75, .lit (.int .i64 f.varl.length)), (76, .lit (.int .i64 k))])
    (fun _ _ => ⟨B, []⟩) (fun k _ => ∀ a b : Int, 0 ≤ a → a < k → 0 ≤ b → b < a → 0 ≤ og o a → og o a = og o b → ¬ Inter f t' a b) ?_ () (fun a b q1 q2 => by omega) rfl rfl
  intro a _ ha hi
  rcases Nat.lt_or_ge a f.varl.length with hlt | hge
  · have ha2 : (0 : Int) ≤ (a : Int) ∧ (a : Int) < (f.varl.length : Int) := by omega
    simp (disch := omega) only [l8_40, r8_25, r8_26, r8_27, b8_38, b8_37, go_sem, ↓reduceIte, Nat.reduceEqDiff, Nat.reduceAdd, Nat.reduceLeDiff, Nat.reduceBEq, hlt]
    refine W_for a (fun c (_ : Unit) => [(1, .msl b 0 f.varl.length 1 cap), (2, .imm (funV f)), (11, .lit (.int .i64 a)), (75, .lit (.int .i64 f.varl.length)), (76, .lit (.int .i64 a)), (79, .lit (.int .i64 a)), (80, .lit (.int .i64 c))])
      (fun _ _ => ⟨B, []⟩) (fun c _ => ∀ b : Int, 0 ≤ b → b < c → 0 ≤ og o (a : Int) → og o (a : Int) = og o b → ¬ Inter f t' a b) ?_ () (fun b q1 q2 => by omega) rfl rfl
    intro c _ hc hj
    rcases Nat.lt_or_ge c a with hlt2 | hge2
    · have hc2 : (0 : Int) ≤ (c : Int) ∧ (c : Int) < (f.varl.length : Int) := by omega
      have step : (0 ≤ og o (a : Int) → og o (a : Int) = og o (c : Int) → ¬ Inter f t' a c) → ∀ b : Int, 0 ≤ b → b < ((c + 1 : Nat) : Int) → 0 ≤ og o (a : Int) → og o (a : Int) = og o b → ¬ Inter f t' a b := by
        intro hs b q1 q2 q3 q4
        by_cases e : b = c
        · subst e
          exact hs q3 q4
        · exact hj b q1 (by omega) q3 q4
      by_cases p0 : og o (a : Int) < 0
      · simp (disch := omega) only [l8_36, r8_28, r8_29, r8_30, b8_34, r8_35, go_sem, ↓reduceIte, Nat.reduceEqDiff, Nat.reduceAdd, Nat.reduceLeDiff, Nat.reduceBEq, hlt2, ha2, hc2, hb, hogN a hlt, p0, i64_in, ne_eq]
        exact ⟨hlt2, (), step fun q1 _ => by omega, rfl, rfl⟩
      by_cases p1 : og o (a : Int) = og o (c : Int)
      · have p1' : (og o (a : Int) = og o (c : Int)) = True := eq_true p1
        simp (disch := omega) only [l8_36, r8_28, r8_29, r8_30, r8_31, b8_34, r8_35, go_sem, ↓reduceIte, Nat.reduceEqDiff, Nat.reduceAdd, Nat.reduceLeDiff, Nat.reduceBEq, hlt2, ha2, hc2, hb, hogN a hlt, hogN c (by omega), p0, p1', i64_in, ne_eq, fun7]
        refine (interfere_ok (a := (a : Int)) (b := (c : Int)) hf hW ha2 hc2 _).mono ?_
        rintro r ro ⟨rfl, x, rfl, hx⟩
        cases x with
        | true =>
          simp only [go_sem, ↓reduceIte, Nat.reduceEqDiff, Nat.reduceAdd, Nat.reduceLeDiff, Nat.reduceBEq, r8_32, r8_33, boolV, intV, ne_eq]
          have hn3 : ¬ V3ok f t' o := fun h => h a c ha2 hc2.1 (by omega) (by omega) p1 (hx.1 rfl)
          exact finish_new (New_nil.2 trivial) rfl ⟨rfl, fun _ h => absurd h hn3, fun h => absurd hV2 h, fun _ _ => rfl⟩
        | false =>
          simp (maxSteps := 2000000) (disch := omega) only [go_sem, ↓reduceIte, Nat.reduceEqDiff, Nat.reduceAdd, Nat.reduceLeDiff, Nat.reduceBEq, r8_32, r8_35, boolV, intV, ne_eq, i64_in]
          exact ⟨hlt2, (), step fun _ _ h => (by have := hx.2 h; cases this), rfl, rfl⟩
      · simp (disch := omega) only [l8_36, r8_28, r8_29, r8_30, b8_34, r8_35, go_sem, ↓reduceIte, Nat.reduceEqDiff, Nat.reduceAdd, Nat.reduceLeDiff, Nat.reduceBEq, hlt2, ha2, hc2, hb, hogN a hlt, hogN c (by omega), p0, p1, i64_in, ne_eq]
        exact ⟨hlt2, (), step fun _ q2 => absurd q2 p1, rfl, rfl⟩
    · have hca : c = a := by omega
      subst hca
      simp (disch := omega) only [l8_36, r8_28, r8_39, go_sem, ↓reduceIte, Nat.reduceEqDiff, Nat.reduceAdd, Nat.reduceLeDiff, Nat.reduceBEq, Nat.lt_irrefl, i64_in]
      refine ⟨hlt, (), fun x y q1 q2 q3 q4 q5 q6 => ?_, rfl, rfl⟩
      by_cases e : x = c
      · subst e
        exact hj y q3 q4 q5 q6
      · exact hi x y q1 (by omega) q3 q4 q5 q6
  · simp only [l8_40, r8_25, r8_42, go_sem, ↓reduceIte, Nat.reduceEqDiff, Nat.reduceAdd, Nat.reduceLeDiff, Nat.reduceBEq, Nat.not_lt.2 hge]
    have hV3 : V3ok f t' o := fun a b q1 q2 q3 q4 q5 => hi a b q1.1 (by have := q1.2; omega) q2 q3 q4 q5
    exact finish_new (New_nil.2 trivial) rfl ⟨rfl, fun _ _ => rfl, fun h => absurd hV2 h, fun _ h => absurd hV3 h⟩
end Go.Proofs.Ytlliieplgdlldaa
