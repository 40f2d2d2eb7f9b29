/- What the functions of law 46 answer, by the evaluator: rename.Maps, assign.shaped.
   Conditions: those that each theorem names. -/
import Derived.Test.YtlliieplgdlldaaCi
namespace Go.Proofs.Ytlliieplgdlldaa
open Go Go.Ev
set_option linter.unusedSimpArgs false
set_option linter.unusedVariables false
set_option maxRecDepth 10000

theorem var_closed (k : Nat) (v : VarD) : V.closedL k (varV v) = true := rfl
theorem code_closed {f : FunD} {k : Nat} : (slV nodeV f.code).closed k = true := slV_closed fun n => node_closed n k
theorem vars_closed {f : FunD} {k : Nat} : (slV varV f.vars).closed k = true := slV_closed fun v => var_closed k v
theorem intV_closed {n : Int} {k : Nat} : (intV n).closed k = true := rfl
theorem boolV_closed {b : Bool} {k : Nat} : (boolV b).closed k = true := rfl

mutual
theorem Tr.mem_nodes {x : Int} : ∀ t : Tr, x ∈ t.nodes ↔ x = t.pos ∨ x ∈ t.subs
  | .mk p n ks => by simp only [Tr.nodes, Tr.pos, Tr.subs, List.mem_cons, Ks.mem_nodes ks]
theorem Ks.mem_nodes {x : Int} : ∀ ks : Ks, x ∈ ks.nodes ↔ x ∈ ks.subs
  | .nil => by simp [Ks.nodes, Ks.subs]
  | .cons b t r => by simp only [Ks.nodes, Ks.subs, List.mem_cons, List.mem_append, Tr.mem_nodes t, Ks.mem_nodes r, or_assoc]
end
theorem Shaped.nodes_in {f : FunD} {t : Tr} (h : Shaped f t) : ∀ x, x ∈ t.nodes → 0 ≤ x ∧ x < f.codel.length := by
  intro x hx
  rcases (Tr.mem_nodes t).1 hx with rfl | hx
  · exact h.ok.pos
  · have := h.subs.1 x hx
    exact ⟨this.1, this.2.1⟩
theorem Shaped.vars_in {f : FunD} {t : Tr} (h : Shaped f t) : ∀ x, x ∈ t.vars → 0 ≤ x ∧ x < f.varl.length := fun x hx => ⟨(h.vars.1 x hx).1, (h.vars.1 x hx).2.1⟩

structure Mp where
  C1 : List Int
  C2 : List Int
  wr : List Nat

theorem reptI (n : Nat) (x : Int) : rept n [.lit (.int .i64 x)] = (List.replicate n x).flatMap I1 := by
  induction n with
  | zero => rfl
  | succ n ih => simp [rept, ih, List.replicate_succ, I1]
theorem I1_set {C : List Int} {i : Nat} {x : Int} (h : i < C.length) : (C.flatMap I1).take i ++ (.lit (.int .i64 x) :: (C.flatMap I1).drop (i + 1)) = (C.set i x).flatMap I1 := I1_splice h
theorem I1_flen (C : List Int) : (C.flatMap I1).length = C.length := by rw [flatMap_len I1_len]; omega

/-- what Maps answers -/
def MapsRes (f : FunD) (r : V) : Prop := ∃ vn vv e ln lv, r = .tup [vn, vv, intV e] ∧ IsSl0 I1 vn ln ∧ IsSl0 I1 vv lv ∧ (e = 0 ∨ e = 3) ∧
  (e = 0 → (0 ≤ f.params ∧ f.params ≤ f.varl.length) ∧ lv.length = f.varl.length ∧ (f.ext = true ∨ f.ext = false ∧ ∃ t, Shaped f t ∧ ∀ (v : Nat) (x : Int), lv[v]? = some x → (0 ≤ x ↔ ((v : Int) < f.params ∨ (v : Int) ∈ t.vars)))) ∧
  (e ≠ 0 → ¬ ((0 ≤ f.params ∧ f.params ≤ f.varl.length) ∧ (f.ext = true ∨ ∃ t, Shaped f t)))

theorem maps_ok {f : FunD} (hf : FewD f) : Ans 17 [.agg (funV f)] (MapsRes f) := by
  rintro ⟨B, wr0⟩
  rw [WC_fn rfl rfl]
  refine ⟨rfl, ?_⟩
  have hvs := (varsIs f).len
  have hcs := (codeIs f).len
  have hnc := hf.code
  have hnv := hf.vars
  simp only [c17, r17_0, r17_1, go_sem, ↓reduceIte, Nat.reduceEqDiff, Nat.reduceAdd, Nat.reduceLeDiff, Nat.reduceBEq, funV_strip2, fun7]
  refine (shaped_ok hf _).mono ?_
  rintro r o ⟨rfl, vn, vv, b, nodes, vars, rfl, h1, h2, h3, h3n⟩
  cases b with
  | false =>
    simp only [go_sem, ↓reduceIte, Nat.reduceEqDiff, Nat.reduceAdd, Nat.reduceLeDiff, Nat.reduceBEq, r17_2, r17_3, boolV]
    exact finish_new (New_nil.2 trivial) rfl ⟨rfl, _, _, 3, [], [], rfl, .inl ⟨rfl, rfl⟩, .inl ⟨rfl, rfl⟩, .inr rfl, (fun h => by cases h), fun _ => h3n rfl⟩
  | true =>
    obtain ⟨hpar, h4⟩ := h3 rfl
    have q1 : (0 : Int) ≤ (f.codel.length : Int) ∧ (f.codel.length : Int) ≤ (f.codel.length : Int) ∧ (f.codel.length : Int) * ((8 : Nat) : Int) ≤ 140737488355328 ∧ (f.codel.length : Int) ≤ 140737488355328 ∧ (0 + 1 : Nat) = 1 := by omega
    have q2 : (0 : Int) ≤ (f.varl.length : Int) ∧ (f.varl.length : Int) ≤ (f.varl.length : Int) ∧ (f.varl.length : Int) * ((8 : Nat) : Int) ≤ 140737488355328 ∧ (f.varl.length : Int) ≤ 140737488355328 ∧ (0 + 1 : Nat) = 1 := by omega
    have hz : ∀ k m, V.closedL k (rept m [.lit (.int .i64 0)]) = true := fun k m => rept_closed rfl
    simp only [go_sem, ↓reduceIte, Nat.reduceEqDiff, Nat.reduceAdd, Nat.reduceLeDiff, Nat.reduceBEq, r17_2, r17_4, boolV, fun3, fun4, code_closed, vars_closed, intV_closed, closed_lit, hcs, hvs, q1, q2, hz]
    have hin : (∀ x, x ∈ nodes → 0 ≤ x ∧ x < f.codel.length) ∧ (∀ x, x ∈ vars → 0 ≤ x ∧ x < f.varl.length) ∧ nodes.length ≤ 1000 ∧ vars.length ≤ 1000 := by
      rcases h4 with ⟨_, rfl, rfl⟩ | ⟨_, t, ht, rfl, rfl⟩
      · simp
      · exact ⟨ht.nodes_in, ht.vars_in, by have := ht.nodes_len; omega, by have := ht.vars_len; omega⟩
    obtain ⟨hin1, hin2, hn1, hn2⟩ := hin
    simp only [go_sem, ↓reduceIte, Nat.reduceEqDiff, Nat.reduceAdd, Nat.reduceLeDiff, Nat.reduceBEq, r17_5, b17_12, reptI]
    -- the first loop
    refine W_for f.codel.length (fun k (_ : Mp) => [(1, .imm (funV f)), (5, vn), (6, vv), (8, .msl B.length 0 f.codel.length 1 (some f.codel.length)), (9, .msl (B.length + 1) 0 f.varl.length 1 (some f.varl.length)), (33, .lit (.int .i64 f.codel.length)), (34, .lit (.int .i64 k))])
      (fun _ s => ⟨B ++ [.cells (s.C1.flatMap I1), .cells ((List.replicate f.varl.length 0).flatMap I1)], s.wr⟩) (fun k s => s.C1.length = f.codel.length ∧ New B.length s.wr) ?_ ⟨List.replicate f.codel.length 0, [], []⟩ ⟨by simp, New_nil.2 trivial⟩ rfl rfl
    rintro k ⟨C1, _, wr⟩ hk ⟨i1, i2⟩
    simp only at i1 i2
    rcases Nat.lt_or_ge k f.codel.length with hlt | hge
    · have hl := I1_flen C1
      have hk2 : (0 : Int) ≤ (k : Int) ∧ (k : Int) < (f.codel.length : Int) := by omega
      have hk3 : k + 1 ≤ (C1.flatMap I1).length := by omega
      simp (disch := omega) only [l17_11, r17_6, r17_7, r17_8, b17_9, r17_10, go_sem, ↓reduceIte, Nat.reduceEqDiff, Nat.reduceAdd, Nat.reduceLeDiff, Nat.reduceBEq, hlt, hk2, hk3, I1_set (C := C1) (i := k) (by omega), i64_in]
      exact ⟨hlt, ⟨C1.set k (-1), [], insN B.length wr⟩, ⟨by simpa using i1, New_insN.2 ⟨by omega, i2⟩⟩, rfl, rfl⟩
    simp only [l17_11, r17_6, r17_13, b17_22, go_sem, ↓reduceIte, Nat.reduceEqDiff, Nat.reduceAdd, Nat.reduceLeDiff, Nat.reduceBEq, Nat.not_lt.2 hge]
    clear hk hge k
    -- the second loop
    refine W_for f.varl.length (fun k (_ : Mp) => [(1, .imm (funV f)), (5, vn), (6, vv), (8, .msl B.length 0 f.codel.length 1 (some f.codel.length)), (9, .msl (B.length + 1) 0 f.varl.length 1 (some f.varl.length)), (42, .lit (.int .i64 f.varl.length)), (43, .lit (.int .i64 k))])
      (fun _ s => ⟨B ++ [.cells (C1.flatMap I1), .cells (s.C2.flatMap I1)], s.wr⟩) (fun k s => s.C2.length = f.varl.length ∧ (∀ j, j < k → s.C2[j]? = some (if (j : Int) < f.params then (j : Int) else -1)) ∧ New B.length s.wr) ?_ ⟨[], List.replicate f.varl.length 0, wr⟩ ⟨by simp, fun j hj => by omega, i2⟩ rfl rfl
    clear i2 wr
    rintro k ⟨_, C2, wr⟩ hk ⟨i2, i3, i4⟩
    simp only at i2 i3 i4
    rcases Nat.lt_or_ge k f.varl.length with hlt | hge
    · have hl := I1_flen C2
      have hk2 : (0 : Int) ≤ (k : Int) ∧ (k : Int) < (f.varl.length : Int) := by omega
      have hk3 : k + 1 ≤ (C2.flatMap I1).length := by omega
      have hl2 := I1_flen (C2.set k (-1))
      have hk4 : k + 1 ≤ ((C2.set k (-1)).flatMap I1).length := by rw [hl2, List.length_set]; omega
      by_cases hp : (k : Int) < f.params
      · simp (disch := omega) only [l17_21, r17_14, r17_15, r17_16, r17_17, r17_18, b17_19, r17_20, go_sem, ↓reduceIte, Nat.reduceEqDiff, Nat.reduceAdd, Nat.reduceLeDiff, Nat.reduceBEq, hlt, hk2, hk3, hk4, I1_set (C := C2) (i := k) (by omega), I1_set (C := C2.set k (-1)) (i := k) (by simp; omega), i64_in, fun1, intV, hp]
        refine ⟨hlt, ⟨[], (C2.set k (-1)).set k k, insN (B.length + 1) (insN (B.length + 1) wr)⟩, ⟨by simpa using i2, fun j hj => ?_, by simp [New_insN, i4]⟩, rfl, rfl⟩
        simp only
        rw [List.set_set, List.getElem?_set]
        split
        · rename_i e
          subst e
          rw [if_pos (by omega), if_pos hp]
        · exact i3 j (by omega)
      · simp (disch := omega) only [l17_21, r17_14, r17_15, r17_16, r17_17, b17_19, r17_20, go_sem, ↓reduceIte, Nat.reduceEqDiff, Nat.reduceAdd, Nat.reduceLeDiff, Nat.reduceBEq, hlt, hk2, hk3, I1_set (C := C2) (i := k) (by omega), i64_in, fun1, intV, hp]
        refine ⟨hlt, ⟨[], C2.set k (-1), insN (B.length + 1) wr⟩, ⟨by simpa using i2, fun j hj => ?_, by simp [New_insN, i4]⟩, rfl, rfl⟩
        simp only
        rw [List.getElem?_set]
        split
        · rename_i e
          subst e
          rw [if_pos (by omega), if_neg hp]
        · exact i3 j (by omega)
    simp only [l17_21, r17_14, r17_23, b17_30, go_sem, ↓reduceIte, Nat.reduceEqDiff, Nat.reduceAdd, Nat.reduceLeDiff, Nat.reduceBEq, Nat.not_lt.2 hge, h1.is.len]
    have i3' : ∀ j, j < f.varl.length → C2[j]? = some (if (j : Int) < f.params then (j : Int) else -1) := fun j hj => i3 j (by omega)
    clear hk hge i3 k
    -- the third loop
    refine W_for nodes.length (fun k (_ : Mp) => [(1, .imm (funV f)), (6, vv), (8, .msl B.length 0 f.codel.length 1 (some f.codel.length)), (9, .msl (B.length + 1) 0 f.varl.length 1 (some f.varl.length)), (58, vn), (59, .lit (.int .i64 nodes.length)), (60, .lit (.int .i64 k))])
      (fun _ s => ⟨B ++ [.cells (s.C1.flatMap I1), .cells (C2.flatMap I1)], s.wr⟩) (fun k s => s.C1.length = f.codel.length ∧ New B.length s.wr) ?_ ⟨C1, [], wr⟩ ⟨i1, i4⟩ rfl rfl
    clear i1 i4 wr C1
    rintro k ⟨C1, _, wr⟩ hk ⟨i1, i4⟩
    simp only at i1 i4
    rcases Nat.lt_or_ge k nodes.length with hlt | hge
    · obtain ⟨hx1, hx2⟩ := hin1 _ (List.getElem_mem hlt)
      have hl := I1_flen C1
      have hx3 : nodes[k].toNat < C1.length := by omega
      have hk3 : nodes[k].toNat + 1 ≤ (C1.flatMap I1).length := by omega
      have hx4 : 0 ≤ nodes[k] ∧ nodes[k] < (f.codel.length : Int) := ⟨hx1, hx2⟩
      simp (disch := omega) only [l17_29, r17_24, r17_25, r17_26, b17_27, r17_28, go_sem, ↓reduceIte, Nat.reduceEqDiff, Nat.reduceAdd, Nat.reduceLeDiff, Nat.reduceBEq, hlt, h1.is.iAddrN I1_len k hlt, drop_lt hlt, I1, hx4, hk3, I1_set hx3, i64_in]
      exact ⟨hlt, ⟨C1.set nodes[k].toNat k, [], insN B.length wr⟩, ⟨by simpa using i1, New_insN.2 ⟨by omega, i4⟩⟩, rfl, rfl⟩
    simp only [l17_29, r17_24, r17_31, b17_38, go_sem, ↓reduceIte, Nat.reduceEqDiff, Nat.reduceAdd, Nat.reduceLeDiff, Nat.reduceBEq, Nat.not_lt.2 hge, h2.is.len]
    clear hk hge k
    -- the fourth loop
    refine W_for vars.length (fun k (_ : Mp) => [(1, .imm (funV f)), (8, .msl B.length 0 f.codel.length 1 (some f.codel.length)), (9, .msl (B.length + 1) 0 f.varl.length 1 (some f.varl.length)), (70, vv), (71, .lit (.int .i64 vars.length)), (72, .lit (.int .i64 k))])
      (fun _ s => ⟨B ++ [.cells (C1.flatMap I1), .cells (s.C2.flatMap I1)], s.wr⟩) (fun k s => s.C2.length = f.varl.length ∧ (∀ (v : Nat) (x : Int), s.C2[v]? = some x → (0 ≤ x ↔ ((v : Int) < f.params ∨ (v : Int) ∈ vars.take k))) ∧ New B.length s.wr) ?_ ⟨[], C2, wr⟩ ⟨i2, ?_, i4⟩ rfl rfl
    rotate_left
    · intro v x hx
      simp only at hx
      have hv : v < f.varl.length := by rw [← i2]; exact (List.getElem?_eq_some_iff.1 hx).1
      rw [i3' v hv] at hx
      simp only [Option.some.injEq] at hx
      subst hx
      simp only [List.take_zero, List.not_mem_nil, or_false]
      split <;> omega
    clear i3' i2 i4 wr C2
    rintro k ⟨_, C2, wr⟩ hk ⟨i2, i3, i4⟩
    simp only at i2 i3 i4
    rcases Nat.lt_or_ge k vars.length with hlt | hge
    · obtain ⟨hx1, hx2⟩ := hin2 _ (List.getElem_mem hlt)
      have hl := I1_flen C2
      have hx3 : vars[k].toNat < C2.length := by omega
      have hk3 : vars[k].toNat + 1 ≤ (C2.flatMap I1).length := by omega
      have hx4 : 0 ≤ vars[k] ∧ vars[k] < (f.varl.length : Int) := ⟨hx1, hx2⟩
      simp (disch := omega) only [l17_37, r17_32, r17_33, r17_34, b17_35, r17_36, go_sem, ↓reduceIte, Nat.reduceEqDiff, Nat.reduceAdd, Nat.reduceLeDiff, Nat.reduceBEq, hlt, h2.is.iAddrN I1_len k hlt, drop_lt hlt, I1, hx4, hk3, I1_set hx3, i64_in, fun1, intV]
      refine ⟨hlt, ⟨[], C2.set vars[k].toNat (f.params + k), insN (B.length + 1) wr⟩, ⟨by simpa using i2, fun v x hx => ?_, New_insN.2 ⟨by omega, i4⟩⟩, rfl, rfl⟩
      simp only at hx
      rw [List.take_succ_eq_append_getElem hlt, List.mem_append, List.mem_singleton]
      rw [List.getElem?_set] at hx
      split at hx
      · rename_i e
        cases hx
        have : (v : Int) = vars[k] := by omega
        simp only [this, or_true, iff_true]
        omega
      · rename_i e
        have hne : (v : Int) ≠ vars[k] := by omega
        rw [i3 v x hx]
        simp only [hne, or_false]
    · rw [List.take_of_length_le hge] at i3
      have hl1 := I1_flen C1
      have hl2 := I1_flen C2
      simp only [l17_37, r17_32, r17_39, go_sem, ↓reduceIte, Nat.reduceEqDiff, Nat.reduceAdd, Nat.reduceLeDiff, Nat.reduceBEq, Nat.not_lt.2 hge]
      rw [List.take_of_length_le (by omega), List.take_of_length_le (by omega), map_flat I1_strip, map_flat I1_strip]
      have hi1 : IsSl0 I1 (.sl (C1.flatMap I1) f.codel.length .none) C1 := .inr (by rw [i1])
      have hi2 : IsSl0 I1 (.sl (C2.flatMap I1) f.varl.length .none) C2 := .inr (by rw [i2])
      refine finish_new (by simp [New_insN, i4]) ?_ ⟨rfl, _, _, 0, C1, C2, rfl, hi1, hi2, .inl rfl, (fun _ => ⟨hpar, i2, ?_⟩), fun h => absurd rfl h⟩
      · have hst : (V.tup [.sl (C1.flatMap I1) f.codel.length .none, .sl (C2.flatMap I1) f.varl.length .none, .lit (.int .i64 0)]).strip = .tup [.sl (C1.flatMap I1) f.codel.length .none, .sl (C2.flatMap I1) f.varl.length .none, .lit (.int .i64 0)] := rfl
        simp only [Bool.false_eq_true, if_false, hst, closed_tup, closedL_cons, closedL_nil, hi1.closed I1_closed, hi2.closed I1_closed, closed_lit, Bool.and_self]
      · rcases h4 with ⟨h, _⟩ | ⟨h, t, ht, _, rfl⟩
        · exact .inl h
        · exact .inr ⟨h, t, ht, i3⟩

/-- a function that is well-shaped and has code, with its tree -/
structure Well (f : FunD) (t : Tr) : Prop where
  par : 0 ≤ f.params ∧ f.params ≤ f.varl.length
  ext : f.ext = false
  tree : Shaped f t
theorem Well.uniq {f : FunD} {t t' : Tr} (h : Well f t) (h' : Well f t') : t = t' := Tr.Ok.uniq t t' h.tree.ok h'.tree.ok (h.tree.pos.trans h'.tree.pos.symm)

theorem ashaped_ok {f : FunD} (hf : FewD f) : Ans 11 [.agg (funV f)] fun r => ∃ b, r = boolV b ∧ (b = true ↔ ∃ t, Well f t) := by
  rintro ⟨B, wr0⟩
  rw [WC_fn rfl rfl]
  refine ⟨rfl, ?_⟩
  simp only [c11, r11_0, r11_1, go_sem, ↓reduceIte, Nat.reduceEqDiff, Nat.reduceAdd, Nat.reduceLeDiff, Nat.reduceBEq, funV_strip2, fun7]
  refine (maps_ok hf _).mono ?_
  rintro r o ⟨rfl, vn, vv, e, ln, lv, rfl, h1, h2, he, h3, h4⟩
  by_cases e0 : e = 0
  · subst e0
    obtain ⟨hp, hl, h3⟩ := h3 rfl
    simp only [go_sem, ↓reduceIte, Nat.reduceEqDiff, Nat.reduceAdd, Nat.reduceLeDiff, Nat.reduceBEq, r11_2, intV, fun6, boolV]
    refine finish_new (New_nil.2 trivial) rfl ⟨rfl, !f.ext, rfl, ?_⟩
    rcases h3 with h | ⟨h, t, ht, _⟩
    · rw [h]
      exact ⟨fun h => by (cases h), fun ⟨t, hw⟩ => by have := hw.ext; rw [h] at this; cases this⟩
    · rw [h]
      exact ⟨fun _ => ⟨t, hp, h, ht⟩, fun _ => rfl⟩
  · simp only [go_sem, ↓reduceIte, Nat.reduceEqDiff, Nat.reduceAdd, Nat.reduceLeDiff, Nat.reduceBEq, r11_2, intV, fun6, boolV, e0]
    refine finish_new (New_nil.2 trivial) rfl ⟨rfl, false, rfl, fun h => (by cases h), fun ⟨t, hw⟩ => absurd ⟨hw.par, .inr ⟨t, hw.tree⟩⟩ (h4 e0)⟩
end Go.Proofs.Ytlliieplgdlldaa
