/- What the functions of law 46 answer, by the evaluator: visit within rename.shaped.
   Conditions: those that each theorem names. -/
import Derived.Test.YtlliieplgdlldaaTree
namespace Go.Proofs.Ytlliieplgdlldaa
open Go Go.Ev
set_option linter.unusedSimpArgs false
set_option linter.unusedVariables false
set_option maxRecDepth 10000

section
variable (f : FunD) (n : NodeD) (H : Heap)
theorem fun1 : fAddrV 1 (.imm (funV f)) = some (.imm [intV f.params, intV f.result, slV varV f.vars, slV nodeV f.code, intV f.body, boolV f.ext]) := rfl
theorem fun3 : fAddrV 3 (.imm (funV f)) = some (.imm [slV varV f.vars, slV nodeV f.code, intV f.body, boolV f.ext]) := rfl
theorem fun4 : fAddrV 4 (.imm (funV f)) = some (.imm [slV nodeV f.code, intV f.body, boolV f.ext]) := rfl
theorem fun5 : fAddrV 5 (.imm (funV f)) = some (.imm [intV f.body, boolV f.ext]) := rfl
theorem fun6 : fAddrV 6 (.imm (funV f)) = some (.imm [boolV f.ext]) := rfl
theorem fun7 : loadV H (some 7) (.imm (funV f)) = some (.agg (funV f)) := rfl
theorem node0 : fAddrV 0 (.imm (nodeV n)) = some (.imm (nodeV n)) := rfl
theorem node0' : loadV H none (.imm (nodeV n)) = some (.lit (.int .i64 n.op)) := rfl
theorem node8 : fAddrV 8 (.imm (nodeV n)) = some (.imm [slV brV n.brs, intV n.next]) := rfl
theorem node10 : loadV H (some 10) (.imm (nodeV n)) = some (.agg (nodeV n)) := rfl
theorem node10r (r : List V) : loadV H (some 10) (.imm (nodeV n ++ r)) = some (.agg (nodeV n)) := by
  simp only [loadV, partV]
  rw [if_pos (by simp [nodeV_len]), List.drop_zero, List.take_append_of_le_length (by simp [nodeV_len]), List.take_of_length_le (by simp [nodeV_len])]
theorem node_strip1 : (nodeV n).map V.strip1 = nodeV n := by
  simp only [nodeV, List.map_cons, List.map_nil, intsV_strip1, slV_strip1]
  rfl
theorem fun_strip1 : (funV f).map V.strip1 = funV f := by
  simp only [funV, List.map_cons, List.map_nil, slV_strip1]
  rfl
theorem node_closed (k : Nat) : V.closedL k (nodeV n) = true := by
  have h1 : ∀ o : Option (List Int), V.closed k (intsV o) = true := fun o => by
    have := (is_ints o).is.closed (n := k) I1_closed
    cases o <;> exact this
  have h2 : V.closed k (slV brV n.brs) = true := by
    have := (is_slV (f := brV) n.brs).is.closed (n := k) (fun b => by simp [brV, V.closedL, h1, intV, V.closed])
    cases h : n.brs <;> rw [h] at this <;> exact this
  simp [nodeV, V.closedL, h1, h2, intV, boolV, V.closed]
end

def scOf (s : SS) (v : Int) : Prop := 0 ≤ v ∧ s.scope[v.toNat]? = some true
def SS.push (s : SS) (p : Int) : SS := { s with nodes := s.nodes ++ [p] }

/-- what visit leaves behind at the node p -/
def Post (f : FunD) (s : SS) (p : Int) (s' : SS) : Prop :=
  ∃ n ks, (Tr.mk p n ks).Ok f ∧ s' = (s.push p).after ks ∧ Fresh f.varl.length s.bound ks.vars ∧ Fresh f.codel.length s.reached ks.subs ∧ (Tr.mk p n ks).Sc (scOf s)

/-- a tree stands at the node p -/
def Good (f : FunD) (s : SS) (p : Int) : Prop :=
  ∃ n ks, (Tr.mk p n ks).Ok f ∧ Fresh f.varl.length s.bound ks.vars ∧ Fresh f.codel.length s.reached ks.subs ∧ (Tr.mk p n ks).Sc (scOf s)

mutual
theorem Tr.nodes_len : ∀ t : Tr, t.nodes.length = t.subs.length + 1
  | .mk p n ks => by simp [Tr.nodes, Tr.subs, Ks.nodes_len ks]
theorem Ks.nodes_len : ∀ ks : Ks, ks.nodes.length = ks.subs.length
  | .nil => rfl
  | .cons b t r => by simp [Ks.nodes, Ks.subs, Tr.nodes_len t, Ks.nodes_len r]; omega
end

structure Pre (f : FunD) (s : SS) : Prop where
  ok : s.ok = true
  within : Within s
  nodes : s.nodes.length ≤ s.reached.count true
  vars : s.vars.length ≤ s.bound.count true

structure Kp where
  ext : List ABlk
  wr : List Nat
  P : List (List Int × Tr)

theorem ShH.more {f : FunD} {n : Nat} {ext : List ABlk} {s : SS} {vn vv : V} {tn tv : Option Nat} (h : ShH f n ext s vn vv tn tv) (e : List ABlk) : ShH f n (ext ++ e) s vn vv tn tv where
  len := by have := h.len; simp; omega
  nodes := by rw [List.getElem?_append_left (by have := h.len; omega)]; exact h.nodes
  gn := h.gn.eq fun i hi => List.getElem?_append_left (by subst hi; exact h.gn.lt.1)
  vars := by rw [List.getElem?_append_left (by have := h.len; omega)]; exact h.vars
  gv := h.gv.eq fun i hi => List.getElem?_append_left (by subst hi; exact h.gv.lt.1)
  reached := by rw [List.getElem?_append_left (by have := h.len; omega)]; exact h.reached
  bound := by rw [List.getElem?_append_left (by have := h.len; omega)]; exact h.bound
  scope := by rw [List.getElem?_append_left (by have := h.len; omega)]; exact h.scope
  ok := by rw [List.getElem?_append_left (by have := h.len; omega)]; exact h.ok
  visit := by rw [List.getElem?_append_left (by have := h.len; omega)]; exact h.visit
  lr := h.lr
  lb := h.lb
  ls := h.ls
  ne := h.ne

theorem formOf_match : formOf 9 = ⟨1, false, false, false, false, false, true, false, true⟩ := rfl
theorem kidL_snd (n : NodeD) : (kidL n).map (·.2) = kids n := by
  unfold kidL
  split
  · rename_i h
    simp only [kids, NodeD.form, h, formOf_match, List.map_map, if_true, Bool.false_eq_true, if_false, List.nil_append]
    rfl
  · simp [Function.comp_def]
theorem form_branch {op : Int} (h : op ≠ 9) : (formOf op).branch = false := by
  unfold formOf
  split
  · rename_i ho
    have hh : op = 0 ∨ op = 1 ∨ op = 2 ∨ op = 3 ∨ op = 4 ∨ op = 5 ∨ op = 6 ∨ op = 7 ∨ op = 8 := by
      simp [isOp] at ho
      omega
    rcases hh with rfl | rfl | rfl | rfl | rfl | rfl | rfl | rfl | rfl <;> rfl
  · rfl
theorem kidL_len (n : NodeD) (h : n.brl.length ≤ 20) : (kidL n).length ≤ 1000 := by
  unfold kidL
  split
  · simp; omega
  · rename_i h9
    simp only [List.length_map, kids, NodeD.form, form_branch h9, List.length_append, Bool.false_eq_true, if_false, List.length_nil]
    by_cases hnx : (formOf n.op).next = true <;> simp [hnx]

theorem fnR {f : FunD} {n : Nat} : fnOf (reachV f n) = some (30, [], [.imm (funV f), tR f n]) := rfl
theorem fnB {f : FunD} {n : Nat} : fnOf (bindV f n) = some (31, [], [.imm (funV f), tB f n, tS f n, .ref (n + 1) 0]) := rfl
theorem fnL {f : FunD} {n : Nat} : fnOf (leaveV f n) = some (32, [], [tS f n]) := rfl
theorem fnV {f : FunD} {n : Nat} : fnOf (visitV f n) = some (33, [], [.imm (funV f), .ref n 0, tS f n, .ref (n + 8) 0, .imm [reachV f n], .imm [bindV f n], .ref (n + 12) 0, .imm [leaveV f n]]) := rfl

theorem visit_ok {f : FunD} (hf : FewD f) : ∀ (m : Nat) {B ext : List ABlk} {wr : List Nat} {s : SS} {p : Int}, Sh f B.length ext s → New B.length wr → 0 ≤ p → p < f.codel.length → f.codel.length ≤ s.reached.count true + m → Pre f s → s.nodes.length < s.reached.count true →
    WC env46 33 [intV p, .imm (funV f), .ref B.length 0, tS f B.length, .ref (B.length + 8) 0, .imm [reachV f B.length], .imm [bindV f B.length], .ref (B.length + 12) 0, .imm [leaveV f B.length]] ⟨B ++ ext, wr⟩
      fun r o => ∃ s' ext' wr', o.getD ⟨B ++ ext, wr⟩ = ⟨B ++ ext', wr'⟩ ∧ New B.length wr' ∧ Sh f B.length ext' s' ∧ ((s'.ok = true → Post f s p s') ∧ (s'.ok = false → ¬ Good f s p)) := by
  intro m
  induction m using Nat.strongRecOn with
  | _ m ih =>
    intro B ext wr s p h hw hp0 hp1 hm hpre hnl
    refine WC_fnK keeps46 rfl rfl rfl ?_
    have h0 := h
    obtain ⟨vn, vv, tn, tv, h⟩ := h
    have hpl : p.toNat < f.codel.length := by omega
    have hnc := hf.code
    have hnv := hf.vars
    obtain ⟨n, hn⟩ : ∃ n, f.codel[p.toNat]? = some n := ⟨_, List.getElem?_eq_getElem hpl⟩
    have hd : f.codel.drop p.toNat = n :: f.codel.drop (p.toNat + 1) := by
      rw [drop_lt hpl]
      rw [List.getElem?_eq_getElem hpl] at hn
      cases hn
      rfl
    have hnm : n ∈ f.codel := List.mem_of_getElem? hn
    obtain ⟨hna, hnm2, hnb, hnbb⟩ := hf.node n hnm
    have hl := h.len
    have e0 : (ext ++ [ABlk.dead])[0]? = some (.cells [vn]) := by rw [List.getElem?_append_left (by omega)]; exact h.nodes
    have hc0 : cellsAt (ext ++ [ABlk.dead]) 0 = some [vn] := cellsAt_of e0
    have hcnt : s.reached.count true ≤ f.codel.length := by rw [← h.lr]; exact List.count_le_length
    simp only [c33, r33_0, r33_1, intV, go_sem, ↓reduceIte, Nat.reduceEqDiff, Nat.reduceAdd, Nat.reduceLeDiff, Nat.reduceBEq, fun4, (codeIs f).iAddr nodeV_len p hp0 hp1, hd, node10r, nodeV_len, node_strip1, hc0]
    have hmo := h.more [.dead]
    refine app_one (a := p) hmo.gn (.inr ⟨_, rfl⟩) (by omega) (by simp [New_insN, New_nil]) ?_
    intro v' ext1 wr1 hg1 hl1 hj1 hw1 o ho
    have h1 := hmo.setNodes hg1 hl1 hj1
    have hc1 : cellsAt ext1 0 = some [vn] := cellsAt_of (old_cells hmo.gn hj1 0 _ hmo.nodes hmo.len (by omega))
    have hbx : boxable v' = true := hg1.is.box
    have hvc : v'.cells = [v'] := hg1.is.cells
    simp only [ho, go_sem, ↓reduceIte, Nat.reduceEqDiff, Nat.reduceAdd, Nat.reduceLeDiff, Nat.reduceBEq, hc1, hbx, hvc, r33_2, node10]
    refine (uses_ok n (by omega) (by omega) _).mono ?_
    rintro r o ⟨rfl, hu⟩
    simp only [go_sem, ↓reduceIte, Nat.reduceEqDiff, Nat.reduceAdd, Nat.reduceLeDiff, Nat.reduceBEq, hu.is.len, b33_10]
    -- the function ends with ok false
    have fail : ∀ (e : List ABlk) (w : List Nat) (t : SS), Sh f B.length e t → New B.length w → t.ok = false → ¬ Good f s p → finK false ⟨B ++ ext, wr⟩ (fun r o => ∃ s' ext' wr', o.getD ⟨B ++ ext, wr⟩ = ⟨B ++ ext', wr'⟩ ∧ New B.length wr' ∧ Sh f B.length ext' s' ∧ ((s'.ok = true → Post f s p s') ∧ (s'.ok = false → ¬ Good f s p))) (.tup []) ⟨B ++ e, w⟩ :=
      fun e w t ht hn hf hG => sh_fin h0 ht hw hn fun o ext' wr' e1 e2 e3 => ⟨t, ext', wr', e1, e2, e3, (fun h => by rw [hf] at h; cases h), fun _ => hG⟩
    have hw2 : New B.length (insN B.length wr1) := New_insN.2 ⟨Nat.le_refl _, hw1⟩
    generalize insN B.length wr1 = wr2 at hw2 ⊢
    have h1s : ShH f B.length (ext1.set 0 (.cells [v'])) (s.push p) v' vv (some (ext ++ [ABlk.dead]).length) tv := h1
    generalize ext1.set 0 (.cells [v']) = ext2 at h1s ⊢
    generalize some (ext ++ [ABlk.dead]).length = tn1 at h1s
    clear h1 hc1 ho hj1 hl1 hg1 hmo hc0 e0
    have hsh1 : Sh f B.length ext2 (s.push p) := ⟨_, _, _, _, h1s⟩
    have hcs := cellsAt_of h1s.scope
    have hco := cellsAt_of h1s.ok
    have hvs := (varsIs f).len
    have hul : (uses n).length ≤ 100000 := by
      unfold uses
      split
      · simp
      · split
        · omega
        · have := List.length_filter_le (fun v => decide (0 ≤ v)) (n.argl ++ n.morel)
          rw [List.length_append] at this
          omega
    refine W_for (uses n).length (fun k (_ : Unit) => [(1, .imm (funV f)), (3, tS f B.length), (4, .ref (B.length + 8) 0), (5, .imm [reachV f B.length]), (6, .imm [bindV f B.length]), (7, .ref (B.length + 12) 0), (8, .imm [leaveV f B.length]), (10, .imm (nodeV n)), (26, r), (27, .lit (.int .i64 (uses n).length)), (28, .lit (.int .i64 k))])
      (fun _ _ => ⟨B ++ ext2, wr2⟩) (fun k _ => ∀ x, x ∈ (uses n).take k → scOf s x) ?_ () (by simp) rfl rfl
    intro k _ hk hi
    rcases Nat.lt_or_ge k (uses n).length with hlt | hge
    · have no := fail (ext2.set 8 (.cells [boolV false])) (insN (B.length + 8) wr2) { s.push p with ok := false } ⟨_, _, _, _, h1s.setOk false⟩ (New_insN.2 ⟨by omega, hw2⟩) rfl
      simp only [boolV] at no
      have hgood : ∀ (hG : Good f s p), 0 ≤ (uses n)[k] ∧ s.scope[(uses n)[k].toNat]? = some true := by
        rintro ⟨n', ks, g1, g2, g3, g4⟩
        have : n' = n := by
          have h1 : f.codel[p.toNat]? = some n' := g1.2.1
          rw [hn] at h1
          exact (Option.some.inj h1).symm
        subst this
        exact g4.1 _ (List.getElem_mem hlt)
      have hsl : s.scope.length = f.varl.length := h1s.ls
      by_cases q0 : (uses n)[k] < 0
      · simp (disch := omega) only [l33_9, r33_3, r33_4, r33_5, r33_6, b33_7, tS, go_sem, ↓reduceIte, Nat.reduceEqDiff, Nat.reduceAdd, Nat.reduceLeDiff, Nat.reduceBEq, hlt, hu.is.iAddrN I1_len k hlt, drop_lt hlt, I1, i64_in, q0, hco, boolV]
        exact no fun hG => by have := (hgood hG).1; omega
      by_cases q1 : (uses n)[k] ≥ (f.varl.length : Int)
      · simp (disch := omega) only [l33_9, r33_3, r33_4, r33_5, r33_6, b33_7, tS, go_sem, ↓reduceIte, Nat.reduceEqDiff, Nat.reduceAdd, Nat.reduceLeDiff, Nat.reduceBEq, hlt, hu.is.iAddrN I1_len k hlt, drop_lt hlt, I1, i64_in, q0, q1, hco, boolV, fun3, hvs]
        exact no fun hG => by have := (List.getElem?_eq_some_iff.1 (hgood hG).2).1; omega
      have hx2 : 0 ≤ (uses n)[k] ∧ (uses n)[k] < (f.varl.length : Int) := by omega
      have hxl : (uses n)[k].toNat < (s.push p).scope.length := by rw [h1s.ls]; omega
      have hg : ((s.push p).scope.map boolV)[(uses n)[k].toNat]? = some (.lit (.bool (s.push p).scope[(uses n)[k].toNat])) := by rw [bmap_get, List.getElem?_eq_getElem hxl]; rfl
      by_cases q2 : (s.push p).scope[(uses n)[k].toNat] = false
      · simp (disch := omega) only [l33_9, r33_3, r33_4, r33_5, r33_6, b33_7, tS, go_sem, ↓reduceIte, Nat.reduceEqDiff, Nat.reduceAdd, Nat.reduceLeDiff, Nat.reduceBEq, hlt, hu.is.iAddrN I1_len k hlt, drop_lt hlt, I1, i64_in, q0, q1, q2, hco, boolV, fun3, hvs, hx2, hcs, hg]
        refine no fun hG => ?_
        have e1 := (hgood hG).2
        have e2 : s.scope[(uses n)[k].toNat]? = some false := by
          have := List.getElem?_eq_getElem hxl
          rw [q2] at this
          exact this
        rw [e2] at e1
        cases e1
      have q2' : (s.push p).scope[(uses n)[k].toNat] = true := by simpa using q2
      simp (disch := omega) only [l33_9, r33_3, r33_4, r33_5, r33_8, b33_7, tS, go_sem, ↓reduceIte, Nat.reduceEqDiff, Nat.reduceAdd, Nat.reduceLeDiff, Nat.reduceBEq, hlt, hu.is.iAddrN I1_len k hlt, drop_lt hlt, I1, i64_in, q0, q1, q2', hco, boolV, fun3, hvs, hx2, hcs, hg]
      refine ⟨hlt, (), fun x hx => ?_, rfl, rfl⟩
      rw [List.take_succ_eq_append_getElem hlt] at hx
      rcases List.mem_append.1 hx with hx | hx
      · exact hi x hx
      · rw [List.mem_singleton] at hx
        subst hx
        refine ⟨hx2.1, ?_⟩
        have e := List.getElem?_eq_getElem hxl
        rw [q2'] at e
        exact e
    · rw [List.take_of_length_le hge] at hi
      simp only [l33_9, r33_3, r33_11, go_sem, ↓reduceIte, Nat.reduceEqDiff, Nat.reduceAdd, Nat.reduceLeDiff, Nat.reduceBEq, Nat.not_lt.2 hge, node10]
      refine (kids_ok n (by omega) _).mono ?_
      rintro r2 o2 ⟨rfl, hkd⟩
      simp only [go_sem, ↓reduceIte, Nat.reduceEqDiff, Nat.reduceAdd, Nat.reduceLeDiff, Nat.reduceBEq, hkd.is.len, b33_25]
      have hkl : (kidL n).map (·.2) = kids n := kidL_snd n
      have hkll : (kidL n).length = (kids n).length := by rw [← hkl, List.length_map]
      have hko := hpre.ok
      have hpok : (s.push p).ok = true := hko
      have hkb : (kids n).length ≤ 1000 := by rw [← hkll]; exact kidL_len n hnb
      refine W_for (kids n).length (fun k (_ : Kp) => [(4, .ref (B.length + 8) 0), (5, .imm [reachV f B.length]), (6, .imm [bindV f B.length]), (7, .ref (B.length + 12) 0), (8, .imm [leaveV f B.length]), (10, .imm (nodeV n)), (50, r2), (51, .lit (.int .i64 (kids n).length)), (52, .lit (.int .i64 k))])
        (fun _ t => ⟨B ++ t.ext, t.wr⟩) (fun k t => Sh f B.length t.ext ((s.push p).after (ofL t.P)) ∧ New B.length t.wr ∧ (ofL t.P).list = (kidL n).take k ∧ (ofL t.P).Ok f ∧ (ofL t.P).Sc (scOf s) ∧ Fresh f.varl.length s.bound (ofL t.P).vars ∧ Fresh f.codel.length s.reached (ofL t.P).subs) ?_
        ⟨ext2, wr2, []⟩ ⟨by simpa [ofL, SS.after, Ks.nodes, Ks.vars, Ks.subs, setAll] using hsh1, hw2, by simp [ofL, Ks.list], trivial, trivial, Fresh.nil, Fresh.nil⟩ rfl rfl
      rintro k ⟨ext3, wr3, P⟩ hk ⟨i1, i2, i3, i4, i5, i6, i7⟩
      simp only at i1 i2 i3 i4 i5 i6 i7
      rcases Nat.lt_or_ge k (kids n).length with hlt | hge
      · have hlt2 : k < (kidL n).length := by omega
        have hkk : (kids n)[k] = (kidL n)[k].2 := by simp only [← hkl, List.getElem_map]
        obtain ⟨b, kp, hbk⟩ : ∃ b kp, (kidL n)[k] = (b, kp) := ⟨_, _, rfl⟩
        have hkp : (kids n)[k] = kp := by rw [hkk, hbk]
        obtain ⟨vn3, vv3, tn3, tv3, hx⟩ := id i1
        -- what a good tree says of this kid
        have hkid : Good f s p → ∃ n' ks', (Tr.mk kp n' ks').Ok f ∧ Fresh f.varl.length ((s.push p).after (ofL P)).bound b ∧ Fresh f.varl.length (setAll ((s.push p).after (ofL P)).bound b true) ks'.vars ∧
            Fresh f.codel.length ((s.push p).after (ofL P)).reached [kp] ∧ Fresh f.codel.length (((s.push p).after (ofL P)).reached.set kp.toNat true) ks'.subs ∧ (Tr.mk kp n' ks').Sc fun v => scOf s v ∨ v ∈ b := by
          rintro ⟨n', ks, g1, g2, g3, g4⟩
          have : n' = n := by
            have h1 : f.codel[p.toNat]? = some n' := g1.2.1
            rw [hn] at h1
            exact (Option.some.inj h1).symm
          subst this
          obtain ⟨t, R, rfl, ht1, ht2⟩ := ks_split hlt2 g1.2.2.1 g1.2.2.2 i3 i4
          rw [hbk] at ht1 g2 g3 g4
          obtain ⟨kp', n'', ks''⟩ := t
          have e : kp' = kp := ht1
          subst e
          rw [ofL_app_vars] at g2
          rw [ofL_app_subs] at g3
          have g2' : Fresh f.varl.length ((s.push p).after (ofL P)).bound (b ++ (ks''.vars ++ (ofL R).vars)) := (g2.split h1s.lb).2
          have g3' : Fresh f.codel.length ((s.push p).after (ofL P)).reached ([kp'] ++ (ks''.subs ++ (ofL R).subs)) := (g3.split h1s.lr).2
          have g2a := g2'.split hx.lb
          have g3a := g3'.split hx.lr
          have g4' := ((ofL_app_sc P _ _).1 g4.2).2
          exact ⟨n'', ks'', ht2, g2a.1, (g2a.2.split (by rw [setAll_len]; exact hx.lb)).1, g3a.1, (g3a.2.split (by rw [setAll_len]; exact hx.lr)).1, g4'.1⟩
        have hcnt3 : ((s.push p).after (ofL P)).reached.count true = s.reached.count true + (ofL P).subs.length := count_setAll (n := f.codel.length) h1s.lr i7
        have hcnb3 : ((s.push p).after (ofL P)).bound.count true = s.bound.count true + (ofL P).vars.length := count_setAll (n := f.varl.length) h1s.lb i6
        have rest : ∀ (Q : Ex → Tm → Heap → Prop) (T : Tm) (vb : V), IsSl I1 vb b → b.length ≤ 1000 →
            (∀ T' e w t, Sh f B.length e t → New B.length w → t.ok = false → ¬ Good f s p → Q .ret T' ⟨B ++ e, w⟩) →
            (∀ e w t, (Sh f B.length e ((s.push p).after (ofL (P ++ [(b, t)]))) ∧ New B.length w ∧ (ofL (P ++ [(b, t)])).list = (kidL n).take (k + 1) ∧ (ofL (P ++ [(b, t)])).Ok f ∧ (ofL (P ++ [(b, t)])).Sc (scOf s) ∧ Fresh f.varl.length s.bound (ofL (P ++ [(b, t)])).vars ∧ Fresh f.codel.length s.reached (ofL (P ++ [(b, t)])).subs) →
              Q .normal [(4, .ref (B.length + 8) 0), (5, .imm [reachV f B.length]), (6, .imm [bindV f B.length]), (7, .ref (B.length + 12) 0), (8, .imm [leaveV f B.length]), (10, .imm (nodeV n)), (50, r2), (51, .lit (.int .i64 (kids n).length)), (52, .lit (.int .i64 k))] ⟨B ++ e, w⟩) →
            T.get 4 = some (.ref (B.length + 8) 0) → T.get 5 = some (.imm [reachV f B.length]) → T.get 6 = some (.imm [bindV f B.length]) → T.get 7 = some (.ref (B.length + 12) 0) → T.get 8 = some (.imm [leaveV f B.length]) → T.get 10 = some (.imm (nodeV n)) →
            T.get 14 = some (intV kp) → T.get 15 = some vb → T.get 50 = some r2 → T.get 51 = some (.lit (.int .i64 (kids n).length)) → T.get 52 = some (.lit (.int .i64 k)) →
            W env46 (.seq (.seq r33_17 (.cond (.t 77) (.seq r33_18 .ret) .skip)) (.seq (.seq r33_19 (.seq r33_20 (.cond (.t 82) .ret .skip))) r33_21)) T ⟨B ++ ext3, wr3⟩ Q := by
          intro Q T vb hvb hbl hret hnext g4 g5 g6 g7 g8 g10 g14 g15 g50 g51 g52
          simp only [r33_17, go_sem, ↓reduceIte, Nat.reduceEqDiff, Nat.reduceAdd, Nat.reduceLeDiff, Nat.reduceBEq, g4, g5, g6, g7, g8, g10, g14, g15, g50, g51, g52, fnR]
          refine (reach_ok i1 i2).mono ?_
          rintro r o ⟨rfl, ext4, wr4, ho, hw4, hs4⟩
          cases hc : canReach f ((s.push p).after (ofL P)) kp with
          | false =>
            rw [hc] at hs4
            simp only [Bool.false_eq_true, if_false] at hs4
            obtain ⟨_, _, _, _, hs4⟩ := hs4
            have hco4 := cellsAt_of hs4.ok
            simp only [ho, go_sem, ↓reduceIte, Nat.reduceEqDiff, Nat.reduceAdd, Nat.reduceLeDiff, Nat.reduceBEq, boolV, g4, g5, g6, g7, g8, g10, g14, g15, g50, g51, g52, fnR, r33_18, hco4]
            refine hret _ _ _ _ ⟨_, _, _, _, hs4.setOk false⟩ (New_insN.2 ⟨by omega, hw4⟩) rfl fun hG => ?_
            obtain ⟨_, _, _, _, _, g5, _⟩ := hkid hG
            obtain ⟨k1, k2, k3⟩ := g5.1 kp (by simp)
            have : canReach f ((s.push p).after (ofL P)) kp = true := by
              simp only [canReach, Bool.and_eq_true, decide_eq_true_eq, Bool.not_eq_true']
              exact ⟨⟨k1, k2⟩, by rw [k3]; rfl⟩
            rw [hc] at this
            cases this
          | true =>
            rw [hc] at hs4
            simp only [if_true] at hs4
            have hcr : (0 ≤ kp ∧ kp < f.codel.length) ∧ ((s.push p).after (ofL P)).reached[kp.toNat]? = some false := by
              simp only [canReach, Bool.and_eq_true, decide_eq_true_eq, Bool.not_eq_true'] at hc
              refine ⟨hc.1, ?_⟩
              have hlt : kp.toNat < ((s.push p).after (ofL P)).reached.length := by rw [hx.lr]; omega
              have := hc.2
              rw [List.getElem?_eq_getElem hlt] at this ⊢
              simp at this
              rw [this]
            simp only [ho, go_sem, ↓reduceIte, Nat.reduceEqDiff, Nat.reduceAdd, Nat.reduceLeDiff, Nat.reduceBEq, boolV, g4, g5, g6, g7, g8, g10, g14, g15, g50, g51, g52, fnR, fnB]
            have hvl4 : (((s.push p).after (ofL P)).reach kp).vars.length ≤ 100000 := by
              have h1 := hpre.vars
              have h2 : s.bound.count true ≤ s.bound.length := List.count_le_length
              have h3 : s.bound.length = f.varl.length := h1s.lb
              have h4 : (ofL P).vars.length ≤ f.varl.length := by
                have := hcnb3
                have h5 : ((s.push p).after (ofL P)).bound.count true ≤ ((s.push p).after (ofL P)).bound.length := List.count_le_length
                rw [hx.lb] at h5
                omega
              show (s.vars ++ (ofL P).vars).length ≤ 100000
              rw [List.length_append]
              omega
            refine (bind_ok hs4 hw4 hvb (by omega) hvl4).mono ?_
            rintro r o5 ⟨bb, s5, ext5, wr5, rfl, ho5, hw5, hs5, hbs, hbn⟩
            cases bb with
            | false =>
              obtain ⟨_, _, _, _, hs5⟩ := hs5
              have hco5 := cellsAt_of hs5.ok
              simp only [ho5, go_sem, ↓reduceIte, Nat.reduceEqDiff, Nat.reduceAdd, Nat.reduceLeDiff, Nat.reduceBEq, boolV, g4, g5, g6, g7, g8, g10, g14, g15, g50, g51, g52, r33_18, hco5]
              refine hret _ _ _ _ ⟨_, _, _, _, hs5.setOk false⟩ (New_insN.2 ⟨by omega, hw5⟩) rfl fun hG => ?_
              obtain ⟨_, _, _, g2, _⟩ := hkid hG
              exact hbn rfl g2
            | true =>
              obtain ⟨rfl, hbinds⟩ := hbs rfl
              obtain ⟨vn5, vv5, tn5, tv5, hx5⟩ := id hs5
              have hvis := cellsAt_of hx5.visit
              simp only [ho5, go_sem, ↓reduceIte, Nat.reduceEqDiff, Nat.reduceAdd, Nat.reduceLeDiff, Nat.reduceBEq, boolV, g4, g5, g6, g7, g8, g10, g14, g15, g50, g51, g52, r33_19, hvis, fnV]
              -- what stands ahead of the visit of the kid
              have hfb : Fresh f.varl.length ((s.push p).after (ofL P)).bound b := fresh_of_binds hx.lb hbinds
              have hcr5 : ((((s.push p).after (ofL P)).reach kp).bind b).reached.count true = s.reached.count true + (ofL P).subs.length + 1 := by
                show ((((s.push p).after (ofL P)).reached).set kp.toNat true).count true = _
                rw [count_set hcr.2, hcnt3]
              have hcb5 : ((((s.push p).after (ofL P)).reach kp).bind b).bound.count true = s.bound.count true + (ofL P).vars.length + b.length := by
                show (setAll ((s.push p).after (ofL P)).bound b true).count true = _
                rw [count_setAll hx.lb hfb, hcnb3]
              have hcle : ((((s.push p).after (ofL P)).reach kp).bind b).reached.count true ≤ f.codel.length := by rw [← hx5.lr]; exact List.count_le_length
              have hsub : Fresh f.varl.length ((s.push p).after (ofL P)).scope b := by
                refine ⟨fun v hv => ?_, hfb.2⟩
                obtain ⟨q1, q2, q3⟩ := hfb.1 v hv
                refine ⟨q1, q2, ?_⟩
                have hvl : v.toNat < s.scope.length := by
                  have : s.scope.length = f.varl.length := h1s.ls
                  omega
                show s.scope[v.toNat]? = some false
                rw [List.getElem?_eq_getElem hvl]
                cases hsv : s.scope[v.toNat] with
                | false => rfl
                | true =>
                  have h1 := hpre.within v.toNat (by rw [List.getElem?_eq_getElem hvl, hsv])
                  have h2 : ((s.push p).after (ofL P)).bound[v.toNat]? = some true := by
                    show (setAll s.bound (ofL P).vars true)[v.toNat]? = some true
                    rw [setAll_get i6.nonneg q1 (by have : s.bound.length = f.varl.length := h1s.lb; omega), h1]
                    split <;> rfl
                  rw [h2] at q3
                  cases q3
              have hpre5 : Pre f ((((s.push p).after (ofL P)).reach kp).bind b) := by
                refine ⟨hko, ?_, ?_, ?_⟩
                · intro i hi
                  have hil : i < f.varl.length := by
                    rw [← hx5.ls]
                    exact (List.getElem?_eq_some_iff.1 hi).1
                  have e : ((i : Int)).toNat = i := by omega
                  have hi' : (setAll s.scope b true)[i]? = some true := hi
                  show (setAll (setAll s.bound (ofL P).vars true) b true)[i]? = some true
                  have l1 : s.scope.length = f.varl.length := h1s.ls
                  have l2 : s.bound.length = f.varl.length := h1s.lb
                  rw [← e] at hi' ⊢
                  rw [setAll_get hfb.nonneg (by omega) (by omega)] at hi'
                  rw [setAll_get hfb.nonneg (by omega) (by rw [setAll_len]; omega)]
                  split
                  · rfl
                  · rename_i hnb
                    rw [if_neg hnb] at hi'
                    rw [setAll_get i6.nonneg (by omega) (by omega), hpre.within _ hi']
                    split <;> rfl
                · rw [hcr5]
                  show (s.nodes ++ [p] ++ (ofL P).nodes).length ≤ _
                  rw [List.length_append, List.length_append, Ks.nodes_len]
                  simp only [List.length_cons, List.length_nil]
                  omega
                · rw [hcb5]
                  show (s.vars ++ (ofL P).vars ++ b).length ≤ _
                  rw [List.length_append, List.length_append]
                  have := hpre.vars
                  omega
              have hnl5 : ((((s.push p).after (ofL P)).reach kp).bind b).nodes.length < ((((s.push p).after (ofL P)).reach kp).bind b).reached.count true := by
                rw [hcr5]
                show (s.nodes ++ [p] ++ (ofL P).nodes).length < _
                rw [List.length_append, List.length_append, Ks.nodes_len]
                simp only [List.length_cons, List.length_nil]
                omega
              have hm1 : 0 < m := by omega
              refine (ih (m - 1) (by omega) hs5 hw5 hcr.1.1 hcr.1.2 (by omega) hpre5 hnl5).mono ?_
              rintro r o6 ⟨s6, ext6, wr6, ho6, hw6, hs6, hpost, hnpost⟩
              obtain ⟨vn6, vv6, tn6, tv6, hx6⟩ := id hs6
              have hco6 := cellsAt_of hx6.ok
              cases hok6 : s6.ok with
              | false =>
                simp only [ho6, go_sem, ↓reduceIte, Nat.reduceEqDiff, Nat.reduceAdd, Nat.reduceLeDiff, Nat.reduceBEq, boolV, g4, g5, g6, g7, g8, g10, g14, g15, g50, g51, g52, r33_20, hco6, hok6]
                refine hret _ _ _ _ hs6 hw6 hok6 fun hG => hnpost hok6 ?_
                obtain ⟨n', ks', g1, g2, g3, g4, g5, g6⟩ := hkid hG
                refine ⟨n', ks', g1, g3, g5, Tr.Sc.congr _ (fun v hv => ?_) g6⟩
                have l1 : s.scope.length = f.varl.length := h1s.ls
                show 0 ≤ v ∧ (setAll s.scope b true)[v.toNat]? = some true
                by_cases hvb2 : v ∈ b
                · have := hfb.1 v hvb2
                  refine ⟨this.1, ?_⟩
                  rw [setAll_get hfb.nonneg this.1 (by omega), if_pos hvb2]
                · rcases hv with hv | hv
                  · have := (List.getElem?_eq_some_iff.1 hv.2).1
                    refine ⟨hv.1, ?_⟩
                    rw [setAll_get hfb.nonneg hv.1 this, if_neg hvb2]
                    exact hv.2
                  · exact absurd hv hvb2
              | true =>
                simp only [ho6, go_sem, ↓reduceIte, Nat.reduceEqDiff, Nat.reduceAdd, Nat.reduceLeDiff, Nat.reduceBEq, boolV, g4, g5, g6, g7, g8, g10, g14, g15, g50, g51, g52, r33_20, r33_21, hco6, hok6, fnL]
                obtain ⟨n7, ks7, q1, q2, q3, q4, q5⟩ := hpost hok6
                refine (leave_ok hs6 hw6 hvb (by omega) fun x hx => ⟨(hfb.1 x hx).1, (hfb.1 x hx).2.1⟩).mono ?_
                rintro r o7 ⟨ext7, wr7, ho7, hw7, hs7⟩
                simp only [ho7, go_sem, ↓reduceIte, Nat.reduceEqDiff, Nat.reduceAdd, Nat.reduceLeDiff, Nat.reduceBEq, boolV, g4, g5, g6, g7, g8, g10, g14, g15, g50, g51, g52]
                refine hnext ext7 wr7 (Tr.mk kp n7 ks7) ⟨?_, hw7, ?_, ofL_ok _ _ _ i4 q1, ofL_sc _ _ _ i5 ?_, ?_, ?_⟩
                · have e : (s.push p).after (ofL (P ++ [(b, Tr.mk kp n7 ks7)])) = { s6 with scope := setAll s6.scope b false } := by
                    rw [q2]
                    have e1 : setAll (setAll s.scope b true) b false = s.scope := setAll_back (by
                      have : s.scope.length = f.varl.length := h1s.ls
                      rw [this]
                      exact hsub)
                    simp only [SS.after, SS.push, SS.reach, SS.bind, ofL_nodes, ofL_vars, ofL_subs, setAll_append, Tr.nodes, Tr.vars, Tr.subs, Tr.pos, List.append_assoc, List.cons_append, List.nil_append, e1]
                    rfl
                  rw [e]
                  exact hs7
                · rw [ofL_list, i3, List.take_succ_eq_append_getElem hlt2, hbk]
                  rfl
                · refine Tr.Sc.congr _ (fun v hv => ?_) q5
                  obtain ⟨hv1, hv2⟩ := hv
                  have hv2' : (setAll s.scope b true)[v.toNat]? = some true := hv2
                  by_cases hvb2 : v ∈ b
                  · exact .inr hvb2
                  · left
                    refine ⟨hv1, ?_⟩
                    have hvl : v.toNat < s.scope.length := by
                      have := (List.getElem?_eq_some_iff.1 hv2').1
                      rwa [setAll_len] at this
                    rw [setAll_get hfb.nonneg hv1 hvl, if_neg hvb2] at hv2'
                    exact hv2'
                · rw [ofL_vars]
                  refine i6.append h1s.lb (Fresh.append (by rw [setAll_len]; exact h1s.lb) hfb ?_)
                  exact q3
                · rw [ofL_subs]
                  refine i7.append h1s.lr ?_
                  show Fresh f.codel.length (setAll s.reached (ofL P).subs true) ([kp] ++ ks7.subs)
                  refine Fresh.append (by rw [setAll_len]; exact h1s.lr) ⟨fun v hv => ?_, by simp⟩ q4
                  rw [List.mem_singleton] at hv
                  subst hv
                  exact ⟨hcr.1.1, hcr.1.2, hcr.2⟩
        simp (disch := omega) only [l33_24, r33_12, r33_13, r33_14, b33_22, go_sem, ↓reduceIte, Nat.reduceEqDiff, Nat.reduceAdd, Nat.reduceLeDiff, Nat.reduceBEq, hlt, hkd.is.iAddrN I1_len k hlt, drop_lt hlt, I1, i64_in, hkp, node10]
        refine (binds_ok n (by omega) (fun b hb => by have := hnbb b hb; omega) _).mono ?_
        rintro r3 o3 ⟨rfl, hbd⟩
        by_cases h9 : n.op = 9
        · have hbr := is_slV (f := brV) n.brs
          have hkL : kidL n = n.brl.map fun b => (b.bindl, b.next) := by simp [kidL, h9]
          have hlb : k < n.brl.length := by rw [hkL, List.length_map] at hlt2; exact hlt2
          have hlb' : k < (n.brs.getD []).length := hlb
          have hdb : (n.brs.getD []).drop k = n.brl[k] :: n.brl.drop (k + 1) := drop_lt hlb
          have hb : b = n.brl[k].bindl := by
            have := hbk
            simp only [hkL, List.getElem_map] at this
            exact (Prod.mk.inj this).1.symm
          have hvb : IsSl I1 (intsV n.brl[k].binds) b := by rw [hb]; exact (is_ints _).is
          simp only [go_sem, ↓reduceIte, Nat.reduceEqDiff, Nat.reduceAdd, Nat.reduceLeDiff, Nat.reduceBEq, r33_15, r33_16, node0, node0', node8, h9, hbr.is.iAddrN brV_len k hlb', hdb, brV]
          have hbl : b.length ≤ 1000 := by rw [hb]; have := hnbb _ (List.getElem_mem hlb); omega
          refine W_seq.1 (W_seq.1 (rest _ _ _ hvb hbl (fun T' e w t h1 h2 h3 h4 => ?_) (fun e w t hh => ?_) rfl rfl rfl rfl rfl rfl rfl rfl rfl rfl rfl))
          · simp only [go_sem, ↓reduceIte, Nat.reduceEqDiff, Nat.reduceAdd, Nat.reduceLeDiff, Nat.reduceBEq]
            exact fail e w t h1 h2 h3 h4
          · simp (disch := omega) only [go_sem, ↓reduceIte, Nat.reduceEqDiff, Nat.reduceAdd, Nat.reduceLeDiff, Nat.reduceBEq, r33_23, i64_in]
            exact ⟨hlt, ⟨e, w, P ++ [(b, t)]⟩, hh, rfl, rfl⟩
        · have hb : b = binds n := by
            have := hbk
            simp only [kidL, h9, if_false, List.getElem_map] at this
            exact (Prod.mk.inj this).1.symm
          have hbl : b.length ≤ 1000 := by
            rw [hb]
            simp only [binds, NodeD.form, form_branch h9, Bool.false_eq_true, if_false, List.append_nil]
            by_cases hbn : (formOf n.op).binds = true <;> simp [hbn]
          have hvb : IsSl I1 r3 b := by rw [hb]; exact hbd.is
          simp only [go_sem, ↓reduceIte, Nat.reduceEqDiff, Nat.reduceAdd, Nat.reduceLeDiff, Nat.reduceBEq, r33_15, r33_16, node0, node0', node8, h9]
          refine W_seq.1 (W_seq.1 (rest _ _ _ hvb hbl (fun T' e w t h1 h2 h3 h4 => ?_) (fun e w t hh => ?_) rfl rfl rfl rfl rfl rfl rfl rfl rfl rfl rfl))
          · simp only [go_sem, ↓reduceIte, Nat.reduceEqDiff, Nat.reduceAdd, Nat.reduceLeDiff, Nat.reduceBEq]
            exact fail e w t h1 h2 h3 h4
          · simp (disch := omega) only [go_sem, ↓reduceIte, Nat.reduceEqDiff, Nat.reduceAdd, Nat.reduceLeDiff, Nat.reduceBEq, r33_23, i64_in]
            exact ⟨hlt, ⟨e, w, P ++ [(b, t)]⟩, hh, rfl, rfl⟩
      · rw [List.take_of_length_le (by omega)] at i3
        simp only [l33_24, r33_12, go_sem, ↓reduceIte, Nat.reduceEqDiff, Nat.reduceAdd, Nat.reduceLeDiff, Nat.reduceBEq, Nat.not_lt.2 hge]
        refine sh_fin h0 i1 hw i2 fun o ext' wr' e1 e2 e3 => ⟨_, ext', wr', e1, e2, e3, fun _ => ⟨n, ofL P, ⟨hp0, hn, i3, i4⟩, rfl, i6, i7, hi, i5⟩, fun h => by rw [show ((s.push p).after (ofL P)).ok = s.ok from rfl, hko] at h; cases h⟩
end Go.Proofs.Ytlliieplgdlldaa
