/- What the functions of law 46 answer, by the evaluator: rename.shaped.
   Conditions: those that each theorem names. -/
import Derived.Test.YtlliieplgdlldaaCh
namespace Go.Proofs.Ytlliieplgdlldaa
open Go Go.Ev
set_option linter.unusedSimpArgs false
set_option linter.unusedVariables false
set_option maxRecDepth 10000

theorem rept_map (n : Nat) (b : Bool) : rept n [.lit (.bool b)] = (List.replicate n b).map boolV := by
  induction n with
  | zero => rfl
  | succ n ih => simp [rept, ih, List.replicate_succ, boolV]
theorem slV_closed {α : Type} {f : α → List V} {n : Nat} {o : Option (List α)} (h : ∀ a, V.closedL n (f a) = true) : (slV f o).closed n = true := IsSl0.closed (is_slV o) h
theorem funV_strip2 {f : FunD} : (V.agg (funV f)).strip2 = .agg (funV f) := by rw [strip2_agg, fun_strip1]

/-- the parameters -/
def pars (k : Nat) : List Int := (List.range k).map fun i : Nat => (i : Int)
theorem mem_pars {k : Nat} {v : Int} : v ∈ pars k ↔ 0 ≤ v ∧ v < k := by
  simp only [pars, List.mem_map, List.mem_range]
  constructor
  · rintro ⟨i, hi, rfl⟩; omega
  · rintro ⟨h1, h2⟩; exact ⟨v.toNat, by omega, by omega⟩
theorem pars_succ (k : Nat) : pars (k + 1) = pars k ++ [(k : Int)] := by simp [pars, List.range_succ]

def marks0 (f : FunD) (k : Nat) : List Bool := setAll (List.replicate f.varl.length false) (pars k) true
theorem marks0_len (f : FunD) (k : Nat) : (marks0 f k).length = f.varl.length := by simp [marks0, setAll_len]
theorem marks0_succ (f : FunD) (k : Nat) : marks0 f (k + 1) = (marks0 f k).set k true := by
  rw [marks0, pars_succ, setAll_append]
  rfl
def s00 (f : FunD) : SS := ⟨[], [], List.replicate f.codel.length false, marks0 f f.params.toNat, marks0 f f.params.toNat, true⟩

structure Shaped (f : FunD) (t : Tr) : Prop where
  ok : t.Ok f
  pos : t.pos = f.body
  vars : Fresh f.varl.length (marks0 f f.params.toNat) t.vars
  subs : Fresh f.codel.length ((List.replicate f.codel.length false).set f.body.toNat true) t.subs
  sc : t.Sc fun v => 0 ≤ v ∧ v < f.params

/-- what shaped answers -/
def ShapedRes (f : FunD) (r : V) : Prop := ∃ vn vv b nodes vars, r = .tup [vn, vv, boolV b] ∧ IsSl0 I1 vn nodes ∧ IsSl0 I1 vv vars ∧
    (b = true → (0 ≤ f.params ∧ f.params ≤ f.varl.length) ∧ ((f.ext = true ∧ nodes = [] ∧ vars = []) ∨ (f.ext = false ∧ ∃ t, Shaped f t ∧ nodes = t.nodes ∧ vars = t.vars))) ∧
    (b = false → ¬ ((0 ≤ f.params ∧ f.params ≤ f.varl.length) ∧ (f.ext = true ∨ ∃ t, Shaped f t)))

theorem Tr.Ok.pos {f : FunD} {t : Tr} (h : t.Ok f) : 0 ≤ t.pos ∧ t.pos < f.codel.length := by
  cases t with
  | mk p n ks =>
    obtain ⟨h1, h2, _⟩ := h
    have := (List.getElem?_eq_some_iff.1 h2).1
    exact ⟨h1, by show p < _; omega⟩
theorem Fresh.len {n : Nat} {bs : List Bool} {l : List Int} (hb : bs.length = n) (h : Fresh n bs l) : l.length ≤ n := by
  have h1 := count_setAll hb h
  have h2 : (setAll bs l true).count true ≤ (setAll bs l true).length := List.count_le_length
  rw [setAll_len, hb] at h2
  omega
theorem Shaped.vars_len {f : FunD} {t : Tr} (h : Shaped f t) : t.vars.length ≤ f.varl.length := h.vars.len (marks0_len f _)
theorem Shaped.nodes_len {f : FunD} {t : Tr} (h : Shaped f t) : t.nodes.length ≤ f.codel.length + 1 := by
  rw [Tr.nodes_len]
  have := h.subs.len (by simp)
  omega

theorem shaped_ok {f : FunD} (hf : FewD f) : Ans 23 [.agg (funV f)] (ShapedRes f) := by
  rintro ⟨B, wr0⟩
  rw [WC_fn rfl rfl]
  refine ⟨rfl, ?_⟩
  have hvs := (varsIs f).len
  have hcs := (codeIs f).len
  have hnc := hf.code
  have hnv := hf.vars
  -- the short answers
  have short : ∀ (b : Bool) (wr : List Nat) (ext : List ABlk), New B.length wr → (b = true → (0 ≤ f.params ∧ f.params ≤ f.varl.length) ∧ f.ext = true) → (b = false → ¬ ((0 ≤ f.params ∧ f.params ≤ f.varl.length) ∧ (f.ext = true ∨ ∃ t, Shaped f t))) → finQ false ⟨B, wr0⟩ (fun r o => o = none ∧ ShapedRes f r) (.tup [.lit (.slice none 0 0), .lit (.slice none 0 0), .lit (.bool b)]) ⟨B ++ ext, wr⟩ :=
    fun b wr ext hw hb hbn => finish_new hw rfl ⟨rfl, _, _, b, [], [], rfl, .inl ⟨rfl, rfl⟩, .inl ⟨rfl, rfl⟩, (fun e => ⟨(hb e).1, .inl ⟨(hb e).2, rfl, rfl⟩⟩), hbn⟩
  by_cases p0 : f.params < 0
  · simp only [c23, r23_0, r23_1, r23_2, go_sem, ↓reduceIte, Nat.reduceEqDiff, Nat.reduceAdd, Nat.reduceLeDiff, Nat.reduceBEq, funV_strip2, fun1, p0, intV]
    have := short false [] [] (New_nil.2 trivial) (fun h => by cases h) (fun _ h => by omega)
    rw [List.append_nil] at this
    exact this
  by_cases p1 : f.params > (f.varl.length : Int)
  · simp only [c23, r23_0, r23_1, r23_2, go_sem, ↓reduceIte, Nat.reduceEqDiff, Nat.reduceAdd, Nat.reduceLeDiff, Nat.reduceBEq, funV_strip2, fun1, fun3, hvs, p0, p1, intV]
    have := short false [] [] (New_nil.2 trivial) (fun h => by cases h) (fun _ h => by omega)
    rw [List.append_nil] at this
    exact this
  have hpar : 0 ≤ f.params ∧ f.params ≤ f.varl.length := by omega
  by_cases p2 : f.ext = true
  · simp only [c23, r23_0, r23_1, r23_3, r23_4, go_sem, ↓reduceIte, Nat.reduceEqDiff, Nat.reduceAdd, Nat.reduceLeDiff, Nat.reduceBEq, funV_strip2, fun1, fun3, fun6, hvs, p0, p1, p2, intV, boolV]
    have := short true [] [] (New_nil.2 trivial) (fun _ => ⟨hpar, p2⟩) (fun h => by cases h)
    rw [List.append_nil] at this
    exact this
  have p2' : f.ext = false := by simpa using p2
  have q1 : (0 : Int) ≤ (f.codel.length : Int) ∧ (f.codel.length : Int) ≤ (f.codel.length : Int) ∧ (f.codel.length : Int) * ((1 : Nat) : Int) ≤ 140737488355328 ∧ (f.codel.length : Int) ≤ 140737488355328 ∧ (0 + 1 : Nat) = 1 := by omega
  have q2 : (0 : Int) ≤ (f.varl.length : Int) ∧ (f.varl.length : Int) ≤ (f.varl.length : Int) ∧ (f.varl.length : Int) * ((1 : Nat) : Int) ≤ 140737488355328 ∧ (f.varl.length : Int) ≤ 140737488355328 ∧ (0 + 1 : Nat) = 1 := by omega
  simp only [c23, r23_0, r23_1, r23_3, r23_5, r23_6, r23_7, r23_8, r23_9, b23_16, go_sem, ↓reduceIte, Nat.reduceEqDiff, Nat.reduceAdd, Nat.reduceLeDiff, Nat.reduceBEq, funV_strip2, fun1, fun3, fun4, fun6, hvs, hcs, p0, p1, p2', intV, boolV, q1, q2, rept_map]
  obtain ⟨N, hN⟩ : ∃ N : Nat, f.params = N := ⟨f.params.toNat, by omega⟩
  refine W_for N (fun k (_ : List Nat) => [(1, .imm (funV f)), (5, .ref B.length 0), (6, .ref (B.length + 1) 0), (7, tR f B.length), (8, tB f B.length), (9, tS f B.length), (42, .lit (.int .i64 f.params)), (43, .lit (.int .i64 k))])
    (fun k wr => ⟨B ++ [.cells [.lit (.slice none 0 0)], .cells [.lit (.slice none 0 0)], .cells ((List.replicate f.codel.length false).map boolV), .dead, .cells ((marks0 f k).map boolV), .dead, .cells ((marks0 f k).map boolV), .dead], wr⟩)
    (fun k wr => New B.length wr) ?_ _ (by simp [New_insN, New_nil]) rfl rfl
  intro k wr hk hw
  rcases Nat.lt_or_ge k N with hlt | hge
  · have hml := marks0_len f k
    have hkm : k < (marks0 f k).length := by omega
    have hk1 : (k : Int) < f.params := by omega
    have hk2 : (0 : Int) ≤ (k : Int) ∧ (k : Int) < (f.varl.length : Int) := by omega
    have hk3 : k + 1 ≤ ((marks0 f k).map boolV).length := by rw [List.length_map]; omega
    simp (disch := omega) only [l23_15, r23_10, r23_11, r23_12, b23_13, r23_14, tR, tB, tS, go_sem, ↓reduceIte, Nat.reduceEqDiff, Nat.reduceAdd, Nat.reduceLeDiff, Nat.reduceBEq, hk1, hk2, hk3, bmap_splice hkm, i64_in, ← marks0_succ]
    exact ⟨hlt, _, New_insN.2 ⟨by omega, New_insN.2 ⟨by omega, hw⟩⟩, rfl, rfl⟩
  · have hkN : k = N := by omega
    subst hkN
    have hk1 : ¬ (k : Int) < f.params := by omega
    simp only [l23_15, r23_10, r23_17, r23_18, r23_19, r23_20, r23_21, r23_22, r23_23, go_sem, ↓reduceIte, Nat.reduceEqDiff, Nat.reduceAdd, Nat.reduceLeDiff, Nat.reduceBEq, hk1, fun5]
    have hsh : Sh f B.length [.cells [.lit (.slice none 0 0)], .cells [.lit (.slice none 0 0)], .cells ((List.replicate f.codel.length false).map boolV), .dead, .cells ((marks0 f k).map boolV), .dead, .cells ((marks0 f k).map boolV), .dead, .cells [.lit (.bool true)], .dead, .dead, .dead, .cells [.fn 33 [] [.imm (funV f), .ref B.length 0, tS f B.length, .ref (B.length + 8) 0, .imm [.fn 30 [] [.imm (funV f), tR f B.length]], .imm [.fn 31 [] [.imm (funV f), tB f B.length, tS f B.length, .ref (B.length + 1) 0]], .ref (B.length + 12) 0, .imm [.fn 32 [] [tS f B.length]]]]] (s00 f) := by
      have e : f.params.toNat = k := by omega
      refine ⟨_, _, none, none, ⟨Nat.le_refl _, rfl, .inl ⟨rfl, rfl, rfl⟩, rfl, .inl ⟨rfl, rfl, rfl⟩, rfl, ?_, ?_, rfl, rfl, by simp [s00], by simp [s00, marks0_len], by simp [s00, marks0_len], fun i h => by cases h⟩⟩
      · simp only [s00, e]; rfl
      · simp only [s00, e]; rfl
    refine (reach_ok hsh (by simp [New_insN, hw])).mono ?_
    rintro r o ⟨rfl, ext4, wr4, ho, hw4, hs4⟩
    cases hc : canReach f (s00 f) f.body with
    | false =>
      simp only [ho, go_sem, ↓reduceIte, Nat.reduceEqDiff, Nat.reduceAdd, Nat.reduceLeDiff, Nat.reduceBEq, boolV, r23_24]
      refine short false wr4 ext4 hw4 (fun h => by cases h) fun _ hh => ?_
      rcases hh.2 with h | ⟨t, ht⟩
      · exact p2 h
      · have hp := ht.ok.pos
        rw [ht.pos] at hp
        have : canReach f (s00 f) f.body = true := by
          simp only [canReach, Bool.and_eq_true, decide_eq_true_eq, Bool.not_eq_true']
          refine ⟨hp, ?_⟩
          show ((List.replicate f.codel.length false)[f.body.toNat]?).getD true = false
          rw [List.getElem?_replicate, if_pos (by omega)]
          rfl
        rw [hc] at this
        cases this
    | true =>
      rw [hc] at hs4
      simp only [if_true] at hs4
      obtain ⟨vn4, vv4, tn4, tv4, hx4⟩ := id hs4
      have hvis := cellsAt_of hx4.visit
      have hcr : 0 ≤ f.body ∧ f.body < f.codel.length := by
        simp only [canReach, Bool.and_eq_true, decide_eq_true_eq] at hc
        exact hc.1
      simp only [ho, go_sem, ↓reduceIte, Nat.reduceEqDiff, Nat.reduceAdd, Nat.reduceLeDiff, Nat.reduceBEq, boolV, r23_25, hvis, fnV, fun5]
      have hcnt : ((s00 f).reach f.body).reached.count true = 1 := by
        have hrl : (List.replicate f.codel.length false)[f.body.toNat]? = some false := by
          rw [List.getElem?_replicate, if_pos (by omega)]
        show ((List.replicate f.codel.length false).set f.body.toNat true).count true = 1
        rw [count_set hrl, List.count_replicate]
        rfl
      have hpre : Pre f ((s00 f).reach f.body) := ⟨rfl, fun i hi => hi, Nat.zero_le _, Nat.zero_le _⟩
      refine (visit_ok hf f.codel.length hs4 hw4 hcr.1 hcr.2 (by omega) hpre (by rw [hcnt]; exact Nat.zero_lt_one)).mono ?_
      rintro r o6 ⟨s6, ext6, wr6, ho6, hw6, hs6, hpost, hnpost⟩
      obtain ⟨vn6, vv6, tn6, tv6, hx6⟩ := id hs6
      have c0 := cellsAt_of hx6.nodes
      have c1 := cellsAt_of hx6.vars
      have c8 := cellsAt_of hx6.ok
      have hin := hx6.gn.is
      have hiv := hx6.gv.is
      simp only [ho6, go_sem, ↓reduceIte, Nat.reduceEqDiff, Nat.reduceAdd, Nat.reduceLeDiff, Nat.reduceBEq, r23_26, c0, c1, c8, hin.frz, hiv.frz, boolV]
      have hst : (V.tup [vn6, vv6, .lit (.bool s6.ok)]).strip = .tup [vn6.strip2, vv6.strip2, .lit (.bool s6.ok)] := rfl
      have hcnr : s6.reached.count true ≤ f.codel.length := by rw [← hx6.lr]; exact List.count_le_length
      refine finish_new hw6 ?_ ⟨rfl, ?_⟩
      · simp only [Bool.false_eq_true, if_false, hst, closed_tup, closedL_cons, closedL_nil, hin.strip2.closed I1_closed, hiv.strip2.closed I1_closed, closed_lit, Bool.and_self]
      · simp only [Bool.false_eq_true, if_false, hst]
        refine ⟨_, _, s6.ok, s6.nodes, s6.vars, rfl, hin.strip2, hiv.strip2, fun hok => ⟨hpar, .inr ⟨p2', ?_⟩⟩, fun hok hh => hnpost hok ?_⟩
        · obtain ⟨n, ks, q1, q2, q3, q4, q5⟩ := hpost hok
          refine ⟨.mk f.body n ks, ⟨q1, rfl, q3, q4, ?_⟩, ?_, ?_⟩
          · refine Tr.Sc.congr _ (fun v hv => ?_) q5
            obtain ⟨h1, h2⟩ := hv
            have h2' : (marks0 f f.params.toNat)[v.toNat]? = some true := h2
            have hvl := (List.getElem?_eq_some_iff.1 h2').1
            rw [marks0_len] at hvl
            rw [marks0, setAll_get (fun v hv => (mem_pars.1 hv).1) h1 (by simpa using hvl)] at h2'
            split at h2'
            · rename_i hm
              rw [mem_pars] at hm
              omega
            · rw [List.getElem?_replicate, if_pos (by omega)] at h2'
              cases h2'
          · rw [q2]; rfl
          · rw [q2]; rfl
        · rcases hh.2 with h | ⟨t, ht⟩
          · exact absurd h p2
          · have h1 := ht.pos
            have h2 := ht.vars
            have h3 := ht.subs
            have h4 := ht.sc
            have h5 := ht.ok
            cases t with
            | mk p n ks =>
              have e : p = f.body := h1
              subst e
              refine ⟨n, ks, h5, h2, h3, Tr.Sc.congr _ (fun v hv => ?_) h4⟩
              refine ⟨hv.1, ?_⟩
              show (marks0 f f.params.toNat)[v.toNat]? = some true
              rw [marks0, setAll_get (fun v hv => (mem_pars.1 hv).1) hv.1 (by simp; omega), if_pos]
              rw [mem_pars]
              omega
end Go.Proofs.Ytlliieplgdlldaa
