/- What the functions of law 46 answer, by the evaluator: bind and leave within rename.shaped.
   Conditions: those that each theorem names. -/
import Derived.Test.YtlliieplgdlldaaCf
namespace Go.Proofs.Ytlliieplgdlldaa
open Go Go.Ev
set_option linter.unusedSimpArgs false
set_option linter.unusedVariables false
set_option maxRecDepth 10000

def setAll (bs : List Bool) (l : List Int) (x : Bool) : List Bool := l.foldl (fun bs v => bs.set v.toNat x) bs
theorem setAll_len (l : List Int) (x : Bool) : ∀ bs : List Bool, (setAll bs l x).length = bs.length := by
  induction l with
  | nil => intro bs; rfl
  | cons a l ih =>
    intro bs
    show (setAll (bs.set a.toNat x) l x).length = _
    rw [ih]; simp
theorem setAll_append (bs : List Bool) (l m : List Int) (x : Bool) : setAll bs (l ++ m) x = setAll (setAll bs l x) m x := List.foldl_append
theorem setAll_take {bs : List Bool} {l : List Int} {x : Bool} {k : Nat} (h : k < l.length) : setAll bs (l.take (k + 1)) x = (setAll bs (l.take k) x).set l[k].toNat x := by
  rw [List.take_succ_eq_append_getElem h, setAll_append]
  rfl
def InV (f : FunD) (x : Int) : Prop := 0 ≤ x ∧ x < f.varl.length

structure St3 where
  ext : List ABlk
  wr : List Nat
  s : SS

theorem leave_ok {f : FunD} {B ext : List ABlk} {wr : List Nat} {s : SS} {v : V} {l : List Int} (h : Sh f B.length ext s) (hw : New B.length wr) (hv : IsSl I1 v l) (hl : l.length ≤ 1000000) (hin : ∀ x, x ∈ l → InV f x) :
    WC env46 32 [v, tS f B.length] ⟨B ++ ext, wr⟩ fun r o => ∃ ext' wr', o.getD ⟨B ++ ext, wr⟩ = ⟨B ++ ext', wr'⟩ ∧ New B.length wr' ∧ Sh f B.length ext' { s with scope := setAll s.scope l false } := by
  refine WC_fnK keeps46 rfl rfl rfl ?_
  have h0 := h
  simp only [c32, r32_0, b32_7, tS, go_sem, ↓reduceIte, Nat.reduceEqDiff, Nat.reduceAdd, Nat.reduceLeDiff, Nat.reduceBEq, hv.len]
  refine W_for l.length (fun k (s : St3) => [(1, tS f B.length), (5, v), (6, .lit (.int .i64 l.length)), (7, .lit (.int .i64 k))]) (fun _ t => ⟨B ++ t.ext, t.wr⟩) (fun k t => t.s = { s with scope := setAll s.scope (l.take k) false } ∧ Sh f B.length t.ext t.s ∧ New B.length t.wr) ?_ ⟨ext, [], s⟩ ⟨rfl, h, New_nil.2 trivial⟩ rfl rfl
  rintro k ⟨ext1, wr1, s1⟩ hk ⟨e1, h1, hw1⟩
  simp only at e1 h1 hw1
  rcases Nat.lt_or_ge k l.length with hlt | hge
  · obtain ⟨vn, vv, tn, tv, h1⟩ := h1
    have hx := hin l[k] (List.getElem_mem hlt)
    have hx2 : 0 ≤ l[k] ∧ l[k] < (f.varl.length : Int) := hx
    have hcs := cellsAt_of h1.scope
    have hxl : l[k].toNat < s1.scope.length := by rw [h1.ls]; omega
    have hln : l[k].toNat + 1 ≤ (s1.scope.map boolV).length := by simp; omega
    simp (disch := omega) only [l32_6, r32_1, r32_2, r32_3, b32_4, r32_5, tS, go_sem, ↓reduceIte, Nat.reduceEqDiff, Nat.reduceAdd, Nat.reduceLeDiff, Nat.reduceBEq, hlt, hv.iAddrN I1_len k hlt, drop_lt hlt, I1, i64_in, hcs, hx2, hln, bmap_splice hxl]
    refine ⟨hlt, ⟨ext1.set 6 (.cells ((s1.scope.set l[k].toNat false).map boolV)), insN (B.length + 6) wr1, { s1 with scope := s1.scope.set l[k].toNat false }⟩, ⟨?_, ⟨vn, vv, tn, tv, h1.setScope (by simp)⟩, New_insN.2 ⟨by omega, hw1⟩⟩, rfl, rfl⟩
    simp only [e1]
    rw [setAll_take hlt]
  · rw [List.take_of_length_le hge] at e1
    simp only [l32_6, r32_1, go_sem, ↓reduceIte, Nat.reduceEqDiff, Nat.reduceAdd, Nat.reduceLeDiff, Nat.reduceBEq, Nat.not_lt.2 hge]
    subst e1
    exact sh_fin h0 h1 hw hw1 fun o ext' wr' e1 e2 e3 => ⟨ext', wr', e1, e2, e3⟩

/-! ### marks -/
def NonNeg (l : List Int) : Prop := ∀ v, v ∈ l → 0 ≤ v
theorem setAll_get {x : Bool} : ∀ {l : List Int} {bs : List Bool} {v : Int}, NonNeg l → 0 ≤ v → v.toNat < bs.length → (setAll bs l x)[v.toNat]? = if v ∈ l then some x else bs[v.toNat]?
  | [], bs, v, _, _, _ => by simp [setAll]
  | a :: l, bs, v, hn, hv, hl => by
    have ha := hn a (by simp)
    show (setAll (bs.set a.toNat x) l x)[v.toNat]? = _
    rw [setAll_get (fun v hv => hn v (by simp [hv])) hv (by simpa using hl)]
    by_cases e : v ∈ l
    · simp [e]
    · by_cases e2 : v = a
      · subst e2
        simp [e, hl]
      · have : a.toNat ≠ v.toNat := by omega
        simp [e, e2, List.getElem?_set_ne this]

/-- l's elements are below n, not marked, and no two are the same -/
def Fresh (n : Nat) (bs : List Bool) (l : List Int) : Prop := (∀ v, v ∈ l → 0 ≤ v ∧ v < n ∧ bs[v.toNat]? = some false) ∧ l.Nodup
theorem Fresh.nonneg {n : Nat} {bs : List Bool} {l : List Int} (h : Fresh n bs l) : NonNeg l := fun v hv => (h.1 v hv).1
theorem Fresh.nil {n : Nat} {bs : List Bool} : Fresh n bs [] := ⟨by simp, List.nodup_nil⟩
theorem Fresh.append {n : Nat} {bs : List Bool} {l m : List Int} (hb : bs.length = n) (h : Fresh n bs l) (h' : Fresh n (setAll bs l true) m) : Fresh n bs (l ++ m) := by
  have key : ∀ v, v ∈ m → v ∉ l ∧ bs[v.toNat]? = some false := by
    intro v hv
    obtain ⟨h1, h2, h3⟩ := h'.1 v hv
    rw [setAll_get h.nonneg h1 (by omega)] at h3
    split at h3
    · cases h3
    · rename_i e
      exact ⟨e, h3⟩
  refine ⟨fun v hv => ?_, ?_⟩
  · rcases List.mem_append.1 hv with hv | hv
    · exact h.1 v hv
    · exact ⟨(h'.1 v hv).1, (h'.1 v hv).2.1, (key v hv).2⟩
  · rw [List.nodup_append]
    refine ⟨h.2, h'.2, fun a ha b hb e => ?_⟩
    subst e
    exact (key a hb).1 ha
theorem Fresh.split {n : Nat} {bs : List Bool} {l m : List Int} (hb : bs.length = n) (h : Fresh n bs (l ++ m)) : Fresh n bs l ∧ Fresh n (setAll bs l true) m := by
  have hn := List.nodup_append.1 h.2
  have h1 : Fresh n bs l := ⟨fun v hv => h.1 v (by simp [hv]), hn.1⟩
  refine ⟨h1, fun v hv => ?_, hn.2.1⟩
  obtain ⟨q1, q2, q3⟩ := h.1 v (by simp [hv])
  refine ⟨q1, q2, ?_⟩
  rw [setAll_get h1.nonneg q1 (by omega), if_neg]
  · exact q3
  · exact fun hl => hn.2.2 v hl v hv rfl

def SS.bind (s : SS) (l : List Int) : SS := { s with bound := setAll s.bound l true, scope := setAll s.scope l true, vars := s.vars ++ l }
/-- the first k of l can be bound -/
def Binds (f : FunD) (bs : List Bool) (l : List Int) (k : Nat) : Prop := ∀ j (h : j < l.length), j < k → InV f l[j] ∧ (setAll bs (l.take j) true)[l[j].toNat]? = some false

theorem bind_ok {f : FunD} {B ext : List ABlk} {wr : List Nat} {s : SS} {v : V} {l : List Int} (h : Sh f B.length ext s) (hw : New B.length wr) (hv : IsSl I1 v l) (hl : l.length ≤ 100000) (hvl : s.vars.length ≤ 100000) :
    WC env46 31 [v, .imm (funV f), tB f B.length, tS f B.length, .ref (B.length + 1) 0] ⟨B ++ ext, wr⟩ fun r o => ∃ b s' ext' wr', r = boolV b ∧ o.getD ⟨B ++ ext, wr⟩ = ⟨B ++ ext', wr'⟩ ∧ New B.length wr' ∧ Sh f B.length ext' s' ∧ (b = true → s' = s.bind l ∧ Binds f s.bound l l.length) ∧ (b = false → ¬ Fresh f.varl.length s.bound l) := by
  refine WC_fnK keeps46 rfl rfl rfl ?_
  have h0 := h
  have hvs := (varsIs f).len
  simp only [c31, r31_0, r31_1, b31_11, tB, tS, go_sem, ↓reduceIte, Nat.reduceEqDiff, Nat.reduceAdd, Nat.reduceLeDiff, Nat.reduceBEq, hv.len]
  refine W_for l.length (fun k (s : St3) => [(1, .imm (funV f)), (2, tB f B.length), (3, tS f B.length), (4, .ref (B.length + 1) 0), (9, v), (10, .lit (.int .i64 l.length)), (11, .lit (.int .i64 k))]) (fun _ t => ⟨B ++ t.ext, t.wr⟩) (fun k t => t.s = s.bind (l.take k) ∧ Binds f s.bound l k ∧ Sh f B.length t.ext t.s ∧ New B.length t.wr) ?_ ⟨ext, [], s⟩ ⟨by simp [SS.bind, setAll], fun j _ hj => by omega, h, New_nil.2 trivial⟩ rfl rfl
  rintro k ⟨ext1, wr1, s1⟩ hk ⟨e1, hb1, h1, hw1⟩
  simp only at e1 h1 hw1
  rcases Nat.lt_or_ge k l.length with hlt | hge
  · have hsh := h1
    obtain ⟨vn, vv, tn, tv, h1⟩ := h1
    have hcs := cellsAt_of h1.scope
    have hcb := cellsAt_of h1.bound
    have hcv := cellsAt_of h1.vars
    have no : ∀ (e : List ABlk) (w : List Nat), Sh f B.length e s1 → New B.length w → ¬ Fresh f.varl.length s.bound l → finK false ⟨B ++ ext, wr⟩ (fun r o => ∃ b s' ext' wr', r = boolV b ∧ o.getD ⟨B ++ ext, wr⟩ = ⟨B ++ ext', wr'⟩ ∧ New B.length wr' ∧ Sh f B.length ext' s' ∧ (b = true → s' = s.bind l ∧ Binds f s.bound l l.length) ∧ (b = false → ¬ Fresh f.varl.length s.bound l)) (.lit (.bool false)) ⟨B ++ e, w⟩ :=
      fun e w he hn hx => sh_fin h0 he hw hn fun o ext' wr' e1 e2 e3 => ⟨false, s1, ext', wr', rfl, e1, e2, e3, (fun h => by cases h), fun _ => hx⟩
    by_cases q0 : l[k] < 0
    · simp (disch := omega) only [l31_10, r31_2, r31_3, r31_4, r31_5, b31_8, tB, tS, funV, go_sem, ↓reduceIte, Nat.reduceEqDiff, Nat.reduceAdd, Nat.reduceLeDiff, Nat.reduceBEq, hlt, hv.iAddrN I1_len k hlt, drop_lt hlt, I1, i64_in, q0]
      exact no _ _ hsh hw1 fun hF => by have := hF.1 _ (List.getElem_mem hlt); omega
    by_cases q1 : l[k] ≥ (f.varl.length : Int)
    · simp (disch := omega) only [l31_10, r31_2, r31_3, r31_4, r31_5, b31_8, tB, tS, funV, go_sem, ↓reduceIte, Nat.reduceEqDiff, Nat.reduceAdd, Nat.reduceLeDiff, Nat.reduceBEq, hlt, hv.iAddrN I1_len k hlt, drop_lt hlt, I1, i64_in, q0, q1, hvs]
      exact no _ _ hsh hw1 fun hF => by have := hF.1 _ (List.getElem_mem hlt); omega
    have hx2 : 0 ≤ l[k] ∧ l[k] < (f.varl.length : Int) := by omega
    have hxl : l[k].toNat < s1.scope.length := by rw [h1.ls]; omega
    have hxb : l[k].toNat < s1.bound.length := by rw [h1.lb]; omega
    have hg : (s1.bound.map boolV)[l[k].toNat]? = some (.lit (.bool s1.bound[l[k].toNat])) := by rw [bmap_get, List.getElem?_eq_getElem hxb]; rfl
    by_cases q2 : s1.bound[l[k].toNat] = true
    · simp (disch := omega) only [l31_10, r31_2, r31_3, r31_4, r31_5, b31_8, tB, tS, funV, go_sem, ↓reduceIte, Nat.reduceEqDiff, Nat.reduceAdd, Nat.reduceLeDiff, Nat.reduceBEq, hlt, hv.iAddrN I1_len k hlt, drop_lt hlt, I1, i64_in, q0, q1, hvs, hcb, hg, q2, hx2]
      refine no _ _ hsh hw1 fun hF => ?_
      have hsp : Fresh f.varl.length s.bound (l.take k ++ l.drop k) := by rw [List.take_append_drop]; exact hF
      have h2 := (hsp.split (by rw [← h1.lb, e1]; exact (setAll_len _ _ _).symm)).2.1 l[k] (by rw [drop_lt hlt]; exact List.mem_cons_self)
      have h3 : setAll s.bound (l.take k) true = s1.bound := by rw [e1]; rfl
      rw [h3, List.getElem?_eq_getElem hxb, q2] at h2
      exact absurd h2.2.2 (by simp)
    have q2' : s1.bound[l[k].toNat] = false := by simpa using q2
    have hlb : l[k].toNat + 1 ≤ (s1.bound.map boolV).length := by simp; omega
    have hln : l[k].toNat + 1 ≤ (s1.scope.map boolV).length := by simp; omega
    have hsb := h1.setBound (l := s1.bound.set l[k].toNat true) (by simp)
    have hcs2 := cellsAt_of hsb.scope
    have hss := hsb.setScope (l := s1.scope.set l[k].toNat true) (by simp)
    have hcv2 := cellsAt_of hss.vars
    simp (disch := omega) only [l31_10, r31_2, r31_3, r31_4, r31_6, r31_7, r31_9, b31_8, tB, tS, funV, go_sem, ↓reduceIte, Nat.reduceEqDiff, Nat.reduceAdd, Nat.reduceLeDiff, Nat.reduceBEq, hlt, hv.iAddrN I1_len k hlt, drop_lt hlt, I1, i64_in, q0, q1, hvs, hcb, hg, q2', hx2, hlb, hln, bmap_splice hxl, bmap_splice hxb, hcs2, hcv2]
    have hvl1 : s1.vars.length ≤ 200000 := by
      rw [e1]
      simp only [SS.bind, List.length_append, List.length_take]
      omega
    refine app_one (a := l[k]) hss.gv (.inr ⟨_, rfl⟩) (by simp only; omega) (by simp [New_insN, hw1]) ?_
    intro v' ext2 wr2 hg2 hl2 hj2 hw2 o ho
    have hnew := hss.setVars hg2 hl2 hj2
    have hcv3 : cellsAt ext2 1 = some [vv] := cellsAt_of (old_cells hss.gv hj2 1 _ hss.vars hss.len (by omega))
    have hbx : boxable v' = true := hg2.is.box
    have hvc : v'.cells = [v'] := hg2.is.cells
    simp (disch := omega) only [ho, r31_9, go_sem, ↓reduceIte, Nat.reduceEqDiff, Nat.reduceAdd, Nat.reduceLeDiff, Nat.reduceBEq, hcv3, hbx, hvc, i64_in]
    refine ⟨hlt, ⟨_, _, _⟩, ⟨?_, ?_, ⟨_, _, _, _, hnew⟩, New_insN.2 ⟨by omega, hw2⟩⟩, rfl, rfl⟩
    · simp only [e1, SS.bind]
      rw [setAll_take hlt, setAll_take hlt, List.take_succ_eq_append_getElem hlt, List.append_assoc]
    · intro j hj hjk
      rcases Nat.lt_or_ge j k with hjk2 | hjk2
      · exact hb1 j hj hjk2
      · have : j = k := by omega
        subst this
        refine ⟨hx2, ?_⟩
        have : setAll s.bound (l.take j) true = s1.bound := by rw [e1]; rfl
        rw [this, List.getElem?_eq_getElem hxb, q2']
  · rw [List.take_of_length_le hge] at e1
    simp only [l31_10, r31_2, r31_12, go_sem, ↓reduceIte, Nat.reduceEqDiff, Nat.reduceAdd, Nat.reduceLeDiff, Nat.reduceBEq, Nat.not_lt.2 hge]
    refine sh_fin h0 h1 hw hw1 fun o ext' wr' f1 f2 f3 => ⟨true, s1, ext', wr', rfl, f1, f2, f3, fun _ => ⟨e1, fun j hj _ => hb1 j hj (by omega)⟩, (fun h => by cases h)⟩
end Go.Proofs.Ytlliieplgdlldaa
