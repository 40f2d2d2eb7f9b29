/- What the functions of law 46 answer, by the evaluator: the functions within rename.shaped, but visit.
   Conditions: those that each theorem names. -/
import Derived.Test.YtlliieplgdlldaaCe
import Derived.Test.YtlliieplgdlldaaKp
namespace Go.Proofs.Ytlliieplgdlldaa
open Go Go.Ev
set_option linter.unusedSimpArgs false
set_option linter.unusedVariables false
set_option maxRecDepth 10000

theorem keeps46 : IntrKeeps env46 := by
  intro f g args H v o hi h
  have h' : intr46 f = some g := hi
  unfold intr46 at h'
  split at h' <;> cases h'
  unfold sortG at h
  repeat' (split at h)
  all_goals first
    | (simp only [reduceCtorEq] at h; done)
    | (simp only [Option.some.injEq, Prod.mk.injEq] at h; obtain ⟨rfl, rfl⟩ := h; first | exact Keeps.refl _ | exact Keeps.write _ _ _)

def FunD.codel (f : FunD) : List NodeD := f.code.getD []
def FunD.varl (f : FunD) : List VarD := f.vars.getD []
theorem codeIs (f : FunD) : IsSl nodeV (slV nodeV f.code) f.codel := (is_slV f.code).is
theorem varsIs (f : FunD) : IsSl varV (slV varV f.vars) f.varl := (is_slV f.vars).is

/-! ### the state of shaped -/
structure SS where
  nodes : List Int
  vars : List Int
  reached : List Bool
  bound : List Bool
  scope : List Bool
  ok : Bool

section
variable (f : FunD) (n : Nat)
def tR : V := .imm [.msl (n + 2) 0 f.codel.length 1 (some f.codel.length)]
def tB : V := .imm [.msl (n + 4) 0 f.varl.length 1 (some f.varl.length)]
def tS : V := .imm [.msl (n + 6) 0 f.varl.length 1 (some f.varl.length)]
def reachV : V := .fn 30 [] [.imm (funV f), tR f n]
def bindV : V := .fn 31 [] [.imm (funV f), tB f n, tS f n, .ref (n + 1) 0]
def leaveV : V := .fn 32 [] [tS f n]
def visitV : V := .fn 33 [] [.imm (funV f), .ref n 0, tS f n, .ref (n + 8) 0, .imm [reachV f n], .imm [bindV f n], .ref (n + 12) 0, .imm [leaveV f n]]
end

def GrowE (n : Nat) (ext : List ABlk) (v : V) (l : List Int) (tk : Option Nat) : Prop :=
  (v = .lit (.slice .none 0 0) ∧ l = [] ∧ tk = none) ∨ ∃ i, tk = some i ∧ v = .sl (l.flatMap I1) l.length (.tok (n + i) 1) ∧ ext[i]? = some (.row (l.length * 1))

structure ShH (f : FunD) (n : Nat) (ext : List ABlk) (s : SS) (vn vv : V) (tn tv : Option Nat) : Prop where
  len : 13 ≤ ext.length
  nodes : ext[0]? = some (.cells [vn])
  gn : GrowE n ext vn s.nodes tn
  vars : ext[1]? = some (.cells [vv])
  gv : GrowE n ext vv s.vars tv
  reached : ext[2]? = some (.cells (s.reached.map boolV))
  bound : ext[4]? = some (.cells (s.bound.map boolV))
  scope : ext[6]? = some (.cells (s.scope.map boolV))
  ok : ext[8]? = some (.cells [boolV s.ok])
  visit : ext[12]? = some (.cells [visitV f n])
  lr : s.reached.length = f.codel.length
  lb : s.bound.length = f.varl.length
  ls : s.scope.length = f.varl.length
  ne : ∀ i, tn = some i → tv ≠ some i

def Sh (f : FunD) (n : Nat) (ext : List ABlk) (s : SS) : Prop := ∃ vn vv tn tv, ShH f n ext s vn vv tn tv

theorem GrowE.eq {n : Nat} {ext ext' : List ABlk} {v : V} {l : List Int} {tk : Option Nat} (h : GrowE n ext v l tk) (he : ∀ i, tk = some i → ext'[i]? = ext[i]?) : GrowE n ext' v l tk :=
  h.imp id fun ⟨i, h1, h2, h3⟩ => ⟨i, h1, h2, by rw [he i h1]; exact h3⟩
theorem GrowE.is {n : Nat} {ext : List ABlk} {v : V} {l : List Int} {tk : Option Nat} (h : GrowE n ext v l tk) : IsSl I1 v l := h.imp (fun ⟨a, b, _⟩ => ⟨a, b⟩) fun ⟨i, _, h, _⟩ => ⟨_, h⟩
theorem GrowE.lt {n : Nat} {ext : List ABlk} {v : V} {l : List Int} {i : Nat} (h : GrowE n ext v l (some i)) : i < ext.length ∧ ext[i]? = some (.row (l.length * 1)) ∧ v = .sl (l.flatMap I1) l.length (.tok (n + i) 1) := by
  rcases h with ⟨_, _, h⟩ | ⟨j, e, h1, h2⟩
  · cases h
  · cases e
    exact ⟨(List.getElem?_eq_some_iff.1 h2).1, h2, h1⟩

/-- the heap behind a call of one of these functions -/
theorem sh_fin {f : FunD} {B ext ext2 : List ABlk} {wr wr2 : List Nat} {s s' : SS} {kt : Bool} {v : V} {Q : V → Option Heap → Prop} (h : Sh f B.length ext s) (h2 : Sh f B.length ext2 s') (hw : New B.length wr) (hw2 : New B.length wr2)
    (q : ∀ (o : Option Heap) (ext' : List ABlk) (wr' : List Nat), o.getD ⟨B ++ ext, wr⟩ = ⟨B ++ ext', wr'⟩ → New B.length wr' → Sh f B.length ext' s' → Q (if kt then v else v.strip) o) : finK kt ⟨B ++ ext, wr⟩ Q v ⟨B ++ ext2, wr2⟩ := by
  refine fin_any fun hk o D wr' ho hD hcase hwr => ?_
  have hkl : B.length + ext.length ≤ B.length + ext2.length := by simpa using hk.len
  have hDB : D = B ++ D.drop B.length := by
    have : D.take B.length = B := by
      apply List.ext_getElem?
      intro i
      rw [List.getElem?_take]
      split
      · rename_i hi
        rw [hD i (by simp; omega), List.getElem?_append_left hi]
      · rename_i hi
        rw [List.getElem?_eq_none (by omega)]
    have e := List.take_append_drop B.length D
    rw [this] at e
    exact e.symm
  have hE : ∀ i, i < ext.length → (D.drop B.length)[i]? = ext2[i]? := by
    intro i hi
    rw [List.getElem?_drop, hD _ (by simp; omega), get_app]
  refine q o (D.drop B.length) wr' (by rw [ho, ← hDB]) (fun b hb => ?_) ?_
  · rcases hwr b hb with h | h
    · exact hw b h
    · exact hw2 b h
  · rcases hcase with rfl | ⟨hlen, hcl, hcb⟩
    · simpa using h2
    · obtain ⟨vn, vv, tn, tv, h⟩ := h
      obtain ⟨vn2, vv2, tn2, tv2, h2⟩ := h2
      have hl := h.len
      -- a token lies among the old blocks
      have tok : ∀ (i : Nat) (w w2 : V) (l l2 : List Int) (tk tk2 : Option Nat), i < 13 → ext[i]? = some (.cells [w]) → GrowE B.length ext w l tk → ext2[i]? = some (.cells [w2]) → GrowE B.length ext2 w2 l2 tk2 → ∀ j, tk2 = some j → j < ext.length := by
        intro i w w2 l l2 tk tk2 hi h1 h3 h4 h5 j hj
        subst hj
        obtain ⟨g1, g2, g3⟩ := h5.lt
        by_cases hm : B.length + i ∈ wr2
        · have := hcb (B.length + i) (.cells [w2]) hm (by rw [hDB, get_app, hE i (by omega)]; exact h4)
          subst g3
          simp [ABlk.closed, V.closedL, V.closed] at this
          omega
        · have := hk.blk (B.length + i) (by simp; omega) hm
          simp only [get_app] at this
          rw [h4, h1] at this
          cases this
          subst g3
          rcases h3 with ⟨e, _⟩ | ⟨k, e1, e2, e3⟩
          · cases e
          · have hk3 := (List.getElem?_eq_some_iff.1 e3).1
            simp at e2
            omega
      have k1 := tok 0 vn vn2 _ _ _ _ (by omega) h.nodes h.gn h2.nodes h2.gn
      have k2 := tok 1 vv vv2 _ _ _ _ (by omega) h.vars h.gv h2.vars h2.gv
      refine ⟨vn2, vv2, tn2, tv2, ?_, ?_, ?_, ?_, ?_, ?_, ?_, ?_, ?_, ?_, h2.lr, h2.lb, h2.ls, h2.ne⟩
      · simp [hlen]; omega
      · rw [hE 0 (by omega)]; exact h2.nodes
      · exact h2.gn.eq fun i hi => hE i (k1 i hi)
      · rw [hE 1 (by omega)]; exact h2.vars
      · exact h2.gv.eq fun i hi => hE i (k2 i hi)
      · rw [hE 2 (by omega)]; exact h2.reached
      · rw [hE 4 (by omega)]; exact h2.bound
      · rw [hE 6 (by omega)]; exact h2.scope
      · rw [hE 8 (by omega)]; exact h2.ok
      · rw [hE 12 (by omega)]; exact h2.visit

theorem GrowE.set {n : Nat} {ext : List ABlk} {v : V} {l : List Int} {tk : Option Nat} (h : GrowE n ext v l tk) {j : Nat} {c : List V} (hj : ext[j]? = some (.cells c)) (x : ABlk) : GrowE n (ext.set j x) v l tk :=
  h.eq fun i hi => by
    subst hi
    have := h.lt.2.1
    rw [List.getElem?_set_ne]
    rintro rfl
    rw [hj] at this
    cases this
theorem ShH.setReached {f : FunD} {n : Nat} {ext : List ABlk} {s : SS} {vn vv : V} {tn tv : Option Nat} (h : ShH f n ext s vn vv tn tv) {l : List Bool} (hl : l.length = s.reached.length) : ShH f n (ext.set 2 (.cells (l.map boolV))) { s with reached := l } vn vv tn tv where
  len := by simpa using h.len
  nodes := by rw [List.getElem?_set_ne (by decide)]; exact h.nodes
  gn := h.gn.set h.reached _
  vars := by rw [List.getElem?_set_ne (by decide)]; exact h.vars
  gv := h.gv.set h.reached _
  reached := by rw [List.getElem?_set_self (by have := h.len; omega)]
  bound := by rw [List.getElem?_set_ne (by decide)]; exact h.bound
  scope := by rw [List.getElem?_set_ne (by decide)]; exact h.scope
  ok := by rw [List.getElem?_set_ne (by decide)]; exact h.ok
  visit := by rw [List.getElem?_set_ne (by decide)]; exact h.visit
  lr := hl.trans h.lr
  lb := h.lb
  ls := h.ls
  ne := h.ne
theorem ShH.setBound {f : FunD} {n : Nat} {ext : List ABlk} {s : SS} {vn vv : V} {tn tv : Option Nat} (h : ShH f n ext s vn vv tn tv) {l : List Bool} (hl : l.length = s.bound.length) : ShH f n (ext.set 4 (.cells (l.map boolV))) { s with bound := l } vn vv tn tv where
  len := by simpa using h.len
  nodes := by rw [List.getElem?_set_ne (by decide)]; exact h.nodes
  gn := h.gn.set h.bound _
  vars := by rw [List.getElem?_set_ne (by decide)]; exact h.vars
  gv := h.gv.set h.bound _
  reached := by rw [List.getElem?_set_ne (by decide)]; exact h.reached
  bound := by rw [List.getElem?_set_self (by have := h.len; omega)]
  scope := by rw [List.getElem?_set_ne (by decide)]; exact h.scope
  ok := by rw [List.getElem?_set_ne (by decide)]; exact h.ok
  visit := by rw [List.getElem?_set_ne (by decide)]; exact h.visit
  lr := h.lr
  lb := hl.trans h.lb
  ls := h.ls
  ne := h.ne
theorem ShH.setScope {f : FunD} {n : Nat} {ext : List ABlk} {s : SS} {vn vv : V} {tn tv : Option Nat} (h : ShH f n ext s vn vv tn tv) {l : List Bool} (hl : l.length = s.scope.length) : ShH f n (ext.set 6 (.cells (l.map boolV))) { s with scope := l } vn vv tn tv where
  len := by simpa using h.len
  nodes := by rw [List.getElem?_set_ne (by decide)]; exact h.nodes
  gn := h.gn.set h.scope _
  vars := by rw [List.getElem?_set_ne (by decide)]; exact h.vars
  gv := h.gv.set h.scope _
  reached := by rw [List.getElem?_set_ne (by decide)]; exact h.reached
  bound := by rw [List.getElem?_set_ne (by decide)]; exact h.bound
  scope := by rw [List.getElem?_set_self (by have := h.len; omega)]
  ok := by rw [List.getElem?_set_ne (by decide)]; exact h.ok
  visit := by rw [List.getElem?_set_ne (by decide)]; exact h.visit
  lr := h.lr
  lb := h.lb
  ls := hl.trans h.ls
  ne := h.ne
theorem ShH.setOk {f : FunD} {n : Nat} {ext : List ABlk} {s : SS} {vn vv : V} {tn tv : Option Nat} (h : ShH f n ext s vn vv tn tv) (b : Bool) : ShH f n (ext.set 8 (.cells [boolV b])) { s with ok := b } vn vv tn tv where
  len := by simpa using h.len
  nodes := by rw [List.getElem?_set_ne (by decide)]; exact h.nodes
  gn := h.gn.set h.ok _
  vars := by rw [List.getElem?_set_ne (by decide)]; exact h.vars
  gv := h.gv.set h.ok _
  reached := by rw [List.getElem?_set_ne (by decide)]; exact h.reached
  bound := by rw [List.getElem?_set_ne (by decide)]; exact h.bound
  scope := by rw [List.getElem?_set_ne (by decide)]; exact h.scope
  ok := by rw [List.getElem?_set_self (by have := h.len; omega)]
  visit := by rw [List.getElem?_set_ne (by decide)]; exact h.visit
  lr := h.lr
  lb := h.lb
  ls := h.ls
  ne := h.ne

theorem bmap_get (l : List Bool) (k : Nat) : (l.map boolV)[k]? = (l[k]?).map boolV := List.getElem?_map ..
theorem bmap_splice {C : List Bool} {i : Nat} {x : Bool} (h : i < C.length) : (C.map boolV).take i ++ .lit (.bool x) :: (C.map boolV).drop (i + 1) = (C.set i x).map boolV := by
  induction C generalizing i with
  | nil => simp at h
  | cons a C ih =>
    cases i with
    | zero => simp [boolV]
    | succ i =>
      simp only [List.length_cons] at h
      have := ih (i := i) (by omega)
      simp only [List.map_cons, List.take_succ_cons, List.drop_succ_cons, List.set_cons_succ, List.cons_append]
      rw [← this]
theorem flen (f : FunD) : (funV f).length = 7 := rfl

/-- where k may be reached -/
def canReach (f : FunD) (s : SS) (k : Int) : Bool := decide (0 ≤ k ∧ k < f.codel.length) && !(s.reached[k.toNat]?).getD true
def SS.reach (s : SS) (k : Int) : SS := { s with reached := s.reached.set k.toNat true }

theorem reach_ok {f : FunD} {B ext : List ABlk} {wr : List Nat} {s : SS} {k : Int} (h : Sh f B.length ext s) (hw : New B.length wr) :
    WC env46 30 [intV k, .imm (funV f), tR f B.length] ⟨B ++ ext, wr⟩ fun r o => r = boolV (canReach f s k) ∧ ∃ ext' wr', o.getD ⟨B ++ ext, wr⟩ = ⟨B ++ ext', wr'⟩ ∧ New B.length wr' ∧ Sh f B.length ext' (if canReach f s k then s.reach k else s) := by
  refine WC_fnK keeps46 rfl rfl rfl ?_
  have hsh := h
  obtain ⟨vn, vv, tn, tv, h⟩ := h
  have hcl := (codeIs f).len
  have hcr := cellsAt_of h.reached
  by_cases h0 : k < 0
  · have hc : canReach f s k = false := by simp [canReach]; omega
    rw [hc]
    simp only [c30, r30_0, r30_1, r30_2, intV, tR, funV, go_sem, ↓reduceIte, Nat.reduceEqDiff, Nat.reduceAdd, Nat.reduceLeDiff, Nat.reduceBEq, h0]
    exact sh_fin hsh hsh hw (New_nil.2 trivial) fun o ext' wr' e1 e2 e3 => ⟨rfl, ext', wr', e1, e2, e3⟩
  by_cases h1 : k ≥ (f.codel.length : Int)
  · have hc : canReach f s k = false := by simp [canReach]; omega
    rw [hc]
    simp only [c30, r30_0, r30_1, r30_2, intV, tR, funV, go_sem, ↓reduceIte, Nat.reduceEqDiff, Nat.reduceAdd, Nat.reduceLeDiff, Nat.reduceBEq, h0, hcl, h1]
    exact sh_fin hsh hsh hw (New_nil.2 trivial) fun o ext' wr' e1 e2 e3 => ⟨rfl, ext', wr', e1, e2, e3⟩
  have hk : 0 ≤ k ∧ k < (f.codel.length : Int) := by omega
  have hkl : k.toNat < s.reached.length := by rw [h.lr]; omega
  have hg : (s.reached.map boolV)[k.toNat]? = some (.lit (.bool s.reached[k.toNat])) := by rw [bmap_get, List.getElem?_eq_getElem hkl]; rfl
  cases hb : s.reached[k.toNat] with
  | true =>
    have hc : canReach f s k = false := by simp [canReach, hkl, hb]
    rw [hc]
    simp only [c30, r30_0, r30_1, r30_2, intV, tR, funV, go_sem, ↓reduceIte, Nat.reduceEqDiff, Nat.reduceAdd, Nat.reduceLeDiff, Nat.reduceBEq, h0, hcl, h1, hk, hcr, hg, hb]
    exact sh_fin hsh hsh hw (New_nil.2 trivial) fun o ext' wr' e1 e2 e3 => ⟨rfl, ext', wr', e1, e2, e3⟩
  | false =>
    have hc : canReach f s k = true := by simp [canReach, hkl, hb, hk]
    rw [hc]
    have hln : k.toNat + 1 ≤ (s.reached.map boolV).length := by simp; omega
    simp only [c30, r30_0, r30_1, r30_3, r30_4, intV, tR, funV, go_sem, ↓reduceIte, Nat.reduceEqDiff, Nat.reduceAdd, Nat.reduceLeDiff, Nat.reduceBEq, h0, hcl, h1, hk, hcr, hg, hb, hln, bmap_splice hkl]
    refine sh_fin hsh (s' := s.reach k) ⟨vn, vv, tn, tv, h.setReached (by simp)⟩ hw (by simp [New_insN, New_nil]) fun o ext' wr' e1 e2 e3 => ⟨rfl, ext', wr', e1, e2, e3⟩

theorem old_cells {n : Nat} {ext ext' : List ABlk} {v : V} {l : List Int} {tk : Option Nat} (hg : GrowE n ext v l tk) (hj : ∀ j, j < ext.length → tk ≠ some j → ext'[j]? = ext[j]?) (i : Nat) (c : List V) (h : ext[i]? = some (.cells c)) (h13 : 13 ≤ ext.length) (hi : i < 13) : ext'[i]? = some (.cells c) := by
  rw [hj i (by omega)]
  · exact h
  · rintro rfl
    have := hg.lt.2.1
    rw [h] at this
    cases this

theorem app_one {B ext : List ABlk} {wr : List Nat} {x y : V} {l : List Int} {a : Int} {tk : Option Nat} (hx : GrowE B.length ext x l tk) (hy : IsSl I1 y [a]) (hb : l.length ≤ 1000000) (hw : New B.length wr) {P : V × Option Heap → Prop}
    (h : ∀ v' ext' wr', GrowE B.length ext' v' (l ++ [a]) (some ext.length) → ext'.length = ext.length + 1 → (∀ j, j < ext.length → tk ≠ some j → ext'[j]? = ext[j]?) → New B.length wr' → ∀ o : Option Heap, o.getD ⟨B ++ ext, wr⟩ = ⟨B ++ ext', wr'⟩ → P (v', o)) :
    Opt (appV ⟨B ++ ext, wr⟩ false 1 8 x y) P := by
  simp only [appV, src_is I1_len hy, List.length_cons, List.length_nil]
  have hs : (l.length + 1) * 8 ≤ 140737488355328 ∧ l.length + 1 ≤ 140737488355328 := by omega
  rcases hx with ⟨rfl, rfl, rfl⟩ | ⟨i, rfl, rfl, hi⟩
  · simp only [List.length_nil, Nat.zero_add, go_sem, ↓reduceIte, Nat.reduceEqDiff, Nat.reduceAdd, Nat.reduceLeDiff, Nat.reduceBEq, Nat.zero_mul, show ¬ (1 = 0) by decide, show (1 * 8 ≤ 140737488355328) by decide, show 1 ≤ 140737488355328 by decide]
    exact h _ (ext ++ [.row 1]) wr (.inr ⟨ext.length, rfl, rfl, by simp⟩) (by simp) (fun j hj _ => by rw [List.getElem?_append_left hj]) hw _ (by simp)
  · have hlt : i < ext.length := (List.getElem?_eq_some_iff.1 hi).1
    have hfl : (l.flatMap I1).length = l.length * 1 := flatMap_len I1_len l
    simp only [get_app, hi, decide_true, and_self, if_true, show ¬ (0 + 1 = 0) by decide, if_false, hs, Nat.zero_add, hfl, Bool.false_eq_true, Opt_some]
    refine h _ (ext.set i .dead ++ [.row ((l.length + 1) * 1)]) (insN (B.length + i) wr) (.inr ⟨ext.length, rfl, ?_, by simp⟩) (by simp) (fun j hj hne => ?_) (New_insN.2 ⟨by omega, hw⟩) _ (by simp [Heap.push, Heap.write])
    · simp [Heap.write, List.length_append, I1, V.strip1]
    · rw [List.getElem?_append_left (by simpa using hj), List.getElem?_set_ne]
      rintro rfl
      exact hne rfl

theorem ShH.setNodes {f : FunD} {n : Nat} {ext ext' : List ABlk} {s : SS} {vn vv v' : V} {tn tv : Option Nat} {l' : List Int} (h : ShH f n ext s vn vv tn tv) (hg : GrowE n ext' v' l' (some ext.length)) (hl : ext'.length = ext.length + 1) (hj : ∀ j, j < ext.length → tn ≠ some j → ext'[j]? = ext[j]?) : ShH f n (ext'.set 0 (.cells [v'])) { s with nodes := l' } v' vv (some ext.length) tv where
  len := by have := h.len; simp; omega
  nodes := by rw [List.getElem?_set_self (by have := h.len; omega)]
  gn := hg.set (old_cells h.gn hj 0 _ h.nodes h.len (by omega)) _
  vars := by rw [List.getElem?_set_ne (by decide)]; exact old_cells h.gn hj 1 _ h.vars h.len (by omega)
  gv := (h.gv.eq fun i hi => hj i (by subst hi; exact h.gv.lt.1) (by rintro rfl; exact h.ne _ rfl hi)).set (old_cells h.gn hj 0 _ h.nodes h.len (by omega)) _
  reached := by rw [List.getElem?_set_ne (by decide)]; exact old_cells h.gn hj 2 _ h.reached h.len (by omega)
  bound := by rw [List.getElem?_set_ne (by decide)]; exact old_cells h.gn hj 4 _ h.bound h.len (by omega)
  scope := by rw [List.getElem?_set_ne (by decide)]; exact old_cells h.gn hj 6 _ h.scope h.len (by omega)
  ok := by rw [List.getElem?_set_ne (by decide)]; exact old_cells h.gn hj 8 _ h.ok h.len (by omega)
  visit := by rw [List.getElem?_set_ne (by decide)]; exact old_cells h.gn hj 12 _ h.visit h.len (by omega)
  lr := h.lr
  lb := h.lb
  ls := h.ls
  ne := by
    rintro i hi hv
    cases hi
    subst hv
    exact absurd h.gv.lt.1 (Nat.lt_irrefl _)
theorem ShH.setVars {f : FunD} {n : Nat} {ext ext' : List ABlk} {s : SS} {vn vv v' : V} {tn tv : Option Nat} {l' : List Int} (h : ShH f n ext s vn vv tn tv) (hg : GrowE n ext' v' l' (some ext.length)) (hl : ext'.length = ext.length + 1) (hj : ∀ j, j < ext.length → tv ≠ some j → ext'[j]? = ext[j]?) : ShH f n (ext'.set 1 (.cells [v'])) { s with vars := l' } vn v' tn (some ext.length) where
  len := by have := h.len; simp; omega
  nodes := by rw [List.getElem?_set_ne (by decide)]; exact old_cells h.gv hj 0 _ h.nodes h.len (by omega)
  gn := (h.gn.eq fun i hi => hj i (by subst hi; exact h.gn.lt.1) (by exact h.ne i hi)).set (old_cells h.gv hj 1 _ h.vars h.len (by omega)) _
  vars := by rw [List.getElem?_set_self (by have := h.len; omega)]
  gv := hg.set (old_cells h.gv hj 1 _ h.vars h.len (by omega)) _
  reached := by rw [List.getElem?_set_ne (by decide)]; exact old_cells h.gv hj 2 _ h.reached h.len (by omega)
  bound := by rw [List.getElem?_set_ne (by decide)]; exact old_cells h.gv hj 4 _ h.bound h.len (by omega)
  scope := by rw [List.getElem?_set_ne (by decide)]; exact old_cells h.gv hj 6 _ h.scope h.len (by omega)
  ok := by rw [List.getElem?_set_ne (by decide)]; exact old_cells h.gv hj 8 _ h.ok h.len (by omega)
  visit := by rw [List.getElem?_set_ne (by decide)]; exact old_cells h.gv hj 12 _ h.visit h.len (by omega)
  lr := h.lr
  lb := h.lb
  ls := h.ls
  ne := by
    rintro i hi hv
    cases hv
    subst hi
    exact absurd h.gn.lt.1 (Nat.lt_irrefl _)
end Go.Proofs.Ytlliieplgdlldaa
