/- What the functions of law 46 answer, by the evaluator: visit within live.of.
   Conditions: those that each theorem names. -/
import Derived.Test.YtlliieplgdlldaaCk
namespace Go.Proofs.Ytlliieplgdlldaa
open Go Go.Ev
set_option linter.unusedSimpArgs false
set_option linter.unusedVariables false
set_option maxRecDepth 10000

def liveV (f : FunD) (n q : Nat) : V := .fn 24 [] [.imm (funV f), .ref (n + q) 0, .imm [.ref (n + 2) 0]]
theorem fnLive {f : FunD} {n q : Nat} : fnOf (liveV f n q) = some (24, [], [.imm (funV f), .ref (n + q) 0, .imm [.ref (n + 2) 0]]) := rfl

/-- the sets as values -/
inductive RepS : List V → List (List Int) → Prop
  | nil : RepS [] []
  | cons {v : V} {l : List Int} {vs : List V} {ls : List (List Int)} : IsSl0 I1 v l → RepS vs ls → RepS (v :: vs) (l :: ls)
theorem RepS.len {vs : List V} {ls : List (List Int)} (h : RepS vs ls) : vs.length = ls.length := by induction h <;> simp_all
theorem RepS.snoc {vs : List V} {ls : List (List Int)} {v : V} {l : List Int} (h : RepS vs ls) (hv : IsSl0 I1 v l) : RepS (vs ++ [v]) (ls ++ [l]) := by
  induction h with
  | nil => exact .cons hv .nil
  | cons a b ih => exact .cons a ih

/-- what live.of knows so far: the live variables at the nodes, and the sets -/
structure LS where
  A : List (Int × List Int)
  S : List (List Int)

structure LvH (f : FunD) (n q : Nat) (ext : List ABlk) (s : LS) (vs : V) (ss : List V) (tk : Option Nat) : Prop where
  q3 : 3 ≤ q
  at_ : ∃ es, ext[0]? = some (.map es) ∧ RepM es s.A
  after : ∃ es A, ext[1]? = some (.map es) ∧ RepM es A
  facts : ext[2]? = some (.cells [.map n, .map (n + 1), vs])
  sets : GrowG V1 n ext vs ss tk
  rep : RepS ss s.S
  visit : ext[q]? = some (.cells [liveV f n q])
def Lv (f : FunD) (n q : Nat) (ext : List ABlk) (s : LS) : Prop := ∃ vs ss tk, LvH f n q ext s vs ss tk

theorem LvH.len {f : FunD} {n q : Nat} {ext : List ABlk} {s : LS} {vs : V} {ss : List V} {tk : Option Nat} (h : LvH f n q ext s vs ss tk) : q < ext.length ∧ 3 ≤ ext.length := by
  have h1 := (List.getElem?_eq_some_iff.1 h.visit).1
  have := h.q3
  omega

/-- the heap behind a call -/
theorem lv_fin {f : FunD} {B ext ext2 : List ABlk} {q : Nat} {wr wr2 : List Nat} {s s' : LS} {kt : Bool} {v : V} {Q : V → Option Heap → Prop} {vs vs2 : V} {ss ss2 : List V} {tk tk2 : Option Nat} (h : LvH f B.length q ext s vs ss tk) (h2 : LvH f B.length q ext2 s' vs2 ss2 tk2) (hw : New B.length wr) (hw2 : New B.length wr2)
    (q : ∀ (o : Option Heap) (ext' : List ABlk) (wr' : List Nat), o.getD ⟨B ++ ext, wr⟩ = ⟨B ++ ext', wr'⟩ → New B.length wr' → LvH f B.length q ext' s' vs2 ss2 tk2 → ext.length ≤ ext'.length → (∀ j, j < ext.length → ext'[j]? = ext2[j]?) → Q (if kt then v else v.strip) o) : finK kt ⟨B ++ ext, wr⟩ Q v ⟨B ++ ext2, wr2⟩ := by
  refine fin_any fun hk o D wr' ho hD hcase hwr => ?_
  have hkl : B.length + ext.length ≤ B.length + ext2.length := by simpa using hk.len
  have hDB : D = B ++ D.drop B.length := by
    have : D.take B.length = B := by
      apply List.ext_getElem?
      intro i
      rw [List.getElem?_take]
      split
      · rename_i hi
        rw [hD i (by simp; omega), List.getElem?_append_left hi]
      · rename_i hi
        rw [List.getElem?_eq_none (by omega)]
    have e := List.take_append_drop B.length D
    rw [this] at e
    exact e.symm
  have hE : ∀ i, i < ext.length → (D.drop B.length)[i]? = ext2[i]? := by
    intro i hi
    rw [List.getElem?_drop, hD _ (by simp; omega), get_app]
  have hlen' : ext.length ≤ (D.drop B.length).length := by
    rcases hcase with rfl | ⟨hlen, _⟩
    · simp; omega
    · simp [hlen]
  refine q o (D.drop B.length) wr' (by rw [ho, ← hDB]) (fun b hb => ?_) ?_ hlen' hE
  · rcases hwr b hb with h | h
    · exact hw b h
    · exact hw2 b h
  · rcases hcase with rfl | ⟨hlen, hcl, hcb⟩
    · simpa using h2
    · have hl := h.len
      have tok : ∀ j, tk2 = some j → j < ext.length := by
        intro j hj
        subst hj
        obtain ⟨g1, g2, g3⟩ := h2.sets.lt
        by_cases hm : B.length + 2 ∈ wr2
        · have := hcb (B.length + 2) _ hm (by rw [hDB, get_app, hE 2 (by omega)]; exact h2.facts)
          subst g3
          simp [ABlk.closed, V.closedL, V.closed] at this
          omega
        · have := hk.blk (B.length + 2) (by simp; omega) hm
          simp only [get_app] at this
          rw [h2.facts, h.facts] at this
          simp only [Option.some.injEq, ABlk.cells.injEq, List.cons.injEq, and_true, true_and] at this
          subst this
          subst g3
          rcases h.sets with ⟨e, _⟩ | ⟨k, e1, e2, e3⟩
          · cases e
          · have hk3 := (List.getElem?_eq_some_iff.1 e3).1
            simp at e2
            omega
      refine ⟨h2.q3, ?_, ?_, ?_, h2.sets.eq fun i hi => hE i (tok i hi), h2.rep, ?_⟩
      · rw [hE 0 (by omega)]; exact h2.at_
      · rw [hE 1 (by omega)]; exact h2.after
      · rw [hE 2 (by omega)]; exact h2.facts
      · rw [hE _ (by omega)]; exact h2.visit


theorem LvH.frame {f : FunD} {n q : Nat} {ext ext' : List ABlk} {s : LS} {vs : V} {ss : List V} {tk ta : Option Nat} (h : LvH f n q ext s vs ss tk) (hj : ∀ j, j < ext.length → ta ≠ some j → ext'[j]? = ext[j]?) (hta : ∀ i, ta = some i → (∃ k, ext[i]? = some (.row k)) ∧ tk ≠ some i) : LvH f n q ext' s vs ss tk := by
  have hl := h.len
  have key : ∀ (j : Nat) (b : ABlk), ext[j]? = some b → b.isRow = false → ext'[j]? = some b := by
    intro j b hb hr
    rw [hj j (List.getElem?_eq_some_iff.1 hb).1]
    · exact hb
    · rintro rfl
      obtain ⟨⟨k, hk⟩, _⟩ := hta j rfl
      rw [hb] at hk
      cases hk
      cases hr
  obtain ⟨es, h1, h2⟩ := h.at_
  obtain ⟨es', A, h3, h4⟩ := h.after
  exact ⟨h.q3, ⟨es, key _ _ h1 rfl, h2⟩, ⟨es', A, key _ _ h3 rfl, h4⟩, key _ _ h.facts rfl, h.sets.eq fun i hi => hj i (by subst hi; exact h.sets.lt.1) (fun e => (hta i e).2 hi), h.rep, key _ _ h.visit rfl⟩
theorem LvH.setAt {f : FunD} {n q : Nat} {ext : List ABlk} {s : LS} {vs : V} {ss : List V} {tk : Option Nat} (h : LvH f n q ext s vs ss tk) {es : List (V × V)} {A : List (Int × List Int)} (hr : RepM es A) : LvH f n q (ext.set 0 (.map es)) { s with A := A } vs ss tk := by
  have hl := h.len
  have hq := h.q3
  obtain ⟨e0, h1, h2⟩ := h.at_
  refine ⟨h.q3, ⟨es, by rw [List.getElem?_set_self (by omega)], hr⟩, ?_, ?_, h.sets.set h1 rfl _, h.rep, ?_⟩
  · rw [List.getElem?_set_ne (by decide)]; exact h.after
  · rw [List.getElem?_set_ne (by decide)]; exact h.facts
  · rw [List.getElem?_set_ne (by omega)]; exact h.visit
theorem LvH.setAfter {f : FunD} {n q : Nat} {ext : List ABlk} {s : LS} {vs : V} {ss : List V} {tk : Option Nat} (h : LvH f n q ext s vs ss tk) {es : List (V × V)} {A : List (Int × List Int)} (hr : RepM es A) : LvH f n q (ext.set 1 (.map es)) s vs ss tk := by
  have hl := h.len
  have hq := h.q3
  obtain ⟨e0, A0, h1, h2⟩ := h.after
  refine ⟨h.q3, ?_, ⟨es, A, by rw [List.getElem?_set_self (by omega)], hr⟩, ?_, h.sets.set h1 rfl _, h.rep, ?_⟩
  · rw [List.getElem?_set_ne (by decide)]; exact h.at_
  · rw [List.getElem?_set_ne (by decide)]; exact h.facts
  · rw [List.getElem?_set_ne (by omega)]; exact h.visit
theorem LvH.setSets {f : FunD} {n q : Nat} {ext ext' : List ABlk} {s : LS} {vs v' vl : V} {ss : List V} {tk tk' : Option Nat} {l : List Int} (h : LvH f n q ext s vs ss tk) (hv : IsSl0 I1 vl l) (hg : GrowG V1 n ext' v' (ss ++ [vl]) tk') (hle : ext.length ≤ ext'.length) (hj : ∀ j, j < ext.length → tk ≠ some j → ext'[j]? = ext[j]?) :
    LvH f n q (ext'.set 2 (.cells [.map n, .map (n + 1), v'])) { s with S := s.S ++ [l] } v' (ss ++ [vl]) tk' := by
  have hl := h.len
  have hq := h.q3
  have key : ∀ (j : Nat) (b : ABlk), ext[j]? = some b → b.isRow = false → ext'[j]? = some b := by
    intro j b hb hr
    rw [hj j (List.getElem?_eq_some_iff.1 hb).1 (h.sets.ne hb hr)]
    exact hb
  obtain ⟨es, h1, h2⟩ := h.at_
  obtain ⟨es', A, h3, h4⟩ := h.after
  refine ⟨h.q3, ⟨es, by rw [List.getElem?_set_ne (by decide)]; exact key _ _ h1 rfl, h2⟩, ⟨es', A, by rw [List.getElem?_set_ne (by decide)]; exact key _ _ h3 rfl, h4⟩, by rw [List.getElem?_set_self (by omega)], hg.set (key _ _ h.facts rfl) rfl _, h.rep.snoc hv, ?_⟩
  rw [List.getElem?_set_ne (by omega)]
  exact key _ _ h.visit rfl

theorem ofL_app_nodes (P R : List (List Int × Tr)) : (ofL (P ++ R)).nodes = (ofL P).nodes ++ (ofL R).nodes := by
  induction P with
  | nil => rfl
  | cons a P ih => simp [ofL, Ks.nodes, ih]

mutual
/-- at the nodes of a tree stand its live variables -/
def Tr.At (A : List (Int × List Int)) : Tr → Prop
  | .mk p n ks => (∃ l, findA p A = some l ∧ (∀ x, x ∈ l ↔ (Tr.mk p n ks).Live x) ∧ l.length ≤ 40 * (Tr.mk p n ks).nodes.length) ∧ ks.At A
def Ks.At (A : List (Int × List Int)) : Ks → Prop
  | .nil => True
  | .cons _ t r => t.At A ∧ r.At A
end
mutual
theorem Tr.At.congr {A A' : List (Int × List Int)} : ∀ t : Tr, (∀ k, k ∈ t.nodes → findA k A' = findA k A) → t.At A → t.At A'
  | .mk p n ks, h, ⟨⟨l, h1, h2⟩, h3⟩ => ⟨⟨l, by rw [h p (by simp [Tr.nodes])]; exact h1, h2⟩, Ks.At.congr ks (fun k hk => h k (by simp [Tr.nodes, hk])) h3⟩
theorem Ks.At.congr {A A' : List (Int × List Int)} : ∀ ks : Ks, (∀ k, k ∈ ks.nodes → findA k A' = findA k A) → ks.At A → ks.At A'
  | .nil, _, _ => trivial
  | .cons b t r, h, ⟨h1, h2⟩ => ⟨Tr.At.congr t (fun k hk => h k (by simp [Ks.nodes, hk])) h1, Ks.At.congr r (fun k hk => h k (by simp [Ks.nodes, hk])) h2⟩
end
theorem ofL_at {A : List (Int × List Int)} {P : List (List Int × Tr)} {b : List Int} {t : Tr} (h : (ofL P).At A) (h' : t.At A) : (ofL (P ++ [(b, t)])).At A := by
  induction P with
  | nil => exact ⟨h', trivial⟩
  | cons a P ih => exact ⟨h.1, ih h.2⟩
theorem Tr.At.root {A : List (Int × List Int)} {t : Tr} (h : t.At A) : ∃ l, findA t.pos A = some l ∧ (∀ x, x ∈ l ↔ t.Live x) ∧ l.length ≤ 40 * t.nodes.length := by
  cases t with
  | mk p n ks => exact h.1
theorem Tr.pos_mem (t : Tr) : t.pos ∈ t.nodes := by
  cases t with
  | mk p n ks => simp [Tr.nodes, Tr.pos]

structure LPost (c : Nat) (nodes : List Int) (at_ : List (Int × List Int) → Prop) (meet : Int → Int → Prop) (s s' : LS) : Prop where
  small : (∀ l, l ∈ s.S → l.length ≤ 100000) → ∀ l, l ∈ s'.S → l.length ≤ 100000
  same : ∀ k, k ∉ nodes → findA k s'.A = findA k s.A
  at_ : at_ s'.A
  sets : ∃ Sn, s'.S = s.S ++ Sn ∧ Sn.length + c ≤ 2 * nodes.length ∧ ∀ a b, (∃ l, l ∈ Sn ∧ a ∈ l ∧ b ∈ l) ↔ meet a b

structure Lk where
  ext : List ABlk
  wr : List Nat
  s : LS
  av : V
  aft : List Int

theorem uses_len {n : NodeD} (h1 : n.argl.length ≤ 20) (h2 : n.morel.length ≤ 20) : (uses n).length ≤ 40 := by
  unfold uses
  split
  · simp
  · split
    · omega
    · have := List.length_filter_le (fun v => decide (0 ≤ v)) (n.argl ++ n.morel)
      rw [List.length_append] at this
      omega
theorem is0_cells {v : V} {l : List Int} (h : IsSl0 I1 v l) : v.cells = [v] ∧ v.isCell = true ∧ boxable v = true ∧ v.strip1 = v ∧ v.strip2 = v := by
  rcases h with ⟨rfl, rfl⟩ | rfl <;> exact ⟨rfl, rfl, rfl, rfl, rfl⟩

/-- what is asked of the heap behind a call, and of what it leaves alone -/
def LvRes (f : FunD) (B ext : List ABlk) (wr : List Nat) (q : Nat) (tk : Option Nat) (P : LS → Prop) (o : Option Heap) : Prop :=
  ∃ s' ext' wr' vs' ss' tk', o.getD ⟨B ++ ext, wr⟩ = ⟨B ++ ext', wr'⟩ ∧ New B.length wr' ∧ LvH f B.length q ext' s' vs' ss' tk' ∧ ext.length ≤ ext'.length ∧ (∀ j, j < ext.length → 3 ≤ j → tk ≠ some j → ext'[j]? = ext[j]?) ∧ (∀ j, tk' = some j → tk = some j ∨ ext.length ≤ j) ∧ P s'

theorem lvisit_ok {f : FunD} (hf : FewD f) : ∀ (m : Nat) (t : Tr) {B ext : List ABlk} {wr : List Nat} {q : Nat} {s : LS} {vs : V} {ss : List V} {tk : Option Nat}, t.nodes.length ≤ m → t.Ok f → t.nodes.Nodup → LvH f B.length q ext s vs ss tk → New B.length wr → s.S.length + 3 * t.nodes.length ≤ 10000 → t.nodes.length ≤ 1000 →
    WC env46 24 [intV t.pos, .imm (funV f), .ref (B.length + q) 0, .imm [.ref (B.length + 2) 0]] ⟨B ++ ext, wr⟩
      fun r o => LvRes f B ext wr q tk (LPost 1 t.nodes t.At t.Meet s) o := by
  intro m
  induction m with
  | zero =>
    intro t B ext wr q s vs ss tk hm
    have := Tr.nodes_len t
    omega
  | succ m ih =>
    intro t B ext wr q s vs ss tk hm hok hnd h hw hS hN
    obtain ⟨p, n, ks⟩ := t
    obtain ⟨hp0, hn, hlist, hks⟩ := hok
    obtain ⟨Q, rfl⟩ := ofL_surj ks
    refine WC_fnK keeps46 rfl rfl rfl ?_
    have hpl : p.toNat < f.codel.length := (List.getElem?_eq_some_iff.1 hn).1
    have hp1 : p < f.codel.length := by omega
    have hd : f.codel.drop p.toNat = n :: f.codel.drop (p.toNat + 1) := by
      rw [drop_lt hpl]
      rw [List.getElem?_eq_getElem hpl] at hn
      cases hn
      rfl
    obtain ⟨hna, hnm2, hnb, hnbb⟩ := hf.node n (List.mem_of_getElem? hn)
    have hl := h.len
    simp only [c24, r24_0, r24_1, r24_2, intV, Tr.pos, go_sem, ↓reduceIte, Nat.reduceEqDiff, Nat.reduceAdd, Nat.reduceLeDiff, Nat.reduceBEq, fun4, (codeIs f).iAddr nodeV_len p hp0 hp1, hd, node10r, nodeV_len, node_strip1, node10]
    refine (kids_ok n (by omega) _).mono ?_
    rintro r o ⟨rfl, hkd⟩
    simp only [go_sem, ↓reduceIte, Nat.reduceEqDiff, Nat.reduceAdd, Nat.reduceLeDiff, Nat.reduceBEq, hkd.is.len, b24_14]
    have hkl : (kidL n).map (·.2) = kids n := kidL_snd n
    have hQl : Q.length = (kids n).length := by rw [← hkl, ← hlist, ofL_list', List.length_map, List.length_map]
    have hkb : (kids n).length ≤ 1000 := by rw [← hkl, List.length_map]; exact kidL_len n hnb
    have hnodes : (Tr.mk p n (ofL Q)).nodes = p :: (ofL Q).nodes := rfl
    have hpn : p ∉ (ofL Q).nodes := (List.nodup_cons.1 hnd).1
    have hknd : (ofL Q).nodes.Nodup := (List.nodup_cons.1 hnd).2
    rw [hnodes, List.length_cons] at hm hS hN
    have hmo : LvH f B.length q (ext ++ [.dead]) s vs ss tk := h.frame (ta := none) (fun j hj _ => List.getElem?_append_left hj) (fun i hi => by cases hi)
    refine W_for (kids n).length (fun k (st : Lk) => [(0, .lit (.int .i64 p)), (2, .ref (B.length + q) 0), (3, .imm [.ref (B.length + 2) 0]), (5, .imm (nodeV n)), (6, st.av), (20, r), (21, .lit (.int .i64 (kids n).length)), (22, .lit (.int .i64 k))])
      (fun _ st => ⟨B ++ st.ext, st.wr⟩)
      (fun k st => ∃ vs' ss' tk' ta, LvH f B.length q st.ext st.s vs' ss' tk' ∧ New B.length st.wr ∧ GrowG I1 B.length st.ext st.av st.aft ta ∧ (∀ i, ta = some i → tk' ≠ some i ∧ ext.length ≤ i) ∧ ext.length ≤ st.ext.length ∧
        (∀ j, j < ext.length → 3 ≤ j → tk ≠ some j → st.ext[j]? = ext[j]?) ∧ (∀ j, tk' = some j → tk = some j ∨ ext.length ≤ j) ∧ LPost 0 (ofL (Q.take k)).nodes (fun A => (ofL (Q.take k)).At A) (ofL (Q.take k)).Meet s st.s ∧
        (∀ x, x ∈ st.aft ↔ (ofL (Q.take k)).Live x) ∧ st.aft.length ≤ 40 * (ofL (Q.take k)).nodes.length) ?_
      ⟨ext ++ [.dead], insN (B.length + ext.length) (insN (B.length + ext.length) []), s, .lit (.slice none 0 0), []⟩
      ⟨vs, ss, tk, none, hmo, by simp [New_insN, New_nil], .nil, (fun i hi => by cases hi), by simp, fun j hj _ _ => List.getElem?_append_left hj, fun j hj => .inl hj, ⟨id, fun _ _ => rfl, trivial, [], by simp, by simp, by simp [ofL, Ks.Meet]⟩, by simp [ofL, Ks.Live], by simp⟩ rfl rfl
    rintro k ⟨ext1, wr1, s1, av, aft⟩ hk ⟨vs1, ss1, tk1, ta, i1, i2, i3, i4, i5, i6, i7, i8, i9, i10⟩
    simp only at i1 i2 i3 i4 i5 i6 i7 i8 i9 i10
    have hqc := cellsAt_of i1.visit
    have hq3 := h.q3
    have hlen1 := i1.len
    rcases Nat.lt_or_ge k (kids n).length with hlt | hge
    · have hltQ : k < Q.length := by omega
      obtain ⟨b, t, hbt⟩ : ∃ b t, Q[k] = (b, t) := ⟨_, _, rfl⟩
      have hlk : (kidL n)[k]? = some (b, t.pos) := by
        rw [← hlist, ofL_list', List.getElem?_map, List.getElem?_eq_getElem hltQ, hbt]
        rfl
      have hkp : (kids n)[k] = t.pos := by
        have : (kids n)[k]? = some t.pos := by rw [← hkl, List.getElem?_map, hlk]; rfl
        rw [List.getElem?_eq_getElem hlt] at this
        exact Option.some.inj this
      have htake : Q.take (k + 1) = Q.take k ++ [(b, t)] := by rw [List.take_succ_eq_append_getElem hltQ, hbt]
      have hsplit : Q = Q.take k ++ (b, t) :: Q.drop (k + 1) := by
        have := List.take_append_drop k Q
        rw [drop_lt hltQ, hbt] at this
        exact this.symm
      have hnsp : (ofL Q).nodes = (ofL (Q.take k)).nodes ++ (t.nodes ++ (ofL (Q.drop (k + 1))).nodes) := by
        have h1 := congrArg (fun l => (ofL l).nodes) hsplit
        simp only [ofL_app_nodes] at h1
        exact h1
      have hnl := congrArg List.length hnsp
      rw [List.length_append, List.length_append] at hnl
      have htok : t.Ok f := by
        rw [hsplit, ofL_app_ok] at hks
        exact hks.2.1
      rw [hnsp] at hknd
      have hnd1 := List.nodup_append.1 hknd
      have hnd2 := List.nodup_append.1 hnd1.2.1
      have hdisj : ∀ x, x ∈ (ofL (Q.take k)).nodes → x ∉ t.nodes := fun x hx hx2 => hnd1.2.2 x hx x (by simp [hx2]) rfl
      obtain ⟨Sn, hSn, hSnl, hSnm⟩ := i8.sets
      have hSl : s1.S.length = s.S.length + Sn.length := by rw [hSn, List.length_append]
      simp (disch := omega) only [l24_13, r24_3, r24_4, r24_5, b24_11, go_sem, ↓reduceIte, Nat.reduceEqDiff, Nat.reduceAdd, Nat.reduceLeDiff, Nat.reduceBEq, hlt, hkd.is.iAddrN I1_len k hlt, drop_lt hlt, I1, i64_in, hkp, hqc, fnLive]
      refine (ih t (by omega) htok hnd2.1 i1 i2 (by omega) (by omega)).mono ?_
      rintro r2 o2 ⟨s2, ext2, wr2, vs2, ss2, tk2, ho2, hw2, hL2, hle2, hfr2, htk2, hpost2⟩
      simp only [ho2, go_sem, ↓reduceIte, Nat.reduceEqDiff, Nat.reduceAdd, Nat.reduceLeDiff, Nat.reduceBEq, r24_6, node10]
      refine (binds_ok n (by omega) (fun b hb => by have := hnbb b hb; omega) _).mono ?_
      rintro r3 o3 ⟨rfl, hbd⟩
      -- what goes on behind the choice of the variables
      have rest : ∀ (Q' : Ex → Tm → Heap → Prop) (T : Tm) (vb : V), IsSl I1 vb b → b.length ≤ 1000 →
          (∀ st : Lk, (∃ vs' ss' tk' ta, LvH f B.length q st.ext st.s vs' ss' tk' ∧ New B.length st.wr ∧ GrowG I1 B.length st.ext st.av st.aft ta ∧ (∀ i, ta = some i → tk' ≠ some i ∧ ext.length ≤ i) ∧ ext.length ≤ st.ext.length ∧
            (∀ j, j < ext.length → 3 ≤ j → tk ≠ some j → st.ext[j]? = ext[j]?) ∧ (∀ j, tk' = some j → tk = some j ∨ ext.length ≤ j) ∧ LPost 0 (ofL (Q.take (k + 1))).nodes (fun A => (ofL (Q.take (k + 1))).At A) (ofL (Q.take (k + 1))).Meet s st.s ∧
            (∀ x, x ∈ st.aft ↔ (ofL (Q.take (k + 1))).Live x) ∧ st.aft.length ≤ 40 * (ofL (Q.take (k + 1))).nodes.length) →
            Q' .normal [(0, .lit (.int .i64 p)), (2, .ref (B.length + q) 0), (3, .imm [.ref (B.length + 2) 0]), (5, .imm (nodeV n)), (6, st.av), (20, r), (21, .lit (.int .i64 (kids n).length)), (22, .lit (.int .i64 k))] ⟨B ++ st.ext, st.wr⟩) →
          T.get 0 = some (.lit (.int .i64 p)) → T.get 2 = some (.ref (B.length + q) 0) → T.get 3 = some (.imm [.ref (B.length + 2) 0]) → T.get 5 = some (.imm (nodeV n)) → T.get 6 = some av → T.get 8 = some (.lit (.int .i64 t.pos)) → T.get 9 = some vb →
          T.get 20 = some r → T.get 21 = some (.lit (.int .i64 (kids n).length)) → T.get 22 = some (.lit (.int .i64 k)) →
          W env46 (.seq r24_9 r24_10) T ⟨B ++ ext2, wr2⟩ Q' := by
        intro Q' T vb hvb hbl hQ g0 g2 g3 g5 g6 g8 g9 g20 g21 g22
        have hlen2 := hL2.len
        obtain ⟨es2, hes2, hrep2⟩ := hL2.at_
        have hm2 : mapAt ext2 0 = some es2 := mapAt_of hes2
        have hf2 := cellsAt_of hL2.facts
        obtain ⟨lk, hlk1, hlk2, hlk3⟩ := hpost2.at_.root
        obtain ⟨vk, hvk1, hvk2⟩ := (find_rep hrep2).2 lk hlk1
        -- the row of after
        have hta2 : ∀ i, ta = some i → ext2[i]? = ext1[i]? ∧ tk2 ≠ some i := by
          intro i hi
          subst hi
          have h1 := i3.lt
          obtain ⟨h2, h3⟩ := i4 i rfl
          refine ⟨hfr2 i h1.1 (by omega) h2, fun e => ?_⟩
          rcases htk2 i e with h4 | h4
          · exact h2 h4
          · omega
        have i3' : GrowG I1 B.length ext2 av aft ta := i3.eq fun i hi => (hta2 i hi).1
        simp only [r24_9, go_sem, ↓reduceIte, Nat.reduceEqDiff, Nat.reduceAdd, Nat.reduceLeDiff, Nat.reduceBEq, g0, g2, g3, g5, g6, g8, g9, g20, g21, g22, hf2, hm2, hvk1]
        refine app_gen I1_len (map_flat I1_strip _) i3' hvk2.is (by omega) (by omega) hw2 ?_
        intro av3 ext3 wr3 ta3 hg3 hle3 hfr3 hta3 hw3 o3 ho3
        have hL3 : LvH f B.length q ext3 s2 vs2 ss2 tk2 := hL2.frame hfr3 fun i hi => ⟨⟨_, by subst hi; exact i3'.lt.2.1⟩, (hta2 i hi).2⟩
        have hlen3 := hL3.len
        obtain ⟨es3, hes3, hrep3⟩ := hL3.at_
        have hm3 : mapAt ext3 0 = some es3 := mapAt_of hes3
        have hf3 := cellsAt_of hL3.facts
        obtain ⟨vk3, hvk31, hvk32⟩ := (find_rep hrep3).2 lk hlk1
        simp only [ho3, r24_10, go_sem, ↓reduceIte, Nat.reduceEqDiff, Nat.reduceAdd, Nat.reduceLeDiff, Nat.reduceBEq, g0, g2, g3, g5, g6, g8, g9, g20, g21, g22, hf3, hm3, hvk31]
        refine (united_ok hvk32.is hvb (by omega) _).mono ?_
        rintro vu o4 ⟨rfl, lu, hu1, hu2, hu3⟩
        obtain ⟨c1, c2, c3, c4, c5⟩ := is0_cells hu1
        simp only [go_sem, ↓reduceIte, Nat.reduceEqDiff, Nat.reduceAdd, Nat.reduceLeDiff, Nat.reduceBEq, g0, g2, g3, g5, g6, g8, g9, g20, g21, g22, hf3, hm3, hvk31, c1, c2, c3, c4]
        have hss : ss2.length = s2.S.length := hL2.rep.len
        obtain ⟨Sn2, hSn2, hSnl2, hSnm2⟩ := hpost2.sets
        have hSl2 : s2.S.length = s1.S.length + Sn2.length := by rw [hSn2, List.length_append]
        refine app_gen (f := V1) (l2 := [vu]) V1_len (by simp [V1, c4]) hL3.sets (.inr ⟨_, rfl⟩) (by simp; omega) (by omega) hw3 ?_
        intro v4 ext4 wr4 tk4 hg4 hle4 hfr4 htk4 hw4 o5 ho5
        have hL4 := hL3.setSets hu1 hg4 hle4 hfr4
        have hf4 : cellsAt ext4 2 = some [.map B.length, .map (B.length + 1), vs2] := by
          have := hfr4 2 (by omega) (hL3.sets.ne hL3.facts rfl)
          exact cellsAt_of (by rw [this]; exact hL3.facts)
        have hv4c : v4.cells = [v4] := hg4.is.cells
        have hv4b : boxable v4 = true := hg4.is.box
        simp only [ho5, go_sem, ↓reduceIte, Nat.reduceEqDiff, Nat.reduceAdd, Nat.reduceLeDiff, Nat.reduceBEq, g0, g2, g3, g5, g6, g8, g9, g20, g21, g22, hf4, hv4c, hv4b]
        -- the row of after, once more
        have hta3' : ∀ i, ta3 = some i → i < ext3.length ∧ tk2 ≠ some i ∧ ext.length ≤ i := by
          intro i hi
          have hlt3 : i < ext3.length := by subst hi; exact hg3.lt.1
          rcases hta3 i hi with h1 | h1
          · have := hta2 i h1
            exact ⟨hlt3, this.2, (i4 i h1).2⟩
          · refine ⟨hlt3, fun e => ?_, by omega⟩
            have := hL2.sets
            rw [e] at this
            have := this.lt.1
            omega
        refine hQ ⟨ext4.set 2 (.cells [.map B.length, .map (B.length + 1), v4]), insN (B.length + 2) wr4, { s2 with S := s2.S ++ [lu] }, av3, aft ++ lk⟩ ⟨v4, ss2 ++ [vu], tk4, ta3, hL4, New_insN.2 ⟨by omega, hw4⟩, ?_, ?_, ?_, ?_, ?_, ?_, ?_, ?_⟩
        · refine GrowG.set (b := .cells [.map B.length, .map (B.length + 1), vs2]) (hg3.eq fun i hi => hfr4 i (hta3' i hi).1 (hta3' i hi).2.1) (of_cellsAt hf4) rfl _
        · intro i hi
          refine ⟨fun e => ?_, (hta3' i hi).2.2⟩
          rcases htk4 i e with h1 | h1
          · exact (hta3' i hi).2.1 h1
          · have := (hta3' i hi).1
            omega
        · simp only [List.length_set]
          omega
        · intro j hj h3 hne
          simp only
          rw [List.getElem?_set_ne (by omega)]
          have hne2 : tk2 ≠ some j := by
            intro e
            rcases htk2 j e with h4 | h4
            · rcases i7 j h4 with h5 | h5
              · exact hne h5
              · omega
            · omega
          have hnta : ta ≠ some j := by
            intro e
            have := (i4 j e).2
            omega
          have hne1 : tk1 ≠ some j := by
            intro e
            rcases i7 j e with h5 | h5
            · exact hne h5
            · omega
          rw [hfr4 j (by omega) hne2, hfr3 j (by omega) hnta, hfr2 j (by omega) h3 hne1]
          exact i6 j hj h3 hne
        · intro j e
          rcases htk4 j e with h1 | h1
          · rcases htk2 j h1 with h2 | h2
            · exact i7 j h2
            · exact .inr (by omega)
          · exact .inr (by omega)
        · have hn1 : (ofL (Q.take (k + 1))).nodes = (ofL (Q.take k)).nodes ++ t.nodes := by rw [htake, ofL_nodes]
          refine ⟨fun hsm l hl => ?_, fun x hx => ?_, ?_, Sn ++ Sn2 ++ [lu], ?_, ?_, ?_⟩
          · rcases List.mem_append.1 hl with hl | hl
            · exact hpost2.small (i8.small hsm) l hl
            · rw [List.mem_singleton] at hl
              subst hl
              omega
          · rw [hn1, List.mem_append, not_or] at hx
            simp only
            rw [hpost2.same x hx.2, i8.same x hx.1]
          · simp only
            rw [htake]
            exact ofL_at (Ks.At.congr _ (fun x hx => hpost2.same x (hdisj x hx)) i8.at_) hpost2.at_
          · simp only
            rw [hSn2, hSn]
            simp only [List.append_assoc]
          · have := Tr.nodes_len t
            rw [hn1]
            simp only [List.length_append, List.length_cons, List.length_nil]
            omega
          · intro x y
            rw [htake, ofL_meet, ← hSnm x y, ← hSnm2 x y]
            constructor
            · rintro ⟨l, hl, hx, hy⟩
              rw [List.mem_append, List.mem_append] at hl
              rcases hl with (hl | hl) | hl
              · exact .inl ⟨l, hl, hx, hy⟩
              · exact .inr (.inr ⟨l, hl, hx, hy⟩)
              · rw [List.mem_singleton] at hl
                subst hl
                rw [hu2, hlk2] at hx hy
                exact .inr (.inl ⟨hx, hy⟩)
            · rintro (⟨l, hl, hx, hy⟩ | ⟨hx, hy⟩ | ⟨l, hl, hx, hy⟩)
              · exact ⟨l, by simp [hl], hx, hy⟩
              · exact ⟨lu, by simp, by rw [hu2, hlk2]; exact hx, by rw [hu2, hlk2]; exact hy⟩
              · exact ⟨l, by simp [hl], hx, hy⟩
        · intro x
          simp only
          rw [List.mem_append, i9, hlk2, htake, ofL_live]
        · rw [htake, ofL_nodes]
          simp only [List.length_append]
          omega
      by_cases h9 : n.op = 9
      · have hbr := is_slV (f := brV) n.brs
        have hkL : kidL n = n.brl.map fun b => (b.bindl, b.next) := by simp [kidL, h9]
        have hlb : k < n.brl.length := by
          have := (List.getElem?_eq_some_iff.1 hlk).1
          rw [hkL, List.length_map] at this
          exact this
        have hlb' : k < (n.brs.getD []).length := hlb
        have hdb : (n.brs.getD []).drop k = n.brl[k] :: n.brl.drop (k + 1) := drop_lt hlb
        have hb : b = n.brl[k].bindl := by
          have := hlk
          rw [hkL, List.getElem?_map, List.getElem?_eq_getElem hlb] at this
          simp only [Option.map_some, Option.some.injEq, Prod.mk.injEq] at this
          exact this.1.symm
        have hvb : IsSl I1 (intsV n.brl[k].binds) b := by rw [hb]; exact (is_ints _).is
        have hbl : b.length ≤ 1000 := by rw [hb]; have := hnbb _ (List.getElem_mem hlb); omega
        simp only [go_sem, ↓reduceIte, Nat.reduceEqDiff, Nat.reduceAdd, Nat.reduceLeDiff, Nat.reduceBEq, r24_7, r24_8, node0, node0', node8, h9, hbr.is.iAddrN brV_len k hlb', hdb, brV]
        refine W_seq.1 (rest _ _ _ hvb hbl (fun st hst => ?_) rfl rfl rfl rfl rfl rfl rfl rfl rfl rfl)
        simp (disch := omega) only [go_sem, ↓reduceIte, Nat.reduceEqDiff, Nat.reduceAdd, Nat.reduceLeDiff, Nat.reduceBEq, r24_12, i64_in]
        exact ⟨hlt, st, hst, rfl, rfl⟩
      · have hb : b = binds n := by
          have := hlk
          simp only [kidL, h9, if_false] at this
          rw [List.getElem?_map, List.getElem?_eq_getElem hlt] at this
          simp only [Option.map_some, Option.some.injEq, Prod.mk.injEq] at this
          exact this.1.symm
        have hbl : b.length ≤ 1000 := by
          rw [hb]
          simp only [binds, NodeD.form, form_branch h9, Bool.false_eq_true, if_false, List.append_nil]
          by_cases hbn : (formOf n.op).binds = true <;> simp [hbn]
        have hvb : IsSl I1 r3 b := by rw [hb]; exact hbd.is
        simp only [go_sem, ↓reduceIte, Nat.reduceEqDiff, Nat.reduceAdd, Nat.reduceLeDiff, Nat.reduceBEq, r24_7, r24_8, node0, node0', node8, h9]
        refine W_seq.1 (rest _ _ _ hvb hbl (fun st hst => ?_) rfl rfl rfl rfl rfl rfl rfl rfl rfl rfl)
        simp (disch := omega) only [go_sem, ↓reduceIte, Nat.reduceEqDiff, Nat.reduceAdd, Nat.reduceLeDiff, Nat.reduceBEq, r24_12, i64_in]
        exact ⟨hlt, st, hst, rfl, rfl⟩
    rw [List.take_of_length_le (by omega)] at i8 i9 i10
    obtain ⟨es1, A1, hes1, hrep1⟩ := i1.after
    have hm1 : mapAt ext1 1 = some es1 := mapAt_of hes1
    have hf1 := cellsAt_of i1.facts
    simp only [l24_13, r24_3, r24_15, go_sem, ↓reduceIte, Nat.reduceEqDiff, Nat.reduceAdd, Nat.reduceLeDiff, Nat.reduceBEq, Nat.not_lt.2 hge, hf1, hm1]
    refine (united_ok i3.is .nil (by simp only [List.length_nil]; omega) _).mono ?_
    rintro va oa ⟨rfl, la, ha1, ha2, ha3⟩
    obtain ⟨c1, c2, c3, c4, c5⟩ := is0_cells ha1
    obtain ⟨es1', hup1, hrep1'⟩ := upd_rep (k := p) ha1 hrep1
    simp only [go_sem, ↓reduceIte, Nat.reduceEqDiff, Nat.reduceAdd, Nat.reduceLeDiff, Nat.reduceBEq, hf1, hm1, c5, hup1, r24_16, node10]
    have hLa := i1.setAfter hrep1'
    refine (binds_ok n (by omega) (fun b hb => by have := hnbb b hb; omega) _).mono ?_
    rintro rb ob ⟨rfl, hbd⟩
    simp only [go_sem, ↓reduceIte, Nat.reduceEqDiff, Nat.reduceAdd, Nat.reduceLeDiff, Nat.reduceBEq, r24_17, r24_18, b24_26, i3.is.len]
    have hwa : New B.length (insN (B.length + 1) wr1) := New_insN.2 ⟨by omega, i2⟩
    have i5' : ext.length ≤ (ext1.set 1 (.map es1')).length := by rw [List.length_set]; exact i5
    have i6' : ∀ j, j < ext.length → 3 ≤ j → tk ≠ some j → (ext1.set 1 (.map es1'))[j]? = ext[j]? := fun j h1 h2 h3 => by rw [List.getElem?_set_ne (by omega)]; exact i6 j h1 h2 h3
    generalize insN (B.length + 1) wr1 = wra at hwa ⊢
    generalize ext1.set 1 (.map es1') = exta at hLa i5' i6' ⊢
    have hbl : (binds n).length ≤ 100000 := by
      simp only [binds, List.length_append]
      have h1 := flat_bound (l := n.brl) (fun b hb => by have := hnbb b hb; omega) n.brl.length
      rw [List.take_length] at h1
      by_cases q1 : n.form.binds = true <;> by_cases q2 : n.form.branch = true <;> simp [q1, q2] at h1 ⊢ <;> omega
    have haft : aft.length ≤ 40000 := by omega
    refine W_for aft.length (fun k (st : Lk) => [(0, .lit (.int .i64 p)), (3, .imm [.ref (B.length + 2) 0]), (5, .imm (nodeV n)), (10, rb), (11, st.av), (76, av), (77, .lit (.int .i64 aft.length)), (78, .lit (.int .i64 k))])
      (fun _ st => ⟨B ++ st.ext, st.wr⟩)
      (fun k st => ∃ th, LvH f B.length q st.ext s1 vs1 ss1 tk1 ∧ New B.length st.wr ∧ GrowG I1 B.length st.ext st.av st.aft th ∧ (∀ i, th = some i → tk1 ≠ some i ∧ ext.length ≤ i) ∧ ext.length ≤ st.ext.length ∧
        (∀ j, j < ext.length → 3 ≤ j → tk ≠ some j → st.ext[j]? = ext[j]?) ∧ st.aft = (aft.take k).filter fun x => !decide (x ∈ binds n)) ?_
      ⟨exta, wra, s1, .lit (.slice none 0 0), []⟩ ⟨none, hLa, hwa, .nil, (fun i hi => by cases hi), i5', i6', by simp⟩ rfl rfl
    clear hLa hwa i5' i6' exta wra
    rintro k2 ⟨ext4, wr4, sx, hv, here⟩ hk2 ⟨th, j1, j2, j3, j4, j5, j6, j7⟩
    simp only at j1 j2 j3 j4 j5 j6 j7
    rcases Nat.lt_or_ge k2 aft.length with hlt2 | hge2
    · simp (disch := omega) only [l24_25, r24_19, r24_20, r24_21, b24_23, go_sem, ↓reduceIte, Nat.reduceEqDiff, Nat.reduceAdd, Nat.reduceLeDiff, Nat.reduceBEq, hlt2, i3.is.iAddrN I1_len k2 hlt2, drop_lt hlt2, I1, i64_in]
      refine (contains_ok hbd.is (by omega) _).mono ?_
      rintro rc oc ⟨rfl, rfl⟩
      by_cases hx : aft[k2] ∈ binds n
      · simp (disch := omega) only [go_sem, ↓reduceIte, Nat.reduceEqDiff, Nat.reduceAdd, Nat.reduceLeDiff, Nat.reduceBEq, hx, r24_24, i64_in]
        refine ⟨hlt2, ⟨ext4, wr4, sx, hv, here⟩, ⟨th, j1, j2, j3, j4, j5, j6, ?_⟩, rfl, rfl⟩
        simp only
        rw [j7, List.take_succ_eq_append_getElem hlt2, List.filter_append]
        simp [hx]
      · simp only [go_sem, ↓reduceIte, Nat.reduceEqDiff, Nat.reduceAdd, Nat.reduceLeDiff, Nat.reduceBEq, hx, r24_22]
        have hhl : here.length ≤ 40000 := by
          rw [j7]
          have := List.length_filter_le (fun x => !decide (x ∈ binds n)) (aft.take k2)
          have h2 : (aft.take k2).length ≤ aft.length := by simp; omega
          omega
        refine app_gen (l2 := [aft[k2]]) I1_len rfl j3 (.inr ⟨_, rfl⟩) (by simp only [List.length_cons, List.length_nil]; omega) (by omega) j2 ?_
        intro v5 ext5 wr5 tk5 hg5 hle5 hfr5 htk5 hw5 o5 ho5
        simp (disch := omega) only [ho5, go_sem, ↓reduceIte, Nat.reduceEqDiff, Nat.reduceAdd, Nat.reduceLeDiff, Nat.reduceBEq, r24_24, i64_in]
        have hL5 : LvH f B.length q ext5 s1 vs1 ss1 tk1 := j1.frame hfr5 fun i hi => ⟨⟨_, by subst hi; exact j3.lt.2.1⟩, (j4 i hi).1⟩
        refine ⟨hlt2, ⟨ext5, wr5, sx, v5, here ++ [aft[k2]]⟩, ⟨tk5, hL5, hw5, hg5, ?_, by simp only; omega, ?_, ?_⟩, rfl, rfl⟩
        · intro i hi
          rcases htk5 i hi with h1 | h1
          · exact j4 i h1
          · refine ⟨fun e => ?_, by omega⟩
            have := j1.sets
            rw [e] at this
            have := this.lt.1
            omega
        · intro j h1 h2 h3
          simp only
          rw [hfr5 j (by omega) fun e => by have := (j4 j e).2; omega]
          exact j6 j h1 h2 h3
        · simp only
          rw [j7, List.take_succ_eq_append_getElem hlt2, List.filter_append]
          simp [hx]
    rw [List.take_of_length_le hge2] at j7
    have hlen4 := j1.len
    have hf4 := cellsAt_of j1.facts
    obtain ⟨es4, hes4, hrep4⟩ := j1.at_
    have hm4 : mapAt ext4 0 = some es4 := mapAt_of hes4
    simp only [l24_25, r24_19, r24_27, go_sem, ↓reduceIte, Nat.reduceEqDiff, Nat.reduceAdd, Nat.reduceLeDiff, Nat.reduceBEq, Nat.not_lt.2 hge2, hf4, hm4, node10]
    refine (uses_ok n (by omega) (by omega) _).mono ?_
    rintro ru ou ⟨rfl, hu⟩
    simp only [go_sem, ↓reduceIte, Nat.reduceEqDiff, Nat.reduceAdd, Nat.reduceLeDiff, Nat.reduceBEq, hf4, hm4]
    have hul := uses_len hna hnm2
    have hhl : here.length ≤ aft.length := by rw [j7]; exact List.length_filter_le _ _
    refine (united_ok j3.is hu.is (by omega) _).mono ?_
    rintro vl ol ⟨rfl, ll, hl1, hl2, hl3⟩
    obtain ⟨c1, c2, c3, c4, c5⟩ := is0_cells hl1
    obtain ⟨es5, hup5, hrep5⟩ := upd_rep (k := p) hl1 hrep4
    have hLb := j1.setAt hrep5
    have hfb := cellsAt_of hLb.facts
    have hmb : mapAt (ext4.set 0 (.map es5)) 0 = some es5 := mapAt_of (by rw [List.getElem?_set_self (by omega)])
    obtain ⟨vp, hvp1, hvp2⟩ := (find_rep (k := p) hrep5).2 ll (by rw [findA_upd, if_pos rfl])
    obtain ⟨d1, d2, d3, d4, d5⟩ := is0_cells hvp2
    simp only [go_sem, ↓reduceIte, Nat.reduceEqDiff, Nat.reduceAdd, Nat.reduceLeDiff, Nat.reduceBEq, hf4, hm4, c5, hup5, r24_28, hfb, hmb, hvp1, d1, d2, d3, d4]
    obtain ⟨Sn, hSn, hSnl, hSnm⟩ := i8.sets
    have hss : ss1.length = s1.S.length := j1.rep.len
    have hSl : s1.S.length = s.S.length + Sn.length := by rw [hSn, List.length_append]
    refine app_gen (f := V1) (l2 := [vp]) V1_len (by simp [V1, d4]) hLb.sets (.inr ⟨_, rfl⟩) (by simp; omega) (by omega) (by simp [New_insN, j2]) ?_
    intro v6 ext6 wr6 tk6 hg6 hle6 hfr6 htk6 hw6 o6 ho6
    have hL6 := hLb.setSets hvp2 hg6 hle6 hfr6
    have hf6 : cellsAt ext6 2 = some [.map B.length, .map (B.length + 1), vs1] := by
      have := hfr6 2 (by rw [List.length_set]; omega) (hLb.sets.ne hLb.facts rfl)
      exact cellsAt_of (by rw [this]; exact hLb.facts)
    have hv6c : v6.cells = [v6] := hg6.is.cells
    have hv6b : boxable v6 = true := hg6.is.box
    simp only [ho6, go_sem, ↓reduceIte, Nat.reduceEqDiff, Nat.reduceAdd, Nat.reduceLeDiff, Nat.reduceBEq, hf6, hv6c, hv6b]
    rw [List.length_set] at hle6 hfr6 htk6
    refine lv_fin h hL6 hw (New_insN.2 ⟨by omega, hw6⟩) fun o ext' wr' e1 e2 e3 e4 e5 => ⟨_, ext', wr', _, _, _, e1, e2, e3, e4, ?_, ?_, ?_⟩
    · intro j hj h3 hne
      have hne1 : tk1 ≠ some j := by
        intro e
        rcases i7 j e with h5 | h5
        · exact hne h5
        · omega
      rw [e5 j hj, List.getElem?_set_ne (by omega), hfr6 j (by omega) hne1, List.getElem?_set_ne (by omega)]
      exact j6 j hj h3 hne
    · intro j e
      rcases htk6 j e with h1 | h1
      · exact i7 j h1
      · exact .inr (by omega)
    · have hlive : ∀ x, x ∈ ll ↔ (Tr.mk p n (ofL Q)).Live x := by
        intro x
        rw [hl2, j7, List.mem_filter, i9]
        simp only [Tr.Live, Bool.not_eq_true', decide_eq_false_iff_not]
        exact Or.comm
      refine ⟨fun hsm l hl => ?_, fun x hx => ?_, ⟨⟨ll, by simp only [findA_upd, if_true], hlive, ?_⟩, ?_⟩, Sn ++ [ll], ?_, ?_, ?_⟩
      · rcases List.mem_append.1 hl with hl | hl
        · exact i8.small hsm l hl
        · rw [List.mem_singleton] at hl
          subst hl
          omega
      · rw [hnodes, List.mem_cons, not_or] at hx
        simp only
        rw [findA_upd, if_neg hx.1, i8.same x hx.2]
      · rw [hnodes, List.length_cons]
        omega
      · refine Ks.At.congr _ (fun x hx => ?_) i8.at_
        simp only
        rw [findA_upd, if_neg]
        rintro rfl
        exact hpn hx
      · simp only
        rw [hSn, List.append_assoc]
      · rw [hnodes]
        simp only [List.length_append, List.length_cons, List.length_nil]
        omega
      · intro a b
        show _ ↔ ((Tr.mk p n (ofL Q)).Live a ∧ (Tr.mk p n (ofL Q)).Live b) ∨ (ofL Q).Meet a b
        rw [← hSnm a b, ← hlive a, ← hlive b]
        constructor
        · rintro ⟨l, hl, ha, hb⟩
          rcases List.mem_append.1 hl with hl | hl
          · exact .inr ⟨l, hl, ha, hb⟩
          · rw [List.mem_singleton] at hl
            subst hl
            exact .inl ⟨ha, hb⟩
        · rintro (⟨ha, hb⟩ | ⟨l, hl, ha, hb⟩)
          · exact ⟨ll, by simp, ha, hb⟩
          · exact ⟨l, by simp [hl], ha, hb⟩
end Go.Proofs.Ytlliieplgdlldaa
