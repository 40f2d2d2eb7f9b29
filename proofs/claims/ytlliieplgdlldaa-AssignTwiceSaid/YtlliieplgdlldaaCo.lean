/- What the functions of law 46 answer, by the evaluator: visit within assign.Registers.
   Conditions: those that each theorem names. -/
import Derived.Test.YtlliieplgdlldaaCn
namespace Go.Proofs.Ytlliieplgdlldaa
open Go Go.Ev
set_option linter.unusedSimpArgs false
set_option linter.unusedVariables false
set_option maxRecDepth 10000

/-! ### the tree, plainly -/
theorem kidL_binds {n : NodeD} {b : List Int} {p : Int} (h : (b, p) ∈ kidL n) : ∀ x, x ∈ b → x ∈ binds n := by
  intro x hx
  unfold kidL at h
  split at h
  · rename_i h9
    rw [List.mem_map] at h
    obtain ⟨br, hbr, e⟩ := h
    simp only [Prod.mk.injEq] at e
    obtain ⟨rfl, _⟩ := e
    have hb : n.form.branch = true := by simp only [NodeD.form, h9]; rfl
    simp only [binds, hb, if_true, List.mem_append, List.mem_flatMap]
    exact .inr ⟨br, hbr, hx⟩
  · rw [List.mem_map] at h
    obtain ⟨k, _, e⟩ := h
    simp only [Prod.mk.injEq] at e
    obtain ⟨rfl, _⟩ := e
    exact hx
theorem form_next {op : Int} (h : (formOf op).binds = true) : (formOf op).next = true := by
  unfold formOf at h ⊢
  split at h
  · rename_i ho
    rw [if_pos ho]
    have hh : op = 0 ∨ op = 1 ∨ op = 2 ∨ op = 3 ∨ op = 4 ∨ op = 5 ∨ op = 6 ∨ op = 7 ∨ op = 8 ∨ op = 9 := by
      simp [isOp] at ho
      omega
    rcases hh with rfl | rfl | rfl | rfl | rfl | rfl | rfl | rfl | rfl | rfl <;> first | rfl | (cases h)
  · cases h
theorem binds_kidL {n : NodeD} {x : Int} (h : x ∈ binds n) : ∃ b p, (b, p) ∈ kidL n ∧ x ∈ b := by
  by_cases h9 : n.op = 9
  · simp only [binds, NodeD.form, h9, formOf_match, Bool.false_eq_true, if_false, if_true, List.nil_append, List.mem_flatMap] at h
    obtain ⟨br, h1, h2⟩ := h
    exact ⟨br.bindl, br.next, by simp only [kidL, h9, if_true, List.mem_map]; exact ⟨br, h1, rfl⟩, h2⟩
  · have hx := h
    simp only [binds, NodeD.form, form_branch h9, Bool.false_eq_true, if_false, List.append_nil] at h
    by_cases hb : (formOf n.op).binds = true
    · have hn := form_next hb
      refine ⟨binds n, n.next, ?_, hx⟩
      simp only [kidL, h9, if_false, List.mem_map]
      exact ⟨n.next, by simp [kids, NodeD.form, hn], rfl⟩
    · simp [hb] at h
theorem Ks.vars_of {x : Int} : ∀ ks : Ks, (∃ b p, (b, p) ∈ ks.list ∧ x ∈ b) → x ∈ ks.vars
  | .nil, ⟨_, _, h, _⟩ => by simp [Ks.list] at h
  | .cons b t r, ⟨b', p, h, hx⟩ => by
    simp only [Ks.list, List.mem_cons, Prod.mk.injEq] at h
    simp only [Ks.vars, List.mem_append]
    rcases h with ⟨rfl, _⟩ | h
    · exact .inl hx
    · exact .inr (.inr (Ks.vars_of r ⟨b', p, h, hx⟩))
mutual
theorem Tr.live_sc {f : FunD} {x : Int} : ∀ (t : Tr) {sc : Int → Prop}, t.Ok f → t.Sc sc → t.Live x → sc x
  | .mk p n ks, sc, hok, hsc, hl => by
    rcases hl with hl | ⟨hl, hb⟩
    · exact hsc.1 x hl
    · rcases Ks.live_sc ks hok.2.2.2 hsc.2 hl with h | ⟨b, q, h, hx⟩
      · exact h
      · rw [hok.2.2.1] at h
        exact absurd (kidL_binds h x hx) hb
theorem Ks.live_sc {f : FunD} {x : Int} : ∀ (ks : Ks) {sc : Int → Prop}, ks.Ok f → ks.Sc sc → ks.Live x → sc x ∨ ∃ b p, (b, p) ∈ ks.list ∧ x ∈ b
  | .nil, _, _, _, h => h.elim
  | .cons b t r, sc, hok, hsc, hl => by
    rcases hl with hl | hl
    · rcases Tr.live_sc t hok.1 hsc.1 hl with h | h
      · exact .inl h
      · exact .inr ⟨b, t.pos, by simp [Ks.list], h⟩
    · rcases Ks.live_sc r hok.2 hsc.2 hl with h | ⟨b', p, h, hx⟩
      · exact .inl h
      · exact .inr ⟨b', p, by simp [Ks.list, h], hx⟩
end
mutual
theorem Tr.meet_in {f : FunD} {a b : Int} : ∀ (t : Tr) {sc : Int → Prop}, t.Ok f → t.Sc sc → t.Meet a b → (sc a ∨ a ∈ t.vars) ∧ (sc b ∨ b ∈ t.vars)
  | .mk p n ks, sc, hok, hsc, h => by
    rcases h with ⟨h1, h2⟩ | h
    · exact ⟨.inl (Tr.live_sc _ hok hsc h1), .inl (Tr.live_sc _ hok hsc h2)⟩
    · exact Ks.meet_in ks hok.2.2.2 hsc.2 h
theorem Ks.meet_in {f : FunD} {a b : Int} : ∀ (ks : Ks) {sc : Int → Prop}, ks.Ok f → ks.Sc sc → ks.Meet a b → (sc a ∨ a ∈ ks.vars) ∧ (sc b ∨ b ∈ ks.vars)
  | .nil, _, _, _, h => h.elim
  | .cons bd t r, sc, hok, hsc, h => by
    simp only [Ks.vars, List.mem_append]
    have side : ∀ x, (t.Live x ∨ x ∈ bd) → sc x ∨ x ∈ bd := fun x hx => hx.elim (fun h => Tr.live_sc t hok.1 hsc.1 h) .inr
    rcases h with ⟨h1, h2⟩ | h | h
    · exact ⟨(side a h1).imp id .inl, (side b h2).imp id .inl⟩
    · obtain ⟨h1, h2⟩ := Tr.meet_in t hok.1 hsc.1 h
      refine ⟨?_, ?_⟩
      · rcases h1 with (h1 | h1) | h1
        · exact .inl h1
        · exact .inr (.inl h1)
        · exact .inr (.inr (.inl h1))
      · rcases h2 with (h2 | h2) | h2
        · exact .inl h2
        · exact .inr (.inl h2)
        · exact .inr (.inr (.inl h2))
    · obtain ⟨h1, h2⟩ := Ks.meet_in r hok.2 hsc.2 h
      exact ⟨h1.imp id fun h => .inr (.inr h), h2.imp id fun h => .inr (.inr h)⟩
end
mutual
theorem Tr.Has.trans {t u : Tr} (hu : t.Has u) : ∀ T : Tr, T.Has t → T.Has u
  | .mk p n ks, h => by
    rcases h with rfl | h
    · exact hu
    · exact .inr (Ks.Has.trans hu ks h)
theorem Ks.Has.trans {t u : Tr} (hu : t.Has u) : ∀ ks : Ks, ks.Has t → ks.Has u
  | .nil, h => h.elim
  | .cons b x r, h => h.imp (Tr.Has.trans hu x) (Ks.Has.trans hu r)
end
theorem Tr.Has.self (t : Tr) : t.Has t := by
  cases t
  exact .inl rfl
theorem ofL_has (P R : List (List Int × Tr)) (b : List Int) (t : Tr) : (ofL (P ++ (b, t) :: R)).Has t := by
  induction P with
  | nil => exact .inl (Tr.Has.self t)
  | cons a P ih => exact .inr ih

structure VPre (f : FunD) (t : Tr) (sc : Int → Prop) (o : List Int) : Prop where
  hsc : t.Sc sc
  scv : ∀ x, sc x → InV f x
  disj : ∀ x, x ∈ t.vars → ¬ sc x
  nd : t.vars.Nodup
  inv : ∀ x, x ∈ t.vars → InV f x
  lt : ∀ x, InV f x → og o x < 16
  live : ∀ x, t.Live x → 0 ≤ og o x
  dist : ∀ x y, t.Live x → t.Live y → x ≠ y → og o x ≠ og o y
  un : ∀ x, x ∈ t.vars → og o x < 0
structure Vis (f : FunD) (vars : List Int) (meet : Int → Int → Prop) (o o' : List Int) : Prop where
  len : o'.length = f.varl.length
  same : ∀ x, InV f x → x ∉ vars → og o' x = og o x
  rng : ∀ x, x ∈ vars → 0 ≤ og o' x ∧ og o' x < 16
  meet : ∀ a b, meet a b → a ≠ b → og o' a ≠ og o' b

structure Ro where
  ext : List ABlk
  wr : List Nat
  o : List Int

theorem rvisit_ok {f : FunD} {T : Tr} (hf : FewD f) (hW : Well f T) : ∀ (m : Nat) (t : Tr) {B ext : List ABlk} {wr : List Nat} {o : List Int} {sc : Int → Prop}, t.nodes.length ≤ m → t.Ok f → T.Has t → VPre f t sc o → Rg f B.length ext o → New B.length wr →
    WC env46 14 [intV t.pos, .imm (funV f), .imm [putV f B.length], .ref (B.length + 3) 0] ⟨B ++ ext, wr⟩
      fun r ro => ∃ (c : Bool) (ext' : List ABlk) (wr' : List Nat) (o' : List Int), r = boolV c ∧ ro.getD ⟨B ++ ext, wr⟩ = ⟨B ++ ext', wr'⟩ ∧ New B.length wr' ∧ Rg f B.length ext' o' ∧ (c = true → Vis f t.vars t.Meet o o') := by
  intro m
  induction m with
  | zero =>
    intro t B ext wr o sc hm
    have := Tr.nodes_len t
    omega
  | succ m ih =>
    intro t B ext wr o sc hm hok hT hv h hw
    obtain ⟨p, n, ks⟩ := t
    have hok0 := hok
    obtain ⟨hp0, hn, hlist, hks⟩ := hok
    obtain ⟨Q, rfl⟩ := ofL_surj ks
    refine WC_fnK keeps46 rfl rfl rfl ?_
    have h0 := h
    have hpl : p.toNat < f.codel.length := (List.getElem?_eq_some_iff.1 hn).1
    have hp1 : p < f.codel.length := by omega
    have hd : f.codel.drop p.toNat = n :: f.codel.drop (p.toNat + 1) := by
      rw [drop_lt hpl]
      rw [List.getElem?_eq_getElem hpl] at hn
      cases hn
      rfl
    obtain ⟨hna, hnm2, hnb, hnbb⟩ := hf.node n (List.mem_of_getElem? hn)
    have hl := h.len
    simp only [c14, r14_0, r14_1, r14_2, intV, Tr.pos, go_sem, ↓reduceIte, Nat.reduceEqDiff, Nat.reduceAdd, Nat.reduceLeDiff, Nat.reduceBEq, fun4, (codeIs f).iAddr nodeV_len p hp0 hp1, hd, node10r, nodeV_len, node_strip1, node10]
    refine (kids_ok n (by omega) _).mono ?_
    rintro r ro ⟨rfl, hkd⟩
    simp only [go_sem, ↓reduceIte, Nat.reduceEqDiff, Nat.reduceAdd, Nat.reduceLeDiff, Nat.reduceBEq, hkd.is.len, b14_13]
    have hkl : (kidL n).map (·.2) = kids n := kidL_snd n
    have hQl : Q.length = (kids n).length := by rw [← hkl, ← hlist, ofL_list', List.length_map, List.length_map]
    have hkb : (kids n).length ≤ 1000 := by rw [← hkl, List.length_map]; exact kidL_len n hnb
    have hnodes : (Tr.mk p n (ofL Q)).nodes = p :: (ofL Q).nodes := rfl
    rw [hnodes, List.length_cons] at hm
    have hvars : (Tr.mk p n (ofL Q)).vars = (ofL Q).vars := rfl
    refine W_for (kids n).length (fun k (s : Ro) => [(2, .imm [putV f B.length]), (3, .ref (B.length + 3) 0), (6, .imm (nodeV n)), (16, r), (17, .lit (.int .i64 (kids n).length)), (18, .lit (.int .i64 k))])
      (fun _ s => ⟨B ++ s.ext, s.wr⟩) (fun k s => Rg f B.length s.ext s.o ∧ New B.length s.wr ∧ Vis f (ofL (Q.take k)).vars (ofL (Q.take k)).Meet o s.o) ?_
      ⟨ext ++ [.dead], insN (B.length + ext.length) (insN (B.length + ext.length) []), o⟩ ⟨h.more _, by simp [New_insN, New_nil], ⟨h.ol, fun _ _ _ => rfl, by simp [ofL, Ks.vars], by simp [ofL, Ks.Meet]⟩⟩ rfl rfl
    rintro k ⟨ext1, wr1, o1⟩ hk ⟨i1, i2, i3⟩
    simp only at i1 i2 i3
    rcases Nat.lt_or_ge k (kids n).length with hlt | hge
    · have hltQ : k < Q.length := by omega
      obtain ⟨b, t, hbt⟩ : ∃ b t, Q[k] = (b, t) := ⟨_, _, rfl⟩
      have hlk : (kidL n)[k]? = some (b, t.pos) := by
        rw [← hlist, ofL_list', List.getElem?_map, List.getElem?_eq_getElem hltQ, hbt]
        rfl
      have hkp : (kids n)[k] = t.pos := by
        have : (kids n)[k]? = some t.pos := by rw [← hkl, List.getElem?_map, hlk]; rfl
        rw [List.getElem?_eq_getElem hlt] at this
        exact Option.some.inj this
      have htake : Q.take (k + 1) = Q.take k ++ [(b, t)] := by rw [List.take_succ_eq_append_getElem hltQ, hbt]
      have hsplit : Q = Q.take k ++ (b, t) :: Q.drop (k + 1) := by
        have := List.take_append_drop k Q
        rw [drop_lt hltQ, hbt] at this
        exact this.symm
      have hvsp : (ofL Q).vars = (ofL (Q.take k)).vars ++ (b ++ (t.vars ++ (ofL (Q.drop (k + 1))).vars)) := by
        have h1 := congrArg (fun l => (ofL l).vars) hsplit
        simp only [ofL_app_vars] at h1
        exact h1
      have hnsp : (ofL Q).nodes = (ofL (Q.take k)).nodes ++ (t.nodes ++ (ofL (Q.drop (k + 1))).nodes) := by
        have h1 := congrArg (fun l => (ofL l).nodes) hsplit
        simp only [ofL_app_nodes] at h1
        exact h1
      have hnl := congrArg List.length hnsp
      rw [List.length_append, List.length_append] at hnl
      have htok : t.Ok f := by
        have := hks
        rw [hsplit, ofL_app_ok] at this
        exact this.2.1
      have hTt : T.Has t := Tr.Has.trans (t := .mk p n (ofL Q)) (.inr (by rw [hsplit]; exact ofL_has _ _ _ _)) T hT
      simp (disch := omega) only [l14_12, r14_3, r14_4, r14_5, b14_10, go_sem, ↓reduceIte, Nat.reduceEqDiff, Nat.reduceAdd, Nat.reduceLeDiff, Nat.reduceBEq, hlt, hkd.is.iAddrN I1_len k hlt, drop_lt hlt, I1, i64_in, hkp, node10]
      refine (binds_ok n (by omega) (fun b hb => by have := hnbb b hb; omega) _).mono ?_
      rintro r3 o3 ⟨rfl, hbd⟩
      have hbmem : (b, t.pos) ∈ kidL n := List.mem_of_getElem? hlk
      have hnd := hv.nd
      rw [hvars, hvsp] at hnd
      have hnd1 := List.nodup_append.1 hnd
      have hnd2 := List.nodup_append.1 hnd1.2.1
      have hnd3 := List.nodup_append.1 hnd2.2.1
      have hinv : ∀ x, x ∈ (ofL (Q.take k)).vars ∨ x ∈ b ∨ x ∈ t.vars → x ∈ (ofL Q).vars := fun x hx => by
        rw [hvsp]
        simp only [List.mem_append]
        rcases hx with hx | hx | hx
        · exact .inl hx
        · exact .inr (.inl hx)
        · exact .inr (.inr (.inl hx))
      have hPb : ∀ x, x ∈ (ofL (Q.take k)).vars → x ∉ b := fun x h1 h2 => hnd1.2.2 x h1 x (by simp [h2]) rfl
      have hPt : ∀ x, x ∈ (ofL (Q.take k)).vars → x ∉ t.vars := fun x h1 h2 => hnd1.2.2 x h1 x (by simp [h2]) rfl
      have hbt' : ∀ x, x ∈ b → x ∉ t.vars := fun x h1 h2 => hnd2.2.2 x h1 x (by simp [h2]) rfl
      have hscn : ∀ x, sc x → x ∉ (ofL Q).vars := fun x h1 h2 => hv.disj x h2 h1
      have htsc : t.Sc (fun v => sc v ∨ v ∈ b) := by
        have := hv.hsc.2
        rw [hsplit, ofL_app_sc] at this
        exact this.2.1
      have hPsc : (ofL (Q.take k)).Sc sc := by
        have := hv.hsc.2
        rw [hsplit, ofL_app_sc] at this
        exact this.1
      have hPok : (ofL (Q.take k)).Ok f := by
        have := hks
        rw [hsplit, ofL_app_ok] at this
        exact this.1
      have hbinv : ∀ x, x ∈ b → InV f x := fun x hx => hv.inv x (hinv x (.inr (.inl hx)))
      have hlive : ∀ x, t.Live x → x ∈ b ∨ (sc x ∧ (Tr.mk p n (ofL Q)).Live x) := by
        intro x hx
        by_cases hxb : x ∈ b
        · exact .inl hxb
        · rcases Tr.live_sc t htok htsc hx with h1 | h1
          · refine .inr ⟨h1, .inr ⟨?_, fun hm => ?_⟩⟩
            · rw [hsplit]
              have : ∀ P R : List (List Int × Tr), (ofL (P ++ (b, t) :: R)).Live x := by
                intro P R
                induction P with
                | nil => exact .inl hx
                | cons a P ih2 => exact .inr ih2
              exact this _ _
            · have := binds_kidL hm
              rw [← hlist] at this
              exact hscn x h1 (Ks.vars_of _ this)
          · exact .inl h1
      have hlinv : ∀ x, t.Live x → InV f x := fun x hx => (hlive x hx).elim (hbinv x) fun h => hv.scv x h.1
      have hold : ∀ x, InV f x → x ∉ (ofL Q).vars → og o1 x = og o x := fun x h1 h2 => i3.same x h1 fun h3 => h2 (hinv x (.inl h3))
      have hlt1 : ∀ x, InV f x → og o1 x < 16 := by
        intro x hx
        by_cases hm : x ∈ (ofL (Q.take k)).vars
        · exact (i3.rng x hm).2
        · rw [i3.same x hx hm]
          exact hv.lt x hx
      have hub : ∀ x, x ∈ b ∨ x ∈ t.vars → og o1 x < 0 := by
        intro x hx
        have h1 : x ∈ (ofL Q).vars := hinv x (.inr hx)
        rw [i3.same x (hv.inv x h1) fun h2 => hx.elim (hPb x h2) (hPt x h2)]
        exact hv.un x h1
      have hbl : b.length ≤ 1000 := by
        by_cases h9 : n.op = 9
        · have hm := hbmem
          simp only [kidL, h9, if_true, List.mem_map] at hm
          obtain ⟨br, h1, h2⟩ := hm
          simp only [Prod.mk.injEq] at h2
          rw [← h2.1]
          have := hnbb br h1
          omega
        · have hm := hbmem
          simp only [kidL, h9, if_false, List.mem_map] at hm
          obtain ⟨q, h1, h2⟩ := hm
          simp only [Prod.mk.injEq] at h2
          rw [← h2.1]
          simp only [binds, NodeD.form, form_branch h9, Bool.false_eq_true, if_false, List.append_nil]
          by_cases hbn : (formOf n.op).binds = true <;> simp [hbn]
      -- what goes on behind the choice of the variables
      have rest : ∀ (Q' : Ex → Tm → Heap → Prop) (T' : Tm) (vb : V), IsSl I1 vb b →
          (∀ T2 e w o2, Rg f B.length e o2 → New B.length w → T2.get 5 = some (.lit (.bool false)) → Q' .ret T2 ⟨B ++ e, w⟩) →
          (∀ T2 (s : Ro), (Rg f B.length s.ext s.o ∧ New B.length s.wr ∧ Vis f (ofL (Q.take (k + 1))).vars (ofL (Q.take (k + 1))).Meet o s.o) → T2.get 2 = some (.imm [putV f B.length]) → T2.get 3 = some (.ref (B.length + 3) 0) → T2.get 6 = some (.imm (nodeV n)) → T2.get 16 = some r → T2.get 17 = some (.lit (.int .i64 (kids n).length)) → T2.get 18 = some (.lit (.int .i64 k)) →
            Q' .normal T2 ⟨B ++ s.ext, s.wr⟩) →
          T'.get 2 = some (.imm [putV f B.length]) → T'.get 3 = some (.ref (B.length + 3) 0) → T'.get 6 = some (.imm (nodeV n)) → T'.get 8 = some (.lit (.int .i64 t.pos)) → T'.get 9 = some vb → T'.get 16 = some r → T'.get 17 = some (.lit (.int .i64 (kids n).length)) → T'.get 18 = some (.lit (.int .i64 k)) →
          W env46 (.seq r14_8 (.cond (.t 44) (.seq r14_9 .ret) .skip)) T' ⟨B ++ ext1, wr1⟩ Q' := by
        intro Q' T' vb hvb hret hQ g2 g3 g6 g8 g9 g16 g17 g18
        simp only [r14_8, go_sem, ↓reduceIte, Nat.reduceEqDiff, Nat.reduceAdd, Nat.reduceLeDiff, Nat.reduceBEq, g2, g3, g6, g8, g9, g16, g17, g18, fnPut]
        refine (put_ok hf hW hTt i1 i2 hvb hbl hbinv hnd2.1 hlinv hlt1 (fun x hx => hub x (.inl hx))).mono ?_
        rintro rp op ⟨c, ext2, wr2, o2, rfl, ho2, hw2, hR2, hput⟩
        cases c with
        | false =>
          simp only [ho2, go_sem, ↓reduceIte, Nat.reduceEqDiff, Nat.reduceAdd, Nat.reduceLeDiff, Nat.reduceBEq, boolV, g2, g3, g6, g8, g9, g16, g17, g18, r14_9]
          exact hret _ _ _ _ hR2 hw2 rfl
        | true =>
          have hput := hput rfl
          have hvis := cellsAt_of hR2.visit
          simp only [ho2, go_sem, ↓reduceIte, Nat.reduceEqDiff, Nat.reduceAdd, Nat.reduceLeDiff, Nat.reduceBEq, boolV, g2, g3, g6, g8, g9, g16, g17, g18, hvis, fnReg]
          have hpre : VPre f t (fun v => sc v ∨ v ∈ b) o2 := by
            refine ⟨htsc, fun x hx => hx.elim (hv.scv x) (hbinv x), fun x hx hx2 => ?_, hnd3.1, fun x hx => hv.inv x (hinv x (.inr (.inr hx))), fun x hx => ?_, fun x hx => ?_, fun x y hx hy hne => ?_, fun x hx => ?_⟩
            · rcases hx2 with h1 | h1
              · exact hscn x h1 (hinv x (.inr (.inr hx)))
              · exact hbt' x h1 hx
            · by_cases hm : x ∈ b
              · exact (hput.rng x hm).2
              · rw [hput.same x hx hm]
                exact hlt1 x hx
            · rcases hlive x hx with h1 | ⟨h1, h2⟩
              · exact (hput.rng x h1).1
              · have hxi := hv.scv x h1
                have hnb : x ∉ b := fun h3 => hscn x h1 (hinv x (.inr (.inl h3)))
                rw [hput.same x hxi hnb, hold x hxi (hscn x h1)]
                exact hv.live x h2
            · have key : ∀ z, sc z → (Tr.mk p n (ofL Q)).Live z → z ∉ b ∧ og o2 z = og o1 z ∧ 0 ≤ og o1 z ∧ og o1 z = og o z := by
                intro z h1 h2
                have hxi := hv.scv z h1
                have hnb : z ∉ b := fun h3 => hscn z h1 (hinv z (.inr (.inl h3)))
                refine ⟨hnb, hput.same z hxi hnb, ?_, hold z hxi (hscn z h1)⟩
                rw [hold z hxi (hscn z h1)]
                exact hv.live z h2
              rcases hlive x hx with h1 | ⟨h1, h2⟩ <;> rcases hlive y hy with h3 | ⟨h3, h4⟩
              · exact hput.dist x y h1 h3 hne
              · obtain ⟨k1, k2, k3, k4⟩ := key y h3 h4
                rw [k2]
                exact hput.live x y h1 hy k1 k3
              · obtain ⟨k1, k2, k3, k4⟩ := key x h1 h2
                rw [k2]
                exact (hput.live y x h3 hx k1 k3).symm
              · obtain ⟨k1, k2, k3, k4⟩ := key x h1 h2
                obtain ⟨m1, m2, m3, m4⟩ := key y h3 h4
                rw [k2, m2, k4, m4]
                exact hv.dist x y h2 h4 hne
            · have hxi := hv.inv x (hinv x (.inr (.inr hx)))
              rw [hput.same x hxi fun h1 => hbt' x h1 hx]
              exact hub x (.inr hx)
          refine (ih t (by omega) htok hTt hpre hR2 hw2).mono ?_
          rintro rv ov ⟨c, ext3, wr3, o3, rfl, ho3, hw3, hR3, hvis3⟩
          cases c with
          | false =>
            simp only [ho3, go_sem, ↓reduceIte, Nat.reduceEqDiff, Nat.reduceAdd, Nat.reduceLeDiff, Nat.reduceBEq, boolV, g2, g3, g6, g8, g9, g16, g17, g18, r14_9]
            exact hret _ _ _ _ hR3 hw3 rfl
          | true =>
            have hvis3 := hvis3 rfl
            simp only [ho3, go_sem, ↓reduceIte, Nat.reduceEqDiff, Nat.reduceAdd, Nat.reduceLeDiff, Nat.reduceBEq, boolV, g2, g3, g6, g8, g9, g16, g17, g18]
            refine hQ _ ⟨ext3, wr3, o3⟩ ⟨hR3, hw3, ?_⟩ rfl rfl rfl rfl rfl rfl
            have hv3 : (ofL (Q.take (k + 1))).vars = (ofL (Q.take k)).vars ++ (b ++ t.vars) := by rw [htake, ofL_vars]
            -- a variable that neither b nor t binds
            have hoff : ∀ x, InV f x → x ∉ b → x ∉ t.vars → og o3 x = og o1 x := fun x h1 h2 h3 => by rw [hvis3.same x h1 h3, hput.same x h1 h2]
            refine ⟨hR3.ol, fun x hx hm => ?_, fun x hm => ?_, fun a c hac hne => ?_⟩
            · rw [hv3, List.mem_append, List.mem_append, not_or, not_or] at hm
              simp only
              rw [hoff x hx hm.2.1 hm.2.2, i3.same x hx hm.1]
            · rw [hv3, List.mem_append, List.mem_append] at hm
              simp only
              rcases hm with hm | hm | hm
              · rw [hoff x (hv.inv x (hinv x (.inl hm))) (hPb x hm) (hPt x hm)]
                exact i3.rng x hm
              · rw [hvis3.same x (hbinv x hm) (hbt' x hm)]
                exact hput.rng x hm
              · exact hvis3.rng x hm
            · simp only
              rw [htake, ofL_meet] at hac
              rcases hac with hac | hac | hac
              · obtain ⟨h1, h2⟩ := Ks.meet_in _ hPok hPsc hac
                have side : ∀ z, (sc z ∨ z ∈ (ofL (Q.take k)).vars) → og o3 z = og o1 z := by
                  rintro z (h | h)
                  · exact hoff z (hv.scv z h) (fun h3 => hscn z h (hinv z (.inr (.inl h3)))) (fun h3 => hscn z h (hinv z (.inr (.inr h3))))
                  · exact hoff z (hv.inv z (hinv z (.inl h))) (hPb z h) (hPt z h)
                rw [side a h1, side c h2]
                exact i3.meet a c hac hne
              · have side : ∀ z, (t.Live z ∨ z ∈ b) → t.Live z ∨ z ∈ b → og o3 z = og o2 z := by
                  intro z hz _
                  have h1 : sc z ∨ z ∈ b := hz.elim (fun h => (hlive z h).elim .inr fun h => .inl h.1) .inr
                  refine hvis3.same z (h1.elim (hv.scv z) (hbinv z)) fun hm => ?_
                  exact h1.elim (fun h => hscn z h (hinv z (.inr (.inr hm)))) fun h => hbt' z h hm
                rw [side a hac.1 hac.1, side c hac.2 hac.2]
                by_cases hab : a ∈ b
                · by_cases hcb : c ∈ b
                  · exact hput.dist a c hab hcb hne
                  · have hcl := hac.2.resolve_right hcb
                    rw [hput.same c (hlinv c hcl) hcb]
                    refine hput.live a c hab hcl hcb ?_
                    have h1 := (hlive c hcl).resolve_left hcb
                    rw [hold c (hv.scv c h1.1) (hscn c h1.1)]
                    exact hv.live c h1.2
                · have hal := hac.1.resolve_right hab
                  have h1 := (hlive a hal).resolve_left hab
                  by_cases hcb : c ∈ b
                  · rw [hput.same a (hlinv a hal) hab]
                    refine (hput.live c a hcb hal hab ?_).symm
                    rw [hold a (hv.scv a h1.1) (hscn a h1.1)]
                    exact hv.live a h1.2
                  · have hcl := hac.2.resolve_right hcb
                    exact hpre.dist a c hal hcl hne
              · exact hvis3.meet a c hac hne
      by_cases h9 : n.op = 9
      · have hbr := is_slV (f := brV) n.brs
        have hkL : kidL n = n.brl.map fun b => (b.bindl, b.next) := by simp [kidL, h9]
        have hlb : k < n.brl.length := by
          have := (List.getElem?_eq_some_iff.1 hlk).1
          rw [hkL, List.length_map] at this
          exact this
        have hlb' : k < (n.brs.getD []).length := hlb
        have hdb : (n.brs.getD []).drop k = n.brl[k] :: n.brl.drop (k + 1) := drop_lt hlb
        have hb : b = n.brl[k].bindl := by
          have := hlk
          rw [hkL, List.getElem?_map, List.getElem?_eq_getElem hlb] at this
          simp only [Option.map_some, Option.some.injEq, Prod.mk.injEq] at this
          exact this.1.symm
        have hvb : IsSl I1 (intsV n.brl[k].binds) b := by rw [hb]; exact (is_ints _).is
        simp only [go_sem, ↓reduceIte, Nat.reduceEqDiff, Nat.reduceAdd, Nat.reduceLeDiff, Nat.reduceBEq, r14_6, r14_7, node0, node0', node8, h9, hbr.is.iAddrN brV_len k hlb', hdb, brV]
        refine W_seq.1 (rest _ _ _ hvb (fun T2 e w o2 h1 h2 h3 => ?_) (fun T2 s hs q2 q3 q6 q16 q17 q18 => ?_) rfl rfl rfl rfl rfl rfl rfl rfl)
        · simp only [go_sem, ↓reduceIte, Nat.reduceEqDiff, Nat.reduceAdd, Nat.reduceLeDiff, Nat.reduceBEq, h3]
          exact rg_fin h0 h1 hw h2 fun ro ext' wr' e1 e2 e3 => ⟨false, ext', wr', o2, rfl, e1, e2, e3, fun h => by cases h⟩
        · simp (disch := omega) only [go_sem, ↓reduceIte, Nat.reduceEqDiff, Nat.reduceAdd, Nat.reduceLeDiff, Nat.reduceBEq, r14_11, q2, q3, q6, q16, q17, q18, i64_in]
          exact ⟨hlt, s, hs, rfl, rfl⟩
      · have hb : b = binds n := by
          have := hlk
          simp only [kidL, h9, if_false] at this
          rw [List.getElem?_map, List.getElem?_eq_getElem hlt] at this
          simp only [Option.map_some, Option.some.injEq, Prod.mk.injEq] at this
          exact this.1.symm
        have hvb : IsSl I1 r3 b := by rw [hb]; exact hbd.is
        simp only [go_sem, ↓reduceIte, Nat.reduceEqDiff, Nat.reduceAdd, Nat.reduceLeDiff, Nat.reduceBEq, r14_6, r14_7, node0, node0', node8, h9]
        refine W_seq.1 (rest _ _ _ hvb (fun T2 e w o2 h1 h2 h3 => ?_) (fun T2 s hs q2 q3 q6 q16 q17 q18 => ?_) rfl rfl rfl rfl rfl rfl rfl rfl)
        · simp only [go_sem, ↓reduceIte, Nat.reduceEqDiff, Nat.reduceAdd, Nat.reduceLeDiff, Nat.reduceBEq, h3]
          exact rg_fin h0 h1 hw h2 fun ro ext' wr' e1 e2 e3 => ⟨false, ext', wr', o2, rfl, e1, e2, e3, fun h => by cases h⟩
        · simp (disch := omega) only [go_sem, ↓reduceIte, Nat.reduceEqDiff, Nat.reduceAdd, Nat.reduceLeDiff, Nat.reduceBEq, r14_11, q2, q3, q6, q16, q17, q18, i64_in]
          exact ⟨hlt, s, hs, rfl, rfl⟩
    · rw [List.take_of_length_le (by omega)] at i3
      simp only [l14_12, r14_3, r14_14, go_sem, ↓reduceIte, Nat.reduceEqDiff, Nat.reduceAdd, Nat.reduceLeDiff, Nat.reduceBEq, Nat.not_lt.2 hge]
      refine rg_fin h0 i1 hw i2 fun ro ext' wr' e1 e2 e3 => ⟨true, ext', wr', o1, rfl, e1, e2, e3, fun _ => ⟨i3.len, i3.same, i3.rng, fun a b hab hne => ?_⟩⟩
      rcases hab with ⟨ha, hb⟩ | hab
      · have h1 := Tr.live_sc _ hok0 hv.hsc ha
        have h2 := Tr.live_sc _ hok0 hv.hsc hb
        rw [i3.same a (hv.scv a h1) (fun hm => hv.disj a hm h1), i3.same b (hv.scv b h2) (fun hm => hv.disj b hm h2)]
        exact hv.dist a b ha hb hne
      · exact i3.meet a b hab hne
end Go.Proofs.Ytlliieplgdlldaa
