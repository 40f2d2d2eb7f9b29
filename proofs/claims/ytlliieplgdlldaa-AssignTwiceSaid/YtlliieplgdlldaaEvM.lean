/- Append.
   Conditions: none; plain lemmas. -/
import Derived.Test.YtlliieplgdlldaaEvL
namespace Go.Ev

section
variable {P : Program} {mu : List Nat} {H : Heap} {w : World} {T : Tm} {tmps : Array Value}

theorem src_spec (hR : R mu H.blks w) {size : Nat} {y : V} {uy : Value} (hr : Rep (ctx mu H.blks w) y uy) {new : List V} {n : Nat} (h : srcCells H.blks size y = some (new, n)) :
    (n = 0 ∧ (uy = .slice none 0 0 ∨ ∃ a cc, uy = .slice (some a) 0 cc)) ∨ ∃ k off cap us, uy = .slice (some ⟨k, off, none⟩) n cap ∧ Reps (ctx mu H.blks w) new us ∧ new.all V.isCell = true ∧ us.length = n * size ∧ ∀ (j : Nat) (u : Value), us[j]? = some u → w.cell? ⟨k, off + j, none⟩ = some u := by
  unfold srcCells at h
  split at h
  · simp only [Option.some.injEq, Prod.mk.injEq] at h
    obtain ⟨rfl, rfl⟩ := h
    exact .inl ⟨rfl, .inl (lit_spec hr)⟩
  · rename_i cs len own
    split at h <;> simp only [Option.some.injEq, reduceCtorEq, Prod.mk.injEq] at h
    rename_i hl
    obtain ⟨rfl, rfl⟩ := h
    simp only [Rep] at hr
    obtain ⟨⟨k, off, sp⟩, cap, e, hsp, _, hr, _⟩ := hr
    by_cases h0 : len = 0
    · subst h0
      exact .inl ⟨rfl, .inr ⟨_, _, e⟩⟩
    have hsp' : sp = none := hsp.resolve_left h0
    subst hsp'
    have hr' := hr.take (len * size)
    obtain ⟨us, h1, h2⟩ := cells_run hr'
    exact .inr ⟨k, off, cap, us, e, h1, hr'.all, by rw [h1.length]; simp; omega, h2⟩
  · rename_i b off len esz cap
    split at h
    · rename_i cs hb
      split at h <;> simp only [Option.some.injEq, reduceCtorEq, Prod.mk.injEq] at h
      rename_i hl
      obtain ⟨rfl, rfl⟩ := h
      simp only [Rep, ctx] at hr
      obtain ⟨k, cap', hk, e, _⟩ := hr
      obtain ⟨arr, et, fz, a1, a2, a3, a4, a5⟩ := hR.ok b k _ hb hk
      simp only [ctx] at a1
      have hr' := (a4.drop off).take (len * size)
      refine .inr ⟨k, off, cap', _, e, hr', ?_, ?_, ?_⟩
      · rw [List.all_eq_true] at a5 ⊢
        exact fun x hx => a5 x (List.mem_of_mem_drop (List.mem_of_mem_take hx))
      · rw [hr'.length]; simp; omega
      · intro j u hu
        rw [List.getElem?_take] at hu
        split at hu
        · rw [List.getElem?_drop, List.getElem?_take] at hu
          split at hu
          · rw [cell_of_heap a1]
            simpa using hu
          · simp at hu
        · simp at hu
    · simp at h
  · simp at h

theorem retok {bs : List ABlk} (hR : R mu bs w) {t k m m' : Nat} (ht : bs[t]? = some (.row m)) (hk : mu[t]? = some k) (hle : m ≤ m') {w' : World} (hw : Turned k w w')
    (hcell : ∀ off u, off < m → w.cell? ⟨k, off, none⟩ = some u → w'.cell? ⟨k, off, none⟩ = some u) (hb : BlkOk (ctx (mu ++ [k]) (bs.set t .dead ++ [.row m']) w') k (.row m')) :
    Ext (ctx mu bs w) (ctx (mu ++ [k]) (bs.set t .dead ++ [.row m']) w') ∧ R (mu ++ [k]) (bs.set t .dead ++ [.row m']) w' := by
  have hl : mu.length = (bs.set t .dead).length := by simp [hR.len]
  have hown : ∀ {k0 off : Nat}, Owned (mu ++ [k]) (bs.set t .dead ++ [.row m']) k0 off → Owned mu bs k0 off := by
    intro k0 off h
    rcases owned_push hl h with h | ⟨rfl, h'⟩
    · exact owned_set (b' := .dead) ht hk (fun _ (h : False) => h.elim) h
    · exact ⟨t, .row m, ht, hk, Nat.le_trans hle h'⟩
  have hE : Ext (ctx mu bs w) (ctx (mu ++ [k]) (bs.set t .dead ++ [.row m']) w') := by
    refine ⟨fun i x h => ?_, hw.size, fun k0 off u hc hm => ⟨?_, fun ho => hm (hown ho)⟩, fun k0 h0 => ?_, fun k0 h0 hm => ?_, hw.os, hw.tape, hw.output⟩
    · simp only [ctx] at h ⊢
      rw [List.getElem?_append_left (List.getElem?_eq_some_iff.1 h).1]
      exact h
    · by_cases e : k0 = k
      · subst e
        exact hcell off u (Nat.lt_of_not_le fun ho => hm ⟨t, .row m, ht, hk, ho⟩) hc
      · exact (cell_of_block (hw.block k0 (cell_lt hc) e)).trans hc
    · by_cases e : k0 = k
      · subst e; exact hw.shape
      · exact shape_of_block (hw.block k0 h0 e)
    · have e : k0 ≠ k := by
        intro e
        subst e
        exact hm m ⟨t, .row m, ht, hk, Nat.le_refl m⟩
      exact ⟨hw.block k0 h0 e, fun off ho => hm off (hown ho)⟩
  have key : ∀ {i x : Nat} {a : ABlk}, (bs.set t .dead ++ [.row m'])[i]? = some a → (mu ++ [k])[i]? = some x → a.live = true → (i < bs.length ∧ i ≠ t ∧ bs[i]? = some a ∧ mu[i]? = some x ∧ x ≠ k) ∨ (i = bs.length ∧ a = .row m' ∧ x = k) := by
    intro i x a h1 h2 la
    rw [List.getElem?_append] at h1 h2
    by_cases hi : i < bs.length
    · rw [if_pos (by simpa using hi)] at h1
      rw [if_pos (by rw [hR.len]; exact hi)] at h2
      rw [List.getElem?_set] at h1
      split at h1
      · split at h1
        · simp only [Option.some.injEq] at h1
          subst h1
          simp [ABlk.live] at la
        · simp at h1
      · rename_i hne
        refine .inl ⟨hi, Ne.symm hne, h1, h2, fun e => ?_⟩
        subst e
        exact hne (hR.inj t i x _ a ht h1 rfl la hk h2)
    · rw [if_neg (by simpa using hi)] at h1
      rw [if_neg (by rw [hR.len]; exact hi)] at h2
      have hz : i - bs.length = 0 := by
        rcases Nat.eq_zero_or_pos (i - bs.length) with h0 | h0
        · exact h0
        · rw [List.getElem?_eq_none (by simp; omega)] at h1
          simp at h1
      rw [List.length_set, hz] at h1
      rw [hR.len, hz] at h2
      simp at h1 h2
      exact .inr ⟨by omega, h1.symm, h2.symm⟩
  refine ⟨hE, ⟨by simp [hR.len], ?_, ?_⟩⟩
  · intro i j x a c h1 h2 la lc h3 h4
    rcases key h1 h3 la with ⟨hi, _, e1, e2, e3⟩ | ⟨hi, rfl, rfl⟩ <;> rcases key h2 h4 lc with ⟨hj, _, f1, f2, f3⟩ | ⟨hj, rfl, e⟩
    · exact hR.inj i j x a c e1 f1 la lc e2 f2
    · exact absurd e e3
    · exact absurd rfl f3
    · omega
  · intro i x a h1 h2
    by_cases la : a.live = true
    · rcases key h1 h2 la with ⟨hi, _, e1, e2, e3⟩ | ⟨hi, rfl, rfl⟩
      · exact (hR.ok i x a e1 e2).mono hE (hw.block x ((hR.ok i x a e1 e2).lt la) e3)
      · exact hb
    · cases a <;> simp_all [ABlk.live, BlkOk]

theorem remut {bs : List ABlk} (hR : R mu bs w) {t k : Nat} {cs cs' : List V} (ht : bs[t]? = some (.cells cs)) (hk : mu[t]? = some k) {w' : World} (hw : Turned k w w')
    (hb : Ext (ctx mu bs w) (ctx (mu ++ [k]) (bs.set t .dead ++ [.cells cs']) w') → BlkOk (ctx (mu ++ [k]) (bs.set t .dead ++ [.cells cs']) w') k (.cells cs')) :
    Ext (ctx mu bs w) (ctx (mu ++ [k]) (bs.set t .dead ++ [.cells cs']) w') ∧ R (mu ++ [k]) (bs.set t .dead ++ [.cells cs']) w' := by
  have hl : mu.length = (bs.set t .dead).length := by simp [hR.len]
  have hown : ∀ {k0 off : Nat}, Owned (mu ++ [k]) (bs.set t .dead ++ [.cells cs']) k0 off → Owned mu bs k0 off := by
    intro k0 off h
    rcases owned_push hl h with h | ⟨rfl, h'⟩
    · exact owned_set (b' := .dead) ht hk (fun _ (h : False) => h.elim) h
    · exact ⟨t, .cells cs, ht, hk, trivial⟩
  have hE : Ext (ctx mu bs w) (ctx (mu ++ [k]) (bs.set t .dead ++ [.cells cs']) w') := by
    refine ⟨fun i x h => ?_, hw.size, fun k0 off u hc hm => ⟨?_, fun ho => hm (hown ho)⟩, fun k0 h0 => ?_, fun k0 h0 hm => ?_, hw.os, hw.tape, hw.output⟩
    · simp only [ctx] at h ⊢
      rw [List.getElem?_append_left (List.getElem?_eq_some_iff.1 h).1]
      exact h
    · by_cases e : k0 = k
      · subst e
        exact absurd ⟨t, .cells cs, ht, hk, trivial⟩ hm
      · exact (cell_of_block (hw.block k0 (cell_lt hc) e)).trans hc
    · by_cases e : k0 = k
      · subst e; exact hw.shape
      · exact shape_of_block (hw.block k0 h0 e)
    · have e : k0 ≠ k := by
        intro e
        subst e
        exact hm 0 ⟨t, .cells cs, ht, hk, trivial⟩
      exact ⟨hw.block k0 h0 e, fun off ho => hm off (hown ho)⟩
  have key : ∀ {i x : Nat} {a : ABlk}, (bs.set t .dead ++ [.cells cs'])[i]? = some a → (mu ++ [k])[i]? = some x → a.live = true → (i < bs.length ∧ i ≠ t ∧ bs[i]? = some a ∧ mu[i]? = some x ∧ x ≠ k) ∨ (i = bs.length ∧ a = .cells cs' ∧ x = k) := by
    intro i x a h1 h2 la
    rw [List.getElem?_append] at h1 h2
    by_cases hi : i < bs.length
    · rw [if_pos (by simpa using hi)] at h1
      rw [if_pos (by rw [hR.len]; exact hi)] at h2
      rw [List.getElem?_set] at h1
      split at h1
      · split at h1
        · simp only [Option.some.injEq] at h1
          subst h1
          simp [ABlk.live] at la
        · simp at h1
      · rename_i hne
        refine .inl ⟨hi, Ne.symm hne, h1, h2, fun e => ?_⟩
        subst e
        exact hne (hR.inj t i x _ a ht h1 rfl la hk h2)
    · rw [if_neg (by simpa using hi)] at h1
      rw [if_neg (by rw [hR.len]; exact hi)] at h2
      have hz : i - bs.length = 0 := by
        rcases Nat.eq_zero_or_pos (i - bs.length) with h0 | h0
        · exact h0
        · rw [List.getElem?_eq_none (by simp; omega)] at h1
          simp at h1
      rw [List.length_set, hz] at h1
      rw [hR.len, hz] at h2
      simp at h1 h2
      exact .inr ⟨by omega, h1.symm, h2.symm⟩
  refine ⟨hE, ⟨by simp [hR.len], ?_, ?_⟩⟩
  · intro i j x a c h1 h2 la lc h3 h4
    rcases key h1 h3 la with ⟨hi, _, e1, e2, e3⟩ | ⟨hi, rfl, rfl⟩ <;> rcases key h2 h4 lc with ⟨hj, _, f1, f2, f3⟩ | ⟨hj, rfl, e⟩
    · exact hR.inj i j x a c e1 f1 la lc e2 f2
    · exact absurd e e3
    · exact absurd rfl f3
    · omega
  · intro i x a h1 h2
    by_cases la : a.live = true
    · rcases key h1 h2 la with ⟨hi, _, e1, e2, e3⟩ | ⟨hi, rfl, rfl⟩
      · exact (hR.ok i x a e1 e2).mono hE (hw.block x ((hR.ok i x a e1 e2).lt la) e3)
      · exact hb hE
    · cases a <;> simp_all [ABlk.live, BlkOk]

/-- the new row of an append that grows -/
theorem grown_row {bs : List ABlk} (hR : R mu bs w) {cs : List V} {us : List Value} (hr : Reps (ctx mu bs w) cs us) (ha : cs.all V.isCell = true) (rest : Array Value) (e : TypeId) :
    Ext (ctx mu bs w) (ctx (mu ++ [w.heap.size]) (bs ++ [.row cs.length]) (w.drew.alloc (.cells (us.toArray ++ rest) e))) ∧
    R (mu ++ [w.heap.size]) (bs ++ [.row cs.length]) (w.drew.alloc (.cells (us.toArray ++ rest) e)) ∧
    RepAt (ctx (mu ++ [w.heap.size]) (bs ++ [.row cs.length]) (w.drew.alloc (.cells (us.toArray ++ rest) e))) w.heap.size 0 cs := by
  have hg : Grows w (w.drew.alloc (.cells (us.toArray ++ rest) e)) := (Grows.drew w).trans (Grows.push w.drew _)
  have hE := newExt hR hg (Nat.le_refl _) (.row cs.length)
  have hl := hr.length
  have hheap : (w.drew.alloc (.cells (us.toArray ++ rest) e)).heap[w.heap.size]? = some (.cells (us.toArray ++ rest) e (0, 0)) := Array.getElem?_push_size
  refine ⟨hE, newR hR hg (Nat.le_refl _) ⟨_, e, (0, 0), hheap, by simp; omega, Nat.zero_le _⟩, RepAt.of_get fun i v hv => ?_⟩
  obtain ⟨u, h1, h2⟩ := hr.get i v hv
  have hi : i < cs.length := (List.getElem?_eq_some_iff.1 hv).1
  refine ⟨u, ?_, ?_, Rep.mono hE _ _ h2, ?_⟩
  · simp only [Nat.zero_add]
    show World.cell? (w.drew.alloc (.cells (us.toArray ++ rest) e)) _ = _
    rw [cell_of_heap hheap, Array.getElem?_append_left (by simp; omega)]
    simpa using h1
  · intro ho
    rcases owned_push hR.len ho with h | ⟨_, h⟩
    · have := hR.owned_lt h
      omega
    · simp only [ABlk.owns] at h
      omega
  · rw [List.all_eq_true] at ha
    exact ha v (List.mem_of_getElem? hv)

theorem grown_cells {bs : List ABlk} (hR : R mu bs w) {cs : List V} {us : List Value} (hr : Reps (ctx mu bs w) cs us) (ha : cs.all V.isCell = true) (rest : Array Value) (e : TypeId) :
    Ext (ctx mu bs w) (ctx (mu ++ [w.heap.size]) (bs ++ [.cells cs]) (w.drew.alloc (.cells (us.toArray ++ rest) e))) ∧
    R (mu ++ [w.heap.size]) (bs ++ [.cells cs]) (w.drew.alloc (.cells (us.toArray ++ rest) e)) := by
  have hl := hr.length
  exact pushCells hR (Grows.drew w) (arr := us.toArray ++ rest) (by
    rw [Array.toList_append, List.take_append_of_le_length (by simp; omega), List.take_of_length_le (by simp; omega)]
    simpa using hr) (by simp; omega) ha e

/-- the run of an append of no element -/
theorem run_append_zero {t e : TypeId} {i : TypeInfo} (hu : P.underlying t = some (.slice e)) (hi : P.info? e = some i) (ty : TypeId) (base : Option Addr) (n c : Nat) (hc : n ≤ c) {uy : Value}
    (hy : uy = .slice none 0 0 ∨ ∃ a cc, uy = .slice (some a) 0 cc) : (Builtin.append_ #[t, t] ty #[.slice base n c, uy]).run P w = .ok (.slice base n c) w := by
  have hf : ∀ a cc, (Builtin.firstCells i.size 0 (.slice (some a) 0 cc)).run P w = .ok #[] w := fun a cc => run_firstCells_some w i.size 0 a 0 cc [] (by simp) (by simp)
  rcases hy with rfl | ⟨a, cc, rfl⟩
  · cases base <;> simp [Builtin.append_, run_underlying hu, sizeOf, typeInfo, hi, Builtin.lenOf, hc, run_firstCells_none, storeCells]
  · cases base <;> simp [Builtin.append_, run_underlying hu, sizeOf, typeInfo, hi, Builtin.lenOf, hc, hf, storeCells]

/-- what a new row is after an append that grows -/
theorem fin_ok (H : Heap) (hR : R mu H.blks w) (m : Bool) {size n : Nat} {new : List V} {usy : List Value} (hry : Reps (ctx mu H.blks w) new usy) (hay : new.all V.isCell = true) (hly : usy.length = n * size) (e : TypeId)
    (cs : List V) (len : Nat) (us : List Value) (cap : Nat) (rest : Array Value) (hr : Reps (ctx mu H.blks w) cs us) (ha : cs.all V.isCell = true) (hl : cs.length = len * size) (hcap : len + n ≤ cap) (hsz : (us ++ usy).toArray.size + rest.size = cap * size)
    {v : V} {oH : Option Heap} (hv : (if m then some (V.msl H.blks.length 0 (len + n) size none, some (H.push (.cells (cs ++ new)))) else some (V.sl (cs ++ new.map V.strip1) (len + n) (.tok H.blks.length size), some (H.push (.row ((len + n) * size))))) = some (v, oH)) :
    Ext (ctx mu H.blks w) (ctx (mu ++ [w.heap.size]) (oH.getD H).blks (w.drew.alloc (.cells ((us ++ usy).toArray ++ rest) e))) ∧ R (mu ++ [w.heap.size]) (oH.getD H).blks (w.drew.alloc (.cells ((us ++ usy).toArray ++ rest) e)) ∧
    Rep (ctx (mu ++ [w.heap.size]) (oH.getD H).blks (w.drew.alloc (.cells ((us ++ usy).toArray ++ rest) e))) v (.slice (some ⟨w.heap.size, 0, none⟩) (len + n) cap) ∧ Keeps H (oH.getD H) := by
  cases m with
  | true =>
    simp only [if_true, Option.some.injEq, Prod.mk.injEq] at hv
    obtain ⟨rfl, rfl⟩ := hv
    obtain ⟨g1, g2⟩ := grown_cells hR (hr.append hry) (by rw [List.all_append, ha, hay]; rfl) rest e
    refine ⟨g1, g2, ?_, Keeps.push _ _⟩
    simp only [Rep, ctx, Option.getD_some, Heap.push]
    have hheap : (w.drew.alloc (.cells ((us ++ usy).toArray ++ rest) e)).heap[w.heap.size]? = some (.cells ((us ++ usy).toArray ++ rest) e (0, 0)) := Array.getElem?_push_size
    refine ⟨w.heap.size, cap, by rw [← hR.len]; simp, rfl, hcap, by simp, e, ((us ++ usy).toArray ++ rest).size, ?_, by rw [Array.size_append, hsz]; omega⟩
    show World.shape? (w.drew.alloc (.cells ((us ++ usy).toArray ++ rest) e)) _ = _
    simp only [World.shape?, hheap]
  | false =>
    simp only [Bool.false_eq_true, if_false, Option.some.injEq, Prod.mk.injEq] at hv
    obtain ⟨rfl, rfl⟩ := hv
    have hlen : (cs ++ new.map V.strip1).length = (len + n) * size := by
      have := hry.length
      simp only [List.length_append, List.length_map, Nat.add_mul, hl]
      omega
    obtain ⟨g1, g2, g3⟩ := grown_row hR (cs := cs ++ new.map V.strip1) (hr.append hry.strip1) (by rw [List.all_append, ha, all_strip1, hay]; rfl) rest e
    rw [hlen] at g1 g2 g3
    refine ⟨g1, g2, ?_, Keeps.push _ _⟩
    simp only [Rep]
    refine ⟨⟨w.heap.size, 0, none⟩, cap, rfl, .inr rfl, hcap, g3, rfl, ?_, hlen, e, _, ?_, Nat.le_of_eq hsz.symm⟩
    · simp only [ctx, Option.getD_some, Heap.push]; rw [← hR.len]; simp
    · have hheap : (w.drew.alloc (.cells ((us ++ usy).toArray ++ rest) e)).heap[w.heap.size]? = some (.cells ((us ++ usy).toArray ++ rest) e (0, 0)) := Array.getElem?_push_size
      show World.shape? (w.drew.alloc (.cells ((us ++ usy).toArray ++ rest) e)) _ = _
      simp only [World.shape?, hheap, Array.size_append]

theorem appV_ok (hR : R mu H.blks w) {m : Bool} {size bytes : Nat} {x y v : V} {oH : Option Heap} (h : appV H m size bytes x y = some (v, oH)) {ux uy : Value} (hx : Rep (ctx mu H.blks w) x ux) (hy : Rep (ctx mu H.blks w) y uy)
    {t e : TypeId} {i : TypeInfo} {z : Value} (hu : P.underlying t = some (.slice e)) (hi : P.info? e = some i) (hz : i.zero = some z) (hs : i.size = size) (hb : i.bytes = bytes) (hzs : z.cells.size = size) (h0 : 0 < size) (ty : TypeId) :
    ∃ mu' u w', (Builtin.append_ #[t, t] ty #[ux, uy]).run P w = .ok u w' ∧ Ext (ctx mu H.blks w) (ctx mu' (oH.getD H).blks w') ∧ R mu' (oH.getD H).blks w' ∧ Rep (ctx mu' (oH.getD H).blks w') v u ∧ Keeps H (oH.getD H) := by
  subst hs hb
  unfold appV at h
  split at h
  · simp at h
  · rename_i new n hsrc
    have hsrc' := src_spec hR hy hsrc
    by_cases hn : n = 0
    · rw [if_pos hn] at h
      subst hn
      have hy' : uy = .slice none 0 0 ∨ ∃ a cc, uy = .slice (some a) 0 cc := by
        rcases hsrc' with ⟨_, h0⟩ | ⟨k, off, cap, us, rfl, _⟩
        · exact h0
        · exact .inr ⟨_, _, rfl⟩
      split at h <;> simp only [Option.some.injEq, reduceCtorEq, Prod.mk.injEq] at h <;> obtain ⟨rfl, rfl⟩ := h
      · have := lit_spec hx
        subst this
        exact ⟨mu, _, w, run_append_zero hu hi ty none 0 0 (Nat.le_refl _) hy', Ext.refl _, hR, hx, Keeps.refl _⟩
      · have hx' := hx
        simp only [Rep] at hx
        obtain ⟨a, cap, rfl, _, hc, _⟩ := hx
        exact ⟨mu, _, w, run_append_zero hu hi ty _ _ _ hc hy', Ext.refl _, hR, hx', Keeps.refl _⟩
      · have hx' := hx
        simp only [Rep] at hx
        obtain ⟨k, cap, _, rfl, hc, _⟩ := hx
        exact ⟨mu, _, w, run_append_zero hu hi ty _ _ _ hc hy', Ext.refl _, hR, hx', Keeps.refl _⟩
    · rw [if_neg hn] at h
      rcases hsrc' with ⟨h1, _⟩ | ⟨ky, offy, capy, usy, rfl, hry, hay, hly, hcy⟩
      · exact absurd h1 hn
      have hcy' : ∀ j u, usy[j]? = some u → w.cell? ((⟨ky, offy, none⟩ : Addr).add j) = some u := fun j u hu => by rw [add_none]; exact hcy j u hu
      have hpos : 0 < n := Nat.pos_of_ne_zero hn
      simp only at h
      have hrest : ∀ (need old : Nat), (Builtin.zeroCells z.cells (grownCap w need old e - need)).size = (grownCap w need old e - need) * i.size := by
        intro need old
        simp [Builtin.zeroCells, hzs]
      have hge := fun need old => grownCap_ge w need old e
      split at h
      · -- nil
        have := lit_spec hx
        subst this
        rw [Option.ite_none_right_eq_some] at h
        obtain ⟨⟨hb1, hb2, hb3⟩, h⟩ := h
        have hr0 := run_append_nil (P := P) w t ty e i z hu hi hz ⟨ky, offy, none⟩ n capy usy hly hcy' hpos (by omega) (by rw [Nat.zero_add] at hb1; omega)
        obtain ⟨g1, g2, g3, g4⟩ := fin_ok H hR m hry hay hly e [] 0 [] (grownCap w n 0 e) (Builtin.zeroCells z.cells (grownCap w n 0 e - n)) (by simp [Reps]) rfl (by simp) (by simpa using hge n 0) (by
          simp only [List.nil_append, List.size_toArray, hly, hrest n 0, ← Nat.add_mul]
          congr 1
          have := hge n 0
          omega) h
        simp only [Nat.zero_add, List.nil_append] at g1 g2 g3
        exact ⟨_, _, _, hr0, g1, g2, g3, g4⟩
      · -- an exact capacity
        rename_i cs len c
        rw [Option.ite_none_right_eq_some] at h
        obtain ⟨hc, h⟩ := h
        rw [Option.ite_none_right_eq_some] at h
        obtain ⟨⟨hb1, hb3, hb2⟩, h⟩ := h
        simp only [Rep, OwnOk] at hx
        obtain ⟨a, cap, rfl, hsp, hlc, hrx, rfl⟩ := hx
        obtain ⟨us, h1, h2⟩ := cells_run hrx
        have h2' : ∀ (j : Nat) (u : Value), us[j]? = some u → w.cell? (a.add j) = some u := by
          intro j u hu
          rcases hsp with h0 | h0
          · have : us.length = 0 := by rw [h1.length, hb2, h0, Nat.zero_mul]
            have := (List.getElem?_eq_some_iff.1 hu).1
            omega
          · obtain ⟨k, off, sp⟩ := a
            simp only at h0
            subst h0
            rw [add_none]
            exact h2 j u hu
        have hl1 := h1.length
        have hr0 := run_append_grow (P := P) w t ty e i z hu hi hz a len cap us (by omega) h2' ⟨ky, offy, none⟩ n capy usy hly hcy' hc (by omega) (growslice_fits hc hb1)
        obtain ⟨g1, g2, g3, g4⟩ := fin_ok H hR m hry hay hly e cs len us (grownCap w (len + n) cap e) (Builtin.zeroCells z.cells (grownCap w (len + n) cap e - (len + n))) h1 hrx.all hb2 (hge _ _) (by
          simp only [List.size_toArray, List.length_append, hly, hl1, hb2, hrest (len + n) cap, ← Nat.add_mul]
          congr 1
          have := hge (len + n) cap
          omega) h
        have e1 : us.toArray ++ usy.toArray = (us ++ usy).toArray := by simp
        rw [e1] at hr0
        exact ⟨_, _, _, hr0, g1, g2, g3, g4⟩
      · -- a token
        rename_i cs len tk esz
        rw [Option.ite_none_right_eq_some] at h
        obtain ⟨⟨hm, rfl, hrow⟩, h⟩ := h
        subst hm
        rw [Option.ite_none_right_eq_some] at h
        obtain ⟨⟨hb1, hb3, hb2⟩, h⟩ := h
        simp only [Rep, OwnOk] at hx
        obtain ⟨⟨k, off, sp⟩, cap, rfl, _, hlc, hrx, hae, hk, hcs, e', mm, hshape, hcm⟩ := hx
        cases hae
        replace hrx : RepAt (ctx mu H.blks w) k 0 cs := hrx
        split at hrow <;> try (simp at hrow; done)
        rename_i m0 ht
        simp only [decide_eq_true_eq] at hrow
        subst hrow
        simp only [ctx] at hk hshape
        obtain ⟨arr, et, fz, a1, a2, a3⟩ := hR.ok tk k _ ht hk
        simp only [ctx] at a1
        have harr : arr.size = mm := by
          simp only [World.shape?, a1, Option.some.injEq, Prod.mk.injEq] at hshape
          exact hshape.2
        have hone := hry.one hay
        by_cases hroom : len + n ≤ cap
        · -- there is room
          have hfit : len * i.size + usy.length ≤ arr.size := by
            rw [hly, ← Nat.add_mul, harr]
            exact Nat.le_trans (Nat.mul_le_mul_right _ hroom) hcm
          have hf := run_firstCells_some (P := P) w i.size n ⟨ky, offy, none⟩ n capy usy hly hcy'
          have hst := run_storeCells_atF P k (len * i.size) et fz usy 0 arr w a1 (by omega) (by simpa using hfit) hone
          simp only [Nat.add_zero] at hst
          have hr0 : (Builtin.append_ #[t, t] ty #[.slice (some ⟨k, 0, none⟩) len cap, .slice (some ⟨ky, offy, none⟩) n capy]).run P w = .ok (.slice (some ⟨k, 0, none⟩) (len + n) cap) (w.setRow k (arr.toList.take (len * i.size) ++ usy ++ arr.toList.drop (len * i.size + usy.length)).toArray) := by
            simp [Builtin.append_, run_underlying hu, sizeOf, typeInfo, hi, Builtin.lenOf, hroom, hf, add_none, hst]
          simp only [Bool.false_eq_true, if_false, Option.some.injEq, Prod.mk.injEq] at h
          obtain ⟨rfl, rfl⟩ := h
          have hsz' : (arr.toList.take (len * i.size) ++ usy ++ arr.toList.drop (len * i.size + usy.length)).toArray.size = arr.size := by
            simp at hfit ⊢
            omega
          have hT' := Turned.row (arr' := (arr.toList.take (len * i.size) ++ usy ++ arr.toList.drop (len * i.size + usy.length)).toArray) a1 hsz'
          have hheap := setRow_heap w k arr (arr.toList.take (len * i.size) ++ usy ++ arr.toList.drop (len * i.size + usy.length)).toArray et fz a1
          have hcellk : ∀ off, (w.setRow k (arr.toList.take (len * i.size) ++ usy ++ arr.toList.drop (len * i.size + usy.length)).toArray).cell? ⟨k, off, none⟩ = (arr.toList.take (len * i.size) ++ usy ++ arr.toList.drop (len * i.size + usy.length))[off]? := fun off => by
            rw [cell_of_heap hheap]; simp
          have htl : (arr.toList.take (len * i.size)).length = len * i.size := by simp; omega
          have hle : len * i.size ≤ (len + n) * i.size := Nat.mul_le_mul_right _ (by omega)
          obtain ⟨hE, hR'⟩ := retok hR ht hk hle hT' (fun off u ho hc => by
            rw [hcellk, List.append_assoc, List.getElem?_append_left (by omega), List.getElem?_take, if_pos ho]
            rw [cell_of_heap a1] at hc
            simpa using hc) ⟨_, et, fz, hheap, by rw [hsz', Nat.add_mul, ← hly]; exact hfit, by omega⟩
          have hlen : (cs ++ new.map V.strip1).length = (len + n) * i.size := by
            have := hry.length
            simp only [List.length_append, List.length_map, Nat.add_mul, hb2]
            omega
          have hlenT : (H.write tk .dead).blks.length = H.blks.length := by simp [Heap.write]
          refine ⟨mu ++ [k], _, _, hr0, hE, hR', ?_, (Keeps.write H tk .dead).trans (Keeps.push _ _)⟩
          simp only [Rep]
          refine ⟨⟨k, 0, none⟩, cap, rfl, .inr rfl, hroom, ?_, rfl, ?_, hlen, et, arr.size, ?_, by rw [harr]; exact hcm⟩
          · show RepAt _ k 0 _
            refine (RepAt.mono hE _ _ _ hrx).append (RepAt.of_get fun j v hv => ?_)
            obtain ⟨u, q1, q2⟩ := hry.strip1.get j v hv
            have hj : j < new.length := by simpa using (List.getElem?_eq_some_iff.1 hv).1
            have hjl : j < usy.length := by rw [hry.length]; exact hj
            refine ⟨u, ?_, ?_, Rep.mono hE _ _ q2, ?_⟩
            · show World.cell? (w.setRow k _) _ = _
              rw [hcellk, hb2, List.append_assoc, List.getElem?_append_right (by omega), htl, List.getElem?_append_left (by omega)]
              rw [show 0 + len * i.size + j - len * i.size = j by omega]
              exact q1
            · rintro ⟨i1, b1, f1, f2, f3⟩
              have hlast : (H.blks.set tk .dead ++ [ABlk.row ((len + n) * i.size)])[H.blks.length]? = some (.row ((len + n) * i.size)) := by
                rw [List.getElem?_append_right (by simp)]; simp
              have hlast2 : (mu ++ [k])[H.blks.length]? = some k := by rw [← hR.len]; simp
              have := hR'.inj i1 H.blks.length k _ _ f1 hlast (ABlk.owns_live f3) rfl f2 hlast2
              subst this
              have f1' : (H.blks.set tk .dead ++ [ABlk.row ((len + n) * i.size)])[H.blks.length]? = some b1 := f1
              rw [hlast] at f1'
              cases f1'
              simp only [ABlk.owns, Nat.add_mul] at f3
              omega
            · have := List.all_eq_true.1 (by rw [all_strip1]; exact hay : (new.map V.strip1).all V.isCell = true) v (List.mem_of_getElem? hv)
              exact this
          · simp only [ctx, Option.getD_some, hlenT]
            rw [← hR.len]; simp
          · show World.shape? (w.setRow k _) k = _
            simp only [World.shape?, hheap, hsz']
        · -- there is none
          have hc : cap < len + n := by omega
          obtain ⟨us, h1, h2⟩ := cells_run hrx
          have hl1 := h1.length
          have hr0 := run_append_grow (P := P) w t ty e i z hu hi hz ⟨k, 0, none⟩ len cap us (by omega) (fun j u hu => by rw [add_none]; exact h2 j u hu) ⟨ky, offy, none⟩ n capy usy hly hcy' hc (by omega) (growslice_fits hc hb1)
          obtain ⟨k1, k2⟩ := killR hR ht hk rfl
          obtain ⟨g1, g2, g3, g4⟩ := fin_ok (H.write tk .dead) k2 false (Reps.mono k1 _ _ hry) hay hly e cs len us (grownCap w (len + n) cap e) (Builtin.zeroCells z.cells (grownCap w (len + n) cap e - (len + n))) (Reps.mono k1 _ _ h1) hrx.all hb2 (hge _ _) (by
            simp only [List.size_toArray, List.length_append, hly, hl1, hb2, hrest (len + n) cap, ← Nat.add_mul]
            congr 1
            have := hge (len + n) cap
            omega) h
          have e1 : us.toArray ++ usy.toArray = (us ++ usy).toArray := by simp
          rw [e1] at hr0
          have hsome : ∃ H', oH = some H' := by
            simp only [Bool.false_eq_true, if_false, Option.some.injEq, Prod.mk.injEq] at h
            exact ⟨_, h.2.symm⟩
          obtain ⟨H', rfl⟩ := hsome
          exact ⟨_, _, _, hr0, k1.trans g1, g2, g3, (Keeps.write H tk .dead).trans g4⟩
      · -- a slice that may be written
        rename_i b off len esz cap0
        rw [Option.ite_none_right_eq_some] at h
        obtain ⟨⟨hm, rfl, rfl⟩, h⟩ := h
        subst hm
        split at h <;> try (simp at h; done)
        rename_i cs hbk
        rw [Option.ite_none_right_eq_some] at h
        obtain ⟨⟨hb1, hb3, hb2⟩, h⟩ := h
        simp only [Rep, ctx] at hx
        obtain ⟨k, cap, hk, rfl, hlc, _, e', mm, hshape, hcm⟩ := hx
        obtain ⟨arr, et, fz, a1, a2, a3, a4, a5⟩ := hR.ok b k _ hbk hk
        simp only [ctx] at a1
        have harr : arr.size = mm := by
          simp only [World.shape?, a1, Option.some.injEq, Prod.mk.injEq] at hshape
          exact hshape.2
        have hone := hry.one hay
        have hl4 := a4.length
        have h2 : ∀ (j : Nat) (u : Value), (arr.toList.take cs.length)[j]? = some u → w.cell? ⟨k, 0 + j, none⟩ = some u := fun j u hu => by
          rw [cell_of_heap a1, Nat.zero_add]
          rw [List.getElem?_take] at hu
          split at hu
          · simpa using hu
          · simp at hu
        by_cases hroom : len + n ≤ cap
        · have hfit : len * i.size + usy.length ≤ arr.size := by
            rw [hly, ← Nat.add_mul, harr]
            have := Nat.mul_le_mul_right i.size hroom
            omega
          have hf := run_firstCells_some (P := P) w i.size n ⟨ky, offy, none⟩ n capy usy hly hcy'
          have hst := run_storeCells_atF P k (len * i.size) et fz usy 0 arr w a1 (by omega) (by simpa using hfit) hone
          simp only [Nat.add_zero] at hst
          have hr0 : (Builtin.append_ #[t, t] ty #[.slice (some ⟨k, 0, none⟩) len cap, .slice (some ⟨ky, offy, none⟩) n capy]).run P w = .ok (.slice (some ⟨k, 0, none⟩) (len + n) cap) (w.setRow k (arr.toList.take (len * i.size) ++ usy ++ arr.toList.drop (len * i.size + usy.length)).toArray) := by
            simp [Builtin.append_, run_underlying hu, sizeOf, typeInfo, hi, Builtin.lenOf, hroom, hf, add_none, hst]
          simp only [if_true, Option.some.injEq, Prod.mk.injEq] at h
          obtain ⟨rfl, rfl⟩ := h
          have hsz' : (arr.toList.take (len * i.size) ++ usy ++ arr.toList.drop (len * i.size + usy.length)).toArray.size = arr.size := by
            simp at hfit ⊢
            omega
          have hT' := Turned.row (arr' := (arr.toList.take (len * i.size) ++ usy ++ arr.toList.drop (len * i.size + usy.length)).toArray) a1 hsz'
          have hheap := setRow_heap w k arr (arr.toList.take (len * i.size) ++ usy ++ arr.toList.drop (len * i.size + usy.length)).toArray et fz a1
          obtain ⟨hE, hR'⟩ := remut hR hbk hk hT' (cs' := cs ++ new) (fun hE => by
            refine ⟨_, et, fz, hheap, a2, by rw [hsz', List.length_append, ← hry.length, hb2]; exact hfit, ?_, by rw [List.all_append, a5, hay]; rfl⟩
            have := (Reps.mono hE _ _ a4).append (Reps.mono hE _ _ hry)
            have e1 : List.take (cs ++ new).length (arr.toList.take (len * i.size) ++ usy ++ arr.toList.drop (len * i.size + usy.length)).toArray.toList = arr.toList.take cs.length ++ usy := by
              rw [List.toList_toArray, List.take_append_of_le_length (by simp [hry.length] at *; omega), List.take_of_length_le (by have := hry.length; simp; omega), hb2]
            rw [e1]
            exact this)
          have hlenT : (H.write b .dead).blks.length = H.blks.length := by simp [Heap.write]
          refine ⟨mu ++ [k], _, _, hr0, hE, hR', ?_, (Keeps.write H b .dead).trans (Keeps.push _ _)⟩
          simp only [Rep, ctx, Option.getD_some, hlenT]
          refine ⟨k, cap, by rw [← hR.len]; simp, rfl, hroom, by simp, et, arr.size, ?_, by rw [harr]; exact hcm⟩
          simp only [World.shape?, hheap, hsz']
        · have hc : cap < len + n := by omega
          have hr0 := run_append_grow (P := P) w t ty e i z hu hi hz ⟨k, 0, none⟩ len cap (arr.toList.take cs.length) (by rw [hl4, hb2]) (fun j u hu => by rw [add_none]; exact h2 j u hu) ⟨ky, offy, none⟩ n capy usy hly hcy' hc (by omega) (growslice_fits hc hb1)
          obtain ⟨k1, k2⟩ := killR hR hbk hk rfl
          obtain ⟨g1, g2, g3, g4⟩ := fin_ok (H.write b .dead) k2 true (Reps.mono k1 _ _ hry) hay hly e cs len (arr.toList.take cs.length) (grownCap w (len + n) cap e) (Builtin.zeroCells z.cells (grownCap w (len + n) cap e - (len + n))) (Reps.mono k1 _ _ a4) a5 hb2 (hge _ _) (by
            have q1 : (List.take cs.length arr.toList ++ usy).toArray.size = (len + n) * i.size := by rw [List.size_toArray, List.length_append, hl4, hb2, hly, Nat.add_mul]
            rw [q1, hrest (len + n) cap, ← Nat.add_mul]
            congr 1
            have := hge (len + n) cap
            omega) h
          have e1 : (arr.toList.take cs.length).toArray ++ usy.toArray = (arr.toList.take cs.length ++ usy).toArray := by simp
          rw [e1] at hr0
          have hsome : ∃ H', oH = some H' := by
            simp only [if_true, Option.some.injEq, Prod.mk.injEq] at h
            exact ⟨_, h.2.symm⟩
          obtain ⟨H', rfl⟩ := hsome
          exact ⟨_, _, _, hr0, k1.trans g1, g2, g3, (Keeps.write H b .dead).trans g4⟩
      · simp at h

end
end Go.Ev
