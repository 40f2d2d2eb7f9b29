/- How the abstract heap and the world go on together: a new block, a block written.
   Conditions: none; plain lemmas. -/
import Derived.Test.YtlliieplgdlldaaEvI
namespace Go.Ev

theorem owned_push {mu : List Nat} {bs : List ABlk} {k : Nat} {b : ABlk} (hl : mu.length = bs.length) {k0 off : Nat} (h : Owned (mu ++ [k]) (bs ++ [b]) k0 off) : Owned mu bs k0 off ∨ (k0 = k ∧ b.owns off) := by
  obtain ⟨i, b', h1, h2, h3⟩ := h
  rw [List.getElem?_append] at h1 h2
  split at h1
  · rename_i hi
    rw [if_pos (by omega)] at h2
    exact .inl ⟨i, b', h1, h2, h3⟩
  · rename_i hi
    rw [if_neg (by omega)] at h2
    have hz : i - bs.length = 0 := by
      rcases Nat.eq_zero_or_pos (i - bs.length) with h0 | h0
      · exact h0
      · rw [List.getElem?_eq_none (by simp; omega)] at h1
        simp at h1
    rw [hz] at h1
    rw [show i - mu.length = 0 by omega] at h2
    simp at h1 h2
    subst h1 h2
    exact .inr ⟨rfl, h3⟩

theorem owned_old {mu : List Nat} {bs : List ABlk} {k : Nat} {b : ABlk} {k0 off : Nat} (h : Owned mu bs k0 off) : Owned (mu ++ [k]) (bs ++ [b]) k0 off := by
  obtain ⟨i, b', h1, h2, h3⟩ := h
  refine ⟨i, b', ?_, ?_, h3⟩
  · rw [List.getElem?_append_left (List.getElem?_eq_some_iff.1 h1).1]; exact h1
  · rw [List.getElem?_append_left (List.getElem?_eq_some_iff.1 h2).1]; exact h2

theorem newExt {mu : List Nat} {bs : List ABlk} {w w' : World} (hR : R mu bs w) (hg : Grows w w') {k : Nat} (hk : w.heap.size ≤ k) (b : ABlk) : Ext (ctx mu bs w) (ctx (mu ++ [k]) (bs ++ [b]) w') := by
  refine ⟨fun i x h => ?_, hg.size, fun k0 off u hc hm => ?_, fun k0 h0 => shape_of_block (hg.block k0 h0), fun k0 h0 hm => ⟨hg.block k0 h0, fun off ho => ?_⟩, hg.os, hg.tape, hg.output⟩
  · simp only [ctx] at h ⊢
    rw [List.getElem?_append_left (List.getElem?_eq_some_iff.1 h).1]
    exact h
  · have h0 := cell_lt hc
    refine ⟨(cell_of_block (hg.block k0 h0)).trans hc, fun ho => ?_⟩
    rcases owned_push hR.len ho with h | ⟨rfl, _⟩
    · exact hm h
    · exact absurd h0 (Nat.not_lt.2 hk)
  · rcases owned_push hR.len ho with h | ⟨rfl, _⟩
    · exact hm off h
    · exact absurd h0 (Nat.not_lt.2 hk)

theorem newR {mu : List Nat} {bs : List ABlk} {w w' : World} (hR : R mu bs w) (hg : Grows w w') {k : Nat} (hk : w.heap.size ≤ k) {b : ABlk} (hb : BlkOk (ctx (mu ++ [k]) (bs ++ [b]) w') k b) : R (mu ++ [k]) (bs ++ [b]) w' := by
  have hE := newExt hR hg hk b
  have key : ∀ {i x : Nat} {a : ABlk}, (bs ++ [b])[i]? = some a → (mu ++ [k])[i]? = some x → (i < bs.length ∧ bs[i]? = some a ∧ mu[i]? = some x) ∨ (i = bs.length ∧ a = b ∧ x = k) := by
    intro i x a h1 h2
    have hl := hR.len
    rw [List.getElem?_append] at h1 h2
    by_cases hi : i < bs.length
    · rw [if_pos hi] at h1
      rw [if_pos (by omega)] at h2
      exact .inl ⟨hi, h1, h2⟩
    · rw [if_neg hi] at h1
      rw [if_neg (by omega)] at h2
      have hz : i - bs.length = 0 := by
        rcases Nat.eq_zero_or_pos (i - bs.length) with h0 | h0
        · exact h0
        · rw [List.getElem?_eq_none (by simp; omega)] at h1
          simp at h1
      rw [hz] at h1
      rw [show i - mu.length = 0 by omega] at h2
      simp at h1 h2
      exact .inr ⟨by omega, h1.symm, h2.symm⟩
  refine ⟨by simp [hR.len], ?_, ?_⟩
  · intro i j x a c h1 h2 la lc h3 h4
    rcases key h1 h3 with ⟨hi, e1, e2⟩ | ⟨hi, rfl, rfl⟩ <;> rcases key h2 h4 with ⟨hj, f1, f2⟩ | ⟨hj, rfl, e⟩
    · exact hR.inj i j x a c e1 f1 la lc e2 f2
    · have := (hR.ok i x a e1 e2).lt la
      simp only [ctx] at this
      omega
    · have := (hR.ok j x c f1 f2).lt lc
      simp only [ctx] at this
      omega
    · omega
  · intro i x a h1 h2
    rcases key h1 h2 with ⟨hi, e1, e2⟩ | ⟨hi, rfl, rfl⟩
    · by_cases hl : a.live = true
      · exact (hR.ok i x a e1 e2).mono hE (hg.block x ((hR.ok i x a e1 e2).lt hl))
      · cases a <;> simp_all [ABlk.live, BlkOk]
    · exact hb

theorem live_owns {b : ABlk} (h : b.live = true) : ∃ off, b.owns off := by
  cases b with
  | dead => simp [ABlk.live] at h
  | cells cs => exact ⟨0, trivial⟩
  | row n => exact ⟨n, Nat.le_refl n⟩
  | map es => exact ⟨0, trivial⟩

/-- only the model's block k is another, beside new ones -/
structure Turned (k : Nat) (w w' : World) : Prop where
  size : w.heap.size ≤ w'.heap.size
  block : ∀ (j : Nat), j < w.heap.size → j ≠ k → w'.heap[j]? = w.heap[j]?
  shape : w'.shape? k = w.shape? k
  os : w'.os = w.os
  tape : w'.tape = w.tape
  output : w'.output = w.output

theorem owned_set {mu : List Nat} {bs : List ABlk} {i k : Nat} {b b' : ABlk} (hi : bs[i]? = some b) (hk : mu[i]? = some k) (hown : ∀ off, b'.owns off → b.owns off) {k0 off : Nat} (h : Owned mu (bs.set i b') k0 off) : Owned mu bs k0 off := by
  obtain ⟨j, c, h1, h2, h3⟩ := h
  rw [List.getElem?_set] at h1
  split at h1
  · rename_i e
    subst e
    split at h1
    · simp only [Option.some.injEq] at h1
      subst h1
      exact ⟨i, b, hi, h2, hown _ h3⟩
    · simp at h1
  · exact ⟨j, c, h1, h2, h3⟩

theorem setExt {mu : List Nat} {bs : List ABlk} {w w' : World} {i k : Nat} {b b' : ABlk} (hi : bs[i]? = some b) (hk : mu[i]? = some k) (hl : b.live = true) (hw : Turned k w w')
    (hown : ∀ off, b'.owns off → b.owns off) (hcell : ∀ off u, ¬ b.owns off → w.cell? ⟨k, off, none⟩ = some u → w'.cell? ⟨k, off, none⟩ = some u) : Ext (ctx mu bs w) (ctx mu (bs.set i b') w') := by
  refine ⟨fun _ _ h => h, hw.size, fun k0 off u hc hm => ?_, fun k0 h0 => ?_, fun k0 h0 hm => ?_, hw.os, hw.tape, hw.output⟩
  · refine ⟨?_, fun ho => hm (owned_set hi hk hown ho)⟩
    by_cases e : k0 = k
    · subst e
      exact hcell off u (fun ho => hm ⟨i, b, hi, hk, ho⟩) hc
    · exact (cell_of_block (hw.block k0 (cell_lt hc) e)).trans hc
  · by_cases e : k0 = k
    · subst e; exact hw.shape
    · exact shape_of_block (hw.block k0 h0 e)
  · have e : k0 ≠ k := by
      intro e
      subst e
      obtain ⟨off, ho⟩ := live_owns hl
      exact hm off ⟨i, b, hi, hk, ho⟩
    exact ⟨hw.block k0 h0 e, fun off ho => hm off (owned_set hi hk hown ho)⟩

theorem setR {mu : List Nat} {bs : List ABlk} {w w' : World} (hR : R mu bs w) {i k : Nat} {b b' : ABlk} (hi : bs[i]? = some b) (hk : mu[i]? = some k) (hl : b.live = true) (hw : Turned k w w')
    (hown : ∀ off, b'.owns off → b.owns off) (hcell : ∀ off u, ¬ b.owns off → w.cell? ⟨k, off, none⟩ = some u → w'.cell? ⟨k, off, none⟩ = some u)
    (hb : BlkOk (ctx mu (bs.set i b') w') k b') : R mu (bs.set i b') w' := by
  have hE := setExt hi hk hl hw hown hcell
  refine ⟨by simp [hR.len], ?_, ?_⟩
  · intro j1 j2 x a c h1 h2 la lc h3 h4
    have get : ∀ {j : Nat} {a : ABlk}, (bs.set i b')[j]? = some a → a.live = true → ∃ a0, bs[j]? = some a0 ∧ a0.live = true := by
      intro j a h la
      rw [List.getElem?_set] at h
      split at h
      · rename_i e
        subst e
        exact ⟨b, hi, hl⟩
      · exact ⟨a, h, la⟩
    obtain ⟨a0, e1, e2⟩ := get h1 la
    obtain ⟨c0, f1, f2⟩ := get h2 lc
    exact hR.inj j1 j2 x a0 c0 e1 f1 e2 f2 h3 h4
  · intro j x a h1 h2
    rw [List.getElem?_set] at h1
    split at h1
    · rename_i e
      subst e
      split at h1
      · simp only [Option.some.injEq] at h1
        subst h1
        rw [hk] at h2
        cases h2
        exact hb
      · simp at h1
    · rename_i hne
      by_cases la : a.live = true
      · have hx := (hR.ok j x a h1 h2).lt la
        have e : x ≠ k := by
          intro e
          subst e
          exact hne (hR.inj i j x b a hi h1 hl la hk h2)
        exact (hR.ok j x a h1 h2).mono hE (hw.block x hx e)
      · cases a <;> simp_all [ABlk.live, BlkOk]

theorem Turned.refl (k : Nat) (w : World) : Turned k w w := ⟨Nat.le_refl _, fun _ _ _ => rfl, rfl, rfl, rfl, rfl⟩

theorem Turned.row {k : Nat} {w : World} {arr : Array Value} {e : TypeId} {fz : Nat × Nat} (h : w.heap[k]? = some (.cells arr e fz)) {arr' : Array Value} (hs : arr'.size = arr.size) : Turned k w (w.setRow k arr') :=
  ⟨by simp, fun j _ hj => setRow_other w k j _ hj, by simp [World.shape?, setRow_heap w k arr arr' e fz h, h, hs], rfl, rfl, rfl⟩

theorem Turned.obj {k : Nat} {w : World} {es : Array MapEntry} {c : Nat} (h : w.heap[k]? = some (.map es c)) (es' : Array MapEntry) (c' : Nat) : Turned k w { w with heap := w.heap.setIfInBounds k (.map es' c') } :=
  ⟨by simp, fun j _ hj => by simp [Array.getElem?_setIfInBounds_ne (Ne.symm hj)], by
    have hk := (Array.getElem?_eq_some_iff.1 h).1
    simp [World.shape?, h, Array.getElem?_setIfInBounds_self_of_lt hk], rfl, rfl, rfl⟩

/-- freezing a block: nothing in the world turns -/
theorem killR {mu : List Nat} {bs : List ABlk} {w : World} (hR : R mu bs w) {i k : Nat} {b : ABlk} (hi : bs[i]? = some b) (hk : mu[i]? = some k) (hl : b.live = true) :
    Ext (ctx mu bs w) (ctx mu (bs.set i .dead) w) ∧ R mu (bs.set i .dead) w :=
  ⟨setExt hi hk hl (Turned.refl k w) (fun _ h => h.elim) (fun _ _ _ h => h), setR hR hi hk hl (Turned.refl k w) (fun _ h => h.elim) (fun _ _ _ h => h) trivial⟩

end Go.Ev
