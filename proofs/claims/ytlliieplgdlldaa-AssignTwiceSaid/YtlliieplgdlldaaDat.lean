/- A value that a row's reading walks through (bools, whole numbers, strings, slices, structs), as a tree of the evaluator's.
   Conditions: none; plain lemmas. -/
import Derived.Test.YtlliieplgdlldaaEvQ
import Derived.ChangeArms
import Derived.ChangeShapes
import Derived.ChangeSlices
import Derived.Below
namespace Go.Ev

section
variable {P : Program} {w : World} {H : Type} {en : TypeId × Value → H} {base : Nat} {spare : Nat → Bool} {held : Bool}

def C0 (w : World) : Ctx := ctx [] [] w

theorem not_owned (k off : Nat) : ¬ Owned [] [] k off := by
  rintro ⟨i, b, h, _⟩
  simp at h

def slV {α : Type} (f : α → List V) : Option (List α) → V
  | none => .lit (.slice .none 0 0)
  | some l => .sl (l.flatMap f) l.length .none

/-- what is read at type t, over n cells, is an α -/
def Opens (P : Program) (w : World) {H : Type} (en : TypeId × Value → H) (base : Nat) (spare : Nat → Bool) (held : Bool) (t : TypeId) (n : Nat) {α : Type} (f : α → List V) (wf : α → Prop) : Prop :=
  (∀ a, (f a).length = n) ∧ ∀ (fuel : Nat) (cs : List Value) (x : DataW H × List MemPlace), DataW.trod en P w base spare held fuel t cs = some x → cs.length = n → ∃ a : α, Reps (C0 w) (f a) cs ∧ (f a).all V.isCell = true ∧ wf a

theorem opens_int {t : TypeId} {k : IntKind} (ht : P.underlying t = some (.int k)) : Opens P w en base spare held t 1 (fun n : Int => [.lit (.int k n)]) (fun n => (Lit.int k n).wf = true) := by
  refine ⟨fun _ => rfl, fun fuel cs x h hl => ?_⟩
  obtain ⟨n, rfl, _, hw⟩ := DataW.trod_int ht h
  exact ⟨n, by simp [Reps, Rep, inert], rfl, hw⟩

theorem opens_bool {t : TypeId} (ht : P.underlying t = some .bool) : Opens P w en base spare held t 1 (fun b : Bool => [.lit (.bool b)]) (fun _ => True) := by
  refine ⟨fun _ => rfl, fun fuel cs x h hl => ?_⟩
  obtain ⟨b, rfl, _⟩ := DataW.trod_bool ht h
  exact ⟨b, by simp [Reps, Rep, inert], rfl, trivial⟩

theorem opens_string {t : TypeId} (ht : P.underlying t = some .string) : Opens P w en base spare held t 1 (fun s : ByteArray => [.lit (.string s)]) (fun s => s.size ≤ maxLen) := by
  refine ⟨fun _ => rfl, fun fuel cs x h hl => ?_⟩
  obtain ⟨s, rfl, _, hs⟩ := DataW.trod_string ht h
  exact ⟨s, by simp [Reps, Rep, inert], rfl, hs⟩

theorem cells_get {a : Addr} : ∀ {n : Nat} {cs : List Value}, w.cells? base a n = some cs → cs.length = n ∧ base ≤ a.block ∧ ∀ i, i < n → w.cell? (a.add i) = cs[i]? := by
  intro n cs h
  unfold World.cells? at h
  split at h
  · rename_i hb
    have hm : ∀ (l : List Nat) (cs : List Value), l.mapM (fun i => w.cell? (a.add i)) = some cs → cs.length = l.length ∧ ∀ (i : Nat) (x : Nat), l[i]? = some x → w.cell? (a.add x) = cs[i]? := by
      intro l
      induction l with
      | nil => intro cs h; simp at h; subst h; simp
      | cons x l ih =>
        intro cs h
        rw [List.mapM_cons] at h
        cases hx : w.cell? (a.add x) with
        | none => simp [hx] at h
        | some u =>
          cases hl : l.mapM (fun i => w.cell? (a.add i)) with
          | none => simp [hx, hl] at h
          | some us =>
            simp [hx, hl] at h
            subst h
            obtain ⟨h1, h2⟩ := ih us hl
            refine ⟨by simp [h1], fun i y hy => ?_⟩
            cases i with
            | zero => simp at hy; subst hy; simpa using hx
            | succ i => simpa using h2 i y (by simpa using hy)
    obtain ⟨h1, h2⟩ := hm _ cs h
    simp at h1
    exact ⟨h1, hb, fun i hi => h2 i i (by simp [hi])⟩
  · simp at h

theorem pick_list {α : Type} {Q : Nat → α → Prop} : ∀ (n : Nat), (∀ i, i < n → ∃ a, Q i a) → ∃ l : List α, l.length = n ∧ ∀ i a, l[i]? = some a → Q i a
  | 0, _ => ⟨[], rfl, by simp⟩
  | n + 1, h => by
    obtain ⟨l, h1, h2⟩ := pick_list n (fun i hi => h i (by omega))
    obtain ⟨a, ha⟩ := h n (by omega)
    refine ⟨l ++ [a], by simp [h1], fun i b hb => ?_⟩
    rw [List.getElem?_append] at hb
    split at hb
    · exact h2 i b hb
    · rename_i hi
      have : i = n := by
        have := (List.getElem?_eq_some_iff.1 hb).1
        simp at this
        omega
      subst this
      simp [h1] at hb
      subst hb
      exact ha

theorem flat_length {α : Type} {f : α → List V} {n : Nat} (hf : ∀ a, (f a).length = n) : ∀ l : List α, (l.flatMap f).length = l.length * n
  | [] => by simp
  | a :: l => by simp [flat_length hf l, hf, Nat.add_mul]; omega

theorem repAt_flat {α : Type} {f : α → List V} {n : Nat} (hf : ∀ a, (f a).length = n) {k : Nat} : ∀ (l : List α) (off : Nat), (∀ i a, l[i]? = some a → RepAt (C0 w) k (off + i * n) (f a)) → RepAt (C0 w) k off (l.flatMap f)
  | [], off, _ => by simp [RepAt]
  | a :: l, off, h => by
    rw [List.flatMap_cons]
    refine RepAt.append (by simpa using h 0 a (by simp)) ?_
    rw [hf]
    refine repAt_flat hf l _ (fun i b hb => ?_)
    have := h (i + 1) b (by simpa using hb)
    rw [show off + (i + 1) * n = off + n + i * n by rw [Nat.add_mul]; omega] at this
    exact this

theorem opens_slice {t e : TypeId} {n : Nat} {α : Type} {f : α → List V} {wf : α → Prop} (ht : P.underlying t = some (.slice e)) (hc : P.cellsOf e = n) (hn : 0 < n) (h : Opens P w en base spare held e n f wf) :
    Opens P w en base spare held t 1 (fun o : Option (List α) => [slV f o]) (fun o => ∀ l, o = some l → l.length ≤ maxLen ∧ ∀ a, a ∈ l → wf a) := by
  refine ⟨fun _ => rfl, fun fuel cs x hx hl => ?_⟩
  rcases DataW.trod_slice ht hx with ⟨rfl, _⟩ | ⟨a, len, cap, elems, rest, m, rfl, rfl, _, hb, hlc, hcm, hel, hget, _⟩
  · exact ⟨none, by simp [slV, Reps, Rep, inert], rfl, by simp⟩
  · have key : ∀ i, i < len → ∃ b : α, RepAt (C0 w) a.block (a.off + i * n) (f b) ∧ wf b ∧ a.spot = none := by
      intro i hi
      have h1 := hget i hi
      rw [hc] at h1
      rw [List.getElem?_eq_getElem (by omega)] at h1
      cases hcs : w.cells? base (a.add (i * n)) n with
      | none => simp [hcs] at h1
      | some cs =>
        simp [hcs] at h1
        obtain ⟨h2, _, h3⟩ := cells_get hcs
        obtain ⟨b, h4, h5, h6⟩ := h.2 m cs _ h1 h2
        have hab : ∀ j, j < n → ∃ u, cs[j]? = some u ∧ w.cell? ⟨a.block, a.off + i * n + j, none⟩ = some u ∧ (a.spot = none ∨ i * n ≠ 0 ∨ j ≠ 0) := by
          intro j hj
          have h7 := h3 j hj
          rw [List.getElem?_eq_getElem (by omega)] at h7
          refine ⟨_, List.getElem?_eq_getElem (by omega), ?_, ?_⟩
          · rw [← h7]
            have hsp : ((a.add (i * n)).add j).spot = none ∨ ((a.add (i * n)).add j).spot ≠ none := Classical.em _
            have hnn : ((a.add (i * n)).add j).spot = none := by
              rcases hsp with hsp | hsp
              · exact hsp
              · exfalso
                unfold World.cell? at h7
                split at h7
                · rw [if_pos (by cases hq : ((a.add (i * n)).add j).spot <;> simp_all)] at h7
                  simp at h7
                · simp at h7
            have e0 : (a.add (i * n)).add j = ⟨a.block, a.off + i * n + j, none⟩ := by
              have e1 : ((a.add (i * n)).add j).block = a.block := by unfold Addr.add; split <;> split <;> rfl
              have e2 : ((a.add (i * n)).add j).off = a.off + i * n + j := by
                unfold Addr.add
                split <;> split <;> simp_all
              rw [← e1, ← e2, ← hnn]
            rw [e0]
          · by_cases hz : i * n = 0 ∧ j = 0
            · left
              obtain ⟨hz1, rfl⟩ := hz
              rw [hz1] at h7
              unfold World.cell? at h7
              split at h7
              · split at h7
                · simp at h7
                · rename_i hq
                  simpa [Addr.add] using hq
              · simp at h7
            · right
              omega
        refine ⟨b, RepAt.of_get fun j v hv => ?_, h6, ?_⟩
        · have hj : j < n := by
            have := (List.getElem?_eq_some_iff.1 hv).1
            rw [h.1] at this
            exact this
          obtain ⟨u, h8, h9, _⟩ := hab j hj
          obtain ⟨u', g1, g2⟩ := Reps.get j v h4 hv
          rw [h8] at g1
          cases g1
          exact ⟨u, h9, not_owned _ _, g2, by
            rw [List.all_eq_true] at h5
            exact h5 v (List.mem_of_getElem? hv)⟩
        · -- the first element tells the spot
          have h10 := hget 0 (by omega)
          rw [hc] at h10
          rw [List.getElem?_eq_getElem (by omega)] at h10
          cases hcs0 : w.cells? base (a.add (0 * n)) n with
          | none => rw [hcs0] at h10; simp at h10
          | some cs0 =>
            obtain ⟨g1, _, g3⟩ := cells_get hcs0
            have g4 := g3 0 hn
            rw [List.getElem?_eq_getElem (by omega)] at g4
            unfold World.cell? at g4
            split at g4
            · split at g4
              · simp at g4
              · rename_i hq
                simpa [Addr.add] using hq
            · simp at g4
    obtain ⟨l, h1, h2⟩ := pick_list len key
    refine ⟨some l, ?_, rfl, fun l' hl' => ?_⟩
    · simp only [slV, Reps, Rep]
      refine ⟨_, [], rfl, ⟨a, cap, by rw [h1], ?_, by omega, repAt_flat h.1 l a.off (fun i b hb => (h2 i b hb).1), trivial⟩, rfl⟩
      cases hl0 : l with
      | nil => exact .inl rfl
      | cons b l' => exact .inr (h2 0 b (by simp [hl0])).2.2
    · cases hl'
      refine ⟨by omega, fun b hb => ?_⟩
      obtain ⟨i, hi⟩ := List.mem_iff_getElem?.1 hb
      exact (h2 i b hi).2.1

end
end Go.Ev
