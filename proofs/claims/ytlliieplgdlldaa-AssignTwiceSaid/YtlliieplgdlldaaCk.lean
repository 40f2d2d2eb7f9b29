/- Live variables over the tree of a function, and the heap that live.of keeps them in.
   Conditions: none; definitions and plain lemmas. -/
import Derived.Test.YtlliieplgdlldaaCj
namespace Go.Proofs.Ytlliieplgdlldaa
open Go Go.Ev
set_option linter.unusedSimpArgs false
set_option linter.unusedVariables false

mutual
def Tr.Live : Tr → Int → Prop
  | .mk _ n ks, x => x ∈ uses n ∨ (ks.Live x ∧ x ∉ binds n)
def Ks.Live : Ks → Int → Prop
  | .nil, _ => False
  | .cons _ t r, x => t.Live x ∨ r.Live x
end
mutual
/-- two variables are in one of the sets of the nodes -/
def Tr.Meet : Tr → Int → Int → Prop
  | .mk p n ks, a, b => ((Tr.mk p n ks).Live a ∧ (Tr.mk p n ks).Live b) ∨ ks.Meet a b
def Ks.Meet : Ks → Int → Int → Prop
  | .nil, _, _ => False
  | .cons bd t r, a, b => ((t.Live a ∨ a ∈ bd) ∧ (t.Live b ∨ b ∈ bd)) ∨ t.Meet a b ∨ r.Meet a b
end
theorem ofL_live (P : List (List Int × Tr)) (b : List Int) (t : Tr) (x : Int) : (ofL (P ++ [(b, t)])).Live x ↔ (ofL P).Live x ∨ t.Live x := by
  induction P with
  | nil => simp [ofL, Ks.Live]
  | cons a P ih => simp [ofL, Ks.Live, ih, or_assoc]
theorem ofL_meet (P : List (List Int × Tr)) (b : List Int) (t : Tr) (x y : Int) : (ofL (P ++ [(b, t)])).Meet x y ↔ (ofL P).Meet x y ∨ ((t.Live x ∨ x ∈ b) ∧ (t.Live y ∨ y ∈ b)) ∨ t.Meet x y := by
  induction P with
  | nil => simp [ofL, Ks.Meet]
  | cons a P ih => simp [ofL, Ks.Meet, ih, or_assoc]

/-! ### maps from whole numbers to lists -/
def RepM : List (V × V) → List (Int × List Int) → Prop
  | [], [] => True
  | e :: es, a :: A => e.1 = .lit (.int .i64 a.1) ∧ IsSl0 I1 e.2 a.2 ∧ RepM es A
  | _, _ => False
def findA (k : Int) : List (Int × List Int) → Option (List Int)
  | [] => none
  | a :: A => if k = a.1 then some a.2 else findA k A
def updA (k : Int) (l : List Int) : List (Int × List Int) → List (Int × List Int)
  | [] => [(k, l)]
  | a :: A => if k = a.1 then (k, l) :: A else a :: updA k l A
theorem findA_upd {j k : Int} {l : List Int} : ∀ A : List (Int × List Int), findA j (updA k l A) = if j = k then some l else findA j A
  | [] => by simp [updA, findA]
  | a :: A => by
    simp only [updA]
    split
    · rename_i e
      simp only [findA]
      subst e
      split <;> rfl
    · rename_i e
      simp only [findA, findA_upd A]
      by_cases e1 : j = a.1
      · have : ¬ j = k := fun e2 => e (e2.symm.trans e1)
        simp [e1, Ne.symm e]
      · simp [e1]
theorem litEq_int {a b : Int} : litEq .int (.lit (.int .i64 a)) (.lit (.int .i64 b)) = some (a == b) := by simp [litEq]
theorem find_rep {k : Int} : ∀ {es : List (V × V)} {A : List (Int × List Int)}, RepM es A → (findA k A = none → findE .int (.lit (.int .i64 k)) es = some none) ∧ ∀ l, findA k A = some l → ∃ v, findE .int (.lit (.int .i64 k)) es = some (some v) ∧ IsSl0 I1 v l
  | [], [], _ => ⟨fun _ => rfl, fun l h => by cases h⟩
  | e :: es, a :: A, ⟨h1, h2, h3⟩ => by
    obtain ⟨q1, q2⟩ := find_rep (k := k) h3
    simp only [findA, findE, h1, litEq_int]
    by_cases e0 : k = a.1
    · have : (k == a.1) = true := by simp [e0]
      simp only [e0, if_true, BEq.rfl]
      exact ⟨(fun h => by cases h), fun l h => ⟨_, rfl, (by cases h; exact h2)⟩⟩
    · have : (k == a.1) = false := by simp [e0]
      simp only [if_neg e0, this]
      exact ⟨q1, q2⟩
  | [], _ :: _, h => h.elim
  | _ :: _, [], h => h.elim
theorem upd_rep {k : Int} {v : V} {l : List Int} (hv : IsSl0 I1 v l) : ∀ {es : List (V × V)} {A : List (Int × List Int)}, RepM es A → ∃ es', updE .int (.lit (.int .i64 k)) v es = some es' ∧ RepM es' (updA k l A)
  | [], [], _ => ⟨_, rfl, rfl, hv, trivial⟩
  | e :: es, a :: A, ⟨h1, h2, h3⟩ => by
    obtain ⟨es', q1, q2⟩ := upd_rep (k := k) hv h3
    simp only [updE, updA, h1, litEq_int]
    by_cases e0 : k = a.1
    · simp only [e0, if_true, BEq.rfl]
      exact ⟨_, rfl, rfl, hv, h3⟩
    · have : (k == a.1) = false := by simp [e0]
      simp only [if_neg e0, this, q1]
      exact ⟨_, rfl, h1, h2, q2⟩
  | [], _ :: _, h => h.elim
  | _ :: _, [], h => h.elim

/-! ### slices that grow, with the row that is theirs -/
def GrowG {α : Type} (f : α → List V) (n : Nat) (ext : List ABlk) (v : V) (l : List α) (tk : Option Nat) : Prop :=
  (v = .lit (.slice .none 0 0) ∧ l = [] ∧ tk = none) ∨ ∃ i, tk = some i ∧ v = .sl (l.flatMap f) l.length (.tok (n + i) 1) ∧ ext[i]? = some (.row (l.length * 1))
section
variable {α : Type} {f : α → List V} {n : Nat} {ext ext' : List ABlk} {v : V} {l : List α} {tk : Option Nat}
theorem GrowG.eq (h : GrowG f n ext v l tk) (he : ∀ i, tk = some i → ext'[i]? = ext[i]?) : GrowG f n ext' v l tk :=
  h.imp id fun ⟨i, h1, h2, h3⟩ => ⟨i, h1, h2, by rw [he i h1]; exact h3⟩
theorem GrowG.is (h : GrowG f n ext v l tk) : IsSl f v l := h.imp (fun ⟨a, b, _⟩ => ⟨a, b⟩) fun ⟨i, _, h, _⟩ => ⟨_, h⟩
theorem GrowG.lt {i : Nat} (h : GrowG f n ext v l (some i)) : i < ext.length ∧ ext[i]? = some (.row (l.length * 1)) ∧ v = .sl (l.flatMap f) l.length (.tok (n + i) 1) := by
  rcases h with ⟨_, _, h⟩ | ⟨j, e, h1, h2⟩
  · cases h
  · cases e
    exact ⟨(List.getElem?_eq_some_iff.1 h2).1, h2, h1⟩
theorem GrowG.ne (h : GrowG f n ext v l tk) {j : Nat} {b : ABlk} (hj : ext[j]? = some b) (hb : b.isRow = false) : tk ≠ some j := by
  rintro rfl
  have := h.lt.2.1
  rw [hj] at this
  cases this
  cases hb
theorem GrowG.set (h : GrowG f n ext v l tk) {j : Nat} {b : ABlk} (hj : ext[j]? = some b) (hb : b.isRow = false) (x : ABlk) : GrowG f n (ext.set j x) v l tk :=
  h.eq fun i hi => by
    rw [List.getElem?_set_ne]
    rintro rfl
    exact h.ne hj hb hi
theorem GrowG.more (h : GrowG f n ext v l tk) (e : List ABlk) : GrowG f n (ext ++ e) v l tk :=
  h.eq fun i hi => List.getElem?_append_left (by subst hi; exact h.lt.1)
theorem GrowG.nil : GrowG f n ext (.lit (.slice .none 0 0)) ([] : List α) none := .inl ⟨rfl, rfl, rfl⟩
end

/-- append, and what it leaves alone -/
theorem app_gen {α : Type} {f : α → List V} {bytes : Nat} (hf : ∀ a, (f a).length = 1) {B ext : List ABlk} {wr : List Nat} {x y : V} {l l2 : List α} {tk : Option Nat} (hs : (l2.flatMap f).map V.strip1 = l2.flatMap f) (hx : GrowG f B.length ext x l tk) (hy : IsSl f y l2) (hb : l.length + l2.length ≤ 1000000) (hby : bytes ≤ 1000) (hw : New B.length wr) {P : V × Option Heap → Prop}
    (h : ∀ v' ext' wr' tk', GrowG f B.length ext' v' (l ++ l2) tk' → ext.length ≤ ext'.length → (∀ j, j < ext.length → tk ≠ some j → ext'[j]? = ext[j]?) → (∀ j, tk' = some j → tk = some j ∨ ext.length ≤ j) → New B.length wr' → ∀ o : Option Heap, o.getD ⟨B ++ ext, wr⟩ = ⟨B ++ ext', wr'⟩ → P (v', o)) :
    Opt (appV ⟨B ++ ext, wr⟩ false 1 bytes x y) P := by
  simp only [appV, src_is hf hy]
  by_cases h0 : l2.length = 0
  · have : l2 = [] := List.eq_nil_of_length_eq_zero h0
    subst this
    simp only [List.length_nil, if_true]
    rcases hx with ⟨rfl, rfl, rfl⟩ | ⟨i, rfl, rfl, hi⟩
    · exact Opt_some.2 (h _ ext wr none (by rw [List.append_nil]; exact .inl ⟨rfl, rfl, rfl⟩) (Nat.le_refl _) (fun _ _ _ => rfl) (fun j hj => by cases hj) hw none rfl)
    · exact Opt_some.2 (h _ ext wr (some i) (by rw [List.append_nil]; exact .inr ⟨i, rfl, rfl, hi⟩) (Nat.le_refl _) (fun _ _ _ => rfl) (fun j hj => .inl hj) hw none rfl)
  · rw [if_neg h0]
    have hmul : ∀ k : Nat, k ≤ 1000000 → k * bytes ≤ 140737488355328 ∧ k ≤ 140737488355328 := by
      intro k hk
      have := Nat.mul_le_mul hk hby
      omega
    rcases hx with ⟨rfl, rfl, rfl⟩ | ⟨i, rfl, rfl, hi⟩
    · have hk := hmul l2.length (by simpa using hb)
      simp only [List.length_nil, Nat.zero_add, Nat.zero_mul, hk, and_self, if_true, List.nil_append, Bool.false_eq_true, if_false, Opt_some, hs]
      exact h _ (ext ++ [.row (l2.length * 1)]) wr (some ext.length) (.inr ⟨ext.length, rfl, by simp [List.length_append], by simp⟩) (by simp) (fun j hj _ => List.getElem?_append_left hj) (fun j hj => .inr (by cases hj; exact Nat.le_refl _)) hw _ (by simp [Heap.push])
    · have hk := hmul (l.length + l2.length) hb
      have hlt : i < ext.length := (List.getElem?_eq_some_iff.1 hi).1
      simp only [get_app, hi, decide_true, and_self, and_true, if_true]
      rw [if_pos ⟨hk.1, hk.2, by rw [flatMap_len hf]⟩]
      simp only [Bool.false_eq_true, if_false, Opt_some, hs]
      refine h _ (ext.set i .dead ++ [.row ((l.length + l2.length) * 1)]) (insN (B.length + i) wr) (some ext.length) (.inr ⟨ext.length, rfl, ?_, ?_⟩) (by simp) (fun j hj hne => ?_) (fun j hj => .inr (by cases hj; exact Nat.le_refl _)) (New_insN.2 ⟨by omega, hw⟩) _ (by simp [Heap.push, Heap.write])
      · simp [Heap.write, List.length_append]
      · simp
      · rw [List.getElem?_append_left (by simpa using hj), List.getElem?_set_ne]
        rintro rfl
        exact hne rfl
end Go.Proofs.Ytlliieplgdlldaa
