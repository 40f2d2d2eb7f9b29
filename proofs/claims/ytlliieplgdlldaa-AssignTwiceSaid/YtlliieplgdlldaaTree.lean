/- The nodes of a well-shaped function as a tree, and what a walk over it leaves behind.
   Conditions: none; definitions and plain lemmas. -/
import Derived.Test.YtlliieplgdlldaaCg
namespace Go.Proofs.Ytlliieplgdlldaa
open Go Go.Ev
set_option linter.unusedSimpArgs false
set_option linter.unusedVariables false

mutual
inductive Tr where
  | mk (pos : Int) (n : NodeD) (ks : Ks)
inductive Ks where
  | nil
  | cons (b : List Int) (t : Tr) (r : Ks)
end
def Tr.pos : Tr → Int
  | .mk p _ _ => p
def Tr.node : Tr → NodeD
  | .mk _ n _ => n
def Tr.ks : Tr → Ks
  | .mk _ _ ks => ks

/-- the kids of a node, each with the variables that are bound ahead of it -/
def kidL (n : NodeD) : List (List Int × Int) := if n.op = 9 then n.brl.map fun b => (b.bindl, b.next) else (kids n).map fun k => (binds n, k)

def Ks.list : Ks → List (List Int × Int)
  | .nil => []
  | .cons b t r => (b, t.pos) :: r.list

mutual
def Tr.vars : Tr → List Int
  | .mk _ _ ks => ks.vars
def Ks.vars : Ks → List Int
  | .nil => []
  | .cons b t r => b ++ (t.vars ++ r.vars)
end
mutual
/-- the nodes below a node -/
def Tr.subs : Tr → List Int
  | .mk _ _ ks => ks.subs
def Ks.subs : Ks → List Int
  | .nil => []
  | .cons _ t r => t.pos :: (t.subs ++ r.subs)
end
mutual
def Tr.nodes : Tr → List Int
  | .mk p _ ks => p :: ks.nodes
def Ks.nodes : Ks → List Int
  | .nil => []
  | .cons _ t r => t.nodes ++ r.nodes
end
mutual
def Tr.Ok (f : FunD) : Tr → Prop
  | .mk p n ks => 0 ≤ p ∧ f.codel[p.toNat]? = some n ∧ ks.list = kidL n ∧ ks.Ok f
def Ks.Ok (f : FunD) : Ks → Prop
  | .nil => True
  | .cons _ t r => t.Ok f ∧ r.Ok f
end
mutual
/-- what is used is in scope -/
def Tr.Sc : Tr → (Int → Prop) → Prop
  | .mk _ n ks, sc => (∀ v, v ∈ uses n → sc v) ∧ ks.Sc sc
def Ks.Sc : Ks → (Int → Prop) → Prop
  | .nil, _ => True
  | .cons b t r, sc => t.Sc (fun v => sc v ∨ v ∈ b) ∧ r.Sc sc
end

def ofL : List (List Int × Tr) → Ks
  | [] => .nil
  | (b, t) :: r => .cons b t (ofL r)

section
variable (P : List (List Int × Tr)) (b : List Int) (t : Tr)
theorem ofL_list : (ofL (P ++ [(b, t)])).list = (ofL P).list ++ [(b, t.pos)] := by
  induction P with
  | nil => rfl
  | cons a P ih => simp [ofL, Ks.list, ih]
theorem ofL_vars : (ofL (P ++ [(b, t)])).vars = (ofL P).vars ++ (b ++ t.vars) := by
  induction P with
  | nil => simp [ofL, Ks.vars]
  | cons a P ih => simp [ofL, Ks.vars, ih]
theorem ofL_subs : (ofL (P ++ [(b, t)])).subs = (ofL P).subs ++ (t.pos :: t.subs) := by
  induction P with
  | nil => simp [ofL, Ks.subs]
  | cons a P ih => simp [ofL, Ks.subs, ih]
theorem ofL_nodes : (ofL (P ++ [(b, t)])).nodes = (ofL P).nodes ++ t.nodes := by
  induction P with
  | nil => simp [ofL, Ks.nodes]
  | cons a P ih => simp [ofL, Ks.nodes, ih]
theorem ofL_ok {f : FunD} (h : (ofL P).Ok f) (h' : t.Ok f) : (ofL (P ++ [(b, t)])).Ok f := by
  induction P with
  | nil => exact ⟨h', trivial⟩
  | cons a P ih => exact ⟨h.1, ih h.2⟩
theorem ofL_sc {sc : Int → Prop} (h : (ofL P).Sc sc) (h' : t.Sc (fun v => sc v ∨ v ∈ b)) : (ofL (P ++ [(b, t)])).Sc sc := by
  induction P with
  | nil => exact ⟨h', trivial⟩
  | cons a P ih => exact ⟨h.1, ih h.2⟩
end

mutual
theorem Tr.Sc.congr : ∀ (t : Tr) {sc sc' : Int → Prop}, (∀ v, sc v → sc' v) → t.Sc sc → t.Sc sc'
  | .mk _ n ks, sc, sc', h, ⟨h1, h2⟩ => ⟨fun v hv => h v (h1 v hv), Ks.Sc.congr ks h h2⟩
theorem Ks.Sc.congr : ∀ (ks : Ks) {sc sc' : Int → Prop}, (∀ v, sc v → sc' v) → ks.Sc sc → ks.Sc sc'
  | .nil, _, _, _, _ => trivial
  | .cons b t r, sc, sc', h, ⟨h1, h2⟩ => ⟨Tr.Sc.congr t (fun v hv => hv.imp (h v) id) h1, Ks.Sc.congr r h h2⟩
end

/-! ### marks -/
theorem fresh_of_binds {f : FunD} {bs : List Bool} {l : List Int} (hb : bs.length = f.varl.length) (h : Binds f bs l l.length) : Fresh f.varl.length bs l := by
  have key : ∀ k, k ≤ l.length → Fresh f.varl.length bs (l.take k) := by
    intro k
    induction k with
    | zero => intro _; simpa using Fresh.nil
    | succ k ih =>
      intro hk
      obtain ⟨h1, h2⟩ := h k (by omega) (by omega)
      rw [List.take_succ_eq_append_getElem (by omega)]
      refine (ih (by omega)).append hb ⟨fun v hv => ?_, by simp⟩
      rw [List.mem_singleton] at hv
      subst hv
      exact ⟨h1.1, h1.2, h2⟩
  have := key l.length (Nat.le_refl _)
  rwa [List.take_length] at this
theorem setAll_back {bs : List Bool} {l : List Int} (h : Fresh bs.length bs l) : setAll (setAll bs l true) l false = bs := by
  apply List.ext_getElem?
  intro i
  rcases Nat.lt_or_ge i bs.length with hi | hi
  · have e : ((i : Int)).toNat = i := by omega
    rw [← e, setAll_get h.nonneg (by omega) (by rw [setAll_len, e]; exact hi)]
    split
    · rename_i hm
      exact ((h.1 _ hm).2.2).symm
    · rename_i hm
      rw [setAll_get h.nonneg (by omega) (by rw [e]; exact hi), if_neg hm]
  · rw [List.getElem?_eq_none (by rw [setAll_len, setAll_len]; exact hi), List.getElem?_eq_none hi]
theorem count_set {bs : List Bool} {i : Nat} (h : bs[i]? = some false) : (bs.set i true).count true = bs.count true + 1 := by
  induction bs generalizing i with
  | nil => simp at h
  | cons a bs ih =>
    cases i with
    | zero =>
      simp at h
      subst h
      simp
    | succ i =>
      simp at h
      have := ih h
      simp only [List.set_cons_succ, List.count_cons, this]
      omega
theorem count_setAll {n : Nat} : ∀ {l : List Int} {bs : List Bool}, bs.length = n → Fresh n bs l → (setAll bs l true).count true = bs.count true + l.length
  | [], bs, _, _ => by simp [setAll]
  | a :: l, bs, hb, h => by
    have ha := h.1 a (by simp)
    have hn := List.nodup_cons.1 h.2
    show (setAll (bs.set a.toNat true) l true).count true = _
    rw [count_setAll (n := n) (by simpa using hb) ⟨fun v hv => ?_, hn.2⟩, count_set ha.2.2]
    · simp; omega
    · obtain ⟨h1, h2, h3⟩ := h.1 v (by simp [hv])
      refine ⟨h1, h2, ?_⟩
      rw [List.getElem?_set_ne]
      · exact h3
      · intro e
        have : a = v := by omega
        subst this
        exact hn.1 hv

/-- what a walk over ks leaves behind -/
def SS.after (s : SS) (ks : Ks) : SS := { s with nodes := s.nodes ++ ks.nodes, vars := s.vars ++ ks.vars, reached := setAll s.reached ks.subs true, bound := setAll s.bound ks.vars true }
/-- scope lies within bound -/
def Within (s : SS) : Prop := ∀ i : Nat, s.scope[i]? = some true → s.bound[i]? = some true

mutual
/-- a tree is known by its node -/
theorem Tr.Ok.uniq {f : FunD} : ∀ (t t' : Tr), t.Ok f → t'.Ok f → t.pos = t'.pos → t = t'
  | .mk p n ks, .mk p' n' ks', ⟨_, h2, h3, h4⟩, ⟨_, h2', h3', h4'⟩, e => by
    have e' : p = p' := e
    subst e'
    rw [h2] at h2'
    cases h2'
    rw [Ks.Ok.uniq ks ks' h4 h4' (h3.trans h3'.symm)]
theorem Ks.Ok.uniq {f : FunD} : ∀ (ks ks' : Ks), ks.Ok f → ks'.Ok f → ks.list = ks'.list → ks = ks'
  | .nil, .nil, _, _, _ => rfl
  | .nil, .cons _ _ _, _, _, e => by simp [Ks.list] at e
  | .cons _ _ _, .nil, _, _, e => by simp [Ks.list] at e
  | .cons b t r, .cons b' t' r', h, h', e => by
    simp only [Ks.list, List.cons.injEq, Prod.mk.injEq] at e
    obtain ⟨⟨rfl, e1⟩, e2⟩ := e
    rw [Tr.Ok.uniq t t' h.1 h'.1 e1, Ks.Ok.uniq r r' h.2 h'.2 e2]
end
theorem ofL_surj : ∀ ks : Ks, ∃ Q, ks = ofL Q
  | .nil => ⟨[], rfl⟩
  | .cons b t r => let ⟨Q, h⟩ := ofL_surj r; ⟨(b, t) :: Q, by rw [h]; rfl⟩
theorem ofL_list' (P : List (List Int × Tr)) : (ofL P).list = P.map fun x => (x.1, x.2.pos) := by
  induction P with
  | nil => rfl
  | cons a P ih => simp [ofL, Ks.list, ih]
theorem ofL_app_vars (P R : List (List Int × Tr)) : (ofL (P ++ R)).vars = (ofL P).vars ++ (ofL R).vars := by
  induction P with
  | nil => rfl
  | cons a P ih => simp [ofL, Ks.vars, ih]
theorem ofL_app_subs (P R : List (List Int × Tr)) : (ofL (P ++ R)).subs = (ofL P).subs ++ (ofL R).subs := by
  induction P with
  | nil => rfl
  | cons a P ih => simp [ofL, Ks.subs, ih]
theorem ofL_app_sc (P R : List (List Int × Tr)) (sc : Int → Prop) : (ofL (P ++ R)).Sc sc ↔ (ofL P).Sc sc ∧ (ofL R).Sc sc := by
  induction P with
  | nil => simp [ofL, Ks.Sc]
  | cons a P ih => simp [ofL, Ks.Sc, ih, and_assoc]
theorem ofL_app_ok (P R : List (List Int × Tr)) (f : FunD) : (ofL (P ++ R)).Ok f ↔ (ofL P).Ok f ∧ (ofL R).Ok f := by
  induction P with
  | nil => simp [ofL, Ks.Ok]
  | cons a P ih => simp [ofL, Ks.Ok, ih, and_assoc]
/-- the kids of a tree split at the k-th -/
theorem ks_split {f : FunD} {ks : Ks} {P : List (List Int × Tr)} {L : List (List Int × Int)} {k : Nat} (hk : k < L.length) (h1 : ks.list = L) (h2 : ks.Ok f) (h3 : (ofL P).list = L.take k) (h4 : (ofL P).Ok f) :
    ∃ t R, ks = ofL (P ++ (L[k].1, t) :: R) ∧ t.pos = L[k].2 ∧ t.Ok f := by
  obtain ⟨Q, rfl⟩ := ofL_surj ks
  have hQl : Q.length = L.length := by rw [← h1, ofL_list', List.length_map]
  have hkq : k < Q.length := by omega
  have hQ : Q = Q.take k ++ Q[k] :: Q.drop (k + 1) := by
    have := List.take_append_drop k Q
    rw [drop_lt hkq] at this
    exact this.symm
  rw [hQ, ofL_app_ok] at h2
  have hlist : (ofL (Q.take k)).list = (ofL P).list := by
    rw [h3, ← h1, ofL_list', ofL_list', List.map_take]
  have hP : ofL (Q.take k) = ofL P := Ks.Ok.uniq _ _ h2.1 h4 hlist
  have inj : ∀ A B : List (List Int × Tr), ofL A = ofL B → A = B := by
    intro A
    induction A with
    | nil => intro B h; cases B with
      | nil => rfl
      | cons b B => simp [ofL] at h
    | cons a A ih => intro B h; cases B with
      | nil => simp [ofL] at h
      | cons b B =>
        obtain ⟨a1, a2⟩ := a
        obtain ⟨b1, b2⟩ := b
        simp only [ofL, Ks.cons.injEq] at h
        obtain ⟨rfl, rfl, h⟩ := h
        rw [ih B h]
  have hP2 := inj _ _ hP
  have hLk : L[k] = (Q[k].1, Q[k].2.pos) := by
    have : (ofL Q).list[k]? = some (Q[k].1, Q[k].2.pos) := by rw [ofL_list', List.getElem?_map, List.getElem?_eq_getElem hkq]; rfl
    rw [h1, List.getElem?_eq_getElem hk] at this
    exact Option.some.inj this
  refine ⟨Q[k].2, Q.drop (k + 1), ?_, by rw [hLk], h2.2.1⟩
  rw [hLk, ← hP2]
  exact congrArg ofL hQ

structure FewD (f : FunD) : Prop where
  code : f.codel.length ≤ 80
  vars : f.varl.length ≤ 60
  node : ∀ n, n ∈ f.codel → n.argl.length ≤ 20 ∧ n.morel.length ≤ 20 ∧ n.brl.length ≤ 20 ∧ ∀ b, b ∈ n.brl → b.bindl.length ≤ 20
end Go.Proofs.Ytlliieplgdlldaa
