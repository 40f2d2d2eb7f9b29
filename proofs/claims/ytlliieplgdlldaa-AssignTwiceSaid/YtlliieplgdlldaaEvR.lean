/- Regions whose operations the model carries out in an order that it draws.
   Conditions: none; plain lemmas. -/
import Derived.Test.YtlliieplgdlldaaEvP
import Derived.Orders
namespace Go.Ev

theorem fitInss_get {P : Program} {N : Nat} {ops : Array Oper} : ∀ {is : List Ins} {os : List Oper}, fitInss P N ops is os = true → is.length = os.length ∧ ∀ (i : Nat) (x : Ins), is[i]? = some x → ∃ o, os[i]? = some o ∧ fitIns P N ops x o = true
  | [], [], _ => ⟨rfl, by simp⟩
  | x :: is, o :: os, h => by
    simp only [fitInss, Bool.and_eq_true] at h
    obtain ⟨h1, h2⟩ := fitInss_get h.2
    refine ⟨by simp [h1], fun i y hy => ?_⟩
    cases i with
    | zero => simp at hy; subst hy; exact ⟨o, by simp, h.1⟩
    | succ i => simpa using h2 i y (by simpa using hy)
  | [], _ :: _, h => by simp [fitInss] at h
  | _ :: _, [], h => by simp [fitInss] at h

/-! ### an operation looks at what it reads alone -/
theorem ev_congr {T T' : Tm} {x : Opd} (h : ∀ t, t ∈ opdT x → T.get t = T'.get t) : x.ev T = x.ev T' := by
  cases x with
  | t n => exact h n (by simp [opdT])
  | _ => rfl
theorem evs_congr {T T' : Tm} : ∀ {xs : List Opd}, (∀ t, t ∈ opdsT xs → T.get t = T'.get t) → evs T xs = evs T' xs
  | [], _ => rfl
  | x :: xs, h => by
    simp only [opdsT, List.flatMap_cons, List.mem_append] at h
    simp only [evs, ev_congr (fun t ht => h t (.inl ht)), evs_congr (xs := xs) (fun t ht => h t (.inr ht))]
theorem evps_congr {T T' : Tm} : ∀ {ps : List (Nat × Nat × Opd)}, (∀ t, t ∈ (ps.flatMap fun p => opdT p.2.2) → T.get t = T'.get t) → evps T ps = evps T' ps
  | [], _ => rfl
  | (a, b, x) :: ps, h => by
    simp only [List.flatMap_cons, List.mem_append] at h
    simp only [evps, ev_congr (fun t ht => h t (.inl ht)), evps_congr (ps := ps) (fun t ht => h t (.inr ht))]
theorem opt_congr {T T' : Tm} {x : Option Opd} (h : ∀ t, t ∈ optT x → T.get t = T'.get t) : (match x with | some x => x.ev T | none => none) = (match x with | some x => x.ev T' | none => none) := by
  cases x with
  | none => rfl
  | some x => exact ev_congr h
theorem bnd_congr {T T' : Tm} {n : Nat} {lo hi mx : Option Opd} (h1 : ∀ t, t ∈ optT lo → T.get t = T'.get t) (h2 : ∀ t, t ∈ optT hi → T.get t = T'.get t) (h3 : ∀ t, t ∈ optT mx → T.get t = T'.get t) : bnd T n lo hi mx = bnd T' n lo hi mx := by
  have e1 : ∀ x, lo = some x → x.ev T = x.ev T' := fun x hx => ev_congr (fun t ht => h1 t (by simp [hx, optT, ht]))
  have e2 : ∀ x, hi = some x → x.ev T = x.ev T' := fun x hx => ev_congr (fun t ht => h2 t (by simp [hx, optT, ht]))
  have e3 : ∀ x, mx = some x → x.ev T = x.ev T' := fun x hx => ev_congr (fun t ht => h3 t (by simp [hx, optT, ht]))
  clear h1 h2 h3
  unfold bnd
  cases lo <;> cases hi <;> cases mx <;> first
    | rfl
    | (simp only [e1 _ rfl]; done)
    | (simp only [e2 _ rfl]; done)
    | (simp only [e3 _ rfl]; done)
    | (simp only [e1 _ rfl, e2 _ rfl]; done)
    | (simp only [e1 _ rfl, e3 _ rfl]; done)
    | (simp only [e2 _ rfl, e3 _ rfl]; done)
    | (simp only [e1 _ rfl, e2 _ rfl, e3 _ rfl]; done)

theorem evP_congr {T T' : Tm} {op : O} (h : ∀ t, t ∈ op.reads → T.get t = T'.get t) : evP T op = evP T' op := by
  cases op with
  | mov x => exact ev_congr h
  | pick a b c =>
    simp only [O.reads, List.mem_append] at h
    simp only [evP, ev_congr (fun t ht => h t (.inl (.inl ht))), ev_congr (x := b) (fun t ht => h t (.inl (.inr ht))), ev_congr (x := c) (fun t ht => h t (.inr ht))]
  | box imm x => cases imm <;> simp only [evP]; rw [ev_congr h]
  | build z ps => simp only [evP]; rw [evps_congr h]
  | buildSl m len size z ps => cases m <;> simp only [evP]; rw [evps_congr h]
  | load n x => simp only [evP]; rw [ev_congr h]
  | nilChk x => simp only [evP]; rw [ev_congr h]
  | bin op x y =>
    simp only [O.reads, List.mem_append] at h
    simp only [evP]; rw [ev_congr (x := x) (fun t ht => h t (.inl ht)), ev_congr (x := y) (fun t ht => h t (.inr ht))]
  | eq ng c x y =>
    simp only [O.reads, List.mem_append] at h
    simp only [evP]; rw [ev_congr (x := x) (fun t ht => h t (.inl ht)), ev_congr (x := y) (fun t ht => h t (.inr ht))]
  | not x => simp only [evP]; rw [ev_congr h]
  | neg x => simp only [evP]; rw [ev_congr h]
  | conv k x => simp only [evP]; rw [ev_congr h]
  | mkFn f a b =>
    simp only [O.reads, List.mem_append] at h
    simp only [evP]; rw [evs_congr (xs := a) (fun t ht => h t (.inl ht)), evs_congr (xs := b) (fun t ht => h t (.inr ht))]
  | fAddr off x => simp only [evP]; rw [ev_congr h]
  | fld off n x => simp only [evP]; rw [ev_congr h]
  | iAddr size x y =>
    simp only [O.reads, List.mem_append] at h
    simp only [evP]; rw [ev_congr (x := x) (fun t ht => h t (.inl ht)), ev_congr (x := y) (fun t ht => h t (.inr ht))]
  | iAddrA len size x y =>
    simp only [O.reads, List.mem_append] at h
    simp only [evP]; rw [ev_congr (x := x) (fun t ht => h t (.inl ht)), ev_congr (x := y) (fun t ht => h t (.inr ht))]
  | idxA len size n x y =>
    simp only [O.reads, List.mem_append] at h
    simp only [evP]; rw [ev_congr (x := x) (fun t ht => h t (.inl ht)), ev_congr (x := y) (fun t ht => h t (.inr ht))]
  | idxS x y =>
    simp only [O.reads, List.mem_append] at h
    simp only [evP]; rw [ev_congr (x := x) (fun t ht => h t (.inl ht)), ev_congr (x := y) (fun t ht => h t (.inr ht))]
  | sl size x lo hi mx =>
    simp only [O.reads, List.mem_append] at h
    have hb : ∀ n, bnd T n lo hi mx = bnd T' n lo hi mx := fun n => bnd_congr (fun t ht => h t (.inl (.inl (.inr ht)))) (fun t ht => h t (.inl (.inr ht))) (fun t ht => h t (.inr ht))
    simp only [evP]; rw [ev_congr (x := x) (fun t ht => h t (.inl (.inl (.inl ht))))]; simp only [hb]
  | slS x lo hi =>
    simp only [O.reads, List.mem_append] at h
    have hb : ∀ n, bnd T n lo hi none = bnd T' n lo hi none := fun n => bnd_congr (fun t ht => h t (.inl (.inr ht))) (fun t ht => h t (.inr ht)) (by simp [optT])
    simp only [evP]; rw [ev_congr (x := x) (fun t ht => h t (.inl (.inl ht)))]; simp only [hb]
  | ext x i => simp only [evP]; rw [ev_congr h]
  | len c x => cases c <;> simp only [evP] <;> rw [ev_congr h]
  | mm mx xs => simp only [evP]; rw [evs_congr h]
  | _ => rfl

theorem allocB_congr {T T' : Tm} {op : O} (h : ∀ t, t ∈ op.reads → T.get t = T'.get t) : allocB T op = allocB T' op := by
  cases op with
  | box imm x => cases imm <;> simp only [allocB]; rw [ev_congr h]
  | buildSl m len size z ps => cases m <;> simp only [allocB]; rw [evps_congr h]
  | mkSl size bytes z x y =>
    simp only [O.reads, List.mem_append] at h
    simp only [allocB]; rw [ev_congr (x := x) (fun t ht => h t (.inl ht)), ev_congr (x := y) (fun t ht => h t (.inr ht))]
  | _ => rfl

theorem evH_congr {T T' : Tm} {H : Heap} {op : O} (h : ∀ t, t ∈ op.reads → T.get t = T'.get t) : evH T H op = evH T' H op := by
  have rest : (match allocB T op with | some (f, b) => some (f H.blks.length, some (H.push b)) | none => none) = (match allocB T' op with | some (f, b) => some (f H.blks.length, some (H.push b)) | none => none) := by
    rw [allocB_congr h]
  cases op with
  | load n x => simp only [evH]; rw [ev_congr h]
  | store n x y =>
    simp only [O.reads, List.mem_append] at h
    simp only [evH]; rw [ev_congr (x := x) (fun t ht => h t (.inl ht)), ev_congr (x := y) (fun t ht => h t (.inr ht))]
  | look kc z x y ok =>
    simp only [O.reads, List.mem_append] at h
    simp only [evH]; rw [ev_congr (x := x) (fun t ht => h t (.inl ht)), ev_congr (x := y) (fun t ht => h t (.inr ht))]
  | mapUpd kc x y z =>
    simp only [O.reads, List.mem_append] at h
    simp only [evH]; rw [ev_congr (x := x) (fun t ht => h t (.inl (.inl ht))), ev_congr (x := y) (fun t ht => h t (.inl (.inr ht))), ev_congr (x := z) (fun t ht => h t (.inr ht))]
  | app m size bytes x y =>
    simp only [O.reads, List.mem_append] at h
    simp only [evH]; rw [ev_congr (x := x) (fun t ht => h t (.inl ht)), ev_congr (x := y) (fun t ht => h t (.inr ht))]
  | len c x => cases c with
    | map => simp only [evH]; rw [ev_congr h]
    | str => exact rest
    | slice => exact rest
  | clr size z x => simp only [evH]; rw [ev_congr h]
  | _ => exact rest

theorem wanted_congr {T T' : Tm} {g : Option (Nat × Bool)} (h : ∀ t b, g = some (t, b) → T.get t = T'.get t) : wanted T g = wanted T' g := by
  cases g with
  | none => rfl
  | some p => obtain ⟨t, b⟩ := p; simp only [wanted, h t b rfl]

theorem evIns_congr {E : Env} {T T' : Tm} {H : Heap} {x : Ins} {n : Nat} (h : ∀ t, t ∈ x.reads → T.get t = T'.get t) : evIns E n x T H = evIns E n x T' H := by
  have h' : ∀ t, t ∈ x.op.reads → T.get t = T'.get t := fun t ht => h t (by simp [Ins.reads, ht])
  cases n with
  | zero => simp only [evIns]
  | succ n =>
    simp only [evIns, evP_congr h', evH_congr (H := H) h']
    cases hop : x.op with
    | call f args =>
      rw [hop] at h'
      simp only [evs_congr h']
    | callv y args =>
      rw [hop] at h'
      simp only [O.reads, List.mem_append] at h'
      simp only [ev_congr (x := y) (fun t ht => h' t (.inl ht)), evs_congr (xs := args) (fun t ht => h' t (.inr ht))]
    | _ => rfl

/-! ### what was done, operation by operation -/
def StepF (E : Env) (n : Nat) (head : Nat) (imp : List Nat) (i : Nat) (x : Ins) (T T' : Tm) (H H' : Heap) (r : V) : Prop :=
  T' = put T x.dst r ∧ ((wanted T x.guard = some false ∧ r = .tup [] ∧ H' = H) ∨
    (wanted T x.guard = some true ∧ ((i < head ∧ i ∉ imp ∧ evP T x.op = some r ∧ H' = H) ∨ (i < head ∧ i ∈ imp ∧ (∃ m, m ≤ n ∧ evIns E m x T H = some (r, none)) ∧ H' = H) ∨
      (head ≤ i ∧ ∃ m oH, m ≤ n ∧ evIns E m x T H = some (r, oH) ∧ H' = oH.getD H))))

theorem StepF.mono {E : Env} {n n' head : Nat} {imp : List Nat} {i : Nat} {x : Ins} {T T' : Tm} {H H' : Heap} {r : V} (hn : n ≤ n') (h : StepF E n head imp i x T T' H H' r) : StepF E n' head imp i x T T' H H' r := by
  obtain ⟨q1, q2⟩ := h
  refine ⟨q1, ?_⟩
  rcases q2 with q | ⟨a, b | ⟨c1, c2, ⟨m, c3, c4⟩, c5⟩ | ⟨c1, m, oH, c2, c3⟩⟩
  · exact .inl q
  · exact .inr ⟨a, .inl b⟩
  · exact .inr ⟨a, .inr (.inl ⟨c1, c2, ⟨m, by omega, c4⟩, c5⟩)⟩
  · exact .inr ⟨a, .inr (.inr ⟨c1, m, oH, by omega, c3⟩)⟩

theorem tr_heads {E : Env} {head : Nat} {imp : List Nat} {H : Heap} : ∀ {n j : Nat} {is : List Ins} {T T1 : Tm}, evHeads E n j imp is T H = some T1 → j + is.length ≤ head →
    ∃ (Tn : Nat → Tm) (r : Nat → V), Tn 0 = T ∧ Tn is.length = T1 ∧ ∀ i x, is[i]? = some x → StepF E n head imp (j + i) x (Tn i) (Tn (i + 1)) H H (r i)
  | 0, _, _, _, _, h, _ => by simp [evHeads] at h
  | n + 1, j, [], T, T1, h, _ => by
    simp only [evHeads, Option.some.injEq] at h
    exact ⟨fun _ => T, fun _ => .tup [], rfl, h, by simp⟩
  | n + 1, j, x :: is, T, T1, h, hj => by
    have key : ∀ (v : V), evHeads E n (j + 1) imp is (put T x.dst v) H = some T1 → StepF E (n + 1) head imp j x T (put T x.dst v) H H v →
        ∃ (Tn : Nat → Tm) (r : Nat → V), Tn 0 = T ∧ Tn (x :: is).length = T1 ∧ ∀ i y, (x :: is)[i]? = some y → StepF E (n + 1) head imp (j + i) y (Tn i) (Tn (i + 1)) H H (r i) := by
      intro v hv hs
      obtain ⟨Tn, r, h1, h2, h3⟩ := tr_heads (head := head) (imp := imp) hv (by simp at hj; omega)
      refine ⟨fun i => match i with | 0 => T | i + 1 => Tn i, fun i => match i with | 0 => v | i + 1 => r i, rfl, h2, fun i y hy => ?_⟩
      cases i with
      | zero =>
        simp at hy
        subst hy
        simp only [Nat.add_zero, h1]
        exact hs
      | succ i =>
        have := h3 i y (by simpa using hy)
        rw [show j + 1 + i = j + (i + 1) by omega] at this
        exact this.mono (Nat.le_succ n)
    have hlt : j < head := by simp at hj; omega
    simp only [evHeads] at h
    split at h
    · simp at h
    · rename_i hw
      exact key _ h ⟨rfl, .inl ⟨hw, rfl, rfl⟩⟩
    · rename_i hw
      split at h
      · rename_i hi
        split at h
        · rename_i v hv
          exact key v h ⟨rfl, .inr ⟨hw, .inr (.inl ⟨hlt, by simpa using hi, ⟨n, by omega, hv⟩, rfl⟩)⟩⟩
        · simp at h
      · rename_i hi
        split at h
        · rename_i v hv
          exact key v h ⟨rfl, .inr ⟨hw, .inl ⟨hlt, by simpa using hi, hv, rfl⟩⟩⟩
        · simp at h

theorem tr_regs {E : Env} {head : Nat} {imp : List Nat} : ∀ {n j : Nat} {is : List Ins} {T T1 : Tm} {H H1 : Heap}, evReg E n is T H = some (T1, H1) → head ≤ j →
    ∃ (Tn : Nat → Tm) (Hn : Nat → Heap) (r : Nat → V), Tn 0 = T ∧ Hn 0 = H ∧ Tn is.length = T1 ∧ Hn is.length = H1 ∧ ∀ i x, is[i]? = some x → StepF E n head imp (j + i) x (Tn i) (Tn (i + 1)) (Hn i) (Hn (i + 1)) (r i)
  | 0, _, _, _, _, _, _, h, _ => by simp [evReg] at h
  | n + 1, j, [], T, T1, H, H1, h, _ => by
    simp only [evReg, Option.some.injEq, Prod.mk.injEq] at h
    exact ⟨fun _ => T, fun _ => H, fun _ => .tup [], rfl, rfl, h.1, h.2, by simp⟩
  | n + 1, j, x :: is, T, T1, H, H1, h, hj => by
    have key : ∀ (v : V) (H2 : Heap), evReg E n is (put T x.dst v) H2 = some (T1, H1) → StepF E (n + 1) head imp j x T (put T x.dst v) H H2 v →
        ∃ (Tn : Nat → Tm) (Hn : Nat → Heap) (r : Nat → V), Tn 0 = T ∧ Hn 0 = H ∧ Tn (x :: is).length = T1 ∧ Hn (x :: is).length = H1 ∧ ∀ i y, (x :: is)[i]? = some y → StepF E (n + 1) head imp (j + i) y (Tn i) (Tn (i + 1)) (Hn i) (Hn (i + 1)) (r i) := by
      intro v H2 hv hs
      obtain ⟨Tn, Hn, r, h1, h1', h2, h2', h3⟩ := tr_regs (head := head) (imp := imp) hv (show head ≤ j + 1 by omega)
      refine ⟨fun i => match i with | 0 => T | i + 1 => Tn i, fun i => match i with | 0 => H | i + 1 => Hn i, fun i => match i with | 0 => v | i + 1 => r i, rfl, rfl, h2, h2', fun i y hy => ?_⟩
      cases i with
      | zero =>
        simp at hy
        subst hy
        simp only [Nat.add_zero, h1, h1']
        exact hs
      | succ i =>
        have := h3 i y (by simpa using hy)
        rw [show j + 1 + i = j + (i + 1) by omega] at this
        exact this.mono (Nat.le_succ n)
    simp only [evReg] at h
    split at h
    · simp at h
    · rename_i hw
      exact key _ _ h ⟨rfl, .inl ⟨hw, rfl, rfl⟩⟩
    · rename_i hw
      split at h
      · simp at h
      · rename_i v hv
        exact key v H h ⟨rfl, .inr ⟨hw, .inr (.inr ⟨hj, n, none, by omega, hv, rfl⟩)⟩⟩
      · rename_i v H2 hv
        exact key v H2 h ⟨rfl, .inr ⟨hw, .inr (.inr ⟨hj, n, some H2, by omega, hv, rfl⟩)⟩⟩

end Go.Ev
