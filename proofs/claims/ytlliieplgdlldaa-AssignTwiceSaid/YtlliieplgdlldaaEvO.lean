/- Steps of the model along the code's forms.
   Conditions: none; plain lemmas. -/
import Derived.Test.YtlliieplgdlldaaEvN
namespace Go.Ev

structure Fr where
  fn : FuncId
  kind : CallKind
  round : Option Nat
  defers : List Deferred

def mkF (e : Fr) (tmps : Array Value) (todo : List Item) : Frame :=
  { fn := e.fn, tmps, todo, defers := e.defers, mode := .run, kind := e.kind, roundOf := e.round }

theorem eval_mkF (e : Fr) (tmps : Array Value) (todo : List Item) : (mkF e tmps todo).eval = ev1 tmps := by
  funext x
  cases x <;> rfl

section
variable {P : Program} {e : Fr} {t : Array Value} {k : List Item} {cs : List Frame} {w : World}

theorem s_skip : step P (lone (mkF e t (.code .skip :: k)) cs w) = .next (lone (mkF e t k) cs w) := step_lone_go (by simp [stepG, stepG.exec, mkF])
theorem s_label {l : Nat} : step P (lone (mkF e t (.code (.label l) :: k)) cs w) = .next (lone (mkF e t k) cs w) := step_lone_go (by simp [stepG, stepG.exec, mkF])
theorem s_inBlock {id : Nat} : step P (lone (mkF e t (.inBlock id :: k)) cs w) = .next (lone (mkF e t k) cs w) := step_lone_go (by simp [stepG, stepG.exec, mkF])
theorem s_inScope {c : Code} : step P (lone (mkF e t (.inScope c :: k)) cs w) = .next (lone (mkF e t k) cs w) := step_lone_go (by simp [stepG, stepG.exec, mkF])
theorem s_seq {x y : Code} : step P (lone (mkF e t (.code (.seq x y) :: k)) cs w) = .next (lone (mkF e t (.code x :: .code y :: k)) cs w) := step_lone_go (by simp [stepG, stepG.exec, mkF])
theorem s_cond {c : Operand} {x y : Code} {b : Bool} (h : ev1 t c = .bool b) : step P (lone (mkF e t (.code (.cond c x y) :: k)) cs w) = .next (lone (mkF e t (.code (if b then x else y) :: k)) cs w) :=
  step_lone_go (by
    have := congrFun (eval_mkF e t (.code (.cond c x y) :: k)) c
    simp only [mkF] at this
    simp [stepG, stepG.exec, mkF, this, h])
theorem s_block {id : Nat} {c : Code} : step P (lone (mkF e t (.code (.block id c) :: k)) cs w) = .next (lone (mkF e t (.code c :: .inBlock id :: k)) cs w) := step_lone_go (by simp [stepG, stepG.exec, mkF])
theorem s_loop {c : Code} : step P (lone (mkF e t (.code (.loop c) :: k)) cs w) = .next (lone (mkF e t (.code c :: .inLoop c :: k)) cs w) := step_lone_go (by simp [stepG, stepG.exec, mkF])
theorem s_inLoop {c : Code} : step P (lone (mkF e t (.inLoop c :: k)) cs w) = .next (lone (mkF e t (.code c :: .inLoop c :: k)) cs w) := step_lone_go (by simp [stepG, stepG.exec, mkF])
theorem s_scope {c : Code} : step P (lone (mkF e t (.code (.scope c) :: k)) cs w) = .next (lone (mkF e t (.code c :: .inScope c :: k)) cs w) := step_lone_go (by simp [stepG, stepG.exec, mkF])
theorem s_exit {id : Nat} {k' : List Item} (h : exitTo id k = some k') : step P (lone (mkF e t (.code (.exit id) :: k)) cs w) = .next (lone (mkF e t k') cs w) := step_lone_go (by simp [stepG, stepG.exec, mkF, h])
theorem s_region {id : Nat} {ops : Array Oper} : step P (lone (mkF e t (.code (.region id ops false) :: k)) cs w) = .next (lone (mkF e t (.inRegion ops (List.range ops.size) :: k)) cs w) := step_lone_go (by simp [stepG, stepG.exec, mkF])
theorem s_draw {id : Nat} {ops : Array Oper} : step P (lone (mkF e t (.code (.region id ops true) :: k)) cs w) =
    .next (lone (mkF e t (.inRegion ops (Region.schedule (P.follows .mixedOrders) ops (w.tape w.drawn (.order e.fn id))) :: k)) cs { w with drawn := w.drawn + 1 }) :=
  step_lone_go (by simp [stepG, stepG.exec, mkF, choose, Sem.run, Question.forced, Question.cut])
theorem s_end {ops : Array Oper} : step P (lone (mkF e t (.inRegion ops [] :: k)) cs w) = .next (lone (mkF e t k) cs w) := step_lone_go (by simp [stepG, stepG.exec, mkF])

def putA (t : Array Value) (d : Option Tmp) (v : Value) : Array Value :=
  match d with
  | some d => t.setIfInBounds d v
  | none => t

theorem finish_mkF (ops : Array Oper) (i : Nat) (rest : List Nat) (v : Value) :
    (mkF e t (.inRegion ops (i :: rest) :: k)).finish v = mkF e (putA t ((ops[i]?).bind (·.dst)) v) (.inRegion ops rest :: k) := by
  cases h : (ops[i]?).bind (·.dst) <;> simp [Frame.finish, mkF, putA, h]

theorem s_opSkip {ops : Array Oper} {i : Nat} {rest : List Nat} (h : ((ops[i]?).map (Region.wanted · (yielded ops t))).getD false = false) :
    step P (lone (mkF e t (.inRegion ops (i :: rest) :: k)) cs w) = .next (lone (mkF e (putA t ((ops[i]?).bind (·.dst)) undef) (.inRegion ops rest :: k)) cs w) := by
  rw [← finish_mkF]
  exact step_lone_go (by
    have h' := h
    simp only [mkF] at *
    simp [stepG, stepG.exec, h'])

theorem stepG_oper {ops : Array Oper} {i : Nat} {rest : List Nat} {o : Oper} (ho : ops[i]? = some o) (hw : Region.wanted o (yielded ops t) = true) (hd : ∀ c, o.op ≠ .defer c) :
    stepG P true { frame := mkF e t (.inRegion ops (i :: rest) :: k), callers := cs, status := .running, dying := none } w =
      stepG.apply P true (mkF e t (.inRegion ops (i :: rest) :: k)) cs none (execOp (ev1 t) o) w := by
  have he := eval_mkF e t (.inRegion ops (i :: rest) :: k)
  simp only [mkF] at he
  cases hr : e.round with
  | none =>
    rw [hr] at he
    simp [stepG, stepG.exec, stepG.oper, Frame.oper?, mkF, ho, hw, he, hr]
  | some l =>
    rw [hr] at he
    cases hop : o.op <;> first | exact absurd hop (hd _) | simp [stepG, stepG.exec, stepG.oper, Frame.oper?, mkF, ho, hw, he, hr, hop]

theorem s_op {ops : Array Oper} {i : Nat} {rest : List Nat} {o : Oper} (ho : ops[i]? = some o) (hw : Region.wanted o (yielded ops t) = true) (hd : ∀ c, o.op ≠ .defer c) {u : Value} {w' : World} (h : Yields P (execOp (ev1 t) o) w u w') :
    step P (lone (mkF e t (.inRegion ops (i :: rest) :: k)) cs w) = .next (lone (mkF e (putA t o.dst u) (.inRegion ops rest :: k)) cs w') := by
  have hf : ∀ v, (mkF e t (.inRegion ops (i :: rest) :: k)).finish v = mkF e (putA t o.dst v) (.inRegion ops rest :: k) := by
    intro v; rw [finish_mkF, ho]; rfl
  refine step_lone_go ?_
  rw [stepG_oper ho hw hd, ← hf]
  rcases h with h | ⟨h, rfl⟩
  · simp [stepG.apply, h]
  · simp [stepG.apply, h]

theorem s_call {ops : Array Oper} {i : Nat} {rest : List Nat} {o : Oper} (ho : ops[i]? = some o) (hw : Region.wanted o (yielded ops t) = true) (hd : ∀ c, o.op ≠ .defer c) {f : FuncId} {us : Array Value} {w' : World} (h : (execOp (ev1 t) o).run P w = .ok (.enter f us) w') :
    step P (lone (mkF e t (.inRegion ops (i :: rest) :: k)) cs w) = .next (lone (Frame.enter P f us .normal) (mkF e t (.inRegion ops (i :: rest) :: k) :: cs) w') := by
  refine step_lone_go ?_
  rw [stepG_oper ho hw hd]
  simp [stepG.apply, h, mkF]

end

/-! ### the frame's values -/
theorem get_set {t d : Nat} {v : V} : ∀ {T : Tm}, (T.set d v).get t = if d = t then some v else T.get t
  | [] => by
    simp only [Tm.set, Tm.get]
  | p :: r => by
    simp only [Tm.set]
    split
    · rename_i h
      simp only [Tm.get, h]
      split <;> rfl
    · rename_i h
      simp only [Tm.get, get_set (T := r)]
      split
      · rename_i h2
        rw [if_neg (fun e => h (h2.trans e.symm))]
      · rfl

theorem get_keep {t : Nat} {v : V} {T : Tm} : ∀ {l : List Nat}, (T.keep l).get t = some v → T.get t = some v
  | [], h => by simp [Tm.keep, Tm.get] at h
  | a :: l, h => by
    simp only [Tm.keep] at h
    split at h
    · rename_i u hu
      simp only [Tm.get] at h
      split at h
      · rename_i e
        subst e
        rw [hu]; exact h
      · exact get_keep h
    · exact get_keep h

theorem RelT.set {C : Ctx} {T : Tm} {tmps : Array Value} (hT : RelT C T tmps) {d : Nat} (hd : d < tmps.size) {v : V} {u : Value} (hr : Rep C v u) : RelT C (T.set d v) (tmps.setIfInBounds d u) :=
  ⟨fun t x h => by
    rw [get_set] at h
    split at h
    · rename_i e
      subst e
      simp only [Option.some.injEq] at h
      subst h
      exact ⟨u, by simp [Array.getElem?_setIfInBounds, hd], hr⟩
    · rename_i e
      obtain ⟨u', h1, h2⟩ := hT.get t x h
      exact ⟨u', by rw [Array.getElem?_setIfInBounds_ne e]; exact h1, h2⟩⟩

theorem RelT.put {C : Ctx} {T : Tm} {tmps : Array Value} (hT : RelT C T tmps) {d : Option Nat} (hd : ∀ x, d = some x → x < tmps.size) {v : V} {u : Value} (hr : Rep C v u) : RelT C (put T d v) (putA tmps d u) := by
  cases d with
  | none => exact hT
  | some d => exact hT.set (hd d rfl) hr

theorem RelT.keep {C : Ctx} {T : Tm} {tmps : Array Value} (hT : RelT C T tmps) (l : List Nat) : RelT C (T.keep l) tmps :=
  ⟨fun t v h => hT.get t v (get_keep h)⟩

theorem putA_size (t : Array Value) (d : Option Nat) (u : Value) : (putA t d u).size = t.size := by
  cases d <;> simp [putA]

theorem RelT.init {C : Ctx} : ∀ {vs : List V} {us : List Value} (i : Nat) (tmps : Array Value), Reps C vs us → (∀ (j : Nat) (u : Value), us[j]? = some u → tmps[i + j]? = some u) → RelT C (Tm.init i vs) tmps
  | [], us, i, tmps, _, _ => ⟨fun t v h => by simp [Tm.init, Tm.get] at h⟩
  | v :: vs, us, i, tmps, hr, h => by
    simp only [Reps] at hr
    obtain ⟨u, us', rfl, h1, h2⟩ := hr
    have ih := RelT.init (i + 1) tmps h2 (fun j x hx => by
      have := h (j + 1) x (by simpa using hx)
      rw [show i + (j + 1) = i + 1 + j by omega] at this
      exact this)
    refine ⟨fun t x hx => ?_⟩
    simp only [Tm.init, Tm.get] at hx
    split at hx
    · rename_i e
      subst e
      simp only [Option.some.injEq] at hx
      subst hx
      exact ⟨u, by simpa using h 0 u (by simp), h1⟩
    · exact ih.get t x hx

theorem wanted_spec {C : Ctx} {T : Tm} {tmps : Array Value} (hT : RelT C T tmps) {ops : Array Oper} {g : Option (Nat × Bool)} {o : Oper} (hf : fitG ops g o.guard = true) {b : Bool} (h : wanted T g = some b) : Region.wanted o (yielded ops tmps) = b := by
  unfold Region.wanted
  cases g with
  | none =>
    cases hg : o.guard with
    | none => simpa [wanted] using h
    | some x => simp [fitG, hg] at hf
  | some p =>
    obtain ⟨t, bb⟩ := p
    cases hg : o.guard with
    | none => simp [fitG, hg] at hf
    | some q =>
      obtain ⟨j, b'⟩ := q
      simp only [fitG, hg, Bool.and_eq_true, beq_iff_eq] at hf
      obtain ⟨rfl, hj⟩ := hf
      simp only [wanted] at h
      simp only [yielded, hj, Option.bind_some]
      split at h
      · rename_i c hc
        obtain ⟨u, h1, h2⟩ := hT.get t _ hc
        have := lit_spec h2
        subst this
        rw [h1]
        simp only [Option.some.injEq] at h
        simp only [← h]
        cases c <;> cases bb <;> rfl
      · rename_i hc
        obtain ⟨u, h1, h2⟩ := hT.get t _ hc
        simp only [Rep] at h2
        obtain ⟨us, rfl, _⟩ := h2
        rw [h1]
        simp only [Option.some.injEq] at h
        subst h
        rfl
      · simp at h

end Go.Ev
