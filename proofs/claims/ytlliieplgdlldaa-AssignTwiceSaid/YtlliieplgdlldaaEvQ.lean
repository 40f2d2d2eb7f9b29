/- The evaluator is right, along code and calls.
   Conditions: the evaluator's form fits the program's code ('EnvOk'). -/
import Derived.Test.YtlliieplgdlldaaEvW
namespace Go.Ev

section
variable {P : Program} {E : Env}

def CodeOk (P : Program) (E : Env) (n : Nat) : Prop :=
  ∀ (a : I) (T : Tm) (H : Heap) (x : Ex) (T' : Tm) (H' : Heap), evCode E n a T H = some (x, T', H') → ∀ (N : Nat) (c : Code), fitI P N a c = true →
    ∀ (e : Fr) (k : List Item) (cs : List Frame) (w : World) (mu : List Nat) (tmps : Array Value), tmps.size = N → R mu H.blks w → RelT (ctx mu H.blks w) T tmps →
      ∃ mu' tmps' w', Arr P (lone (mkF e tmps (.code c :: k)) cs w) e k cs x tmps' w' ∧
        Ext (ctx mu H.blks w) (ctx mu' H'.blks w') ∧ R mu' H'.blks w' ∧ RelT (ctx mu' H'.blks w') T' tmps' ∧ tmps'.size = N ∧ Keeps H H'

theorem frz_ok {H : Heap} {mu : List Nat} {w : World} (hR : R mu H.blks w) {v v' : V} {H' : Heap} (h : frzV H v = some (v', H')) {u : Value} (hr : Rep (ctx mu H.blks w) v u) :
    Ext (ctx mu H.blks w) (ctx mu H'.blks w) ∧ R mu H'.blks w ∧ Rep (ctx mu H'.blks w) v' u ∧ Keeps H H' := by
  have main : ∀ (b k off : Nat) (cs : List V), H.blks[b]? = some (.cells cs) → mu[b]? = some k →
      Ext (ctx mu H.blks w) (ctx mu (H.blks.set b .dead) w) ∧ R mu (H.blks.set b .dead) w ∧ RepAt (ctx mu (H.blks.set b .dead) w) k off ((cs.drop off).map V.strip1) := by
    intro b k off cs hb hk
    obtain ⟨arr, et, fz, a1, a2, a3, a4, a5⟩ := hR.ok b k _ hb hk
    simp only [ctx] at a1
    obtain ⟨g1, g2⟩ := killR hR hb hk rfl
    refine ⟨g1, g2, RepAt.of_get fun i x hx => ?_⟩
    rw [List.getElem?_map, List.getElem?_drop] at hx
    simp only [Option.map_eq_some_iff] at hx
    obtain ⟨y, hy, rfl⟩ := hx
    obtain ⟨uy, q1, q2⟩ := a4.get _ y hy
    refine ⟨uy, ?_, ?_, (Rep.mono g1 _ _ q2).strip1, ?_⟩
    · show World.cell? w _ = _
      rw [cell_of_heap a1]
      rw [List.getElem?_take] at q1
      split at q1
      · simpa using q1
      · simp at q1
    · rintro ⟨i1, b1, f1, f2, f3⟩
      rw [List.getElem?_set] at f1
      split at f1
      · split at f1
        · simp only [Option.some.injEq] at f1
          subst f1
          exact f3
        · simp at f1
      · rename_i hne
        exact hne (hR.inj b i1 k _ b1 hb f1 rfl (ABlk.owns_live f3) hk f2)
    · rw [isCell_strip1]
      rw [List.all_eq_true] at a5
      exact a5 y (List.mem_of_getElem? hy)
  unfold frzV at h
  split at h
  · rename_i b off len esz cap
    split at h <;> simp only [Option.some.injEq, reduceCtorEq, Prod.mk.injEq] at h
    rename_i cs hb
    obtain ⟨rfl, rfl⟩ := h
    simp only [Rep, ctx] at hr
    obtain ⟨k, cap', hk, rfl, hc, _⟩ := hr
    obtain ⟨g1, g2, g3⟩ := main b k off cs hb hk
    refine ⟨g1, g2, ?_, Keeps.write _ _ _⟩
    simp only [Rep]
    exact ⟨⟨k, off, none⟩, cap', rfl, .inr rfl, hc, by rw [List.map_take]; exact g3.take _, trivial⟩
  · rename_i b off
    split at h <;> simp only [Option.some.injEq, reduceCtorEq, Prod.mk.injEq] at h
    rename_i cs hb
    obtain ⟨rfl, rfl⟩ := h
    simp only [Rep, ctx] at hr
    obtain ⟨k, hk, rfl⟩ := hr
    obtain ⟨g1, g2, g3⟩ := main b k off cs hb hk
    refine ⟨g1, g2, ?_, Keeps.write _ _ _⟩
    simp only [Rep]
    exact ⟨k, off, rfl, g3⟩
  · simp only [Option.some.injEq, Prod.mk.injEq] at h
    obtain ⟨rfl, rfl⟩ := h
    exact ⟨Ext.refl _, hR, hr, Keeps.refl _⟩

def LoopOk (P : Program) (E : Env) (n : Nat) : Prop :=
  ∀ (a : I) (T : Tm) (H : Heap) (x : Ex) (T' : Tm) (H' : Heap), evCode E n (.loop a) T H = some (x, T', H') → ∀ (N : Nat) (c : Code), fitI P N a c = true →
    ∀ (e : Fr) (k : List Item) (cs : List Frame) (w : World) (mu : List Nat) (tmps : Array Value), tmps.size = N → R mu H.blks w → RelT (ctx mu H.blks w) T tmps →
      ∃ mu' tmps' w', Arr P (lone (mkF e tmps (.inLoop c :: k)) cs w) e k cs x tmps' w' ∧
        Ext (ctx mu H.blks w) (ctx mu' H'.blks w') ∧ R mu' H'.blks w' ∧ RelT (ctx mu' H'.blks w') T' tmps' ∧ tmps'.size = N ∧ Keeps H H'

theorem loop_from {n : Nat} (ih : CodeOk P E n) (ihL : LoopOk P E n) {a : I} {T : Tm} {H : Heap} {x : Ex} {T' : Tm} {H' : Heap} (h : evCode E (n + 1) (.loop a) T H = some (x, T', H')) {N : Nat} {c : Code} (hf : fitI P N a c = true)
    (e : Fr) (k : List Item) (cs : List Frame) (w : World) (mu : List Nat) (tmps : Array Value) (hN : tmps.size = N) (hR : R mu H.blks w) (hT : RelT (ctx mu H.blks w) T tmps) :
      ∃ mu' tmps' w', Arr P (lone (mkF e tmps (.code c :: .inLoop c :: k)) cs w) e k cs x tmps' w' ∧
        Ext (ctx mu H.blks w) (ctx mu' H'.blks w') ∧ R mu' H'.blks w' ∧ RelT (ctx mu' H'.blks w') T' tmps' ∧ tmps'.size = N ∧ Keeps H H' := by
  simp only [evCode] at h
  split at h
  · rename_i T1 H1 ha
    obtain ⟨mu1, tmps1, w1, a1, a2, a3, a4, a5, a6⟩ := ih a T H .normal T1 H1 ha N c hf e (.inLoop c :: k) cs w mu tmps hN hR hT
    obtain ⟨mu', tmps', w', b1, b2, b3, b4, b5, b6⟩ := ihL a T1 H1 x T' H' h N c hf e k cs w1 mu1 tmps1 a5 a3 a4
    exact ⟨mu', tmps', w', Arr.of_steps a1 b1, a2.trans b2, b3, b4, b5, a6.trans b6⟩
  · rename_i hne
    obtain ⟨mu', tmps', w', b1, b2⟩ := ih a T H x T' H' h N c hf e (.inLoop c :: k) cs w mu tmps hN hR hT
    have hx : x ≠ .normal := by
      rintro rfl
      exact hne _ _ h
    exact ⟨mu', tmps', w', Arr.pass (y := .inLoop c) (fun _ => rfl) hx b1, b2⟩

theorem loop_ok {n : Nat} (ih : CodeOk P E n) (ihL : LoopOk P E n) : LoopOk P E (n + 1) := by
  intro a T H x T' H' h N c hf e k cs w mu tmps hN hR hT
  obtain ⟨mu', tmps', w', b1, b2⟩ := loop_from ih ihL h hf e k cs w mu tmps hN hR hT
  exact ⟨mu', tmps', w', Arr.of_steps (.one s_inLoop) b1, b2⟩

theorem code_ok {n : Nat} (hReg : RegOk P E n) (hDraw : DrawOk P E n) (hDrawA : DrawAOk P E n) (hDrawC : DrawCOk P E n) (ih : CodeOk P E n) (ihL : LoopOk P E n) : CodeOk P E (n + 1) := by
  intro a T H x T' H' h N c hf e k cs w mu tmps hN hR hT
  cases a with
  | frz t a =>
    simp only [fitI] at hf
    simp only [evCode] at h
    split at h <;> try simp only [reduceCtorEq] at h
    rename_i v hv
    split at h <;> try simp only [reduceCtorEq] at h
    rename_i v' H1 hz
    obtain ⟨u, h1, h2⟩ := hT.get t v hv
    obtain ⟨g1, g2, g3, g4⟩ := frz_ok hR hz h2
    have hT2 : RelT (ctx mu H1.blks w) (T.set t v') tmps := by
      refine ⟨fun t2 y hy => ?_⟩
      rw [get_set] at hy
      split at hy
      · rename_i e0
        subst e0
        simp only [Option.some.injEq] at hy
        subst hy
        exact ⟨u, h1, g3⟩
      · obtain ⟨u2, q1, q2⟩ := hT.get t2 y hy
        exact ⟨u2, q1, Rep.mono g1 _ _ q2⟩
    obtain ⟨mu', tmps', w', a1, a2, a3, a4, a5, a6⟩ := ih a _ H1 x T' H' h N c hf e k cs w mu tmps hN g2 hT2
    exact ⟨mu', tmps', w', a1, g1.trans a2, a3, a4, a5, g4.trans a6⟩
  | frzA a t =>
    simp only [fitI] at hf
    simp only [evCode] at h
    split at h
    · rename_i T1 H1 ha
      obtain ⟨mu1, tmps1, w1, b1, b2, b3, b4, b5, b6⟩ := ih a T H .normal T1 H1 ha N c hf e k cs w mu tmps hN hR hT
      split at h <;> try simp only [reduceCtorEq] at h
      rename_i v hv
      split at h <;> simp only [reduceCtorEq, Option.some.injEq, Prod.mk.injEq] at h
      rename_i v' H2 hz
      obtain ⟨rfl, rfl, rfl⟩ := h
      obtain ⟨u, h1, h2⟩ := b4.get t v hv
      obtain ⟨g1, g2, g3, g4⟩ := frz_ok b3 hz h2
      refine ⟨mu1, tmps1, w1, b1, b2.trans g1, g2, ⟨fun t2 y hy => ?_⟩, b5, b6.trans g4⟩
      rw [get_set] at hy
      split at hy
      · rename_i e0
        subst e0
        simp only [Option.some.injEq] at hy
        subst hy
        exact ⟨u, h1, g3⟩
      · obtain ⟨u2, q1, q2⟩ := b4.get t2 y hy
        exact ⟨u2, q1, Rep.mono g1 _ _ q2⟩
    · exact ih a T H x T' H' h N c hf e k cs w mu tmps hN hR hT
  | skip =>
    simp only [evCode, Option.some.injEq, Prod.mk.injEq] at h
    obtain ⟨rfl, rfl, rfl⟩ := h
    cases c <;> simp only [fitI, Bool.false_eq_true] at hf
    · exact ⟨mu, tmps, w, .one s_skip, Ext.refl _, hR, hT, hN, Keeps.refl _⟩
    · exact ⟨mu, tmps, w, .one s_label, Ext.refl _, hR, hT, hN, Keeps.refl _⟩
  | exit id =>
    simp only [evCode, Option.some.injEq, Prod.mk.injEq] at h
    obtain ⟨rfl, rfl, rfl⟩ := h
    cases c <;> simp only [fitI, Bool.false_eq_true, decide_eq_true_eq] at hf
    subst hf
    exact ⟨mu, tmps, w, ⟨k, .refl P _, rfl⟩, Ext.refl _, hR, hT, hN, Keeps.refl _⟩
  | ret =>
    simp only [evCode, Option.some.injEq, Prod.mk.injEq] at h
    obtain ⟨rfl, rfl, rfl⟩ := h
    cases c <;> simp only [fitI, Bool.false_eq_true] at hf
    exact ⟨mu, tmps, w, ⟨k, .refl P _⟩, Ext.refl _, hR, hT, hN, Keeps.refl _⟩
  | reg ops keep =>
    cases c <;> try simp only [fitI, Bool.false_eq_true] at hf
    rename_i id ops' draw
    cases draw <;> simp only [fitI, Bool.false_eq_true] at hf
    simp only [evCode] at h
    split at h <;> simp only [Option.some.injEq, reduceCtorEq, Prod.mk.injEq] at h
    rename_i T1 H1 hr
    obtain ⟨rfl, rfl, rfl⟩ := h
    have hl : (List.range ops'.size).map (ops'[·]?) = ops'.toList.map some := by
      apply List.ext_getElem?
      intro i
      by_cases hi : i < ops'.size
      · simp [hi]
      · simp [hi]
    obtain ⟨mu', tmps', w', a1, a2, a3, a4, a5, a6⟩ := hReg ops T H T1 H1 hr N ops' ops'.toList hf _ hl e k cs w mu tmps hN hR hT
    exact ⟨mu', tmps', w', .head s_region (a1.trans (.one s_end)), a2, a3, a4.keep keep, a5, a6⟩
  | draw ops head imp keep =>
    cases c <;> try simp only [fitI, Bool.false_eq_true] at hf
    rename_i id ops' draw
    cases draw <;> simp only [fitI, Bool.false_eq_true] at hf
    simp only [evCode] at h
    split at h <;> try simp only [reduceCtorEq] at h
    rename_i T1 hh
    split at h <;> simp only [Option.some.injEq, reduceCtorEq, Prod.mk.injEq] at h
    rename_i T2 H2 hr
    obtain ⟨rfl, rfl, rfl⟩ := h
    have hg := Grows.drew w
    obtain ⟨mu', tmps', w', a1, a2, a3, a4, a5, a6⟩ := hDraw ops head imp T H T1 T2 H2 hh hr N ops' hf e (w.tape w.drawn (.order e.fn id)) k cs { w with drawn := w.drawn + 1 } mu tmps hN (hg.R hR) (hT.mono hg.ext)
    exact ⟨mu', tmps', w', .head s_draw (a1.trans (.one s_end)), hg.ext.trans a2, a3, a4.keep keep, a5, a6⟩
  | drawA ops head al keep =>
    cases c <;> try simp only [fitI, Bool.false_eq_true] at hf
    rename_i id ops' draw
    cases draw <;> simp only [fitI, Bool.false_eq_true] at hf
    simp only [evCode] at h
    split at h <;> try simp only [reduceCtorEq] at h
    rename_i T1 bs hh
    split at h <;> simp only [Option.some.injEq, reduceCtorEq, Prod.mk.injEq] at h
    rename_i T2 H2 hr
    obtain ⟨rfl, rfl, rfl⟩ := h
    have hg := Grows.drew w
    obtain ⟨mu', tmps', w', a1, a2, a3, a4, a5, a6⟩ := hDrawA ops head al T H T1 bs T2 H2 hh hr N ops' hf e (w.tape w.drawn (.order e.fn id)) k cs { w with drawn := w.drawn + 1 } mu tmps hN (hg.R hR) (hT.mono hg.ext)
    exact ⟨mu', tmps', w', .head s_draw (a1.trans (.one s_end)), hg.ext.trans a2, a3, a4.keep keep, a5, a6⟩
  | drawC ops ch keep =>
    cases c <;> try simp only [fitI, Bool.false_eq_true] at hf
    rename_i id ops' draw
    cases draw <;> simp only [fitI, Bool.false_eq_true] at hf
    simp only [evCode] at h
    split at h <;> simp only [Option.some.injEq, reduceCtorEq, Prod.mk.injEq] at h
    rename_i T2 H2 hr
    obtain ⟨rfl, rfl, rfl⟩ := h
    have hg := Grows.drew w
    obtain ⟨mu', tmps', w', a1, a2, a3, a4, a5, a6⟩ := hDrawC ops ch T H T2 H2 hr N ops' hf e (w.tape w.drawn (.order e.fn id)) k cs { w with drawn := w.drawn + 1 } mu tmps hN (hg.R hR) (hT.mono hg.ext)
    exact ⟨mu', tmps', w', .head s_draw (a1.trans (.one s_end)), hg.ext.trans a2, a3, a4.keep keep, a5, a6⟩
  | seq a b =>
    cases c <;> simp only [fitI, Bool.false_eq_true, Bool.and_eq_true] at hf
    rename_i c d
    simp only [evCode] at h
    split at h
    · rename_i T1 H1 ha
      obtain ⟨mu1, tmps1, w1, a1, a2, a3, a4, a5, a6⟩ := ih a T H .normal T1 H1 ha N c hf.1 e (.code d :: k) cs w mu tmps hN hR hT
      obtain ⟨mu', tmps', w', b1, b2, b3, b4, b5, b6⟩ := ih b T1 H1 x T' H' h N d hf.2 e k cs w1 mu1 tmps1 a5 a3 a4
      exact ⟨mu', tmps', w', Arr.of_steps (.head s_seq a1) b1, a2.trans b2, b3, b4, b5, a6.trans b6⟩
    · rename_i hne
      obtain ⟨mu', tmps', w', b1, b2⟩ := ih a T H x T' H' h N c hf.1 e (.code d :: k) cs w mu tmps hN hR hT
      have hx : x ≠ .normal := by
        rintro rfl
        exact hne _ _ h
      exact ⟨mu', tmps', w', Arr.of_steps (.one s_seq) (Arr.pass (y := .code d) (fun _ => rfl) hx b1), b2⟩
  | cond o a b =>
    cases c <;> simp only [fitI, Bool.false_eq_true, Bool.and_eq_true] at hf
    rename_i o' c d
    obtain ⟨⟨h1, h2⟩, h3⟩ := hf
    simp only [evCode] at h
    split at h
    · rename_i ho
      have := lit_spec (ev_spec hT ho h1)
      obtain ⟨mu', tmps', w', b1, b2⟩ := ih a T H x T' H' h N c h2 e k cs w mu tmps hN hR hT
      exact ⟨mu', tmps', w', Arr.of_steps (.one (s_cond this)) (by simpa using b1), b2⟩
    · rename_i ho
      have := lit_spec (ev_spec hT ho h1)
      obtain ⟨mu', tmps', w', b1, b2⟩ := ih b T H x T' H' h N d h3 e k cs w mu tmps hN hR hT
      exact ⟨mu', tmps', w', Arr.of_steps (.one (s_cond this)) (by simpa using b1), b2⟩
    · simp at h
  | block id a =>
    cases c <;> simp only [fitI, Bool.false_eq_true, Bool.and_eq_true, decide_eq_true_eq] at hf
    rename_i id' c
    obtain ⟨rfl, h2⟩ := hf
    simp only [evCode] at h
    split at h
    · rename_i j T1 H1 ha
      obtain ⟨mu', tmps', w', b1, b2⟩ := ih a T H (.exit j) T1 H1 ha N c h2 e (.inBlock id :: k) cs w mu tmps hN hR hT
      obtain ⟨k2, s1, s2⟩ := b1
      split at h <;> simp only [Option.some.injEq, Prod.mk.injEq] at h <;> obtain ⟨rfl, rfl, rfl⟩ := h
      · rename_i hj
        subst hj
        have hex : exitTo j k2 = some k := by rw [s2]; simp [exitTo]
        exact ⟨mu', tmps', w', .head s_block (s1.trans (.one (s_exit hex))), b2⟩
      · rename_i hj
        refine ⟨mu', tmps', w', ⟨k2, .head s_block s1, ?_⟩, b2⟩
        rw [s2]
        have : (id == j) = false := by simp; exact fun e => hj e.symm
        simp [exitTo, this]
    · rename_i hne
      obtain ⟨mu', tmps', w', b1, b2⟩ := ih a T H x T' H' h N c h2 e (.inBlock id :: k) cs w mu tmps hN hR hT
      cases x with
      | normal => exact ⟨mu', tmps', w', .head s_block (Steps.trans b1 (.one s_inBlock)), b2⟩
      | exit j => exact absurd h (hne _ _ _)
      | ret => exact ⟨mu', tmps', w', Arr.of_steps (x := .ret) (.one s_block) b1, b2⟩
  | loop a =>
    cases c <;> simp only [fitI, Bool.false_eq_true] at hf
    rename_i c
    obtain ⟨mu', tmps', w', b1, b2⟩ := loop_from ih ihL h hf e k cs w mu tmps hN hR hT
    exact ⟨mu', tmps', w', Arr.of_steps (.one s_loop) b1, b2⟩
  | scope a =>
    cases c <;> simp only [fitI, Bool.false_eq_true] at hf
    rename_i c
    simp only [evCode] at h
    obtain ⟨mu', tmps', w', b1, b2⟩ := ih a T H x T' H' h N c hf e (.inScope c :: k) cs w mu tmps hN hR hT
    cases x with
    | normal => exact ⟨mu', tmps', w', .head s_scope (Steps.trans b1 (.one s_inScope)), b2⟩
    | exit j =>
      obtain ⟨k2, s1, s2⟩ := b1
      exact ⟨mu', tmps', w', ⟨k2, .head s_scope s1, by rw [s2]; rfl⟩, b2⟩
    | ret => exact ⟨mu', tmps', w', Arr.of_steps (x := .ret) (.one s_scope) b1, b2⟩


/-! ### calls -/
theorem res_spec {mu : List Nat} {H : Heap} {w : World} (hR : R mu H.blks w) {T : Tm} {tmps : Array Value} (hT : RelT (ctx mu H.blks w) T tmps) : ∀ {rs : List ResV} {rs' : List ResultVar} {vs : List V}, resVs T H rs = some vs → fitRes P rs rs' = true →
    ∃ us : List Value, (rs'.mapM (fun (x : ResultVar) => match x with | .tmp t => (pure (tmps.getD t undef) : Sem Value) | .cell a t => do loadVar t (← asAddr (tmps.getD a undef)))).run P w = .ok us w ∧ Reps (ctx mu H.blks w) vs us
  | [], [], vs, h, _ => by
    simp only [resVs, Option.some.injEq] at h
    subst h
    exact ⟨[], by simp, by simp [Reps]⟩
  | .tmp t :: rs, .tmp t' :: rs', vs, h, hf => by
    simp only [fitRes, Bool.and_eq_true, decide_eq_true_eq] at hf
    obtain ⟨rfl, hf⟩ := hf
    simp only [resVs, resV] at h
    split at h
    · rename_i v hv
      split at h <;> simp only [Option.some.injEq, reduceCtorEq] at h
      rename_i vs' hvs
      subst h
      obtain ⟨us, h1, h2⟩ := res_spec hR hT hvs hf
      obtain ⟨u, q1, q2⟩ := hT.get t v hv
      have hu : tmps.getD t undef = u := by simp [Array.getD_eq_getD_getElem?, q1]
      refine ⟨u :: us, ?_, by simp only [Reps]; exact ⟨u, us, rfl, q2, h2⟩⟩
      rw [List.mapM_cons]
      simp only [Sem.run_bind, Sem.run_pure, Result.andThen_ok, h1, hu]
    · simp at h
  | .cell t n :: rs, .cell t' ty :: rs', vs, h, hf => by
    simp only [fitRes, Bool.and_eq_true, decide_eq_true_eq, beq_iff_eq] at hf
    obtain ⟨⟨rfl, ha⟩, hf⟩ := hf
    have main : ∀ {v : V}, resV T H (.cell t n) = some v → ∃ u a, (asAddr (tmps.getD t undef)).run P w = .ok a w ∧ (loadVar ty a).run P w = .ok u w ∧ Rep (ctx mu H.blks w) v u := by
      intro v hv
      simp only [resV] at hv
      split at hv
      · rename_i b off hb
        split at hv <;> try simp only [reduceCtorEq] at hv
        rename_i cs hcs
        obtain ⟨u, q1, q2⟩ := hT.get t _ hb
        simp only [Rep, ctx] at q2
        obtain ⟨k, hk, rfl⟩ := q2
        have hu : tmps.getD t undef = .pointer (some ⟨k, off, none⟩) := by simp [Array.getD_eq_getD_getElem?, q1]
        obtain ⟨arr, et, fz, a1, a2, a3, a4, a5⟩ := hR.ok b k _ hcs hk
        simp only [ctx] at a1
        obtain ⟨u, hu1, hu2⟩ := run_loadRow (P := P) (w := w) ha a4 a5 (fun j u hu => by
          rw [cell_of_heap a1]
          rw [List.getElem?_take] at hu
          split at hu
          · simpa using hu
          · simp at hu) hv
        exact ⟨u, _, by rw [hu]; simp [asAddr], hu1, hu2⟩
      · rename_i cs hb
        obtain ⟨u, q1, q2⟩ := hT.get t _ hb
        simp only [Rep] at q2
        obtain ⟨k, off, rfl, hr⟩ := q2
        have hu : tmps.getD t undef = .pointer (some ⟨k, off, none⟩) := by simp [Array.getD_eq_getD_getElem?, q1]
        obtain ⟨u, hu1, hu2⟩ := run_loadVar (P := P) ha hr hv
        exact ⟨u, _, by rw [hu]; simp [asAddr], hu1, hu2⟩
      · simp at hv
    simp only [resVs] at h
    split at h
    · rename_i v hv
      split at h <;> simp only [Option.some.injEq, reduceCtorEq] at h
      rename_i vs' hvs
      subst h
      obtain ⟨us, h1, h2⟩ := res_spec hR hT hvs hf
      obtain ⟨u, a, q1, q2, q3⟩ := main hv
      refine ⟨u :: us, ?_, by simp only [Reps]; exact ⟨u, us, rfl, q3, h2⟩⟩
      rw [List.mapM_cons]
      simp only [Sem.run_bind, Sem.run_pure, Result.andThen_ok, h1, q1, q2]
    · simp at h
  | [], _ :: _, _, _, hf => by simp [fitRes] at hf
  | _ :: _, [], _, _, hf => by simp [fitRes] at hf
  | .tmp _ :: _, .cell .. :: _, _, _, hf => by simp [fitRes] at hf
  | .cell .. :: _, .tmp _ :: _, _, _, hf => by simp [fitRes] at hf

theorem call_ok {n : Nat} (hE : EnvOk P E) (hC : CodeOk P E n) : CallsOk P E (n + 1) := by
  intro f args H v oH h
  simp only [evCall] at h
  split at h
  · rename_i g hg
    obtain ⟨h1, h2⟩ := hE.intr f g hg
    exact ⟨h1, h2 args H v oH h⟩
  · split at h
    · simp at h
    · rename_i fi hfi
      have hfit := hE.fn f fi hfi
      refine ⟨goodFn_of_fitF hfit, ?_⟩
      split at h
      · rename_i hlen
        split at h
        · rename_i x T' H' hev
          unfold fitF at hfit
          split at hfit <;> try (simp at hfit; done)
          rename_i fn hfn
          simp only [Bool.and_eq_true, decide_eq_true_eq] at hfit
          obtain ⟨⟨⟨hf1, _⟩, hf2⟩, hf3⟩ := hfit
          split at hf1 <;> try (simp at hf1; done)
          rename_i c hc
          have hres : ∃ vs, resVs T' H' fi.res = some vs ∧ finish fi.keepTok H (one vs) H' = (v, oH) ∧ (x = .normal ∨ x = .ret) := by
            cases x with
            | exit id => simp at h
            | normal =>
              simp only at h
              split at h <;> simp only [Option.some.injEq, reduceCtorEq] at h
              exact ⟨_, by assumption, h, .inl rfl⟩
            | ret =>
              simp only at h
              split at h <;> simp only [Option.some.injEq, reduceCtorEq] at h
              exact ⟨_, by assumption, h, .inr rfl⟩
          obtain ⟨vs, hvs, hfin, hx⟩ := hres
          intro mu w us cs hR hr
          have hus := hr.length
          let e : Fr := { fn := f, kind := .normal, round := none, defers := [] }
          have henter : Frame.enter P f us.toArray .normal = mkF e (us.toArray ++ Array.replicate (fn.ntmps - us.toArray.size) undef) [.code c] := by
            simp [Frame.enter, mkF, hfn, hc, e]
          have hT : RelT (ctx mu H.blks w) (Tm.init 0 args) (us.toArray ++ Array.replicate (fn.ntmps - us.toArray.size) undef) :=
            RelT.init 0 _ hr (fun j u hu => by
              have hj := (List.getElem?_eq_some_iff.1 hu).1
              rw [Nat.zero_add, Array.getElem?_append_left (by simpa using hj)]
              simpa using hu)
          obtain ⟨mu', tmps', w', b1, b2, b3, b4, b5, b6⟩ := hC fi.body _ ⟨H.blks, []⟩ x T' H' hev fn.ntmps c hf1 e [] cs w mu _ (by simp; omega) hR hT
          obtain ⟨us', r1, r2⟩ := res_spec b3 b4 hvs hf3
          have hrun : (results fn tmps').run P w' = .ok (if us'.toArray.size = 1 then us'.toArray.getD 0 undef else .tuple us'.toArray) w' := by
            have hm : (fn.results.mapM (fun (x : ResultVar) => match x with | .tmp t => (pure (tmps'.getD t undef) : Sem Value) | .cell a t => do loadVar t (← asAddr (tmps'.getD a undef)))).run P w' = .ok us'.toArray w' := by
              rw [Array.mapM_eq_mapM_toList]
              simp only [Sem.run_map, r1, Result.andThen_ok]
            unfold results
            rw [Sem.run_bind]
            refine (congrArg (fun z => Result.andThen z _) hm).trans ?_
            simp only [Result.andThen_ok, Sem.run_pure]
            congr 1
            by_cases h1 : us'.length = 1
            · have h1' : us'.toArray.size = 1 := by simpa using h1
              rw [dif_pos h1', if_pos h1']
              simp [Array.getD, h1]
            · have h1' : ¬ us'.toArray.size = 1 := by simpa using h1
              rw [dif_neg h1', if_neg h1']
          have hone : Rep (ctx mu' H'.blks w') (one vs) (if us'.toArray.size = 1 then us'.toArray.getD 0 undef else .tuple us'.toArray) := by
            have hl := r2.length
            match vs, r2 with
            | [], r2 =>
              have : us' = [] := by simpa [Reps] using r2
              subst this
              simp only [one, Rep]
              exact ⟨#[], rfl, by simp [Reps]⟩
            | [v], r2 =>
              simp only [Reps] at r2
              obtain ⟨u, us2, rfl, q1, rfl⟩ := r2
              simpa [one] using q1
            | v1 :: v2 :: vs, r2 =>
              have hne : us'.toArray.size ≠ 1 := by simp at hl ⊢; omega
              rw [if_neg hne]
              simp only [one, Rep]
              exact ⟨_, rfl, by simpa using r2⟩
          obtain ⟨mu2, g1, g2, g3, g4⟩ := finish_ok hR b2 b3 b6 hone hfin
          have hgo : ∃ fr, Steps P (lone (mkF e (us.toArray ++ Array.replicate (fn.ntmps - us.toArray.size) undef) [.code c]) cs w) (lone fr cs w') ∧ fr.fn = f ∧ fr.kind = .normal ∧ fr.mode = .returning ∧ fr.defers = [] ∧ fr.tmps = tmps' := by
            rcases hx with rfl | rfl
            · refine ⟨{ mkF e tmps' [] with mode := .returning }, Steps.trans b1 (.one ?_), rfl, rfl, rfl, rfl, rfl⟩
              exact step_lone_go (by simp [stepG, stepG.exec, mkF, e])
            · obtain ⟨k2, s⟩ := b1
              refine ⟨{ mkF e tmps' (.code .ret :: k2) with mode := .returning }, Steps.trans s (.one ?_), rfl, rfl, rfl, rfl, rfl⟩
              exact step_lone_go (by simp [stepG, stepG.exec, mkF, e])
          obtain ⟨fr, s1, s2, s3, s4, s5, s6⟩ := hgo
          rw [← henter] at s1
          exact ⟨mu2, w', _, fr, s1, s2, s3, s4, s5, ⟨fn, hfn, by rw [s6]; exact hrun⟩, g1, g2, g3, g4⟩
        · simp at h
      · simp at h

/-- THE EVALUATOR IS RIGHT -/
theorem sound (hE : EnvOk P E) : ∀ n, CallsOk P E n ∧ InsOk P E n ∧ RegOk P E n ∧ CodeOk P E n ∧ LoopOk P E n ∧ ∀ m, m ≤ n → InsOk P E m := by
  intro n
  induction n with
  | zero =>
    have hI : InsOk P E 0 := fun i T H v oH h => by simp [evIns] at h
    refine ⟨fun f args H v oH h => by simp [evCall] at h, hI, fun is T H T' H' h => by simp [evReg] at h, fun a T H x T' H' h => by simp [evCode] at h, fun a T H x T' H' h => by simp [evCode] at h, fun m hm => ?_⟩
    obtain rfl : m = 0 := by omega
    exact hI
  | succ n ih =>
    obtain ⟨h1, h2, h3, h4, h5, h6⟩ := ih
    have hI := ins_ok (n := n) h1
    refine ⟨call_ok hE h4, hI, reg_ok h2 h3, code_ok h3 (draw_ok h6) (drawA_ok h6) (drawC_ok h6) h4 h5, loop_ok h4 h5, fun m hm => ?_⟩
    by_cases e : m = n + 1
    · subst e; exact hI
    · exact h6 m (by omega)

theorem sound_call (hE : EnvOk P E) {n : Nat} {f : FuncId} {args : List V} {H : Heap} {v : V} {oH : Option Heap} (h : evCall E n f args H = some (v, oH)) : CallOk P f args H v oH :=
  ((sound hE n).1 f args H v oH h).2

end
end Go.Ev
