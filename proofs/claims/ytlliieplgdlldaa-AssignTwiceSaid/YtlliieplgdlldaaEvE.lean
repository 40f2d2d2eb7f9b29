/- The operations that ask nothing of memory that may be written, one by one.
   Conditions: none; plain lemmas. -/
import Derived.Test.YtlliieplgdlldaaEvD
namespace Go.Ev

section
variable {P : Program} {mu : List Nat} {bs : List ABlk} {w : World} {T : Tm} {tmps : Array Value}

/-- the model does with this operation what the evaluator says, and memory only grows -/
def OkP (P : Program) (mu : List Nat) (bs : List ABlk) (tmps : Array Value) (w : World) (oper : Oper) (v : V) : Prop :=
  ∃ u w', Yields P (execOp (ev1 tmps) oper) w u w' ∧ Grows w w' ∧ Rep (ctx mu bs w') v u

theorem OkP.still {oper : Oper} {v : V} {u : Value} (h : (execOp (ev1 tmps) oper).run P w = .ok (.value u) w) (hr : Rep (ctx mu bs w) v u) : OkP P mu bs tmps w oper v :=
  ⟨u, w, .inl h, Grows.refl w, hr⟩

theorem p_mov (hT : RelT (ctx mu bs w) T tmps) {x : Opd} {v : V} (h : evP T (.mov x) = some v) {o : Oper} (hf : fitO P (.mov x) o.op = true) : OkP P mu bs tmps w o v := by
  obtain ⟨dst, op, ty, pos, after, guard⟩ := o
  cases op <;> simp only [fitO, Bool.false_eq_true] at hf
  · exact OkP.still (by simp [execOp]) (ev_spec hT h hf)
  · exact OkP.still (by simp [execOp]) (ev_spec hT h hf)

theorem lit_spec {C : Ctx} {l u : Value} (h : Rep C (.lit l) u) : u = l := by
  simp only [Rep] at h
  exact h.2

theorem rep_lit {C : Ctx} {l : Value} (h : inert l = true) : Rep C (.lit l) l := by
  simp [Rep, h]

theorem p_pick (hT : RelT (ctx mu bs w) T tmps) {c x y : Opd} {v : V} (h : evP T (.pick c x y) = some v) {o : Oper} (hf : fitO P (.pick c x y) o.op = true) : OkP P mu bs tmps w o v := by
  obtain ⟨dst, op, ty, pos, after, guard⟩ := o
  cases op <;> simp only [fitO, Bool.false_eq_true, Bool.and_eq_true] at hf
  obtain ⟨⟨h1, h2⟩, h3⟩ := hf
  simp only [evP] at h
  split at h
  · rename_i hc
    have e := lit_spec (ev_spec hT hc h1)
    exact OkP.still (by simp [execOp, asBool, e]) (ev_spec hT h h2)
  · rename_i hc
    have e := lit_spec (ev_spec hT hc h1)
    exact OkP.still (by simp [execOp, asBool, e]) (ev_spec hT h h3)
  · simp at h

theorem p_not (hT : RelT (ctx mu bs w) T tmps) {x : Opd} {v : V} (h : evP T (.not x) = some v) {o : Oper} (hf : fitO P (.not x) o.op = true) : OkP P mu bs tmps w o v := by
  obtain ⟨dst, op, ty, pos, after, guard⟩ := o
  cases op <;> simp only [fitO, Bool.false_eq_true] at hf
  rename_i uop t y
  cases uop <;> simp only [Bool.false_eq_true] at hf
  simp only [evP] at h
  split at h
  · rename_i b hc
    simp only [Option.some.injEq] at h
    subst h
    have e := lit_spec (ev_spec hT hc hf)
    exact OkP.still (u := .bool !b) (by simp [execOp, e, Op.unary]) (rep_lit rfl)
  · simp at h

theorem p_neg (hT : RelT (ctx mu bs w) T tmps) {x : Opd} {v : V} (h : evP T (.neg x) = some v) {o : Oper} (hf : fitO P (.neg x) o.op = true) : OkP P mu bs tmps w o v := by
  obtain ⟨dst, op, ty, pos, after, guard⟩ := o
  cases op <;> simp only [fitO, Bool.false_eq_true] at hf
  rename_i uop t y
  cases uop <;> simp only [Bool.false_eq_true] at hf
  simp only [evP] at h
  split at h
  · rename_i k n hc
    simp only [Option.some.injEq] at h
    subst h
    have e := lit_spec (ev_spec hT hc hf)
    exact OkP.still (by simp [execOp, e, Op.unary, Op.intArith]; rfl) (by simp only [Int.zero_sub]; exact rep_lit rfl)
  · simp at h

theorem p_conv (hT : RelT (ctx mu bs w) T tmps) {k : IntKind} {x : Opd} {v : V} (h : evP T (.conv k x) = some v) {o : Oper} (hf : fitO P (.conv k x) o.op = true) : OkP P mu bs tmps w o v := by
  obtain ⟨dst, op, ty, pos, after, guard⟩ := o
  cases op <;> simp only [fitO, Bool.false_eq_true, Bool.and_eq_true] at hf
  rename_i s d y
  obtain ⟨⟨h1, h2⟩, h3⟩ := hf
  simp only [evP] at h
  split at h
  · rename_i k0 n hc
    simp only [Option.some.injEq] at h
    subst h
    have e := lit_spec (ev_spec hT hc h3)
    obtain ⟨ds, hs⟩ := Option.isSome_iff_exists.1 h1
    split at h2
    · rename_i k' hk
      simp only [decide_eq_true_eq] at h2
      subst h2
      exact OkP.still (by simp [execOp, e, convert, run_underlying hs, run_underlying hk, Conv.intToInt]) (rep_lit rfl)
    · simp at h2
  · simp at h

theorem p_mkFn (hT : RelT (ctx mu bs w) T tmps) {f : FuncId} {a b : List Opd} {v : V} (h : evP T (.mkFn f a b) = some v) {o : Oper} (hf : fitO P (.mkFn f a b) o.op = true) : OkP P mu bs tmps w o v := by
  obtain ⟨dst, op, ty, pos, after, guard⟩ := o
  cases op <;> simp only [fitO, Bool.false_eq_true] at hf
  rename_i fn c d
  cases fn <;> simp only [fitO, Bool.false_eq_true, Bool.and_eq_true, decide_eq_true_eq] at hf
  obtain ⟨⟨rfl, h2⟩, h3⟩ := hf
  simp only [evP] at h
  split at h
  · rename_i a' b' ha hb
    simp only [Option.some.injEq] at h
    subst h
    refine OkP.still (by simp [execOp, Instr.makeFunc]; rfl) ?_
    simp only [Rep]
    exact ⟨_, _, rfl, by simpa using evs_spec hT ha h2, by simpa using evs_spec hT hb h3⟩
  · simp at h

theorem p_ext (hT : RelT (ctx mu bs w) T tmps) {x : Opd} {i : Nat} {v : V} (h : evP T (.ext x i) = some v) {o : Oper} (hf : fitO P (.ext x i) o.op = true) : OkP P mu bs tmps w o v := by
  obtain ⟨dst, op, ty, pos, after, guard⟩ := o
  cases op <;> simp only [fitO, Bool.false_eq_true, Bool.and_eq_true, decide_eq_true_eq] at hf
  obtain ⟨rfl, h2⟩ := hf
  simp only [evP] at h
  split at h
  · rename_i vs hc
    have hr := ev_spec hT hc h2
    simp only [Rep] at hr
    obtain ⟨us, e, hr⟩ := hr
    obtain ⟨u, hu, hr'⟩ := hr.get _ _ h
    have hu' : us[i]? = some u := by simpa using hu
    exact OkP.still (by simp [execOp, e, Instr.extract, hu']) hr'
  · simp at h

theorem p_nilChk (hT : RelT (ctx mu bs w) T tmps) {x : Opd} {v : V} (h : evP T (.nilChk x) = some v) {o : Oper} (hf : fitO P (.nilChk x) o.op = true) : OkP P mu bs tmps w o v := by
  obtain ⟨dst, op, ty, pos, after, guard⟩ := o
  cases op <;> simp only [fitO, Bool.false_eq_true] at hf
  simp only [evP] at h
  split at h <;> simp only [Option.some.injEq, reduceCtorEq] at h
  all_goals
    rename_i hc
    subst h
    have hr := ev_spec hT hc hf
    have hr' := hr
    simp only [Rep] at hr
  · obtain ⟨_, _, e, _⟩ := hr
    rw [e] at hr'
    exact OkP.still (by simp [execOp, e]) hr'
  · obtain ⟨_, _, e⟩ := hr
    rw [e] at hr'
    exact OkP.still (by simp [execOp, e]) hr'
  · obtain ⟨_, _, e, _⟩ := hr
    rw [e] at hr'
    exact OkP.still (by simp [execOp, e]) hr'

theorem p_fAddr (hT : RelT (ctx mu bs w) T tmps) {off : Nat} {x : Opd} {v : V} (h : evP T (.fAddr off x) = some v) {o : Oper} (hf : fitO P (.fAddr off x) o.op = true) : OkP P mu bs tmps w o v := by
  obtain ⟨dst, op, ty, pos, after, guard⟩ := o
  cases op <;> simp only [fitO, Bool.false_eq_true, Bool.and_eq_true] at hf
  rename_i s y f
  obtain ⟨h1, h2⟩ := hf
  split at h1
  · rename_i fd hfd
    simp only [Bool.and_eq_true, decide_eq_true_eq] at h1
    obtain ⟨h3, h4⟩ := h1
    split at h4
    · rename_i n hn
      simp only [ne_eq, decide_eq_true_eq] at h4
      unfold fieldIs at hfd
      split at hfd
      · rename_i fs hu
        have hplace : ∀ k o, (fieldPlace ⟨k, o, none⟩ fd).run P w = .ok ⟨k, o + off, none⟩ w := by
          intro k o
          simp [fieldPlace, run_size hn, h4, add_none, h3]
        simp only [evP] at h
        split at h <;> try simp only [Option.some.injEq, reduceCtorEq] at h
        · rename_i cs hc
          split at h <;> simp only [Option.some.injEq, reduceCtorEq] at h
          subst h
          have hr := ev_spec hT hc h2
          simp only [Rep] at hr
          obtain ⟨k, o, e, hr⟩ := hr
          refine OkP.still (u := .pointer (some ⟨k, o + off, none⟩)) (by simp [execOp, e, Instr.fieldAt, run_underlying hu, hfd, Instr.sureAddr, hplace]) ?_
          simp only [Rep]
          exact ⟨k, o + off, rfl, hr.drop off⟩
        · rename_i b o hc
          subst h
          have hr := ev_spec hT hc h2
          simp only [Rep] at hr
          obtain ⟨k, hk, e⟩ := hr
          refine OkP.still (u := .pointer (some ⟨k, o + off, none⟩)) (by simp [execOp, e, Instr.fieldAt, run_underlying hu, hfd, Instr.sureAddr, hplace]) ?_
          simp only [Rep]
          exact ⟨k, hk, rfl⟩
      · simp at hfd
    · simp at h4
  · simp at h1

theorem p_fld (hT : RelT (ctx mu bs w) T tmps) {off : Nat} {n : Option Nat} {x : Opd} {v : V} (h : evP T (.fld off n x) = some v) {o : Oper} (hf : fitO P (.fld off n x) o.op = true) : OkP P mu bs tmps w o v := by
  obtain ⟨dst, op, ty, pos, after, guard⟩ := o
  cases op <;> simp only [fitO, Bool.false_eq_true, Bool.and_eq_true] at hf
  rename_i s y f
  obtain ⟨h1, h2⟩ := hf
  split at h1
  · rename_i fd hfd
    simp only [Bool.and_eq_true, decide_eq_true_eq, beq_iff_eq] at h1
    obtain ⟨h3, h4⟩ := h1
    unfold fieldIs at hfd
    split at hfd
    · rename_i fs hu
      simp only [evP] at h
      split at h
      · rename_i cs hc
        have hr := ev_spec hT hc h2
        simp only [Rep] at hr
        obtain ⟨us, e, hr, ha⟩ := hr
        obtain ⟨u, hu1, hu2⟩ := run_part (P := P) h4 hr ha h w
        exact OkP.still (by simp [execOp, e, Instr.field, run_underlying hu, hfd, asAgg, h3, hu1]) hu2
      · simp at h
    · simp at hfd
  · simp at h1

theorem p_load (hT : RelT (ctx mu bs w) T tmps) {n : Option Nat} {x : Opd} {v : V} (h : evP T (.load n x) = some v) {o : Oper} (hf : fitO P (.load n x) o.op = true) : OkP P mu bs tmps w o v := by
  obtain ⟨dst, op, ty, pos, after, guard⟩ := o
  cases op <;> simp only [fitO, Bool.false_eq_true, Bool.and_eq_true, beq_iff_eq] at hf
  obtain ⟨h1, h2⟩ := hf
  simp only [evP] at h
  split at h
  · rename_i cs hc
    have hr := ev_spec hT hc h2
    simp only [Rep] at hr
    obtain ⟨k, off, e, hr⟩ := hr
    obtain ⟨u, hu1, hu2⟩ := run_loadVar (P := P) h1 hr h
    exact OkP.still (by simp [execOp, e, Instr.loadAt, Instr.sureAddr, hu1]) hu2
  · simp at h

theorem elemIs_spec {t size : Nat} (h : elemIs P t size = true) : ∃ e, P.underlying t = some (.slice e) ∧ szOf P e = some size := by
  unfold elemIs at h
  split at h
  · rename_i e he
    exact ⟨e, he, by simpa using h⟩
  · simp at h

theorem p_iAddr (hT : RelT (ctx mu bs w) T tmps) {size : Nat} {x i : Opd} {v : V} (h : evP T (.iAddr size x i) = some v) {o : Oper} (hf : fitO P (.iAddr size x i) o.op = true) : OkP P mu bs tmps w o v := by
  obtain ⟨dst, op, ty, pos, after, guard⟩ := o
  cases op <;> simp only [fitO, Bool.false_eq_true, Bool.and_eq_true] at hf
  obtain ⟨⟨h1, h2⟩, h3⟩ := hf
  obtain ⟨e, hu, hs⟩ := elemIs_spec h1
  simp only [evP] at h
  split at h
  · rename_i cs len own k n hx hi
    have hr := ev_spec hT hx h2
    have hi' := lit_spec (ev_spec hT hi h3)
    split at h <;> simp only [Option.some.injEq, reduceCtorEq] at h
    rename_i hb
    subst h
    simp only [Rep] at hr
    obtain ⟨⟨k0, off, sp⟩, cap, e0, hsp, _, hr, _⟩ := hr
    have hsp' : sp = none := hsp.resolve_left (by omega)
    subst hsp'
    refine OkP.still (u := .pointer (some ⟨k0, off + n.toNat * size, none⟩)) (by simp [execOp, e0, hi', Instr.indexAt, asIntOf, run_underlying hu, hb, run_size hs, add_none]) ?_
    simp only [Rep]
    exact ⟨k0, _, rfl, hr.drop _⟩
  · rename_i b off len esz cap k n hx hi
    have hr := ev_spec hT hx h2
    have hi' := lit_spec (ev_spec hT hi h3)
    split at h <;> simp only [Option.some.injEq, reduceCtorEq] at h
    rename_i hb
    subst h
    simp only [Rep] at hr
    obtain ⟨k0, cap', hk, e0, _⟩ := hr
    refine OkP.still (u := .pointer (some ⟨k0, off + n.toNat * size, none⟩)) (by simp [execOp, e0, hi', Instr.indexAt, asIntOf, run_underlying hu, hb, run_size hs, add_none]) ?_
    simp only [Rep]
    exact ⟨k0, hk, rfl⟩
  · simp at h

theorem p_iAddrA (hT : RelT (ctx mu bs w) T tmps) {len size : Nat} {x i : Opd} {v : V} (h : evP T (.iAddrA len size x i) = some v) {o : Oper} (hf : fitO P (.iAddrA len size x i) o.op = true) : OkP P mu bs tmps w o v := by
  obtain ⟨dst, op, ty, pos, after, guard⟩ := o
  cases op <;> simp only [fitO, Bool.false_eq_true, Bool.and_eq_true] at hf
  obtain ⟨⟨h1, h2⟩, h3⟩ := hf
  split at h1
  · rename_i m e hu
    simp only [Bool.and_eq_true, decide_eq_true_eq, beq_iff_eq] at h1
    obtain ⟨rfl, hs⟩ := h1
    simp only [evP] at h
    split at h
    · rename_i cs k n hx hi
      have hr := ev_spec hT hx h2
      have hi' := lit_spec (ev_spec hT hi h3)
      split at h <;> simp only [Option.some.injEq, reduceCtorEq] at h
      rename_i hb
      subst h
      simp only [Rep] at hr
      obtain ⟨k0, off, e0, hr⟩ := hr
      refine OkP.still (u := .pointer (some ⟨k0, off + n.toNat * size, none⟩)) (by simp [execOp, e0, hi', Instr.indexAt, asIntOf, run_underlying hu, hb, run_size hs, add_none, Instr.sureAddr]) ?_
      simp only [Rep]
      exact ⟨k0, _, rfl, hr.drop _⟩
    · rename_i b off k n hx hi
      have hr := ev_spec hT hx h2
      have hi' := lit_spec (ev_spec hT hi h3)
      split at h <;> simp only [Option.some.injEq, reduceCtorEq] at h
      rename_i hb
      subst h
      simp only [Rep] at hr
      obtain ⟨k0, hk, e0⟩ := hr
      refine OkP.still (u := .pointer (some ⟨k0, off + n.toNat * size, none⟩)) (by simp [execOp, e0, hi', Instr.indexAt, asIntOf, run_underlying hu, hb, run_size hs, add_none, Instr.sureAddr]) ?_
      simp only [Rep]
      exact ⟨k0, hk, rfl⟩
    · simp at h
  · simp at h1

theorem p_idxA (hT : RelT (ctx mu bs w) T tmps) {len size : Nat} {n : Option Nat} {x i : Opd} {v : V} (h : evP T (.idxA len size n x i) = some v) {o : Oper} (hf : fitO P (.idxA len size n x i) o.op = true) : OkP P mu bs tmps w o v := by
  obtain ⟨dst, op, ty, pos, after, guard⟩ := o
  cases op <;> simp only [fitO, Bool.false_eq_true, Bool.and_eq_true] at hf
  obtain ⟨⟨h1, h2⟩, h3⟩ := hf
  split at h1
  · rename_i m e hu
    simp only [Bool.and_eq_true, decide_eq_true_eq, beq_iff_eq] at h1
    obtain ⟨⟨rfl, hs⟩, ha⟩ := h1
    simp only [evP] at h
    split at h
    · rename_i cs k j hx hi
      have hr := ev_spec hT hx h2
      have hi' := lit_spec (ev_spec hT hi h3)
      split at h <;> try simp only [reduceCtorEq] at h
      rename_i hb
      simp only [Rep] at hr
      obtain ⟨us, e0, hr, hall⟩ := hr
      obtain ⟨u, hu1, hu2⟩ := run_part (P := P) ha hr hall h w
      exact OkP.still (by simp [execOp, e0, hi', Instr.index, asIntOf, run_underlying hu, hb, run_size hs, hu1]) hu2
    · simp at h
  · simp at h1

theorem p_idxS (hT : RelT (ctx mu bs w) T tmps) {x i : Opd} {v : V} (h : evP T (.idxS x i) = some v) {o : Oper} (hf : fitO P (.idxS x i) o.op = true) : OkP P mu bs tmps w o v := by
  obtain ⟨dst, op, ty, pos, after, guard⟩ := o
  cases op <;> simp only [fitO, Bool.false_eq_true, Bool.and_eq_true] at hf
  obtain ⟨⟨h1, h2⟩, h3⟩ := hf
  split at h1
  · rename_i hu
    simp only [evP] at h
    split at h
    · rename_i s k n hx hi
      have e0 := lit_spec (ev_spec hT hx h2)
      have hi' := lit_spec (ev_spec hT hi h3)
      split at h <;> try simp only [reduceCtorEq] at h
      rename_i hb
      split at h <;> simp only [Option.some.injEq, reduceCtorEq] at h
      rename_i c hc
      subst h
      have hc' : s[n.toNat]? = some c := by
        have h1 : n.toNat < s.data.toList.length := (List.getElem?_eq_some_iff.1 hc).1
        have h2 : n.toNat < s.size := by simpa using h1
        rw [getElem?_pos s n.toNat h2]
        have := (List.getElem?_eq_some_iff.1 hc).2
        simp only [Option.some.injEq]
        rw [← this]
        rfl
      exact OkP.still (u := .int .u8 c.toNat) (by simp [execOp, e0, hi', Instr.index, asIntOf, run_underlying hu, hb, hc']) (rep_lit rfl)
    · simp at h
  · simp at h1

end
end Go.Ev
