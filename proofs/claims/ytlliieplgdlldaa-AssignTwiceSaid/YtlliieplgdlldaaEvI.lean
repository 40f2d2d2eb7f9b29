/- Slice expressions, least and greatest, and all operations together that ask nothing of memory that may be written.
   Conditions: none; plain lemmas. -/
import Derived.Test.YtlliieplgdlldaaEvH
namespace Go.Ev

section
variable {P : Program} {mu : List Nat} {bs : List ABlk} {w : World} {T : Tm} {tmps : Array Value}

theorem asNat_spec {C : Ctx} {v : V} {u : Value} {n : Nat} (h : asNat v = some n) (hr : Rep C v u) : ∃ k i, u = .int k i ∧ 0 ≤ i ∧ i.toNat = n := by
  unfold asNat at h
  split at h
  · rename_i k i
    split at h <;> simp only [Option.some.injEq, reduceCtorEq] at h
    exact ⟨k, i, lit_spec hr, by assumption, h⟩
  · simp at h

theorem run_bound {u : Value} {k : IntKind} {i : Int} (hu : u = .int k i) (h0 : 0 ≤ i) {y : Nat} (hy : i.toNat ≤ y) (c : BoundsCode) (w : World) : (Instr.sliceBound u y c).run P w = .ok i.toNat w := by
  have : i ≤ (y : Int) := by omega
  simp [Instr.sliceBound, hu, asIntOf, h0, this]

/-- the bounds of a slice expression -/
theorem run_bnd {C : Ctx} (hT : RelT C T tmps) {n cap : Nat} (hcap : n ≤ cap) {lo hi mx : Option Opd} {l h : Nat} {m : Option Nat} (hb : bnd T n lo hi mx = some (l, h, m)) {lo' hi' mx' : Option Operand}
    (h1 : fitXo lo lo' = true) (h2 : fitXo hi hi' = true) (h3 : fitXo mx mx' = true) (isS : Bool) (w : World) :
    (Instr.sliceBounds isS n cap (lo'.map (ev1 tmps)) (hi'.map (ev1 tmps)) (mx'.map (ev1 tmps))).run P w = .ok (l, h, m.getD cap) w ∧ l ≤ h ∧ h ≤ n ∧ (∀ m', m = some m' → h ≤ m' ∧ m' ≤ n) := by
  unfold bnd at hb
  split at hb
  · simp at hb
  · rename_i m0 hm0
    split at hb
    · simp at hb
    · rename_i h0 hh0
      split at hb
      · simp at hb
      · rename_i l0 hl0
        rw [Option.ite_none_right_eq_some] at hb
        obtain ⟨hc, hb⟩ := hb
        simp only [Option.some.injEq, Prod.mk.injEq] at hb
        obtain ⟨rfl, rfl, rfl⟩ := hb
        obtain ⟨hc1, hc2, hc3⟩ := hc
        have hc4 : ∀ m', m0 = some m' → h0 ≤ m' ∧ m' ≤ n := by
          intro m' e
          subst e
          simpa using hc3
        refine ⟨?_, hc1, hc2, hc4⟩
        have hL : (lo' = none ∧ l0 = 0) ∨ ∃ y, lo' = some y ∧ ∀ c, (Instr.sliceBound (ev1 tmps y) h0 c).run P w = .ok l0 w := by
          cases lo with
          | none =>
            cases lo' <;> simp [fitXo] at h1
            simp at hl0
            exact .inl ⟨rfl, hl0.symm⟩
          | some x =>
            cases lo' with
            | none => simp [fitXo] at h1
            | some y =>
              simp only [fitXo] at h1
              simp only at hl0
              split at hl0
              · rename_i v hv
                obtain ⟨k, i, e1, e2, e3⟩ := asNat_spec hl0 (ev_spec hT hv h1)
                refine .inr ⟨y, rfl, fun c => ?_⟩
                have := run_bound (P := P) e1 e2 (y := h0) (by omega) c w
                rw [e3] at this
                exact this
              · simp at hl0
        cases mx with
        | none =>
          cases mx' <;> simp [fitXo] at h3
          simp only [Option.some.injEq] at hm0
          subst hm0
          cases hi with
          | none =>
            cases hi' <;> simp [fitXo] at h2
            simp at hh0
            subst hh0
            rcases hL with ⟨rfl, rfl⟩ | ⟨yl, rfl, hL⟩ <;>
              simp [Instr.sliceBounds, *]
          | some x =>
            cases hi' with
            | none => simp [fitXo] at h2
            | some y =>
              simp only [fitXo] at h2
              simp only at hh0
              split at hh0
              · rename_i v hv
                obtain ⟨k, i, e1, e2, e3⟩ := asNat_spec hh0 (ev_spec hT hv h2)
                have hH := fun c => run_bound (P := P) e1 e2 (y := cap) (by omega) c w
                simp only [e3] at hH
                rcases hL with ⟨rfl, rfl⟩ | ⟨yl, rfl, hL⟩
                · simp [Instr.sliceBounds, hH]
                · simp [Instr.sliceBounds, hH, hL]
              · simp at hh0
        | some xm =>
          cases mx' with
          | none => simp [fitXo] at h3
          | some ym =>
            simp only [fitXo] at h3
            simp only at hm0
            split at hm0
            · rename_i vm hvm
              simp only [Option.map_eq_some_iff] at hm0
              obtain ⟨m1, hm1, rfl⟩ := hm0
              obtain ⟨km, im, f1, f2, f3⟩ := asNat_spec hm1 (ev_spec hT hvm h3)
              obtain ⟨g1, g2⟩ := hc4 m1 rfl
              have hM := fun c => run_bound (P := P) f1 f2 (y := cap) (by omega) c w
              simp only [f3] at hM
              cases hi with
              | none => simp at hh0
              | some x =>
                cases hi' with
                | none => simp [fitXo] at h2
                | some y =>
                  simp only [fitXo] at h2
                  simp only at hh0
                  split at hh0
                  · rename_i v hv
                    obtain ⟨k, i, e1, e2, e3⟩ := asNat_spec hh0 (ev_spec hT hv h2)
                    have hH := fun c => run_bound (P := P) e1 e2 (y := m1) (by omega) c w
                    simp only [e3] at hH
                    rcases hL with ⟨rfl, rfl⟩ | ⟨yl, rfl, hL⟩
                    · simp [Instr.sliceBounds, hM, hH]
                    · simp [Instr.sliceBounds, hM, hH, hL]
                  · simp at hh0
            · simp at hm0

theorem p_slS (hT : RelT (ctx mu bs w) T tmps) {x : Opd} {lo hi : Option Opd} {v : V} (h : evP T (.slS x lo hi) = some v) {o : Oper} (hf : fitO P (.slS x lo hi) o.op = true) : OkP P mu bs tmps w o v := by
  obtain ⟨dst, op, ty, pos, after, guard⟩ := o
  cases op <;> try simp only [fitO, Bool.false_eq_true] at hf
  rename_i t y lo' hi' mx'
  cases mx' <;> simp only [fitO, Bool.false_eq_true, Bool.and_eq_true] at hf
  obtain ⟨⟨⟨h1, h2⟩, h3⟩, h4⟩ := hf
  split at h1 <;> try simp only [Bool.false_eq_true] at h1
  rename_i hu
  simp only [evP] at h
  split at h
  · rename_i s hs
    split at h <;> simp only [Option.some.injEq, reduceCtorEq] at h
    rename_i l hh m hb
    subst h
    have e := lit_spec (ev_spec hT hs h2)
    obtain ⟨h5, h6, h7, _⟩ := run_bnd (P := P) hT (Nat.le_refl _) hb h3 h4 (mx' := none) rfl false w
    simp only [Option.map_none] at h5
    exact OkP.still (u := .string (s.extract l hh)) (by simp [execOp, Instr.sliceAt, Instr.slice, e, run_underlying hu, h5]) (rep_lit rfl)
  · simp at h

theorem p_sl (hT : RelT (ctx mu bs w) T tmps) {size : Nat} {x : Opd} {lo hi mx : Option Opd} {v : V} (h : evP T (.sl size x lo hi mx) = some v) {o : Oper} (hf : fitO P (.sl size x lo hi mx) o.op = true) : OkP P mu bs tmps w o v := by
  obtain ⟨dst, op, ty, pos, after, guard⟩ := o
  cases op <;> simp only [fitO, Bool.false_eq_true, Bool.and_eq_true] at hf
  rename_i t y lo' hi' mx'
  obtain ⟨⟨⟨⟨h1, h2⟩, h3⟩, h4⟩, h5⟩ := hf
  obtain ⟨e, hu, hs⟩ := elemIs_spec h1
  simp only [evP] at h
  split at h
  · rename_i cs len own hx
    split at h <;> simp only [Option.some.injEq, reduceCtorEq] at h
    rename_i l hh m hb
    subst h
    have hr := ev_spec hT hx h2
    simp only [Rep] at hr
    obtain ⟨a, cap, e0, hsp, hcap, hr, _⟩ := hr
    obtain ⟨h6, h7, h8, h9⟩ := run_bnd (P := P) hT hcap hb h3 h4 h5 true w
    refine OkP.still (u := .slice (if m.getD cap = l then some a else some (a.add (l * size))) (hh - l) (m.getD cap - l)) ?_ ?_
    · simp only [execOp, Instr.sliceAt, Sem.run_bind, run_underlying hu, Result.andThen_ok, Instr.slice, e0, h6, run_size hs, Sem.run_pure, Option.map_some]
    · simp only [Rep]
      by_cases hm : m.getD cap = l
      · have hl : hh - l = 0 := by
          cases m with
          | none => simp at hm; omega
          | some m => simp at hm; have := h9 m rfl; omega
        simp only [hm, if_true, hl, Nat.zero_mul, List.take_zero]
        refine ⟨a, l - l, rfl, .inl (by simp), by omega, by simp [RepAt], ?_⟩
        cases m with
        | none => trivial
        | some m => simp at hm; simp only [OwnOk]; omega
      · simp only [hm, if_false]
        have hab : (a.add (l * size)).block = a.block ∧ (a.add (l * size)).off = a.off + l * size ∧ (a.spot = none → (a.add (l * size)).spot = none) := by
          unfold Addr.add
          split
          · rename_i hz; rw [hz]; exact ⟨rfl, rfl, id⟩
          · exact ⟨rfl, rfl, fun _ => rfl⟩
        refine ⟨a.add (l * size), _, rfl, ?_, ?_, ?_, ?_⟩
        · rcases hsp with hsp | hsp
          · exact .inl (by omega)
          · exact .inr (hab.2.2 hsp)
        rotate_left
        · rw [hab.1, hab.2.1]
          exact (hr.drop _).take _
        rotate_left
        · cases m with
          | none => simp; omega
          | some m => have := h9 m rfl; simp; omega
        · cases m with
          | none => trivial
          | some m => rfl
  · rename_i b off len esz cap hx
    split at h
    · rename_i l hh m hb
      split at h <;> simp only [Option.some.injEq, reduceCtorEq] at h
      rename_i hlt
      obtain ⟨hlt, he⟩ := hlt
      subst he
      subst h
      have hr := ev_spec hT hx h2
      simp only [Rep] at hr
      obtain ⟨k, cap', hk, e0, hcap, hc, e', m', hsh, hcm⟩ := hr
      obtain ⟨h6, h7, h8, h9⟩ := run_bnd (P := P) hT hcap hb h3 h4 h5 true w
      have hm : ¬ m.getD cap' = l := by
        cases m with
        | none => simp; omega
        | some m => have := h9 m rfl; simp; omega
      refine OkP.still (u := .slice (some ⟨k, off + l * esz, none⟩) (hh - l) (m.getD cap' - l)) ?_ ?_
      · simp only [execOp, Instr.sliceAt, Sem.run_bind, run_underlying hu, Result.andThen_ok, Instr.slice, e0, h6, run_size hs, Sem.run_pure, Option.map_some, add_none, hm, if_false]
      · simp only [Rep]
        refine ⟨k, _, hk, rfl, ?_, ?_, e', m', hsh, ?_⟩
        rotate_left 2
        · have hle : l * esz + (m.getD cap' - l) * esz ≤ cap' * esz := by
            rw [← Nat.add_mul]
            refine Nat.mul_le_mul_right _ ?_
            cases m with
            | none => simp; omega
            | some m => have := h9 m rfl; simp; omega
          omega
        · cases m with
          | none => simp; omega
          | some m => have := h9 m rfl; simp; omega
        · intro c hc'
          cases m with
          | none =>
            simp only [Option.map_eq_some_iff] at hc'
            obtain ⟨c0, h10, rfl⟩ := hc'
            simp [hc c0 h10]
          | some m => simpa using hc'
    · simp at h
  · rename_i hx
    split at h <;> simp only [Option.some.injEq, reduceCtorEq] at h
    rename_i m hb
    subst h
    have e0 := lit_spec (ev_spec hT hx h2)
    obtain ⟨h6, h7, h8, h9⟩ := run_bnd (P := P) hT (Nat.le_refl 0) hb h3 h4 h5 true w
    have hm : m.getD 0 = 0 := by
      cases m with
      | none => rfl
      | some m => have := h9 m rfl; simp; omega
    refine OkP.still (u := .slice none 0 0) ?_ (rep_lit rfl)
    simp only [execOp, Instr.sliceAt, Sem.run_bind, run_underlying hu, Result.andThen_ok, Instr.slice, e0, h6, run_size hs, Sem.run_pure, hm, if_true]
  · simp at h

theorem p_mm (hT : RelT (ctx mu bs w) T tmps) {mx : Bool} {xs : List Opd} {v : V} (h : evP T (.mm mx xs) = some v) {o : Oper} (hf : fitO P (.mm mx xs) o.op = true) : OkP P mu bs tmps w o v := by
  obtain ⟨dst, op, ty, pos, after, guard⟩ := o
  cases op <;> try simp only [fitO, Bool.false_eq_true] at hf
  rename_i cl
  obtain ⟨callee, args, argTypes⟩ := cl
  cases callee <;> simp only [fitO, Bool.false_eq_true, Bool.and_eq_true] at hf
  rename_i bi
  obtain ⟨h1, h2⟩ := hf
  simp only [evP] at h
  split at h
  · rename_i v0 vs hvs
    have hr := evs_spec hT hvs h2
    have hmax : ∀ (vs : List V) (v0 : V) (u0 : Value) (us : List Value), Rep (ctx mu bs w) v0 u0 → Reps (ctx mu bs w) vs us → ∀ v, mmI true v0 vs = some v → ∃ u, (us.foldlM Builtin.max2 u0).run P w = .ok u w ∧ Rep (ctx mu bs w) v u := by
      intro vs
      induction vs with
      | nil =>
        intro v0 u0 us h0 hus v hv
        simp only [Reps] at hus
        subst hus
        simp only [mmI, Option.some.injEq] at hv
        subst hv
        exact ⟨u0, by simp, h0⟩
      | cons x r ih =>
        intro v0 u0 us h0 hus v hv
        simp only [Reps] at hus
        obtain ⟨u1, us', rfl, hx, hus⟩ := hus
        unfold mmI at hv
        split at hv
        · simp at *
        · rename_i heq
          simp only [List.cons.injEq] at heq
          obtain ⟨rfl, rfl⟩ := heq
          split at hv
          · rename_i hk
            have e0 := lit_spec h0
            have e1 := lit_spec hx
            subst e0 e1 hk
            simp only [if_true] at hv
            obtain ⟨u, h3, h4⟩ := ih _ _ us' (rep_lit rfl) hus v hv
            exact ⟨u, by simpa [List.foldlM_cons, Builtin.max2] using h3, h4⟩
          · simp at hv
        · simp at hv
    have hmin : ∀ (vs : List V) (v0 : V) (u0 : Value) (us : List Value), Rep (ctx mu bs w) v0 u0 → Reps (ctx mu bs w) vs us → ∀ v, mmI false v0 vs = some v → ∃ u, (us.foldlM Builtin.min2 u0).run P w = .ok u w ∧ Rep (ctx mu bs w) v u := by
      intro vs
      induction vs with
      | nil =>
        intro v0 u0 us h0 hus v hv
        simp only [Reps] at hus
        subst hus
        simp only [mmI, Option.some.injEq] at hv
        subst hv
        exact ⟨u0, by simp, h0⟩
      | cons x r ih =>
        intro v0 u0 us h0 hus v hv
        simp only [Reps] at hus
        obtain ⟨u1, us', rfl, hx, hus⟩ := hus
        unfold mmI at hv
        split at hv
        · simp at *
        · rename_i heq
          simp only [List.cons.injEq] at heq
          obtain ⟨rfl, rfl⟩ := heq
          split at hv
          · rename_i hk
            have e0 := lit_spec h0
            have e1 := lit_spec hx
            subst e0 e1 hk
            simp only [Bool.false_eq_true, if_false] at hv
            obtain ⟨u, h3, h4⟩ := ih _ _ us' (rep_lit rfl) hus v hv
            exact ⟨u, by simpa [List.foldlM_cons, Builtin.min2] using h3, h4⟩
          · simp at hv
        · simp at hv
    simp only [Reps] at hr
    obtain ⟨u0, us, e, hr0, hrs⟩ := hr
    have hargs : (args.map (ev1 tmps)).toList = u0 :: us := by simpa using e
    cases mx with
    | true =>
      obtain ⟨u, h3, h4⟩ := hmax vs v0 u0 us hr0 hrs v h
      cases bi <;> simp at h1
      refine OkP.still (u := u) ?_ h4
      simp only [execOp, resolve, Sem.run_bind, Sem.run_pure, Result.andThen_ok, invoke, builtin, Builtin.max_, hargs, h3]
    | false =>
      obtain ⟨u, h3, h4⟩ := hmin vs v0 u0 us hr0 hrs v h
      cases bi <;> simp at h1
      refine OkP.still (u := u) ?_ h4
      simp only [execOp, resolve, Sem.run_bind, Sem.run_pure, Result.andThen_ok, invoke, builtin, Builtin.min_, hargs, h3]
  · simp at h

/-- all operations that ask nothing of memory that may be written -/
theorem evP_ok (hR : R mu bs w) (hT : RelT (ctx mu bs w) T tmps) {op : O} {v : V} (h : evP T op = some v) {o : Oper} (hf : fitO P op o.op = true) : OkP P mu bs tmps w o v := by
  cases op with
  | mov x => exact p_mov hT h hf
  | pick c a b => exact p_pick hT h hf
  | box imm x => cases imm with
    | true => exact p_box hR hT h hf
    | false => simp [evP] at h
  | build z ps => exact p_build hT h hf
  | buildSl m len size z ps => cases m with
    | false => exact p_buildSl hR hT h hf
    | true => simp [evP] at h
  | load n x => exact p_load hT h hf
  | nilChk x => exact p_nilChk hT h hf
  | bin op x y => exact p_bin hT h hf
  | eq ng c x y => exact p_eq hT h hf
  | not x => exact p_not hT h hf
  | neg x => exact p_neg hT h hf
  | conv k x => exact p_conv hT h hf
  | mkFn f a b => exact p_mkFn hT h hf
  | fAddr off x => exact p_fAddr hT h hf
  | fld off n x => exact p_fld hT h hf
  | iAddr size x i => exact p_iAddr hT h hf
  | iAddrA len size x i => exact p_iAddrA hT h hf
  | idxA len size n x i => exact p_idxA hT h hf
  | idxS x i => exact p_idxS hT h hf
  | sl size x lo hi mx => exact p_sl hT h hf
  | slS x lo hi => exact p_slS hT h hf
  | ext x i => exact p_ext hT h hf
  | len c x => exact p_len hT h hf
  | mm mx xs => exact p_mm hT h hf
  | _ => simp [evP] at h

end
end Go.Ev
