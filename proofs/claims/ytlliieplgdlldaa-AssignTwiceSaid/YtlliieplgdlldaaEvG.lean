/- More of the operations that ask nothing of memory that may be written.
   Conditions: none; plain lemmas. -/
import Derived.Test.YtlliieplgdlldaaEvE
namespace Go.Ev

section
variable {P : Program} {mu : List Nat} {bs : List ABlk} {w : World} {T : Tm} {tmps : Array Value}

theorem lessB_eq : ∀ (x y : List UInt8), Op.bytesLess x y = lessB x y
  | _, [] => by unfold Op.bytesLess lessB; rfl
  | [], _ :: _ => by unfold Op.bytesLess lessB; rfl
  | a :: x, b :: y => by unfold Op.bytesLess lessB; rw [lessB_eq x y]

theorem run_binI {op : BinOp} {k : IntKind} {a b : Int} {r : Value} (h1 : op ≠ .shl) (h2 : op ≠ .shr) (h : binI op k a b = some r) (t : TypeId) (x y : Operand) :
    (do eqGuard op t x y (.int k a) (.int k b); binOp op t (.int k a) (.int k b) : Sem Value).run P w = .ok r w ∧ inert r = true := by
  cases op <;> simp only [binI, bitsI, Option.some.injEq, reduceCtorEq, ne_eq, not_true_eq_false] at h h1 h2 <;>
    first
      | (subst h; simp [eqGuard, binOp, Op.intArith, Op.intCmp, Op.intBits, inert]; done)
      | (split at h <;> simp only [Option.some.injEq, reduceCtorEq] at h; subst h; rename_i hb; simp [eqGuard, binOp, Op.intDiv, hb, inert]; done)

theorem run_shiftI {op : BinOp} {k k' : IntKind} {a b : Int} {r : Value} (h0 : op = .shl ∨ op = .shr) (h : shiftI op k a b = some r) (t : TypeId) (x y : Operand) :
    (do eqGuard op t x y (.int k a) (.int k' b); binOp op t (.int k a) (.int k' b) : Sem Value).run P w = .ok r w ∧ inert r = true := by
  unfold shiftI at h
  split at h
  · simp at h
  · rename_i hb
    rcases h0 with rfl | rfl
    · simp only [Option.some.injEq] at h
      subst h
      simp [eqGuard, binOp, Op.shift, hb, inert]
    · simp only [Option.some.injEq] at h
      subst h
      simp [eqGuard, binOp, Op.shift, hb, inert]

theorem run_binS {op : BinOp} {a b : ByteArray} {r : Value} (h : binS op a b = some r) (t : TypeId) (x y : Operand) :
    (do eqGuard op t x y (.string a) (.string b); binOp op t (.string a) (.string b) : Sem Value).run P w = .ok r w ∧ inert r = true := by
  cases op <;> simp only [binS, Option.some.injEq, reduceCtorEq] at h <;>
    first
      | (subst h; simp [eqGuard, binOp, Op.stringOp, inert, lessB_eq, ByteArray.toList_eq]; done)
      | (split at h <;> simp only [Option.some.injEq, reduceCtorEq] at h; subst h; rename_i hb
         have hm : ¬ (IntKind.i64.max < ((a.size : Int) + (b.size : Int))) := by
           have : IntKind.i64.max = 9223372036854775807 := by decide
           omega
         simp [eqGuard, binOp, Op.stringOp, inert]; omega)

theorem exec_bin {o : Oper} {op : BinOp} {t yt : TypeId} {x y : Operand} (he : o.op = .binOp op t x y yt) (ρ : Operand → Value) :
    (execOp ρ o).run P w = ((do eqGuard op t x y (ρ x) (ρ y); binOp op t (ρ x) (ρ y) : Sem Value).run P w).andThen fun a w' => .ok (.value a) w' := by
  simp only [execOp, he, Sem.run_bind, Sem.run_pure]

theorem p_bin (hT : RelT (ctx mu bs w) T tmps) {op : BinOp} {x y : Opd} {v : V} (h : evP T (.bin op x y) = some v) {o : Oper} (hf : fitO P (.bin op x y) o.op = true) : OkP P mu bs tmps w o v := by
  obtain ⟨dst, op', ty, pos, after, guard⟩ := o
  cases op' <;> simp only [fitO, Bool.false_eq_true, Bool.and_eq_true, decide_eq_true_eq] at hf
  obtain ⟨⟨rfl, h2⟩, h3⟩ := hf
  simp only [evP] at h
  split at h
  · rename_i a b ha hb
    have ra := ev_spec hT ha h2
    have rb := ev_spec hT hb h3
    unfold binV at h
    split at h
    · rename_i k i k' j
      have ea := lit_spec ra
      have eb := lit_spec rb
      split at h
      · rename_i hop
        simp only [Option.map_eq_some_iff] at h
        obtain ⟨r, hr, rfl⟩ := h
        obtain ⟨h4, h5⟩ := run_shiftI (P := P) (w := w) (k' := k') hop hr _ _ _
        exact OkP.still (by rw [exec_bin rfl, ea, eb, h4]; rfl) (rep_lit h5)
      · rename_i hop
        split at h
        · rename_i hk
          subst hk
          simp only [Option.map_eq_some_iff] at h
          obtain ⟨r, hr, rfl⟩ := h
          obtain ⟨h4, h5⟩ := run_binI (P := P) (w := w) (fun e => hop (.inl e)) (fun e => hop (.inr e)) hr _ _ _
          exact OkP.still (by rw [exec_bin rfl, ea, eb, h4]; rfl) (rep_lit h5)
        · simp at h
    · have ea := lit_spec ra
      have eb := lit_spec rb
      simp only [Option.map_eq_some_iff] at h
      obtain ⟨r, hr, rfl⟩ := h
      obtain ⟨h4, h5⟩ := run_binS (P := P) (w := w) hr _ _ _
      exact OkP.still (by rw [exec_bin rfl, ea, eb, h4]; rfl) (rep_lit h5)
    · simp at h
  · simp at h

theorem equal_step (t : TypeId) (x y : Value) : Op.equal t x y = Op.equalIn (9999 + 1) t x y := rfl

theorem nilLit_spec {c : EqC} {v : Value} (h : nilLit c v = true) : v = nilOf c ∧ c ≠ .bool := by
  unfold nilLit at h
  split at h <;> first | exact ⟨rfl, by decide⟩ | simp at h

theorem equal_nils {c : EqC} {t : TypeId} (hc : eqClass P t c = true) (hb : c ≠ .bool) (d : Nat) (w : World) : (Op.equalIn (d + 1) t (nilOf c) (nilOf c)).run P w = .ok true w := by
  cases hu : P.underlying t with
  | none => cases c <;> simp [eqClass, hu] at hc
  | some td => cases c <;> cases td <;> simp [eqClass, hu] at hc hb <;> simp [Op.equalIn, run_underlying hu, nilOf]

theorem equal_sl {t : TypeId} (hc : eqClass P t .slice = true) (d : Nat) (w : World) (a : Addr) (l c : Nat) : (Op.equalIn (d + 1) t (.slice (some a) l c) (.slice .none 0 0)).run P w = .ok false w := by
  cases hu : P.underlying t with
  | none => simp [eqClass, hu] at hc
  | some td => cases td <;> simp [eqClass, hu] at hc; simp [Op.equalIn, run_underlying hu]
theorem equal_ptr {t : TypeId} (hc : eqClass P t .ptr = true) (d : Nat) (w : World) (a : Addr) : (Op.equalIn (d + 1) t (.pointer (some a)) (.pointer .none)).run P w = .ok false w := by
  cases hu : P.underlying t with
  | none => simp [eqClass, hu] at hc
  | some td => cases td <;> simp [eqClass, hu] at hc; simp [Op.equalIn, run_underlying hu]
theorem equal_fn {t : TypeId} (hc : eqClass P t .func = true) (d : Nat) (w : World) (f : Fn) (a b : Array Value) : (Op.equalIn (d + 1) t (.func f a b) .nilFunc).run P w = .ok false w := by
  cases hu : P.underlying t with
  | none => simp [eqClass, hu] at hc
  | some td => cases td <;> simp [eqClass, hu] at hc; simp [Op.equalIn, run_underlying hu]
theorem equal_map {t : TypeId} (hc : eqClass P t .map = true) (d : Nat) (w : World) (a : Nat) : (Op.equalIn (d + 1) t (.map (some a)) (.map .none)).run P w = .ok false w := by
  cases hu : P.underlying t with
  | none => simp [eqClass, hu] at hc
  | some td => cases td <;> simp [eqClass, hu] at hc; simp [Op.equalIn, run_underlying hu]
theorem equal_iface {t : TypeId} (hc : eqClass P t .iface = true) (d : Nat) (w : World) (a : TypeId) (x : Value) : (Op.equalIn (d + 1) t (.iface a x) .nilIface).run P w = .ok false w := by
  cases hu : P.underlying t with
  | none => simp [eqClass, hu] at hc
  | some td => cases td <;> simp [eqClass, hu] at hc; simp [Op.equalIn, run_underlying hu]

theorem run_isNil {C : Ctx} {c : EqC} {t : TypeId} (hc : eqClass P t c = true) {x y : V} {u z : Value} (hx : Rep C x u) (hy : Rep C y z) {b : Bool} (h1 : isNil c y = some true) (h2 : isNil c x = some b) (w : World) :
    (Op.equal t u z).run P w = .ok b w := by
  rw [equal_step]
  have hz : z = nilOf c ∧ c ≠ .bool := by
    unfold isNil at h1
    split at h1 <;> try (split at h1 <;> simp at h1; done)
    · rename_i l
      split at h1
      · rename_i hn
        obtain ⟨e, hb⟩ := nilLit_spec hn
        exact ⟨(lit_spec hy).trans e, hb⟩
      · simp at h1
    · simp at h1
  obtain ⟨rfl, hb⟩ := hz
  unfold isNil at h2
  split at h2 <;> try (split at h2 <;> simp only [Option.some.injEq, reduceCtorEq] at h2)
  · rename_i l hn
    subst h2
    rw [(lit_spec hx).trans (nilLit_spec hn).1]
    exact equal_nils hc hb _ w
  · rename_i e; subst e h2
    simp only [Rep] at hx
    obtain ⟨_, _, rfl, _⟩ := hx
    exact equal_sl hc _ w _ _ _
  · rename_i e; subst e h2
    simp only [Rep] at hx
    obtain ⟨_, _, _, rfl, _⟩ := hx
    exact equal_sl hc _ w _ _ _
  · rename_i e; subst e h2
    simp only [Rep] at hx
    obtain ⟨_, _, rfl, _⟩ := hx
    exact equal_ptr hc _ w _
  · rename_i e; subst e h2
    simp only [Rep] at hx
    obtain ⟨_, _, rfl⟩ := hx
    exact equal_ptr hc _ w _
  · rename_i e; subst e h2
    simp only [Rep] at hx
    obtain ⟨_, _, rfl, _⟩ := hx
    exact equal_fn hc _ w _ _ _
  · rename_i e; subst e h2
    simp only [Rep] at hx
    obtain ⟨_, _, rfl⟩ := hx
    exact equal_map hc _ w _
  · rename_i e; subst e h2
    simp only [Rep] at hx
    obtain ⟨_, rfl, _⟩ := hx
    exact equal_iface hc _ w _ _
  · simp at h2

/-- what eqV says is what the model's equality says -/
theorem run_eqV {C : Ctx} {c : EqC} {t : TypeId} (hc : eqClass P t c = true) {x y : V} {u z : Value} (hx : Rep C x u) (hy : Rep C y z) {b : Bool} (h : eqV c x y = some b) (w : World) :
    (Op.equal t u z).run P w = .ok b w := by
  unfold eqV at h
  split at h
  · split at h <;> simp only [Option.some.injEq, reduceCtorEq] at h
    rename_i hcb
    subst hcb h
    have ex := lit_spec hx
    have ez := lit_spec hy
    subst ex ez
    rw [equal_step]
    generalize 9999 = dd
    cases hu : P.underlying t with
    | none => simp [eqClass, hu] at hc
    | some d =>
      cases d <;> simp [eqClass, hu] at hc
      simp [Op.equalIn, run_underlying hu]
  · split at h
    · rename_i h1
      exact run_isNil hc hx hy h1 h w
    · simp at h

theorem exec_eql {o : Oper} {t yt : TypeId} {x y : Operand} (he : o.op = .binOp .eql t x y yt) {ρ : Operand → Value} {u z : Value} (hx : ρ x = u) (hy : ρ y = z) (hk : isConstO y = true)
    (hni : ∀ k a k' b, ¬ (u = .int k a ∧ z = .int k' b)) (hns : ∀ a b, ¬ (u = .string a ∧ z = .string b)) {b : Bool} (h : (Op.equal t u z).run P w = .ok b w)
    (hz : inert z = true) (hza : ∀ k a, z ≠ .float k a) (hzc : ∀ k a c, z ≠ .complex k a c) :
    (execOp ρ o).run P w = .ok (.value (.bool b)) w := by
  have hg : (eqGuard .eql t x y u z).run P w = .ok () w := by
    cases y <;> simp [isConstO] at hk
    cases z <;> simp [inert] at hz <;> cases u <;> simp [eqGuard]
  rw [exec_bin he, hx, hy, Sem.run_bind, hg]
  simp only [Result.andThen_ok]
  have : binOp .eql t u z = (do pure (.bool (← Op.equal t u z)) : Sem Value) := by
    cases z <;> simp [inert] at hz hza hzc <;> cases u <;> first | rfl | (exact absurd ⟨rfl, rfl⟩ (hni _ _ _ _)) | (exact absurd ⟨rfl, rfl⟩ (hns _ _))
  rw [this]
  simp [h]

end
end Go.Ev
