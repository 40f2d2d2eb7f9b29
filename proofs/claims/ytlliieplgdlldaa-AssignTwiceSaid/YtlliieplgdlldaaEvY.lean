/- Rules by which one steps through the evaluator: what holds at the end of code, of a list of operations, of a call.
   Conditions: none; plain lemmas. -/
import Derived.Test.YtlliieplgdlldaaEvX
namespace Go.Ev

def Opt {α : Type} (o : Option α) (P : α → Prop) : Prop := ∃ v, o = some v ∧ P v
section
variable {α β : Type} {P : α → Prop}
theorem Opt_some {x : α} : Opt (some x) P ↔ P x := by simp [Opt]
theorem Opt_none : Opt none P ↔ False := by simp [Opt]
theorem Opt_ite_none {c : Prop} [Decidable c] {a : Option α} : Opt (if c then a else none) P ↔ c ∧ Opt a P := by by_cases h : c <;> simp [Opt, h]
theorem Opt_ite {c : Prop} [Decidable c] {a b : Option α} : Opt (if c then a else b) P ↔ if c then Opt a P else Opt b P := by by_cases h : c <;> simp [Opt, h]
theorem Opt_map {f : β → α} {o : Option β} : Opt (o.map f) P ↔ Opt o fun v => P (f v) := by cases o <;> simp [Opt]
theorem Opt_bind {f : β → Option α} {o : Option β} : Opt (o.bind f) P ↔ Opt o fun v => Opt (f v) P := by cases o <;> simp [Opt]
theorem Opt.mono {o : Option α} {P Q : α → Prop} (h : Opt o P) (hi : ∀ v, P v → Q v) : Opt o Q := let ⟨v, a, b⟩ := h; ⟨v, a, hi v b⟩
theorem Opt.of_eq {o : Option α} {P : α → Prop} {v : α} (h : o = some v) (p : P v) : Opt o P := ⟨v, h, p⟩
theorem Opt_eq {o : Option α} {v : α} (h : o = some v) : Opt o P ↔ P v := by rw [h, Opt_some]
end

/-! ### what holds at the end -/
def WI (E : Env) (op : O) (T : Tm) (H : Heap) (Q : V → Option Heap → Prop) : Prop := ∃ n v o, evIns E n ⟨none, op, none⟩ T H = some (v, o) ∧ Q v o
def WR (E : Env) (is : List Ins) (T : Tm) (H : Heap) (Q : Tm → Heap → Prop) : Prop := ∃ n T' H', evReg E n is T H = some (T', H') ∧ Q T' H'
def WH (E : Env) (j : Nat) (imp : List Nat) (is : List Ins) (T : Tm) (H : Heap) (Q : Tm → Prop) : Prop := ∃ n T', evHeads E n j imp is T H = some T' ∧ Q T'
def WN (E : Env) (j : Nat) (ch : List Nat) (is : List Ins) (T : Tm) (H : Heap) (Q : Tm → Heap → Prop) : Prop := ∃ n T' H', evC E n j ch is T H = some (T', H') ∧ Q T' H'
def W (E : Env) (a : I) (T : Tm) (H : Heap) (Q : Ex → Tm → Heap → Prop) : Prop := ∃ n x T' H', evCode E n a T H = some (x, T', H') ∧ Q x T' H'
def WC (E : Env) (f : FuncId) (args : List V) (H : Heap) (Q : V → Option Heap → Prop) : Prop := ∃ n v o, evCall E n f args H = some (v, o) ∧ Q v o

theorem WC.mono {E : Env} {f args H} {Q Q' : V → Option Heap → Prop} (h : WC E f args H Q) (hi : ∀ v o, Q v o → Q' v o) : WC E f args H Q' := let ⟨n, v, o, a, b⟩ := h; ⟨n, v, o, a, hi v o b⟩
theorem W.mono {E : Env} {a T H} {Q Q' : Ex → Tm → Heap → Prop} (h : W E a T H Q) (hi : ∀ x T H, Q x T H → Q' x T H) : W E a T H Q' := let ⟨n, v, o, p, a, b⟩ := h; ⟨n, v, o, p, a, hi v o p b⟩
theorem WR.mono {E : Env} {a T H} {Q Q' : Tm → Heap → Prop} (h : WR E a T H Q) (hi : ∀ T H, Q T H → Q' T H) : WR E a T H Q' := let ⟨n, o, p, a, b⟩ := h; ⟨n, o, p, a, hi o p b⟩

section
variable {E : Env} {T : Tm} {H : Heap}

/-! ### lists of operations -/
section
variable {Q : Tm → Heap → Prop} {d : Option Nat} {op : O} {is : List Ins} {g : Nat × Bool}
theorem evIns_op {n : Nat} {d : Option Nat} {op : O} {g : Option (Nat × Bool)} : evIns E n ⟨d, op, g⟩ T H = evIns E n ⟨none, op, none⟩ T H := by cases n <;> simp [evIns]

theorem WR_nil : WR E [] T H Q ↔ Q T H :=
  ⟨fun ⟨n, T', H', h, q⟩ => by cases n <;> simp [evReg] at h; obtain ⟨rfl, rfl⟩ := h; exact q, fun q => ⟨1, T, H, by simp [evReg], q⟩⟩

theorem WR_cons0 {g : Option (Nat × Bool)} : WR E (⟨d, op, g⟩ :: is) T H Q ↔ Opt (wanted T g) fun w => if w = true then WI E op T H (fun v o => WR E is (put T d v) (o.getD H) Q) else WR E is (put T d (.tup [])) H Q := by
  constructor
  · rintro ⟨n, T', H', h, q⟩
    cases n with
    | zero => simp [evReg] at h
    | succ n =>
      simp only [evReg] at h
      cases hw : wanted T g with
      | none => rw [hw] at h; cases h
      | some w =>
        rw [hw] at h
        rw [Opt_some]
        cases w with
        | false => simp only at h; exact ⟨n, T', H', h, q⟩
        | true =>
          simp only [if_true] at h ⊢
          rw [evIns_op] at h
          split at h
          · cases h
          · rename_i v hv
            exact ⟨n, v, none, hv, n, T', H', h, q⟩
          · rename_i v H1 hv
            exact ⟨n, v, some H1, hv, n, T', H', h, q⟩
  · rintro ⟨w, hw, h⟩
    cases w with
    | false =>
      simp only [Bool.false_eq_true, if_false] at h
      obtain ⟨n, T', H', h, q⟩ := h
      exact ⟨n + 1, T', H', by simp only [evReg, hw]; exact h, q⟩
    | true =>
      simp only [if_true] at h
      obtain ⟨n, v, o, h1, m, T', H', h2, q⟩ := h
      refine ⟨max n m + 1, T', H', ?_, q⟩
      simp only [evReg, hw]
      rw [evIns_op, mono_ins (Nat.le_max_left n m) h1]
      cases o with
      | none => exact mono_reg (Nat.le_max_right n m) h2
      | some H1 => exact mono_reg (Nat.le_max_right n m) h2

theorem WR_cons : WR E (⟨d, op, none⟩ :: is) T H Q ↔ WI E op T H fun v o => WR E is (put T d v) (o.getD H) Q := by
  rw [WR_cons0, show wanted T none = some true from rfl, Opt_some, if_pos rfl]
theorem WR_consG : WR E (⟨d, op, some g⟩ :: is) T H Q ↔ Opt (wanted T (some g)) fun w => if w = true then WI E op T H (fun v o => WR E is (put T d v) (o.getD H) Q) else WR E is (put T d (.tup [])) H Q := WR_cons0

theorem WH_nil {j : Nat} {imp : List Nat} {Q : Tm → Prop} : WH E j imp [] T H Q ↔ Q T :=
  ⟨fun ⟨n, T', h, q⟩ => by cases n <;> simp [evHeads] at h; subst h; exact q, fun q => ⟨1, T, by simp [evHeads], q⟩⟩

theorem WH_cons {j : Nat} {imp : List Nat} {g : Option (Nat × Bool)} {Q : Tm → Prop} : WH E j imp (⟨d, op, g⟩ :: is) T H Q ↔
    Opt (wanted T g) fun w => if w = true then (if imp.contains j = true then WI E op T H (fun v o => o = none ∧ WH E (j + 1) imp is (put T d v) H Q) else Opt (evP T op) fun v => WH E (j + 1) imp is (put T d v) H Q) else WH E (j + 1) imp is (put T d (.tup [])) H Q := by
  constructor
  · rintro ⟨n, T', h, q⟩
    cases n with
    | zero => simp [evHeads] at h
    | succ n =>
      simp only [evHeads] at h
      cases hw : wanted T g with
      | none => rw [hw] at h; cases h
      | some w =>
        rw [hw] at h
        rw [Opt_some]
        cases w with
        | false => simp only at h; exact ⟨n, T', h, q⟩
        | true =>
          simp only [if_true] at h ⊢
          by_cases hc : imp.contains j = true
          · rw [if_pos hc] at h ⊢
            rw [evIns_op] at h
            split at h
            · rename_i v hv
              exact ⟨n, v, none, hv, rfl, n, T', h, q⟩
            · cases h
          · rw [if_neg hc] at h ⊢
            split at h
            · rename_i v hv
              exact ⟨v, hv, n, T', h, q⟩
            · cases h
  · rintro ⟨w, hw, h⟩
    cases w with
    | false =>
      simp only [Bool.false_eq_true, if_false] at h
      obtain ⟨n, T', h, q⟩ := h
      exact ⟨n + 1, T', by simp only [evHeads, hw]; exact h, q⟩
    | true =>
      simp only [if_true] at h
      by_cases hc : imp.contains j = true
      · rw [if_pos hc] at h
        obtain ⟨n, v, o, h1, rfl, m, T', h2, q⟩ := h
        refine ⟨max n m + 1, T', ?_, q⟩
        simp only [evHeads, hw]
        rw [if_pos hc, evIns_op, mono_ins (Nat.le_max_left n m) h1]
        exact mono_heads (Nat.le_max_right n m) h2
      · rw [if_neg hc] at h
        obtain ⟨v, h1, m, T', h2, q⟩ := h
        refine ⟨m + 1, T', ?_, q⟩
        simp only [evHeads, hw]
        rw [if_neg hc, h1]
        exact h2

theorem WN_nil {j : Nat} {ch : List Nat} : WN E j ch [] T H Q ↔ Q T H :=
  ⟨fun ⟨n, T', H', h, q⟩ => by cases n <;> simp [evC] at h; obtain ⟨rfl, rfl⟩ := h; exact q, fun q => ⟨1, T, H, by simp [evC], q⟩⟩

theorem WN_cons {j : Nat} {ch : List Nat} {g : Option (Nat × Bool)} : WN E j ch (⟨d, op, g⟩ :: is) T H Q ↔
    Opt (wanted T g) fun w => if w = true then (if ch.contains j = true then WI E op T H (fun v o => WN E (j + 1) ch is (put T d v) (o.getD H) Q) else Opt (evP T op) fun v => WN E (j + 1) ch is (put T d v) H Q) else WN E (j + 1) ch is (put T d (.tup [])) H Q := by
  constructor
  · rintro ⟨n, T', H', h, q⟩
    cases n with
    | zero => simp [evC] at h
    | succ n =>
      simp only [evC] at h
      cases hw : wanted T g with
      | none => rw [hw] at h; cases h
      | some w =>
        rw [hw] at h
        rw [Opt_some]
        cases w with
        | false => simp only at h; exact ⟨n, T', H', h, q⟩
        | true =>
          simp only [if_true] at h ⊢
          by_cases hc : ch.contains j = true
          · rw [if_pos hc] at h ⊢
            rw [evIns_op] at h
            split at h
            · cases h
            · rename_i v hv
              exact ⟨n, v, none, hv, n, T', H', h, q⟩
            · rename_i v H1 hv
              exact ⟨n, v, some H1, hv, n, T', H', h, q⟩
          · rw [if_neg hc] at h ⊢
            split at h
            · rename_i v hv
              exact ⟨v, hv, n, T', H', h, q⟩
            · cases h
  · rintro ⟨w, hw, h⟩
    cases w with
    | false =>
      simp only [Bool.false_eq_true, if_false] at h
      obtain ⟨n, T', H', h, q⟩ := h
      exact ⟨n + 1, T', H', by simp only [evC, hw]; exact h, q⟩
    | true =>
      simp only [if_true] at h
      by_cases hc : ch.contains j = true
      · rw [if_pos hc] at h
        obtain ⟨n, v, o, h1, m, T', H', h2, q⟩ := h
        refine ⟨max n m + 1, T', H', ?_, q⟩
        simp only [evC, hw]
        rw [if_pos hc, evIns_op, mono_ins (Nat.le_max_left n m) h1]
        cases o with
        | none => exact mono_chain (Nat.le_max_right n m) h2
        | some H1 => exact mono_chain (Nat.le_max_right n m) h2
      · rw [if_neg hc] at h
        obtain ⟨v, h1, m, T', H', h2, q⟩ := h
        refine ⟨m + 1, T', H', ?_, q⟩
        simp only [evC, hw]
        rw [if_neg hc, h1]
        exact h2
end

/-! ### code -/
def seqQ (N : Tm → Heap → Prop) (Q : Ex → Tm → Heap → Prop) : Ex → Tm → Heap → Prop
  | .normal, T, H => N T H
  | .exit id, T, H => Q (.exit id) T H
  | .ret, T, H => Q .ret T H
def blockQ (id : Nat) (Q : Ex → Tm → Heap → Prop) : Ex → Tm → Heap → Prop
  | .exit j, T, H => if j = id then Q .normal T H else Q (.exit j) T H
  | .normal, T, H => Q .normal T H
  | .ret, T, H => Q .ret T H
def finQ (kt : Bool) (H0 : Heap) (Q : V → Option Heap → Prop) (v : V) (H : Heap) : Prop := Q (finish kt H0 v H).1 (finish kt H0 v H).2
def retQ (res : List ResV) (kt : Bool) (H0 : Heap) (Q : V → Option Heap → Prop) : Ex → Tm → Heap → Prop
  | .exit _, _, _ => False
  | .normal, T, H => Opt (resVs T H res) fun vs => finQ kt H0 Q (one vs) H
  | .ret, T, H => Opt (resVs T H res) fun vs => finQ kt H0 Q (one vs) H

def boolOf : V → Option Bool
  | .lit (.bool b) => some b
  | _ => none
theorem boolOf_lit {b : Bool} : boolOf (.lit (.bool b)) = some b := rfl

section
variable {Q : Ex → Tm → Heap → Prop}
theorem W_skip : W E .skip T H Q ↔ Q .normal T H :=
  ⟨fun ⟨n, x, T', H', h, q⟩ => by cases n <;> simp [evCode] at h; obtain ⟨rfl, rfl, rfl⟩ := h; exact q, fun q => ⟨1, _, _, _, by simp [evCode], q⟩⟩
theorem W_exit {id : Nat} : W E (.exit id) T H Q ↔ Q (.exit id) T H :=
  ⟨fun ⟨n, x, T', H', h, q⟩ => by cases n <;> simp [evCode] at h; obtain ⟨rfl, rfl, rfl⟩ := h; exact q, fun q => ⟨1, _, _, _, by simp [evCode], q⟩⟩
theorem W_ret : W E .ret T H Q ↔ Q .ret T H :=
  ⟨fun ⟨n, x, T', H', h, q⟩ => by cases n <;> simp [evCode] at h; obtain ⟨rfl, rfl, rfl⟩ := h; exact q, fun q => ⟨1, _, _, _, by simp [evCode], q⟩⟩
theorem W_reg {ops : List Ins} {keep : List Nat} : W E (.reg ops keep) T H Q ↔ WR E ops T H fun T' H' => Q .normal (T'.keep keep) H' := by
  constructor
  · rintro ⟨n, x, T', H', h, q⟩
    cases n with
    | zero => simp [evCode] at h
    | succ n =>
      simp only [evCode] at h
      split at h
      · rename_i T1 H1 hr
        simp only [Option.some.injEq, Prod.mk.injEq] at h
        obtain ⟨rfl, rfl, rfl⟩ := h
        exact ⟨n, _, _, hr, q⟩
      · cases h
  · rintro ⟨n, T', H', h, q⟩
    exact ⟨n + 1, _, _, _, by simp only [evCode, h], q⟩
theorem W_draw {ops : List Ins} {head : Nat} {imp keep : List Nat} : W E (.draw ops head imp keep) T H Q ↔ WH E 0 imp (ops.take head) T H fun T1 => WR E (ops.drop head) T1 H fun T' H' => Q .normal (T'.keep keep) H' := by
  constructor
  · rintro ⟨n, x, T', H', h, q⟩
    cases n with
    | zero => simp [evCode] at h
    | succ n =>
      simp only [evCode] at h
      split at h
      · rename_i T1 hh
        split at h
        · rename_i T2 H2 hr
          simp only [Option.some.injEq, Prod.mk.injEq] at h
          obtain ⟨rfl, rfl, rfl⟩ := h
          exact ⟨n, _, hh, n, _, _, hr, q⟩
        · cases h
      · cases h
  · rintro ⟨n, T1, h, m, T', H', h2, q⟩
    refine ⟨max n m + 1, _, _, _, ?_, q⟩
    simp only [evCode, mono_heads (Nat.le_max_left n m) h, mono_reg (Nat.le_max_right n m) h2]
theorem W_drawA {ops : List Ins} {head : Nat} {al keep : List Nat} : W E (.drawA ops head al keep) T H Q ↔ Opt (evHeadsA H.blks.length 0 al (ops.take head) T []) fun r => WR E (ops.drop head) r.1 ⟨H.blks ++ r.2, H.wr⟩ fun T' H' => Q .normal (T'.keep keep) H' := by
  constructor
  · rintro ⟨n, x, T', H', h, q⟩
    cases n with
    | zero => simp [evCode] at h
    | succ n =>
      simp only [evCode] at h
      split at h
      · rename_i T1 bs hh
        split at h
        · rename_i T2 H2 hr
          simp only [Option.some.injEq, Prod.mk.injEq] at h
          obtain ⟨rfl, rfl, rfl⟩ := h
          exact ⟨_, hh, n, _, _, hr, q⟩
        · cases h
      · cases h
  · rintro ⟨⟨T1, bs⟩, h, m, T', H', h2, q⟩
    refine ⟨m + 1, _, _, _, ?_, q⟩
    simp only [evCode, h, h2]
theorem W_drawC {ops : List Ins} {ch keep : List Nat} : W E (.drawC ops ch keep) T H Q ↔ WN E 0 ch ops T H fun T' H' => Q .normal (T'.keep keep) H' := by
  constructor
  · rintro ⟨n, x, T', H', h, q⟩
    cases n with
    | zero => simp [evCode] at h
    | succ n =>
      simp only [evCode] at h
      split at h
      · rename_i T1 H1 hr
        simp only [Option.some.injEq, Prod.mk.injEq] at h
        obtain ⟨rfl, rfl, rfl⟩ := h
        exact ⟨n, _, _, hr, q⟩
      · cases h
  · rintro ⟨n, T', H', h, q⟩
    exact ⟨n + 1, _, _, _, by simp only [evCode, h], q⟩
theorem W_seq {a b : I} : W E (.seq a b) T H Q ↔ W E a T H (seqQ (fun T' H' => W E b T' H' Q) Q) := by
  constructor
  · rintro ⟨n, x, T', H', h, q⟩
    cases n with
    | zero => simp [evCode] at h
    | succ n =>
      simp only [evCode] at h
      split at h
      · rename_i T1 H1 ha
        exact ⟨n, _, _, _, ha, n, _, _, _, h, q⟩
      · rename_i hne
        refine ⟨n, _, _, _, h, ?_⟩
        cases x with
        | normal => exact absurd h (hne _ _)
        | exit id => exact q
        | ret => exact q
  · rintro ⟨n, x, T', H', h, q⟩
    cases x with
    | normal =>
      obtain ⟨m, x, T2, H2, h2, q⟩ := q
      refine ⟨max n m + 1, _, _, _, ?_, q⟩
      simp only [evCode, mono_code (Nat.le_max_left n m) h]
      exact mono_code (Nat.le_max_right n m) h2
    | exit id => exact ⟨n + 1, _, _, _, by simp only [evCode, h], q⟩
    | ret => exact ⟨n + 1, _, _, _, by simp only [evCode, h], q⟩
theorem W_cond {c : Opd} {a b : I} : W E (.cond c a b) T H Q ↔ Opt (c.ev T) fun v => Opt (boolOf v) fun t => if t = true then W E a T H Q else W E b T H Q := by
  constructor
  · rintro ⟨n, x, T', H', h, q⟩
    cases n with
    | zero => simp [evCode] at h
    | succ n =>
      simp only [evCode] at h
      split at h
      · rename_i hc
        exact ⟨_, hc, _, rfl, by dsimp only; rw [if_pos rfl]; exact ⟨n, _, _, _, h, q⟩⟩
      · rename_i hc
        exact ⟨_, hc, _, rfl, by dsimp only; rw [if_neg Bool.false_ne_true]; exact ⟨n, _, _, _, h, q⟩⟩
      · cases h
  · rintro ⟨v, hv, t, ht, h⟩
    have hv2 : v = .lit (.bool t) := by
      unfold boolOf at ht
      split at ht
      · cases ht; rfl
      · cases ht
    subst hv2
    cases t with
    | true =>
      rw [if_pos rfl] at h
      obtain ⟨n, x, T', H', h, q⟩ := h
      exact ⟨n + 1, _, _, _, by simp only [evCode, hv]; exact h, q⟩
    | false =>
      rw [if_neg Bool.false_ne_true] at h
      obtain ⟨n, x, T', H', h, q⟩ := h
      exact ⟨n + 1, _, _, _, by simp only [evCode, hv]; exact h, q⟩
theorem W_block {id : Nat} {a : I} : W E (.block id a) T H Q ↔ W E a T H (blockQ id Q) := by
  constructor
  · rintro ⟨n, x, T', H', h, q⟩
    cases n with
    | zero => simp [evCode] at h
    | succ n =>
      simp only [evCode] at h
      split at h
      · rename_i j T1 H1 ha
        refine ⟨n, _, _, _, ha, ?_⟩
        simp only [blockQ]
        split at h
        · rename_i e
          simp only [Option.some.injEq, Prod.mk.injEq] at h
          obtain ⟨rfl, rfl, rfl⟩ := h
          rw [if_pos e]; exact q
        · rename_i e
          simp only [Option.some.injEq, Prod.mk.injEq] at h
          obtain ⟨rfl, rfl, rfl⟩ := h
          rw [if_neg e]; exact q
      · rename_i hne
        refine ⟨n, _, _, _, h, ?_⟩
        cases x with
        | normal => exact q
        | exit id => exact absurd h (hne _ _ _)
        | ret => exact q
  · rintro ⟨n, x, T', H', h, q⟩
    cases x with
    | normal => exact ⟨n + 1, _, _, _, by simp only [evCode, h], q⟩
    | exit j =>
      simp only [blockQ] at q
      split at q
      · rename_i e
        exact ⟨n + 1, _, _, _, by simp only [evCode, h, if_pos e], q⟩
      · rename_i e
        exact ⟨n + 1, _, _, _, by simp only [evCode, h, if_neg e], q⟩
    | ret => exact ⟨n + 1, _, _, _, by simp only [evCode, h], q⟩
theorem W_loop {a : I} : W E (.loop a) T H Q ↔ W E a T H (seqQ (fun T' H' => W E (.loop a) T' H' Q) Q) := by
  constructor
  · rintro ⟨n, x, T', H', h, q⟩
    cases n with
    | zero => simp [evCode] at h
    | succ n =>
      simp only [evCode] at h
      split at h
      · rename_i T1 H1 ha
        exact ⟨n, _, _, _, ha, n, _, _, _, h, q⟩
      · rename_i hne
        refine ⟨n, _, _, _, h, ?_⟩
        cases x with
        | normal => exact absurd h (hne _ _)
        | exit id => exact q
        | ret => exact q
  · rintro ⟨n, x, T', H', h, q⟩
    cases x with
    | normal =>
      obtain ⟨m, x, T2, H2, h2, q⟩ := q
      refine ⟨max n m + 1, _, _, _, ?_, q⟩
      simp only [evCode, mono_code (Nat.le_max_left n m) h]
      exact mono_code (Nat.le_max_right n m) h2
    | exit id => exact ⟨n + 1, _, _, _, by simp only [evCode, h], q⟩
    | ret => exact ⟨n + 1, _, _, _, by simp only [evCode, h], q⟩
theorem W_scope {a : I} : W E (.scope a) T H Q ↔ W E a T H Q := by
  constructor
  · rintro ⟨n, x, T', H', h, q⟩
    cases n with
    | zero => simp [evCode] at h
    | succ n => exact ⟨n, _, _, _, by simpa only [evCode] using h, q⟩
  · rintro ⟨n, x, T', H', h, q⟩
    exact ⟨n + 1, _, _, _, by simpa only [evCode] using h, q⟩
theorem W_frz {t : Nat} {a : I} : W E (.frz t a) T H Q ↔ Opt (T.get t) fun v => Opt (frzV H v) fun r => W E a (T.set t r.1) r.2 Q := by
  constructor
  · rintro ⟨n, x, T', H', h, q⟩
    cases n with
    | zero => simp [evCode] at h
    | succ n =>
      simp only [evCode] at h
      split at h
      · rename_i v hv
        split at h
        · rename_i v' H1 hz
          exact ⟨_, hv, _, hz, n, _, _, _, h, q⟩
        · cases h
      · cases h
  · rintro ⟨v, hv, ⟨v', H1⟩, hz, n, x, T', H', h, q⟩
    exact ⟨n + 1, _, _, _, by simp only [evCode, hv, hz]; exact h, q⟩
theorem W_frzA {t : Nat} {a : I} : W E (.frzA a t) T H Q ↔ W E a T H (seqQ (fun T' H' => Opt (T'.get t) fun v => Opt (frzV H' v) fun r => Q .normal (T'.set t r.1) r.2) Q) := by
  constructor
  · rintro ⟨n, x, T', H', h, q⟩
    cases n with
    | zero => simp [evCode] at h
    | succ n =>
      simp only [evCode] at h
      split at h
      · rename_i T1 H1 ha
        refine ⟨n, _, _, _, ha, ?_⟩
        split at h
        · rename_i v hv
          split at h
          · rename_i v' H2 hz
            simp only [Option.some.injEq, Prod.mk.injEq] at h
            obtain ⟨rfl, rfl, rfl⟩ := h
            exact ⟨_, hv, _, hz, q⟩
          · cases h
        · cases h
      · rename_i hne
        refine ⟨n, _, _, _, h, ?_⟩
        cases x with
        | normal => exact absurd h (hne _ _)
        | exit id => exact q
        | ret => exact q
  · rintro ⟨n, x, T', H', h, q⟩
    cases x with
    | normal =>
      obtain ⟨v, hv, ⟨v', H1⟩, hz, q⟩ := q
      exact ⟨n + 1, _, _, _, by simp only [evCode, h, hv, hz], q⟩
    | exit id => exact ⟨n + 1, _, _, _, by simp only [evCode, h], q⟩
    | ret => exact ⟨n + 1, _, _, _, by simp only [evCode, h], q⟩
end

theorem WC_fn {f : FuncId} {p nt : Nat} {body : I} {res : List ResV} {kt : Bool} {args : List V} {Q : V → Option Heap → Prop} (hi : E.intr f = none) (hf : E.fn f = some ⟨p, nt, body, res, kt⟩) : WC E f args H Q ↔ args.length = p ∧ W E body (Tm.init 0 args) ⟨H.blks, []⟩ (retQ res kt H Q) := by
  constructor
  · rintro ⟨n, v, o, h, q⟩
    cases n with
    | zero => simp [evCall] at h
    | succ n =>
      simp only [evCall, hi, hf] at h
      split at h
      · rename_i hl
        refine ⟨hl, ?_⟩
        split at h
        · rename_i x T' H' hr
          refine ⟨n, _, _, _, hr, ?_⟩
          cases x with
          | exit id => simp at h
          | normal =>
            simp only at h
            split at h
            · rename_i vs hv
              simp only [Option.some.injEq] at h
              exact ⟨vs, hv, by dsimp only [finQ]; rw [h]; exact q⟩
            · cases h
          | ret =>
            simp only at h
            split at h
            · rename_i vs hv
              simp only [Option.some.injEq] at h
              exact ⟨vs, hv, by dsimp only [finQ]; rw [h]; exact q⟩
            · cases h
        · cases h
      · cases h
  · rintro ⟨hl, n, x, T', H', h, q⟩
    cases x with
    | exit id => exact q.elim
    | normal =>
      obtain ⟨vs, hv, q⟩ := q
      exact ⟨n + 1, _, _, by simp only [evCall, hi, hf, if_pos hl, h, hv], q⟩
    | ret =>
      obtain ⟨vs, hv, q⟩ := q
      exact ⟨n + 1, _, _, by simp only [evCall, hi, hf, if_pos hl, h, hv], q⟩

theorem WC_intr {f : FuncId} {g : List V → Heap → Option (V × Option Heap)} {args : List V} {Q : V → Option Heap → Prop} (hi : E.intr f = some g) : WC E f args H Q ↔ Opt (g args H) fun r => Q r.1 r.2 := by
  constructor
  · rintro ⟨n, v, o, h, q⟩
    cases n with
    | zero => simp [evCall] at h
    | succ n =>
      simp only [evCall, hi] at h
      exact ⟨_, h, q⟩
  · rintro ⟨⟨v, o⟩, h, q⟩
    exact ⟨1, v, o, by simp only [evCall, hi]; exact h, q⟩

/-- a loop that goes on while a number falls -/
theorem W_loop_down {a : I} {Q : Ex → Tm → Heap → Prop} {Inv : Nat → Tm → Heap → Prop}
    (step : ∀ n T H, Inv n T H → W E a T H (seqQ (fun T' H' => ∃ m, m < n ∧ Inv m T' H') Q)) : ∀ (n : Nat) {T : Tm} {H : Heap}, Inv n T H → W E (.loop a) T H Q := by
  intro n
  induction n using Nat.strongRecOn with
  | _ n ih =>
    intro T H h
    rw [W_loop]
    refine (step n T H h).mono fun x T' H' q => ?_
    cases x with
    | normal =>
      obtain ⟨m, hm, q⟩ := q
      exact ih m hm q
    | exit id => exact q
    | ret => exact q

structure Next (N k : Nat) (P : Prop) : Prop where
  lt : k < N
  ok : P
structure Fits (P : Prop) (T T' : Tm) (H H' : Heap) : Prop where
  inv : P
  tm : T = T'
  hp : H = H'
/-- a loop that counts to N, with a state s -/
theorem W_for {σ : Type} {a : I} {Q : Ex → Tm → Heap → Prop} (N : Nat) (tm : Nat → σ → Tm) (hp : Nat → σ → Heap) (Inv : Nat → σ → Prop)
    (step : ∀ k s, k ≤ N → Inv k s → W E a (tm k s) (hp k s) (seqQ (fun T' H' => Next N k (∃ s', Fits (Inv (k + 1) s') T' (tm (k + 1) s') H' (hp (k + 1) s'))) Q))
    (s : σ) (h0 : Inv 0 s) (hT : T = tm 0 s) (hH : H = hp 0 s) : W E (.loop a) T H Q := by
  refine W_loop_down (Inv := fun n T H => ∃ k s, n = N - k ∧ k ≤ N ∧ Inv k s ∧ T = tm k s ∧ H = hp k s) ?_ (N - 0) ⟨0, s, rfl, Nat.zero_le _, h0, hT, hH⟩
  rintro n T H ⟨k, s, rfl, hk, hi, rfl, rfl⟩
  refine (step k s hk hi).mono fun x T' H' q => ?_
  cases x with
  | normal =>
    obtain ⟨hlt, s', hi', hT', hH'⟩ := q
    exact ⟨N - (k + 1), by omega, k + 1, s', rfl, by omega, hi', hT', hH'⟩
  | exit id => exact q
  | ret => exact q
end
end Go.Ev
