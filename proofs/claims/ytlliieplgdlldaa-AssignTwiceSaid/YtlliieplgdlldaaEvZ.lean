/- Rules by which one steps through the evaluator, operation by operation.
   Conditions: none; plain lemmas. -/
import Derived.Test.YtlliieplgdlldaaEvY
namespace Go.Ev

section
variable {E : Env} {T : Tm} {H : Heap} {Q : V → Option Heap → Prop}

/-! ### frames -/
theorem get_cons {k t : Nat} {v : V} {r : Tm} : Tm.get ((k, v) :: r) t = if k = t then some v else Tm.get r t := (rfl)
theorem get_nil {t : Nat} : Tm.get [] t = none := (rfl)
theorem set_cons {k t : Nat} {u v : V} {r : Tm} : Tm.set ((k, u) :: r) t v = if k = t then (t, v) :: r else (k, u) :: Tm.set r t v := (rfl)
theorem set_nil {t : Nat} {v : V} : Tm.set [] t v = [(t, v)] := (rfl)
theorem keep_nil {T : Tm} : Tm.keep [] T = [] := (rfl)
theorem keep_cons {t : Nat} {l : List Nat} : Tm.keep (t :: l) T = match T.get t with | some v => (t, v) :: Tm.keep l T | none => Tm.keep l T := (rfl)
theorem put_some {d : Nat} {v : V} : put T (some d) v = T.set d v := (rfl)
theorem put_none {v : V} : put T none v = T := (rfl)
theorem ev_t {n : Nat} : (Opd.t n).ev T = T.get n := (rfl)
theorem ev_c {v : V} : (Opd.c v).ev T = some v := (rfl)
theorem ev_f {n : FuncId} : (Opd.f n).ev T = some (.fn n [] []) := (rfl)
theorem evs_nil : evs T [] = some [] := (rfl)
theorem evs_cons {o : Opd} {os : List Opd} : evs T (o :: os) = (o.ev T).bind fun v => (evs T os).map (v :: ·) := by
  simp only [evs]
  cases o.ev T <;> simp
  cases evs T os <;> simp
theorem evps_nil : evps T [] = some [] := (rfl)
theorem evps_cons {a b : Nat} {o : Opd} {os : List (Nat × Nat × Opd)} : evps T ((a, b, o) :: os) = (o.ev T).bind fun v => (evps T os).map ((a, b, v) :: ·) := by
  simp only [evps]
  cases o.ev T <;> simp
  cases evps T os <;> simp
theorem init_nil {n : Nat} : Tm.init n [] = [] := (rfl)
theorem init_cons {n : Nat} {v : V} {vs : List V} : Tm.init n (v :: vs) = (n, v) :: Tm.init (n + 1) vs := (rfl)
def wantedV (b : Bool) : Option V → Option Bool
  | some (.lit (.bool c)) => some (c == b)
  | some (.tup []) => some false
  | _ => none
theorem wanted_some {t : Nat} {b : Bool} : wanted T (some (t, b)) = wantedV b (T.get t) := (rfl)
theorem wanted_none : wanted T none = some true := (rfl)
theorem wantedV_lit {b c : Bool} : wantedV b (some (.lit (.bool c))) = some (c == b) := (rfl)
theorem wantedV_tup {b : Bool} : wantedV b (some (.tup [])) = some false := (rfl)

/-! ### what an operation answers -/
def fnOf : V → Option (FuncId × List V × List V)
  | .fn f a b => some (f, a, b)
  | _ => none
theorem fnOf_fn {f : FuncId} {a b : List V} : fnOf (.fn f a b) = some (f, a, b) := (rfl)

def restI (E : Env) (T : Tm) (H : Heap) (Q : V → Option Heap → Prop) : O → Prop
  | .call f args => Opt (evs T args) fun vs => WC E f vs H Q
  | .callv x args => Opt (x.ev T) fun v => Opt (evs T args) fun vs => Opt (fnOf v) fun r => WC E r.1 (r.2.1 ++ vs ++ r.2.2) H Q
  | op => Opt (evH T H op) fun r => Q r.1 r.2

theorem WI_none {op : O} (h : evP T op = none) : WI E op T H Q ↔ restI E T H Q op := by
  constructor
  · rintro ⟨n, v, o, hi, q⟩
    cases n with
    | zero => simp [evIns] at hi
    | succ n =>
      simp only [evIns, h] at hi
      split at hi
      · split at hi
        · rename_i vs hvs
          exact ⟨vs, hvs, n, v, o, hi, q⟩
        · cases hi
      · split at hi
        · rename_i f a b vs hx hvs
          exact ⟨_, hx, vs, hvs, _, rfl, n, v, o, hi, q⟩
        · cases hi
      · rename_i h1 h2
        cases op <;> first | exact absurd rfl (h1 _ _) | exact absurd rfl (h2 _ _) | exact ⟨_, hi, q⟩
  · intro hr
    cases op
    case call f args =>
      obtain ⟨vs, hvs, n, v, o, hi, q⟩ := hr
      exact ⟨n + 1, v, o, by simp only [evIns, evP, hvs]; exact hi, q⟩
    case callv x args =>
      obtain ⟨u, hx, vs, hvs, ⟨f, a, b⟩, hf, n, v, o, hi, q⟩ := hr
      have : u = .fn f a b := by
        unfold fnOf at hf
        split at hf
        · cases hf; rfl
        · cases hf
      subst this
      exact ⟨n + 1, v, o, by simp only [evIns, evP, hx, hvs]; exact hi, q⟩
    all_goals
      obtain ⟨⟨v, o⟩, hi, q⟩ := hr
      exact ⟨1, v, o, by simp only [evIns, h]; exact hi, q⟩

theorem WI_some {op : O} {v : V} (h : evP T op = some v) : WI E op T H Q ↔ Q v none := by
  constructor
  · rintro ⟨n, v', o, hi, q⟩
    cases n with
    | zero => simp [evIns] at hi
    | succ n =>
      simp only [evIns, h, Option.some.injEq, Prod.mk.injEq] at hi
      obtain ⟨rfl, rfl⟩ := hi
      exact q
  · intro q
    exact ⟨1, v, none, by simp only [evIns, h], q⟩

/-- operations that ask nothing of the heap -/
def pureO : O → Bool
  | .mov _ | .pick _ _ _ | .box true _ | .build _ _ | .buildSl false _ _ _ _ | .nilChk _ | .bin _ _ _ | .eq _ _ _ _ | .not _ | .neg _ | .conv _ _ | .mkFn _ _ _ | .fAddr _ _ | .fld _ _ _ | .iAddr _ _ _
  | .iAddrA _ _ _ _ | .idxA _ _ _ _ _ | .idxS _ _ | .sl _ _ _ _ _ | .slS _ _ _ | .ext _ _ | .len .str _ | .len .slice _ | .mm _ _ => true
  | _ => false

theorem WI_pure {op : O} (hp : pureO op = true) : WI E op T H Q ↔ Opt (evP T op) fun v => Q v none := by
  cases h : evP T op with
  | some v => rw [WI_some h, Opt_some]
  | none =>
    rw [WI_none h, Opt_none]
    have hH : evH T H op = none := by
      cases op <;> simp [pureO] at hp <;> try rfl
      · rename_i b x
        cases b <;> simp at hp
        rfl
      · rename_i b _ _ _ _
        cases b <;> simp at hp
        rfl
      · rename_i c x
        cases c <;> simp at hp <;> rfl
    cases op <;> simp [pureO] at hp <;> simp only [restI, hH, Opt_none]

theorem WHc {d : Option Nat} {op : O} {is : List Ins} {j : Nat} {imp : List Nat} {g : Option (Nat × Bool)} {Q : Tm → Prop} : WH E j imp (⟨d, op, g⟩ :: is) T H Q ↔
    Opt (wanted T g) fun w => if w = true then (if imp.contains j = true then WI E op T H (fun v o => o = none ∧ WH E (j + 1) imp is (put T d v) H Q) else if pureO op = true then WI E op T H (fun v _ => WH E (j + 1) imp is (put T d v) H Q) else Opt (evP T op) fun v => WH E (j + 1) imp is (put T d v) H Q) else WH E (j + 1) imp is (put T d (.tup [])) H Q := by
  rw [WH_cons]
  by_cases h : pureO op = true
  · simp only [h, if_true, WI_pure h]
  · simp only [if_neg h]
theorem WNc {d : Option Nat} {op : O} {is : List Ins} {j : Nat} {ch : List Nat} {g : Option (Nat × Bool)} {Q : Tm → Heap → Prop} : WN E j ch (⟨d, op, g⟩ :: is) T H Q ↔
    Opt (wanted T g) fun w => if w = true then (if ch.contains j = true then WI E op T H (fun v o => WN E (j + 1) ch is (put T d v) (o.getD H) Q) else if pureO op = true then WI E op T H (fun v _ => WN E (j + 1) ch is (put T d v) H Q) else Opt (evP T op) fun v => WN E (j + 1) ch is (put T d v) H Q) else WN E (j + 1) ch is (put T d (.tup [])) H Q := by
  rw [WN_cons]
  by_cases h : pureO op = true
  · simp only [h, if_true, WI_pure h]
  · simp only [if_neg h]

/-! ### by value -/
def pickV (a b : Option V) : V → Option V
  | .lit (.bool true) => a
  | .lit (.bool false) => b
  | _ => none
def notV : V → Option V
  | .lit (.bool b) => some (.lit (.bool (!b)))
  | _ => none
def negV : V → Option V
  | .lit (.int k n) => some (.lit (.int k (k.wrap (0 - n))))
  | _ => none
def convV (k : IntKind) : V → Option V
  | .lit (.int _ n) => some (.lit (.int k (k.wrap n)))
  | _ => none
def nilChkV : V → Option V
  | .imm cs => some (.imm cs)
  | .ref b o => some (.ref b o)
  | .fn f a b => some (.fn f a b)
  | _ => none
def fAddrV (off : Nat) : V → Option V
  | .imm cs => if off ≤ cs.length then some (.imm (cs.drop off)) else none
  | .ref b o => some (.ref b (o + off))
  | _ => none
def fldV (off : Nat) (n : Option Nat) : V → Option V
  | .agg cs => partV cs off n
  | _ => none
def iAddrV (size : Nat) : V → V → Option V
  | .sl cs len _, .lit (.int _ i) => if 0 ≤ i ∧ i < (len : Int) then some (.imm (cs.drop (i.toNat * size))) else none
  | .msl b off len _ _, .lit (.int _ i) => if 0 ≤ i ∧ i < (len : Int) then some (.ref b (off + i.toNat * size)) else none
  | _, _ => none
def iAddrAV (len size : Nat) : V → V → Option V
  | .imm cs, .lit (.int _ i) => if 0 ≤ i ∧ i < (len : Int) then some (.imm (cs.drop (i.toNat * size))) else none
  | .ref b off, .lit (.int _ i) => if 0 ≤ i ∧ i < (len : Int) then some (.ref b (off + i.toNat * size)) else none
  | _, _ => none
def idxAV (len size : Nat) (n : Option Nat) : V → V → Option V
  | .agg cs, .lit (.int _ i) => if 0 ≤ i ∧ i < (len : Int) then partV cs (i.toNat * size) n else none
  | _, _ => none
def extV (i : Nat) : V → Option V
  | .tup vs => vs[i]?
  | _ => none
def lenV : V → Option Nat
  | .sl _ n _ => some n
  | .msl _ _ n _ _ => some n
  | .lit (.slice .none 0 0) => some 0
  | _ => none
def lenS : V → Option Nat
  | .lit (.string s) => some s.size
  | _ => none

theorem I_mov {x : Opd} : WI E (.mov x) T H Q ↔ Opt (x.ev T) fun v => Q v none := WI_pure rfl
theorem I_pick {c a b : Opd} : WI E (.pick c a b) T H Q ↔ Opt (c.ev T) fun v => Opt (pickV (a.ev T) (b.ev T) v) fun r => Q r none := by
  rw [WI_pure rfl]
  simp only [evP]
  cases c.ev T with
  | none => simp [Opt_none]
  | some v => rw [Opt_some]; unfold pickV; split <;> simp_all [Opt_none]
theorem I_boxT {x : Opd} : WI E (.box true x) T H Q ↔ Opt (x.ev T) fun v => boxable v = true ∧ Q (.imm v.strip2.cells) none := by
  rw [WI_pure rfl]
  simp only [evP]
  cases x.ev T with
  | none => simp [Opt_none]
  | some v => simp only [Opt_some, Opt_ite_none]
theorem I_build {z : List V} {ps : List (Nat × Nat × Opd)} : WI E (.build z ps) T H Q ↔ Opt (evps T ps) fun ps => Opt (fillV z ps) fun cs => Q (.agg cs) none := by
  rw [WI_pure rfl]
  simp only [evP]
  cases evps T ps with
  | none => simp [Opt_none]
  | some v => cases h : fillV z v <;> simp [h, Opt_some, Opt_none]
theorem I_buildSl {len size : Nat} {z : List V} {ps : List (Nat × Nat × Opd)} : WI E (.buildSl false len size z ps) T H Q ↔ Opt (evps T ps) fun ps => Opt (fillV (rept len z) ps) fun cs => cs.length = len * size ∧ Q (.sl (cs.map V.strip1) len (.cap len)) none := by
  rw [WI_pure rfl]
  simp only [evP]
  cases evps T ps with
  | none => simp [Opt_none]
  | some v => cases h : fillV (rept len z) v <;> simp [h, Opt_some, Opt_none, Opt_ite_none]
theorem I_nilChk {x : Opd} : WI E (.nilChk x) T H Q ↔ Opt (x.ev T) fun v => Opt (nilChkV v) fun r => Q r none := by
  rw [WI_pure rfl]
  simp only [evP]
  cases x.ev T with
  | none => simp [Opt_none]
  | some v => rw [Opt_some]; unfold nilChkV; split <;> simp_all [Opt_none]
theorem I_bin {op : BinOp} {x y : Opd} : WI E (.bin op x y) T H Q ↔ Opt (x.ev T) fun a => Opt (y.ev T) fun b => Opt (binV op a b) fun r => Q r none := by
  rw [WI_pure rfl]
  simp only [evP]
  cases x.ev T <;> cases y.ev T <;> simp [Opt_none, Opt_some]
theorem I_eq {ng : Bool} {c : EqC} {x y : Opd} : WI E (.eq ng c x y) T H Q ↔ Opt (x.ev T) fun a => Opt (y.ev T) fun b => Opt (eqV c a b) fun r => Q (.lit (.bool (if ng then !r else r))) none := by
  rw [WI_pure rfl]
  simp only [evP]
  cases x.ev T with
  | none => simp [Opt_none]
  | some a => cases y.ev T with
    | none => simp [Opt_none, Opt_some]
    | some b => cases h : eqV c a b <;> simp [h, Opt_none, Opt_some]
theorem I_not {x : Opd} : WI E (.not x) T H Q ↔ Opt (x.ev T) fun v => Opt (notV v) fun r => Q r none := by
  rw [WI_pure rfl]
  simp only [evP]
  cases x.ev T with
  | none => simp [Opt_none]
  | some v => rw [Opt_some]; unfold notV; split <;> simp_all [Opt_none]
theorem I_neg {x : Opd} : WI E (.neg x) T H Q ↔ Opt (x.ev T) fun v => Opt (negV v) fun r => Q r none := by
  rw [WI_pure rfl]
  simp only [evP]
  cases x.ev T with
  | none => simp [Opt_none]
  | some v => rw [Opt_some]; unfold negV; split <;> simp_all [Opt_none]
theorem I_conv {k : IntKind} {x : Opd} : WI E (.conv k x) T H Q ↔ Opt (x.ev T) fun v => Opt (convV k v) fun r => Q r none := by
  rw [WI_pure rfl]
  simp only [evP]
  cases x.ev T with
  | none => simp [Opt_none]
  | some v => rw [Opt_some]; unfold convV; split <;> simp_all [Opt_none]
theorem I_mkFn {f : FuncId} {a b : List Opd} : WI E (.mkFn f a b) T H Q ↔ Opt (evs T a) fun a => Opt (evs T b) fun b => Q (.fn f a b) none := by
  rw [WI_pure rfl]
  simp only [evP]
  cases evs T a <;> cases evs T b <;> simp [Opt_none, Opt_some]
theorem I_fAddr {off : Nat} {x : Opd} : WI E (.fAddr off x) T H Q ↔ Opt (x.ev T) fun v => Opt (fAddrV off v) fun r => Q r none := by
  rw [WI_pure rfl]
  simp only [evP]
  cases x.ev T with
  | none => simp [Opt_none]
  | some v => rw [Opt_some]; unfold fAddrV; split <;> simp_all [Opt_none]
theorem I_fld {off : Nat} {n : Option Nat} {x : Opd} : WI E (.fld off n x) T H Q ↔ Opt (x.ev T) fun v => Opt (fldV off n v) fun r => Q r none := by
  rw [WI_pure rfl]
  simp only [evP]
  cases x.ev T with
  | none => simp [Opt_none]
  | some v => rw [Opt_some]; unfold fldV; split <;> simp_all [Opt_none]
theorem I_iAddr {size : Nat} {x i : Opd} : WI E (.iAddr size x i) T H Q ↔ Opt (x.ev T) fun v => Opt (i.ev T) fun i => Opt (iAddrV size v i) fun r => Q r none := by
  rw [WI_pure rfl]
  cases hx : x.ev T with
  | none => simp [evP, hx, Opt_none]
  | some v => cases hi : i.ev T with
    | none => simp [evP, hx, hi, Opt_none, Opt_some]
    | some u =>
      have e : evP T (.iAddr size x i) = iAddrV size v u := by
        simp only [evP, hx, hi]
        cases v <;> first | rfl | (cases u <;> first | rfl | (rename_i w; cases w <;> rfl))
      rw [e, Opt_some, Opt_some]
theorem I_iAddrA {len size : Nat} {x i : Opd} : WI E (.iAddrA len size x i) T H Q ↔ Opt (x.ev T) fun v => Opt (i.ev T) fun i => Opt (iAddrAV len size v i) fun r => Q r none := by
  rw [WI_pure rfl]
  cases hx : x.ev T with
  | none => simp [evP, hx, Opt_none]
  | some v => cases hi : i.ev T with
    | none => simp [evP, hx, hi, Opt_none, Opt_some]
    | some u =>
      have e : evP T (.iAddrA len size x i) = iAddrAV len size v u := by
        simp only [evP, hx, hi]
        cases v <;> first | rfl | (cases u <;> first | rfl | (rename_i w; cases w <;> rfl))
      rw [e, Opt_some, Opt_some]
theorem I_idxA {len size : Nat} {n : Option Nat} {x i : Opd} : WI E (.idxA len size n x i) T H Q ↔ Opt (x.ev T) fun v => Opt (i.ev T) fun i => Opt (idxAV len size n v i) fun r => Q r none := by
  rw [WI_pure rfl]
  cases hx : x.ev T with
  | none => simp [evP, hx, Opt_none]
  | some v => cases hi : i.ev T with
    | none => simp [evP, hx, hi, Opt_none, Opt_some]
    | some u =>
      have e : evP T (.idxA len size n x i) = idxAV len size n v u := by
        simp only [evP, hx, hi]
        cases v <;> first | rfl | (cases u <;> first | rfl | (rename_i w; cases w <;> rfl))
      rw [e, Opt_some, Opt_some]
theorem I_ext {x : Opd} {i : Nat} : WI E (.ext x i) T H Q ↔ Opt (x.ev T) fun v => Opt (extV i v) fun r => Q r none := by
  rw [WI_pure rfl]
  simp only [evP]
  cases x.ev T with
  | none => simp [Opt_none]
  | some v => rw [Opt_some]; unfold extV; split <;> simp_all [Opt_none]
theorem I_len {x : Opd} : WI E (.len .slice x) T H Q ↔ Opt (x.ev T) fun v => Opt (lenV v) fun n => Q (.lit (.int .i64 n)) none := by
  rw [WI_pure rfl]
  simp only [evP]
  cases x.ev T with
  | none => simp [Opt_none]
  | some v => rw [Opt_some]; unfold lenV; split <;> simp_all [Opt_none, Opt_some]
theorem I_lenS {x : Opd} : WI E (.len .str x) T H Q ↔ Opt (x.ev T) fun v => Opt (lenS v) fun n => Q (.lit (.int .i64 n)) none := by
  rw [WI_pure rfl]
  simp only [evP]
  cases x.ev T with
  | none => simp [Opt_none]
  | some v => rw [Opt_some]; unfold lenS; split <;> simp_all [Opt_none, Opt_some]
def mmVs (mx : Bool) : List V → Option V
  | v :: vs => mmI mx v vs
  | [] => none
theorem I_mm {mx : Bool} {xs : List Opd} : WI E (.mm mx xs) T H Q ↔ Opt (evs T xs) fun vs => Opt (mmVs mx vs) fun r => Q r none := by
  rw [WI_pure rfl]
  simp only [evP]
  cases evs T xs with
  | none => simp [Opt_none]
  | some v => cases v <;> simp [mmVs, Opt_some, Opt_none]

/-! ### the heap -/
def cellsAt (bs : List ABlk) (b : Nat) : Option (List V) := match bs[b]? with
  | some (.cells cs) => some cs
  | _ => none
theorem cellsAt_of {bs : List ABlk} {b : Nat} {cs : List V} (h : bs[b]? = some (.cells cs)) : cellsAt bs b = some cs := by simp [cellsAt, h]
theorem of_cellsAt {bs : List ABlk} {b : Nat} {cs : List V} (h : cellsAt bs b = some cs) : bs[b]? = some (.cells cs) := by
  unfold cellsAt at h
  split at h
  · cases h; assumption
  · cases h
def mapAt (bs : List ABlk) (b : Nat) : Option (List (V × V)) := match bs[b]? with
  | some (.map es) => some es
  | _ => none
theorem mapAt_of {bs : List ABlk} {b : Nat} {es : List (V × V)} (h : bs[b]? = some (.map es)) : mapAt bs b = some es := by simp [mapAt, h]
def loadV (H : Heap) (n : Option Nat) : V → Option V
  | .imm cs => partV cs 0 n
  | .ref b off => (cellsAt H.blks b).bind fun cs => partV cs off n
  | _ => none
def storeV (H : Heap) (n : Nat) (v : V) : V → Option Heap
  | .ref b off => (cellsAt H.blks b).bind fun cs => if v.cells.length = n ∧ off + n ≤ cs.length ∧ boxable v = true then some (H.write b (.cells (splice cs off v.cells))) else none
  | _ => none

theorem I_load {n : Option Nat} {x : Opd} : WI E (.load n x) T H Q ↔ Opt (x.ev T) fun v => Opt (loadV H n v) fun r => Q r none := by
  cases hx : x.ev T with
  | none =>
    rw [WI_none (by simp [evP, hx])]
    simp [restI, evH, hx, Opt_none]
  | some v =>
    rw [Opt_some]
    cases v with
    | imm cs =>
      cases hp : partV cs 0 n with
      | some r =>
        rw [WI_some (v := r) (by simp only [evP, hx, hp])]
        simp only [loadV, hp, Opt_some]
      | none =>
        rw [WI_none (by simp only [evP, hx, hp])]
        simp only [restI, evH, hx, loadV, hp, Opt_none]
    | ref b off =>
      rw [WI_none (by simp only [evP, hx])]
      simp only [restI, evH, hx, loadV, cellsAt]
      cases hb : H.blks[b]? with
      | none => simp [Opt_none]
      | some k =>
        cases k with
        | cells cs => simp only [Option.bind_some]; cases partV cs off n <;> simp [Opt_none, Opt_some]
        | dead => simp [Opt_none]
        | row m => simp [Opt_none]
        | map es => simp [Opt_none]
    | _ =>
      rw [WI_none (by simp only [evP, hx])]
      simp only [restI, evH, hx, loadV, Opt_none]
theorem I_store {n : Nat} {a x : Opd} : WI E (.store n a x) T H Q ↔ Opt (a.ev T) fun p => Opt (x.ev T) fun v => Opt (storeV H n v p) fun H' => Q (.tup []) (some H') := by
  rw [WI_none (by simp only [evP])]
  cases ha : a.ev T with
  | none => simp [restI, evH, ha, Opt_none]
  | some p =>
    cases hx : x.ev T with
    | none => cases p <;> simp [restI, evH, ha, hx, Opt_none, Opt_some]
    | some v =>
      simp only [restI, Opt_some]
      cases p with
      | ref b off =>
        simp only [evH, ha, hx, storeV, cellsAt]
        cases hb : H.blks[b]? with
        | none => simp [Opt_none]
        | some k =>
          cases k with
          | cells cs => simp only [Option.bind_some, Opt_ite_none, Opt_some]
          | dead => simp [Opt_none]
          | row m => simp [Opt_none]
          | map es => simp [Opt_none]
      | _ => simp [evH, ha, hx, storeV, Opt_none]

theorem I_alloc {z : List V} : WI E (.alloc z) T H Q ↔ Q (.ref H.blks.length 0) (some (H.push (.cells z))) := by
  rw [WI_none (by simp only [evP])]
  simp only [restI, evH, allocB, Opt_some]
theorem I_boxF {x : Opd} : WI E (.box false x) T H Q ↔ Opt (x.ev T) fun v => boxable v = true ∧ Q (.ref H.blks.length 0) (some (H.push (.cells v.cells))) := by
  rw [WI_none (by simp only [evP])]
  simp only [restI, evH, allocB]
  cases hx : x.ev T with
  | none => simp [Opt_none]
  | some v => by_cases h : boxable v = true <;> simp [h, Opt_none, Opt_some]
theorem I_mkMap : WI E .mkMap T H Q ↔ Q (.map H.blks.length) (some (H.push (.map []))) := by
  rw [WI_none (by simp only [evP])]
  simp only [restI, evH, allocB, Opt_some]
def mkSlV (size bytes : Nat) (z : List V) : V → V → Option (Nat × Nat)
  | .lit (.int .i64 l), .lit (.int .i64 c) => if 0 ≤ l ∧ l ≤ c ∧ c * bytes ≤ 140737488355328 ∧ c ≤ 140737488355328 ∧ z.length = size then some (l.toNat, c.toNat) else none
  | _, _ => none
theorem I_mkSl {size bytes : Nat} {z : List V} {l c : Opd} : WI E (.mkSl size bytes z l c) T H Q ↔ Opt (l.ev T) fun l => Opt (c.ev T) fun c => Opt (mkSlV size bytes z l c) fun r => Q (.msl H.blks.length 0 r.1 size (some r.2)) (some (H.push (.cells (rept r.2 z)))) := by
  rw [WI_none (by simp only [evP])]
  cases hl : l.ev T with
  | none => simp [restI, evH, allocB, hl, Opt_none]
  | some a =>
    cases hc : c.ev T with
    | none => simp [restI, evH, allocB, hl, hc, Opt_none, Opt_some]
    | some b =>
      have e : allocB T (.mkSl size bytes z l c) = (mkSlV size bytes z a b).map fun r => (fun n => .msl n 0 r.1 size (some r.2), .cells (rept r.2 z)) := by
        simp only [allocB, hl, hc]
        cases a <;> first | rfl | (rename_i w; cases w <;> first | rfl | (rename_i k l; cases k <;> first | rfl | (cases b <;> first | rfl | (rename_i w; cases w <;> first | rfl | (rename_i k c; cases k <;> first | rfl | (simp only [mkSlV]; split <;> rfl))))))
      simp only [restI, evH, e, Opt_some]
      cases mkSlV size bytes z a b with
      | none => simp [Opt_none]
      | some r => simp [Opt_some]
theorem I_app {m : Bool} {size bytes : Nat} {x y : Opd} : WI E (.app m size bytes x y) T H Q ↔ Opt (x.ev T) fun a => Opt (y.ev T) fun b => Opt (appV H m size bytes a b) fun r => Q r.1 r.2 := by
  rw [WI_none (by simp only [evP])]
  simp only [restI, evH]
  cases x.ev T <;> cases y.ev T <;> simp [Opt_none, Opt_some]
def lookV (H : Heap) (kc : LitC) (z : V) (ok : Bool) : V → V → Option V
  | .lit (.map .none), .lit _ => some (if ok then .tup [z, .lit (.bool false)] else z)
  | .map b, .lit k => (mapAt H.blks b).bind fun es => (findE kc (.lit k) es).map fun r => match r with
    | some v => if ok then .tup [v, .lit (.bool true)] else v
    | none => if ok then .tup [z, .lit (.bool false)] else z
  | _, _ => none
theorem I_look {kc : LitC} {z : V} {x i : Opd} {ok : Bool} : WI E (.look kc z x i ok) T H Q ↔ Opt (x.ev T) fun m => Opt (i.ev T) fun k => Opt (lookV H kc z ok m k) fun r => Q r none := by
  rw [WI_none (by simp only [evP])]
  simp only [restI, evH]
  cases hx : x.ev T with
  | none => simp [Opt_none]
  | some m =>
    cases hi : i.ev T with
    | none => cases m <;> simp [Opt_none, Opt_some]
    | some k =>
      simp only [Opt_some]
      unfold lookV
      split
      · rename_i h1 h2
        cases h1; cases h2
        simp [Opt_some]
      · rename_i b k' h1 h2
        cases h1; cases h2
        cases hb : H.blks[b]? with
        | none => cases k <;> simp [mapAt, hb, Opt_none, isLit]
        | some blk =>
          cases blk with
          | map es =>
            cases k with
            | lit k =>
              simp only [isLit, if_true, mapAt, hb, Option.bind_some]
              cases hf : findE kc (V.lit k) es with
              | none => simp [Opt_none]
              | some r => cases r <;> simp [Opt_some]
            | _ => simp [isLit, Opt_none]
          | dead => cases k <;> simp [mapAt, hb, Opt_none]
          | cells cs => cases k <;> simp [mapAt, hb, Opt_none]
          | row n => cases k <;> simp [mapAt, hb, Opt_none]
      · rename_i h1 h2
        rw [Opt_none]
        split
        · exact absurd rfl (h1 _ rfl)
        · exact absurd rfl (h2 _ _ rfl)
        · rw [Opt_none]
def mapUpdV (H : Heap) (kc : LitC) (v : V) : V → V → Option Heap
  | .map b, .lit k => (mapAt H.blks b).bind fun es => (updE kc (.lit k) v.strip2 es).map fun es => H.write b (.map es)
  | _, _ => none
theorem I_mapUpd {kc : LitC} {m k v : Opd} : WI E (.mapUpd kc m k v) T H Q ↔ Opt (m.ev T) fun m => Opt (k.ev T) fun k => Opt (v.ev T) fun v => Opt (mapUpdV H kc v m k) fun H' => Q (.tup []) (some H') := by
  rw [WI_none (by simp only [evP])]
  simp only [restI, evH]
  cases hm : m.ev T with
  | none => simp [Opt_none]
  | some a =>
    cases hk : k.ev T with
    | none => cases a <;> simp [Opt_none, Opt_some]
    | some b =>
      cases hv : v.ev T with
      | none => cases a <;> simp [Opt_none, Opt_some]
      | some c =>
        simp only [Opt_some]
        cases a with
        | map i =>
          cases b with
          | lit l =>
            simp only [mapUpdV, mapAt, isLit, if_true]
            cases hb : H.blks[i]? with
            | none => simp [Opt_none]
            | some blk =>
              cases blk with
              | map es => simp only [Option.bind_some]; cases updE kc (V.lit l) c.strip2 es <;> simp [Opt_none, Opt_some]
              | dead => simp [Opt_none]
              | cells cs => simp [Opt_none]
              | row n => simp [Opt_none]
          | _ =>
            simp only [mapUpdV, isLit, Bool.false_eq_true, if_false, Opt_none]
            cases hb : H.blks[i]? with
            | none => simp [Opt_none]
            | some blk => cases blk <;> simp [Opt_none]
        | _ => simp [mapUpdV, Opt_none]
def clrV (H : Heap) (size : Nat) (z : List V) : V → Option (Option Heap)
  | .msl b off len _ _ => (cellsAt H.blks b).bind fun cs => if off + len * size ≤ cs.length ∧ z.length = size then some (some (H.write b (.cells (splice cs off (rept len z))))) else none
  | .sl [] 0 _ => some none
  | .lit (.slice .none 0 0) => some none
  | _ => none
theorem I_clr {size : Nat} {z : List V} {x : Opd} : WI E (.clr size z x) T H Q ↔ Opt (x.ev T) fun v => Opt (clrV H size z v) fun o => Q (.tup []) o := by
  rw [WI_none (by simp only [evP])]
  simp only [restI, evH]
  cases hx : x.ev T with
  | none => simp [Opt_none]
  | some v =>
    rw [Opt_some]
    unfold clrV
    split
    · rename_i b off len _ _ h
      cases h
      simp only [cellsAt]
      cases hb : H.blks[b]? with
      | none => simp [Opt_none]
      | some blk =>
        cases blk with
        | cells cs => simp only [Option.bind_some, Opt_ite_none, Opt_some]
        | dead => simp [Opt_none]
        | map es => simp [Opt_none]
        | row n => simp [Opt_none]
    · rename_i h; cases h; simp [Opt_some]
    · rename_i h; cases h; simp [Opt_some]
    · rename_i h1 h2 h3
      split
      · exact absurd rfl (h1 _ _ _ _ _)
      · exact absurd rfl (h2 _)
      · exact absurd rfl h3
      · simp [Opt_none]
theorem I_call {f : FuncId} {args : List Opd} : WI E (.call f args) T H Q ↔ Opt (evs T args) fun vs => WC E f vs H Q := by
  rw [WI_none (by simp only [evP])]
  simp only [restI]
theorem I_callv {x : Opd} {args : List Opd} : WI E (.callv x args) T H Q ↔ Opt (x.ev T) fun v => Opt (evs T args) fun vs => Opt (fnOf v) fun r => WC E r.1 (r.2.1 ++ vs ++ r.2.2) H Q := by
  rw [WI_none (by simp only [evP])]
  simp only [restI]

/-! ### parts of slices -/
def slRes (size : Nat) : V → Nat × Nat × Option Nat → Option V
  | .sl cs _ _, (l, h, m) => some (.sl ((cs.drop (l * size)).take ((h - l) * size)) (h - l) (match m with | none => .none | some m => .cap (m - l)))
  | .msl b off _ esz cap, (l, h, m) => if l < h ∧ esz = size then some (.msl b (off + l * size) (h - l) esz (match m with | none => cap.map (· - l) | some m => some (m - l))) else none
  | .lit _, (l, h, _) => if l = 0 ∧ h = 0 then some (.lit (.slice .none 0 0)) else none
  | _, _ => none
theorem I_sl {size : Nat} {x : Opd} {lo hi mx : Option Opd} : WI E (.sl size x lo hi mx) T H Q ↔ Opt (x.ev T) fun v => Opt (lenV v) fun n => Opt (bnd T n lo hi mx) fun r => Opt (slRes size v r) fun r => Q r none := by
  rw [WI_pure rfl]
  cases hx : x.ev T with
  | none => simp [evP, hx, Opt_none]
  | some v =>
    rw [Opt_some]
    cases v with
    | sl cs len own =>
      simp only [evP, hx, lenV, Opt_some]
      cases bnd T len lo hi mx with
      | none => simp [Opt_none]
      | some r => obtain ⟨l, h, m⟩ := r; cases m <;> simp only [slRes, Opt_some]
    | msl b off len esz cap =>
      simp only [evP, hx, lenV, Opt_some]
      cases bnd T len lo hi mx with
      | none => simp [Opt_none]
      | some r => obtain ⟨l, h, m⟩ := r; cases m <;> simp only [slRes, Opt_some]
    | lit w =>
      cases w with
      | slice a n c =>
        cases a with
        | none =>
          cases n with
          | zero =>
            cases c with
            | zero =>
              simp only [evP, hx, lenV, Opt_some]
              cases bnd T 0 lo hi mx with
              | none => simp [Opt_none]
              | some r =>
                obtain ⟨l, h, m⟩ := r
                simp only [slRes, Opt_some]
                cases l <;> cases h <;> simp [Opt_none, Opt_some]
            | succ c => simp [evP, hx, lenV, Opt_none]
          | succ n => simp [evP, hx, lenV, Opt_none]
        | some a => simp [evP, hx, lenV, Opt_none]
      | _ => simp [evP, hx, lenV, Opt_none]
    | _ => simp [evP, hx, lenV, Opt_none]
theorem asNat_int {k : IntKind} {i : Int} : asNat (.lit (.int k i)) = if 0 ≤ i then some i.toNat else none := (rfl)
theorem bnd_00 {n : Nat} : bnd T n none none none = some (0, n, none) := by simp [bnd]
theorem bnd_lo {n : Nat} {o : Opd} : bnd T n (some o) none none = (o.ev T).bind fun v => (asNat v).bind fun l => if l ≤ n then some (l, n, none) else none := by
  simp only [bnd]
  cases o.ev T with
  | none => simp
  | some v => cases h : asNat v <;> simp [h]
theorem bnd_hi {n : Nat} {o : Opd} : bnd T n none (some o) none = (o.ev T).bind fun v => (asNat v).bind fun h => if h ≤ n then some (0, h, none) else none := by
  simp only [bnd]
  cases o.ev T with
  | none => simp
  | some v => cases h : asNat v <;> simp [h]
theorem bnd_lh {n : Nat} {o p : Opd} : bnd T n (some o) (some p) none = (p.ev T).bind fun v => (asNat v).bind fun h => (o.ev T).bind fun v => (asNat v).bind fun l => if l ≤ h ∧ h ≤ n then some (l, h, none) else none := by
  simp only [bnd]
  cases p.ev T with
  | none => simp
  | some v => cases h : asNat v with
    | none => simp [h]
    | some a => cases o.ev T with
      | none => simp [h]
      | some w => cases h2 : asNat w <;> simp [h, h2]
theorem slRes_msl {size b off n esz l h : Nat} {cap m : Option Nat} : slRes size (.msl b off n esz cap) (l, h, m) = if l < h ∧ esz = size then some (.msl b (off + l * size) (h - l) esz (match m with | none => cap.map (· - l) | some m => some (m - l))) else none := (rfl)
theorem slRes_sl {size n l h : Nat} {cs : List V} {o : Own} {m : Option Nat} : slRes size (.sl cs n o) (l, h, m) = some (.sl ((cs.drop (l * size)).take ((h - l) * size)) (h - l) (match m with | none => .none | some m => .cap (m - l))) := (rfl)
theorem clr_msl {size b off n e : Nat} {c : Option Nat} {z : List V} : clrV H size z (.msl b off n e c) = (cellsAt H.blks b).bind fun cs => if off + n * size ≤ cs.length ∧ z.length = size then some (some (H.write b (.cells (splice cs off (rept n z))))) else none := (rfl)
end
end Go.Ev
