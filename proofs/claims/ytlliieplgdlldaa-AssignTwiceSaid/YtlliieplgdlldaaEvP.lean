/- The evaluator is right: what it says of a call is what the model does, in every world that reads as the abstract heap says.
   Conditions: the evaluator's form fits the program's code ('EnvOk'). -/
import Derived.Test.YtlliieplgdlldaaEvO
namespace Go.Ev

/-! ### fitting, of code and functions -/
/-- an operation of a drawing region in whatever order: what is written is written at the end, in order; what comes before it is ahead of it, or asks nothing of memory. 'pure' tells the operations that do. -/
def opdT : Opd → List Nat
  | .t n => [n]
  | _ => []
def opdsT (xs : List Opd) : List Nat := xs.flatMap opdT
def optT (x : Option Opd) : List Nat := match x with | some x => opdT x | none => []
def O.reads : O → List Nat
  | .mov x | .box _ x | .load _ x | .nilChk x | .not x | .neg x | .conv _ x | .fAddr _ x | .fld _ _ x | .ext x _ | .len _ x | .clr _ _ x => opdT x
  | .pick a b c => opdT a ++ opdT b ++ opdT c
  | .alloc _ | .mkMap => []
  | .build _ ps | .buildSl _ _ _ _ ps => ps.flatMap fun p => opdT p.2.2
  | .store _ a x | .bin _ a x | .eq _ _ a x | .mkSl _ _ _ a x | .iAddr _ a x | .iAddrA _ _ a x | .idxA _ _ _ a x | .idxS a x | .look _ _ a x _ | .app _ _ _ a x => opdT a ++ opdT x
  | .mkFn _ a b => opdsT a ++ opdsT b
  | .sl _ x a b c => opdT x ++ optT a ++ optT b ++ optT c
  | .slS x a b => opdT x ++ optT a ++ optT b
  | .mapUpd _ a b c => opdT a ++ opdT b ++ opdT c
  | .call _ xs | .mm _ xs => opdsT xs
  | .callv x xs => opdT x ++ opdsT xs
def Ins.reads (i : Ins) : List Nat := (match i.guard with | some (t, _) => [t] | none => []) ++ i.op.reads

def preds (o : Oper) : List Nat := (o.after.toList.filter (Region.binds .any)).map (·.on)
def ancs : List Oper → List (List Nat) → List (List Nat)
  | [], acc => acc
  | o :: os, acc => ancs os (acc ++ [(preds o).foldr (fun d s => d :: ((acc.getD d []).filter (fun x => !s.contains x) ++ s)) []])
def ancOk (A : List (List Nat)) (ops : Array Oper) : Bool :=
  (List.range ops.size).all fun j => match ops[j]? with
    | some o => (preds o).all (fun d => decide (d < j)) && (A.getD j []).all fun i => (preds o).any fun d => decide (d = i) || (A.getD d []).contains i
    | none => true
def pairOk (A : List (List Nat)) (is : List Ins) (i j : Nat) : Bool :=
  match is[i]?, is[j]? with
  | some x, some y => decide (i = j) || ((match x.dst with | some t => decide (y.dst ≠ some t) | none => true) &&
      (match y.dst with | some t => !(x.reads.contains t) || (if j < i then (A.getD i []).contains j else (A.getD j []).contains i) | none => true))
  | _, _ => true
def tailOk (A : List (List Nat)) (head : Nat) (imp : List Nat) (i j : Nat) : Bool :=
  decide (j < head) || decide (j ≤ i) || (decide (i < head) && !(imp.contains i)) || (A.getD j []).contains i
def fitD (P : Program) (N : Nat) (ops : Array Oper) (is : List Ins) (head : Nat) (imp : List Nat) : Bool :=
  let A := ancs ops.toList []
  let n := is.length
  P.follows .mixedOrders && fitInss P N ops is ops.toList && decide (head ≤ n) && ancOk A ops &&
    (List.range n).all fun i => (List.range n).all fun j => pairOk A is i j && tailOk A head imp i j

/-- the same where operations that make new blocks are among those whose order is drawn: what comes behind them comes behind all -/
def isCp (is : List Ins) (head : Nat) (al : List Nat) (x : Ins) : Bool := match x.op, x.guard with
  | .mov (.t s), none => al.any fun k => decide (k < head) && (match is[k]? with | some y => decide (y.dst = some s) | none => false)
  | _, _ => false
def alOk (A : List (List Nat)) (is : List Ins) (head : Nat) (al : List Nat) (i j : Nat) : Bool :=
  (decide (j < head) || decide (j ≤ i) || (A.getD j []).contains i) &&
    ((!(al.contains i) || (match is[i]? with
      | some x => x.guard.isNone && (decide (i = j) || decide (head ≤ j) || (match is[j]?, x.dst with | some y, some t => !(y.reads.contains t) || (isCp is head al y && decide (i < j)) | _, _ => true))
      | none => true)) &&
    (al.contains i || decide (head ≤ i) || decide (head ≤ j) || decide (i = j) || (match is[i]?, is[j]? with
      | some x, some y => !(isCp is head al x) || (match x.dst with | some t => !(y.reads.contains t) | none => true)
      | _, _ => true)))
def fitA (P : Program) (N : Nat) (ops : Array Oper) (is : List Ins) (head : Nat) (al : List Nat) : Bool :=
  let A := ancs ops.toList []
  let n := is.length
  P.follows .mixedOrders && fitInss P N ops is ops.toList && decide (head ≤ n) && ancOk A ops &&
    (List.range n).all fun i => (List.range n).all fun j => pairOk A is i j && alOk A is head al i j

def chOk (A : List (List Nat)) (ch : List Nat) (i j : Nat) : Bool :=
  decide (j ≤ i) || !(ch.contains i) || !(ch.contains j) || (A.getD j []).contains i
def fitC (P : Program) (N : Nat) (ops : Array Oper) (is : List Ins) (ch : List Nat) : Bool :=
  let A := ancs ops.toList []
  let n := is.length
  P.follows .mixedOrders && fitInss P N ops is ops.toList && ancOk A ops &&
    (List.range n).all fun i => (List.range n).all fun j => pairOk A is i j && chOk A ch i j

def fitI (P : Program) (n : Nat) : I → Code → Bool
  | .frz _ a, c => fitI P n a c
  | .frzA a _, c => fitI P n a c
  | .skip, .skip => true
  | .skip, .label _ => true
  | .reg ops _, .region _ ops' false => fitInss P n ops' ops ops'.toList
  | .draw ops head imp _, .region _ ops' true => fitD P n ops' ops head imp
  | .drawA ops head al _, .region _ ops' true => fitA P n ops' ops head al
  | .drawC ops ch _, .region _ ops' true => fitC P n ops' ops ch
  | .seq a b, .seq c d => fitI P n a c && fitI P n b d
  | .cond c a b, .cond c' a' b' => fitX c c' && fitI P n a a' && fitI P n b b'
  | .block id a, .block id' a' => decide (id = id') && fitI P n a a'
  | .loop a, .loop b => fitI P n a b
  | .scope a, .scope b => fitI P n a b
  | .exit id, .exit id' => decide (id = id')
  | .ret, .ret => true
  | _, _ => false

def fitRes (P : Program) : List ResV → List ResultVar → Bool
  | [], [] => true
  | .tmp t :: rs, .tmp t' :: rs' => decide (t = t') && fitRes P rs rs'
  | .cell t n :: rs, .cell t' ty :: rs' => decide (t = t') && aggOf P ty == some n && fitRes P rs rs'
  | _, _ => false

def fitF (P : Program) (f : FuncId) (fi : FI) : Bool :=
  match P.funcs[f]? with
  | some fn => (match fn.body with | some c => fitI P fn.ntmps fi.body c | none => false) && !(fn.name == "runtime.NumGoroutine") && decide (fi.params ≤ fn.ntmps) && fitRes P fi.res fn.results.toList
  | none => false

def CallOk (P : Program) (f : FuncId) (args : List V) (H : Heap) (v : V) (oH : Option Heap) : Prop :=
  ∀ (mu : List Nat) (w : World) (us : List Value) (cs : List Frame), R mu H.blks w → Reps (ctx mu H.blks w) args us →
    ∃ mu' w' u fr, Steps P (lone (Frame.enter P f us.toArray .normal) cs w) (lone fr cs w') ∧ fr.fn = f ∧ fr.kind = .normal ∧ fr.mode = .returning ∧ fr.defers = [] ∧ (∃ fn, P.funcs[f]? = some fn ∧ (results fn fr.tmps).run P w' = .ok u w') ∧
      Ext (ctx mu H.blks w) (ctx mu' (oH.getD H).blks w') ∧ R mu' (oH.getD H).blks w' ∧ Rep (ctx mu' (oH.getD H).blks w') v u ∧ Keeps H (oH.getD H)

structure EnvOk (P : Program) (E : Env) : Prop where
  fn : ∀ f fi, E.fn f = some fi → fitF P f fi = true
  intr : ∀ f g, E.intr f = some g → goodFn P f = true ∧ ∀ args H v oH, g args H = some (v, oH) → CallOk P f args H v oH

def Arr (P : Program) (m : Machine) (e : Fr) (k : List Item) (cs : List Frame) : Ex → Array Value → World → Prop
  | .normal, t, w => Steps P m (lone (mkF e t k) cs w)
  | .exit id, t, w => ∃ k2, Steps P m (lone (mkF e t (.code (.exit id) :: k2)) cs w) ∧ exitTo id k2 = exitTo id k
  | .ret, t, w => ∃ k2, Steps P m (lone (mkF e t (.code .ret :: k2)) cs w)

theorem Arr.of_steps {P : Program} {m m1 : Machine} {e : Fr} {k : List Item} {cs : List Frame} {x : Ex} {t : Array Value} {w : World} (h : Steps P m m1) (h' : Arr P m1 e k cs x t w) : Arr P m e k cs x t w := by
  cases x with
  | normal => exact h.trans h'
  | exit id => obtain ⟨k2, a, b⟩ := h'; exact ⟨k2, h.trans a, b⟩
  | ret => obtain ⟨k2, a⟩ := h'; exact ⟨k2, h.trans a⟩

/-- beyond an item that is no block: an exit goes the same way -/
theorem Arr.pass {P : Program} {m : Machine} {e : Fr} {y : Item} {k : List Item} {cs : List Frame} {x : Ex} {t : Array Value} {w : World} (hy : ∀ id, exitTo id (y :: k) = exitTo id k) (hx : x ≠ .normal) (h : Arr P m e (y :: k) cs x t w) : Arr P m e k cs x t w := by
  cases x with
  | normal => exact absurd rfl hx
  | exit id => obtain ⟨k2, a, b⟩ := h; exact ⟨k2, a, b.trans (hy id)⟩
  | ret => exact h

section
variable {P : Program} {E : Env}

theorem fitO_notDefer {o : O} {op : Op} (h : fitO P o op = true) : ∀ c, op ≠ .defer c := by
  rintro c rfl
  cases o <;> simp [fitO] at h

/-- one operation -/
def InsOk (P : Program) (E : Env) (n : Nat) : Prop :=
  ∀ (i : Ins) (T : Tm) (H : Heap) (v : V) (oH : Option Heap), evIns E n i T H = some (v, oH) → ∀ (N : Nat) (ops : Array Oper) (o : Oper), fitIns P N ops i o = true →
    ∀ (e : Fr) (j : Nat) (rest : List Nat) (k : List Item) (cs : List Frame) (w : World) (mu : List Nat) (tmps : Array Value), ops[j]? = some o → Region.wanted o (yielded ops tmps) = true → R mu H.blks w → RelT (ctx mu H.blks w) T tmps →
      ∃ mu' u w', Steps P (lone (mkF e tmps (.inRegion ops (j :: rest) :: k)) cs w) (lone (mkF e (putA tmps o.dst u) (.inRegion ops rest :: k)) cs w') ∧
        Ext (ctx mu H.blks w) (ctx mu' (oH.getD H).blks w') ∧ R mu' (oH.getD H).blks w' ∧ Rep (ctx mu' (oH.getD H).blks w') v u ∧ Keeps H (oH.getD H)

def CallsOk (P : Program) (E : Env) (n : Nat) : Prop :=
  ∀ (f : FuncId) (args : List V) (H : Heap) (v : V) (oH : Option Heap), evCall E n f args H = some (v, oH) → goodFn P f = true ∧ CallOk P f args H v oH

theorem goodFn_of_fitF {f : FuncId} {fi : FI} (h : fitF P f fi = true) : goodFn P f = true := by
  unfold fitF at h
  unfold goodFn
  split at h
  · rename_i fn hfn
    simp only [Bool.and_eq_true] at h
    obtain ⟨⟨⟨h1, h2⟩, _⟩, _⟩ := h
    split at h1
    · rename_i c hc
      simp only [hfn, hc, Option.isSome_some, Bool.true_and]
      exact h2
    · simp at h1
  · simp at h

theorem run_callFunc {f : FuncId} (h : goodFn P f = true) (us : Array Value) (w : World) : (callFunc f us).run P w = .ok (.enter f us) w := by
  unfold goodFn at h
  split at h
  · rename_i fn hfn
    simp only [Bool.and_eq_true, Bool.not_eq_true', beq_eq_false_iff_ne] at h
    obtain ⟨h1, h2⟩ := h
    obtain ⟨c, hc⟩ := Option.isSome_iff_exists.1 h1
    simp [callFunc, hfn, hc, h2]
  · simp at h

theorem call_step {o : Oper} {ops : Array Oper} {e : Fr} {j : Nat} {rest : List Nat} {k : List Item} {cs : List Frame} {w : World} {mu : List Nat} {tmps : Array Value} {H : Heap} (ho : ops[j]? = some o) (hw : Region.wanted o (yielded ops tmps) = true) (hd : ∀ c, o.op ≠ .defer c)
    {f : FuncId} {us : List Value} (hrun : (execOp (ev1 tmps) o).run P w = .ok (.enter f us.toArray) w) {args : List V} {v : V} {oH : Option Heap} (hc : CallOk P f args H v oH) (hR : R mu H.blks w) (hr : Reps (ctx mu H.blks w) args us) :
    ∃ mu' u w', Steps P (lone (mkF e tmps (.inRegion ops (j :: rest) :: k)) cs w) (lone (mkF e (putA tmps o.dst u) (.inRegion ops rest :: k)) cs w') ∧
        Ext (ctx mu H.blks w) (ctx mu' (oH.getD H).blks w') ∧ R mu' (oH.getD H).blks w' ∧ Rep (ctx mu' (oH.getD H).blks w') v u ∧ Keeps H (oH.getD H) := by
  obtain ⟨mu', w', u, fr, g1, g2, g3, g4, g5, ⟨fn, g6, g7⟩, g8, g9, g10, g11⟩ := hc mu w us (mkF e tmps (.inRegion ops (j :: rest) :: k) :: cs) hR hr
  refine ⟨mu', u, w', ?_, g8, g9, g10, g11⟩
  have h1 := s_call (P := P) (e := e) (k := k) (cs := cs) (rest := rest) ho hw hd hrun
  have h2 : step P (lone fr (mkF e tmps (.inRegion ops (j :: rest) :: k) :: cs) w') = .next (lone ((mkF e tmps (.inRegion ops (j :: rest) :: k)).finish u) cs w') :=
    step_leave_returned ⟨g4, g5, g3, fn, by rw [g2]; exact g6, g7⟩
  rw [finish_mkF, ho] at h2
  exact (Steps.one h1).trans (g1.trans (Steps.one h2))

theorem ins_ok {n : Nat} (hC : CallsOk P E n) : InsOk P E (n + 1) := by
  intro i T H v oH h N ops o hf e j rest k cs w mu tmps ho hw hR hT
  simp only [fitIns, Bool.and_eq_true] at hf
  obtain ⟨⟨⟨q1, q2⟩, q3⟩, hfo⟩ := hf
  clear q1 q2 q3
  have hd := fitO_notDefer hfo
  simp only [evIns] at h
  split at h
  · rename_i v0 hv0
    simp only [Option.some.injEq, Prod.mk.injEq] at h
    obtain ⟨rfl, rfl⟩ := h
    obtain ⟨mu', u, w', g1, g2, g3, g4, g5⟩ := okH_of_okP hR (evP_ok hR hT hv0 hfo)
    exact ⟨mu', u, w', .one (s_op ho hw hd g1), g2, g3, g4, g5⟩
  · split at h
    · -- a call of a function by name
      rename_i f args hop
      split at h
      · rename_i vs hvs
        obtain ⟨hg, hc⟩ := hC f vs H v oH h
        rw [hop] at hfo
        obtain ⟨dst, op, ty, pos, after, guard⟩ := o
        cases op <;> try simp only [fitO, Bool.false_eq_true] at hfo
        rename_i cl
        obtain ⟨callee, args', at_⟩ := cl
        cases callee <;> try simp only [fitO, Bool.false_eq_true] at hfo
        rename_i x
        cases x <;> simp only [fitO, Bool.false_eq_true, Bool.and_eq_true, decide_eq_true_eq] at hfo
        obtain ⟨⟨rfl, _⟩, h2⟩ := hfo
        have hr := evs_spec hT hvs h2
        refine call_step ho hw hd (us := args'.toList.map (ev1 tmps)) ?_ hc hR hr
        simp [execOp, resolve, ev1, Deferred.ofValue, invoke, run_callFunc hg]
        congr 1
        exact Array.ext' (by simp)
      · simp at h
    · -- a call of a function value
      rename_i x args hop
      split at h
      · rename_i f a b vs hx hvs
        obtain ⟨hg, hc⟩ := hC f _ H v oH h
        rw [hop] at hfo
        obtain ⟨dst, op, ty, pos, after, guard⟩ := o
        cases op <;> try simp only [fitO, Bool.false_eq_true] at hfo
        rename_i cl
        obtain ⟨callee, args', at_⟩ := cl
        cases callee <;> simp only [fitO, Bool.false_eq_true, Bool.and_eq_true] at hfo
        rename_i y
        obtain ⟨h1, h2⟩ := hfo
        have hr := evs_spec hT hvs h2
        have hrx := ev_spec hT hx h1
        simp only [Rep] at hrx
        obtain ⟨ua, ub, e1, ra, rb⟩ := hrx
        have hall := (ra.append hr).append rb
        refine call_step ho hw hd (us := ua.toList ++ args'.toList.map (ev1 tmps) ++ ub.toList) ?_ hc hR hall
        simp [execOp, resolve, e1, Deferred.ofValue, invoke, run_callFunc hg]
      · simp at h
    · rename_i hnc hncv
      obtain ⟨mu', u, w', g1, g2, g3, g4, g5⟩ := evH_ok hR hT h hfo
      exact ⟨mu', u, w', .one (s_op ho hw hd g1), g2, g3, g4, g5⟩

/-- a region in the order of the text -/
def RegOk (P : Program) (E : Env) (n : Nat) : Prop :=
  ∀ (is : List Ins) (T : Tm) (H : Heap) (T' : Tm) (H' : Heap), evReg E n is T H = some (T', H') → ∀ (N : Nat) (ops : Array Oper) (os : List Oper), fitInss P N ops is os = true →
    ∀ (l : List Nat), l.map (ops[·]?) = os.map some → ∀ (e : Fr) (k : List Item) (cs : List Frame) (w : World) (mu : List Nat) (tmps : Array Value), tmps.size = N → R mu H.blks w → RelT (ctx mu H.blks w) T tmps →
      ∃ mu' tmps' w', Steps P (lone (mkF e tmps (.inRegion ops l :: k)) cs w) (lone (mkF e tmps' (.inRegion ops [] :: k)) cs w') ∧
        Ext (ctx mu H.blks w) (ctx mu' H'.blks w') ∧ R mu' H'.blks w' ∧ RelT (ctx mu' H'.blks w') T' tmps' ∧ tmps'.size = N ∧ Keeps H H'

theorem reg_ok {n : Nat} (hI : InsOk P E n) (ih : RegOk P E n) : RegOk P E (n + 1) := by
  intro is T H T' H' h N ops os hf l hl e k cs w mu tmps hN hR hT
  cases is with
  | nil =>
    simp only [evReg, Option.some.injEq, Prod.mk.injEq] at h
    obtain ⟨rfl, rfl⟩ := h
    cases os with
    | nil =>
      have : l = [] := by simpa using hl
      subst this
      exact ⟨mu, tmps, w, .refl P _, Ext.refl _, hR, hT, hN, Keeps.refl _⟩
    | cons o os => simp [fitInss] at hf
  | cons i is =>
    cases os with
    | nil => simp [fitInss] at hf
    | cons o os =>
      cases l with
      | nil => simp at hl
      | cons j l =>
        simp only [List.map_cons, List.cons.injEq] at hl
        obtain ⟨ho, hl⟩ := hl
        simp only [fitInss, Bool.and_eq_true] at hf
        obtain ⟨hf1, hf2⟩ := hf
        have hf1' := hf1
        simp only [fitIns, Bool.and_eq_true, beq_iff_eq] at hf1'
        obtain ⟨⟨⟨hd1, hd2⟩, hg⟩, hfo⟩ := hf1'
        have hdst : ∀ x, i.dst = some x → x < tmps.size := by
          intro x hx
          rw [hx] at hd2
          simpa [hN] using hd2
        simp only [evReg] at h
        split at h
        · simp at h
        · -- not wanted
          rename_i hw
          have hw' := wanted_spec hT hg hw
          have hs := s_opSkip (P := P) (e := e) (k := k) (cs := cs) (w := w) (rest := l) (ops := ops) (i := j) (t := tmps) (by simp [ho, hw'])
          rw [ho] at hs
          simp only [Option.bind_some] at hs
          have hT2 : RelT (ctx mu H.blks w) (put T i.dst (.tup [])) (putA tmps o.dst undef) := by
            rw [← hd1]
            exact hT.put hdst (by simp only [Rep]; exact ⟨#[], rfl, by simp [Reps]⟩)
          obtain ⟨mu', tmps', w', g1, g2⟩ := ih is _ H T' H' h N ops os hf2 l hl e k cs w mu _ (by rw [putA_size]; exact hN) hR hT2
          exact ⟨mu', tmps', w', .head hs g1, g2⟩
        · rename_i hw
          have hw' := wanted_spec hT hg hw
          split at h
          · simp at h
          · rename_i v hv
            obtain ⟨mu1, u, w1, a1, a2, a3, a4, a5⟩ := hI i T H v none hv N ops o hf1 e j l k cs w mu tmps ho hw' hR hT
            simp only [Option.getD_none] at a2 a3 a4 a5
            have hT2 : RelT (ctx mu1 H.blks w1) (put T i.dst v) (putA tmps o.dst u) := by
              rw [← hd1]
              exact (hT.mono a2).put hdst a4
            obtain ⟨mu', tmps', w', g1, g2, g3, g4, g5, g6⟩ := ih is _ H T' H' h N ops os hf2 l hl e k cs w1 mu1 _ (by rw [putA_size]; exact hN) a3 hT2
            exact ⟨mu', tmps', w', a1.trans g1, a2.trans g2, g3, g4, g5, g6⟩
          · rename_i v H1 hv
            obtain ⟨mu1, u, w1, a1, a2, a3, a4, a5⟩ := hI i T H v (some H1) hv N ops o hf1 e j l k cs w mu tmps ho hw' hR hT
            simp only [Option.getD_some] at a2 a3 a4 a5
            have hT2 : RelT (ctx mu1 H1.blks w1) (put T i.dst v) (putA tmps o.dst u) := by
              rw [← hd1]
              exact (hT.mono a2).put hdst a4
            obtain ⟨mu', tmps', w', g1, g2, g3, g4, g5, g6⟩ := ih is _ H1 T' H' h N ops os hf2 l hl e k cs w1 mu1 _ (by rw [putA_size]; exact hN) a3 hT2
            exact ⟨mu', tmps', w', a1.trans g1, a2.trans g2, g3, g4, g5, a5.trans g6⟩

end
end Go.Ev
