/- A function of core (api.Fun) as it is read: its tree in the evaluator.
   Conditions: none. -/
import Derived.Test.YtlliieplgdlldaaDat
import Derived.Test.YtlliieplgdlldaaSri
namespace Go.Proofs.Ytlliieplgdlldaa
open Go Go.Ev Go.Proofs

structure BrD where
  binds : Option (List Int)
  next : Int
structure NodeD where
  op : Int
  var : Int
  args : Option (List Int)
  con : Int
  num : Int
  fn : Int
  more : Option (List Int)
  take : Bool
  brs : Option (List BrD)
  next : Int
structure VarD where
  type : Int
  read : Bool
structure FunD where
  name : ByteArray
  params : Int
  result : Int
  vars : Option (List VarD)
  code : Option (List NodeD)
  body : Int
  ext : Bool

def intsV (o : Option (List Int)) : V := slV (fun n => [intV n]) o
def boolV (b : Bool) : V := .lit (.bool b)
def brV (b : BrD) : List V := [intsV b.binds, intV b.next]
def nodeV (n : NodeD) : List V := [intV n.op, intV n.var, intsV n.args, intV n.con, intV n.num, intV n.fn, intsV n.more, boolV n.take, slV brV n.brs, intV n.next]
def varV (v : VarD) : List V := [intV v.type, boolV v.read]
def funV (f : FunD) : List V := [.lit (.string f.name), intV f.params, intV f.result, slV varV f.vars, slV nodeV f.code, intV f.body, boolV f.ext]

def I64 (n : Int) : Prop := -9223372036854775808 ≤ n ∧ n ≤ 9223372036854775807
def okInts (o : Option (List Int)) : Prop := ∀ l, o = some l → l.length ≤ maxLen ∧ ∀ a, a ∈ l → I64 a
def okBr (b : BrD) : Prop := okInts b.binds ∧ I64 b.next
def okNode (n : NodeD) : Prop := I64 n.op ∧ I64 n.var ∧ okInts n.args ∧ I64 n.con ∧ I64 n.num ∧ I64 n.fn ∧ okInts n.more ∧ (∀ l, n.brs = some l → l.length ≤ maxLen ∧ ∀ a, a ∈ l → okBr a) ∧ I64 n.next
def okVar (v : VarD) : Prop := I64 v.type
def okFun (f : FunD) : Prop := I64 f.params ∧ I64 f.result ∧ (∀ l, f.vars = some l → l.length ≤ maxLen ∧ ∀ a, a ∈ l → okVar a) ∧ (∀ l, f.code = some l → l.length ≤ maxLen ∧ ∀ a, a ∈ l → okNode a) ∧ I64 f.body

section
variable {w : World} {H : Type} {en : TypeId × Value → H} {base : Nat} {spare : Nat → Bool} {held : Bool}

theorem i64_wf {n : Int} (h : (Lit.int .i64 n).wf = true) : I64 n := by
  simp [Lit.wf, IntKind.min, IntKind.max, IntKind.signed, IntKind.bits] at h
  exact h

theorem opens_i64 {t : TypeId} (ht : Try.prog.underlying t = some (.int .i64)) : Opens Try.prog w en base spare held t 1 (fun n : Int => [intV n]) I64 := by
  obtain ⟨h1, h2⟩ := opens_int (w := w) (en := en) (base := base) (spare := spare) (held := held) ht
  refine ⟨h1, fun fuel cs x h hl => ?_⟩
  obtain ⟨a, b, c, d⟩ := h2 fuel cs x h hl
  exact ⟨a, b, c, i64_wf d⟩

theorem opens_ints : Opens Try.prog w en base spare held 29 1 (fun o => [intsV o]) okInts :=
  opens_slice Try.underlying29 (by kernel_rfl) (by decide) (opens_i64 Try.underlying3)

/-- a field of one cell -/
theorem field1 {t : TypeId} {fs : Array Field} (ht : Try.prog.underlying t = some (.struct fs)) {fuel : Nat} {cs : List Value} {x : DataW H × List MemPlace} (h : DataW.trod en Try.prog w base spare held fuel t cs = some x)
    {i : Nat} {f : Field} (hf : fs[i]? = some f) (hc : Try.prog.cellsOf f.type = 1) {α : Type} {g : α → List V} {wf : α → Prop} (hO : Opens Try.prog w en base spare held f.type 1 g wf) {v : Value} (hv : (cs.drop f.offset).take 1 = [v]) :
    ∃ a, Reps (C0 w) (g a) [v] ∧ (g a).all V.isCell = true ∧ wf a := by
  obtain ⟨xs, n, _, _, _, hl, hget⟩ := DataW.trod_struct ht h
  have hi : i < fs.size := (Array.getElem?_eq_some_iff.1 hf).1
  have := hget i f hf
  rw [hc, hv, List.getElem?_eq_getElem (by omega)] at this
  exact hO.2 n [v] _ this rfl

theorem reps1 {C : Ctx} {x : V} {v : Value} (h : Reps C [x] [v]) : Rep C x v := by
  simp only [Reps] at h
  obtain ⟨u, us, e, h1, rfl⟩ := h
  cases e
  exact h1

theorem opens_br : Opens Try.prog w en base spare held 42 2 brV okBr := by
  refine ⟨fun _ => rfl, fun fuel cs x h hl => ?_⟩
  match cs, hl with
  | [c0, c1], _ =>
    obtain ⟨a0, p0, q0, r0⟩ := field1 Try.underlying42 h (i := 0) rfl (by kernel_rfl) opens_ints (v := c0) rfl
    obtain ⟨a1, p1, q1, r1⟩ := field1 Try.underlying42 h (i := 1) rfl (by kernel_rfl) (opens_i64 Try.underlying3) (v := c1) rfl
    refine ⟨⟨a0, a1⟩, ?_, ?_, r0, r1⟩
    · simp only [brV, Reps]
      exact ⟨c0, _, rfl, reps1 p0, c1, _, rfl, reps1 p1, rfl⟩
    · simp only [List.all_cons, List.all_nil, Bool.and_true] at q0 q1
      simp only [brV, List.all_cons, List.all_nil, Bool.and_true, q0, q1]

theorem opens_var : Opens Try.prog w en base spare held 116 2 varV okVar := by
  refine ⟨fun _ => rfl, fun fuel cs x h hl => ?_⟩
  match cs, hl with
  | [c0, c1], _ =>
    obtain ⟨a0, p0, q0, r0⟩ := field1 Try.underlying116 h (i := 0) rfl (by kernel_rfl) (opens_i64 Try.underlying22) (v := c0) rfl
    obtain ⟨a1, p1, q1, r1⟩ := field1 Try.underlying116 h (i := 1) rfl (by kernel_rfl) (opens_bool Try.underlying4) (v := c1) rfl
    refine ⟨⟨a0, a1⟩, ?_, rfl, r0⟩
    simp only [varV, Reps]
    exact ⟨c0, _, rfl, reps1 p0, c1, _, rfl, reps1 p1, rfl⟩

theorem opens_brs : Opens Try.prog w en base spare held 37 1 (fun o => [slV brV o]) (fun o => ∀ l, o = some l → l.length ≤ maxLen ∧ ∀ a, a ∈ l → okBr a) :=
  opens_slice Try.underlying37 (by kernel_rfl) (by decide) opens_br
theorem opens_vars : Opens Try.prog w en base spare held 23 1 (fun o => [slV varV o]) (fun o => ∀ l, o = some l → l.length ≤ maxLen ∧ ∀ a, a ∈ l → okVar a) :=
  opens_slice Try.underlying23 (by kernel_rfl) (by decide) opens_var

theorem opens_node : Opens Try.prog w en base spare held 39 10 nodeV okNode := by
  refine ⟨fun _ => rfl, fun fuel cs x h hl => ?_⟩
  match cs, hl with
  | [c0, c1, c2, c3, c4, c5, c6, c7, c8, c9], _ =>
    obtain ⟨a0, p0, q0, r0⟩ := field1 Try.underlying39 h (i := 0) rfl (by kernel_rfl) (opens_i64 Try.underlying3) (v := c0) rfl
    obtain ⟨a1, p1, q1, r1⟩ := field1 Try.underlying39 h (i := 1) rfl (by kernel_rfl) (opens_i64 Try.underlying3) (v := c1) rfl
    obtain ⟨a2, p2, q2, r2⟩ := field1 Try.underlying39 h (i := 2) rfl (by kernel_rfl) opens_ints (v := c2) rfl
    obtain ⟨a3, p3, q3, r3⟩ := field1 Try.underlying39 h (i := 3) rfl (by kernel_rfl) (opens_i64 Try.underlying3) (v := c3) rfl
    obtain ⟨a4, p4, q4, r4⟩ := field1 Try.underlying39 h (i := 4) rfl (by kernel_rfl) (opens_i64 Try.underlying2) (v := c4) rfl
    obtain ⟨a5, p5, q5, r5⟩ := field1 Try.underlying39 h (i := 5) rfl (by kernel_rfl) (opens_i64 Try.underlying3) (v := c5) rfl
    obtain ⟨a6, p6, q6, r6⟩ := field1 Try.underlying39 h (i := 6) rfl (by kernel_rfl) opens_ints (v := c6) rfl
    obtain ⟨a7, p7, q7, r7⟩ := field1 Try.underlying39 h (i := 7) rfl (by kernel_rfl) (opens_bool Try.underlying4) (v := c7) rfl
    obtain ⟨a8, p8, q8, r8⟩ := field1 Try.underlying39 h (i := 8) rfl (by kernel_rfl) opens_brs (v := c8) rfl
    obtain ⟨a9, p9, q9, r9⟩ := field1 Try.underlying39 h (i := 9) rfl (by kernel_rfl) (opens_i64 Try.underlying3) (v := c9) rfl
    refine ⟨⟨a0, a1, a2, a3, a4, a5, a6, a7, a8, a9⟩, ?_, ?_, r0, r1, r2, r3, r4, r5, r6, r8, r9⟩
    · simp only [nodeV, Reps]
      exact ⟨c0, _, rfl, reps1 p0, c1, _, rfl, reps1 p1, c2, _, rfl, reps1 p2, c3, _, rfl, reps1 p3, c4, _, rfl, reps1 p4, c5, _, rfl, reps1 p5, c6, _, rfl, reps1 p6, c7, _, rfl, reps1 p7, c8, _, rfl, reps1 p8, c9, _, rfl, reps1 p9, rfl⟩
    · simp only [List.all_cons, List.all_nil, Bool.and_true] at q0 q1 q2 q3 q4 q5 q6 q7 q8 q9
      simp only [nodeV, boolV, List.all_cons, List.all_nil, Bool.and_true, q0, q1, q2, q3, q4, q5, q6, q7, q8, q9]

theorem opens_code : Opens Try.prog w en base spare held 24 1 (fun o => [slV nodeV o]) (fun o => ∀ l, o = some l → l.length ≤ maxLen ∧ ∀ a, a ∈ l → okNode a) :=
  opens_slice Try.underlying24 (by kernel_rfl) (by decide) opens_node

theorem opens_fun : Opens Try.prog w en base spare held 26 7 funV okFun := by
  refine ⟨fun _ => rfl, fun fuel cs x h hl => ?_⟩
  match cs, hl with
  | [c0, c1, c2, c3, c4, c5, c6], _ =>
    obtain ⟨a0, p0, q0, r0⟩ := field1 Try.underlying26 h (i := 0) rfl (by kernel_rfl) (opens_string Try.underlying9) (v := c0) rfl
    obtain ⟨a1, p1, q1, r1⟩ := field1 Try.underlying26 h (i := 1) rfl (by kernel_rfl) (opens_i64 Try.underlying3) (v := c1) rfl
    obtain ⟨a2, p2, q2, r2⟩ := field1 Try.underlying26 h (i := 2) rfl (by kernel_rfl) (opens_i64 Try.underlying22) (v := c2) rfl
    obtain ⟨a3, p3, q3, r3⟩ := field1 Try.underlying26 h (i := 3) rfl (by kernel_rfl) opens_vars (v := c3) rfl
    obtain ⟨a4, p4, q4, r4⟩ := field1 Try.underlying26 h (i := 4) rfl (by kernel_rfl) opens_code (v := c4) rfl
    obtain ⟨a5, p5, q5, r5⟩ := field1 Try.underlying26 h (i := 5) rfl (by kernel_rfl) (opens_i64 Try.underlying3) (v := c5) rfl
    obtain ⟨a6, p6, q6, r6⟩ := field1 Try.underlying26 h (i := 6) rfl (by kernel_rfl) (opens_bool Try.underlying4) (v := c6) rfl
    refine ⟨⟨a0, a1, a2, a3, a4, a5, a6⟩, ?_, ?_, r1, r2, r3, r4, r5⟩
    · simp only [funV, Reps]
      exact ⟨c0, _, rfl, reps1 p0, c1, _, rfl, reps1 p1, c2, _, rfl, reps1 p2, c3, _, rfl, reps1 p3, c4, _, rfl, reps1 p4, c5, _, rfl, reps1 p5, c6, _, rfl, reps1 p6, rfl⟩
    · simp only [List.all_cons, List.all_nil, Bool.and_true] at q0 q1 q2 q3 q4 q5 q6
      simp only [funV, boolV, List.all_cons, List.all_nil, Bool.and_true, q0, q1, q2, q3, q4, q5, q6]

end
end Go.Proofs.Ytlliieplgdlldaa
