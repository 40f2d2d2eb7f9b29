/- The rows of AssignSwaps and AssignTwice out of what the evaluator says of them.
   Conditions: the evaluator answers true at every function of core and every two bytes. -/
import Derived.Test.YtlliieplgdlldaaFun
import Derived.Test.YtlliieplgdlldaaT46
import Derived.Test.YtlliieplgdlldaaRows
import Derived.WalkKit
import Derived.ProofKit
import Derived.OpenShut
import Derived.ChangeOld
import Derived.Handed
import Derived.Carry
namespace Go.Proofs.Ytlliieplgdlldaa
open Go Go.Ev Go.Proofs
open Go.ChangeShapes Go.WideShapes Go.ChangeAt Go.RowKit

def byteV (n : Int) : V := .lit (.int .u8 n)
def Byte (n : Int) : Prop := 0 ≤ n ∧ n ≤ 255

/-- what the evaluator is to say of a law -/
def Says (f : FuncId) : Prop := ∀ (d : FunD) (a b : Int), okFun d → Byte a → Byte b → ∃ n, evCall env46 n f [.agg (funV d), byteV a, byteV b] ⟨[], []⟩ = some (.lit (.bool true), none)

theorem below_of_ext {W w' : World} {mu' : List Nat} (h : Ext (ctx [] [] W) (ctx mu' [] w')) : Below W.heap.size W w' :=
  ⟨h.os, h.tape, h.output, h.size, fun k hk => (h.block k hk (fun off => not_owned k off)).1⟩

theorem r_nil (W : World) : R [] [] W := ⟨rfl, fun i j k a b h => by simp at h, fun i k b h => by simp at h⟩

theorem calls_of {f : FuncId} {args : List V} {us : List Value} {W : World} {n : Nat} (h : evCall env46 n f args ⟨[], []⟩ = some (.lit (.bool true), none)) (hr : Reps (C0 W) args us) :
    Calls Try.prog f us.toArray W fun e W' => e = .returned (.bool true) ∧ Below W.heap.size W W' := by
  intro cs
  obtain ⟨mu', w', u, fr, h1, h2, h3, h4, h5, ⟨fn, h6, h7⟩, h8, h9, h10, _⟩ := sound_call envOk46 h [] W us cs (r_nil W) hr
  simp only [Option.getD_none] at h8 h10
  have hu := lit_spec h10
  subst hu
  exact ⟨.returned (.bool true), w', fr, ⟨rfl, below_of_ext h8⟩, h1, h2, h4, h5, h3, fn, by rw [h2]; exact h6, h7⟩


theorem own : ownKnob Try.prog.godebug = none := by kernel_rfl
theorem laidOut : laidOutB Try.prog = true := by kernel_rfl

theorem byte_wf {n : Int} (h : (Lit.int .u8 n).wf = true) : Byte n := by
  simp [Lit.wf, IntKind.min, IntKind.max, IntKind.signed, IntKind.bits] at h
  exact h

theorem agg_of_wide {W : World} {base : Nat} {t : TypeId} {fs : Array Field} {n : Nat} {v : Value} (ht : Try.prog.underlying t = some (.struct fs)) (hn : Try.prog.cellsOf t = n) (h : Value.okWide Try.prog W .any base t v) :
    ∃ cs, v = .agg cs ∧ cs.size = n := by
  unfold Value.okWide at h
  rw [ht] at h
  obtain ⟨cs, h1, h2, _⟩ := h
  exact ⟨cs, h1, by rw [h2, hn]⟩

set_option maxRecDepth 100000

theorem lifted3 (P : Says 3) (os : Os) (started : os.Started) (H : Type) (enc : TypeId × Value → H) :
    ReturnsInHanded {} Try.checked os 3 .any (Rows.assignSwapsSpec.pre6 enc Try.prog Try.f3 Rows.assignSwapsRow.domain false) (Rows.assignSwapsSpec.post enc Try.prog Try.f3 false true false false) := by
  refine returnsInHanded_of_change (C := Try.checked) own started (by kernel_rfl) Try.func3
    (ChangeSpec.witness6 (enc := enc) (C := Try.checked) false ⟨#[], #[.agg #[.string ByteArray.empty, .int .i64 0, .int .i64 0, .slice none 0 0, .slice none 0 0, .int .i64 0, .bool false], .int .u8 0, .int .u8 0], []⟩ 8 (by kernel_rfl) (by kernel_rfl) (by kernel_rfl) (by kernel_rfl)) ?_
  intro W base args ds gs before hval0 hW hcnd _
  have hval : ∀ (j : Nat) t v, Try.f3.params[j]? = some t → args[j]? = some v → Value.okWide Try.prog W .any base t v := hval0
  have hW' := hW
  obtain ⟨p, q, hA0, hV, rfl, hfz, hnd⟩ := hW
  have hA : DataW.TrodAll enc Try.prog W 0 (fun _ => true) true Try.f3.params.toList args.toList ds p := hA0
  rw [Try.params3] at hA hval
  obtain ⟨v0, vs0, d0, ds0, p0, q0, hargs, rfl, rfl, h0, r0⟩ := trodAll_cons hA
  obtain ⟨v1, vs1, d1, ds1, p1, q1, rfl, rfl, rfl, h1, r1⟩ := trodAll_cons r0
  obtain ⟨v2, vs2, d2, ds2, p2, q2, rfl, rfl, rfl, h2, r2⟩ := trodAll_cons r1
  obtain ⟨rfl, rfl, rfl⟩ := trodAll_nil r2
  obtain rfl : args = #[v0, v1, v2] := by cases args; simp_all
  obtain ⟨rfl, rfl⟩ := trodVars_none hV
  obtain ⟨a1, rfl, rfl, rfl, w1⟩ := open_int Try.underlying5 (hval 1 5 v1 rfl rfl) h1
  obtain ⟨a2, rfl, rfl, rfl, w2⟩ := open_int Try.underlying5 (hval 2 5 v2 rfl rfl) h2
  obtain ⟨cs, rfl, hsz⟩ := agg_of_wide Try.underlying26 (by kernel_rfl) (hval 0 26 v0 rfl rfl)
  have k0 := h0
  have lt0 : ∀ x ∈ p0, x.block < W.heap.size := by obtain ⟨m, hm⟩ := k0; exact DataW.trod_lt m _ _ _ hm
  obtain ⟨fuel, hf⟩ := h0
  obtain ⟨d, e1, e2, e3⟩ := opens_fun.2 fuel _ _ hf (by simpa [Value.cells] using hsz)
  obtain ⟨m, hm⟩ := P d a1 a2 e3 (byte_wf w1) (byte_wf w2)
  have hr : Reps (C0 W) [.agg (funV d), byteV a1, byteV a2] [.agg cs, .int .u8 a1, .int .u8 a2] := by
    simp only [Reps, Rep, byteV]
    exact ⟨_, _, rfl, ⟨cs, rfl, by simpa [Value.cells] using e1, e2⟩, _, _, rfl, ⟨rfl, rfl⟩, _, _, rfl, ⟨rfl, rfl⟩, rfl⟩
  clear hA0 hval0
  refine (calls_of hm hr).mono fun e W' ⟨he, bel⟩ => ?_
  subst he
  exact ⟨_, rfl, _, _, _, [], _, [], hW', trodAll_mk1 (shut_bool Try.underlying4 _), (trodAll_cons_mk (Below.trod laidOut (by kernel_rfl) (of_decide_eq_true (by kernel_rfl)) k0 bel lt0) (trodAll_cons_mk (shut_int Try.underlying5 w1) (trodAll_cons_mk (shut_int Try.underlying5 w2) trodAll_mk0))), rfl, bel.frame _, fun h => by cases h⟩

theorem row3 (P : Says 3) : Rows.AssignSwapsSaid :=
  OpenClaim.holds_of_wide 3 Try.f3 rfl rfl rfl rfl rfl rfl rfl ⟨rfl, rfl, rfl, rfl, rfl⟩ rfl rfl rfl rfl rfl (by kernel_rfl) Try.func3 (by kernel_rfl)
    (of_decide_eq_true (by kernel_rfl)) (by unfold Func.isWrapper; first | (rw [if_pos (by decide +kernel)]; kernel_rfl) | (rw [if_neg (by decide +kernel)]; exact ⟨rfl, rfl⟩))
    (fun os started H enc _ => lifted3 P os started H enc)

theorem lifted4 (P : Says 4) (os : Os) (started : os.Started) (H : Type) (enc : TypeId × Value → H) :
    ReturnsInHanded {} Try.checked os 4 .any (Rows.assignTwiceSpec.pre6 enc Try.prog Try.f4 Rows.assignTwiceRow.domain false) (Rows.assignTwiceSpec.post enc Try.prog Try.f4 false true false false) := by
  refine returnsInHanded_of_change (C := Try.checked) own started (by kernel_rfl) Try.func4
    (ChangeSpec.witness6 (enc := enc) (C := Try.checked) false ⟨#[], #[.agg #[.string ByteArray.empty, .int .i64 0, .int .i64 0, .slice none 0 0, .slice none 0 0, .int .i64 0, .bool false], .int .u8 0, .int .u8 0], []⟩ 8 (by kernel_rfl) (by kernel_rfl) (by kernel_rfl) (by kernel_rfl)) ?_
  intro W base args ds gs before hval0 hW hcnd _
  have hval : ∀ (j : Nat) t v, Try.f4.params[j]? = some t → args[j]? = some v → Value.okWide Try.prog W .any base t v := hval0
  have hW' := hW
  obtain ⟨p, q, hA0, hV, rfl, hfz, hnd⟩ := hW
  have hA : DataW.TrodAll enc Try.prog W 0 (fun _ => true) true Try.f4.params.toList args.toList ds p := hA0
  rw [Try.params4] at hA hval
  obtain ⟨v0, vs0, d0, ds0, p0, q0, hargs, rfl, rfl, h0, r0⟩ := trodAll_cons hA
  obtain ⟨v1, vs1, d1, ds1, p1, q1, rfl, rfl, rfl, h1, r1⟩ := trodAll_cons r0
  obtain ⟨v2, vs2, d2, ds2, p2, q2, rfl, rfl, rfl, h2, r2⟩ := trodAll_cons r1
  obtain ⟨rfl, rfl, rfl⟩ := trodAll_nil r2
  obtain rfl : args = #[v0, v1, v2] := by cases args; simp_all
  obtain ⟨rfl, rfl⟩ := trodVars_none hV
  obtain ⟨a1, rfl, rfl, rfl, w1⟩ := open_int Try.underlying5 (hval 1 5 v1 rfl rfl) h1
  obtain ⟨a2, rfl, rfl, rfl, w2⟩ := open_int Try.underlying5 (hval 2 5 v2 rfl rfl) h2
  obtain ⟨cs, rfl, hsz⟩ := agg_of_wide Try.underlying26 (by kernel_rfl) (hval 0 26 v0 rfl rfl)
  have k0 := h0
  have lt0 : ∀ x ∈ p0, x.block < W.heap.size := by obtain ⟨m, hm⟩ := k0; exact DataW.trod_lt m _ _ _ hm
  obtain ⟨fuel, hf⟩ := h0
  obtain ⟨d, e1, e2, e3⟩ := opens_fun.2 fuel _ _ hf (by simpa [Value.cells] using hsz)
  obtain ⟨m, hm⟩ := P d a1 a2 e3 (byte_wf w1) (byte_wf w2)
  have hr : Reps (C0 W) [.agg (funV d), byteV a1, byteV a2] [.agg cs, .int .u8 a1, .int .u8 a2] := by
    simp only [Reps, Rep, byteV]
    exact ⟨_, _, rfl, ⟨cs, rfl, by simpa [Value.cells] using e1, e2⟩, _, _, rfl, ⟨rfl, rfl⟩, _, _, rfl, ⟨rfl, rfl⟩, rfl⟩
  clear hA0 hval0
  refine (calls_of hm hr).mono fun e W' ⟨he, bel⟩ => ?_
  subst he
  exact ⟨_, rfl, _, _, _, [], _, [], hW', trodAll_mk1 (shut_bool Try.underlying4 _), (trodAll_cons_mk (Below.trod laidOut (by kernel_rfl) (of_decide_eq_true (by kernel_rfl)) k0 bel lt0) (trodAll_cons_mk (shut_int Try.underlying5 w1) (trodAll_cons_mk (shut_int Try.underlying5 w2) trodAll_mk0))), rfl, bel.frame _, fun h => by cases h⟩

theorem row4 (P : Says 4) : Rows.AssignTwiceSaid :=
  OpenClaim.holds_of_wide 4 Try.f4 rfl rfl rfl rfl rfl rfl rfl ⟨rfl, rfl, rfl, rfl, rfl⟩ rfl rfl rfl rfl rfl (by kernel_rfl) Try.func4 (by kernel_rfl)
    (of_decide_eq_true (by kernel_rfl)) (by unfold Func.isWrapper; first | (rw [if_pos (by decide +kernel)]; kernel_rfl) | (rw [if_neg (by decide +kernel)]; exact ⟨rfl, rfl⟩))
    (fun os started H enc _ => lifted4 P os started H enc)
end Go.Proofs.Ytlliieplgdlldaa
