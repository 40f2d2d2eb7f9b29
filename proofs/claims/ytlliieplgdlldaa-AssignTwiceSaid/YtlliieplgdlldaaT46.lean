/- The program's functions fit the evaluator's form; the evaluator's answer to a call is the model's.
   Conditions: none. -/
import Derived.Test.YtlliieplgdlldaaIR46
import Derived.Test.YtlliieplgdlldaaSri
namespace Go.Proofs.Ytlliieplgdlldaa
open Go Go.Ev
def intr46 : FuncId → Option (List V → Heap → Option (V × Option Heap))
  | 35 => some sortG
  | _ => none
def env46 : Env := ⟨fnsIR, intr46⟩
set_option maxRecDepth 100000
theorem fit3 : fitF Try.prog 3 i3 = true := by kernel_rfl
theorem fit4 : fitF Try.prog 4 i4 = true := by kernel_rfl
theorem fit5 : fitF Try.prog 5 i5 = true := by kernel_rfl
theorem fit6 : fitF Try.prog 6 i6 = true := by kernel_rfl
theorem fit7 : fitF Try.prog 7 i7 = true := by kernel_rfl
theorem fit8 : fitF Try.prog 8 i8 = true := by kernel_rfl
theorem fit9 : fitF Try.prog 9 i9 = true := by kernel_rfl
theorem fit10 : fitF Try.prog 10 i10 = true := by kernel_rfl
theorem fit11 : fitF Try.prog 11 i11 = true := by kernel_rfl
theorem fit12 : fitF Try.prog 12 i12 = true := by kernel_rfl
theorem fit13 : fitF Try.prog 13 i13 = true := by kernel_rfl
theorem fit14 : fitF Try.prog 14 i14 = true := by kernel_rfl
theorem fit15 : fitF Try.prog 15 i15 = true := by kernel_rfl
theorem fit16 : fitF Try.prog 16 i16 = true := by kernel_rfl
theorem fit17 : fitF Try.prog 17 i17 = true := by kernel_rfl
theorem fit18 : fitF Try.prog 18 i18 = true := by kernel_rfl
theorem fit19 : fitF Try.prog 19 i19 = true := by kernel_rfl
theorem fit20 : fitF Try.prog 20 i20 = true := by kernel_rfl
theorem fit21 : fitF Try.prog 21 i21 = true := by kernel_rfl
theorem fit22 : fitF Try.prog 22 i22 = true := by kernel_rfl
theorem fit23 : fitF Try.prog 23 i23 = true := by kernel_rfl
theorem fit24 : fitF Try.prog 24 i24 = true := by kernel_rfl
theorem fit25 : fitF Try.prog 25 i25 = true := by kernel_rfl
theorem fit26 : fitF Try.prog 26 i26 = true := by kernel_rfl
theorem fit27 : fitF Try.prog 27 i27 = true := by kernel_rfl
theorem fit28 : fitF Try.prog 28 i28 = true := by kernel_rfl
theorem fit29 : fitF Try.prog 29 i29 = true := by kernel_rfl
theorem fit30 : fitF Try.prog 30 i30 = true := by kernel_rfl
theorem fit31 : fitF Try.prog 31 i31 = true := by kernel_rfl
theorem fit32 : fitF Try.prog 32 i32 = true := by kernel_rfl
theorem fit33 : fitF Try.prog 33 i33 = true := by kernel_rfl
theorem fit34 : fitF Try.prog 34 i34 = true := by kernel_rfl
theorem fit36 : fitF Try.prog 36 i36 = true := by kernel_rfl
theorem envOk46 : EnvOk Try.prog env46 where
  fn := fun f fi h => by
    have h' : fnsIR f = some fi := h
    unfold fnsIR at h'
    split at h' <;> cases h'
    · exact fit3
    · exact fit4
    · exact fit5
    · exact fit6
    · exact fit7
    · exact fit8
    · exact fit9
    · exact fit10
    · exact fit11
    · exact fit12
    · exact fit13
    · exact fit14
    · exact fit15
    · exact fit16
    · exact fit17
    · exact fit18
    · exact fit19
    · exact fit20
    · exact fit21
    · exact fit22
    · exact fit23
    · exact fit24
    · exact fit25
    · exact fit26
    · exact fit27
    · exact fit28
    · exact fit29
    · exact fit30
    · exact fit31
    · exact fit32
    · exact fit33
    · exact fit34
    · exact fit36
  intr := fun f g h => by
    have h' : intr46 f = some g := h
    unfold intr46 at h'
    split at h'
    · cases h'
      exact ⟨Try.sortC.good, fun args H v oH h => sort_ok Try.sortC h⟩
    · cases h'

theorem awake_ev : (evCall env46 3000 5 [] ⟨[], []⟩).map (fun p => (match p.1 with | .lit (.bool b) => b | _ => false, p.2.isNone)) = some (true, true) := by kernel_rfl
end Go.Proofs.Ytlliieplgdlldaa
