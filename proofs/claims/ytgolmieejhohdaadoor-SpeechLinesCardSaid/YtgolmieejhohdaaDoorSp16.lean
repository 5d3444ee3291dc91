import Derived.Test.YtgolmieejhohdaaDoorSp15
import Derived.Test.YtgolmieejhohdaaDoorFw6
namespace Go.Proofs.YtgolmieejhohdaaDoor.Sl
open Go.RowKit
set_option linter.unusedVariables false
set_option linter.unusedSimpArgs false
set_option maxRecDepth 100000
attribute [local irreducible] T TA Acts Spec Yld Eff Sto

theorem op_self (p : OpM) (w : World) : (Op.equalIn 10000 27 (.agg (OpM.cells p)) (.agg (OpM.cells p))).run Tryd.prog w = .ok true w := by
  have hr : (Op.equalIn 9999 25 (.agg #[.int .u32 (p.a : Int), .int .u32 (p.b : Int), .int .u32 (p.c : Int), .int .u32 (p.d : Int)]) (.agg #[.int .u32 (p.a : Int), .int .u32 (p.b : Int), .int .u32 (p.c : Int), .int .u32 (p.d : Int)])).run Tryd.prog w = .ok true w := by
    have h := eq_agg (P := Tryd.prog) (d := 9998) (t := 25) (w := w) (xs := #[.int .u32 (p.a : Int), .int .u32 (p.b : Int), .int .u32 (p.c : Int), .int .u32 (p.d : Int)]) (ys := #[.int .u32 (p.a : Int), .int .u32 (p.b : Int), .int .u32 (p.c : Int), .int .u32 (p.d : Int)]) Tryd.underlying25 (by kernel_rfl)
      (eqF_cons (by decide) (part1 rfl) (part1 rfl) (eq_int _ _ w) (eqF_cons (by decide) (part1 rfl) (part1 rfl) (eq_int _ _ w) (eqF_cons (by decide) (part1 rfl) (part1 rfl) (eq_int _ _ w) (eqF_cons (by decide) (part1 rfl) (part1 rfl) (eq_int _ _ w) (eqF_nil _ _ _ w)))))
    simpa using h
  have h := eq_agg (P := Tryd.prog) (d := 9999) (t := 27) (w := w) (xs := OpM.cells p) (ys := OpM.cells p) Tryd.underlying27 (by kernel_rfl)
    (eqF_cons (by decide) (part1 rfl) (part1 rfl) (eq_int _ _ w) (eqF_cons (by decide) (part1 rfl) (part1 rfl) (eq_int _ _ w) (eqF_cons (by decide) (part1 rfl) (part1 rfl) (eq_int _ _ w) (eqF_cons (by decide) (part1 rfl) (part1 rfl) (eq_int _ _ w)
      (eqF_cons (by decide) (part1 rfl) (part1 rfl) (eq_str _ _ w) (eqF_cons (by decide) (partN (Nat.le_of_ble_eq_true rfl) rfl) (partN (Nat.le_of_ble_eq_true rfl) rfl) hr (eqF_cons (by decide) (part1 rfl) (part1 rfl) (eq_int _ _ w) (eqF_nil _ _ _ w))))))))
  have hs : ((⟨p.val.toArray⟩ : ByteArray) == ⟨p.val.toArray⟩) = true := by rw [beq_toListBytes]; simp
  simpa [hs] using h
theorem op_guard : (Tryd.prog).eqGuardType (Tryd.prog).depth 27 = false := by kernel_rfl
end Go.Proofs.YtgolmieejhohdaaDoor.Sl
