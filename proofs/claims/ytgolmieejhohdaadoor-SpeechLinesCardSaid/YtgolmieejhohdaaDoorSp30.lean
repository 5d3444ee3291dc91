import Derived.Test.YtgolmieejhohdaaDoorSp11
namespace Go.Proofs.YtgolmieejhohdaaDoor.Sl
open Go.RowKit
set_option linter.unusedVariables false
set_option linter.unusedSimpArgs false
set_option maxRecDepth 100000
attribute [local irreducible] T TA Acts Spec Yld Eff Sto

/-! ### that it works -/
def abL : OpM := ⟨1, 7, 1, 2, [97, 32, 98], 0, 0, 0, 0, 0⟩
theorem put_ab : putL abL = ([112, 117, 116, 32, 55, 32, 49, 32, 50, 32, 34, 97, 37, 50, 48, 98, 34], 0) := by
  have h : wordsL abL = [[112, 117, 116], [55], [49], [50], [34, 97, 37, 50, 48, 98, 34]] := by
    show [112, 117, 116] :: [dig 7, dig 1, dig 2, quoteL [97, 32, 98]] = _
    rw [dig_lt (by decide), dig_lt (by decide), dig_lt (by decide)]
    decide
  unfold putL; rw [h]; decide
theorem get_ab : getL [112, 117, 116, 32, 55, 32, 49, 32, 50, 32, 34, 97, 37, 50, 48, 98, 34] = (abL, 0) := by rfl
theorem get_2 : getL [112, 117, 116, 32, 55, 32, 49, 32, 50] = (op0 0, 3) := by rfl
theorem get_3 : getL [112, 117, 116, 116, 32, 55] = (op0 0, 1) := by rfl
theorem lines_1 : linesGo 0 (cutAt 10 [99, 111, 109, 109, 105, 116, 10, 10, 115, 97, 118, 101, 32, 45, 53, 10]) [] = .inl [op0 8, ⟨6, 0, 0, 0, [], 0, 0, 0, 0, -5⟩] := by rfl
theorem lines_2 : linesGo 0 (cutAt 10 [99, 111, 109, 109, 105, 116, 10, 103, 101, 116, 32, 48, 55]) [] = .inr (2, 3) := by rfl
end Go.Proofs.YtgolmieejhohdaaDoor.Sl
