import Derived.Test.YtgolmieejhohdaaDoorSp19
import Derived.Test.YtgolmieejhohdaaDoorSp26
import Derived.SliceStrings
namespace Go.Proofs.YtgolmieejhohdaaDoor.Sl
open Go.ChangeShapes Go.WideShapes Go.ChangeAt Go.RowKit
set_option linter.unusedVariables false
set_option linter.unusedSimpArgs false
set_option maxRecDepth 100000

theorem slice_ok {W : World} {b t e : Nat} {v : Value} (hu : Tryd.prog.underlying t = some (.slice e)) (h : Value.okWide Tryd.prog W .any b t v) : v = .slice none 0 0 ∨ ∃ a len cap, v = .slice (some a) len cap ∧ a.spot = none := by
  unfold Value.okWide at h
  rw [hu] at h
  unfold Cell.okWide at h
  rw [hu] at h
  unfold Cell.ok at h
  rw [hu] at h
  cases v with
  | slice p len cap =>
    cases p with
    | none =>
      cases len with
      | zero =>
        cases cap with
        | zero => exact .inl rfl
        | succ n => simp at h
      | succ n => simp at h
    | some a =>
      simp only at h
      exact .inr ⟨a, len, cap, rfl, h.2.2.2.1⟩
  | _ => simp at h

theorem came_of {H : Type} {enc : TypeId × Value → H} {W : World} {b : Nat} {v : Value} {d : DataW H} {p : List MemPlace} (hok : Value.okWide Tryd.prog W .any b 37 v) (h : DataW.Trod enc Tryd.prog W 0 (fun _ => true) true 37 v d p) : ∃ ls, Came [old W] v ls := by
  obtain ⟨fuel, hf⟩ := h
  have hc1 : Tryd.prog.cellsOf 9 = 1 := by kernel_rfl
  rcases slice_ok Tryd.underlying37 hok with rfl | ⟨a, len, cap, rfl, hsp⟩
  · exact ⟨[], _, _, rfl, fun h => absurd rfl h⟩
  · rcases open_strings Tryd.underlying37 Tryd.underlying9 hc1 hf with ⟨hcs, _⟩ | ⟨a', len', cap', ss, hcs, _, hl, _, hss, _, hcell, _⟩
    · exact absurd hcs (by simp [Value.cells])
    · have e : a = a' ∧ len = len' ∧ cap = cap' := by simpa [Value.cells] using hcs
      obtain ⟨rfl, rfl, rfl⟩ := e
      rw [if_pos rfl] at hss
      obtain ⟨ab, ao, sp⟩ := a
      simp only at hsp
      subst hsp
      have hll : ((ss.take len).map (·.data.toList)).length = len := by rw [List.length_map, List.length_take]; omega
      refine ⟨(ss.take len).map (·.data.toList), _, cap, by rw [hll], fun hne => ?_⟩
      have hpos : 0 < len := by
        rcases Nat.eq_zero_or_pos len with h | h
        · subst h; simp at hne
        · exact h
      have hadd : ∀ i, (⟨ab, ao, none⟩ : Addr).add i = ⟨ab, ao + i, none⟩ := by
        intro i; unfold Addr.add; split <;> simp_all
      have h0 := hcell 0 (by omega)
      rw [hadd] at h0
      unfold World.cell? at h0
      cases hb : W.heap[ab]? with
      | none => simp [hb] at h0
      | some ob =>
        simp only [hb] at h0
        cases ob with
        | cells arr E fz =>
          refine ⟨ab, ao, arr, E, fz, rfl, .chunk (mem_old hb), ?_⟩
          intro j x hx
          rw [List.getElem?_map] at hx
          cases hj : (ss.take len)[j]? with
          | none => rw [hj] at hx; cases hx
          | some s =>
            rw [hj] at hx
            cases hx
            rw [List.getElem?_take] at hj
            split at hj
            · rename_i hjl
              have hcj := hcell j (by omega)
              rw [hadd] at hcj
              unfold World.cell? at hcj
              simp only [hb] at hcj
              rw [Nat.mul_one]
              have es : ss.getD j ByteArray.empty = s := by rw [List.getD_eq_getElem?_getD, hj]; rfl
              rw [es] at hcj
              simpa [str] using hcj
            · cases hj
        | _ => simp at h0
end Go.Proofs.YtgolmieejhohdaaDoor.Sl
