import Derived.Test.YtgolmieejhohdaaDoorSp18
namespace Go.Proofs.YtgolmieejhohdaaDoor.Sl
open Go.ChangeShapes Go.WideShapes Go.ChangeAt Go.RowKit
set_option linter.unusedVariables false
set_option linter.unusedSimpArgs false
set_option maxRecDepth 100000

theorem has_u64 {n : Int} (h : IntKind.u64.has n) : ∃ m : Nat, n = (m : Int) ∧ m < 18446744073709551616 := by
  have h' : 0 ≤ n ∧ n ≤ 18446744073709551615 := by simpa [IntKind.has, IntKind.min, IntKind.max, IntKind.signed, IntKind.bits] using h
  exact ⟨n.toNat, by omega, by omega⟩
theorem has_u32 {n : Int} (h : IntKind.u32.has n) : ∃ m : Nat, n = (m : Int) ∧ m < 4294967296 := by
  have h' : 0 ≤ n ∧ n ≤ 4294967295 := by simpa [IntKind.has, IntKind.min, IntKind.max, IntKind.signed, IntKind.bits] using h
  exact ⟨n.toNat, by omega, by omega⟩
theorem has_i64 {n : Int} (h : IntKind.i64.has n) : -9223372036854775808 ≤ n ∧ n < 9223372036854775808 := by
  have h' : -9223372036854775808 ≤ n ∧ n ≤ 9223372036854775807 := by simpa [IntKind.has, IntKind.min, IntKind.max, IntKind.signed, IntKind.bits] using h
  omega

theorem op_of_ok {W : World} {b : Nat} {v : Value} (h : Value.okWide Tryd.prog W .any b 27 v) : ∃ o : OpM, v = .agg (OpM.cells o) ∧ ∀ u : List UInt8, u.length ≤ 500 → OpOk { o with val := u } := by
  unfold Value.okWide at h
  rw [Tryd.underlying27] at h
  obtain ⟨cs, rfl, hsz, ts, hts, _, hc⟩ := h
  have e1 : Tryd.prog.cellsOf 27 = 10 := by kernel_rfl
  have e2 : Tryd.prog.cellTypes Tryd.prog.depth 27 = some [3, 22, 23, 23, 9, 23, 23, 23, 23, 3] := by kernel_rfl
  rw [e1] at hsz
  obtain rfl := Option.some.inj (e2.symm.trans hts)
  have g : ∀ (i : Nat) (hi : i < 10) (u : Nat), ([3, 22, 23, 23, 9, 23, 23, 23, 23, 3] : List Nat)[i]? = some u → ∃ c, cs[i]? = some c ∧ Cell.okWide Tryd.prog W .any b u c := by
    intro i hi u hu
    have hlt : i < cs.size := by omega
    obtain ⟨u', hu', hk⟩ := hc i cs[i] (by simp [hlt])
    rw [show ([3, 22, 23, 23, 9, 23, 23, 23, 23, 3] : List Nat).length = 10 from rfl, Nat.mod_eq_of_lt hi] at hu'
    obtain rfl := Option.some.inj (hu.symm.trans hu')
    exact ⟨cs[i], by simp [hlt], hk⟩
  obtain ⟨c0, h0, k0⟩ := g 0 (by decide) 3 rfl
  obtain ⟨c1, h1, k1⟩ := g 1 (by decide) 22 rfl
  obtain ⟨c2, h2, k2⟩ := g 2 (by decide) 23 rfl
  obtain ⟨c3, h3, k3⟩ := g 3 (by decide) 23 rfl
  obtain ⟨c4, h4, k4⟩ := g 4 (by decide) 9 rfl
  obtain ⟨c5, h5, k5⟩ := g 5 (by decide) 23 rfl
  obtain ⟨c6, h6, k6⟩ := g 6 (by decide) 23 rfl
  obtain ⟨c7, h7, k7⟩ := g 7 (by decide) 23 rfl
  obtain ⟨c8, h8, k8⟩ := g 8 (by decide) 23 rfl
  obtain ⟨c9, h9, k9⟩ := g 9 (by decide) 3 rfl
  have ecs : cs = #[c0, c1, c2, c3, c4, c5, c6, c7, c8, c9] := by
    apply Array.ext_getElem?
    intro i
    by_cases hi : i < 10
    · have : i = 0 ∨ i = 1 ∨ i = 2 ∨ i = 3 ∨ i = 4 ∨ i = 5 ∨ i = 6 ∨ i = 7 ∨ i = 8 ∨ i = 9 := by omega
      rcases this with rfl | rfl | rfl | rfl | rfl | rfl | rfl | rfl | rfl | rfl
      all_goals (first | exact h0 | exact h1 | exact h2 | exact h3 | exact h4 | exact h5 | exact h6 | exact h7 | exact h8 | exact h9)
    · rw [Array.getElem?_eq_none (by omega), Array.getElem?_eq_none (by simp; omega)]
  clear g h0 h1 h2 h3 h4 h5 h6 h7 h8 h9 hc hts e1 e2 hsz
  obtain ⟨n0, rfl, b0⟩ := cell_int Tryd.underlying3 k0
  obtain ⟨n1, rfl, b1⟩ := cell_int Tryd.underlying22 k1
  obtain ⟨n2, rfl, b2⟩ := cell_int Tryd.underlying23 k2
  obtain ⟨n3, rfl, b3⟩ := cell_int Tryd.underlying23 k3
  obtain ⟨l4, rfl, b4⟩ := cell_str Tryd.underlying9 k4
  obtain ⟨n5, rfl, b5⟩ := cell_int Tryd.underlying23 k5
  obtain ⟨n6, rfl, b6⟩ := cell_int Tryd.underlying23 k6
  obtain ⟨n7, rfl, b7⟩ := cell_int Tryd.underlying23 k7
  obtain ⟨n8, rfl, b8⟩ := cell_int Tryd.underlying23 k8
  obtain ⟨n9, rfl, b9⟩ := cell_int Tryd.underlying3 k9
  obtain ⟨m1, rfl, a1⟩ := has_u64 b1
  obtain ⟨m2, rfl, a2⟩ := has_u32 b2
  obtain ⟨m3, rfl, a3⟩ := has_u32 b3
  obtain ⟨m5, rfl, a5⟩ := has_u32 b5
  obtain ⟨m6, rfl, a6⟩ := has_u32 b6
  obtain ⟨m7, rfl, a7⟩ := has_u32 b7
  obtain ⟨m8, rfl, a8⟩ := has_u32 b8
  refine ⟨⟨n0, m1, m2, m3, l4, m5, m6, m7, m8, n9⟩, by rw [ecs]; rfl, fun u hu => ⟨has_i64 b0, a1, a2, a3, hu, a5, a6, a7, a8, has_i64 b9⟩⟩

/-- a function of one argument that answers true and leaves the old heap as it was -/
theorem calls_of_spec {f : FuncId} {v : Value} {W : World} (hG : Glob [old W]) (h : ∀ (σ : World) (F : Hp), Glob F → Spec Tryd.prog σ f [v] F fun r H' => r = .bool true ∧ H' = F) :
    Calls Tryd.prog f #[v] W fun e w' => e = .returned (.bool true) ∧ Below W.heap.size W w' := by
  refine (h W [old W] hG W (Sat.start W)).mono ?_
  rintro e w' ⟨r, H', rfl, ⟨rfl, rfl⟩, st⟩
  exact ⟨rfl, st.end_below⟩

end Go.Proofs.YtgolmieejhohdaaDoor.Sl
