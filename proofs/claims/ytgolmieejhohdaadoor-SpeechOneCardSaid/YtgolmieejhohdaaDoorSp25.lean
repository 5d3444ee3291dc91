/-
  PROVED: for every line the law SpeechOne returns true and leaves what came in as it was (the tied card). No condition.
-/
import Derived.Test.YtgolmieejhohdaaDoorSp19
import Derived.Test.YtgolmieejhohdaaDoorSp23
namespace Go.Proofs.YtgolmieejhohdaaDoor.Sl
open Go.ChangeShapes Go.WideShapes Go.ChangeAt Go.RowKit
set_option linter.unusedVariables false
set_option linter.unusedSimpArgs false
set_option maxRecDepth 100000
theorem one_lifted (os : Os) (started : os.Started) (H : Type) (enc : TypeId × Value → H) :
    ReturnsInHanded {} Tryd.checked os 5 .any (fun w args => (Rows.speechOneSpec.pre enc Tryd.prog Tryd.f5 [] false w args ∧ laidMetH Tryd.prog Rows.speechOneRow.laid w) ∧ sizedMet enc Tryd.prog Tryd.f5 (OpenSpec.ofChange Rows.speechOneSpec) false w args)
      (Rows.speechOneSpec.post enc Tryd.prog Tryd.f5 false true false false) := by
  refine returns_both (C := Tryd.checked) (X := fun w _ => laidMetH Tryd.prog Rows.speechOneRow.laid w) (fun _ _ _ hh h => h.of_heap hh) own started (by kernel_rfl) Tryd.func5
    (ChangeSpec.witness_shaped (enc := enc) (C := Tryd.checked) (os := os) (X := fun w _ => laidMetH Tryd.prog Rows.speechOneRow.laid w) false (World.laidAll Tryd.prog os Rows.speechOneRow.laid) #[.string ⟨#[]⟩] 8 (World.laidAll_os _ _ _)
      (World.shaped_of_ZipB (by kernel_rfl) (by kernel_rfl)) (by kernel_rfl) (by kernel_rfl) (by kernel_rfl)
      (by rw [MakeChecks.laidMetH_plain _ _ _ (by kernel_rfl)]; exact laidMet_laidAll _ (by kernel_rfl) (by kernel_rfl))) ?_
  intro W base args ds gs before hval0 hW hL hsh
  have hval : ∀ (j : Nat) t v, Tryd.f5.params[j]? = some t → args[j]? = some v → Value.okWide Tryd.prog W .any base t v := hval0
  have hW' := hW
  obtain ⟨p, q, hA0, hV, rfl, _, _⟩ := hW
  have hA : DataW.TrodAll enc Tryd.prog W 0 (fun _ => true) true Tryd.f5.params.toList args.toList ds p := hA0
  have hlt := hA.lt
  rw [Tryd.params5] at hA hval
  obtain ⟨v0, d0, rfl, rfl, h0⟩ := trodAll_one hA
  obtain ⟨rfl, rfl⟩ := trodVars_none hV
  have hG := glob_of_shape hsh
  have hok := hval 0 9 v0 rfl rfl
  refine (show Calls Tryd.prog 5 #[v0] W fun e w' => e = .returned (.bool true) ∧ Below W.heap.size W w' from ?_).mono fun e W' ⟨he, hb⟩ => ?_
  · unfold Value.okWide at hok
    rw [Tryd.underlying9] at hok
    obtain ⟨s, rfl, _⟩ := cell_str Tryd.underlying9 hok
    exact calls_of_spec hG (fun σ F hg => one_spec σ s F hg)
  · subst he
    exact ⟨_, rfl, _, _, _, [], p, [], hW', trodAll_mk1 (shut_bool Tryd.underlying4 _), trodAll_mk1 (hb.trod laidOut (by kernel_rfl) (of_decide_eq_true (by kernel_rfl)) h0 hlt), rfl, hb.frame _, fun h => by cases h⟩

theorem one_row : Rows.SpeechOneSaid :=
  OpenClaim.holds_of_wide 5 Tryd.f5 rfl rfl rfl rfl rfl rfl rfl ⟨rfl, rfl, rfl, rfl, rfl⟩ rfl rfl rfl rfl rfl (by kernel_rfl) Tryd.func5 (by kernel_rfl)
    (of_decide_eq_true (by kernel_rfl)) (by unfold Func.isWrapper; first | (rw [if_pos (by decide +kernel)]; kernel_rfl) | (rw [if_neg (by decide +kernel)]; exact ⟨rfl, rfl⟩))
    (fun os started H enc _ => one_lifted os started H enc)
end Go.Proofs.YtgolmieejhohdaaDoor.Sl
namespace Go.Proofs.YtgolmieejhohdaaDoor
open Go.RowKit
theorem speechOne_holds : Rows.SpeechOneCardSaid :=
  Claim7.holds_tied_plain_at .later [] [.data, .pinned] true (true, "68753b9784317035982dabfb218a4a09f2a8db9f53a9d96d62a22b4134232de3") false Sl.one_row (fun _ h => by cases h) (by kernel_rfl) (fun _ h => by cases h) speechOne_row_tie rfl ⟨rfl, rfl⟩ (by kernel_rfl) rfl
    (fun f fn hf hfn => by
      obtain rfl : f = 5 := Option.some.inj ((show Tryd.prog.funcNamed "counterpane/counterpanelaw32.SpeechOne" = some 5 by kernel_rfl).symm.trans hf) |>.symm
      obtain rfl : fn = Tryd.f5 := (Option.some.inj (Tryd.func5.symm.trans hfn)).symm
      exact ⟨by kernel_rfl, fun j t ht => by
        rw [Tryd.params5] at ht
        have hm : t ∈ [9] := by simpa using Array.mem_of_getElem? ht
        have hall : ([9].all fun u => !Tryd.prog.wantsStandIn u) = true := by kernel_rfl
        exact (show Tryd.prog.wantsStandIn t = false by simpa using List.all_eq_true.1 hall t hm)⟩)
    (by kernel_rfl)
#print axioms speechOne_holds
end Go.Proofs.YtgolmieejhohdaaDoor
