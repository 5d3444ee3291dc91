import Derived.Test.YtgolmieejhohdaaDoorSp11
namespace Go.Proofs.YtgolmieejhohdaaDoor.Sl
set_option linter.unusedVariables false
set_option linter.unusedSimpArgs false
set_option maxRecDepth 100000

/-! ### words and lines -/
theorem joinTail_eq (sep : List UInt8) : ∀ xs : List (List UInt8), xs ≠ [] → Lib.joinTail sep xs = sep ++ Lib.join xs sep
  | [], h => absurd rfl h
  | x :: r, _ => by rw [Lib.join_cons]; simp [Lib.joinTail]
theorem join_cutAt (c : UInt8) : ∀ s, Lib.join (cutAt c s) [c] = s
  | [] => by rw [cutAt, Lib.join_one]
  | x :: r => by
    have ih := join_cutAt c r
    unfold cutAt
    split
    · rename_i h; subst h
      rw [Lib.join_cons, joinTail_eq _ _ (cutAt_ne _ _), ih]; rfl
    · split
      · rename_i e; exact absurd e (cutAt_ne _ _)
      · rename_i h t e
        rw [e, Lib.join_cons] at ih
        rw [Lib.join_cons, List.cons_append, ih]
theorem cutAt_append (c : UInt8) (r : List UInt8) (h : List UInt8) (t : List (List UInt8)) (hr : cutAt c r = h :: t) : ∀ w : List UInt8, c ∉ w → cutAt c (w ++ r) = (w ++ h) :: t
  | [], _ => hr
  | x :: w, hw => by
    have hx : ¬ x = c := fun e => hw (by rw [e]; exact List.mem_cons_self ..)
    have ih := cutAt_append c r h t hr w (fun e => hw (List.mem_cons_of_mem _ e))
    rw [List.cons_append, cutAt, if_neg hx, ih]; rfl
theorem cutAt_none (c : UInt8) (w : List UInt8) (hw : c ∉ w) : cutAt c w = [w] := by
  have := cutAt_append c [] [] [] rfl w hw
  simpa using this
theorem cutAt_join (c : UInt8) : ∀ ws : List (List UInt8), ws ≠ [] → (∀ w, w ∈ ws → c ∉ w) → cutAt c (Lib.join ws [c]) = ws
  | [], h, _ => absurd rfl h
  | [w], _, h => by rw [Lib.join_one]; exact cutAt_none c w (h w (List.mem_cons_self ..))
  | w :: x :: t, _, h => by
    have ih := cutAt_join c (x :: t) (by simp) (fun y hy => h y (List.mem_cons_of_mem _ hy))
    rw [Lib.join_cons, joinTail_eq _ _ (by simp)]
    have e : cutAt c ([c] ++ Lib.join (x :: t) [c]) = [] :: (x :: t) := by
      rw [List.singleton_append, cutAt, if_pos rfl, ih]
    rw [cutAt_append c _ _ _ e w (h w (List.mem_cons_self ..)), List.append_nil]

end Go.Proofs.YtgolmieejhohdaaDoor.Sl
