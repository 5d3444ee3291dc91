import Derived.Test.YtgolmieejhohdaaDoorSp21
namespace Go.Proofs.YtgolmieejhohdaaDoor.Sl
set_option linter.unusedVariables false
set_option linter.unusedSimpArgs false
set_option maxRecDepth 100000

/-! ### words and lines -/
theorem joinTail_eq (sep : List UInt8) : ∀ xs : List (List UInt8), xs ≠ [] → Lib.joinTail sep xs = sep ++ Lib.join xs sep
  | [], h => absurd rfl h
  | x :: r, _ => by rw [Lib.join_cons]; simp [Lib.joinTail]
theorem join_cutAt (c : UInt8) : ∀ s, Lib.join (cutAt c s) [c] = s
  | [] => by rw [cutAt, Lib.join_one]
  | x :: r => by
    have ih := join_cutAt c r
    unfold cutAt
    split
    · rename_i h; subst h
      rw [Lib.join_cons, joinTail_eq _ _ (cutAt_ne _ _), ih]; rfl
    · split
      · rename_i e; exact absurd e (cutAt_ne _ _)
      · rename_i h t e
        rw [e, Lib.join_cons] at ih
        rw [Lib.join_cons, List.cons_append, ih]
theorem cutAt_append (c : UInt8) (r : List UInt8) (h : List UInt8) (t : List (List UInt8)) (hr : cutAt c r = h :: t) : ∀ w : List UInt8, c ∉ w → cutAt c (w ++ r) = (w ++ h) :: t
  | [], _ => hr
  | x :: w, hw => by
    have hx : ¬ x = c := fun e => hw (by rw [e]; exact List.mem_cons_self ..)
    have ih := cutAt_append c r h t hr w (fun e => hw (List.mem_cons_of_mem _ e))
    rw [List.cons_append, cutAt, if_neg hx, ih]; rfl
theorem cutAt_none (c : UInt8) (w : List UInt8) (hw : c ∉ w) : cutAt c w = [w] := by
  have := cutAt_append c [] [] [] rfl w hw
  simpa using this
theorem cutAt_join (c : UInt8) : ∀ ws : List (List UInt8), ws ≠ [] → (∀ w, w ∈ ws → c ∉ w) → cutAt c (Lib.join ws [c]) = ws
  | [], h, _ => absurd rfl h
  | [w], _, h => by rw [Lib.join_one]; exact cutAt_none c w (h w (List.mem_cons_self ..))
  | w :: x :: t, _, h => by
    have ih := cutAt_join c (x :: t) (by simp) (fun y hy => h y (List.mem_cons_of_mem _ hy))
    rw [Lib.join_cons, joinTail_eq _ _ (by simp)]
    have e : cutAt c ([c] ++ Lib.join (x :: t) [c]) = [] :: (x :: t) := by
      rw [List.singleton_append, cutAt, if_pos rfl, ih]
    rw [cutAt_append c _ _ _ e w (h w (List.mem_cons_self ..)), List.append_nil]

/-! ### a line, read and written -/
theorem setF_field {c : UInt8} {o p : OpM} {ws : List (List UInt8)} (h : setF c o ws = some p) : ws.take (needF c) = fieldL p c ∧ p.kind = o.kind ∧ ∀ d, d ≠ c → fieldL p d = fieldL o d := by
  unfold setF at h
  split at h
  · rename_i e; subst e
    cases ws with
    | nil => cases h
    | cons w r =>
      simp only [setK] at h
      obtain ⟨n, hn, rfl⟩ : ∃ n, numL 18446744073709551615 w = some n ∧ { o with key := n } = p := by simpa using h
      refine ⟨?_, rfl, fun d hd => by simp [fieldL, hd]⟩
      show [w] = [dig n]
      rw [numL_dig hn]
  · split at h
    · rename_i e; subst e
      cases ws with
      | nil => cases h
      | cons w r =>
        simp only [setX] at h
        obtain ⟨n, hn, rfl⟩ : ∃ n, numL 4294967295 w = some n ∧ { o with x := n } = p := by simpa using h
        refine ⟨?_, rfl, fun d hd => by simp [fieldL, hd]⟩
        show [w] = [dig n]
        rw [numL_dig hn]
    · split at h
      · rename_i e; subst e
        cases ws with
        | nil => cases h
        | cons w r =>
          simp only [setY] at h
          obtain ⟨n, hn, rfl⟩ : ∃ n, numL 4294967295 w = some n ∧ { o with y := n } = p := by simpa using h
          refine ⟨?_, rfl, fun d hd => by simp [fieldL, hd]⟩
          show [w] = [dig n]
          rw [numL_dig hn]
      · split at h
        · rename_i e; subst e
          cases ws with
          | nil => cases h
          | cons w r =>
            simp only [setV] at h
            obtain ⟨n, hn, rfl⟩ : ∃ n, unquoteL w = some n ∧ { o with val := n } = p := by simpa using h
            refine ⟨?_, rfl, fun d hd => by simp [fieldL, hd]⟩
            show [w] = [quoteL n]
            rw [of_unquoteL hn]
        · split at h
          · rename_i e; subst e
            cases ws with
            | nil => cases h
            | cons w r =>
              simp only [setN] at h
              obtain ⟨n, hn, rfl⟩ : ∃ n, wholeP w = some n ∧ { o with n := n } = p := by simpa using h
              refine ⟨?_, rfl, fun d hd => by simp [fieldL, hd]⟩
              show [w] = [wholeT n]
              rw [(of_wholeP hn).1]
          · split at h
            · rename_i e; subst e
              match ws, h with
              | w0 :: w1 :: w2 :: w3 :: r, h =>
                simp only [setW] at h
                cases h0 : numL 4294967295 w0 with
                | none => simp [h0] at h
                | some a =>
                  cases h1 : numL 4294967295 w1 with
                  | none => simp [h0, h1] at h
                  | some b =>
                    cases h2 : numL 4294967295 w2 with
                    | none => simp [h0, h1, h2] at h
                    | some c =>
                      cases h3 : numL 4294967295 w3 with
                      | none => simp [h0, h1, h2, h3] at h
                      | some d =>
                        simp only [h0, h1, h2, h3] at h
                        have := Option.some.inj h
                        subst this
                        refine ⟨?_, rfl, fun d hd => by simp [fieldL, hd]⟩
                        show [w0, w1, w2, w3] = [dig a, dig b, dig c, dig d]
                        rw [numL_dig h0, numL_dig h1, numL_dig h2, numL_dig h3]
              | [], h => cases h
              | [_], h => cases h
              | [_, _], h => cases h
              | [_, _, _], h => cases h
            · cases h
theorem runF_words : ∀ (fs : List UInt8) (o p : OpM) (ws rest : List (List UInt8)), fs.Nodup → runF fs o ws = some (p, rest) → ws = fs.flatMap (fieldL p) ++ rest ∧ p.kind = o.kind ∧ ∀ d, d ∉ fs → fieldL p d = fieldL o d
  | [], o, p, ws, rest, _, h => by
    simp only [runF, Option.some.injEq, Prod.mk.injEq] at h
    obtain ⟨rfl, rfl⟩ := h
    exact ⟨by simp, rfl, fun _ _ => rfl⟩
  | c :: r, o, p, ws, rest, hnd, h => by
    simp only [runF] at h
    cases hs : setF c o ws with
    | none => rw [hs] at h; cases h
    | some o' =>
      rw [hs] at h
      obtain ⟨hc, hr⟩ := List.nodup_cons.1 hnd
      obtain ⟨e1, e2, e3⟩ := runF_words r o' p (ws.drop (needF c)) rest hr h
      obtain ⟨g1, g2, g3⟩ := setF_field hs
      refine ⟨?_, e2.trans g2, fun d hd => ?_⟩
      · rw [List.flatMap_cons, e3 c hc, ← g1, List.append_assoc, ← e1, List.take_append_drop]
      · rw [e3 d (fun e => hd (List.mem_cons_of_mem _ e)), g3 d (fun e => hd (by rw [e]; exact List.mem_cons_self ..))]

/-! ### what is read fits its types -/
theorem quoteL_ge (v : List UInt8) : v.length ≤ (quoteL v).length := by
  have : ∀ v : List UInt8, v.length ≤ (v.flatMap qc).length := by
    intro v
    induction v with
    | nil => simp
    | cons c r ih =>
      have hc : 1 ≤ (qc c).length := by unfold qc; split <;> simp
      simp only [List.flatMap_cons, List.length_append, List.length_cons]; omega
  have := this v
  simp only [quoteL, List.length_append, List.length_cons, List.length_nil]; omega
theorem setF_ok {c : UInt8} {o p : OpM} {ws : List (List UInt8)} (hw : ∀ w, w ∈ ws → w.length ≤ 400) (ho : OpOk o) (h : setF c o ws = some p) : OpOk p := by
  obtain ⟨k1, k2, k3, k4, k5, k6, k7, k8, k9, k10⟩ := ho
  unfold setF at h
  repeat' (split at h)
  · cases ws with
    | nil => cases h
    | cons w r =>
      simp only [setK] at h
      obtain ⟨n, hn, rfl⟩ : ∃ n, numL 18446744073709551615 w = some n ∧ { o with key := n } = p := by simpa using h
      have := numL_le hn
      exact ⟨k1, by show n < _; omega, k3, k4, k5, k6, k7, k8, k9, k10⟩
  · cases ws with
    | nil => cases h
    | cons w r =>
      simp only [setX] at h
      obtain ⟨n, hn, rfl⟩ : ∃ n, numL 4294967295 w = some n ∧ { o with x := n } = p := by simpa using h
      have := numL_le hn
      exact ⟨k1, k2, by show n < _; omega, k4, k5, k6, k7, k8, k9, k10⟩
  · cases ws with
    | nil => cases h
    | cons w r =>
      simp only [setY] at h
      obtain ⟨n, hn, rfl⟩ : ∃ n, numL 4294967295 w = some n ∧ { o with y := n } = p := by simpa using h
      have := numL_le hn
      exact ⟨k1, k2, k3, by show n < _; omega, k5, k6, k7, k8, k9, k10⟩
  · cases ws with
    | nil => cases h
    | cons w r =>
      simp only [setV] at h
      obtain ⟨n, hn, rfl⟩ : ∃ n, unquoteL w = some n ∧ { o with val := n } = p := by simpa using h
      have h1 := quoteL_ge n
      rw [of_unquoteL hn] at h1
      have h2 := hw w (List.mem_cons_self ..)
      exact ⟨k1, k2, k3, k4, by show n.length ≤ 500; omega, k6, k7, k8, k9, k10⟩
  · cases ws with
    | nil => cases h
    | cons w r =>
      simp only [setN] at h
      obtain ⟨n, hn, rfl⟩ : ∃ n, wholeP w = some n ∧ { o with n := n } = p := by simpa using h
      exact ⟨k1, k2, k3, k4, k5, k6, k7, k8, k9, (of_wholeP hn).2⟩
  · match ws, h with
    | w0 :: w1 :: w2 :: w3 :: r, h =>
      simp only [setW] at h
      cases h0 : numL 4294967295 w0 with
      | none => simp [h0] at h
      | some a =>
        cases h1 : numL 4294967295 w1 with
        | none => simp [h0, h1] at h
        | some b =>
          cases h2 : numL 4294967295 w2 with
          | none => simp [h0, h1, h2] at h
          | some c =>
            cases h3 : numL 4294967295 w3 with
            | none => simp [h0, h1, h2, h3] at h
            | some d =>
              simp only [h0, h1, h2, h3] at h
              have := Option.some.inj h
              subst this
              have g0 := numL_le h0
              have g1 := numL_le h1
              have g2 := numL_le h2
              have g3 := numL_le h3
              exact ⟨k1, k2, k3, k4, k5, by show a < _; omega, by show b < _; omega, by show c < _; omega, by show d < _; omega, k10⟩
    | [], h => cases h
    | [_], h => cases h
    | [_, _], h => cases h
    | [_, _, _], h => cases h
  · cases h
theorem runF_ok : ∀ (fs : List UInt8) (o p : OpM) (ws rest : List (List UInt8)), (∀ w, w ∈ ws → w.length ≤ 400) → OpOk o → runF fs o ws = some (p, rest) → OpOk p
  | [], o, p, ws, rest, _, ho, h => by
    simp only [runF, Option.some.injEq, Prod.mk.injEq] at h
    obtain ⟨rfl, rfl⟩ := h
    exact ho
  | c :: r, o, p, ws, rest, hw, ho, h => by
    simp only [runF] at h
    cases hs : setF c o ws with
    | none => rw [hs] at h; cases h
    | some o' =>
      rw [hs] at h
      exact runF_ok r o' p _ rest (fun w hm => hw w (List.mem_of_mem_drop hm)) (setF_ok hw ho hs) h

theorem kindTo_word (w : List UInt8) : ∀ i, 0 < kindTo w i → verbsL.getD (kindTo w i) [] = w
  | 0, h => by simp [kindTo] at h
  | i + 1, h => by
    unfold kindTo at h ⊢
    split at h
    · rename_i hc; rw [if_pos hc]; exact hc.2
    · rename_i hc; rw [if_neg hc]; exact kindTo_word w i h
theorem forms_nodup (k : Nat) (h : k < 10) : (formsL.getD k []).Nodup := by
  have : ∀ k : Fin 10, (formsL.getD k.val []).Nodup := by decide
  exact this ⟨k, h⟩
theorem op0_ok (k : Nat) (h : k < 10) : OpOk (op0 k) := by
  have h1 : (0 : Nat) < 18446744073709551616 := by decide
  have h2 : (0 : Nat) < 4294967296 := by decide
  exact ⟨⟨by show -9223372036854775808 ≤ (k : Int); omega, by show (k : Int) < 9223372036854775808; omega⟩, h1, h2, h2, Nat.zero_le _, h2, h2, h2, h2, ⟨by show (-9223372036854775808 : Int) ≤ 0; decide, by show (0 : Int) < 9223372036854775808; decide⟩⟩

/-- a line that is an op is that op's line -/
theorem one_law {s : List UInt8} {p : OpM} (hs : s.length ≤ 400) (h : getL s = (p, 0)) : putL p = (s, 0) ∧ OpOk p := by
  obtain ⟨w, ws, hcut⟩ : ∃ w ws, cutAt 32 s = w :: ws := by
    cases h : cutAt 32 s with
    | nil => exact absurd h (cutAt_ne _ _)
    | cons w r => exact ⟨w, r, rfl⟩
  rw [getL_eq hcut, if_neg (by omega)] at h
  obtain ⟨k, hk⟩ : ∃ k, k = kindTo w 10 := ⟨_, rfl⟩
  rw [← hk] at h
  by_cases hk0 : k = 0
  · rw [if_pos hk0] at h; simp at h
  · rw [if_neg hk0] at h
    have hk10 : k < 10 := hk ▸ kindTo_lt w (by omega)
    have hwl : ∀ x, x ∈ ws → x.length ≤ 400 := fun x hx => by have := cutAt_len 32 s x (by rw [hcut]; exact List.mem_cons_of_mem _ hx); omega
    cases hr : runF (formsL.getD k []) (op0 k) ws with
    | none => rw [hr] at h; simp at h
    | some q =>
      obtain ⟨q, rest⟩ := q
      rw [hr] at h
      cases rest with
      | cons _ _ => simp at h
      | nil =>
        simp only [Prod.mk.injEq, and_true] at h
        subst h
        obtain ⟨e1, e2, _⟩ := runF_words _ _ _ _ _ (forms_nodup k hk10) hr
        have hv := kindTo_word w 10 (by omega)
        rw [← hk] at hv
        have hkind : q.kind = (k : Int) := e2
        have hwd : wordsL q = cutAt 32 s := by
          unfold wordsL
          rw [hcut, hkind]
          show verbsL.getD k [] :: (formsL.getD k []).flatMap (fieldL q) = w :: ws
          rw [hv, e1, List.append_nil]
        refine ⟨?_, runF_ok _ _ _ _ _ hwl (op0_ok k hk10) hr⟩
        unfold putL
        rw [if_neg (by omega), hwd, join_cutAt, if_neg (by omega)]

/-! ### what is written holds no blank -/
theorem dig_mem (n : Nat) : ∀ c, c ∈ dig n → 48 ≤ c.toNat := by
  induction n using Nat.strongRecOn with
  | _ n ih =>
    intro c hc
    by_cases h10 : n < 10
    · rw [dig_lt h10] at hc
      simp only [List.mem_cons, List.not_mem_nil, or_false] at hc
      subst hc; simp; omega
    · rw [dig_ge h10] at hc
      rcases List.mem_append.1 hc with hc | hc
      · exact ih (n / 10) (by omega) c hc
      · simp only [List.mem_cons, List.not_mem_nil, or_false] at hc
        subst hc; simp; omega
theorem dig_no (n : Nat) : (32 : UInt8) ∉ dig n := fun h => by have := dig_mem n _ h; revert this; decide
theorem wholeT_no (z : Int) : (32 : UInt8) ∉ wholeT z := by
  unfold wholeT
  split
  · intro h
    rcases List.mem_cons.1 h with h | h
    · revert h; decide
    · exact dig_no _ h
  · exact dig_no _
theorem hex_no : ∀ a, a < 16 → hex a ≠ 32 := by
  have : ∀ a : Fin 16, hex a.val ≠ 32 := by decide
  exact fun a h => this ⟨a, h⟩
theorem quoteL_no (v : List UInt8) : (32 : UInt8) ∉ quoteL v := by
  intro h
  unfold quoteL at h
  rcases List.mem_append.1 h with h | h
  · rcases List.mem_cons.1 h with h | h
    · revert h; decide
    · obtain ⟨c, _, hc⟩ := List.mem_flatMap.1 h
      have h256 := c.toNat_lt
      unfold qc at hc
      split at hc
      · rename_i hp
        simp only [List.mem_cons, List.not_mem_nil, or_false] at hc
        subst hc
        revert hp; decide
      · simp only [List.mem_cons, List.not_mem_nil, or_false] at hc
        rcases hc with hc | hc | hc
        · revert hc; decide
        · exact hex_no _ (by omega) hc.symm
        · exact hex_no _ (by omega) hc.symm
  · revert h; decide
theorem fieldL_no (o : OpM) (f : UInt8) : ∀ w, w ∈ fieldL o f → (32 : UInt8) ∉ w := by
  intro w hw
  unfold fieldL at hw
  repeat' (split at hw)
  all_goals simp only [List.mem_cons, List.not_mem_nil, or_false] at hw
  · subst hw; exact dig_no _
  · subst hw; exact dig_no _
  · subst hw; exact dig_no _
  · subst hw; exact quoteL_no _
  · subst hw; exact wholeT_no _
  · rcases hw with hw | hw | hw | hw <;> subst hw <;> exact dig_no _
theorem verbs_no (k : Nat) (h : k < 10) : (32 : UInt8) ∉ verbsL.getD k [] := by
  have : ∀ k : Fin 10, (32 : UInt8) ∉ verbsL.getD k.val [] := by decide
  exact this ⟨k, h⟩
theorem kindTo_verb (k : Nat) (h : k < 10) : kindTo (verbsL.getD k []) 10 = k := by
  have : ∀ k : Fin 10, kindTo (verbsL.getD k.val []) 10 = k.val := by decide
  exact this ⟨k, h⟩

/-- there and back -/
theorem back_law {o : OpM} (ho : OpOk o) {s : List UInt8} (h : putL o = (s, 0)) : getL s = (cleanL o, 0) ∧ s.length ≤ 400 := by
  unfold putL at h
  split at h
  · simp at h
  · rename_i hk
    split at h
    · simp at h
    · rename_i h4
      simp only [Prod.mk.injEq, and_true] at h
      subst h
      refine ⟨?_, by omega⟩
      have hno : ∀ w, w ∈ wordsL o → (32 : UInt8) ∉ w := by
        intro w hw
        unfold wordsL at hw
        rcases List.mem_cons.1 hw with hw | hw
        · rw [hw]; exact verbs_no _ (by omega)
        · obtain ⟨f, _, hf⟩ := List.mem_flatMap.1 hw; exact fieldL_no o f w hf
      have hcut := cutAt_join 32 (wordsL o) (by unfold wordsL; simp) hno
      unfold wordsL at hcut h4 ⊢
      rw [getL_eq hcut, if_neg h4, kindTo_verb _ (by omega)]
      obtain ⟨k1, k2, k3, k4, k5, k6, k7, k8, k9, k10⟩ := ho
      obtain ⟨kd, key, x, y, val, a, b, c, d, n⟩ := o
      dsimp only at *
      have n1 := numL_of_dig 18446744073709551615 key (by omega) (by omega)
      have n2 := numL_of_dig 4294967295 x (by omega) (by omega)
      have n3 := numL_of_dig 4294967295 y (by omega) (by omega)
      have n4 := numL_of_dig 4294967295 a (by omega) (by omega)
      have n5 := numL_of_dig 4294967295 b (by omega) (by omega)
      have n6 := numL_of_dig 4294967295 c (by omega) (by omega)
      have n7 := numL_of_dig 4294967295 d (by omega) (by omega)
      have n8 := unquoteL_of val
      have n9 := wholeP_of n k10.1 k10.2
      have : kd = 1 ∨ kd = 2 ∨ kd = 3 ∨ kd = 4 ∨ kd = 5 ∨ kd = 6 ∨ kd = 7 ∨ kd = 8 ∨ kd = 9 := by omega
      rcases this with rfl | rfl | rfl | rfl | rfl | rfl | rfl | rfl | rfl
      all_goals simp [formsL, fieldL, runF, setF, setK, setX, setY, setV, setN, setW, needF, op0, cleanL, n1, n2, n3, n4, n5, n6, n7, n8, n9]
end Go.Proofs.YtgolmieejhohdaaDoor.Sl
