import Derived.Test.YtgolmieejhohdaaDoorSp14
namespace Go.Proofs.YtgolmieejhohdaaDoor.Sl
set_option linter.unusedVariables false
set_option linter.unusedSimpArgs false
set_option maxRecDepth 100000

/-! ### numbers -/
theorem numGo_append (most : Nat) : ∀ (a b : List UInt8) (acc : Nat), numGo most acc (a ++ b) = (numGo most acc a).bind fun x => numGo most x b
  | [], b, acc => by simp [numGo]
  | c :: r, b, acc => by
    simp only [List.cons_append, numGo]
    split
    · exact numGo_append most r b _
    · rfl
theorem ofNat_toNat (c : UInt8) (d : Nat) (h : c.toNat = d) : UInt8.ofNat d = c := by
  subst h; exact UInt8.ofNat_toNat
theorem numGo_dig (most : Nat) : ∀ (l : List UInt8) (acc n : Nat), acc ≠ 0 → numGo most acc l = some n → dig n = dig acc ++ l
  | [], acc, n, _, h => by simp [numGo] at h; simp [h]
  | c :: r, acc, n, h0, h => by
    simp only [numGo] at h
    split at h
    · rename_i hc
      have ih := numGo_dig most r _ n (by omega) h
      rw [ih, dig_ge (n := 10 * acc + (c.toNat - 48)) (by omega)]
      have e1 : (10 * acc + (c.toNat - 48)) / 10 = acc := by omega
      have e2 : (10 * acc + (c.toNat - 48)) % 10 = c.toNat - 48 := by omega
      rw [e1, e2, ofNat_toNat c (48 + (c.toNat - 48)) (by omega)]
      simp
    · cases h
theorem numL_dig {most n : Nat} {l : List UInt8} (h : numL most l = some n) : dig n = l := by
  unfold numL at h
  split at h
  · cases h
  · rename_i hg
    cases l with
    | nil => exact absurd (.inl rfl) hg
    | cons c r =>
      simp only [numGo] at h
      split at h
      · rename_i hc
        by_cases hz : c.toNat = 48
        · have hc48 : c = 48 := UInt8.toNat_inj.1 (by simpa using hz)
          have hr : r = [] := by
            cases r with
            | nil => rfl
            | cons x t => exact absurd (.inr (.inr ⟨by rw [hc48]; rfl, by simp⟩)) hg
          subst hr
          simp only [numGo] at h
          have : n = 0 := by have := Option.some.inj h; omega
          subst this
          rw [dig_lt (by omega), hc48]; rfl
        · have ih := numGo_dig most r _ n (by omega) h
          rw [ih, dig_lt (by omega), ofNat_toNat c (48 + (10 * 0 + (c.toNat - 48))) (by omega)]
          rfl
      · cases h
theorem numGo_of_dig (most : Nat) (n : Nat) (h : n ≤ most) : numGo most 0 (dig n) = some n := by
  induction n using Nat.strongRecOn with
  | _ n ih =>
    by_cases h10 : n < 10
    · have hc : (UInt8.ofNat (48 + n)).toNat = 48 + n := by simp; omega
      rw [dig_lt h10]
      simp only [numGo, hc]
      rw [if_pos (by omega)]
      congr 1; omega
    · have hc : (UInt8.ofNat (48 + n % 10)).toNat = 48 + n % 10 := by simp; omega
      rw [dig_ge h10, numGo_append, ih (n / 10) (by omega) (by omega)]
      simp only [Option.bind_some, numGo, hc]
      rw [if_pos (by omega)]
      congr 1; omega
theorem dig_ne (n : Nat) : dig n ≠ [] := by
  rw [dig]; split <;> simp
theorem dig_head (n : Nat) (h : 0 < n) : (dig n)[0]? ≠ some 48 := by
  induction n using Nat.strongRecOn with
  | _ n ih =>
    by_cases h10 : n < 10
    · rw [dig_lt h10]
      simp only [List.getElem?_cons_zero, ne_eq, Option.some.injEq]
      intro e
      have := congrArg UInt8.toNat e
      simp at this; omega
    · rw [dig_ge h10]
      have := ih (n / 10) (by omega) (by omega)
      rw [List.getElem?_append_left (by have := List.length_pos_iff.2 (dig_ne (n / 10)); omega)]
      exact this
theorem dig_one (n : Nat) (h : 1 < (dig n).length) : 10 ≤ n := by
  rcases Nat.lt_or_ge n 10 with h' | h'
  · rw [dig_lt h'] at h; simp at h
  · exact h'
theorem numL_of_dig (most n : Nat) (h : n ≤ most) (hn : n < 18446744073709551616) : numL most (dig n) = some n := by
  unfold numL
  rw [if_neg]
  · exact numGo_of_dig most n h
  · rintro (h | h | ⟨h1, h2⟩)
    · exact dig_ne n h
    · have := dig_len20 n hn; omega
    · exact dig_head n (by have := dig_one n h2; omega) h1

/-! ### texts between quotes -/
theorem unhex_hex : ∀ a, a < 16 → unhex (hex a) = some a := by
  have : ∀ a : Fin 16, unhex (hex a.val) = some a.val := by decide
  exact fun a h => this ⟨a, h⟩
theorem hex_unhex : ∀ c a, unhex c = some a → hex a = c := by
  have : ∀ c : Fin 256, (unhex (UInt8.ofNat c.val)).all (fun a => hex a == UInt8.ofNat c.val) = true := by decide
  intro c a h
  have := this ⟨c.toNat, c.toNat_lt⟩
  simp only [UInt8.ofNat_toNat] at this
  rw [h] at this; simpa using this
theorem plain_ne {c : UInt8} (h : plain c = true) : c ≠ 37 := by
  rintro rfl; simp [plain] at h
theorem unq_of : ∀ v : List UInt8, unq (v.flatMap qc) = some v
  | [] => rfl
  | c :: r => by
    have ih := unq_of r
    rw [List.flatMap_cons]
    cases hp : plain c with
    | true =>
      rw [show qc c = [c] from if_pos hp, List.singleton_append, unq_plain _ _ (plain_ne hp), hp, ih]; rfl
    | false =>
      have hq : qc c = [37, hex (c.toNat / 16), hex (c.toNat % 16)] := if_neg (by rw [hp]; decide)
      have hc := c.toNat_lt
      have he : UInt8.ofNat (16 * (c.toNat / 16) + c.toNat % 16) = c := ofNat_toNat c _ (by omega)
      rw [hq]
      show unq (37 :: hex (c.toNat / 16) :: hex (c.toNat % 16) :: r.flatMap qc) = _
      rw [unq_hex _ _ _ _ _ (unhex_hex _ (by omega)) (unhex_hex _ (by omega)), he, hp, ih]; rfl
theorem of_unq : ∀ (n : Nat) (q v : List UInt8), q.length ≤ n → unq q = some v → v.flatMap qc = q
  | n, [], v, _, h => by simp [unq] at h; simp [h]
  | 0, c :: r, v, hn, h => by simp at hn
  | n + 1, c :: r, v, hn, h => by
    by_cases h37 : c = 37
    · subst h37
      match r, h, hn with
      | [], h, _ => simp [unq] at h
      | [_], h, _ => simp [unq] at h
      | x :: y :: r', h, hn =>
        cases hx : unhex x with
        | none => simp [unq, hx] at h
        | some a =>
          cases hy : unhex y with
          | none => simp [unq, hx, hy] at h
          | some b =>
            rw [unq_hex x y r' a b hx hy] at h
            cases hp : plain (UInt8.ofNat (16 * a + b)) with
            | true => rw [hp] at h; cases h
            | false =>
              rw [hp] at h
              obtain ⟨v', hv', rfl⟩ : ∃ v', unq r' = some v' ∧ UInt8.ofNat (16 * a + b) :: v' = v := by simpa using h
              have ih := of_unq n r' v' (by simp at hn; omega) hv'
              have ha := unhex_lt _ _ hx
              have hb := unhex_lt _ _ hy
              have hu : (UInt8.ofNat (16 * a + b)).toNat = 16 * a + b := by simp; omega
              have hq : qc (UInt8.ofNat (16 * a + b)) = [37, hex ((UInt8.ofNat (16 * a + b)).toNat / 16), hex ((UInt8.ofNat (16 * a + b)).toNat % 16)] := if_neg (by rw [hp]; decide)
              rw [List.flatMap_cons, ih, hq, hu, show (16 * a + b) / 16 = a by omega, show (16 * a + b) % 16 = b by omega, hex_unhex _ _ hx, hex_unhex _ _ hy]
              rfl
    · rw [unq_plain _ _ h37] at h
      cases hp : plain c with
      | false => rw [hp] at h; cases h
      | true =>
        rw [hp] at h
        obtain ⟨v', hv', rfl⟩ : ∃ v', unq r = some v' ∧ c :: v' = v := by simpa using h
        have ih := of_unq n r v' (by simp at hn; omega) hv'
        rw [List.flatMap_cons, ih, show qc c = [c] from if_pos hp]; rfl
theorem unquoteL_of (v : List UInt8) : unquoteL (quoteL v) = some v := by
  unfold unquoteL quoteL
  have e : (34 :: v.flatMap qc ++ [34]).length = (v.flatMap qc).length + 2 := by simp
  rw [if_neg]
  · rw [e]
    have : List.take ((v.flatMap qc).length + 2 - 2) (List.drop 1 (34 :: v.flatMap qc ++ [34])) = v.flatMap qc := by simp
    rw [this]; exact unq_of v
  · rw [e]
    rintro (h | h | h)
    · omega
    · exact h rfl
    · apply h
      show (34 :: v.flatMap qc ++ [34])[(v.flatMap qc).length + 1]? = some 34
      simp
theorem of_unquoteL {l v : List UInt8} (h : unquoteL l = some v) : quoteL v = l := by
  unfold unquoteL at h
  split at h
  · cases h
  · rename_i hg
    have h2 : ¬ l.length < 2 := fun e => hg (.inl e)
    have h0 : l[0]? = some 34 := Decidable.of_not_not fun e => hg (.inr (.inl e))
    have h1 : l[l.length - 1]? = some 34 := Decidable.of_not_not fun e => hg (.inr (.inr e))
    have hv := of_unq _ _ _ (Nat.le_refl _) h
    unfold quoteL
    rw [hv]
    cases l with
    | nil => simp at h2
    | cons c r =>
      simp at h0
      subst h0
      have hr : r ≠ [] := by rintro rfl; simp at h2
      have hl : r[r.length - 1]? = some 34 := by
        have : (34 :: r).length - 1 = (r.length - 1) + 1 := by have := List.length_pos_iff.2 hr; simp; omega
        rw [this, List.getElem?_cons_succ] at h1; exact h1
      have e : r = r.take (r.length - 1) ++ [34] := by
        have h3 : r = r.take (r.length - 1) ++ r.drop (r.length - 1) := (List.take_append_drop _ _).symm
        have h4 : r.drop (r.length - 1) = [34] := by
          have hlt : r.length - 1 < r.length := by have := List.length_pos_iff.2 hr; omega
          rw [List.drop_eq_getElem_cons hlt]
          rw [List.getElem?_eq_getElem hlt] at hl
          rw [Option.some.inj hl, List.drop_eq_nil_of_le (by omega)]
        rw [h4] at h3; exact h3
      have hd : List.drop 1 (34 :: r) = r := rfl
      rw [hd, show (34 :: r).length - 2 = r.length - 1 by simp]
      show 34 :: r.take (r.length - 1) ++ [34] = 34 :: r
      rw [List.cons_append, ← e]

/-! ### whole numbers -/
theorem wholeP_of (z : Int) (h : -9223372036854775808 ≤ z) (h' : z < 9223372036854775808) : wholeP (wholeT z) = some z := by
  unfold wholeT
  by_cases hz : z < 0
  · rw [if_pos hz, wholeP_minus, numL_of_dig _ _ (by omega) (by omega)]
    simp only
    rw [if_pos (by omega)]; congr 1; omega
  · rw [if_neg hz, wholeP_else, numL_of_dig _ _ (by omega) (by omega)]
    · simp only [Option.map_some]; congr 1; omega
    · cases hd : dig z.natAbs with
      | nil => rfl
      | cons c r =>
        have : c ≠ 45 := by
          rintro rfl
          have h2 := numL_of_dig 9223372036854775807 z.natAbs (by omega) (by omega)
          rw [hd] at h2
          simp [numL, numGo] at h2
        simp [Lib.hasPrefix, List.isPrefixOf]; exact fun e => this e.symm
theorem of_wholeP {l : List UInt8} {z : Int} (h : wholeP l = some z) : wholeT z = l ∧ -9223372036854775808 ≤ z ∧ z < 9223372036854775808 := by
  cases hp : Lib.hasPrefix l [45] with
  | true =>
    obtain ⟨r, rfl⟩ : ∃ r, l = 45 :: r := by
      cases l with
      | nil => simp [Lib.hasPrefix] at hp
      | cons c r => simp [Lib.hasPrefix] at hp; exact ⟨r, by rw [← hp]⟩
    rw [wholeP_minus] at h
    cases hn : numL 9223372036854775808 r with
    | none => rw [hn] at h; cases h
    | some n =>
      rw [hn] at h
      have hle := numL_le hn
      by_cases h0 : 0 < n
      · simp only [if_pos h0] at h
        have := Option.some.inj h
        subst this
        refine ⟨?_, by omega, by omega⟩
        unfold wholeT
        rw [if_pos (by omega), show (-(n : Int)).natAbs = n by omega, numL_dig hn]
      · simp only [if_neg h0] at h; cases h
  | false =>
    rw [wholeP_else l hp] at h
    cases hn : numL 9223372036854775807 l with
    | none => rw [hn] at h; cases h
    | some n =>
      rw [hn] at h
      have hle := numL_le hn
      simp only [Option.map_some, Option.some.injEq] at h
      subst h
      refine ⟨?_, by omega, by omega⟩
      unfold wholeT
      rw [if_neg (by omega), show ((n : Nat) : Int).natAbs = n by omega, numL_dig hn]
end Go.Proofs.YtgolmieejhohdaaDoor.Sl
