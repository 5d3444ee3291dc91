import Derived.Test.YtgolmieejhohdaaDoorSp4
namespace Go.Proofs.YtgolmieejhohdaaDoor.Sl
open Go.RowKit
set_option linter.unusedVariables false
set_option linter.unusedSimpArgs false
set_option maxRecDepth 100000
attribute [local irreducible] T TA Acts Spec Yld Eff Sto

theorem numGo_le (most : Nat) : ∀ l acc n, acc ≤ most → numGo most acc l = some n → n ≤ most
  | [], acc, n, h, e => by simp [numGo] at e; omega
  | c :: r, acc, n, h, e => by
    simp only [numGo] at e
    split at e
    · exact numGo_le most r _ n (by omega) e
    · cases e
theorem numL_le {most n : Nat} {l : List UInt8} (e : numL most l = some n) : n ≤ most := by
  unfold numL at e; split at e
  · cases e
  · exact numGo_le most l 0 n (Nat.zero_le _) e
theorem numD_le {most : Nat} {l : List UInt8} : (numL most l).getD 0 ≤ most := by
  cases h : numL most l with
  | none => exact Nat.zero_le _
  | some n => exact numL_le h

/-- an op -/
structure OpM where
  kind : Int
  key : Nat
  x : Nat
  y : Nat
  val : List UInt8
  a : Nat
  b : Nat
  c : Nat
  d : Nat
  n : Int
def OpM.cells (o : OpM) : Array Value := #[.int .i64 o.kind, .int .u64 (o.key : Int), .int .u32 (o.x : Int), .int .u32 (o.y : Int), str o.val, .int .u32 (o.a : Int), .int .u32 (o.b : Int), .int .u32 (o.c : Int), .int .u32 (o.d : Int), .int .i64 o.n]

theorem small_spec (σ : World) (l : List UInt8) (hn : l.length ≤ 100000) (F : Hp) (b off E : Nat) (arr arr' : Array Value) (ho : off < arr.size)
    (he : arr.setIfInBounds off (.int .u32 (((numL 4294967295 l).getD 0 : Nat) : Int)) = arr') :
    Spec Tryd.prog σ 31 [.string (bs l), .pointer (some ⟨b, off, none⟩)] ([(b, .cells arr E (0, 0))] :: F)
      (fun v H' => v = .bool (numL 4294967295 l).isSome ∧ H' = [(b, .cells arr' E (0, 0))] :: F) := by
  subst he
  have hle := numD_le (most := 4294967295) (l := l)
  generalize hz : (numL 4294967295 l).getD 0 = z at *
  refine Spec_intro Tryd.func31 rfl Tryd.ntmps31 rfl ?_
  (repeat' (first | (with_reducible apply T_seq) | (with_reducible apply T_region) | (with_reducible apply T_nil) | (with_reducible apply T_then) | (with_reducible apply T_then_ret) | (with_reducible apply T_skip) | (with_reducible apply T_ret) | ((with_reducible apply T_y); (first | ((with_reducible apply y_move); rfl) | ((with_reducible apply y_assign); rfl) | ((with_reducible apply y_extract); rfl; rfl) | ((with_reducible apply y_nilCheck); rfl) | ((with_reducible apply y_conv); rfl; (first | exact wrap_i64_as (by with_reducible assumption) (by omega) (by omega) | exact wrap_i64 (by omega) (by omega) | exact wrap_u64 (by omega) (by omega) | exact wrap_u32 (by omega) (by omega) | exact wrap_u8 (by omega) (by omega) | rfl)) | ((with_reducible apply y_nilCheck_f); rfl)); rfl) | ((with_reducible apply T_s); ((with_reducible apply s_store1); rfl; rfl; (repeat (first | (with_reducible exact Pick.here) | (with_reducible apply Pick.there))); (first | exact Nat.le_of_ble_eq_true rfl | assumption | omega | (simp; done)); (first | rfl | (simp; done)); rfl; ((try simp only [List.setIfInBounds_toArray, List.set_cons_zero, List.set_cons_succ, Nat.reduceAdd]); rfl))) | ((with_reducible apply T_s); ((with_reducible apply s_storeW); rfl; rfl; (repeat (first | (with_reducible exact Pick.here) | (with_reducible apply Pick.there))); rfl; rfl; rfl)) | (intro _; exfalso; first | omega | contradiction) | (intro _) | ((with_reducible apply T_ret1); rfl; rfl)))
  ((with_reducible apply E_call); rfl; (first | exact number_spec _ l 4294967295 _ rfl hn (by decide) _ | (apply Spec.arr (number_spec _ l 4294967295 _ rfl hn (by decide) _); (repeat (first | (with_reducible exact Arr.nil) | (with_reducible apply Arr.cons) | (with_reducible exact Pick.here) | (with_reducible apply Pick.there))))); rfl; rintro _ _ ⟨rfl, rfl⟩)
  unfold optN
  rw [hz]
  (repeat' (first | (with_reducible apply T_seq) | (with_reducible apply T_region) | (with_reducible apply T_nil) | (with_reducible apply T_then) | (with_reducible apply T_then_ret) | (with_reducible apply T_skip) | (with_reducible apply T_ret) | ((with_reducible apply T_y); (first | ((with_reducible apply y_move); rfl) | ((with_reducible apply y_assign); rfl) | ((with_reducible apply y_extract); rfl; rfl) | ((with_reducible apply y_nilCheck); rfl) | ((with_reducible apply y_conv); rfl; (first | exact wrap_i64_as (by with_reducible assumption) (by omega) (by omega) | exact wrap_i64 (by omega) (by omega) | exact wrap_u64 (by omega) (by omega) | exact wrap_u32 (by omega) (by omega) | exact wrap_u8 (by omega) (by omega) | rfl)) | ((with_reducible apply y_nilCheck_f); rfl)); rfl) | ((with_reducible apply T_s); ((with_reducible apply s_store1); rfl; rfl; (repeat (first | (with_reducible exact Pick.here) | (with_reducible apply Pick.there))); (first | exact Nat.le_of_ble_eq_true rfl | assumption | omega | (simp; done)); (first | rfl | (simp; done)); rfl; ((try simp only [List.setIfInBounds_toArray, List.set_cons_zero, List.set_cons_succ, Nat.reduceAdd]); rfl))) | ((with_reducible apply T_s); ((with_reducible apply s_storeW); rfl; rfl; (repeat (first | (with_reducible exact Pick.here) | (with_reducible apply Pick.there))); rfl; rfl; rfl)) | (intro _; exfalso; first | omega | contradiction) | (intro _) | ((with_reducible apply T_ret1); rfl; rfl)))
  all_goals first
    | exact ⟨rfl, rfl⟩
    | (repeat (first | (with_reducible exact Incl.refl) | (with_reducible exact Incl.nil) | (with_reducible apply Incl.empty) | ((with_reducible apply Incl.cons); (repeat (first | (with_reducible exact Pick.here) | (with_reducible apply Pick.there)))) | (with_reducible apply Incl.skip)))

/-- a whole number that may be below 0 -/
def wholeP (l : List UInt8) : Option Int :=
  match l with
  | 45 :: r => match numL 9223372036854775808 r with | some n => if 0 < n then some (-(n : Int)) else none | none => none
  | _ => (numL 9223372036854775807 l).map (fun (n : Nat) => (n : Int))
theorem wholeP_minus (r : List UInt8) : wholeP (45 :: r) = match numL 9223372036854775808 r with | some n => if 0 < n then some (-(n : Int)) else none | none => none := rfl
theorem wholeP_else (l : List UInt8) (h : Lib.hasPrefix l [45] = false) : wholeP l = (numL 9223372036854775807 l).map (fun (n : Nat) => (n : Int)) := by
  unfold wholeP
  split
  · simp [Lib.hasPrefix] at h
  · rfl
theorem cut_spec (σ : World) (l t : List UInt8) (m : Bool) (ht : Lib.trimPrefix l [45] = t) (hm : Lib.hasPrefix l [45] = m) (F : Hp) :
    Spec Tryd.prog σ 40 [.string (bs l), .string ⟨#[45]⟩] F fun v H' => v = .tuple #[str t, .bool m] ∧ H' = F := by
  subst ht; subst hm
  unfold Spec
  intro w st
  refine (Tryd.strings_CutPrefix (bs l) ⟨#[45]⟩ w).mono ?_
  rintro e w' ⟨rfl, rfl⟩
  exact ⟨_, _, rfl, ⟨by simp [bs, str], rfl⟩, st⟩

theorem conv_u64 {n : Nat} (h : n < 9223372036854775808) : IntKind.i64.wrap (n : Int) = (n : Int) := wrap_i64 (by omega) (by omega)
theorem conv_neg {n : Nat} (h : n ≤ 9223372036854775808) : IntKind.i64.wrap (-IntKind.i64.wrap (n : Int)) = -(n : Int) := by
  by_cases e : n = 9223372036854775808
  · subst e; decide
  · rw [wrap_i64 (n := (n : Int)) (by omega) (by omega), wrap_i64 (by omega) (by omega)]

theorem isWhole_spec (σ : World) (l : List UInt8) (hn : l.length ≤ 100000) (F : Hp) :
    Spec Tryd.prog σ 33 [.string (bs l)] F fun v H' => (∃ z, v = .tuple #[.int .i64 z, .bool (wholeP l).isSome] ∧ ∀ y, wholeP l = some y → z = y) ∧ H' = F := by
  refine Spec_intro Tryd.func33 rfl Tryd.ntmps33 rfl ?_
  (repeat' (first | (with_reducible apply T_seq) | (with_reducible apply T_region) | (with_reducible apply T_nil) | (with_reducible apply T_then) | (with_reducible apply T_then_ret) | (with_reducible apply T_skip) | (with_reducible apply T_ret) | ((with_reducible apply T_true); rfl) | ((with_reducible apply T_false); rfl) | ((with_reducible apply T_cond); rfl) | ((with_reducible apply T_on); rfl; rfl) | ((with_reducible apply T_off); rfl; rfl; rfl) | ((with_reducible apply T_off0); rfl; rfl) | ((with_reducible apply T_cmp); ((with_reducible apply y_gtr); rfl; rfl); rfl) | ((with_reducible apply T_y); (first | ((with_reducible apply y_move); rfl) | ((with_reducible apply y_assign); rfl) | ((with_reducible apply y_extract); rfl; rfl) | ((with_reducible apply y_pick_t); rfl; rfl) | ((with_reducible apply y_pick_f); rfl; rfl) | ((with_reducible apply y_conv); rfl; (first | exact wrap_i64_as (by with_reducible assumption) (by omega) (by omega) | exact wrap_i64 (by omega) (by omega) | exact wrap_u64 (by omega) (by omega) | exact wrap_u32 (by omega) (by omega) | exact wrap_u8 (by omega) (by omega) | rfl)) | ((with_reducible apply y_not); rfl) | ((with_reducible apply y_neg); rfl; (first | exact wrap_i64_as (by with_reducible assumption) (by omega) (by omega) | exact wrap_i64 (by omega) (by omega) | exact wrap_u64 (by omega) (by omega) | exact wrap_u32 (by omega) (by omega) | exact wrap_u8 (by omega) (by omega) | rfl))); rfl) | (intro _; exfalso; first | omega | contradiction) | (intro _) | ((with_reducible apply T_ret2); rfl; rfl; rfl)))
  by_cases hp : Lib.hasPrefix l [45] = true
  · obtain ⟨r, rfl⟩ : ∃ r, l = 45 :: r := by
      cases l with
      | nil => simp [Lib.hasPrefix] at hp
      | cons c r => simp [Lib.hasPrefix] at hp; exact ⟨r, by rw [← hp]⟩
    have hle := numD_le (most := 9223372036854775808) (l := r)
    ((with_reducible apply E_call); rfl; (first | exact cut_spec _ _ r true (by simp [Lib.trimPrefix, Lib.hasPrefix]) hp _ | (apply Spec.arr (cut_spec _ _ r true (by simp [Lib.trimPrefix, Lib.hasPrefix]) hp _); (repeat (first | (with_reducible exact Arr.nil) | (with_reducible apply Arr.cons) | (with_reducible exact Pick.here) | (with_reducible apply Pick.there))))); rfl; rintro _ _ ⟨rfl, rfl⟩)
    (repeat' (first | (with_reducible apply T_seq) | (with_reducible apply T_region) | (with_reducible apply T_nil) | (with_reducible apply T_then) | (with_reducible apply T_then_ret) | (with_reducible apply T_skip) | (with_reducible apply T_ret) | ((with_reducible apply T_true); rfl) | ((with_reducible apply T_false); rfl) | ((with_reducible apply T_cond); rfl) | ((with_reducible apply T_on); rfl; rfl) | ((with_reducible apply T_off); rfl; rfl; rfl) | ((with_reducible apply T_off0); rfl; rfl) | ((with_reducible apply T_cmp); ((with_reducible apply y_gtr); rfl; rfl); rfl) | ((with_reducible apply T_y); (first | ((with_reducible apply y_move); rfl) | ((with_reducible apply y_assign); rfl) | ((with_reducible apply y_extract); rfl; rfl) | ((with_reducible apply y_pick_t); rfl; rfl) | ((with_reducible apply y_pick_f); rfl; rfl) | ((with_reducible apply y_conv); rfl; (first | exact wrap_i64_as (by with_reducible assumption) (by omega) (by omega) | exact wrap_i64 (by omega) (by omega) | exact wrap_u64 (by omega) (by omega) | exact wrap_u32 (by omega) (by omega) | exact wrap_u8 (by omega) (by omega) | rfl)) | ((with_reducible apply y_not); rfl) | ((with_reducible apply y_neg); rfl; (first | exact wrap_i64_as (by with_reducible assumption) (by omega) (by omega) | exact wrap_i64 (by omega) (by omega) | exact wrap_u64 (by omega) (by omega) | exact wrap_u32 (by omega) (by omega) | exact wrap_u8 (by omega) (by omega) | rfl))); rfl) | (intro _; exfalso; first | omega | contradiction) | (intro _) | ((with_reducible apply T_ret2); rfl; rfl; rfl)))
    ((with_reducible apply E_call); rfl; (first | exact number_spec _ r 9223372036854775808 _ rfl (by simp at hn; omega) (by decide) _ | (apply Spec.arr (number_spec _ r 9223372036854775808 _ rfl (by simp at hn; omega) (by decide) _); (repeat (first | (with_reducible exact Arr.nil) | (with_reducible apply Arr.cons) | (with_reducible exact Pick.here) | (with_reducible apply Pick.there))))); rfl; rintro _ _ ⟨rfl, rfl⟩)
    (repeat' (first | (with_reducible apply T_seq) | (with_reducible apply T_region) | (with_reducible apply T_nil) | (with_reducible apply T_then) | (with_reducible apply T_then_ret) | (with_reducible apply T_skip) | (with_reducible apply T_ret) | ((with_reducible apply T_true); rfl) | ((with_reducible apply T_false); rfl) | ((with_reducible apply T_cond); rfl) | ((with_reducible apply T_on); rfl; rfl) | ((with_reducible apply T_off); rfl; rfl; rfl) | ((with_reducible apply T_off0); rfl; rfl) | ((with_reducible apply T_cmp); ((with_reducible apply y_gtr); rfl; rfl); rfl) | ((with_reducible apply T_y); (first | ((with_reducible apply y_move); rfl) | ((with_reducible apply y_assign); rfl) | ((with_reducible apply y_extract); rfl; rfl) | ((with_reducible apply y_pick_t); rfl; rfl) | ((with_reducible apply y_pick_f); rfl; rfl) | ((with_reducible apply y_conv); rfl; (first | exact wrap_i64_as (by with_reducible assumption) (by omega) (by omega) | exact wrap_i64 (by omega) (by omega) | exact wrap_u64 (by omega) (by omega) | exact wrap_u32 (by omega) (by omega) | exact wrap_u8 (by omega) (by omega) | rfl)) | ((with_reducible apply y_not); rfl) | ((with_reducible apply y_neg); rfl; (first | exact wrap_i64_as (by with_reducible assumption) (by omega) (by omega) | exact wrap_i64 (by omega) (by omega) | exact wrap_u64 (by omega) (by omega) | exact wrap_u32 (by omega) (by omega) | exact wrap_u8 (by omega) (by omega) | rfl))); rfl) | (intro _; exfalso; first | omega | contradiction) | (intro _) | ((with_reducible apply T_ret2); rfl; rfl; rfl)))
    cases hq : numL 9223372036854775808 r with
    | none =>
      have hw : wholeP (45 :: r) = none := by rw [wholeP_minus, hq]
      rw [hw]
      simp only [optN, Option.getD_none, Option.isSome_none]
      (repeat' (first | (with_reducible apply T_seq) | (with_reducible apply T_region) | (with_reducible apply T_nil) | (with_reducible apply T_then) | (with_reducible apply T_then_ret) | (with_reducible apply T_skip) | (with_reducible apply T_ret) | ((with_reducible apply T_true); rfl) | ((with_reducible apply T_false); rfl) | ((with_reducible apply T_cond); rfl) | ((with_reducible apply T_on); rfl; rfl) | ((with_reducible apply T_off); rfl; rfl; rfl) | ((with_reducible apply T_off0); rfl; rfl) | ((with_reducible apply T_cmp); ((with_reducible apply y_gtr); rfl; rfl); rfl) | ((with_reducible apply T_y); (first | ((with_reducible apply y_move); rfl) | ((with_reducible apply y_assign); rfl) | ((with_reducible apply y_extract); rfl; rfl) | ((with_reducible apply y_pick_t); rfl; rfl) | ((with_reducible apply y_pick_f); rfl; rfl) | ((with_reducible apply y_conv); rfl; (first | exact wrap_i64_as (by with_reducible assumption) (by omega) (by omega) | exact wrap_i64 (by omega) (by omega) | exact wrap_u64 (by omega) (by omega) | exact wrap_u32 (by omega) (by omega) | exact wrap_u8 (by omega) (by omega) | rfl)) | ((with_reducible apply y_not); rfl) | ((with_reducible apply y_neg); rfl; (first | exact wrap_i64_as (by with_reducible assumption) (by omega) (by omega) | exact wrap_i64 (by omega) (by omega) | exact wrap_u64 (by omega) (by omega) | exact wrap_u32 (by omega) (by omega) | exact wrap_u8 (by omega) (by omega) | rfl))); rfl) | (intro _; exfalso; first | omega | contradiction) | (intro _) | ((with_reducible apply T_ret2); rfl; rfl; rfl)))
      all_goals first
        | exact ⟨⟨_, rfl, fun _ h => by cases h⟩, rfl⟩
        | (repeat (first | (with_reducible exact Incl.refl) | (with_reducible exact Incl.nil) | (with_reducible apply Incl.empty) | ((with_reducible apply Incl.cons); (repeat (first | (with_reducible exact Pick.here) | (with_reducible apply Pick.there)))) | (with_reducible apply Incl.skip)))
    | some n =>
      have hle' := numL_le hq
      have hcn := conv_neg hle'
      simp only [optN, Option.getD_some, Option.isSome_some]
      by_cases h0 : 0 < n
      · have hw : wholeP (45 :: r) = some (-(n : Int)) := by rw [wholeP_minus, hq]; exact if_pos h0
        rw [hw]
        (repeat' (first | (with_reducible apply T_seq) | (with_reducible apply T_region) | (with_reducible apply T_nil) | (with_reducible apply T_then) | (with_reducible apply T_then_ret) | (with_reducible apply T_skip) | (with_reducible apply T_ret) | ((with_reducible apply T_true); rfl) | ((with_reducible apply T_false); rfl) | ((with_reducible apply T_cond); rfl) | ((with_reducible apply T_on); rfl; rfl) | ((with_reducible apply T_off); rfl; rfl; rfl) | ((with_reducible apply T_off0); rfl; rfl) | ((with_reducible apply T_cmp); ((with_reducible apply y_gtr); rfl; rfl); rfl) | ((with_reducible apply T_y); (first | ((with_reducible apply y_move); rfl) | ((with_reducible apply y_assign); rfl) | ((with_reducible apply y_extract); rfl; rfl) | ((with_reducible apply y_pick_t); rfl; rfl) | ((with_reducible apply y_pick_f); rfl; rfl) | ((with_reducible apply y_conv); rfl; (first | exact wrap_i64_as (by with_reducible assumption) (by omega) (by omega) | exact wrap_i64 (by omega) (by omega) | exact wrap_u64 (by omega) (by omega) | exact wrap_u32 (by omega) (by omega) | exact wrap_u8 (by omega) (by omega) | rfl)) | ((with_reducible apply y_not); rfl) | ((with_reducible apply y_neg); rfl; (first | exact wrap_i64_as (by with_reducible assumption) (by omega) (by omega) | exact wrap_i64 (by omega) (by omega) | exact wrap_u64 (by omega) (by omega) | exact wrap_u32 (by omega) (by omega) | exact wrap_u8 (by omega) (by omega) | rfl))); rfl) | (intro _; exfalso; first | omega | contradiction) | (intro _) | ((with_reducible apply T_ret2); rfl; rfl; rfl)))
        all_goals first
          | (exfalso; omega)
          | exact ⟨⟨_, rfl, fun _ h => by cases h; exact hcn⟩, rfl⟩
          | (repeat (first | (with_reducible exact Incl.refl) | (with_reducible exact Incl.nil) | (with_reducible apply Incl.empty) | ((with_reducible apply Incl.cons); (repeat (first | (with_reducible exact Pick.here) | (with_reducible apply Pick.there)))) | (with_reducible apply Incl.skip)))
      · have hw : wholeP (45 :: r) = none := by rw [wholeP_minus, hq]; exact if_neg h0
        rw [hw]
        (repeat' (first | (with_reducible apply T_seq) | (with_reducible apply T_region) | (with_reducible apply T_nil) | (with_reducible apply T_then) | (with_reducible apply T_then_ret) | (with_reducible apply T_skip) | (with_reducible apply T_ret) | ((with_reducible apply T_true); rfl) | ((with_reducible apply T_false); rfl) | ((with_reducible apply T_cond); rfl) | ((with_reducible apply T_on); rfl; rfl) | ((with_reducible apply T_off); rfl; rfl; rfl) | ((with_reducible apply T_off0); rfl; rfl) | ((with_reducible apply T_cmp); ((with_reducible apply y_gtr); rfl; rfl); rfl) | ((with_reducible apply T_y); (first | ((with_reducible apply y_move); rfl) | ((with_reducible apply y_assign); rfl) | ((with_reducible apply y_extract); rfl; rfl) | ((with_reducible apply y_pick_t); rfl; rfl) | ((with_reducible apply y_pick_f); rfl; rfl) | ((with_reducible apply y_conv); rfl; (first | exact wrap_i64_as (by with_reducible assumption) (by omega) (by omega) | exact wrap_i64 (by omega) (by omega) | exact wrap_u64 (by omega) (by omega) | exact wrap_u32 (by omega) (by omega) | exact wrap_u8 (by omega) (by omega) | rfl)) | ((with_reducible apply y_not); rfl) | ((with_reducible apply y_neg); rfl; (first | exact wrap_i64_as (by with_reducible assumption) (by omega) (by omega) | exact wrap_i64 (by omega) (by omega) | exact wrap_u64 (by omega) (by omega) | exact wrap_u32 (by omega) (by omega) | exact wrap_u8 (by omega) (by omega) | rfl))); rfl) | (intro _; exfalso; first | omega | contradiction) | (intro _) | ((with_reducible apply T_ret2); rfl; rfl; rfl)))
        all_goals first
          | (exfalso; omega)
          | exact ⟨⟨_, rfl, fun _ h => by cases h⟩, rfl⟩
          | (repeat (first | (with_reducible exact Incl.refl) | (with_reducible exact Incl.nil) | (with_reducible apply Incl.empty) | ((with_reducible apply Incl.cons); (repeat (first | (with_reducible exact Pick.here) | (with_reducible apply Pick.there)))) | (with_reducible apply Incl.skip)))
  · have hp : Lib.hasPrefix l [45] = false := by simpa using hp
    have hle := numD_le (most := 9223372036854775807) (l := l)
    ((with_reducible apply E_call); rfl; (first | exact cut_spec _ _ l false (by simp [Lib.trimPrefix, hp]) hp _ | (apply Spec.arr (cut_spec _ _ l false (by simp [Lib.trimPrefix, hp]) hp _); (repeat (first | (with_reducible exact Arr.nil) | (with_reducible apply Arr.cons) | (with_reducible exact Pick.here) | (with_reducible apply Pick.there))))); rfl; rintro _ _ ⟨rfl, rfl⟩)
    (repeat' (first | (with_reducible apply T_seq) | (with_reducible apply T_region) | (with_reducible apply T_nil) | (with_reducible apply T_then) | (with_reducible apply T_then_ret) | (with_reducible apply T_skip) | (with_reducible apply T_ret) | ((with_reducible apply T_true); rfl) | ((with_reducible apply T_false); rfl) | ((with_reducible apply T_cond); rfl) | ((with_reducible apply T_on); rfl; rfl) | ((with_reducible apply T_off); rfl; rfl; rfl) | ((with_reducible apply T_off0); rfl; rfl) | ((with_reducible apply T_cmp); ((with_reducible apply y_gtr); rfl; rfl); rfl) | ((with_reducible apply T_y); (first | ((with_reducible apply y_move); rfl) | ((with_reducible apply y_assign); rfl) | ((with_reducible apply y_extract); rfl; rfl) | ((with_reducible apply y_pick_t); rfl; rfl) | ((with_reducible apply y_pick_f); rfl; rfl) | ((with_reducible apply y_conv); rfl; (first | exact wrap_i64_as (by with_reducible assumption) (by omega) (by omega) | exact wrap_i64 (by omega) (by omega) | exact wrap_u64 (by omega) (by omega) | exact wrap_u32 (by omega) (by omega) | exact wrap_u8 (by omega) (by omega) | rfl)) | ((with_reducible apply y_not); rfl) | ((with_reducible apply y_neg); rfl; (first | exact wrap_i64_as (by with_reducible assumption) (by omega) (by omega) | exact wrap_i64 (by omega) (by omega) | exact wrap_u64 (by omega) (by omega) | exact wrap_u32 (by omega) (by omega) | exact wrap_u8 (by omega) (by omega) | rfl))); rfl) | (intro _; exfalso; first | omega | contradiction) | (intro _) | ((with_reducible apply T_ret2); rfl; rfl; rfl)))
    ((with_reducible apply E_call); rfl; (first | exact number_spec _ l 9223372036854775807 _ rfl hn (by decide) _ | (apply Spec.arr (number_spec _ l 9223372036854775807 _ rfl hn (by decide) _); (repeat (first | (with_reducible exact Arr.nil) | (with_reducible apply Arr.cons) | (with_reducible exact Pick.here) | (with_reducible apply Pick.there))))); rfl; rintro _ _ ⟨rfl, rfl⟩)
    rw [wholeP_else l hp]
    cases hq : numL 9223372036854775807 l with
    | none =>
      simp only [optN, Option.getD_none, Option.isSome_none, Option.map_none]
      (repeat' (first | (with_reducible apply T_seq) | (with_reducible apply T_region) | (with_reducible apply T_nil) | (with_reducible apply T_then) | (with_reducible apply T_then_ret) | (with_reducible apply T_skip) | (with_reducible apply T_ret) | ((with_reducible apply T_true); rfl) | ((with_reducible apply T_false); rfl) | ((with_reducible apply T_cond); rfl) | ((with_reducible apply T_on); rfl; rfl) | ((with_reducible apply T_off); rfl; rfl; rfl) | ((with_reducible apply T_off0); rfl; rfl) | ((with_reducible apply T_cmp); ((with_reducible apply y_gtr); rfl; rfl); rfl) | ((with_reducible apply T_y); (first | ((with_reducible apply y_move); rfl) | ((with_reducible apply y_assign); rfl) | ((with_reducible apply y_extract); rfl; rfl) | ((with_reducible apply y_pick_t); rfl; rfl) | ((with_reducible apply y_pick_f); rfl; rfl) | ((with_reducible apply y_conv); rfl; (first | exact wrap_i64_as (by with_reducible assumption) (by omega) (by omega) | exact wrap_i64 (by omega) (by omega) | exact wrap_u64 (by omega) (by omega) | exact wrap_u32 (by omega) (by omega) | exact wrap_u8 (by omega) (by omega) | rfl)) | ((with_reducible apply y_not); rfl) | ((with_reducible apply y_neg); rfl; (first | exact wrap_i64_as (by with_reducible assumption) (by omega) (by omega) | exact wrap_i64 (by omega) (by omega) | exact wrap_u64 (by omega) (by omega) | exact wrap_u32 (by omega) (by omega) | exact wrap_u8 (by omega) (by omega) | rfl))); rfl) | (intro _; exfalso; first | omega | contradiction) | (intro _) | ((with_reducible apply T_ret2); rfl; rfl; rfl)))
      all_goals first
        | exact ⟨⟨_, rfl, fun _ h => by cases h⟩, rfl⟩
        | (repeat (first | (with_reducible exact Incl.refl) | (with_reducible exact Incl.nil) | (with_reducible apply Incl.empty) | ((with_reducible apply Incl.cons); (repeat (first | (with_reducible exact Pick.here) | (with_reducible apply Pick.there)))) | (with_reducible apply Incl.skip)))
    | some n =>
      have hle' := numL_le hq
      have hcu := conv_u64 (n := n) (by omega)
      simp only [optN, Option.getD_some, Option.isSome_some, Option.map_some]
      (repeat' (first | (with_reducible apply T_seq) | (with_reducible apply T_region) | (with_reducible apply T_nil) | (with_reducible apply T_then) | (with_reducible apply T_then_ret) | (with_reducible apply T_skip) | (with_reducible apply T_ret) | ((with_reducible apply T_true); rfl) | ((with_reducible apply T_false); rfl) | ((with_reducible apply T_cond); rfl) | ((with_reducible apply T_on); rfl; rfl) | ((with_reducible apply T_off); rfl; rfl; rfl) | ((with_reducible apply T_off0); rfl; rfl) | ((with_reducible apply T_cmp); ((with_reducible apply y_gtr); rfl; rfl); rfl) | ((with_reducible apply T_y); (first | ((with_reducible apply y_move); rfl) | ((with_reducible apply y_assign); rfl) | ((with_reducible apply y_extract); rfl; rfl) | ((with_reducible apply y_pick_t); rfl; rfl) | ((with_reducible apply y_pick_f); rfl; rfl) | ((with_reducible apply y_conv); rfl; (first | exact wrap_i64_as (by with_reducible assumption) (by omega) (by omega) | exact wrap_i64 (by omega) (by omega) | exact wrap_u64 (by omega) (by omega) | exact wrap_u32 (by omega) (by omega) | exact wrap_u8 (by omega) (by omega) | rfl)) | ((with_reducible apply y_not); rfl) | ((with_reducible apply y_neg); rfl; (first | exact wrap_i64_as (by with_reducible assumption) (by omega) (by omega) | exact wrap_i64 (by omega) (by omega) | exact wrap_u64 (by omega) (by omega) | exact wrap_u32 (by omega) (by omega) | exact wrap_u8 (by omega) (by omega) | rfl))); rfl) | (intro _; exfalso; first | omega | contradiction) | (intro _) | ((with_reducible apply T_ret2); rfl; rfl; rfl)))
      all_goals first
        | exact ⟨⟨_, rfl, fun _ h => by cases h; rfl⟩, rfl⟩
        | (repeat (first | (with_reducible exact Incl.refl) | (with_reducible exact Incl.nil) | (with_reducible apply Incl.empty) | ((with_reducible apply Incl.cons); (repeat (first | (with_reducible exact Pick.here) | (with_reducible apply Pick.there)))) | (with_reducible apply Incl.skip)))
end Go.Proofs.YtgolmieejhohdaaDoor.Sl
