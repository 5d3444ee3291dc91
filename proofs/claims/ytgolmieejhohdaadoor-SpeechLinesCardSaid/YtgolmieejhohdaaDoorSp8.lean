import Derived.Test.YtgolmieejhohdaaDoorSp7
namespace Go.Proofs.YtgolmieejhohdaaDoor.Sl
open Go.RowKit
set_option linter.unusedVariables false
set_option linter.unusedSimpArgs false
set_option maxRecDepth 100000
attribute [local irreducible] T TA Acts Spec Yld Eff Sto

/-- a text cut at each byte of one kind -/
def cutAt (c : UInt8) : List UInt8 → List (List UInt8)
  | [] => [[]]
  | x :: r => if x = c then [] :: cutAt c r else match cutAt c r with
    | [] => [[x]]
    | h :: t => (x :: h) :: t
theorem cutAt_ne (c : UInt8) : ∀ l, cutAt c l ≠ []
  | [] => by simp [cutAt]
  | x :: r => by
    unfold cutAt; split
    · simp
    · split <;> simp

theorem splitK_zero (sep : List UInt8) (v : Nat) (s : List UInt8) : Lib.splitK sep v 0 s = [s] := rfl
theorem splitK_miss {sep : List UInt8} {v k : Nat} {s : List UInt8} (h : Lib.index s sep = -1) : Lib.splitK sep v k s = [s] := by
  cases k with
  | zero => rfl
  | succ k => unfold Lib.splitK; rw [if_pos (beq_iff_eq.2 h)]
theorem splitK_hit {sep : List UInt8} {v k i : Nat} {s : List UInt8} (h : Lib.index s sep = i) : Lib.splitK sep v (k + 1) s = s.take (i + v) :: Lib.splitK sep v k (s.drop (i + sep.length)) := by
  conv => lhs; unfold Lib.splitK
  rw [if_neg (by rw [h]; intro e; have := beq_iff_eq.1 e; omega), h]
  rfl

theorem splitK_cutAt (c : UInt8) : ∀ (s : List UInt8) (k : Nat), s.count c ≤ k → Lib.splitK [c] 0 k s = cutAt c s
  | [], k, _ => by rw [splitK_miss (by simp [Lib.index])]; rfl
  | b :: l, k, hk => by
    by_cases h : b = c
    · subst h
      have hix : Lib.index (b :: l) [b] = ((0 : Nat) : Int) := by rw [Lib.index]; simp [List.isPrefixOf]
      obtain ⟨k', rfl⟩ : ∃ k', k = k' + 1 := ⟨k - 1, by have := List.count_cons_self (a := b) (l := l); omega⟩
      rw [splitK_hit hix, cutAt, if_pos rfl]
      simp only [List.take_zero, Nat.zero_add, List.length_cons, List.length_nil, List.drop_succ_cons, List.drop_zero]
      rw [splitK_cutAt b l k' (by have := List.count_cons_self (a := b) (l := l); omega)]
    · have hp : ([c] : List UInt8).isPrefixOf (b :: l) = false := by simp [List.isPrefixOf, Ne.symm h]
      have hix : Lib.index (b :: l) [c] = if Lib.index l [c] == -1 then -1 else Lib.index l [c] + 1 := by rw [Lib.index, hp]; simp
      have hcnt : (b :: l).count c = l.count c := List.count_cons_of_ne (by simpa using h)
      have ih := splitK_cutAt c l k (by omega)
      rw [cutAt, if_neg h]
      by_cases hm : Lib.index l [c] = -1
      · rw [splitK_miss (by rw [hix, if_pos (beq_iff_eq.2 hm)])]
        rw [splitK_miss hm] at ih
        rw [← ih]
      · have hge := Lib.index_ge l [c]
        obtain ⟨j, hj⟩ : ∃ j : Nat, Lib.index l [c] = j := ⟨(Lib.index l [c]).toNat, by omega⟩
        have hix' : Lib.index (b :: l) [c] = ((j + 1 : Nat) : Int) := by rw [hix, if_neg (fun e => hm (beq_iff_eq.1 e)), hj]; omega
        have hpos : 0 < l.count c := by
          have h1 := Lib.count_one c l
          rw [← h1, Lib.count_hit (by simp) hj]; omega
        obtain ⟨k', rfl⟩ : ∃ k', k = k' + 1 := ⟨k - 1, by omega⟩
        rw [splitK_hit hix']
        rw [splitK_hit hj] at ih
        rw [← ih]
        simp

/-- the world keeps the number that strings.Split asks for -/
def Glob (F : Hp) : Prop := ∃ m arr E fz, arr[0]? = some (Value.int .i64 m) ∧ (0, Obj.cells arr E fz) ∈ F.flatten
theorem Glob.cons {F : Hp} (C : List Blk) (h : Glob F) : Glob (C :: F) := by
  obtain ⟨m, arr, E, fz, h1, h2⟩ := h
  exact ⟨m, arr, E, fz, h1, by rw [List.flatten_cons]; exact List.mem_append_right _ h2⟩

theorem cutAt_len (c : UInt8) : ∀ l x, x ∈ cutAt c l → x.length ≤ l.length
  | [], x, h => by simp [cutAt] at h; simp [h]
  | y :: r, x, h => by
    unfold cutAt at h
    split at h
    · rcases List.mem_cons.1 h with h | h
      · simp [h]
      · have := cutAt_len c r x h; simp; omega
    · split at h
      · simp at h; simp [h]
      · rename_i hd tl e
        rcases List.mem_cons.1 h with h | h
        · have := cutAt_len c r hd (by rw [e]; simp); rw [h]; simp; omega
        · have := cutAt_len c r x (by rw [e]; simp [h]); simp; omega
theorem cutAt_length (c : UInt8) : ∀ l, (cutAt c l).length ≤ l.length + 1
  | [] => by simp [cutAt]
  | y :: r => by
    have := cutAt_length c r
    unfold cutAt
    split
    · simp; omega
    · split
      · simp
      · rename_i e; rw [e] at this; simp at this ⊢; omega

theorem split_spec (σ : World) (l : List UInt8) (c : UInt8) (hn : l.length ≤ 100000) (F : Hp) (hG : Glob F) :
    Spec Tryd.prog σ 20 [.string (bs l), .string ⟨#[c]⟩] F fun v H' => ∃ b, v = .slice (some ⟨b, 0, none⟩) (cutAt c l).length (cutAt c l).length ∧ H' = [(b, .cells ((cutAt c l).map str).toArray 9 (0, 0))] :: F := by
  unfold Spec
  intro w st
  obtain ⟨m, arr, E, fz, h1, h2⟩ := hG
  have hcell : w.cell? ⟨0, 0, none⟩ = some (.int .i64 m) := by
    have hb := st.has _ h2
    simp only [World.cell?, hb]
    exact h1
  have hsz := bs_size l
  have hp := Lib.splitB_data ⟨#[c]⟩ 0 (Lib.countB (bs l) ⟨#[c]⟩) (bs l)
  have hk : Lib.splitK [c] 0 (Lib.countB (bs l) ⟨#[c]⟩) l = cutAt c l := splitK_cutAt c l _ (by
    have := Lib.count_one c l
    show l.count c ≤ Lib.count l [c]
    omega)
  have hp' : (Lib.splitB ⟨#[c]⟩ 0 (Lib.countB (bs l) ⟨#[c]⟩) (bs l)).map (·.data.toList) = cutAt c l := hp.trans hk
  have hlen : (Lib.splitB ⟨#[c]⟩ 0 (Lib.countB (bs l) ⟨#[c]⟩) (bs l)).length = Lib.countB (bs l) ⟨#[c]⟩ + 1 := Lib.splitB_all ⟨#[c]⟩ (Nat.le_refl 1) _ _ _ rfl
  have hlen' : (cutAt c l).length = Lib.countB (bs l) ⟨#[c]⟩ + 1 := by rw [← hp', List.length_map, hlen]
  refine (Tryd.strings_Split (bs l) ⟨#[c]⟩ m w (by omega) hcell (Nat.le_refl 1)).mono ?_
  rintro e w' ⟨rfl, rfl⟩
  refine ⟨_, _, rfl, ⟨w.heap.size, by rw [hlen'], rfl⟩, ?_⟩
  have e2 : ((cutAt c l).map str) = (Lib.splitB ⟨#[c]⟩ 0 (Lib.countB (bs l) ⟨#[c]⟩) (bs l)).map Value.string := by
    rw [← hp', List.map_map]; rfl
  rw [e2]
  exact st.new _

/-- the words of kinds, and the fields that each has -/
def verbsL : List (List UInt8) := [[], [112, 117, 116], [103, 101, 116], [100, 101, 108], [114, 101, 99, 116], [99, 111, 117, 110, 116], [115, 97, 118, 101], [98, 97, 99, 107], [99, 111, 109, 109, 105, 116], [97, 98, 111, 114, 116]]
def formsL : List (List UInt8) := [[], [107, 120, 121, 118], [107], [107], [119], [119], [110], [110], [], []]
theorem verbs_spec (σ : World) (F : Hp) : Spec Tryd.prog σ 13 [] F fun v H' => v = .agg (verbsL.map str).toArray ∧ H' = F := by
  refine Spec_intro Tryd.func13 rfl Tryd.ntmps13 rfl ?_
  (repeat' (first | (with_reducible apply T_seq) | (with_reducible apply T_region) | (with_reducible apply T_nil) | (with_reducible apply T_then) | (with_reducible apply T_then_ret) | (with_reducible apply T_skip) | (with_reducible apply T_ret) | ((with_reducible apply T_y); fail; rfl) | ((with_reducible apply T_s); ((with_reducible apply s_store1); rfl; rfl; (repeat (first | (with_reducible exact Pick.here) | (with_reducible apply Pick.there))); (first | exact Nat.le_of_ble_eq_true rfl | assumption | omega | (simp; done)); (first | rfl | (simp; done)); rfl; ((try simp only [List.setIfInBounds_toArray, List.set_cons_zero, List.set_cons_succ, Nat.reduceAdd]); rfl))) | ((with_reducible apply T_s); ((with_reducible apply s_storeW); rfl; rfl; (repeat (first | (with_reducible exact Pick.here) | (with_reducible apply Pick.there))); rfl; rfl; rfl)) | ((with_reducible apply T_s); ((with_reducible apply s_storeN); rfl; rfl; (repeat (first | (with_reducible exact Pick.here) | (with_reducible apply Pick.there))); rfl; (first | exact Nat.le_of_ble_eq_true rfl | assumption | omega | (simp; done)); rfl; ((try simp only [setRange, List.setIfInBounds_toArray, List.set_cons_zero, List.set_cons_succ, Nat.reduceAdd]); rfl))) | (intro _; exfalso; first | omega | contradiction) | (intro _) | ((with_reducible apply T_retC); rfl; infer_instance; rfl; (repeat (first | (with_reducible exact InH.here) | (with_reducible apply InH.there))); (first | exact Nat.le_of_ble_eq_true rfl | assumption | omega | (simp; done)); (first | exact extract_all rfl | exact extract_all (by assumption) | ((try simp only [List.extract_toArray, List.extract, List.drop_succ_cons, List.drop_zero, List.take_succ_cons, List.take_zero, Nat.reduceAdd, Nat.reduceSub]); rfl)))))
  ((with_reducible apply T_e); (first | ((with_reducible apply e_alloc1); rfl) | (with_reducible apply e_allocA)); rfl; rintro _ _ ⟨b, rfl, rfl⟩)
  (repeat' (first | (with_reducible apply T_seq) | (with_reducible apply T_region) | (with_reducible apply T_nil) | (with_reducible apply T_then) | (with_reducible apply T_then_ret) | (with_reducible apply T_skip) | (with_reducible apply T_ret) | ((with_reducible apply T_y); fail; rfl) | ((with_reducible apply T_s); ((with_reducible apply s_store1); rfl; rfl; (repeat (first | (with_reducible exact Pick.here) | (with_reducible apply Pick.there))); (first | exact Nat.le_of_ble_eq_true rfl | assumption | omega | (simp; done)); (first | rfl | (simp; done)); rfl; ((try simp only [List.setIfInBounds_toArray, List.set_cons_zero, List.set_cons_succ, Nat.reduceAdd]); rfl))) | ((with_reducible apply T_s); ((with_reducible apply s_storeW); rfl; rfl; (repeat (first | (with_reducible exact Pick.here) | (with_reducible apply Pick.there))); rfl; rfl; rfl)) | ((with_reducible apply T_s); ((with_reducible apply s_storeN); rfl; rfl; (repeat (first | (with_reducible exact Pick.here) | (with_reducible apply Pick.there))); rfl; (first | exact Nat.le_of_ble_eq_true rfl | assumption | omega | (simp; done)); rfl; ((try simp only [setRange, List.setIfInBounds_toArray, List.set_cons_zero, List.set_cons_succ, Nat.reduceAdd]); rfl))) | (intro _; exfalso; first | omega | contradiction) | (intro _) | ((with_reducible apply T_retC); rfl; infer_instance; rfl; (repeat (first | (with_reducible exact InH.here) | (with_reducible apply InH.there))); (first | exact Nat.le_of_ble_eq_true rfl | assumption | omega | (simp; done)); (first | exact extract_all rfl | exact extract_all (by assumption) | ((try simp only [List.extract_toArray, List.extract, List.drop_succ_cons, List.drop_zero, List.take_succ_cons, List.take_zero, Nat.reduceAdd, Nat.reduceSub]); rfl)))))
  ((with_reducible apply T_y); (with_reducible apply y_buildA (vs := [(0, str []), (1, str [112, 117, 116]), (2, str [103, 101, 116]), (3, str [100, 101, 108]), (4, str [114, 101, 99, 116]), (5, str [99, 111, 117, 110, 116]), (6, str [115, 97, 118, 101]), (7, str [98, 97, 99, 107]), (8, str [99, 111, 109, 109, 105, 116]), (9, str [97, 98, 111, 114, 116])]) (cs := (verbsL.map str).toArray)); rfl; rfl; rfl; rfl)
  (repeat' (first | (with_reducible apply T_seq) | (with_reducible apply T_region) | (with_reducible apply T_nil) | (with_reducible apply T_then) | (with_reducible apply T_then_ret) | (with_reducible apply T_skip) | (with_reducible apply T_ret) | ((with_reducible apply T_y); fail; rfl) | ((with_reducible apply T_s); ((with_reducible apply s_store1); rfl; rfl; (repeat (first | (with_reducible exact Pick.here) | (with_reducible apply Pick.there))); (first | exact Nat.le_of_ble_eq_true rfl | assumption | omega | (simp; done)); (first | rfl | (simp; done)); rfl; ((try simp only [List.setIfInBounds_toArray, List.set_cons_zero, List.set_cons_succ, Nat.reduceAdd]); rfl))) | ((with_reducible apply T_s); ((with_reducible apply s_storeW); rfl; rfl; (repeat (first | (with_reducible exact Pick.here) | (with_reducible apply Pick.there))); rfl; rfl; rfl)) | ((with_reducible apply T_s); ((with_reducible apply s_storeN); rfl; rfl; (repeat (first | (with_reducible exact Pick.here) | (with_reducible apply Pick.there))); rfl; (first | exact Nat.le_of_ble_eq_true rfl | assumption | omega | (simp; done)); rfl; ((try simp only [setRange, List.setIfInBounds_toArray, List.set_cons_zero, List.set_cons_succ, Nat.reduceAdd]); rfl))) | (intro _; exfalso; first | omega | contradiction) | (intro _) | ((with_reducible apply T_retC); rfl; infer_instance; rfl; (repeat (first | (with_reducible exact InH.here) | (with_reducible apply InH.there))); (first | exact Nat.le_of_ble_eq_true rfl | assumption | omega | (simp; done)); (first | exact extract_all rfl | exact extract_all (by assumption) | ((try simp only [List.extract_toArray, List.extract, List.drop_succ_cons, List.drop_zero, List.take_succ_cons, List.take_zero, Nat.reduceAdd, Nat.reduceSub]); rfl)))))
  all_goals first
    | exact ⟨rfl, rfl⟩
    | (repeat (first | (with_reducible exact Incl.refl) | (with_reducible exact Incl.nil) | (with_reducible apply Incl.empty) | ((with_reducible apply Incl.cons); (repeat (first | (with_reducible exact Pick.here) | (with_reducible apply Pick.there)))) | (with_reducible apply Incl.skip)))

theorem forms_spec (σ : World) (F : Hp) : Spec Tryd.prog σ 14 [] F fun v H' => v = .agg (formsL.map str).toArray ∧ H' = F := by
  refine Spec_intro Tryd.func14 rfl Tryd.ntmps14 rfl ?_
  (repeat' (first | (with_reducible apply T_seq) | (with_reducible apply T_region) | (with_reducible apply T_nil) | (with_reducible apply T_then) | (with_reducible apply T_then_ret) | (with_reducible apply T_skip) | (with_reducible apply T_ret) | ((with_reducible apply T_y); fail; rfl) | ((with_reducible apply T_s); ((with_reducible apply s_store1); rfl; rfl; (repeat (first | (with_reducible exact Pick.here) | (with_reducible apply Pick.there))); (first | exact Nat.le_of_ble_eq_true rfl | assumption | omega | (simp; done)); (first | rfl | (simp; done)); rfl; ((try simp only [List.setIfInBounds_toArray, List.set_cons_zero, List.set_cons_succ, Nat.reduceAdd]); rfl))) | ((with_reducible apply T_s); ((with_reducible apply s_storeW); rfl; rfl; (repeat (first | (with_reducible exact Pick.here) | (with_reducible apply Pick.there))); rfl; rfl; rfl)) | ((with_reducible apply T_s); ((with_reducible apply s_storeN); rfl; rfl; (repeat (first | (with_reducible exact Pick.here) | (with_reducible apply Pick.there))); rfl; (first | exact Nat.le_of_ble_eq_true rfl | assumption | omega | (simp; done)); rfl; ((try simp only [setRange, List.setIfInBounds_toArray, List.set_cons_zero, List.set_cons_succ, Nat.reduceAdd]); rfl))) | (intro _; exfalso; first | omega | contradiction) | (intro _) | ((with_reducible apply T_retC); rfl; infer_instance; rfl; (repeat (first | (with_reducible exact InH.here) | (with_reducible apply InH.there))); (first | exact Nat.le_of_ble_eq_true rfl | assumption | omega | (simp; done)); (first | exact extract_all rfl | exact extract_all (by assumption) | ((try simp only [List.extract_toArray, List.extract, List.drop_succ_cons, List.drop_zero, List.take_succ_cons, List.take_zero, Nat.reduceAdd, Nat.reduceSub]); rfl)))))
  ((with_reducible apply T_e); (first | ((with_reducible apply e_alloc1); rfl) | (with_reducible apply e_allocA)); rfl; rintro _ _ ⟨b, rfl, rfl⟩)
  (repeat' (first | (with_reducible apply T_seq) | (with_reducible apply T_region) | (with_reducible apply T_nil) | (with_reducible apply T_then) | (with_reducible apply T_then_ret) | (with_reducible apply T_skip) | (with_reducible apply T_ret) | ((with_reducible apply T_y); fail; rfl) | ((with_reducible apply T_s); ((with_reducible apply s_store1); rfl; rfl; (repeat (first | (with_reducible exact Pick.here) | (with_reducible apply Pick.there))); (first | exact Nat.le_of_ble_eq_true rfl | assumption | omega | (simp; done)); (first | rfl | (simp; done)); rfl; ((try simp only [List.setIfInBounds_toArray, List.set_cons_zero, List.set_cons_succ, Nat.reduceAdd]); rfl))) | ((with_reducible apply T_s); ((with_reducible apply s_storeW); rfl; rfl; (repeat (first | (with_reducible exact Pick.here) | (with_reducible apply Pick.there))); rfl; rfl; rfl)) | ((with_reducible apply T_s); ((with_reducible apply s_storeN); rfl; rfl; (repeat (first | (with_reducible exact Pick.here) | (with_reducible apply Pick.there))); rfl; (first | exact Nat.le_of_ble_eq_true rfl | assumption | omega | (simp; done)); rfl; ((try simp only [setRange, List.setIfInBounds_toArray, List.set_cons_zero, List.set_cons_succ, Nat.reduceAdd]); rfl))) | (intro _; exfalso; first | omega | contradiction) | (intro _) | ((with_reducible apply T_retC); rfl; infer_instance; rfl; (repeat (first | (with_reducible exact InH.here) | (with_reducible apply InH.there))); (first | exact Nat.le_of_ble_eq_true rfl | assumption | omega | (simp; done)); (first | exact extract_all rfl | exact extract_all (by assumption) | ((try simp only [List.extract_toArray, List.extract, List.drop_succ_cons, List.drop_zero, List.take_succ_cons, List.take_zero, Nat.reduceAdd, Nat.reduceSub]); rfl)))))
  ((with_reducible apply T_y); (with_reducible apply y_buildA (vs := [(0, str []), (1, str [107, 120, 121, 118]), (2, str [107]), (3, str [107]), (4, str [119]), (5, str [119]), (6, str [110]), (7, str [110]), (8, str []), (9, str [])]) (cs := (formsL.map str).toArray)); rfl; rfl; rfl; rfl)
  (repeat' (first | (with_reducible apply T_seq) | (with_reducible apply T_region) | (with_reducible apply T_nil) | (with_reducible apply T_then) | (with_reducible apply T_then_ret) | (with_reducible apply T_skip) | (with_reducible apply T_ret) | ((with_reducible apply T_y); fail; rfl) | ((with_reducible apply T_s); ((with_reducible apply s_store1); rfl; rfl; (repeat (first | (with_reducible exact Pick.here) | (with_reducible apply Pick.there))); (first | exact Nat.le_of_ble_eq_true rfl | assumption | omega | (simp; done)); (first | rfl | (simp; done)); rfl; ((try simp only [List.setIfInBounds_toArray, List.set_cons_zero, List.set_cons_succ, Nat.reduceAdd]); rfl))) | ((with_reducible apply T_s); ((with_reducible apply s_storeW); rfl; rfl; (repeat (first | (with_reducible exact Pick.here) | (with_reducible apply Pick.there))); rfl; rfl; rfl)) | ((with_reducible apply T_s); ((with_reducible apply s_storeN); rfl; rfl; (repeat (first | (with_reducible exact Pick.here) | (with_reducible apply Pick.there))); rfl; (first | exact Nat.le_of_ble_eq_true rfl | assumption | omega | (simp; done)); rfl; ((try simp only [setRange, List.setIfInBounds_toArray, List.set_cons_zero, List.set_cons_succ, Nat.reduceAdd]); rfl))) | (intro _; exfalso; first | omega | contradiction) | (intro _) | ((with_reducible apply T_retC); rfl; infer_instance; rfl; (repeat (first | (with_reducible exact InH.here) | (with_reducible apply InH.there))); (first | exact Nat.le_of_ble_eq_true rfl | assumption | omega | (simp; done)); (first | exact extract_all rfl | exact extract_all (by assumption) | ((try simp only [List.extract_toArray, List.extract, List.drop_succ_cons, List.drop_zero, List.take_succ_cons, List.take_zero, Nat.reduceAdd, Nat.reduceSub]); rfl)))))
  all_goals first
    | exact ⟨rfl, rfl⟩
    | (repeat (first | (with_reducible exact Incl.refl) | (with_reducible exact Incl.nil) | (with_reducible apply Incl.empty) | ((with_reducible apply Incl.cons); (repeat (first | (with_reducible exact Pick.here) | (with_reducible apply Pick.there)))) | (with_reducible apply Incl.skip)))


/-- a whole number as a text -/
def wholeT (n : Int) : List UInt8 := if n < 0 then 45 :: dig n.natAbs else dig n.natAbs
theorem digits_spec2 (σ : World) (n : Nat) (x : Int) (hx : x = (n : Int)) (hn : n < 18446744073709551616) (F : Hp) : Spec Tryd.prog σ 15 [.int .u64 x] F fun v H' => v = str (dig n) ∧ H' = F := by
  subst hx; exact digits_spec σ n hn F
theorem neg_u (k : Nat) (h : k ≤ 9223372036854775808) (h0 : 0 < k) : IntKind.u64.wrap (-IntKind.u64.wrap (-(k : Int))) = (k : Int) := by
  simp only [IntKind.wrap, IntKind.bits, IntKind.signed, Bool.false_and, Bool.false_eq_true, if_false]
  omega
theorem ba_append (a b : List UInt8) : (⟨a.toArray⟩ : ByteArray) ++ ⟨b.toArray⟩ = ⟨(a ++ b).toArray⟩ := by
  apply ByteArray.ext; apply Array.ext'; simp
theorem whole_spec (σ : World) (n : Int) (h : -9223372036854775808 ≤ n) (h' : n < 9223372036854775808) (F : Hp) :
    Spec Tryd.prog σ 17 [.int .i64 n] F fun v H' => v = str (wholeT n) ∧ H' = F := by
  refine Spec_intro Tryd.func17 rfl Tryd.ntmps17 rfl ?_
  by_cases hn : n < 0
  · have e : wholeT n = 45 :: dig n.natAbs := if_pos hn
    have hc := neg_u n.natAbs (by omega) (by omega)
    rw [show -((n.natAbs : Nat) : Int) = n by omega] at hc
    (repeat' (first | (with_reducible apply T_seq) | (with_reducible apply T_region) | (with_reducible apply T_nil) | (with_reducible apply T_then) | (with_reducible apply T_then_ret) | (with_reducible apply T_skip) | (with_reducible apply T_ret) | ((with_reducible apply T_true); rfl) | ((with_reducible apply T_false); rfl) | ((with_reducible apply T_cond); rfl) | ((with_reducible apply T_cmp); ((with_reducible apply y_lss); rfl; rfl); rfl) | ((with_reducible apply T_y); (first | ((with_reducible apply y_move); rfl) | ((with_reducible apply y_assign); rfl) | ((with_reducible apply y_add); rfl; rfl; (first | exact wrap_i64_as (by with_reducible assumption) (by omega) (by omega) | exact wrap_i64 (by omega) (by omega) | exact wrap_u64 (by omega) (by omega) | exact wrap_u32 (by omega) (by omega) | exact wrap_u8 (by omega) (by omega) | rfl)) | ((with_reducible apply y_conv); rfl; (first | exact wrap_i64_as (by with_reducible assumption) (by omega) (by omega) | exact wrap_i64 (by omega) (by omega) | exact wrap_u64 (by omega) (by omega) | exact wrap_u32 (by omega) (by omega) | exact wrap_u8 (by omega) (by omega) | rfl)) | ((with_reducible apply y_neg); rfl; (first | exact wrap_i64_as (by with_reducible assumption) (by omega) (by omega) | exact wrap_i64 (by omega) (by omega) | exact wrap_u64 (by omega) (by omega) | exact wrap_u32 (by omega) (by omega) | exact wrap_u8 (by omega) (by omega) | rfl)) | ((with_reducible apply y_sadd); rfl; rfl; (first | omega | (simp only [ByteArray.size_append]; omega)))); rfl) | (intro _; exfalso; first | omega | contradiction) | (intro _) | ((with_reducible apply T_ret1); rfl; rfl)))
    all_goals first | (exfalso; omega) | skip
    ((with_reducible apply E_call); rfl; (first | exact digits_spec2 _ n.natAbs _ hc (by omega) _ | (apply Spec.arr (digits_spec2 _ n.natAbs _ hc (by omega) _); (repeat (first | (with_reducible exact Arr.nil) | (with_reducible apply Arr.cons) | (with_reducible exact Pick.here) | (with_reducible apply Pick.there))))); rfl; rintro _ _ ⟨rfl, rfl⟩)
    have hd : ByteArray.size ⟨(dig n.natAbs).toArray⟩ ≤ 20 := dig_len20 _ (by omega)
    have h1 : ByteArray.size ⟨#[45]⟩ = 1 := rfl
    (repeat' (first | (with_reducible apply T_seq) | (with_reducible apply T_region) | (with_reducible apply T_nil) | (with_reducible apply T_then) | (with_reducible apply T_then_ret) | (with_reducible apply T_skip) | (with_reducible apply T_ret) | ((with_reducible apply T_true); rfl) | ((with_reducible apply T_false); rfl) | ((with_reducible apply T_cond); rfl) | ((with_reducible apply T_cmp); ((with_reducible apply y_lss); rfl; rfl); rfl) | ((with_reducible apply T_y); (first | ((with_reducible apply y_move); rfl) | ((with_reducible apply y_assign); rfl) | ((with_reducible apply y_add); rfl; rfl; (first | exact wrap_i64_as (by with_reducible assumption) (by omega) (by omega) | exact wrap_i64 (by omega) (by omega) | exact wrap_u64 (by omega) (by omega) | exact wrap_u32 (by omega) (by omega) | exact wrap_u8 (by omega) (by omega) | rfl)) | ((with_reducible apply y_conv); rfl; (first | exact wrap_i64_as (by with_reducible assumption) (by omega) (by omega) | exact wrap_i64 (by omega) (by omega) | exact wrap_u64 (by omega) (by omega) | exact wrap_u32 (by omega) (by omega) | exact wrap_u8 (by omega) (by omega) | rfl)) | ((with_reducible apply y_neg); rfl; (first | exact wrap_i64_as (by with_reducible assumption) (by omega) (by omega) | exact wrap_i64 (by omega) (by omega) | exact wrap_u64 (by omega) (by omega) | exact wrap_u32 (by omega) (by omega) | exact wrap_u8 (by omega) (by omega) | rfl)) | ((with_reducible apply y_sadd); rfl; rfl; (first | omega | (simp only [ByteArray.size_append]; omega)))); rfl) | (intro _; exfalso; first | omega | contradiction) | (intro _) | ((with_reducible apply T_ret1); rfl; rfl)))
    all_goals first
      | exact ⟨by rw [e]; exact congrArg Value.string (ba_append [45] _), rfl⟩
      | (repeat (first | (with_reducible exact Incl.refl) | (with_reducible exact Incl.nil) | (with_reducible apply Incl.empty) | ((with_reducible apply Incl.cons); (repeat (first | (with_reducible exact Pick.here) | (with_reducible apply Pick.there)))) | (with_reducible apply Incl.skip)))
  · have e : wholeT n = dig n.natAbs := if_neg hn
    have hc : n = (n.natAbs : Int) := by omega
    (repeat' (first | (with_reducible apply T_seq) | (with_reducible apply T_region) | (with_reducible apply T_nil) | (with_reducible apply T_then) | (with_reducible apply T_then_ret) | (with_reducible apply T_skip) | (with_reducible apply T_ret) | ((with_reducible apply T_true); rfl) | ((with_reducible apply T_false); rfl) | ((with_reducible apply T_cond); rfl) | ((with_reducible apply T_cmp); ((with_reducible apply y_lss); rfl; rfl); rfl) | ((with_reducible apply T_y); (first | ((with_reducible apply y_move); rfl) | ((with_reducible apply y_assign); rfl) | ((with_reducible apply y_add); rfl; rfl; (first | exact wrap_i64_as (by with_reducible assumption) (by omega) (by omega) | exact wrap_i64 (by omega) (by omega) | exact wrap_u64 (by omega) (by omega) | exact wrap_u32 (by omega) (by omega) | exact wrap_u8 (by omega) (by omega) | rfl)) | ((with_reducible apply y_conv); rfl; (first | exact wrap_i64_as (by with_reducible assumption) (by omega) (by omega) | exact wrap_i64 (by omega) (by omega) | exact wrap_u64 (by omega) (by omega) | exact wrap_u32 (by omega) (by omega) | exact wrap_u8 (by omega) (by omega) | rfl)) | ((with_reducible apply y_neg); rfl; (first | exact wrap_i64_as (by with_reducible assumption) (by omega) (by omega) | exact wrap_i64 (by omega) (by omega) | exact wrap_u64 (by omega) (by omega) | exact wrap_u32 (by omega) (by omega) | exact wrap_u8 (by omega) (by omega) | rfl)) | ((with_reducible apply y_sadd); rfl; rfl; (first | omega | (simp only [ByteArray.size_append]; omega)))); rfl) | (intro _; exfalso; first | omega | contradiction) | (intro _) | ((with_reducible apply T_ret1); rfl; rfl)))
    all_goals first | (exfalso; omega) | skip
    ((with_reducible apply E_call); rfl; (first | exact digits_spec2 _ n.natAbs _ hc (by omega) _ | (apply Spec.arr (digits_spec2 _ n.natAbs _ hc (by omega) _); (repeat (first | (with_reducible exact Arr.nil) | (with_reducible apply Arr.cons) | (with_reducible exact Pick.here) | (with_reducible apply Pick.there))))); rfl; rintro _ _ ⟨rfl, rfl⟩)
    (repeat' (first | (with_reducible apply T_seq) | (with_reducible apply T_region) | (with_reducible apply T_nil) | (with_reducible apply T_then) | (with_reducible apply T_then_ret) | (with_reducible apply T_skip) | (with_reducible apply T_ret) | ((with_reducible apply T_true); rfl) | ((with_reducible apply T_false); rfl) | ((with_reducible apply T_cond); rfl) | ((with_reducible apply T_cmp); ((with_reducible apply y_lss); rfl; rfl); rfl) | ((with_reducible apply T_y); (first | ((with_reducible apply y_move); rfl) | ((with_reducible apply y_assign); rfl) | ((with_reducible apply y_add); rfl; rfl; (first | exact wrap_i64_as (by with_reducible assumption) (by omega) (by omega) | exact wrap_i64 (by omega) (by omega) | exact wrap_u64 (by omega) (by omega) | exact wrap_u32 (by omega) (by omega) | exact wrap_u8 (by omega) (by omega) | rfl)) | ((with_reducible apply y_conv); rfl; (first | exact wrap_i64_as (by with_reducible assumption) (by omega) (by omega) | exact wrap_i64 (by omega) (by omega) | exact wrap_u64 (by omega) (by omega) | exact wrap_u32 (by omega) (by omega) | exact wrap_u8 (by omega) (by omega) | rfl)) | ((with_reducible apply y_neg); rfl; (first | exact wrap_i64_as (by with_reducible assumption) (by omega) (by omega) | exact wrap_i64 (by omega) (by omega) | exact wrap_u64 (by omega) (by omega) | exact wrap_u32 (by omega) (by omega) | exact wrap_u8 (by omega) (by omega) | rfl)) | ((with_reducible apply y_sadd); rfl; rfl; (first | omega | (simp only [ByteArray.size_append]; omega)))); rfl) | (intro _; exfalso; first | omega | contradiction) | (intro _) | ((with_reducible apply T_ret1); rfl; rfl)))
    all_goals first
      | exact ⟨by rw [e], rfl⟩
      | (repeat (first | (with_reducible exact Incl.refl) | (with_reducible exact Incl.nil) | (with_reducible apply Incl.empty) | ((with_reducible apply Incl.cons); (repeat (first | (with_reducible exact Pick.here) | (with_reducible apply Pick.there)))) | (with_reducible apply Incl.skip)))
end Go.Proofs.YtgolmieejhohdaaDoor.Sl
