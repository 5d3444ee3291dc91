/-
  Slices: reslicing, a slice of a literal, append, bytes of a string and back.
-/
import Derived.Test.YtgolmieejhohdaaDoorFw4
import Derived.Laws.Slices
namespace Go.Proofs.YtgolmieejhohdaaDoor.Sl
open Go.RowKit
set_option autoImplicit false
set_option linter.unusedVariables false
set_option linter.unusedSimpArgs false

section
variable {P : Program} {σ : World} {L : Env} {H : Hp} {ty : TypeId}

/-! ### cells in a row -/
theorem run_cells {w : World} {b o m : Nat} {arr : Array Value} {E : TypeId} {fz : Nat × Nat} (hb : w.heap[b]? = some (.cells arr E fz)) (h : o + m ≤ arr.size) :
    (loadCells ⟨b, o, none⟩ m).run P w = .ok (arr.extract o (o + m)) w := by
  have := loadCellsFrom_run (P := P) w b o arr (fun j => by simp [World.cell?, hb]) m 0 #[] (by omega)
  simpa [loadCells] using this

/-- what an append's second argument reads as -/
inductive Src (sz : Nat) (H : Hp) : Value → List Value → Nat → Prop
  | none {c : Nat} : Src sz H (.slice none 0 c) [] 0
  | row {b o m cap : Nat} {arr : Array Value} {E : TypeId} {fz : Nat × Nat} {ys : List Value} (hi : InH b (.cells arr E fz) H) (h : o + m * sz ≤ arr.size) (hy : (arr.extract o (o + m * sz)).toList = ys) :
      Src sz H (.slice (some ⟨b, o, none⟩) m cap) ys m

/-- a slice of the call's own: its cells are xs, its block lies in the chunk C -/
inductive Own (E sz : Nat) : Value → List Value → List Blk → Prop
  | none : Own E sz (.slice none 0 0) [] []
  | row {b len cap : Nat} {arr : Array Value} {xs : List Value} (hl : xs.length = len * sz) (hc : arr.size = cap * sz) (hle : len ≤ cap) (hx : arr.toList.take (len * sz) = xs) :
      Own E sz (.slice (some ⟨b, 0, none⟩) len cap) xs [(b, .cells arr E (0, 0))]

theorem Src.run {sz m : Nat} {x : Value} {ys : List Value} {w : World} (h : Src sz H x ys m) (st : Sat σ H w) :
    (Builtin.lenOf x).run P w = .ok m w ∧ (Builtin.firstCells sz m x).run P w = .ok ys.toArray w := by
  cases h with
  | none => simp [Builtin.lenOf, Builtin.firstCells]
  | @row b o m cap arr E fz ys hi h hy =>
    refine ⟨by simp [Builtin.lenOf], ?_⟩
    simp only [Builtin.firstCells]
    rw [run_cells (P := P) (st.block hi) h]
    congr 1; apply Array.ext'; simpa using hy

theorem Src.len {sz m : Nat} {x : Value} {ys : List Value} (h : Src sz H x ys m) : ys.length = m * sz := by
  cases h with
  | none => simp
  | @row b o m cap arr E fz ys hi h hy =>
    rw [← hy]; simp; omega

theorem Src.mono {sz m : Nat} {x : Value} {ys : List Value} {H' : Hp} (h : Src sz H x ys m) (hm : ∀ b o, InH b o H → InH b o H') : Src sz H' x ys m := by
  cases h with
  | none => exact .none
  | row hi h hy => exact .row (hm _ _ hi) h hy

/-- the whole of a block -/
theorem src_whole {sz m b cap : Nat} {arr : Array Value} {E : TypeId} {fz : Nat × Nat} (hi : InH b (.cells arr E fz) H) (h : m * sz = arr.size) : Src sz H (.slice (some ⟨b, 0, none⟩) m cap) arr.toList m :=
  .row hi (by omega) (by rw [h]; simp)

theorem Own.cast {E sz : Nat} {v : Value} {xs ys : List Value} {C : List Blk} (h : Own E sz v xs C) (e : xs = ys) : Own E sz v ys C := e ▸ h

/-- a slice of one element -/
theorem own_one {E sz b : Nat} {arr : Array Value} (h : arr.size = sz) : Own E sz (.slice (some ⟨b, 0, none⟩) 1 1) arr.toList [(b, .cells arr E (0, 0))] :=
  .row (by simp [h]) (by simp [h]) (Nat.le_refl 1) (by rw [List.take_of_length_le (by simp [h])])
theorem own_all {E sz b len : Nat} {arr : Array Value} (h : arr.size = len * sz) : Own E sz (.slice (some ⟨b, 0, none⟩) len len) arr.toList [(b, .cells arr E (0, 0))] :=
  .row (by simp [h]) (by simp [h]) (Nat.le_refl _) (by rw [List.take_of_length_le (by simp [h])])

theorem take_setRange (o : Nat) (vs : List Value) : ∀ (arr : Array Value), o + vs.length ≤ arr.size → (setRange arr o vs).toList.take (o + vs.length) = arr.toList.take o ++ vs := by
  induction vs generalizing o with
  | nil => intro arr h; simp [setRange]
  | cons v r ih =>
    intro arr h
    simp only [List.length_cons] at h
    have := ih (o + 1) (arr.setIfInBounds o v) (by simp; omega)
    simp only [setRange, List.length_cons]
    rw [show o + (r.length + 1) = o + 1 + r.length from by omega, this]
    simp only [Array.toList_setIfInBounds]
    rw [List.take_succ_eq_append_getElem (by simp; omega)]
    have e : (arr.toList.set o v).take o = arr.toList.take o := by
      rw [List.take_set]; exact List.set_eq_of_length_le (by simp; omega)
    simp [e]

theorem setRange_whole (arr cs : Array Value) (h : cs.size = arr.size) : setRange arr 0 cs.toList = cs := by
  have h1 := take_setRange 0 cs.toList arr (by simp [h])
  apply Array.ext'
  have h2 : (setRange arr 0 cs.toList).toList.length = cs.toList.length := by simp [setRange_size, h]
  rw [Nat.zero_add, ← h2, List.take_length] at h1
  simpa using h1
theorem s_storeW {P : Program} {σ : World} {L : Env} {H : Hp} {ty : TypeId} {t sz : Nat} {x y : Operand} {b : Nat} {arr cs : Array Value} {E : TypeId} {R : Hp} [TAgg P t true sz] (hx : evo L x = some (.pointer (some ⟨b, 0, none⟩)))
    (hy : evo L y = some (.agg cs)) (hp : Pick [(b, .cells arr E (0, 0))] H R) (hs : cs.size = sz) (ho : arr.size = sz) (hv : cs.toList.all one = true) :
    Sto P σ L H (.store t x y) ty ([(b, .cells cs E (0, 0))] :: R) :=
  s_storeN hx hy hp hs (by omega) hv (setRange_whole arr cs (by omega))
theorem growBy_le (newLen : Nat) : ∀ (k c : Nat), c ≤ newLen → Builtin.growBy newLen k c ≤ 2 * newLen + 200
  | 0, c, h => by simp [Builtin.growBy]; omega
  | k + 1, c, h => by
    simp only [Builtin.growBy]
    split
    · omega
    · by_cases hc : c + (c + 768) / 4 ≤ newLen
      · exact growBy_le newLen k _ hc
      · cases k with
        | zero => simp only [Builtin.growBy]; omega
        | succ k => simp only [Builtin.growBy]; rw [if_pos (by omega)]; omega

theorem nextslicecap_le (need cap : Nat) (h : cap < need) : Builtin.nextslicecap need cap ≤ 2 * need + 200 := by
  unfold Builtin.nextslicecap
  split
  · omega
  · split
    · omega
    · exact growBy_le need 4 cap (by omega)

theorem cut_cap (need old : Nat) (E : TypeId) (t : Nat) : need ≤ (Question.appendCap need old E).cut t := by simp [Question.cut]

theorem zeroCells_size (z : Array Value) (m : Nat) : (Builtin.zeroCells z m).size = m * z.size := by simp [Builtin.zeroCells]

theorem run_choose_cap (w : World) (need old : Nat) (E : TypeId) : (choose (.appendCap need old E)).run P w = .ok ((Question.appendCap need old E).cut (w.tape w.drawn (.appendCap need old E))) { w with drawn := w.drawn + 1 } := by
  simp [choose, Sem.run, Question.forced]

/-- append to a slice of the call's own -/
theorem e_append {t t' e e' sz by_ m : Nat} {ag : Bool} {z : Value} {s x : Operand} {sv xv : Value} {xs ys : List Value} {C : List Blk} {R : Hp} [TSlice P t e] [TSlice P t' e'] [TAgg P e ag sz] [TBytes P e by_] [TZero P e z]
    (hs : evo L s = some sv) (hx : evo L x = some xv) (ho : Own e sz sv xs C) (hp : Pick C H R) (hsrc : Src sz R xv ys m) (hz : z.cells.size = sz) (h1 : ys.all one = true)
    (hb : by_ ≤ 4096) (hm : xs.length + ys.length + m ≤ 4294967296) (hsz : Nat.beq sz 0 = false) :
    Eff P σ L H (.call ⟨.builtin .append, #[s, x], #[t, t']⟩) ty fun v H' => ∃ C', Own e sz v (xs ++ ys) C' ∧ H' = C' :: R := fun ρ w hr st0 => by
  have st := st0.perm hp.perm
  have stR : Sat σ R w := by
    have := st.perm (List.perm_append_comm (l₁ := [C]) (l₂ := R)); exact this.left
  have hsz' : 0 < sz := by
    rcases Nat.eq_zero_or_pos sz with h | h
    · subst h; simp at hsz
    · exact h
  obtain ⟨hlen, hfirst⟩ := hsrc.run (P := P) stR
  have hyl := hsrc.len
  obtain ⟨ti, hti, hby⟩ := TBytes.bytes (P := P) (t := e) (b := by_)
  have hmle : m ≤ m * sz := Nat.le_mul_of_pos_right m hsz'
  cases ho with
  | none =>
    simp only [List.nil_append, List.length_nil] at *
    by_cases hm0 : m = 0
    · subst hm0
      have hy0 : ys = [] := by cases ys with
        | nil => rfl
        | cons a r => simp at hyl
      subst hy0
      refine ⟨.slice none 0 0, w, [] :: R, ?_, ⟨[], .none, rfl⟩, st⟩
      simp [opRun, execOp, resolve, invoke, builtin, Builtin.append_, hr s _ hs, hr x _ hx, run_underlying (TSlice.under (P := P) (t := t)) w, run_underlying (TSlice.under (P := P) (t := t')) w, TAgg.size (P := P) (t := e), hlen, hfirst]
    · have hcap := nextslicecap_le m 0 (by omega)
      have hbig : ¬ (2 ^ 48 < Builtin.nextslicecap m 0 * by_) := by
        have : Builtin.nextslicecap m 0 * by_ ≤ (2 * m + 200) * 4096 := Nat.mul_le_mul hcap hb
        omega
      obtain ⟨nc, hnc⟩ : ∃ nc, nc = (Question.appendCap m 0 e).cut (w.tape w.drawn (.appendCap m 0 e)) := ⟨_, rfl⟩
      have hge : m ≤ nc := hnc ▸ cut_cap m 0 e _
      have hfirst' : (Builtin.firstCells sz m xv).run P w.drew = .ok ys.toArray w.drew := (hsrc.run (P := P) (stR.drew)).2
      refine ⟨.slice (some ⟨w.heap.size, 0, none⟩) m nc, _, [(w.heap.size, .cells (ys.toArray ++ Builtin.zeroCells z.cells (nc - m)) e (0, 0))] :: R, ?_, ⟨_, ?_, rfl⟩, (stR.drew).new _⟩
      · have hm0' : ¬ m ≤ 0 := by omega
        have hmax : ¬ (9223372036854775807 < (m : Int) ∧ by_ = 0) := by omega
        have hi64 : IntKind.i64.max = 9223372036854775807 := rfl
        have hold2 : (Builtin.firstCells sz 0 (.slice none 0 0)).run P w.drew = .ok #[] w.drew := by simp [Builtin.firstCells]
        have hnc' : (Question.appendCap m 0 e).cut (w.tape w.drawn (.appendCap m 0 e)) = nc := hnc.symm
        have hfor : (Question.appendCap m 0 e).forced = false := rfl
        simp [opRun, execOp, resolve, invoke, builtin, Builtin.append_, hr s _ hs, hr x _ hx, run_underlying (TSlice.under (P := P) (t := t)) w, run_underlying (TSlice.under (P := P) (t := t')) w, TAgg.size (P := P) (t := e), hlen, hti, hby, hm0, hm0', hmax, hbig, hnc', hfor, hi64, hold2, hfirst', TZero.zero (P := P) (t := e), newRow, Nat.zero_add]
        rfl
      · refine .row hyl ?_ hge ?_
        · simp [zeroCells_size, hz, hyl]; rw [← Nat.add_mul]; congr 1; omega
        · simp [hyl]
  | @row b len cap arr xs hl hc hle hxs =>
    by_cases hroom : len + m ≤ cap
    · have hfit : len * sz + ys.length ≤ arr.size := by rw [hc, hyl, ← Nat.add_mul]; exact Nat.mul_le_mul_right sz hroom
      obtain ⟨w', hw', hs'⟩ := storeCells_run (P := P) (len * sz) ys 0 arr w st (by omega) (fun j _ _ => by simp) h1
      refine ⟨.slice (some ⟨b, 0, none⟩) (len + m) cap, w', [(b, .cells (setRange arr (len * sz) ys) e (0, 0))] :: R, ?_, ⟨_, ?_, rfl⟩, by simpa using hs'⟩
      · have hadd : (⟨b, 0, none⟩ : Addr).add (len * sz) = ⟨b, len * sz, none⟩ := by unfold Addr.add; split <;> simp_all
        simp [opRun, execOp, resolve, invoke, builtin, Builtin.append_, hr s _ hs, hr x _ hx, run_underlying (TSlice.under (P := P) (t := t)) w, run_underlying (TSlice.under (P := P) (t := t')) w, TAgg.size (P := P) (t := e), hlen, hroom, hfirst, hadd, hw']
      · refine .row (by simp [hl, hyl, Nat.add_mul]) (by rw [setRange_size]; exact hc) hroom ?_
        have := take_setRange (len * sz) ys arr hfit
        rw [show (len + m) * sz = len * sz + ys.length from by rw [hyl, Nat.add_mul], this, hxs]
    · have hcap := nextslicecap_le (len + m) cap (by omega)
      have hll : len ≤ len * sz := Nat.le_mul_of_pos_right len hsz'
      have hbig : ¬ (2 ^ 48 < Builtin.nextslicecap (len + m) cap * by_) := by
        have : Builtin.nextslicecap (len + m) cap * by_ ≤ (2 * (len + m) + 200) * 4096 := Nat.mul_le_mul hcap hb
        omega
      obtain ⟨nc, hnc⟩ : ∃ nc, nc = (Question.appendCap (len + m) cap e).cut (w.tape w.drawn (.appendCap (len + m) cap e)) := ⟨_, rfl⟩
      have hge : len + m ≤ nc := hnc ▸ cut_cap (len + m) cap e _
      have hfirst' : (Builtin.firstCells sz m xv).run P w.drew = .ok ys.toArray w.drew := (hsrc.run (P := P) (stR.drew)).2
      have hold := run_cells (P := P) (o := 0) (m := len * sz) ((st.drew).block .here) (by rw [hc]; simp; exact Nat.mul_le_mul_right sz hle)
      have hext : arr.extract 0 (0 + len * sz) = xs.toArray := by apply Array.ext'; simp [← hxs]
      rw [hext] at hold
      have hold' : (loadCells ⟨b, 0, none⟩ (len * sz)).run P w.drew = .ok xs.toArray w.drew := hold
      refine ⟨.slice (some ⟨w.heap.size, 0, none⟩) (len + m) nc, _, [(w.heap.size, .cells (xs.toArray ++ ys.toArray ++ Builtin.zeroCells z.cells (nc - (len + m))) e (0, 0))] :: R, ?_, ⟨_, ?_, rfl⟩, (stR.drew).new _⟩
      · have hmax : ¬ (9223372036854775807 < (len : Int) + (m : Int) ∧ by_ = 0) := by omega
        have hold2 : (Builtin.firstCells sz len (.slice (some ⟨b, 0, none⟩) len cap)).run P w.drew = .ok xs.toArray w.drew := by simp only [Builtin.firstCells]; exact hold'
        have hnc' : (Question.appendCap (len + m) cap e).cut (w.tape w.drawn (.appendCap (len + m) cap e)) = nc := hnc.symm
        have hfor : (Question.appendCap (len + m) cap e).forced = false := rfl
        have hi64 : IntKind.i64.max = 9223372036854775807 := rfl
        simp [opRun, execOp, resolve, invoke, builtin, Builtin.append_, hr s _ hs, hr x _ hx, run_underlying (TSlice.under (P := P) (t := t)) w, run_underlying (TSlice.under (P := P) (t := t')) w, TAgg.size (P := P) (t := e), hlen, hti, hby, hroom, hmax, hbig, hnc', hfor, hi64, hold2, hfirst', TZero.zero (P := P) (t := e), newRow]
        have ha : xs.toArray ++ (ys.toArray ++ Builtin.zeroCells z.cells (nc - (len + m))) = (xs ++ ys).toArray ++ Builtin.zeroCells z.cells (nc - (len + m)) := by apply Array.ext'; simp only [Array.toList_append, List.append_assoc]
        rw [ha]; rfl
      · refine .row (by simp [hl, hyl, Nat.add_mul]) ?_ hge ?_
        · simp [zeroCells_size, hz, hyl, hl]; rw [← Nat.add_mul, ← Nat.add_mul]; congr 1; omega
        · simp [Nat.add_mul, hl, hyl, List.take_append, List.take_of_length_le]

/-! ### reslicing -/
theorem sliceBound_run {w : World} {k : IntKind} {y : Nat} {code : BoundsCode} {v : Value} {j : Nat} (hv : v = .int k (j : Int)) (h : j ≤ y) : (Instr.sliceBound v y code).run P w = .ok j w := by
  subst hv
  simp [Instr.sliceBound, asIntOf, h]

/-- s[lo:hi] of a string -/
theorem y_slice_str {t l h : Nat} {k k' : IntKind} {x lo hi : Operand} {s : ByteArray} [TStr P t] (hx : evo L x = some (.string s)) (hl : evo L lo = some (.int k (l : Int))) (hh : evo L hi = some (.int k' (h : Int))) (h1 : l ≤ h) (h2 : h ≤ s.size) :
    Yld P σ L H (.slice t x (some lo) (some hi) none) ty (.string (s.extract l h)) := fun ρ w hr st => by
  simp [opRun, execOp, Instr.sliceAt, Instr.slice, Instr.sliceBounds, hr x _ hx, hr lo _ hl, hr hi _ hh, run_underlying (TStr.under (P := P) (t := t)) w, sliceBound_run (P := P) rfl h2, sliceBound_run (P := P) rfl h1]
theorem y_slice_str_from {t l : Nat} {k : IntKind} {x lo : Operand} {s : ByteArray} [TStr P t] (hx : evo L x = some (.string s)) (hl : evo L lo = some (.int k (l : Int))) (h1 : l ≤ s.size) :
    Yld P σ L H (.slice t x (some lo) none none) ty (.string (s.extract l s.size)) := fun ρ w hr st => by
  simp [opRun, execOp, Instr.sliceAt, Instr.slice, Instr.sliceBounds, hr x _ hx, hr lo _ hl, run_underlying (TStr.under (P := P) (t := t)) w, sliceBound_run (P := P) rfl h1]
theorem y_slice_str_to {t h : Nat} {k : IntKind} {x hi : Operand} {s : ByteArray} [TStr P t] (hx : evo L x = some (.string s)) (hh : evo L hi = some (.int k (h : Int))) (h1 : h ≤ s.size) :
    Yld P σ L H (.slice t x none (some hi) none) ty (.string (s.extract 0 h)) := fun ρ w hr st => by
  simp [opRun, execOp, Instr.sliceAt, Instr.slice, Instr.sliceBounds, hr x _ hx, hr hi _ hh, run_underlying (TStr.under (P := P) (t := t)) w, sliceBound_run (P := P) rfl h1]

/-- the same, the bounds as whole numbers -/
theorem y_slice_str_z {t : Nat} {k k' : IntKind} {l h : Int} {x lo hi : Operand} {s : ByteArray} [TStr P t] (hx : evo L x = some (.string s)) (hl : evo L lo = some (.int k l)) (hh : evo L hi = some (.int k' h)) (h0 : 0 ≤ l) (h1 : l ≤ h) (h2 : h ≤ (s.size : Int)) :
    Yld P σ L H (.slice t x (some lo) (some hi) none) ty (.string (s.extract l.toNat h.toNat)) := by
  obtain ⟨l, rfl⟩ := Int.eq_ofNat_of_zero_le h0
  obtain ⟨h, rfl⟩ := Int.eq_ofNat_of_zero_le (Int.le_trans h0 h1)
  exact y_slice_str hx hl hh (by omega) (by omega)
theorem y_slice_str_from_z {t : Nat} {k : IntKind} {l : Int} {x lo : Operand} {s : ByteArray} [TStr P t] (hx : evo L x = some (.string s)) (hl : evo L lo = some (.int k l)) (h0 : 0 ≤ l) (h1 : l ≤ (s.size : Int)) :
    Yld P σ L H (.slice t x (some lo) none none) ty (.string (s.extract l.toNat s.size)) := by
  obtain ⟨l, rfl⟩ := Int.eq_ofNat_of_zero_le h0
  exact y_slice_str_from hx hl (by omega)
theorem y_slice_str_to_z {t : Nat} {k : IntKind} {h : Int} {x hi : Operand} {s : ByteArray} [TStr P t] (hx : evo L x = some (.string s)) (hh : evo L hi = some (.int k h)) (h0 : 0 ≤ h) (h1 : h ≤ (s.size : Int)) :
    Yld P σ L H (.slice t x none (some hi) none) ty (.string (s.extract 0 h.toNat)) := by
  obtain ⟨h, rfl⟩ := Int.eq_ofNat_of_zero_le h0
  exact y_slice_str_to hx hh (by omega)

theorem addr_add (b o m : Nat) : (⟨b, o, none⟩ : Addr).add m = ⟨b, o + m, none⟩ := by unfold Addr.add; split <;> simp_all

/-- xs[l:h] of a slice -/
theorem y_slice {t e sz l h b o len cap : Nat} {ag : Bool} {k k' : IntKind} {x lo hi : Operand} [TSlice P t e] [TAgg P e ag sz] (hx : evo L x = some (.slice (some ⟨b, o, none⟩) len cap)) (hl : evo L lo = some (.int k (l : Int))) (hh : evo L hi = some (.int k' (h : Int))) (h1 : l ≤ h) (h2 : h ≤ cap) :
    Yld P σ L H (.slice t x (some lo) (some hi) none) ty (.slice (some ⟨b, if cap = l then o else o + l * sz, none⟩) (h - l) (cap - l)) := fun ρ w hr st => by
  simp [opRun, execOp, Instr.sliceAt, Instr.slice, Instr.sliceBounds, hr x _ hx, hr lo _ hl, hr hi _ hh, run_underlying (TSlice.under (P := P) (t := t)) w, sliceBound_run (P := P) rfl h2, sliceBound_run (P := P) rfl h1, TAgg.size (P := P) (t := e), addr_add]
  split <;> rfl
theorem y_slice_from {t e sz l b o len cap : Nat} {ag : Bool} {k : IntKind} {x lo : Operand} [TSlice P t e] [TAgg P e ag sz] (hx : evo L x = some (.slice (some ⟨b, o, none⟩) len cap)) (hl : evo L lo = some (.int k (l : Int))) (h1 : l ≤ len) :
    Yld P σ L H (.slice t x (some lo) none none) ty (.slice (some ⟨b, if cap = l then o else o + l * sz, none⟩) (len - l) (cap - l)) := fun ρ w hr st => by
  simp [opRun, execOp, Instr.sliceAt, Instr.slice, Instr.sliceBounds, hr x _ hx, hr lo _ hl, run_underlying (TSlice.under (P := P) (t := t)) w, sliceBound_run (P := P) rfl h1, TAgg.size (P := P) (t := e), addr_add]
  split <;> rfl
theorem y_slice_to {t e sz h b o len cap : Nat} {ag : Bool} {k : IntKind} {x hi : Operand} [TSlice P t e] [TAgg P e ag sz] (hx : evo L x = some (.slice (some ⟨b, o, none⟩) len cap)) (hh : evo L hi = some (.int k (h : Int))) (h1 : h ≤ cap) :
    Yld P σ L H (.slice t x none (some hi) none) ty (.slice (some ⟨b, o, none⟩) h cap) := fun ρ w hr st => by
  simp [opRun, execOp, Instr.sliceAt, Instr.slice, Instr.sliceBounds, hr x _ hx, hr hi _ hh, run_underlying (TSlice.under (P := P) (t := t)) w, sliceBound_run (P := P) rfl h1, TAgg.size (P := P) (t := e), addr_add]
theorem y_slice_z {t e sz b o len cap : Nat} {ag : Bool} {k k' : IntKind} {l h : Int} {x lo hi : Operand} [TSlice P t e] [TAgg P e ag sz] (hx : evo L x = some (.slice (some ⟨b, o, none⟩) len cap)) (hl : evo L lo = some (.int k l)) (hh : evo L hi = some (.int k' h)) (h0 : 0 ≤ l) (h1 : l ≤ h) (h2 : h ≤ (cap : Int)) :
    Yld P σ L H (.slice t x (some lo) (some hi) none) ty (.slice (some ⟨b, if cap = l.toNat then o else o + l.toNat * sz, none⟩) (h.toNat - l.toNat) (cap - l.toNat)) := by
  obtain ⟨l, rfl⟩ := Int.eq_ofNat_of_zero_le h0
  obtain ⟨h, rfl⟩ := Int.eq_ofNat_of_zero_le (Int.le_trans h0 h1)
  exact y_slice hx hl hh (by omega) (by omega)
theorem y_slice_from_z {t e sz b o len cap : Nat} {ag : Bool} {k : IntKind} {l : Int} {x lo : Operand} [TSlice P t e] [TAgg P e ag sz] (hx : evo L x = some (.slice (some ⟨b, o, none⟩) len cap)) (hl : evo L lo = some (.int k l)) (h0 : 0 ≤ l) (h1 : l ≤ (len : Int)) :
    Yld P σ L H (.slice t x (some lo) none none) ty (.slice (some ⟨b, if cap = l.toNat then o else o + l.toNat * sz, none⟩) (len - l.toNat) (cap - l.toNat)) := by
  obtain ⟨l, rfl⟩ := Int.eq_ofNat_of_zero_le h0
  exact y_slice_from hx hl (by omega)
theorem y_slice_to_z {t e sz b o len cap : Nat} {ag : Bool} {k : IntKind} {h : Int} {x hi : Operand} [TSlice P t e] [TAgg P e ag sz] (hx : evo L x = some (.slice (some ⟨b, o, none⟩) len cap)) (hh : evo L hi = some (.int k h)) (h0 : 0 ≤ h) (h1 : h ≤ (cap : Int)) :
    Yld P σ L H (.slice t x none (some hi) none) ty (.slice (some ⟨b, o, none⟩) h.toNat cap) := by
  obtain ⟨h, rfl⟩ := Int.eq_ofNat_of_zero_le h0
  exact y_slice_to hx hh (by omega)
theorem y_slice_nil_from {t e sz c : Nat} {ag : Bool} {k : IntKind} {x lo : Operand} [TSlice P t e] [TAgg P e ag sz] (hx : evo L x = some (.slice none 0 c)) (hl : evo L lo = some (.int k 0)) :
    Yld P σ L H (.slice t x (some lo) none none) ty (.slice none 0 c) := fun ρ w hr st => by
  have hb : (Instr.sliceBound (.int k 0) 0 .sliceB).run P w = .ok 0 w := sliceBound_run (P := P) (j := 0) rfl (Nat.le_refl _)
  simp [opRun, execOp, Instr.sliceAt, Instr.slice, Instr.sliceBounds, hr x _ hx, hr lo _ hl, run_underlying (TSlice.under (P := P) (t := t)) w, hb, TAgg.size (P := P) (t := e)]

/-! ### a slice of a literal -/
theorem foldl_all (vs : List Value) : ∀ (k : Nat) (acc : Array Value), acc.size = k + vs.length →
    ((vs.zipIdx k).foldl (fun cs (x : Value × Nat) => cs.setIfInBounds (0 + x.2) x.1) acc) = (acc.toList.take k ++ vs).toArray := by
  induction vs with
  | nil => intro k acc h; apply Array.ext'; simp at h ⊢; rw [List.take_of_length_le (by simp [h])]
  | cons v r ih =>
    intro k acc h
    simp only [List.length_cons] at h
    simp only [List.zipIdx_cons, List.foldl_cons]
    rw [ih (k + 1) _ (by simp; omega)]
    congr 1
    simp only [Nat.zero_add, Array.toList_setIfInBounds]
    rw [List.take_succ_eq_append_getElem (by simp; omega)]
    have e : (acc.toList.set k v).take k = acc.toList.take k := by
      rw [List.take_set]; exact List.set_eq_of_length_le (by simp; omega)
    simp [e]

theorem e_slice1 {t e sz : Nat} {ag : Bool} {z u : Value} {x : Operand} [TSlice P t e] [TAgg P e ag sz] [TZero P e z] (hx : evo L x = some u) (hu : u.cells.size = sz) (hz : z.cells.size = sz) (hs : Nat.ble sz 16777216 = true) (hs0 : Nat.beq sz 0 = false) :
    Eff P σ L H (.buildSlice t 1 #[(0, x)]) ty fun v H' => ∃ b, v = .slice (some ⟨b, 0, none⟩) 1 1 ∧ H' = [(b, .cells u.cells e (0, 0))] :: H := fun ρ w hr st => by
  have hsz : sz ≤ 16777216 := by simpa [Nat.ble_eq] using hs
  have hf : Instr.fill (fun i => some (i * sz, sz)) ((Array.range (1 * sz)).map (z.cells[· % z.cells.size]!)) [(0, u)] = some u.cells := by
    simp only [Instr.fill, hu]
    rw [if_neg (by simp)]
    congr 1
    have := foldl_all u.cells.toList 0 ((Array.range (1 * sz)).map (z.cells[· % z.cells.size]!)) (by simp [hu])
    simp only [Nat.zero_mul]
    rw [← Array.foldl_toList, Array.toList_zipIdx]
    rw [this]; simp
  refine ⟨_, _, _, ?_, ⟨w.heap.size, rfl, rfl⟩, st.new _⟩
  have h2 : ¬ (2 ^ 24 < 1 * sz) := by omega
  have h0 : ¬ sz = 0 := fun e => by subst e; simp at hs0
  simp only [Nat.one_mul] at hf h2
  simp [opRun, execOp, Instr.buildSlice, run_underlying (TSlice.under (P := P) (t := t)) w, TAgg.size (P := P) (t := e), TZero.zero (P := P) (t := e), hr x _ hx, newRow, h2, h0, hf]

theorem e_slice1s {t e : Nat} {ag : Bool} {z u : Value} {x : Operand} [TSlice P t e] [TAgg P e ag 1] [TZero P e z] (hx : evo L x = some u) (hu : one u = true) (hz : z.cells.size = 1) :
    Eff P σ L H (.buildSlice t 1 #[(0, x)]) ty fun v H' => ∃ b, v = .slice (some ⟨b, 0, none⟩) 1 1 ∧ H' = [(b, .cells #[u] e (0, 0))] :: H := by
  have := e_slice1 (P := P) (σ := σ) (H := H) (ty := ty) (t := t) (e := e) (sz := 1) hx (by rw [one_cells hu]; rfl) hz rfl rfl
  rw [one_cells hu] at this; exact this
theorem e_slice1a {t e sz : Nat} {ag : Bool} {z : Value} {u : Array Value} {x : Operand} [TSlice P t e] [TAgg P e ag sz] [TZero P e z] (hx : evo L x = some (.agg u)) (hu : u.size = sz) (hz : z.cells.size = sz) (hs : Nat.ble sz 16777216 = true) (hs0 : Nat.beq sz 0 = false) :
    Eff P σ L H (.buildSlice t 1 #[(0, x)]) ty fun v H' => ∃ b, v = .slice (some ⟨b, 0, none⟩) 1 1 ∧ H' = [(b, .cells u e (0, 0))] :: H := e_slice1 hx hu hz hs hs0

/-- a slice of several elements of one cell each -/
theorem e_slices {t e : Nat} {z : Value} {ps : List (Nat × Operand)} {us : List (Nat × Value)} {cs : Array Value} {len : Nat} [TSlice P t e] [TAgg P e false 1] [TZero P e z]
    (hx : evl L (ps.map (·.2)) = some (us.map (·.2))) (hi : ps.map (·.1) = us.map (·.1)) (hf : Instr.fill (fun i => some (i * 1, 1)) ((Array.range (len * 1)).map (z.cells[· % z.cells.size]!)) us = some cs) (hl : Nat.ble len 1000 = true) (hl0 : Nat.beq len 0 = false) :
    Eff P σ L H (.buildSlice t len ps.toArray) ty fun v H' => ∃ b, v = .slice (some ⟨b, 0, none⟩) len len ∧ H' = [(b, .cells cs e (0, 0))] :: H := fun ρ w hr st => by
  have e1 : (ps.map fun (i, x) => (i, ρ x)) = us := by
    have hl := hr.list hx
    rw [List.map_map] at hl
    clear hf
    induction ps generalizing us with
    | nil => cases us <;> simp_all
    | cons a r ih =>
      cases us with
      | nil => simp at hi
      | cons b s =>
        simp only [List.map_cons, List.cons.injEq, Function.comp] at hl hi ⊢
        refine ⟨Prod.ext hi.1 hl.1, ?_⟩
        refine ih (us := s) ?_ hi.2 hl.2
        simp only [List.map_cons, evl] at hx
        split at hx
        · rename_i h4 h5; simp only [Option.some.injEq, List.cons.injEq] at hx; rw [h5, hx.2]
        · cases hx
  have hlen : len ≤ 1000 := by simpa [Nat.ble_eq] using hl
  have h0 : ¬ len = 0 := fun e => by subst e; simp at hl0
  have h2 : ¬ (2 ^ 24 < len) := by omega
  refine ⟨_, _, _, ?_, ⟨w.heap.size, rfl, rfl⟩, st.new _⟩
  simp only [Nat.mul_one] at hf
  simp [opRun, execOp, Instr.buildSlice, run_underlying (TSlice.under (P := P) (t := t)) w, TAgg.size (P := P) (t := e), TZero.zero (P := P) (t := e), newRow, h2, h0, e1, hf]

/-! ### bytes and strings -/
def byteV (c : UInt8) : Value := .int .u8 (c.toNat : Int)

theorem e_bytes {t s e : Nat} {x : Operand} {str : ByteArray} [TStr P s] [TSlice P t e] [TInt P e .u8] (hx : evo L x = some (.string str)) :
    Eff P σ L H (.convert s t x) ty fun v H' => ∃ (b cap : Nat) (arr : Array Value), v = .slice (some ⟨b, 0, none⟩) str.size cap ∧ str.size ≤ cap ∧ arr.size = cap ∧ (∀ (i : Nat) (c : UInt8), str.data[i]? = some c → arr[i]? = some (byteV c)) ∧ H' = [(b, .cells arr e (arr.size, arr.size + 1))] :: H := fun ρ w hr st => by
  obtain ⟨nc, hnc⟩ : ∃ nc, nc = (Question.appendCap str.size 0 e).cut (w.tape w.drawn (.appendCap str.size 0 e)) := ⟨_, rfl⟩
  have hge : str.size ≤ nc := hnc ▸ cut_cap str.size 0 e _
  let arr : Array Value := (str.data.map fun b => Value.int .u8 b.toNat) ++ Array.replicate (nc - str.size) (.int .u8 0)
  have hsz : arr.size = nc := by
    have : str.data.size = str.size := rfl
    simp [arr, this]; omega
  have st1 := (st.drew).new (.cells arr e)
  refine ⟨.slice (some ⟨w.heap.size, 0, none⟩) str.size nc, ({ w with drawn := w.drawn + 1, heap := w.heap.push (.cells arr e) } : World).freeze ⟨w.heap.size, nc, none⟩ 1, [(w.heap.size, .cells arr e (arr.size, arr.size + 1))] :: H, ?_, ⟨w.heap.size, nc, arr, rfl, hge, hsz, ?_, rfl⟩, ?_⟩
  · simp only [opRun, execOp, convert, Conv.stringToBytes, hr x _ hx, Sem.run_bind, run_underlying (TStr.under (P := P) (t := s)), run_underlying (TSlice.under (P := P) (t := t)), run_underlying (TInt.under (P := P) (t := e)), Result.andThen_ok, run_choose_cap, ← hnc, newRow, run_newObj, markStringish, run_shape]
    have hshape : ({ w with drawn := w.drawn + 1, heap := w.heap.push (.cells arr e) } : World).shape? w.heap.size = some (e, nc) := by
      simp [World.shape?, hsz]
    have harr : ((str.data.map fun b => Value.int .u8 b.toNat) ++ Array.replicate (nc - str.size) (.int .u8 0)) = arr := rfl
    simp only [harr, Sem.run_pure, Result.andThen_ok, hshape, run_freeze]
  · intro i c hc
    have hlt : i < str.data.size := (Array.getElem?_eq_some_iff.1 hc).1
    simp only [arr]
    rw [Array.getElem?_append_left (by simpa using hlt)]
    simp [hc, byteV]
  · refine st1.turn rfl rfl rfl ?_ (fun i hi => ?_)
    · have h1 : (w.heap.push (.cells arr e))[w.heap.size]? = some (.cells arr e) := by simp
      simp only [World.freeze, show (1 = 0) = False from by simp, if_false]
      rw [Array.getElem?_modify, if_pos rfl]
      rw [h1]; simp [hsz]
    · simp only [World.freeze, show (1 = 0) = False from by simp, if_false, Array.getElem?_modify]
      rw [if_neg (fun e => hi e.symm)]

theorem forIn_bytes {w : World} (g : Value → ByteArray → Sem (ForInStep ByteArray)) (hg : ∀ c y, g (byteV c) y = pure (.yield (y.push c))) (ns : List UInt8) :
    ∀ (acc : ByteArray), (forIn (ns.map byteV) acc g).run P w = .ok ⟨acc.data ++ ns.toArray⟩ w := by
  induction ns with
  | nil => intro acc; simp
  | cons c r ih =>
    intro acc
    simp only [List.map_cons, List.forIn_cons, Sem.run_bind, hg, Sem.run_pure, Result.andThen_ok]
    rw [ih]
    congr 1
    simp [ByteArray.push]

theorem y_string {t s e : Nat} {x : Operand} {b o len cap : Nat} {arr : Array Value} {E : TypeId} {fz : Nat × Nat} {bs : List UInt8} [TStr P s] [TSlice P t e] [TInt P e .u8] (hx : evo L x = some (.slice (some ⟨b, o, none⟩) len cap))
    (hi : InH b (.cells arr E fz) H) (h : o + len ≤ arr.size) (hb : (arr.extract o (o + len)).toList = bs.map byteV) : Yld P σ L H (.convert t s x) ty (.string ⟨bs.toArray⟩) := fun ρ w hr st => by
  have hr2 := run_cells (P := P) (st.block hi) h
  have he : arr.extract o (o + len) = (bs.map byteV).toArray := by apply Array.ext'; simpa using hb
  simp only [opRun, execOp, convert, Conv.bytesToString, hr x _ hx, Sem.run_bind, run_underlying (TStr.under (P := P) (t := s)), run_underlying (TSlice.under (P := P) (t := t)), run_underlying (TInt.under (P := P) (t := e)), Result.andThen_ok, hr2, he]
  simp only [← Array.forIn_toList]
  rw [forIn_bytes (P := P) _ (fun c y => by simp [byteV]) bs]
  have e2 : (ByteArray.empty.data ++ bs.toArray) = bs.toArray := by apply Array.ext'; simp
  rw [e2]; rfl
theorem y_string_nil {t s e c : Nat} {x : Operand} [TStr P s] [TSlice P t e] [TInt P e .u8] (hx : evo L x = some (.slice none 0 c)) : Yld P σ L H (.convert t s x) ty (.string ⟨#[]⟩) := fun ρ w hr st => by
  simp [opRun, execOp, convert, Conv.bytesToString, hr x _ hx, run_underlying (TStr.under (P := P) (t := s)), run_underlying (TSlice.under (P := P) (t := t)), run_underlying (TInt.under (P := P) (t := e))]
  rfl
end
end Go.Proofs.YtgolmieejhohdaaDoor.Sl
