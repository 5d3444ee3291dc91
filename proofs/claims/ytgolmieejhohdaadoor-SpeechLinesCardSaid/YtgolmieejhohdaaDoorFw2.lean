/-
  The operations over the frame: what each leaves in its temporary ('Yld': in every world of the state, the world as it was; 'Eff': a world of another state).
-/
import Derived.Test.YtgolmieejhohdaaDoorFw1
import Derived.Laws.Cells
import Derived.Laws.Strings
namespace Go.Proofs.YtgolmieejhohdaaDoor.Sl
open Go.RowKit
set_option autoImplicit false
set_option linter.unusedVariables false
set_option linter.unusedSimpArgs false

/-! ### Facts on types, met by instances -/
class TAgg (P : Program) (t : TypeId) (b : outParam Bool) (sz : outParam Nat) : Prop where
  agg : ∀ w, (isAgg t).run P w = .ok b w
  size : ∀ w, (Go.sizeOf t).run P w = .ok sz w
class TZero (P : Program) (t : TypeId) (z : outParam Value) : Prop where
  zero : ∀ w, (zeroValue t).run P w = .ok z w
class TBytes (P : Program) (t : TypeId) (b : outParam Nat) : Prop where
  bytes : ∃ i, (∀ w, (typeInfo t).run P w = .ok i w) ∧ i.bytes = b
class TField (P : Program) (t i : Nat) (off ft : outParam Nat) : Prop where
  field : ∃ fs f, P.underlying t = some (.struct fs) ∧ fs[i]? = some f ∧ f.offset = off ∧ f.type = ft
class TSlice (P : Program) (t : TypeId) (e : outParam Nat) : Prop where
  under : P.underlying t = some (.slice e)
class TArray (P : Program) (t : TypeId) (len e : outParam Nat) : Prop where
  under : P.underlying t = some (.array len e)
class TMap (P : Program) (t : TypeId) (k e : outParam Nat) : Prop where
  under : P.underlying t = some (.map k e)
class TStr (P : Program) (t : TypeId) : Prop where
  under : P.underlying t = some .string
class TInt (P : Program) (t : TypeId) (k : outParam IntKind) : Prop where
  under : P.underlying t = some (.int k)
class TBuild (P : Program) (t : TypeId) (z : outParam (Array Value)) (pl : outParam (Array (Nat × Nat))) : Prop where
  build : ∃ fs, P.underlying t = some (.struct fs) ∧ (∀ w, (zeroValue t).run P w = .ok (.agg z) w) ∧
    ∀ w, (fs.mapM fun (f : Field) => (do pure (f.offset, ← Go.sizeOf f.type) : Sem (Nat × Nat))).run P w = .ok pl w
class FBody (P : Program) (f : FuncId) : Prop where
  enter : ∀ args w, (callFunc f args).run P w = .ok (.enter f args) w

/-! ### What an operation does in a state -/
def opRun (ρ : Operand → Value) (op : Op) (ty : TypeId) : Sem Next := execOp ρ ⟨none, op, ty, "", #[], none⟩
theorem execOp_opRun (ρ : Operand → Value) (d : Option Tmp) (op : Op) (ty : TypeId) (pos : String) (af : Array Edge) (g : Option (Nat × Bool)) :
    execOp ρ ⟨d, op, ty, pos, af, g⟩ = opRun ρ op ty := rfl

def Yld (P : Program) (σ : World) (L : Env) (H : Hp) (op : Op) (ty : TypeId) (v : Value) : Prop :=
  ∀ ρ w, Rho L ρ → Sat σ H w → (opRun ρ op ty).run P w = .ok (.value v) w
def Eff (P : Program) (σ : World) (L : Env) (H : Hp) (op : Op) (ty : TypeId) (R : Value → Hp → Prop) : Prop :=
  ∀ ρ w, Rho L ρ → Sat σ H w → ∃ v w' H', (opRun ρ op ty).run P w = .ok (.value v) w' ∧ R v H' ∧ Sat σ H' w'
def Sto (P : Program) (σ : World) (L : Env) (H : Hp) (op : Op) (ty : TypeId) (H' : Hp) : Prop :=
  ∀ ρ w, Rho L ρ → Sat σ H w → ∃ w', (opRun ρ op ty).run P w = .ok .skip w' ∧ Sat σ H' w'

section
variable {P : Program} {σ : World} {n : Nat} {L : Env} {H : Hp} {Q : Exit → Act → World → Prop} {ops : Array Oper} {rest : List Oper}
  {op : Op} {ty : TypeId} {pos : String} {af : Array Edge} {d : Nat}

theorem wpList_of_run {o : Oper} {a : Act} {w : World} (hg : o.guard = none) (h : o.upon P a (wpList P ops Q rest) Q ((execOp a.eval o).run P w)) :
    wpList P ops Q (o :: rest) a w := by
  unfold wpList
  rw [if_pos (by simp [Region.wanted, hg])]
  exact .inl h

theorem T_y {v : Value} (hy : Yld P σ L H op ty v) (hd : Nat.blt d n = true) (k : T σ n ((d, v) :: L) H (wpList P ops Q rest)) :
    T σ n L H (wpList P ops Q (⟨some d, op, ty, pos, af, none⟩ :: rest)) := fun a w fr st =>
  wpList_of_run rfl (by rw [execOp_opRun, hy a.eval w fr.rho st]; exact k _ w (fr.put hd) st)

theorem T_e {R : Value → Hp → Prop} (he : Eff P σ L H op ty R) (hd : Nat.blt d n = true) (k : ∀ v H', R v H' → T σ n ((d, v) :: L) H' (wpList P ops Q rest)) :
    T σ n L H (wpList P ops Q (⟨some d, op, ty, pos, af, none⟩ :: rest)) := fun a w fr st =>
  wpList_of_run rfl (by
    obtain ⟨v, w', H', hr, hR, hs⟩ := he a.eval w fr.rho st
    rw [execOp_opRun, hr]; exact k v H' hR _ w' (fr.put hd) hs)

theorem T_e0 {R : Value → Hp → Prop} (he : Eff P σ L H op ty R) (k : ∀ v H', R v H' → T σ n L H' (wpList P ops Q rest)) :
    T σ n L H (wpList P ops Q (⟨none, op, ty, pos, af, none⟩ :: rest)) := fun a w fr st =>
  wpList_of_run rfl (by
    obtain ⟨v, w', H', hr, hR, hs⟩ := he a.eval w fr.rho st
    rw [execOp_opRun, hr]; exact k v H' hR _ w' fr hs)

theorem T_s {H' : Hp} (hs : Sto P σ L H op ty H') (k : T σ n L H' (wpList P ops Q rest)) :
    T σ n L H (wpList P ops Q (⟨none, op, ty, pos, af, none⟩ :: rest)) := fun a w fr st =>
  wpList_of_run rfl (by
    obtain ⟨w', hr, hs⟩ := hs a.eval w fr.rho st
    rw [execOp_opRun, hr]; exact k _ w' fr hs)

/-! guards -/
def gval (ops : Array Oper) (L : Env) (j : Nat) : Option Value := ((ops[j]?).bind (·.dst)).bind (eget L)
def isB (v : Value) (b : Bool) : Bool := match v with | .bool x => x == b | _ => false

theorem yielded_of {a : Act} {j : Nat} {v : Value} (fr : Fr n L a) (h : gval ops L j = some v) (b : Bool) : (yielded ops a.tmps j == some b) = isB v b := by
  unfold gval at h
  unfold yielded
  cases hx : (ops[j]?).bind (·.dst) with
  | none => simp [hx] at h
  | some d =>
    simp only [hx, Option.bind_some] at h ⊢
    have hv := fr.get d v h
    cases ht : a.tmps[d]? with
    | none =>
      rw [Array.getD_eq_getD_getElem?, ht] at hv
      subst hv
      simp [isB, undef]
    | some u =>
      rw [Array.getD_eq_getD_getElem?, ht] at hv
      simp only [Option.getD_some] at hv
      subst hv
      cases u <;> simp [isB]

theorem T_on {dst : Option Tmp} {j : Nat} {b : Bool} {v : Value} (hg : gval ops L j = some v) (hb : isB v b = true) (k : T σ n L H (wpList P ops Q (⟨dst, op, ty, pos, af, none⟩ :: rest))) :
    T σ n L H (wpList P ops Q (⟨dst, op, ty, pos, af, some (j, b)⟩ :: rest)) := fun a w fr st => by
  have h := k a w fr st
  unfold wpList at h ⊢
  rw [if_pos (by simp [Region.wanted])] at h
  rw [if_pos (by simp only [Region.wanted]; rw [yielded_of fr hg b, hb])]
  exact h

theorem T_off {j : Nat} {b : Bool} {v : Value} (hg : gval ops L j = some v) (hb : isB v b = false) (hd : Nat.blt d n = true) (k : T σ n ((d, undef) :: L) H (wpList P ops Q rest)) :
    T σ n L H (wpList P ops Q (⟨some d, op, ty, pos, af, some (j, b)⟩ :: rest)) := fun a w fr st => by
  unfold wpList
  rw [if_neg (by simp only [Region.wanted]; rw [yielded_of fr hg b, hb]; simp)]
  exact k _ w (fr.put hd) st

theorem T_off0 {j : Nat} {b : Bool} {v : Value} (hg : gval ops L j = some v) (hb : isB v b = false) (k : T σ n L H (wpList P ops Q rest)) :
    T σ n L H (wpList P ops Q (⟨none, op, ty, pos, af, some (j, b)⟩ :: rest)) := fun a w fr st => by
  unfold wpList
  rw [if_neg (by simp only [Region.wanted]; rw [yielded_of fr hg b, hb]; simp)]
  exact k _ w fr st
end

/-! ### Calls -/
def Post (σ : World) (R : Value → Hp → Prop) (e : Ending) (w : World) : Prop := ∃ v H', e = .returned v ∧ R v H' ∧ Sat σ H' w
def Spec (P : Program) (σ : World) (f : FuncId) (args : List Value) (H : Hp) (R : Value → Hp → Prop) : Prop :=
  ∀ w, Sat σ H w → Calls P f args.toArray w (Post σ R)

section
variable {P : Program} {σ : World} {n : Nat} {L : Env} {H : Hp} {Q : Exit → Act → World → Prop} {ops : Array Oper} {rest : List Oper}
  {ty : TypeId} {pos : String} {af : Array Edge} {d : Nat}

theorem Spec.weaken {f : FuncId} {args : List Value} {R R' : Value → Hp → Prop} (h : Spec P σ f args H R) (hr : ∀ v H', R v H' → R' v H') : Spec P σ f args H R' :=
  fun w st => (h w st).mono fun _ _ ⟨v, H', he, hR, hs⟩ => ⟨v, H', he, hr v H' hR, hs⟩

theorem Spec.arr {f : FuncId} {args : List Value} {R : Value → Hp → Prop} {H0 : Hp} (h : Spec P σ f args H0 R) (p : Arr H H0) : Spec P σ f args H R :=
  fun w st => h w (st.arr p)

def argsEnv (vs : List Value) : Env := go 0 vs
where go (i : Nat) : List Value → Env
  | [] => []
  | v :: r => (i, v) :: go (i + 1) r

theorem argsEnv_get (vs : List Value) : ∀ (k i : Nat) (v : Value), eget (argsEnv.go k vs) i = some v → k ≤ i ∧ vs[i - k]? = some v := by
  induction vs with
  | nil => intro k i v h; simp [argsEnv.go, eget] at h
  | cons x r ih =>
    intro k i v h
    simp only [argsEnv.go, eget_cons] at h
    split at h
    · rename_i e; subst e; simpa using h
    · obtain ⟨h1, h2⟩ := ih (k + 1) i v h
      refine ⟨by omega, ?_⟩
      have : i - k = (i - (k + 1)) + 1 := by omega
      rw [this]; simpa using h2

theorem Fr.start (vs : List Value) (n : Nat) (h : Nat.ble vs.length n = true) :
    Fr n (argsEnv vs) { tmps := vs.toArray ++ Array.replicate (n - vs.toArray.size) undef, defers := [] } := by
  have hle : vs.length ≤ n := by simpa [Nat.ble_eq] using h
  refine ⟨by simp; omega, rfl, fun i v hi => ?_⟩
  obtain ⟨_, h2⟩ := argsEnv_get vs 0 i v hi
  simp only [Nat.sub_zero] at h2
  have hlt : i < vs.length := (List.getElem?_eq_some_iff.1 h2).1
  rw [Array.getD_eq_getD_getElem?, Array.getElem?_append_left (by simpa using hlt)]
  simp [h2]

theorem Spec_intro {f : FuncId} {fn : Func} {c : Code} {vs : List Value} {R : Value → Hp → Prop} (hf : P.funcs[f]? = some fn) (hb : fn.body = some c) (hn : fn.ntmps = n)
    (hl : Nat.ble vs.length n = true) (k : T σ n (argsEnv vs) H (c.wp P (bodyPost P fn (Post σ R)))) : Spec P σ f vs H R := fun w st =>
  calls_of_wp hf hb (by rw [hn]; exact k _ w (Fr.start vs n hl) st)

/-- a call of a function that the text names -/
theorem E_call {f : FuncId} {xs : List Operand} {at_ : Array TypeId} {vs : List Value} {R : Value → Hp → Prop} [FBody P f] (hx : evl L xs = some vs) (hs : Spec P σ f vs H R)
    (hd : Nat.blt d n = true) (k : ∀ v H', R v H' → T σ n ((d, v) :: L) H' (wpList P ops Q rest)) :
    T σ n L H (wpList P ops Q (⟨some d, .call ⟨.value (.func f), xs.toArray, at_⟩, ty, pos, af, none⟩ :: rest)) := fun a w fr st =>
  wpList_of_run rfl (by
    have hr : (execOp a.eval ⟨some d, .call ⟨.value (.func f), xs.toArray, at_⟩, ty, pos, af, none⟩).run P w = .ok (.enter f vs.toArray) w := by
      have hl := fr.rho.list hx
      simp [execOp, resolve, Deferred.ofValue, invoke, Act.eval, FBody.enter, hl]
    rw [hr]
    refine (hs w st).mono fun e w' ⟨v, H', he, hR, hst⟩ => ?_
    subst he
    exact k v H' hR _ w' (fr.put hd) hst)
theorem E_call0 {f : FuncId} {xs : List Operand} {at_ : Array TypeId} {vs : List Value} {R : Value → Hp → Prop} [FBody P f] (hx : evl L xs = some vs) (hs : Spec P σ f vs H R)
    (k : ∀ v H', R v H' → T σ n L H' (wpList P ops Q rest)) :
    T σ n L H (wpList P ops Q (⟨none, .call ⟨.value (.func f), xs.toArray, at_⟩, ty, pos, af, none⟩ :: rest)) := fun a w fr st =>
  wpList_of_run rfl (by
    have hr : (execOp a.eval ⟨none, .call ⟨.value (.func f), xs.toArray, at_⟩, ty, pos, af, none⟩).run P w = .ok (.enter f vs.toArray) w := by
      have hl := fr.rho.list hx
      simp [execOp, resolve, Deferred.ofValue, invoke, Act.eval, FBody.enter, hl]
    rw [hr]
    refine (hs w st).mono fun e w' ⟨v, H', he, hR, hst⟩ => ?_
    subst he
    exact k v H' hR _ w' fr hst)
/-- a call of a function value -/
theorem E_fcall {x : Operand} {f : FuncId} {cap : Array Value} {xs : List Operand} {at_ : Array TypeId} {vs : List Value} {R : Value → Hp → Prop} [FBody P f] (hf : evo L x = some (.func (.func f) #[] cap))
    (hx : evl L xs = some vs) (hs : Spec P σ f (vs ++ cap.toList) H R)
    (hd : Nat.blt d n = true) (k : ∀ v H', R v H' → T σ n ((d, v) :: L) H' (wpList P ops Q rest)) :
    T σ n L H (wpList P ops Q (⟨some d, .call ⟨.value x, xs.toArray, at_⟩, ty, pos, af, none⟩ :: rest)) := fun a w fr st =>
  wpList_of_run rfl (by
    have hr : (execOp a.eval ⟨some d, .call ⟨.value x, xs.toArray, at_⟩, ty, pos, af, none⟩).run P w = .ok (.enter f (vs ++ cap.toList).toArray) w := by
      have hl := fr.rho.list hx
      have hf' := fr.rho x _ hf
      have e : (vs ++ cap.toList).toArray = vs.toArray ++ cap := by apply Array.ext'; simp
      simp [execOp, resolve, Deferred.ofValue, invoke, hf', FBody.enter, hl, e]
    rw [hr]
    refine (hs w st).mono fun e w' ⟨v, H', he, hR, hst⟩ => ?_
    subst he
    exact k v H' hR _ w' (fr.put hd) hst)

/-- a contract of the guide's own kind -/
theorem Spec.of_below {f : FuncId} {vs : List Value} {r : Value} (h : ∀ w, Calls P f vs.toArray w fun e w' => e = .returned r ∧ Below w.heap.size w w') :
    Spec P σ f vs H fun v H' => v = r ∧ H' = H := fun w st =>
  (h w).mono fun _ _ ⟨he, hb⟩ => ⟨r, H, he, ⟨rfl, rfl⟩, st.below hb⟩

/-! ### Results -/
theorem T_ret1 {fn : Func} {t : Tmp} {v : Value} {R : Value → Hp → Prop} {H0 : Hp} (hf : fn.results = #[.tmp t]) (hv : eget L t = some v) (h : R v H0) (hi : Incl H0 H) :
    T σ n L H (bodyPost P fn (Post σ R) .ret) := fun a w fr st =>
  ⟨fr.defers, _, results_tmp hf _ _ _, v, H0, by rw [fr.get t v hv], h, st.incl hi⟩
theorem T_ret2 {fn : Func} {t u : Tmp} {v x : Value} {R : Value → Hp → Prop} {H0 : Hp} (hf : fn.results = #[.tmp t, .tmp u]) (hv : eget L t = some v) (hx : eget L u = some x) (h : R (.tuple #[v, x]) H0) (hi : Incl H0 H) :
    T σ n L H (bodyPost P fn (Post σ R) .ret) := fun a w fr st =>
  ⟨fr.defers, _, results_tmp2 hf _ _ _, _, H0, by rw [fr.get t v hv, fr.get u x hx], h, st.incl hi⟩
theorem T_ret0 {fn : Func} {R : Value → Hp → Prop} {H0 : Hp} (hf : fn.results = #[]) (h : R (.tuple #[]) H0) (hi : Incl H0 H) :
    T σ n L H (bodyPost P fn (Post σ R) .normal) := fun a w fr st =>
  ⟨fr.defers, _, results_none hf _ _ _, _, H0, rfl, h, st.incl hi⟩
theorem T_ret0r {fn : Func} {R : Value → Hp → Prop} {H0 : Hp} (hf : fn.results = #[]) (h : R (.tuple #[]) H0) (hi : Incl H0 H) :
    T σ n L H (bodyPost P fn (Post σ R) .ret) := fun a w fr st =>
  ⟨fr.defers, _, results_none hf _ _ _, _, H0, rfl, h, st.incl hi⟩
theorem T_ret3 {fn : Func} {t u s : Tmp} {v x y : Value} {R : Value → Hp → Prop} {H0 : Hp} (hf : fn.results = #[.tmp t, .tmp u, .tmp s]) (hv : eget L t = some v) (hx : eget L u = some x) (hy : eget L s = some y) (h : R (.tuple #[v, x, y]) H0) (hi : Incl H0 H) :
    T σ n L H (bodyPost P fn (Post σ R) .ret) := fun a w fr st =>
  ⟨fr.defers, .tuple #[v, x, y], by
    have e1 := fr.get t v hv; have e2 := fr.get u x hx; have e3 := fr.get s y hy
    simp only [Array.getD_eq_getD_getElem?] at e1 e2 e3
    simp [results, hf, e1, e2, e3], _, H0, rfl, h, st.incl hi⟩

theorem loadVar_run {t sz : Nat} [TAgg P t true sz] {w : World} {b o : Nat} {arr : Array Value} {E : TypeId} {fz : Nat × Nat} (hb : w.heap[b]? = some (.cells arr E fz)) (hs : o + sz ≤ arr.size) :
    (loadVar t ⟨b, o, none⟩).run P w = .ok (.agg (arr.extract o (o + sz))) w := by
  have key : ∀ (m i : Nat) (acc : Array Value), o + i + m ≤ arr.size → (loadCellsFrom ⟨b, o, none⟩ i m acc).run P w = .ok (acc ++ arr.extract (o + i) (o + i + m)) w := by
    intro m
    induction m with
    | zero => intro i acc h; simp [loadCellsFrom]; omega
    | succ m ih =>
      intro i acc h
      have ha : (⟨b, o, none⟩ : Addr).add i = ⟨b, o + i, none⟩ := by unfold Addr.add; split <;> simp_all
      have hlt : o + i < arr.size := by omega
      have hc : w.cell? ⟨b, o + i, none⟩ = some arr[o + i] := by simp [World.cell?, hb, hlt]
      simp only [loadCellsFrom, Sem.run_bind, run_load, ha, hc, Result.andThen_ok]
      rw [ih (i + 1) _ (by omega)]
      congr 1
      apply Array.ext'
      simp only [Array.toList_append, Array.toList_push, Array.toList_extract, List.append_assoc, List.extract]
      congr 1
      have e1 : o + (i + 1) + m - (o + (i + 1)) = m := by omega
      have e2 : o + i + (m + 1) - (o + i) = m + 1 := by omega
      rw [e1, e2]
      have e3 : arr.toList.drop (o + i) = arr[o + i] :: arr.toList.drop (o + (i + 1)) := by
        rw [← Array.getElem_toList hlt]; exact List.drop_eq_getElem_cons (by simpa using hlt)
      rw [e3]; simp
  have h := key sz 0 #[] (by omega)
  simp [loadVar, loadCells, TAgg.agg (P := P) (t := t), TAgg.size (P := P) (t := t), h]

theorem extract_all {arr : Array Value} {sz : Nat} (h : arr.size = sz) : arr.extract 0 (0 + sz) = arr := by
  subst h; simp

/-- one result, a variable's cells -/
theorem T_retC {fn : Func} {t : Tmp} {ty sz b o : Nat} {arr cs : Array Value} {E : TypeId} {fz : Nat × Nat} {R : Value → Hp → Prop} {H0 : Hp} (hf : fn.results = #[.cell t ty]) (ag : TAgg P ty true sz) (hv : eget L t = some (.pointer (some ⟨b, o, none⟩)))
    (hb : InH b (.cells arr E fz) H) (hs : o + sz ≤ arr.size) (he : arr.extract o (o + sz) = cs) (h : R (.agg cs) H0) (hi : Incl H0 H) :
    T σ n L H (bodyPost P fn (Post σ R) .ret) := fun a w fr st =>
  ⟨fr.defers, .agg cs, by
    have e := fr.get t _ hv
    simp only [Array.getD_eq_getD_getElem?] at e
    simp [results, hf, e, asAddr, loadVar_run (P := P) (t := ty) (st.block hb) hs, he], _, H0, rfl, h, st.incl hi⟩
/-- a variable's cells and a temporary -/
theorem T_retC1 {fn : Func} {t u : Tmp} {ty sz b o : Nat} {x : Value} {arr cs : Array Value} {E : TypeId} {fz : Nat × Nat} {R : Value → Hp → Prop} {H0 : Hp} (hf : fn.results = #[.cell t ty, .tmp u]) (ag : TAgg P ty true sz) (hv : eget L t = some (.pointer (some ⟨b, o, none⟩)))
    (hx : eget L u = some x) (hb : InH b (.cells arr E fz) H) (hs : o + sz ≤ arr.size) (he : arr.extract o (o + sz) = cs) (h : R (.tuple #[.agg cs, x]) H0) (hi : Incl H0 H) :
    T σ n L H (bodyPost P fn (Post σ R) .ret) := fun a w fr st =>
  ⟨fr.defers, .tuple #[.agg cs, x], by
    have e := fr.get t _ hv; have e2 := fr.get u x hx
    simp only [Array.getD_eq_getD_getElem?] at e e2
    simp [results, hf, e, e2, asAddr, loadVar_run (P := P) (t := ty) (st.block hb) hs, he], _, H0, rfl, h, st.incl hi⟩
/-- two variables' cells and a temporary -/
theorem T_retCC1 {fn : Func} {t t' u : Tmp} {ty ty' sz sz' b o b' o' : Nat} {x : Value} {arr cs arr' cs' : Array Value} {E E' : TypeId} {fz fz' : Nat × Nat} {R : Value → Hp → Prop} {H0 : Hp} (hf : fn.results = #[.cell t ty, .cell t' ty', .tmp u]) (ag : TAgg P ty true sz) (ag' : TAgg P ty' true sz')
    (hv : eget L t = some (.pointer (some ⟨b, o, none⟩))) (hv' : eget L t' = some (.pointer (some ⟨b', o', none⟩)))
    (hx : eget L u = some x) (hb : InH b (.cells arr E fz) H) (hb' : InH b' (.cells arr' E' fz') H) (hs : o + sz ≤ arr.size) (hs' : o' + sz' ≤ arr'.size) (he : arr.extract o (o + sz) = cs) (he' : arr'.extract o' (o' + sz') = cs') (h : R (.tuple #[.agg cs, .agg cs', x]) H0) (hi : Incl H0 H) :
    T σ n L H (bodyPost P fn (Post σ R) .ret) := fun a w fr st =>
  ⟨fr.defers, .tuple #[.agg cs, .agg cs', x], by
    have e := fr.get t _ hv; have e1 := fr.get t' _ hv'; have e2 := fr.get u x hx
    simp only [Array.getD_eq_getD_getElem?] at e e1 e2
    simp [results, hf, e, e1, e2, asAddr, loadVar_run (P := P) (t := ty) (st.block hb) hs, loadVar_run (P := P) (t := ty') (st.block hb') hs', he, he'], _, H0, rfl, h, st.incl hi⟩
end
end Go.Proofs.YtgolmieejhohdaaDoor.Sl
