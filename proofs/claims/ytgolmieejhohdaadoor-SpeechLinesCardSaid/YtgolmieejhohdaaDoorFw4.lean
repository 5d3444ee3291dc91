/-
  A statement whose order of evaluation Go leaves open: what yields in every world of the kept chunks is taken first; what acts is met when nothing else may come up.
-/
import Derived.Test.YtgolmieejhohdaaDoorFw3
namespace Go.Proofs.YtgolmieejhohdaaDoor.Sl
open Go.RowKit
set_option autoImplicit false
set_option linter.unusedVariables false
set_option linter.unusedSimpArgs false

/-- whoever is not told to wait for another one has nothing to do with it -/
def drawnOK (l : List Oper) : Bool :=
  Region.noSelect l.toArray && (List.range l.length).all fun i => (List.range l.length).all fun j => j == i ||
    match l[i]?, l[j]? with
    | some oi, some oj => (oj.after.any fun e => Region.binds .any e && e.on == i) || (oi.after.any fun e => Region.binds .any e && e.on == j) || oi.apart l.toArray oj
    | _, _ => true

theorem drawnOK_apart {l : List Oper} (h : drawnOK l = true) {i j : Nat} {oi oj : Oper} (hi : l[i]? = some oi) (hj : l[j]? = some oj) (hne : j ≠ i)
    (h1 : ∀ e ∈ oj.after, Region.binds .any e = true → e.on ≠ i) (h2 : ∀ e ∈ oi.after, Region.binds .any e = true → e.on ≠ j) : oi.apart l.toArray oj = true := by
  simp only [drawnOK, Bool.and_eq_true, List.all_eq_true, List.mem_range] at h
  have hil := (List.getElem?_eq_some_iff.1 hi).1
  have hjl := (List.getElem?_eq_some_iff.1 hj).1
  have := h.2 i hil j hjl
  simp only [hi, hj, Bool.or_eq_true, beq_iff_eq, hne, false_or, Array.any_eq_true, Bool.and_eq_true] at this
  rcases this with (⟨k, hk, hb, he⟩ | ⟨k, hk, hb, he⟩) | this
  · exact absurd he (h1 _ (Array.getElem_mem hk) hb)
  · exact absurd he (h2 _ (Array.getElem_mem hk) hb)
  · exact this

/-- may number i come up? -/
def rdy (l : List Oper) (lst : List Bool) (i : Nat) : Bool := (Region.ready .any l.toArray lst.toArray).contains i

def TA (P : Program) (σ : World) (n : Nat) (l : List Oper) (Q : Exit → Act → World → Prop) (RO : Hp) (fuel : Nat) (lst : List Bool) (L : Env) (H : Hp) : Prop :=
  drawnOK l = true → ∀ a w, Fr n L a → Sat σ H w → Sat σ RO w → wpAnyH P .any l.toArray Q (Sat σ RO) fuel lst.toArray a w

section
variable {P : Program} {σ : World} {n : Nat} {L : Env} {H RO : Hp} {Q : Exit → Act → World → Prop} {l : List Oper} {fuel : Nat} {lst : List Bool}
  {op : Op} {ty : TypeId} {pos : String} {af : Array Edge} {d : Nat}

theorem T_draw {id : Nat} (m : Nat) (RO : Hp) (hi : Incl RO H) (hm : P.follows .mixedOrders = true) (ho : drawnOK l = true) (hlen : l.length = m) (hrep : List.replicate m false = lst)
    (k : TA P σ n l Q RO m lst L H) : T σ n L H ((Code.region id l.toArray true).wp P Q) := fun a w fr st =>
  wp_region_held (S := Sat σ RO) hm (by
    have := k ho a _ fr st.drew (st.incl hi).drew
    subst hlen; subst hrep
    simpa using this)

theorem set_toArray (lst : List Bool) (i : Nat) : lst.toArray.setIfInBounds i true = (lst.set i true).toArray := by
  apply Array.ext'; simp

theorem TA_yields (i : Nat) (lst' : List Bool) {o : Oper} {v : Value} (hi : l[i]? = some o) (hl' : lst.set i true = lst') (hr : rdy l lst i = true)
    (hQ : ∀ c a w, Q (.panic c) (a.put o.dst v) w → Q (.panic c) a w) (hy : ∀ a, Fr n L a → YieldsIf P l.toArray (Sat σ RO) o v a)
    {L' : Env} (hf : ∀ a, Fr n L a → Fr n L' (a.put o.dst v))
    (k : TA P σ n l Q RO fuel lst' L' H) : TA P σ n l Q RO (fuel + 1) lst L H := fun ho a w fr st ro => by
  have ho' := ho
  simp only [drawnOK, Bool.and_eq_true] at ho'
  have hr' : i ∈ Region.ready .any l.toArray lst.toArray := by simpa [rdy] using hr
  refine wpAnyH_first (i := i) (oi := o) (v := v) (by simpa using hi) (fun j oj cs b hj => Region.noSelect_spec ho'.1 j oj cs b hj) hQ fuel lst.toArray a w ?_ hr' (hy a fr) ro ?_
  · intro j oj hj hne hun hno
    refine drawnOK_apart ho hi (by simpa using hj) hne hno (fun e he hb heq => ?_)
    obtain ⟨_, o2, ho2, hall⟩ := mem_ready.1 hr'
    have e2 : o2 = o := by
      have : l[i]? = some o2 := by simpa using ho2
      rw [hi] at this; exact (Option.some.inj this).symm
    subst e2
    have hl := hall e he hb
    rw [heq] at hl
    rcases Nat.lt_or_ge j lst.toArray.size with g | g
    · have g' : j < lst.length := by simpa using g
      simp [Array.getD_eq_getD_getElem?, List.getElem?_eq_getElem g'] at hun hl
      rw [hun] at hl; cases hl
    · simp [Array.getD_eq_getD_getElem?, Array.getElem?_eq_none g] at hun
  · rw [set_toArray, hl']; exact k ho _ w (hf a fr) st ro

theorem TA_take (i : Nat) (lst' : List Bool) {v : Value} (hi : l[i]? = some ⟨some d, op, ty, pos, af, none⟩) (hl' : lst.set i true = lst') (hr : rdy l lst i = true)
    (hQ : ∀ c a w, Q (.panic c) (a.put (some d) v) w → Q (.panic c) a w) (hy : Yld P σ L RO op ty v) (hd : Nat.blt d n = true)
    (k : TA P σ n l Q RO fuel lst' ((d, v) :: L) H) : TA P σ n l Q RO (fuel + 1) lst L H :=
  TA_yields i lst' hi hl' hr hQ (fun a fr => .inl ⟨by simp [Region.wanted], fun w hs => by rw [execOp_opRun]; exact hy a.eval w fr.rho hs⟩) (fun a fr => fr.put hd) k

theorem TA_take_on (i : Nat) (lst' : List Bool) {v u : Value} {j : Nat} {b : Bool} (hi : l[i]? = some ⟨some d, op, ty, pos, af, some (j, b)⟩) (hl' : lst.set i true = lst') (hr : rdy l lst i = true)
    (hg : gval l.toArray L j = some u) (hb : isB u b = true)
    (hQ : ∀ c a w, Q (.panic c) (a.put (some d) v) w → Q (.panic c) a w) (hy : Yld P σ L RO op ty v) (hd : Nat.blt d n = true)
    (k : TA P σ n l Q RO fuel lst' ((d, v) :: L) H) : TA P σ n l Q RO (fuel + 1) lst L H :=
  TA_yields i lst' hi hl' hr hQ (fun a fr => .inl ⟨by simp only [Region.wanted]; rw [yielded_of fr hg b, hb], fun w hs => by rw [execOp_opRun]; exact hy a.eval w fr.rho hs⟩) (fun a fr => fr.put hd) k

theorem TA_take_off (i : Nat) (lst' : List Bool) {u : Value} {j : Nat} {b : Bool} (hi : l[i]? = some ⟨some d, op, ty, pos, af, some (j, b)⟩) (hl' : lst.set i true = lst') (hr : rdy l lst i = true)
    (hg : gval l.toArray L j = some u) (hb : isB u b = false)
    (hQ : ∀ c a w, Q (.panic c) (a.put (some d) undef) w → Q (.panic c) a w) (hd : Nat.blt d n = true)
    (k : TA P σ n l Q RO fuel lst' ((d, undef) :: L) H) : TA P σ n l Q RO (fuel + 1) lst L H :=
  TA_yields i lst' hi hl' hr hQ (fun a fr => .inr ⟨by simp only [Region.wanted]; rw [yielded_of fr hg b, hb], rfl⟩) (fun a fr => fr.put hd) k

theorem TA_take_off0 (i : Nat) (lst' : List Bool) {u : Value} {j : Nat} {b : Bool} (hi : l[i]? = some ⟨none, op, ty, pos, af, some (j, b)⟩) (hl' : lst.set i true = lst') (hr : rdy l lst i = true)
    (hg : gval l.toArray L j = some u) (hb : isB u b = false) (hQ : ∀ c a w, Q (.panic c) a w → Q (.panic c) a w)
    (k : TA P σ n l Q RO fuel lst' L H) : TA P σ n l Q RO (fuel + 1) lst L H :=
  TA_yields (v := undef) i lst' hi hl' hr hQ (fun a fr => .inr ⟨by simp only [Region.wanted]; rw [yielded_of fr hg b, hb], rfl⟩) (fun a fr => fr) k

/-- of those that may come up, each is met in its turn -/
theorem TA_all (rs : List Nat) (hr : Region.ready .any l.toArray lst.toArray = rs) (hne : rs ≠ [])
    (h : ∀ i ∈ rs, drawnOK l = true → ∀ a w, Fr n L a → Sat σ H w → Sat σ RO w → wpOp P l.toArray Q i (fun a' w' => Sat σ RO w' ∧ wpAnyH P .any l.toArray Q (Sat σ RO) fuel (lst.set i true).toArray a' w') a w) :
    TA P σ n l Q RO (fuel + 1) lst L H := fun ho a w fr st ro => by
  refine wpAnyH_all hr hne (fun i hi => ?_)
  rw [set_toArray]
  exact h i hi ho a w fr st ro

/-- what acting operation number i leaves -/
def Acts (P : Program) (σ : World) (n : Nat) (l : List Oper) (Q : Exit → Act → World → Prop) (RO : Hp) (fuel : Nat) (lst' : List Bool) (L : Env) (H : Hp) (i : Nat) : Prop :=
  drawnOK l = true → ∀ a w, Fr n L a → Sat σ H w → Sat σ RO w → wpOp P l.toArray Q i (fun a' w' => Sat σ RO w' ∧ wpAnyH P .any l.toArray Q (Sat σ RO) fuel lst'.toArray a' w') a w

theorem TA_one (i : Nat) (l1 : List Bool) (e1 : lst.set i true = l1) (hr : Region.ready .any l.toArray lst.toArray = [i]) (h : Acts P σ n l Q RO fuel l1 L H i) : TA P σ n l Q RO (fuel + 1) lst L H :=
  TA_all [i] hr (by simp) (fun j hj => by simp only [List.mem_singleton] at hj; subst hj; subst e1; exact h)
theorem TA_two (i j : Nat) (l1 l2 : List Bool) (e1 : lst.set i true = l1) (e2 : lst.set j true = l2) (hr : Region.ready .any l.toArray lst.toArray = [i, j]) (h1 : Acts P σ n l Q RO fuel l1 L H i) (h2 : Acts P σ n l Q RO fuel l2 L H j) : TA P σ n l Q RO (fuel + 1) lst L H :=
  TA_all [i, j] hr (by simp) (fun k hk => by
    simp only [List.mem_cons, List.not_mem_nil, or_false] at hk
    rcases hk with rfl | rfl
    · subst e1; exact h1
    · subst e2; exact h2)
theorem TA_three (i j m : Nat) (l1 l2 l3 : List Bool) (e1 : lst.set i true = l1) (e2 : lst.set j true = l2) (e3 : lst.set m true = l3) (hr : Region.ready .any l.toArray lst.toArray = [i, j, m]) (h1 : Acts P σ n l Q RO fuel l1 L H i) (h2 : Acts P σ n l Q RO fuel l2 L H j) (h3 : Acts P σ n l Q RO fuel l3 L H m) : TA P σ n l Q RO (fuel + 1) lst L H :=
  TA_all [i, j, m] hr (by simp) (fun k hk => by
    simp only [List.mem_cons, List.not_mem_nil, or_false] at hk
    rcases hk with rfl | rfl | rfl
    · subst e1; exact h1
    · subst e2; exact h2
    · subst e3; exact h3)

theorem Acts_on {i j : Nat} {dst : Option Tmp} {b : Bool} {u : Value} (hi : l[i]? = some ⟨dst, op, ty, pos, af, some (j, b)⟩) (hg : gval l.toArray L j = some u) (hb : isB u b = true)
    (h : drawnOK l = true → ∀ a w, Fr n L a → Sat σ H w → Sat σ RO w → (⟨dst, op, ty, pos, af, none⟩ : Oper).wp P a w (fun a' w' => Sat σ RO w' ∧ wpAnyH P .any l.toArray Q (Sat σ RO) fuel lst.toArray a' w') Q) :
    Acts P σ n l Q RO fuel lst L H i := fun ho a w fr st ro => by
  unfold wpOp
  have hi' : l.toArray[i]? = some ⟨dst, op, ty, pos, af, some (j, b)⟩ := by simpa using hi
  simp only [hi']
  rw [if_pos (by simp only [Region.wanted]; rw [yielded_of fr hg b, hb])]
  exact .inl (h ho a w fr st ro)
theorem Acts_none {i : Nat} {dst : Option Tmp} (hi : l[i]? = some ⟨dst, op, ty, pos, af, none⟩)
    (h : drawnOK l = true → ∀ a w, Fr n L a → Sat σ H w → Sat σ RO w → (⟨dst, op, ty, pos, af, none⟩ : Oper).wp P a w (fun a' w' => Sat σ RO w' ∧ wpAnyH P .any l.toArray Q (Sat σ RO) fuel lst.toArray a' w') Q) :
    Acts P σ n l Q RO fuel lst L H i := fun ho a w fr st ro => by
  unfold wpOp
  have hi' : l.toArray[i]? = some ⟨dst, op, ty, pos, af, none⟩ := by simpa using hi
  simp only [hi']
  rw [if_pos (by simp [Region.wanted])]
  exact .inl (h ho a w fr st ro)

theorem A_e {R : Value → Hp → Prop} {K : List Bool} (he : Eff P σ L H op ty R) (hd : Nat.blt d n = true) (k : ∀ v H', R v H' → Incl RO H' ∧ TA P σ n l Q RO fuel K ((d, v) :: L) H') :
    drawnOK l = true → ∀ a w, Fr n L a → Sat σ H w → Sat σ RO w → (⟨some d, op, ty, pos, af, none⟩ : Oper).wp P a w (fun a' w' => Sat σ RO w' ∧ wpAnyH P .any l.toArray Q (Sat σ RO) fuel K.toArray a' w') Q :=
  fun ho a w fr st ro => by
    obtain ⟨v, w', H', hr, hR, hs⟩ := he a.eval w fr.rho st
    unfold Oper.wp
    rw [execOp_opRun, hr]
    obtain ⟨hin, kk⟩ := k v H' hR
    exact ⟨hs.incl hin, kk ho _ w' (fr.put hd) hs (hs.incl hin)⟩
theorem A_e0 {R : Value → Hp → Prop} {K : List Bool} (he : Eff P σ L H op ty R) (k : ∀ v H', R v H' → Incl RO H' ∧ TA P σ n l Q RO fuel K L H') :
    drawnOK l = true → ∀ a w, Fr n L a → Sat σ H w → Sat σ RO w → (⟨none, op, ty, pos, af, none⟩ : Oper).wp P a w (fun a' w' => Sat σ RO w' ∧ wpAnyH P .any l.toArray Q (Sat σ RO) fuel K.toArray a' w') Q :=
  fun ho a w fr st ro => by
    obtain ⟨v, w', H', hr, hR, hs⟩ := he a.eval w fr.rho st
    unfold Oper.wp
    rw [execOp_opRun, hr]
    obtain ⟨hin, kk⟩ := k v H' hR
    exact ⟨hs.incl hin, kk ho _ w' fr hs (hs.incl hin)⟩
theorem A_s {H' : Hp} {K : List Bool} (hst : Sto P σ L H op ty H') (hin : Incl RO H') (k : TA P σ n l Q RO fuel K L H') :
    drawnOK l = true → ∀ a w, Fr n L a → Sat σ H w → Sat σ RO w → (⟨none, op, ty, pos, af, none⟩ : Oper).wp P a w (fun a' w' => Sat σ RO w' ∧ wpAnyH P .any l.toArray Q (Sat σ RO) fuel K.toArray a' w') Q :=
  fun ho a w fr st ro => by
    obtain ⟨w', hr, hs⟩ := hst a.eval w fr.rho st
    unfold Oper.wp
    rw [execOp_opRun, hr]
    exact ⟨hs.incl hin, k ho _ w' fr hs (hs.incl hin)⟩
theorem A_call {f : FuncId} {xs : List Operand} {at_ : Array TypeId} {vs : List Value} {R : Value → Hp → Prop} {K : List Bool} [FBody P f] (hx : evl L xs = some vs) (hs : Spec P σ f vs H R)
    (hd : Nat.blt d n = true) (k : ∀ v H', R v H' → Incl RO H' ∧ TA P σ n l Q RO fuel K ((d, v) :: L) H') :
    drawnOK l = true → ∀ a w, Fr n L a → Sat σ H w → Sat σ RO w → (⟨some d, .call ⟨.value (.func f), xs.toArray, at_⟩, ty, pos, af, none⟩ : Oper).wp P a w (fun a' w' => Sat σ RO w' ∧ wpAnyH P .any l.toArray Q (Sat σ RO) fuel K.toArray a' w') Q :=
  fun ho a w fr st ro => by
    have hr : (execOp a.eval ⟨some d, .call ⟨.value (.func f), xs.toArray, at_⟩, ty, pos, af, none⟩).run P w = .ok (.enter f vs.toArray) w := by
      have hl := fr.rho.list hx
      simp [execOp, resolve, Deferred.ofValue, invoke, Act.eval, FBody.enter, hl]
    unfold Oper.wp
    rw [hr]
    refine (hs w st).mono fun e w' ⟨v, H', he, hR, hst⟩ => ?_
    subst he
    obtain ⟨hin, kk⟩ := k v H' hR
    exact ⟨hst.incl hin, kk ho _ w' (fr.put hd) hst (hst.incl hin)⟩
theorem A_fcall {x : Operand} {f : FuncId} {cap : Array Value} {xs : List Operand} {at_ : Array TypeId} {vs : List Value} {R : Value → Hp → Prop} {K : List Bool} [FBody P f] (hf : evo L x = some (.func (.func f) #[] cap))
    (hx : evl L xs = some vs) (hs : Spec P σ f (vs ++ cap.toList) H R)
    (hd : Nat.blt d n = true) (k : ∀ v H', R v H' → Incl RO H' ∧ TA P σ n l Q RO fuel K ((d, v) :: L) H') :
    drawnOK l = true → ∀ a w, Fr n L a → Sat σ H w → Sat σ RO w → (⟨some d, .call ⟨.value x, xs.toArray, at_⟩, ty, pos, af, none⟩ : Oper).wp P a w (fun a' w' => Sat σ RO w' ∧ wpAnyH P .any l.toArray Q (Sat σ RO) fuel K.toArray a' w') Q :=
  fun ho a w fr st ro => by
    have hr : (execOp a.eval ⟨some d, .call ⟨.value x, xs.toArray, at_⟩, ty, pos, af, none⟩).run P w = .ok (.enter f (vs ++ cap.toList).toArray) w := by
      have hl := fr.rho.list hx
      have hf' := fr.rho x _ hf
      have e : (vs ++ cap.toList).toArray = vs.toArray ++ cap := by apply Array.ext'; simp
      simp [execOp, resolve, Deferred.ofValue, invoke, hf', FBody.enter, hl, e]
    unfold Oper.wp
    rw [hr]
    refine (hs w st).mono fun e w' ⟨v, H', he, hR, hst⟩ => ?_
    subst he
    obtain ⟨hin, kk⟩ := k v H' hR
    exact ⟨hst.incl hin, kk ho _ w' (fr.put hd) hst (hst.incl hin)⟩

theorem TA_cmp (i : Nat) (lst' : List Bool) {p : Prop} {dp : Decidable p} (hi : l[i]? = some ⟨some d, op, ty, pos, af, none⟩) (hl' : lst.set i true = lst') (hr : rdy l lst i = true)
    (hQ : ∀ v c a w, Q (.panic c) (a.put (some d) v) w → Q (.panic c) a w) (hy : Yld P σ L RO op ty (.bool (decide p))) (hd : Nat.blt d n = true)
    (k1 : p → TA P σ n l Q RO fuel lst' ((d, .bool true) :: L) H) (k2 : ¬ p → TA P σ n l Q RO fuel lst' ((d, .bool false) :: L) H) : TA P σ n l Q RO (fuel + 1) lst L H := by
  by_cases h : p
  · exact TA_take i lst' hi hl' hr (hQ _) (by rw [decide_eq_true h] at hy; exact hy) hd (k1 h)
  · exact TA_take i lst' hi hl' hr (hQ _) (by rw [decide_eq_false h] at hy; exact hy) hd (k2 h)
theorem TA_cmp_on (i : Nat) (lst' : List Bool) {p : Prop} {dp : Decidable p} {u : Value} {j : Nat} {b : Bool} (hi : l[i]? = some ⟨some d, op, ty, pos, af, some (j, b)⟩) (hl' : lst.set i true = lst') (hr : rdy l lst i = true)
    (hg : gval l.toArray L j = some u) (hb : isB u b = true)
    (hQ : ∀ v c a w, Q (.panic c) (a.put (some d) v) w → Q (.panic c) a w) (hy : Yld P σ L RO op ty (.bool (decide p))) (hd : Nat.blt d n = true)
    (k1 : p → TA P σ n l Q RO fuel lst' ((d, .bool true) :: L) H) (k2 : ¬ p → TA P σ n l Q RO fuel lst' ((d, .bool false) :: L) H) : TA P σ n l Q RO (fuel + 1) lst L H := by
  by_cases h : p
  · exact TA_take_on i lst' hi hl' hr hg hb (hQ _) (by rw [decide_eq_true h] at hy; exact hy) hd (k1 h)
  · exact TA_take_on i lst' hi hl' hr hg hb (hQ _) (by rw [decide_eq_false h] at hy; exact hy) hd (k2 h)

theorem wpAnyH_mono {ops : Array Oper} {S S' : World → Prop} (h : ∀ w, S' w → S w) : ∀ (fuel : Nat) (listed : Array Bool) (a : Act) (w : World),
    wpAnyH P .any ops Q S' fuel listed a w → wpAnyH P .any ops Q S fuel listed a w
  | 0, _, _, _, k => k
  | fuel + 1, _, _, _, k => ⟨k.1, fun i hi => wpOp_mono (fun a' w' h' => ⟨h w' h'.1, wpAnyH_mono h fuel _ a' w' h'.2⟩) (k.2 i hi)⟩

/-- more chunks are kept from here on -/
theorem TA_grow (RO' : Hp) (h1 : Incl RO RO') (h2 : Incl RO' H) (k : TA P σ n l Q RO' fuel lst L H) : TA P σ n l Q RO fuel lst L H := fun ho a w fr st ro =>
  wpAnyH_mono (fun w' hs => hs.incl h1) fuel _ a w (k ho a w fr st (st.incl h2))

theorem TA_done (hr : Region.ready .any l.toArray lst.toArray = []) (k : T σ n L H (Q .normal)) : TA P σ n l Q RO fuel lst L H :=
  fun _ a w fr st _ => wpAnyH_done hr (k a w fr st) fuel
end
end Go.Proofs.YtgolmieejhohdaaDoor.Sl
