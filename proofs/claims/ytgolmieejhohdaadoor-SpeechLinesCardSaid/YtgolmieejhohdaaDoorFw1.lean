/-
  The frame of these proofs: a small separation logic over the guide's weakest preconditions.
  'Fr': which temporaries hold what. 'Sat': which blocks of the heap hold what (chunks of blocks, all apart). 'T': from such a state on, X holds.
-/
import Derived.OrdersHeld
import Derived.Tactics
import Derived.Below
import Derived.KernelRfl
import Derived.Laws.Rows
namespace Go.Proofs.YtgolmieejhohdaaDoor.Sl
open Go.RowKit
set_option autoImplicit false
set_option linter.unusedVariables false
set_option linter.unusedSimpArgs false

/-! ### Temporaries -/
abbrev Env := List (Nat × Value)
def eget : Env → Nat → Option Value
  | [], _ => none
  | (k, v) :: r, i => bif Nat.beq k i then some v else eget r i

def evo (L : Env) : Operand → Option Value
  | .tmp t => eget L t
  | .const v => some v
  | .global g => some (.pointer (some ⟨g, 0, none⟩))
  | .func f => some (.func (.func f) #[] #[])

def evl (L : Env) : List Operand → Option (List Value)
  | [] => some []
  | x :: r => match evo L x, evl L r with
    | some v, some vs => some (v :: vs)
    | _, _ => none

structure Fr (n : Nat) (L : Env) (a : Act) : Prop where
  size : a.tmps.size = n
  defers : a.defers = []
  get : ∀ i v, eget L i = some v → a.tmps.getD i undef = v

/-- what the operands are worth in a frame -/
def Rho (L : Env) (ρ : Operand → Value) : Prop := ∀ x v, evo L x = some v → ρ x = v

theorem Fr.rho {n : Nat} {L : Env} {a : Act} (h : Fr n L a) : Rho L a.eval := by
  intro x v hx
  cases x with
  | tmp t => exact h.get t v hx
  | const u => simpa [evo, Act.eval] using hx
  | global g => simpa [evo, Act.eval] using hx
  | func f => simpa [evo, Act.eval] using hx

theorem Rho.list {L : Env} {ρ : Operand → Value} (h : Rho L ρ) : ∀ {xs : List Operand} {vs : List Value}, evl L xs = some vs → xs.map ρ = vs
  | [], vs, e => by simp only [evl, Option.some.injEq] at e; subst e; rfl
  | x :: r, vs, e => by
    unfold evl at e
    cases hx : evo L x with
    | none => simp [hx] at e
    | some v =>
      cases hr : evl L r with
      | none => simp [hx, hr] at e
      | some us =>
        simp only [hx, hr, Option.some.injEq] at e
        subst e
        simp [h x v hx, h.list hr]

theorem eget_cons (k : Nat) (v : Value) (L : Env) (i : Nat) : eget ((k, v) :: L) i = if k = i then some v else eget L i := by
  have e : eget ((k, v) :: L) i = bif Nat.beq k i then some v else eget L i := rfl
  rw [e]
  by_cases h : k = i
  · subst h; simp
  · have : Nat.beq k i = false := by
      cases hb : Nat.beq k i with
      | false => rfl
      | true => exact absurd (Nat.eq_of_beq_eq_true hb) h
    rw [if_neg h, this]; rfl

theorem Fr.put {n : Nat} {L : Env} {a : Act} {d : Nat} {v : Value} (h : Fr n L a) (hd : Nat.blt d n = true) : Fr n ((d, v) :: L) (a.put (some d) v) := by
  have hd' : d < n := by simpa [Nat.blt_eq] using hd
  refine ⟨by simp [Act.put, h.size], h.defers, fun i u hu => ?_⟩
  rw [eget_cons] at hu
  by_cases e : d = i
  · subst e
    simp only [if_true, Option.some.injEq] at hu
    subst hu
    simp [Act.put, h.size, hd']
  · rw [if_neg e] at hu
    have := h.get i u hu
    simp only [Act.put, Array.getD_eq_getD_getElem?, Array.getElem?_setIfInBounds] at this ⊢
    rw [if_neg e]; exact this

theorem Fr.put_none {n : Nat} {L : Env} {a : Act} {v : Value} (h : Fr n L a) : Fr n L (a.put none v) := h

inductive ESub : Env → Env → Prop
  | nil {L : Env} : ESub [] L
  | cons {k : Nat} {v : Value} {r L : Env} (h : eget L k = some v) (t : ESub r L) : ESub ((k, v) :: r) L

theorem eget_int {L : Env} {k : Nat} {kd : IntKind} {a b : Int} (h : eget L k = some (.int kd a)) (e : a = b) : eget L k = some (.int kd b) := e ▸ h

theorem ESub.get {A L : Env} (h : ESub A L) : ∀ i v, eget A i = some v → eget L i = some v := by
  induction h with
  | nil => intro i v e; simp [eget] at e
  | cons hk _ ih =>
    intro i v e
    rw [eget_cons] at e
    split at e
    · rename_i hi; subst hi; rw [← e]; exact hk
    · exact ih i v e

theorem Fr.sub {n : Nat} {L A : Env} {a : Act} (h : Fr n L a) (s : ESub A L) : Fr n A a :=
  ⟨h.size, h.defers, fun i v e => h.get i v (s.get i v e)⟩

/-! ### The heap -/
abbrev Blk := Nat × Obj
abbrev Hp := List (List Blk)

structure Sat (σ : World) (H : Hp) (w : World) : Prop where
  tape : w.tape = σ.tape
  os : w.os = σ.os
  out : w.output = σ.output
  nodup : (H.flatten.map Prod.fst).Nodup
  has : ∀ p ∈ H.flatten, w.heap[p.1]? = some p.2

/-- C is one of H's chunks, R the others -/
inductive Pick (C : List Blk) : Hp → Hp → Prop
  | here {R : Hp} : Pick C (C :: R) R
  | there {D : List Blk} {H R : Hp} (h : Pick C H R) : Pick C (D :: H) (D :: R)

/-- H's chunks in another order -/
inductive Arr : Hp → Hp → Prop
  | nil {H : Hp} : Arr H H
  | cons {C : List Blk} {H R T : Hp} (h : Pick C H R) (t : Arr R T) : Arr H (C :: T)

/-- some of H's chunks -/
inductive Incl : Hp → Hp → Prop
  | nil {H : Hp} : Incl [] H
  | cons {C : List Blk} {H R T : Hp} (h : Pick C H R) (t : Incl T R) : Incl (C :: T) H
  | refl {H : Hp} : Incl H H
  | skip {C : List Blk} {H T : Hp} (t : Incl T H) : Incl T (C :: H)
  | empty {H T : Hp} (t : Incl T H) : Incl ([] :: T) H

inductive InH (b : Nat) (o : Obj) : Hp → Prop
  | here {R : Hp} : InH b o ([(b, o)] :: R)
  | there {D : List Blk} {R : Hp} (h : InH b o R) : InH b o (D :: R)
  | chunk {D : List Blk} {R : Hp} (h : (b, o) ∈ D) : InH b o (D :: R)

theorem Pick.perm {C : List Blk} {H R : Hp} (h : Pick C H R) : H.Perm (C :: R) := by
  induction h with
  | here => exact .refl _
  | there _ ih => exact ((List.Perm.cons _ ih).trans (List.Perm.swap _ _ _))

theorem Arr.perm {H T : Hp} (h : Arr H T) : H.Perm T := by
  induction h with
  | nil => exact .refl _
  | cons hp _ ih => exact hp.perm.trans (List.Perm.cons _ ih)

theorem Incl.perm {T H : Hp} (h : Incl T H) : ∃ R : List Blk, H.flatten.Perm (T.flatten ++ R) := by
  induction h with
  | @nil H => exact ⟨H.flatten, .refl _⟩
  | @cons C H R T hp _ ih =>
    obtain ⟨R', hr⟩ := ih
    refine ⟨R', hp.perm.flatten.trans ?_⟩
    simp only [List.flatten_cons, List.append_assoc]
    exact List.Perm.append_left _ hr
  | @refl H => exact ⟨[], by simp⟩
  | @skip C H T _ ih =>
    obtain ⟨R, hr⟩ := ih
    refine ⟨C ++ R, ?_⟩
    simp only [List.flatten_cons]
    refine (List.Perm.append_left _ hr).trans ?_
    rw [← List.append_assoc, ← List.append_assoc]
    exact List.Perm.append_right _ List.perm_append_comm
  | @empty H T _ ih => obtain ⟨R, hr⟩ := ih; exact ⟨R, by simpa using hr⟩

theorem InH.mem {b : Nat} {o : Obj} {H : Hp} (h : InH b o H) : (b, o) ∈ H.flatten := by
  induction h with
  | here => simp
  | there _ ih => simp only [List.flatten_cons, List.mem_append]; exact .inr ih
  | chunk h => simp only [List.flatten_cons, List.mem_append]; exact .inl h

theorem Sat.perm {σ : World} {H T : Hp} {w : World} (h : Sat σ H w) (p : H.Perm T) : Sat σ T w := by
  have q : H.flatten.Perm T.flatten := p.flatten
  exact ⟨h.tape, h.os, h.out, (q.map Prod.fst).nodup_iff.1 h.nodup, fun x hx => h.has x (q.mem_iff.2 hx)⟩

theorem Sat.arr {σ : World} {H T : Hp} {w : World} (h : Sat σ H w) (p : Arr H T) : Sat σ T w := h.perm p.perm

theorem Sat.left {σ : World} {A B : Hp} {w : World} (h : Sat σ (A ++ B) w) : Sat σ A w := by
  refine ⟨h.tape, h.os, h.out, ?_, fun x hx => h.has x ?_⟩
  · have := h.nodup; rw [List.flatten_append, List.map_append] at this; exact (List.nodup_append.1 this).1
  · rw [List.flatten_append]; exact List.mem_append.2 (.inl hx)

theorem Sat.incl {σ : World} {H T : Hp} {w : World} (h : Sat σ H w) (p : Incl T H) : Sat σ T w := by
  obtain ⟨R, hr⟩ := p.perm
  refine ⟨h.tape, h.os, h.out, ?_, fun x hx => h.has x (hr.mem_iff.2 (List.mem_append.2 (.inl hx)))⟩
  have := (hr.map Prod.fst).nodup_iff.1 h.nodup
  rw [List.map_append] at this
  exact (List.nodup_append.1 this).1

theorem Sat.block {σ : World} {H : Hp} {w : World} {b : Nat} {o : Obj} (h : Sat σ H w) (i : InH b o H) : w.heap[b]? = some o := h.has _ i.mem

theorem Sat.drew {σ : World} {H : Hp} {w : World} (h : Sat σ H w) : Sat σ H { w with drawn := w.drawn + 1 } := ⟨h.tape, h.os, h.out, h.nodup, h.has⟩

theorem Sat.new {σ : World} {H : Hp} {w : World} (h : Sat σ H w) (o : Obj) : Sat σ ([(w.heap.size, o)] :: H) { w with heap := w.heap.push o } := by
  have lt : ∀ p ∈ H.flatten, p.1 < w.heap.size := fun p hp => by
    have := h.has p hp
    rcases Nat.lt_or_ge p.1 w.heap.size with g | g
    · exact g
    · rw [Array.getElem?_eq_none g] at this; cases this
  refine ⟨h.tape, h.os, h.out, ?_, fun p hp => ?_⟩
  · simp only [List.flatten_cons, List.singleton_append, List.map_cons, List.nodup_cons]
    refine ⟨fun hm => ?_, h.nodup⟩
    obtain ⟨p, hp, e⟩ := List.mem_map.1 hm
    have := lt p hp
    omega
  · simp only [List.flatten_cons, List.singleton_append, List.mem_cons] at hp
    rcases hp with rfl | hp
    · simp
    · have := lt p hp
      show (w.heap.push o)[p.1]? = _
      rw [Array.getElem?_push, if_neg (by omega)]
      exact h.has p hp

/-- one block of the heap turns -/
theorem Sat.turn {σ : World} {R : Hp} {w w' : World} {b : Nat} {o o' : Obj} (h : Sat σ ([(b, o)] :: R) w)
    (ht : w'.tape = w.tape) (ho : w'.os = w.os) (hu : w'.output = w.output) (hb : w'.heap[b]? = some o') (hk : ∀ i, i ≠ b → w'.heap[i]? = w.heap[i]?) :
    Sat σ ([(b, o')] :: R) w' := by
  have nd := h.nodup
  simp only [List.flatten_cons, List.singleton_append, List.map_cons, List.nodup_cons] at nd
  refine ⟨ht.trans h.tape, ho.trans h.os, hu.trans h.out, ?_, fun p hp => ?_⟩
  · simp only [List.flatten_cons, List.singleton_append, List.map_cons, List.nodup_cons]; exact nd
  · simp only [List.flatten_cons, List.singleton_append, List.mem_cons] at hp
    rcases hp with rfl | hp
    · exact hb
    · have hne : p.1 ≠ b := fun e => nd.1 (e ▸ List.mem_map.2 ⟨p, hp, rfl⟩)
      rw [hk _ hne]
      exact h.has p (by simp only [List.flatten_cons, List.singleton_append, List.mem_cons]; exact .inr hp)

theorem Sat.setCell {σ : World} {R : Hp} {w : World} {b off : Nat} {arr : Array Value} {E : TypeId} {fz : Nat × Nat} (v : Value)
    (h : Sat σ ([(b, .cells arr E fz)] :: R) w) : Sat σ ([(b, .cells (arr.setIfInBounds off v) E fz)] :: R) (w.setCell ⟨b, off, none⟩ v) := by
  have hb := h.block .here
  refine h.turn rfl rfl rfl ?_ (fun i hi => ?_)
  · simp only [World.setCell, Array.getElem?_modify, if_true, hb, Option.map_some]; rfl
  · simp only [World.setCell, Array.getElem?_modify]; rw [if_neg (by omega)]

theorem Sat.setObj {σ : World} {R : Hp} {w : World} {b : Nat} {o : Obj} (o' : Obj)
    (h : Sat σ ([(b, o)] :: R) w) : Sat σ ([(b, o')] :: R) { w with heap := w.heap.setIfInBounds b o' } := by
  have hb := h.block .here
  have hlt : b < w.heap.size := by
    rcases Nat.lt_or_ge b w.heap.size with g | g
    · exact g
    · rw [Array.getElem?_eq_none g] at hb; cases hb
  refine h.turn rfl rfl rfl ?_ (fun i hi => ?_)
  · simp [hlt]
  · simp only [Array.getElem?_setIfInBounds]; rw [if_neg (by omega)]

theorem Sat.lt {σ : World} {H : Hp} {w : World} {b : Nat} {o : Obj} (h : Sat σ H w) (i : InH b o H) : b < w.heap.size := by
  have hb := h.block i
  rcases Nat.lt_or_ge b w.heap.size with g | g
  · exact g
  · rw [Array.getElem?_eq_none g] at hb; cases hb

theorem Sat.below {σ : World} {H : Hp} {w w' : World} (h : Sat σ H w) (hb : Below w.heap.size w w') : Sat σ H w' := by
  refine ⟨hb.tape.trans h.tape, hb.os.trans h.os, hb.output.trans h.out, h.nodup, fun p hp => ?_⟩
  have := h.has p hp
  have hlt : p.1 < w.heap.size := by
    rcases Nat.lt_or_ge p.1 w.heap.size with g | g
    · exact g
    · rw [Array.getElem?_eq_none g] at this; cases this
  rw [hb.block _ hlt]; exact this

theorem Sat.cell {σ : World} {H : Hp} {w : World} {b off : Nat} {arr : Array Value} {E : TypeId} {fz : Nat × Nat} (h : Sat σ H w)
    (i : InH b (.cells arr E fz) H) : w.cell? ⟨b, off, none⟩ = arr[off]? := by
  simp [World.cell?, h.block i]

theorem Sat.frozen {σ : World} {H : Hp} {w : World} {b off lo hi : Nat} {arr : Array Value} {E : TypeId} (h : Sat σ H w)
    (i : InH b (.cells arr E (lo, hi)) H) : w.frozen? ⟨b, off, none⟩ = (decide (lo ≤ off) && decide (off < hi)) := by
  simp [World.frozen?, h.block i]

/-- all that lay in a world, as one chunk -/
def old (w : World) : List Blk := (List.range w.heap.size).map fun i => (i, w.heap.getD i default)

theorem mem_old {w : World} {b : Nat} {o : Obj} (h : w.heap[b]? = some o) : (b, o) ∈ old w := by
  have hlt : b < w.heap.size := by
    rcases Nat.lt_or_ge b w.heap.size with g | g
    · exact g
    · rw [Array.getElem?_eq_none g] at h; cases h
  refine List.mem_map.2 ⟨b, List.mem_range.2 hlt, ?_⟩
  simp [Array.getD_eq_getD_getElem?, h]

theorem Sat.start (w : World) : Sat w [old w] w := by
  refine ⟨rfl, rfl, rfl, ?_, fun p hp => ?_⟩
  · simp only [old, List.flatten_cons, List.flatten_nil, List.append_nil, List.map_map]
    have : (Prod.fst ∘ fun i => ((i, w.heap.getD i default) : Blk)) = id := rfl
    rw [this, List.map_id]; exact List.nodup_range
  · simp only [old, List.flatten_cons, List.flatten_nil, List.append_nil, List.mem_map, List.mem_range] at hp
    obtain ⟨i, hi, rfl⟩ := hp
    simp [Array.getD_eq_getD_getElem?, hi]

theorem Sat.end_below {w w' : World} {R : Hp} (h : Sat w (old w :: R) w') : Below w.heap.size w w' := by
  have key : ∀ k, k < w.heap.size → w'.heap[k]? = w.heap[k]? := fun k hk => by
    have := h.has (k, w.heap.getD k default) (by
      simp only [List.flatten_cons, List.mem_append]
      exact .inl (List.mem_map.2 ⟨k, List.mem_range.2 hk, rfl⟩))
    rw [this]; simp [Array.getD_eq_getD_getElem?, hk]
  refine ⟨h.os, h.tape, h.out, ?_, key⟩
  rcases Nat.lt_or_ge w'.heap.size w.heap.size with g | g
  · have := key w'.heap.size g
    rw [Array.getElem?_eq_none (Nat.le_refl _)] at this
    rw [Array.getElem?_eq_getElem g] at this
    cases this
  · exact g

/-! ### States -/
def T (σ : World) (n : Nat) (L : Env) (H : Hp) (X : Act → World → Prop) : Prop := ∀ a w, Fr n L a → Sat σ H w → X a w

section
variable {P : Program} {σ : World} {n : Nat} {L : Env} {H : Hp} {X : Act → World → Prop} {Q : Exit → Act → World → Prop}

theorem T_env {A : Env} (s : ESub A L) (k : T σ n A H X) : T σ n L H X := fun a w fr st => k a w (fr.sub s) st
theorem T_hp {H' : Hp} (s : Arr H H') (k : T σ n L H' X) : T σ n L H X := fun a w fr st => k a w fr (st.arr s)
theorem T_drop {H' : Hp} (s : Incl H' H) (k : T σ n L H' X) : T σ n L H X := fun a w fr st => k a w fr (st.incl s)

/-! ### Code -/
theorem T_seq {x y : Code} (k : T σ n L H (x.wp P (Exit.then (y.wp P Q) Q))) : T σ n L H ((Code.seq x y).wp P Q) := fun a w fr st => wp_seq (k a w fr st)
theorem T_skip (k : T σ n L H (Q .normal)) : T σ n L H (Code.skip.wp P Q) := fun a w fr st => wp_skip (k a w fr st)
theorem T_ret (k : T σ n L H (Q .ret)) : T σ n L H (Code.ret.wp P Q) := fun a w fr st => wp_ret (k a w fr st)
theorem T_exit {id : Nat} (k : T σ n L H (Q (.exit id))) : T σ n L H ((Code.exit id).wp P Q) := fun a w fr st => wp_exit (k a w fr st)
theorem T_block {id : Nat} {c : Code} (k : T σ n L H (c.wp P (Exit.inBlock id Q))) : T σ n L H ((Code.block id c).wp P Q) := fun a w fr st => wp_block (k a w fr st)
theorem T_region {id : Nat} {l : List Oper} (k : T σ n L H (wpList P l.toArray Q l)) : T σ n L H ((Code.region id l.toArray false).wp P Q) := fun a w fr st => wp_region_lit (k a w fr st)
theorem T_nil {ops : Array Oper} (k : T σ n L H (Q .normal)) : T σ n L H (wpList P ops Q []) := fun a w fr st => wpList_nil (k a w fr st)
theorem T_true {c : Operand} {x y : Code} (hc : evo L c = some (.bool true)) (k : T σ n L H (x.wp P Q)) : T σ n L H ((Code.cond c x y).wp P Q) :=
  fun a w fr st => wp_cond_true (fr.rho c _ hc) (k a w fr st)
theorem T_false {c : Operand} {x y : Code} (hc : evo L c = some (.bool false)) (k : T σ n L H (y.wp P Q)) : T σ n L H ((Code.cond c x y).wp P Q) :=
  fun a w fr st => wp_cond_false (fr.rho c _ hc) (k a w fr st)
theorem T_cond {c : Operand} {x y : Code} {t : Bool} (hc : evo L c = some (.bool t)) (k1 : t = true → T σ n L H (x.wp P Q)) (k2 : t = false → T σ n L H (y.wp P Q)) :
    T σ n L H ((Code.cond c x y).wp P Q) :=
  fun a w fr st => wp_cond_split (fr.rho c _ hc) (fun h => k1 h a w fr st) (fun h => k2 h a w fr st)

theorem T_then {Y : Act → World → Prop} (k : T σ n L H Y) : T σ n L H (Exit.then Y Q .normal) := k
theorem T_then_ret {Y : Act → World → Prop} (k : T σ n L H (Q .ret)) : T σ n L H (Exit.then Y Q .ret) := k
theorem T_then_exit {id : Nat} {Y : Act → World → Prop} (k : T σ n L H (Q (.exit id))) : T σ n L H (Exit.then Y Q (.exit id)) := k
theorem T_in {id : Nat} (k : T σ n L H (Q .normal)) : T σ n L H (Exit.inBlock id Q .normal) := k
theorem T_in_ret {id : Nat} (k : T σ n L H (Q .ret)) : T σ n L H (Exit.inBlock id Q .ret) := k
theorem T_in_exit {id id' : Nat} (h : id' = id) (k : T σ n L H (Q .normal)) : T σ n L H (Exit.inBlock id Q (.exit id')) := fun a w fr st => by
  show (if id' = id then Q .normal a w else Q (.exit id') a w)
  rw [if_pos h]; exact k a w fr st
theorem T_in_exit' {id id' : Nat} (h : Nat.beq id' id = false) (k : T σ n L H (Q (.exit id'))) : T σ n L H (Exit.inBlock id Q (.exit id')) := fun a w fr st => by
  show (if id' = id then Q .normal a w else Q (.exit id') a w)
  rw [if_neg (fun e => by subst e; simp at h)]; exact k a w fr st

/-- the walk behind an 'if', where its ways meet again: M says in which states. -/
theorem T_meet {ι : Type} {x : Code} (M : ι → Prop) (Lf : ι → Env) (Hf : ι → Hp)
    (k1 : T σ n L H (x.wp P (Exit.then (fun a w => ∃ i, M i ∧ Fr n (Lf i) a ∧ Sat σ (Hf i) w) Q)))
    {y : Code} (k2 : ∀ i, M i → T σ n (Lf i) (Hf i) (y.wp P Q)) : T σ n L H ((Code.seq x y).wp P Q) := fun a w fr st =>
  wp_seq (wp_mono (k1 a w fr st) (fun e a' w' h => by
    cases e <;> first | exact h | (obtain ⟨i, hi, f, s⟩ := h; exact k2 i hi a' w' f s)))

theorem T_met {ι : Type} {M : ι → Prop} {Lf : ι → Env} {Hf : ι → Hp} (i : ι) (hM : M i) (hL : ESub (Lf i) L) (hH : Incl (Hf i) H) :
    T σ n L H (fun a w => ∃ i, M i ∧ Fr n (Lf i) a ∧ Sat σ (Hf i) w) := fun _ _ fr st => ⟨i, hM, fr.sub hL, st.incl hH⟩

def LoopEnd {ι : Type} (σ : World) (n : Nat) (I : ι → Prop) (m : ι → Nat) (Lf : ι → Env) (Hf : ι → Hp) (i : ι) (a : Act) (w : World) : Prop :=
  ∃ j, I j ∧ m j < m i ∧ Fr n (Lf j) a ∧ Sat σ (Hf j) w

theorem T_loop {ι : Type} {c : Code} (I : ι → Prop) (m : ι → Nat) (Lf : ι → Env) (Hf : ι → Hp) (i0 : ι) (hI : I i0) (hL : ESub (Lf i0) L) (hH : Incl (Hf i0) H)
    (body : ∀ i, I i → T σ n (Lf i) (Hf i) (c.wp P (Exit.then (LoopEnd σ n I m Lf Hf i) Q))) : T σ n L H ((Code.loop c).wp P Q) := by
  have key : ∀ k i, m i = k → I i → ∀ a w, Fr n (Lf i) a → Sat σ (Hf i) w → ∀ (b : Frame) (kk : List Item) (cs : List Frame),
      ∃ e a' w', Q e a' w' ∧ Arrives P (lone (b.at a (.code c :: .inLoop c :: kk)) cs w) b kk cs e a' w' := by
    intro k
    induction k using Nat.strongRecOn with
    | _ k ih =>
      intro i hk hi a w fr st b kk cs
      obtain ⟨e, a₁, w₁, hq, harr⟩ := body i hi a w fr st b (.inLoop c :: kk) cs
      cases e with
      | normal =>
        obtain ⟨j, hj, hlt, fr', st'⟩ := hq
        obtain ⟨e₂, a₂, w₂, hq₂, harr₂⟩ := ih (m j) (by omega) j rfl hj a₁ w₁ fr' st' b kk cs
        exact ⟨e₂, a₂, w₂, hq₂, .of_steps (Steps.trans harr (.one step_inLoop)) harr₂⟩
      | exit id => exact ⟨_, a₁, w₁, hq, .pass (x := .inLoop c) rfl (fun _ _ => .inl (by simp)) harr⟩
      | goto l => exact ⟨_, a₁, w₁, hq, .pass (x := .inLoop c) rfl (fun _ _ => .inl (by simp)) harr⟩
      | ret => exact ⟨_, a₁, w₁, hq, .pass (x := .inLoop c) rfl (fun _ _ => .inl (by simp)) harr⟩
      | panic ch => exact ⟨_, a₁, w₁, hq, .pass (x := .inLoop c) rfl (fun _ _ => .inl (by simp)) harr⟩
      | outgrown => exact ⟨_, a₁, w₁, hq, .pass (x := .inLoop c) rfl (fun _ _ => .inl (by simp)) harr⟩
  intro a w fr st b kk cs
  obtain ⟨e, a', w', hq, harr⟩ := key (m i0) i0 rfl hI a w (fr.sub hL) (st.incl hH) b kk cs
  exact ⟨e, a', w', hq, .of_steps (.one step_loop) harr⟩

theorem T_round {ι : Type} {I : ι → Prop} {m : ι → Nat} {Lf : ι → Env} {Hf : ι → Hp} {i : ι} (j : ι) (hI : I j) (hm : m j < m i) (hL : ESub (Lf j) L) (hH : Incl (Hf j) H) :
    T σ n L H (LoopEnd σ n I m Lf Hf i) := fun _ _ fr st => ⟨j, hI, hm, fr.sub hL, st.incl hH⟩
end
end Go.Proofs.YtgolmieejhohdaaDoor.Sl
