/-
  Structs compared: a struct against itself.
-/
import Derived.Test.YtgolmieejhohdaaDoorFw5
import Derived.Laws.StructEq
namespace Go.Proofs.YtgolmieejhohdaaDoor.Sl
open Go.RowKit
set_option autoImplicit false
set_option linter.unusedVariables false
set_option linter.unusedSimpArgs false

section
variable {P : Program} {σ : World} {L : Env} {H : Hp} {ty : TypeId}

/-- field by field -/
theorem eqF_nil (d : Nat) (xs ys : Array Value) (w : World) : (Op.eqFields d xs ys []).run P w = .ok true w := by simp [Op.eqFields]
theorem eqF_cons {d : Nat} {xs ys : Array Value} {f : Field} {fs : List Field} {w : World} {a b : Value} {r r' : Bool} (hn : f.name ≠ "_") (ha : (part f.type xs f.offset).run P w = .ok a w) (hb : (part f.type ys f.offset).run P w = .ok b w)
    (hr : (Op.equalIn d f.type a b).run P w = .ok r w) (h : (Op.eqFields d xs ys fs).run P w = .ok r' w) : (Op.eqFields d xs ys (f :: fs)).run P w = .ok (r && r') w := by
  rw [Op.eqFields, if_pos hn]
  simp only [Sem.run_bind, ha, hb, hr, Result.andThen_ok]
  cases r
  · simp
  · simp [h]
theorem part1 {t sz : Nat} [TAgg P t false sz] {xs : Array Value} {off : Nat} {v : Value} {w : World} (h : xs.toList[off]? = some v) : (part t xs off).run P w = .ok v w := by
  have h : xs[off]? = some v := by rw [← h]; simp
  simp [part, TAgg.agg (P := P) (t := t), h]
theorem partN {t sz : Nat} [TAgg P t true sz] {xs cs : Array Value} {off : Nat} {w : World} (h : off + sz ≤ xs.size) (hc : xs.extract off (off + sz) = cs) : (part t xs off).run P w = .ok (.agg cs) w := by
  have : ¬ xs.size < off + sz := by omega
  simp [part, TAgg.agg (P := P) (t := t), TAgg.size (P := P) (t := t), hc, this]
theorem eq_int {d t : Nat} {k : IntKind} [TInt P t k] (a b : Int) (w : World) : (Op.equalIn (d + 1) t (.int k a) (.int k b)).run P w = .ok (a == b) w := run_equalIn_int w d t k k a b (TInt.under (P := P) (t := t))
theorem eq_str {d t : Nat} [TStr P t] (a b : ByteArray) (w : World) : (Op.equalIn (d + 1) t (.string a) (.string b)).run P w = .ok (a == b) w := by
  rw [run_equalIn_string w d t a b (TStr.under (P := P) (t := t)), beq_toListBytes]
theorem eq_agg {d t : Nat} {xs ys : Array Value} {fs : Array Field} {b : Bool} {w : World} (hu : P.underlying t = some (.struct fs)) (hp : P.stoodInHeld t = false) (h : (Op.eqFields d xs ys fs.toList).run P w = .ok b w) :
    (Op.equalIn (d + 1) t (.agg xs) (.agg ys)).run P w = .ok b w := by
  have e : P.fieldsOf t = fs := by unfold Program.fieldsOf; rw [hu]
  rw [run_equalIn_agg w d t xs ys (by rw [e]; exact hu) hp, e]; exact h

theorem y_aggeq {t t' : TypeId} {x y : Operand} {xs ys : Array Value} {b : Bool} (hx : evo L x = some (.agg xs)) (hy : evo L y = some (.agg ys)) (he : ∀ w, (Op.equalIn 10000 t (.agg xs) (.agg ys)).run P w = .ok b w) (hm : P.eqGuardType P.depth t = false) :
    Yld P σ L H (.binOp .eql t x y t') ty (.bool b) := fun ρ w hr st => by
  simp [opRun, execOp, hr x _ hx, hr y _ hy, run_eqGuard_agg w .eql t x y xs ys hm, run_eql_struct w t xs ys, he]
theorem y_aggneq {t t' : TypeId} {x y : Operand} {xs ys : Array Value} {b : Bool} (hx : evo L x = some (.agg xs)) (hy : evo L y = some (.agg ys)) (he : ∀ w, (Op.equalIn 10000 t (.agg xs) (.agg ys)).run P w = .ok b w) (hm : P.eqGuardType P.depth t = false) :
    Yld P σ L H (.binOp .neq t x y t') ty (.bool (!b)) := fun ρ w hr st => by
  simp [opRun, execOp, hr x _ hx, hr y _ hy, run_eqGuard_agg w .neq t x y xs ys hm, run_neq_struct w t xs ys, he]
end
end Go.Proofs.YtgolmieejhohdaaDoor.Sl
