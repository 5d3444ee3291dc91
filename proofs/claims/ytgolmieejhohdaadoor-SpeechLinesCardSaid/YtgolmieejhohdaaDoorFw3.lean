/-
  The laws of single operations.
-/
import Derived.Test.YtgolmieejhohdaaDoorFw2
import Derived.IntWalk
namespace Go.Proofs.YtgolmieejhohdaaDoor.Sl
open Go.RowKit
set_option autoImplicit false
set_option linter.unusedVariables false
set_option linter.unusedSimpArgs false

theorem wrap_in (k : IntKind) (n : Int) (h1 : k.min ≤ n) (h2 : n ≤ k.max) : k.wrap n = n := by
  cases k <;> simp [IntKind.wrap, IntKind.min, IntKind.max, IntKind.bits, IntKind.signed] at * <;> (try split) <;> omega
theorem wrap_i64 {n : Int} (h1 : -9223372036854775808 ≤ n) (h2 : n ≤ 9223372036854775807) : IntKind.i64.wrap n = n := wrap_in .i64 n h1 h2
theorem wrap_u64 {n : Int} (h1 : 0 ≤ n) (h2 : n ≤ 18446744073709551615) : IntKind.u64.wrap n = n := wrap_in .u64 n h1 h2
theorem wrap_u32 {n : Int} (h1 : 0 ≤ n) (h2 : n ≤ 4294967295) : IntKind.u32.wrap n = n := wrap_in .u32 n h1 h2
theorem wrap_u8 {n : Int} (h1 : 0 ≤ n) (h2 : n ≤ 255) : IntKind.u8.wrap n = n := wrap_in .u8 n h1 h2
theorem wrap_i64_as {n m : Int} (h : n = m) (h1 : -9223372036854775808 ≤ m) (h2 : m ≤ 9223372036854775807) : IntKind.i64.wrap n = m := by rw [h]; exact wrap_i64 h1 h2
theorem wrap_of (k : IntKind) (n m : Int) (h : n = m) (h1 : k.min ≤ m) (h2 : m ≤ k.max) : k.wrap n = m := by rw [h]; exact wrap_in k m h1 h2

theorem toList_eq_iff (s t : ByteArray) : (s.toList == t.toList) = decide (s = t) := by
  rw [Bool.eq_iff_iff]
  simp only [beq_iff_eq, decide_eq_true_eq, ByteArray.toList_eq]
  constructor
  · intro h; exact ByteArray.ext (Array.ext' h)
  · intro h; rw [h]

section
variable {P : Program} {σ : World} {L : Env} {H : Hp} {ty : TypeId}

/-! ### what only moves -/
theorem y_move {x : Operand} {v : Value} (h : evo L x = some v) : Yld P σ L H (.move x) ty v := fun ρ w hr st => by
  simp [opRun, execOp, hr x v h]
theorem y_assign {x : Operand} {v : Value} (h : evo L x = some v) : Yld P σ L H (.assign x) ty v := fun ρ w hr st => by
  simp [opRun, execOp, hr x v h]
theorem y_pick_t {c a b : Operand} {v : Value} (hc : evo L c = some (.bool true)) (h : evo L a = some v) : Yld P σ L H (.pick c a b) ty v := fun ρ w hr st => by
  simp [opRun, execOp, hr c _ hc, hr a v h, asBool]
theorem y_pick_f {c a b : Operand} {v : Value} (hc : evo L c = some (.bool false)) (h : evo L b = some v) : Yld P σ L H (.pick c a b) ty v := fun ρ w hr st => by
  simp [opRun, execOp, hr c _ hc, hr b v h, asBool]
theorem y_pick {c a b : Operand} {t : Bool} {u v : Value} (hc : evo L c = some (.bool t)) (ha : evo L a = some u) (hb : evo L b = some v) : Yld P σ L H (.pick c a b) ty (if t then u else v) := fun ρ w hr st => by
  simp [opRun, execOp, hr c _ hc, hr a u ha, hr b v hb, asBool]
theorem y_extract {x : Operand} {vs : Array Value} {i : Nat} {v : Value} (h : evo L x = some (.tuple vs)) (hi : vs.toList[i]? = some v) : Yld P σ L H (.extract x i) ty v := fun ρ w hr st => by
  have hi : vs[i]? = some v := by rw [← hi]; simp
  simp [opRun, execOp, hr x _ h, Instr.extract, hi]
theorem y_nilCheck {x : Operand} {a : Addr} (h : evo L x = some (.pointer (some a))) : Yld P σ L H (.nilCheck x) ty (.pointer (some a)) := fun ρ w hr st => by
  simp [opRun, execOp, hr x _ h]
theorem y_nilCheck_f {x : Operand} {f : FuncId} {a b : Array Value} (h : evo L x = some (.func (.func f) a b)) : Yld P σ L H (.nilCheck x) ty (.func (.func f) a b) := fun ρ w hr st => by
  simp [opRun, execOp, hr x _ h]
theorem y_makeFunc {f : FuncId} {cap : List Operand} {vs : List Value} (h : evl L cap = some vs) : Yld P σ L H (.makeFunc (.func f) #[] cap.toArray) ty (.func (.func f) #[] vs.toArray) := fun ρ w hr st => by
  simp [opRun, execOp, Instr.makeFunc, hr.list h]

/-! ### whole numbers and truth -/
theorem y_add {t t' : TypeId} {k : IntKind} {x y : Operand} {a b c : Int} (hx : evo L x = some (.int k a)) (hy : evo L y = some (.int k b)) (hc : k.wrap (a + b) = c) :
    Yld P σ L H (.binOp .add t x y t') ty (.int k c) := fun ρ w hr st => by
  simp [opRun, execOp, hr x _ hx, hr y _ hy, eqGuard, binOp, Op.intArith, hc]
theorem y_sub {t t' : TypeId} {k : IntKind} {x y : Operand} {a b c : Int} (hx : evo L x = some (.int k a)) (hy : evo L y = some (.int k b)) (hc : k.wrap (a - b) = c) :
    Yld P σ L H (.binOp .sub t x y t') ty (.int k c) := fun ρ w hr st => by
  simp [opRun, execOp, hr x _ hx, hr y _ hy, eqGuard, binOp, Op.intArith, hc]
theorem y_mul {t t' : TypeId} {k : IntKind} {x y : Operand} {a b c : Int} (hx : evo L x = some (.int k a)) (hy : evo L y = some (.int k b)) (hc : k.wrap (a * b) = c) :
    Yld P σ L H (.binOp .mul t x y t') ty (.int k c) := fun ρ w hr st => by
  simp [opRun, execOp, hr x _ hx, hr y _ hy, eqGuard, binOp, Op.intArith, hc]
theorem y_quo {t t' : TypeId} {k : IntKind} {x y : Operand} {a b c : Int} (hx : evo L x = some (.int k a)) (hy : evo L y = some (.int k b)) (hb : b ≠ 0) (hc : k.wrap (a.tdiv b) = c) :
    Yld P σ L H (.binOp .quo t x y t') ty (.int k c) := fun ρ w hr st => by
  simp [opRun, execOp, hr x _ hx, hr y _ hy, eqGuard, binOp, Op.intDiv, hb, hc]
theorem y_rem {t t' : TypeId} {k : IntKind} {x y : Operand} {a b : Int} (hx : evo L x = some (.int k a)) (hy : evo L y = some (.int k b)) (hb : b ≠ 0) :
    Yld P σ L H (.binOp .rem t x y t') ty (.int k (a.tmod b)) := fun ρ w hr st => by
  simp [opRun, execOp, hr x _ hx, hr y _ hy, eqGuard, binOp, Op.intDiv, hb]
theorem y_lss {t t' : TypeId} {k : IntKind} {x y : Operand} {a b : Int} (hx : evo L x = some (.int k a)) (hy : evo L y = some (.int k b)) :
    Yld P σ L H (.binOp .lss t x y t') ty (.bool (decide (a < b))) := fun ρ w hr st => by
  simp [opRun, execOp, hr x _ hx, hr y _ hy, eqGuard, binOp, Op.intCmp]
theorem y_leq {t t' : TypeId} {k : IntKind} {x y : Operand} {a b : Int} (hx : evo L x = some (.int k a)) (hy : evo L y = some (.int k b)) :
    Yld P σ L H (.binOp .leq t x y t') ty (.bool (decide (a ≤ b))) := fun ρ w hr st => by
  simp [opRun, execOp, hr x _ hx, hr y _ hy, eqGuard, binOp, Op.intCmp]
theorem y_gtr {t t' : TypeId} {k : IntKind} {x y : Operand} {a b : Int} (hx : evo L x = some (.int k a)) (hy : evo L y = some (.int k b)) :
    Yld P σ L H (.binOp .gtr t x y t') ty (.bool (decide (b < a))) := fun ρ w hr st => by
  simp [opRun, execOp, hr x _ hx, hr y _ hy, eqGuard, binOp, Op.intCmp]
theorem y_geq {t t' : TypeId} {k : IntKind} {x y : Operand} {a b : Int} (hx : evo L x = some (.int k a)) (hy : evo L y = some (.int k b)) :
    Yld P σ L H (.binOp .geq t x y t') ty (.bool (decide (b ≤ a))) := fun ρ w hr st => by
  simp [opRun, execOp, hr x _ hx, hr y _ hy, eqGuard, binOp, Op.intCmp]
theorem y_eql {t t' : TypeId} {k : IntKind} {x y : Operand} {a b : Int} (hx : evo L x = some (.int k a)) (hy : evo L y = some (.int k b)) :
    Yld P σ L H (.binOp .eql t x y t') ty (.bool (decide (a = b))) := fun ρ w hr st => by
  simp [opRun, execOp, hr x _ hx, hr y _ hy, eqGuard, binOp, Op.intCmp]; rfl
theorem y_neq {t t' : TypeId} {k : IntKind} {x y : Operand} {a b : Int} (hx : evo L x = some (.int k a)) (hy : evo L y = some (.int k b)) :
    Yld P σ L H (.binOp .neq t x y t') ty (.bool (!decide (a = b))) := fun ρ w hr st => by
  simp [opRun, execOp, hr x _ hx, hr y _ hy, eqGuard, binOp, Op.intCmp]; rfl
theorem y_not {t : TypeId} {x : Operand} {b : Bool} (hx : evo L x = some (.bool b)) : Yld P σ L H (.unOp .not t x) ty (.bool (!b)) := fun ρ w hr st => by
  simp [opRun, execOp, hr x _ hx, Op.unary]
theorem y_neg {t : TypeId} {k : IntKind} {x : Operand} {a c : Int} (hx : evo L x = some (.int k a)) (hc : k.wrap (-a) = c) : Yld P σ L H (.unOp .neg t x) ty (.int k c) := fun ρ w hr st => by
  simp [opRun, execOp, hr x _ hx, Op.unary, Op.intArith, hc]
theorem y_conv {s t : TypeId} {k k' : IntKind} {x : Operand} {a c : Int} [TInt P s k'] [TInt P t k] (hx : evo L x = some (.int k' a)) (hc : k.wrap a = c) : Yld P σ L H (.convert s t x) ty (.int k c) := fun ρ w hr st => by
  simp [opRun, execOp, hr x _ hx, convert, run_underlying (TInt.under (P := P) (t := s)) w, run_underlying (TInt.under (P := P) (t := t)) w, Conv.intToInt, hc]

theorem y_neq' {t t' : TypeId} {k : IntKind} {x y : Operand} {a b : Int} (hx : evo L x = some (.int k a)) (hy : evo L y = some (.int k b)) :
    Yld P σ L H (.binOp .neq t x y t') ty (.bool (decide (¬ a = b))) := fun ρ w hr st => by
  have := y_neq (P := P) (σ := σ) (H := H) (ty := ty) (t := t) (t' := t') hx hy ρ w hr st
  rw [this]; simp
theorem y_quo_z {t t' : TypeId} {k : IntKind} {x y : Operand} {a b c : Int} (hx : evo L x = some (.int k a)) (hy : evo L y = some (.int k b)) (ha : 0 ≤ a) (hb : 0 < b) (hc : k.wrap (a / b) = c) :
    Yld P σ L H (.binOp .quo t x y t') ty (.int k c) := by
  refine y_quo hx hy (by omega) ?_
  rw [Int.tdiv_eq_ediv_of_nonneg ha]
  exact hc
theorem y_rem_z {t t' : TypeId} {k : IntKind} {x y : Operand} {a b : Int} (hx : evo L x = some (.int k a)) (hy : evo L y = some (.int k b)) (ha : 0 ≤ a) (hb : 0 < b) :
    Yld P σ L H (.binOp .rem t x y t') ty (.int k (a % b)) := by
  have := y_rem (P := P) (σ := σ) (H := H) (ty := ty) (t := t) (t' := t') hx hy (by omega)
  rw [Int.tmod_eq_emod_of_nonneg ha] at this
  exact this
theorem y_shr_nat {t t' : TypeId} {k k' : IntKind} {x y : Operand} {a m : Nat} (hx : evo L x = some (.int k (a : Int))) (hy : evo L y = some (.int k' (m : Int))) (hm : m ≤ k.bits) :
    Yld P σ L H (.binOp .shr t x y t') ty (.int k ((a / 2 ^ m : Nat) : Int)) := fun ρ w hr st => by
  have h1 : min m k.bits = m := Nat.min_eq_left hm
  have h2 : ((a : Int).fdiv (2 ^ m)) = ((a / 2 ^ m : Nat) : Int) := by
    have : ((2 : Int) ^ m) = ((2 ^ m : Nat) : Int) := by simp
    rw [this, Int.fdiv_eq_ediv_of_nonneg _ (Int.natCast_nonneg _)]; simp
  have h3 : ¬ ((m : Int) < 0) := by omega
  simp [opRun, execOp, hr x _ hx, hr y _ hy, eqGuard, binOp, Op.shift, h1, h2, h3]
theorem y_shl_nat {t t' : TypeId} {k k' : IntKind} {x y : Operand} {a m : Nat} {c : Int} (hx : evo L x = some (.int k (a : Int))) (hy : evo L y = some (.int k' (m : Int))) (hm : m ≤ k.bits) (hc : k.wrap ((a * 2 ^ m : Nat) : Int) = c) :
    Yld P σ L H (.binOp .shl t x y t') ty (.int k c) := fun ρ w hr st => by
  have h1 : min m k.bits = m := Nat.min_eq_left hm
  have h2 : k.wrap ((a : Int) * 2 ^ m) = c := by rw [← hc]; simp
  have h3 : ¬ ((m : Int) < 0) := by omega
  simp [opRun, execOp, hr x _ hx, hr y _ hy, eqGuard, binOp, Op.shift, h1, h2, h3]
theorem ofInt_nat (m a : Nat) : BitVec.ofInt m (a : Int) = BitVec.ofNat m a := by simp
theorem y_and_nat {t t' : TypeId} {k : IntKind} {x y : Operand} {a b : Nat} {c : Int} (hx : evo L x = some (.int k (a : Int))) (hy : evo L y = some (.int k (b : Int))) (ha : a < 2 ^ k.bits) (hb : b < 2 ^ k.bits) (hc : k.wrap ((a &&& b : Nat) : Int) = c) :
    Yld P σ L H (.binOp .and t x y t') ty (.int k c) := fun ρ w hr st => by
  have h : (BitVec.ofNat k.bits a &&& BitVec.ofNat k.bits b).toNat = a &&& b := by
    simp [BitVec.toNat_and, Nat.mod_eq_of_lt ha, Nat.mod_eq_of_lt hb]
  simp only [opRun, execOp, hr x _ hx, hr y _ hy, Sem.run_bind, eqGuard, binOp, Op.intBits, ofInt_nat, h]
  simp [hc]
theorem y_or_nat {t t' : TypeId} {k : IntKind} {x y : Operand} {a b : Nat} {c : Int} (hx : evo L x = some (.int k (a : Int))) (hy : evo L y = some (.int k (b : Int))) (ha : a < 2 ^ k.bits) (hb : b < 2 ^ k.bits) (hc : k.wrap ((a ||| b : Nat) : Int) = c) :
    Yld P σ L H (.binOp .or t x y t') ty (.int k c) := fun ρ w hr st => by
  have h : (BitVec.ofNat k.bits a ||| BitVec.ofNat k.bits b).toNat = a ||| b := by
    simp [BitVec.toNat_or, Nat.mod_eq_of_lt ha, Nat.mod_eq_of_lt hb]
  simp only [opRun, execOp, hr x _ hx, hr y _ hy, Sem.run_bind, eqGuard, binOp, Op.intBits, ofInt_nat, h]
  simp [hc]
theorem y_xor_nat {t t' : TypeId} {k : IntKind} {x y : Operand} {a b : Nat} {c : Int} (hx : evo L x = some (.int k (a : Int))) (hy : evo L y = some (.int k (b : Int))) (ha : a < 2 ^ k.bits) (hb : b < 2 ^ k.bits) (hc : k.wrap ((a ^^^ b : Nat) : Int) = c) :
    Yld P σ L H (.binOp .xor t x y t') ty (.int k c) := fun ρ w hr st => by
  have h : (BitVec.ofNat k.bits a ^^^ BitVec.ofNat k.bits b).toNat = a ^^^ b := by
    simp [BitVec.toNat_xor, Nat.mod_eq_of_lt ha, Nat.mod_eq_of_lt hb]
  simp only [opRun, execOp, hr x _ hx, hr y _ hy, Sem.run_bind, eqGuard, binOp, Op.intBits, ofInt_nat, h]
  simp [hc]

theorem T_cmp {n : Nat} {Q : Exit → Act → World → Prop} {ops : Array Oper} {rest : List Oper} {op : Op} {pos : String} {af : Array Edge} {d : Nat} {p : Prop} {dp : Decidable p}
    (hy : Yld P σ L H op ty (.bool (decide p))) (hd : Nat.blt d n = true) (k1 : p → T σ n ((d, .bool true) :: L) H (wpList P ops Q rest)) (k2 : ¬ p → T σ n ((d, .bool false) :: L) H (wpList P ops Q rest)) :
    T σ n L H (wpList P ops Q (⟨some d, op, ty, pos, af, none⟩ :: rest)) := by
  by_cases h : p
  · exact T_y (by rw [decide_eq_true h] at hy; exact hy) hd (k1 h)
  · exact T_y (by rw [decide_eq_false h] at hy; exact hy) hd (k2 h)

/-! ### strings -/
theorem y_seql {t t' : TypeId} {x y : Operand} {a b : ByteArray} (hx : evo L x = some (.string a)) (hy : evo L y = some (.string b)) :
    Yld P σ L H (.binOp .eql t x y t') ty (.bool (decide (a = b))) := fun ρ w hr st => by
  simp [opRun, execOp, hr x _ hx, hr y _ hy, eqGuard, binOp, Op.stringOp, toList_eq_iff]
theorem y_sneq {t t' : TypeId} {x y : Operand} {a b : ByteArray} (hx : evo L x = some (.string a)) (hy : evo L y = some (.string b)) :
    Yld P σ L H (.binOp .neq t x y t') ty (.bool (!decide (a = b))) := fun ρ w hr st => by
  simp [opRun, execOp, hr x _ hx, hr y _ hy, eqGuard, binOp, Op.stringOp, toList_eq_iff]
theorem y_sneq' {t t' : TypeId} {x y : Operand} {a b : ByteArray} (hx : evo L x = some (.string a)) (hy : evo L y = some (.string b)) :
    Yld P σ L H (.binOp .neq t x y t') ty (.bool (decide (¬ a = b))) := fun ρ w hr st => by
  have := y_sneq (P := P) (σ := σ) (H := H) (ty := ty) (t := t) (t' := t') hx hy ρ w hr st
  rw [this]; simp
theorem y_sadd {t t' : TypeId} {x y : Operand} {a b : ByteArray} (hx : evo L x = some (.string a)) (hy : evo L y = some (.string b)) (h : a.size + b.size ≤ 9223372036854775807) :
    Yld P σ L H (.binOp .add t x y t') ty (.string (a ++ b)) := fun ρ w hr st => by
  have : ¬ (IntKind.i64.max < ((a.size + b.size : Nat) : Int)) := by simp [IntKind.max, IntKind.signed, IntKind.bits]; omega
  simp only [opRun, execOp, hr x _ hx, hr y _ hy, eqGuard, binOp, Op.stringOp]
  simp [this]
  omega
theorem y_index_str {t : TypeId} {k : IntKind} {x i : Operand} {s : ByteArray} {j : Nat} {b : UInt8} [TStr P t] (hx : evo L x = some (.string s)) (hi : evo L i = some (.int k (j : Int))) (hb : s[j]? = some b) :
    Yld P σ L H (.index t x i) ty (.int .u8 (b.toNat : Int)) := fun ρ w hr st => by
  simp [opRun, execOp, hr x _ hx, hr i _ hi, Instr.index, asIntOf, run_underlying (TStr.under (P := P) (t := t)) w, hb]
theorem y_len_str {t : TypeId} {x : Operand} {s : ByteArray} [TStr P t] (hx : evo L x = some (.string s)) : Yld P σ L H (.call ⟨.builtin .len, #[x], #[t]⟩) ty (.int .i64 (s.size : Int)) := fun ρ w hr st => by
  simp [opRun, execOp, resolve, invoke, builtin, Builtin.len_, hr x _ hx, run_underlying (TStr.under (P := P) (t := t)) w, goInt]

/-! ### addresses -/
theorem y_fieldAddr {t i off ft sz : Nat} {b : Bool} {x : Operand} {bl o : Nat} [TField P t i off ft] [TAgg P ft b sz] (hx : evo L x = some (.pointer (some ⟨bl, o, none⟩))) (hs : Nat.beq sz 0 = false) :
    Yld P σ L H (.fieldAddr t x i) ty (.pointer (some ⟨bl, o + off, none⟩)) := fun ρ w hr st => by
  obtain ⟨fs, f, h1, h2, h3, h4⟩ := TField.field (P := P) (t := t) (i := i) (off := off) (ft := ft)
  subst h3; subst h4
  have hz : sz ≠ 0 := fun e => by subst e; simp at hs
  simp only [opRun, execOp, hr x _ hx, Instr.fieldAt, Instr.sureAddr, fieldPlace, Sem.run_bind, run_underlying h1 w, Result.andThen_ok, h2, Sem.run_pure, TAgg.size (P := P) (t := f.type), hz, if_false]
  simp only [Addr.add]
  split
  · rename_i e; simp [e]
  · rfl
theorem y_indexAddr {t e sz : Nat} {b : Bool} {k : IntKind} {x i : Operand} {bl o len cap j : Nat} [TSlice P t e] [TAgg P e b sz] (hx : evo L x = some (.slice (some ⟨bl, o, none⟩) len cap)) (hi : evo L i = some (.int k (j : Int))) (hj : j < len) :
    Yld P σ L H (.indexAddr t x i) ty (.pointer (some ⟨bl, o + j * sz, none⟩)) := fun ρ w hr st => by
  have hlt : (j : Int) < (len : Int) := by omega
  simp only [opRun, execOp, hr x _ hx, hr i _ hi, Instr.indexAt, asIntOf, Sem.run_bind, run_underlying (TSlice.under (P := P) (t := t)) w, Result.andThen_ok, Sem.run_pure, TAgg.size (P := P) (t := e)]
  simp [hlt, TAgg.size (P := P) (t := e)]
  simp only [Addr.add]
  split
  · rename_i e; simp [e]
  · rfl
theorem y_indexAddr_arr {t n e sz : Nat} {b : Bool} {k : IntKind} {x i : Operand} {bl o j : Nat} [TArray P t n e] [TAgg P e b sz] (hx : evo L x = some (.pointer (some ⟨bl, o, none⟩))) (hi : evo L i = some (.int k (j : Int))) (hj : j < n) :
    Yld P σ L H (.indexAddr t x i) ty (.pointer (some ⟨bl, o + j * sz, none⟩)) := fun ρ w hr st => by
  have hlt : (j : Int) < (n : Int) := by omega
  simp only [opRun, execOp, hr x _ hx, hr i _ hi, Instr.indexAt, Instr.sureAddr, asIntOf, Sem.run_bind, run_underlying (TArray.under (P := P) (t := t)) w, Result.andThen_ok, Sem.run_pure, TAgg.size (P := P) (t := e)]
  simp [hlt, TAgg.size (P := P) (t := e)]
  simp only [Addr.add]
  split
  · rename_i e; simp [e]
  · rfl
theorem y_len_slice {t e : Nat} {x : Operand} {a : Option Addr} {len cap : Nat} [TSlice P t e] (hx : evo L x = some (.slice a len cap)) : Yld P σ L H (.call ⟨.builtin .len, #[x], #[t]⟩) ty (.int .i64 (len : Int)) := fun ρ w hr st => by
  simp [opRun, execOp, resolve, invoke, builtin, Builtin.len_, hr x _ hx, run_underlying (TSlice.under (P := P) (t := t)) w, goInt]

/-! ### parts of structs and arrays that are values -/
theorem y_field1 {t i off ft sz : Nat} {x : Operand} {cs : Array Value} {v : Value} [TField P t i off ft] [TAgg P ft false sz] (hx : evo L x = some (.agg cs)) (hv : cs.toList[off]? = some v) :
    Yld P σ L H (.field t x i) ty v := fun ρ w hr st => by
  have hv : cs[off]? = some v := by rw [← hv]; simp
  obtain ⟨fs, f, h1, h2, h3, h4⟩ := TField.field (P := P) (t := t) (i := i) (off := off) (ft := ft)
  subst h3; subst h4
  simp [opRun, execOp, hr x _ hx, Instr.field, run_underlying h1 w, h2, asAgg, part, TAgg.agg (P := P) (t := f.type), hv]
theorem y_fieldN {t i off ft sz : Nat} {x : Operand} {cs cs' : Array Value} [TField P t i off ft] [TAgg P ft true sz] (hx : evo L x = some (.agg cs)) (hv : cs.extract off (off + sz) = cs') :
    Yld P σ L H (.field t x i) ty (.agg cs') := fun ρ w hr st => by
  obtain ⟨fs, f, h1, h2, h3, h4⟩ := TField.field (P := P) (t := t) (i := i) (off := off) (ft := ft)
  subst h3; subst h4
  simp [opRun, execOp, hr x _ hx, Instr.field, run_underlying h1 w, h2, asAgg, part, TAgg.agg (P := P) (t := f.type), TAgg.size (P := P) (t := f.type), hv]
theorem y_index1 {t n e sz : Nat} {k : IntKind} {x i : Operand} {cs : Array Value} {v : Value} {j : Nat} [TArray P t n e] [TAgg P e false sz] (hx : evo L x = some (.agg cs)) (hi : evo L i = some (.int k (j : Int))) (hj : j < n) (hv : cs[j * sz]? = some v) :
    Yld P σ L H (.index t x i) ty v := fun ρ w hr st => by
  have hlt : (j : Int) < (n : Int) := by omega
  simp [opRun, execOp, hr x _ hx, hr i _ hi, Instr.index, asIntOf, run_underlying (TArray.under (P := P) (t := t)) w, hlt, part, TAgg.agg (P := P) (t := e), TAgg.size (P := P) (t := e), hv]
  omega
theorem y_index1l {t n e sz : Nat} {k : IntKind} {x i : Operand} {cs : Array Value} {v : Value} {j : Nat} [TArray P t n e] [TAgg P e false sz] (hx : evo L x = some (.agg cs)) (hi : evo L i = some (.int k (j : Int))) (hj : j < n) (hv : cs.toList[j * sz]? = some v) :
    Yld P σ L H (.index t x i) ty v := y_index1 hx hi hj (by rw [← hv]; simp)
theorem y_build {t : Nat} {z : Array Value} {pl : Array (Nat × Nat)} [TBuild P t z pl] {xs : List (Nat × Operand)} {vs : List (Nat × Value)} {cs : Array Value}
    (hx : evl L (xs.map (·.2)) = some (vs.map (·.2))) (hi : xs.map (·.1) = vs.map (·.1)) (hf : Instr.fill (pl[·]?) z vs = some cs) :
    Yld P σ L H (.build t xs.toArray) ty (.agg cs) := fun ρ w hr st => by
  obtain ⟨fs, h1, h2, h3⟩ := TBuild.build (P := P) (t := t) (z := z) (pl := pl)
  have e : (xs.map fun (i, x) => (i, ρ x)) = vs := by
    have hl := hr.list hx
    rw [List.map_map] at hl
    clear hf
    induction xs generalizing vs with
    | nil => cases vs <;> simp_all
    | cons a r ih =>
      cases vs with
      | nil => simp at hi
      | cons b s =>
        simp only [List.map_cons, List.cons.injEq, Function.comp] at hl hi ⊢
        refine ⟨Prod.ext hi.1 hl.1, ?_⟩
        refine ih (vs := s) ?_ hi.2 hl.2
        simp only [List.map_cons, evl] at hx
        split at hx
        · rename_i h4 h5; simp only [Option.some.injEq, List.cons.injEq] at hx; rw [h5, hx.2]
        · cases hx
  simp only [opRun, execOp, Sem.run_bind, Instr.build, h2 w, Result.andThen_ok, run_underlying h1 w, h3 w, Value.cells, List.map_toArray, e, hf, Sem.run_pure]
theorem y_buildA {t n el sz : Nat} {b : Bool} {z : Array Value} [TArray P t n el] [TZero P t (.agg z)] [TAgg P el b sz] {xs : List (Nat × Operand)} {vs : List (Nat × Value)} {cs : Array Value}
    (hx : evl L (xs.map (·.2)) = some (vs.map (·.2))) (hi : xs.map (·.1) = vs.map (·.1)) (hf : Instr.fill (fun i => some (i * sz, sz)) z vs = some cs) :
    Yld P σ L H (.build t xs.toArray) ty (.agg cs) := fun ρ w hr st => by
  have e : (xs.map fun (i, x) => (i, ρ x)) = vs := by
    have hl := hr.list hx
    rw [List.map_map] at hl
    clear hf
    induction xs generalizing vs with
    | nil => cases vs <;> simp_all
    | cons a r ih =>
      cases vs with
      | nil => simp at hi
      | cons b s =>
        simp only [List.map_cons, List.cons.injEq, Function.comp] at hl hi ⊢
        refine ⟨Prod.ext hi.1 hl.1, ?_⟩
        refine ih (vs := s) ?_ hi.2 hl.2
        simp only [List.map_cons, evl] at hx
        split at hx
        · rename_i h4 h5; simp only [Option.some.injEq, List.cons.injEq] at hx; rw [h5, hx.2]
        · cases hx
  simp only [opRun, execOp, Sem.run_bind, Instr.build, TZero.zero (P := P) (t := t) w, Result.andThen_ok, run_underlying (TArray.under (P := P) (t := t)) w, TAgg.size (P := P) (t := el) w, Value.cells, List.map_toArray, e, hf, Sem.run_pure]

/-! ### memory -/
theorem y_load1 {t sz : Nat} {x : Operand} {b o : Nat} {arr : Array Value} {E : TypeId} {fz : Nat × Nat} {v : Value} [TAgg P t false sz] (hx : evo L x = some (.pointer (some ⟨b, o, none⟩)))
    (hi : InH b (.cells arr E fz) H) (hv : arr[o]? = some v) : Yld P σ L H (.load t x) ty v := fun ρ w hr st => by
  have hc := st.cell (off := o) hi
  simp [opRun, execOp, hr x _ hx, Instr.loadAt, Instr.sureAddr, loadVar, TAgg.agg (P := P) (t := t), hc, hv]

theorem loadCellsFrom_run (w : World) (b o : Nat) (arr : Array Value) (hc : ∀ j, w.cell? ⟨b, o + j, none⟩ = arr[o + j]?) :
    ∀ (m i : Nat) (acc : Array Value), o + i + m ≤ arr.size → (loadCellsFrom ⟨b, o, none⟩ i m acc).run P w = .ok (acc ++ arr.extract (o + i) (o + i + m)) w
  | 0, i, acc, h => by simp [loadCellsFrom]; omega
  | m + 1, i, acc, h => by
    have ha : (⟨b, o, none⟩ : Addr).add i = ⟨b, o + i, none⟩ := by unfold Addr.add; split <;> simp_all
    have hlt : o + i < arr.size := by omega
    simp only [loadCellsFrom, Sem.run_bind, run_load, ha, hc i, Array.getElem?_eq_getElem hlt, Result.andThen_ok]
    rw [loadCellsFrom_run w b o arr hc m (i + 1) _ (by omega)]
    congr 1
    apply Array.ext'
    simp only [Array.toList_append, Array.toList_push, Array.toList_extract, List.append_assoc, List.extract]
    congr 1
    have e1 : o + (i + 1) + m - (o + (i + 1)) = m := by omega
    have e2 : o + i + (m + 1) - (o + i) = m + 1 := by omega
    rw [e1, e2]
    have e3 : arr.toList.drop (o + i) = arr[o + i] :: arr.toList.drop (o + (i + 1)) := by
      rw [← Array.getElem_toList hlt]; exact List.drop_eq_getElem_cons (by simpa using hlt)
    rw [e3]; simp

theorem y_load1l {t sz : Nat} {x : Operand} {b o : Nat} {arr : Array Value} {E : TypeId} {fz : Nat × Nat} {v : Value} [TAgg P t false sz] (hx : evo L x = some (.pointer (some ⟨b, o, none⟩)))
    (hi : InH b (.cells arr E fz) H) (hv : arr.toList[o]? = some v) : Yld P σ L H (.load t x) ty v := y_load1 hx hi (by rw [← hv]; simp)
theorem y_loadN {t sz : Nat} {x : Operand} {b o : Nat} {arr cs : Array Value} {E : TypeId} {fz : Nat × Nat} [TAgg P t true sz] (hx : evo L x = some (.pointer (some ⟨b, o, none⟩)))
    (hi : InH b (.cells arr E fz) H) (hs : o + sz ≤ arr.size) (hv : arr.extract o (o + sz) = cs) : Yld P σ L H (.load t x) ty (.agg cs) := fun ρ w hr st => by
  have hc : ∀ j, w.cell? ⟨b, o + j, none⟩ = arr[o + j]? := fun j => st.cell hi
  have h := loadCellsFrom_run (P := P) w b o arr hc sz 0 #[] (by omega)
  simp [opRun, execOp, hr x _ hx, Instr.loadAt, Instr.sureAddr, loadVar, loadCells, TAgg.agg (P := P) (t := t), TAgg.size (P := P) (t := t), h, hv]

/-- is it one cell? -/
def one : Value → Bool
  | .agg _ | .tuple _ => false
  | _ => true
theorem one_cells {v : Value} (h : one v = true) : v.cells = #[v] := by cases v <;> simp [one] at h <;> rfl

theorem store_run {w : World} {b o lo hi : Nat} {arr : Array Value} {E : TypeId} {v : Value} (hb : w.heap[b]? = some (.cells arr E (lo, hi))) (ho : o < arr.size)
    (hf : (decide (lo ≤ o) && decide (o < hi)) = false) (hv : one v = true) : (store ⟨b, o, none⟩ v).run P w = .ok () (w.setCell ⟨b, o, none⟩ v) := by
  have hc : w.cell? ⟨b, o, none⟩ = some arr[o] := by simp [World.cell?, hb, ho]
  have hz : w.frozen? ⟨b, o, none⟩ = false := by simp only [World.frozen?, hb]; exact hf
  unfold store
  cases v <;> simp [one] at hv <;> simp [Sem.run, hc, hz]

theorem s_store1 {t : Nat} {x y : Operand} {b o lo hi : Nat} {arr arr' : Array Value} {E : TypeId} {v : Value} {R : Hp} [TAgg P t false 1] (hx : evo L x = some (.pointer (some ⟨b, o, none⟩)))
    (hy : evo L y = some v) (hp : Pick [(b, .cells arr E (lo, hi))] H R) (ho : o < arr.size) (hf : (decide (lo ≤ o) && decide (o < hi)) = false) (hv : one v = true) (ha : arr.setIfInBounds o v = arr') :
    Sto P σ L H (.store t x y) ty ([(b, .cells arr' E (lo, hi))] :: R) := fun ρ w hr st => by
  have st' := st.perm hp.perm
  refine ⟨w.setCell ⟨b, o, none⟩ v, ?_, ha ▸ st'.setCell v⟩
  have hadd : (⟨b, o, none⟩ : Addr).add 0 = ⟨b, o, none⟩ := by simp [Addr.add]
  simp [opRun, execOp, hr x _ hx, hr y _ hy, Instr.storeAt, Instr.sureAddr, storeVar, one_cells hv, TAgg.size (P := P) (t := t), storeCells, hadd, store_run (P := P) (st'.block .here) ho hf hv]

/-- the cells from a place on -/
def setRange (arr : Array Value) (o : Nat) : List Value → Array Value
  | [] => arr
  | v :: r => setRange (arr.setIfInBounds o v) (o + 1) r
theorem setRange_size (o : Nat) (vs : List Value) : ∀ (arr : Array Value) , (setRange arr o vs).size = arr.size := by
  induction vs generalizing o with
  | nil => intro arr; rfl
  | cons v r ih => intro arr; simp [setRange, ih]

theorem storeCells_run {b lo hi : Nat} {E : TypeId} {R : Hp} (o : Nat) : ∀ (vs : List Value) (i : Nat) (arr : Array Value) (w : World), Sat σ ([(b, .cells arr E (lo, hi))] :: R) w →
    o + i + vs.length ≤ arr.size → (∀ j, o + i ≤ j → j < o + i + vs.length → (decide (lo ≤ j) && decide (j < hi)) = false) → vs.all one = true →
    ∃ w', (storeCells ⟨b, o, none⟩ vs i).run P w = .ok () w' ∧ Sat σ ([(b, .cells (setRange arr (o + i) vs) E (lo, hi))] :: R) w'
  | [], i, arr, w, st, _, _, _ => ⟨w, rfl, st⟩
  | v :: r, i, arr, w, st, hs, hf, hv => by
    simp only [List.all_cons, Bool.and_eq_true] at hv
    simp only [List.length_cons] at hs hf
    have hadd : (⟨b, o, none⟩ : Addr).add i = ⟨b, o + i, none⟩ := by unfold Addr.add; split <;> simp_all
    obtain ⟨w', h1, h2⟩ := storeCells_run o r (i + 1) (arr.setIfInBounds (o + i) v) (w.setCell ⟨b, o + i, none⟩ v) (st.setCell v) (by simp; omega) (fun j a c => hf j (by omega) (by omega)) hv.2
    refine ⟨w', ?_, h2⟩
    simp only [storeCells, Sem.run_bind, hadd, store_run (P := P) (st.block .here) (show o + i < arr.size by omega) (hf (o + i) (by omega) (by omega)) hv.1, Result.andThen_ok]
    exact h1

theorem s_storeN {t sz : Nat} {x y : Operand} {b o : Nat} {arr arr' cs : Array Value} {E : TypeId} {R : Hp} [TAgg P t true sz] (hx : evo L x = some (.pointer (some ⟨b, o, none⟩)))
    (hy : evo L y = some (.agg cs)) (hp : Pick [(b, .cells arr E (0, 0))] H R) (hs : cs.size = sz) (ho : o + sz ≤ arr.size) (hv : cs.toList.all one = true) (ha : setRange arr o cs.toList = arr') :
    Sto P σ L H (.store t x y) ty ([(b, .cells arr' E (0, 0))] :: R) := fun ρ w hr st => by
  obtain ⟨w', h1, h2⟩ := storeCells_run (P := P) o cs.toList 0 arr w (st.perm hp.perm) (by simp; omega) (fun j _ _ => by simp) hv
  refine ⟨w', ?_, by simpa [ha] using h2⟩
  simp [opRun, execOp, hr x _ hx, hr y _ hy, Instr.storeAt, Instr.sureAddr, storeVar, Value.cells, TAgg.size (P := P) (t := t), hs, h1]

theorem e_alloc {t : Nat} {z : Value} [TZero P t z] : Eff P σ L H (.alloc t) ty fun v H' => ∃ b, v = .pointer (some ⟨b, 0, none⟩) ∧ H' = [(b, .cells z.cells t (0, 0))] :: H := fun ρ w hr st =>
  ⟨_, _, _, by simp [opRun, execOp, Instr.alloc, TZero.zero (P := P) (t := t), newVar, newRow], ⟨w.heap.size, rfl, rfl⟩, st.new _⟩
theorem e_box {t : Nat} {x : Operand} {u : Value} (hx : evo L x = some u) : Eff P σ L H (.box t x) ty fun v H' => ∃ b, v = .pointer (some ⟨b, 0, none⟩) ∧ H' = [(b, .cells u.cells t (0, 0))] :: H := fun ρ w hr st =>
  ⟨_, _, _, by simp [opRun, execOp, Instr.box, hr x _ hx, newVar, newRow], ⟨w.heap.size, rfl, rfl⟩, st.new _⟩
theorem e_alloc1 {t : Nat} {z : Value} [TZero P t z] (h : one z = true) : Eff P σ L H (.alloc t) ty fun v H' => ∃ b, v = .pointer (some ⟨b, 0, none⟩) ∧ H' = [(b, .cells #[z] t (0, 0))] :: H := by
  have := e_alloc (P := P) (σ := σ) (L := L) (H := H) (ty := ty) (t := t) (z := z); rw [one_cells h] at this; exact this
theorem e_allocA {t : Nat} {z : Array Value} [TZero P t (.agg z)] : Eff P σ L H (.alloc t) ty fun v H' => ∃ b, v = .pointer (some ⟨b, 0, none⟩) ∧ H' = [(b, .cells z t (0, 0))] :: H := e_alloc (z := .agg z)
theorem e_box1 {t : Nat} {x : Operand} {u : Value} (hx : evo L x = some u) (h : one u = true) : Eff P σ L H (.box t x) ty fun v H' => ∃ b, v = .pointer (some ⟨b, 0, none⟩) ∧ H' = [(b, .cells #[u] t (0, 0))] :: H := by
  have := e_box (P := P) (σ := σ) (L := L) (H := H) (ty := ty) (t := t) hx; rw [one_cells h] at this; exact this
theorem e_boxA {t : Nat} {x : Operand} {u : Array Value} (hx : evo L x = some (.agg u)) : Eff P σ L H (.box t x) ty fun v H' => ∃ b, v = .pointer (some ⟨b, 0, none⟩) ∧ H' = [(b, .cells u t (0, 0))] :: H := e_box hx
theorem e_makeMap {t : Nat} : Eff P σ L H (.makeMap t none) ty fun v H' => ∃ b, v = .map (some b) ∧ H' = [(b, .map #[] 0)] :: H := fun ρ w hr st =>
  ⟨_, _, _, by simp [opRun, execOp, Instr.makeMap], ⟨w.heap.size, rfl, rfl⟩, st.new _⟩
end
end Go.Proofs.YtgolmieejhohdaaDoor.Sl
