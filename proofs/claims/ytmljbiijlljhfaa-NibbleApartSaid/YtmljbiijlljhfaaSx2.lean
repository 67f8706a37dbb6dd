/- Own work. A part of the proof of a law of this seat: The walk library: what is of no program. -/
import Derived.Test.YtmljbiijlljhfaaSx1
namespace Go.Sx
open Go Go.RowKit

/-! ### pure results of operations on numbers, bools, strings -/
section
variable {P : Program} {a : Act} {w : World} {n : Nat} {l : List (Nat × Value)}
variable {d : Option Nat} {ty T T' : TypeId} {pos : String} {af : Array Edge} {g : Option (Nat × Bool)} {x y : Operand} {k k' : IntKind} {i j : Int}
theorem d_bin {op : BinOp} {u v r : Value} (ha : Has n l a) (hx : ev l x = some u) (hy : ev l y = some v)
    (hq : ∀ w, (eqGuard op T x y u v).run P w = .ok () w) (h : (binOp op T u v).run P w = .ok r w) : Does P ⟨d, .binOp op T x y T', ty, pos, af, g⟩ a w (Is r w) :=
  Does.val (by simp [execOp, ha.ev hx, ha.ev hy, hq, h])
theorem guard_int {op : BinOp} {m : Int} {v : Value} (w : World) : (eqGuard op T x y (.int k m) v).run P w = .ok () w := by rw [eqGuard_at_int]; rfl
theorem guard_str {op : BinOp} {m : ByteArray} {v : Value} (w : World) : (eqGuard op T x y (.string m) v).run P w = .ok () w := by cases op <;> rfl
theorem guard_bool {op : BinOp} {m : Bool} {v : Value} (w : World) : (eqGuard op T x y (.bool m) v).run P w = .ok () w := by cases op <;> rfl
theorem guard_ptr {op : BinOp} {m : Option Addr} {v : Value} (w : World) : (eqGuard op T x y (.pointer m) v).run P w = .ok () w := by cases op <;> rfl
theorem guard_slice {op : BinOp} {m : Option Addr} {q c : Nat} {v : Value} (w : World) : (eqGuard op T x y (.slice m q c) v).run P w = .ok () w := by cases op <;> rfl
theorem d_add (ha : Has n l a) (hx : ev l x = some (.int k i)) (hy : ev l y = some (.int k j)) : Does P ⟨d, .binOp .add T x y T', ty, pos, af, g⟩ a w (Is (.int k (k.wrap (i + j))) w) := d_bin ha hx hy guard_int (by simp [binOp, Op.intArith])
theorem d_sub (ha : Has n l a) (hx : ev l x = some (.int k i)) (hy : ev l y = some (.int k j)) : Does P ⟨d, .binOp .sub T x y T', ty, pos, af, g⟩ a w (Is (.int k (k.wrap (i - j))) w) := d_bin ha hx hy guard_int (by simp [binOp, Op.intArith])
theorem d_mul (ha : Has n l a) (hx : ev l x = some (.int k i)) (hy : ev l y = some (.int k j)) : Does P ⟨d, .binOp .mul T x y T', ty, pos, af, g⟩ a w (Is (.int k (k.wrap (i * j))) w) := d_bin ha hx hy guard_int (by simp [binOp, Op.intArith])
theorem d_quo (ha : Has n l a) (hx : ev l x = some (.int k i)) (hy : ev l y = some (.int k j)) (h : j ≠ 0) : Does P ⟨d, .binOp .quo T x y T', ty, pos, af, g⟩ a w (Is (.int k (k.wrap (i.tdiv j))) w) := d_bin ha hx hy guard_int (by simp [binOp, Op.intDiv, h])
theorem d_rem (ha : Has n l a) (hx : ev l x = some (.int k i)) (hy : ev l y = some (.int k j)) (h : j ≠ 0) : Does P ⟨d, .binOp .rem T x y T', ty, pos, af, g⟩ a w (Is (.int k (i.tmod j)) w) := d_bin ha hx hy guard_int (by simp [binOp, Op.intDiv, h])
theorem d_and (ha : Has n l a) (hx : ev l x = some (.int k i)) (hy : ev l y = some (.int k j)) : Does P ⟨d, .binOp .and T x y T', ty, pos, af, g⟩ a w (Is (.int k (bits .and k i j)) w) := d_bin ha hx hy guard_int (by simp [binOp, intBits_and])
theorem d_or (ha : Has n l a) (hx : ev l x = some (.int k i)) (hy : ev l y = some (.int k j)) : Does P ⟨d, .binOp .or T x y T', ty, pos, af, g⟩ a w (Is (.int k (bits .or k i j)) w) := d_bin ha hx hy guard_int (by simp [binOp, intBits_or])
theorem d_xor (ha : Has n l a) (hx : ev l x = some (.int k i)) (hy : ev l y = some (.int k j)) : Does P ⟨d, .binOp .xor T x y T', ty, pos, af, g⟩ a w (Is (.int k (bits .xor k i j)) w) := d_bin ha hx hy guard_int (by simp [binOp, intBits_xor])
theorem d_andNot (ha : Has n l a) (hx : ev l x = some (.int k i)) (hy : ev l y = some (.int k j)) : Does P ⟨d, .binOp .andNot T x y T', ty, pos, af, g⟩ a w (Is (.int k (bits .andNot k i j)) w) := d_bin ha hx hy guard_int (by simp [binOp, intBits_andNot])
def shl (k : IntKind) (i j : Int) : Int := k.wrap (i * 2 ^ min j.toNat k.bits)
def shr (k : IntKind) (i j : Int) : Int := i / 2 ^ min j.toNat k.bits
theorem d_shl (ha : Has n l a) (hx : ev l x = some (.int k i)) (hy : ev l y = some (.int k' j)) (h : 0 ≤ j) : Does P ⟨d, .binOp .shl T x y T', ty, pos, af, g⟩ a w (Is (.int k (shl k i j)) w) := d_bin ha hx hy guard_int (by simp [binOp, shift_shl_any _ _ _ _ h, shl])
theorem d_shr (ha : Has n l a) (hx : ev l x = some (.int k i)) (hy : ev l y = some (.int k' j)) (h : 0 ≤ j) : Does P ⟨d, .binOp .shr T x y T', ty, pos, af, g⟩ a w (Is (.int k (shr k i j)) w) := d_bin ha hx hy guard_int (by simp [binOp, shift_shr_any _ _ _ _ h, shr])
theorem d_eqI (ha : Has n l a) (hx : ev l x = some (.int k i)) (hy : ev l y = some (.int k j)) : Does P ⟨d, .binOp .eql T x y T', ty, pos, af, g⟩ a w (Is (.bool (decide (i = j))) w) := d_bin ha hx hy guard_int (by simp [binOp, Op.intCmp, BEq.beq])
theorem d_neI (ha : Has n l a) (hx : ev l x = some (.int k i)) (hy : ev l y = some (.int k j)) : Does P ⟨d, .binOp .neq T x y T', ty, pos, af, g⟩ a w (Is (.bool (!decide (i = j))) w) := d_bin ha hx hy guard_int (by simp [binOp, Op.intCmp, bne, BEq.beq])
theorem d_lt (ha : Has n l a) (hx : ev l x = some (.int k i)) (hy : ev l y = some (.int k j)) : Does P ⟨d, .binOp .lss T x y T', ty, pos, af, g⟩ a w (Is (.bool (decide (i < j))) w) := d_bin ha hx hy guard_int (by simp [binOp, Op.intCmp])
theorem d_le (ha : Has n l a) (hx : ev l x = some (.int k i)) (hy : ev l y = some (.int k j)) : Does P ⟨d, .binOp .leq T x y T', ty, pos, af, g⟩ a w (Is (.bool (decide (i ≤ j))) w) := d_bin ha hx hy guard_int (by simp [binOp, Op.intCmp])
theorem d_gt (ha : Has n l a) (hx : ev l x = some (.int k i)) (hy : ev l y = some (.int k j)) : Does P ⟨d, .binOp .gtr T x y T', ty, pos, af, g⟩ a w (Is (.bool (decide (j < i))) w) := d_bin ha hx hy guard_int (by simp [binOp, Op.intCmp])
theorem d_ge (ha : Has n l a) (hx : ev l x = some (.int k i)) (hy : ev l y = some (.int k j)) : Does P ⟨d, .binOp .geq T x y T', ty, pos, af, g⟩ a w (Is (.bool (decide (j ≤ i))) w) := d_bin ha hx hy guard_int (by simp [binOp, Op.intCmp])
theorem equalIn_bool (m : Nat) (w : World) (T : TypeId) (p q : Bool) (hT : P.underlying T = some .bool) : (Op.equalIn (m + 1) T (.bool p) (.bool q)).run P w = .ok (p == q) w := by
  simp [Op.equalIn, run_underlying hT]
theorem equalIn_ptrnil (m : Nat) (w : World) (T e : TypeId) (p : Option Addr) (hT : P.underlying T = some (.pointer e)) : (Op.equalIn (m + 1) T (.pointer p) (.pointer none)).run P w = .ok p.isNone w := by
  cases p <;> simp [Op.equalIn, run_underlying hT]
theorem d_eqB {p q : Bool} (ha : Has n l a) (hT : P.underlying T = some .bool) (hx : ev l x = some (.bool p)) (hy : ev l y = some (.bool q)) : Does P ⟨d, .binOp .eql T x y T', ty, pos, af, g⟩ a w (Is (.bool (p == q)) w) :=
  d_bin ha hx hy guard_bool (by
    have h := equalIn_bool (P := P) 9999 w T p q hT
    simp only [binOp, Op.equal, Op.maxDepth, Sem.run_bind, Sem.run_pure, h, Result.andThen_ok])
theorem d_neB {p q : Bool} (ha : Has n l a) (hT : P.underlying T = some .bool) (hx : ev l x = some (.bool p)) (hy : ev l y = some (.bool q)) : Does P ⟨d, .binOp .neq T x y T', ty, pos, af, g⟩ a w (Is (.bool (!(p == q))) w) :=
  d_bin ha hx hy guard_bool (by
    have h := equalIn_bool (P := P) 9999 w T p q hT
    simp only [binOp, Op.equal, Op.maxDepth, Sem.run_bind, Sem.run_pure, h, Result.andThen_ok])
theorem toList_eq_iff (s t : ByteArray) : (s.toList == t.toList) = decide (s = t) := by
  rw [ByteArray.toList_eq, ByteArray.toList_eq]
  by_cases h : s = t
  · simp [h]
  · have : s.data.toList ≠ t.data.toList := by
      intro e
      apply h
      cases s; cases t
      simpa using congrArg List.toArray e
    rw [decide_eq_false h]
    exact beq_eq_false_iff_ne.2 this
theorem d_eqS {p q : ByteArray} (ha : Has n l a) (hx : ev l x = some (.string p)) (hy : ev l y = some (.string q)) : Does P ⟨d, .binOp .eql T x y T', ty, pos, af, g⟩ a w (Is (.bool (decide (p = q))) w) :=
  d_bin ha hx hy guard_str (by simp [binOp, Op.stringOp, toList_eq_iff])
theorem d_neS {p q : ByteArray} (ha : Has n l a) (hx : ev l x = some (.string p)) (hy : ev l y = some (.string q)) : Does P ⟨d, .binOp .neq T x y T', ty, pos, af, g⟩ a w (Is (.bool (!decide (p = q))) w) :=
  d_bin ha hx hy guard_str (by simp [binOp, Op.stringOp, toList_eq_iff])
theorem d_sadd {p q : ByteArray} (ha : Has n l a) (hx : ev l x = some (.string p)) (hy : ev l y = some (.string q)) (h : p.size + q.size ≤ 9223372036854775807) : Does P ⟨d, .binOp .add T x y T', ty, pos, af, g⟩ a w (Is (.string (p ++ q)) w) :=
  d_bin ha hx hy guard_str (by simp only [binOp]; exact run_string_add_sum w p q h)
theorem d_ptrnil_eq {p : Option Addr} {e : TypeId} (ha : Has n l a) (hT : P.underlying T = some (.pointer e)) (hx : ev l x = some (.pointer p)) (hy : ev l y = some (.pointer none)) : Does P ⟨d, .binOp .eql T x y T', ty, pos, af, g⟩ a w (Is (.bool p.isNone) w) :=
  d_bin ha hx hy guard_ptr (by
    have h := equalIn_ptrnil (P := P) 9999 w T e p hT
    simp only [binOp, Op.equal, Op.maxDepth, Sem.run_bind, Sem.run_pure, h, Result.andThen_ok])
theorem d_ptrnil_ne {p : Option Addr} {e : TypeId} (ha : Has n l a) (hT : P.underlying T = some (.pointer e)) (hx : ev l x = some (.pointer p)) (hy : ev l y = some (.pointer none)) : Does P ⟨d, .binOp .neq T x y T', ty, pos, af, g⟩ a w (Is (.bool (!p.isNone)) w) :=
  d_bin ha hx hy guard_ptr (by
    have h := equalIn_ptrnil (P := P) 9999 w T e p hT
    simp only [binOp, Op.equal, Op.maxDepth, Sem.run_bind, Sem.run_pure, h, Result.andThen_ok])
theorem d_not {p : Bool} (ha : Has n l a) (hx : ev l x = some (.bool p)) : Does P ⟨d, .unOp .not T x, ty, pos, af, g⟩ a w (Is (.bool (!p)) w) := Does.val (by simp [execOp, ha.ev hx, Op.unary])
theorem d_neg (ha : Has n l a) (hx : ev l x = some (.int k i)) : Does P ⟨d, .unOp .neg T x, ty, pos, af, g⟩ a w (Is (.int k (k.wrap (0 - i))) w) := Does.val (by simp [execOp, ha.ev hx, Op.unary, Op.intArith])
theorem d_cvt {T1 T2 : TypeId} {k2 : IntKind} {u : TypeDesc} (ha : Has n l a) (h1 : P.underlying T1 = some u) (h2 : P.underlying T2 = some (.int k2)) (hx : ev l x = some (.int k i)) : Does P ⟨d, .convert T1 T2 x, ty, pos, af, g⟩ a w (Is (.int k2 (k2.wrap i)) w) :=
  Does.val (by simp [execOp, ha.ev hx, convert, run_underlying h1, run_underlying h2, Conv.intToInt])
theorem d_cvtS {T1 T2 : TypeId} {p : ByteArray} {u : TypeDesc} (ha : Has n l a) (h1 : P.underlying T1 = some u) (h2 : P.underlying T2 = some .string) (hx : ev l x = some (.string p)) : Does P ⟨d, .convert T1 T2 x, ty, pos, af, g⟩ a w (Is (.string p) w) :=
  Does.val (by simp [execOp, ha.ev hx, convert, run_underlying h1, run_underlying h2])
theorem d_extract {vs : List Value} {m : Nat} {v : Value} (ha : Has n l a) (hx : ev l x = some (.tuple vs.toArray)) (hv : vs[m]? = some v) : Does P ⟨d, .extract x m, ty, pos, af, g⟩ a w (Is v w) := Does.val (by simp [execOp, ha.ev hx, Instr.extract, hv])
theorem d_nilCheck {p : Addr} (ha : Has n l a) (hx : ev l x = some (.pointer (some p))) : Does P ⟨d, .nilCheck x, ty, pos, af, g⟩ a w (Is (.pointer (some p)) w) := Does.val (by simp [execOp, ha.ev hx])
theorem d_lenSlice {A : Option Addr} {q c : Nat} {e : TypeId} (ha : Has n l a) (hT : P.underlying T = some (.slice e)) (hx : ev l x = some (.slice A q c)) : Does P ⟨d, .call { callee := .builtin .len, args := #[x], argTypes := #[T] }, ty, pos, af, g⟩ a w (Is (.int .i64 (q : Int)) w) :=
  Does.val (by simp [execOp, ha.ev hx, resolve, invoke, builtin, Builtin.len_, run_underlying hT, goInt])
theorem d_lenString {p : ByteArray} (ha : Has n l a) (hT : P.underlying T = some .string) (hx : ev l x = some (.string p)) : Does P ⟨d, .call { callee := .builtin .len, args := #[x], argTypes := #[T] }, ty, pos, af, g⟩ a w (Is (.int .i64 (p.size : Int)) w) :=
  Does.val (by simp [execOp, ha.ev hx, resolve, invoke, builtin, Builtin.len_, run_underlying hT, goInt])
theorem d_lenArray {q : Nat} {v : Value} {e : TypeId} (ha : Has n l a) (hT : P.underlying T = some (.array q e)) (hx : ev l x = some v) : Does P ⟨d, .call { callee := .builtin .len, args := #[x], argTypes := #[T] }, ty, pos, af, g⟩ a w (Is (.int .i64 (q : Int)) w) :=
  Does.val (by simp [execOp, ha.ev hx, resolve, invoke, builtin, Builtin.len_, run_underlying hT, goInt])
theorem evs (ha : Has n l a) : ∀ (xs : List Operand) (vs : List Value), xs.map (ev l) = vs.map some → xs.map a.eval = vs
  | [], [], _ => rfl
  | [], _ :: _, h => by simp at h
  | _ :: _, [], h => by simp at h
  | x :: xs, v :: vs, h => by
    simp only [List.map_cons, List.cons.injEq] at h
    rw [List.map_cons, ha.ev h.1, evs ha xs vs h.2]
/-- A call of a Go function with a body, all its operands known. -/
theorem d_call {f : FuncId} {xs : List Operand} {Ts : Array TypeId} {vs : List Value} {R : Value → World → Prop} (hf : ∀ args w, (callFunc f args).run P w = .ok (.enter f args) w) (ha : Has n l a)
    (hx : xs.map (ev l) = vs.map some) (hc : Calls P f vs.toArray w (Ret R)) : Does P ⟨d, .call { callee := .value (.func f), args := xs.toArray, argTypes := Ts }, ty, pos, af, g⟩ a w R := by
  refine Does.enter (f := f) (args := vs.toArray) ?_ hc
  simp [execOp, resolve, Deferred.ofValue, Act.eval, invoke, evs ha xs vs hx, hf]
end
end Go.Sx
