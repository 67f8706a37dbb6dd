/- Own work. A part of the proof of a law of this seat: the abstract machine and its soundness. -/
import Derived.WalkKit
import Derived.LoopN
import Derived.Lib.ConvBytes
import Derived.Laws.BytesArg
import Derived.Laws.MakeOwn
import Derived.Laws.OwnMore
import Derived.Maps.AppendAt
import Derived.Orders
import Derived.Laws.Tables
set_option linter.unusedVariables false
set_option linter.unusedSimpArgs false
set_option linter.unusedSectionVars false
namespace Go.Sx
open Go Go.RowKit
def look (t : Nat) : List (Nat × Value) → Option Value
  | [] => none
  | p :: r => cond (Nat.beq p.1 t) (some p.2) (look t r)
structure Has (n : Nat) (l : List (Nat × Value)) (a : Act) : Prop where
  sz : a.tmps.size = n
  df : a.defers = []
  at_ : ∀ t v, look t l = some v → a.tmps.getD t undef = v
def ev (l : List (Nat × Value)) : Operand → Option Value
  | .tmp t => look t l
  | .const v => some v
  | .global g => some (.pointer (some ⟨g, 0, none⟩))
  | .func f => some (.func (.func f) #[] #[])
theorem Has.ev {n : Nat} {l : List (Nat × Value)} {a : Act} (h : Has n l a) {x : Operand} {v : Value} (hx : Sx.ev l x = some v) : a.eval x = v := by
  cases x with
  | tmp t => exact h.at_ t v hx
  | const u => simpa [Sx.ev, Act.eval] using hx
  | global g => simpa [Sx.ev, Act.eval] using hx
  | func f => simpa [Sx.ev, Act.eval] using hx
theorem beq_ne {d t : Nat} (h : ¬ d = t) : Nat.beq d t = false := Bool.eq_false_iff.2 (fun e => h (Nat.eq_of_beq_eq_true e))
theorem beq_self (d : Nat) : Nat.beq d d = true := Nat.beq_refl d
theorem Has.put {n : Nat} {l : List (Nat × Value)} {a : Act} (h : Has n l a) {d : Nat} (hd : Nat.ble (d + 1) n = true) (v : Value) : Has n ((d, v) :: l) (a.put (some d) v) := by
  have hd' : d < n := Nat.le_of_ble_eq_true hd
  refine ⟨by simp [Act.put, h.sz], h.df, fun t u hu => ?_⟩
  simp only [look] at hu
  simp only [Act.put]
  by_cases he : d = t
  · subst he
    rw [beq_self] at hu
    simp at hu
    subst hu
    simp [Array.getD, h.sz, hd']
  · rw [beq_ne he] at hu
    have := h.at_ t u (by simpa using hu)
    rw [← this]
    simp only [Array.getD_eq_getD_getElem?]
    rw [Array.getElem?_setIfInBounds_ne he]
theorem Has.skip {n : Nat} {l : List (Nat × Value)} {a : Act} (h : Has n l a) (v : Value) : Has n l (a.put none v) := h
theorem Has.to {n : Nat} {l l' : List (Nat × Value)} {a : Act} (h : Has n l a) (hl : l'.map (fun p => look p.1 l) = l'.map (fun p => some p.2)) : Has n l' a := by
  refine ⟨h.sz, h.df, fun t v hv => ?_⟩
  have hm : ∀ p ∈ l', look p.1 l = some p.2 := List.map_inj_left.1 hl
  clear hl
  induction l' with
  | nil => simp [look] at hv
  | cons p r ih =>
    simp only [look] at hv
    by_cases he : p.1 = t
    · subst he
      rw [beq_self] at hv
      simp at hv
      subst hv
      exact h.at_ _ _ (hm p (by simp))
    · rw [beq_ne he] at hv
      exact ih (by simpa using hv) (fun q hq => hm q (by simp [hq]))
theorem Has.enter {fn : Func} {args : Array Value} {n : Nat} (hn : fn.ntmps = n) (hs : args.size ≤ n) (l : List (Nat × Value)) (hl : ∀ p ∈ l, args[p.1]? = some p.2) :
    Has n l { tmps := args ++ Array.replicate (fn.ntmps - args.size) undef, defers := [] } := by
  subst hn
  refine ⟨by simp; omega, rfl, fun t v h => ?_⟩
  have h1 : args[t]? = some v := by
    clear hs
    induction l with
    | nil => simp [look] at h
    | cons p r ih =>
      simp only [look] at h
      by_cases he : p.1 = t
      · subst he
        rw [beq_self] at h
        simp at h
        subst h
        exact hl p (by simp)
      · rw [beq_ne he] at h
        exact ih (fun q hq => hl q (by simp [hq])) (by simpa using h)
  have ht : t < args.size := (Array.getElem?_eq_some_iff.1 h1).1
  simp only [Array.getD_eq_getD_getElem?, Array.getElem?_append, ht, if_true, h1, Option.getD_some]
def Ret (R : Value → World → Prop) : Ending → World → Prop
  | .returned v, w => R v w
  | _, _ => False
def resv (P : Program) (l : List (Nat × Value)) (rs : List ResultVar) : Option (List Value) :=
  match rs with
  | [] => some []
  | .tmp t :: r => match look t l, resv P l r with
    | some v, some vs => some (v :: vs)
    | _, _ => none
  | .cell .. :: _ => none
theorem fin1 {P : Program} {fn : Func} {R : Value → World → Prop} {n : Nat} {l : List (Nat × Value)} {a : Act} {w : World} {t : Nat} {v : Value} (ha : Has n l a) (hr : fn.results = #[.tmp t]) (hv : look t l = some v) (h : R v w) :
    bodyPost P fn (Ret R) .ret a w := by
  refine ⟨ha.df, v, ?_, h⟩
  rw [results_tmp hr, ha.at_ t v hv]
theorem fin0 {P : Program} {fn : Func} {R : Value → World → Prop} {n : Nat} {l : List (Nat × Value)} {a : Act} {w : World} (ha : Has n l a) (hr : fn.results = #[]) (h : R (.tuple #[]) w) :
    bodyPost P fn (Ret R) .ret a w := ⟨ha.df, _, results_none hr _ _ _, h⟩
section
variable {P : Program} {Q : Exit → Act → World → Prop} {a : Act} {w : World} {n : Nat} {l : List (Nat × Value)}
theorem wcond {c : Operand} {x y : Code} {t : Bool} (ha : Has n l a) (hc : ev l c = some (.bool t)) (ht : t = true → x.wp P Q a w) (hf : t = false → y.wp P Q a w) : (Code.cond c x y).wp P Q a w :=
  wp_cond_split (ha.ev hc) ht hf
def Does (P : Program) (o : Oper) (a : Act) (w : World) (R : Value → World → Prop) : Prop :=
  ∀ (next : Act → World → Prop) (Q : Exit → Act → World → Prop), (∀ v w', R v w' → next (a.put o.dst v) w') → o.wp P a w next Q
def Is (v : Value) (w : World) : Value → World → Prop := fun v1 w1 => v1 = v ∧ w1 = w
variable {ops : Array Oper} {rest : List Oper} {o : Oper}
theorem Does.mono {R R' : Value → World → Prop} (h : Does P o a w R) (hr : ∀ v w', R v w' → R' v w') : Does P o a w R' := fun next Q k => h next Q (fun v w' hv => k v w' (hr v w' hv))
theorem Does.val {v : Value} {w' : World} (h : (execOp a.eval o).run P w = .ok (.value v) w') : Does P o a w (Is v w') := by
  intro next Q k
  unfold Oper.wp
  rw [h]
  exact k v w' ⟨rfl, rfl⟩
theorem Does.unit {w' : World} (h : (execOp a.eval o).run P w = .ok .skip w') : Does P o a w (Is undef w') := by
  intro next Q k
  unfold Oper.wp
  rw [h]
  exact k undef w' ⟨rfl, rfl⟩
theorem Does.enter {f : FuncId} {args : Array Value} {w' : World} {R : Value → World → Prop} (h : (execOp a.eval o).run P w = .ok (.enter f args) w') (hc : Calls P f args w' (Ret R)) : Does P o a w R := by
  intro next Q k
  unfold Oper.wp
  rw [h, Oper.upon_enter]
  refine hc.mono (fun e w' he => ?_)
  cases e with
  | returned v => exact k v w' he
  | panicked c => exact he.elim
  | outgrown => exact he.elim
theorem nil_ (h : Q .normal a w) : wpList P ops Q [] a w := h
theorem Does.list {R : Value → World → Prop} (hg : o.guard = none) (h : Does P o a w R) (k : ∀ v w', R v w' → wpList P ops Q rest (a.put o.dst v) w') : wpList P ops Q (o :: rest) a w :=
  wpList_plain hg fun K hK => h K Q (fun v w' hv => hK _ _ (k v w' hv))
theorem go1 {d : Nat} {v : Value} {w' : World} {op : Op} {ty : TypeId} {pos : String} {af : Array Edge} (ha : Has n l a) (hd : Nat.ble (d + 1) n = true)
    (h : Does P ⟨some d, op, ty, pos, af, none⟩ a w (Is v w')) (k : ∀ a, Has n ((d, v) :: l) a → wpList P ops Q rest a w') : wpList P ops Q (⟨some d, op, ty, pos, af, none⟩ :: rest) a w :=
  h.list rfl (fun v1 w1 hv => by obtain ⟨rfl, rfl⟩ := hv; exact k _ (ha.put hd _))
theorem go0 {v : Value} {w' : World} {op : Op} {ty : TypeId} {pos : String} {af : Array Edge} (ha : Has n l a)
    (h : Does P ⟨none, op, ty, pos, af, none⟩ a w (Is v w')) (k : ∀ a, Has n l a → wpList P ops Q rest a w') : wpList P ops Q (⟨none, op, ty, pos, af, none⟩ :: rest) a w :=
  h.list rfl (fun v1 w1 hv => by obtain ⟨rfl, rfl⟩ := hv; exact k _ ha)
theorem goR {d : Nat} {R : Value → World → Prop} {op : Op} {ty : TypeId} {pos : String} {af : Array Edge} (ha : Has n l a) (hd : Nat.ble (d + 1) n = true)
    (h : Does P ⟨some d, op, ty, pos, af, none⟩ a w R) (k : ∀ v w' a, R v w' → Has n ((d, v) :: l) a → wpList P ops Q rest a w') : wpList P ops Q (⟨some d, op, ty, pos, af, none⟩ :: rest) a w :=
  h.list rfl (fun v1 w1 hv => k v1 w1 _ hv (ha.put hd _))
theorem goR0 {R : Value → World → Prop} {op : Op} {ty : TypeId} {pos : String} {af : Array Edge} (ha : Has n l a)
    (h : Does P ⟨none, op, ty, pos, af, none⟩ a w R) (k : ∀ v w' a, R v w' → Has n l a → wpList P ops Q rest a w') : wpList P ops Q (⟨none, op, ty, pos, af, none⟩ :: rest) a w :=
  h.list rfl (fun v1 w1 hv => k v1 w1 _ hv ha)
variable {d : Option Nat} {ty : TypeId} {pos : String} {af : Array Edge} {g : Option (Nat × Bool)}
theorem d_move {x : Operand} {v : Value} (ha : Has n l a) (hx : ev l x = some v) : Does P ⟨d, .move x, ty, pos, af, g⟩ a w (Is v w) := Does.val (by simp [execOp, ha.ev hx])
theorem d_assign {x : Operand} {v : Value} (ha : Has n l a) (hx : ev l x = some v) : Does P ⟨d, .assign x, ty, pos, af, g⟩ a w (Is v w) := Does.val (by simp [execOp, ha.ev hx])
theorem d_pick_t {c x y : Operand} {v : Value} (ha : Has n l a) (hc : ev l c = some (.bool true)) (hx : ev l x = some v) : Does P ⟨d, .pick c x y, ty, pos, af, g⟩ a w (Is v w) := Does.val (by simp [execOp, ha.ev hx, ha.ev hc, asBool])
theorem d_pick_f {c x y : Operand} {v : Value} (ha : Has n l a) (hc : ev l c = some (.bool false)) (hx : ev l y = some v) : Does P ⟨d, .pick c x y, ty, pos, af, g⟩ a w (Is v w) := Does.val (by simp [execOp, ha.ev hx, ha.ev hc, asBool])
theorem d_arith {op : BinOp} {x y : Operand} {T T' : TypeId} {k : IntKind} {m j r : Int} (ha : Has n l a) (hx : ev l x = some (.int k m)) (hy : ev l y = some (.int k j))
    (h : ∀ w, (binOp op T (.int k m) (.int k j)).run P w = .ok (.int k r) w) : Does P ⟨d, .binOp op T x y T', ty, pos, af, g⟩ a w (Is (.int k r) w) :=
  Does.val (by simp [execOp, ha.ev hx, ha.ev hy, eqGuard, h])
end
end Go.Sx
namespace Go.Sx
open Go Go.RowKit
section
variable {P : Program} {a : Act} {w : World} {n : Nat} {l : List (Nat × Value)}
variable {d : Option Nat} {ty T T' : TypeId} {pos : String} {af : Array Edge} {g : Option (Nat × Bool)} {x y : Operand} {k k' : IntKind} {i j : Int}
theorem d_bin {op : BinOp} {u v r : Value} (ha : Has n l a) (hx : ev l x = some u) (hy : ev l y = some v)
    (hq : ∀ w, (eqGuard op T x y u v).run P w = .ok () w) (h : (binOp op T u v).run P w = .ok r w) : Does P ⟨d, .binOp op T x y T', ty, pos, af, g⟩ a w (Is r w) :=
  Does.val (by simp [execOp, ha.ev hx, ha.ev hy, hq, h])
theorem guard_int {op : BinOp} {m : Int} {v : Value} (w : World) : (eqGuard op T x y (.int k m) v).run P w = .ok () w := by rw [eqGuard_at_int]; rfl
theorem guard_str {op : BinOp} {m : ByteArray} {v : Value} (w : World) : (eqGuard op T x y (.string m) v).run P w = .ok () w := by cases op <;> rfl
theorem guard_bool {op : BinOp} {m : Bool} {v : Value} (w : World) : (eqGuard op T x y (.bool m) v).run P w = .ok () w := by cases op <;> rfl
theorem guard_ptr {op : BinOp} {m : Option Addr} {v : Value} (w : World) : (eqGuard op T x y (.pointer m) v).run P w = .ok () w := by cases op <;> rfl
theorem guard_slice {op : BinOp} {m : Option Addr} {q c : Nat} {v : Value} (w : World) : (eqGuard op T x y (.slice m q c) v).run P w = .ok () w := by cases op <;> rfl
theorem d_add (ha : Has n l a) (hx : ev l x = some (.int k i)) (hy : ev l y = some (.int k j)) : Does P ⟨d, .binOp .add T x y T', ty, pos, af, g⟩ a w (Is (.int k (k.wrap (i + j))) w) := d_bin ha hx hy guard_int (by simp [binOp, Op.intArith])
theorem d_sub (ha : Has n l a) (hx : ev l x = some (.int k i)) (hy : ev l y = some (.int k j)) : Does P ⟨d, .binOp .sub T x y T', ty, pos, af, g⟩ a w (Is (.int k (k.wrap (i - j))) w) := d_bin ha hx hy guard_int (by simp [binOp, Op.intArith])
theorem d_mul (ha : Has n l a) (hx : ev l x = some (.int k i)) (hy : ev l y = some (.int k j)) : Does P ⟨d, .binOp .mul T x y T', ty, pos, af, g⟩ a w (Is (.int k (k.wrap (i * j))) w) := d_bin ha hx hy guard_int (by simp [binOp, Op.intArith])
theorem d_quo (ha : Has n l a) (hx : ev l x = some (.int k i)) (hy : ev l y = some (.int k j)) (h : j ≠ 0) : Does P ⟨d, .binOp .quo T x y T', ty, pos, af, g⟩ a w (Is (.int k (k.wrap (i.tdiv j))) w) := d_bin ha hx hy guard_int (by simp [binOp, Op.intDiv, h])
theorem d_rem (ha : Has n l a) (hx : ev l x = some (.int k i)) (hy : ev l y = some (.int k j)) (h : j ≠ 0) : Does P ⟨d, .binOp .rem T x y T', ty, pos, af, g⟩ a w (Is (.int k (i.tmod j)) w) := d_bin ha hx hy guard_int (by simp [binOp, Op.intDiv, h])
theorem d_and (ha : Has n l a) (hx : ev l x = some (.int k i)) (hy : ev l y = some (.int k j)) : Does P ⟨d, .binOp .and T x y T', ty, pos, af, g⟩ a w (Is (.int k (bits .and k i j)) w) := d_bin ha hx hy guard_int (by simp [binOp, intBits_and])
theorem d_or (ha : Has n l a) (hx : ev l x = some (.int k i)) (hy : ev l y = some (.int k j)) : Does P ⟨d, .binOp .or T x y T', ty, pos, af, g⟩ a w (Is (.int k (bits .or k i j)) w) := d_bin ha hx hy guard_int (by simp [binOp, intBits_or])
theorem d_xor (ha : Has n l a) (hx : ev l x = some (.int k i)) (hy : ev l y = some (.int k j)) : Does P ⟨d, .binOp .xor T x y T', ty, pos, af, g⟩ a w (Is (.int k (bits .xor k i j)) w) := d_bin ha hx hy guard_int (by simp [binOp, intBits_xor])
theorem d_andNot (ha : Has n l a) (hx : ev l x = some (.int k i)) (hy : ev l y = some (.int k j)) : Does P ⟨d, .binOp .andNot T x y T', ty, pos, af, g⟩ a w (Is (.int k (bits .andNot k i j)) w) := d_bin ha hx hy guard_int (by simp [binOp, intBits_andNot])
def shl (k : IntKind) (i j : Int) : Int := k.wrap (i * 2 ^ min j.toNat k.bits)
def shr (k : IntKind) (i j : Int) : Int := i / 2 ^ min j.toNat k.bits
theorem d_shl (ha : Has n l a) (hx : ev l x = some (.int k i)) (hy : ev l y = some (.int k' j)) (h : 0 ≤ j) : Does P ⟨d, .binOp .shl T x y T', ty, pos, af, g⟩ a w (Is (.int k (shl k i j)) w) := d_bin ha hx hy guard_int (by simp [binOp, shift_shl_any _ _ _ _ h, shl])
theorem d_shr (ha : Has n l a) (hx : ev l x = some (.int k i)) (hy : ev l y = some (.int k' j)) (h : 0 ≤ j) : Does P ⟨d, .binOp .shr T x y T', ty, pos, af, g⟩ a w (Is (.int k (shr k i j)) w) := d_bin ha hx hy guard_int (by simp [binOp, shift_shr_any _ _ _ _ h, shr])
theorem d_eqI (ha : Has n l a) (hx : ev l x = some (.int k i)) (hy : ev l y = some (.int k j)) : Does P ⟨d, .binOp .eql T x y T', ty, pos, af, g⟩ a w (Is (.bool (decide (i = j))) w) := d_bin ha hx hy guard_int (by simp [binOp, Op.intCmp, BEq.beq])
theorem d_neI (ha : Has n l a) (hx : ev l x = some (.int k i)) (hy : ev l y = some (.int k j)) : Does P ⟨d, .binOp .neq T x y T', ty, pos, af, g⟩ a w (Is (.bool (!decide (i = j))) w) := d_bin ha hx hy guard_int (by simp [binOp, Op.intCmp, bne, BEq.beq])
theorem d_lt (ha : Has n l a) (hx : ev l x = some (.int k i)) (hy : ev l y = some (.int k j)) : Does P ⟨d, .binOp .lss T x y T', ty, pos, af, g⟩ a w (Is (.bool (decide (i < j))) w) := d_bin ha hx hy guard_int (by simp [binOp, Op.intCmp])
theorem d_le (ha : Has n l a) (hx : ev l x = some (.int k i)) (hy : ev l y = some (.int k j)) : Does P ⟨d, .binOp .leq T x y T', ty, pos, af, g⟩ a w (Is (.bool (decide (i ≤ j))) w) := d_bin ha hx hy guard_int (by simp [binOp, Op.intCmp])
theorem d_gt (ha : Has n l a) (hx : ev l x = some (.int k i)) (hy : ev l y = some (.int k j)) : Does P ⟨d, .binOp .gtr T x y T', ty, pos, af, g⟩ a w (Is (.bool (decide (j < i))) w) := d_bin ha hx hy guard_int (by simp [binOp, Op.intCmp])
theorem d_ge (ha : Has n l a) (hx : ev l x = some (.int k i)) (hy : ev l y = some (.int k j)) : Does P ⟨d, .binOp .geq T x y T', ty, pos, af, g⟩ a w (Is (.bool (decide (j ≤ i))) w) := d_bin ha hx hy guard_int (by simp [binOp, Op.intCmp])
theorem equalIn_bool (m : Nat) (w : World) (T : TypeId) (p q : Bool) (hT : P.underlying T = some .bool) : (Op.equalIn (m + 1) T (.bool p) (.bool q)).run P w = .ok (p == q) w := by
  simp [Op.equalIn, run_underlying hT]
theorem equalIn_ptrnil (m : Nat) (w : World) (T e : TypeId) (p : Option Addr) (hT : P.underlying T = some (.pointer e)) : (Op.equalIn (m + 1) T (.pointer p) (.pointer none)).run P w = .ok p.isNone w := by
  cases p <;> simp [Op.equalIn, run_underlying hT]
theorem d_eqB {p q : Bool} (ha : Has n l a) (hT : P.underlying T = some .bool) (hx : ev l x = some (.bool p)) (hy : ev l y = some (.bool q)) : Does P ⟨d, .binOp .eql T x y T', ty, pos, af, g⟩ a w (Is (.bool (p == q)) w) :=
  d_bin ha hx hy guard_bool (by
    have h := equalIn_bool (P := P) 9999 w T p q hT
    simp only [binOp, Op.equal, Op.maxDepth, Sem.run_bind, Sem.run_pure, h, Result.andThen_ok])
theorem d_neB {p q : Bool} (ha : Has n l a) (hT : P.underlying T = some .bool) (hx : ev l x = some (.bool p)) (hy : ev l y = some (.bool q)) : Does P ⟨d, .binOp .neq T x y T', ty, pos, af, g⟩ a w (Is (.bool (!(p == q))) w) :=
  d_bin ha hx hy guard_bool (by
    have h := equalIn_bool (P := P) 9999 w T p q hT
    simp only [binOp, Op.equal, Op.maxDepth, Sem.run_bind, Sem.run_pure, h, Result.andThen_ok])
theorem toList_eq_iff (s t : ByteArray) : (s.toList == t.toList) = decide (s = t) := by
  rw [ByteArray.toList_eq, ByteArray.toList_eq]
  by_cases h : s = t
  · simp [h]
  · have : s.data.toList ≠ t.data.toList := by
      intro e
      apply h
      cases s; cases t
      simpa using congrArg List.toArray e
    rw [decide_eq_false h]
    exact beq_eq_false_iff_ne.2 this
theorem d_eqS {p q : ByteArray} (ha : Has n l a) (hx : ev l x = some (.string p)) (hy : ev l y = some (.string q)) : Does P ⟨d, .binOp .eql T x y T', ty, pos, af, g⟩ a w (Is (.bool (decide (p = q))) w) :=
  d_bin ha hx hy guard_str (by simp [binOp, Op.stringOp, toList_eq_iff])
theorem d_neS {p q : ByteArray} (ha : Has n l a) (hx : ev l x = some (.string p)) (hy : ev l y = some (.string q)) : Does P ⟨d, .binOp .neq T x y T', ty, pos, af, g⟩ a w (Is (.bool (!decide (p = q))) w) :=
  d_bin ha hx hy guard_str (by simp [binOp, Op.stringOp, toList_eq_iff])
theorem d_sadd {p q : ByteArray} (ha : Has n l a) (hx : ev l x = some (.string p)) (hy : ev l y = some (.string q)) (h : p.size + q.size ≤ 9223372036854775807) : Does P ⟨d, .binOp .add T x y T', ty, pos, af, g⟩ a w (Is (.string (p ++ q)) w) :=
  d_bin ha hx hy guard_str (by simp only [binOp]; exact run_string_add_sum w p q h)
theorem d_ptrnil_eq {p : Option Addr} {e : TypeId} (ha : Has n l a) (hT : P.underlying T = some (.pointer e)) (hx : ev l x = some (.pointer p)) (hy : ev l y = some (.pointer none)) : Does P ⟨d, .binOp .eql T x y T', ty, pos, af, g⟩ a w (Is (.bool p.isNone) w) :=
  d_bin ha hx hy guard_ptr (by
    have h := equalIn_ptrnil (P := P) 9999 w T e p hT
    simp only [binOp, Op.equal, Op.maxDepth, Sem.run_bind, Sem.run_pure, h, Result.andThen_ok])
theorem d_ptrnil_ne {p : Option Addr} {e : TypeId} (ha : Has n l a) (hT : P.underlying T = some (.pointer e)) (hx : ev l x = some (.pointer p)) (hy : ev l y = some (.pointer none)) : Does P ⟨d, .binOp .neq T x y T', ty, pos, af, g⟩ a w (Is (.bool (!p.isNone)) w) :=
  d_bin ha hx hy guard_ptr (by
    have h := equalIn_ptrnil (P := P) 9999 w T e p hT
    simp only [binOp, Op.equal, Op.maxDepth, Sem.run_bind, Sem.run_pure, h, Result.andThen_ok])
theorem d_not {p : Bool} (ha : Has n l a) (hx : ev l x = some (.bool p)) : Does P ⟨d, .unOp .not T x, ty, pos, af, g⟩ a w (Is (.bool (!p)) w) := Does.val (by simp [execOp, ha.ev hx, Op.unary])
theorem d_neg (ha : Has n l a) (hx : ev l x = some (.int k i)) : Does P ⟨d, .unOp .neg T x, ty, pos, af, g⟩ a w (Is (.int k (k.wrap (0 - i))) w) := Does.val (by simp [execOp, ha.ev hx, Op.unary, Op.intArith])
theorem d_cvt {T1 T2 : TypeId} {k2 : IntKind} {u : TypeDesc} (ha : Has n l a) (h1 : P.underlying T1 = some u) (h2 : P.underlying T2 = some (.int k2)) (hx : ev l x = some (.int k i)) : Does P ⟨d, .convert T1 T2 x, ty, pos, af, g⟩ a w (Is (.int k2 (k2.wrap i)) w) :=
  Does.val (by simp [execOp, ha.ev hx, convert, run_underlying h1, run_underlying h2, Conv.intToInt])
theorem d_cvtS {T1 T2 : TypeId} {p : ByteArray} {u : TypeDesc} (ha : Has n l a) (h1 : P.underlying T1 = some u) (h2 : P.underlying T2 = some .string) (hx : ev l x = some (.string p)) : Does P ⟨d, .convert T1 T2 x, ty, pos, af, g⟩ a w (Is (.string p) w) :=
  Does.val (by simp [execOp, ha.ev hx, convert, run_underlying h1, run_underlying h2])
theorem d_extract {vs : List Value} {m : Nat} {v : Value} (ha : Has n l a) (hx : ev l x = some (.tuple vs.toArray)) (hv : vs[m]? = some v) : Does P ⟨d, .extract x m, ty, pos, af, g⟩ a w (Is v w) := Does.val (by simp [execOp, ha.ev hx, Instr.extract, hv])
theorem d_nilCheck {p : Addr} (ha : Has n l a) (hx : ev l x = some (.pointer (some p))) : Does P ⟨d, .nilCheck x, ty, pos, af, g⟩ a w (Is (.pointer (some p)) w) := Does.val (by simp [execOp, ha.ev hx])
theorem d_lenSlice {A : Option Addr} {q c : Nat} {e : TypeId} (ha : Has n l a) (hT : P.underlying T = some (.slice e)) (hx : ev l x = some (.slice A q c)) : Does P ⟨d, .call { callee := .builtin .len, args := #[x], argTypes := #[T] }, ty, pos, af, g⟩ a w (Is (.int .i64 (q : Int)) w) :=
  Does.val (by simp [execOp, ha.ev hx, resolve, invoke, builtin, Builtin.len_, run_underlying hT, goInt])
theorem d_lenString {p : ByteArray} (ha : Has n l a) (hT : P.underlying T = some .string) (hx : ev l x = some (.string p)) : Does P ⟨d, .call { callee := .builtin .len, args := #[x], argTypes := #[T] }, ty, pos, af, g⟩ a w (Is (.int .i64 (p.size : Int)) w) :=
  Does.val (by simp [execOp, ha.ev hx, resolve, invoke, builtin, Builtin.len_, run_underlying hT, goInt])
theorem d_lenArray {q : Nat} {v : Value} {e : TypeId} (ha : Has n l a) (hT : P.underlying T = some (.array q e)) (hx : ev l x = some v) : Does P ⟨d, .call { callee := .builtin .len, args := #[x], argTypes := #[T] }, ty, pos, af, g⟩ a w (Is (.int .i64 (q : Int)) w) :=
  Does.val (by simp [execOp, ha.ev hx, resolve, invoke, builtin, Builtin.len_, run_underlying hT, goInt])
theorem evs (ha : Has n l a) : ∀ (xs : List Operand) (vs : List Value), xs.map (ev l) = vs.map some → xs.map a.eval = vs
  | [], [], _ => rfl
  | [], _ :: _, h => by simp at h
  | _ :: _, [], h => by simp at h
  | x :: xs, v :: vs, h => by
    simp only [List.map_cons, List.cons.injEq] at h
    rw [List.map_cons, ha.ev h.1, evs ha xs vs h.2]
theorem d_call {f : FuncId} {xs : List Operand} {Ts : Array TypeId} {vs : List Value} {R : Value → World → Prop} (hf : ∀ args w, (callFunc f args).run P w = .ok (.enter f args) w) (ha : Has n l a)
    (hx : xs.map (ev l) = vs.map some) (hc : Calls P f vs.toArray w (Ret R)) : Does P ⟨d, .call { callee := .value (.func f), args := xs.toArray, argTypes := Ts }, ty, pos, af, g⟩ a w R := by
  refine Does.enter (f := f) (args := vs.toArray) ?_ hc
  simp [execOp, resolve, Deferred.ofValue, Act.eval, invoke, evs ha xs vs hx, hf]
end
end Go.Sx
namespace Go.Sx
open Go Go.RowKit
structure Fr (w w' : World) (S : Nat → Prop) : Prop where
  os : w'.os = w.os
  tape : w'.tape = w.tape
  output : w'.output = w.output
  size : w.heap.size ≤ w'.heap.size
  blk : ∀ k, k < w.heap.size → ¬ S k → w'.heap[k]? = w.heap[k]?
def No : Nat → Prop := fun _ => False
theorem Fr.refl (w : World) (S : Nat → Prop) : Fr w w S := ⟨rfl, rfl, rfl, Nat.le_refl _, fun _ _ _ => rfl⟩
theorem Fr.mono {w w' : World} {S S' : Nat → Prop} (h : Fr w w' S) (hs : ∀ k, k < w.heap.size → S k → S' k) : Fr w w' S' := ⟨h.os, h.tape, h.output, h.size, fun k hk hn => h.blk k hk (fun hS => hn (hs k hk hS))⟩
theorem Fr.step {w0 w w' : World} {S0 S : Nat → Prop} (h : Fr w0 w S0) (h2 : Fr w w' S) (hs : ∀ k, k < w0.heap.size → S k → S0 k) : Fr w0 w' S0 :=
  ⟨h2.os.trans h.os, h2.tape.trans h.tape, h2.output.trans h.output, Nat.le_trans h.size h2.size, fun k hk hn => (h2.blk k (Nat.lt_of_lt_of_le hk h.size) (fun hS => hn (hs k hk hS))).trans (h.blk k hk hn)⟩
theorem Fr.drew {w w' : World} {S : Nat → Prop} (h : Fr w w' S) : Fr w w'.drew S := ⟨h.os, h.tape, h.output, h.size, h.blk⟩
theorem Fr.drewL {w w' : World} {S : Nat → Prop} (h : Fr w.drew w' S) : Fr w w' S := ⟨h.os, h.tape, h.output, h.size, h.blk⟩
theorem Fr.alloc (w : World) (o : Obj) (S : Nat → Prop) : Fr w (w.alloc o) S := ⟨rfl, rfl, rfl, by simp, fun k hk _ => Below.heap_alloc w o k hk⟩
theorem Fr.setCell (w : World) (p : Addr) (u : Value) : Fr w (w.setCell p u) (fun k => k = p.block) := ⟨rfl, rfl, rfl, by simp [World.setCell], fun k _ hn => Below.heap_setCell _ _ _ _ hn⟩
theorem Fr.grown {w w' : World} {row : Option Nat} (h : w.grownBy w' row) : Fr w w' (fun k => some k = row) := ⟨h.os, h.tape, h.output, h.size, fun k hk hn => h.block k hk hn⟩
theorem Fr.below {w w' : World} (h : Fr w w' No) : Below w.heap.size w w' := ⟨h.os, h.tape, h.output, h.size, fun k hk => h.blk k hk id⟩
theorem Below.fr {w w' : World} (h : Below w.heap.size w w') : Fr w w' No := ⟨h.os, h.tape, h.output, h.size, fun k hk _ => h.block k hk⟩
def Av (as : List (Option Addr)) (B : Nat → Prop) : Nat → Prop := fun k => B k ∨ ∃ p, some p ∈ as ∧ p.block = k
def Old (w : World) : Nat → Prop := fun k => k < w.heap.size
structure Kd (α : Type) where
  sz : Nat
  K : (Nat → Prop) → Array Obj → α → List Value → Prop
  len : ∀ {A h x cs}, K A h x cs → cs.length = sz
  one : ∀ {A h x cs}, K A h x cs → ∀ u ∈ cs, u.oneCell' = true
  step : ∀ {A h h' x cs}, K A h x cs → h.size ≤ h'.size → (∀ k, k < h.size → ¬ A k → h'[k]? = h[k]?) → K A h' x cs
  mono : ∀ {A A' h x cs}, K A h x cs → (∀ k, k < h.size → A' k → A k) → K A' h x cs
inductive Els {α : Type} (R : α → List Value → Prop) : List α → List Value → Prop where
  | nil : Els R [] []
  | cons {x : α} {c : List Value} {xs : List α} {cs : List Value} : R x c → Els R xs cs → Els R (x :: xs) (c ++ cs)
section
variable {α : Type} {R R' : α → List Value → Prop} {xs ys : List α} {cs ds : List Value} {s : Nat}
theorem Els.imp (h : Els R xs cs) (hi : ∀ x c, R x c → R' x c) : Els R' xs cs := by
  induction h with
  | nil => exact .nil
  | cons hx _ ih => exact .cons (hi _ _ hx) ih
theorem Els.length (h : Els R xs cs) (hs : ∀ x c, R x c → c.length = s) : cs.length = xs.length * s := by
  induction h with
  | nil => simp
  | cons hx _ ih => rw [List.length_append, ih, hs _ _ hx, List.length_cons, Nat.add_mul]; omega
theorem Els.append (h : Els R xs cs) (h' : Els R ys ds) : Els R (xs ++ ys) (cs ++ ds) := by
  induction h with
  | nil => exact h'
  | cons hx _ ih => rw [List.cons_append, List.append_assoc]; exact .cons hx ih
theorem Els.get (h : Els R xs cs) (hs : ∀ x c, R x c → c.length = s) (j : Nat) (hj : j < xs.length) : ∃ c, R xs[j] c ∧ ∀ i v, c[i]? = some v → cs[j * s + i]? = some v := by
  induction h generalizing j with
  | nil => simp at hj
  | @cons x c xs cs hx ht ih =>
    cases j with
    | zero => exact ⟨c, by simpa using hx, fun i v hv => by
        have hi : i < c.length := (List.getElem?_eq_some_iff.1 hv).1
        simpa [List.getElem?_append, hi] using hv⟩
    | succ j =>
      obtain ⟨d, hd, hg⟩ := ih j (by simpa using hj)
      refine ⟨d, by simpa using hd, fun i v hv => ?_⟩
      rw [List.getElem?_append, if_neg (by rw [hs _ _ hx, Nat.add_mul]; omega), hs _ _ hx, show (j + 1) * s + i - s = j * s + i by rw [Nat.add_mul]; omega]
      exact hg i v hv
theorem Els.set (h : Els R xs cs) (hs : ∀ x c, R x c → c.length = s) (j : Nat) (hj : j < xs.length) {y : α} {d : List Value} (hy : R y d) : Els R (xs.set j y) (cs.take (j * s) ++ d ++ cs.drop (j * s + s)) := by
  induction h generalizing j with
  | nil => simp at hj
  | @cons x c xs cs hx ht ih =>
    have hc := hs _ _ hx
    cases j with
    | zero =>
      simp only [Nat.zero_mul, List.take_zero, List.nil_append, Nat.zero_add, List.set_cons_zero]
      rw [List.drop_append, ← hc]
      simpa using Els.cons hy ht
    | succ j =>
      have := ih j (by simpa using hj)
      rw [List.set_cons_succ]
      have e1 : (c ++ cs).take ((j + 1) * s) = c ++ cs.take (j * s) := by
        rw [List.take_append, List.take_of_length_le (by rw [hc, Nat.add_mul]; omega), hc, show (j + 1) * s - s = j * s by rw [Nat.add_mul]; omega]
      have e2 : (c ++ cs).drop ((j + 1) * s + s) = cs.drop (j * s + s) := by
        rw [List.drop_append, List.drop_of_length_le (by rw [hc, Nat.add_mul]; omega), hc, show (j + 1) * s + s - s = j * s + s by rw [Nat.add_mul]; omega, List.nil_append]
      rw [e1, e2, List.append_assoc, List.append_assoc, ← List.append_assoc (cs.take _)]
      exact .cons hx this
theorem Els.take (h : Els R xs cs) (hs : ∀ x c, R x c → c.length = s) (j : Nat) : Els R (xs.take j) (cs.take (j * s)) := by
  induction h generalizing j with
  | nil => simp; exact .nil
  | @cons x c xs cs hx ht ih =>
    have hc := hs _ _ hx
    cases j with
    | zero => simp; exact .nil
    | succ j =>
      have e : (c ++ cs).take ((j + 1) * s) = c ++ cs.take (j * s) := by
        rw [List.take_append, List.take_of_length_le (l := c) (by rw [hc, Nat.add_mul]; omega), hc, show (j + 1) * s - s = j * s by rw [Nat.add_mul]; omega]
      rw [List.take_succ_cons, e]
      exact .cons hx (ih j)
theorem Els.drop (h : Els R xs cs) (hs : ∀ x c, R x c → c.length = s) (j : Nat) : Els R (xs.drop j) (cs.drop (j * s)) := by
  induction h generalizing j with
  | nil => simp; exact .nil
  | @cons x c xs cs hx ht ih =>
    have hc := hs _ _ hx
    cases j with
    | zero => simp; exact .cons hx ht
    | succ j =>
      have e : (c ++ cs).drop ((j + 1) * s) = cs.drop (j * s) := by
        rw [List.drop_append, List.drop_of_length_le (l := c) (by rw [hc, Nat.add_mul]; omega), hc, show (j + 1) * s - s = j * s by rw [Nat.add_mul]; omega, List.nil_append]
      rw [List.drop_succ_cons, e]
      exact ih j
theorem Els.mem (h : Els R xs cs) {u : Value} (hu : u ∈ cs) : ∃ x c, R x c ∧ u ∈ c := by
  induction h with
  | nil => simp at hu
  | cons hx _ ih =>
    rw [List.mem_append] at hu
    exact hu.elim (fun h => ⟨_, _, hx, h⟩) ih
end
def Raw {α : Type} (A : Nat → Prop) (d : Kd α) (h : Array Obj) (a : Option Addr) (c : Nat) (xs : List α) : Prop :=
  xs.length ≤ c ∧ c ≤ maxLen ∧ ∃ cells, Els (d.K A h) xs cells ∧ (xs ≠ [] → ∃ b o C T fr, a = some ⟨b, o, none⟩ ∧ ¬ A b ∧ h[b]? = some (.cells C T fr) ∧ ∀ j v, cells[j]? = some v → C[o + j]? = some v)
section
variable {α : Type} {A A' : Nat → Prop} {d : Kd α} {h h' : Array Obj} {a : Option Addr} {c : Nat} {xs : List α}
theorem lt_of_get {h : Array Obj} {b : Nat} {o : Obj} (e : h[b]? = some o) : b < h.size := (Array.getElem?_eq_some_iff.1 e).1
theorem Raw.step (r : Raw A d h a c xs) (hs : h.size ≤ h'.size) (hk : ∀ k, k < h.size → ¬ A k → h'[k]? = h[k]?) : Raw A d h' a c xs := by
  obtain ⟨h1, h2, cells, he, hm⟩ := r
  refine ⟨h1, h2, cells, he.imp (fun _ _ hx => d.step hx hs hk), fun hn => ?_⟩
  obtain ⟨b, o, C, T, fr, ha, hA, hb, hc⟩ := hm hn
  exact ⟨b, o, C, T, fr, ha, hA, (hk b (lt_of_get hb) hA).trans hb, hc⟩
theorem Raw.mono (r : Raw A d h a c xs) (hk : ∀ k, k < h.size → A' k → A k) : Raw A' d h a c xs := by
  obtain ⟨h1, h2, cells, he, hm⟩ := r
  refine ⟨h1, h2, cells, he.imp (fun _ _ hx => d.mono hx hk), fun hn => ?_⟩
  obtain ⟨b, o, C, T, fr, ha, hA, hb, hc⟩ := hm hn
  exact ⟨b, o, C, T, fr, ha, fun h => hA (hk b (lt_of_get hb) h), hb, hc⟩
theorem Raw.nil (A : Nat → Prop) (d : Kd α) (h : Array Obj) (a : Option Addr) (c : Nat) (hc : c ≤ maxLen) : Raw A d h a c [] := ⟨Nat.zero_le _, hc, [], .nil, fun h => absurd rfl h⟩
end
namespace Kd
def scalar {α : Type} (enc : α → Value) (h1 : ∀ x, (enc x).oneCell' = true) : Kd α where
  sz := 1
  K := fun _ _ x cs => cs = [enc x]
  len := fun h => by rw [h]; rfl
  one := fun h u hu => by rw [h] at hu; simp at hu; rw [hu]; exact h1 _
  step := fun h _ _ => h
  mono := fun h _ => h
def int (k : IntKind) : Kd Int := scalar (Value.int k) (fun _ => rfl)
def bool : Kd Bool := scalar Value.bool (fun _ => rfl)
def str : Kd ByteArray := scalar Value.string (fun _ => rfl)
def pair {α β : Type} (a : Kd α) (b : Kd β) : Kd (α × β) where
  sz := a.sz + b.sz
  K := fun A h x cs => ∃ c1 c2, cs = c1 ++ c2 ∧ a.K A h x.1 c1 ∧ b.K A h x.2 c2
  len := fun ⟨c1, c2, e, h1, h2⟩ => by rw [e, List.length_append, a.len h1, b.len h2]
  one := fun ⟨c1, c2, e, h1, h2⟩ u hu => by
    rw [e, List.mem_append] at hu
    exact hu.elim (a.one h1 u) (b.one h2 u)
  step := fun ⟨c1, c2, e, h1, h2⟩ hs hk => ⟨c1, c2, e, a.step h1 hs hk, b.step h2 hs hk⟩
  mono := fun ⟨c1, c2, e, h1, h2⟩ hk => ⟨c1, c2, e, a.mono h1 hk, b.mono h2 hk⟩
def sl {α : Type} (d : Kd α) : Kd (List α) where
  sz := 1
  K := fun A h xs cs => ∃ a c, cs = [.slice a xs.length c] ∧ Raw A d h a c xs
  len := fun ⟨a, c, e, _⟩ => by rw [e]; rfl
  one := fun ⟨a, c, e, _⟩ u hu => by rw [e] at hu; simp at hu; rw [hu]; rfl
  step := fun ⟨a, c, e, r⟩ hs hk => ⟨a, c, e, r.step hs hk⟩
  mono := fun ⟨a, c, e, r⟩ hk => ⟨a, c, e, r.mono hk⟩
def arr {α : Type} (n : Nat) (d : Kd α) : Kd (List α) where
  sz := n * d.sz
  K := fun A h xs cs => xs.length = n ∧ Els (d.K A h) xs cs
  len := fun ⟨e, h⟩ => by rw [h.length (fun _ _ hx => d.len hx), e]
  one := fun ⟨_, h⟩ u hu => by
    obtain ⟨x, c, hx, hm⟩ := h.mem hu
    exact d.one hx u hm
  step := fun ⟨e, h⟩ hs hk => ⟨e, h.imp (fun _ _ hx => d.step hx hs hk)⟩
  mono := fun ⟨e, h⟩ hk => ⟨e, h.imp (fun _ _ hx => d.mono hx hk)⟩
end Kd
def Ow {α : Type} (A : Nat → Prop) (w : World) (e : TypeId) (d : Kd α) (a : Option Addr) (c : Nat) (xs : List α) : Prop :=
  ∃ cells, w.ownsRow 0 e d.sz (.slice a xs.length c) xs.length cells ∧ Els (d.K A w.heap) xs cells
structure Ex (w0 : World) (S0 : Nat → Prop) (as : List (Option Addr)) (w : World) : Prop where
  fr : Fr w0 w S0
  dis : as.Pairwise (fun x y => ∀ p q, x = some p → y = some q → p.block ≠ q.block)
  lt : ∀ p, some p ∈ as → p.block < w.heap.size
  nw : ∀ p, some p ∈ as → w0.heap.size ≤ p.block ∨ S0 p.block
structure Step (as as' : List (Option Addr)) (w w' : World) : Prop where
  size : w.heap.size ≤ w'.heap.size
  blk : ∀ k, k < w.heap.size → (∀ p, some p ∈ as → p.block ≠ k) → w'.heap[k]? = w.heap[k]?
  new : ∀ p, some p ∈ as' → (∃ q, some q ∈ as ∧ q.block = p.block) ∨ w.heap.size ≤ p.block
section
variable {α : Type} {A B : Nat → Prop} {d : Kd α} {w w' w0 : World} {a : Option Addr} {c : Nat} {xs : List α} {as as' : List (Option Addr)} {S0 S : Nat → Prop}
theorem Step.key (h : Step as as' w w') (B : Nat → Prop) : ∀ k, k < w.heap.size → Av as' B k → Av as B k := by
  intro k hk hv
  rcases hv with hv | ⟨p, hp, rfl⟩
  · exact .inl hv
  · rcases h.new p hp with ⟨q, hq, e⟩ | hq
    · exact .inr ⟨q, hq, e⟩
    · omega
theorem Step.tr (h : Step as as' w w') (r : Raw (Av as B) d w.heap a c xs) : Raw (Av as' B) d w'.heap a c xs :=
  ((r.mono (A' := fun k => Av as B k ∨ Av as' B k) (fun k hk hv => hv.elim id (h.key B k hk))).step h.size (fun k hk hn => h.blk k hk (fun p hp e => hn (.inl (.inr ⟨p, hp, e⟩))))).mono (fun k _ hv => .inr hv)
theorem Step.trK (h : Step as as' w w') {x : α} {cs : List Value} (r : d.K (Av as B) w.heap x cs) : d.K (Av as' B) w'.heap x cs :=
  d.mono (d.step (d.mono r (A' := fun k => Av as B k ∨ Av as' B k) (fun k hk hv => hv.elim id (h.key B k hk))) h.size (fun k hk hn => h.blk k hk (fun p hp e => hn (.inl (.inr ⟨p, hp, e⟩))))) (fun k _ hv => .inr hv)
theorem Step.drew (as : List (Option Addr)) (w : World) : Step as as w w.drew := ⟨Nat.le_refl _, fun _ _ _ => rfl, fun p hp => .inl ⟨p, hp, rfl⟩⟩
theorem Step.more (as : List (Option Addr)) (h : Fr w w' No) : Step as as w w' := ⟨h.size, fun k hk _ => h.blk k hk id, fun p hp => .inl ⟨p, hp, rfl⟩⟩
theorem Step.add (as : List (Option Addr)) (h : Fr w w' No) (hn : ∀ p, a = some p → w.heap.size ≤ p.block) : Step as (a :: as) w w' := ⟨h.size, fun k hk _ => h.blk k hk id, fun p hp => by
  rcases List.mem_cons.1 hp with e | hp
  · exact .inr (hn p e.symm)
  · exact .inl ⟨p, hp, rfl⟩⟩
theorem Step.wrote {a a' : Option Addr} {l r : List (Option Addr)} (h : Fr w w' (fun k => ∃ p, a = some p ∧ p.block = k)) (hn : ∀ p, a' = some p → (∃ q, a = some q ∧ q.block = p.block) ∨ w.heap.size ≤ p.block) : Step (l ++ a :: r) (l ++ a' :: r) w w' :=
  ⟨h.size, fun k hk hp => h.blk k hk (fun ⟨p, e, hb⟩ => hp p (by simp [e]) hb), fun p hp => by
    rw [List.mem_append, List.mem_cons] at hp
    rcases hp with hp | e | hp
    · exact .inl ⟨p, by simp [hp], rfl⟩
    · rcases hn p e.symm with ⟨q, hq, hb⟩ | hb
      · exact .inl ⟨q, by simp [hq], hb⟩
      · exact .inr hb
    · exact .inl ⟨p, by simp [hp], rfl⟩⟩
theorem Step.drop (l r : List (Option Addr)) (w : World) (a : Option Addr) : Step (l ++ a :: r) (l ++ r) w w := ⟨Nat.le_refl _, fun _ _ _ => rfl, fun p hp => .inl ⟨p, by rw [List.mem_append] at hp; rcases hp with hp | hp <;> simp [hp], rfl⟩⟩
theorem Ex.refl (w : World) (S0 : Nat → Prop) : Ex w S0 [] w := ⟨Fr.refl _ _, .nil, fun _ h => by simp at h, fun _ h => by simp at h⟩
theorem Ex.drew (h : Ex w0 S0 as w) : Ex w0 S0 as w.drew := ⟨h.fr.drew, h.dis, h.lt, h.nw⟩
theorem Ex.more (h : Ex w0 S0 as w) (hf : Fr w w' No) : Ex w0 S0 as w' := ⟨h.fr.step hf (fun _ _ hN => hN.elim), h.dis, fun p hp => Nat.lt_of_lt_of_le (h.lt p hp) hf.size, h.nw⟩
theorem Ex.add (h : Ex w0 S0 as w) (hf : Fr w w' No) (hn : ∀ p, a = some p → w.heap.size ≤ p.block ∧ p.block < w'.heap.size) : Ex w0 S0 (a :: as) w' :=
  ⟨h.fr.step hf (fun _ _ hN => hN.elim), List.pairwise_cons.2 ⟨fun y hy p q hp hq e => by
      have h1 := (hn p hp).1
      have h2 := h.lt q (hq ▸ hy)
      omega, h.dis⟩, fun p hp => by
      rcases List.mem_cons.1 hp with e | hp
      · exact (hn p e.symm).2
      · exact Nat.lt_of_lt_of_le (h.lt p hp) hf.size, fun p hp => by
      rcases List.mem_cons.1 hp with e | hp
      · exact .inl (Nat.le_trans h.fr.size (hn p e.symm).1)
      · exact h.nw p hp⟩
theorem Ex.wrote {a a' : Option Addr} {l r : List (Option Addr)} (h : Ex w0 S0 (l ++ a :: r) w) (hf : Fr w w' (fun k => ∃ p, a = some p ∧ p.block = k)) (hn : ∀ p, a' = some p → p.block < w'.heap.size ∧ ((∃ q, a = some q ∧ q.block = p.block) ∨ w.heap.size ≤ p.block)) : Ex w0 S0 (l ++ a' :: r) w' := by
  obtain ⟨h1, h2, h3, h4⟩ := h
  rw [List.pairwise_append, List.pairwise_cons] at h2
  refine ⟨h1.step hf (fun k hk ⟨p, e, hb⟩ => by
    rcases h4 p (by simp [e]) with h | h
    · omega
    · rwa [← hb]), ?_, fun p hp => ?_, fun p hp => ?_⟩
  · rw [List.pairwise_append, List.pairwise_cons]
    refine ⟨h2.1, ⟨fun y hy p q hp hq e => ?_, h2.2.1.2⟩, fun x hx y hy p q hp hq e => ?_⟩
    · rcases (hn p hp).2 with ⟨s, hs, hb⟩ | hb
      · exact h2.2.1.1 y hy s q hs hq (hb.trans e)
      · have := h3 q (by rw [hq] at hy; simp [hy]); omega
    · rcases List.mem_cons.1 hy with e' | hy
      · rcases (hn q (e' ▸ hq)).2 with ⟨s, hs, hb⟩ | hb
        · exact h2.2.2 x hx a (by simp) p s hp hs (e.trans hb.symm)
        · have := h3 p (by rw [hp] at hx; simp [hx]); omega
      · exact h2.2.2 x hx y (by simp [hy]) p q hp hq e
  · rw [List.mem_append, List.mem_cons] at hp
    rcases hp with hp | e | hp
    · exact Nat.lt_of_lt_of_le (h3 p (by simp [hp])) hf.size
    · exact (hn p e.symm).1
    · exact Nat.lt_of_lt_of_le (h3 p (by simp [hp])) hf.size
  · rw [List.mem_append, List.mem_cons] at hp
    rcases hp with hp | e | hp
    · exact h4 p (by simp [hp])
    · rcases (hn p e.symm).2 with ⟨s, hs, hb⟩ | hb
      · rw [← hb]; exact h4 s (by simp [hs])
      · exact .inl (Nat.le_trans h1.size hb)
    · exact h4 p (by simp [hp])
theorem Ex.drop {a : Option Addr} {l r : List (Option Addr)} (h : Ex w0 S0 (l ++ a :: r) w) : Ex w0 S0 (l ++ r) w := by
  obtain ⟨h1, h2, h3, h4⟩ := h
  refine ⟨h1, ?_, fun p hp => h3 p ?_, fun p hp => h4 p ?_⟩
  · rw [List.pairwise_append, List.pairwise_cons] at h2
    rw [List.pairwise_append]
    exact ⟨h2.1, h2.2.1.2, fun x hx y hy => h2.2.2 x hx y (by simp [hy])⟩
  all_goals (rw [List.mem_append] at hp; rcases hp with hp | hp <;> simp [hp])
end
end Go.Sx
namespace Go.Sx
open Go Go.RowKit
def At (w : World) (b o : Nat) (cs : List Value) : Prop := ∀ j v, cs[j]? = some v → w.cell? ⟨b, o + j, none⟩ = some v
def Bx (w : World) (b : Nat) (T : TypeId) (cs : List Value) : Prop := w.heap[b]? = some (.cells cs.toArray T (0, 0))
section
variable {w w' w0 : World} {b o : Nat} {T : TypeId} {cs : List Value} {as as' : List (Option Addr)} {S0 S : Nat → Prop}
theorem Bx.at_ (h : Bx w b T cs) : At w b 0 cs := by
  intro j v hv
  rw [Nat.zero_add, cell_of_row w b j cs.toArray T (0, 0) h]
  simpa using hv
theorem Bx.lt (h : Bx w b T cs) : b < w.heap.size := lt_of_get h
theorem At.sub (h : At w b o cs) (i m : Nat) : At w b (o + i) ((cs.drop i).take m) := by
  intro j v hv
  rw [Nat.add_assoc]
  refine h (i + j) v ?_
  rw [List.getElem?_take] at hv
  split at hv
  · rwa [List.getElem?_drop] at hv
  · cases hv
theorem Bx.frozen (h : Bx w b T cs) (o : Nat) : w.frozen? ⟨b, o, none⟩ = false := frozen_of_row w b o cs.toArray T h
theorem Bx.keep (h : Bx w b T cs) (hf : Fr w w' S) (hb : ¬ S b) : Bx w' b T cs := (hf.blk b (lt_of_get h) hb).trans h
theorem Bx.stay (h : Bx w b T cs) (hf : Fr w w' No) : Bx w' b T cs := h.keep hf id
theorem Bx.drew (h : Bx w b T cs) : Bx w.drew b T cs := h
end
section
variable {P : Program} {a : Act} {w : World} {n : Nat} {l : List (Nat × Value)}
variable {d : Option Nat} {ty T T' : TypeId} {pos : String} {af : Array Edge} {g : Option (Nat × Bool)} {x y z : Operand} {k k' : IntKind} {i j : Int} {b o o' : Nat}
theorem add_at (b o n : Nat) : (⟨b, o, none⟩ : Addr).add n = ⟨b, o + n, none⟩ := by unfold Addr.add; split <;> simp_all
theorem newCells (w : World) (cs : Array Value) (T : TypeId) : (w.alloc (.cells cs T)).heap[w.heap.size]? = some (.cells cs T (0, 0)) := heap_alloc_new w _
theorem d_alloc {zv : Value} {cs : List Value} (hz : ∀ w, (zeroValue T).run P w = .ok zv w) (hc : zv.cells.toList = cs) :
    Does P ⟨d, .alloc T, ty, pos, af, g⟩ a w (fun v w' => ∃ b, v = .pointer (some ⟨b, 0, none⟩) ∧ w.heap.size ≤ b ∧ b < w'.heap.size ∧ Bx w' b T cs ∧ Fr w w' No) := by
  subst hc
  refine (Does.val (v := .pointer (some ⟨w.heap.size, 0, none⟩)) (w' := w.alloc (.cells zv.cells T)) ?_).mono ?_
  · simp [execOp, Instr.alloc, hz, newVar, newRow]
  · rintro v w' ⟨rfl, rfl⟩
    exact ⟨_, rfl, Nat.le_refl _, by simp, by unfold Bx; simpa using newCells w zv.cells T, Fr.alloc _ _ _⟩
theorem d_box {v0 : Value} {cs : List Value} (ha : Has n l a) (hx : ev l x = some v0) (hc : v0.cells = cs.toArray) :
    Does P ⟨d, .box T x, ty, pos, af, g⟩ a w (fun v w' => ∃ b, v = .pointer (some ⟨b, 0, none⟩) ∧ w.heap.size ≤ b ∧ b < w'.heap.size ∧ Bx w' b T cs ∧ Fr w w' No) := by
  refine (Does.val (v := .pointer (some ⟨w.heap.size, 0, none⟩)) (w' := w.alloc (.cells v0.cells T)) ?_).mono ?_
  · simp [execOp, Instr.box, ha.ev hx, newVar, newRow]
  · rintro v w' ⟨rfl, rfl⟩
    exact ⟨_, rfl, Nat.le_refl _, by simp, by unfold Bx; simpa [hc] using newCells w v0.cells T, Fr.alloc _ _ _⟩
theorem d_fieldAddr {S : TypeId} {fi s : Nat} {fields : Array Field} {f : Field} (ha : Has n l a) (hx : ev l x = some (.pointer (some ⟨b, o, none⟩))) (hu : P.underlying S = some (.struct fields)) (hf : fields[fi]? = some f)
    (hs : ∀ w, (sizeOf f.type).run P w = .ok (s + 1) w) (ho : o + f.offset = o') : Does P ⟨d, .fieldAddr S x fi, ty, pos, af, g⟩ a w (Is (.pointer (some ⟨b, o', none⟩)) w) :=
  Does.val (by simp [execOp, ha.ev hx, Instr.fieldAt, run_underlying hu, hf, Instr.sureAddr, fieldPlace, hs, add_at, ho])
theorem run_load_cell {w : World} {v : Value} (hv : w.cell? ⟨b, o, none⟩ = some v) (hg : ∀ w, (isAgg T).run P w = .ok false w) : (loadVar T ⟨b, o, none⟩).run P w = .ok v w := by
  simp [loadVar, hg, run_load, hv]
theorem d_load {v : Value} (ha : Has n l a) (hx : ev l x = some (.pointer (some ⟨b, o, none⟩))) (hv : w.cell? ⟨b, o, none⟩ = some v) (hg : ∀ w, (isAgg T).run P w = .ok false w) : Does P ⟨d, .load T x, ty, pos, af, g⟩ a w (Is v w) :=
  Does.val (by simp [execOp, ha.ev hx, Instr.loadAt, Instr.sureAddr, run_load_cell hv hg])
theorem d_loadAgg {cs : List Value} {s : Nat} (ha : Has n l a) (hx : ev l x = some (.pointer (some ⟨b, o, none⟩))) (hc : At w b o cs) (hg : ∀ w, (isAgg T).run P w = .ok true w) (hs : ∀ w, (sizeOf T).run P w = .ok s w) (hl : cs.length = s) :
    Does P ⟨d, .load T x, ty, pos, af, g⟩ a w (Is (.agg cs.toArray) w) := by
  refine Does.val ?_
  have hr : (loadCells ⟨b, o, none⟩ s).run P w = .ok cs.toArray w := by
    rw [← hl]
    exact run_loadCells_list w _ cs (fun j v hv => by rw [add_at]; exact hc j v hv)
  simp [execOp, ha.ev hx, Instr.loadAt, Instr.sureAddr, loadVar, hg, hs, hr]
def put (cs : List Value) (o : Nat) (vs : List Value) : List Value := cs.take o ++ vs ++ cs.drop (o + vs.length)
theorem Fr.setRow (w : World) (b : Nat) (cs : Array Value) : Fr w (w.setRow b cs) (fun k => k = b) := ⟨rfl, rfl, rfl, by simp, fun k _ hn => setRow_other w b k _ hn⟩
theorem run_store {w : World} {cs vs : List Value} {v : Value} {s : Nat} {TB : TypeId} (hb : Bx w b TB cs) (hv : v.cells = vs.toArray) (h1 : ∀ u ∈ vs, u.oneCell' = true) (hs : ∀ w, (sizeOf T).run P w = .ok s w) (hl : vs.length = s) (ho : o + s ≤ cs.length) :
    ∃ w', (storeVar T ⟨b, o, none⟩ v).run P w = .ok () w' ∧ Bx w' b TB (put cs o vs) ∧ Fr w w' (fun k => k = b) := by
  have hst := run_storeCells_at P b o TB vs 0 cs.toArray w hb (by simp; omega) h1
  simp only [Nat.add_zero] at hst
  refine ⟨w.setRow b (cs.take o ++ vs ++ cs.drop (o + vs.length)).toArray, ?_, ?_, Fr.setRow w b _⟩
  · simp only [storeVar, Sem.run_bind, hs, Result.andThen_ok, hv]
    rw [if_neg (by simp [hl])]
    simpa using hst
  · unfold Bx put
    exact setRow_heap w b cs.toArray _ TB _ hb
theorem d_store {cs vs : List Value} {v : Value} {s : Nat} {TB : TypeId} (ha : Has n l a) (hx : ev l x = some (.pointer (some ⟨b, o, none⟩))) (hy : ev l y = some v) (hb : Bx w b TB cs) (hv : v.cells = vs.toArray) (h1 : ∀ u ∈ vs, u.oneCell' = true) (hs : ∀ w, (sizeOf T).run P w = .ok s w) (hl : vs.length = s) (ho : o + s ≤ cs.length) :
    Does P ⟨d, .store T x y, ty, pos, af, g⟩ a w (fun _ w' => Bx w' b TB (put cs o vs) ∧ Fr w w' (fun k => k = b)) := by
  obtain ⟨w', hr, h2, h3⟩ := run_store (P := P) (T := T) hb hv h1 hs hl ho
  refine (Does.unit (w' := w') ?_).mono ?_
  · simp [execOp, ha.ev hx, ha.ev hy, Instr.storeAt, Instr.sureAddr, hr]
  · rintro v w' ⟨rfl, rfl⟩
    exact ⟨h2, h3⟩
section
variable {α : Type} {A : Nat → Prop} {kd : Kd α} {p : Option Addr} {c : Nat} {xs : List α}
def Nb (A : Nat → Prop) (w : World) (b : Nat) : Prop := ¬ A b ∧ b < w.heap.size
theorem Raw.get (r : Raw A kd w.heap p c xs) (m : Nat) (hm : m < xs.length) : ∃ b o cs, p = some ⟨b, o, none⟩ ∧ Nb A w b ∧ kd.K A w.heap xs[m] cs ∧ At w b (o + m * kd.sz) cs := by
  obtain ⟨_, _, cells, he, hmm⟩ := r
  obtain ⟨b, o, C, T, fr, ha, hA, hb, hc⟩ := hmm (by intro e; rw [e] at hm; simp at hm)
  obtain ⟨cs, hK, hg⟩ := he.get (fun _ _ h => kd.len h) m hm
  refine ⟨b, o, cs, ha, ⟨hA, lt_of_get hb⟩, hK, fun j v hv => ?_⟩
  rw [cell_of_row w b _ C T fr hb, Nat.add_assoc]
  exact hc _ _ (hg j v hv)
theorem d_index {e : TypeId} (ha : Has n l a) (hx : ev l x = some (.slice p xs.length c)) (hy : ev l y = some (.int k i)) (hT : P.underlying T = some (.slice e)) (hs : ∀ w, (sizeOf e).run P w = .ok kd.sz w) (r : Raw A kd w.heap p c xs) (h0 : 0 ≤ i ∧ i < xs.length) (z : α) :
    Does P ⟨d, .indexAddr T x y, ty, pos, af, g⟩ a w (fun v w' => w' = w ∧ ∃ b o cs, v = .pointer (some ⟨b, o, none⟩) ∧ Nb A w b ∧ kd.K A w.heap (xs.getD i.toNat z) cs ∧ At w b o cs) := by
  have hm : i.toNat < xs.length := by omega
  obtain ⟨b, o, cs, rfl, hA, hK, hat⟩ := r.get i.toNat hm
  refine (Does.val (v := .pointer (some ⟨b, o + i.toNat * kd.sz, none⟩)) (w' := w) ?_).mono ?_
  · simp [execOp, ha.ev hx, ha.ev hy, Instr.indexAt, asIntOf, run_underlying hT, h0, hs, add_at]
  · rintro v w' ⟨rfl, rfl⟩
    refine ⟨rfl, b, _, cs, rfl, hA, ?_, hat⟩
    simpa [List.getD_eq_getElem?_getD, hm] using hK
theorem own_none {w : World} {base : Nat} {e : TypeId} {size m : Nat} {a : Option Addr} {c : Nat} {cells : List Value} (h : w.ownsRow base e size (.slice a m c) m cells) : (a = none ∧ m = 0 ∧ c = 0) ∨ ∃ g cur, a = some ⟨g, 0, none⟩ ∧ w.heap[g]? = some (.cells cur e (0, 0)) ∧ m ≤ c ∧ c ≤ maxLen ∧ cur.size = c * size ∧ cur.toList.take (m * size) = cells := by
  rcases h.2 with ⟨h, h0⟩ | ⟨g, cap, cur, h, _, hg, h1, h2, h3, h4⟩
  · simp only [Value.slice.injEq] at h
    exact .inl ⟨h.1, h0, h.2.2⟩
  · simp only [Value.slice.injEq, true_and] at h
    obtain ⟨rfl, rfl⟩ := h
    exact .inr ⟨g, cur, rfl, hg, h1, h2, h3, h4⟩
theorem Ow.lt {e : TypeId} (h : Ow A w e kd p c xs) : ∀ q, p = some q → q.block < w.heap.size := by
  obtain ⟨cells, h1, _⟩ := h
  intro q hq
  rcases own_none h1 with ⟨rfl, _⟩ | ⟨g, cur, rfl, hg, _⟩
  · cases hq
  · injection hq with hq
    subst hq
    exact lt_of_get hg
theorem Ow.len {e : TypeId} (h : Ow A w e kd p c xs) : xs.length ≤ maxLen := by
  obtain ⟨cells, h1, _⟩ := h
  rcases own_none h1 with ⟨_, h0, _⟩ | ⟨g, cur, rfl, hg, h2, h3, _⟩
  · rw [h0]; simp [maxLen]
  · omega
theorem Ow.raw {e : TypeId} {A' : Nat → Prop} (h : Ow A w e kd p c xs) (hA : ∀ k, k < w.heap.size → A' k → A k) (hn : ∀ q, p = some q → ¬ A' q.block) : Raw A' kd w.heap p c xs := by
  obtain ⟨cells, h1, h2⟩ := h
  have hl := h1.1
  rcases own_none h1 with ⟨rfl, h0, rfl⟩ | ⟨g, cur, rfl, hg, h3, h4, h5, h6⟩
  · have : xs = [] := List.eq_nil_of_length_eq_zero h0
    subst this
    exact Raw.nil _ _ _ _ _ (Nat.zero_le _)
  · refine ⟨h3, h4, cells, h2.imp (fun _ _ hx => kd.mono hx hA), fun _ => ⟨g, 0, cur, e, (0, 0), rfl, hn _ rfl, hg, fun j v hv => ?_⟩⟩
    rw [← h6, List.getElem?_take] at hv
    split at hv
    · simpa using hv
    · cases hv
theorem Ow.nil (A : Nat → Prop) (w : World) (e : TypeId) (kd : Kd α) : Ow A w e kd none 0 [] := ⟨[], World.ownsRow_nil w 0 e kd.sz, .nil⟩
theorem Ow.keep {w' : World} {S : Nat → Prop} {e : TypeId} {A' : Nat → Prop} (h : Ow A w e kd p c xs) (hf : Fr w w' S) (hp : ∀ q, p = some q → ¬ S q.block) (hK : ∀ x cs, kd.K A w.heap x cs → kd.K A' w'.heap x cs) : Ow A' w' e kd p c xs := by
  obtain ⟨cells, h1, h2⟩ := h
  refine ⟨cells, ⟨h1.1, ?_⟩, h2.imp hK⟩
  rcases h1.2 with h | ⟨g, cap, cur, h, hb, hg, r⟩
  · exact .inl h
  · refine .inr ⟨g, cap, cur, h, hb, ?_, r⟩
    simp only [Value.slice.injEq] at h
    rw [hf.blk g (lt_of_get hg) (hp _ h.1)]
    exact hg
theorem d_append {e : TypeId} {zv : Value} {bytes : Nat} {q : Option Addr} {cq : Nat} {ys : List α} {B B2 S0 : Nat → Prop} {w0 : World} {lf rt : List (Option Addr)} (fs : Option Addr → List (Option Addr)) (hfs : ∀ q, fs q = lf ++ q :: rt) (ha : Has n l a) (hT : P.underlying T = some (.slice e)) (hi : (P.info? e).map (fun i => (i.zero, i.size, i.bytes)) = some (some zv, kd.sz, bytes)) (hz : zv.cells.size = kd.sz) (hs0 : 0 < kd.sz) (hb0 : 0 < bytes)
    (hx : ev l x = some (.slice p xs.length c)) (hy : ev l y = some (.slice q ys.length cq)) (hE : Ex w0 S0 (fs p) w) (ho : Ow (Av (fs p) B) w e kd p c xs) (r : Raw B2 kd w.heap q cq ys) (hB : ∀ x cs, kd.K B2 w.heap x cs → kd.K (Av (fs p) B) w.heap x cs) (hl : (xs.length + ys.length) * bytes ≤ 140737488355328) :
    Does P ⟨d, .call { callee := .builtin .append, args := #[x, y], argTypes := #[T, T] }, ty, pos, af, g⟩ a w (fun v w' => ∃ p' c', v = .slice p' (xs ++ ys).length c' ∧ Step (fs p) (fs p') w w' ∧ Ex w0 S0 (fs p') w' ∧
      Fr w w' (fun k => ∃ s, p = some s ∧ s.block = k) ∧ Ow (Av (fs p') B) w' e kd p' c' (xs ++ ys)) := by
  obtain ⟨i0, hi0, hzz⟩ := Option.map_eq_some_iff.1 hi
  simp only [Prod.mk.injEq] at hzz
  obtain ⟨hz0, hz1, hz2⟩ := hzz
  have hE' := hE
  rw [hfs] at hE'
  obtain ⟨cells, h1, h2⟩ := ho
  obtain ⟨hq1, hq2, news, hn, hm⟩ := r
  have hnl : news.length = ys.length * kd.sz := hn.length (fun _ _ h => kd.len h)
  have hbnd : xs.length + ys.length ≤ 140737488355328 := Nat.le_trans (Nat.le_mul_of_pos_right _ hb0) hl
  have hone : ∀ u ∈ news, u.oneCell' = true := by
    intro u hu
    obtain ⟨x, c, hx, hm⟩ := hn.mem hu
    exact kd.one hx u hm
  have hels : Els (kd.K (Av (fs p) B) w.heap) (xs ++ ys) (cells ++ news) := h2.append (hn.imp hB)
  have run : ∃ v w', (Builtin.append_ #[T, T] ty #[.slice p xs.length c, .slice q ys.length cq]).run P w = .ok v w' ∧ w'.ownsRow 0 e kd.sz v (xs.length + ys.length) (cells ++ news) ∧ w.grownBy w' (Value.ownBlock (.slice p xs.length c)) ∧ (v.ownBlock = Value.ownBlock (.slice p xs.length c) ∨ v.ownBlock = some w.heap.size) := by
    by_cases h0 : ys = []
    · subst h0
      have hne : news = [] := List.eq_nil_of_length_eq_zero (by simpa using hnl)
      subst hne
      refine ⟨.slice p xs.length c, w, ?_, by simpa using h1, ⟨rfl, rfl, rfl, Nat.le_refl _, fun _ _ _ => rfl⟩, .inl rfl⟩
      rcases own_none h1 with ⟨rfl, h0, rfl⟩ | ⟨g, cur, rfl, hg, h3, h4, h5, h6⟩
      · cases q <;> simp [Builtin.append_, run_underlying hT, sizeOf, typeInfo, hi0, Builtin.lenOf, Builtin.firstCells, h0, loadCells, loadCellsFrom]
      · cases q <;> simp [Builtin.append_, run_underlying hT, sizeOf, typeInfo, hi0, Builtin.lenOf, Builtin.firstCells, h3, loadCells, loadCellsFrom, storeCells]
    · obtain ⟨b, o, C, TT, fr, rfl, _, hb, hc⟩ := hm h0
      obtain ⟨v, w', hr, ho', hg', _, hat⟩ := run_append_own_at (P := P) w 0 T ty e i0 zv kd.sz bytes hT hi0 hz0 hz1 hz2 hz hs0 (.slice p xs.length c) xs.length cells h1 ⟨b, o, none⟩ ys.length cq news hnl
        (fun j u hu => by rw [add_at, cell_of_row w b _ C TT fr hb]; exact hc j u hu) hone (by simp only [maxLen]; omega) hl (Nat.zero_le _)
      exact ⟨v, w', hr, ho', hg', hat⟩
  obtain ⟨v, w', hr, ho', hg', hat⟩ := run
  refine (Does.val (v := v) (w' := w') ?_).mono ?_
  · simp [execOp, ha.ev hx, ha.ev hy, resolve, invoke, builtin, hr]
  · rintro v1 w1 ⟨rfl, rfl⟩
    have hlen : (xs ++ ys).length = xs.length + ys.length := List.length_append
    obtain ⟨p', c', rfl⟩ : ∃ p' c', v1 = .slice p' (xs ++ ys).length c' := by
      rw [hlen]
      rcases ho'.2 with ⟨rfl, h0⟩ | ⟨g, cap, cur, rfl, _⟩
      · rw [h0]; exact ⟨_, _, rfl⟩
      · exact ⟨_, _, rfl⟩
    have hob : ∀ (o : Option Addr) (m c : Nat) (k : Nat), Value.ownBlock (.slice o m c) = some k ↔ ∃ s, o = some s ∧ s.block = k := by
      intro o m c k
      cases o <;> simp [Value.ownBlock]
    have hf : Fr w w1 (fun k => ∃ s, p = some s ∧ s.block = k) := (Fr.grown hg').mono (fun k _ hk => (hob _ _ _ _).1 hk.symm)
    have hnew : ∀ s, p' = some s → s.block < w1.heap.size ∧ ((∃ t, p = some t ∧ t.block = s.block) ∨ w.heap.size ≤ s.block) := by
      intro s hs
      have hlt : s.block < w1.heap.size := by
        rcases ho'.2 with ⟨h, _⟩ | ⟨g, cap, cur, h, _, hg, _⟩
        · simp only [Value.slice.injEq] at h
          rw [h.1] at hs; cases hs
        · simp only [Value.slice.injEq] at h
          rw [h.1] at hs
          injection hs with hs
          subst hs
          exact lt_of_get hg
      refine ⟨hlt, ?_⟩
      have hs' := (hob p' (xs ++ ys).length c' s.block).2 ⟨s, hs, rfl⟩
      rcases hat with hat | hat
      · rw [hs'] at hat
        exact .inl ((hob _ _ _ _).1 hat.symm)
      · rw [hs'] at hat
        injection hat with hat
        exact .inr (by omega)
    have hst : Step (fs p) (fs p') w w1 := by
      rw [hfs, hfs]
      exact Step.wrote hf (fun s hs => (hnew s hs).2)
    refine ⟨p', c', rfl, hst, ?_, hf, cells ++ news, by rw [hlen] at ho' ⊢; exact ho', hels.imp (fun _ _ hx => hst.trK hx)⟩
    rw [hfs]
    exact hE'.wrote hf hnew
theorem one_raw {B : Nat → Prop} {b : Nat} {e : TypeId} {y : α} {cs : List Value} (hb : Bx w b e cs) (hB : ¬ B b) (hK : kd.K B w.heap y cs) : Raw B kd w.heap (some ⟨b, 0, none⟩) 1 [y] := by
  refine ⟨by simp, by simp [maxLen], cs ++ [], .cons hK .nil, fun _ => ⟨b, 0, cs.toArray, e, (0, 0), rfl, hB, hb, fun j v hv => ?_⟩⟩
  simpa using hv
theorem d_make {e : TypeId} {zv : Value} {zx : α} {bytes : Nat} {S0 B : Nat → Prop} {w0 : World} {as : List (Option Addr)} (ha : Has n l a) (hT : P.underlying T = some (.slice e)) (hi : (P.info? e).map (fun i => (i.zero, i.size, i.bytes)) = some (some zv, kd.sz, bytes)) (hb0 : 0 < bytes)
    (hz : ∀ A h, kd.K A h zx zv.cells.toList) (hx : ev l x = some (.int k i)) (hy : ev l y = some (.int k' i)) (hE : Ex w0 S0 as w) (h0 : 0 ≤ i) (hl : i * bytes ≤ 140737488355328) :
    Does P ⟨d, .makeSlice T x y, ty, pos, af, g⟩ a w (fun v w' => ∃ p' c', v = .slice p' (List.replicate i.toNat zx).length c' ∧ Step as (p' :: as) w w' ∧ Ex w0 S0 (p' :: as) w' ∧ Fr w w' No ∧ Ow (Av (p' :: as) B) w' e kd p' c' (List.replicate i.toNat zx)) := by
  obtain ⟨i0, hi0, hzz⟩ := Option.map_eq_some_iff.1 hi
  simp only [Prod.mk.injEq] at hzz
  obtain ⟨hz0, hz1, hz2⟩ := hzz
  obtain ⟨m, rfl⟩ := Int.eq_ofNat_of_zero_le h0
  have hmb : m * bytes ≤ 140737488355328 := by
    have : ((m * bytes : Nat) : Int) ≤ 140737488355328 := by rw [Int.natCast_mul]; exact hl
    omega
  have hbnd : m ≤ 140737488355328 := Nat.le_trans (Nat.le_mul_of_pos_right _ hb0) hmb
  obtain ⟨w', hr, ho, hg⟩ := run_make_full (P := P) w 0 T e i0 zv kd.sz hT hi0 hz0 hz1 k k' m (by rw [hz2, Nat.mul_comm]; omega) (by simp only [maxLen]; omega) (Nat.zero_le _)
  have hf : Fr w w' No := (Fr.grown hg).mono (fun k _ h => by cases h)
  refine (Does.val (v := .slice (some ⟨w.heap.size, 0, none⟩) m m) (w' := w') ?_).mono ?_
  · simp [execOp, ha.ev hx, ha.ev hy, hr]
  · rintro v1 w1 ⟨rfl, rfl⟩
    have hlt : w.heap.size < w1.heap.size := by
      rcases ho.2 with ⟨h, _⟩ | ⟨g, cap, cur, h, _, hg, _⟩
      · cases h
      · simp only [Value.slice.injEq, Option.some.injEq, Addr.mk.injEq] at h
        rw [h.1.1]
        exact lt_of_get hg
    have hnew : ∀ s, some (⟨w.heap.size, 0, none⟩ : Addr) = some s → w.heap.size ≤ s.block ∧ s.block < w1.heap.size := by
      intro s hs
      injection hs with hs
      subst hs
      exact ⟨Nat.le_refl _, hlt⟩
    refine ⟨some ⟨w.heap.size, 0, none⟩, m, by simp, Step.add as hf (fun s hs => (hnew s hs).1), hE.add hf hnew, hf, _, by simpa using ho, ?_⟩
    have hzl : zv.cells.size = kd.sz := by have := kd.len (hz No #[]); simpa using this
    simp only [Int.toNat_natCast]
    have hrep : ∀ q, (madeCells zv.cells ((q + 1) * kd.sz)).toList = zv.cells.toList ++ (madeCells zv.cells (q * kd.sz)).toList := by
      intro q
      apply List.ext_getElem
      · simp [madeCells, hzl, Nat.add_mul]; omega
      · intro j h1 h2
        simp only [madeCells, Array.toList_map, List.getElem_map, Array.getElem_toList, Array.getElem_range, List.getElem_append, Array.length_toList]
        split
        · rename_i hj
          rw [Nat.mod_eq_of_lt hj, getElem!_pos zv.cells j hj]
        · rename_i hj
          congr 1
          rw [Nat.mod_eq_sub_mod (by omega)]
    clear hr ho hnew hlt hbnd hmb hl h0 hx hy
    induction m with
    | zero => simp [madeCells]; exact .nil
    | succ q ih => rw [List.replicate_succ, hrep]; exact .cons (hz _ _) ih
end
end
end Go.Sx
namespace Go.Sx
open Go Go.RowKit
def needs (o : Oper) : List Nat := (o.after.toList.filter (fun e => Region.binds .any e)).map (·.on)
def reachT : List Oper → List (List Nat) → List (List Nat)
  | [], T => T
  | o :: r, T => reachT r (T ++ [(List.range T.length).filter fun j => (needs o).any fun q => Nat.beq q j || (T.getD q []).contains j])
def okR (os : List Oper) (m : Nat) : Bool :=
  (List.range os.length).all fun i => match os[i]? with
    | some o => (needs o).all (fun j => Nat.blt j i) && (Nat.blt i m || (List.range i).all fun j => ((reachT os []).getD i []).contains j)
    | none => false
section
variable {P : Program} {os : List Oper} {Q : Exit → Act → World → Prop} {a : Act} {w : World} {m : Nat}
theorem reach_aux {S : Nat → Prop} (os : List Oper) (hcl : ∀ i o, os[i]? = some o → S i → ∀ q ∈ needs o, S q) : ∀ (r pre : List Oper) (T : List (List Nat)), os = pre ++ r → T.length = pre.length →
    (∀ i o, os[i]? = some o → i < T.length → (∀ q ∈ needs o, S q) → ∀ j ∈ T.getD i [], S j) → ∀ i o, os[i]? = some o → (∀ q ∈ needs o, S q) → ∀ j ∈ (reachT r T).getD i [], S j := by
  intro r
  induction r with
  | nil =>
    intro pre T he hl h i o ho hn j hj
    refine h i o ho ?_ hn j hj
    have := (List.getElem?_eq_some_iff.1 ho).1
    rw [he] at this
    simp at this
    omega
  | cons p r ih =>
    intro pre T he hl h
    unfold reachT
    refine ih (pre ++ [p]) _ (by rw [he]; simp) (by simp [hl]) ?_
    intro i o ho hi hn j hj
    rcases Nat.lt_or_ge i T.length with hlt | hge
    · refine h i o ho hlt hn j ?_
      rw [List.getD_eq_getElem?_getD, List.getElem?_append, if_pos hlt] at hj
      rwa [List.getD_eq_getElem?_getD]
    · have hiT : i = T.length := by simp at hi; omega
      subst hiT
      rw [List.getD_eq_getElem?_getD, List.getElem?_append, if_neg (by omega), Nat.sub_self] at hj
      simp only [List.getElem?_cons_zero, Option.getD_some, List.mem_filter, List.any_eq_true, Bool.or_eq_true] at hj
      obtain ⟨_, q, hq, hqj⟩ := hj
      have hop : p = o := by
        rw [he, List.getElem?_append, if_neg (by omega), hl, Nat.sub_self] at ho
        simpa using ho
      subst hop
      rcases hqj with hqj | hqj
      · rw [← Nat.eq_of_beq_eq_true hqj]; exact hn q hq
      · have hqj : j ∈ T.getD q [] := by simpa using hqj
        have hqT : q < T.length := by
          rcases Nat.lt_or_ge q T.length with h | h
          · exact h
          · rw [List.getD_eq_getElem?_getD, List.getElem?_eq_none h] at hqj; simp at hqj
        have hqo : q < os.length := by
          have := (List.getElem?_eq_some_iff.1 ho).1
          omega
        exact h q os[q] (List.getElem?_eq_getElem hqo) hqT (hcl q os[q] (List.getElem?_eq_getElem hqo) (hn q hq)) j hqj
theorem okR_row (h : okR os m = true) {i : Nat} {o : Oper} (ho : os[i]? = some o) : (∀ j ∈ needs o, j < i) ∧ (m ≤ i → ∀ S : Nat → Prop, (∀ i o, os[i]? = some o → S i → ∀ q ∈ needs o, S q) → (∀ q ∈ needs o, S q) → ∀ j, j < i → S j) := by
  have h1 := List.all_eq_true.1 h i (List.mem_range.2 (List.getElem?_eq_some_iff.1 ho).1)
  rw [ho] at h1
  simp only [Bool.and_eq_true, List.all_eq_true, Bool.or_eq_true] at h1
  refine ⟨fun j hj => by simpa [Nat.blt_eq] using h1.1 j hj, fun hm S hcl hn j hj => ?_⟩
  rcases h1.2 with h2 | h2
  · rw [Nat.blt_eq] at h2; omega
  · have h3 : j ∈ (reachT os []).getD i [] := by simpa using h2 j (List.mem_range.2 hj)
    exact reach_aux os hcl os [] [] rfl rfl (fun i o _ hi => by simp at hi) i o ho hn j h3
theorem mem_ready {listed : Array Bool} {i : Nat} (h : i ∈ Region.ready .any os.toArray listed) : ∃ o, os[i]? = some o ∧ listed.getD i true = false ∧ ∀ j ∈ needs o, listed.getD j false = true := by
  unfold Region.ready at h
  rw [List.mem_filter] at h
  obtain ⟨h1, h2⟩ := h
  simp only [List.mem_range, List.size_toArray] at h1
  obtain ⟨o, ho⟩ : ∃ o, os[i]? = some o := ⟨_, List.getElem?_eq_getElem h1⟩
  simp only [Bool.and_eq_true, Bool.not_eq_true', List.getElem?_toArray, ho, Option.map_some, Option.getD_some] at h2
  refine ⟨o, ho, h2.1, fun j hj => ?_⟩
  unfold needs at hj
  rw [List.mem_map] at hj
  obtain ⟨e, he, rfl⟩ := hj
  rw [List.mem_filter] at he
  have := Array.all_eq_true'.1 h2.2 e (by simpa using he.1)
  simpa [he.2] using this
theorem ready_nil (hok : okR os m = true) {listed : Array Bool} (hs : listed.size = os.length) (h : Region.ready .any os.toArray listed = []) : ∀ i, i < os.length → listed.getD i true = true := by
  intro i
  induction i using Nat.strongRecOn with
  | _ i ih =>
    intro hi
    cases hl : listed.getD i true with
    | true => rfl
    | false =>
      exfalso
      obtain ⟨o, ho⟩ : ∃ o, os[i]? = some o := ⟨_, List.getElem?_eq_getElem hi⟩
      have : i ∈ Region.ready .any os.toArray listed := by
        unfold Region.ready
        rw [List.mem_filter]
        refine ⟨by simpa using hi, ?_⟩
        simp only [hl, Bool.not_false, Bool.true_and, List.getElem?_toArray, ho, Option.map_some, Option.getD_some]
        rw [Array.all_eq_true']
        intro e he
        cases hb : Region.binds .any e with
        | false => rfl
        | true =>
          have hj : e.on ∈ needs o := List.mem_map.2 ⟨e, List.mem_filter.2 ⟨by simpa using he, hb⟩, rfl⟩
          have h1 := (okR_row hok ho).1 e.on hj
          have h2 := ih e.on h1 (by omega)
          have h3 : e.on < listed.size := by omega
          simp only [Array.getD_eq_getD_getElem?, Array.getElem?_eq_getElem h3, Option.getD_some] at h2 ⊢
          simp [h2]
      rw [h] at this
      cases this
def DoesG (P : Program) (os : List Oper) (o : Oper) (a : Act) (w : World) (R : Value → World → Prop) : Prop :=
  if Region.wanted o (yielded os.toArray a.tmps) = true then Does P o a w R else R undef w
def lset (listed : Array Bool) (i : Nat) : Array Bool := listed.setIfInBounds i true
theorem lset_get {listed : Array Bool} {i j : Nat} (hi : i < listed.size) (d : Bool) : (listed.setIfInBounds i true).getD j d = if i = j then true else listed.getD j d := by
  by_cases h : i = j
  · subst h; simp [Array.getD, hi]
  · simp only [Array.getD_eq_getD_getElem?, Array.getElem?_setIfInBounds_ne h, h, if_false]
theorem drawn_aux (hok : okR os m = true) (I : (Nat → Bool) → Act → World → Prop)
    (hs : ∀ i o, os[i]? = some o → i < m → ∀ b a w, I b a w → b i = false → (∀ j ∈ needs o, b j = true) → DoesG P os o a w (fun v w' => I (fun j => b j || Nat.beq i j) (a.put o.dst v) w'))
    (hend : ∀ b a w, (∀ j, j < os.length → j < m → b j = true) → I b a w → wpList P os.toArray Q (os.drop m) a w) (hm : m ≤ os.length) :
    ∀ (c : Nat) (listed : Array Bool) (a : Act) (w : World), listed.size = os.length → (∀ j o', os[j]? = some o' → listed.getD j false = true → ∀ q ∈ needs o', listed.getD q false = true) → ((List.range os.length).filter fun j => !listed.getD j true).length = c → (∀ i, m ≤ i → i < os.length → listed.getD i true = false) → I (fun j => listed.getD j true) a w →
      wpAny P .any os.toArray Q c listed a w := by
  -- from the m-th on: in the text's order
  have tail : ∀ (c : Nat) (listed : Array Bool) (a : Act) (w : World) (q : Nat), listed.size = os.length → q + c = os.length → m ≤ q → (∀ i, i < os.length → (listed.getD i true = true ↔ i < q)) → wpList P os.toArray Q (os.drop q) a w → wpAny P .any os.toArray Q c listed a w := by
    intro c
    induction c with
    | zero =>
      intro listed a w q hsz hq hmq hl h
      have hnil : Region.ready .any os.toArray listed = [] := by
        rw [List.eq_nil_iff_forall_not_mem]
        intro i hi
        obtain ⟨o, ho, h1, _⟩ := mem_ready hi
        have hlt := (List.getElem?_eq_some_iff.1 ho).1
        have := (hl i hlt).2 (by omega)
        rw [h1] at this
        cases this
      rw [List.drop_of_length_le (by omega)] at h
      exact ⟨hnil, h⟩
    | succ c ih =>
      intro listed a w q hsz hq hmq hl h
      have hqlt : q < os.length := by omega
      refine ⟨fun hnil => ?_, fun i hi => ?_⟩
      · have := ready_nil hok hsz hnil q hqlt
        have := (hl q hqlt).1 this
        omega
      · obtain ⟨o, ho, h1, h2⟩ := mem_ready hi
        have hlt := (List.getElem?_eq_some_iff.1 ho).1
        have hge : q ≤ i := by
          rcases Nat.lt_or_ge i q with h | h
          · have := (hl i hlt).2 h
            rw [h1] at this; cases this
          · exact h
        have hiq : i = q := by
          rcases Nat.lt_or_ge q i with h | h
          · have hsame : ∀ j, j < os.length → (listed.getD j false = true ↔ j < q) := fun j hj => by
              rw [← hl j hj]
              have hj' : j < listed.size := by omega
              simp only [Array.getD_eq_getD_getElem?, Array.getElem?_eq_getElem hj', Option.getD_some]
            have h4 := (okR_row hok ho).2 (by omega) (fun j => listed.getD j false = true) (fun j o' ho' hb p hp => by
              have hj := (List.getElem?_eq_some_iff.1 ho').1
              have h5 := (okR_row hok ho').1 p hp
              have h6 := (hsame j hj).1 hb
              exact (hsame p (by omega)).2 (by omega)) h2 q h
            have := (hsame q hqlt).1 h4
            omega
          · omega
        subst hiq
        have hd : os.drop i = o :: os.drop (i + 1) := by
          rw [List.drop_eq_getElem_cons hlt]
          congr 1
          rw [List.getElem?_eq_getElem hlt] at ho
          exact Option.some.inj ho
        rw [hd] at h
        unfold wpOp
        simp only [List.getElem?_toArray, ho]
        unfold wpList at h
        have hnext : ∀ a w, wpList P os.toArray Q (os.drop (i + 1)) a w → wpAny P .any os.toArray Q c (listed.setIfInBounds i true) a w := by
          intro a w h
          refine ih _ a w (i + 1) (by simpa using hsz) (by omega) (by omega) (fun j hj => ?_) h
          rw [lset_get (by omega)]
          by_cases hij : i = j
          · simp [hij]
          · simp only [hij, if_false]
            rw [hl j hj]
            omega
        split at h
        · rename_i hw
          rw [if_pos hw]
          exact h.imp (Oper.wp_mono hnext) id
        · rename_i hw
          rw [if_neg hw]
          exact hnext _ _ h
  intro c
  induction c with
  | zero =>
    intro listed a w hsz hcl hc hl hI
    have hall : ∀ i, i < os.length → listed.getD i true = true := by
      intro i hi
      cases hli : listed.getD i true with
      | true => rfl
      | false =>
        have : i ∈ (List.range os.length).filter fun j => !listed.getD j true := List.mem_filter.2 ⟨List.mem_range.2 hi, by simp [hli]⟩
        rw [List.eq_nil_of_length_eq_zero hc] at this
        cases this
    have hm' : m = os.length := by
      rcases Nat.lt_or_ge m os.length with h | h
      · have := hl m (Nat.le_refl _) h
        rw [hall m h] at this; cases this
      · omega
    refine tail 0 listed a w os.length hsz (by omega) hm (fun i hi => ⟨fun _ => hi, fun _ => hall i hi⟩) ?_
    rw [← hm']
    exact hend _ a w (fun j hj _ => hall j hj) hI
  | succ c ih =>
    intro listed a w hsz hcl hc hl hI
    by_cases hpre : ∀ j, j < os.length → j < m → listed.getD j true = true
    · -- all ahead of the m-th are listed
      refine tail (c + 1) listed a w m hsz ?_ (Nat.le_refl _) (fun i hi => ⟨fun h => ?_, fun h => hpre i hi h⟩) (hend _ a w hpre hI)
      · have hfe : ((List.range os.length).filter fun j => !listed.getD j true) = (List.range os.length).filter fun j => decide (m ≤ j) := by
          refine List.filter_congr (fun j hj => ?_)
          have hj := List.mem_range.1 hj
          by_cases hjm : m ≤ j
          · simp [hl j hjm hj, hjm]
          · simp [hpre j hj (by omega), hjm]
        rw [hfe] at hc
        have hcount : ∀ n, m ≤ n → ((List.range n).filter fun j => decide (m ≤ j)).length = n - m := by
          intro n
          induction n with
          | zero => intro h; simp
          | succ n ihn =>
            intro h
            rw [List.range_succ, List.filter_append, List.length_append]
            by_cases hmn : m ≤ n
            · rw [ihn hmn]; simp [hmn]; omega
            · have : (List.range n).filter (fun j => decide (m ≤ j)) = [] := by
                rw [List.filter_eq_nil_iff]
                intro j hj
                have := List.mem_range.1 hj
                simp; omega
              rw [this]; simp [hmn]; omega
        rw [hcount os.length hm] at hc
        omega
      · rcases Nat.lt_or_ge i m with h' | h'
        · exact h'
        · rw [hl i h' hi] at h; cases h
    · refine ⟨fun hnil => ?_, fun i hi => ?_⟩
      · exact absurd (fun j hj _ => ready_nil hok hsz hnil j hj) hpre
      · obtain ⟨o, ho, h1, h2⟩ := mem_ready hi
        have hlt := (List.getElem?_eq_some_iff.1 ho).1
        have him : i < m := by
          rcases Nat.lt_or_ge i m with h | h
          · exact h
          · exfalso
            apply hpre
            intro j hj hjm
            have h4 := (okR_row hok ho).2 h (fun j => listed.getD j false = true) hcl h2 j (by omega)
            have hj' : j < listed.size := by omega
            simp only [Array.getD_eq_getD_getElem?, Array.getElem?_eq_getElem hj', Option.getD_some] at h4 ⊢
            exact h4
        have hstep := hs i o ho him _ a w hI h1 (fun j hj => by
          have h4 := h2 j hj
          have hj' : j < listed.size := by have := (okR_row hok ho).1 j hj; omega
          simp only [Array.getD_eq_getD_getElem?, Array.getElem?_eq_getElem hj', Option.getD_some] at h4 ⊢
          exact h4)
        have hcnt : ((List.range os.length).filter fun j => !(listed.setIfInBounds i true).getD j true).length = c := by
          have : ∀ n, i < n → n ≤ os.length → ((List.range n).filter fun j => !listed.getD j true).length = ((List.range n).filter fun j => !(listed.setIfInBounds i true).getD j true).length + 1 := by
            intro n
            induction n with
            | zero => intro h; omega
            | succ n ihn =>
              intro hin hn
              rw [List.range_succ, List.filter_append, List.filter_append, List.length_append, List.length_append]
              by_cases hie : i = n
              · subst hie
                have he : ((List.range i).filter fun j => !(listed.setIfInBounds i true).getD j true) = (List.range i).filter fun j => !listed.getD j true := by
                  refine List.filter_congr (fun j hj => ?_)
                  have := List.mem_range.1 hj
                  rw [lset_get (by omega), if_neg (by omega)]
                rw [he]
                have hq : (listed.setIfInBounds i true).getD i true = true := by rw [lset_get (by omega), if_pos rfl]
                rw [List.filter_cons, List.filter_cons]
                simp only [h1, hq, Bool.not_false, Bool.not_true, if_true, List.filter_nil, List.length_cons, List.length_nil, Bool.false_eq_true, if_false]
              · rw [ihn (by omega) (by omega)]
                have : (listed.setIfInBounds i true).getD n true = listed.getD n true := by rw [lset_get (by omega), if_neg hie]
                simp only [List.filter_cons, List.filter_nil, this]
                omega
          have := this os.length hlt (Nat.le_refl _)
          omega
        have hnext : ∀ a' w', I (fun j => listed.getD j true || Nat.beq i j) a' w' → wpAny P .any os.toArray Q c (listed.setIfInBounds i true) a' w' := by
          intro a' w' h
          refine ih _ a' w' (by simpa using hsz) (fun j o' ho' hb q hq => ?_) hcnt (fun j hmj hj => ?_) ?_
          · rw [lset_get (by omega)] at hb ⊢
            by_cases hiq : i = q
            · rw [if_pos hiq]
            · rw [if_neg hiq]
              by_cases hij : i = j
              · subst hij
                rw [ho] at ho'
                injection ho' with ho'
                subst ho'
                exact h2 q hq
              · rw [if_neg hij] at hb
                exact hcl j o' ho' hb q hq
          · rw [lset_get (by omega), if_neg (by omega)]
            exact hl j hmj hj
          · have he : (fun j => (listed.setIfInBounds i true).getD j true) = fun j => listed.getD j true || Nat.beq i j := by
              funext j
              rw [lset_get (by omega)]
              by_cases hij : i = j
              · subst hij; simp
              · simp [hij, beq_ne hij]
            rw [he]
            exact h
        unfold wpOp
        simp only [List.getElem?_toArray, ho]
        unfold DoesG at hstep
        split
        · rename_i hw
          rw [if_pos hw] at hstep
          exact .inl (hstep _ Q (fun v w' hv => hnext _ _ hv))
        · rename_i hw
          rw [if_neg hw] at hstep
          exact hnext _ _ hstep
theorem drawn (id : Nat) (hmx : P.follows .mixedOrders = true) (m : Nat) (hok : okR os m = true) (hm : Nat.ble m os.length = true) (I : (Nat → Bool) → Act → World → Prop) (h0 : I (fun j => !Nat.blt j os.length) a w.drew)
    (hs : ∀ i o, os[i]? = some o → i < m → ∀ b a w, I b a w → b i = false → (∀ j ∈ needs o, b j = true) → DoesG P os o a w (fun v w' => I (fun j => b j || Nat.beq i j) (a.put o.dst v) w'))
    (hend : ∀ b a w, (∀ j, j < os.length → j < m → b j = true) → I b a w → wpList P os.toArray Q (os.drop m) a w) : (Code.region id os.toArray true).wp P Q a w := by
  refine wp_region_any hmx ?_
  have hm' := Nat.le_of_ble_eq_true hm
  have := drawn_aux hok I hs hend hm' os.length (Array.replicate os.length false) a w.drew (by simp) (fun j o' ho' hb => by have hj := (List.getElem?_eq_some_iff.1 ho').1; simp [Array.getD, hj] at hb) ?_ ?_ ?_
  · simpa using this
  · rw [List.filter_eq_self.2]
    · simp
    · intro j hj
      have := List.mem_range.1 hj
      simp [Array.getD, this]
  · intro i _ hi
    simp [Array.getD, hi]
  · have he : (fun j => (Array.replicate os.length false).getD j true) = fun j => !Nat.blt j os.length := by
      funext j
      by_cases hj : j < os.length
      · simp [Array.getD, hj, Nat.blt_eq]
      · have : Nat.blt j os.length = false := by
          rw [Bool.eq_false_iff]; intro h; rw [Nat.blt_eq] at h; exact hj h
        simp [Array.getD, hj, this]
    rw [he]
    exact h0
end
end Go.Sx
namespace Go.Sx
open Go Go.RowKit
def ck {α : Type} (p : Prop) [Decidable p] (x : Option α) : Option α := if p then x else none
section
variable {α β : Type} {r : α}
theorem ck_elim {p : Prop} [Decidable p] {x : Option α} (h : ck p x = some r) : p ∧ x = some r := by
  unfold ck at h
  split at h
  · exact ⟨‹_›, h⟩
  · cases h
theorem bind_elim {x : Option β} {f : β → Option α} (h : x.bind f = some r) : ∃ t, x = some t ∧ f t = some r := by
  cases x with
  | none => cases h
  | some t => exact ⟨t, rfl, h⟩
theorem ite_elim {p : Prop} [Decidable p] {x y : Option α} (h : (if p then x else y) = some r) : (p ∧ x = some r) ∨ (¬ p ∧ y = some r) := by
  by_cases hp : p
  · rw [if_pos hp] at h; exact .inl ⟨hp, h⟩
  · rw [if_neg hp] at h; exact .inr ⟨hp, h⟩
theorem cond_elim {b : Bool} {x y : Option α} (h : (bif b then x else y) = some r) : (b = true ∧ x = some r) ∨ (b = false ∧ y = some r) := by
  cases b
  · exact .inr ⟨rfl, h⟩
  · exact .inl ⟨rfl, h⟩
theorem dec_f {p : Prop} [Decidable p] (h : ¬ p) : decide p = false := decide_eq_false h
theorem not_t {b : Bool} (h : b = true) : (!b) = false := by rw [h]; rfl
theorem not_f {b : Bool} (h : b = false) : (!b) = true := by rw [h]; rfl
end
theorem ck_pos {α : Type} {p : Prop} [Decidable p] {x : Option α} (h : p) : ck p x = x := if_pos h
section
variable {P : Program} {Q : Exit → Act → World → Prop} {a : Act} {w : World} {n : Nat} {l : List (Nat × Value)}
theorem wcond_t {c : Operand} {x y : Code} {t : Bool} (ha : Has n l a) (hc : ev l c = some (.bool t)) (ht : t = true) (h : x.wp P Q a w) : (Code.cond c x y).wp P Q a w :=
  wp_cond_split (ha.ev hc) (fun _ => h) (fun hf => by rw [ht] at hf; cases hf)
theorem wcond_f {c : Operand} {x y : Code} {t : Bool} (ha : Has n l a) (hc : ev l c = some (.bool t)) (ht : t = false) (h : y.wp P Q a w) : (Code.cond c x y).wp P Q a w :=
  wp_cond_split (ha.ev hc) (fun hf => by rw [ht] at hf; cases hf) (fun _ => h)
theorem wseqJ {x y : Code} (J : Act → World → Prop) (hJ : ∀ a w, J a w → y.wp P Q a w) (hx : ∀ K : Act → World → Prop, (∀ a w, J a w → K a w) → x.wp P (Exit.then K Q) a w) : (Code.seq x y).wp P Q a w :=
  wp_seq (hx _ hJ)
theorem rounds_mono {c : Code} : ∀ (m m' : Nat) (a : Act) (w : World), m ≤ m' → Code.rounds P c Q m a w → Code.rounds P c Q m' a w := by
  intro m
  induction m with
  | zero => intro m' a w _ h; exact h.elim
  | succ m ih =>
    intro m' a w hm h
    obtain ⟨m', rfl⟩ : ∃ q, m' = q + 1 := ⟨m' - 1, by omega⟩
    exact wp_mono h (fun e a w he => by
      cases e with
      | normal => exact ih m' a w (by omega) he
      | _ => exact he)
theorem wloopJ {c : Code} (J : Nat → Act → World → Prop) (k : Nat) (h0 : J k a w)
    (hJ : ∀ k a w, J k a w → ∀ K : Act → World → Prop, (∀ k' a w, k' < k → J k' a w → K a w) → c.wp P (Exit.then K Q) a w) : (Code.loop c).wp P Q a w := by
  refine wp_loop_rounds (k + 1) ?_
  have key : ∀ m k a w, k ≤ m → J k a w → Code.rounds P c Q (k + 1) a w := by
    intro m
    induction m with
    | zero =>
      intro k a w hk h
      refine hJ k a w h _ (fun k' a w hk' h' => ?_)
      omega
    | succ m ih =>
      intro k a w hk h
      refine hJ k a w h _ (fun k' a w hk' h' => ?_)
      exact rounds_mono (k' + 1) k a w (by omega) (ih k' a w (by omega) h')
  exact key k k a w (Nat.le_refl _) h0
theorem yield_at {tmps : Array Value} {d : Nat} {t : Bool} (h : tmps.getD d undef = .bool t) : tmps[d]? = some (.bool t) := by
  rw [Array.getD_eq_getD_getElem?] at h
  cases hx : tmps[d]? with
  | none => rw [hx] at h; simp [undef] at h
  | some v => rw [hx] at h; simpa using h
theorem goOff {ops : Array Oper} {rest : List Oper} {d : Nat} {op : Op} {ty : TypeId} {pos : String} {af : Array Edge} {j : Nat} {wt t : Bool} {oj : Oper} {dj : Nat} (ha : Has n l a) (hd : Nat.ble (d + 1) n = true)
    (hj : ops[j]? = some oj) (hdj : oj.dst = some dj) (hv : look dj l = some (.bool t)) (hne : t = !wt) (k : ∀ a, Has n ((d, undef) :: l) a → wpList P ops Q rest a w) : wpList P ops Q (⟨some d, op, ty, pos, af, some (j, wt)⟩ :: rest) a w := by
  have hw : Region.wanted ⟨some d, op, ty, pos, af, some (j, wt)⟩ (yielded ops a.tmps) = false := by
    simp only [Region.wanted, yielded, hj, hdj, Option.bind_some, yield_at (ha.at_ _ _ hv), hne]
    cases wt <;> rfl
  unfold wpList
  rw [if_neg (by rw [hw]; simp)]
  exact k _ (ha.put hd undef)
theorem goOff0 {ops : Array Oper} {rest : List Oper} {op : Op} {ty : TypeId} {pos : String} {af : Array Edge} {j : Nat} {wt t : Bool} {oj : Oper} {dj : Nat} (ha : Has n l a)
    (hj : ops[j]? = some oj) (hdj : oj.dst = some dj) (hv : look dj l = some (.bool t)) (hne : t = !wt) (k : ∀ a, Has n l a → wpList P ops Q rest a w) : wpList P ops Q (⟨none, op, ty, pos, af, some (j, wt)⟩ :: rest) a w := by
  have hw : Region.wanted ⟨none, op, ty, pos, af, some (j, wt)⟩ (yielded ops a.tmps) = false := by
    simp only [Region.wanted, yielded, hj, hdj, Option.bind_some, yield_at (ha.at_ _ _ hv), hne]
    cases wt <;> rfl
  unfold wpList
  rw [if_neg (by rw [hw]; simp)]
  exact k _ (ha.skip undef)
theorem goOn {ops : Array Oper} {rest : List Oper} {o : Oper} {j : Nat} {wt t : Bool} {oj : Oper} {dj : Nat} {R : Value → World → Prop} (hg : o.guard = some (j, wt)) (ha : Has n l a)
    (hj : ops[j]? = some oj) (hdj : oj.dst = some dj) (hv : look dj l = some (.bool t)) (he : t = wt) (h : Does P o a w R) (k : ∀ v w', R v w' → wpList P ops Q rest (a.put o.dst v) w') : wpList P ops Q (o :: rest) a w := by
  have hw : Region.wanted o (yielded ops a.tmps) = true := by
    simp only [Region.wanted, yielded, hg, hj, hdj, Option.bind_some, yield_at (ha.at_ _ _ hv), he]
    cases wt <;> rfl
  unfold wpList
  rw [if_pos hw]
  exact .inl (h _ _ k)
theorem goOn1 {ops : Array Oper} {rest : List Oper} {d : Nat} {op : Op} {ty : TypeId} {pos : String} {af : Array Edge} {j : Nat} {wt t : Bool} {oj : Oper} {dj : Nat} {v : Value} {w' : World} (ha : Has n l a) (hd : Nat.ble (d + 1) n = true)
    (hj : ops[j]? = some oj) (hdj : oj.dst = some dj) (hv : look dj l = some (.bool t)) (he : t = wt) (h : Does P ⟨some d, op, ty, pos, af, some (j, wt)⟩ a w (Is v w')) (k : ∀ a, Has n ((d, v) :: l) a → wpList P ops Q rest a w') : wpList P ops Q (⟨some d, op, ty, pos, af, some (j, wt)⟩ :: rest) a w :=
  goOn rfl ha hj hdj hv he h (fun v1 w1 hv => by obtain ⟨rfl, rfl⟩ := hv; exact k _ (ha.put hd _))
theorem goOnR {ops : Array Oper} {rest : List Oper} {d : Nat} {op : Op} {ty : TypeId} {pos : String} {af : Array Edge} {j : Nat} {wt t : Bool} {oj : Oper} {dj : Nat} {R : Value → World → Prop} (ha : Has n l a) (hd : Nat.ble (d + 1) n = true)
    (hj : ops[j]? = some oj) (hdj : oj.dst = some dj) (hv : look dj l = some (.bool t)) (he : t = wt) (h : Does P ⟨some d, op, ty, pos, af, some (j, wt)⟩ a w R) (k : ∀ v w' a, R v w' → Has n ((d, v) :: l) a → wpList P ops Q rest a w') : wpList P ops Q (⟨some d, op, ty, pos, af, some (j, wt)⟩ :: rest) a w :=
  goOn rfl ha hj hdj hv he h (fun v1 w1 hv => k v1 w1 _ hv (ha.put hd _))
theorem wreg {id : Nat} {os : List Oper} (h : wpList P os.toArray Q os a w) : (Code.region id os.toArray false).wp P Q a w := wp_region_lit h
end
section
variable {P : Program} {w : World}
theorem enter {f : FuncId} {fn : Func} {c : Code} {n : Nat} {R : Value → World → Prop} {vs : List Value} (l : List (Nat × Value)) (hf : P.funcs[f]? = some fn) (hb : fn.body = some c) (hn : fn.ntmps = n) (hs : Nat.ble vs.length n = true)
    (hl : l.map (fun p => vs[p.1]?) = l.map (fun p => some p.2)) (h : ∀ a, Has n l a → c.wp P (bodyPost P fn (Ret R)) a w) : Calls P f vs.toArray w (Ret R) := by
  refine calls_of_wp hf hb (h _ (Has.enter hn (by simpa using Nat.le_of_ble_eq_true hs) l (fun p hp => ?_)))
  have := List.map_inj_left.1 hl p hp
  simpa using this
inductive RV (P : Program) (l : List (Nat × Value)) (w : World) : List ResultVar → List Value → Prop where
  | nil : RV P l w [] []
  | tmp {t : Nat} {v : Value} {rs : List ResultVar} {vs : List Value} : look t l = some v → RV P l w rs vs → RV P l w (.tmp t :: rs) (v :: vs)
  | cell {p T : Nat} {b o : Nat} {v : Value} {rs : List ResultVar} {vs : List Value} : look p l = some (.pointer (some ⟨b, o, none⟩)) → (loadVar T ⟨b, o, none⟩).run P w = .ok v w → RV P l w rs vs → RV P l w (.cell p T :: rs) (v :: vs)
theorem RV.run {n : Nat} {l : List (Nat × Value)} {a : Act} (ha : Has n l a) {rs : List ResultVar} {vs : List Value} (h : RV P l w rs vs) (f : ResultVar → Sem Value) (hf : ∀ u, f (.tmp u) = pure (a.tmps.getD u undef)) (hc : ∀ p t, f (.cell p t) = (do loadVar t (← asAddr (a.tmps.getD p undef)))) : (rs.mapM f).run P w = .ok vs w := by
  induction h with
  | nil => simp
  | tmp h _ ih => simp only [List.mapM_cons, hf, ha.at_ _ _ h, Sem.run_bind, Sem.run_pure, Result.andThen_ok, ih]
  | cell h hl _ ih => simp only [List.mapM_cons, hc, ha.at_ _ _ h, asAddr, Sem.run_bind, Sem.run_pure, Result.andThen_ok, hl, ih]
theorem finN {fn : Func} {R : Value → World → Prop} {n : Nat} {l : List (Nat × Value)} {a : Act} {rs : List ResultVar} {vs : List Value} (ha : Has n l a) (hr : fn.results = rs.toArray) (hv : RV P l w rs vs) (hl : vs.length ≠ 1) (h : R (.tuple vs.toArray) w) : bodyPost P fn (Ret R) .ret a w := by
  refine ⟨ha.df, _, ?_, h⟩
  unfold results
  rw [hr, List.mapM_toArray]
  simp only [Sem.run_bind, Sem.run_map]
  rw [hv.run ha _ (fun _ => rfl) (fun _ _ => rfl)]
  simp [hl]
theorem finC {fn : Func} {R : Value → World → Prop} {n : Nat} {l : List (Nat × Value)} {a : Act} {rv : ResultVar} {v : Value} (ha : Has n l a) (hr : fn.results = #[rv]) (hv : RV P l w [rv] [v]) (h : R v w) : bodyPost P fn (Ret R) .ret a w := by
  refine ⟨ha.df, v, ?_, h⟩
  unfold results
  rw [show fn.results = [rv].toArray from hr, List.mapM_toArray]
  simp only [Sem.run_bind, Sem.run_map]
  rw [hv.run ha _ (fun _ => rfl) (fun _ _ => rfl)]
  simp
end
end Go.Sx
namespace Go.Sx
open Go Go.RowKit
section
variable {P : Program} {a : Act} {w w' : World} {n : Nat} {l : List (Nat × Value)}
variable {d : Option Nat} {ty T T' : TypeId} {pos : String} {af : Array Edge} {g : Option (Nat × Bool)} {x y z : Operand} {k k' k2 : IntKind} {i j m : Int} {b o o' : Nat}
variable {α : Type} {A B S0 : Nat → Prop} {kd : Kd α} {p : Option Addr} {c : Nat} {xs : List α} {w0 : World} {as lf rt : List (Option Addr)}
theorem Ex.off {u v : Option Addr} (h : Ex w0 S0 as w) (i j : Nat) (hi : as[i]? = some u) (hj : as[j]? = some v) (hij : i ≠ j) : ∀ q, v = some q → ¬ ∃ s, u = some s ∧ s.block = q.block := by
  intro q hq ⟨s, hs, hb⟩
  have h2 := List.pairwise_iff_getElem.1 h.dis
  obtain ⟨hi1, hi2⟩ := List.getElem?_eq_some_iff.1 hi
  obtain ⟨hj1, hj2⟩ := List.getElem?_eq_some_iff.1 hj
  rcases Nat.lt_or_ge i j with h | h
  · exact h2 i j hi1 hj1 h s q (hi2.trans hs) (hj2.trans hq) hb
  · exact h2 j i hj1 hi1 (by omega) q s (hj2.trans hq) (hi2.trans hs) hb.symm
theorem Raw.cut (r : Raw A kd w.heap p c xs) (L H M : Nat) (h1 : L ≤ H) (h2 : H ≤ xs.length) (h3 : H ≤ M) (h4 : M ≤ c) : Raw A kd w.heap (if M = L then p else p.map (·.add (L * kd.sz))) (M - L) ((xs.take H).drop L) := by
  obtain ⟨h5, h6, cells, he, hm⟩ := r
  have hlen : ((xs.take H).drop L).length = H - L := by rw [List.length_drop, List.length_take]; omega
  refine ⟨by omega, by omega, (cells.take (H * kd.sz)).drop (L * kd.sz), (he.take (fun _ _ h => kd.len h) H).drop (fun _ _ h => kd.len h) L, fun hne => ?_⟩
  have hpos : L < H := by
    rcases Nat.lt_or_ge L H with h | h
    · exact h
    · exact absurd (List.eq_nil_of_length_eq_zero (by omega)) hne
  obtain ⟨b, o, C, T, fr, rfl, hA, hb, hc⟩ := hm (by intro e; rw [e] at h2; simp at h2; omega)
  rw [if_neg (by omega)]
  refine ⟨b, o + L * kd.sz, C, T, fr, by simp [add_at], hA, hb, fun j v hv => ?_⟩
  rw [List.getElem?_drop, List.getElem?_take] at hv
  split at hv
  · have := hc _ _ hv
    rwa [← Nat.add_assoc] at this
  · cases hv
theorem cut_len (H L : Nat) (h : H ≤ xs.length) : ((xs.take H).drop L).length = H - L := by rw [List.length_drop, List.length_take]; omega
def In (p q : Option Addr) : Prop := ∀ s, q = some s → ∃ r, p = some r ∧ r.block = s.block
theorem In.refl (p : Option Addr) : In p p := fun s h => ⟨s, h, rfl⟩
theorem In.cut (p : Option Addr) (b : Prop) [Decidable b] (m : Nat) : In p (if b then p else p.map (·.add m)) := fun s h => by
  by_cases hb : b
  · rw [if_pos hb] at h; exact ⟨s, h, rfl⟩
  · rw [if_neg hb] at h
    cases p with
    | none => cases h
    | some r =>
      simp only [Option.map_some, Option.some.injEq] at h
      exact ⟨r, rfl, by rw [← h]; unfold Addr.add; split <;> rfl⟩
theorem d_slice {e : TypeId} {lo hi mx : Option Operand} {vlo vhi vmx : Option Value} {L H M : Nat} (ha : Has n l a) (hT : P.underlying T = some (.slice e)) (hs : ∀ w, (sizeOf e).run P w = .ok kd.sz w) (hx : ev l x = some (.slice p xs.length c))
    (h1 : lo.map a.eval = vlo) (h2 : hi.map a.eval = vhi) (h3 : mx.map a.eval = vmx) (hb : (Instr.sliceBounds true xs.length c vlo vhi vmx).run P w = .ok (L, H, M) w) (r : Raw A kd w.heap p c xs) (h : L ≤ H ∧ H ≤ xs.length ∧ H ≤ M ∧ M ≤ c) :
    Does P ⟨d, .slice T x lo hi mx, ty, pos, af, g⟩ a w (fun v w' => w' = w ∧ ∃ p', v = .slice p' ((xs.take H).drop L).length (M - L) ∧ Raw A kd w.heap p' (M - L) ((xs.take H).drop L) ∧ In p p') := by
  refine (Does.val (v := .slice (if M = L then p else p.map (·.add (L * kd.sz))) (H - L) (M - L)) (w' := w) ?_).mono ?_
  · simp [execOp, ha.ev hx, Instr.sliceAt, Instr.slice, run_underlying hT, h1, h2, h3, hb, hs]
  · rintro v w' ⟨rfl, rfl⟩
    exact ⟨rfl, _, by rw [cut_len _ _ h.2.1], r.cut L H M h.1 h.2.1 h.2.2.1 h.2.2.2, In.cut _ _ _⟩
theorem d_slice_lh {e : TypeId} (ha : Has n l a) (hT : P.underlying T = some (.slice e)) (hs : ∀ w, (sizeOf e).run P w = .ok kd.sz w) (hx : ev l x = some (.slice p xs.length c)) (hy : ev l y = some (.int k i)) (hz : ev l z = some (.int k' j)) (r : Raw A kd w.heap p c xs) (h : 0 ≤ i ∧ i ≤ j ∧ j ≤ xs.length) :
    Does P ⟨d, .slice T x (some y) (some z) none, ty, pos, af, g⟩ a w (fun v w' => w' = w ∧ ∃ p' c', v = .slice p' ((xs.take j.toNat).drop i.toNat).length c' ∧ Raw A kd w.heap p' c' ((xs.take j.toNat).drop i.toNat) ∧ In p p') := by
  have hc := r.1
  refine (d_slice (L := i.toNat) (H := j.toNat) (M := c) ha hT hs hx rfl rfl rfl ?_ r (by omega)).mono (fun v w' ⟨e, p', h1, h2, h3⟩ => ⟨e, p', _, h1, h2, h3⟩)
  have ej : (j.toNat : Int) = j := Int.toNat_of_nonneg (by omega)
  simp [ha.ev hy, ha.ev hz, Instr.sliceBounds, run_sliceBound, ej, (by omega : 0 ≤ i), (by omega : 0 ≤ j), (by omega : i ≤ j), (by omega : j ≤ c)]
theorem d_slice_l {e : TypeId} (ha : Has n l a) (hT : P.underlying T = some (.slice e)) (hs : ∀ w, (sizeOf e).run P w = .ok kd.sz w) (hx : ev l x = some (.slice p xs.length c)) (hy : ev l y = some (.int k i)) (r : Raw A kd w.heap p c xs) (h : 0 ≤ i ∧ i ≤ xs.length) :
    Does P ⟨d, .slice T x (some y) none none, ty, pos, af, g⟩ a w (fun v w' => w' = w ∧ ∃ p' c', v = .slice p' (xs.drop i.toNat).length c' ∧ Raw A kd w.heap p' c' (xs.drop i.toNat) ∧ In p p') := by
  have hc := r.1
  have he : (xs.take xs.length).drop i.toNat = xs.drop i.toNat := by rw [List.take_length]
  refine (d_slice (L := i.toNat) (H := xs.length) (M := c) ha hT hs hx rfl rfl rfl ?_ r (by omega)).mono (fun v w' ⟨e, p', h1, h2, h3⟩ => ⟨e, p', _, by rw [← he]; exact h1, by rw [← he]; exact h2, h3⟩)
  simp [ha.ev hy, Instr.sliceBounds, run_sliceBound, (by omega : 0 ≤ i), (by omega : i ≤ xs.length)]
theorem d_slice_h {e : TypeId} (ha : Has n l a) (hT : P.underlying T = some (.slice e)) (hs : ∀ w, (sizeOf e).run P w = .ok kd.sz w) (hx : ev l x = some (.slice p xs.length c)) (hz : ev l z = some (.int k' j)) (r : Raw A kd w.heap p c xs) (h : 0 ≤ j ∧ j ≤ xs.length) :
    Does P ⟨d, .slice T x none (some z) none, ty, pos, af, g⟩ a w (fun v w' => w' = w ∧ ∃ p' c', v = .slice p' (xs.take j.toNat).length c' ∧ Raw A kd w.heap p' c' (xs.take j.toNat) ∧ In p p') := by
  have hc := r.1
  have he : (xs.take j.toNat).drop 0 = xs.take j.toNat := List.drop_zero
  refine (d_slice (L := 0) (H := j.toNat) (M := c) ha hT hs hx rfl rfl rfl ?_ r (by omega)).mono (fun v w' ⟨e, p', h1, h2, h3⟩ => ⟨e, p', _, by rw [← he]; exact h1, by rw [← he]; exact h2, h3⟩)
  simp [ha.ev hz, Instr.sliceBounds, run_sliceBound, (by omega : 0 ≤ j), (by omega : j ≤ c)]
theorem d_slice_hm {e : TypeId} (ha : Has n l a) (hT : P.underlying T = some (.slice e)) (hs : ∀ w, (sizeOf e).run P w = .ok kd.sz w) (hx : ev l x = some (.slice p xs.length c)) (hy : ev l y = some (.int k j)) (hz : ev l z = some (.int k' m)) (r : Raw A kd w.heap p c xs) (h : 0 ≤ j ∧ j ≤ m ∧ m ≤ xs.length) :
    Does P ⟨d, .slice T x none (some y) (some z), ty, pos, af, g⟩ a w (fun v w' => w' = w ∧ ∃ p' c', v = .slice p' (xs.take j.toNat).length c' ∧ Raw A kd w.heap p' c' (xs.take j.toNat) ∧ In p p') := by
  have hc := r.1
  have he : (xs.take j.toNat).drop 0 = xs.take j.toNat := List.drop_zero
  have em : (m.toNat : Int) = m := Int.toNat_of_nonneg (by omega)
  refine (d_slice (L := 0) (H := j.toNat) (M := m.toNat) ha hT hs hx rfl rfl rfl ?_ r (by omega)).mono (fun v w' ⟨e, p', h1, h2, h3⟩ => ⟨e, p', _, by rw [← he]; exact h1, by rw [← he]; exact h2, h3⟩)
  simp [ha.ev hy, ha.ev hz, Instr.sliceBounds, run_sliceBound, em, (by omega : 0 ≤ j), (by omega : 0 ≤ m), (by omega : j ≤ m), (by omega : m ≤ c)]
theorem d_substr_lh {s : ByteArray} (ha : Has n l a) (hT : P.underlying T = some .string) (hx : ev l x = some (.string s)) (hy : ev l y = some (.int k i)) (hz : ev l z = some (.int k' j)) (h : 0 ≤ i ∧ i ≤ j ∧ j ≤ s.size) :
    Does P ⟨d, .slice T x (some y) (some z) none, ty, pos, af, g⟩ a w (Is (.string (s.extract i.toNat j.toNat)) w) := by
  refine Does.val ?_
  have ej : (j.toNat : Int) = j := Int.toNat_of_nonneg (by omega)
  simp [execOp, ha.ev hx, ha.ev hy, ha.ev hz, Instr.sliceAt, Instr.slice, run_underlying hT, Instr.sliceBounds, run_sliceBound, ej, (by omega : 0 ≤ i), (by omega : 0 ≤ j), (by omega : i ≤ j), (by omega : j ≤ s.size)]
theorem d_substr_l {s : ByteArray} (ha : Has n l a) (hT : P.underlying T = some .string) (hx : ev l x = some (.string s)) (hy : ev l y = some (.int k i)) (h : 0 ≤ i ∧ i ≤ s.size) :
    Does P ⟨d, .slice T x (some y) none none, ty, pos, af, g⟩ a w (Is (.string (s.extract i.toNat s.size)) w) := by
  refine Does.val ?_
  simp [execOp, ha.ev hx, ha.ev hy, Instr.sliceAt, Instr.slice, run_underlying hT, Instr.sliceBounds, run_sliceBound, (by omega : 0 ≤ i), (by omega : i ≤ s.size)]
theorem d_substr_h {s : ByteArray} (ha : Has n l a) (hT : P.underlying T = some .string) (hx : ev l x = some (.string s)) (hz : ev l z = some (.int k' j)) (h : 0 ≤ j ∧ j ≤ s.size) :
    Does P ⟨d, .slice T x none (some z) none, ty, pos, af, g⟩ a w (Is (.string (s.extract 0 j.toNat)) w) := by
  refine Does.val ?_
  simp [execOp, ha.ev hx, ha.ev hz, Instr.sliceAt, Instr.slice, run_underlying hT, Instr.sliceBounds, run_sliceBound, (by omega : 0 ≤ j), (by omega : j ≤ s.size)]
def bytesOf (s : ByteArray) : List Int := s.data.toList.map fun u => (u.toNat : Int)
theorem data_len (s : ByteArray) : s.data.toList.length = s.size := by rw [Array.length_toList]; rfl
theorem bytesOf_length (s : ByteArray) : (bytesOf s).length = s.size := by rw [bytesOf, List.length_map, data_len]
theorem d_strIndex {s : ByteArray} (ha : Has n l a) (hT : P.underlying T = some .string) (hx : ev l x = some (.string s)) (hy : ev l y = some (.int k i)) (h : 0 ≤ i ∧ i < s.size) :
    Does P ⟨d, .index T x y, ty, pos, af, g⟩ a w (Is (.int .u8 ((bytesOf s).getD i.toNat 0)) w) := by
  have hi : i.toNat < s.size := by omega
  have hv : (bytesOf s).getD i.toNat 0 = ((s[i.toNat]'hi).toNat : Int) := by
    have h2 : i.toNat < s.data.toList.length := by rw [data_len]; exact hi
    simp only [bytesOf, List.getD_eq_getElem?_getD, List.getElem?_map, List.getElem?_eq_getElem h2, Option.map_some, Option.getD_some]
    rfl
  refine Does.val ?_
  rw [hv]
  simp [execOp, ha.ev hx, ha.ev hy, Instr.index, asIntOf, run_underlying hT, h.1, ByteArray.getElem?_lt' s i.toNat hi]
theorem els_enc {enc : α → Value} {cs : List Value} (h : Els (fun x c => c = [enc x]) xs cs) : cs = xs.map enc := by
  induction h with
  | nil => rfl
  | cons hx _ ih => rw [hx, ih]; rfl
def strOf (xs : List Int) : ByteArray := strOfNums xs
theorem d_b2s {e T1 T2 : TypeId} {xs : List Int} (ha : Has n l a) (h1 : P.underlying T1 = some (.slice e)) (he : P.underlying e = some (.int .u8)) (h2 : P.underlying T2 = some .string) (hx : ev l x = some (.slice p xs.length c)) (r : Raw A (Kd.int .u8) w.heap p c xs) :
    Does P ⟨d, .convert T1 T2 x, ty, pos, af, g⟩ a w (Is (.string (strOf xs)) w) := by
  refine Does.val ?_
  have hr : (convert T1 T2 (.slice p xs.length c)).run P w = .ok (.string (strOf xs)) w := by
    by_cases h0 : xs = []
    · subst h0
      cases p with
      | none => exact run_convert_bytes_nil w T1 e h1 he 0 c T2 h2
      | some q =>
        rw [run_convert_bytes_string w T1 T2 e _ _ c h1 he h2]
        simp [Conv.bytesToString, loadCells, loadCellsFrom, strOf, strOfNums]
        rfl
    · obtain ⟨_, _, cells, hel, hm⟩ := r
      obtain ⟨b, o, C, TT, fr, rfl, hA, hb, hc⟩ := hm h0
      have hce : cells = xs.map (Value.int .u8) := els_enc hel
      refine run_convert_bytes_arg w T1 e h1 he b o xs.length c xs rfl (fun i hi => ?_) T2 h2
      rw [cell_of_row w b _ C TT fr hb]
      refine hc i _ ?_
      rw [hce, List.getElem?_map, List.getElem?_eq_getElem hi]
      simp [List.getD_eq_getElem?_getD, hi]
  simp [execOp, ha.ev hx, hr]
theorem els_map {enc : α → Value} : ∀ (xs : List α), Els (fun x c => c = [enc x]) xs (xs.map enc)
  | [] => .nil
  | x :: xs => Els.cons (R := fun x c => c = [enc x]) (x := x) (c := [enc x]) rfl (els_map xs)
theorem d_s2b {e T1 T2 : TypeId} {s : ByteArray} (ha : Has n l a) (h1 : P.underlying T1 = some .string) (h2 : P.underlying T2 = some (.slice e)) (he : P.underlying e = some (.int .u8)) (hx : ev l x = some (.string s)) (hl : s.size ≤ 140737488355328) :
    Does P ⟨d, .convert T1 T2 x, ty, pos, af, g⟩ a w (fun v w' => ∃ p c, v = .slice p (bytesOf s).length c ∧ Fr w w' No ∧ Raw (Old w) (Kd.int .u8) w'.heap p c (bytesOf s)) := by
  have hr := Lib.run_convert_string_bytes (P := P) w T1 T2 e s h1 h2 he
  refine (Does.val (v := .slice (some ⟨w.heap.size, 0, none⟩) s.size (grownCap w s.size 0 e)) (w' := Lib.bytesWorld w e s) ?_).mono ?_
  · simp [execOp, ha.ev hx, hr]
  · rintro v w' ⟨rfl, rfl⟩
    refine ⟨_, _, by rw [bytesOf_length], ⟨rfl, rfl, rfl, by rw [Lib.bytesWorld_size]; omega, fun k hk _ => Lib.bytesWorld_at_old w e s k hk⟩, ?_, ?_, (bytesOf s).map (Value.int .u8), els_map _, fun _ => ⟨w.heap.size, 0, _, e, _, rfl, by simp [Old], Lib.bytesWorld_at_new w e s, fun j v hv => ?_⟩⟩
    · rw [bytesOf_length]; exact grownCap_ge w s.size 0 e
    · exact grownCap_le_maxLen w s.size 0 e (by simp only [maxLen]; omega)
    · rw [Nat.zero_add, Lib.bytesCells, Array.getElem?_append]
      have hj : j < s.size := by
        have := (List.getElem?_eq_some_iff.1 hv).1
        rwa [List.length_map, bytesOf_length] at this
      rw [if_pos (by rw [Array.size_map]; exact hj)]
      simp only [bytesOf, List.map_map, List.getElem?_map] at hv
      rw [Array.getElem?_map, ← Array.getElem?_toList]
      simpa using hv
theorem d_indexOw {e : TypeId} (ha : Has n l a) (hx : ev l x = some (.slice p xs.length c)) (hy : ev l y = some (.int k i)) (hT : P.underlying T = some (.slice e)) (hs : ∀ w, (sizeOf e).run P w = .ok kd.sz w) (r : Ow A w e kd p c xs) (h0 : 0 ≤ i ∧ i < xs.length) :
    Does P ⟨d, .indexAddr T x y, ty, pos, af, g⟩ a w (fun v w' => w' = w ∧ ∃ b, p = some ⟨b, 0, none⟩ ∧ v = .pointer (some ⟨b, i.toNat * kd.sz, none⟩)) := by
  obtain ⟨cells, h1, h2⟩ := r
  rcases own_none h1 with ⟨rfl, h, _⟩ | ⟨b, cur, rfl, hg, _⟩
  · omega
  · refine (Does.val (v := .pointer (some ⟨b, i.toNat * kd.sz, none⟩)) (w' := w) ?_).mono ?_
    · simp [execOp, ha.ev hx, ha.ev hy, Instr.indexAt, asIntOf, run_underlying hT, h0, hs, add_at]
    · rintro v w' ⟨rfl, rfl⟩
      exact ⟨rfl, b, rfl, rfl⟩
theorem d_storeOw {e : TypeId} {v : Value} {vs : List Value} {yv : α} {q : Nat} (fs : Option Addr → List (Option Addr)) (hfs : ∀ q, fs q = lf ++ q :: rt) (ha : Has n l a) (hs : ∀ w, (sizeOf T).run P w = .ok kd.sz w) (hp : p = some ⟨b, 0, none⟩) (hx : ev l x = some (.pointer (some ⟨b, q * kd.sz, none⟩))) (hy : ev l y = some v) (hv : v.cells = vs.toArray)
    (hE : Ex w0 S0 (fs p) w) (ho : Ow (Av (fs p) B) w e kd p c xs) (hq : q < xs.length) (hK : kd.K (Av (fs p) B) w.heap yv vs) :
    Does P ⟨d, .store T x y, ty, pos, af, g⟩ a w (fun _ w' => Step (fs p) (fs p) w w' ∧ Ex w0 S0 (fs p) w' ∧ Fr w w' (fun k => ∃ s, p = some s ∧ s.block = k) ∧ Ow (Av (fs p) B) w' e kd p c (xs.set q yv)) := by
  subst hp
  obtain ⟨cells, h1, h2⟩ := ho
  have hE' := hE
  rw [hfs] at hE'
  rcases own_none h1 with ⟨h, _⟩ | ⟨b', cur, h, hg, h3, h4, h5, h6⟩
  · cases h
  · simp only [Option.some.injEq, Addr.mk.injEq, and_true] at h
    subst h
    have hvl : vs.length = kd.sz := kd.len hK
    have hcl : cells.length = xs.length * kd.sz := h1.1
    have hqs : q * kd.sz + kd.sz ≤ xs.length * kd.sz := by rw [← Nat.succ_mul]; exact Nat.mul_le_mul_right _ hq
    have hcc : xs.length * kd.sz ≤ c * kd.sz := Nat.mul_le_mul_right _ h3
    have hst := run_storeCells_at P b (q * kd.sz) e vs 0 cur w hg (by omega) (kd.one hK)
    simp only [Nat.add_zero] at hst
    have hf : Fr w (w.setRow b (cur.toList.take (q * kd.sz) ++ vs ++ cur.toList.drop (q * kd.sz + vs.length)).toArray) (fun k => ∃ s, some (⟨b, 0, none⟩ : Addr) = some s ∧ s.block = k) :=
      (Fr.setRow w b _).mono (fun k _ hk => ⟨_, rfl, hk.symm⟩)
    refine (Does.unit (w' := w.setRow b (cur.toList.take (q * kd.sz) ++ vs ++ cur.toList.drop (q * kd.sz + vs.length)).toArray) ?_).mono ?_
    · have : (storeVar T ⟨b, q * kd.sz, none⟩ v).run P w = .ok () (w.setRow b (cur.toList.take (q * kd.sz) ++ vs ++ cur.toList.drop (q * kd.sz + vs.length)).toArray) := by
        simp only [storeVar, Sem.run_bind, hs, Result.andThen_ok, hv]
        rw [if_neg (by simp [hvl])]
        simpa using hst
      simp [execOp, ha.ev hx, ha.ev hy, Instr.storeAt, Instr.sureAddr, this]
    · rintro u w' ⟨rfl, rfl⟩
      have hnew : ∀ s, some (⟨b, 0, none⟩ : Addr) = some s → s.block < (w.setRow b (cur.toList.take (q * kd.sz) ++ vs ++ cur.toList.drop (q * kd.sz + vs.length)).toArray).heap.size ∧ ((∃ t, some (⟨b, 0, none⟩ : Addr) = some t ∧ t.block = s.block) ∨ w.heap.size ≤ s.block) := by
        intro s hs
        injection hs with hs
        subst hs
        exact ⟨by simpa using lt_of_get hg, .inl ⟨_, rfl, rfl⟩⟩
      have hstep : Step (fs (some ⟨b, 0, none⟩)) (fs (some ⟨b, 0, none⟩)) w (w.setRow b (cur.toList.take (q * kd.sz) ++ vs ++ cur.toList.drop (q * kd.sz + vs.length)).toArray) := by
        rw [hfs]
        exact Step.wrote hf (fun s hs => (hnew s hs).2)
      refine ⟨hstep, by rw [hfs]; exact hE'.wrote hf hnew, hf, cells.take (q * kd.sz) ++ vs ++ cells.drop (q * kd.sz + kd.sz), ?_, ?_⟩
      · refine ⟨?_, .inr ⟨b, c, _, rfl, Nat.zero_le _, setRow_heap w b cur _ e _ hg, by rw [List.length_set]; exact h3, h4, ?_, ?_⟩⟩
        · simp only [List.length_append, List.length_take, List.length_drop, List.length_set]
          omega
        · simp only [List.size_toArray, List.length_append, List.length_take, List.length_drop, Array.length_toList]
          omega
        · have hcut : ∀ r, r ≤ xs.length * kd.sz → cur.toList.take r = cells.take r := by
            intro r hr
            rw [← h6, List.take_take, Nat.min_eq_left hr]
          rw [List.length_set, hcut _ (by omega), hvl]
          have hl1 : (cells.take (q * kd.sz) ++ vs).length = q * kd.sz + kd.sz := by rw [List.length_append, List.length_take, hvl]; omega
          rw [List.take_append, List.take_of_length_le (by omega), hl1]
          congr 1
          rw [← h6, List.drop_take]
      · exact (h2.set (fun _ _ h => kd.len h) q hq hK).imp (fun _ _ hx => hstep.trK hx)
end
end Go.Sx
namespace Go.Sx
open Go Go.RowKit
section
variable {P : Program} {a : Act} {w w' : World} {n : Nat} {l : List (Nat × Value)}
variable {d : Option Nat} {ty T T' : TypeId} {pos : String} {af : Array Edge} {g : Option (Nat × Bool)} {x y z : Operand} {k k' k2 : IntKind} {i j m : Int} {b o o' : Nat}
variable {α : Type} {A B S0 : Nat → Prop} {kd : Kd α} {p : Option Addr} {c : Nat} {xs : List α} {w0 : World} {as : List (Option Addr)}
theorem fold_put : ∀ (vs : List Value) (o i : Nat) (cs : Array Value), o + i + vs.length ≤ cs.size →
    (vs.zipIdx i).foldl (fun cs (c, j) => cs.setIfInBounds (o + j) c) cs = (cs.toList.take (o + i) ++ vs ++ cs.toList.drop (o + i + vs.length)).toArray
  | [], o, i, cs, _ => by simp
  | v :: vs, o, i, cs, h => by
    rw [List.zipIdx_cons, List.foldl_cons, fold_put vs o (i + 1) _ (by simp at h ⊢; omega)]
    have hlt : o + i < cs.toList.length := by simp at h ⊢; omega
    congr 1
    rw [Array.toList_setIfInBounds, List.length_cons, show o + (i + 1) = o + i + 1 by omega]
    rw [List.take_set, List.drop_set, if_pos (by omega), show o + i + (vs.length + 1) = o + i + 1 + vs.length by omega]
    rw [List.take_succ_eq_append_getElem hlt, List.set_append, if_neg (by simp; omega)]
    have h0 : o + i - (cs.toList.take (o + i)).length = 0 := by rw [List.length_take]; omega
    rw [h0]
    simp
theorem fill_one (place : Nat → Option (Nat × Nat)) (cells : Array Value) (i : Nat) (v : Value) (rest : List (Nat × Value)) {off s : Nat} (hp : place i = some (off, s)) (hv : v.cells.size = s) (hs : off + s ≤ cells.size) :
    Instr.fill place cells ((i, v) :: rest) = Instr.fill place (cells.toList.take off ++ v.cells.toList ++ cells.toList.drop (off + s)).toArray rest := by
  simp only [Instr.fill, hp]
  rw [if_neg (by simp [hv]; omega)]
  congr 1
  have h := fold_put v.cells.toList off 0 cells (by simp [hv]; omega)
  have hz : (v.cells.zipIdx.foldl (fun cs (x : Value × Nat) => cs.setIfInBounds (off + x.2) x.1) cells) = (v.cells.toList.zipIdx 0).foldl (fun cs (x : Value × Nat) => cs.setIfInBounds (off + x.2) x.1) cells := by
    rw [← Array.foldl_toList, Array.toList_zipIdx]
  simp only [Nat.add_zero, Array.length_toList, hv] at h
  exact hz.trans h
theorem fill_row (s : Nat) : ∀ (vs : List Value) (q : Nat) (pre rest : List Value), (∀ v ∈ vs, v.cells.size = s) → pre.length = q * s → rest.length = vs.length * s →
    Instr.fill (fun i => some (i * s, s)) (pre ++ rest).toArray ((vs.zipIdx q).map fun p => (p.2, p.1)) = some (pre ++ vs.flatMap (fun v => v.cells.toList)).toArray
  | [], q, pre, rest, _, _, h => by
    have : rest = [] := List.eq_nil_of_length_eq_zero (by simpa using h)
    simp [Instr.fill, this]
  | v :: vs, q, pre, rest, hs, hp, hr => by
    have hv := hs v (by simp)
    have hr' : rest.length = vs.length * s + s := by rw [hr, List.length_cons, Nat.succ_mul]
    rw [List.zipIdx_cons, List.map_cons, fill_one (off := q * s) (s := s) _ _ _ _ _ rfl hv (by simp [hp]; omega)]
    have h1 : (pre ++ rest).toArray.toList.take (q * s) = pre := by rw [List.toList_toArray, List.take_append, ← hp]; simp
    have h2 : (pre ++ rest).toArray.toList.drop (q * s + s) = rest.drop s := by rw [List.toList_toArray, List.drop_append, List.drop_of_length_le (by omega), hp]; simp
    rw [h1, h2]
    have := fill_row s vs (q + 1) (pre ++ v.cells.toList) (rest.drop s) (fun u hu => hs u (by simp [hu])) (by simp [hp, hv, Nat.succ_mul]) (by simp [hr'])
    rw [this]
    simp
theorem d_buildSlice {e : TypeId} {zv : Value} {parts : List (Nat × Operand)} {vs : List Value} {q : Nat} (ha : Has n l a) (hT : P.underlying T = some (.slice e)) (hs : ∀ w, (sizeOf e).run P w = .ok kd.sz w) (hz : ∀ w, (zeroValue e).run P w = .ok zv w)
    (hp : parts.map (fun p => (p.1, ev l p.2)) = (vs.zipIdx 0).map (fun p => (p.2, some p.1))) (hel : Els (kd.K (Av as B) w.heap) xs (vs.flatMap fun v => v.cells.toList)) (hv : ∀ v ∈ vs, v.cells.size = kd.sz) (hl : vs.length = q) (hx : xs.length = q) (hl2 : q * kd.sz ≤ 16777216) (hl3 : q ≤ 16777216) (hE : Ex w0 S0 as w) :
    Does P ⟨d, .buildSlice T q parts.toArray, ty, pos, af, g⟩ a w (fun v w' => ∃ p' c', v = .slice p' xs.length c' ∧ Step as (p' :: as) w w' ∧ Ex w0 S0 (p' :: as) w' ∧ Fr w w' No ∧ Ow (Av (p' :: as) B) w' e kd p' c' xs) := by
  have hpe : parts.map (fun p => (p.1, a.eval p.2)) = (vs.zipIdx 0).map (fun p => (p.2, p.1)) := by
    have : ∀ (ps : List (Nat × Operand)) (us : List (Value × Nat)), ps.map (fun p => (p.1, ev l p.2)) = us.map (fun p => (p.2, some p.1)) → ps.map (fun p => (p.1, a.eval p.2)) = us.map (fun p => (p.2, p.1)) := by
      intro ps
      induction ps with
      | nil => intro us h; cases us with
        | nil => rfl
        | cons _ _ => simp at h
      | cons p ps ih =>
        intro us h
        cases us with
        | nil => simp at h
        | cons u us =>
          simp only [List.map_cons, List.cons.injEq, Prod.mk.injEq] at h ⊢
          exact ⟨⟨h.1.1, ha.ev h.1.2⟩, ih us h.2⟩
    exact this _ _ hp
  have hrun : ∃ cur : Array Value, cur = (vs.flatMap fun v => v.cells.toList).toArray ∧ (Instr.buildSlice T q (parts.map (fun p => (p.1, a.eval p.2))).toArray).run P w = .ok (.slice (some ⟨w.heap.size, 0, none⟩) q q) (w.alloc (.cells cur e)) := by
    refine ⟨_, rfl, ?_⟩
    have hf : ∀ zc : Array Value, Instr.fill (fun i => some (i * kd.sz, kd.sz)) ((Array.range (q * kd.sz)).map (zc[· % zc.size]!)) (parts.map (fun p => (p.1, a.eval p.2))) = some (vs.flatMap fun v => v.cells.toList).toArray := by
      intro zc
      have h := fill_row kd.sz vs 0 [] ((Array.range (q * kd.sz)).map (zc[· % zc.size]!)).toList hv (by simp) (by simp [hl])
      simp only [List.nil_append, Array.toArray_toList] at h
      rw [hpe]
      exact h
    have hb : ¬ (q * kd.sz > 2 ^ 24) := by omega
    unfold Instr.buildSlice
    rw [Sem.run_bind, run_underlying hT, Result.andThen_ok]
    simp only [Sem.run_bind, Result.andThen_ok, hs]
    rw [if_neg hb]
    by_cases h : q * kd.sz = 0
    · rw [if_pos h]
      simp only [Sem.run_bind, Sem.run_pure, Result.andThen_ok, hf]
      simp [newRow]
    · rw [if_neg h]
      simp only [Sem.run_bind, Sem.run_pure, Result.andThen_ok, hz, hf]
      simp [newRow]
  obtain ⟨cur, hcur, hr⟩ := hrun
  have hf : Fr w (w.alloc (.cells cur e)) No := Fr.alloc _ _ _
  have hnew : ∀ s, some (⟨w.heap.size, 0, none⟩ : Addr) = some s → w.heap.size ≤ s.block ∧ s.block < (w.alloc (.cells cur e)).heap.size := by
    intro s hs
    injection hs with hs
    subst hs
    exact ⟨Nat.le_refl _, by simp⟩
  refine (Does.val (v := .slice (some ⟨w.heap.size, 0, none⟩) q q) (w' := w.alloc (.cells cur e)) ?_).mono ?_
  · have hm : (parts.toArray.map fun (x : Nat × Operand) => (x.1, a.eval x.2)) = (parts.map (fun p => (p.1, a.eval p.2))).toArray := by simp
    simp only [execOp]
    rw [hm]
    simp [hr]
  · rintro v w' ⟨rfl, rfl⟩
    have hst : Step as (some ⟨w.heap.size, 0, none⟩ :: as) w (w.alloc (.cells cur e)) := Step.add as hf (fun s hs => (hnew s hs).1)
    refine ⟨some ⟨w.heap.size, 0, none⟩, q, by rw [hx], hst, hE.add hf hnew, hf, vs.flatMap (fun v => v.cells.toList), ?_, hel.imp (fun _ _ hx => hst.trK hx)⟩
    have hlen : (vs.flatMap fun v => v.cells.toList).length = q * kd.sz := by
      have := hel.length (fun _ _ h => kd.len h)
      rw [this, hx]
    have hqm : q ≤ maxLen := by simp only [maxLen]; omega
    have := World.ownsRow_lit (base := 0) (e := e) (size := kd.sz) w cur q (Nat.zero_le _) hqm (by rw [hcur]; simpa using hlen)
    rw [hx]
    rw [hcur] at this ⊢
    simpa using this
end
end Go.Sx
namespace Go.Sx
open Go Go.RowKit
section
variable {P : Program} {Q : Exit → Act → World → Prop} {a : Act} {w w' : World} {n : Nat} {l : List (Nat × Value)} {ops : Array Oper} {rest : List Oper}
theorem goS {d : Nat} {φ : Value → Prop} {op : Op} {ty : TypeId} {pos : String} {af : Array Edge} (ha : Has n l a) (hd : Nat.ble (d + 1) n = true)
    (h : Does P ⟨some d, op, ty, pos, af, none⟩ a w (fun v w' => w' = w ∧ φ v)) (k : ∀ v a, φ v → Has n ((d, v) :: l) a → wpList P ops Q rest a w) : wpList P ops Q (⟨some d, op, ty, pos, af, none⟩ :: rest) a w :=
  goR ha hd h (fun v w' a hv ha => by obtain ⟨rfl, hv⟩ := hv; exact k v a hv ha)
theorem goOnS {d : Nat} {φ : Value → Prop} {op : Op} {ty : TypeId} {pos : String} {af : Array Edge} {j : Nat} {wt t : Bool} {oj : Oper} {dj : Nat} (ha : Has n l a) (hd : Nat.ble (d + 1) n = true)
    (hj : ops[j]? = some oj) (hdj : oj.dst = some dj) (hv : look dj l = some (.bool t)) (he : t = wt) (h : Does P ⟨some d, op, ty, pos, af, some (j, wt)⟩ a w (fun v w' => w' = w ∧ φ v)) (k : ∀ v a, φ v → Has n ((d, v) :: l) a → wpList P ops Q rest a w) : wpList P ops Q (⟨some d, op, ty, pos, af, some (j, wt)⟩ :: rest) a w :=
  goOnR ha hd hj hdj hv he h (fun v w' a hv ha => by obtain ⟨rfl, hv⟩ := hv; exact k v a hv ha)
theorem goOnR0 {op : Op} {ty : TypeId} {pos : String} {af : Array Edge} {j : Nat} {wt t : Bool} {oj : Oper} {dj : Nat} {R : Value → World → Prop} (ha : Has n l a)
    (hj : ops[j]? = some oj) (hdj : oj.dst = some dj) (hv : look dj l = some (.bool t)) (he : t = wt) (h : Does P ⟨none, op, ty, pos, af, some (j, wt)⟩ a w R) (k : ∀ v w' a, R v w' → Has n l a → wpList P ops Q rest a w') : wpList P ops Q (⟨none, op, ty, pos, af, some (j, wt)⟩ :: rest) a w :=
  goOn rfl ha hj hdj hv he h (fun v1 w1 hv => k v1 w1 _ hv ha)
theorem yield_no {tmps : Array Value} {d : Nat} (h : tmps.getD d undef = undef) (b : Bool) : ¬ tmps[d]? = some (.bool b) := by
  intro hb
  rw [Array.getD_eq_getD_getElem?, hb] at h
  simp [undef] at h
theorem goGone {d : Nat} {op : Op} {ty : TypeId} {pos : String} {af : Array Edge} {j : Nat} {wt : Bool} {oj : Oper} {dj : Nat} (ha : Has n l a) (hd : Nat.ble (d + 1) n = true)
    (hj : ops[j]? = some oj) (hdj : oj.dst = some dj) (hv : look dj l = some undef) (k : ∀ a, Has n ((d, undef) :: l) a → wpList P ops Q rest a w) : wpList P ops Q (⟨some d, op, ty, pos, af, some (j, wt)⟩ :: rest) a w := by
  have hw : Region.wanted ⟨some d, op, ty, pos, af, some (j, wt)⟩ (yielded ops a.tmps) = false := by
    have hg := ha.at_ _ _ hv
    have : yielded ops a.tmps j = none := by
      simp only [yielded, hj, hdj, Option.bind_some]
      split
      · rename_i b hb
        exact absurd hb (yield_no hg b)
      · rfl
    simp [Region.wanted, this]
  unfold wpList
  rw [if_neg (by rw [hw]; simp)]
  exact k _ (ha.put hd undef)
theorem goGone0 {op : Op} {ty : TypeId} {pos : String} {af : Array Edge} {j : Nat} {wt : Bool} {oj : Oper} {dj : Nat} (ha : Has n l a)
    (hj : ops[j]? = some oj) (hdj : oj.dst = some dj) (hv : look dj l = some undef) (k : ∀ a, Has n l a → wpList P ops Q rest a w) : wpList P ops Q (⟨none, op, ty, pos, af, some (j, wt)⟩ :: rest) a w := by
  have hw : Region.wanted ⟨none, op, ty, pos, af, some (j, wt)⟩ (yielded ops a.tmps) = false := by
    have hg := ha.at_ _ _ hv
    have : yielded ops a.tmps j = none := by
      simp only [yielded, hj, hdj, Option.bind_some]
      split
      · rename_i b hb
        exact absurd hb (yield_no hg b)
      · rfl
    simp [Region.wanted, this]
  unfold wpList
  rw [if_neg (by rw [hw]; simp)]
  exact k _ (ha.skip undef)
variable {d : Option Nat} {ty T T' : TypeId} {pos : String} {af : Array Edge} {g : Option (Nat × Bool)} {x y c : Operand} {b o o' : Nat}
theorem d_pick {v : Value} {t : Bool} (ha : Has n l a) (hc : ev l c = some (.bool t)) (ht : t = true) (hx : ev l x = some v) : Does P ⟨d, .pick c x y, ty, pos, af, g⟩ a w (Is v w) := d_pick_t ha (by rw [hc, ht]) hx
theorem d_pickF {v : Value} {t : Bool} (ha : Has n l a) (hc : ev l c = some (.bool t)) (ht : t = false) (hx : ev l y = some v) : Does P ⟨d, .pick c x y, ty, pos, af, g⟩ a w (Is v w) := d_pick_f ha (by rw [hc, ht]) hx
theorem d_build {parts : List (Nat × Operand)} {vs : List (Nat × Value)} {cs : List Value} (ha : Has n l a) (hi : ∀ w, (Instr.build T vs.toArray).run P w = .ok (.agg cs.toArray) w)
    (hp : parts.map (fun p => (p.1, ev l p.2)) = vs.map (fun p => (p.1, some p.2))) : Does P ⟨d, .build T parts.toArray, ty, pos, af, g⟩ a w (Is (.agg cs.toArray) w) := by
  have hpe : parts.map (fun p => (p.1, a.eval p.2)) = vs := by
    clear hi
    induction parts generalizing vs with
    | nil => cases vs with
      | nil => rfl
      | cons _ _ => simp at hp
    | cons p ps ih =>
      cases vs with
      | nil => simp at hp
      | cons u us =>
        simp only [List.map_cons, List.cons.injEq, Prod.mk.injEq] at hp ⊢
        exact ⟨Prod.ext hp.1.1 (ha.ev hp.1.2), ih hp.2⟩
  refine Does.val ?_
  have hm : (parts.toArray.map fun (x : Nat × Operand) => (x.1, a.eval x.2)) = vs.toArray := by rw [← hpe]; simp
  simp only [execOp]
  rw [hm]
  simp [hi]
theorem run_loadAgg {cs : List Value} {s : Nat} (hc : At w b o cs) (hg : ∀ w, (isAgg T).run P w = .ok true w) (hs : ∀ w, (sizeOf T).run P w = .ok s w) (hl : cs.length = s) : (loadVar T ⟨b, o, none⟩).run P w = .ok (.agg cs.toArray) w := by
  have hr : (loadCells ⟨b, o, none⟩ s).run P w = .ok cs.toArray w := by
    rw [← hl]
    exact run_loadCells_list w _ cs (fun j v hv => by rw [add_at]; exact hc j v hv)
  simp [loadVar, hg, hs, hr]
theorem At.sub' {cs cs' : List Value} (h : At w b o cs) (i m : Nat) (he : cs' = (cs.drop i).take m) (ho : o' = o + i := by rfl) : At w b o' cs' := by
  rw [he, ho]
  exact h.sub i m
theorem At.cell {cs : List Value} {v : Value} (h : At w b o cs) (i : Nat) (hv : cs[i]? = some v) (ho : o' = o + i := by rfl) : w.cell? ⟨b, o', none⟩ = some v := by
  rw [ho]
  exact h i v hv
end
section
variable {α : Type} {A A' B S0 S : Nat → Prop} {kd : Kd α} {p : Option Addr} {c : Nat} {xs : List α} {w0 w w' : World} {as : List (Option Addr)} {b : Nat} {u : Option Addr}
theorem Step.addB (as : List (Option Addr)) (h : Fr w w' No) (hb : w.heap.size ≤ b) : Step as (some ⟨b, 0, none⟩ :: as) w w' := Step.add as h (fun p hp => by injection hp with hp; subst hp; exact hb)
theorem Ex.addB (h : Ex w0 S0 as w) (hf : Fr w w' No) (hb : w.heap.size ≤ b) (hl : b < w'.heap.size) : Ex w0 S0 (some ⟨b, 0, none⟩ :: as) w' := h.add hf (fun p hp => by injection hp with hp; subst hp; exact ⟨hb, hl⟩)
theorem Ow.rawNo {e : TypeId} (h : Ow A w e kd p c xs) : Raw No kd w.heap p c xs := h.raw (fun _ _ h => h.elim) (fun _ _ h => h)
structure Kd.Flat (kd : Kd α) : Prop where
  eq : ∀ {A A' h h' x cs}, kd.K A h x cs → kd.K A' h' x cs
theorem Kd.Flat.int (k : IntKind) : (Kd.int k).Flat := ⟨fun h => h⟩
theorem Kd.Flat.bool : Kd.bool.Flat := ⟨fun h => h⟩
theorem Kd.Flat.str : Kd.str.Flat := ⟨fun h => h⟩
theorem Kd.Flat.pair {β : Type} {k1 : Kd α} {k2 : Kd β} (h1 : k1.Flat) (h2 : k2.Flat) : (Kd.pair k1 k2).Flat := ⟨fun ⟨c1, c2, e, a, b⟩ => ⟨c1, c2, e, h1.eq a, h2.eq b⟩⟩
theorem Kd.Flat.arr (n : Nat) (h : kd.Flat) : (Kd.arr n kd).Flat := ⟨fun ⟨e, a⟩ => ⟨e, a.imp (fun _ _ hx => h.eq hx)⟩⟩
theorem Ow.flat {e : TypeId} (f : kd.Flat) (h : Ow A w e kd p c xs) : Ow A' w e kd p c xs := by
  obtain ⟨cells, h1, h2⟩ := h
  exact ⟨cells, h1, h2.imp (fun _ _ hx => f.eq hx)⟩
theorem Ow.rawFlat {e : TypeId} (h : Ow A w e kd p c xs) (f : kd.Flat) (hn : ∀ q, p = some q → ¬ A' q.block) : Raw A' kd w.heap p c xs := (h.flat (A' := A') f).raw (fun _ _ h => h) hn
theorem Ow.alone {e : TypeId} (h : Ow A w e kd p c xs) (f : kd.Flat) : Ow A' w e kd p c xs := h.flat f
theorem Ex.old (h : Ex w0 S0 as w) : ∀ k, k < w0.heap.size → Old w k := fun _ hk => Nat.lt_of_lt_of_le hk h.fr.size
theorem Raw.old (r : Raw (Old w) kd w'.heap p c xs) (h : Ex w0 S0 as w) : Raw (Av as (Old w)) kd w'.heap p c xs := r.mono (fun k _ hk => by
  rcases hk with hk | ⟨p, hp, rfl⟩
  · exact hk
  · exact h.lt p hp)
theorem mem_at {j : Nat} (hj : as[j]? = some u) {q : Addr} (hq : u = some q) : some q ∈ as := hq ▸ List.mem_of_getElem? hj
theorem Ex.newOf (h : Ex w0 No as w) (j : Nat) (hj : as[j]? = some u) : ∀ q, u = some q → ¬ Old w0 q.block := fun q hq hk => by
  rcases h.nw q (mem_at hj hq) with h | h
  · simp only [Old] at hk; omega
  · exact h
theorem Ex.newLt (h : Ex w0 No as w) (j : Nat) (hj : as[j]? = some u) : ∀ q, u = some q → w0.heap.size ≤ q.block ∧ q.block < w.heap.size := fun q hq => by
  rcases h.nw q (mem_at hj hq) with h1 | h1
  · exact ⟨h1, h.lt q (mem_at hj hq)⟩
  · exact h1.elim
theorem Ex.offOld (h : Ex w0 No as w) (m : Nat) (hm : as[m]? = some u) : ∀ q, u = some q → ¬ Av (as.eraseIdx m) (Old w0) q.block := fun q hq hk => by
  rcases hk with hk | ⟨s, hs, hb⟩
  · exact h.newOf m hm q hq hk
  · obtain ⟨i, hi, he⟩ := List.mem_eraseIdx_iff_getElem?.1 hs
    exact h.off i m he hm hi q hq ⟨s, rfl, hb⟩
theorem Fr.blk1 (h : Fr w w' (fun k => k = b)) : Fr w w' (fun k => ∃ p, some (⟨b, 0, none⟩ : Addr) = some p ∧ p.block = k) := h.mono (fun _ _ hk => ⟨_, rfl, hk.symm⟩)
theorem at_split {m : Nat} (hm : as[m]? = some u) : as = as.take m ++ u :: as.drop (m + 1) := by
  obtain ⟨h1, h2⟩ := List.getElem?_eq_some_iff.1 hm
  rw [← h2, List.getElem_cons_drop, List.take_append_drop]
theorem Ex.stepAt (_ : Ex w0 S0 as w) (m : Nat) (hm : as[m]? = some u) (hf : Fr w w' (fun k => ∃ p, u = some p ∧ p.block = k)) : Step as as w w' := by
  have h := Step.wrote (l := as.take m) (r := as.drop (m + 1)) (a' := u) hf (fun p hp => .inl ⟨p, hp, rfl⟩)
  rwa [← at_split hm] at h
theorem Ex.wroteAt (h : Ex w0 S0 as w) (m : Nat) (hm : as[m]? = some u) (hf : Fr w w' (fun k => ∃ p, u = some p ∧ p.block = k)) : Ex w0 S0 as w' := by
  rw [at_split hm] at h ⊢
  exact h.wrote hf (fun p hp => ⟨Nat.lt_of_lt_of_le (h.lt p (by rw [hp]; simp)) hf.size, .inl ⟨p, hp, rfl⟩⟩)
end
end Go.Sx
