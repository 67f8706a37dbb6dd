/- Own work. A part of the proof of a law of this seat: The walk library: what is of no program. -/
import Derived.WalkKit
import Derived.LoopN
import Derived.Lib.ConvBytes
import Derived.Laws.BytesArg
import Derived.Laws.MakeOwn
import Derived.Laws.OwnMore
namespace Go.Sx
open Go Go.RowKit

/-! ### slots: an act is known by a list of facts -/
def look (t : Nat) : List (Nat × Value) → Option Value
  | [] => none
  | p :: r => cond (Nat.beq p.1 t) (some p.2) (look t r)

structure Has (n : Nat) (l : List (Nat × Value)) (a : Act) : Prop where
  sz : a.tmps.size = n
  df : a.defers = []
  at_ : ∀ t v, look t l = some v → a.tmps.getD t undef = v

def ev (l : List (Nat × Value)) : Operand → Option Value
  | .tmp t => look t l
  | .const v => some v
  | .global g => some (.pointer (some ⟨g, 0, none⟩))
  | .func f => some (.func (.func f) #[] #[])

theorem Has.ev {n : Nat} {l : List (Nat × Value)} {a : Act} (h : Has n l a) {x : Operand} {v : Value} (hx : Sx.ev l x = some v) : a.eval x = v := by
  cases x with
  | tmp t => exact h.at_ t v hx
  | const u => simpa [Sx.ev, Act.eval] using hx
  | global g => simpa [Sx.ev, Act.eval] using hx
  | func f => simpa [Sx.ev, Act.eval] using hx

theorem beq_ne {d t : Nat} (h : ¬ d = t) : Nat.beq d t = false := Bool.eq_false_iff.2 (fun e => h (Nat.eq_of_beq_eq_true e))
theorem beq_self (d : Nat) : Nat.beq d d = true := Nat.beq_refl d

theorem Has.put {n : Nat} {l : List (Nat × Value)} {a : Act} (h : Has n l a) {d : Nat} (hd : Nat.ble (d + 1) n = true) (v : Value) : Has n ((d, v) :: l) (a.put (some d) v) := by
  have hd' : d < n := Nat.le_of_ble_eq_true hd
  refine ⟨by simp [Act.put, h.sz], h.df, fun t u hu => ?_⟩
  simp only [look] at hu
  simp only [Act.put]
  by_cases he : d = t
  · subst he
    rw [beq_self] at hu
    simp at hu
    subst hu
    simp [Array.getD, h.sz, hd']
  · rw [beq_ne he] at hu
    have := h.at_ t u (by simpa using hu)
    rw [← this]
    simp only [Array.getD_eq_getD_getElem?]
    rw [Array.getElem?_setIfInBounds_ne he]

theorem Has.skip {n : Nat} {l : List (Nat × Value)} {a : Act} (h : Has n l a) (v : Value) : Has n l (a.put none v) := h

/-- What is known, chosen anew. -/
theorem Has.to {n : Nat} {l l' : List (Nat × Value)} {a : Act} (h : Has n l a) (hl : l'.map (fun p => look p.1 l) = l'.map (fun p => some p.2)) : Has n l' a := by
  refine ⟨h.sz, h.df, fun t v hv => ?_⟩
  have hm : ∀ p ∈ l', look p.1 l = some p.2 := List.map_inj_left.1 hl
  clear hl
  induction l' with
  | nil => simp [look] at hv
  | cons p r ih =>
    simp only [look] at hv
    by_cases he : p.1 = t
    · subst he
      rw [beq_self] at hv
      simp at hv
      subst hv
      exact h.at_ _ _ (hm p (by simp))
    · rw [beq_ne he] at hv
      exact ih (by simpa using hv) (fun q hq => hm q (by simp [hq]))

theorem Has.enter {fn : Func} {args : Array Value} {n : Nat} (hn : fn.ntmps = n) (hs : args.size ≤ n) (l : List (Nat × Value)) (hl : ∀ p ∈ l, args[p.1]? = some p.2) :
    Has n l { tmps := args ++ Array.replicate (fn.ntmps - args.size) undef, defers := [] } := by
  subst hn
  refine ⟨by simp; omega, rfl, fun t v h => ?_⟩
  have h1 : args[t]? = some v := by
    clear hs
    induction l with
    | nil => simp [look] at h
    | cons p r ih =>
      simp only [look] at h
      by_cases he : p.1 = t
      · subst he
        rw [beq_self] at h
        simp at h
        subst h
        exact hl p (by simp)
      · rw [beq_ne he] at h
        exact ih (fun q hq => hl q (by simp [hq])) (by simpa using h)
  have ht : t < args.size := (Array.getElem?_eq_some_iff.1 h1).1
  simp only [Array.getD_eq_getD_getElem?, Array.getElem?_append, ht, if_true, h1, Option.getD_some]

/-! ### results -/
/-- The call returns, and what is said of the value and the world holds. -/
def Ret (R : Value → World → Prop) : Ending → World → Prop
  | .returned v, w => R v w
  | _, _ => False

def resv (P : Program) (l : List (Nat × Value)) (rs : List ResultVar) : Option (List Value) :=
  match rs with
  | [] => some []
  | .tmp t :: r => match look t l, resv P l r with
    | some v, some vs => some (v :: vs)
    | _, _ => none
  | .cell .. :: _ => none

theorem fin1 {P : Program} {fn : Func} {R : Value → World → Prop} {n : Nat} {l : List (Nat × Value)} {a : Act} {w : World} {t : Nat} {v : Value} (ha : Has n l a) (hr : fn.results = #[.tmp t]) (hv : look t l = some v) (h : R v w) :
    bodyPost P fn (Ret R) .ret a w := by
  refine ⟨ha.df, v, ?_, h⟩
  rw [results_tmp hr, ha.at_ t v hv]
theorem fin0 {P : Program} {fn : Func} {R : Value → World → Prop} {n : Nat} {l : List (Nat × Value)} {a : Act} {w : World} (ha : Has n l a) (hr : fn.results = #[]) (h : R (.tuple #[]) w) :
    bodyPost P fn (Ret R) .ret a w := ⟨ha.df, _, results_none hr _ _ _, h⟩

/-! ### code -/
section
variable {P : Program} {Q : Exit → Act → World → Prop} {a : Act} {w : World} {n : Nat} {l : List (Nat × Value)}
theorem wcond {c : Operand} {x y : Code} {t : Bool} (ha : Has n l a) (hc : ev l c = some (.bool t)) (ht : t = true → x.wp P Q a w) (hf : t = false → y.wp P Q a w) : (Code.cond c x y).wp P Q a w :=
  wp_cond_split (ha.ev hc) ht hf

/-! ### one operation -/
/-- The operation, done, gives a value and a world of which R holds. -/
def Does (P : Program) (o : Oper) (a : Act) (w : World) (R : Value → World → Prop) : Prop :=
  ∀ (next : Act → World → Prop) (Q : Exit → Act → World → Prop), (∀ v w', R v w' → next (a.put o.dst v) w') → o.wp P a w next Q

def Is (v : Value) (w : World) : Value → World → Prop := fun v1 w1 => v1 = v ∧ w1 = w

variable {ops : Array Oper} {rest : List Oper} {o : Oper}
theorem Does.mono {R R' : Value → World → Prop} (h : Does P o a w R) (hr : ∀ v w', R v w' → R' v w') : Does P o a w R' := fun next Q k => h next Q (fun v w' hv => k v w' (hr v w' hv))
theorem Does.val {v : Value} {w' : World} (h : (execOp a.eval o).run P w = .ok (.value v) w') : Does P o a w (Is v w') := by
  intro next Q k
  unfold Oper.wp
  rw [h]
  exact k v w' ⟨rfl, rfl⟩
theorem Does.unit {w' : World} (h : (execOp a.eval o).run P w = .ok .skip w') : Does P o a w (Is undef w') := by
  intro next Q k
  unfold Oper.wp
  rw [h]
  exact k undef w' ⟨rfl, rfl⟩
theorem Does.enter {f : FuncId} {args : Array Value} {w' : World} {R : Value → World → Prop} (h : (execOp a.eval o).run P w = .ok (.enter f args) w') (hc : Calls P f args w' (Ret R)) : Does P o a w R := by
  intro next Q k
  unfold Oper.wp
  rw [h, Oper.upon_enter]
  refine hc.mono (fun e w' he => ?_)
  cases e with
  | returned v => exact k v w' he
  | panicked c => exact he.elim
  | outgrown => exact he.elim

theorem nil_ (h : Q .normal a w) : wpList P ops Q [] a w := h
theorem Does.list {R : Value → World → Prop} (hg : o.guard = none) (h : Does P o a w R) (k : ∀ v w', R v w' → wpList P ops Q rest (a.put o.dst v) w') : wpList P ops Q (o :: rest) a w :=
  wpList_plain hg fun K hK => h K Q (fun v w' hv => hK _ _ (k v w' hv))
/-- A value, the world as it was (or another one that is known). -/
theorem go1 {d : Nat} {v : Value} {w' : World} {op : Op} {ty : TypeId} {pos : String} {af : Array Edge} (ha : Has n l a) (hd : Nat.ble (d + 1) n = true)
    (h : Does P ⟨some d, op, ty, pos, af, none⟩ a w (Is v w')) (k : ∀ a, Has n ((d, v) :: l) a → wpList P ops Q rest a w') : wpList P ops Q (⟨some d, op, ty, pos, af, none⟩ :: rest) a w :=
  h.list rfl (fun v1 w1 hv => by obtain ⟨rfl, rfl⟩ := hv; exact k _ (ha.put hd _))
theorem go0 {v : Value} {w' : World} {op : Op} {ty : TypeId} {pos : String} {af : Array Edge} (ha : Has n l a)
    (h : Does P ⟨none, op, ty, pos, af, none⟩ a w (Is v w')) (k : ∀ a, Has n l a → wpList P ops Q rest a w') : wpList P ops Q (⟨none, op, ty, pos, af, none⟩ :: rest) a w :=
  h.list rfl (fun v1 w1 hv => by obtain ⟨rfl, rfl⟩ := hv; exact k _ ha)
/-- What R says of value and world. -/
theorem goR {d : Nat} {R : Value → World → Prop} {op : Op} {ty : TypeId} {pos : String} {af : Array Edge} (ha : Has n l a) (hd : Nat.ble (d + 1) n = true)
    (h : Does P ⟨some d, op, ty, pos, af, none⟩ a w R) (k : ∀ v w' a, R v w' → Has n ((d, v) :: l) a → wpList P ops Q rest a w') : wpList P ops Q (⟨some d, op, ty, pos, af, none⟩ :: rest) a w :=
  h.list rfl (fun v1 w1 hv => k v1 w1 _ hv (ha.put hd _))
theorem goR0 {R : Value → World → Prop} {op : Op} {ty : TypeId} {pos : String} {af : Array Edge} (ha : Has n l a)
    (h : Does P ⟨none, op, ty, pos, af, none⟩ a w R) (k : ∀ v w' a, R v w' → Has n l a → wpList P ops Q rest a w') : wpList P ops Q (⟨none, op, ty, pos, af, none⟩ :: rest) a w :=
  h.list rfl (fun v1 w1 hv => k v1 w1 _ hv ha)

/-! #### operations that compute -/
variable {d : Option Nat} {ty : TypeId} {pos : String} {af : Array Edge} {g : Option (Nat × Bool)}
theorem d_move {x : Operand} {v : Value} (ha : Has n l a) (hx : ev l x = some v) : Does P ⟨d, .move x, ty, pos, af, g⟩ a w (Is v w) := Does.val (by simp [execOp, ha.ev hx])
theorem d_assign {x : Operand} {v : Value} (ha : Has n l a) (hx : ev l x = some v) : Does P ⟨d, .assign x, ty, pos, af, g⟩ a w (Is v w) := Does.val (by simp [execOp, ha.ev hx])
theorem d_pick_t {c x y : Operand} {v : Value} (ha : Has n l a) (hc : ev l c = some (.bool true)) (hx : ev l x = some v) : Does P ⟨d, .pick c x y, ty, pos, af, g⟩ a w (Is v w) := Does.val (by simp [execOp, ha.ev hx, ha.ev hc, asBool])
theorem d_pick_f {c x y : Operand} {v : Value} (ha : Has n l a) (hc : ev l c = some (.bool false)) (hx : ev l y = some v) : Does P ⟨d, .pick c x y, ty, pos, af, g⟩ a w (Is v w) := Does.val (by simp [execOp, ha.ev hx, ha.ev hc, asBool])
/-- whole numbers: + - * -/
theorem d_arith {op : BinOp} {x y : Operand} {T T' : TypeId} {k : IntKind} {m j r : Int} (ha : Has n l a) (hx : ev l x = some (.int k m)) (hy : ev l y = some (.int k j))
    (h : ∀ w, (binOp op T (.int k m) (.int k j)).run P w = .ok (.int k r) w) : Does P ⟨d, .binOp op T x y T', ty, pos, af, g⟩ a w (Is (.int k r) w) :=
  Does.val (by simp [execOp, ha.ev hx, ha.ev hy, eqGuard, h])
end
end Go.Sx
