/- Own work. A part of the proof of a law of this seat: a part -/
import Derived.Test.YtidhcbnplgbnoaaSx14
/- The abstract machine: its values, its objects, its rounds. What it does is told here; that the program does just so, in the texts behind. -/
namespace Go.Mx
open Go Go.RowKit Go.Sx

/-! ### types of data that hold no names of objects -/
inductive T where
  | int (k : IntKind)
  | bool
  | str
  | unit
  | flt
  | cpx
  | fn
  | one (t : T)
  | pair (a b : T)
  | arr (n : Nat) (t : T)
  | sl (t : T)
  deriving DecidableEq, Inhabited

@[reducible] def T.den : T → Type
  | .int _ => Int
  | .bool => Bool
  | .str => ByteArray
  | .unit => Unit
  | .flt => Nat
  | .cpx => Nat × Nat
  | .fn => Nat
  | .one t => t.den
  | .pair a b => a.den × b.den
  | .arr _ t => List t.den
  | .sl t => List t.den

def T.sz : T → Nat
  | .unit => 0
  | .one t => t.sz
  | .pair a b => a.sz + b.sz
  | .arr n t => n * t.sz
  | _ => 1

/-- a step into a part: the first, all behind the first (so many cells on), the only one, the i-th (of so many cells) -/
inductive Step where
  | fst
  | snd (k : Nat)
  | one
  | idx (i sz : Nat)

inductive AV where
  | dat (t : T) (x : t.den)
  | pr (a b : AV)
  | one (a : AV)
  | ptr (id : Nat) (p : List Step)
  | nilp
  | rdp (t : T) (x : t.den)
  | view (id : Nat)
  | pre (id n : Nat)
  | tgt (id n : Nat)
  | win (id off n : Nat)
  | nils
  | cut (t : T)
  | sln (t : T) (xs : List t.den)
  | mp (id : Nat)
  | nilm
  | fn (f : FuncId) (fs cs : List AV)
  | nilf
  | iface (t : TypeId) (v : AV)
  | nilI
  | tup (l : List AV)
  | undef

inductive Md where
  | own | ro | fz
  deriving DecidableEq

inductive AO where
  | gone
  | box (ty : TypeId) (v : AV) (w : Bool)
  | row (e : TypeId) (t : T) (xs : List t.den) (m : Md)
  | itr (s : ByteArray) (pos : Nat) (w : Bool)

def AV.sz : AV → Nat
  | .dat t _ => t.sz
  | .pr a b => a.sz + b.sz
  | .one a => a.sz
  | _ => 1

abbrev Slots := List (Nat × AV)
structure St where
  sl : Slots
  ob : List AO

section
variable {R : Type}

def lookA (t : Nat) : Slots → Option AV
  | [] => none
  | p :: r => cond (Nat.beq p.1 t) (some p.2) (lookA t r)

/-! ### parts -/
def mkpr : AV → AV → AV
  | .dat a x, .dat b y => .dat (.pair a b) (x, y)
  | u, v => .pr u v
def mkone : AV → AV
  | .dat a x => .dat (.one a) x
  | u => .one u
/-- a value as data of that type -/
def dec : (t : T) → AV → Option t.den
  | t, .dat t' x => if h : t' = t then some (h ▸ x) else none
  | .sl _, .nils => some []
  | .sl _, .cut _ => some []
  | .pair a b, .pr u v => (match dec a u with | some x => (match dec b v with | some y => some (x, y) | none => none) | none => none)
  | .one a, .one u => dec a u
  | .fn, .fn f [] [] => some f
  | _, _ => none
def getK : AV → List Step → (AV → Option R) → Option R
  | v, [], K => K v
  | .dat (.pair a _) x, .fst :: p, K => getK (.dat a x.1) p K
  | .dat (.pair a b) x, .snd k :: p, K => cond (Nat.beq k a.sz) (getK (.dat b x.2) p K) none
  | .dat (.one a) x, .one :: p, K => getK (.dat a x) p K
  | .dat (.arr _ t) xs, .idx i s :: p, K => cond (Nat.beq s t.sz) ((xs[i]?).bind fun x => getK (.dat t x) p K) none
  | .pr a _, .fst :: p, K => getK a p K
  | .pr a b, .snd k :: p, K => cond (Nat.beq k a.sz) (getK b p K) none
  | .one a, .one :: p, K => getK a p K
  | _, _ :: _, _ => none
def setK : AV → List Step → AV → (AV → Option R) → Option R
  | v, [], u, K => cond (Nat.beq v.sz u.sz) (K u) none
  | .dat (.pair a b) x, .fst :: p, u, K => setK (.dat a x.1) p u fun y => K (mkpr y (.dat b x.2))
  | .dat (.pair a b) x, .snd k :: p, u, K => cond (Nat.beq k a.sz) (setK (.dat b x.2) p u fun y => K (mkpr (.dat a x.1) y)) none
  | .dat (.one a) x, .one :: p, u, K => setK (.dat a x) p u fun y => K (mkone y)
  | .dat (.arr n t) xs, .idx i s :: p, u, K => cond (Nat.beq s t.sz) ((xs[i]?).bind fun x => setK (.dat t x) p u fun y => match dec t y with
      | some z => K (.dat (.arr n t) (xs.set i z))
      | none => none) none
  | .pr a b, .fst :: p, u, K => setK a p u fun y => K (mkpr y b)
  | .pr a b, .snd k :: p, u, K => cond (Nat.beq k a.sz) (setK b p u fun y => K (mkpr a y)) none
  | .one a, .one :: p, u, K => setK a p u fun y => K (mkone y)
  | _, _ :: _, _, _ => none

/-! ### the names in a value; a value told in other names -/
mutual
def AV.ids : AV → List Nat
  | .pr a b => a.ids ++ b.ids
  | .one a => a.ids
  | .ptr i _ => [i]
  | .view i => [i]
  | .pre i _ => [i]
  | .tgt i _ => [i]
  | .win i _ _ => [i]
  | .mp i => [i]
  | .fn _ fs cs => AV.idsL fs ++ AV.idsL cs
  | .iface _ v => v.ids
  | .tup l => AV.idsL l
  | _ => []
def AV.idsL : List AV → List Nat
  | [] => []
  | v :: l => v.ids ++ AV.idsL l
end
def AO.ids : AO → List Nat
  | .box _ v _ => v.ids
  | _ => []
def posn (i : Nat) : List Nat → Nat → Option Nat
  | [], _ => none
  | j :: l, n => cond (Nat.beq j i) (some n) (posn i l (n + 1))
mutual
def AV.ren (f : Nat → Option Nat) : AV → Option AV
  | .dat t x => some (.dat t x)
  | .pr a b => match a.ren f with | some a => (match b.ren f with | some b => some (.pr a b) | none => none) | none => none
  | .one a => match a.ren f with | some a => some (.one a) | none => none
  | .ptr i p => match f i with | some i => some (.ptr i p) | none => none
  | .nilp => some .nilp
  | .rdp t x => some (.rdp t x)
  | .view i => match f i with | some i => some (.view i) | none => none
  | .pre i n => match f i with | some i => some (.pre i n) | none => none
  | .tgt i n => match f i with | some i => some (.tgt i n) | none => none
  | .win i o n => match f i with | some i => some (.win i o n) | none => none
  | .nils => some .nils
  | .cut t => some (.cut t)
  | .sln t xs => some (.sln t xs)
  | .mp i => match f i with | some i => some (.mp i) | none => none
  | .nilm => some .nilm
  | .fn g fs cs => match AV.renL f fs with | some fs => (match AV.renL f cs with | some cs => some (.fn g fs cs) | none => none) | none => none
  | .nilf => some .nilf
  | .iface t v => match v.ren f with | some v => some (.iface t v) | none => none
  | .nilI => some .nilI
  | .tup l => match AV.renL f l with | some l => some (.tup l) | none => none
  | .undef => some .undef
def AV.renL (f : Nat → Option Nat) : List AV → Option (List AV)
  | [] => some []
  | v :: l => match v.ren f with | some v => (match AV.renL f l with | some l => some (v :: l) | none => none) | none => none
end
def AO.ren (f : Nat → Option Nat) : AO → Option AO
  | .gone => some .gone
  | .box ty v w => match v.ren f with | some v => some (.box ty v w) | none => none
  | .row e t xs m => some (.row e t xs m)
  | .itr s p w => some (.itr s p w)
def renAll (f : Nat → Option Nat) : List AO → Option (List AO)
  | [] => some []
  | o :: l => match o.ren f with | some o => (match renAll f l with | some l => some (o :: l) | none => none) | none => none

/-- the names that are reached from some, in the order in which they are met -/
def visit (ob : List AO) : Nat → List Nat → List Nat → List Nat
  | 0, _, L => L
  | _ + 1, [], L => L
  | n + 1, i :: r, L => cond (L.contains i) (visit ob n r L) (visit ob n ((match ob[i]? with | some o => o.ids | none => []) ++ r) (L ++ [i]))
def reachA (ob : List AO) (l : List Nat) : List Nat := visit ob (4 * ob.length + 4 * l.length + 16) l []

def objs (ob : List AO) : List Nat → Option (List AO)
  | [] => some []
  | i :: r => match ob[i]? with | some o => (match objs ob r with | some l => some (o :: l) | none => none) | none => none
def nodupB : List Nat → Bool
  | [] => true
  | i :: r => !r.contains i && nodupB r

/-! ### what a type's things are -/
def zerF (z : TypeId → Option AV) : List TypeId → Option AV
  | [] => some (.dat .unit ())
  | [t] => (match z t with | some a => some (mkone a) | none => none)
  | t :: r => (match z t with
    | some a => (match r with
      | [u] => (match z u with | some b => some (mkpr a b) | none => none)
      | r => (match zerF z r with | some b => some (mkpr a b) | none => none))
    | none => none)
def zer (P : Program) : Nat → TypeId → Option AV
  | 0, _ => none
  | n + 1, t => match P.underlying t with
    | some .bool => some (.dat .bool false)
    | some (.int k) => some (.dat (.int k) 0)
    | some .string => some (.dat .str ⟨#[]⟩)
    | some (.float .f64) => some (.dat .flt 0)
    | some (.complex .f64) => some (.dat .cpx (0, 0))
    | some (.slice _) => some .nils
    | some (.pointer _) => some .nilp
    | some (.map _ _) => some .nilm
    | some (.func _ _ _) => some .nilf
    | some (.interface _) => some .nilI
    | some (.struct fs) => zerF (zer P n) (fs.toList.map (·.type))
    | some (.array m e) => (match zer P n e with
      | some (.dat t z) => some (.dat (.arr m t) (List.replicate m z))
      | _ => none)
    | _ => none
def tyF (z : TypeId → Option T) : List TypeId → Option T
  | [] => some .unit
  | [t] => (match z t with | some a => some (.one a) | none => none)
  | t :: r => (match z t with
    | some a => (match r with
      | [u] => (match z u with | some b => some (.pair a b) | none => none)
      | r => (match tyF z r with | some b => some (.pair a b) | none => none))
    | none => none)
/-- the data that a row of that element type may hold -/
def tyT (P : Program) : Nat → TypeId → Option T
  | 0, _ => none
  | n + 1, t => match P.underlying t with
    | some .bool => some .bool
    | some (.int k) => some (.int k)
    | some .string => some .str
    | some (.float .f64) => some .flt
    | some (.complex .f64) => some .cpx
    | some (.slice e) => (match tyT P n e with | some t => some (.sl t) | none => none)
    | some (.func _ _ _) => some .fn
    | some (.struct fs) => tyF (tyT P n) (fs.toList.map (·.type))
    | some (.array m e) => (match tyT P n e with | some t => some (.arr m t) | none => none)
    | _ => none

/-! ### zero values: told, and held against the type's own -/
def eqV : Value → Value → Bool
  | .bool a, .bool b => a == b
  | .int k n, .int k' m => decide (k = k') && decide (n = m)
  | .string a, .string b => decide (a = b)
  | .float k a, .float k' b => decide (k = k') && Nat.beq a b
  | .complex k a c, .complex k' b d => decide (k = k') && Nat.beq a b && Nat.beq c d
  | .pointer none, .pointer none => true
  | .slice none 0 0, .slice none 0 0 => true
  | .map none, .map none => true
  | .nilFunc, .nilFunc => true
  | .nilIface, .nilIface => true
  | _, _ => false
def eqVL : List Value → List Value → Bool
  | [], [] => true
  | a :: l, b :: m => eqV a b && eqVL l m
  | _, _ => false
def encT : (t : T) → t.den → Option (List Value)
  | .int k, n => some [.int k n]
  | .bool, b => some [.bool b]
  | .str, s => some [.string s]
  | .unit, _ => some []
  | .flt, n => some [.float .f64 n]
  | .cpx, n => some [.complex .f64 n.1 n.2]
  | .fn, _ => none
  | .one t, x => encT t x
  | .pair a b, x => (match encT a x.1 with | some l => (match encT b x.2 with | some m => some (l ++ m) | none => none) | none => none)
  | .arr n t, xs => cond (Nat.beq xs.length n) (encL (encT t) xs) none
  | .sl _, xs => (match xs with | [] => some [.slice none 0 0] | _ => none)
where encL {α : Type} (e : α → Option (List Value)) : List α → Option (List Value)
  | [] => some []
  | x :: r => (match e x with | some l => (match encL e r with | some m => some (l ++ m) | none => none) | none => none)
def encA : AV → Option (List Value)
  | .dat t x => encT t x
  | .pr a b => (match encA a with | some l => (match encA b with | some m => some (l ++ m) | none => none) | none => none)
  | .one a => encA a
  | .nilp => some [.pointer none]
  | .nils => some [.slice none 0 0]
  | .nilm => some [.map none]
  | .nilf => some [.nilFunc]
  | .nilI => some [.nilIface]
  | _ => none
def zOk (P : Program) (t : TypeId) (v : AV) : Bool := match P.info? t with
  | some i => (match i.zero, encA v with
    | some z, some cs => eqVL z.cells.toList cs
    | _, _ => false)
  | none => false
/-- zero of a type -/
def zerK {R : Type} (P : Program) (t : TypeId) (K : AV → Option R) : Option R := match zer P 40 t with
  | some v => cond (zOk P t v) (K v) none
  | none => none
def elOk (P : Program) (e : TypeId) (t : T) : Bool := match P.info? e with
  | some i => Nat.beq i.size t.sz && Nat.blt 0 i.bytes && Nat.blt 0 t.sz && decide (t.sz ≤ 1024)
  | none => false
/-- the elements of a row: their data, and zero; they have cells, and bytes -/
def elK {R : Type} (P : Program) (e : TypeId) (K : (t : T) → t.den → Option R) : Option R := match zer P 40 e, tyT P 40 e with
  | some v, some t => (match dec t v with
    | some z => cond (zOk P e v && elOk P e t) (K t z) none
    | none => none)
  | _, _ => none

/-! ### operations -/
def ofConst : Value → Option AV
  | .bool b => some (.dat .bool b)
  | .int k n => some (.dat (.int k) n)
  | .string s => some (.dat .str s)
  | .float .f64 b => some (.dat .flt b)
  | .complex .f64 a b => some (.dat .cpx (a, b))
  | .pointer none => some .nilp
  | .slice none 0 0 => some .nils
  | .map none => some .nilm
  | .nilFunc => some .nilf
  | .nilIface => some .nilI
  | _ => none
def ev (s : Slots) : Operand → Option AV
  | .tmp t => lookA t s
  | .const v => ofConst v
  | .func f => some (.fn f [] [])
  | .global _ => none
def evs (s : Slots) : List Operand → Option (List AV)
  | [] => some []
  | x :: r => match ev s x with | some v => (match evs s r with | some l => some (v :: l) | none => none) | none => none

abbrev KV (R : Type) := AV → List AO → Option R

def eqv : (t : T) → t.den → t.den → Option Bool
  | .int _, x, y => some (decide (x = y))
  | .bool, x, y => some (x == y)
  | .str, x, y => some (decide (x = y))
  | .one t, x, y => eqv t x y
  | .pair a b, x, y => (match eqv a x.1 y.1 with | some p => (match eqv b x.2 y.2 with | some q => some (p && q) | none => none) | none => none)
  | .unit, _, _ => some true
  | _, _, _ => none

def arith (op : BinOp) (k : IntKind) (i j : Int) (ob : List AO) (K : KV R) : Option R :=
  match op with
  | .add => K (.dat (.int k) (k.wrap (i + j))) ob
  | .sub => K (.dat (.int k) (k.wrap (i - j))) ob
  | .mul => K (.dat (.int k) (k.wrap (i * j))) ob
  | .quo => ck (j ≠ 0) (K (.dat (.int k) (k.wrap (i.tdiv j))) ob)
  | .rem => ck (j ≠ 0) (K (.dat (.int k) (i.tmod j)) ob)
  | .and => K (.dat (.int k) (bits .and k i j)) ob
  | .or => K (.dat (.int k) (bits .or k i j)) ob
  | .xor => K (.dat (.int k) (bits .xor k i j)) ob
  | .andNot => K (.dat (.int k) (bits .andNot k i j)) ob
  | .eql => K (.dat .bool (decide (i = j))) ob
  | .neq => K (.dat .bool (!decide (i = j))) ob
  | .lss => K (.dat .bool (decide (i < j))) ob
  | .leq => K (.dat .bool (decide (i ≤ j))) ob
  | .gtr => K (.dat .bool (decide (j < i))) ob
  | .geq => K (.dat .bool (decide (j ≤ i))) ob
  | _ => none
def nilP : AV → Option Bool
  | .ptr _ _ => some false
  | .rdp _ _ => some false
  | .nilp => some true
  | _ => none
def nilS (ob : List AO) : AV → Option Bool
  | .sln _ _ => some false
  | .dat (.sl _) (_ :: _) => some false
  | .view i => (match ob[i]? with | some (.row _ _ (_ :: _) _) => some false | _ => none)
  | .nils => some true
  | _ => none
def nilF : AV → Option Bool
  | .fn _ _ _ => some false
  | .nilf => some true
  | _ => none
/-- the same place in a thing? (told where no step is a number's) -/
def samep : List Step → List Step → Option Bool
  | [], [] => some true
  | _, _ => none
def limit : Nat := 140737488355328
/-- is a type laid out as this data, and may two of it be compared part by part? -/
def aggB (P : Program) (i : TypeId) : Option Bool :=
  match P.underlying i with
  | some (.struct _) => some true
  | some (.array _ _) => some true
  | some _ => some false
  | none => none
def T.aggB : T → Bool
  | .one _ => true
  | .pair _ _ => true
  | .arr _ _ => true
  | .unit => true
  | _ => false
def fldTy (P : Program) (E : TypeId → T → Bool) (f : Field) (o : Nat) (t : T) : Bool :=
  f.name != "_" && Nat.beq f.offset o && (match P.info? f.type with | some i => Nat.beq i.size t.sz | none => false) && (match aggB P f.type with | some b => b == t.aggB | none => false) && E f.type t
def eqTyF (P : Program) (E : TypeId → T → Bool) : List Field → Nat → T → Bool
  | [f], o, t => fldTy P E f o t
  | f :: r, o, .pair a b => fldTy P E f o a && eqTyF P E r (o + a.sz) b
  | _, _, _ => false
def eqTy (P : Program) : Nat → TypeId → T → Bool
  | 0, _, _ => false
  | n + 1, i, t => match P.underlying i, t with
    | some (.int _), .int _ => true
    | some .bool, .bool => true
    | some .string, .str => true
    | some (.struct fs), .one t => !P.stoodInHeld i && (match fs.toList with | [f] => fldTy P (eqTy P n) f 0 t | _ => false)
    | some (.struct fs), .pair a b => !P.stoodInHeld i && eqTyF P (eqTy P n) fs.toList 0 (.pair a b)
    | _, _ => false
def bin (P : Program) (T' : TypeId) (op : BinOp) (x y : AV) (ob : List AO) (K : KV R) : Option R :=
  match x, y with
  | .dat (.int k) i, .dat (.int k') j =>
    match op with
    | .shl => ck (0 ≤ j) (K (.dat (.int k) (shl k i j)) ob)
    | .shr => ck (0 ≤ j) (K (.dat (.int k) (shr k i j)) ob)
    | op => if k = k' then arith op k i j ob K else none
  | .dat .str s, .dat .str t =>
    match op with
    | .add => ck (s.size + t.size ≤ limit) (K (.dat .str (s ++ t)) ob)
    | .eql => K (.dat .bool (decide (s = t))) ob
    | .neq => K (.dat .bool (!decide (s = t))) ob
    | _ => none
  | .dat .bool p, .dat .bool q => (match P.underlying T', op with
    | some .bool, .eql => K (.dat .bool (p == q)) ob
    | some .bool, .neq => K (.dat .bool (!(p == q))) ob
    | _, _ => none)
  | .dat t x, .dat t' y =>
    if h : t' = t then cond (t.aggB && eqTy P 30 T' t && !P.eqGuardType P.depth T') (match eqv t x (h ▸ y) with
      | some q => (match op with
        | .eql => K (.dat .bool q) ob
        | .neq => K (.dat .bool (!q)) ob
        | _ => none)
      | none => none) none
    else none
  | .ptr i p, .ptr j q => (match samep p q, P.underlying T' with
    | some b, some (.pointer e) => cond (Nat.beq i j && b && (P.info? e).isSome) (match op with
      | .neq => K (.dat .bool false) ob
      | _ => none) none
    | _, _ => none)
  | x, .nilp => (match P.underlying T', nilP x with
    | some (.pointer _), some q => (match op with
      | .eql => K (.dat .bool q) ob
      | .neq => K (.dat .bool (!q)) ob
      | _ => none)
    | _, _ => none)
  | x, .nils => (match P.underlying T', nilS ob x with
    | some (.slice _), some q => (match op with
      | .eql => K (.dat .bool q) ob
      | .neq => K (.dat .bool (!q)) ob
      | _ => none)
    | _, _ => none)
  | x, .nilf => (match P.underlying T', nilF x with
    | some (.func _ _ _), some q => (match op with
      | .eql => K (.dat .bool q) ob
      | .neq => K (.dat .bool (!q)) ob
      | _ => none)
    | _, _ => none)
  | _, _ => none
def un (op : UnOp) (x : AV) (ob : List AO) (K : KV R) : Option R :=
  match op, x with
  | .not, .dat .bool b => K (.dat .bool (!b)) ob
  | .neg, .dat (.int k) i => K (.dat (.int k) (k.wrap (0 - i))) ob
  | _, _ => none

/-- the steps to the i-th of n fields of a thing -/
def fsteps : List T → Nat → List Step
  | [_], 0 => [.one]
  | _, _ => []
def fldp (sz : TypeId → Nat) : List TypeId → Nat → List Step
  | [], _ => []
  | [_], _ => []
  | _ :: _, 0 => [.fst]
  | t :: r, i + 1 => .snd (sz t) :: fldp sz r i
def fldsteps (P : Program) (S : TypeId) (i : Nat) : Option (List Step) :=
  match P.underlying S with
  | some (.struct fs) => (match fs.toList.map (·.type) with
    | [] => none
    | [_] => if i = 0 then some [.one] else none
    | l => if i < l.length then some (fldp P.cellsOf l i) else none)
  | _ => none

/-- a slice's content, where it can be read -/
def rowOf (ob : List AO) (i : Nat) : Option AO := ob[i]?
/-- the length of a slice -/
def slen (ob : List AO) : AV → Option Nat
  | .dat (.sl _) xs => some xs.length
  | .sln _ xs => some xs.length
  | .nils => some 0
  | .cut _ => some 0
  | .view i => (match ob[i]? with | some (.row _ _ xs _) => some xs.length | _ => none)
  | .pre _ n => some n
  | .tgt _ n => some n
  | .win _ _ n => some n
  | _ => none
/-- a slice's data -/
def sdat (ob : List AO) : AV → Option AV
  | .dat (.sl t) xs => some (.dat (.sl t) xs)
  | .sln t xs => some (.dat (.sl t) xs)
  | .cut t => some (.dat (.sl t) [])
  | .view i => (match ob[i]? with | some (.row _ t xs _) => some (.dat (.sl t) xs) | _ => none)
  | .pre i n => (match ob[i]? with | some (.row _ t xs _) => some (.dat (.sl t) (xs.take n)) | _ => none)
  | .tgt i n => (match ob[i]? with | some (.row _ t xs _) => some (.dat (.sl t) (xs.take n)) | _ => none)
  | .win i o n => (match ob[i]? with | some (.row _ t xs _) => some (.dat (.sl t) ((xs.drop o).take n)) | _ => none)
  | _ => none

/-- what is one's own, and holds no names, is told as data from here on: it is written no more -/
def frz (ob : List AO) (v : AV) : AV × List AO :=
  match v with
  | .view i => (match ob[i]? with
    | some (.row e t xs .own) => (.dat (.sl t) xs, ob.set i (.row e t xs .fz))
    | some (.row _ t xs .fz) => (.dat (.sl t) xs, ob)
    | _ => (v, ob))
  | .pre i n => (match ob[i]? with
    | some (.row e t xs .own) => (.dat (.sl t) (xs.take n), ob.set i (.row e t xs .fz))
    | some (.row _ t xs .fz) => (.dat (.sl t) (xs.take n), ob)
    | _ => (v, ob))
  | .tgt i n => (match ob[i]? with
    | some (.row e t xs .own) => (.dat (.sl t) (xs.take n), ob.set i (.row e t xs .fz))
    | some (.row _ t xs .fz) => (.dat (.sl t) (xs.take n), ob)
    | _ => (v, ob))
  | .win i o n => (match ob[i]? with
    | some (.row e t xs .own) => (.dat (.sl t) ((xs.drop o).take n), ob.set i (.row e t xs .fz))
    | some (.row _ t xs .fz) => (.dat (.sl t) ((xs.drop o).take n), ob)
    | _ => (v, ob))
  | .nils => (v, ob)
  | v => (v, ob)
def frzP : AV → List AO → AV × List AO
  | .pr a b, ob => match frzP a ob with | (a, ob) => match frzP b ob with | (b, ob) => (mkpr' a b, ob)
  | .one a, ob => match frzP a ob with | (a, ob) => (mkone a, ob)
  | v, ob => frz ob v
where mkpr' : AV → AV → AV
  | .nils, .dat b y => .pr .nils (.dat b y)
  | u, v => mkpr u v
end
end Go.Mx
