/- Own work. A part of the proof of a law of this seat: the abstract machine and its soundness -/
import Derived.Test.YtfbgglpfakadhaaDoorSb
/- The abstract machine: its values, its objects, its rounds. What it does is told here; that the program does just so, in the texts behind. -/
namespace Go.Mx
open Go Go.RowKit Go.Sx

/-! ### types of data that hold no names of objects -/
inductive T where
  | int (k : IntKind)
  | bool
  | str
  | unit
  | flt
  | cpx
  | fn
  | one (t : T)
  | pair (a b : T)
  | arr (n : Nat) (t : T)
  | sl (t : T)
  deriving DecidableEq, Inhabited

@[reducible] def T.den : T → Type
  | .int _ => Int
  | .bool => Bool
  | .str => ByteArray
  | .unit => Unit
  | .flt => Nat
  | .cpx => Nat × Nat
  | .fn => Nat
  | .one t => t.den
  | .pair a b => a.den × b.den
  | .arr _ t => List t.den
  | .sl t => List t.den

def T.sz : T → Nat
  | .unit => 0
  | .one t => t.sz
  | .pair a b => a.sz + b.sz
  | .arr n t => n * t.sz
  | _ => 1

/-- a step into a part: the first, all behind the first (so many cells on), the only one, the i-th (of so many cells) -/
inductive Step where
  | fst
  | snd (k : Nat)
  | one
  | idx (i sz : Nat)

inductive AV where
  | dat (t : T) (x : t.den)
  | pr (a b : AV)
  | one (a : AV)
  | ptr (id : Nat) (p : List Step)
  | nilp
  | rdp (t : T) (x : t.den)
  | view (id : Nat)
  | pre (id n : Nat)
  | tgt (id n : Nat)
  | win (id off n : Nat)
  | nils
  | cut (t : T)
  | nilw (t : T)
  | sln (t : T) (xs : List t.den)
  | mp (id : Nat)
  | nilm
  | fn (f : FuncId) (fs cs : List AV)
  | nilf
  | iface (t : TypeId) (v : AV)
  | nilI
  | tup (l : List AV)
  | undef

inductive Md where
  | own | ro | fz
  deriving DecidableEq

inductive AO where
  | gone
  | box (ty : TypeId) (v : AV) (w : Bool)
  | row (e : TypeId) (t : T) (xs : List t.den) (m : Md)
  | itr (s : ByteArray) (pos : Nat) (w : Bool)
  | map (k v : T) (es : List (k.den × v.den)) (w : Bool)
/-- what package variables hold -/
class Glb where
  gl : Nat → Option ((t : T) × t.den)

def AV.sz : AV → Nat
  | .dat t _ => t.sz
  | .pr a b => a.sz + b.sz
  | .one a => a.sz
  | _ => 1

abbrev Slots := List (Nat × AV)
structure St where
  sl : Slots
  ob : List AO

section
variable {R : Type}

def lookA (t : Nat) : Slots → Option AV
  | [] => none
  | p :: r => cond (Nat.beq p.1 t) (some p.2) (lookA t r)

/-! ### parts -/
def mkpr : AV → AV → AV
  | .dat a x, .dat b y => .dat (.pair a b) (x, y)
  | u, v => .pr u v
def mkone : AV → AV
  | .dat a x => .dat (.one a) x
  | u => .one u
/-- a value as data of that type -/
def dec : (t : T) → AV → Option t.den
  | t, .dat t' x => if h : t' = t then some (h ▸ x) else none
  | .sl _, .nils => some []
  | .sl _, .cut _ => some []
  | .sl _, .nilw _ => some []
  | .pair a b, .pr u v => (match dec a u with | some x => (match dec b v with | some y => some (x, y) | none => none) | none => none)
  | .one a, .one u => dec a u
  | .fn, .fn f [] [] => some f
  | _, _ => none
def getK : AV → List Step → (AV → Option R) → Option R
  | v, [], K => K v
  | .dat (.pair a _) x, .fst :: p, K => getK (.dat a x.1) p K
  | .dat (.pair a b) x, .snd k :: p, K => cond (Nat.beq k a.sz) (getK (.dat b x.2) p K) none
  | .dat (.one a) x, .one :: p, K => getK (.dat a x) p K
  | .dat (.arr _ t) xs, .idx i s :: p, K => cond (Nat.beq s t.sz) ((xs[i]?).bind fun x => getK (.dat t x) p K) none
  | .pr a _, .fst :: p, K => getK a p K
  | .pr a b, .snd k :: p, K => cond (Nat.beq k a.sz) (getK b p K) none
  | .one a, .one :: p, K => getK a p K
  | _, _ :: _, _ => none
def setK : AV → List Step → AV → (AV → Option R) → Option R
  | v, [], u, K => cond (Nat.beq v.sz u.sz) (K u) none
  | .dat (.pair a b) x, .fst :: p, u, K => setK (.dat a x.1) p u fun y => K (mkpr y (.dat b x.2))
  | .dat (.pair a b) x, .snd k :: p, u, K => cond (Nat.beq k a.sz) (setK (.dat b x.2) p u fun y => K (mkpr (.dat a x.1) y)) none
  | .dat (.one a) x, .one :: p, u, K => setK (.dat a x) p u fun y => K (mkone y)
  | .dat (.arr n t) xs, .idx i s :: p, u, K => cond (Nat.beq s t.sz) ((xs[i]?).bind fun x => setK (.dat t x) p u fun y => match dec t y with
      | some z => K (.dat (.arr n t) (xs.set i z))
      | none => none) none
  | .pr a b, .fst :: p, u, K => setK a p u fun y => K (mkpr y b)
  | .pr a b, .snd k :: p, u, K => cond (Nat.beq k a.sz) (setK b p u fun y => K (mkpr a y)) none
  | .one a, .one :: p, u, K => setK a p u fun y => K (mkone y)
  | _, _ :: _, _, _ => none

/-! ### the names in a value; a value told in other names -/
mutual
def AV.ids : AV → List Nat
  | .pr a b => a.ids ++ b.ids
  | .one a => a.ids
  | .ptr i _ => [i]
  | .view i => [i]
  | .pre i _ => [i]
  | .tgt i _ => [i]
  | .win i _ _ => [i]
  | .mp i => [i]
  | .fn _ fs cs => AV.idsL fs ++ AV.idsL cs
  | .iface _ v => v.ids
  | .tup l => AV.idsL l
  | _ => []
def AV.idsL : List AV → List Nat
  | [] => []
  | v :: l => v.ids ++ AV.idsL l
end
def AO.ids : AO → List Nat
  | .box _ v _ => v.ids
  | _ => []
def posn (i : Nat) : List Nat → Nat → Option Nat
  | [], _ => none
  | j :: l, n => cond (Nat.beq j i) (some n) (posn i l (n + 1))
mutual
def AV.ren (f : Nat → Option Nat) : AV → Option AV
  | .dat t x => some (.dat t x)
  | .pr a b => match a.ren f with | some a => (match b.ren f with | some b => some (.pr a b) | none => none) | none => none
  | .one a => match a.ren f with | some a => some (.one a) | none => none
  | .ptr i p => match f i with | some i => some (.ptr i p) | none => none
  | .nilp => some .nilp
  | .rdp t x => some (.rdp t x)
  | .view i => match f i with | some i => some (.view i) | none => none
  | .pre i n => match f i with | some i => some (.pre i n) | none => none
  | .tgt i n => match f i with | some i => some (.tgt i n) | none => none
  | .win i o n => match f i with | some i => some (.win i o n) | none => none
  | .nils => some .nils
  | .cut t => some (.cut t)
  | .nilw t => some (.nilw t)
  | .sln t xs => some (.sln t xs)
  | .mp i => match f i with | some i => some (.mp i) | none => none
  | .nilm => some .nilm
  | .fn g fs cs => match AV.renL f fs with | some fs => (match AV.renL f cs with | some cs => some (.fn g fs cs) | none => none) | none => none
  | .nilf => some .nilf
  | .iface t v => match v.ren f with | some v => some (.iface t v) | none => none
  | .nilI => some .nilI
  | .tup l => match AV.renL f l with | some l => some (.tup l) | none => none
  | .undef => some .undef
def AV.renL (f : Nat → Option Nat) : List AV → Option (List AV)
  | [] => some []
  | v :: l => match v.ren f with | some v => (match AV.renL f l with | some l => some (v :: l) | none => none) | none => none
end
def AO.ren (f : Nat → Option Nat) : AO → Option AO
  | .gone => some .gone
  | .box ty v w => match v.ren f with | some v => some (.box ty v w) | none => none
  | .row e t xs m => some (.row e t xs m)
  | .itr s p w => some (.itr s p w)
  | .map k v es w => some (.map k v es w)
def renAll (f : Nat → Option Nat) : List AO → Option (List AO)
  | [] => some []
  | o :: l => match o.ren f with | some o => (match renAll f l with | some l => some (o :: l) | none => none) | none => none

/-- the names that are reached from some, in the order in which they are met -/
def visit (ob : List AO) : Nat → List Nat → List Nat → List Nat
  | 0, _, L => L
  | _ + 1, [], L => L
  | n + 1, i :: r, L => cond (L.contains i) (visit ob n r L) (visit ob n ((match ob[i]? with | some o => o.ids | none => []) ++ r) (L ++ [i]))
def reachA (ob : List AO) (l : List Nat) : List Nat := visit ob (4 * ob.length + 4 * l.length + 16) l []

def objs (ob : List AO) : List Nat → Option (List AO)
  | [] => some []
  | i :: r => match ob[i]? with | some o => (match objs ob r with | some l => some (o :: l) | none => none) | none => none
def nodupB : List Nat → Bool
  | [] => true
  | i :: r => !r.contains i && nodupB r

/-! ### what a type's things are -/
def zerF (z : TypeId → Option AV) : List TypeId → Option AV
  | [] => some (.dat .unit ())
  | [t] => (match z t with | some a => some (mkone a) | none => none)
  | t :: r => (match z t with
    | some a => (match r with
      | [u] => (match z u with | some b => some (mkpr a b) | none => none)
      | r => (match zerF z r with | some b => some (mkpr a b) | none => none))
    | none => none)
def zer (P : Program) : Nat → TypeId → Option AV
  | 0, _ => none
  | n + 1, t => match P.underlying t with
    | some .bool => some (.dat .bool false)
    | some (.int k) => some (.dat (.int k) 0)
    | some .string => some (.dat .str ⟨#[]⟩)
    | some (.float .f64) => some (.dat .flt 0)
    | some (.complex .f64) => some (.dat .cpx (0, 0))
    | some (.slice _) => some .nils
    | some (.pointer _) => some .nilp
    | some (.map _ _) => some .nilm
    | some (.func _ _ _) => some .nilf
    | some (.interface _) => some .nilI
    | some (.struct fs) => zerF (zer P n) (fs.toList.map (·.type))
    | some (.array m e) => (match zer P n e with
      | some (.dat t z) => some (.dat (.arr m t) (List.replicate m z))
      | _ => none)
    | _ => none
def tyF (z : TypeId → Option T) : List TypeId → Option T
  | [] => some .unit
  | [t] => (match z t with | some a => some (.one a) | none => none)
  | t :: r => (match z t with
    | some a => (match r with
      | [u] => (match z u with | some b => some (.pair a b) | none => none)
      | r => (match tyF z r with | some b => some (.pair a b) | none => none))
    | none => none)
/-- the data that a row of that element type may hold -/
def tyT (P : Program) : Nat → TypeId → Option T
  | 0, _ => none
  | n + 1, t => match P.underlying t with
    | some .bool => some .bool
    | some (.int k) => some (.int k)
    | some .string => some .str
    | some (.float .f64) => some .flt
    | some (.complex .f64) => some .cpx
    | some (.slice e) => (match tyT P n e with | some t => some (.sl t) | none => none)
    | some (.func _ _ _) => some .fn
    | some (.struct fs) => tyF (tyT P n) (fs.toList.map (·.type))
    | some (.array m e) => (match tyT P n e with | some t => some (.arr m t) | none => none)
    | _ => none

/-! ### zero values: told, and held against the type's own -/
def eqV : Value → Value → Bool
  | .bool a, .bool b => a == b
  | .int k n, .int k' m => decide (k = k') && decide (n = m)
  | .string a, .string b => decide (a = b)
  | .float k a, .float k' b => decide (k = k') && Nat.beq a b
  | .complex k a c, .complex k' b d => decide (k = k') && Nat.beq a b && Nat.beq c d
  | .pointer none, .pointer none => true
  | .slice none 0 0, .slice none 0 0 => true
  | .map none, .map none => true
  | .nilFunc, .nilFunc => true
  | .nilIface, .nilIface => true
  | _, _ => false
def eqVL : List Value → List Value → Bool
  | [], [] => true
  | a :: l, b :: m => eqV a b && eqVL l m
  | _, _ => false
def encT : (t : T) → t.den → Option (List Value)
  | .int k, n => some [.int k n]
  | .bool, b => some [.bool b]
  | .str, s => some [.string s]
  | .unit, _ => some []
  | .flt, n => some [.float .f64 n]
  | .cpx, n => some [.complex .f64 n.1 n.2]
  | .fn, _ => none
  | .one t, x => encT t x
  | .pair a b, x => (match encT a x.1 with | some l => (match encT b x.2 with | some m => some (l ++ m) | none => none) | none => none)
  | .arr n t, xs => cond (Nat.beq xs.length n) (encL (encT t) xs) none
  | .sl _, xs => (match xs with | [] => some [.slice none 0 0] | _ => none)
where encL {α : Type} (e : α → Option (List Value)) : List α → Option (List Value)
  | [] => some []
  | x :: r => (match e x with | some l => (match encL e r with | some m => some (l ++ m) | none => none) | none => none)
def encA : AV → Option (List Value)
  | .dat t x => encT t x
  | .pr a b => (match encA a with | some l => (match encA b with | some m => some (l ++ m) | none => none) | none => none)
  | .one a => encA a
  | .nilp => some [.pointer none]
  | .nils => some [.slice none 0 0]
  | .nilm => some [.map none]
  | .nilf => some [.nilFunc]
  | .nilI => some [.nilIface]
  | _ => none
def zOk (P : Program) (t : TypeId) (v : AV) : Bool := match P.info? t with
  | some i => (match i.zero, encA v with
    | some z, some cs => eqVL z.cells.toList cs
    | _, _ => false)
  | none => false
/-- zero of a type -/
def zerK {R : Type} (P : Program) (t : TypeId) (K : AV → Option R) : Option R := match zer P 40 t with
  | some v => cond (zOk P t v) (K v) none
  | none => none
def elOk (P : Program) (e : TypeId) (t : T) : Bool := match P.info? e with
  | some i => Nat.beq i.size t.sz && Nat.blt 0 i.bytes && Nat.blt 0 t.sz && decide (t.sz ≤ 1024)
  | none => false
/-- the elements of a row: their data, and zero; they have cells, and bytes -/
def elK {R : Type} (P : Program) (e : TypeId) (K : (t : T) → t.den → Option R) : Option R := match zer P 40 e, tyT P 40 e with
  | some v, some t => (match dec t v with
    | some z => cond (zOk P e v && elOk P e t) (K t z) none
    | none => none)
  | _, _ => none

def hasZ (P : Program) (e : TypeId) : Bool := match P.info? e with
  | some i => i.zero.isSome
  | none => false
/-- the elements of a row that is told part by part: their data alone -/
def elU {R : Type} (P : Program) (e : TypeId) (K : (t : T) → Option R) : Option R := match tyT P 40 e with
  | some t => cond (elOk P e t && hasZ P e) (K t) none
  | none => none

/-! ### operations -/
def ofConst : Value → Option AV
  | .bool b => some (.dat .bool b)
  | .int k n => some (.dat (.int k) n)
  | .string s => some (.dat .str s)
  | .float .f64 b => some (.dat .flt b)
  | .complex .f64 a b => some (.dat .cpx (a, b))
  | .pointer none => some .nilp
  | .slice none 0 0 => some .nils
  | .map none => some .nilm
  | .nilFunc => some .nilf
  | .nilIface => some .nilI
  | _ => none
def ev [Glb] (s : Slots) : Operand → Option AV
  | .tmp t => lookA t s
  | .const v => ofConst v
  | .func f => some (.fn f [] [])
  | .global g => (match Glb.gl g with | some z => some (.rdp z.1 z.2) | none => none)
def evs [Glb] (s : Slots) : List Operand → Option (List AV)
  | [] => some []
  | x :: r => match ev s x with | some v => (match evs s r with | some l => some (v :: l) | none => none) | none => none

abbrev KV (R : Type) := AV → List AO → Option R

def eqL {α : Type} (f : α → α → Option Bool) : List α → List α → Option Bool
  | [], [] => some true
  | x :: xs, y :: ys => (match f x y with | some p => (match eqL f xs ys with | some q => some (p && q) | none => none) | none => none)
  | _, _ => none
def eqv : (t : T) → t.den → t.den → Option Bool
  | .int _, x, y => some (decide (x = y))
  | .bool, x, y => some (x == y)
  | .str, x, y => some (decide (x = y))
  | .one t, x, y => eqv t x y
  | .pair a b, x, y => (match eqv a x.1 y.1 with | some p => (match eqv b x.2 y.2 with | some q => some (p && q) | none => none) | none => none)
  | .unit, _, _ => some true
  | .arr _ t, x, y => eqL (eqv t) x y
  | _, _, _ => none

/-! ### maps -/
/-- data that may be keys -/
def keyT : T → Bool
  | .int _ => true
  | .bool => true
  | .str => true
  | .unit => true
  | .one t => keyT t
  | .pair a b => keyT a && keyT b
  | _ => false
def eqB : (t : T) → t.den → t.den → Bool
  | .int _, x, y => decide (x = y)
  | .bool, x, y => x == y
  | .str, x, y => decide (x = y)
  | .unit, _, _ => true
  | .one t, x, y => eqB t x y
  | .pair a b, x, y => eqB a x.1 y.1 && eqB b x.2 y.2
  | _, _, _ => false
def getM {V : Type} (t : T) (x : t.den) (z : V) : List (t.den × V) → V
  | [] => z
  | p :: r => cond (eqB t x p.1) p.2 (getM t x z r)
def hasM {V : Type} (t : T) (x : t.den) : List (t.den × V) → Bool
  | [] => false
  | p :: r => cond (eqB t x p.1) true (hasM t x r)
def setM {V : Type} (t : T) (x : t.den) (v : V) : List (t.den × V) → List (t.den × V)
  | [] => [(x, v)]
  | p :: r => cond (eqB t x p.1) ((x, v) :: r) (p :: setM t x v r)
def delM {V : Type} (t : T) (x : t.den) : List (t.den × V) → List (t.den × V)
  | [] => []
  | p :: r => cond (eqB t x p.1) r (p :: delM t x r)

/-- a function's value, told as such -/
def fnV : AV → AV
  | .dat .fn f => .fn f [] []
  | v => v
def arith (op : BinOp) (k : IntKind) (i j : Int) (ob : List AO) (K : KV R) : Option R :=
  match op with
  | .add => K (.dat (.int k) (k.wrap (i + j))) ob
  | .sub => K (.dat (.int k) (k.wrap (i - j))) ob
  | .mul => K (.dat (.int k) (k.wrap (i * j))) ob
  | .quo => ck (j ≠ 0) (K (.dat (.int k) (k.wrap (i.tdiv j))) ob)
  | .rem => ck (j ≠ 0) (K (.dat (.int k) (i.tmod j)) ob)
  | .and => K (.dat (.int k) (bits .and k i j)) ob
  | .or => K (.dat (.int k) (bits .or k i j)) ob
  | .xor => K (.dat (.int k) (bits .xor k i j)) ob
  | .andNot => K (.dat (.int k) (bits .andNot k i j)) ob
  | .eql => K (.dat .bool (decide (i = j))) ob
  | .neq => K (.dat .bool (!decide (i = j))) ob
  | .lss => K (.dat .bool (decide (i < j))) ob
  | .leq => K (.dat .bool (decide (i ≤ j))) ob
  | .gtr => K (.dat .bool (decide (j < i))) ob
  | .geq => K (.dat .bool (decide (j ≤ i))) ob
  | _ => none
def nilP : AV → Option Bool
  | .ptr _ _ => some false
  | .rdp _ _ => some false
  | .nilp => some true
  | _ => none
def nilS (ob : List AO) : AV → Option Bool
  | .sln _ _ => some false
  | .nilw _ => some true
  | .dat (.sl _) (_ :: _) => some false
  | .view i => (match ob[i]? with | some (.row _ _ (_ :: _) _) => some false | _ => none)
  | .pre i (_ + 1) => (match ob[i]? with | some (.row _ _ _ _) => some false | _ => none)
  | .tgt i (_ + 1) => (match ob[i]? with | some (.row _ _ _ _) => some false | _ => none)
  | .win _ _ (_ + 1) => some false
  | .nils => some true
  | _ => none
def nilF : AV → Option Bool
  | .fn _ _ _ => some false
  | .dat .fn _ => some false
  | .nilf => some true
  | _ => none
def nilI : AV → Option Bool
  | .iface _ _ => some false
  | .nilI => some true
  | _ => none
def nilM : AV → Option Bool
  | .mp _ => some false
  | .nilm => some true
  | _ => none
/-- the same place in a thing? (told where no step is a number's) -/
def samep : List Step → List Step → Option Bool
  | [], [] => some true
  | _, _ => none
def limit : Nat := 140737488355328
/-- is a type laid out as this data, and may two of it be compared part by part? -/
def aggB (P : Program) (i : TypeId) : Option Bool :=
  match P.underlying i with
  | some (.struct _) => some true
  | some (.array _ _) => some true
  | some _ => some false
  | none => none
def T.aggB : T → Bool
  | .one _ => true
  | .pair _ _ => true
  | .arr _ _ => true
  | .unit => true
  | _ => false
def fldTy (P : Program) (E : TypeId → T → Bool) (f : Field) (o : Nat) (t : T) : Bool :=
  f.name != "_" && Nat.beq f.offset o && (match P.info? f.type with | some i => Nat.beq i.size t.sz | none => false) && (match aggB P f.type with | some b => b == t.aggB | none => false) && E f.type t
def eqTyF (P : Program) (E : TypeId → T → Bool) : List Field → Nat → T → Bool
  | [f], o, t => fldTy P E f o t
  | f :: r, o, .pair a b => fldTy P E f o a && eqTyF P E r (o + a.sz) b
  | _, _, _ => false
def eqTy (P : Program) : Nat → TypeId → T → Bool
  | 0, _, _ => false
  | n + 1, i, t => match P.underlying i, t with
    | some (.int _), .int _ => true
    | some .bool, .bool => true
    | some .string, .str => true
    | some (.struct fs), .one t => !P.stoodInHeld i && (match fs.toList with | [f] => fldTy P (eqTy P n) f 0 t | _ => false)
    | some (.struct fs), .pair a b => !P.stoodInHeld i && eqTyF P (eqTy P n) fs.toList 0 (.pair a b)
    | some (.array m e), .arr m' t => Nat.beq m m' && (match P.info? e with | some j => Nat.beq j.size t.sz | none => false) && (match aggB P e with | some b => b == t.aggB | none => false) && eqTy P n e t
    | _, _ => false
def bin (P : Program) (T' : TypeId) (op : BinOp) (x y : AV) (ob : List AO) (K : KV R) : Option R :=
  match x, y with
  | .dat (.int k) i, .dat (.int k') j =>
    match op with
    | .shl => ck (0 ≤ j) (K (.dat (.int k) (shl k i j)) ob)
    | .shr => ck (0 ≤ j) (K (.dat (.int k) (shr k i j)) ob)
    | op => if k = k' then arith op k i j ob K else none
  | .dat .str s, .dat .str t =>
    match op with
    | .add => ck (s.size + t.size ≤ limit) (K (.dat .str (s ++ t)) ob)
    | .eql => K (.dat .bool (decide (s = t))) ob
    | .neq => K (.dat .bool (!decide (s = t))) ob
    | _ => none
  | .dat .bool p, .dat .bool q => (match P.underlying T', op with
    | some .bool, .eql => K (.dat .bool (p == q)) ob
    | some .bool, .neq => K (.dat .bool (!(p == q))) ob
    | _, _ => none)
  | .dat t x, .dat t' y =>
    if h : t' = t then cond (t.aggB && eqTy P 30 T' t && !P.eqGuardType P.depth T') (match eqv t x (h ▸ y) with
      | some q => (match op with
        | .eql => K (.dat .bool q) ob
        | .neq => K (.dat .bool (!q)) ob
        | _ => none)
      | none => none) none
    else none
  | .ptr i p, .ptr j q => (match samep p q, P.underlying T' with
    | some b, some (.pointer e) => cond (Nat.beq i j && b && (P.info? e).isSome) (match op with
      | .neq => K (.dat .bool false) ob
      | _ => none) none
    | _, _ => none)
  | x, .nilp => (match P.underlying T', nilP x with
    | some (.pointer _), some q => (match op with
      | .eql => K (.dat .bool q) ob
      | .neq => K (.dat .bool (!q)) ob
      | _ => none)
    | _, _ => none)
  | x, .nils => (match P.underlying T', nilS ob x with
    | some (.slice _), some q => (match op with
      | .eql => K (.dat .bool q) ob
      | .neq => K (.dat .bool (!q)) ob
      | _ => none)
    | _, _ => none)
  | x, .nilf => (match P.underlying T', nilF x with
    | some (.func _ _ _), some q => (match op with
      | .eql => K (.dat .bool q) ob
      | .neq => K (.dat .bool (!q)) ob
      | _ => none)
    | _, _ => none)
  | x, .nilI => (match P.underlying T', nilI x with
    | some (.interface _), some q => (match op with
      | .eql => K (.dat .bool q) ob
      | .neq => K (.dat .bool (!q)) ob
      | _ => none)
    | _, _ => none)
  | x, .nilm => (match P.underlying T', nilM x with
    | some (.map _ _), some q => (match op with
      | .eql => K (.dat .bool q) ob
      | .neq => K (.dat .bool (!q)) ob
      | _ => none)
    | _, _ => none)
  | _, _ => none
/-- two nil interfaces: one of them as it stands in the text -/
def guardC (u v : AV) (y : Operand) : Bool := match u, v, y with
  | .nilI, .nilI, .const _ => true
  | .nilI, .nilI, _ => false
  | _, _, _ => true
def un (op : UnOp) (x : AV) (ob : List AO) (K : KV R) : Option R :=
  match op, x with
  | .not, .dat .bool b => K (.dat .bool (!b)) ob
  | .neg, .dat (.int k) i => K (.dat (.int k) (k.wrap (0 - i))) ob
  | .xor, .dat (.int k) i => K (.dat (.int k) (bits .xor k (if k.signed then -1 else k.max) i)) ob
  | _, _ => none

/-- the steps to the i-th of n fields of a thing -/
def fsteps : List T → Nat → List Step
  | [_], 0 => [.one]
  | _, _ => []
def fldp (sz : TypeId → Nat) : List TypeId → Nat → List Step
  | [], _ => []
  | [_], _ => []
  | _ :: _, 0 => [.fst]
  | t :: r, i + 1 => .snd (sz t) :: fldp sz r i
def fldsteps (P : Program) (S : TypeId) (i : Nat) : Option (List Step) :=
  match P.underlying S with
  | some (.struct fs) => (match fs.toList.map (·.type) with
    | [] => none
    | [_] => if i = 0 then some [.one] else none
    | l => if i < l.length then some (fldp P.cellsOf l i) else none)
  | _ => none

/-- a slice's content, where it can be read -/
def rowOf (ob : List AO) (i : Nat) : Option AO := ob[i]?
/-- the length of a slice -/
def slen (ob : List AO) : AV → Option Nat
  | .dat (.sl _) xs => some xs.length
  | .sln _ xs => some xs.length
  | .nils => some 0
  | .cut _ => some 0
  | .nilw _ => some 0
  | .view i => (match ob[i]? with | some (.row _ _ xs _) => some xs.length | _ => none)
  | .pre _ n => some n
  | .tgt _ n => some n
  | .win _ _ n => some n
  | _ => none
/-- a slice's data -/
def sdat (ob : List AO) : AV → Option AV
  | .dat (.sl t) xs => some (.dat (.sl t) xs)
  | .sln t xs => some (.dat (.sl t) xs)
  | .cut t => some (.dat (.sl t) [])
  | .nilw t => some (.dat (.sl t) [])
  | .view i => (match ob[i]? with | some (.row _ t xs _) => some (.dat (.sl t) xs) | _ => none)
  | .pre i n => (match ob[i]? with | some (.row _ t xs _) => some (.dat (.sl t) (xs.take n)) | _ => none)
  | .tgt i n => (match ob[i]? with | some (.row _ t xs _) => some (.dat (.sl t) (xs.take n)) | _ => none)
  | .win i o n => (match ob[i]? with | some (.row _ t xs _) => some (.dat (.sl t) ((xs.drop o).take n)) | _ => none)
  | _ => none

/-- what is one's own, and holds no names, is told as data from here on: it is written no more -/
def frz (ob : List AO) (v : AV) : AV × List AO :=
  match v with
  | .view i => (match ob[i]? with
    | some (.row e t xs .own) => (.dat (.sl t) xs, ob.set i (.row e t xs .fz))
    | some (.row _ t xs .fz) => (.dat (.sl t) xs, ob)
    | _ => (v, ob))
  | .pre i n => (match ob[i]? with
    | some (.row e t xs .own) => (.dat (.sl t) (xs.take n), ob.set i (.row e t xs .fz))
    | some (.row _ t xs .fz) => (.dat (.sl t) (xs.take n), ob)
    | _ => (v, ob))
  | .tgt i n => (match ob[i]? with
    | some (.row e t xs .own) => (.dat (.sl t) (xs.take n), ob.set i (.row e t xs .fz))
    | some (.row _ t xs .fz) => (.dat (.sl t) (xs.take n), ob)
    | _ => (v, ob))
  | .win i o n => (match ob[i]? with
    | some (.row e t xs .own) => (.dat (.sl t) ((xs.drop o).take n), ob.set i (.row e t xs .fz))
    | some (.row _ t xs .fz) => (.dat (.sl t) ((xs.drop o).take n), ob)
    | _ => (v, ob))
  | .nils => (v, ob)
  | v => (v, ob)
def frzP : AV → List AO → AV × List AO
  | .pr a b, ob => match frzP a ob with | (a, ob) => match frzP b ob with | (b, ob) => (mkpr' a b, ob)
  | .one a, ob => match frzP a ob with | (a, ob) => (mkone a, ob)
  | v, ob => frz ob v
where mkpr' : AV → AV → AV
  | .nils, .dat b y => .pr .nils (.dat b y)
  | u, v => mkpr u v
end
end Go.Mx

/- The abstract machine: one operation, a region, code. -/
namespace Go.Mx
open Go Go.RowKit Go.Sx
variable [Glb]
set_option linter.unusedSectionVars false

/-- functions that are told by what they do -/
inductive Prim where
  | clone (e : TypeId)
  | same
  | text
structure Sums where
  prim : FuncId → Option Prim
  call : {R : Type} → FuncId → List AV → List AO → KV R → Option R
  wr : FuncId → List AV → List Nat

section
variable {R : Type}

def offs : List Step → Nat
  | [] => 0
  | .fst :: p => offs p
  | .snd k :: p => k + offs p
  | .one :: p => offs p
  | .idx i s :: p => i * s + offs p
/-- a value that is no list of results, and was told -/
def AV.plain : AV → Bool
  | .tup _ => false
  | .undef => false
  | _ => true
def AV.isAgg : AV → Bool
  | .dat t _ => t.aggB
  | .pr _ _ => true
  | .one _ => true
  | _ => false
def szOk (P : Program) (t : TypeId) (n : Nat) : Bool := match P.info? t with | some i => Nat.beq i.size n | none => false
def elemOf (P : Program) (t : TypeId) : Option TypeId :=
  match P.underlying t with
  | some (.slice e) => some e
  | _ => none
/-- what an append, a copy reads -/
def sdatY (ob : List AO) (t : T) (y : AV) : Option (List t.den) :=
  match y with
  | .nils => some []
  | y => (match sdat ob y with | some d => dec (.sl t) d | none => none)
def newRow (e : TypeId) (t : T) (xs : List t.den) (ob : List AO) (K : KV R) : Option R := K (.view ob.length) (ob ++ [.row e t xs .own])

def appendA (P : Program) (e : TypeId) (x y : AV) (ob : List AO) (K : KV R) : Option R :=
  elK P e fun t _ =>
  match sdatY ob t y with
  | some ys => (match x with
    | .nils => ck (ys.length * P.bytesOf e ≤ limit) (newRow e t ys ob K)
    | .view i => cond (y.ids.contains i) none (match ob[i]? with
      | some (.row e' t' xs .own) => if h : t' = t then cond (Nat.beq e' e) (ck ((xs.length + ys.length) * P.bytesOf e ≤ limit) (newRow e t ((h ▸ xs) ++ ys) (ob.set i .gone) K)) none else none
      | _ => none)
    | .pre i n => cond (y.ids.contains i) none (match ob[i]? with
      | some (.row e' t' xs .own) => if h : t' = t then cond (Nat.beq e' e) (ck ((n + ys.length) * P.bytesOf e ≤ limit) (newRow e t (List.take n (h ▸ xs) ++ ys) (ob.set i .gone) K)) none else none
      | _ => none)
    | .tgt i n => (match ob[i]?, ys with
      | some (.row e' t' xs _), z :: zs => if h : t' = t then cond (Nat.beq e' e) (ck ((n + (z :: zs).length) * P.bytesOf e ≤ limit) (newRow e t (List.take n (h ▸ xs) ++ (z :: zs)) ob K)) none else none
      | some _, [] => K (.tgt i n) ob
      | _, _ => none)
    | .cut t' => (match ys with
      | [] => K (.cut t') ob
      | z :: zs => ck ((z :: zs).length * P.bytesOf e ≤ limit) (newRow e t (z :: zs) ob K))
    | _ => none)
  | none => none
/-- append(x, make([]T, n)...) -/
def appendZ (P : Program) (e : TypeId) (x : AV) (n : Int) (ob : List AO) (K : KV R) : Option R :=
  elK P e fun t z =>
  match x with
  | .nils => ck (0 ≤ n ∧ n.toNat * P.bytesOf e ≤ limit) (newRow e t (List.replicate n.toNat z) ob K)
  | .view i => (match ob[i]? with
    | some (.row e' t' xs .own) => if h : t' = t then cond (Nat.beq e' e) (ck (0 ≤ n ∧ (xs.length + n.toNat) * P.bytesOf e ≤ limit) (newRow e t ((h ▸ xs) ++ List.replicate n.toNat z) (ob.set i .gone) K)) none else none
    | _ => none)
  | _ => none

def optI (s : Slots) : Option Operand → Option (Option Int)
  | none => some none
  | some x => (match ev s x with | some (.dat (.int _) i) => some (some i) | _ => none)
/-- is it a slice of such data? -/
def slOk (P : Program) (T' : TypeId) (t : T) : Bool := match P.underlying T' with
  | some (.slice e) => szOk P e t.sz
  | _ => false
def sliceB (lo hi mx : Option Int) (n : Nat) (K : Nat → Nat → Option R) : Option R :=
  match lo, hi, mx with
  | some l, some h, none => ck (0 ≤ l ∧ l ≤ h ∧ h ≤ (n : Int)) (K l.toNat h.toNat)
  | some l, some h, some m => ck (0 ≤ l ∧ l ≤ h ∧ h ≤ m ∧ m ≤ (n : Int)) (K l.toNat h.toNat)
  | some l, none, none => ck (0 ≤ l ∧ l ≤ (n : Int)) (K l.toNat n)
  | none, some h, none => ck (0 ≤ h ∧ h ≤ (n : Int)) (K 0 h.toNat)
  | none, some h, some m => ck (0 ≤ h ∧ h ≤ m ∧ m ≤ (n : Int)) (K 0 h.toNat)
  | none, none, none => K 0 n
  | _, _, _ => none
def cutA {α : Type} (lo hi : Option Int) (xs : List α) : List α :=
  match lo, hi with
  | none, none => xs
  | some l, none => xs.drop l.toNat
  | none, some h => xs.take h.toNat
  | some l, some h => (xs.take h.toNat).drop l.toNat
/-- x[:0:0] -/
def noRoom (h : Nat) : Option Int → Bool
  | some m => Nat.beq h 0 && decide (m = 0)
  | none => false
/-- x[lo:hi:mx] -/
def sliceA (P : Program) (T' : TypeId) (x : AV) (lo hi mx : Option Int) (ob : List AO) (K : KV R) : Option R :=
  match x with
  | .dat .str s => (match P.underlying T' with
    | some .string => (match lo, hi, mx with
      | some l, some h, none => ck (0 ≤ l ∧ l ≤ h ∧ h ≤ (s.size : Int)) (K (.dat .str (s.extract l.toNat h.toNat)) ob)
      | some l, none, none => ck (0 ≤ l ∧ l ≤ (s.size : Int)) (K (.dat .str (s.extract l.toNat s.size)) ob)
      | none, some h, none => ck (0 ≤ h ∧ h ≤ (s.size : Int)) (K (.dat .str (s.extract 0 h.toNat)) ob)
      | _, _, _ => none)
    | _ => none)
  | .nils => (match elemOf P T' with
    | some e => (match P.info? e with
      | some _ => (match lo, hi, mx with
        | none, some h, none => ck (h = 0) (K .nils ob)
        | none, some h, some m => ck (h = 0 ∧ m = 0) (K .nils ob)
        | none, none, none => K .nils ob
        | _, _, _ => none)
      | none => none)
    | none => none)
  | .dat (.sl t) xs => cond (slOk P T' t) (sliceB lo hi mx xs.length fun _ h => cond (noRoom h mx) (K (.cut t) ob) (K (.dat (.sl t) (cutA lo hi xs)) ob)) none
  | .view i => (match ob[i]? with
    | some (.row _ t xs _) => cond (slOk P T' t) (sliceB lo hi mx xs.length fun l h => (match lo, hi, mx with
      | none, none, none => K (.view i) ob
      | none, _, none => K (.pre i h) ob
      | none, some h', some m => ck (h' = m) (K (.tgt i h) ob)
      | _, _, _ => K (.win i l (h - l)) ob)) none
    | _ => none)
  | .pre i n => (match ob[i]? with
    | some (.row _ t _ _) => cond (slOk P T' t) (sliceB lo hi mx n fun l h => (match lo, hi, mx with
      | none, _, none => K (.pre i h) ob
      | none, some h', some m => ck (h' = m) (K (.tgt i h) ob)
      | _, _, _ => K (.win i l (h - l)) ob)) none
    | _ => none)
  | .tgt i n => (match ob[i]? with
    | some (.row _ t _ _) => cond (slOk P T' t) (sliceB lo hi mx n fun l h => (match lo, hi, mx with
      | none, some h', some m => ck (h' = m) (K (.tgt i h) ob)
      | _, _, _ => K (.win i l (h - l)) ob)) none
    | _ => none)
  | .win i o n => (match ob[i]? with
    | some (.row _ t _ _) => cond (slOk P T' t) (sliceB lo hi mx n fun l h => K (.win i (o + l) (h - l)) ob) none
    | _ => none)
  | _ => none
/-- &x[i] -/
def indexAddrA (P : Program) (T' : TypeId) (x : AV) (i : Int) (ob : List AO) (K : KV R) : Option R :=
  match x with
  | .dat (.sl t) xs => cond (slOk P T' t) (ck (0 ≤ i) ((xs[i.toNat]?).bind fun x => K (.rdp t x) ob)) none
  | .view q => (match ob[q]? with
    | some (.row _ t xs _) => cond (slOk P T' t) (ck (0 ≤ i ∧ i < (xs.length : Int)) (K (.ptr q [.idx i.toNat t.sz]) ob)) none
    | _ => none)
  | .pre q n => (match ob[q]? with
    | some (.row _ t _ _) => cond (slOk P T' t) (ck (0 ≤ i ∧ i < (n : Int)) (K (.ptr q [.idx i.toNat t.sz]) ob)) none
    | _ => none)
  | .tgt q n => (match ob[q]? with
    | some (.row _ t _ _) => cond (slOk P T' t) (ck (0 ≤ i ∧ i < (n : Int)) (K (.ptr q [.idx i.toNat t.sz]) ob)) none
    | _ => none)
  | .win q o n => (match ob[q]? with
    | some (.row _ t _ _) => cond (slOk P T' t) (ck (0 ≤ i ∧ i < (n : Int)) (K (.ptr q [.idx (o + i.toNat) t.sz]) ob)) none
    | _ => none)
  | .ptr q p => (match P.underlying T' with
    | some (.array n e) => (match P.info? e with
      | some j => ck (0 ≤ i ∧ i < (n : Int)) (K (.ptr q (p ++ [.idx i.toNat j.size])) ob)
      | none => none)
    | _ => none)
  | .rdp (.arr _ t) xs => (match P.underlying T' with
    | some (.array n e) => cond (szOk P e t.sz) (ck (0 ≤ i ∧ i < (n : Int)) ((xs[i.toNat]?).bind fun x => K (.rdp t x) ob)) none
    | _ => none)
  | _ => none
def rdstep : AV → List Step → Option AV
  | v, [] => some v
  | .rdp (.pair a _) x, .fst :: p => rdstep (.rdp a x.1) p
  | .rdp (.pair a b) x, .snd k :: p => cond (Nat.beq k a.sz) (rdstep (.rdp b x.2) p) none
  | .rdp (.one a) x, .one :: p => rdstep (.rdp a x) p
  | _, _ => none
def loadOk (P : Program) (t : TypeId) (u : AV) : Bool := match aggB P t with
  | some true => u.isAgg && szOk P t u.sz
  | some false => !u.isAgg
  | none => false
def indexA (P : Program) (T' : TypeId) (x : AV) (i : Int) (ob : List AO) (K : KV R) : Option R :=
  match x with
  | .dat .str s => (match P.underlying T' with
    | some .string => ck (0 ≤ i ∧ i < (s.size : Int)) (((bytesOf s)[i.toNat]?).bind fun x => K (.dat (.int .u8) x) ob)
    | _ => none)
  | .dat (.arr _ t) xs => (match P.underlying T' with
    | some (.array n e) => cond (szOk P e t.sz) (ck (0 ≤ i ∧ i < (n : Int)) ((xs[i.toNat]?).bind fun x => cond (loadOk P e (.dat t x)) (K (.dat t x) ob) none)) none
    | _ => none)
  | _ => none
def loadA (P : Program) (t : TypeId) (x : AV) (ob : List AO) (K : KV R) : Option R :=
  match x with
  | .ptr q p => (match ob[q]? with
    | some (.box _ v _) => getK v p fun u => cond (loadOk P t u) (K u ob) none
    | some (.row _ e xs _) => (match p with
      | .idx i s :: p => cond (Nat.beq s e.sz) ((xs[i]?).bind fun x => getK (.dat e x) p fun u => cond (loadOk P t u) (K u ob) none) none
      | _ => none)
    | _ => none)
  | .rdp e x => cond (loadOk P t (.dat e x)) (K (.dat e x) ob) none
  | _ => none
def storeA (P : Program) (t : TypeId) (x v : AV) (ob : List AO) (K : KV R) : Option R :=
  match x with
  | .ptr q p => (match ob[q]? with
    | some (.box ty u true) => cond (szOk P t v.sz && v.plain) (setK u p v fun u => K .undef (ob.set q (.box ty u true))) none
    | some (.row e t' xs .own) => (match p with
      | .idx i s :: p => cond (Nat.beq s t'.sz && !v.ids.contains q) ((xs[i]?).bind fun x => match frzP v ob with
        | (v, ob) => cond (szOk P t v.sz && v.plain) (setK (.dat t' x) p v fun y => match dec t' y with
          | some z => K .undef (ob.set q (.row e t' (xs.set i z) .own))
          | none => none) none) none
      | _ => none)
    | _ => none)
  | _ => none
def convA (P : Program) (src dst : TypeId) (x : AV) (ob : List AO) (K : KV R) : Option R :=
  match P.underlying src, P.underlying dst, x with
  | some (.pointer t), some .unsafePointer, .ptr i [] => (match ob[i]?, P.info? t with
    | some (.box _ v _), some j => cond (!Nat.beq j.size 0 && Nat.blt 0 v.sz) (K (.ptr i []) ob) none
    | _, _ => none)
  | some .unsafePointer, some (.pointer u), .ptr i [] => (match ob[i]? with
    | some (.box ty v _) => cond ((P.info? u).isSome && liesAt P P.depth ty (v.sz / P.cellsOf ty) 0 u 1) (K (.ptr i []) ob) none
    | _ => none)
  | some _, some (.int k), .dat (.int _) i => K (.dat (.int k) (k.wrap i)) ob
  | some _, some .string, .dat .str s => K (.dat .str s) ob
  | some .string, some (.slice e), .dat .str s => (match P.underlying e with
    | some (.int .u8) => ck (s.size ≤ limit) (K (.view ob.length) (ob ++ [.row e (.int .u8) (bytesOf s) .fz]))
    | _ => none)
  | some (.slice e), some .string, x => (match P.underlying e with
    | some (.int .u8) => (match sdatY ob (.int .u8) x with | some xs => K (.dat .str (strOf xs)) ob | none => none)
    | _ => none)
  | some (.slice e), some (.slice _), .view i => (match P.underlying e, ob[i]? with
    | some (.int .u8), some (.row e' (.int .u8) (x :: xs) .own) => cond (Nat.beq src dst && Nat.beq e' e) (K (.view i) (ob.set i (.row e' (.int .u8) (x :: xs) .fz))) none
    | _, _ => none)
  | _, _, _ => none
def partsA (s : Slots) : List (Nat × Operand) → Option (List (Nat × AV))
  | [] => some []
  | (i, x) :: r => (match ev s x with | some v => (match partsA s r with | some l => some ((i, v) :: l) | none => none) | none => none)
/-- a literal of a struct, of an array: zero, and its parts, one by one -/
def buildF (P : Program) (t : TypeId) (fs : List Field) (ps : List (Nat × AV)) (z : AV) (K : AV → Option R) : Option R :=
  match ps with
  | [] => K z
  | (i, v) :: r => (match fs[i]?, fldsteps P t i with
    | some f, some st => cond (Nat.beq (offs st) f.offset && szOk P f.type v.sz && v.plain) (setK z st v fun z => buildF P t fs r z K) none
    | _, _ => none)
def buildE (P : Program) (e : TypeId) (s : Nat) (ps : List (Nat × AV)) (z : AV) (K : AV → Option R) : Option R :=
  match ps with
  | [] => K z
  | (i, v) :: r => cond (Nat.beq v.sz s && v.plain) (setK z [.idx i s] v fun z => buildE P e s r z K) none
def buildA (P : Program) (t : TypeId) (ps : List (Nat × AV)) (ob : List AO) (K : KV R) : Option R :=
  zerK P t fun z => match P.underlying t with
  | some (.struct fs) => cond (fs.toList.all fun f => (P.info? f.type).isSome) (buildF P t fs.toList ps z fun v => cond v.isAgg (K v ob) none) none
  | some (.array _ e) => (match P.info? e with | some i => buildE P e i.size ps z fun v => cond v.isAgg (K v ob) none | none => none)
  | _ => none
def decs (t : T) : List AV → Option (List t.den)
  | [] => some []
  | v :: r => (match dec t v with | some x => (match decs t r with | some l => some (x :: l) | none => none) | none => none)
def frzL : List AV → List AO → List AV × List AO
  | [], ob => ([], ob)
  | v :: r, ob => match frzP v ob with | (v, ob) => match frzL r ob with | (r, ob) => (v :: r, ob)
def inRow : Nat → List (Nat × AV) → Bool
  | _, [] => true
  | i, (j, v) :: r => Nat.beq j i && v.plain && inRow (i + 1) r
def buildSliceA (P : Program) (t : TypeId) (n : Nat) (ps : List (Nat × AV)) (ob : List AO) (K : KV R) : Option R :=
  match elemOf P t with
  | some e => elU P e fun t => cond (Nat.beq n 0 && Nat.beq ps.length 0) (K (.cut t) ob) <| cond (Nat.beq ps.length n && inRow 0 ps && decide (n ≤ 16384)) (match frzL (ps.map (·.2)) ob with
      | (vs, ob) => (match decs t vs with | some xs => newRow e t xs ob K | none => none)) none
  | none => none
def makeA (P : Program) (t : TypeId) (n : Int) (ob : List AO) (K : KV R) : Option R :=
  match elemOf P t with
  | some e => elK P e fun t z => ck (0 ≤ n ∧ n.toNat * P.bytesOf e ≤ limit) (newRow e t (List.replicate n.toNat z) ob K)
  | none => none

/-- a thing as it is handed to one who may not write it -/
def AO.lent : AO → AO
  | .box ty v _ => .box ty v false
  | .row e t xs .own => .row e t xs .ro
  | .itr s p _ => .itr s p false
  | .map k v es _ => .map k v es false
  | o => o
/-- may it be written, or is it told as data? -/
def AO.sure : AO → Bool
  | .gone => true
  | .box _ _ w => w
  | .row _ _ _ .ro => false
  | .row _ _ _ _ => true
  | .itr _ _ w => w
  | .map _ _ _ w => w
def AO.mine : AO → Bool
  | .box _ _ w => w
  | .row _ _ _ .own => true
  | .itr _ _ w => w
  | .map _ _ _ w => w
  | _ => false
def backO (old new : AO) : AO := cond new.sure new (cond old.mine .gone old)
def newO (o : AO) : AO := cond o.sure o .gone
def newL : List AO → List AO
  | [] => []
  | o :: r => newO o :: newL r
def passObs (ob : List AO) (wr : List Nat) : List Nat → Nat → Option (List AO)
  | [], _ => some []
  | i :: r, j => (match ob[i]? with
    | some o => (match passObs ob wr r (j + 1) with
      | some l => some ((cond (wr.contains j) o o.lent) :: l)
      | none => none)
    | none => none)
/-- what came back lies where it lay -/
def backObs (wr : List Nat) : List Nat → Nat → List AO → List AO → List AO
  | [], _, new, ob => ob ++ newL new
  | i :: r, j, o :: new, ob => backObs wr r (j + 1) new (cond (wr.contains j) (match ob[i]? with | some old => ob.set i (backO old o) | none => ob) ob)
  | _ :: _, _, [], ob => ob
def callA (Γ : Sums) (f : FuncId) (args : List AV) (ob : List AO) (K : KV R) : Option R :=
  match reachA ob (AV.idsL args) with
  | L => cond (nodupB L) (match AV.renL (fun i => posn i L 0) args with
    | some args' => (match Γ.wr f args' with
      | wr => (match passObs ob wr L 0 with
        | some ob1 => (match renAll (fun i => posn i L 0) ob1 with
          | some ob2 => Γ.call f args' ob2 fun v ob3 => (match v.ren (fun j => match L[j]? with | some i => some i | none => some (ob.length + (j - L.length))) with
            | some v' => (match renAll (fun j => match L[j]? with | some i => some i | none => some (ob.length + (j - L.length))) ob3 with
              | some ob4 => K v' (backObs wr L 0 ob4 ob)
              | none => none)
            | none => none)
          | none => none)
        | none => none))
    | none => none) none

def primA (P : Program) : Prim → List AV → List AO → KV R → Option R
  | .clone e, [x], ob, K => (match tyT P 40 e with
    | some t => (match sdatY ob t x with
      | some ys => ck (ys.length * P.bytesOf e ≤ limit) (newRow e t ys ob K)
      | none => none)
    | none => none)
  | .same, [x], ob, K => K x ob
  | .text, [.ptr i []], ob, K => (match ob[i]? with
    | some (.box _ (.pr _ (.one b)) _) => textA b ob K
    | some (.box _ (.pr _ b) _) => textA b ob K
    | _ => none)
  | _, _, _, _ => none
where textA (b : AV) (ob : List AO) (K : KV R) : Option R :=
  match b with
  | .nils => K (.dat .str ⟨#[]⟩) ob
  | .view i => (match ob[i]? with
    | some (.row e (.int .u8) xs .own) => ck (∀ x ∈ xs, 0 ≤ x ∧ x < 256) (K (.dat .str (strOf xs)) (ob.set i (.row e (.int .u8) xs .fz)))
    | _ => none)
  | _ => none
/-- a map's types: its keys', its elements' -/
def mapTy (P : Program) (t : TypeId) : Option (TypeId × TypeId) := match P.underlying t with
  | some (.map k e) => some (k, e)
  | _ => none
def keyOk (P : Program) (k : TypeId) (t : T) : Bool := keyT t && eqTy P 30 k t
/-- the zero of a map's elements, as data -/
def zerM (P : Program) (e : TypeId) (t : T) : Option t.den := match zer P 40 e with
  | some v => (match dec t v, P.info? e with
    | some x, some i => (match i.zero with
      | some z => cond (zOk P e v && (match z with | .agg _ => t.aggB | _ => !t.aggB)) (some x) none
      | none => none)
    | _, _ => none)
  | none => none
def makeMapA (P : Program) (t : TypeId) (ob : List AO) (K : KV R) : Option R := match mapTy P t with
  | some (k, e) => (match tyT P 40 k, tyT P 40 e with
    | some kt, some vt => cond (keyOk P k kt) (K (.mp ob.length) (ob ++ [.map kt vt [] true])) none
    | _, _ => none)
  | none => none
/-- no interface's type -/
def notI : TypeDesc → Bool
  | .interface _ => false
  | _ => true
def okV (ok : Bool) (v : AV) (b : Bool) : AV := cond ok (.tup [v, .dat .bool b]) v
def lookupA (P : Program) (t : TypeId) (m k : AV) (ok : Bool) (ob : List AO) (K : KV R) : Option R := match mapTy P t with
  | some (kT, e) => (match m with
    | .mp i => (match ob[i]? with
      | some (.map kt vt es _) => cond (keyOk P kT kt) (match dec kt k, zerM P e vt with
        | some x, some z => K (okV ok (.dat vt (getM kt x z es)) (hasM kt x es)) ob
        | _, _ => none) none
      | _ => none)
    | .nilm => (match tyT P 40 kT, tyT P 40 e with
      | some kt, some vt => cond (keyOk P kT kt) (match dec kt k, zerM P e vt with
        | some _, some z => K (okV ok (.dat vt z) false) ob
        | _, _ => none) none
      | _, _ => none)
    | _ => none)
  | none => none
def mapSetA (P : Program) (t : TypeId) (m k v : AV) (ob : List AO) (K : KV R) : Option R := match mapTy P t, m with
  | some (kT, _), .mp i => (match ob[i]? with
    | some (.map kt vt es true) => cond (keyOk P kT kt && !v.ids.contains i && v.plain) (match dec kt k with
      | some x => (match frzP v ob with
        | (v, ob) => (match dec vt v with
          | some y => K .undef (ob.set i (.map kt vt (setM kt x y es) true))
          | none => none))
      | none => none) none
    | _ => none)
  | _, _ => none
def mapDelA (P : Program) (t : TypeId) (m k : AV) (ob : List AO) (K : KV R) : Option R := match mapTy P t with
  | some (kT, _) => (match m with
    | .mp i => (match ob[i]? with
      | some (.map kt vt es true) => cond (keyOk P kT kt) (match dec kt k with
        | some x => K (.tup []) (ob.set i (.map kt vt (delM kt x es) true))
        | none => none) none
      | _ => none)
    | _ => none)
  | none => none
def lenMA (x : AV) (ob : List AO) (K : KV R) : Option R := match x with
  | .nilm => K (.dat (.int .i64) 0) ob
  | .mp i => (match ob[i]? with | some (.map _ _ es _) => K (.dat (.int .i64) (es.length : Int)) ob | _ => none)
  | _ => none
def lenA (P : Program) (T' : TypeId) (x : AV) (ob : List AO) (K : KV R) : Option R :=
  match P.underlying T' with
  | some .string => (match x with
    | .dat .str s => K (.dat (.int .i64) (s.size : Int)) ob
    | _ => none)
  | some (.array n _) => cond x.plain (K (.dat (.int .i64) (n : Int)) ob) none
  | some (.slice _) => (match slen ob x with | some n => K (.dat (.int .i64) (n : Int)) ob | none => none)
  | some (.map _ _) => lenMA x ob K
  | _ => none
def builtinA (P : Program) (b : Builtin) (Ts : List TypeId) (xs : List AV) (ob : List AO) (K : KV R) : Option R :=
  match b, Ts, xs with
  | .len, [t], [x] => lenA P t x ob K
  | .cap, [t], [.nils] => (match elemOf P t with | some _ => K (.dat (.int .i64) 0) ob | none => none)
  | .min, _, [.dat (.int k) i, .dat (.int k') j] => if k = k' then K (.dat (.int k) (if j < i then j else i)) ob else none
  | .max, _, [.dat (.int k) i, .dat (.int k') j] => if k = k' then K (.dat (.int k) (if i < j then j else i)) ob else none
  | .delete, [t, _], [m, k] => mapDelA P t m k ob K
  | .append, [t, t2], [x, y] => (match elemOf P t with
    | some e => (match P.underlying t2, y with
      | some (.int _), .dat (.int _) n => appendZ P e x n ob K
      | some (.slice _), y => cond (Nat.beq t t2) (appendA P e x y ob K) none
      | _, _ => none)
    | none => none)
  | _, _, _ => none

/-- the steps lead to the field, and it has cells -/
def fldOk (P : Program) (S : TypeId) (i : Nat) (st : List Step) : Bool := match P.underlying S with
  | some (.struct fs) => (match fs[i]? with
    | some f => Nat.beq (offs st) f.offset && (match P.info? f.type with | some j => Nat.blt 0 j.size | none => false)
    | none => false)
  | _ => false
def fldTyp (P : Program) (S : TypeId) (i : Nat) : Option TypeId := match P.underlying S with
  | some (.struct fs) => (match fs[i]? with | some f => some f.type | none => none)
  | _ => none
def opA (P : Program) (Γ : Sums) (o : Oper) (s : Slots) (ob : List AO) (K : KV R) : Option R :=
  match o.op with
  | .move x => (match ev s x with | some v => K v ob | none => none)
  | .assign x => (match ev s x with | some v => K v ob | none => none)
  | .pick c a b => (match ev s c with
    | some (.dat .bool t) => cond t (match ev s a with | some v => K v ob | none => none) (match ev s b with | some v => K v ob | none => none)
    | _ => none)
  | .alloc t => zerK P t fun v => K (.ptr ob.length []) (ob ++ [.box t v true])
  | .box t x => (match ev s x with | some v => cond v.plain (K (.ptr ob.length []) (ob ++ [.box t v true])) none | none => none)
  | .build t ps => (match partsA s ps.toList with | some l => buildA P t l ob K | none => none)
  | .buildSlice t n ps => (match partsA s ps.toList with | some l => buildSliceA P t n l ob K | none => none)
  | .load t x => (match ev s x with | some v => loadA P t v ob K | none => none)
  | .store t x y => (match ev s x, ev s y with | some v, some u => storeA P t v u ob K | _, _ => none)
  | .nilCheck x => (match ev s x with
    | some (.ptr i p) => K (.ptr i p) ob
    | some (.rdp t x) => K (.rdp t x) ob
    | _ => none)
  | .binOp op T' x y _ => (match ev s x, ev s y with | some u, some v => cond (guardC u v y) (bin P T' op u v ob K) none | _, _ => none)
  | .unOp op _ x => (match ev s x with | some v => un op v ob K | none => none)
  | .convert a b x => (match ev s x with | some v => convA P a b v ob K | none => none)
  | .makeFunc (.func f) fs cs => (match evs s fs.toList, evs s cs.toList with | some l, some m => cond (l.all AV.plain && m.all AV.plain) (K (.fn f l m) ob) none | _, _ => none)
  | .makeSlice t n m => (match ev s n, ev s m with
    | some (.dat (.int _) i), some (.dat (.int _) j) => ck (i = j) (makeA P t i ob K)
    | _, _ => none)
  | .slice t x lo hi mx => (match ev s x, optI s lo, optI s hi, optI s mx with
    | some v, some l, some h, some m => sliceA P t v l h m ob K
    | _, _, _, _ => none)
  | .fieldAddr S x i => (match ev s x, fldsteps P S i with
    | some (.ptr q p), some st => cond (fldOk P S i st) (K (.ptr q (p ++ st)) ob) none
    | some (.rdp t x), some st => cond (fldOk P S i st) (match rdstep (.rdp t x) st with | some v => K v ob | none => none) none
    | _, _ => none)
  | .field S x i => (match ev s x, fldsteps P S i with
    | some v, some st => cond (fldOk P S i st && v.isAgg) (match fldTyp P S i with
      | some ft => getK v st fun u => cond (loadOk P ft u) (K u ob) none
      | none => none) none
    | _, _ => none)
  | .indexAddr t x i => (match ev s x, ev s i with
    | some v, some (.dat (.int _) j) => indexAddrA P t v j ob K
    | _, _ => none)
  | .index t x i => (match ev s x, ev s i with
    | some v, some (.dat (.int _) j) => indexA P t v j ob K
    | _, _ => none)
  | .range T' x => (match P.underlying T', ev s x with
    | some .string, some (.dat .str t) => K (.ptr ob.length []) (ob ++ [.itr t 0 true])
    | _, _ => none)
  | .next x true => (match ev s x with
    | some (.ptr q []) => (match ob[q]? with
      | some (.itr t p true) => cond (decide (p < t.size)) (K (.tup [.dat .bool true, .dat (.int .i64) p, .dat (.int .i32) (Utf8.decode t p).1]) (ob.set q (.itr t (p + (Utf8.decode t p).2) true))) (K (.tup [.dat .bool false]) ob)
      | _ => none)
    | _ => none)
  | .extract x i => (match ev s x with
    | some (.tup l) => (match l[i]? with | some v => K v ob | none => none)
    | _ => none)
  | .makeMap t none => makeMapA P t ob K
  | .makeMap t (some x) => (match ev s x with | some (.dat (.int _) _) => makeMapA P t ob K | _ => none)
  | .lookup t m k ok => (match ev s m, ev s k with | some m, some k => lookupA P t m k ok ob K | _, _ => none)
  | .mapUpdate t m k v => (match ev s m, ev s k, ev s v with | some m, some k, some v => mapSetA P t m k v ob K | _, _, _ => none)
  | .insert t m k v => (match ev s m, ev s k, ev s v with | some m, some k, some v => mapSetA P t m k v ob K | _, _, _ => none)
  | .makeInterface t x => (match ev s x, P.underlying t with
    | some v, some d => cond (v.plain && notI d) (K (.iface t v) ob) none
    | _, _ => none)
  | .typeAssert x _ t ok => (match ev s x, P.underlying t with
    | some (.iface u v), some d => cond (Nat.beq u t && notI d) (K (okV ok v true) ob) none
    | _, _ => none)
  | .call c => (match c.callee with
    | .value x => (match (ev s x).map fnV, evs s c.args.toList with
      | some (.fn f fs cs), some l => (match Γ.prim f with
        | some p => primA P p (fs ++ l ++ cs) ob K
        | none => callA Γ f (fs ++ l ++ cs) ob K)
      | _, _ => none)
    | .builtin b => (match evs s c.args.toList with
      | some l => builtinA P b c.argTypes.toList l ob K
      | none => none)
    | _ => none)
  | _ => none

/-- the names that an operation touches; and those that it may turn -/
def opnds (c : Op) : List Operand := c.operands.toList
def idsOf (s : Slots) : List Operand → List Nat
  | [] => []
  | x :: r => (match ev s x with | some v => v.ids | none => []) ++ idsOf s r
def storeIds (s : Slots) (ob : List AO) (x y : Operand) : List Nat :=
  match ev s x with
  | some (.ptr q _) => (match ob[q]? with
    | some (.row _ _ _ _) => idsOf s [x, y]
    | _ => [q])
  | _ => []
def touch (o : Oper) (s : Slots) (ob : List AO) : List Nat :=
  match o.op with
  | .call { callee := .value x, args := as, .. } => reachA ob (idsOf s (x :: as.toList))
  | .store _ x y => storeIds s ob x y
  | .move _ | .assign _ | .pick _ _ _ | .alloc _ | .box _ _ | .build _ _ | .nilCheck _ | .binOp _ _ _ _ _ | .unOp _ _ _ | .makeInterface _ _ | .makeFunc _ _ _ | .fieldAddr _ _ _ | .field _ _ _ | .extract _ _ => []
  | op => idsOf s (opnds op)
def wrs (Γ : Sums) (o : Oper) (s : Slots) (ob : List AO) : List Nat :=
  match o.op with
  | .call { callee := .value x, args := as, .. } => (match (ev s x).map fnV, evs s as.toList with
    | some (.fn f fs cs), some l => (match reachA ob (AV.idsL (fs ++ l ++ cs)) with
      | L => (match AV.renL (fun i => posn i L 0) (fs ++ l ++ cs) with
        | some a => (Γ.wr f a).filterMap (fun j => L[j]?)
        | none => []))
    | _, _ => [])
  | .call { callee := .builtin .append, args := as, .. } => (match as.toList with | x :: _ => idsOf s [x] | _ => [])
  | .call { callee := .builtin .delete, args := as, .. } => (match as.toList with | x :: _ => idsOf s [x] | _ => [])
  | .mapUpdate _ m _ v => idsOf s [m, v]
  | .insert _ m _ v => idsOf s [m, v]
  | .store _ x y => storeIds s ob x y
  | .buildSlice _ _ ps => idsOf s (ps.toList.map (·.2))
  | .convert _ _ x => idsOf s [x]
  | .next x _ => idsOf s [x]
  | _ => []
def maskO (ts ws : List Nat) : List AO → Nat → List AO
  | [], _ => []
  | o :: r, i => cond (ws.contains i) o (cond (ts.contains i) o.lent .gone) :: maskO ts ws r (i + 1)
def mergeO (ws : List Nat) : List AO → List AO → Nat → List AO
  | o :: r, n :: l, i => cond (ws.contains i) (newO n) o :: mergeO ws r l (i + 1)
  | [], l, _ => newL l
  | r, [], _ => r

/-- those that one may write -/
def mineL (ob : List AO) : List Nat → List Nat
  | [] => []
  | i :: r => match ob[i]? with | some o => cond o.mine (i :: mineL ob r) (mineL ob r) | none => mineL ob r

structure Log where
  i : Nat
  ts : List Nat
  ws : List Nat
  lo : Nat
  hi : Nat
  us : List Nat
def disj (a b : List Nat) : Bool := a.all fun i => !b.contains i
/-- none is new there -/
def outs (a : Log) (l : List Nat) : Bool := Nat.beq a.lo a.hi || l.all fun x => Nat.blt x a.lo || Nat.ble a.hi x
def bears (a b : Log) : Bool := disj a.ws b.ts && disj a.ws b.ws && outs a b.ts && outs a b.ws && outs a b.us
def apart (T : List (List Nat)) (a b : Log) : Bool := (T.getD a.i []).contains b.i || (T.getD b.i []).contains a.i || (bears a b && bears b a)
def noClash (T : List (List Nat)) : List Log → Bool
  | [] => true
  | a :: r => r.all (apart T a) && noClash T r

def putS (d : Option Tmp) (v : AV) (s : Slots) : Slots := match d with | some d => (d, v) :: s | none => s

/-- the slots that an operation reads -/
def rdT : List Operand → List Nat
  | [] => []
  | .tmp t :: r => t :: rdT r
  | _ :: r => rdT r
def guardT (all : List Oper) (o : Oper) : List Nat := match o.guard with
  | some (j, _) => (match all[j]? with | some oj => (match oj.dst with | some d => [d] | none => []) | none => [])
  | none => []
def reads (all : List Oper) (o : Oper) : List Nat := guardT all o ++ rdT (opnds o.op)
def pickR : List Nat → Slots → Slots
  | [], _ => []
  | t :: r, s => match lookA t s with | some v => (t, v) :: pickR r s | none => pickR r s
def dsts : List Oper → List Nat
  | [] => []
  | o :: r => match o.dst with | some d => d :: dsts r | none => dsts r
def whoSets (t : Nat) : List Oper → Nat → Option Nat
  | [], _ => none
  | o :: r, i => match o.dst with | some d => cond (Nat.beq d t) (some i) (whoSets t r (i + 1)) | none => whoSets t r (i + 1)
def rdOk (all : List Oper) (T : List (List Nat)) : List Oper → Nat → Bool
  | [], _ => true
  | o :: r, i => (reads all o).all (fun t => match whoSets t all 0 with | some k => (T.getD i []).contains k || (T.getD k []).contains i || Nat.beq k i | none => true) && rdOk all T r (i + 1)
/-- the order may be drawn: what is read was set ahead -/
def regOk (all : List Oper) : Bool := okR all all.length && nodupB (dsts all) && rdOk all (reachT all []) all 0
/-- the names in what was written, in what is new -/
def idsM (ws : List Nat) (n : Nat) : List AO → Nat → List Nat
  | [], _ => []
  | o :: r, i => cond (ws.contains i || Nat.ble n i) (o.ids ++ idsM ws n r (i + 1)) (idsM ws n r (i + 1))

/-- the operations of a region, one by one as they stand -/
def opsA (P : Program) (Γ : Sums) (all : List Oper) (dr : Bool) : List Oper → Nat → St → List Log → (St → List Log → Option R) → Option R
  | [], _, s, l, K => K s l
  | o :: r, i, s, l, K =>
    let go : Slots → Option R := fun sl =>
      cond dr
        (match touch o sl s.ob, mineL s.ob (wrs Γ o sl s.ob) with
          | ts, ws => opA P Γ o (pickR (reads all o) sl) (maskO ts ws s.ob 0) fun v ob => (match v.ids ++ idsM ws s.ob.length ob 0 with
              | us => cond (Nat.ble s.ob.length ob.length && us.all fun x => Nat.blt x ob.length) (opsA P Γ all dr r (i + 1) ⟨putS o.dst v sl, mergeO ws s.ob ob 0⟩ (⟨i, ts, ws, s.ob.length, ob.length, us⟩ :: l) K) none))
        (opA P Γ o sl s.ob fun v ob => opsA P Γ all dr r (i + 1) ⟨putS o.dst v sl, ob⟩ l K)
    let no : Slots → Option R := fun sl => opsA P Γ all dr r (i + 1) ⟨putS o.dst .undef sl, s.ob⟩ l K
    match o.guard with
    | none => go s.sl
    | some (j, want) => (match all[j]? with
      | some oj => (match oj.dst with
        | some d => (match lookA d s.sl with
          | some .undef => no s.sl
          | some (.dat .bool b) => cond b (cond want (go ((d, .dat .bool true) :: s.sl)) (no ((d, .dat .bool true) :: s.sl))) (cond want (no ((d, .dat .bool false) :: s.sl)) (go ((d, .dat .bool false) :: s.sl)))
          | _ => none)
        | none => none)
      | none => none)

/-- all that is set is among so many slots -/
def dstC (n : Nat) : Code → Bool
  | .seq a b => dstC n a && dstC n b
  | .cond _ a b => dstC n a && dstC n b
  | .block _ a => dstC n a
  | .loop a => dstC n a
  | .scope a => dstC n a
  | .region _ ops _ => ops.toList.all fun o => match o.dst with | some d => Nat.blt d n | none => true
  | _ => true
def nl : Code → Nat
  | .seq a b => nl a + nl b
  | .cond _ a b => nl a + nl b
  | .block _ a => nl a
  | .loop a => nl a + 1
  | .scope a => nl a + 1
  | _ => 0

def runA (P : Program) (Γ : Sums) (Λ : Nat → St → (Exit → St → Option R) → Option R) : Nat → Code → St → (Exit → St → Option R) → Option R
  | _, .skip, s, K => K .normal s
  | _, .label _, s, K => K .normal s
  | _, .exit i, s, K => K (.exit i) s
  | _, .goto l, s, K => K (.goto l) s
  | _, .ret, s, K => K .ret s
  | n, .seq x y, s, K => runA P Γ Λ n x s fun e s => match e with
    | .normal => runA P Γ Λ (n + nl x) y s K
    | e => K e s
  | n, .cond c x y, s, K => (match c with
    | .tmp t => (match lookA t s.sl with
      | some (.dat .bool b) => cond b (runA P Γ Λ n x ⟨(t, .dat .bool true) :: s.sl, s.ob⟩ K) (runA P Γ Λ (n + nl x) y ⟨(t, .dat .bool false) :: s.sl, s.ob⟩ K)
      | _ => none)
    | c => (match ev s.sl c with
      | some (.dat .bool b) => cond b (runA P Γ Λ n x s K) (runA P Γ Λ (n + nl x) y s K)
      | _ => none))
  | n, .block i c, s, K => runA P Γ Λ n c s fun e s => match e with
    | .exit j => cond (Nat.beq j i) (K .normal s) (K (.exit j) s)
    | e => K e s
  | n, .loop _, s, K => Λ n s K
  | n, .scope _, s, K => Λ n s K
  | _, .region _ ops dr, s, K => opsA P Γ ops.toList dr ops.toList 0 s [] fun s l => cond (!dr || (regOk ops.toList && noClash (reachT ops.toList []) l)) (K .normal s) none
  | _, _, _, _ => none

/-! ### a state told anew: some slots, what they reach -/
def pickS : List Nat → Slots → Option Slots
  | [], _ => some []
  | t :: r, s => (match lookA t s with | some v => (match pickS r s with | some l => some ((t, v) :: l) | none => none) | none => none)
def renS (f : Nat → Option Nat) : Slots → Option Slots
  | [] => some []
  | (t, v) :: r => (match v.ren f with | some v => (match renS f r with | some l => some ((t, v) :: l) | none => none) | none => none)
def idsS : Slots → List Nat
  | [] => []
  | (_, v) :: r => v.ids ++ idsS r
def idsOb : List AO → List Nat
  | [] => []
  | o :: r => o.ids ++ idsOb r
/-- from the m first things on (those that were handed in), and the slots -/
def tellA (m : Nat) (live : List Nat) (s : St) (K : St → Option R) : Option R :=
  match pickS live s.sl with
  | some sl => (match visit s.ob (4 * s.ob.length + 4 * (idsS sl).length + 16) (idsOb (s.ob.take m) ++ idsS sl) (List.range m) with
    | L => cond (nodupB L) (match renS (fun i => posn i L 0) sl, objs s.ob L with
      | some sl', some ob => (match renAll (fun i => posn i L 0) ob with | some ob' => K ⟨sl', ob'⟩ | none => none)
      | _, _ => none) none)
  | none => none

def loopA (m : Nat) (live : List Nat) (body : St → (Exit → St → Option R) → Option R) : Nat → St → (Exit → St → Option R) → Option R
  | 0, _, _ => none
  | k + 1, s, K => tellA m live s fun s => body s fun e s => match e with
    | .normal => loopA m live body k s K
    | e => K e s

/-! ### a function -/
def resA (P : Program) (s : St) : List ResultVar → (List AV → Option R) → Option R
  | [], K => K []
  | .tmp t :: r, K => (match lookA t s.sl with | some v => resA P s r fun l => K (v :: l) | none => none)
  | .cell p t :: r, K => (match lookA p s.sl with
    | some (.ptr q []) => (match s.ob[q]? with
      | some (.box _ v _) => cond (loadOk P t v) (resA P s r fun l => K (v :: l)) none
      | _ => none)
    | _ => none)
def one1 : List AV → AV
  | [v] => v
  | l => .tup l
def zipS : Nat → List AV → Slots
  | _, [] => []
  | i, v :: r => (i, v) :: zipS (i + 1) r
def resOk : List AV → Bool
  | [_] => true
  | l => l.all AV.plain
def retA (P : Program) (fn : Func) (m : Nat) (s : St) (K : KV R) : Option R :=
  resA P s fn.results.toList fun l => cond (resOk l) (tellA m [0] ⟨[(0, one1 l)], s.ob⟩ fun s => match s.sl with | [(t, v)] => cond (Nat.beq t 0) (K v s.ob) none | _ => none) none
def funA (P : Program) (Γ : Sums) (Λ : Nat → St → (Exit → St → Option R) → Option R) (fn : Func) (args : List AV) (ob : List AO) (K : KV R) : Option R :=
  match fn.body with
  | some c => cond (Nat.ble args.length fn.ntmps && dstC fn.ntmps c) (runA P Γ Λ 0 c ⟨zipS 0 args, ob⟩ fun e s => match e with
    | .ret => retA P fn ob.length s K
    | .normal => (match fn.results.toList with | [] => retA P fn ob.length s K | _ => none)
    | _ => none) none
  | none => none
end
end Go.Mx

/- The abstract machine, closed: calls and loops by their own code. -/
namespace Go.Mx
open Go Go.RowKit Go.Sx
variable [Glb]
set_option linter.unusedSectionVars false

/-- the loops and scopes of a code, in the order of runA's numbers -/
def loopAt : Code → Nat → Option Code
  | .seq a b, n => cond (Nat.blt n (nl a)) (loopAt a n) (loopAt b (n - nl a))
  | .cond _ a b, n => cond (Nat.blt n (nl a)) (loopAt a n) (loopAt b (n - nl a))
  | .block _ a, n => loopAt a n
  | .loop a, 0 => some (.loop a)
  | .loop a, n + 1 => loopAt a n
  | .scope a, 0 => some (.scope a)
  | .scope a, n + 1 => loopAt a n
  | _, _ => none
/-- where a label is: what stands behind it -/
def keysS : Slots → List Nat → List Nat
  | [], l => l
  | (t, _) :: r, l => keysS r (cond (l.contains t) l (t :: l))
variable {R : Type}
/-- the slots that are told at a loop (2 n), at a label (2 l + 1) -/
def liveA (lv : Nat → Option (List Nat)) (q : Nat) (s : St) : List Nat := match lv q with | some l => l | none => keysS s.sl []
def scopeA (m : Nat) (lv : Nat → Option (List Nat)) (find : Nat → Option (Nat × Code)) (run : Nat → Code → St → (Exit → St → Option R) → Option R) : Nat → Nat → Code → St → (Exit → St → Option R) → Option R
  | 0, _, _, _, _ => none
  | k + 1, n, c, s, K => run n c s fun e s => match e with
    | .goto l => (match find l with
      | some (n, c) => tellA m (liveA lv (2 * l + 1) s) s fun s => scopeA m lv find run k n c s K
      | none => K (.goto l) s)
    | e => K e s
/-- the code behind a label, and the number of its first loop -/
def behind (l : Nat) : Code → Nat → Option (Nat × Code)
  | .label q, n => cond (Nat.beq q l) (some (n, .skip)) none
  | .seq a b, n => (match behind l a n with
    | some (m, c) => some (m, .seq c b)
    | none => behind l b (n + nl a))
  | _, _ => none
/-- everything by its own code: so deep, so many rounds -/
def lamA (P : Program) (Γ : Sums) (lv : Nat → Option (List Nat)) (k m : Nat) (c : Code) : Nat → Nat → St → (Exit → St → Option R) → Option R
  | 0, _, _, _ => none
  | d + 1, n, s, K => (match loopAt c n with
    | some (.loop b) => loopA m (liveA lv (2 * n) s) (runA P Γ (fun q s K => lamA P Γ lv k m c d q s K) (n + 1) b) k s K
    | some (.scope b) => scopeA m lv (fun l => behind l b (n + 1)) (runA P Γ (fun q s K => lamA P Γ lv k m c d q s K)) k (n + 1) b s K
    | _ => none)
def wideA (P : Program) (F : FuncId → Option Prim) (W : FuncId → List Nat) (k : Nat) : Nat → Sums
  | 0 => ⟨F, fun _ _ _ _ => none, fun f _ => W f⟩
  | d + 1 => ⟨F, fun f args ob K => match P.funcs[f]? with
      | some fn => (match fn.body with
        | some c => funA P (wideA P F W k d) (lamA P (wideA P F W k d) (fun _ => none) k ob.length c 20) fn args ob K
        | none => none)
      | none => none, fun f _ => W f⟩
end Go.Mx

/- The machine's steps are told by what they hand on: a step behind them may be drawn into them. -/
namespace Go.Mx
open Go Go.RowKit Go.Sx
variable [Glb]
set_option linter.unusedSectionVars false
section
variable {R S : Type} (f : R → Option S)
theorem bd_cond (b : Bool) (x y : Option R) : (cond b x y).bind f = cond b (x.bind f) (y.bind f) := by cases b <;> rfl
theorem bd_ck {p : Prop} [Decidable p] (x : Option R) : (ck p x).bind f = ck p (x.bind f) := by
  by_cases h : p
  · rw [ck_pos h, ck_pos h]
  · unfold ck; rw [if_neg h, if_neg h]; rfl
theorem bd_none : (none : Option R).bind f = none := rfl
theorem bd_bind {A : Type} (x : Option A) (g : A → Option R) : (x.bind g).bind f = x.bind fun a => (g a).bind f := by cases x <;> rfl
theorem bd_get (v : AV) (p : List Step) (K : AV → Option R) : (getK v p K).bind f = getK v p (fun u => (K u).bind f) := by
  induction v, p, K using getK.induct <;> simp only [getK, bd_bind, bd_none, *, cond_true, cond_false]
theorem bd_set (v : AV) (p : List Step) (u : AV) (K : AV → Option R) : (setK v p u K).bind f = setK v p u (fun u => (K u).bind f) := by
  induction v, p, u, K using setK.induct <;> simp only [setK, bd_bind, bd_none, *, cond_true, cond_false]
  · congr 1; funext x; congr 1; funext y; split <;> rfl
theorem bd_zer (P : Program) (t : TypeId) (K : AV → Option R) : (zerK P t K).bind f = zerK P t (fun u => (K u).bind f) := by
  unfold zerK; split
  · exact bd_cond ..
  · rfl
theorem bd_el (P : Program) (e : TypeId) (K : (t : T) → t.den → Option R) : (elK P e K).bind f = elK P e (fun t z => (K t z).bind f) := by
  unfold elK; split
  · split
    · exact bd_cond ..
    · rfl
  · rfl
theorem bd_elU (P : Program) (e : TypeId) (K : (t : T) → Option R) : (elU P e K).bind f = elU P e (fun t => (K t).bind f) := by
  unfold elU; split
  · exact bd_cond ..
  · rfl
theorem bd_new (e : TypeId) (t : T) (xs : List t.den) (ob : List AO) (K : KV R) : (newRow e t xs ob K).bind f = newRow e t xs ob (fun v o => (K v o).bind f) := rfl
theorem bd_arith (op : BinOp) (k : IntKind) (i j : Int) (ob : List AO) (K : KV R) : (arith op k i j ob K).bind f = arith op k i j ob (fun v o => (K v o).bind f) := by
  cases op <;> first | rfl | exact bd_ck ..
theorem bd_bin (P : Program) (T' : TypeId) (op : BinOp) (x y : AV) (ob : List AO) (K : KV R) : (bin P T' op x y ob K).bind f = bin P T' op x y ob (fun v o => (K v o).bind f) := by
  unfold bin
  repeat' (first | rfl | split | exact bd_ck .. | exact bd_arith .. | (rw [bd_cond]; try (congr 1)))
theorem bd_un (op : UnOp) (x : AV) (ob : List AO) (K : KV R) : (un op x ob K).bind f = un op x ob (fun v o => (K v o).bind f) := by
  unfold un; split <;> rfl
theorem bd_append (P : Program) (e : TypeId) (x y : AV) (ob : List AO) (K : KV R) : (appendA P e x y ob K).bind f = appendA P e x y ob (fun v o => (K v o).bind f) := by
  unfold appendA
  rw [bd_el]; congr 1; funext t z
  repeat' (first | rfl | split | exact bd_ck .. | (rw [bd_cond]; try (congr 1)))
theorem bd_appz (P : Program) (e : TypeId) (x : AV) (n : Int) (ob : List AO) (K : KV R) : (appendZ P e x n ob K).bind f = appendZ P e x n ob (fun v o => (K v o).bind f) := by
  unfold appendZ
  rw [bd_el]; congr 1; funext t z
  repeat' (first | rfl | split | exact bd_ck .. | (rw [bd_cond]; try (congr 1)))
theorem bd_slB (lo hi mx : Option Int) (n : Nat) (K : Nat → Nat → Option R) : (sliceB lo hi mx n K).bind f = sliceB lo hi mx n (fun a b => (K a b).bind f) := by
  unfold sliceB; split <;> first | rfl | exact bd_ck ..
theorem bd_slice (P : Program) (T' : TypeId) (x : AV) (lo hi mx : Option Int) (ob : List AO) (K : KV R) : (sliceA P T' x lo hi mx ob K).bind f = sliceA P T' x lo hi mx ob (fun v o => (K v o).bind f) := by
  unfold sliceA
  repeat' (first | rfl | split | exact bd_ck .. | (rw [bd_cond]; try (congr 1)) | (rw [bd_slB]; try (congr 1; funext a b)))
theorem bd_ixa (P : Program) (T' : TypeId) (x : AV) (i : Int) (ob : List AO) (K : KV R) : (indexAddrA P T' x i ob K).bind f = indexAddrA P T' x i ob (fun v o => (K v o).bind f) := by
  unfold indexAddrA
  repeat' (first | rfl | split | (rw [bd_ck]; try (congr 1)) | (rw [bd_cond]; try (congr 1)) | (rw [bd_bind]; try (congr 1; funext x)))
theorem bd_ix (P : Program) (T' : TypeId) (x : AV) (i : Int) (ob : List AO) (K : KV R) : (indexA P T' x i ob K).bind f = indexA P T' x i ob (fun v o => (K v o).bind f) := by
  unfold indexA
  repeat' (first | rfl | split | (rw [bd_ck]; try (congr 1)) | (rw [bd_cond]; try (congr 1)) | (rw [bd_bind]; try (congr 1; funext x)))
theorem bd_load (P : Program) (t : TypeId) (x : AV) (ob : List AO) (K : KV R) : (loadA P t x ob K).bind f = loadA P t x ob (fun v o => (K v o).bind f) := by
  unfold loadA
  repeat' (first | rfl | split | (rw [bd_ck]; try (congr 1)) | (rw [bd_cond]; try (congr 1)) | (rw [bd_bind]; try (congr 1; funext x)) | (rw [bd_get]; try (congr 1; funext u)))
theorem bd_store (P : Program) (t : TypeId) (x v : AV) (ob : List AO) (K : KV R) : (storeA P t x v ob K).bind f = storeA P t x v ob (fun v o => (K v o).bind f) := by
  unfold storeA
  repeat' (first | rfl | split | (rw [bd_cond]; try (congr 1)) | (rw [bd_bind]; try (congr 1; funext x)) | (rw [bd_set]; try (congr 1; funext u)))
theorem bd_conv (P : Program) (a b : TypeId) (x : AV) (ob : List AO) (K : KV R) : (convA P a b x ob K).bind f = convA P a b x ob (fun v o => (K v o).bind f) := by
  unfold convA
  repeat' (first | rfl | split | (rw [bd_cond]; try (congr 1)) | (rw [bd_ck]; try (congr 1)))
theorem bd_buildF (P : Program) (t : TypeId) (fs : List Field) : ∀ (ps : List (Nat × AV)) (z : AV) (K : AV → Option R), (buildF P t fs ps z K).bind f = buildF P t fs ps z (fun v => (K v).bind f)
  | [], _, _ => rfl
  | (i, v) :: r, z, K => by
    unfold buildF
    repeat' (first | rfl | split | (rw [bd_cond]; try (congr 1)) | (rw [bd_set]; try (congr 1; funext u)) | exact bd_buildF P t fs r _ K)
theorem bd_buildE (P : Program) (e : TypeId) (s : Nat) : ∀ (ps : List (Nat × AV)) (z : AV) (K : AV → Option R), (buildE P e s ps z K).bind f = buildE P e s ps z (fun v => (K v).bind f)
  | [], _, _ => rfl
  | (i, v) :: r, z, K => by
    unfold buildE
    repeat' (first | rfl | split | (rw [bd_cond]; try (congr 1)) | (rw [bd_set]; try (congr 1; funext u)) | exact bd_buildE P e s r _ K)
theorem bd_build (P : Program) (t : TypeId) (ps : List (Nat × AV)) (ob : List AO) (K : KV R) : (buildA P t ps ob K).bind f = buildA P t ps ob (fun v o => (K v o).bind f) := by
  unfold buildA
  rw [bd_zer]; congr 1; funext z
  repeat' (first | rfl | split | (rw [bd_cond]; try (congr 1)) | (rw [bd_buildF]; try (congr 1; funext u)) | (rw [bd_buildE]; try (congr 1; funext u)))
theorem bd_bslice (P : Program) (t : TypeId) (n : Nat) (ps : List (Nat × AV)) (ob : List AO) (K : KV R) : (buildSliceA P t n ps ob K).bind f = buildSliceA P t n ps ob (fun v o => (K v o).bind f) := by
  unfold buildSliceA
  repeat' (first | rfl | split | (rw [bd_cond]; try (congr 1)) | (rw [bd_elU]; try (congr 1; funext t)))
theorem bd_make (P : Program) (t : TypeId) (n : Int) (ob : List AO) (K : KV R) : (makeA P t n ob K).bind f = makeA P t n ob (fun v o => (K v o).bind f) := by
  unfold makeA
  repeat' (first | rfl | split | (rw [bd_ck]; try (congr 1)) | (rw [bd_el]; try (congr 1; funext t z)))
theorem bd_prim (P : Program) (p : Prim) (as : List AV) (ob : List AO) (K : KV R) : (primA P p as ob K).bind f = primA P p as ob (fun v o => (K v o).bind f) := by
  unfold primA primA.textA
  repeat' (first | rfl | split | (rw [bd_ck]; try (congr 1)) )
theorem bd_mkmap (P : Program) (t : TypeId) (ob : List AO) (K : KV R) : (makeMapA P t ob K).bind f = makeMapA P t ob (fun v o => (K v o).bind f) := by
  unfold makeMapA
  repeat' (first | rfl | split | (rw [bd_cond]; try (congr 1)))
theorem bd_lookup (P : Program) (t : TypeId) (m k : AV) (ok : Bool) (ob : List AO) (K : KV R) : (lookupA P t m k ok ob K).bind f = lookupA P t m k ok ob (fun v o => (K v o).bind f) := by
  unfold lookupA
  repeat' (first | rfl | split | (rw [bd_cond]; try (congr 1)))
theorem bd_mapset (P : Program) (t : TypeId) (m k v : AV) (ob : List AO) (K : KV R) : (mapSetA P t m k v ob K).bind f = mapSetA P t m k v ob (fun v o => (K v o).bind f) := by
  unfold mapSetA
  repeat' (first | rfl | split | (rw [bd_cond]; try (congr 1)))
theorem bd_mapdel (P : Program) (t : TypeId) (m k : AV) (ob : List AO) (K : KV R) : (mapDelA P t m k ob K).bind f = mapDelA P t m k ob (fun v o => (K v o).bind f) := by
  unfold mapDelA
  repeat' (first | rfl | split | (rw [bd_cond]; try (congr 1)))
theorem bd_lenM (x : AV) (ob : List AO) (K : KV R) : (lenMA x ob K).bind f = lenMA x ob (fun v o => (K v o).bind f) := by
  unfold lenMA
  repeat' (first | rfl | split)
theorem bd_len (P : Program) (t : TypeId) (x : AV) (ob : List AO) (K : KV R) : (lenA P t x ob K).bind f = lenA P t x ob (fun v o => (K v o).bind f) := by
  unfold lenA
  repeat' (first | rfl | exact bd_lenM .. | split | (rw [bd_cond]; try (congr 1)) )
theorem bd_builtin (P : Program) (b : Builtin) (Ts : List TypeId) (as : List AV) (ob : List AO) (K : KV R) : (builtinA P b Ts as ob K).bind f = builtinA P b Ts as ob (fun v o => (K v o).bind f) := by
  unfold builtinA
  repeat' (first | rfl | exact bd_mapdel .. | split | exact bd_len .. | exact bd_append .. | exact bd_appz .. | (rw [bd_cond]; try (congr 1)) )
end
/-- A sum's calls hand on what they come to, and nothing else. -/
def SumsNat (Γ : Sums) : Prop := ∀ {R S : Type} (f : R → Option S) (g : FuncId) (as : List AV) (ob : List AO) (K : KV R), (Γ.call g as ob K).bind f = Γ.call g as ob (fun v o => (K v o).bind f)
section
variable {R S : Type} (f : R → Option S)
theorem bd_call {Γ : Sums} (hΓ : SumsNat Γ) (g : FuncId) (as : List AV) (ob : List AO) (K : KV R) : (callA Γ g as ob K).bind f = callA Γ g as ob (fun v o => (K v o).bind f) := by
  unfold callA
  repeat' (first | rfl | split | (rw [bd_cond]; try (congr 1)) | (rw [hΓ]; try (congr 1; funext v o)) | dsimp only)
theorem bd_op (P : Program) {Γ : Sums} (hΓ : SumsNat Γ) (o : Oper) (s : Slots) (ob : List AO) (K : KV R) : (opA P Γ o s ob K).bind f = opA P Γ o s ob (fun v o => (K v o).bind f) := by
  unfold opA
  repeat' (first | rfl | exact bd_mkmap .. | exact bd_lookup .. | exact bd_mapset .. | split | (rw [bd_cond]; try (congr 1)) | (rw [bd_zer]; try (congr 1; funext v)) | exact bd_build .. | exact bd_bslice .. | exact bd_load .. | exact bd_store .. | exact bd_bin .. | exact bd_un .. | exact bd_conv .. | (rw [bd_ck]; try (congr 1)) | exact bd_make .. | exact bd_slice .. | exact bd_ixa .. | exact bd_ix .. | (rw [bd_get]; try (congr 1; funext v)) | exact bd_prim .. | exact bd_call f hΓ .. | exact bd_builtin ..)
theorem bd_pair (P : Program) {Γ : Sums} (hΓ : SumsNat Γ) {o : Oper} {s : Slots} {ob : List AO} {K : KV R} {r : R} (h : opA P Γ o s ob K = some r) : ∃ v X, opA (R := AV × List AO) P Γ o s ob (fun v ob => some (v, ob)) = some (v, X) ∧ K v X = some r := by
  have e := bd_op (fun p : AV × List AO => K p.1 p.2) P hΓ o s ob (fun v ob => some (v, ob))
  rw [show (fun v o => ((fun v ob => some (v, ob)) v o : Option (AV × List AO)).bind fun p => K p.1 p.2) = K from rfl, h] at e
  obtain ⟨⟨v, X⟩, h1, h2⟩ := Option.bind_eq_some_iff.1 e
  exact ⟨v, X, h1, h2⟩
theorem bd_ops (P : Program) {Γ : Sums} (hΓ : SumsNat Γ) (all : List Oper) (dr : Bool) : ∀ (os : List Oper) (i : Nat) (s : St) (l : List Log) (K : St → List Log → Option R), (opsA P Γ all dr os i s l K).bind f = opsA P Γ all dr os i s l (fun s l => (K s l).bind f)
  | [], _, _, _, _ => rfl
  | o :: os, i, s, l, K => by
    unfold opsA
    repeat' (first | rfl | split | (rw [bd_cond]; try (congr 1)) | (rw [bd_op _ P hΓ]; try (congr 1; funext v o)) | exact bd_ops P hΓ all dr os _ _ _ K | dsimp only)
/-- What stands for loops and scopes hands on what it comes to. -/
def LamNat (Λ : {R : Type} → Nat → St → (Exit → St → Option R) → Option R) : Prop := ∀ {R S : Type} (f : R → Option S) (n : Nat) (s : St) (K : Exit → St → Option R), (Λ n s K).bind f = Λ n s (fun e s => (K e s).bind f)
theorem bd_run (P : Program) {Γ : Sums} (hΓ : SumsNat Γ) {Λ : {R : Type} → Nat → St → (Exit → St → Option R) → Option R} (hΛ : LamNat Λ) : ∀ (c : Code) (n : Nat) (s : St) (K : Exit → St → Option R), (runA P Γ Λ n c s K).bind f = runA P Γ Λ n c s (fun e s => (K e s).bind f) := by
  intro c
  induction c with
  | skip => intro n s K; rfl
  | label l => intro n s K; rfl
  | exit i => intro n s K; rfl
  | goto l => intro n s K; rfl
  | ret => intro n s K; rfl
  | seq x y hx hy => intro n s K; unfold runA; rw [hx]; congr 1; funext e s; cases e <;> first | rfl | exact hy _ _ _
  | cond c x y hx hy =>
    intro n s K
    unfold runA
    repeat' (first | rfl | split | (rw [bd_cond, hx, hy]; done) | dsimp only)
  | block i c h => intro n s K; unfold runA; rw [h]; congr 1; funext e s; cases e <;> first | rfl | exact bd_cond ..
  | loop c h => intro n s K; exact hΛ f n s K
  | scope c h => intro n s K; exact hΛ f n s K
  | region id ops dr => intro n s K; unfold runA; rw [bd_ops f P hΓ]; congr 1; funext s l; exact bd_cond ..
  | _ => intros; rfl
theorem bd_tell (m : Nat) (live : List Nat) (s : St) (K : St → Option R) : (tellA m live s K).bind f = tellA m live s (fun s => (K s).bind f) := by
  unfold tellA
  repeat' (first | rfl | split | (rw [bd_cond]; try (congr 1)) | dsimp only)
theorem bd_loop (m : Nat) (live : List Nat) {body : {R : Type} → St → (Exit → St → Option R) → Option R} (hb : ∀ {R S : Type} (f : R → Option S) (s : St) (K : Exit → St → Option R), (body s K).bind f = body s (fun e s => (K e s).bind f)) : ∀ (k : Nat) (s : St) (K : Exit → St → Option R), (loopA m live body k s K).bind f = loopA m live body k s (fun e s => (K e s).bind f)
  | 0, _, _ => rfl
  | k + 1, s, K => by
    unfold loopA
    rw [bd_tell]; congr 1; funext s
    rw [hb]; congr 1; funext e s
    cases e <;> first | rfl | exact bd_loop m live hb k s K
theorem bd_scope (m : Nat) (lv : Nat → Option (List Nat)) (find : Nat → Option (Nat × Code)) {run : {R : Type} → Nat → Code → St → (Exit → St → Option R) → Option R} (hr : ∀ {R S : Type} (f : R → Option S) (n : Nat) (c : Code) (s : St) (K : Exit → St → Option R), (run n c s K).bind f = run n c s (fun e s => (K e s).bind f)) : ∀ (k n : Nat) (c : Code) (s : St) (K : Exit → St → Option R), (scopeA m lv find run k n c s K).bind f = scopeA m lv find run k n c s (fun e s => (K e s).bind f)
  | 0, _, _, _, _ => rfl
  | k + 1, n, c, s, K => by
    unfold scopeA
    rw [hr]; congr 1; funext e s
    cases e with
    | goto l =>
      dsimp only
      split
      · rw [bd_tell]; congr 1; funext s; exact bd_scope m lv find hr k _ _ s K
      · rfl
    | _ => rfl
theorem bd_lam (P : Program) {Γ : Sums} (hΓ : SumsNat Γ) (lv : Nat → Option (List Nat)) (k m : Nat) (c : Code) : ∀ d, LamNat (fun n s K => lamA P Γ lv k m c d n s K)
  | 0 => fun _ _ _ _ => rfl
  | d + 1 => by
    intro f n s K
    dsimp only
    unfold lamA
    split
    · exact bd_loop f m _ (body := fun s K => runA P Γ (fun q s K => lamA P Γ lv k m c d q s K) _ _ s K) (fun f s K => bd_run f P hΓ (Λ := fun q s K => lamA P Γ lv k m c d q s K) (bd_lam P hΓ lv k m c d) _ _ s K) k s K
    · exact bd_scope f m lv _ (run := fun n c' s K => runA P Γ (fun q s K => lamA P Γ lv k m c d q s K) n c' s K) (fun f n c' s K => bd_run f P hΓ (Λ := fun q s K => lamA P Γ lv k m c d q s K) (bd_lam P hΓ lv k m c d) _ _ s K) k _ _ s K
    · rfl
theorem bd_res (P : Program) (s : St) : ∀ (rs : List ResultVar) (K : List AV → Option R), (resA P s rs K).bind f = resA P s rs (fun l => (K l).bind f)
  | [], _ => rfl
  | .tmp t :: r, K => by
    unfold resA
    split
    · exact bd_res P s r _
    · rfl
  | .cell p t :: r, K => by
    unfold resA
    repeat' (first | rfl | split | (rw [bd_cond]; try (congr 1)) | exact bd_res P s r _)
theorem bd_ret (P : Program) (fn : Func) (m : Nat) (s : St) (K : KV R) : (retA P fn m s K).bind f = retA P fn m s (fun v o => (K v o).bind f) := by
  unfold retA
  rw [bd_res]; congr 1; funext l
  rw [bd_cond]; congr 1
  rw [bd_tell]; congr 1; funext s
  repeat' (first | rfl | split | (rw [bd_cond]; try (congr 1)))
theorem bd_fun (P : Program) {Γ : Sums} (hΓ : SumsNat Γ) {Λ : {R : Type} → Nat → St → (Exit → St → Option R) → Option R} (hΛ : LamNat Λ) (fn : Func) (args : List AV) (ob : List AO) (K : KV R) : (funA P Γ Λ fn args ob K).bind f = funA P Γ Λ fn args ob (fun v o => (K v o).bind f) := by
  unfold funA
  split
  · rw [bd_cond]; congr 1
    rw [bd_run f P hΓ hΛ]; congr 1; funext e s
    cases e with
    | ret => exact bd_ret ..
    | normal =>
      dsimp only
      split
      · exact bd_ret ..
      · rfl
    | _ => rfl
  · rfl
theorem wide_nat (P : Program) (F : FuncId → Option Prim) (Wr : FuncId → List Nat) (k : Nat) : ∀ d, SumsNat (wideA P F Wr k d)
  | 0 => fun _ _ _ _ _ => rfl
  | d + 1 => by
    intro f g as ob K
    show (match P.funcs[g]? with
      | some fn => (match fn.body with
        | some c => funA P (wideA P F Wr k d) (lamA P (wideA P F Wr k d) (fun _ => none) k ob.length c 20) fn as ob K
        | none => none)
      | none => none).bind f = (match P.funcs[g]? with
      | some fn => (match fn.body with
        | some c => funA P (wideA P F Wr k d) (lamA P (wideA P F Wr k d) (fun _ => none) k ob.length c 20) fn as ob (fun v o => (K v o).bind f)
        | none => none)
      | none => none)
    split
    · split
      · exact bd_fun f P (wide_nat P F Wr k d) (Λ := fun n s K => lamA P (wideA P F Wr k d) (fun _ => none) k ob.length _ 20 n s K) (bd_lam P (wide_nat P F Wr k d) (fun _ => none) k ob.length _ 20) _ as ob K
      · rfl
    · rfl
end
end Go.Mx

/- What the abstract machine's values and objects are in memory. -/
namespace Go.Mx
open Go Go.RowKit Go.Sx
variable [Glb]
set_option linter.unusedSectionVars false

inductive A2 {α β : Type} (R : α → β → Prop) : List α → List β → Prop where
  | nil : A2 R [] []
  | cons {x : α} {y : β} {xs : List α} {ys : List β} : R x y → A2 R xs ys → A2 R (x :: xs) (y :: ys)
def Kd.unit : Kd Unit where
  sz := 0
  K := fun _ _ _ cs => cs = []
  len := fun h => by rw [h]; rfl
  one := fun h u hu => by rw [h] at hu; cases hu
  step := fun h _ _ => h
  mono := fun h _ => h
def T.kd : (t : T) → Kd t.den
  | .int k => Kd.int k
  | .bool => Kd.bool
  | .str => Kd.str
  | .unit => Kd.unit
  | .flt => Kd.scalar (Value.float .f64) (fun _ => rfl)
  | .cpx => Kd.scalar (fun x : Nat × Nat => Value.complex .f64 x.1 x.2) (fun _ => rfl)
  | .fn => Kd.scalar (fun f : Nat => Value.func (.func f) #[] #[]) (fun _ => rfl)
  | .one t => t.kd
  | .pair a b => Kd.pair a.kd b.kd
  | .arr n t => Kd.arr n t.kd
  | .sl t => Kd.sl t.kd
theorem T.kd_sz : (t : T) → t.kd.sz = t.sz
  | .int _ | .bool | .str | .unit | .flt | .cpx | .fn | .sl _ => rfl
  | .one t => T.kd_sz t
  | .pair a b => by show a.kd.sz + b.kd.sz = a.sz + b.sz; rw [T.kd_sz a, T.kd_sz b]
  | .arr n t => by show n * t.kd.sz = n * t.sz; rw [T.kd_sz t]

/-- where an object lies: its address, how long it is, how much room there is, how great an element is -/
structure Geo where
  a : Option Addr
  n : Nat
  c : Nat
  s : Nat
/-- what may be written (or is guarded), the memory, where the objects lie, how many there are -/
structure Cx where
  A : Nat → Prop
  h : Array Obj
  g : Nat → Geo
  m : Nat
theorem offs_append : ∀ (p q : List Step), offs (p ++ q) = offs p + offs q
  | [], q => (Nat.zero_add _).symm
  | .fst :: p, q => offs_append p q
  | .snd k :: p, q => by show k + offs (p ++ q) = k + offs p + offs q; rw [offs_append p q, Nat.add_assoc]
  | .one :: p, q => offs_append p q
  | .idx i s :: p, q => by show i * s + offs (p ++ q) = i * s + offs p + offs q; rw [offs_append p q, Nat.add_assoc]
def form (g : Bool) (cs : List Value) : Value := if g then .agg cs.toArray else cs.headD undef
/-- These cells lie there. -/
def Lies (h : Array Obj) (b o : Nat) (cs : List Value) : Prop := ∃ C T fr, h[b]? = some (.cells C T fr) ∧ ∀ j v, cs[j]? = some v → C[o + j]? = some v

mutual
def CR (x : Cx) : AV → List Value → Prop
  | .dat t d, cs => t.kd.K x.A x.h d cs
  | .pr a b, cs => ∃ c1 c2, cs = c1 ++ c2 ∧ CR x a c1 ∧ CR x b c2
  | .one a, cs => CR x a cs
  | .ptr i p, cs => i < x.m ∧ ∃ b, (x.g i).a = some ⟨b, 0, none⟩ ∧ cs = [.pointer (some ⟨b, offs p, none⟩)]
  | .nilp, cs => cs = [.pointer none]
  | .rdp t d, cs => ∃ b o c, cs = [.pointer (some ⟨b, o, none⟩)] ∧ ¬ x.A b ∧ Lies x.h b o c ∧ t.kd.K x.A x.h d c
  | .view i, cs => i < x.m ∧ cs = [.slice (x.g i).a (x.g i).n (x.g i).c]
  | .pre i n, cs => i < x.m ∧ n ≤ (x.g i).n ∧ cs = [.slice (x.g i).a n (x.g i).c]
  | .tgt i n, cs => i < x.m ∧ n ≤ (x.g i).n ∧ cs = [.slice (x.g i).a n n]
  | .win i o n, cs => i < x.m ∧ o + n ≤ (x.g i).n ∧ ∃ q c, n ≤ c ∧ c ≤ maxLen ∧ (n ≠ 0 → ∃ b, (x.g i).a = some ⟨b, 0, none⟩ ∧ q = some ⟨b, o * (x.g i).s, none⟩) ∧ cs = [.slice q n c]
  | .nils, cs => cs = [.slice none 0 0]
  | .cut _, cs => ∃ q, cs = [.slice q 0 0]
  | .nilw _, cs => ∃ c, c ≤ maxLen ∧ cs = [.slice none 0 c]
  | .sln t d, cs => ∃ p c, cs = [.slice (some p) d.length c] ∧ Raw x.A t.kd x.h (some p) c d
  | .mp i, cs => i < x.m ∧ ∃ b, (x.g i).a = some ⟨b, 0, none⟩ ∧ cs = [.map (some b)]
  | .nilm, cs => cs = [.map none]
  | .fn f fs ks, cs => ∃ l m, cs = [.func (.func f) l.toArray m.toArray] ∧ VRs x fs l ∧ VRs x ks m
  | .nilf, cs => cs = [.nilFunc]
  | .iface t v, cs => ∃ c, cs = [.iface t (form v.isAgg c)] ∧ CR x v c ∧ c.length = v.sz
  | .nilI, cs => cs = [.nilIface]
  | .tup _, _ => False
  | .undef, _ => False
def VRs (x : Cx) : List AV → List Value → Prop
  | [], l => l = []
  | v :: r, l => ∃ c l', l = form v.isAgg c :: l' ∧ CR x v c ∧ c.length = v.sz ∧ VRs x r l'
end
/-- how many cells a value has -/
theorem cr_len {x : Cx} : ∀ {v : AV} {cs : List Value}, CR x v cs → cs.length = v.sz := by
  intro v
  induction v using AV.rec (motive_2 := fun _ => True) with
  | dat t d => intro cs h; rw [CR] at h; rw [AV.sz, ← T.kd_sz]; exact t.kd.len h
  | pr a b ha hb => intro cs h; rw [CR] at h; obtain ⟨c1, c2, e, h1, h2⟩ := h; rw [e, List.length_append, ha h1, hb h2]; rfl
  | one a ha => intro cs h; rw [CR] at h; exact ha h
  | ptr i p => intro cs h; rw [CR] at h; obtain ⟨_, b, _, e⟩ := h; rw [e]; rfl
  | nilp => intro cs h; rw [CR] at h; rw [h]; rfl
  | rdp t d => intro cs h; rw [CR] at h; obtain ⟨b, o, c, e, _⟩ := h; rw [e]; rfl
  | view i => intro cs h; rw [CR] at h; rw [h.2]; rfl
  | pre i n => intro cs h; rw [CR] at h; rw [h.2.2]; rfl
  | tgt i n => intro cs h; rw [CR] at h; rw [h.2.2]; rfl
  | win i o n => intro cs h; rw [CR] at h; obtain ⟨_, _, q, c, _, _, _, e⟩ := h; rw [e]; rfl
  | nils => intro cs h; rw [CR] at h; rw [h]; rfl
  | cut t => intro cs h; rw [CR] at h; obtain ⟨q, e⟩ := h; rw [e]; rfl
  | nilw t => intro cs h; rw [CR] at h; obtain ⟨q, _, e⟩ := h; rw [e]; rfl
  | sln t d => intro cs h; rw [CR] at h; obtain ⟨p, c, e, _⟩ := h; rw [e]; rfl
  | mp i => intro cs h; rw [CR] at h; obtain ⟨_, b, _, e⟩ := h; rw [e]; rfl
  | nilm => intro cs h; rw [CR] at h; rw [h]; rfl
  | fn f fs ks _ _ => intro cs h; rw [CR] at h; obtain ⟨l, m, e, _⟩ := h; rw [e]; rfl
  | nilf => intro cs h; rw [CR] at h; rw [h]; rfl
  | iface t v _ => intro cs h; rw [CR] at h; obtain ⟨c, e, _⟩ := h; rw [e]; rfl
  | nilI => intro cs h; rw [CR] at h; rw [h]; rfl
  | tup l _ => intro cs h; rw [CR] at h; exact h.elim
  | undef => intro cs h; rw [CR] at h; exact h.elim
  | nil => trivial
  | cons _ _ _ _ => trivial
/-- a value, as it is -/
def VR (x : Cx) (v : AV) (u : Value) : Prop :=
  match v with
  | .tup l => ∃ m, u = .tuple m.toArray ∧ VRs x l m
  | .undef => u = undef
  | v => ∃ c, u = form v.isAgg c ∧ CR x v c ∧ c.length = v.sz

/-- From x to y: what may not be written is as it was; nothing old is guarded anew; the objects lie where they lay. -/
structure Cx.Le (x y : Cx) : Prop where
  size : x.h.size ≤ y.h.size
  blk : ∀ k, k < x.h.size → ¬ x.A k → y.h[k]? = x.h[k]?
  new : ∀ k, k < x.h.size → y.A k → x.A k
  geo : ∀ i, i < x.m → y.g i = x.g i
  m : x.m ≤ y.m
theorem Cx.Le.refl (x : Cx) : x.Le x := ⟨Nat.le_refl _, fun _ _ _ => rfl, fun _ _ h => h, fun _ _ => rfl, Nat.le_refl _⟩
theorem Cx.Le.K {x y : Cx} (h : x.Le y) {α : Type} {d : Kd α} {z : α} {cs : List Value} (r : d.K x.A x.h z cs) : d.K y.A y.h z cs :=
  d.mono (d.step (d.mono r (A' := fun k => x.A k ∨ y.A k) (fun k hk hv => hv.elim id (h.new k hk))) h.size (fun k hk hn => h.blk k hk (fun e => hn (.inl e)))) (fun _ _ hv => .inr hv)
theorem lies_lt {h : Array Obj} {b o : Nat} {cs : List Value} (l : Lies h b o cs) : b < h.size := by
  obtain ⟨C, T, fr, e, _⟩ := l
  exact lt_of_get e
mutual
theorem CR.up {x y : Cx} (h : x.Le y) : ∀ (v : AV) (cs : List Value), CR x v cs → CR y v cs
  | .dat t d, cs, r => by rw [CR] at r ⊢; exact h.K r
  | .pr a b, cs, r => by
    rw [CR] at r ⊢
    obtain ⟨c1, c2, e, h1, h2⟩ := r
    exact ⟨c1, c2, e, CR.up h a c1 h1, CR.up h b c2 h2⟩
  | .one a, cs, r => by rw [CR] at r ⊢; exact CR.up h a cs r
  | .ptr i p, cs, r => by
    rw [CR] at r ⊢
    obtain ⟨hi, b, e, hc⟩ := r
    exact ⟨Nat.lt_of_lt_of_le hi h.m, b, by rw [h.geo i hi]; exact e, hc⟩
  | .nilp, cs, r => by rw [CR] at r ⊢; exact r
  | .rdp t d, cs, r => by
    rw [CR] at r ⊢
    obtain ⟨b, o, c, e, hA, hl, hK⟩ := r
    have hb := lies_lt hl
    refine ⟨b, o, c, e, fun hA' => hA (h.new b hb hA'), ?_, h.K hK⟩
    obtain ⟨C, T, fr, e1, e2⟩ := hl
    exact ⟨C, T, fr, by rw [h.blk b hb hA]; exact e1, e2⟩
  | .view i, cs, r => by rw [CR] at r ⊢; rw [h.geo i r.1]; exact ⟨Nat.lt_of_lt_of_le r.1 h.m, r.2⟩
  | .pre i n, cs, r => by rw [CR] at r ⊢; rw [h.geo i r.1]; exact ⟨Nat.lt_of_lt_of_le r.1 h.m, r.2⟩
  | .tgt i n, cs, r => by rw [CR] at r ⊢; rw [h.geo i r.1]; exact ⟨Nat.lt_of_lt_of_le r.1 h.m, r.2⟩
  | .win i o n, cs, r => by rw [CR] at r ⊢; rw [h.geo i r.1]; exact ⟨Nat.lt_of_lt_of_le r.1 h.m, r.2⟩
  | .nils, cs, r => by rw [CR] at r ⊢; exact r
  | .cut t, cs, r => by rw [CR] at r ⊢; exact r
  | .nilw t, cs, r => by rw [CR] at r ⊢; exact r
  | .sln t d, cs, r => by
    rw [CR] at r ⊢
    obtain ⟨p, c, e, h1⟩ := r
    obtain ⟨_, _, e2, h2⟩ := h.K (d := (T.sl t).kd) (z := d) (cs := [.slice (some p) d.length c]) ⟨some p, c, rfl, h1⟩
    obtain ⟨e3, e4⟩ : some p = _ ∧ c = _ := by simpa using e2
    subst e4
    exact ⟨p, c, e, by rw [e3]; exact h2⟩
  | .mp i, cs, r => by rw [CR] at r ⊢; rw [h.geo i r.1]; exact ⟨Nat.lt_of_lt_of_le r.1 h.m, r.2⟩
  | .nilm, cs, r => by rw [CR] at r ⊢; exact r
  | .fn f fs ks, cs, r => by
    rw [CR] at r ⊢
    obtain ⟨l, m, e, h1, h2⟩ := r
    exact ⟨l, m, e, VRs.up h fs l h1, VRs.up h ks m h2⟩
  | .nilf, cs, r => by rw [CR] at r ⊢; exact r
  | .iface t v, cs, r => by
    rw [CR] at r ⊢
    obtain ⟨c, e, h1, h2⟩ := r
    exact ⟨c, e, CR.up h v c h1, h2⟩
  | .nilI, cs, r => by rw [CR] at r ⊢; exact r
  | .tup l, cs, r => by rw [CR] at r; exact r.elim
  | .undef, cs, r => by rw [CR] at r; exact r.elim
theorem VRs.up {x y : Cx} (h : x.Le y) : ∀ (l : List AV) (m : List Value), VRs x l m → VRs y l m
  | [], m, r => by rw [VRs] at r ⊢; exact r
  | v :: l, m, r => by
    rw [VRs] at r ⊢
    obtain ⟨c, l', e, h1, h2, h3⟩ := r
    exact ⟨c, l', e, CR.up h v c h1, h2, VRs.up h l l' h3⟩
end
theorem VR.up {x y : Cx} (h : x.Le y) {v : AV} {u : Value} (r : VR x v u) : VR y v u := by
  cases v with
  | tup l => obtain ⟨m, e, h1⟩ := r; exact ⟨m, e, VRs.up h l m h1⟩
  | undef => exact r
  | _ => obtain ⟨c, e, h1, h2⟩ := r; exact ⟨c, e, CR.up h _ c h1, h2⟩
end Go.Mx

/- A state of the abstract machine, in memory; what an operation may turn. -/
namespace Go.Mx
open Go Go.RowKit Go.Sx
variable [Glb]
set_option linter.unusedSectionVars false

def AO.own : AO → Bool
  | .box _ _ w => w
  | .row _ _ _ .own => true
  | .itr _ _ w => w
  | .map _ _ _ w => w
  | _ => false
/-- the blocks that may be written -/
def OwnB (S : List AO) (ρ : Nat → Geo) (k : Nat) : Prop := ∃ i o p, S[i]? = some o ∧ o.own = true ∧ (ρ i).a = some p ∧ p.block = k
def cx (W : Nat → Prop) (S : List AO) (ρ : Nat → Geo) (w : World) : Cx := ⟨fun k => W k ∨ OwnB S ρ k, w.heap, ρ, S.length⟩
/-- a row that is read: not in a block of O -/
def RowR {α : Type} (x : Cx) (O : Nat → Prop) (d : Kd α) (a : Option Addr) (c : Nat) (xs : List α) : Prop :=
  xs.length ≤ c ∧ c ≤ maxLen ∧ ∃ cells, Els (d.K x.A x.h) xs cells ∧ (xs ≠ [] → ∃ b, a = some ⟨b, 0, none⟩ ∧ ¬ O b ∧ Lies x.h b 0 cells)
/-- an entry of a map -/
def Ent (x : Cx) (kt vt : T) (p : kt.den × vt.den) (e : MapEntry) : Prop := ∃ c1 c2, e.key = form kt.aggB c1 ∧ kt.kd.K x.A x.h p.1 c1 ∧ e.val = form vt.aggB c2 ∧ vt.kd.K x.A x.h p.2 c2
/-- a map lies there -/
def Mp (x : Cx) (w : World) (b : Nat) (kt vt : T) (es : List (kt.den × vt.den)) : Prop := ∃ arr clk, w.heap[b]? = some (.map arr clk) ∧ A2 (Ent x kt vt) es arr.toList
def OR (x : Cx) (O : Nat → Prop) (w : World) (g : Geo) : AO → Prop
  | .gone => True
  | .box ty v m => ∃ b cs, g.a = some ⟨b, 0, none⟩ ∧ CR x v cs ∧ cs.length = v.sz ∧ Bx w b ty cs ∧ (m = false → ¬ O b)
  | .row e t xs .own => g.n = xs.length ∧ g.s = t.sz ∧ Ow x.A w e t.kd g.a g.c xs
  | .row _ t xs .ro => g.n = xs.length ∧ g.s = t.sz ∧ RowR x O t.kd g.a g.c xs
  | .row _ t xs .fz => g.n = xs.length ∧ g.s = t.sz ∧ RowR x x.A t.kd g.a g.c xs
  | .itr s p m => ∃ b, g.a = some ⟨b, 0, none⟩ ∧ It w b s p ∧ (m = false → ¬ O b)
  | .map kt vt es m => ∃ b, g.a = some ⟨b, 0, none⟩ ∧ Mp x w b kt vt es ∧ (m = false → ¬ O b)
/-- what package variables hold lies there, and nothing else lies in their blocks -/
def GlR (x : Cx) : Prop := ∀ g z, Glb.gl g = some z → VR x (.rdp z.1 z.2) (.pointer (some ⟨g, 0, none⟩)) ∧ ¬ x.A g ∧ ∃ C T fr, x.h[g]? = some (.cells C T fr) ∧ C.size = z.1.sz
theorem GlR.up {x y : Cx} (h : GlR x) (le : x.Le y) : GlR y := fun g z hz => by
  obtain ⟨h1, h2, C, T, fr, h3, h4⟩ := h g z hz
  have hl : g < x.h.size := (Array.getElem?_eq_some_iff.1 h3).1
  exact ⟨h1.up le, fun hy => h2 (le.new g hl hy), C, T, fr, by rw [le.blk g hl h2]; exact h3, h4⟩
theorem GlR.sub {x y : Cx} (h : GlR x) (hA : ∀ k, y.A k → x.A k) (hh : y.h = x.h) : GlR y := fun g z hz => by
  obtain ⟨⟨c, e, hc, hl⟩, h2, C, T, fr, h3, h4⟩ := h g z hz
  rw [CR] at hc
  obtain ⟨b, o, c', e1, h1, k2, k3⟩ := hc
  exact ⟨⟨c, e, by rw [CR]; exact ⟨b, o, c', e1, fun hk => h1 (hA b hk), by rw [hh]; exact k2, by rw [hh]; exact z.1.kd.mono k3 (fun k _ hk => hA k hk)⟩, hl⟩, fun hk => h2 (hA g hk), C, T, fr, by rw [hh]; exact h3, h4⟩
structure Rel (W : Nat → Prop) (S : List AO) (ρ : Nat → Geo) (w : World) : Prop where
  ob : ∀ i o, S[i]? = some o → OR (cx W S ρ w) (OwnB S ρ) w (ρ i) o
  dj : ∀ i j o o' p q, i ≠ j → S[i]? = some o → S[j]? = some o' → o.own = true → o'.own = true → (ρ i).a = some p → (ρ j).a = some q → p.block ≠ q.block
  wl : ∀ k, W k → k < w.heap.size
  wd : ∀ k, OwnB S ρ k → ¬ W k
  gl : GlR (cx W S ρ w)
structure Aft (W : Nat → Prop) (S : List AO) (ρ : Nat → Geo) (w : World) (S' : List AO) (ρ' : Nat → Geo) (w' : World) : Prop where
  rel : Rel W S' ρ' w'
  fr : Fr w w' (OwnB S ρ)
  nw : ∀ k, OwnB S' ρ' k → OwnB S ρ k ∨ w.heap.size ≤ k
  ag : ∀ i, i < S.length → ρ' i = ρ i
  m : S.length ≤ S'.length

section
variable {W : Nat → Prop} {S S' S'' : List AO} {ρ ρ' ρ'' : Nat → Geo} {w w' w'' : World}
theorem Aft.refl (h : Rel W S ρ w) : Aft W S ρ w S ρ w := ⟨h, Fr.refl _ _, fun _ h => .inl h, fun _ _ => rfl, Nat.le_refl _⟩
theorem Aft.trans (h : Aft W S ρ w S' ρ' w') (h' : Aft W S' ρ' w' S'' ρ'' w'') : Aft W S ρ w S'' ρ'' w'' where
  rel := h'.rel
  fr := h.fr.step h'.fr (fun k hk hO => (h.nw k hO).elim id (fun h2 => absurd h2 (Nat.not_le_of_lt hk)))
  nw := fun k hk => (h'.nw k hk).elim (h.nw k) (fun h2 => .inr (Nat.le_trans h.fr.size h2))
  ag := fun i hi => (h'.ag i (Nat.lt_of_lt_of_le hi h.m)).trans (h.ag i hi)
  m := Nat.le_trans h.m h'.m
theorem Aft.le (h : Aft W S ρ w S' ρ' w') : (cx W S ρ w).Le (cx W S' ρ' w') where
  size := h.fr.size
  blk := fun k hk hn => h.fr.blk k hk (fun hO => hn (.inr hO))
  new := fun k hk hv => hv.elim .inl (fun hO => (h.nw k hO).elim .inr (fun h2 => absurd h2 (Nat.not_le_of_lt hk)))
  geo := h.ag
  m := h.m
theorem OwnB.lt (h : Rel W S ρ w) {k : Nat} (hk : OwnB S ρ k) : k < w.heap.size := by
  obtain ⟨i, o, p, hi, ho, ha, rfl⟩ := hk
  have r := h.ob i o hi
  match o, ho, r with
  | .box ty v m, _, ⟨b, cs, e, _, _, hb, _⟩ =>
    rw [e] at ha
    obtain rfl := Option.some.inj ha
    exact hb.lt
  | .row e t xs .own, _, ⟨_, _, r⟩ => exact r.lt p ha
  | .itr s q m, _, ⟨b, e, hI, _⟩ =>
    rw [e] at ha
    obtain rfl := Option.some.inj ha
    exact lt_of_get hI
  | .map kt vt es m, _, ⟨b, e, ⟨arr, clk, hI, _⟩, _⟩ =>
    rw [e] at ha
    obtain rfl := Option.some.inj ha
    exact lt_of_get hI
theorem A2.imp {α β : Type} {R R' : α → β → Prop} (hi : ∀ x y, R x y → R' x y) : ∀ {l : List α} {m : List β}, A2 R l m → A2 R' l m
  | _, _, .nil => .nil
  | _, _, .cons h1 h2 => .cons (hi _ _ h1) (A2.imp hi h2)
theorem Mp.keep {x y : Cx} {w w' : World} {b : Nat} {kt vt : T} {es : List (kt.den × vt.den)} {O1 : Nat → Prop} (h : Mp x w b kt vt es) (le : x.Le y) (hf : Fr w w' O1) (hn : ¬ O1 b) : Mp y w' b kt vt es := by
  obtain ⟨arr, clk, h1, h2⟩ := h
  refine ⟨arr, clk, (hf.blk b (lt_of_get h1) hn).trans h1, h2.imp ?_⟩
  rintro p e ⟨c1, c2, e1, k1, e2, k2⟩
  exact ⟨c1, c2, e1, le.K k1, e2, le.K k2⟩
theorem Mp.sub {x y : Cx} {w : World} {b : Nat} {kt vt : T} {es : List (kt.den × vt.den)} (h : Mp x w b kt vt es) (hA : ∀ k, y.A k → x.A k) (hh : y.h = x.h) : Mp y w b kt vt es := by
  obtain ⟨arr, clk, h1, h2⟩ := h
  refine ⟨arr, clk, h1, h2.imp ?_⟩
  rintro p e ⟨c1, c2, e1, k1, e2, k2⟩
  exact ⟨c1, c2, e1, by rw [hh]; exact kt.kd.mono k1 (fun k _ hk => hA k hk), e2, by rw [hh]; exact vt.kd.mono k2 (fun k _ hk => hA k hk)⟩

/-! ### facts of objects, carried on -/
theorem RowR.up {α : Type} {x y : Cx} {O O' O1 : Nat → Prop} {d : Kd α} {a : Option Addr} {c : Nat} {xs : List α} (h : x.Le y) (hx : x.h = w.heap) (hy : y.h = w'.heap) (r : RowR x O d a c xs) (hf : Fr w w' O1) (hk : ∀ b, b < w.heap.size → ¬ O b → ¬ O1 b ∧ ¬ O' b) : RowR y O' d a c xs := by
  obtain ⟨h1, h2, cells, he, hl⟩ := r
  refine ⟨h1, h2, cells, he.imp (fun _ _ hK => h.K hK), fun hne => ?_⟩
  obtain ⟨b, ha, hO, hL⟩ := hl hne
  have hb := lies_lt hL
  rw [hx] at hb
  obtain ⟨e1, e2⟩ := hk b hb hO
  obtain ⟨C, T, fr, e3, e4⟩ := hL
  refine ⟨b, ha, e2, C, T, fr, ?_, e4⟩
  rw [hy, hf.blk b hb e1, ← hx]
  exact e3
/-- An object that nobody wrote is as it was. -/
theorem OR.up {x y : Cx} {O O' O1 : Nat → Prop} {g : Geo} {o : AO} (h : x.Le y) (hx : x.h = w.heap) (hy : y.h = w'.heap) (r : OR x O w g o) (hf : Fr w w' O1)
    (hro : o.own = false → ∀ b, b < w.heap.size → ¬ O b → ¬ O1 b ∧ ¬ O' b) (hfz : ∀ k, k < w.heap.size → O1 k → x.A k)
    (hown : o.own = true → ∀ p, g.a = some p → ¬ O1 p.block) : OR y O' w' g o := by
  match o, r with
  | .gone, _ => trivial
  | .box ty v true, ⟨b, cs, e, h1, h2, hb, _⟩ => exact ⟨b, cs, e, h1.up h, h2, Bx.keep hb hf (hown rfl _ e), fun hm => by cases hm⟩
  | .box ty v false, ⟨b, cs, e, h1, h2, hb, h3⟩ => exact ⟨b, cs, e, h1.up h, h2, Bx.keep hb hf (hro rfl b hb.lt (h3 rfl)).1, fun _ => (hro rfl b hb.lt (h3 rfl)).2⟩
  | .row e t xs .own, ⟨h1, h2, h3⟩ =>
    refine ⟨h1, h2, Ow.keep h3 hf (fun q hq => hown rfl q hq) (fun z cs hK => ?_)⟩
    rw [← hx] at hK
    rw [← hy]
    exact h.K hK
  | .row _ t xs .ro, ⟨h1, h2, h3⟩ => exact ⟨h1, h2, h3.up h hx hy hf (hro rfl)⟩
  | .row _ t xs .fz, ⟨h1, h2, h3⟩ => exact ⟨h1, h2, h3.up h hx hy hf (fun b hb hO => ⟨fun hA => hO (hfz b hb hA), fun hA => hO (h.new b (by rw [hx]; exact hb) hA)⟩)⟩
  | .itr s p true, ⟨b, e, hI, _⟩ => exact ⟨b, e, It.keep hI hf (hown rfl _ e), fun hm => by cases hm⟩
  | .map kt vt es true, ⟨b, e, hI, _⟩ => exact ⟨b, e, hI.keep h hf (hown rfl _ e), fun hm => by cases hm⟩
  | .map kt vt es false, ⟨b, e, hI, h3⟩ =>
    obtain ⟨arr, clk, h1, h2⟩ := hI
    exact ⟨b, e, Mp.keep ⟨arr, clk, h1, h2⟩ h hf (hro rfl b (lt_of_get h1) (h3 rfl)).1, fun _ => (hro rfl b (lt_of_get h1) (h3 rfl)).2⟩
  | .itr s p false, ⟨b, e, hI, h3⟩ => exact ⟨b, e, It.keep hI hf (hro rfl b (lt_of_get hI) (h3 rfl)).1, fun _ => (hro rfl b (lt_of_get hI) (h3 rfl)).2⟩
end
end Go.Mx

/- How a state goes on: a new object, one that is written, one that is put elsewhere, one that is told as read. -/
namespace Go.Mx
open Go Go.RowKit Go.Sx
variable [Glb]
set_option linter.unusedSectionVars false

section
variable {W : Nat → Prop} {S S' S'' : List AO} {ρ ρ' ρ'' : Nat → Geo} {w w' w'' : World} {O1 : Nat → Prop}
theorem Aft.of (h : Rel W S ρ w) (hf : Fr w w' O1) (hO : ∀ k, O1 k → OwnB S ρ k) (nw : ∀ k, OwnB S' ρ' k → OwnB S ρ k ∨ w.heap.size ≤ k) (ag : ∀ i, i < S.length → ρ' i = ρ i) (m : S.length ≤ S'.length)
    (ch : (cx W S ρ w).Le (cx W S' ρ' w') → ∀ i o, S'[i]? = some o → (S[i]? = some o ∧ (o.own = true → ∀ p, (ρ i).a = some p → ¬ O1 p.block)) ∨ OR (cx W S' ρ' w') (OwnB S' ρ') w' (ρ' i) o)
    (dj : ∀ i j o o' p q, i ≠ j → S'[i]? = some o → S'[j]? = some o' → o.own = true → o'.own = true → (ρ' i).a = some p → (ρ' j).a = some q → p.block ≠ q.block) : Aft W S ρ w S' ρ' w' := by
  have le : (cx W S ρ w).Le (cx W S' ρ' w') := ⟨hf.size, fun k hk hn => hf.blk k hk (fun hk => hn (.inr (hO k hk))), fun k hk hv => hv.elim .inl (fun hO => (nw k hO).elim .inr (fun h2 => absurd h2 (Nat.not_le_of_lt hk))), ag, m⟩
  have hn : ∀ b, b < w.heap.size → ¬ OwnB S ρ b → ¬ O1 b ∧ ¬ OwnB S' ρ' b := fun b hb hn => ⟨fun h1 => hn (hO b h1), fun h1 => (nw b h1).elim hn (fun h2 => absurd h2 (Nat.not_le_of_lt hb))⟩
  refine ⟨⟨fun i o hi => ?_, dj, fun k hk => Nat.lt_of_lt_of_le (h.wl k hk) hf.size, fun k hk hW => ?_, h.gl.up le⟩, hf.mono (fun k _ hk => hO k hk), nw, ag, m⟩
  · rcases ch le i o hi with ⟨h1, h2⟩ | h1
    · have hlt := (List.getElem?_eq_some_iff.1 h1).1
      rw [ag i hlt]
      exact (h.ob i o h1).up le rfl rfl hf (fun _ => hn) (fun k _ hk => .inr (hO k hk)) h2
    · exact h1
  · rcases nw k hk with h1 | h1
    · exact h.wd k h1 hW
    · exact absurd (h.wl k hW) (Nat.not_lt_of_le h1)
def upd (ρ : Nat → Geo) (i : Nat) (g : Geo) : Nat → Geo := fun j => if j = i then g else ρ j
theorem upd_same (ρ : Nat → Geo) (i : Nat) (g : Geo) : upd ρ i g i = g := if_pos rfl
theorem upd_other (ρ : Nat → Geo) {i j : Nat} (g : Geo) (h : j ≠ i) : upd ρ i g j = ρ j := if_neg h
theorem push_get {o : AO} {i : Nat} {o' : AO} (h : (S ++ [o])[i]? = some o') : (i < S.length ∧ S[i]? = some o') ∨ (i = S.length ∧ o' = o) := by
  rcases Nat.lt_trichotomy i S.length with hl | hl | hl
  · rw [List.getElem?_append, if_pos hl] at h; exact .inl ⟨hl, h⟩
  · subst hl
    rw [List.getElem?_append, if_neg (Nat.lt_irrefl _), Nat.sub_self] at h
    exact .inr ⟨rfl, (Option.some.inj h).symm⟩
  · rw [List.getElem?_eq_none (by simp; omega)] at h; cases h
/-- A new object. -/
theorem Aft.push (h : Rel W S ρ w) {o : AO} {g : Geo} (hf : Fr w w' No) (hnew : o.own = true → ∀ p, g.a = some p → w.heap.size ≤ p.block)
    (hor : (cx W S ρ w).Le (cx W (S ++ [o]) (upd ρ S.length g) w') → OR (cx W (S ++ [o]) (upd ρ S.length g) w') (OwnB (S ++ [o]) (upd ρ S.length g)) w' g o) : Aft W S ρ w (S ++ [o]) (upd ρ S.length g) w' := by
  have old : ∀ i, i < S.length → upd ρ S.length g i = ρ i := fun i hi => upd_other ρ g (Nat.ne_of_lt hi)
  refine Aft.of h (O1 := No) hf (fun _ hk => hk.elim) ?_ old (by simp) ?_ ?_
  · rintro k ⟨i, o', p, hi, ho, ha, rfl⟩
    rcases push_get hi with ⟨hl, hi⟩ | ⟨rfl, rfl⟩
    · rw [old i hl] at ha
      exact .inl ⟨i, o', p, hi, ho, ha, rfl⟩
    · rw [upd_same] at ha
      exact .inr (hnew ho p ha)
  · intro le i o' hi
    rcases push_get hi with ⟨hl, hi⟩ | ⟨rfl, rfl⟩
    · exact .inl ⟨hi, fun _ _ _ hk => hk.elim⟩
    · rw [upd_same]; exact .inr (hor le)
  · intro i j o1 o2 p q hij hi hj h1 h2 a1 a2 hb
    rcases push_get hi with ⟨hl, gi⟩ | ⟨rfl, rfl⟩
    · rw [old i hl] at a1
      rcases push_get hj with ⟨hl2, gj⟩ | ⟨rfl, rfl⟩
      · rw [old j hl2] at a2
        exact h.dj i j o1 o2 p q hij gi gj h1 h2 a1 a2 hb
      · rw [upd_same] at a2
        have l1 := OwnB.lt h ⟨i, o1, p, gi, h1, a1, rfl⟩
        have l2 := hnew h2 q a2
        omega
    · rw [upd_same] at a1
      have l1 := hnew h1 p a1
      rcases push_get hj with ⟨hl2, hj⟩ | ⟨rfl, rfl⟩
      · rw [old j hl2] at a2
        have l2 := OwnB.lt h ⟨j, o2, q, hj, h2, a2, rfl⟩
        omega
      · exact hij rfl
theorem set_get {i j : Nat} {o o' : AO} (h : (S.set i o)[j]? = some o') : (j ≠ i ∧ S[j]? = some o') ∨ (j = i ∧ o' = o ∧ i < S.length) := by
  by_cases hij : j = i
  · subst hij
    rw [List.getElem?_set_self'] at h
    cases hs : S[j]? with
    | none => rw [hs] at h; cases h
    | some z =>
      rw [hs] at h
      have := (List.getElem?_eq_some_iff.1 hs).1
      exact .inr ⟨rfl, (Option.some.inj h).symm, this⟩
  · rw [List.getElem?_set_ne (fun e => hij e.symm)] at h
    exact .inl ⟨hij, h⟩
/-- One that is written: it lies where it lay. -/
theorem Aft.put (h : Rel W S ρ w) {i : Nat} {o o' : AO} (hi : S[i]? = some o) (hf : Fr w w' (fun k => o.own = true ∧ ∃ p, (ρ i).a = some p ∧ p.block = k)) (hown : o'.own = true → o.own = true)
    (hor : (cx W S ρ w).Le (cx W (S.set i o') ρ w') → OR (cx W (S.set i o') ρ w') (OwnB (S.set i o') ρ) w' (ρ i) o') : Aft W S ρ w (S.set i o') ρ w' := by
  refine Aft.of h hf ?_ ?_ (fun _ _ => rfl) (by simp) ?_ ?_
  · rintro k ⟨h1, p, h3, h4⟩
    exact ⟨i, o, p, hi, h1, h3, h4⟩
  · rintro k ⟨j, o1, p, hj, ho, ha, rfl⟩
    rcases set_get hj with ⟨_, hj⟩ | ⟨rfl, rfl, _⟩
    · exact .inl ⟨j, o1, p, hj, ho, ha, rfl⟩
    · exact .inl ⟨_, o, p, hi, hown ho, ha, rfl⟩
  · intro le j o1 hj
    rcases set_get hj with ⟨hne, hj⟩ | ⟨rfl, rfl, _⟩
    · exact .inl ⟨hj, fun h1 p hp ⟨h2, q, hq, hb⟩ => h.dj j i o1 o p q hne hj hi h1 h2 hp hq hb.symm⟩
    · exact .inr (hor le)
  · intro j k o1 o2 p q hjk hj hk h1 h2 a1 a2
    rcases set_get hj with ⟨_, gj⟩ | ⟨rfl, rfl, _⟩
    · rcases set_get hk with ⟨_, gk⟩ | ⟨rfl, rfl, _⟩
      · exact h.dj j k o1 o2 p q hjk gj gk h1 h2 a1 a2
      · exact h.dj j _ o1 o p q hjk gj hi h1 (hown h2) a1 a2
    · rcases set_get hk with ⟨_, gk⟩ | ⟨rfl, rfl, _⟩
      · exact h.dj _ k o o2 p q hjk hi gk (hown h1) h2 a1 a2
      · exact absurd rfl hjk
/-- One that is put elsewhere, or there: under another name from here on. -/
theorem Aft.move (h : Rel W S ρ w) {i : Nat} {o o' : AO} {g : Geo} (hi : S[i]? = some o) (hown : o.own = true) (hf : Fr w w' (fun k => ∃ p, (ρ i).a = some p ∧ p.block = k))
    (hnew : o'.own = true → ∀ p, g.a = some p → (∃ q, (ρ i).a = some q ∧ q.block = p.block) ∨ w.heap.size ≤ p.block)
    (hor : (cx W S ρ w).Le (cx W (S.set i .gone ++ [o']) (upd ρ S.length g) w') → OR (cx W (S.set i .gone ++ [o']) (upd ρ S.length g) w') (OwnB (S.set i .gone ++ [o']) (upd ρ S.length g)) w' g o') : Aft W S ρ w (S.set i .gone ++ [o']) (upd ρ S.length g) w' := by
  have old : ∀ i, i < S.length → upd ρ S.length g i = ρ i := fun i hi => upd_other ρ g (Nat.ne_of_lt hi)
  have hl : (S.set i .gone).length = S.length := by simp
  have get : ∀ j o1, (S.set i .gone ++ [o'])[j]? = some o1 → o1.own = true → (j < S.length ∧ j ≠ i ∧ S[j]? = some o1) ∨ (j = S.length ∧ o1 = o') := by
    intro j o1 hj ho
    rcases push_get hj with ⟨h1, h2⟩ | ⟨h1, h2⟩
    · rcases set_get h2 with ⟨h3, h4⟩ | ⟨_, rfl, _⟩
      · exact .inl ⟨by omega, h3, h4⟩
      · cases ho
    · exact .inr ⟨by omega, h2⟩
  refine Aft.of h hf ?_ ?_ old (by simp) ?_ ?_
  · rintro k ⟨p, h3, h4⟩
    exact ⟨i, o, p, hi, hown, h3, h4⟩
  · rintro k ⟨j, o1, p, hj, ho, ha, rfl⟩
    rcases get j o1 hj ho with ⟨h1, _, h3⟩ | ⟨rfl, rfl⟩
    · rw [old j h1] at ha
      exact .inl ⟨j, o1, p, h3, ho, ha, rfl⟩
    · rw [upd_same] at ha
      rcases hnew ho p ha with ⟨q, hq, hb⟩ | h1
      · exact .inl ⟨i, o, q, hi, hown, hq, hb⟩
      · exact .inr h1
  · intro le j o1 hj
    rcases push_get hj with ⟨h1, h2⟩ | ⟨h1, rfl⟩
    · rcases set_get h2 with ⟨h3, h4⟩ | ⟨_, rfl, _⟩
      · exact .inl ⟨h4, fun h5 p hp ⟨q, hq, hb⟩ => h.dj j i o1 o p q h3 h4 hi h5 hown hp hq hb.symm⟩
      · exact .inr trivial
    · rw [hl] at h1
      subst h1
      rw [upd_same]
      exact .inr (hor le)
  · intro j k o1 o2 p q hjk hj hk h1 h2 a1 a2 hb
    rcases get j o1 hj h1 with ⟨l1, n1, g1⟩ | ⟨rfl, rfl⟩
    · rw [old j l1] at a1
      rcases get k o2 hk h2 with ⟨l2, n2, g2⟩ | ⟨rfl, rfl⟩
      · rw [old k l2] at a2
        exact h.dj j k o1 o2 p q hjk g1 g2 h1 h2 a1 a2 hb
      · rw [upd_same] at a2
        rcases hnew h2 q a2 with ⟨q', hq, hb'⟩ | h3
        · exact h.dj j i o1 o p q' n1 g1 hi h1 hown a1 hq (by omega)
        · have := OwnB.lt h ⟨j, o1, p, g1, h1, a1, rfl⟩
          omega
    · rw [upd_same] at a1
      rcases get k o2 hk h2 with ⟨l2, n2, g2⟩ | ⟨rfl, rfl⟩
      · rw [old k l2] at a2
        rcases hnew h1 p a1 with ⟨q', hq, hb'⟩ | h3
        · exact h.dj k i o2 o q q' n2 g2 hi h2 hown a2 hq (by omega)
        · have := OwnB.lt h ⟨k, o2, q, g2, h2, a2, rfl⟩
          omega
      · exact hjk rfl
end
end Go.Mx

/- Operands; operations that compute. -/
namespace Go.Mx
open Go Go.RowKit Go.Sx
variable [Glb]
set_option linter.unusedSectionVars false

section
variable {x : Cx}
theorem vr_int {k : IntKind} {i : Int} {u : Value} (h : VR x (.dat (.int k) i) u) : u = .int k i := by
  obtain ⟨c, e, h1, _⟩ := h
  rw [CR] at h1
  have h1 : c = [.int k i] := h1
  rw [e, h1]; rfl
theorem vr_bool {b : Bool} {u : Value} (h : VR x (.dat .bool b) u) : u = .bool b := by
  obtain ⟨c, e, h1, _⟩ := h
  rw [CR] at h1
  have h1 : c = [.bool b] := h1
  rw [e, h1]; rfl
theorem vr_str {s : ByteArray} {u : Value} (h : VR x (.dat .str s) u) : u = .string s := by
  obtain ⟨c, e, h1, _⟩ := h
  rw [CR] at h1
  have h1 : c = [.string s] := h1
  rw [e, h1]; rfl
theorem vr_intI (k : IntKind) (i : Int) : VR x (.dat (.int k) i) (.int k i) := ⟨[.int k i], rfl, by rw [CR]; exact rfl, rfl⟩
theorem vr_boolI (b : Bool) : VR x (.dat .bool b) (.bool b) := ⟨[.bool b], rfl, by rw [CR]; exact rfl, rfl⟩
theorem vr_strI (s : ByteArray) : VR x (.dat .str s) (.string s) := ⟨[.string s], rfl, by rw [CR]; exact rfl, rfl⟩
theorem vr_nilp {u : Value} (h : VR x .nilp u) : u = .pointer none := by
  obtain ⟨c, e, h1, _⟩ := h
  rw [CR] at h1
  rw [e, h1]; rfl
theorem vr_nils {u : Value} (h : VR x .nils u) : u = .slice none 0 0 := by
  obtain ⟨c, e, h1, _⟩ := h
  rw [CR] at h1
  rw [e, h1]; rfl
theorem vr_nilf {u : Value} (h : VR x .nilf u) : u = .nilFunc := by
  obtain ⟨c, e, h1, _⟩ := h
  rw [CR] at h1
  rw [e, h1]; rfl
theorem vr_ptr {i : Nat} {p : List Step} {u : Value} (h : VR x (.ptr i p) u) : i < x.m ∧ ∃ b, (x.g i).a = some ⟨b, 0, none⟩ ∧ u = .pointer (some ⟨b, offs p, none⟩) := by
  obtain ⟨c, e, h1, _⟩ := h
  rw [CR] at h1
  obtain ⟨h2, b, h3, h4⟩ := h1
  exact ⟨h2, b, h3, by rw [e, h4]; rfl⟩
theorem vr_ptrI {i : Nat} {p : List Step} {b : Nat} (h : i < x.m) (ha : (x.g i).a = some ⟨b, 0, none⟩) : VR x (.ptr i p) (.pointer (some ⟨b, offs p, none⟩)) := ⟨[.pointer (some ⟨b, offs p, none⟩)], rfl, by rw [CR]; exact ⟨h, b, ha, rfl⟩, rfl⟩
theorem vr_rdp {t : T} {d : t.den} {u : Value} (h : VR x (.rdp t d) u) : ∃ b o c, u = .pointer (some ⟨b, o, none⟩) ∧ ¬ x.A b ∧ Lies x.h b o c ∧ t.kd.K x.A x.h d c := by
  obtain ⟨c, e, h1, _⟩ := h
  rw [CR] at h1
  obtain ⟨b, o, c', h2, h3⟩ := h1
  exact ⟨b, o, c', by rw [e, h2]; rfl, h3⟩
theorem vr_rdpI {t : T} {d : t.den} {b o : Nat} {c : List Value} (h1 : ¬ x.A b) (h2 : Lies x.h b o c) (h3 : t.kd.K x.A x.h d c) : VR x (.rdp t d) (.pointer (some ⟨b, o, none⟩)) := ⟨[.pointer (some ⟨b, o, none⟩)], rfl, by rw [CR]; exact ⟨b, o, c, rfl, h1, h2, h3⟩, rfl⟩
theorem vr_tup {l : List AV} {u : Value} (h : VR x (.tup l) u) : ∃ m, u = .tuple m.toArray ∧ VRs x l m := h
theorem kd_len {t : T} {A : Nat → Prop} {h : Array Obj} {d : t.den} {cs : List Value} (r : t.kd.K A h d cs) : cs.length = t.sz := by rw [← T.kd_sz]; exact t.kd.len r
/-- data -/
theorem vr_datI {t : T} {d : t.den} {cs : List Value} (h : t.kd.K x.A x.h d cs) : VR x (.dat t d) (form (AV.isAgg (.dat t d)) cs) := ⟨cs, rfl, by rw [CR]; exact h, kd_len h⟩
theorem vr_dat {t : T} {d : t.den} {u : Value} (h : VR x (.dat t d) u) : ∃ cs, t.kd.K x.A x.h d cs ∧ u = form (AV.isAgg (.dat t d)) cs := by
  obtain ⟨c, e, h1, _⟩ := h
  rw [CR] at h1
  exact ⟨c, h1, e⟩
end

/-! ### operands -/
def SlR (x : Cx) (s : Slots) (a : Act) : Prop := ∀ t v, lookA t s = some v → VR x v (a.tmps.getD t undef)
theorem SlR.up {x y : Cx} {s : Slots} {a : Act} (h : SlR x s a) (le : x.Le y) : SlR y s a := fun t v hv => (h t v hv).up le
theorem ofConst_ok {x : Cx} {u : Value} {v : AV} (h : ofConst u = some v) : VR x v u := by
  unfold ofConst at h
  split at h <;> first | (obtain rfl := Option.some.inj h) | cases h
  · exact vr_boolI _
  · exact vr_intI _ _
  · exact vr_strI _
  · exact ⟨_, rfl, by rw [CR]; exact rfl, rfl⟩
  · exact ⟨[.complex .f64 _ _], rfl, by rw [CR]; exact rfl, rfl⟩
  · exact ⟨[.pointer none], rfl, by rw [CR], rfl⟩
  · exact ⟨[.slice none 0 0], rfl, by rw [CR], rfl⟩
  · exact ⟨[.map none], rfl, by rw [CR], rfl⟩
  · exact ⟨[.nilFunc], rfl, by rw [CR], rfl⟩
  · exact ⟨[.nilIface], rfl, by rw [CR], rfl⟩
theorem ev_ok {x : Cx} (hg : GlR x) {s : Slots} {a : Act} (hs : SlR x s a) {o : Operand} {v : AV} (h : ev s o = some v) : VR x v (a.eval o) := by
  cases o with
  | tmp t => exact hs t v h
  | const u => exact ofConst_ok h
  | func f =>
    obtain rfl := Option.some.inj h
    exact ⟨[.func (.func f) #[] #[]], rfl, by rw [CR]; exact ⟨[], [], rfl, by rw [VRs], by rw [VRs]⟩, rfl⟩
  | global g =>
    have h : (match Glb.gl g with | some z => some (AV.rdp z.1 z.2) | none => none) = some v := h
    split at h
    · rename_i z hz
      obtain rfl := Option.some.inj h
      exact (hg g z hz).1
    · cases h
theorem evs_ok {x : Cx} (hg : GlR x) {s : Slots} {a : Act} (hs : SlR x s a) : ∀ {l : List Operand} {vs : List AV}, Mx.evs s l = some vs → A2 (VR x) vs (l.map a.eval)
  | [], vs, h => by obtain rfl := Option.some.inj h; exact .nil
  | o :: l, vs, h => by
    rw [Mx.evs] at h
    split at h
    · rename_i v hv
      split at h
      · rename_i r hr
        obtain rfl := Option.some.inj h
        exact .cons (ev_ok hg hs hv) (evs_ok hg hs hr)
      · cases h
    · cases h
/-- an act is known by all that stands in it -/
def bnd (a : Act) (N : Nat) : List (Nat × Value) := (List.range N).map fun t => (t, a.tmps.getD t undef)
theorem look_map {f : Nat → Value} {t : Nat} : ∀ {l : List Nat} {u : Value}, Sx.look t (l.map fun i => (i, f i)) = some u → u = f t
  | [], u, h => by cases h
  | i :: l, u, h => by
    simp only [List.map_cons, Sx.look] at h
    cases hc : Nat.beq i t with
    | true => rw [hc] at h; have := Nat.eq_of_beq_eq_true hc; subst this; exact (Option.some.inj h).symm
    | false => rw [hc] at h; exact look_map h
theorem look_mem {f : Nat → Value} {t : Nat} : ∀ {l : List Nat}, t ∈ l → Sx.look t (l.map fun i => (i, f i)) = some (f t)
  | [], h => by cases h
  | i :: l, h => by
    simp only [List.map_cons, Sx.look]
    cases hc : Nat.beq i t with
    | true => have := Nat.eq_of_beq_eq_true hc; subst this; rfl
    | false =>
      rcases List.mem_cons.1 h with e | h
      · subst e; rw [beq_self] at hc; cases hc
      · exact look_mem h
theorem bnd_has {a : Act} (N : Nat) (hd : a.defers = []) : Has a.tmps.size (bnd a N) a := ⟨rfl, hd, fun _ _ h => (look_map h).symm⟩
def Op1 : Operand → Nat
  | .tmp t => t + 1
  | _ => 0
theorem bnd_ev {a : Act} {N : Nat} {o : Operand} (h : Op1 o ≤ N) : Sx.ev (bnd a N) o = some (a.eval o) := by
  cases o with
  | tmp t => exact look_mem (List.mem_range.2 h)
  | _ => rfl

/-! ### what an operation comes to -/
section
variable {R : Type} {P : Program} {W : Nat → Prop} {S : List AO} {ρ : Nat → Geo} {w : World} {a : Act}
/-- The operation, done, comes to one of those with which K goes on to r. -/
def Comes (P : Program) (W : Nat → Prop) (S : List AO) (ρ : Nat → Geo) (w : World) (o : Oper) (a : Act) (K : KV R) (r : R) : Prop :=
  Does P o a w fun u w' => ∃ v S' ρ', K v S' = some r ∧ Aft W S ρ w S' ρ' w' ∧ VR (cx W S' ρ' w') v u
theorem Comes.is {o : Oper} {K : KV R} {r : R} {u : Value} {v : AV} (h : Rel W S ρ w) (hd : Does P o a w (Is u w)) (hK : K v S = some r) (hv : VR (cx W S ρ w) v u) : Comes P W S ρ w o a K r :=
  hd.mono fun u' w' ⟨e1, e2⟩ => by subst e1; subst e2; exact ⟨v, S, ρ, hK, Aft.refl h, hv⟩
theorem Comes.at {o : Oper} {K : KV R} {r : R} {φ : Value → Prop} {v : AV} (h : Rel W S ρ w) (hd : Does P o a w (fun u w' => w' = w ∧ φ u)) (hK : K v S = some r) (hv : ∀ u, φ u → VR (cx W S ρ w) v u) : Comes P W S ρ w o a K r :=
  hd.mono fun u' w' ⟨e1, e2⟩ => by subst e1; exact ⟨v, S, ρ, hK, Aft.refl h, hv _ e2⟩

variable {d : Option Nat} {ty T' T2 : TypeId} {pos : String} {af : Array Edge} {g : Option (Nat × Bool)} {y z : Operand} {K : KV R} {r : R}
/-- whole numbers -/
theorem arith_ok {op : BinOp} {k : IntKind} {i j : Int} (h : Rel W S ρ w) (hd : a.defers = []) (hy : a.eval y = .int k i) (hz : a.eval z = .int k j) (hK : arith op k i j S K = some r) : Comes P W S ρ w ⟨d, .binOp op T' y z T2, ty, pos, af, g⟩ a K r := by
  have ha := bnd_has (a := a) (Op1 y + Op1 z) hd
  have e1 : Sx.ev (bnd a (Op1 y + Op1 z)) y = some (.int k i) := by rw [bnd_ev (by omega), hy]
  have e2 : Sx.ev (bnd a (Op1 y + Op1 z)) z = some (.int k j) := by rw [bnd_ev (by omega), hz]
  unfold arith at hK
  split at hK
  · exact Comes.is h (d_add ha e1 e2) hK (vr_intI _ _)
  · exact Comes.is h (d_sub ha e1 e2) hK (vr_intI _ _)
  · exact Comes.is h (d_mul ha e1 e2) hK (vr_intI _ _)
  · obtain ⟨hj, hK⟩ := ck_elim hK
    exact Comes.is h (d_quo ha e1 e2 hj) hK (vr_intI _ _)
  · obtain ⟨hj, hK⟩ := ck_elim hK
    exact Comes.is h (d_rem ha e1 e2 hj) hK (vr_intI _ _)
  · exact Comes.is h (d_and ha e1 e2) hK (vr_intI _ _)
  · exact Comes.is h (d_or ha e1 e2) hK (vr_intI _ _)
  · exact Comes.is h (d_xor ha e1 e2) hK (vr_intI _ _)
  · exact Comes.is h (d_andNot ha e1 e2) hK (vr_intI _ _)
  · exact Comes.is h (d_eqI ha e1 e2) hK (vr_boolI _)
  · exact Comes.is h (d_neI ha e1 e2) hK (vr_boolI _)
  · exact Comes.is h (d_lt ha e1 e2) hK (vr_boolI _)
  · exact Comes.is h (d_le ha e1 e2) hK (vr_boolI _)
  · exact Comes.is h (d_gt ha e1 e2) hK (vr_boolI _)
  · exact Comes.is h (d_ge ha e1 e2) hK (vr_boolI _)
  · cases hK
theorem un_ok {op : UnOp} {v : AV} (h : Rel W S ρ w) (hd : a.defers = []) (hy : VR (cx W S ρ w) v (a.eval y)) (hK : un op v S K = some r) : Comes P W S ρ w ⟨d, .unOp op T' y, ty, pos, af, g⟩ a K r := by
  have ha := bnd_has (a := a) (Op1 y) hd
  have e1 : Sx.ev (bnd a (Op1 y)) y = some (a.eval y) := bnd_ev (Nat.le_refl _)
  unfold un at hK
  split at hK
  · rw [vr_bool hy] at e1
    exact Comes.is h (d_not ha e1) hK (vr_boolI _)
  · rw [vr_int hy] at e1
    exact Comes.is h (d_neg ha e1) hK (vr_intI _ _)
  · rw [vr_int hy] at e1
    exact Comes.is h (Does.val (by simp [execOp, ha.ev e1, Op.unary, intBits_xor])) hK (vr_intI _ _)
  · cases hK
end
end Go.Mx

/- Parts of values: read, written. -/
namespace Go.Mx
open Go Go.RowKit Go.Sx
variable [Glb]
set_option linter.unusedSectionVars false

section
variable {x : Cx} {R : Type} {r : R}
theorem cr_dat {t : T} {d : t.den} {cs : List Value} : CR x (.dat t d) cs ↔ t.kd.K x.A x.h d cs := by rw [CR]
theorem cr_oneI {a : AV} {cs : List Value} : CR x (.one a) cs ↔ CR x a cs := by rw [CR]
theorem cr_pr {a b : AV} {cs : List Value} (h : CR x (.pr a b) cs) : CR x (mkpr a b) cs := by
  cases a with
  | dat t1 d1 =>
    cases b with
    | dat t2 d2 =>
      rw [CR] at h
      obtain ⟨c1, c2, e, h1, h2⟩ := h
      exact (cr_dat (t := .pair t1 t2)).2 ⟨c1, c2, e, cr_dat.1 h1, cr_dat.1 h2⟩
    | _ => exact h
  | _ => exact h
theorem cr_one {a : AV} {cs : List Value} (h : CR x a cs) : CR x (mkone a) cs := by
  cases a with
  | dat t d =>
    exact (cr_dat (t := .one t)).2 (cr_dat.1 h)
  | _ => exact cr_oneI.2 h
theorem sz_pr (a b : AV) : (mkpr a b).sz = a.sz + b.sz := by
  unfold mkpr; split <;> rfl
theorem sz_one (a : AV) : (mkone a).sz = a.sz := by
  unfold mkone; split <;> rfl
theorem cr_pair {a b : T} {d : (T.pair a b).den} {cs : List Value} (h : CR x (.dat (.pair a b) d) cs) : CR x (.pr (.dat a d.1) (.dat b d.2)) cs := by
  obtain ⟨c1, c2, e, h1, h2⟩ := cr_dat.1 h
  rw [CR]
  exact ⟨c1, c2, e, cr_dat.2 h1, cr_dat.2 h2⟩
theorem dec_dat (t t' : T) (y : t'.den) : dec t (.dat t' y) = if h : t' = t then some (h ▸ y) else none := by cases t <;> rfl
theorem dec_datok {t t' : T} {y : t'.den} {d : t.den} {cs : List Value} (h : dec t (.dat t' y) = some d) (hc : CR x (.dat t' y) cs) : t.kd.K x.A x.h d cs := by
  rw [dec_dat] at h
  split at h
  · rename_i e
    subst e
    obtain rfl := Option.some.inj h
    rw [CR] at hc
    exact hc
  · cases h
theorem dec_ok : ∀ (t : T) (v : AV) (cs : List Value) {d : t.den}, dec t v = some d → CR x v cs → t.kd.K x.A x.h d cs := by
  intro t
  induction t with
  | sl t _ =>
    intro v cs d h hc
    cases v with
    | dat t' y => exact dec_datok h hc
    | nils =>
      obtain rfl : [] = d := Option.some.inj h
      rw [CR] at hc
      exact ⟨none, 0, by rw [hc]; rfl, Raw.nil _ _ _ none 0 (Nat.zero_le _)⟩
    | cut t' =>
      obtain rfl : [] = d := Option.some.inj h
      rw [CR] at hc
      obtain ⟨q, hc⟩ := hc
      exact ⟨q, 0, by rw [hc]; rfl, Raw.nil _ _ _ q 0 (Nat.zero_le _)⟩
    | nilw t' =>
      obtain rfl : [] = d := Option.some.inj h
      rw [CR] at hc
      obtain ⟨q, hq, hc⟩ := hc
      exact ⟨none, q, by rw [hc]; rfl, Raw.nil _ _ _ none q hq⟩
    | fn f fs ks => cases fs <;> cases ks <;> cases h
    | _ => cases h
  | pair a b iha ihb =>
    intro v cs d h hc
    cases v with
    | dat t' y => exact dec_datok h hc
    | pr u v =>
      rw [CR] at hc
      obtain ⟨c1, c2, e, h1, h2⟩ := hc
      rw [dec] at h
      split at h
      · rename_i y hy
        split at h
        · rename_i z hz
          obtain rfl : (y, z) = d := Option.some.inj h
          exact ⟨c1, c2, e, iha u c1 hy h1, ihb v c2 hz h2⟩
        · cases h
      · cases h
    | fn f fs ks => cases fs <;> cases ks <;> cases h
    | _ => cases h
  | one a iha =>
    intro v cs d h hc
    cases v with
    | dat t' y => exact dec_datok h hc
    | one u =>
      rw [CR] at hc
      rw [dec] at h
      exact iha u cs h hc
    | fn f fs ks => cases fs <;> cases ks <;> cases h
    | _ => cases h
  | fn =>
    intro v cs d h hc
    cases v with
    | dat t' y => exact dec_datok h hc
    | fn f fs ks =>
      match fs, ks, h, hc with
      | [], [], h, hc =>
        obtain rfl : f = d := Option.some.inj h
        rw [CR] at hc
        obtain ⟨l, m, e, h1, h2⟩ := hc
        rw [VRs] at h1 h2
        rw [e, h1, h2]
        exact rfl
      | _ :: _, _, h, _ => cases h
      | [], _ :: _, h, _ => cases h
    | _ => cases h
  | _ =>
    intro v cs d h hc
    cases v with
    | dat t' y => exact dec_datok h hc
    | fn f fs ks => cases fs <;> cases ks <;> cases h
    | _ => cases h
theorem getK_ok : ∀ (p : List Step) (v : AV) (cs : List Value) {K : AV → Option R}, getK v p K = some r → CR x v cs → cs.length = v.sz →
    ∃ u us, K u = some r ∧ CR x u us ∧ us.length = u.sz ∧ ∀ j c, us[j]? = some c → cs[offs p + j]? = some c := by
  intro p
  induction p with
  | nil =>
    intro v cs K h hc hl
    have h : K v = some r := by cases v <;> exact h
    exact ⟨v, cs, h, hc, hl, fun j c hj => by rw [offs, Nat.zero_add]; exact hj⟩
  | cons s p ih =>
    intro v cs K h hc hl
    unfold getK at h
    split at h
    · rename_i he; cases he
    · rename_i he
      obtain ⟨rfl, rfl⟩ := List.cons.inj he
      have hp := cr_pair hc
      rw [CR] at hp
      obtain ⟨c1, c2, e, h1, h2⟩ := hp
      obtain ⟨u, us, k1, k2, k3, k4⟩ := ih _ _ h h1 (cr_len h1)
      refine ⟨u, us, k1, k2, k3, fun j c hj => ?_⟩
      have := k4 j c hj
      show cs[offs p + j]? = some c
      rw [e, List.getElem?_append, if_pos (List.getElem?_eq_some_iff.1 this).1]
      exact this
    · rename_i a b d k q he
      obtain ⟨rfl, rfl⟩ := List.cons.inj he
      have hp := cr_pair hc
      rw [CR] at hp
      obtain ⟨c1, c2, e, h1, h2⟩ := hp
      have l1 : c1.length = a.sz := by rw [CR] at h1; exact kd_len h1
      have l2 : c2.length = b.sz := by rw [CR] at h2; exact kd_len h2
      cases hk : Nat.beq k a.sz with
      | false => rw [hk] at h; cases h
      | true =>
        rw [hk] at h
        have hk := Nat.eq_of_beq_eq_true hk
        obtain ⟨u, us, k1, k2, k3, k4⟩ := ih _ _ h h2 l2
        refine ⟨u, us, k1, k2, k3, fun j c hj => ?_⟩
        have := k4 j c hj
        rw [offs, e, List.getElem?_append, if_neg (by omega), show k + offs p + j - c1.length = offs p + j by omega]
        exact this
    · rename_i he
      obtain ⟨rfl, rfl⟩ := List.cons.inj he
      rw [CR] at hc
      obtain ⟨u, us, k1, k2, k3, k4⟩ := ih _ _ h (by rw [CR]; exact hc) hl
      exact ⟨u, us, k1, k2, k3, k4⟩
    · rename_i n t xs i s' q he
      obtain ⟨rfl, rfl⟩ := List.cons.inj he
      cases hk : Nat.beq s' t.sz with
      | false => rw [hk] at h; cases h
      | true =>
        rw [hk] at h
        have hk := Nat.eq_of_beq_eq_true hk
        obtain ⟨y, hy, h⟩ := bind_elim h
        rw [CR] at hc
        have hc : xs.length = n ∧ Els (t.kd.K x.A x.h) xs cs := hc
        obtain ⟨hi, rfl⟩ := List.getElem?_eq_some_iff.1 hy
        obtain ⟨c, hK, hg⟩ := hc.2.get (fun _ _ h => kd_len h) i hi
        obtain ⟨u, us, k1, k2, k3, k4⟩ := ih _ _ h (by rw [CR]; exact hK) (kd_len hK)
        refine ⟨u, us, k1, k2, k3, fun j c hj => ?_⟩
        have := hg _ _ (k4 j c hj)
        rw [offs, hk, Nat.add_assoc]
        exact this
    · rename_i he
      obtain ⟨rfl, rfl⟩ := List.cons.inj he
      rw [CR] at hc
      obtain ⟨c1, c2, e, h1, h2⟩ := hc
      obtain ⟨u, us, k1, k2, k3, k4⟩ := ih _ _ h h1 (cr_len h1)
      refine ⟨u, us, k1, k2, k3, fun j c hj => ?_⟩
      have := k4 j c hj
      show cs[offs p + j]? = some c
      rw [e, List.getElem?_append, if_pos (List.getElem?_eq_some_iff.1 this).1]
      exact this
    · rename_i a b k q he
      obtain ⟨rfl, rfl⟩ := List.cons.inj he
      rw [CR] at hc
      obtain ⟨c1, c2, e, h1, h2⟩ := hc
      cases hk : Nat.beq k a.sz with
      | false => rw [hk] at h; cases h
      | true =>
        rw [hk] at h
        have hk := Nat.eq_of_beq_eq_true hk
        have l1 := cr_len h1
        obtain ⟨u, us, k1, k2, k3, k4⟩ := ih _ _ h h2 (cr_len h2)
        refine ⟨u, us, k1, k2, k3, fun j c hj => ?_⟩
        have := k4 j c hj
        rw [offs, e, List.getElem?_append, if_neg (by omega), show k + offs p + j - c1.length = offs p + j by omega]
        exact this
    · rename_i he
      obtain ⟨rfl, rfl⟩ := List.cons.inj he
      rw [CR] at hc
      obtain ⟨u, us, k1, k2, k3, k4⟩ := ih _ _ h hc hl
      exact ⟨u, us, k1, k2, k3, k4⟩
    · cases h
end
end Go.Mx

/- Parts of values, written; single cells. -/
namespace Go.Mx
open Go Go.RowKit Go.Sx
variable [Glb]
set_option linter.unusedSectionVars false

section
variable {x : Cx} {R : Type} {r : R}
theorem put_get {cs us : List Value} {o k : Nat} (h : o + us.length ≤ cs.length) : (put cs o us)[k]? = if k < o then cs[k]? else if k < o + us.length then us[k - o]? else cs[k]? := by
  unfold put
  have hl : (cs.take o).length = o := by rw [List.length_take]; omega
  rw [List.append_assoc, List.getElem?_append, hl]
  by_cases h1 : k < o
  · rw [if_pos h1, if_pos h1, List.getElem?_take, if_pos h1]
  · rw [if_neg h1, if_neg h1, List.getElem?_append]
    by_cases h2 : k < o + us.length
    · rw [if_pos h2, if_pos (by omega)]
    · rw [if_neg h2, if_neg (by omega), List.getElem?_drop]
      congr 1
      omega
theorem put_len {cs us : List Value} {o : Nat} (h : o + us.length ≤ cs.length) : (put cs o us).length = cs.length := by
  unfold put
  simp only [List.length_append, List.length_take, List.length_drop]
  omega
theorem put_all {cs us : List Value} (h : us.length = cs.length) : put cs 0 us = us := by
  unfold put
  rw [List.take_zero, List.nil_append, List.drop_of_length_le (by omega), List.append_nil]
theorem put_fst {c1 c2 us : List Value} {o : Nat} (h : o + us.length ≤ c1.length) : put (c1 ++ c2) o us = put c1 o us ++ c2 := by
  apply List.ext_getElem?
  intro k
  rw [put_get (by rw [List.length_append]; omega), List.getElem?_append (l₁ := put c1 o us), put_len h, put_get h, List.getElem?_append]
  repeat' split
  all_goals first | rfl | omega
theorem put_snd {c1 c2 us : List Value} {o m : Nat} (hm : m = c1.length + o) (h : o + us.length ≤ c2.length) : put (c1 ++ c2) m us = c1 ++ put c2 o us := by
  subst hm
  apply List.ext_getElem?
  intro k
  rw [put_get (by rw [List.length_append]; omega), List.getElem?_append (l₂ := put c2 o us), put_get h, List.getElem?_append]
  repeat' split
  all_goals first | rfl | omega | (congr 1; omega)
theorem put_mid {cs c us : List Value} {o m s : Nat} (hc : c.length = s) (hg : ∀ i v, c[i]? = some v → cs[m + i]? = some v) (hm : m + s ≤ cs.length) (h : o + us.length ≤ c.length) : put cs (m + o) us = cs.take m ++ put c o us ++ cs.drop (m + s) := by
  apply List.ext_getElem?
  intro k
  have hl : (cs.take m).length = m := by rw [List.length_take]; omega
  rw [put_get (by omega), List.append_assoc, List.getElem?_append, hl, List.getElem?_append, put_len h, put_get h]
  by_cases h1 : k < m
  · rw [if_pos (by omega), if_pos h1, List.getElem?_take, if_pos h1]
  · rw [if_neg h1]
    have hk : ∀ i, i < s → c[i]? = cs[m + i]? := fun i hi => by
      rw [List.getElem?_eq_getElem (by omega)]
      exact (hg i _ (List.getElem?_eq_getElem (by omega))).symm
    by_cases h2 : k < m + o
    · rw [if_pos h2, if_pos (by omega), if_pos (by omega), hk _ (by omega)]
      congr 1
      omega
    · rw [if_neg h2]
      by_cases h3 : k < m + o + us.length
      · rw [if_pos h3, if_pos (by omega), if_neg (by omega), if_pos (by omega)]
        congr 1
        omega
      · rw [if_neg h3]
        by_cases h4 : k < m + s
        · rw [if_pos (by omega), if_neg (by omega), if_neg (by omega), hk _ (by omega)]
          congr 1
          omega
        · rw [if_neg (by omega), List.getElem?_drop]
          congr 1
          omega
theorem setK_ok : ∀ (p : List Step) (v : AV) (cs : List Value) (u : AV) (us : List Value) {K : AV → Option R}, setK v p u K = some r → CR x v cs → CR x u us →
    ∃ y, K y = some r ∧ CR x y (put cs (offs p) us) ∧ offs p + us.length ≤ cs.length := by
  intro p
  induction p with
  | nil =>
    intro v cs u us K h hc hu
    have h : cond (Nat.beq v.sz u.sz) (K u) none = some r := by cases v <;> exact h
    cases hb : Nat.beq v.sz u.sz with
    | false => rw [hb] at h; cases h
    | true =>
      rw [hb] at h
      have hb := Nat.eq_of_beq_eq_true hb
      have l1 := cr_len hc
      have l2 := cr_len hu
      exact ⟨u, h, by rw [offs, put_all (by omega)]; exact hu, by rw [offs]; omega⟩
  | cons s p ih =>
    intro v cs u us K h hc hu
    unfold setK at h
    split at h
    · rename_i he; cases he
    · rename_i he
      obtain ⟨rfl, rfl⟩ := List.cons.inj he
      have hp := cr_pair hc
      rw [CR] at hp
      obtain ⟨c1, c2, e, h1, h2⟩ := hp
      obtain ⟨y, k1, k2, k3⟩ := ih _ _ _ _ h h1 hu
      refine ⟨_, k1, ?_, ?_⟩
      · show CR x _ (put cs (offs p) us)
        rw [e, put_fst k3]
        exact cr_pr (by rw [CR]; exact ⟨_, _, rfl, k2, h2⟩)
      · show offs p + us.length ≤ cs.length
        rw [e, List.length_append]; omega
    · rename_i a b d k q he
      obtain ⟨rfl, rfl⟩ := List.cons.inj he
      have hp := cr_pair hc
      rw [CR] at hp
      obtain ⟨c1, c2, e, h1, h2⟩ := hp
      have l1 : c1.length = a.sz := cr_len h1
      cases hk : Nat.beq k a.sz with
      | false => rw [hk] at h; cases h
      | true =>
        rw [hk] at h
        have hk := Nat.eq_of_beq_eq_true hk
        obtain ⟨y, k1, k2, k3⟩ := ih _ _ _ _ h h2 hu
        refine ⟨_, k1, ?_, ?_⟩
        · show CR x _ (put cs (k + offs p) us)
          rw [e, put_snd (o := offs p) (by omega) k3]
          exact cr_pr (by rw [CR]; exact ⟨_, _, rfl, h1, k2⟩)
        · show k + offs p + us.length ≤ cs.length
          rw [e, List.length_append]; omega
    · rename_i he
      obtain ⟨rfl, rfl⟩ := List.cons.inj he
      obtain ⟨y, k1, k2, k3⟩ := ih _ _ _ _ h (cr_dat.2 (cr_dat.1 hc)) hu
      exact ⟨_, k1, cr_one k2, k3⟩
    · rename_i n t xs i s' q he
      obtain ⟨rfl, rfl⟩ := List.cons.inj he
      cases hk : Nat.beq s' t.sz with
      | false => rw [hk] at h; cases h
      | true =>
        rw [hk] at h
        have hk := Nat.eq_of_beq_eq_true hk
        obtain ⟨z, hz, h⟩ := bind_elim h
        have hc : xs.length = n ∧ Els (t.kd.K x.A x.h) xs cs := cr_dat.1 hc
        obtain ⟨hi, rfl⟩ := List.getElem?_eq_some_iff.1 hz
        obtain ⟨c, hK, hg⟩ := hc.2.get (fun _ _ h => kd_len h) i hi
        obtain ⟨y, k1, k2, k3⟩ := ih _ _ _ _ h (cr_dat.2 hK) hu
        split at k1
        · rename_i d hd
          have hd := dec_ok t y _ hd k2
          have hcl : c.length = t.sz := kd_len hK
          have hlen := hc.2.length (fun _ _ h => kd_len h)
          have hm : i * t.sz + t.sz ≤ cs.length := by
            rw [hlen]
            calc i * t.sz + t.sz = (i + 1) * t.sz := by rw [Nat.add_mul, Nat.one_mul]
              _ ≤ xs.length * t.sz := Nat.mul_le_mul_right _ hi
          refine ⟨_, k1, ?_, ?_⟩
          · show CR x _ (put cs (i * s' + offs p) us)
            rw [hk, put_mid hcl hg hm k3]
            refine (cr_dat (t := .arr n t)).2 ⟨by rw [List.length_set]; exact hc.1, ?_⟩
            exact hc.2.set (fun _ _ h => kd_len h) i hi hd
          · show i * s' + offs p + us.length ≤ cs.length
            rw [hk]; omega
        · cases k1
    · rename_i he
      obtain ⟨rfl, rfl⟩ := List.cons.inj he
      rw [CR] at hc
      obtain ⟨c1, c2, e, h1, h2⟩ := hc
      obtain ⟨y, k1, k2, k3⟩ := ih _ _ _ _ h h1 hu
      refine ⟨_, k1, ?_, ?_⟩
      · show CR x _ (put cs (offs p) us)
        rw [e, put_fst k3]
        exact cr_pr (by rw [CR]; exact ⟨_, _, rfl, k2, h2⟩)
      · show offs p + us.length ≤ cs.length
        rw [e, List.length_append]; omega
    · rename_i a b k q he
      obtain ⟨rfl, rfl⟩ := List.cons.inj he
      rw [CR] at hc
      obtain ⟨c1, c2, e, h1, h2⟩ := hc
      have l1 : c1.length = a.sz := cr_len h1
      cases hk : Nat.beq k a.sz with
      | false => rw [hk] at h; cases h
      | true =>
        rw [hk] at h
        have hk := Nat.eq_of_beq_eq_true hk
        obtain ⟨y, k1, k2, k3⟩ := ih _ _ _ _ h h2 hu
        refine ⟨_, k1, ?_, ?_⟩
        · show CR x _ (put cs (k + offs p) us)
          rw [e, put_snd (o := offs p) (by omega) k3]
          exact cr_pr (by rw [CR]; exact ⟨_, _, rfl, h1, k2⟩)
        · show k + offs p + us.length ≤ cs.length
          rw [e, List.length_append]; omega
    · rename_i he
      obtain ⟨rfl, rfl⟩ := List.cons.inj he
      obtain ⟨y, k1, k2, k3⟩ := ih _ _ _ _ h (cr_oneI.1 hc) hu
      exact ⟨_, k1, cr_one k2, k3⟩
    · cases h
theorem form_one (g : Bool) {c : List Value} (h : ∀ u ∈ c, u.oneCell' = true) (hl : g = false → c.length = 1) : (form g c).cells = c.toArray := by
  cases g with
  | true => rfl
  | false =>
    match c, hl rfl, h with
    | [u], _, h =>
      have := h u (by simp)
      show u.cells = #[u]
      cases u <;> first | rfl | cases this
/-- what is in a cell is no aggregate -/
theorem cr_cell : ∀ (v : AV) {cs : List Value}, CR x v cs → ∀ u ∈ cs, u.oneCell' = true := by
  intro v
  induction v using AV.rec (motive_2 := fun _ => True) with
  | dat t d => intro cs h; exact t.kd.one (cr_dat.1 h)
  | pr a b ha hb =>
    intro cs h u hu
    rw [CR] at h
    obtain ⟨c1, c2, e, h1, h2⟩ := h
    rw [e, List.mem_append] at hu
    exact hu.elim (ha h1 u) (hb h2 u)
  | one a ha => intro cs h; exact ha (cr_oneI.1 h)
  | ptr i p => intro cs h u hu; rw [CR] at h; obtain ⟨_, b, _, e⟩ := h; rw [e] at hu; rw [List.mem_singleton.1 hu]; rfl
  | nilp => intro cs h u hu; rw [CR] at h; rw [h] at hu; rw [List.mem_singleton.1 hu]; rfl
  | rdp t d => intro cs h u hu; rw [CR] at h; obtain ⟨b, o, c, e, _⟩ := h; rw [e] at hu; rw [List.mem_singleton.1 hu]; rfl
  | view i => intro cs h u hu; rw [CR] at h; rw [h.2] at hu; rw [List.mem_singleton.1 hu]; rfl
  | pre i n => intro cs h u hu; rw [CR] at h; rw [h.2.2] at hu; rw [List.mem_singleton.1 hu]; rfl
  | tgt i n => intro cs h u hu; rw [CR] at h; rw [h.2.2] at hu; rw [List.mem_singleton.1 hu]; rfl
  | win i o n => intro cs h u hu; rw [CR] at h; obtain ⟨_, _, q, c, _, _, _, e⟩ := h; rw [e] at hu; rw [List.mem_singleton.1 hu]; rfl
  | nils => intro cs h u hu; rw [CR] at h; rw [h] at hu; rw [List.mem_singleton.1 hu]; rfl
  | cut t => intro cs h u hu; rw [CR] at h; obtain ⟨q, e⟩ := h; rw [e] at hu; rw [List.mem_singleton.1 hu]; rfl
  | nilw t => intro cs h u hu; rw [CR] at h; obtain ⟨q, _, e⟩ := h; rw [e] at hu; rw [List.mem_singleton.1 hu]; rfl
  | sln t d => intro cs h u hu; rw [CR] at h; obtain ⟨p, c, e, _⟩ := h; rw [e] at hu; rw [List.mem_singleton.1 hu]; rfl
  | mp i => intro cs h u hu; rw [CR] at h; obtain ⟨_, b, _, e⟩ := h; rw [e] at hu; rw [List.mem_singleton.1 hu]; rfl
  | nilm => intro cs h u hu; rw [CR] at h; rw [h] at hu; rw [List.mem_singleton.1 hu]; rfl
  | fn f fs ks _ _ => intro cs h u hu; rw [CR] at h; obtain ⟨l, m, e, _⟩ := h; rw [e] at hu; rw [List.mem_singleton.1 hu]; rfl
  | nilf => intro cs h u hu; rw [CR] at h; rw [h] at hu; rw [List.mem_singleton.1 hu]; rfl
  | iface t v _ => intro cs h u hu; rw [CR] at h; obtain ⟨c, e, _⟩ := h; rw [e] at hu; rw [List.mem_singleton.1 hu]; rfl
  | nilI => intro cs h u hu; rw [CR] at h; rw [h] at hu; rw [List.mem_singleton.1 hu]; rfl
  | tup l _ => intro cs h; rw [CR] at h; exact h.elim
  | undef => intro cs h; rw [CR] at h; exact h.elim
  | nil => trivial
  | cons _ _ _ _ => trivial
theorem agg_sz : ∀ {v : AV} {cs : List Value}, CR x v cs → v.isAgg = false → v.sz = 1 := by
  intro v cs h hg
  cases v with
  | dat t d => cases t <;> first | rfl | cases hg
  | pr a b => cases hg
  | one a => cases hg
  | _ => rfl
theorem cr_form {v : AV} {cs : List Value} (h : CR x v cs) : (form v.isAgg cs).cells = cs.toArray := form_one _ (cr_cell v h) (fun hg => by rw [cr_len h]; exact agg_sz h hg)
theorem vr_cr {v : AV} {u : Value} (h : VR x v u) (hp : v.plain = true) : ∃ cs, CR x v cs ∧ u = form v.isAgg cs := by
  cases v with
  | tup l => cases hp
  | undef => cases hp
  | _ => obtain ⟨c, e, h1, _⟩ := h; exact ⟨c, h1, e⟩
theorem cr_vr {v : AV} {cs : List Value} (h : CR x v cs) : VR x v (form v.isAgg cs) := by
  cases v with
  | tup l => rw [CR] at h; exact h.elim
  | undef => rw [CR] at h; exact h.elim
  | _ => exact ⟨cs, rfl, h, cr_len h⟩
end
end Go.Mx
