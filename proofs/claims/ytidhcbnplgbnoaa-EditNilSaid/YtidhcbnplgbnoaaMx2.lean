/- Own work. A part of the proof of a law of this seat: a part -/
import Derived.Test.YtidhcbnplgbnoaaMx1
/- The abstract machine: one operation, a region, code. -/
namespace Go.Mx
open Go Go.RowKit Go.Sx

/-- functions that are told by what they do -/
inductive Prim where
  | clone (e : TypeId)
  | same
  | text
structure Sums where
  prim : FuncId → Option Prim
  call : {R : Type} → FuncId → List AV → List AO → KV R → Option R
  wr : FuncId → List AV → List Nat

section
variable {R : Type}

def offs : List Step → Nat
  | [] => 0
  | .fst :: p => offs p
  | .snd k :: p => k + offs p
  | .one :: p => offs p
  | .idx i s :: p => i * s + offs p
/-- a value that is no list of results, and was told -/
def AV.plain : AV → Bool
  | .tup _ => false
  | .undef => false
  | _ => true
def AV.isAgg : AV → Bool
  | .dat t _ => t.aggB
  | .pr _ _ => true
  | .one _ => true
  | _ => false
def szOk (P : Program) (t : TypeId) (n : Nat) : Bool := match P.info? t with | some i => Nat.beq i.size n | none => false
def elemOf (P : Program) (t : TypeId) : Option TypeId :=
  match P.underlying t with
  | some (.slice e) => some e
  | _ => none
/-- what an append, a copy reads -/
def sdatY (ob : List AO) (t : T) (y : AV) : Option (List t.den) :=
  match y with
  | .nils => some []
  | y => (match sdat ob y with | some d => dec (.sl t) d | none => none)
def newRow (e : TypeId) (t : T) (xs : List t.den) (ob : List AO) (K : KV R) : Option R := K (.view ob.length) (ob ++ [.row e t xs .own])

def appendA (P : Program) (e : TypeId) (x y : AV) (ob : List AO) (K : KV R) : Option R :=
  elK P e fun t _ =>
  match sdatY ob t y with
  | some ys => (match x with
    | .nils => ck (ys.length * P.bytesOf e ≤ limit) (newRow e t ys ob K)
    | .view i => cond (y.ids.contains i) none (match ob[i]? with
      | some (.row e' t' xs .own) => if h : t' = t then cond (Nat.beq e' e) (ck ((xs.length + ys.length) * P.bytesOf e ≤ limit) (newRow e t ((h ▸ xs) ++ ys) (ob.set i .gone) K)) none else none
      | _ => none)
    | .pre i n => cond (y.ids.contains i) none (match ob[i]? with
      | some (.row e' t' xs .own) => if h : t' = t then cond (Nat.beq e' e) (ck ((n + ys.length) * P.bytesOf e ≤ limit) (newRow e t (List.take n (h ▸ xs) ++ ys) (ob.set i .gone) K)) none else none
      | _ => none)
    | .tgt i n => (match ob[i]?, ys with
      | some (.row e' t' xs _), z :: zs => if h : t' = t then cond (Nat.beq e' e) (ck ((n + (z :: zs).length) * P.bytesOf e ≤ limit) (newRow e t (List.take n (h ▸ xs) ++ (z :: zs)) ob K)) none else none
      | some _, [] => K (.tgt i n) ob
      | _, _ => none)
    | .cut t' => (match ys with
      | [] => K (.cut t') ob
      | z :: zs => ck ((z :: zs).length * P.bytesOf e ≤ limit) (newRow e t (z :: zs) ob K))
    | _ => none)
  | none => none
/-- append(x, make([]T, n)...) -/
def appendZ (P : Program) (e : TypeId) (x : AV) (n : Int) (ob : List AO) (K : KV R) : Option R :=
  elK P e fun t z =>
  match x with
  | .nils => ck (0 ≤ n ∧ n.toNat * P.bytesOf e ≤ limit) (newRow e t (List.replicate n.toNat z) ob K)
  | .view i => (match ob[i]? with
    | some (.row e' t' xs .own) => if h : t' = t then cond (Nat.beq e' e) (ck (0 ≤ n ∧ (xs.length + n.toNat) * P.bytesOf e ≤ limit) (newRow e t ((h ▸ xs) ++ List.replicate n.toNat z) (ob.set i .gone) K)) none else none
    | _ => none)
  | _ => none

def optI (s : Slots) : Option Operand → Option (Option Int)
  | none => some none
  | some x => (match ev s x with | some (.dat (.int _) i) => some (some i) | _ => none)
/-- is it a slice of such data? -/
def slOk (P : Program) (T' : TypeId) (t : T) : Bool := match P.underlying T' with
  | some (.slice e) => szOk P e t.sz
  | _ => false
def sliceB (lo hi mx : Option Int) (n : Nat) (K : Nat → Nat → Option R) : Option R :=
  match lo, hi, mx with
  | some l, some h, none => ck (0 ≤ l ∧ l ≤ h ∧ h ≤ (n : Int)) (K l.toNat h.toNat)
  | some l, some h, some m => ck (0 ≤ l ∧ l ≤ h ∧ h ≤ m ∧ m ≤ (n : Int)) (K l.toNat h.toNat)
  | some l, none, none => ck (0 ≤ l ∧ l ≤ (n : Int)) (K l.toNat n)
  | none, some h, none => ck (0 ≤ h ∧ h ≤ (n : Int)) (K 0 h.toNat)
  | none, some h, some m => ck (0 ≤ h ∧ h ≤ m ∧ m ≤ (n : Int)) (K 0 h.toNat)
  | none, none, none => K 0 n
  | _, _, _ => none
def cutA {α : Type} (lo hi : Option Int) (xs : List α) : List α :=
  match lo, hi with
  | none, none => xs
  | some l, none => xs.drop l.toNat
  | none, some h => xs.take h.toNat
  | some l, some h => (xs.take h.toNat).drop l.toNat
/-- x[:0:0] -/
def noRoom (h : Nat) : Option Int → Bool
  | some m => Nat.beq h 0 && decide (m = 0)
  | none => false
/-- x[lo:hi:mx] -/
def sliceA (P : Program) (T' : TypeId) (x : AV) (lo hi mx : Option Int) (ob : List AO) (K : KV R) : Option R :=
  match x with
  | .dat .str s => (match P.underlying T' with
    | some .string => (match lo, hi, mx with
      | some l, some h, none => ck (0 ≤ l ∧ l ≤ h ∧ h ≤ (s.size : Int)) (K (.dat .str (s.extract l.toNat h.toNat)) ob)
      | some l, none, none => ck (0 ≤ l ∧ l ≤ (s.size : Int)) (K (.dat .str (s.extract l.toNat s.size)) ob)
      | none, some h, none => ck (0 ≤ h ∧ h ≤ (s.size : Int)) (K (.dat .str (s.extract 0 h.toNat)) ob)
      | _, _, _ => none)
    | _ => none)
  | .nils => (match elemOf P T' with
    | some e => (match P.info? e with
      | some _ => (match lo, hi, mx with
        | none, some h, none => ck (h = 0) (K .nils ob)
        | none, some h, some m => ck (h = 0 ∧ m = 0) (K .nils ob)
        | none, none, none => K .nils ob
        | _, _, _ => none)
      | none => none)
    | none => none)
  | .dat (.sl t) xs => cond (slOk P T' t) (sliceB lo hi mx xs.length fun _ h => cond (noRoom h mx) (K (.cut t) ob) (K (.dat (.sl t) (cutA lo hi xs)) ob)) none
  | .view i => (match ob[i]? with
    | some (.row _ t xs _) => cond (slOk P T' t) (sliceB lo hi mx xs.length fun l h => (match lo, hi, mx with
      | none, none, none => K (.view i) ob
      | none, _, none => K (.pre i h) ob
      | none, some h', some m => ck (h' = m) (K (.tgt i h) ob)
      | _, _, _ => K (.win i l (h - l)) ob)) none
    | _ => none)
  | .pre i n => (match ob[i]? with
    | some (.row _ t _ _) => cond (slOk P T' t) (sliceB lo hi mx n fun l h => (match lo, hi, mx with
      | none, _, none => K (.pre i h) ob
      | none, some h', some m => ck (h' = m) (K (.tgt i h) ob)
      | _, _, _ => K (.win i l (h - l)) ob)) none
    | _ => none)
  | .tgt i n => (match ob[i]? with
    | some (.row _ t _ _) => cond (slOk P T' t) (sliceB lo hi mx n fun l h => (match lo, hi, mx with
      | none, some h', some m => ck (h' = m) (K (.tgt i h) ob)
      | _, _, _ => K (.win i l (h - l)) ob)) none
    | _ => none)
  | .win i o n => (match ob[i]? with
    | some (.row _ t _ _) => cond (slOk P T' t) (sliceB lo hi mx n fun l h => K (.win i (o + l) (h - l)) ob) none
    | _ => none)
  | _ => none
/-- &x[i] -/
def indexAddrA (P : Program) (T' : TypeId) (x : AV) (i : Int) (ob : List AO) (K : KV R) : Option R :=
  match x with
  | .dat (.sl t) xs => cond (slOk P T' t) (ck (0 ≤ i) ((xs[i.toNat]?).bind fun x => K (.rdp t x) ob)) none
  | .view q => (match ob[q]? with
    | some (.row _ t xs _) => cond (slOk P T' t) (ck (0 ≤ i ∧ i < (xs.length : Int)) (K (.ptr q [.idx i.toNat t.sz]) ob)) none
    | _ => none)
  | .pre q n => (match ob[q]? with
    | some (.row _ t _ _) => cond (slOk P T' t) (ck (0 ≤ i ∧ i < (n : Int)) (K (.ptr q [.idx i.toNat t.sz]) ob)) none
    | _ => none)
  | .tgt q n => (match ob[q]? with
    | some (.row _ t _ _) => cond (slOk P T' t) (ck (0 ≤ i ∧ i < (n : Int)) (K (.ptr q [.idx i.toNat t.sz]) ob)) none
    | _ => none)
  | .win q o n => (match ob[q]? with
    | some (.row _ t _ _) => cond (slOk P T' t) (ck (0 ≤ i ∧ i < (n : Int)) (K (.ptr q [.idx (o + i.toNat) t.sz]) ob)) none
    | _ => none)
  | .ptr q p => (match P.underlying T' with
    | some (.array n e) => (match P.info? e with
      | some j => ck (0 ≤ i ∧ i < (n : Int)) (K (.ptr q (p ++ [.idx i.toNat j.size])) ob)
      | none => none)
    | _ => none)
  | .rdp (.arr _ t) xs => (match P.underlying T' with
    | some (.array n e) => cond (szOk P e t.sz) (ck (0 ≤ i ∧ i < (n : Int)) ((xs[i.toNat]?).bind fun x => K (.rdp t x) ob)) none
    | _ => none)
  | _ => none
def rdstep : AV → List Step → Option AV
  | v, [] => some v
  | .rdp (.pair a _) x, .fst :: p => rdstep (.rdp a x.1) p
  | .rdp (.pair a b) x, .snd k :: p => cond (Nat.beq k a.sz) (rdstep (.rdp b x.2) p) none
  | .rdp (.one a) x, .one :: p => rdstep (.rdp a x) p
  | _, _ => none
def loadOk (P : Program) (t : TypeId) (u : AV) : Bool := match aggB P t with
  | some true => u.isAgg && szOk P t u.sz
  | some false => !u.isAgg
  | none => false
def indexA (P : Program) (T' : TypeId) (x : AV) (i : Int) (ob : List AO) (K : KV R) : Option R :=
  match x with
  | .dat .str s => (match P.underlying T' with
    | some .string => ck (0 ≤ i ∧ i < (s.size : Int)) (((bytesOf s)[i.toNat]?).bind fun x => K (.dat (.int .u8) x) ob)
    | _ => none)
  | .dat (.arr _ t) xs => (match P.underlying T' with
    | some (.array n e) => cond (szOk P e t.sz) (ck (0 ≤ i ∧ i < (n : Int)) ((xs[i.toNat]?).bind fun x => cond (loadOk P e (.dat t x)) (K (.dat t x) ob) none)) none
    | _ => none)
  | _ => none
def loadA (P : Program) (t : TypeId) (x : AV) (ob : List AO) (K : KV R) : Option R :=
  match x with
  | .ptr q p => (match ob[q]? with
    | some (.box _ v _) => getK v p fun u => cond (loadOk P t u) (K u ob) none
    | some (.row _ e xs _) => (match p with
      | .idx i s :: p => cond (Nat.beq s e.sz) ((xs[i]?).bind fun x => getK (.dat e x) p fun u => cond (loadOk P t u) (K u ob) none) none
      | _ => none)
    | _ => none)
  | .rdp e x => cond (loadOk P t (.dat e x)) (K (.dat e x) ob) none
  | _ => none
def storeA (P : Program) (t : TypeId) (x v : AV) (ob : List AO) (K : KV R) : Option R :=
  match x with
  | .ptr q p => (match ob[q]? with
    | some (.box ty u true) => cond (szOk P t v.sz && v.plain) (setK u p v fun u => K .undef (ob.set q (.box ty u true))) none
    | some (.row e t' xs .own) => (match p with
      | .idx i s :: p => cond (Nat.beq s t'.sz && !v.ids.contains q) ((xs[i]?).bind fun x => match frzP v ob with
        | (v, ob) => cond (szOk P t v.sz && v.plain) (setK (.dat t' x) p v fun y => match dec t' y with
          | some z => K .undef (ob.set q (.row e t' (xs.set i z) .own))
          | none => none) none) none
      | _ => none)
    | _ => none)
  | _ => none
def convA (P : Program) (src dst : TypeId) (x : AV) (ob : List AO) (K : KV R) : Option R :=
  match P.underlying src, P.underlying dst, x with
  | some (.pointer t), some .unsafePointer, .ptr i [] => (match ob[i]?, P.info? t with
    | some (.box _ v _), some j => cond (!Nat.beq j.size 0 && Nat.blt 0 v.sz) (K (.ptr i []) ob) none
    | _, _ => none)
  | some .unsafePointer, some (.pointer u), .ptr i [] => (match ob[i]? with
    | some (.box ty v _) => cond ((P.info? u).isSome && liesAt P P.depth ty (v.sz / P.cellsOf ty) 0 u 1) (K (.ptr i []) ob) none
    | _ => none)
  | some _, some (.int k), .dat (.int _) i => K (.dat (.int k) (k.wrap i)) ob
  | some _, some .string, .dat .str s => K (.dat .str s) ob
  | some .string, some (.slice e), .dat .str s => (match P.underlying e with
    | some (.int .u8) => ck (s.size ≤ limit) (K (.view ob.length) (ob ++ [.row e (.int .u8) (bytesOf s) .fz]))
    | _ => none)
  | some (.slice e), some .string, x => (match P.underlying e with
    | some (.int .u8) => (match sdatY ob (.int .u8) x with | some xs => K (.dat .str (strOf xs)) ob | none => none)
    | _ => none)
  | some (.slice e), some (.slice _), .view i => (match P.underlying e, ob[i]? with
    | some (.int .u8), some (.row e' (.int .u8) (x :: xs) .own) => cond (Nat.beq src dst && Nat.beq e' e) (K (.view i) (ob.set i (.row e' (.int .u8) (x :: xs) .fz))) none
    | _, _ => none)
  | _, _, _ => none
def partsA (s : Slots) : List (Nat × Operand) → Option (List (Nat × AV))
  | [] => some []
  | (i, x) :: r => (match ev s x with | some v => (match partsA s r with | some l => some ((i, v) :: l) | none => none) | none => none)
/-- a literal of a struct, of an array: zero, and its parts, one by one -/
def buildF (P : Program) (t : TypeId) (fs : List Field) (ps : List (Nat × AV)) (z : AV) (K : AV → Option R) : Option R :=
  match ps with
  | [] => K z
  | (i, v) :: r => (match fs[i]?, fldsteps P t i with
    | some f, some st => cond (Nat.beq (offs st) f.offset && szOk P f.type v.sz && v.plain) (setK z st v fun z => buildF P t fs r z K) none
    | _, _ => none)
def buildE (P : Program) (e : TypeId) (s : Nat) (ps : List (Nat × AV)) (z : AV) (K : AV → Option R) : Option R :=
  match ps with
  | [] => K z
  | (i, v) :: r => cond (Nat.beq v.sz s && v.plain) (setK z [.idx i s] v fun z => buildE P e s r z K) none
def buildA (P : Program) (t : TypeId) (ps : List (Nat × AV)) (ob : List AO) (K : KV R) : Option R :=
  zerK P t fun z => match P.underlying t with
  | some (.struct fs) => cond (fs.toList.all fun f => (P.info? f.type).isSome) (buildF P t fs.toList ps z fun v => cond v.isAgg (K v ob) none) none
  | some (.array _ e) => (match P.info? e with | some i => buildE P e i.size ps z fun v => cond v.isAgg (K v ob) none | none => none)
  | _ => none
def decs (t : T) : List AV → Option (List t.den)
  | [] => some []
  | v :: r => (match dec t v with | some x => (match decs t r with | some l => some (x :: l) | none => none) | none => none)
def frzL : List AV → List AO → List AV × List AO
  | [], ob => ([], ob)
  | v :: r, ob => match frzP v ob with | (v, ob) => match frzL r ob with | (r, ob) => (v :: r, ob)
def inRow : Nat → List (Nat × AV) → Bool
  | _, [] => true
  | i, (j, v) :: r => Nat.beq j i && v.plain && inRow (i + 1) r
def buildSliceA (P : Program) (t : TypeId) (n : Nat) (ps : List (Nat × AV)) (ob : List AO) (K : KV R) : Option R :=
  match elemOf P t with
  | some e => elK P e fun t _ => cond (Nat.beq n 0 && Nat.beq ps.length 0) (K (.cut t) ob) <| cond (Nat.beq ps.length n && inRow 0 ps && decide (n ≤ 16384)) (match frzL (ps.map (·.2)) ob with
      | (vs, ob) => (match decs t vs with | some xs => newRow e t xs ob K | none => none)) none
  | none => none
def makeA (P : Program) (t : TypeId) (n : Int) (ob : List AO) (K : KV R) : Option R :=
  match elemOf P t with
  | some e => elK P e fun t z => ck (0 ≤ n ∧ n.toNat * P.bytesOf e ≤ limit) (newRow e t (List.replicate n.toNat z) ob K)
  | none => none

/-- a thing as it is handed to one who may not write it -/
def AO.lent : AO → AO
  | .box ty v _ => .box ty v false
  | .row e t xs .own => .row e t xs .ro
  | .itr s p _ => .itr s p false
  | o => o
/-- may it be written, or is it told as data? -/
def AO.sure : AO → Bool
  | .gone => true
  | .box _ _ w => w
  | .row _ _ _ .ro => false
  | .row _ _ _ _ => true
  | .itr _ _ w => w
def AO.mine : AO → Bool
  | .box _ _ w => w
  | .row _ _ _ .own => true
  | .itr _ _ w => w
  | _ => false
def backO (old new : AO) : AO := cond new.sure new (cond old.mine .gone old)
def newO (o : AO) : AO := cond o.sure o .gone
def newL : List AO → List AO
  | [] => []
  | o :: r => newO o :: newL r
def passObs (ob : List AO) (wr : List Nat) : List Nat → Nat → Option (List AO)
  | [], _ => some []
  | i :: r, j => (match ob[i]? with
    | some o => (match passObs ob wr r (j + 1) with
      | some l => some ((cond (wr.contains j) o o.lent) :: l)
      | none => none)
    | none => none)
/-- what came back lies where it lay -/
def backObs (wr : List Nat) : List Nat → Nat → List AO → List AO → List AO
  | [], _, new, ob => ob ++ newL new
  | i :: r, j, o :: new, ob => backObs wr r (j + 1) new (cond (wr.contains j) (match ob[i]? with | some old => ob.set i (backO old o) | none => ob) ob)
  | _ :: _, _, [], ob => ob
def callA (Γ : Sums) (f : FuncId) (args : List AV) (ob : List AO) (K : KV R) : Option R :=
  match reachA ob (AV.idsL args) with
  | L => cond (nodupB L) (match AV.renL (fun i => posn i L 0) args with
    | some args' => (match Γ.wr f args' with
      | wr => (match passObs ob wr L 0 with
        | some ob1 => (match renAll (fun i => posn i L 0) ob1 with
          | some ob2 => Γ.call f args' ob2 fun v ob3 => (match v.ren (fun j => match L[j]? with | some i => some i | none => some (ob.length + (j - L.length))) with
            | some v' => (match renAll (fun j => match L[j]? with | some i => some i | none => some (ob.length + (j - L.length))) ob3 with
              | some ob4 => K v' (backObs wr L 0 ob4 ob)
              | none => none)
            | none => none)
          | none => none)
        | none => none))
    | none => none) none

def primA (P : Program) : Prim → List AV → List AO → KV R → Option R
  | .clone e, [x], ob, K => (match tyT P 40 e with
    | some t => (match sdatY ob t x with
      | some ys => ck (ys.length * P.bytesOf e ≤ limit) (newRow e t ys ob K)
      | none => none)
    | none => none)
  | .same, [x], ob, K => K x ob
  | .text, [.ptr i []], ob, K => (match ob[i]? with
    | some (.box _ (.pr _ (.one b)) _) => textA b ob K
    | some (.box _ (.pr _ b) _) => textA b ob K
    | _ => none)
  | _, _, _, _ => none
where textA (b : AV) (ob : List AO) (K : KV R) : Option R :=
  match b with
  | .nils => K (.dat .str ⟨#[]⟩) ob
  | .view i => (match ob[i]? with
    | some (.row e (.int .u8) xs .own) => ck (∀ x ∈ xs, 0 ≤ x ∧ x < 256) (K (.dat .str (strOf xs)) (ob.set i (.row e (.int .u8) xs .fz)))
    | _ => none)
  | _ => none
def lenA (P : Program) (T' : TypeId) (x : AV) (ob : List AO) (K : KV R) : Option R :=
  match P.underlying T' with
  | some .string => (match x with
    | .dat .str s => K (.dat (.int .i64) (s.size : Int)) ob
    | _ => none)
  | some (.array n _) => cond x.plain (K (.dat (.int .i64) (n : Int)) ob) none
  | some (.slice _) => (match slen ob x with | some n => K (.dat (.int .i64) (n : Int)) ob | none => none)
  | _ => none
def builtinA (P : Program) (b : Builtin) (Ts : List TypeId) (xs : List AV) (ob : List AO) (K : KV R) : Option R :=
  match b, Ts, xs with
  | .len, [t], [x] => lenA P t x ob K
  | .cap, [t], [.nils] => (match elemOf P t with | some _ => K (.dat (.int .i64) 0) ob | none => none)
  | .min, _, [.dat (.int k) i, .dat (.int k') j] => if k = k' then K (.dat (.int k) (if j < i then j else i)) ob else none
  | .max, _, [.dat (.int k) i, .dat (.int k') j] => if k = k' then K (.dat (.int k) (if i < j then j else i)) ob else none
  | .append, [t, t2], [x, y] => (match elemOf P t with
    | some e => (match P.underlying t2, y with
      | some (.int _), .dat (.int _) n => appendZ P e x n ob K
      | some (.slice _), y => cond (Nat.beq t t2) (appendA P e x y ob K) none
      | _, _ => none)
    | none => none)
  | _, _, _ => none

/-- the steps lead to the field, and it has cells -/
def fldOk (P : Program) (S : TypeId) (i : Nat) (st : List Step) : Bool := match P.underlying S with
  | some (.struct fs) => (match fs[i]? with
    | some f => Nat.beq (offs st) f.offset && (match P.info? f.type with | some j => Nat.blt 0 j.size | none => false)
    | none => false)
  | _ => false
def fldTyp (P : Program) (S : TypeId) (i : Nat) : Option TypeId := match P.underlying S with
  | some (.struct fs) => (match fs[i]? with | some f => some f.type | none => none)
  | _ => none
def opA (P : Program) (Γ : Sums) (o : Oper) (s : Slots) (ob : List AO) (K : KV R) : Option R :=
  match o.op with
  | .move x => (match ev s x with | some v => K v ob | none => none)
  | .assign x => (match ev s x with | some v => K v ob | none => none)
  | .pick c a b => (match ev s c with
    | some (.dat .bool t) => cond t (match ev s a with | some v => K v ob | none => none) (match ev s b with | some v => K v ob | none => none)
    | _ => none)
  | .alloc t => zerK P t fun v => K (.ptr ob.length []) (ob ++ [.box t v true])
  | .box t x => (match ev s x with | some v => cond v.plain (K (.ptr ob.length []) (ob ++ [.box t v true])) none | none => none)
  | .build t ps => (match partsA s ps.toList with | some l => buildA P t l ob K | none => none)
  | .buildSlice t n ps => (match partsA s ps.toList with | some l => buildSliceA P t n l ob K | none => none)
  | .load t x => (match ev s x with | some v => loadA P t v ob K | none => none)
  | .store t x y => (match ev s x, ev s y with | some v, some u => storeA P t v u ob K | _, _ => none)
  | .nilCheck x => (match ev s x with
    | some (.ptr i p) => K (.ptr i p) ob
    | some (.rdp t x) => K (.rdp t x) ob
    | _ => none)
  | .binOp op T' x y _ => (match ev s x, ev s y with | some u, some v => bin P T' op u v ob K | _, _ => none)
  | .unOp op _ x => (match ev s x with | some v => un op v ob K | none => none)
  | .convert a b x => (match ev s x with | some v => convA P a b v ob K | none => none)
  | .makeFunc (.func f) fs cs => (match evs s fs.toList, evs s cs.toList with | some l, some m => cond (l.all AV.plain && m.all AV.plain) (K (.fn f l m) ob) none | _, _ => none)
  | .makeSlice t n m => (match ev s n, ev s m with
    | some (.dat (.int _) i), some (.dat (.int _) j) => ck (i = j) (makeA P t i ob K)
    | _, _ => none)
  | .slice t x lo hi mx => (match ev s x, optI s lo, optI s hi, optI s mx with
    | some v, some l, some h, some m => sliceA P t v l h m ob K
    | _, _, _, _ => none)
  | .fieldAddr S x i => (match ev s x, fldsteps P S i with
    | some (.ptr q p), some st => cond (fldOk P S i st) (K (.ptr q (p ++ st)) ob) none
    | some (.rdp t x), some st => cond (fldOk P S i st) (match rdstep (.rdp t x) st with | some v => K v ob | none => none) none
    | _, _ => none)
  | .field S x i => (match ev s x, fldsteps P S i with
    | some v, some st => cond (fldOk P S i st && v.isAgg) (match fldTyp P S i with
      | some ft => getK v st fun u => cond (loadOk P ft u) (K u ob) none
      | none => none) none
    | _, _ => none)
  | .indexAddr t x i => (match ev s x, ev s i with
    | some v, some (.dat (.int _) j) => indexAddrA P t v j ob K
    | _, _ => none)
  | .index t x i => (match ev s x, ev s i with
    | some v, some (.dat (.int _) j) => indexA P t v j ob K
    | _, _ => none)
  | .range T' x => (match P.underlying T', ev s x with
    | some .string, some (.dat .str t) => K (.ptr ob.length []) (ob ++ [.itr t 0 true])
    | _, _ => none)
  | .next x true => (match ev s x with
    | some (.ptr q []) => (match ob[q]? with
      | some (.itr t p true) => cond (decide (p < t.size)) (K (.tup [.dat .bool true, .dat (.int .i64) p, .dat (.int .i32) (Utf8.decode t p).1]) (ob.set q (.itr t (p + (Utf8.decode t p).2) true))) (K (.tup [.dat .bool false]) ob)
      | _ => none)
    | _ => none)
  | .extract x i => (match ev s x with
    | some (.tup l) => (match l[i]? with | some v => K v ob | none => none)
    | _ => none)
  | .call c => (match c.callee with
    | .value x => (match ev s x, evs s c.args.toList with
      | some (.fn f fs cs), some l => (match Γ.prim f with
        | some p => primA P p (fs ++ l ++ cs) ob K
        | none => callA Γ f (fs ++ l ++ cs) ob K)
      | _, _ => none)
    | .builtin b => (match evs s c.args.toList with
      | some l => builtinA P b c.argTypes.toList l ob K
      | none => none)
    | _ => none)
  | _ => none

/-- the names that an operation touches; and those that it may turn -/
def opnds (c : Op) : List Operand := c.operands.toList
def idsOf (s : Slots) : List Operand → List Nat
  | [] => []
  | x :: r => (match ev s x with | some v => v.ids | none => []) ++ idsOf s r
def storeIds (s : Slots) (ob : List AO) (x y : Operand) : List Nat :=
  match ev s x with
  | some (.ptr q _) => (match ob[q]? with
    | some (.row _ _ _ _) => idsOf s [x, y]
    | _ => [q])
  | _ => []
def touch (o : Oper) (s : Slots) (ob : List AO) : List Nat :=
  match o.op with
  | .call { callee := .value x, args := as, .. } => reachA ob (idsOf s (x :: as.toList))
  | .store _ x y => storeIds s ob x y
  | .move _ | .assign _ | .pick _ _ _ | .alloc _ | .box _ _ | .build _ _ | .nilCheck _ | .binOp _ _ _ _ _ | .unOp _ _ _ | .makeInterface _ _ | .makeFunc _ _ _ | .fieldAddr _ _ _ | .field _ _ _ | .extract _ _ => []
  | op => idsOf s (opnds op)
def wrs (Γ : Sums) (o : Oper) (s : Slots) (ob : List AO) : List Nat :=
  match o.op with
  | .call { callee := .value x, args := as, .. } => (match ev s x, evs s as.toList with
    | some (.fn f fs cs), some l => (match reachA ob (AV.idsL (fs ++ l ++ cs)) with
      | L => (match AV.renL (fun i => posn i L 0) (fs ++ l ++ cs) with
        | some a => (Γ.wr f a).filterMap (fun j => L[j]?)
        | none => []))
    | _, _ => [])
  | .call { callee := .builtin .append, args := as, .. } => (match as.toList with | x :: _ => idsOf s [x] | _ => [])
  | .store _ x y => storeIds s ob x y
  | .buildSlice _ _ ps => idsOf s (ps.toList.map (·.2))
  | .convert _ _ x => idsOf s [x]
  | .next x _ => idsOf s [x]
  | _ => []
def maskO (ts ws : List Nat) : List AO → Nat → List AO
  | [], _ => []
  | o :: r, i => cond (ws.contains i) o (cond (ts.contains i) o.lent .gone) :: maskO ts ws r (i + 1)
def mergeO (ws : List Nat) : List AO → List AO → Nat → List AO
  | o :: r, n :: l, i => cond (ws.contains i) (newO n) o :: mergeO ws r l (i + 1)
  | [], l, _ => newL l
  | r, [], _ => r

/-- those that one may write -/
def mineL (ob : List AO) : List Nat → List Nat
  | [] => []
  | i :: r => match ob[i]? with | some o => cond o.mine (i :: mineL ob r) (mineL ob r) | none => mineL ob r

structure Log where
  i : Nat
  ts : List Nat
  ws : List Nat
  lo : Nat
  hi : Nat
  us : List Nat
def disj (a b : List Nat) : Bool := a.all fun i => !b.contains i
/-- none is new there -/
def outs (a : Log) (l : List Nat) : Bool := Nat.beq a.lo a.hi || l.all fun x => Nat.blt x a.lo || Nat.ble a.hi x
def bears (a b : Log) : Bool := disj a.ws b.ts && disj a.ws b.ws && outs a b.ts && outs a b.ws && outs a b.us
def apart (T : List (List Nat)) (a b : Log) : Bool := (T.getD a.i []).contains b.i || (T.getD b.i []).contains a.i || (bears a b && bears b a)
def noClash (T : List (List Nat)) : List Log → Bool
  | [] => true
  | a :: r => r.all (apart T a) && noClash T r

def putS (d : Option Tmp) (v : AV) (s : Slots) : Slots := match d with | some d => (d, v) :: s | none => s

/-- the slots that an operation reads -/
def rdT : List Operand → List Nat
  | [] => []
  | .tmp t :: r => t :: rdT r
  | _ :: r => rdT r
def guardT (all : List Oper) (o : Oper) : List Nat := match o.guard with
  | some (j, _) => (match all[j]? with | some oj => (match oj.dst with | some d => [d] | none => []) | none => [])
  | none => []
def reads (all : List Oper) (o : Oper) : List Nat := guardT all o ++ rdT (opnds o.op)
def pickR : List Nat → Slots → Slots
  | [], _ => []
  | t :: r, s => match lookA t s with | some v => (t, v) :: pickR r s | none => pickR r s
def dsts : List Oper → List Nat
  | [] => []
  | o :: r => match o.dst with | some d => d :: dsts r | none => dsts r
def whoSets (t : Nat) : List Oper → Nat → Option Nat
  | [], _ => none
  | o :: r, i => match o.dst with | some d => cond (Nat.beq d t) (some i) (whoSets t r (i + 1)) | none => whoSets t r (i + 1)
def rdOk (all : List Oper) (T : List (List Nat)) : List Oper → Nat → Bool
  | [], _ => true
  | o :: r, i => (reads all o).all (fun t => match whoSets t all 0 with | some k => (T.getD i []).contains k || (T.getD k []).contains i || Nat.beq k i | none => true) && rdOk all T r (i + 1)
/-- the order may be drawn: what is read was set ahead -/
def regOk (all : List Oper) : Bool := okR all all.length && nodupB (dsts all) && rdOk all (reachT all []) all 0
/-- the names in what was written, in what is new -/
def idsM (ws : List Nat) (n : Nat) : List AO → Nat → List Nat
  | [], _ => []
  | o :: r, i => cond (ws.contains i || Nat.ble n i) (o.ids ++ idsM ws n r (i + 1)) (idsM ws n r (i + 1))

/-- the operations of a region, one by one as they stand -/
def opsA (P : Program) (Γ : Sums) (all : List Oper) (dr : Bool) : List Oper → Nat → St → List Log → (St → List Log → Option R) → Option R
  | [], _, s, l, K => K s l
  | o :: r, i, s, l, K =>
    let go : Slots → Option R := fun sl =>
      cond dr
        (match touch o sl s.ob, mineL s.ob (wrs Γ o sl s.ob) with
          | ts, ws => (match opA (R := AV × List AO) P Γ o (pickR (reads all o) sl) (maskO ts ws s.ob 0) (fun v ob => some (v, ob)) with
            | some (v, ob) => (match v.ids ++ idsM ws s.ob.length ob 0 with
              | us => cond (Nat.ble s.ob.length ob.length && us.all fun x => Nat.blt x ob.length) (opsA P Γ all dr r (i + 1) ⟨putS o.dst v sl, mergeO ws s.ob ob 0⟩ (⟨i, ts, ws, s.ob.length, ob.length, us⟩ :: l) K) none)
            | none => none))
        (opA P Γ o sl s.ob fun v ob => opsA P Γ all dr r (i + 1) ⟨putS o.dst v sl, ob⟩ l K)
    let no : Slots → Option R := fun sl => opsA P Γ all dr r (i + 1) ⟨putS o.dst .undef sl, s.ob⟩ l K
    match o.guard with
    | none => go s.sl
    | some (j, want) => (match all[j]? with
      | some oj => (match oj.dst with
        | some d => (match lookA d s.sl with
          | some .undef => no s.sl
          | some (.dat .bool b) => cond b (cond want (go ((d, .dat .bool true) :: s.sl)) (no ((d, .dat .bool true) :: s.sl))) (cond want (no ((d, .dat .bool false) :: s.sl)) (go ((d, .dat .bool false) :: s.sl)))
          | _ => none)
        | none => none)
      | none => none)

/-- all that is set is among so many slots -/
def dstC (n : Nat) : Code → Bool
  | .seq a b => dstC n a && dstC n b
  | .cond _ a b => dstC n a && dstC n b
  | .block _ a => dstC n a
  | .loop a => dstC n a
  | .scope a => dstC n a
  | .region _ ops _ => ops.toList.all fun o => match o.dst with | some d => Nat.blt d n | none => true
  | _ => true
def nl : Code → Nat
  | .seq a b => nl a + nl b
  | .cond _ a b => nl a + nl b
  | .block _ a => nl a
  | .loop a => nl a + 1
  | .scope a => nl a + 1
  | _ => 0

def runA (P : Program) (Γ : Sums) (Λ : Nat → St → (Exit → St → Option R) → Option R) : Nat → Code → St → (Exit → St → Option R) → Option R
  | _, .skip, s, K => K .normal s
  | _, .label _, s, K => K .normal s
  | _, .exit i, s, K => K (.exit i) s
  | _, .goto l, s, K => K (.goto l) s
  | _, .ret, s, K => K .ret s
  | n, .seq x y, s, K => runA P Γ Λ n x s fun e s => match e with
    | .normal => runA P Γ Λ (n + nl x) y s K
    | e => K e s
  | n, .cond c x y, s, K => (match c with
    | .tmp t => (match lookA t s.sl with
      | some (.dat .bool b) => cond b (runA P Γ Λ n x ⟨(t, .dat .bool true) :: s.sl, s.ob⟩ K) (runA P Γ Λ (n + nl x) y ⟨(t, .dat .bool false) :: s.sl, s.ob⟩ K)
      | _ => none)
    | c => (match ev s.sl c with
      | some (.dat .bool b) => cond b (runA P Γ Λ n x s K) (runA P Γ Λ (n + nl x) y s K)
      | _ => none))
  | n, .block i c, s, K => runA P Γ Λ n c s fun e s => match e with
    | .exit j => cond (Nat.beq j i) (K .normal s) (K (.exit j) s)
    | e => K e s
  | n, .loop _, s, K => Λ n s K
  | n, .scope _, s, K => Λ n s K
  | _, .region _ ops dr, s, K => opsA P Γ ops.toList dr ops.toList 0 s [] fun s l => cond (!dr || (regOk ops.toList && noClash (reachT ops.toList []) l)) (K .normal s) none
  | _, _, _, _ => none

/-! ### a state told anew: some slots, what they reach -/
def pickS : List Nat → Slots → Option Slots
  | [], _ => some []
  | t :: r, s => (match lookA t s with | some v => (match pickS r s with | some l => some ((t, v) :: l) | none => none) | none => none)
def renS (f : Nat → Option Nat) : Slots → Option Slots
  | [] => some []
  | (t, v) :: r => (match v.ren f with | some v => (match renS f r with | some l => some ((t, v) :: l) | none => none) | none => none)
def idsS : Slots → List Nat
  | [] => []
  | (_, v) :: r => v.ids ++ idsS r
def idsOb : List AO → List Nat
  | [] => []
  | o :: r => o.ids ++ idsOb r
/-- from the m first things on (those that were handed in), and the slots -/
def tellA (m : Nat) (live : List Nat) (s : St) (K : St → Option R) : Option R :=
  match pickS live s.sl with
  | some sl => (match visit s.ob (4 * s.ob.length + 4 * (idsS sl).length + 16) (idsOb (s.ob.take m) ++ idsS sl) (List.range m) with
    | L => cond (nodupB L) (match renS (fun i => posn i L 0) sl, objs s.ob L with
      | some sl', some ob => (match renAll (fun i => posn i L 0) ob with | some ob' => K ⟨sl', ob'⟩ | none => none)
      | _, _ => none) none)
  | none => none

def loopA (m : Nat) (live : List Nat) (body : St → (Exit → St → Option R) → Option R) : Nat → St → (Exit → St → Option R) → Option R
  | 0, _, _ => none
  | k + 1, s, K => tellA m live s fun s => body s fun e s => match e with
    | .normal => loopA m live body k s K
    | e => K e s

/-! ### a function -/
def resA (P : Program) (s : St) : List ResultVar → (List AV → Option R) → Option R
  | [], K => K []
  | .tmp t :: r, K => (match lookA t s.sl with | some v => resA P s r fun l => K (v :: l) | none => none)
  | .cell p t :: r, K => (match lookA p s.sl with
    | some (.ptr q []) => (match s.ob[q]? with
      | some (.box _ v _) => cond (loadOk P t v) (resA P s r fun l => K (v :: l)) none
      | _ => none)
    | _ => none)
def one1 : List AV → AV
  | [v] => v
  | l => .tup l
def zipS : Nat → List AV → Slots
  | _, [] => []
  | i, v :: r => (i, v) :: zipS (i + 1) r
def resOk : List AV → Bool
  | [_] => true
  | l => l.all AV.plain
def retA (P : Program) (fn : Func) (m : Nat) (s : St) (K : KV R) : Option R :=
  resA P s fn.results.toList fun l => cond (resOk l) (tellA m [0] ⟨[(0, one1 l)], s.ob⟩ fun s => match s.sl with | [(t, v)] => cond (Nat.beq t 0) (K v s.ob) none | _ => none) none
def funA (P : Program) (Γ : Sums) (Λ : Nat → St → (Exit → St → Option R) → Option R) (fn : Func) (args : List AV) (ob : List AO) (K : KV R) : Option R :=
  match fn.body with
  | some c => cond (Nat.ble args.length fn.ntmps && dstC fn.ntmps c) (runA P Γ Λ 0 c ⟨zipS 0 args, ob⟩ fun e s => match e with
    | .ret => retA P fn ob.length s K
    | .normal => (match fn.results.toList with | [] => retA P fn ob.length s K | _ => none)
    | _ => none) none
  | none => none
end
end Go.Mx
