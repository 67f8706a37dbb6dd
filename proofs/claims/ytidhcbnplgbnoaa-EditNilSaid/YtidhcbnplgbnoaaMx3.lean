/- Own work. A part of the proof of a law of this seat: a part -/
import Derived.Test.YtidhcbnplgbnoaaMx2
/- The abstract machine, closed: calls and loops by their own code. -/
namespace Go.Mx
open Go Go.RowKit Go.Sx

/-- the loops and scopes of a code, in the order of runA's numbers -/
def loopAt : Code → Nat → Option Code
  | .seq a b, n => cond (Nat.blt n (nl a)) (loopAt a n) (loopAt b (n - nl a))
  | .cond _ a b, n => cond (Nat.blt n (nl a)) (loopAt a n) (loopAt b (n - nl a))
  | .block _ a, n => loopAt a n
  | .loop a, 0 => some (.loop a)
  | .loop a, n + 1 => loopAt a n
  | .scope a, 0 => some (.scope a)
  | .scope a, n + 1 => loopAt a n
  | _, _ => none
/-- where a label is: what stands behind it -/
def keysS : Slots → List Nat → List Nat
  | [], l => l
  | (t, _) :: r, l => keysS r (cond (l.contains t) l (t :: l))
variable {R : Type}
def scopeA (m : Nat) (live : List Nat) (find : Nat → Option (Nat × Code)) (run : Nat → Code → St → (Exit → St → Option R) → Option R) : Nat → Nat → Code → St → (Exit → St → Option R) → Option R
  | 0, _, _, _, _ => none
  | k + 1, n, c, s, K => run n c s fun e s => match e with
    | .goto l => (match find l with
      | some (n, c) => tellA m (keysS s.sl []) s fun s => scopeA m live find run k n c s K
      | none => K (.goto l) s)
    | e => K e s
/-- the code behind a label, and the number of its first loop -/
def behind (l : Nat) : Code → Nat → Option (Nat × Code)
  | .label q, n => cond (Nat.beq q l) (some (n, .skip)) none
  | .seq a b, n => (match behind l a n with
    | some (m, c) => some (m, .seq c b)
    | none => behind l b (n + nl a))
  | _, _ => none
/-- everything by its own code: so deep, so many rounds -/
def lamA (P : Program) (Γ : Sums) (k m : Nat) (c : Code) : Nat → Nat → St → (Exit → St → Option R) → Option R
  | 0, _, _, _ => none
  | d + 1, n, s, K => (match loopAt c n with
    | some (.loop b) => loopA m (keysS s.sl []) (runA P Γ (fun q s K => lamA P Γ k m c d q s K) (n + 1) b) k s K
    | some (.scope b) => scopeA m [] (fun l => behind l b (n + 1)) (runA P Γ (fun q s K => lamA P Γ k m c d q s K)) k (n + 1) b s K
    | _ => none)
def wideA (P : Program) (F : FuncId → Option Prim) (W : FuncId → List Nat) (k : Nat) : Nat → Sums
  | 0 => ⟨F, fun _ _ _ _ => none, fun f _ => W f⟩
  | d + 1 => ⟨F, fun f args ob K => match P.funcs[f]? with
      | some fn => (match fn.body with
        | some c => funA P (wideA P F W k d) (lamA P (wideA P F W k d) k ob.length c 20) fn args ob K
        | none => none)
      | none => none, fun f _ => W f⟩
end Go.Mx
