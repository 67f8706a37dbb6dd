/- Own work. A part of the proof of a law of this seat: this seat's functions, by the machine, and the plain law -/
import Derived.Test.YtjjmpejlnaebpaaDoorMe
import Derived.Test.YtjjmpejlnaebpaaDoorWe
namespace Go.Sx
open Go
theorem Dt.arrL {P : Program} {t : TypeId} {α : Type} {m : Nat} {kd : Kd α} {R : List α → Prop} (d : Dt P t (Kd.arr m kd) R) : Dt P t (Kd.arr m kd) (fun xs => xs.length = m ∧ R xs) :=
  ⟨d.sz, fun enc w sp fuel cs x h hw => by
    obtain ⟨y, hK, hR⟩ := d.op enc w sp fuel cs x h hw
    exact ⟨y, hK, hK.1, hR⟩⟩
end Go.Sx
namespace Go.Mx
set_option linter.unusedVariables false
open Go Go.RowKit Go.Sx Go.Proofs
set_option maxRecDepth 100000
theorem NodeMay_law (l : LV) (_ : (Lit.int .i64 l.1).wf = true ∧ (Lit.int .i64 l.2.1).wf = true ∧ (Lit.int .i64 l.2.2.1).wf = true ∧ (Lit.int .u64 l.2.2.2).wf = true) (n : NV) (hn : (Lit.int .i64 n.1).wf = true ∧ n.2.length = 16 ∧ ∀ x ∈ n.2, (Lit.int .i64 x.1).wf = true ∧ (Lit.int .i64 x.2.1).wf = true ∧ (Lit.int .i64 x.2.2.1).wf = true ∧ (Lit.int .u64 x.2.2.2).wf = true) (s : Int) (_ : (Lit.int .i64 s).wf = true) (h : Int × Int) (_ : (Lit.int .i64 h.1).wf = true ∧ (Lit.int .u64 h.2).wf = true) : (codeX Tryd.prog H3 lvN 0 Tryd.f3).run [.dat LT l, .dat NT n, .dat I64 s, .dat HT h] [] isTrue = some true := law3_run isTrue l n s h hn.2.1
end Go.Mx
