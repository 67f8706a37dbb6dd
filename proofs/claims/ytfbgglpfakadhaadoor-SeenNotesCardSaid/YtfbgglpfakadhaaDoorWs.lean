/- Own work. A part of the proof of a law of this seat: this seat's functions, by the machine, and the plain law -/
import Derived.Test.YtfbgglpfakadhaaDoorWr
import Derived.Test.YtfbgglpfakadhaaDoorMe
/- SeenStill and SeenNotes, as laws. -/
namespace Go.Mx
open Go Go.RowKit Go.Sx Go.Proofs
set_option linter.unusedVariables false
set_option linter.unusedSimpArgs false
set_option maxRecDepth 100000
theorem all4 : AllOk Tryd.prog [(10, F10), (11, F11), (16, F16), (17, F17), (18, F18), (19, F19), (20, F20), (21, argS [.unit, .sl ST] F21), (13, F13), (12, F12), (15, argS [.sl ST, .sl ST] (peekS 15 F15))] := ⟨F10_ok, F11_ok, F16_ok, F17_ok, F18_ok, F19_ok, F20_ok, arg_ok F21_ok, F13_ok, F12_ok, arg_ok (peek_ok F15_ok), trivial⟩
theorem notes_run {R : Type} (k : Nat) (hk : 110 ≤ k) (K : KV R) (l : List SV) (x : SV) (hl : ∀ x ∈ l, 0 ≤ x.2.2.2.2.2.1) (hx : 0 ≤ x.2.2.2.2.2.1) : (codeX Tryd.prog G4 lv4 k Tryd.f4).run [.dat (.sl ST) l, .dat ST x] [] K = K (.dat .bool true) [] := by
  refine (codeX_at (m := 0) rfl).trans ?_
  refine (notes_0 (LX Tryd.prog G4 lv4 0 (codeOf Tryd.f4) k) K l x).trans ?_
  by_cases h1 : (100 : Int) < (l.length : Int)
  · rw [decide_eq_true h1, cond_true]
  rw [decide_eq_false h1, cond_false]
  exact notes_loop _ K l x hl hx (by omega) (l.length + 1) k 0 (by omega) (by omega)
theorem SeenStill_ok : SumOk Tryd.prog 5 (codeX Tryd.prog G4 lvN 0 Tryd.f5) :=
  codeX_ok (Γ := G4) mixed noNG_prog (sums_call (Wr := all) all4) (sums_prim all4) (fn := Tryd.f5) rfl lvN 0
theorem SeenStill_law (l : List SV) (hl : l.length ≤ 140737488351232 ∧ ∀ x ∈ l, WfS x) (now : List SV) (_ : now.length ≤ 140737488351232 ∧ ∀ x ∈ now, WfS x) : (codeX Tryd.prog G4 lvN 0 Tryd.f5).run [.dat (.sl ST) l, .dat (.sl ST) now] [] isTrue = some true := still_run isTrue l now (fun x hx => wf_ver (hl.2 x hx))
theorem SeenNotes_ok : SumOk Tryd.prog 4 (codeX Tryd.prog G4 lv4 200 Tryd.f4) :=
  codeX_ok (Γ := G4) mixed noNG_prog (sums_call (Wr := all) all4) (sums_prim all4) (fn := Tryd.f4) rfl lv4 200
theorem SeenNotes_law (l : List SV) (hl : l.length ≤ 140737488351232 ∧ ∀ x ∈ l, WfS x) (x : SV) (hx : WfS x) : (codeX Tryd.prog G4 lv4 200 Tryd.f4).run [.dat (.sl ST) l, .dat ST x] [] isTrue = some true := notes_run 200 (by omega) isTrue l x (fun x hx => wf_ver (hl.2 x hx)) (wf_ver hx)
end Go.Mx
