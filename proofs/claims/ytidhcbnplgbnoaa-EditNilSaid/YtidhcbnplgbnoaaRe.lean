/- The law EditNil: what its contract and its plain law come to, as the given row. -/
import Derived.Test.YtidhcbnplgbnoaaRows
import Derived.Test.YtidhcbnplgbnoaaSx13
import Derived.Test.YtidhcbnplgbnoaaMx37
import Derived.WalkKit
import Derived.ProofKit
import Derived.OpenShut
import Derived.ShutString
import Derived.ChangeOld
import Derived.Below
import Derived.SizedLaws
import Derived.Carry
import Derived.WideShapes
namespace Go.Proofs.Ytidhcbnplgbnoaa.editNil
open Go.ChangeShapes Go.WideShapes Go.ChangeAt Go.RowKit Go.Sx
open Go.ChangeMaps (open_string shut_string)
set_option linter.unusedVariables false
def wrt : FuncId → List Nat := fun f => match f with | 3 => List.range 30 | 5 => List.range 30 | 6 => List.range 30 | 7 => List.range 30 | 8 => List.range 30 | 12 => List.range 30 | 13 => List.range 30 | 16 => List.range 30 | 17 => List.range 30 | 18 => List.range 30 | 22 => List.range 30 | 24 => List.range 30 | 25 => List.range 30 | 28 => List.range 30 | 38 => List.range 30 | 40 => List.range 30 | 50 => List.range 30 | 51 => List.range 30 | 55 => List.range 30 | 61 => List.range 30 | 71 => List.range 30 | 72 => List.range 30 | 73 => List.range 30 | 74 => List.range 30 | _ => []
theorem mixed : Try.prog.follows .mixedOrders = true := by kernel_rfl
theorem noNG_prog : Go.Mx.noNG Try.prog = true := by kernel_rfl
theorem ran : (Go.Mx.wideA Try.prog (fun _ => none) wrt 300 30).call 4 [] [] Go.Mx.isTrue = some true := by kernel_rfl
theorem own : ownKnob Try.prog.godebug = none := by kernel_rfl
theorem laidOut : laidOutB Try.prog = true := by kernel_rfl
set_option maxRecDepth 100000 in
theorem lifted (os : Os) (started : os.Started) (H : Type) (enc : TypeId × Value → H) :
    ReturnsInHanded {} Try.checked os 4 .any (Rows.editNilSpec.pre6 enc Try.prog Try.f4 Rows.editNilRow.domain false) (Rows.editNilSpec.post enc Try.prog Try.f4 false true false false) := by
  refine returnsInHanded_of_change_sized (C := Try.checked) own started (by kernel_rfl) Try.func4
    (ChangeSpec.witness6 (enc := enc) (C := Try.checked) false ⟨#[], #[], []⟩ 8 (by kernel_rfl) (by kernel_rfl) (by kernel_rfl) (by kernel_rfl)) ?_
  intro W base args ds gs before hval0 hW hcnd hsz0 _
  have hsz : (DataW.weightsEach Try.prog (Try.f4.params.toList ++ Rows.editNilSpec.plain.varTypes Try.prog) (ds ++ gs)).all (· ≤ reachBytes) = true := hsz0
  have hval : ∀ (j : Nat) t v, Try.f4.params[j]? = some t → args[j]? = some v → Value.okWide Try.prog W .any base t v := hval0
  have hW' := hW
  obtain ⟨p, q, hA0, hV, rfl, hfz, hnd⟩ := hW
  have hA : DataW.TrodAll enc Try.prog W 0 (fun _ => true) true Try.f4.params.toList args.toList ds p := hA0
  rw [Try.params4] at hA hval hsz
  obtain ⟨rfl, rfl, rfl⟩ := trodAll_none hA
  obtain ⟨rfl, rfl⟩ := trodVars_none hV
  clear hA0 hval0 hsz0 hsz
  refine (Go.Mx.closed (F := fun _ => none) (Wr := wrt) (k := 300) (d := 30) mixed noNG_prog (Go.Mx.prims_none _) ran W).mono fun e W' he => ?_
  cases e with
  | returned v =>
    obtain ⟨rfl, hEx⟩ := he
    have bel := hEx.below
    exact ⟨_, rfl, _, _, _, [], _, [], hW', trodAll_mk1 (shut_bool Try.underlying4 _), trodAll_mk0, rfl, bel.frame _, fun h => by cases h⟩
  | panicked c => exact he.elim
  | outgrown => exact he.elim
theorem over : Rows.editNilRow.holds Try.pinned (OpenSpec.ofChange Rows.editNilSpec) :=
  OpenClaim.holds_of_wide 4 Try.f4 rfl rfl rfl rfl rfl rfl rfl ⟨rfl, rfl, rfl, rfl, rfl⟩ rfl rfl rfl rfl rfl (by kernel_rfl) Try.func4 (by kernel_rfl)
    (of_decide_eq_true (by kernel_rfl)) (by unfold Func.isWrapper; first | (rw [if_pos (by decide +kernel)]; kernel_rfl) | (rw [if_neg (by decide +kernel)]; exact ⟨rfl, rfl⟩))
    (fun os started H enc _ => lifted os started H enc)
end Go.Proofs.Ytidhcbnplgbnoaa.editNil
namespace Go.Proofs.Ytidhcbnplgbnoaa
/-- The row, under a short name, for the claim. -/
theorem editNil_holds : Rows.EditNilSaid := editNil.over
end Go.Proofs.Ytidhcbnplgbnoaa
