/- The law NibbleApart: what its contract and its plain law come to, as the given row. -/
import Derived.Test.YtmljbiijlljhfaaRows
import Derived.Test.YtmljbiijlljhfaaSx13
import Derived.Test.YtmljbiijlljhfaaWf4
import Derived.Test.YtmljbiijlljhfaaPq
import Derived.WalkKit
import Derived.ProofKit
import Derived.OpenShut
import Derived.ShutString
import Derived.ChangeOld
import Derived.Below
import Derived.SizedLaws
import Derived.Carry
import Derived.WideShapes
namespace Go.Proofs.Ytmljbiijlljhfaa.nibbleApart
open Go.ChangeShapes Go.WideShapes Go.ChangeAt Go.RowKit Go.Sx
open Go.ChangeMaps (open_string shut_string)
set_option linter.unusedVariables false
theorem own : ownKnob Try.prog.godebug = none := by kernel_rfl
theorem laidOut : laidOutB Try.prog = true := by kernel_rfl
set_option maxRecDepth 100000 in
theorem lifted (os : Os) (started : os.Started) (H : Type) (enc : TypeId × Value → H) :
    ReturnsInHanded {} Try.checked os 7 .any (Rows.nibbleApartSpec.pre6 enc Try.prog Try.f7 Rows.nibbleApartRow.domain false) (Rows.nibbleApartSpec.post enc Try.prog Try.f7 false true false false) := by
  refine returnsInHanded_of_change_sized (C := Try.checked) own started (by kernel_rfl) Try.func7
    (ChangeSpec.witness6 (enc := enc) (C := Try.checked) false ⟨#[], #[.agg #[.int .i64 0, .string ByteArray.empty], .agg #[.int .i64 0, .string ByteArray.empty]], []⟩ 8 (by kernel_rfl) (by kernel_rfl) (by kernel_rfl) (by kernel_rfl)) ?_
  intro W base args ds gs before hval0 hW hcnd hsz0 _
  have hsz : (DataW.weightsEach Try.prog (Try.f7.params.toList ++ Rows.nibbleApartSpec.plain.varTypes Try.prog) (ds ++ gs)).all (· ≤ reachBytes) = true := hsz0
  have hval : ∀ (j : Nat) t v, Try.f7.params[j]? = some t → args[j]? = some v → Value.okWide Try.prog W .any base t v := hval0
  have hW' := hW
  obtain ⟨p, q, hA0, hV, rfl, hfz, hnd⟩ := hW
  have hA : DataW.TrodAll enc Try.prog W 0 (fun _ => true) true Try.f7.params.toList args.toList ds p := hA0
  rw [Try.params7] at hA hval hsz
  obtain ⟨v0, vs0, d0, ds0, p0, q0, hargs, rfl, rfl, h0, r0⟩ := trodAll_cons hA
  obtain ⟨v1, vs1, d1, ds1, p1, q1, rfl, rfl, rfl, h1, r1⟩ := trodAll_cons r0
  obtain ⟨rfl, rfl, rfl⟩ := trodAll_nil r1
  obtain rfl : args = #[v0, v1] := by cases args; simp_all
  obtain ⟨rfl, rfl⟩ := trodVars_none hV
  have k0 := h0
  have lt0 : ∀ x ∈ p0, x.block < W.heap.size := by obtain ⟨m, hm⟩ := k0; exact DataW.trod_lt m _ _ _ hm
  obtain ⟨fuel0, hf0⟩ := h0
  obtain ⟨cs0, rfl, hcs0⟩ := okWide_struct Try.underlying29 (hval 0 29 v0 rfl rfl)
  obtain ⟨y0, hK0, hR0⟩ := (Dt.struct Try.underlying29 (by kernel_rfl) (DtF.cons rfl (Dt.int Try.underlying27 (by kernel_rfl)) (DtF.one rfl (Dt.str Try.underlying9 (by kernel_rfl))))).op _ _ _ _ _ _ hf0 (sized_arg hsz (j := 0) rfl rfl)
  obtain ⟨l0, hl0⟩ : ∃ l, cs0.toList = l := ⟨_, rfl⟩
  have hK0 : ((Kd.pair (Kd.int .i64) Kd.str)).K No W.heap y0 l0 := hl0 ▸ hK0
  obtain ⟨_, _, rfl, rfl, rfl⟩ := hK0
  obtain rfl : cs0 = _ := Array.toList_inj.1 (hl0.trans (List.toList_toArray ..).symm)
  have k1 := h1
  have lt1 : ∀ x ∈ p1, x.block < W.heap.size := by obtain ⟨m, hm⟩ := k1; exact DataW.trod_lt m _ _ _ hm
  obtain ⟨fuel1, hf1⟩ := h1
  obtain ⟨cs1, rfl, hcs1⟩ := okWide_struct Try.underlying29 (hval 1 29 v1 rfl rfl)
  obtain ⟨y1, hK1, hR1⟩ := (Dt.struct Try.underlying29 (by kernel_rfl) (DtF.cons rfl (Dt.int Try.underlying27 (by kernel_rfl)) (DtF.one rfl (Dt.str Try.underlying9 (by kernel_rfl))))).op _ _ _ _ _ _ hf1 (sized_arg hsz (j := 1) rfl rfl)
  obtain ⟨l1, hl1⟩ : ∃ l, cs1.toList = l := ⟨_, rfl⟩
  have hK1 : ((Kd.pair (Kd.int .i64) Kd.str)).K No W.heap y1 l1 := hl1 ▸ hK1
  obtain ⟨_, _, rfl, rfl, rfl⟩ := hK1
  obtain rfl : cs1 = _ := Array.toList_inj.1 (hl1.trans (List.toList_toArray ..).symm)
  clear hA0 hval0 hsz0 hsz
  obtain ⟨k, hF⟩ := NibbleApart_true y0 hR0 y1 hR1
  refine (warderlaw02_NibbleApart_c k y0.1 y0.2 y1.1 y1.2  No W (fun _ h => h.elim)  true hF).mono fun e W' he => ?_
  cases e with
  | returned v =>
    obtain ⟨rfl, hEx⟩ := he
    have bel := hEx.bel
    exact ⟨_, rfl, _, _, _, [], _, [], hW', trodAll_mk1 (shut_bool Try.underlying4 _), (trodAll_cons_mk (Below.trod laidOut (by kernel_rfl) (of_decide_eq_true (by kernel_rfl)) k0 bel lt0) (trodAll_cons_mk (Below.trod laidOut (by kernel_rfl) (of_decide_eq_true (by kernel_rfl)) k1 bel lt1) trodAll_mk0)), rfl, bel.frame _, fun h => by cases h⟩
  | panicked c => exact he.elim
  | outgrown => exact he.elim
theorem over : Rows.nibbleApartRow.holds Try.pinned (OpenSpec.ofChange Rows.nibbleApartSpec) :=
  OpenClaim.holds_of_wide 7 Try.f7 rfl rfl rfl rfl rfl rfl rfl ⟨rfl, rfl, rfl, rfl, rfl⟩ rfl rfl rfl rfl rfl (by kernel_rfl) Try.func7 (by kernel_rfl)
    (of_decide_eq_true (by kernel_rfl)) (by unfold Func.isWrapper; first | (rw [if_pos (by decide +kernel)]; kernel_rfl) | (rw [if_neg (by decide +kernel)]; exact ⟨rfl, rfl⟩))
    (fun os started H enc _ => lifted os started H enc)
end Go.Proofs.Ytmljbiijlljhfaa.nibbleApart
namespace Go.Proofs.Ytmljbiijlljhfaa
/-- The row, under a short name, for the claim. -/
theorem nibbleApart_holds : Rows.NibbleApartSaid := nibbleApart.over
end Go.Proofs.Ytmljbiijlljhfaa
