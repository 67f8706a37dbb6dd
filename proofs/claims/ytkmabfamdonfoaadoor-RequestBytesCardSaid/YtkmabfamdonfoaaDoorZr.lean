/- Own work. A part of the proof of a law of this seat: the law, as the given row; there is no condition but the row's own. -/
import Derived.Test.YtkmabfamdonfoaaDoorRows
import Derived.Test.YtkmabfamdonfoaaDoorCards
import Derived.Test.YtkmabfamdonfoaaDoorTie
import Derived.Test.YtkmabfamdonfoaaDoorMb
import Derived.Test.YtkmabfamdonfoaaDoorMf
import Derived.Test.YtkmabfamdonfoaaDoorWa
import Derived.Test.YtkmabfamdonfoaaDoorWe
import Derived.WalkKit
import Derived.ProofKit
import Derived.OpenShut
import Derived.ShutString
import Derived.ChangeOld
import Derived.Below
import Derived.SizedLaws
import Derived.Carry
import Derived.WideShapes
import Derived.Lay
import Derived.LaidMore
import Derived.LaidOnce
import Derived.LaidLaws
import Derived.LaidHandle
import Derived.SevenTiedAt
import Derived.JoinedOf
import Derived.Stop.Joined
import Derived.MakeChecks
set_option linter.unusedVariables false
set_option linter.unusedSimpArgs false
set_option linter.unusedSectionVars false
namespace Go.Proofs.YtkmabfamdonfoaaDoor.requestBytes
open Go.ChangeShapes Go.WideShapes Go.ChangeAt Go.RowKit Go.Sx
open Go.ChangeMaps (open_string shut_string)
theorem own : ownKnob Tryd.prog.godebug = none := by kernel_rfl
theorem laidOut : laidOutB Tryd.prog = true := by kernel_rfl
set_option maxRecDepth 100000 in
theorem lifted (os : Os) (started : os.Started) (H : Type) (enc : TypeId × Value → H) :
    ReturnsInHanded {} Tryd.checked os 6 .any (fun w args => (Rows.requestBytesSpec.pre enc Tryd.prog Tryd.f6 [] false w args ∧ laidMetH Tryd.prog Rows.requestBytesRow.laid w) ∧ sizedMet enc Tryd.prog Tryd.f6 (OpenSpec.ofChange Rows.requestBytesSpec) false w args)
      (Rows.requestBytesSpec.post enc Tryd.prog Tryd.f6 false true false false) := by
  refine returnsInHanded_of_change_and (C := Tryd.checked) (X := fun w _ => laidMetH Tryd.prog Rows.requestBytesRow.laid w) (fun _ _ _ hh h => h.of_heap hh) own started (by kernel_rfl) Tryd.func6
    (ChangeSpec.witness_shaped (enc := enc) (C := Tryd.checked) (os := os) (X := fun w _ => laidMetH Tryd.prog Rows.requestBytesRow.laid w) false (World.laidAll Tryd.prog os Rows.requestBytesRow.laid) #[.agg #[.int .i64 0, .int .i64 0, .int .i64 0, .int .i64 0, .int .i64 0, .string ByteArray.empty, .string ByteArray.empty, .int .u32 0, .int .i64 0, .int .i64 0, .int .u64 0, .int .i64 0, .bool false]] 8 (World.laidAll_os _ _ _) (World.shaped_of_ZipB (by kernel_rfl) (by kernel_rfl)) (by kernel_rfl) (by kernel_rfl) (by kernel_rfl)
      (by rw [MakeChecks.laidMetH_plain _ _ _ (by kernel_rfl)]; exact laidMet_laidAll _ (by kernel_rfl) (by kernel_rfl))) ?_
  intro W base args ds gs before hval0 hW hcnd hsz0 hX1 hX2
  have hsz : (DataW.weightsEach Tryd.prog (Tryd.f6.params.toList ++ Rows.requestBytesSpec.plain.varTypes Tryd.prog) (ds ++ gs)).all (· ≤ reachBytes) = true := hsz0
  have hval : ∀ (j : Nat) t v, Tryd.f6.params[j]? = some t → args[j]? = some v → Value.okWide Tryd.prog W .any base t v := hval0
  have hW' := hW
  obtain ⟨p, q, hA0, hV, rfl, hfz, hnd⟩ := hW
  have hA : DataW.TrodAll enc Tryd.prog W 0 (fun _ => true) true Tryd.f6.params.toList args.toList ds p := hA0
  rw [Tryd.params6] at hA hval hsz
  obtain ⟨v0, vs0, d0, ds0, p0, q0, hargs, rfl, rfl, h0, r0⟩ := trodAll_cons hA
  obtain ⟨rfl, rfl, rfl⟩ := trodAll_nil r0
  obtain rfl : args = #[v0] := by cases args; simp_all
  obtain ⟨rfl, rfl⟩ := trodVars_none hV
  have k0 := h0
  have lt0 : ∀ x ∈ p0, x.block < W.heap.size := by obtain ⟨m, hm⟩ := k0; exact DataW.trod_lt m _ _ _ hm
  obtain ⟨fuel0, hf0⟩ := h0
  obtain ⟨cs0, rfl, hcs0⟩ := okWide_struct Tryd.underlying52 (hval 0 52 v0 rfl rfl)
  obtain ⟨y0, hK0, hR0⟩ := (Dt.struct Tryd.underlying52 (by kernel_rfl) (DtF.cons rfl (Dt.int Tryd.underlying37 (by kernel_rfl)) (DtF.cons rfl (Dt.int Tryd.underlying43 (by kernel_rfl)) (DtF.cons rfl (Dt.int Tryd.underlying43 (by kernel_rfl)) (DtF.cons rfl (Dt.int Tryd.underlying43 (by kernel_rfl)) (DtF.cons rfl (Dt.struct Tryd.underlying46 (by kernel_rfl) (DtF.cons rfl (Dt.int Tryd.underlying44 (by kernel_rfl)) (DtF.one rfl (Dt.str Tryd.underlying9 (by kernel_rfl))))) (DtF.cons rfl (Dt.str Tryd.underlying9 (by kernel_rfl)) (DtF.cons rfl (Dt.int Tryd.underlying48 (by kernel_rfl)) (DtF.cons rfl (Dt.int Tryd.underlying3 (by kernel_rfl)) (DtF.cons rfl (Dt.int Tryd.underlying3 (by kernel_rfl)) (DtF.cons rfl (Dt.int Tryd.underlying49 (by kernel_rfl)) (DtF.cons rfl (Dt.int Tryd.underlying50 (by kernel_rfl)) (DtF.one rfl (Dt.bool Tryd.underlying4 (by kernel_rfl))))))))))))))).op _ _ _ _ _ _ hf0 (sized_arg hsz (j := 0) rfl rfl)
  clear hA0 hval0 hsz0 hsz
  refine (Go.Mx.lawful Go.Mx.RequestBytes_ok Go.Mx.noNG_prog (fn := Tryd.f6) rfl rfl (Go.Mx.RequestBytes_law y0 hR0) (Go.Mx.gl_ok (by rw [MakeChecks.laidMetH_plain _ _ _ (by kernel_rfl)] at hX1; exact hX1)) (.cons (Go.Mx.vr_arg (t := (.pair (.int .i64) (.pair (.int .i64) (.pair (.int .i64) (.pair (.int .i64) (.pair (.pair (.int .i64) .str) (.pair .str (.pair (.int .u32) (.pair (.int .i64) (.pair (.int .i64) (.pair (.int .u64) (.pair (.int .i64) .bool)))))))))))) hK0 (by simp [Go.Mx.form, Go.Mx.T.aggB, Value.cells])) .nil)).mono fun e W' he => ?_
  cases e with
  | returned v =>
    obtain ⟨rfl, hEx⟩ := he
    have bel := hEx.below
    exact ⟨_, rfl, _, _, _, [], _, [], hW', trodAll_mk1 (shut_bool Tryd.underlying4 _), (trodAll_cons_mk (Below.trod laidOut (by kernel_rfl) (of_decide_eq_true (by kernel_rfl)) k0 bel lt0) trodAll_mk0), rfl, bel.frame _, fun h => by cases h⟩
  | panicked c => exact he.elim
  | outgrown => exact he.elim
theorem over : Rows.requestBytesRow.holds Tryd.pinned (OpenSpec.ofChange Rows.requestBytesSpec) :=
  OpenClaim.holds_of_wide 6 Tryd.f6 rfl rfl rfl rfl rfl rfl rfl ⟨rfl, rfl, rfl, rfl, rfl⟩ rfl rfl rfl rfl rfl (by kernel_rfl) Tryd.func6 (by kernel_rfl)
    (of_decide_eq_true (by kernel_rfl)) (by unfold Func.isWrapper; first | (rw [if_pos (by decide +kernel)]; kernel_rfl) | (rw [if_neg (by decide +kernel)]; exact ⟨rfl, rfl⟩))
    (fun os started H enc _ => lifted os started H enc)
end Go.Proofs.YtkmabfamdonfoaaDoor.requestBytes
namespace Go.Proofs.YtkmabfamdonfoaaDoor
theorem requestBytes_holds : Rows.RequestBytesCardSaid :=
  Claim7.holds_tied_plain_at .later [] Rows.requestBytesCard.laidKinds true Rows.requestBytesCard.stood.harness Rows.requestBytesCard.stood.looks requestBytes.over (fun _ h => by cases h) (by kernel_rfl) (fun _ h => by cases h) requestBytes_row_tie rfl ⟨rfl, rfl⟩ (by kernel_rfl) rfl
    (fun f fn hf hfn => by
      obtain rfl : f = 6 := Option.some.inj ((show Tryd.prog.funcNamed Rows.requestBytesRow.func = some 6 by kernel_rfl).symm.trans hf) |>.symm
      obtain rfl : fn = Tryd.f6 := (Option.some.inj (Tryd.func6.symm.trans hfn)).symm
      exact ⟨by kernel_rfl, fun j t ht => by
        rw [Tryd.params6] at ht
        have hm : t ∈ [52] := by simpa using Array.mem_of_getElem? ht
        have hall : ([52].all fun u => !Tryd.prog.wantsStandIn u) = true := by kernel_rfl
        exact (show Tryd.prog.wantsStandIn t = false by simpa using List.all_eq_true.1 hall t hm)⟩)
    (by kernel_rfl)
end Go.Proofs.YtkmabfamdonfoaaDoor
