/- Own work. A part of the proof of a law of this seat: the law, as the given row; there is no condition but the row's own. -/
import Derived.Test.YtaejkhkbcnngpaaDoorRows
import Derived.Test.YtaejkhkbcnngpaaDoorCards
import Derived.Test.YtaejkhkbcnngpaaDoorTie
import Derived.Test.YtaejkhkbcnngpaaDoorMb
import Derived.Test.YtaejkhkbcnngpaaDoorMf
import Derived.Test.YtaejkhkbcnngpaaDoorWa
import Derived.WalkKit
import Derived.ProofKit
import Derived.OpenShut
import Derived.ShutString
import Derived.ChangeOld
import Derived.Below
import Derived.SizedLaws
import Derived.Carry
import Derived.WideShapes
import Derived.Lay
import Derived.LaidMore
import Derived.LaidOnce
import Derived.LaidLaws
import Derived.LaidHandle
import Derived.SevenTiedAt
import Derived.JoinedOf
import Derived.Stop.Joined
import Derived.MakeChecks
set_option linter.unusedVariables false
set_option linter.unusedSimpArgs false
set_option linter.unusedSectionVars false
namespace Go.Proofs.YtaejkhkbcnngpaaDoor.spreadTilts
open Go.ChangeShapes Go.WideShapes Go.ChangeAt Go.RowKit Go.Sx
open Go.ChangeMaps (open_string shut_string)
theorem own : ownKnob Tryd.prog.godebug = none := by kernel_rfl
theorem laidOut : laidOutB Tryd.prog = true := by kernel_rfl
set_option maxRecDepth 100000 in
theorem lifted (os : Os) (started : os.Started) (H : Type) (enc : TypeId × Value → H) :
    ReturnsInHanded {} Tryd.checked os 3 .any (fun w args => (Rows.spreadTiltsSpec.pre enc Tryd.prog Tryd.f3 [] false w args ∧ laidMetH Tryd.prog Rows.spreadTiltsRow.laid w) ∧ sizedMet enc Tryd.prog Tryd.f3 (OpenSpec.ofChange Rows.spreadTiltsSpec) false w args)
      (Rows.spreadTiltsSpec.post enc Tryd.prog Tryd.f3 false true false false) := by
  refine returnsInHanded_of_change_and (C := Tryd.checked) (X := fun w _ => laidMetH Tryd.prog Rows.spreadTiltsRow.laid w) (fun _ _ _ hh h => h.of_heap hh) own started (by kernel_rfl) Tryd.func3
    (ChangeSpec.witness_shaped (enc := enc) (C := Tryd.checked) (os := os) (X := fun w _ => laidMetH Tryd.prog Rows.spreadTiltsRow.laid w) false (World.laidAll Tryd.prog os Rows.spreadTiltsRow.laid) #[.agg #[.int .i64 0, .int .i64 0, .int .i64 0, .int .i64 0, .int .i64 0, .int .i64 0, .int .i64 0, .int .i64 0, .int .i64 0, .int .i64 0, .int .i64 0, .int .i64 0, .int .i64 0, .int .i64 0, .int .i64 0, .int .i64 0]] 8 (World.laidAll_os _ _ _) (World.shaped_of_ZipB (by kernel_rfl) (by kernel_rfl)) (by kernel_rfl) (by kernel_rfl) (by kernel_rfl)
      (by rw [MakeChecks.laidMetH_plain _ _ _ (by kernel_rfl)]; exact laidMet_laidAll _ (by kernel_rfl) (by kernel_rfl))) ?_
  intro W base args ds gs before hval0 hW hcnd hsz0 hX1 hX2
  have hsz : (DataW.weightsEach Tryd.prog (Tryd.f3.params.toList ++ Rows.spreadTiltsSpec.plain.varTypes Tryd.prog) (ds ++ gs)).all (· ≤ reachBytes) = true := hsz0
  have hval : ∀ (j : Nat) t v, Tryd.f3.params[j]? = some t → args[j]? = some v → Value.okWide Tryd.prog W .any base t v := hval0
  have hW' := hW
  obtain ⟨p, q, hA0, hV, rfl, hfz, hnd⟩ := hW
  have hA : DataW.TrodAll enc Tryd.prog W 0 (fun _ => true) true Tryd.f3.params.toList args.toList ds p := hA0
  rw [Tryd.params3] at hA hval hsz
  obtain ⟨v0, vs0, d0, ds0, p0, q0, hargs, rfl, rfl, h0, r0⟩ := trodAll_cons hA
  obtain ⟨rfl, rfl, rfl⟩ := trodAll_nil r0
  obtain rfl : args = #[v0] := by cases args; simp_all
  obtain ⟨rfl, rfl⟩ := trodVars_none hV
  have k0 := h0
  have lt0 : ∀ x ∈ p0, x.block < W.heap.size := by obtain ⟨m, hm⟩ := k0; exact DataW.trod_lt m _ _ _ hm
  obtain ⟨fuel0, hf0⟩ := h0
  obtain ⟨cs0, rfl, hcs0⟩ := Go.Mx.okWide_array Tryd.underlying22 (hval 0 22 v0 rfl rfl)
  obtain ⟨y0, hK0, hR0⟩ := (Dt.arrL (Dt.arr Tryd.underlying22 (by kernel_rfl) (Dt.int Tryd.underlying3 (by kernel_rfl)))).op _ _ _ _ _ _ hf0 (sized_arg hsz (j := 0) rfl rfl)
  clear hA0 hval0 hsz0 hsz
  refine (Go.Mx.lawful Go.Mx.SpreadTilts_ok Go.Mx.noNG_prog (fn := Tryd.f3) rfl rfl (Go.Mx.SpreadTilts_law y0 hR0) (Go.Mx.gl_ok (by rw [MakeChecks.laidMetH_plain _ _ _ (by kernel_rfl)] at hX1; exact hX1)) (.cons (Go.Mx.vr_arg (t := (.arr 16 (.int .i64))) hK0 (by simp [Go.Mx.form, Go.Mx.T.aggB, Value.cells])) .nil)).mono fun e W' he => ?_
  cases e with
  | returned v =>
    obtain ⟨rfl, hEx⟩ := he
    have bel := hEx.below
    exact ⟨_, rfl, _, _, _, [], _, [], hW', trodAll_mk1 (shut_bool Tryd.underlying4 _), (trodAll_cons_mk (Below.trod laidOut (by kernel_rfl) (of_decide_eq_true (by kernel_rfl)) k0 bel lt0) trodAll_mk0), rfl, bel.frame _, fun h => by cases h⟩
  | panicked c => exact he.elim
  | outgrown => exact he.elim
theorem over : Rows.spreadTiltsRow.holds Tryd.pinned (OpenSpec.ofChange Rows.spreadTiltsSpec) :=
  OpenClaim.holds_of_wide 3 Tryd.f3 rfl rfl rfl rfl rfl rfl rfl ⟨rfl, rfl, rfl, rfl, rfl⟩ rfl rfl rfl rfl rfl (by kernel_rfl) Tryd.func3 (by kernel_rfl)
    (of_decide_eq_true (by kernel_rfl)) (by unfold Func.isWrapper; first | (rw [if_pos (by decide +kernel)]; kernel_rfl) | (rw [if_neg (by decide +kernel)]; exact ⟨rfl, rfl⟩))
    (fun os started H enc _ => lifted os started H enc)
end Go.Proofs.YtaejkhkbcnngpaaDoor.spreadTilts
namespace Go.Proofs.YtaejkhkbcnngpaaDoor
theorem spreadTilts_holds : Rows.SpreadTiltsCardSaid :=
  Claim7.holds_tied_plain_at .later [] Rows.spreadTiltsCard.laidKinds true Rows.spreadTiltsCard.stood.harness Rows.spreadTiltsCard.stood.looks spreadTilts.over (fun _ h => by cases h) (by kernel_rfl) (fun _ h => by cases h) spreadTilts_row_tie rfl ⟨rfl, rfl⟩ (by kernel_rfl) rfl
    (fun f fn hf hfn => by
      obtain rfl : f = 3 := Option.some.inj ((show Tryd.prog.funcNamed Rows.spreadTiltsRow.func = some 3 by kernel_rfl).symm.trans hf) |>.symm
      obtain rfl : fn = Tryd.f3 := (Option.some.inj (Tryd.func3.symm.trans hfn)).symm
      exact ⟨by kernel_rfl, fun j t ht => by
        rw [Tryd.params3] at ht
        have hm : t ∈ [22] := by simpa using Array.mem_of_getElem? ht
        have hall : ([22].all fun u => !Tryd.prog.wantsStandIn u) = true := by kernel_rfl
        exact (show Tryd.prog.wantsStandIn t = false by simpa using List.all_eq_true.1 hall t hm)⟩)
    (by kernel_rfl)
end Go.Proofs.YtaejkhkbcnngpaaDoor
