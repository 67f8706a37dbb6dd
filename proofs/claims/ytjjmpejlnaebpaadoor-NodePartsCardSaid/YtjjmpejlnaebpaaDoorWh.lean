/- Own work. A part of the proof of a law of this seat: this seat's functions, by the machine, and the plain law -/
import Derived.Test.YtjjmpejlnaebpaaDoorRows
import Derived.Test.YtjjmpejlnaebpaaDoorCards
import Derived.Test.YtjjmpejlnaebpaaDoorTie
import Derived.Test.YtjjmpejlnaebpaaDoorSb
import Derived.Test.YtjjmpejlnaebpaaDoorMe
import Derived.Test.YtjjmpejlnaebpaaDoorWg
import Derived.WalkKit
import Derived.ProofKit
import Derived.OpenShut
import Derived.ShutString
import Derived.ChangeOld
import Derived.Below
import Derived.SizedLaws
import Derived.Carry
import Derived.WideShapes
import Derived.Lay
import Derived.LaidMore
import Derived.LaidOnce
import Derived.LaidLaws
import Derived.LaidHandle
import Derived.SevenTiedAt
import Derived.JoinedOf
import Derived.Stop.Joined
import Derived.MakeChecks
/- The law NodeParts: what its run comes to, as the given row. -/
namespace Go.Proofs.YtjjmpejlnaebpaaDoor.nodeParts
open Go.ChangeShapes Go.WideShapes Go.ChangeAt Go.RowKit Go.Sx
open Go.ChangeMaps (open_string shut_string)
set_option linter.unusedVariables false
theorem own : ownKnob Tryd.prog.godebug = none := by kernel_rfl
theorem laidOut : laidOutB Tryd.prog = true := by kernel_rfl
set_option maxRecDepth 100000 in
theorem lifted (os : Os) (started : os.Started) (H : Type) (enc : TypeId × Value → H) :
    ReturnsInHanded {} Tryd.checked os 4 .any (fun w args => (Rows.nodePartsSpec.pre enc Tryd.prog Tryd.f4 [] false w args ∧ laidMetH Tryd.prog Rows.nodePartsRow.laid w) ∧ sizedMet enc Tryd.prog Tryd.f4 (OpenSpec.ofChange Rows.nodePartsSpec) false w args)
      (Rows.nodePartsSpec.post enc Tryd.prog Tryd.f4 false true false false) := by
  refine returnsInHanded_of_change_and (C := Tryd.checked) (X := fun w _ => laidMetH Tryd.prog Rows.nodePartsRow.laid w) (fun _ _ _ hh h => h.of_heap hh) own started (by kernel_rfl) Tryd.func4
    (ChangeSpec.witness_at (enc := enc) (C := Tryd.checked) (os := os) (X := fun w _ => laidMetH Tryd.prog Rows.nodePartsRow.laid w) false (World.laidAll Tryd.prog os Rows.nodePartsRow.laid) #[.int .i64 0, .int .i64 0, .agg #[.int .i64 0, .int .i64 0, .int .i64 0, .int .u64 0], .int .i64 0, .agg #[.int .i64 0, .int .i64 0, .int .i64 0, .int .u64 0]] 8 (World.laidAll_os _ _ _) (by kernel_rfl) (by kernel_rfl) (by kernel_rfl) (by kernel_rfl) (by kernel_rfl)
      (by rw [MakeChecks.laidMetH_plain _ _ _ (by kernel_rfl)]; exact laidMet_laidAll _ (by kernel_rfl) (by kernel_rfl))) ?_
  intro W base args ds gs before hval0 hW hcnd hsz0 _ _
  have hsz : (DataW.weightsEach Tryd.prog (Tryd.f4.params.toList ++ Rows.nodePartsSpec.plain.varTypes Tryd.prog) (ds ++ gs)).all (· ≤ reachBytes) = true := hsz0
  have hval : ∀ (j : Nat) t v, Tryd.f4.params[j]? = some t → args[j]? = some v → Value.okWide Tryd.prog W .any base t v := hval0
  have hW' := hW
  obtain ⟨p, q, hA0, hV, rfl, hfz, hnd⟩ := hW
  have hA : DataW.TrodAll enc Tryd.prog W 0 (fun _ => true) true Tryd.f4.params.toList args.toList ds p := hA0
  rw [Tryd.params4] at hA hval hsz
  obtain ⟨v0, vs0, d0, ds0, p0, q0, hargs, rfl, rfl, h0, r0⟩ := trodAll_cons hA
  obtain ⟨v1, vs1, d1, ds1, p1, q1, rfl, rfl, rfl, h1, r1⟩ := trodAll_cons r0
  obtain ⟨v2, vs2, d2, ds2, p2, q2, rfl, rfl, rfl, h2, r2⟩ := trodAll_cons r1
  obtain ⟨v3, vs3, d3, ds3, p3, q3, rfl, rfl, rfl, h3, r3⟩ := trodAll_cons r2
  obtain ⟨v4, vs4, d4, ds4, p4, q4, rfl, rfl, rfl, h4, r4⟩ := trodAll_cons r3
  obtain ⟨rfl, rfl, rfl⟩ := trodAll_nil r4
  obtain rfl : args = #[v0, v1, v2, v3, v4] := by cases args; simp_all
  obtain ⟨rfl, rfl⟩ := trodVars_none hV
  have k0 := h0
  have lt0 : ∀ x ∈ p0, x.block < W.heap.size := by obtain ⟨m, hm⟩ := k0; exact DataW.trod_lt m _ _ _ hm
  obtain ⟨fuel0, hf0⟩ := h0
  obtain ⟨y0, rfl, rfl, rfl, hR0⟩ := open_int Tryd.underlying3 (hval 0 3 v0 rfl rfl) k0
  have k1 := h1
  have lt1 : ∀ x ∈ p1, x.block < W.heap.size := by obtain ⟨m, hm⟩ := k1; exact DataW.trod_lt m _ _ _ hm
  obtain ⟨fuel1, hf1⟩ := h1
  obtain ⟨y1, rfl, rfl, rfl, hR1⟩ := open_int Tryd.underlying3 (hval 1 3 v1 rfl rfl) k1
  have k2 := h2
  have lt2 : ∀ x ∈ p2, x.block < W.heap.size := by obtain ⟨m, hm⟩ := k2; exact DataW.trod_lt m _ _ _ hm
  obtain ⟨fuel2, hf2⟩ := h2
  obtain ⟨cs2, rfl, hcs2⟩ := okWide_struct Tryd.underlying28 (hval 2 28 v2 rfl rfl)
  obtain ⟨y2, hK2, hR2⟩ := (Dt.struct Tryd.underlying28 (by kernel_rfl) (DtF.cons rfl (Dt.int Tryd.underlying22 (by kernel_rfl)) (DtF.cons rfl (Dt.int Tryd.underlying23 (by kernel_rfl)) (DtF.one rfl (Dt.struct Tryd.underlying26 (by kernel_rfl) (DtF.cons rfl (Dt.int Tryd.underlying3 (by kernel_rfl)) (DtF.one rfl (Dt.int Tryd.underlying24 (by kernel_rfl))))))))).op _ _ _ _ _ _ hf2 (sized_arg hsz (j := 2) rfl rfl)
  have k3 := h3
  have lt3 : ∀ x ∈ p3, x.block < W.heap.size := by obtain ⟨m, hm⟩ := k3; exact DataW.trod_lt m _ _ _ hm
  obtain ⟨fuel3, hf3⟩ := h3
  obtain ⟨y3, rfl, rfl, rfl, hR3⟩ := open_int Tryd.underlying3 (hval 3 3 v3 rfl rfl) k3
  have k4 := h4
  have lt4 : ∀ x ∈ p4, x.block < W.heap.size := by obtain ⟨m, hm⟩ := k4; exact DataW.trod_lt m _ _ _ hm
  obtain ⟨fuel4, hf4⟩ := h4
  obtain ⟨cs4, rfl, hcs4⟩ := okWide_struct Tryd.underlying28 (hval 4 28 v4 rfl rfl)
  obtain ⟨y4, hK4, hR4⟩ := (Dt.struct Tryd.underlying28 (by kernel_rfl) (DtF.cons rfl (Dt.int Tryd.underlying22 (by kernel_rfl)) (DtF.cons rfl (Dt.int Tryd.underlying23 (by kernel_rfl)) (DtF.one rfl (Dt.struct Tryd.underlying26 (by kernel_rfl) (DtF.cons rfl (Dt.int Tryd.underlying3 (by kernel_rfl)) (DtF.one rfl (Dt.int Tryd.underlying24 (by kernel_rfl))))))))).op _ _ _ _ _ _ hf4 (sized_arg hsz (j := 4) rfl rfl)
  clear hA0 hval0 hsz0 hsz
  refine (Go.Mx.lawful Go.Mx.NodeParts_ok Go.Mx.noNG_prog (fn := Tryd.f4) rfl rfl (Go.Mx.NodeParts_law y0 hR0 y1 hR1 y2 hR2 y3 hR3 y4 hR4) (.cons (Go.Mx.vr_intI _ _) (.cons (Go.Mx.vr_intI _ _) (.cons (Go.Mx.vr_arg (t := (.pair (.int .i64) (.pair (.int .i64) (.pair (.int .i64) (.int .u64))))) hK2 (by simp [Go.Mx.form, Go.Mx.T.aggB, Value.cells])) (.cons (Go.Mx.vr_intI _ _) (.cons (Go.Mx.vr_arg (t := (.pair (.int .i64) (.pair (.int .i64) (.pair (.int .i64) (.int .u64))))) hK4 (by simp [Go.Mx.form, Go.Mx.T.aggB, Value.cells])) .nil)))))).mono fun e W' he => ?_
  cases e with
  | returned v =>
    obtain ⟨rfl, hEx⟩ := he
    have bel := hEx.below
    exact ⟨_, rfl, _, _, _, [], _, [], hW', trodAll_mk1 (shut_bool Tryd.underlying4 _), (trodAll_cons_mk (Below.trod laidOut (by kernel_rfl) (of_decide_eq_true (by kernel_rfl)) k0 bel lt0) (trodAll_cons_mk (Below.trod laidOut (by kernel_rfl) (of_decide_eq_true (by kernel_rfl)) k1 bel lt1) (trodAll_cons_mk (Below.trod laidOut (by kernel_rfl) (of_decide_eq_true (by kernel_rfl)) k2 bel lt2) (trodAll_cons_mk (Below.trod laidOut (by kernel_rfl) (of_decide_eq_true (by kernel_rfl)) k3 bel lt3) (trodAll_cons_mk (Below.trod laidOut (by kernel_rfl) (of_decide_eq_true (by kernel_rfl)) k4 bel lt4) trodAll_mk0))))), rfl, bel.frame _, fun h => by cases h⟩
  | panicked c => exact he.elim
  | outgrown => exact he.elim
theorem over : Rows.nodePartsRow.holds Tryd.pinned (OpenSpec.ofChange Rows.nodePartsSpec) :=
  OpenClaim.holds_of_wide 4 Tryd.f4 rfl rfl rfl rfl rfl rfl rfl ⟨rfl, rfl, rfl, rfl, rfl⟩ rfl rfl rfl rfl rfl (by kernel_rfl) Tryd.func4 (by kernel_rfl)
    (of_decide_eq_true (by kernel_rfl)) (by unfold Func.isWrapper; first | (rw [if_pos (by decide +kernel)]; kernel_rfl) | (rw [if_neg (by decide +kernel)]; exact ⟨rfl, rfl⟩))
    (fun os started H enc _ => lifted os started H enc)
end Go.Proofs.YtjjmpejlnaebpaaDoor.nodeParts
namespace Go.Proofs.YtjjmpejlnaebpaaDoor
/-- The card, under a short name, for the claim. -/
theorem nodeParts_holds : Rows.NodePartsCardSaid :=
  Claim7.holds_tied_plain_at .later [] Rows.nodePartsCard.laidKinds true Rows.nodePartsCard.stood.harness true nodeParts.over (fun _ h => by cases h) (by kernel_rfl) (fun _ h => by cases h) nodeParts_row_tie rfl ⟨rfl, rfl⟩ (by kernel_rfl) rfl
    (fun f fn hf hfn => by
      obtain rfl : f = 4 := Option.some.inj ((show Tryd.prog.funcNamed Rows.nodePartsRow.func = some 4 by kernel_rfl).symm.trans hf) |>.symm
      obtain rfl : fn = Tryd.f4 := (Option.some.inj (Tryd.func4.symm.trans hfn)).symm
      exact ⟨by kernel_rfl, fun j t ht => by
        rw [Tryd.params4] at ht
        have hm : t ∈ [3, 3, 28, 3, 28] := by simpa using Array.mem_of_getElem? ht
        have hall : ([3, 3, 28, 3, 28].all fun u => !Tryd.prog.wantsStandIn u) = true := by kernel_rfl
        exact (show Tryd.prog.wantsStandIn t = false by simpa using List.all_eq_true.1 hall t hm)⟩)
    (by kernel_rfl)
end Go.Proofs.YtjjmpejlnaebpaaDoor
