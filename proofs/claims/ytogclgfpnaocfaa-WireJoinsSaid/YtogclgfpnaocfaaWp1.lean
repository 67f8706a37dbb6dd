/- Own work. A part of the proof of a law of this seat: The walk: what each function of the program comes to. -/
import Derived.Test.YtogclgfpnaocfaaProg
import Derived.Test.YtogclgfpnaocfaaWp
open Go Go.RowKit Go.Sx
namespace Go.Proofs.Ytogclgfpnaocfaa
set_option linter.unusedVariables false
set_option linter.unusedSimpArgs false

set_option maxHeartbeats 4000000 in
set_option maxRecDepth 100000 in
theorem warderlaw01_WireJoins_c (k : Nat) (a0 : List (List Int)) (p1 : Option Addr) (c1 : Nat) (W : Nat → Prop) (w : World) (hW : ∀ k, W k → k < w.heap.size) (r1 : Raw (Av [] W) (Kd.sl (Kd.int .u8)) w.heap p1 c1 a0) (r : Bool) (hF : warderlaw01_WireJoins k a0 = some r) :
    Calls Try.prog 4 [.slice p1 a0.length c1].toArray w (Ret fun v w' => v = .bool r ∧ Ex w (Av [] No) [] w') := by
  unfold warderlaw01_WireJoins at hF
  refine enter [(0, .slice p1 a0.length c1)] Try.func4 rfl Try.ntmps4 rfl rfl fun a ha => ?_
  have hE : Ex w (Av [] No) [] w := Ex.refl w _
  have hW0 : ∀ p, some p ∈ ([] : List (Option Addr)) → ¬ W p.block := fun _ h => by cases h
  refine wp_seq_k (fun K1 hK1 => ?_)
  refine wreg ?_
  refine go1 ha rfl (d_assign ha rfl) fun a ha => ?_
  refine nil_ ?_
  refine hK1 _ _ ?_
  have ha := ha.to (l' := [(0, _)]) rfl
  refine wp_seq_k (fun K2 hK2 => ?_)
  refine wreg ?_
  refine go1 ha rfl (d_assign ha rfl) fun a ha => ?_
  refine nil_ ?_
  refine hK2 _ _ ?_
  have ha := ha.to (l' := [(0, _), (3, _)]) rfl
  refine wp_seq_k (fun K3 hK3 => ?_)
  refine wp_seq_k (fun K4 hK4 => ?_)
  refine wreg ?_
  refine go1 ha rfl (d_assign ha rfl) fun a ha => ?_
  refine nil_ ?_
  refine hK4 _ _ ?_
  have ha := ha.to (l' := [(0, _), (3, _), (4, _)]) rfl
  refine wp_block ?_
  refine wloopJ (fun k' a w1 => ∃ (x1 : Int) (x2 : Int), Has 88 [(0, .slice p1 a0.length c1), (3, .int .i64 x1), (4, .int .i64 x2)] a ∧ Ex w (Av [] No) [] w1 ∧ Raw (Av [] W) (Kd.sl (Kd.int .u8)) w1.heap p1 c1 a0 ∧ warderlaw01_WireJoins_l0 k a0 k' x1 x2 = some r) k ⟨(0 : Int), (0 : Int), ha.to rfl, hE, r1, hF⟩ ?_
  rintro k1 a w1 ⟨x1, x2, ha, hE, r1, hF⟩ K5 hK5
  cases k1 with
  | zero => cases hF
  | succ k1 =>
    rw [warderlaw01_WireJoins_l0] at hF
    refine wp_seq_k (fun K6 hK6 => ?_)
    refine wp_seq_k (fun K7 hK7 => ?_)
    refine wreg ?_
    refine go1 ha rfl (d_move ha rfl) fun a ha => ?_
    refine go1 ha rfl (d_move ha rfl) fun a ha => ?_
    refine go1 ha rfl (d_lenSlice ha Try.underlying35 rfl) fun a ha => ?_
    refine go1 ha rfl (d_lt ha rfl rfl) fun a ha => ?_
    refine nil_ ?_
    refine hK7 _ _ ?_
    have ha := ha.to (l' := [(0, _), (3, _), (4, _), (14, _)]) rfl
    rcases ite_elim hF with ⟨hc1, hF⟩ | ⟨hc1, hF⟩
    · refine wcond_t ha rfl (decide_eq_true hc1) ?_
      refine wp_skip ?_
      refine hK6 _ _ ?_
      have ha := ha.to (l' := [(0, _), (3, _), (4, _)]) rfl
      refine wp_seq_k (fun K8 hK8 => ?_)
      refine wp_block ?_
      refine wp_seq_k (fun K9 hK9 => ?_)
      refine wreg ?_
      refine go1 ha rfl (d_move ha rfl) fun a ha => ?_
      refine go1 ha rfl (d_move ha rfl) fun a ha => ?_
      refine go1 ha rfl (d_move ha rfl) fun a ha => ?_
      obtain ⟨hc2, hF⟩ := ck_elim hF
      refine goS ha rfl (d_index (kd := (Kd.sl (Kd.int .u8))) ha rfl rfl Try.underlying35 Try.sizeOf23 r1 hc2 ([] : List (Int))) fun v a h ha => ?_
      obtain ⟨b1, q1, cs1, rfl, _, hk1, at1⟩ := h
      obtain ⟨p2, c2, rfl, r2⟩ := hk1
      refine go1 ha rfl (d_load ha rfl (at1.cell 0 rfl) Try.isAgg23) fun a ha => ?_
      refine go1 ha rfl (d_lenSlice ha Try.underlying23 rfl) fun a ha => ?_
      refine go1 ha rfl (d_add ha rfl rfl) fun a ha => ?_
      refine go1 ha rfl (d_assign ha rfl) fun a ha => ?_
      refine nil_ ?_
      refine hK9 _ _ ?_
      have ha := ha.to (l' := [(0, _), (3, _), (4, _)]) rfl
      refine wp_seq_k (fun K10 hK10 => ?_)
      refine wreg ?_
      refine go1 ha rfl (d_move ha rfl) fun a ha => ?_
      refine go1 ha rfl (d_gt ha rfl rfl) fun a ha => ?_
      refine go1 ha rfl (d_move ha rfl) fun a ha => ?_
      rcases ite_elim hF with ⟨hc3, hF⟩ | ⟨hc3, hF⟩
      · refine goOff ha rfl rfl rfl rfl (decide_eq_true hc3) fun a ha => ?_
        refine goOff ha rfl rfl rfl rfl (decide_eq_true hc3) fun a ha => ?_
        refine go1 ha rfl (d_pick ha rfl (decide_eq_true hc3) rfl) fun a ha => ?_
        refine nil_ ?_
        refine hK10 _ _ ?_
        have ha := ha.to (l' := [(0, _), (3, _), (4, _), (29, _)]) rfl
        refine wcond_t ha rfl rfl ?_
        refine wp_seq_k (fun K11 hK11 => ?_)
        refine wreg ?_
        obtain ⟨t1, ht1, hF⟩ := bind_elim hF
        refine goR ha rfl (d_call Try.call9 ha (vs := []) rfl (warderlaw01_known_c k   (Av [] W) _ (Ex.wlt (as0 := []) (rr := []) (ro := []) hE hW)  _ ht1)) fun v w2 a h ha => ?_
        obtain ⟨rfl, hC⟩ := h
        have hs : Step [] [] w1 w2 := hC.callStep []
        have r1 := hs.tr r1
        have r2 := hs.tr r2
        have hE : Ex w (Av [] No) [] w2 := Ex.call (as0 := []) (rt := []) hE hC
        refine go1 ha rfl (d_assign ha rfl) fun a ha => ?_
        refine nil_ ?_
        refine hK11 _ _ ?_
        have ha := ha.to (l' := [(2, _)]) rfl
        refine wp_ret ?_
        injection hF with hF
        subst hF
        refine fin1 ha Try.results4 rfl ?_
        exact ⟨rfl, hE⟩
      · refine goOn1 ha rfl rfl rfl rfl (decide_eq_false hc3) (d_move ha rfl) fun a ha => ?_
        refine goOn1 ha rfl rfl rfl rfl (decide_eq_false hc3) (d_gt ha rfl rfl) fun a ha => ?_
        refine go1 ha rfl (d_pickF ha rfl (decide_eq_false hc3) rfl) fun a ha => ?_
        refine nil_ ?_
        refine hK10 _ _ ?_
        have ha := ha.to (l' := [(0, _), (3, _), (4, _), (29, _)]) rfl
        rcases ite_elim hF with ⟨hc4, hF⟩ | ⟨hc4, hF⟩
        · refine wcond_t ha rfl (decide_eq_true hc4) ?_
          refine wp_seq_k (fun K12 hK12 => ?_)
          refine wreg ?_
          obtain ⟨t2, ht2, hF⟩ := bind_elim hF
          refine goR ha rfl (d_call Try.call9 ha (vs := []) rfl (warderlaw01_known_c k   (Av [] W) _ (Ex.wlt (as0 := []) (rr := []) (ro := []) hE hW)  _ ht2)) fun v w3 a h ha => ?_
          obtain ⟨rfl, hC⟩ := h
          have hs : Step [] [] w1 w3 := hC.callStep []
          have r1 := hs.tr r1
          have r2 := hs.tr r2
          have hE : Ex w (Av [] No) [] w3 := Ex.call (as0 := []) (rt := []) hE hC
          refine go1 ha rfl (d_assign ha rfl) fun a ha => ?_
          refine nil_ ?_
          refine hK12 _ _ ?_
          have ha := ha.to (l' := [(2, _)]) rfl
          refine wp_ret ?_
          injection hF with hF
          subst hF
          refine fin1 ha Try.results4 rfl ?_
          exact ⟨rfl, hE⟩
        · refine wcond_f ha rfl (decide_eq_false hc4) ?_
          refine wp_skip ?_
          refine hK8 _ _ ?_
          have ha := ha.to (l' := [(0, _), (3, _), (4, _)]) rfl
          refine wreg ?_
          refine go1 ha rfl (d_move ha rfl) fun a ha => ?_
          refine go1 ha rfl (d_add ha rfl rfl) fun a ha => ?_
          refine go1 ha rfl (d_assign ha rfl) fun a ha => ?_
          refine nil_ ?_
          exact hK5 k1 _ _ (Nat.lt_succ_self _) ⟨(IntKind.i64.wrap (x1 + ((a0.getD (x2).toNat ([] : List (Int))).length : Int))), (IntKind.i64.wrap (x2 + (1 : Int))), ha.to rfl, hE, r1, hF⟩
    · refine wcond_f ha rfl (decide_eq_false hc1) ?_
      refine wp_exit ?_
      refine hK3 _ _ ?_
      have ha := ha.to (l' := [(0, _)]) rfl
      refine wp_seq_k (fun K13 hK13 => ?_)
      refine wreg ?_
      refine go1 ha rfl (d_assign ha rfl) fun a ha => ?_
      refine nil_ ?_
      refine hK13 _ _ ?_
      have ha := ha.to (l' := [(0, _), (5, _)]) rfl
      refine wp_seq_k (fun K14 hK14 => ?_)
      refine wreg ?_
      refine go1 ha rfl (d_assign ha rfl) fun a ha => ?_
      refine nil_ ?_
      refine hK14 _ _ ?_
      have ha := ha.to (l' := [(0, _), (5, _), (6, _)]) rfl
      refine wp_seq_k (fun K15 hK15 => ?_)
      refine wp_seq_k (fun K16 hK16 => ?_)
      refine wreg ?_
      refine go1 ha rfl (d_assign ha rfl) fun a ha => ?_
      refine nil_ ?_
      refine hK16 _ _ ?_
      have ha := ha.to (l' := [(0, _), (5, _), (6, _), (7, _)]) rfl
      refine wp_block ?_
      have hs := Step.add (a := none) [] (Fr.refl w1 No) (fun _ h => by cases h)
      have r1 := hs.tr r1
      have hE : Ex w (Av [] No) [none] w1 := hE.add (a := none) (Fr.refl w1 No) (fun _ h => by cases h)
      have o9 := Ow.nil (Av [none] W) w1 23 (Kd.sl (Kd.int .u8))
      have hs := Step.add (a := none) [none] (Fr.refl w1 No) (fun _ h => by cases h)
      have r1 := hs.tr r1
      have o9 := o9.keep (Fr.refl _ No) (fun _ _ h => h) (fun _ _ h => hs.trK h)
      have hE : Ex w (Av [] No) [none, none] w1 := hE.add (a := none) (Fr.refl w1 No) (fun _ h => by cases h)
      have o10 := Ow.nil (Av [none, none] W) w1 5 (Kd.int .u8)
      have hs : Step [none, none] [none, none] w1 w1 := Step.pick _ _ [1, 0]
      have r1 := hs.tr r1
      have o9 := o9.keep (Fr.refl _ No) (fun _ _ h => h) (fun _ _ h => hs.trK h)
      have o10 := o10.keep (Fr.refl _ No) (fun _ _ h => h) (fun _ _ h => hs.trK h)
      have hE : Ex w (Av [] No) [none, none] w1 := hE.pick [1, 0] (by decide)
      refine wloopJ (fun k' a w4 => ∃ (x3 : List (List Int)) (p3 : Option Addr) (c3 : Nat) (x4 : List Int) (p4 : Option Addr) (c4 : Nat) (x5 : Int), Has 88 [(0, .slice p1 a0.length c1), (5, .slice p3 x3.length c3), (6, .slice p4 x4.length c4), (7, .int .i64 x5)] a ∧ Ex w (Av [] No) [p3, p4] w4 ∧ Raw (Av [p3, p4] W) (Kd.sl (Kd.int .u8)) w4.heap p1 c1 a0 ∧ Ow (Av [p3, p4] W) w4 23 (Kd.sl (Kd.int .u8)) p3 c3 x3 ∧ Ow (Av [p3, p4] W) w4 5 (Kd.int .u8) p4 c4 x4 ∧ warderlaw01_WireJoins_l1 k a0 k' x3 x4 x5 = some r) k ⟨([] : List (List Int)), _, _, ([] : List (Int)), _, _, (0 : Int), ha.to rfl, hE, r1, o9, o10, hF⟩ ?_
      rintro k2 a w4 ⟨x3, p3, c3, x4, p4, c4, x5, ha, hE, r1, o1, o2, hF⟩ K17 hK17
      cases k2 with
      | zero => cases hF
      | succ k2 =>
        rw [warderlaw01_WireJoins_l1] at hF
        refine wp_seq_k (fun K18 hK18 => ?_)
        refine wp_seq_k (fun K19 hK19 => ?_)
        refine wreg ?_
        refine go1 ha rfl (d_move ha rfl) fun a ha => ?_
        refine go1 ha rfl (d_move ha rfl) fun a ha => ?_
        refine go1 ha rfl (d_lenSlice ha Try.underlying35 rfl) fun a ha => ?_
        refine go1 ha rfl (d_lt ha rfl rfl) fun a ha => ?_
        refine nil_ ?_
        refine hK19 _ _ ?_
        have ha := ha.to (l' := [(0, _), (5, _), (6, _), (7, _), (34, _)]) rfl
        rcases ite_elim hF with ⟨hc5, hF⟩ | ⟨hc5, hF⟩
        · refine wcond_t ha rfl (decide_eq_true hc5) ?_
          refine wp_skip ?_
          refine hK18 _ _ ?_
          have ha := ha.to (l' := [(0, _), (5, _), (6, _), (7, _)]) rfl
          refine wp_seq_k (fun K20 hK20 => ?_)
          refine wp_block ?_
          refine wp_seq_k (fun K21 hK21 => ?_)
          refine wreg ?_
          refine go1 ha rfl (d_move ha rfl) fun a ha => ?_
          refine go1 ha rfl (d_move ha rfl) fun a ha => ?_
          refine go1 ha rfl (d_move ha rfl) fun a ha => ?_
          obtain ⟨hc6, hF⟩ := ck_elim hF
          refine goS ha rfl (d_index (kd := (Kd.sl (Kd.int .u8))) ha rfl rfl Try.underlying35 Try.sizeOf23 r1 hc6 ([] : List (Int))) fun v a h ha => ?_
          obtain ⟨b2, q2, cs2, rfl, _, hk2, at2⟩ := h
          obtain ⟨p5, c5, rfl, r3⟩ := hk2
          refine go1 ha rfl (d_load ha rfl (at2.cell 0 rfl) Try.isAgg23) fun a ha => ?_
          obtain ⟨hc7, hF⟩ := ck_elim hF
          have hs := Step.add (a := none) [p3, p4] (Fr.refl w4 No) (fun _ h => by cases h)
          have r1 := hs.tr r1
          have r3 := hs.tr r3
          have o1 := o1.keep (Fr.refl _ No) (fun _ _ h => h) (fun _ _ h => hs.trK h)
          have o2 := o2.keep (Fr.refl _ No) (fun _ _ h => h) (fun _ _ h => hs.trK h)
          have hE : Ex w (Av [] No) [none, p3, p4] w4 := hE.add (a := none) (Fr.refl w4 No) (fun _ h => by cases h)
          have o3 := Ow.nil (Av [none, p3, p4] W) w4 5 (Kd.int .u8)
          refine goR ha rfl (d_append (B := W) (kd := (Kd.int .u8)) (zv := .int .u8 (0 : Int)) (bytes := 1) (lf := []) (rt := [p3, p4]) (fun q => [q, p3, p4]) (fun _ => rfl) ha Try.underlying23 (by kernel_rfl) rfl (by decide) (by decide) rfl rfl hE o3 r3 (fun _ _ h => h) hc7) fun v w5 a h ha => ?_
          obtain ⟨p6, c6, rfl, hs, hE1, hf, o3⟩ := h
          have r1 := hs.tr r1
          have r3 := hs.tr r3
          have o1 := o1.keep hf (hE.off 0 1 rfl rfl (by decide)) (fun _ _ h => hs.trK h)
          have o2 := o2.keep hf (hE.off 0 2 rfl rfl (by decide)) (fun _ _ h => hs.trK h)
          have hE := hE1
          have r4 : Raw (Av [p3, p4] (Old w)) (Kd.int .u8) w5.heap p6 c6 (([] : List (Int)) ++ (a0.getD (x5).toNat ([] : List (Int)))) := o3.freeF (Kd.Flat.int _) hE 0 rfl
          have hs : Step [p6, p3, p4] [p3, p4] w5 w5 := Step.pick _ _ [1, 2]
          have r1 := hs.tr r1
          have r3 := hs.tr r3
          have o1 := o1.keep (Fr.refl _ No) (fun _ _ h => h) (fun _ _ h => hs.trK h)
          have o2 := o2.keep (Fr.refl _ No) (fun _ _ h => h) (fun _ _ h => hs.trK h)
          have hE : Ex w (Av [] No) [p3, p4] w5 := hE.pick [1, 2] (by decide)
          refine goR ha rfl (d_buildSlice (B := W) (kd := (Kd.sl (Kd.int .u8))) (xs := ([(([] : List (Int)) ++ (a0.getD (x5).toNat ([] : List (Int))))] : List (List Int))) (vs := [.slice p6 (([] : List (Int)) ++ (a0.getD (x5).toNat ([] : List (Int)))).length c6]) ha Try.underlying35 Try.sizeOf23 Try.zeroValue23 rfl (Els.cons (c := [.slice p6 (([] : List (Int)) ++ (a0.getD (x5).toNat ([] : List (Int)))).length c6]) (⟨_, _, rfl, r4.toW hW⟩) Els.nil) (by simp [Value.cells, Kd.int, Kd.scalar, Kd.bool, Kd.str, Kd.pair, Kd.sl]) rfl rfl (by decide) (by decide) hE) fun v w6 a h ha => ?_
          obtain ⟨p7, c7, rfl, hs, hE, hf, o4⟩ := h
          have r1 := hs.tr r1
          have r3 := hs.tr r3
          have r4 := hs.tr r4
          have o1 := o1.keep hf (fun _ _ h => h) (fun _ _ h => hs.trK h)
          have o2 := o2.keep hf (fun _ _ h => h) (fun _ _ h => hs.trK h)
          obtain ⟨hc8, hF⟩ := ck_elim hF
          have r5 : Raw (Av [p3, p4] W) (Kd.sl (Kd.int .u8)) w6.heap p7 c7 ([(([] : List (Int)) ++ (a0.getD (x5).toNat ([] : List (Int))))] : List (List Int)) := o4.free hE hW hW0 0 rfl
          have hs : Step [p7, p3, p4] [p3, p4] w6 w6 := Step.pick _ _ [1, 2]
          have r1 := hs.tr r1
          have r3 := hs.tr r3
          have r4 := hs.tr r4
          have o1 := o1.keep (Fr.refl _ No) (fun _ _ h => h) (fun _ _ h => hs.trK h)
          have o2 := o2.keep (Fr.refl _ No) (fun _ _ h => h) (fun _ _ h => hs.trK h)
          have hE : Ex w (Av [] No) [p3, p4] w6 := hE.pick [1, 2] (by decide)
          refine goR ha rfl (d_append (B := W) (kd := (Kd.sl (Kd.int .u8))) (zv := .slice none 0 0) (bytes := 24) (lf := []) (rt := [p4]) (fun q => [q, p4]) (fun _ => rfl) ha Try.underlying35 (by kernel_rfl) rfl (by decide) (by decide) rfl rfl hE o1 r5 (fun _ _ h => h) hc8) fun v w7 a h ha => ?_
          obtain ⟨p8, c8, rfl, hs, hE1, hf, o1⟩ := h
          have r1 := hs.tr r1
          have r3 := hs.tr r3
          have r4 := hs.tr r4
          have r5 := hs.tr r5
          have o2 := o2.keep hf (hE.off 0 1 rfl rfl (by decide)) (fun _ _ h => hs.trK h)
          have hE := hE1
          refine go1 ha rfl (d_assign ha rfl) fun a ha => ?_
          refine nil_ ?_
          refine hK21 _ _ ?_
          have ha := ha.to (l' := [(0, _), (5, _), (6, _), (7, _)]) rfl
          refine wreg ?_
          refine go1 ha rfl (d_move ha rfl) fun a ha => ?_
          refine go1 ha rfl (d_move ha rfl) fun a ha => ?_
          refine go1 ha rfl (d_move ha rfl) fun a ha => ?_
          obtain ⟨hc9, hF⟩ := ck_elim hF
          refine goS ha rfl (d_index (kd := (Kd.sl (Kd.int .u8))) ha rfl rfl Try.underlying35 Try.sizeOf23 r1 hc9 ([] : List (Int))) fun v a h ha => ?_
          obtain ⟨b3, q3, cs3, rfl, _, hk3, at3⟩ := h
          obtain ⟨p9, c9, rfl, r6⟩ := hk3
          refine go1 ha rfl (d_load ha rfl (at3.cell 0 rfl) Try.isAgg23) fun a ha => ?_
          obtain ⟨hc10, hF⟩ := ck_elim hF
          refine goR ha rfl (d_append (B := W) (kd := (Kd.int .u8)) (zv := .int .u8 (0 : Int)) (bytes := 1) (lf := [p8]) (rt := []) (fun q => [p8, q]) (fun _ => rfl) ha Try.underlying23 (by kernel_rfl) rfl (by decide) (by decide) rfl rfl hE o2 r6 (fun _ _ h => h) hc10) fun v w8 a h ha => ?_
          obtain ⟨p10, c10, rfl, hs, hE1, hf, o2⟩ := h
          have r1 := hs.tr r1
          have r3 := hs.tr r3
          have r4 := hs.tr r4
          have r5 := hs.tr r5
          have r6 := hs.tr r6
          have o1 := o1.keep hf (hE.off 1 0 rfl rfl (by decide)) (fun _ _ h => hs.trK h)
          have hE := hE1
          refine go1 ha rfl (d_assign ha rfl) fun a ha => ?_
          refine nil_ ?_
          refine hK20 _ _ ?_
          have ha := ha.to (l' := [(0, _), (5, _), (6, _), (7, _)]) rfl
          refine wreg ?_
          refine go1 ha rfl (d_move ha rfl) fun a ha => ?_
          refine go1 ha rfl (d_add ha rfl rfl) fun a ha => ?_
          refine go1 ha rfl (d_assign ha rfl) fun a ha => ?_
          refine nil_ ?_
          exact hK17 k2 _ _ (Nat.lt_succ_self _) ⟨(x3 ++ ([(([] : List (Int)) ++ (a0.getD (x5).toNat ([] : List (Int))))] : List (List Int))), _, _, (x4 ++ (a0.getD (x5).toNat ([] : List (Int)))), _, _, (IntKind.i64.wrap (x5 + (1 : Int))), ha.to rfl, hE, r1, o1, o2, hF⟩
        · refine wcond_f ha rfl (decide_eq_false hc5) ?_
          refine wp_exit ?_
          refine hK15 _ _ ?_
          have ha := ha.to (l' := [(0, _), (5, _), (6, _)]) rfl
          refine wp_seq_k (fun K22 hK22 => ?_)
          refine wreg ?_
          refine go1 ha rfl (d_move ha rfl) fun a ha => ?_
          obtain ⟨t3, ht3, hF⟩ := bind_elim hF
          refine goR ha rfl (d_call Try.call16 ha (vs := [.slice p3 x3.length c3]) rfl (wire_Join_c k x3 _ _ (Av [p4] W) _ (Ex.wlt (as0 := []) (rr := [p3]) (ro := [p4]) hE hW) (Ow.argR (as0 := []) (rr := [p3]) (ro := [p4]) o1 hE hW hW0 (by simp)) _ ht3)) fun v w9 a h ha => ?_
          obtain ⟨p11, c11, rfl, hC, o5⟩ := h
          have hs : Step [p3, p4] [p11, p3, p4] w4 w9 := hC.callStep [p3, p4]
          have r1 := hs.tr r1
          have o1 := o1.keep hC.fr (Ex.callOff (as0 := []) (rt := [p3, p4]) hE (u := p3) (by simp)) (fun _ _ h => hs.trK h)
          have o2 := o2.keep hC.fr (Ex.callOff (as0 := []) (rt := [p3, p4]) hE (u := p4) (by simp)) (fun _ _ h => hs.trK h)
          have o5 : Ow (Av [p11, p3, p4] W) w9 5 (Kd.int .u8) p11 c11 t3 := o5.alone (Kd.Flat.int _)
          have hE : Ex w (Av [] No) [p11, p3, p4] w9 := Ex.call (as0 := []) (rt := [p3, p4]) hE hC
          refine go1 ha rfl (d_assign ha rfl) fun a ha => ?_
          refine nil_ ?_
          refine hK22 _ _ ?_
          have ha := ha.to (l' := [(0, _), (5, _), (6, _), (8, _)]) rfl
          refine wp_seq_k (fun K23 hK23 => ?_)
          refine wp_seq_k (fun K24 hK24 => ?_)
          refine wreg ?_
          refine go1 ha rfl (d_move ha rfl) fun a ha => ?_
          refine go1 ha rfl (d_b2s ha Try.underlying23 Try.underlying5 Try.underlying9 rfl o5.rawNo) fun a ha => ?_
          refine go1 ha rfl (d_move ha rfl) fun a ha => ?_
          refine go1 ha rfl (d_b2s ha Try.underlying23 Try.underlying5 Try.underlying9 rfl o2.rawNo) fun a ha => ?_
          refine go1 ha rfl (d_neS ha rfl rfl) fun a ha => ?_
          refine nil_ ?_
          refine hK24 _ _ ?_
          have ha := ha.to (l' := [(0, _), (5, _), (8, _), (57, _)]) rfl
          rcases ite_elim hF with ⟨hc11, hF⟩ | ⟨hc11, hF⟩
          · refine wcond_f ha rfl (not_t (decide_eq_true hc11)) ?_
            refine wp_skip ?_
            refine hK23 _ _ ?_
            have ha := ha.to (l' := [(0, _), (5, _), (8, _)]) rfl
            refine wp_seq_k (fun K26 hK26 => ?_)
            refine wp_seq_k (fun K27 hK27 => ?_)
            refine wreg ?_
            refine go1 ha rfl (d_assign ha rfl) fun a ha => ?_
            refine nil_ ?_
            refine hK27 _ _ ?_
            have ha := ha.to (l' := [(0, _), (5, _), (8, _), (9, _)]) rfl
            refine wp_block ?_
            have hs : Step [p11, p3, p4] [p11, p3] w9 w9 := Step.pick _ _ [0, 1]
            have r1 := hs.tr r1
            have o5 := o5.keep (Fr.refl _ No) (fun _ _ h => h) (fun _ _ h => hs.trK h)
            have o1 := o1.keep (Fr.refl _ No) (fun _ _ h => h) (fun _ _ h => hs.trK h)
            have hE : Ex w (Av [] No) [p11, p3] w9 := hE.pick [0, 1] (by decide)
            refine wloopJ (fun k' a w10 => ∃ (x6 : List (List Int)) (p12 : Option Addr) (c12 : Nat) (x7 : List Int) (p13 : Option Addr) (c13 : Nat) (x8 : Int), Has 88 [(0, .slice p1 a0.length c1), (5, .slice p12 x6.length c12), (8, .slice p13 x7.length c13), (9, .int .i64 x8)] a ∧ Ex w (Av [] No) [p13, p12] w10 ∧ Raw (Av [p13, p12] W) (Kd.sl (Kd.int .u8)) w10.heap p1 c1 a0 ∧ Ow (Av [p13, p12] W) w10 23 (Kd.sl (Kd.int .u8)) p12 c12 x6 ∧ Ow (Av [p13, p12] W) w10 5 (Kd.int .u8) p13 c13 x7 ∧ warderlaw01_WireJoins_l2 k a0 k' x6 x7 x8 = some r) k ⟨x3, _, _, t3, _, _, (0 : Int), ha.to rfl, hE, r1, o1, o5, hF⟩ ?_
            rintro k3 a w10 ⟨x6, p12, c12, x7, p13, c13, x8, ha, hE, r1, o6, o7, hF⟩ K28 hK28
            cases k3 with
            | zero => cases hF
            | succ k3 =>
              rw [warderlaw01_WireJoins_l2] at hF
              refine wp_seq_k (fun K29 hK29 => ?_)
              refine wp_seq_k (fun K30 hK30 => ?_)
              refine wreg ?_
              refine go1 ha rfl (d_move ha rfl) fun a ha => ?_
              refine go1 ha rfl (d_move ha rfl) fun a ha => ?_
              refine go1 ha rfl (d_lenSlice ha Try.underlying23 rfl) fun a ha => ?_
              refine go1 ha rfl (d_lt ha rfl rfl) fun a ha => ?_
              refine nil_ ?_
              refine hK30 _ _ ?_
              have ha := ha.to (l' := [(0, _), (5, _), (8, _), (9, _), (61, _)]) rfl
              rcases ite_elim hF with ⟨hc12, hF⟩ | ⟨hc12, hF⟩
              · refine wcond_t ha rfl (decide_eq_true hc12) ?_
                refine wp_skip ?_
                refine hK29 _ _ ?_
                have ha := ha.to (l' := [(0, _), (5, _), (8, _), (9, _)]) rfl
                refine wp_seq_k (fun K31 hK31 => ?_)
                refine wp_block ?_
                refine wreg ?_
                refine go1 ha rfl (d_move ha rfl) fun a ha => ?_
                refine go1 ha rfl (d_move ha rfl) fun a ha => ?_
                obtain ⟨hc13, hF⟩ := ck_elim hF
                refine goS ha rfl (d_indexOwR (kd := (Kd.int .u8)) ha rfl rfl Try.underlying23 Try.sizeOf5 o7 hc13 (0 : Int)) fun v a h ha => ?_
                obtain ⟨b4, q4, cs4, rfl, hk4, at4⟩ := h
                obtain rfl := hk4
                refine go1 ha rfl (d_load ha rfl (at4.cell 0 rfl) Try.isAgg5) fun a ha => ?_
                refine go1 ha rfl (d_add ha rfl rfl) fun a ha => ?_
                obtain ⟨hc14, hF⟩ := ck_elim hF
                refine goS ha rfl (d_indexOw (kd := (Kd.int .u8)) ha rfl rfl Try.underlying23 Try.sizeOf5 o7 hc14) fun v a h ha => ?_
                obtain ⟨b5, e1, rfl⟩ := h
                have hq1 : (x8).toNat < x7.length := by omega
                refine goR0 ha (d_storeOw (B := W) (kd := (Kd.int .u8)) (lf := []) (rt := [p12]) (vs := [.int .u8 (IntKind.u8.wrap ((x7.getD (x8).toNat (0 : Int)) + (1 : Int)))]) (yv := IntKind.u8.wrap ((x7.getD (x8).toNat (0 : Int)) + (1 : Int))) (fun q => [q, p12]) (fun _ => rfl) ha Try.sizeOf5 e1 rfl rfl rfl hE o7 hq1 (rfl)) fun v w11 a h ha => ?_
                obtain ⟨hs, hE1, hf, o7⟩ := h
                have r1 := hs.tr r1
                have o6 := o6.keep hf (hE.off 0 1 rfl rfl (by decide)) (fun _ _ h => hs.trK h)
                have hE := hE1
                have ha : Has 88 [(0, .slice p1 a0.length c1), (5, .slice p12 x6.length c12), (8, .slice p13 (x7.set (x8).toNat (IntKind.u8.wrap ((x7.getD (x8).toNat (0 : Int)) + (1 : Int)))).length c13), (9, .int .i64 x8), (64, .slice p13 (x7.set (x8).toNat (IntKind.u8.wrap ((x7.getD (x8).toNat (0 : Int)) + (1 : Int)))).length c13), (65, .int .i64 x8), (66, .pointer (some ⟨b4, q4, none⟩)), (67, .int .u8 (x7.getD (x8).toNat (0 : Int))), (68, .int .u8 (IntKind.u8.wrap ((x7.getD (x8).toNat (0 : Int)) + (1 : Int))))] a := by simpa only [List.length_set] using ha.to (l' := [(0, _), (5, _), (8, _), (9, _), (64, _), (65, _), (66, _), (67, _), (68, _)]) rfl
                refine nil_ ?_
                refine hK31 _ _ ?_
                have ha := ha.to (l' := [(0, _), (5, _), (8, _), (9, _)]) rfl
                refine wreg ?_
                refine go1 ha rfl (d_move ha rfl) fun a ha => ?_
                refine go1 ha rfl (d_add ha rfl rfl) fun a ha => ?_
                refine go1 ha rfl (d_assign ha rfl) fun a ha => ?_
                refine nil_ ?_
                exact hK28 k3 _ _ (Nat.lt_succ_self _) ⟨x6, _, _, (x7.set (x8).toNat (IntKind.u8.wrap ((x7.getD (x8).toNat (0 : Int)) + (1 : Int)))), _, _, (IntKind.i64.wrap (x8 + (1 : Int))), ha.to rfl, hE, r1, o6, o7, hF⟩
              · refine wcond_f ha rfl (decide_eq_false hc12) ?_
                refine wp_exit ?_
                refine hK26 _ _ ?_
                have ha := ha.to (l' := [(0, _), (5, _)]) rfl
                refine wp_seq_k (fun K32 hK32 => ?_)
                refine wp_seq_k (fun K33 hK33 => ?_)
                refine wreg ?_
                refine go1 ha rfl (d_assign ha rfl) fun a ha => ?_
                refine nil_ ?_
                refine hK33 _ _ ?_
                have ha := ha.to (l' := [(0, _), (5, _), (10, _)]) rfl
                refine wp_block ?_
                have hs : Step [p13, p12] [p12] w10 w10 := Step.pick _ _ [1]
                have r1 := hs.tr r1
                have o6 := o6.keep (Fr.refl _ No) (fun _ _ h => h) (fun _ _ h => hs.trK h)
                have hE : Ex w (Av [] No) [p12] w10 := hE.pick [1] (by decide)
                refine wloopJ (fun k' a w12 => ∃ (x9 : List (List Int)) (p14 : Option Addr) (c14 : Nat) (x10 : Int), Has 88 [(0, .slice p1 a0.length c1), (5, .slice p14 x9.length c14), (10, .int .i64 x10)] a ∧ Ex w (Av [] No) [p14] w12 ∧ Raw (Av [p14] W) (Kd.sl (Kd.int .u8)) w12.heap p1 c1 a0 ∧ Ow (Av [p14] W) w12 23 (Kd.sl (Kd.int .u8)) p14 c14 x9 ∧ warderlaw01_WireJoins_l3 k a0 k' x9 x10 = some r) k ⟨x6, _, _, (0 : Int), ha.to rfl, hE, r1, o6, hF⟩ ?_
                rintro k4 a w12 ⟨x9, p14, c14, x10, ha, hE, r1, o8, hF⟩ K34 hK34
                cases k4 with
                | zero => cases hF
                | succ k4 =>
                  rw [warderlaw01_WireJoins_l3] at hF
                  refine wp_seq_k (fun K35 hK35 => ?_)
                  refine wp_seq_k (fun K36 hK36 => ?_)
                  refine wreg ?_
                  refine go1 ha rfl (d_move ha rfl) fun a ha => ?_
                  refine go1 ha rfl (d_move ha rfl) fun a ha => ?_
                  refine go1 ha rfl (d_lenSlice ha Try.underlying35 rfl) fun a ha => ?_
                  refine go1 ha rfl (d_lt ha rfl rfl) fun a ha => ?_
                  refine nil_ ?_
                  refine hK36 _ _ ?_
                  have ha := ha.to (l' := [(0, _), (5, _), (10, _), (73, _)]) rfl
                  rcases ite_elim hF with ⟨hc15, hF⟩ | ⟨hc15, hF⟩
                  · refine wcond_t ha rfl (decide_eq_true hc15) ?_
                    refine wp_skip ?_
                    refine hK35 _ _ ?_
                    have ha := ha.to (l' := [(0, _), (5, _), (10, _)]) rfl
                    refine wp_seq_k (fun K37 hK37 => ?_)
                    refine wp_block ?_
                    refine wp_seq_k (fun K38 hK38 => ?_)
                    obtain ⟨hc16, hF⟩ := ck_elim hF
                    obtain ⟨hc17, hF⟩ := ck_elim hF
                    refine drawnC 25 (by kernel_rfl) 10 (by decide) rfl (fun b a wI => HasB 88 [(0, .slice p1 a0.length c1), (5, .slice p14 x9.length c14), (10, .int .i64 x10)] [(0, 76, .slice p14 x9.length c14), (1, 77, .int .i64 x10), (4, 80, .string (strOf (x9.getD (x10).toNat ([] : List (Int))))), (5, 81, .slice p1 a0.length c1), (6, 82, .int .i64 x10), (9, 85, .string (strOf (a0.getD (x10).toNat ([] : List (Int)))))] b a ∧ Ex w (Av [] No) [p14] wI ∧ Fr w12 wI No ∧ Raw (Av [p14] W) (Kd.sl (Kd.int .u8)) wI.heap p1 c1 a0 ∧ Ow (Av [p14] W) wI 23 (Kd.sl (Kd.int .u8)) p14 c14 x9 ∧ Sl b a 2 78 (fun v => ∃ (b6 : Nat) (q5 : Nat) (cs5 : List Value), v = .pointer (some ⟨b6, q5, none⟩) ∧ (Kd.sl (Kd.int .u8)).K (Av [p14] W) wI.heap (x9.getD (x10).toNat ([] : List (Int))) cs5 ∧ At wI b6 q5 cs5) ∧ Sl b a 3 79 (fun v => ∃ (p15 : Option Addr) (c15 : Nat), v = .slice p15 (x9.getD (x10).toNat ([] : List (Int))).length c15 ∧ Raw (Av [p14] W) (Kd.int .u8) wI.heap p15 c15 (x9.getD (x10).toNat ([] : List (Int)))) ∧ Sl b a 7 83 (fun v => ∃ (b7 : Nat) (q6 : Nat) (cs6 : List Value), v = .pointer (some ⟨b7, q6, none⟩) ∧ (Kd.sl (Kd.int .u8)).K (Av [p14] W) wI.heap (a0.getD (x10).toNat ([] : List (Int))) cs6 ∧ At wI b7 q6 cs6) ∧ Sl b a 8 84 (fun v => ∃ (p16 : Option Addr) (c16 : Nat), v = .slice p16 (a0.getD (x10).toNat ([] : List (Int))).length c16 ∧ Raw (Av [p14] W) (Kd.int .u8) wI.heap p16 c16 (a0.getD (x10).toNat ([] : List (Int))))) ?_ (EachAt.all0 ?_) ?_
                    · exact ⟨HasB.start (ha.to rfl) rfl, hE.drew, (Fr.refl _ No).drew, r1, o8, Sl.start rfl, Sl.start rfl, Sl.start rfl, Sl.start rfl⟩
                    · refine (EachAt.cons ?_ (EachAt.cons ?_ (EachAt.cons ?_ (EachAt.cons ?_ (EachAt.cons ?_ (EachAt.cons ?_ (EachAt.cons ?_ (EachAt.cons ?_ (EachAt.cons ?_ (EachAt.cons ?_ EachAt.nil))))))))))
                      · intro b a wI hI hb hn hc
                        obtain ⟨hB, hE, hr, r1, o8, hp2, hp3, hp7, hp8⟩ := hI
                        have ha : Has 88 [(5, .slice p14 x9.length c14)] a := hB.get [] (fun _ h => by cases h) _ rfl
                        refine DoesG.plain rfl (Does.mono (d_move ha rfl) ?_)
                        rintro v wJ ⟨rfl, rfl⟩
                        exact ⟨HasB.put hB 0 rfl rfl rfl rfl, hE, hr, r1, o8, hp2.keep rfl rfl (fun _ h => h), hp3.keep rfl rfl (fun _ h => h), hp7.keep rfl rfl (fun _ h => h), hp8.keep rfl rfl (fun _ h => h)⟩
                      · intro b a wI hI hb hn hc
                        obtain ⟨hB, hE, hr, r1, o8, hp2, hp3, hp7, hp8⟩ := hI
                        have ha : Has 88 [(10, .int .i64 x10)] a := hB.get [] (fun _ h => by cases h) _ rfl
                        refine DoesG.plain rfl (Does.mono (d_move ha rfl) ?_)
                        rintro v wJ ⟨rfl, rfl⟩
                        exact ⟨HasB.put hB 1 rfl rfl rfl rfl, hE, hr, r1, o8, hp2.keep rfl rfl (fun _ h => h), hp3.keep rfl rfl (fun _ h => h), hp7.keep rfl rfl (fun _ h => h), hp8.keep rfl rfl (fun _ h => h)⟩
                      · intro b a wI hI hb hn hc
                        obtain ⟨hB, hE, hr, r1, o8, hp2, hp3, hp7, hp8⟩ := hI
                        have ha : Has 88 [(76, .slice p14 x9.length c14), (77, .int .i64 x10)] a := hB.get [0, 1] (List.forall_mem_cons.2 ⟨(hn 0 (mem_needs rfl)), (List.forall_mem_cons.2 ⟨(hn 1 (mem_needs rfl)), (fun _ h => by cases h)⟩)⟩) _ rfl
                        refine DoesG.plain rfl (Does.mono (d_indexOwR (kd := (Kd.sl (Kd.int .u8))) ha rfl rfl Try.underlying35 Try.sizeOf23 o8 hc16 ([] : List (Int))) ?_)
                        rintro v wJ ⟨rfl, h⟩
                        obtain ⟨b6, q5, cs5, rfl, hk5, at5⟩ := h
                        exact ⟨HasB.putR hB 2 rfl rfl rfl, hE, hr, r1, o8, Sl.new hB.has rfl ⟨_, _, _, rfl, hk5, at5⟩, hp3.keep rfl rfl (fun _ h => h), hp7.keep rfl rfl (fun _ h => h), hp8.keep rfl rfl (fun _ h => h)⟩
                      · intro b a wI hI hb hn hc
                        obtain ⟨hB, hE, hr, r1, o8, hp2, hp3, hp7, hp8⟩ := hI
                        have ha : Has 88 [] a := hB.get [] (fun _ h => by cases h) _ rfl
                        obtain ⟨b6, q5, cs5, hs2, hk5, at5⟩ := hp2 (hn 2 (mem_needs rfl))
                        have ha := ha.know hs2
                        obtain ⟨p15, c15, rfl, r7⟩ := hk5
                        refine DoesG.plain rfl (Does.mono (d_load ha rfl (at5.cell 0 rfl) Try.isAgg23) ?_)
                        rintro v wJ ⟨rfl, rfl⟩
                        exact ⟨HasB.putR hB 3 rfl rfl rfl, hE, hr, r1, o8, hp2.keep rfl rfl (fun _ h => h), Sl.new hB.has rfl ⟨_, _, rfl, r7⟩, hp7.keep rfl rfl (fun _ h => h), hp8.keep rfl rfl (fun _ h => h)⟩
                      · intro b a wI hI hb hn hc
                        obtain ⟨hB, hE, hr, r1, o8, hp2, hp3, hp7, hp8⟩ := hI
                        have ha : Has 88 [] a := hB.get [] (fun _ h => by cases h) _ rfl
                        obtain ⟨p15, c15, hs3, r7⟩ := hp3 (hn 3 (mem_needs rfl))
                        have ha := ha.know hs3
                        refine DoesG.plain rfl (Does.mono (d_b2s ha Try.underlying23 Try.underlying5 Try.underlying9 rfl r7) ?_)
                        rintro v wJ ⟨rfl, rfl⟩
                        exact ⟨HasB.put hB 4 rfl rfl rfl rfl, hE, hr, r1, o8, hp2.keep rfl rfl (fun _ h => h), hp3.keep rfl rfl (fun _ h => h), hp7.keep rfl rfl (fun _ h => h), hp8.keep rfl rfl (fun _ h => h)⟩
                      · intro b a wI hI hb hn hc
                        obtain ⟨hB, hE, hr, r1, o8, hp2, hp3, hp7, hp8⟩ := hI
                        have ha : Has 88 [(0, .slice p1 a0.length c1)] a := hB.get [] (fun _ h => by cases h) _ rfl
                        refine DoesG.plain rfl (Does.mono (d_move ha rfl) ?_)
                        rintro v wJ ⟨rfl, rfl⟩
                        exact ⟨HasB.put hB 5 rfl rfl rfl rfl, hE, hr, r1, o8, hp2.keep rfl rfl (fun _ h => h), hp3.keep rfl rfl (fun _ h => h), hp7.keep rfl rfl (fun _ h => h), hp8.keep rfl rfl (fun _ h => h)⟩
                      · intro b a wI hI hb hn hc
                        obtain ⟨hB, hE, hr, r1, o8, hp2, hp3, hp7, hp8⟩ := hI
                        have ha : Has 88 [(10, .int .i64 x10)] a := hB.get [] (fun _ h => by cases h) _ rfl
                        refine DoesG.plain rfl (Does.mono (d_move ha rfl) ?_)
                        rintro v wJ ⟨rfl, rfl⟩
                        exact ⟨HasB.put hB 6 rfl rfl rfl rfl, hE, hr, r1, o8, hp2.keep rfl rfl (fun _ h => h), hp3.keep rfl rfl (fun _ h => h), hp7.keep rfl rfl (fun _ h => h), hp8.keep rfl rfl (fun _ h => h)⟩
                      · intro b a wI hI hb hn hc
                        obtain ⟨hB, hE, hr, r1, o8, hp2, hp3, hp7, hp8⟩ := hI
                        have ha : Has 88 [(81, .slice p1 a0.length c1), (82, .int .i64 x10)] a := hB.get [5, 6] (List.forall_mem_cons.2 ⟨(hn 5 (mem_needs rfl)), (List.forall_mem_cons.2 ⟨(hn 6 (mem_needs rfl)), (fun _ h => by cases h)⟩)⟩) _ rfl
                        refine DoesG.plain rfl (Does.mono (d_index (kd := (Kd.sl (Kd.int .u8))) ha rfl rfl Try.underlying35 Try.sizeOf23 r1 hc17 ([] : List (Int))) ?_)
                        rintro v wJ ⟨rfl, h⟩
                        obtain ⟨b7, q6, cs6, rfl, _, hk6, at6⟩ := h
                        exact ⟨HasB.putR hB 7 rfl rfl rfl, hE, hr, r1, o8, hp2.keep rfl rfl (fun _ h => h), hp3.keep rfl rfl (fun _ h => h), Sl.new hB.has rfl ⟨_, _, _, rfl, hk6, at6⟩, hp8.keep rfl rfl (fun _ h => h)⟩
                      · intro b a wI hI hb hn hc
                        obtain ⟨hB, hE, hr, r1, o8, hp2, hp3, hp7, hp8⟩ := hI
                        have ha : Has 88 [] a := hB.get [] (fun _ h => by cases h) _ rfl
                        obtain ⟨b7, q6, cs6, hs7, hk6, at6⟩ := hp7 (hn 7 (mem_needs rfl))
                        have ha := ha.know hs7
                        obtain ⟨p16, c16, rfl, r8⟩ := hk6
                        refine DoesG.plain rfl (Does.mono (d_load ha rfl (at6.cell 0 rfl) Try.isAgg23) ?_)
                        rintro v wJ ⟨rfl, rfl⟩
                        exact ⟨HasB.putR hB 8 rfl rfl rfl, hE, hr, r1, o8, hp2.keep rfl rfl (fun _ h => h), hp3.keep rfl rfl (fun _ h => h), hp7.keep rfl rfl (fun _ h => h), Sl.new hB.has rfl ⟨_, _, rfl, r8⟩⟩
                      · intro b a wI hI hb hn hc
                        obtain ⟨hB, hE, hr, r1, o8, hp2, hp3, hp7, hp8⟩ := hI
                        have ha : Has 88 [] a := hB.get [] (fun _ h => by cases h) _ rfl
                        obtain ⟨p16, c16, hs8, r8⟩ := hp8 (hn 8 (mem_needs rfl))
                        have ha := ha.know hs8
                        refine DoesG.plain rfl (Does.mono (d_b2s ha Try.underlying23 Try.underlying5 Try.underlying9 rfl r8) ?_)
                        rintro v wJ ⟨rfl, rfl⟩
                        exact ⟨HasB.put hB 9 rfl rfl rfl rfl, hE, hr, r1, o8, hp2.keep rfl rfl (fun _ h => h), hp3.keep rfl rfl (fun _ h => h), hp7.keep rfl rfl (fun _ h => h), hp8.keep rfl rfl (fun _ h => h)⟩
                    · intro b a w13 hb hI
                      obtain ⟨hB, hE, hr, r1, o8, hp2, hp3, hp7, hp8⟩ := hI
                      have ha : Has 88 [(76, .slice p14 x9.length c14), (77, .int .i64 x10), (80, .string (strOf (x9.getD (x10).toNat ([] : List (Int))))), (81, .slice p1 a0.length c1), (82, .int .i64 x10), (85, .string (strOf (a0.getD (x10).toNat ([] : List (Int))))), (0, .slice p1 a0.length c1), (5, .slice p14 x9.length c14), (10, .int .i64 x10)] a := hB.get [0, 1, 4, 5, 6, 9] (List.forall_mem_cons.2 ⟨(hb 0 (by decide) (by decide)), (List.forall_mem_cons.2 ⟨(hb 1 (by decide) (by decide)), (List.forall_mem_cons.2 ⟨(hb 4 (by decide) (by decide)), (List.forall_mem_cons.2 ⟨(hb 5 (by decide) (by decide)), (List.forall_mem_cons.2 ⟨(hb 6 (by decide) (by decide)), (List.forall_mem_cons.2 ⟨(hb 9 (by decide) (by decide)), (fun _ h => by cases h)⟩)⟩)⟩)⟩)⟩)⟩) _ rfl
                      obtain ⟨p15, c15, hs, r7⟩ := hp3 (hb 3 (by decide) (by decide))
                      have ha := ha.know hs
                      obtain ⟨p16, c16, hs, r8⟩ := hp8 (hb 8 (by decide) (by decide))
                      have ha := ha.know hs
                      refine go1 ha rfl (d_neS ha rfl rfl) fun a ha => ?_
                      refine nil_ ?_
                      refine hK38 _ _ ?_
                      have ha := ha.to (l' := [(0, _), (5, _), (10, _), (86, _)]) rfl
                      rcases ite_elim hF with ⟨hc18, hF⟩ | ⟨hc18, hF⟩
                      · refine wcond_f ha rfl (not_t (decide_eq_true hc18)) ?_
                        refine wp_skip ?_
                        refine hK37 _ _ ?_
                        have ha := ha.to (l' := [(0, _), (5, _), (10, _)]) rfl
                        refine wreg ?_
                        refine go1 ha rfl (d_move ha rfl) fun a ha => ?_
                        refine go1 ha rfl (d_add ha rfl rfl) fun a ha => ?_
                        refine go1 ha rfl (d_assign ha rfl) fun a ha => ?_
                        refine nil_ ?_
                        exact hK34 k4 _ _ (Nat.lt_succ_self _) ⟨x9, _, _, (IntKind.i64.wrap (x10 + (1 : Int))), ha.to rfl, hE, r1, o8, hF⟩
                      · refine wcond_t ha rfl (not_f (decide_eq_false hc18)) ?_
                        refine wp_seq_k (fun K39 hK39 => ?_)
                        refine wreg ?_
                        refine go1 ha rfl (d_assign ha rfl) fun a ha => ?_
                        refine nil_ ?_
                        refine hK39 _ _ ?_
                        have ha := ha.to (l' := [(2, _)]) rfl
                        refine wp_ret ?_
                        have hs : Step [p14] [] w13 w13 := Step.pick _ _ []
                        have r1 := hs.tr r1
                        have r7 := hs.tr r7
                        have r8 := hs.tr r8
                        have hE : Ex w (Av [] No) [] w13 := hE.pick [] (by decide)
                        injection hF with hF
                        subst hF
                        refine fin1 ha Try.results4 rfl ?_
                        exact ⟨rfl, hE⟩
                  · refine wcond_f ha rfl (decide_eq_false hc15) ?_
                    refine wp_exit ?_
                    refine hK32 _ _ ?_
                    have ha := ha.to (l' := []) rfl
                    refine wp_seq_k (fun K40 hK40 => ?_)
                    refine wreg ?_
                    obtain ⟨t4, ht4, hF⟩ := bind_elim hF
                    refine goR ha rfl (d_call Try.call9 ha (vs := []) rfl (warderlaw01_known_c k   (Av [p14] W) _ (Ex.wlt (as0 := []) (rr := []) (ro := [p14]) hE hW)  _ ht4)) fun v w14 a h ha => ?_
                    obtain ⟨rfl, hC⟩ := h
                    have hs : Step [p14] [p14] w12 w14 := hC.callStep [p14]
                    have r1 := hs.tr r1
                    have o8 := o8.keep hC.fr (Ex.callOff (as0 := []) (rt := [p14]) hE (u := p14) (by simp)) (fun _ _ h => hs.trK h)
                    have hE : Ex w (Av [] No) [p14] w14 := Ex.call (as0 := []) (rt := [p14]) hE hC
                    refine go1 ha rfl (d_assign ha rfl) fun a ha => ?_
                    refine nil_ ?_
                    refine hK40 _ _ ?_
                    have ha := ha.to (l' := [(2, _)]) rfl
                    refine wp_ret ?_
                    have hs : Step [p14] [] w14 w14 := Step.pick _ _ []
                    have r1 := hs.tr r1
                    have hE : Ex w (Av [] No) [] w14 := hE.pick [] (by decide)
                    injection hF with hF
                    subst hF
                    refine fin1 ha Try.results4 rfl ?_
                    exact ⟨rfl, hE⟩
          · refine wcond_t ha rfl (not_f (decide_eq_false hc11)) ?_
            refine wp_seq_k (fun K25 hK25 => ?_)
            refine wreg ?_
            refine go1 ha rfl (d_assign ha rfl) fun a ha => ?_
            refine nil_ ?_
            refine hK25 _ _ ?_
            have ha := ha.to (l' := [(2, _)]) rfl
            refine wp_ret ?_
            have hs : Step [p11, p3, p4] [] w9 w9 := Step.pick _ _ []
            have r1 := hs.tr r1
            have hE : Ex w (Av [] No) [] w9 := hE.pick [] (by decide)
            injection hF with hF
            subst hF
            refine fin1 ha Try.results4 rfl ?_
            exact ⟨rfl, hE⟩
end Go.Proofs.Ytogclgfpnaocfaa
