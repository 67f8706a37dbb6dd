/- Own work. A part of the proof of a law of this seat: The walk: what each function of the program comes to. -/
import Derived.Test.YtogclgfpnaocfaaProg
import Derived.Test.YtogclgfpnaocfaaSx14
open Go Go.RowKit Go.Sx
namespace Go.Proofs.Ytogclgfpnaocfaa
set_option linter.unusedVariables false
set_option linter.unusedSimpArgs false

def wire_Put_l1 (k : Nat) (a0 : Int) (a1 : Int) : Nat → (List Int) → Int → Option ((List Int) × Int)
  | 0, _, _ => none
  | k1 + 1, x1, x2 =>
    (if x2 < ((List.replicate (a1).toNat (0 : Int)).length : Int) then (ck (0 ≤ (IntKind.i64.wrap ((8 : Int) * x2))) (ck (0 ≤ x2 ∧ x2 < (x1.length : Int)) (wire_Put_l1 k a0 a1 k1 (x1.set (x2).toNat (IntKind.u8.wrap (shr .u64 a0 (IntKind.i64.wrap ((8 : Int) * x2))))) (IntKind.i64.wrap (x2 + (1 : Int)))))) else (some (x1, (0 : Int))))

def wire_Put_j0 (k : Nat) (a0 : Int) (a1 : Int) : Option ((List Int) × Int) :=
  (ck (0 ≤ a1 ∧ a1 * 1 ≤ 140737488355328) (wire_Put_l1 k a0 a1 k (List.replicate (a1).toNat (0 : Int)) (0 : Int)))

def wire_Put (k : Nat) (a0 : Int) (a1 : Int) : Option ((List Int) × Int) :=
  (if a1 < (1 : Int) then (some (([] : List (Int)), (2 : Int))) else (if (8 : Int) < a1 then (some (([] : List (Int)), (2 : Int))) else (if a1 < (8 : Int) then (ck (0 ≤ (IntKind.i64.wrap ((8 : Int) * a1))) (if (0 : Int) < (shr .u64 a0 (IntKind.i64.wrap ((8 : Int) * a1))) then (some (([] : List (Int)), (2 : Int))) else (wire_Put_j0 k a0 a1))) else (wire_Put_j0 k a0 a1))))

set_option maxHeartbeats 4000000 in
set_option maxRecDepth 100000 in
theorem wire_Put_c (k : Nat) (a0 : Int) (a1 : Int)  (W : Nat → Prop) (w : World) (hW : ∀ k, W k → k < w.heap.size) (r : (List Int) × Int) (hF : wire_Put k a0 a1 = some r) :
    Calls Try.prog 10 [.int .u64 a0, .int .i64 a1].toArray w (Ret fun v w' => ∃ (u1 : Option Addr) (d1 : Nat), v = .tuple #[.slice u1 r.1.length d1, .int .i64 r.2] ∧ Ex w (Av [] No) [u1] w' ∧ Ow (Av [u1] W) w' 5 (Kd.int .u8) u1 d1 r.1) := by
  unfold wire_Put at hF
  refine enter [(0, .int .u64 a0), (1, .int .i64 a1)] Try.func10 rfl Try.ntmps10 rfl rfl fun a ha => ?_
  have hE : Ex w (Av [] No) [] w := Ex.refl w _
  have hW0 : ∀ p, some p ∈ ([] : List (Option Addr)) → ¬ W p.block := fun _ h => by cases h
  refine wp_seq_k (fun K1 hK1 => ?_)
  refine wreg ?_
  refine go1 ha rfl (d_assign ha rfl) fun a ha => ?_
  refine go1 ha rfl (d_assign ha rfl) fun a ha => ?_
  refine nil_ ?_
  refine hK1 _ _ ?_
  have ha := ha.to (l' := [(0, _), (1, _)]) rfl
  refine wseqJ (fun a w1 => Has 42 [(0, .int .u64 a0), (1, .int .i64 a1)] a ∧ Ex w (Av [] No) [] w1 ∧ wire_Put_j0 k a0 a1 = some r) ?_ ?_
  · rintro a w1 ⟨ha, hE, hF⟩
    unfold wire_Put_j0 at hF
    refine wp_seq_k (fun K8 hK8 => ?_)
    refine wreg ?_
    refine go1 ha rfl (d_move ha rfl) fun a ha => ?_
    obtain ⟨hc6, hF⟩ := ck_elim hF
    refine goR ha rfl (d_make (B := W) (kd := (Kd.int .u8)) (zx := (0 : Int)) (zv := .int .u8 (0 : Int)) (bytes := 1) ha Try.underlying23 (by kernel_rfl) (by decide) (fun _ _ => rfl) rfl rfl hE hc6.1 hc6.2) fun v w2 a h ha => ?_
    obtain ⟨p1, c1, rfl, hs, hE, hf, o4⟩ := h
    refine go1 ha rfl (d_assign ha rfl) fun a ha => ?_
    refine nil_ ?_
    refine hK8 _ _ ?_
    have ha := ha.to (l' := [(0, _), (6, _)]) rfl
    refine wp_seq_k (fun K9 hK9 => ?_)
    refine wp_seq_k (fun K10 hK10 => ?_)
    refine wreg ?_
    refine go1 ha rfl (d_move ha rfl) fun a ha => ?_
    refine go1 ha rfl (d_lenSlice ha Try.underlying23 rfl) fun a ha => ?_
    refine go1 ha rfl (d_move ha rfl) fun a ha => ?_
    refine nil_ ?_
    refine hK10 _ _ ?_
    have ha := ha.to (l' := [(0, _), (6, _), (28, _), (29, _)]) rfl
    refine wp_block ?_
    refine wloopJ (fun k' a w3 => ∃ (x1 : List Int) (p2 : Option Addr) (c2 : Nat) (x2 : Int), Has 42 [(0, .int .u64 a0), (6, .slice p2 x1.length c2), (28, .int .i64 ((List.replicate (a1).toNat (0 : Int)).length : Int)), (29, .int .i64 x2)] a ∧ Ex w (Av [] No) [p2] w3 ∧ Ow (Av [p2] W) w3 5 (Kd.int .u8) p2 c2 x1 ∧ wire_Put_l1 k a0 a1 k' x1 x2 = some r) k ⟨(List.replicate (a1).toNat (0 : Int)), _, _, (0 : Int), ha.to rfl, hE, o4, hF⟩ ?_
    rintro k1 a w3 ⟨x1, p2, c2, x2, ha, hE, o5, hF⟩ K11 hK11
    cases k1 with
    | zero => cases hF
    | succ k1 =>
      rw [wire_Put_l1] at hF
      refine wp_seq_k (fun K12 hK12 => ?_)
      refine wreg ?_
      refine go1 ha rfl (d_lt ha rfl rfl) fun a ha => ?_
      refine nil_ ?_
      refine hK12 _ _ ?_
      have ha := ha.to (l' := [(0, _), (6, _), (28, _), (29, _), (30, _)]) rfl
      refine wp_seq_k (fun K13 hK13 => ?_)
      rcases ite_elim hF with ⟨hc7, hF⟩ | ⟨hc7, hF⟩
      · refine wcond_t ha rfl (decide_eq_true hc7) ?_
        refine wp_skip ?_
        refine hK13 _ _ ?_
        have ha := ha.to (l' := [(0, _), (6, _), (28, _), (29, _)]) rfl
        refine wp_seq_k (fun K14 hK14 => ?_)
        refine wp_block ?_
        refine wp_seq_k (fun K15 hK15 => ?_)
        refine wreg ?_
        refine go1 ha rfl (d_move ha rfl) fun a ha => ?_
        refine go1 ha rfl (d_assign ha rfl) fun a ha => ?_
        refine nil_ ?_
        refine hK15 _ _ ?_
        have ha := ha.to (l' := [(0, _), (6, _), (7, _), (28, _), (29, _)]) rfl
        refine wreg ?_
        refine go1 ha rfl (d_move ha rfl) fun a ha => ?_
        refine go1 ha rfl (d_move ha rfl) fun a ha => ?_
        refine go1 ha rfl (d_move ha rfl) fun a ha => ?_
        refine go1 ha rfl (d_move ha rfl) fun a ha => ?_
        refine go1 ha rfl (d_mul ha rfl rfl) fun a ha => ?_
        obtain ⟨hc8, hF⟩ := ck_elim hF
        refine go1 ha rfl (d_shr ha rfl rfl hc8) fun a ha => ?_
        refine go1 ha rfl (d_cvt ha Try.underlying22 Try.underlying5 rfl) fun a ha => ?_
        obtain ⟨hc9, hF⟩ := ck_elim hF
        refine goS ha rfl (d_indexOw (kd := (Kd.int .u8)) ha rfl rfl Try.underlying23 Try.sizeOf5 o5 hc9) fun v a h ha => ?_
        obtain ⟨b1, e1, rfl⟩ := h
        have hq1 : (x2).toNat < x1.length := by omega
        refine goR0 ha (d_storeOw (B := W) (kd := (Kd.int .u8)) (lf := []) (rt := []) (vs := [.int .u8 (IntKind.u8.wrap (shr .u64 a0 (IntKind.i64.wrap ((8 : Int) * x2))))]) (yv := IntKind.u8.wrap (shr .u64 a0 (IntKind.i64.wrap ((8 : Int) * x2)))) (fun q => [q]) (fun _ => rfl) ha Try.sizeOf5 e1 rfl rfl rfl hE o5 hq1 (rfl)) fun v w4 a h ha => ?_
        obtain ⟨hs, hE1, hf, o5⟩ := h
        have hE := hE1
        have ha : Has 42 [(0, .int .u64 a0), (6, .slice p2 (x1.set (x2).toNat (IntKind.u8.wrap (shr .u64 a0 (IntKind.i64.wrap ((8 : Int) * x2))))).length c2), (7, .int .i64 x2), (28, .int .i64 ((List.replicate (a1).toNat (0 : Int)).length : Int)), (29, .int .i64 x2), (32, .slice p2 (x1.set (x2).toNat (IntKind.u8.wrap (shr .u64 a0 (IntKind.i64.wrap ((8 : Int) * x2))))).length c2), (33, .int .i64 x2), (34, .int .u64 a0), (35, .int .i64 x2), (36, .int .i64 (IntKind.i64.wrap ((8 : Int) * x2))), (37, .int .u64 (shr .u64 a0 (IntKind.i64.wrap ((8 : Int) * x2)))), (38, .int .u8 (IntKind.u8.wrap (shr .u64 a0 (IntKind.i64.wrap ((8 : Int) * x2)))))] a := by simpa only [List.length_set] using ha.to (l' := [(0, _), (6, _), (7, _), (28, _), (29, _), (32, _), (33, _), (34, _), (35, _), (36, _), (37, _), (38, _)]) rfl
        refine nil_ ?_
        refine hK14 _ _ ?_
        have ha := ha.to (l' := [(0, _), (6, _), (28, _), (29, _)]) rfl
        refine wreg ?_
        refine go1 ha rfl (d_add ha rfl rfl) fun a ha => ?_
        refine go1 ha rfl (d_move ha rfl) fun a ha => ?_
        refine nil_ ?_
        exact hK11 k1 _ _ (Nat.lt_succ_self _) ⟨(x1.set (x2).toNat (IntKind.u8.wrap (shr .u64 a0 (IntKind.i64.wrap ((8 : Int) * x2))))), _, _, (IntKind.i64.wrap (x2 + (1 : Int))), ha.to rfl, hE, o5, hF⟩
      · refine wcond_f ha rfl (decide_eq_false hc7) ?_
        refine wp_exit ?_
        refine hK9 _ _ ?_
        have ha := ha.to (l' := [(6, _)]) rfl
        refine wp_seq_k (fun K16 hK16 => ?_)
        refine wreg ?_
        refine go1 ha rfl (d_move ha rfl) fun a ha => ?_
        refine go1 ha rfl (d_assign ha rfl) fun a ha => ?_
        refine go1 ha rfl (d_assign ha rfl) fun a ha => ?_
        refine nil_ ?_
        refine hK16 _ _ ?_
        have ha := ha.to (l' := [(4, _), (5, _)]) rfl
        refine wp_ret ?_
        injection hF with hF
        subst hF
        refine finN ha Try.results10 (.tmp rfl (.tmp rfl .nil)) (by simp) ?_
        exact ⟨_, _, rfl, hE, o5⟩
  · intro K3 hK3
    refine wp_seq_k (fun K4 hK4 => ?_)
    refine wreg ?_
    refine go1 ha rfl (d_move ha rfl) fun a ha => ?_
    refine go1 ha rfl (d_lt ha rfl rfl) fun a ha => ?_
    refine go1 ha rfl (d_move ha rfl) fun a ha => ?_
    rcases ite_elim hF with ⟨hc1, hF⟩ | ⟨hc1, hF⟩
    · refine goOff ha rfl rfl rfl rfl (decide_eq_true hc1) fun a ha => ?_
      refine goOff ha rfl rfl rfl rfl (decide_eq_true hc1) fun a ha => ?_
      refine go1 ha rfl (d_pick ha rfl (decide_eq_true hc1) rfl) fun a ha => ?_
      refine go1 ha rfl (d_move ha rfl) fun a ha => ?_
      refine goOff ha rfl rfl rfl rfl rfl fun a ha => ?_
      refine goOff ha rfl rfl rfl rfl rfl fun a ha => ?_
      refine goOff ha rfl rfl rfl rfl rfl fun a ha => ?_
      refine goGone ha rfl rfl rfl rfl  fun a ha => ?_
      refine goGone ha rfl rfl rfl rfl  fun a ha => ?_
      refine goGone ha rfl rfl rfl rfl  fun a ha => ?_
      refine goGone ha rfl rfl rfl rfl  fun a ha => ?_
      refine goGone ha rfl rfl rfl rfl  fun a ha => ?_
      refine goOff ha rfl rfl rfl rfl rfl fun a ha => ?_
      refine go1 ha rfl (d_pick ha rfl rfl rfl) fun a ha => ?_
      refine nil_ ?_
      refine hK4 _ _ ?_
      have ha := ha.to (l' := [(0, _), (1, _), (24, _)]) rfl
      refine wcond_t ha rfl rfl ?_
      refine wp_seq_k (fun K5 hK5 => ?_)
      refine wreg ?_
      refine go1 ha rfl (d_assign ha rfl) fun a ha => ?_
      refine go1 ha rfl (d_assign ha rfl) fun a ha => ?_
      refine nil_ ?_
      refine hK5 _ _ ?_
      have ha := ha.to (l' := [(4, _), (5, _)]) rfl
      refine wp_ret ?_
      have hs := Step.add (a := none) [] (Fr.refl w No) (fun _ h => by cases h)
      have hE : Ex w (Av [] No) [none] w := hE.add (a := none) (Fr.refl w No) (fun _ h => by cases h)
      have o1 := Ow.nil (Av [none] W) w 5 (Kd.int .u8)
      injection hF with hF
      subst hF
      refine finN ha Try.results10 (.tmp rfl (.tmp rfl .nil)) (by simp) ?_
      exact ⟨_, _, rfl, hE, o1⟩
    · refine goOn1 ha rfl rfl rfl rfl (decide_eq_false hc1) (d_move ha rfl) fun a ha => ?_
      refine goOn1 ha rfl rfl rfl rfl (decide_eq_false hc1) (d_gt ha rfl rfl) fun a ha => ?_
      refine go1 ha rfl (d_pickF ha rfl (decide_eq_false hc1) rfl) fun a ha => ?_
      refine go1 ha rfl (d_move ha rfl) fun a ha => ?_
      rcases ite_elim hF with ⟨hc2, hF⟩ | ⟨hc2, hF⟩
      · refine goOff ha rfl rfl rfl rfl (decide_eq_true hc2) fun a ha => ?_
        refine goOff ha rfl rfl rfl rfl (decide_eq_true hc2) fun a ha => ?_
        refine goOff ha rfl rfl rfl rfl (decide_eq_true hc2) fun a ha => ?_
        refine goGone ha rfl rfl rfl rfl  fun a ha => ?_
        refine goGone ha rfl rfl rfl rfl  fun a ha => ?_
        refine goGone ha rfl rfl rfl rfl  fun a ha => ?_
        refine goGone ha rfl rfl rfl rfl  fun a ha => ?_
        refine goGone ha rfl rfl rfl rfl  fun a ha => ?_
        refine goOff ha rfl rfl rfl rfl (decide_eq_true hc2) fun a ha => ?_
        refine go1 ha rfl (d_pick ha rfl (decide_eq_true hc2) rfl) fun a ha => ?_
        refine nil_ ?_
        refine hK4 _ _ ?_
        have ha := ha.to (l' := [(0, _), (1, _), (24, _)]) rfl
        refine wcond_t ha rfl rfl ?_
        refine wp_seq_k (fun K6 hK6 => ?_)
        refine wreg ?_
        refine go1 ha rfl (d_assign ha rfl) fun a ha => ?_
        refine go1 ha rfl (d_assign ha rfl) fun a ha => ?_
        refine nil_ ?_
        refine hK6 _ _ ?_
        have ha := ha.to (l' := [(4, _), (5, _)]) rfl
        refine wp_ret ?_
        have hs := Step.add (a := none) [] (Fr.refl w No) (fun _ h => by cases h)
        have hE : Ex w (Av [] No) [none] w := hE.add (a := none) (Fr.refl w No) (fun _ h => by cases h)
        have o2 := Ow.nil (Av [none] W) w 5 (Kd.int .u8)
        injection hF with hF
        subst hF
        refine finN ha Try.results10 (.tmp rfl (.tmp rfl .nil)) (by simp) ?_
        exact ⟨_, _, rfl, hE, o2⟩
      · refine goOn1 ha rfl rfl rfl rfl (decide_eq_false hc2) (d_move ha rfl) fun a ha => ?_
        refine goOn1 ha rfl rfl rfl rfl (decide_eq_false hc2) (d_lt ha rfl rfl) fun a ha => ?_
        refine goOn1 ha rfl rfl rfl rfl (decide_eq_false hc2) (d_move ha rfl) fun a ha => ?_
        rcases ite_elim hF with ⟨hc3, hF⟩ | ⟨hc3, hF⟩
        · refine goOn1 ha rfl rfl rfl rfl (decide_eq_true hc3) (d_move ha rfl) fun a ha => ?_
          refine goOn1 ha rfl rfl rfl rfl (decide_eq_true hc3) (d_move ha rfl) fun a ha => ?_
          refine goOn1 ha rfl rfl rfl rfl (decide_eq_true hc3) (d_mul ha rfl rfl) fun a ha => ?_
          obtain ⟨hc4, hF⟩ := ck_elim hF
          refine goOn1 ha rfl rfl rfl rfl (decide_eq_true hc3) (d_shr ha rfl rfl hc4) fun a ha => ?_
          refine goOn1 ha rfl rfl rfl rfl (decide_eq_true hc3) (d_gt ha rfl rfl) fun a ha => ?_
          refine goOn1 ha rfl rfl rfl rfl (decide_eq_false hc2) (d_pick ha rfl (decide_eq_true hc3) rfl) fun a ha => ?_
          refine go1 ha rfl (d_pickF ha rfl (decide_eq_false hc2) rfl) fun a ha => ?_
          refine nil_ ?_
          refine hK4 _ _ ?_
          have ha := ha.to (l' := [(0, _), (1, _), (24, _)]) rfl
          rcases ite_elim hF with ⟨hc5, hF⟩ | ⟨hc5, hF⟩
          · refine wcond_t ha rfl (decide_eq_true hc5) ?_
            refine wp_seq_k (fun K7 hK7 => ?_)
            refine wreg ?_
            refine go1 ha rfl (d_assign ha rfl) fun a ha => ?_
            refine go1 ha rfl (d_assign ha rfl) fun a ha => ?_
            refine nil_ ?_
            refine hK7 _ _ ?_
            have ha := ha.to (l' := [(4, _), (5, _)]) rfl
            refine wp_ret ?_
            have hs := Step.add (a := none) [] (Fr.refl w No) (fun _ h => by cases h)
            have hE : Ex w (Av [] No) [none] w := hE.add (a := none) (Fr.refl w No) (fun _ h => by cases h)
            have o3 := Ow.nil (Av [none] W) w 5 (Kd.int .u8)
            injection hF with hF
            subst hF
            refine finN ha Try.results10 (.tmp rfl (.tmp rfl .nil)) (by simp) ?_
            exact ⟨_, _, rfl, hE, o3⟩
          · refine wcond_f ha rfl (decide_eq_false hc5) ?_
            refine wp_skip ?_
            exact hK3 _ _ ⟨ha.to rfl, hE, hF⟩
        · refine goOff ha rfl rfl rfl rfl (decide_eq_false hc3) fun a ha => ?_
          refine goOff ha rfl rfl rfl rfl (decide_eq_false hc3) fun a ha => ?_
          refine goOff ha rfl rfl rfl rfl (decide_eq_false hc3) fun a ha => ?_
          refine goOff ha rfl rfl rfl rfl (decide_eq_false hc3) fun a ha => ?_
          refine goOff ha rfl rfl rfl rfl (decide_eq_false hc3) fun a ha => ?_
          refine goOn1 ha rfl rfl rfl rfl (decide_eq_false hc2) (d_pickF ha rfl (decide_eq_false hc3) rfl) fun a ha => ?_
          refine go1 ha rfl (d_pickF ha rfl (decide_eq_false hc2) rfl) fun a ha => ?_
          refine nil_ ?_
          refine hK4 _ _ ?_
          have ha := ha.to (l' := [(0, _), (1, _), (24, _)]) rfl
          refine wcond_f ha rfl rfl ?_
          refine wp_skip ?_
          exact hK3 _ _ ⟨ha.to rfl, hE, hF⟩

def wire_Whole_j0 (k : Nat) (a0 : Int) : Option ((List Int) × Int) :=
  ((wire_Put k (IntKind.u64.wrap (IntKind.u32.wrap (IntKind.i32.wrap a0))) (4 : Int)).bind fun t1 => (some (t1.1, t1.2)))

def wire_Whole (k : Nat) (a0 : Int) : Option ((List Int) × Int) :=
  (if a0 < (-2147483648 : Int) then (some (([] : List (Int)), (2 : Int))) else (if (2147483647 : Int) < a0 then (some (([] : List (Int)), (2 : Int))) else (wire_Whole_j0 k a0)))

set_option maxHeartbeats 4000000 in
set_option maxRecDepth 100000 in
theorem wire_Whole_c (k : Nat) (a0 : Int)  (W : Nat → Prop) (w : World) (hW : ∀ k, W k → k < w.heap.size) (r : (List Int) × Int) (hF : wire_Whole k a0 = some r) :
    Calls Try.prog 12 [.int .i64 a0].toArray w (Ret fun v w' => ∃ (u1 : Option Addr) (d1 : Nat), v = .tuple #[.slice u1 r.1.length d1, .int .i64 r.2] ∧ Ex w (Av [] No) [u1] w' ∧ Ow (Av [u1] W) w' 5 (Kd.int .u8) u1 d1 r.1) := by
  unfold wire_Whole at hF
  refine enter [(0, .int .i64 a0)] Try.func12 rfl Try.ntmps12 rfl rfl fun a ha => ?_
  have hE : Ex w (Av [] No) [] w := Ex.refl w _
  have hW0 : ∀ p, some p ∈ ([] : List (Option Addr)) → ¬ W p.block := fun _ h => by cases h
  refine wp_seq_k (fun K1 hK1 => ?_)
  refine wreg ?_
  refine go1 ha rfl (d_assign ha rfl) fun a ha => ?_
  refine go1 ha rfl (d_assign ha rfl) fun a ha => ?_
  refine nil_ ?_
  refine hK1 _ _ ?_
  have ha := ha.to (l' := [(0, _)]) rfl
  refine wseqJ (fun a w1 => Has 17 [(0, .int .i64 a0)] a ∧ Ex w (Av [] No) [] w1 ∧ wire_Whole_j0 k a0 = some r) ?_ ?_
  · rintro a w1 ⟨ha, hE, hF⟩
    unfold wire_Whole_j0 at hF
    refine wp_seq_k (fun K7 hK7 => ?_)
    refine wreg ?_
    refine go1 ha rfl (d_move ha rfl) fun a ha => ?_
    refine go1 ha rfl (d_cvt ha Try.underlying3 Try.underlying21 rfl) fun a ha => ?_
    refine go1 ha rfl (d_cvt ha Try.underlying21 Try.underlying60 rfl) fun a ha => ?_
    refine go1 ha rfl (d_cvt ha Try.underlying60 Try.underlying22 rfl) fun a ha => ?_
    obtain ⟨t1, ht1, hF⟩ := bind_elim hF
    refine goR ha rfl (d_call Try.call10 ha (vs := [.int .u64 (IntKind.u64.wrap (IntKind.u32.wrap (IntKind.i32.wrap a0))), .int .i64 (4 : Int)]) rfl (wire_Put_c k (IntKind.u64.wrap (IntKind.u32.wrap (IntKind.i32.wrap a0))) (4 : Int)  (Av [] W) _ (Ex.wlt (as0 := []) (rr := []) (ro := []) hE hW)  _ ht1)) fun v w2 a h ha => ?_
    obtain ⟨p1, c1, rfl, hC, o3⟩ := h
    have hs : Step [] [p1] w1 w2 := hC.callStep []
    have o3 : Ow (Av [p1] W) w2 5 (Kd.int .u8) p1 c1 t1.1 := o3.alone (Kd.Flat.int _)
    have hE : Ex w (Av [] No) [p1] w2 := Ex.call (as0 := []) (rt := []) hE hC
    refine go1 ha rfl (d_extract ha rfl rfl) fun a ha => ?_
    refine go1 ha rfl (d_extract ha rfl rfl) fun a ha => ?_
    refine go1 ha rfl (d_assign ha rfl) fun a ha => ?_
    refine go1 ha rfl (d_assign ha rfl) fun a ha => ?_
    refine nil_ ?_
    refine hK7 _ _ ?_
    have ha := ha.to (l' := [(2, _), (3, _)]) rfl
    refine wp_ret ?_
    injection hF with hF
    subst hF
    refine finN ha Try.results12 (.tmp rfl (.tmp rfl .nil)) (by simp) ?_
    exact ⟨_, _, rfl, hE, o3⟩
  · intro K3 hK3
    refine wp_seq_k (fun K4 hK4 => ?_)
    refine wreg ?_
    refine go1 ha rfl (d_move ha rfl) fun a ha => ?_
    refine go1 ha rfl (d_lt ha rfl rfl) fun a ha => ?_
    refine go1 ha rfl (d_move ha rfl) fun a ha => ?_
    rcases ite_elim hF with ⟨hc1, hF⟩ | ⟨hc1, hF⟩
    · refine goOff ha rfl rfl rfl rfl (decide_eq_true hc1) fun a ha => ?_
      refine goOff ha rfl rfl rfl rfl (decide_eq_true hc1) fun a ha => ?_
      refine go1 ha rfl (d_pick ha rfl (decide_eq_true hc1) rfl) fun a ha => ?_
      refine nil_ ?_
      refine hK4 _ _ ?_
      have ha := ha.to (l' := [(0, _), (9, _)]) rfl
      refine wcond_t ha rfl rfl ?_
      refine wp_seq_k (fun K5 hK5 => ?_)
      refine wreg ?_
      refine go1 ha rfl (d_assign ha rfl) fun a ha => ?_
      refine go1 ha rfl (d_assign ha rfl) fun a ha => ?_
      refine nil_ ?_
      refine hK5 _ _ ?_
      have ha := ha.to (l' := [(2, _), (3, _)]) rfl
      refine wp_ret ?_
      have hs := Step.add (a := none) [] (Fr.refl w No) (fun _ h => by cases h)
      have hE : Ex w (Av [] No) [none] w := hE.add (a := none) (Fr.refl w No) (fun _ h => by cases h)
      have o1 := Ow.nil (Av [none] W) w 5 (Kd.int .u8)
      injection hF with hF
      subst hF
      refine finN ha Try.results12 (.tmp rfl (.tmp rfl .nil)) (by simp) ?_
      exact ⟨_, _, rfl, hE, o1⟩
    · refine goOn1 ha rfl rfl rfl rfl (decide_eq_false hc1) (d_move ha rfl) fun a ha => ?_
      refine goOn1 ha rfl rfl rfl rfl (decide_eq_false hc1) (d_gt ha rfl rfl) fun a ha => ?_
      refine go1 ha rfl (d_pickF ha rfl (decide_eq_false hc1) rfl) fun a ha => ?_
      refine nil_ ?_
      refine hK4 _ _ ?_
      have ha := ha.to (l' := [(0, _), (9, _)]) rfl
      rcases ite_elim hF with ⟨hc2, hF⟩ | ⟨hc2, hF⟩
      · refine wcond_t ha rfl (decide_eq_true hc2) ?_
        refine wp_seq_k (fun K6 hK6 => ?_)
        refine wreg ?_
        refine go1 ha rfl (d_assign ha rfl) fun a ha => ?_
        refine go1 ha rfl (d_assign ha rfl) fun a ha => ?_
        refine nil_ ?_
        refine hK6 _ _ ?_
        have ha := ha.to (l' := [(2, _), (3, _)]) rfl
        refine wp_ret ?_
        have hs := Step.add (a := none) [] (Fr.refl w No) (fun _ h => by cases h)
        have hE : Ex w (Av [] No) [none] w := hE.add (a := none) (Fr.refl w No) (fun _ h => by cases h)
        have o2 := Ow.nil (Av [none] W) w 5 (Kd.int .u8)
        injection hF with hF
        subst hF
        refine finN ha Try.results12 (.tmp rfl (.tmp rfl .nil)) (by simp) ?_
        exact ⟨_, _, rfl, hE, o2⟩
      · refine wcond_f ha rfl (decide_eq_false hc2) ?_
        refine wp_skip ?_
        exact hK3 _ _ ⟨ha.to rfl, hE, hF⟩

def slices_Grow_byte_byte_j0 (a1 : Int) : Option ((List Int)) :=
  (if (0 : Int) < (IntKind.i64.wrap (a1 - (IntKind.i64.wrap ((0 : Int) - (0 : Int))))) then (ck (0 ≤ (IntKind.i64.wrap (a1 - (IntKind.i64.wrap ((0 : Int) - (0 : Int))))) ∧ (([] : List (Int)).length + (IntKind.i64.wrap (a1 - (IntKind.i64.wrap ((0 : Int) - (0 : Int))))).toNat) * 1 ≤ 140737488355328) (ck (0 ≤ (0 : Int) ∧ (0 : Int) ≤ ((([] : List (Int)) ++ List.replicate (IntKind.i64.wrap (a1 - (IntKind.i64.wrap ((0 : Int) - (0 : Int))))).toNat (0 : Int)).length : Int)) (some ((([] : List (Int)) ++ List.replicate (IntKind.i64.wrap (a1 - (IntKind.i64.wrap ((0 : Int) - (0 : Int))))).toNat (0 : Int)).take ((0 : Int)).toNat)))) else (some ([] : List (Int))))

def slices_Grow_byte_byte (a1 : Int) : Option ((List Int)) :=
  (if a1 < (0 : Int) then none else (slices_Grow_byte_byte_j0 a1))

set_option maxHeartbeats 4000000 in
set_option maxRecDepth 100000 in
theorem slices_Grow_byte_byte_c (a1 : Int)  (W : Nat → Prop) (w : World) (hW : ∀ k, W k → k < w.heap.size) (r : (List Int)) (hF : slices_Grow_byte_byte a1 = some r) :
    Calls Try.prog 35 [.slice none 0 0, .int .i64 a1].toArray w (Ret fun v w' => ∃ (u1 : Option Addr) (d1 : Nat), v = .slice u1 r.length d1 ∧ Ex w (Av [] No) [u1] w' ∧ Ow (Av [u1] W) w' 5 (Kd.int .u8) u1 d1 r) := by
  unfold slices_Grow_byte_byte at hF
  refine enter [(0, .slice none 0 0), (1, .int .i64 a1)] Try.func35 rfl Try.ntmps35 rfl rfl fun a ha => ?_
  have hE : Ex w (Av [] No) [] w := Ex.refl w _
  have hW0 : ∀ p, some p ∈ ([] : List (Option Addr)) → ¬ W p.block := fun _ h => by cases h
  refine wp_seq_k (fun K1 hK1 => ?_)
  refine wreg ?_
  refine go1 ha rfl (d_assign ha rfl) fun a ha => ?_
  refine nil_ ?_
  refine hK1 _ _ ?_
  have ha := ha.to (l' := [(0, _), (1, _)]) rfl
  refine wseqJ (fun a w1 => Has 27 [(0, .slice none 0 0), (1, .int .i64 a1)] a ∧ Ex w (Av [] No) [] w1 ∧ slices_Grow_byte_byte_j0 a1 = some r) ?_ ?_
  · rintro a w1 ⟨ha, hE, hF⟩
    unfold slices_Grow_byte_byte_j0 at hF
    refine wp_seq_k (fun K5 hK5 => ?_)
    refine wp_seq_k (fun K6 hK6 => ?_)
    refine wreg ?_
    refine go1 ha rfl (d_move ha rfl) fun a ha => ?_
    refine go1 ha rfl (d_move ha rfl) fun a ha => ?_
    refine go1 ha rfl (d_capNil ha Try.underlying23 rfl) fun a ha => ?_
    refine go1 ha rfl (d_move ha rfl) fun a ha => ?_
    refine go1 ha rfl (d_lenSlice ha Try.underlying23 rfl) fun a ha => ?_
    refine go1 ha rfl (d_sub ha rfl rfl) fun a ha => ?_
    refine go1 ha rfl (d_sub ha rfl rfl) fun a ha => ?_
    refine go1 ha rfl (d_assign ha rfl) fun a ha => ?_
    refine nil_ ?_
    refine hK6 _ _ ?_
    have ha := ha.to (l' := [(0, _), (1, _)]) rfl
    refine wp_seq_k (fun K7 hK7 => ?_)
    refine wreg ?_
    refine go1 ha rfl (d_move ha rfl) fun a ha => ?_
    refine go1 ha rfl (d_gt ha rfl rfl) fun a ha => ?_
    refine nil_ ?_
    refine hK7 _ _ ?_
    have ha := ha.to (l' := [(0, _), (1, _), (16, _)]) rfl
    rcases ite_elim hF with ⟨hc2, hF⟩ | ⟨hc2, hF⟩
    · refine wcond_t ha rfl (decide_eq_true hc2) ?_
      refine wreg ?_
      refine go1 ha rfl (d_move ha rfl) fun a ha => ?_
      refine go1 ha rfl (d_move ha rfl) fun a ha => ?_
      refine go1 ha rfl (d_capNil ha Try.underlying23 rfl) fun a ha => ?_
      refine go1 ha rfl (d_sliceNil ha Try.underlying23 Try.sizeOf5 rfl rfl) fun a ha => ?_
      refine go1 ha rfl (d_move ha rfl) fun a ha => ?_
      obtain ⟨hc3, hF⟩ := ck_elim hF
      have hs := Step.add (a := none) [] (Fr.refl w1 No) (fun _ h => by cases h)
      have hE : Ex w (Av [] No) [none] w1 := hE.add (a := none) (Fr.refl w1 No) (fun _ h => by cases h)
      have o1 := Ow.nil (Av [none] W) w1 5 (Kd.int .u8)
      refine goR ha rfl (d_appendZ (B := W) (kd := (Kd.int .u8)) (zx := (0 : Int)) (zv := .int .u8 (0 : Int)) (bytes := 1) (lf := []) (rt := []) (fun q => [q]) (fun _ => rfl) ha Try.underlying23 (by kernel_rfl) rfl (by decide) (by decide) rfl Try.underlying3 (fun _ _ => rfl) rfl hc3.1 hE o1 hc3.2) fun v w2 a h ha => ?_
      obtain ⟨p1, c1, rfl, hs, hE1, hf, o1⟩ := h
      have hE := hE1
      refine go1 ha rfl (d_move ha rfl) fun a ha => ?_
      refine go1 ha rfl (d_lenSlice ha Try.underlying23 rfl) fun a ha => ?_
      obtain ⟨hc4, hF⟩ := ck_elim hF
      refine goS ha rfl (d_sliceOw (kd := (Kd.int .u8)) ha Try.underlying23 Try.sizeOf5 rfl rfl o1 hc4) fun v a h ha => ?_
      obtain ⟨rfl, o1⟩ := h
      refine go1 ha rfl (d_assign ha rfl) fun a ha => ?_
      refine nil_ ?_
      refine hK5 _ _ ?_
      have ha := ha.to (l' := [(0, _)]) rfl
      refine wp_seq_k (fun K8 hK8 => ?_)
      refine wreg ?_
      refine go1 ha rfl (d_move ha rfl) fun a ha => ?_
      refine go1 ha rfl (d_assign ha rfl) fun a ha => ?_
      refine nil_ ?_
      refine hK8 _ _ ?_
      have ha := ha.to (l' := [(4, _)]) rfl
      refine wp_ret ?_
      injection hF with hF
      subst hF
      refine fin1 ha Try.results35 rfl ?_
      exact ⟨_, _, rfl, hE, o1⟩
    · refine wcond_f ha rfl (decide_eq_false hc2) ?_
      refine wp_skip ?_
      refine hK5 _ _ ?_
      have ha := ha.to (l' := [(0, _)]) rfl
      refine wp_seq_k (fun K9 hK9 => ?_)
      refine wreg ?_
      refine go1 ha rfl (d_move ha rfl) fun a ha => ?_
      refine go1 ha rfl (d_assign ha rfl) fun a ha => ?_
      refine nil_ ?_
      refine hK9 _ _ ?_
      have ha := ha.to (l' := [(4, _)]) rfl
      refine wp_ret ?_
      have hs := Step.add (a := none) [] (Fr.refl w1 No) (fun _ h => by cases h)
      have hE : Ex w (Av [] No) [none] w1 := hE.add (a := none) (Fr.refl w1 No) (fun _ h => by cases h)
      have o2 := Ow.nil (Av [none] W) w1 5 (Kd.int .u8)
      injection hF with hF
      subst hF
      refine fin1 ha Try.results35 rfl ?_
      exact ⟨_, _, rfl, hE, o2⟩
  · intro K3 hK3
    refine wp_seq_k (fun K4 hK4 => ?_)
    refine wreg ?_
    refine go1 ha rfl (d_move ha rfl) fun a ha => ?_
    refine go1 ha rfl (d_lt ha rfl rfl) fun a ha => ?_
    refine nil_ ?_
    refine hK4 _ _ ?_
    have ha := ha.to (l' := [(0, _), (1, _), (6, _)]) rfl
    rcases ite_elim hF with ⟨hc1, hF⟩ | ⟨hc1, hF⟩
    · refine wcond_t ha rfl (decide_eq_true hc1) ?_
      refine wreg ?_
      cases hF
    · refine wcond_f ha rfl (decide_eq_false hc1) ?_
      refine wp_skip ?_
      exact hK3 _ _ ⟨ha.to rfl, hE, hF⟩

def slices_Concat_byte_byte_l1 (k : Nat) (a0 : List (List Int)) : Nat → (List Int) → Int → Option ((List Int))
  | 0, _, _ => none
  | k2 + 1, x3, x4 =>
    (if x4 < (a0.length : Int) then (ck (0 ≤ x4 ∧ x4 < (a0.length : Int)) (ck ((x3.length + (a0.getD (x4).toNat ([] : List (Int))).length) * 1 ≤ 140737488355328) (slices_Concat_byte_byte_l1 k a0 k2 (x3 ++ (a0.getD (x4).toNat ([] : List (Int)))) (IntKind.i64.wrap (x4 + (1 : Int)))))) else (some x3))

def slices_Concat_byte_byte_l0 (k : Nat) (a0 : List (List Int)) : Nat → Int → Int → Option ((List Int))
  | 0, _, _ => none
  | k1 + 1, x1, x2 =>
    (if x2 < (a0.length : Int) then (ck (0 ≤ x2 ∧ x2 < (a0.length : Int)) (if (IntKind.i64.wrap (x1 + ((a0.getD (x2).toNat ([] : List (Int))).length : Int))) < (0 : Int) then none else (slices_Concat_byte_byte_l0 k a0 k1 (IntKind.i64.wrap (x1 + ((a0.getD (x2).toNat ([] : List (Int))).length : Int))) (IntKind.i64.wrap (x2 + (1 : Int)))))) else ((slices_Grow_byte_byte x1).bind fun t1 => (slices_Concat_byte_byte_l1 k a0 k t1 (0 : Int))))

def slices_Concat_byte_byte (k : Nat) (a0 : List (List Int)) : Option ((List Int)) :=
  (slices_Concat_byte_byte_l0 k a0 k (0 : Int) (0 : Int))

set_option maxHeartbeats 4000000 in
set_option maxRecDepth 100000 in
theorem slices_Concat_byte_byte_c (k : Nat) (a0 : List (List Int)) (p1 : Option Addr) (c1 : Nat) (W : Nat → Prop) (w : World) (hW : ∀ k, W k → k < w.heap.size) (r1 : Raw (Av [] W) (Kd.sl (Kd.int .u8)) w.heap p1 c1 a0) (r : (List Int)) (hF : slices_Concat_byte_byte k a0 = some r) :
    Calls Try.prog 31 [.slice p1 a0.length c1].toArray w (Ret fun v w' => ∃ (u1 : Option Addr) (d1 : Nat), v = .slice u1 r.length d1 ∧ Ex w (Av [] No) [u1] w' ∧ Ow (Av [u1] W) w' 5 (Kd.int .u8) u1 d1 r) := by
  unfold slices_Concat_byte_byte at hF
  refine enter [(0, .slice p1 a0.length c1)] Try.func31 rfl Try.ntmps31 rfl rfl fun a ha => ?_
  have hE : Ex w (Av [] No) [] w := Ex.refl w _
  have hW0 : ∀ p, some p ∈ ([] : List (Option Addr)) → ¬ W p.block := fun _ h => by cases h
  refine wp_seq_k (fun K1 hK1 => ?_)
  refine wreg ?_
  refine go1 ha rfl (d_assign ha rfl) fun a ha => ?_
  refine nil_ ?_
  refine hK1 _ _ ?_
  have ha := ha.to (l' := [(0, _)]) rfl
  refine wp_seq_k (fun K2 hK2 => ?_)
  refine wreg ?_
  refine go1 ha rfl (d_assign ha rfl) fun a ha => ?_
  refine nil_ ?_
  refine hK2 _ _ ?_
  have ha := ha.to (l' := [(0, _), (3, _)]) rfl
  refine wp_seq_k (fun K3 hK3 => ?_)
  refine wp_seq_k (fun K4 hK4 => ?_)
  refine wreg ?_
  refine go1 ha rfl (d_move ha rfl) fun a ha => ?_
  refine go1 ha rfl (d_lenSlice ha Try.underlying35 rfl) fun a ha => ?_
  refine go1 ha rfl (d_move ha rfl) fun a ha => ?_
  refine nil_ ?_
  refine hK4 _ _ ?_
  have ha := ha.to (l' := [(0, _), (3, _), (9, _), (10, _), (11, _)]) rfl
  refine wp_block ?_
  refine wloopJ (fun k' a w1 => ∃ (x1 : Int) (x2 : Int), Has 36 [(0, .slice p1 a0.length c1), (3, .int .i64 x1), (9, .slice p1 a0.length c1), (10, .int .i64 (a0.length : Int)), (11, .int .i64 x2)] a ∧ Ex w (Av [] No) [] w1 ∧ Raw (Av [] W) (Kd.sl (Kd.int .u8)) w1.heap p1 c1 a0 ∧ slices_Concat_byte_byte_l0 k a0 k' x1 x2 = some r) k ⟨(0 : Int), (0 : Int), ha.to rfl, hE, r1, hF⟩ ?_
  rintro k1 a w1 ⟨x1, x2, ha, hE, r1, hF⟩ K5 hK5
  cases k1 with
  | zero => cases hF
  | succ k1 =>
    rw [slices_Concat_byte_byte_l0] at hF
    refine wp_seq_k (fun K6 hK6 => ?_)
    refine wreg ?_
    refine go1 ha rfl (d_lt ha rfl rfl) fun a ha => ?_
    refine nil_ ?_
    refine hK6 _ _ ?_
    have ha := ha.to (l' := [(0, _), (3, _), (9, _), (10, _), (11, _), (12, _)]) rfl
    refine wp_seq_k (fun K7 hK7 => ?_)
    rcases ite_elim hF with ⟨hc1, hF⟩ | ⟨hc1, hF⟩
    · refine wcond_t ha rfl (decide_eq_true hc1) ?_
      refine wp_skip ?_
      refine hK7 _ _ ?_
      have ha := ha.to (l' := [(0, _), (3, _), (9, _), (10, _), (11, _)]) rfl
      refine wp_seq_k (fun K8 hK8 => ?_)
      refine wp_block ?_
      refine wp_seq_k (fun K9 hK9 => ?_)
      refine wreg ?_
      obtain ⟨hc2, hF⟩ := ck_elim hF
      refine goS ha rfl (d_index (kd := (Kd.sl (Kd.int .u8))) ha rfl rfl Try.underlying35 Try.sizeOf23 r1 hc2 ([] : List (Int))) fun v a h ha => ?_
      obtain ⟨b1, q1, cs1, rfl, _, hk1, at1⟩ := h
      obtain ⟨p2, c2, rfl, r2⟩ := hk1
      refine go1 ha rfl (d_load ha rfl (at1.cell 0 rfl) Try.isAgg23) fun a ha => ?_
      refine go1 ha rfl (d_assign ha rfl) fun a ha => ?_
      refine nil_ ?_
      refine hK9 _ _ ?_
      have ha := ha.to (l' := [(0, _), (3, _), (5, _), (9, _), (10, _), (11, _)]) rfl
      refine wp_seq_k (fun K10 hK10 => ?_)
      refine wreg ?_
      refine go1 ha rfl (d_move ha rfl) fun a ha => ?_
      refine go1 ha rfl (d_move ha rfl) fun a ha => ?_
      refine go1 ha rfl (d_lenSlice ha Try.underlying23 rfl) fun a ha => ?_
      refine go1 ha rfl (d_add ha rfl rfl) fun a ha => ?_
      refine go1 ha rfl (d_assign ha rfl) fun a ha => ?_
      refine nil_ ?_
      refine hK10 _ _ ?_
      have ha := ha.to (l' := [(0, _), (3, _), (9, _), (10, _), (11, _)]) rfl
      refine wp_seq_k (fun K11 hK11 => ?_)
      refine wreg ?_
      refine go1 ha rfl (d_move ha rfl) fun a ha => ?_
      refine go1 ha rfl (d_lt ha rfl rfl) fun a ha => ?_
      refine nil_ ?_
      refine hK11 _ _ ?_
      have ha := ha.to (l' := [(0, _), (3, _), (9, _), (10, _), (11, _), (20, _)]) rfl
      rcases ite_elim hF with ⟨hc3, hF⟩ | ⟨hc3, hF⟩
      · refine wcond_t ha rfl (decide_eq_true hc3) ?_
        refine wreg ?_
        cases hF
      · refine wcond_f ha rfl (decide_eq_false hc3) ?_
        refine wp_skip ?_
        refine hK8 _ _ ?_
        have ha := ha.to (l' := [(0, _), (3, _), (9, _), (10, _), (11, _)]) rfl
        refine wreg ?_
        refine go1 ha rfl (d_add ha rfl rfl) fun a ha => ?_
        refine go1 ha rfl (d_move ha rfl) fun a ha => ?_
        refine nil_ ?_
        exact hK5 k1 _ _ (Nat.lt_succ_self _) ⟨(IntKind.i64.wrap (x1 + ((a0.getD (x2).toNat ([] : List (Int))).length : Int))), (IntKind.i64.wrap (x2 + (1 : Int))), ha.to rfl, hE, r1, hF⟩
    · refine wcond_f ha rfl (decide_eq_false hc1) ?_
      refine wp_exit ?_
      refine hK3 _ _ ?_
      have ha := ha.to (l' := [(0, _), (3, _)]) rfl
      refine wp_seq_k (fun K12 hK12 => ?_)
      refine wreg ?_
      refine go1 ha rfl (d_move ha rfl) fun a ha => ?_
      obtain ⟨t1, ht1, hF⟩ := bind_elim hF
      refine goR ha rfl (d_call Try.call35 ha (vs := [.slice none 0 0, .int .i64 x1]) rfl (slices_Grow_byte_byte_c x1  (Av [] W) _ (Ex.wlt (as0 := []) (rr := []) (ro := []) hE hW)  _ ht1)) fun v w2 a h ha => ?_
      obtain ⟨p3, c3, rfl, hC, o1⟩ := h
      have hs : Step [] [p3] w1 w2 := hC.callStep []
      have r1 := hs.tr r1
      have o1 : Ow (Av [p3] W) w2 5 (Kd.int .u8) p3 c3 t1 := o1.alone (Kd.Flat.int _)
      have hE : Ex w (Av [] No) [p3] w2 := Ex.call (as0 := []) (rt := []) hE hC
      refine go1 ha rfl (d_assign ha rfl) fun a ha => ?_
      refine nil_ ?_
      refine hK12 _ _ ?_
      have ha := ha.to (l' := [(0, _), (6, _)]) rfl
      refine wp_seq_k (fun K13 hK13 => ?_)
      refine wp_seq_k (fun K14 hK14 => ?_)
      refine wreg ?_
      refine go1 ha rfl (d_move ha rfl) fun a ha => ?_
      refine go1 ha rfl (d_lenSlice ha Try.underlying35 rfl) fun a ha => ?_
      refine go1 ha rfl (d_move ha rfl) fun a ha => ?_
      refine nil_ ?_
      refine hK14 _ _ ?_
      have ha := ha.to (l' := [(6, _), (25, _), (26, _), (27, _)]) rfl
      refine wp_block ?_
      refine wloopJ (fun k' a w3 => ∃ (x3 : List Int) (p4 : Option Addr) (c4 : Nat) (x4 : Int), Has 36 [(6, .slice p4 x3.length c4), (25, .slice p1 a0.length c1), (26, .int .i64 (a0.length : Int)), (27, .int .i64 x4)] a ∧ Ex w (Av [] No) [p4] w3 ∧ Raw (Av [p4] W) (Kd.sl (Kd.int .u8)) w3.heap p1 c1 a0 ∧ Ow (Av [p4] W) w3 5 (Kd.int .u8) p4 c4 x3 ∧ slices_Concat_byte_byte_l1 k a0 k' x3 x4 = some r) k ⟨t1, _, _, (0 : Int), ha.to rfl, hE, r1, o1, hF⟩ ?_
      rintro k2 a w3 ⟨x3, p4, c4, x4, ha, hE, r1, o2, hF⟩ K15 hK15
      cases k2 with
      | zero => cases hF
      | succ k2 =>
        rw [slices_Concat_byte_byte_l1] at hF
        refine wp_seq_k (fun K16 hK16 => ?_)
        refine wreg ?_
        refine go1 ha rfl (d_lt ha rfl rfl) fun a ha => ?_
        refine nil_ ?_
        refine hK16 _ _ ?_
        have ha := ha.to (l' := [(6, _), (25, _), (26, _), (27, _), (28, _)]) rfl
        refine wp_seq_k (fun K17 hK17 => ?_)
        rcases ite_elim hF with ⟨hc4, hF⟩ | ⟨hc4, hF⟩
        · refine wcond_t ha rfl (decide_eq_true hc4) ?_
          refine wp_skip ?_
          refine hK17 _ _ ?_
          have ha := ha.to (l' := [(6, _), (25, _), (26, _), (27, _)]) rfl
          refine wp_seq_k (fun K18 hK18 => ?_)
          refine wp_block ?_
          refine wp_seq_k (fun K19 hK19 => ?_)
          refine wreg ?_
          obtain ⟨hc5, hF⟩ := ck_elim hF
          refine goS ha rfl (d_index (kd := (Kd.sl (Kd.int .u8))) ha rfl rfl Try.underlying35 Try.sizeOf23 r1 hc5 ([] : List (Int))) fun v a h ha => ?_
          obtain ⟨b2, q2, cs2, rfl, _, hk2, at2⟩ := h
          obtain ⟨p5, c5, rfl, r3⟩ := hk2
          refine go1 ha rfl (d_load ha rfl (at2.cell 0 rfl) Try.isAgg23) fun a ha => ?_
          refine go1 ha rfl (d_assign ha rfl) fun a ha => ?_
          refine nil_ ?_
          refine hK19 _ _ ?_
          have ha := ha.to (l' := [(6, _), (8, _), (25, _), (26, _), (27, _)]) rfl
          refine wreg ?_
          refine go1 ha rfl (d_move ha rfl) fun a ha => ?_
          refine go1 ha rfl (d_move ha rfl) fun a ha => ?_
          obtain ⟨hc6, hF⟩ := ck_elim hF
          refine goR ha rfl (d_append (B := W) (kd := (Kd.int .u8)) (zv := .int .u8 (0 : Int)) (bytes := 1) (lf := []) (rt := []) (fun q => [q]) (fun _ => rfl) ha Try.underlying23 (by kernel_rfl) rfl (by decide) (by decide) rfl rfl hE o2 r3 (fun _ _ h => h) hc6) fun v w4 a h ha => ?_
          obtain ⟨p6, c6, rfl, hs, hE1, hf, o2⟩ := h
          have r1 := hs.tr r1
          have r3 := hs.tr r3
          have hE := hE1
          refine go1 ha rfl (d_assign ha rfl) fun a ha => ?_
          refine nil_ ?_
          refine hK18 _ _ ?_
          have ha := ha.to (l' := [(6, _), (25, _), (26, _), (27, _)]) rfl
          refine wreg ?_
          refine go1 ha rfl (d_add ha rfl rfl) fun a ha => ?_
          refine go1 ha rfl (d_move ha rfl) fun a ha => ?_
          refine nil_ ?_
          exact hK15 k2 _ _ (Nat.lt_succ_self _) ⟨(x3 ++ (a0.getD (x4).toNat ([] : List (Int)))), _, _, (IntKind.i64.wrap (x4 + (1 : Int))), ha.to rfl, hE, r1, o2, hF⟩
        · refine wcond_f ha rfl (decide_eq_false hc4) ?_
          refine wp_exit ?_
          refine hK13 _ _ ?_
          have ha := ha.to (l' := [(6, _)]) rfl
          refine wp_seq_k (fun K20 hK20 => ?_)
          refine wreg ?_
          refine go1 ha rfl (d_move ha rfl) fun a ha => ?_
          refine go1 ha rfl (d_assign ha rfl) fun a ha => ?_
          refine nil_ ?_
          refine hK20 _ _ ?_
          have ha := ha.to (l' := [(2, _)]) rfl
          refine wp_ret ?_
          injection hF with hF
          subst hF
          refine fin1 ha Try.results31 rfl ?_
          exact ⟨_, _, rfl, hE, o2⟩

def wire_Join (k : Nat) (a0 : List (List Int)) : Option ((List Int)) :=
  ((slices_Concat_byte_byte k a0).bind fun t1 => (some t1))

set_option maxHeartbeats 4000000 in
set_option maxRecDepth 100000 in
theorem wire_Join_c (k : Nat) (a0 : List (List Int)) (p1 : Option Addr) (c1 : Nat) (W : Nat → Prop) (w : World) (hW : ∀ k, W k → k < w.heap.size) (r1 : Raw (Av [] W) (Kd.sl (Kd.int .u8)) w.heap p1 c1 a0) (r : (List Int)) (hF : wire_Join k a0 = some r) :
    Calls Try.prog 16 [.slice p1 a0.length c1].toArray w (Ret fun v w' => ∃ (u1 : Option Addr) (d1 : Nat), v = .slice u1 r.length d1 ∧ Ex w (Av [] No) [u1] w' ∧ Ow (Av [u1] W) w' 5 (Kd.int .u8) u1 d1 r) := by
  unfold wire_Join at hF
  refine enter [(0, .slice p1 a0.length c1)] Try.func16 rfl Try.ntmps16 rfl rfl fun a ha => ?_
  have hE : Ex w (Av [] No) [] w := Ex.refl w _
  have hW0 : ∀ p, some p ∈ ([] : List (Option Addr)) → ¬ W p.block := fun _ h => by cases h
  refine wp_seq_k (fun K1 hK1 => ?_)
  refine wreg ?_
  refine go1 ha rfl (d_assign ha rfl) fun a ha => ?_
  refine nil_ ?_
  refine hK1 _ _ ?_
  have ha := ha.to (l' := [(0, _)]) rfl
  refine wp_seq_k (fun K2 hK2 => ?_)
  refine wreg ?_
  refine go1 ha rfl (d_move ha rfl) fun a ha => ?_
  obtain ⟨t1, ht1, hF⟩ := bind_elim hF
  refine goR ha rfl (d_call Try.call31 ha (vs := [.slice p1 a0.length c1]) rfl (slices_Concat_byte_byte_c k a0 _ _ (Av [] W) _ (Ex.wlt (as0 := []) (rr := []) (ro := []) hE hW) (Raw.arg (as0 := []) (rr := []) (ro := []) r1 (fun _ h => h)) _ ht1)) fun v w1 a h ha => ?_
  obtain ⟨p2, c2, rfl, hC, o1⟩ := h
  have hs : Step [] [p2] w w1 := hC.callStep []
  have r1 := hs.tr r1
  have o1 : Ow (Av [p2] W) w1 5 (Kd.int .u8) p2 c2 t1 := o1.alone (Kd.Flat.int _)
  have hE : Ex w (Av [] No) [p2] w1 := Ex.call (as0 := []) (rt := []) hE hC
  refine go1 ha rfl (d_assign ha rfl) fun a ha => ?_
  refine nil_ ?_
  refine hK2 _ _ ?_
  have ha := ha.to (l' := [(2, _)]) rfl
  refine wp_ret ?_
  injection hF with hF
  subst hF
  refine fin1 ha Try.results16 rfl ?_
  exact ⟨_, _, rfl, hE, o1⟩

def wire_Blob_j0 (k : Nat) (a0 : List Int) (a1 : Int) (x1 : Bool) : Option ((List Int) × Int) :=
  (bif x1 then (some (([] : List (Int)), (2 : Int))) else (ck (0 ≤ (IntKind.i64.wrap ((8 : Int) * a1))) (if (shl .i64 (1 : Int) (IntKind.i64.wrap ((8 : Int) * a1))) ≤ (a0.length : Int) then (some (([] : List (Int)), (17 : Int))) else ((wire_Put k (IntKind.u64.wrap (a0.length : Int)) a1).bind fun t1 => ((wire_Join k ([t1.1, a0] : List (List Int))).bind fun t2 => (some (t2, (0 : Int))))))))

def wire_Blob (k : Nat) (a0 : List Int) (a1 : Int) : Option ((List Int) × Int) :=
  (if a1 = (1 : Int) then (wire_Blob_j0 k a0 a1 false) else (wire_Blob_j0 k a0 a1 (!decide (a1 = (2 : Int)))))

set_option maxHeartbeats 4000000 in
set_option maxRecDepth 100000 in
theorem wire_Blob_c (k : Nat) (a0 : List Int) (a1 : Int) (p1 : Option Addr) (c1 : Nat) (W : Nat → Prop) (w : World) (hW : ∀ k, W k → k < w.heap.size) (r1 : Raw (Av [] W) (Kd.int .u8) w.heap p1 c1 a0) (r : (List Int) × Int) (hF : wire_Blob k a0 a1 = some r) :
    Calls Try.prog 14 [.slice p1 a0.length c1, .int .i64 a1].toArray w (Ret fun v w' => ∃ (u1 : Option Addr) (d1 : Nat), v = .tuple #[.slice u1 r.1.length d1, .int .i64 r.2] ∧ Ex w (Av [] No) [u1] w' ∧ Ow (Av [u1] W) w' 5 (Kd.int .u8) u1 d1 r.1) := by
  unfold wire_Blob at hF
  refine enter [(0, .slice p1 a0.length c1), (1, .int .i64 a1)] Try.func14 rfl Try.ntmps14 rfl rfl fun a ha => ?_
  have hE : Ex w (Av [] No) [] w := Ex.refl w _
  have hW0 : ∀ p, some p ∈ ([] : List (Option Addr)) → ¬ W p.block := fun _ h => by cases h
  refine wp_seq_k (fun K1 hK1 => ?_)
  refine wreg ?_
  refine go1 ha rfl (d_assign ha rfl) fun a ha => ?_
  refine go1 ha rfl (d_assign ha rfl) fun a ha => ?_
  refine nil_ ?_
  refine hK1 _ _ ?_
  have ha := ha.to (l' := [(0, _), (1, _)]) rfl
  refine wp_seq_k (fun K2 hK2 => ?_)
  refine wp_block ?_
  refine wseqJ (fun a w1 => ∃ (x1 : Bool), Has 34 [(0, .slice p1 a0.length c1), (1, .int .i64 a1), (8, .bool x1)] a ∧ Ex w (Av [] No) [] w1 ∧ Raw (Av [] W) (Kd.int .u8) w1.heap p1 c1 a0 ∧ wire_Blob_j0 k a0 a1 x1 = some r) ?_ ?_
  · rintro a w1 ⟨x1, ha, hE, r1, hF⟩
    unfold wire_Blob_j0 at hF
    rcases cond_elim hF with ⟨hc2, hF⟩ | ⟨hc2, hF⟩
    · refine wcond_t ha rfl hc2 ?_
      refine wp_seq_k (fun K5 hK5 => ?_)
      refine wreg ?_
      refine go1 ha rfl (d_assign ha rfl) fun a ha => ?_
      refine go1 ha rfl (d_assign ha rfl) fun a ha => ?_
      refine nil_ ?_
      refine hK5 _ _ ?_
      have ha := ha.to (l' := [(4, _), (5, _)]) rfl
      refine wp_ret ?_
      have hs := Step.add (a := none) [] (Fr.refl w1 No) (fun _ h => by cases h)
      have r1 := hs.tr r1
      have hE : Ex w (Av [] No) [none] w1 := hE.add (a := none) (Fr.refl w1 No) (fun _ h => by cases h)
      have o1 := Ow.nil (Av [none] W) w1 5 (Kd.int .u8)
      injection hF with hF
      subst hF
      refine finN ha Try.results14 (.tmp rfl (.tmp rfl .nil)) (by simp) ?_
      exact ⟨_, _, rfl, hE, o1⟩
    · refine wcond_f ha rfl hc2 ?_
      refine wp_seq_k (fun K6 hK6 => ?_)
      refine wreg ?_
      refine go1 ha rfl (d_move ha rfl) fun a ha => ?_
      refine go1 ha rfl (d_lenSlice ha Try.underlying23 rfl) fun a ha => ?_
      refine go1 ha rfl (d_move ha rfl) fun a ha => ?_
      refine go1 ha rfl (d_mul ha rfl rfl) fun a ha => ?_
      obtain ⟨hc3, hF⟩ := ck_elim hF
      refine go1 ha rfl (d_shl ha rfl rfl hc3) fun a ha => ?_
      refine go1 ha rfl (d_ge ha rfl rfl) fun a ha => ?_
      refine go1 ha rfl (d_assign ha rfl) fun a ha => ?_
      refine nil_ ?_
      refine hK6 _ _ ?_
      have ha := ha.to (l' := [(0, _), (1, _), (15, _)]) rfl
      rcases ite_elim hF with ⟨hc4, hF⟩ | ⟨hc4, hF⟩
      · refine wcond_t ha rfl (decide_eq_true hc4) ?_
        refine wp_seq_k (fun K7 hK7 => ?_)
        refine wreg ?_
        refine go1 ha rfl (d_assign ha rfl) fun a ha => ?_
        refine go1 ha rfl (d_assign ha rfl) fun a ha => ?_
        refine nil_ ?_
        refine hK7 _ _ ?_
        have ha := ha.to (l' := [(4, _), (5, _)]) rfl
        refine wp_ret ?_
        have hs := Step.add (a := none) [] (Fr.refl w1 No) (fun _ h => by cases h)
        have r1 := hs.tr r1
        have hE : Ex w (Av [] No) [none] w1 := hE.add (a := none) (Fr.refl w1 No) (fun _ h => by cases h)
        have o2 := Ow.nil (Av [none] W) w1 5 (Kd.int .u8)
        injection hF with hF
        subst hF
        refine finN ha Try.results14 (.tmp rfl (.tmp rfl .nil)) (by simp) ?_
        exact ⟨_, _, rfl, hE, o2⟩
      · refine wcond_f ha rfl (decide_eq_false hc4) ?_
        refine wp_skip ?_
        refine hK2 _ _ ?_
        have ha := ha.to (l' := [(0, _), (1, _)]) rfl
        refine wp_seq_k (fun K8 hK8 => ?_)
        refine wreg ?_
        refine go1 ha rfl (d_move ha rfl) fun a ha => ?_
        refine go1 ha rfl (d_lenSlice ha Try.underlying23 rfl) fun a ha => ?_
        refine go1 ha rfl (d_cvt ha Try.underlying3 Try.underlying22 rfl) fun a ha => ?_
        refine go1 ha rfl (d_move ha rfl) fun a ha => ?_
        obtain ⟨t1, ht1, hF⟩ := bind_elim hF
        refine goR ha rfl (d_call Try.call10 ha (vs := [.int .u64 (IntKind.u64.wrap (a0.length : Int)), .int .i64 a1]) rfl (wire_Put_c k (IntKind.u64.wrap (a0.length : Int)) a1  (Av [] W) _ (Ex.wlt (as0 := []) (rr := []) (ro := []) hE hW)  _ ht1)) fun v w2 a h ha => ?_
        obtain ⟨p2, c2, rfl, hC, o3⟩ := h
        have hs : Step [] [p2] w1 w2 := hC.callStep []
        have r1 := hs.tr r1
        have o3 : Ow (Av [p2] W) w2 5 (Kd.int .u8) p2 c2 t1.1 := o3.alone (Kd.Flat.int _)
        have hE : Ex w (Av [] No) [p2] w2 := Ex.call (as0 := []) (rt := []) hE hC
        refine go1 ha rfl (d_move ha rfl) fun a ha => ?_
        refine go1 ha rfl (d_extract ha rfl rfl) fun a ha => ?_
        refine go1 ha rfl (d_extract ha rfl rfl) fun a ha => ?_
        refine go1 ha rfl (d_assign ha rfl) fun a ha => ?_
        refine go1 ha rfl (d_assign ha rfl) fun a ha => ?_
        refine nil_ ?_
        refine hK8 _ _ ?_
        have ha := ha.to (l' := [(0, _), (6, _)]) rfl
        refine wp_seq_k (fun K9 hK9 => ?_)
        refine wreg ?_
        refine go1 ha rfl (d_move ha rfl) fun a ha => ?_
        refine go1 ha rfl (d_move ha rfl) fun a ha => ?_
        have r2 : Raw (Av [] (Old w)) (Kd.int .u8) w2.heap p2 c2 t1.1 := o3.freeF (Kd.Flat.int _) hE 0 rfl
        have hs : Step [p2] [] w2 w2 := Step.pick _ _ []
        have r1 := hs.tr r1
        have hE : Ex w (Av [] No) [] w2 := hE.pick [] (by decide)
        refine goR ha rfl (d_buildSlice (B := W) (kd := (Kd.sl (Kd.int .u8))) (xs := ([t1.1, a0] : List (List Int))) (vs := [.slice p2 t1.1.length c2, .slice p1 a0.length c1]) ha Try.underlying35 Try.sizeOf23 Try.zeroValue23 rfl (Els.cons (c := [.slice p2 t1.1.length c2]) (⟨_, _, rfl, r2.toW hW⟩) (Els.cons (c := [.slice p1 a0.length c1]) (⟨_, _, rfl, r1⟩) Els.nil)) (by simp [Value.cells, Kd.int, Kd.scalar, Kd.bool, Kd.str, Kd.pair, Kd.sl]) rfl rfl (by decide) (by decide) hE) fun v w3 a h ha => ?_
        obtain ⟨p3, c3, rfl, hs, hE, hf, o4⟩ := h
        have r1 := hs.tr r1
        have r2 := hs.tr r2
        obtain ⟨t2, ht2, hF⟩ := bind_elim hF
        refine goR ha rfl (d_call Try.call16 ha (vs := [.slice p3 ([t1.1, a0] : List (List Int)).length c3]) rfl (wire_Join_c k ([t1.1, a0] : List (List Int)) _ _ (Av [] W) _ (Ex.wlt (as0 := []) (rr := [p3]) (ro := []) hE hW) (Ow.argR (as0 := []) (rr := [p3]) (ro := []) o4 hE hW hW0 (by simp)) _ ht2)) fun v w4 a h ha => ?_
        obtain ⟨p4, c4, rfl, hC, o5⟩ := h
        have hs : Step [p3] [p4, p3] w3 w4 := hC.callStep [p3]
        have r1 := hs.tr r1
        have r2 := hs.tr r2
        have o4 := o4.keep hC.fr (Ex.callOff (as0 := []) (rt := [p3]) hE (u := p3) (by simp)) (fun _ _ h => hs.trK h)
        have o5 : Ow (Av [p4, p3] W) w4 5 (Kd.int .u8) p4 c4 t2 := o5.alone (Kd.Flat.int _)
        have hE : Ex w (Av [] No) [p4, p3] w4 := Ex.call (as0 := []) (rt := [p3]) hE hC
        refine go1 ha rfl (d_assign ha rfl) fun a ha => ?_
        refine go1 ha rfl (d_assign ha rfl) fun a ha => ?_
        refine nil_ ?_
        refine hK9 _ _ ?_
        have ha := ha.to (l' := [(4, _), (5, _)]) rfl
        refine wp_ret ?_
        have hs : Step [p4, p3] [p4] w4 w4 := Step.pick _ _ [0]
        have r1 := hs.tr r1
        have r2 := hs.tr r2
        have o5 := o5.keep (Fr.refl _ No) (fun _ _ h => h) (fun _ _ h => hs.trK h)
        have hE : Ex w (Av [] No) [p4] w4 := hE.pick [0] (by decide)
        injection hF with hF
        subst hF
        refine finN ha Try.results14 (.tmp rfl (.tmp rfl .nil)) (by simp) ?_
        exact ⟨_, _, rfl, hE, o5⟩
  · intro K4 hK4
    refine wreg ?_
    refine go1 ha rfl (d_move ha rfl) fun a ha => ?_
    refine go1 ha rfl (d_neI ha rfl rfl) fun a ha => ?_
    refine go1 ha rfl (d_move ha rfl) fun a ha => ?_
    rcases ite_elim hF with ⟨hc1, hF⟩ | ⟨hc1, hF⟩
    · refine goOff ha rfl rfl rfl rfl (not_t (decide_eq_true hc1)) fun a ha => ?_
      refine goOff ha rfl rfl rfl rfl (not_t (decide_eq_true hc1)) fun a ha => ?_
      refine go1 ha rfl (d_pickF ha rfl (not_t (decide_eq_true hc1)) rfl) fun a ha => ?_
      refine go1 ha rfl (d_assign ha rfl) fun a ha => ?_
      refine nil_ ?_
      exact hK4 _ _ ⟨false, ha.to rfl, hE, r1, hF⟩
    · refine goOn1 ha rfl rfl rfl rfl (not_f (decide_eq_false hc1)) (d_move ha rfl) fun a ha => ?_
      refine goOn1 ha rfl rfl rfl rfl (not_f (decide_eq_false hc1)) (d_neI ha rfl rfl) fun a ha => ?_
      refine go1 ha rfl (d_pick ha rfl (not_f (decide_eq_false hc1)) rfl) fun a ha => ?_
      refine go1 ha rfl (d_assign ha rfl) fun a ha => ?_
      refine nil_ ?_
      exact hK4 _ _ ⟨(!decide (a1 = (2 : Int))), ha.to rfl, hE, r1, hF⟩

def slices_Clone_byte_byte (a0 : List Int) : Option ((List Int)) :=
  (ck ((([] : List (Int)).length + a0.length) * 1 ≤ 140737488355328) (some (([] : List (Int)) ++ a0)))

set_option maxHeartbeats 4000000 in
set_option maxRecDepth 100000 in
theorem slices_Clone_byte_byte_c (a0 : List Int) (p1 : Option Addr) (c1 : Nat) (W : Nat → Prop) (w : World) (hW : ∀ k, W k → k < w.heap.size) (r1 : Raw (Av [] W) (Kd.int .u8) w.heap p1 c1 a0) (r : (List Int)) (hF : slices_Clone_byte_byte a0 = some r) :
    Calls Try.prog 32 [.slice p1 a0.length c1].toArray w (Ret fun v w' => ∃ (u1 : Option Addr) (d1 : Nat), v = .slice u1 r.length d1 ∧ Ex w (Av [] No) [u1] w' ∧ Ow (Av [u1] W) w' 5 (Kd.int .u8) u1 d1 r) := by
  unfold slices_Clone_byte_byte at hF
  refine enter [(0, .slice p1 a0.length c1)] Try.func32 rfl Try.ntmps32 rfl rfl fun a ha => ?_
  have hE : Ex w (Av [] No) [] w := Ex.refl w _
  have hW0 : ∀ p, some p ∈ ([] : List (Option Addr)) → ¬ W p.block := fun _ h => by cases h
  cases p1 with
  | none =>
    have hnil : a0 = [] := r1.nilOf
    have hF : (some ([] : List (Int))) = some r := by rw [hnil] at hF; simpa [ck] using hF
    refine wp_seq_k (fun K1 hK1 => ?_)
    refine wreg ?_
    refine go1 ha rfl (d_assign ha rfl) fun a ha => ?_
    refine nil_ ?_
    refine hK1 _ _ ?_
    have ha := ha.to (l' := [(0, _)]) rfl
    refine wp_seq_k (fun K2 hK2 => ?_)
    refine wp_seq_k (fun K3 hK3 => ?_)
    refine wreg ?_
    refine go1 ha rfl (d_move ha rfl) fun a ha => ?_
    refine go1 ha rfl (d_slnil_eq ha Try.underlying23 rfl rfl) fun a ha => ?_
    refine nil_ ?_
    refine hK3 _ _ ?_
    have ha := ha.to (l' := [(0, _), (4, _)]) rfl
    refine wcond_t ha rfl rfl ?_
    refine wp_seq_k (fun K4 hK4 => ?_)
    refine wreg ?_
    refine go1 ha rfl (d_assign ha rfl) fun a ha => ?_
    refine nil_ ?_
    refine hK4 _ _ ?_
    have ha := ha.to (l' := [(2, _)]) rfl
    refine wp_ret ?_
    have hs := Step.add (a := none) [] (Fr.refl w No) (fun _ h => by cases h)
    have r1 := hs.tr r1
    have hE : Ex w (Av [] No) [none] w := hE.add (a := none) (Fr.refl w No) (fun _ h => by cases h)
    have o1 := Ow.nil (Av [none] W) w 5 (Kd.int .u8)
    injection hF with hF
    subst hF
    refine fin1 ha Try.results32 rfl ?_
    exact ⟨_, _, rfl, hE, o1⟩
  | some q_ =>
    refine wp_seq_k (fun K1 hK1 => ?_)
    refine wreg ?_
    refine go1 ha rfl (d_assign ha rfl) fun a ha => ?_
    refine nil_ ?_
    refine hK1 _ _ ?_
    have ha := ha.to (l' := [(0, _)]) rfl
    refine wp_seq_k (fun K2 hK2 => ?_)
    refine wp_seq_k (fun K3 hK3 => ?_)
    refine wreg ?_
    refine go1 ha rfl (d_move ha rfl) fun a ha => ?_
    refine go1 ha rfl (d_slnil_eq ha Try.underlying23 rfl rfl) fun a ha => ?_
    refine nil_ ?_
    refine hK3 _ _ ?_
    have ha := ha.to (l' := [(0, _), (4, _)]) rfl
    refine wcond_f ha rfl rfl ?_
    refine wp_skip ?_
    refine hK2 _ _ ?_
    have ha := ha.to (l' := [(0, _)]) rfl
    refine wp_seq_k (fun K4 hK4 => ?_)
    refine wreg ?_
    refine goR ha rfl (d_buildSlice (B := W) (kd := (Kd.int .u8)) (xs := ([] : List (Int))) (vs := []) ha Try.underlying23 Try.sizeOf5 Try.zeroValue5 rfl Els.nil (by simp [Value.cells, Kd.int, Kd.scalar, Kd.bool, Kd.str, Kd.pair, Kd.sl]) rfl rfl (by decide) (by decide) hE) fun v w1 a h ha => ?_
    obtain ⟨p2, c2, rfl, hs, hE, hf, o1⟩ := h
    have r1 := hs.tr r1
    refine go1 ha rfl (d_move ha rfl) fun a ha => ?_
    obtain ⟨hc1, hF⟩ := ck_elim hF
    refine goR ha rfl (d_append (B := W) (kd := (Kd.int .u8)) (zv := .int .u8 (0 : Int)) (bytes := 1) (lf := []) (rt := []) (fun q => [q]) (fun _ => rfl) ha Try.underlying23 (by kernel_rfl) rfl (by decide) (by decide) rfl rfl hE o1 r1 (fun _ _ h => h) hc1) fun v w2 a h ha => ?_
    obtain ⟨p3, c3, rfl, hs, hE1, hf, o1⟩ := h
    have r1 := hs.tr r1
    have hE := hE1
    refine go1 ha rfl (d_assign ha rfl) fun a ha => ?_
    refine nil_ ?_
    refine hK4 _ _ ?_
    have ha := ha.to (l' := [(2, _)]) rfl
    refine wp_ret ?_
    injection hF with hF
    subst hF
    refine fin1 ha Try.results32 rfl ?_
    exact ⟨_, _, rfl, hE, o1⟩

def wire_New (a0 : List Int) : Option (((List Int) × Bool × Bool)) :=
  ((slices_Clone_byte_byte a0).bind fun t1 => (some (t1, true, false)))

set_option maxHeartbeats 4000000 in
set_option maxRecDepth 100000 in
theorem wire_New_c (a0 : List Int) (p1 : Option Addr) (c1 : Nat) (W : Nat → Prop) (w : World) (hW : ∀ k, W k → k < w.heap.size) (r1 : Raw (Av [] W) (Kd.int .u8) w.heap p1 c1 a0) (r : ((List Int) × Bool × Bool)) (hF : wire_New a0 = some r) :
    Calls Try.prog 17 [.slice p1 a0.length c1].toArray w (Ret fun v w' => ∃ (u1 : Nat) (u2 : Option Addr) (d2 : Nat), v = .pointer (some ⟨u1, 0, none⟩) ∧ Ex w (Av [] No) [some ⟨u1, 0, none⟩] w' ∧ Raw (Av [some ⟨u1, 0, none⟩] (Old w)) (Kd.int .u8) w'.heap u2 d2 r.1 ∧ Bx w' u1 59 [.slice u2 r.1.length d2, .bool r.2.1, .bool r.2.2]) := by
  unfold wire_New at hF
  refine enter [(0, .slice p1 a0.length c1)] Try.func17 rfl Try.ntmps17 rfl rfl fun a ha => ?_
  have hE : Ex w (Av [] No) [] w := Ex.refl w _
  have hW0 : ∀ p, some p ∈ ([] : List (Option Addr)) → ¬ W p.block := fun _ h => by cases h
  refine wp_seq_k (fun K1 hK1 => ?_)
  refine wreg ?_
  refine go1 ha rfl (d_assign ha rfl) fun a ha => ?_
  refine nil_ ?_
  refine hK1 _ _ ?_
  have ha := ha.to (l' := [(0, _)]) rfl
  refine wp_seq_k (fun K2 hK2 => ?_)
  refine wreg ?_
  refine go1 ha rfl (d_move ha rfl) fun a ha => ?_
  obtain ⟨t1, ht1, hF⟩ := bind_elim hF
  refine goR ha rfl (d_call Try.call32 ha (vs := [.slice p1 a0.length c1]) rfl (slices_Clone_byte_byte_c a0 _ _ (Av [] W) _ (Ex.wlt (as0 := []) (rr := []) (ro := []) hE hW) (Raw.arg (as0 := []) (rr := []) (ro := []) r1 (fun _ h => h)) _ ht1)) fun v w1 a h ha => ?_
  obtain ⟨p2, c2, rfl, hC, o1⟩ := h
  have hs : Step [] [p2] w w1 := hC.callStep []
  have r1 := hs.tr r1
  have o1 : Ow (Av [p2] W) w1 5 (Kd.int .u8) p2 c2 t1 := o1.alone (Kd.Flat.int _)
  have hE : Ex w (Av [] No) [p2] w1 := Ex.call (as0 := []) (rt := []) hE hC
  refine go1 ha rfl (d_build (vs := [(0, .slice p2 t1.length c2), (1, .bool true)]) (cs := [.slice p2 t1.length c2, .bool true, .bool false]) ha (fun w => run_build w 59 _ _ (by kernel_rfl)) rfl) fun a ha => ?_
  refine goR ha rfl (d_box (cs := [.slice p2 t1.length c2, .bool true, .bool false]) ha rfl rfl) fun v w2 a h ha => ?_
  obtain ⟨b1, rfl, hb, hl, x1, hf⟩ := h
  have hs := Step.addB [p2] hf hb
  have r1 := hs.tr r1
  have o1 := o1.keep hf (fun _ _ h => h) (fun _ _ h => hs.trK h)
  have hE := hE.addB hf hb hl
  refine go1 ha rfl (d_assign ha rfl) fun a ha => ?_
  refine nil_ ?_
  refine hK2 _ _ ?_
  have ha := ha.to (l' := [(2, _)]) rfl
  refine wp_ret ?_
  have r2 : Raw (Av [some ⟨b1, 0, none⟩] (Old w)) (Kd.int .u8) w2.heap p2 c2 t1 := o1.freeF (Kd.Flat.int _) hE 1 rfl
  have hs : Step [some ⟨b1, 0, none⟩, p2] [some ⟨b1, 0, none⟩] w2 w2 := Step.pick _ _ [0]
  have r1 := hs.tr r1
  have hE : Ex w (Av [] No) [some ⟨b1, 0, none⟩] w2 := hE.pick [0] (by decide)
  injection hF with hF
  subst hF
  refine fin1 ha Try.results17 rfl ?_
  exact ⟨_, _, _, rfl, hE, r2, x1⟩

def wire_Reader_Failed (a0_0 : List Int) (a0_1 : Bool) (a0_2 : Bool) : Option (Bool) :=
  (bif !a0_1 then (some true) else (some a0_2))

set_option maxHeartbeats 4000000 in
set_option maxRecDepth 100000 in
theorem wire_Reader_Failed_c (a0_0 : List Int) (a0_1 : Bool) (a0_2 : Bool) (b1 : Nat) (p1 : Option Addr) (c1 : Nat) (W : Nat → Prop) (w : World) (hW : ∀ k, W k → k < w.heap.size) (hb1 : W b1) (r1 : Raw (Av [] W) (Kd.int .u8) w.heap p1 c1 a0_0) (x1 : Bx w b1 59 [.slice p1 a0_0.length c1, .bool a0_1, .bool a0_2]) (r : Bool) (hF : wire_Reader_Failed a0_0 a0_1 a0_2 = some r) :
    Calls Try.prog 30 [.pointer (some ⟨b1, 0, none⟩)].toArray w (Ret fun v w' => v = .bool r ∧ Ex w (Av [] No) [] w') := by
  unfold wire_Reader_Failed at hF
  refine enter [(0, .pointer (some ⟨b1, 0, none⟩))] Try.func30 rfl Try.ntmps30 rfl rfl fun a ha => ?_
  have hE : Ex w (Av [] No) [] w := Ex.refl w _
  have hW0 : ∀ p, some p ∈ ([] : List (Option Addr)) → ¬ W p.block := fun _ h => by cases h
  refine wp_seq_k (fun K1 hK1 => ?_)
  refine wreg ?_
  refine go1 ha rfl (d_assign ha rfl) fun a ha => ?_
  refine nil_ ?_
  refine hK1 _ _ ?_
  have ha := ha.to (l' := [(0, _)]) rfl
  refine wp_seq_k (fun K2 hK2 => ?_)
  refine wreg ?_
  refine go1 ha rfl (d_move ha rfl) fun a ha => ?_
  refine go1 ha rfl (d_ptrnil_eq ha Try.underlying39 rfl rfl) fun a ha => ?_
  refine go1 ha rfl (d_move ha rfl) fun a ha => ?_
  refine goOn1 ha rfl rfl rfl rfl rfl (d_move ha rfl) fun a ha => ?_
  refine goOn1 ha rfl rfl rfl rfl rfl (d_nilCheck ha rfl) fun a ha => ?_
  refine goOn1 ha rfl rfl rfl rfl rfl (d_fieldAddr (o' := 1) ha rfl Try.underlying59 rfl Try.sizeOf4 rfl) fun a ha => ?_
  refine goOn1 ha rfl rfl rfl rfl rfl (d_load ha rfl (x1.at_.cell 1 rfl) Try.isAgg4) fun a ha => ?_
  refine goOn1 ha rfl rfl rfl rfl rfl (d_not ha rfl) fun a ha => ?_
  refine go1 ha rfl (d_pickF ha rfl rfl rfl) fun a ha => ?_
  refine go1 ha rfl (d_move ha rfl) fun a ha => ?_
  rcases cond_elim hF with ⟨hc1, hF⟩ | ⟨hc1, hF⟩
  · refine goOff ha rfl rfl rfl rfl hc1 fun a ha => ?_
    refine goOff ha rfl rfl rfl rfl hc1 fun a ha => ?_
    refine goOff ha rfl rfl rfl rfl hc1 fun a ha => ?_
    refine goOff ha rfl rfl rfl rfl hc1 fun a ha => ?_
    refine go1 ha rfl (d_pick ha rfl hc1 rfl) fun a ha => ?_
    refine go1 ha rfl (d_assign ha rfl) fun a ha => ?_
    refine nil_ ?_
    refine hK2 _ _ ?_
    have ha := ha.to (l' := [(2, _)]) rfl
    refine wp_ret ?_
    injection hF with hF
    subst hF
    refine fin1 ha Try.results30 rfl ?_
    exact ⟨rfl, hE⟩
  · refine goOn1 ha rfl rfl rfl rfl hc1 (d_move ha rfl) fun a ha => ?_
    refine goOn1 ha rfl rfl rfl rfl hc1 (d_nilCheck ha rfl) fun a ha => ?_
    refine goOn1 ha rfl rfl rfl rfl hc1 (d_fieldAddr (o' := 2) ha rfl Try.underlying59 rfl Try.sizeOf4 rfl) fun a ha => ?_
    refine goOn1 ha rfl rfl rfl rfl hc1 (d_load ha rfl (x1.at_.cell 2 rfl) Try.isAgg4) fun a ha => ?_
    refine go1 ha rfl (d_pickF ha rfl hc1 rfl) fun a ha => ?_
    refine go1 ha rfl (d_assign ha rfl) fun a ha => ?_
    refine nil_ ?_
    refine hK2 _ _ ?_
    have ha := ha.to (l' := [(2, _)]) rfl
    refine wp_ret ?_
    injection hF with hF
    subst hF
    refine fin1 ha Try.results30 rfl ?_
    exact ⟨rfl, hE⟩

def wire_Reader_take_j0 (a0_0 : List Int) (a0_1 : Bool) (a0_2 : Bool) (a1 : Int) (x2 : Bool) : Option ((List Int) × ((List Int) × Bool × Bool)) :=
  (bif x2 then (some ([], ([], a0_1, true))) else (ck (0 ≤ a1 ∧ a1 ≤ a1 ∧ a1 ≤ (a0_0.length : Int)) (ck (0 ≤ a1 ∧ a1 ≤ (a0_0.length : Int)) (some ((a0_0.take (a1).toNat), ((a0_0.drop (a1).toNat), a0_1, a0_2))))))

def wire_Reader_take (a0_0 : List Int) (a0_1 : Bool) (a0_2 : Bool) (a1 : Int) : Option ((List Int) × ((List Int) × Bool × Bool)) :=
  ((wire_Reader_Failed a0_0 a0_1 a0_2).bind fun t1 => (bif t1 then (some ([], (a0_0, a0_1, a0_2))) else (if a1 < (0 : Int) then (wire_Reader_take_j0 a0_0 a0_1 a0_2 a1 true) else (wire_Reader_take_j0 a0_0 a0_1 a0_2 a1 (decide ((a0_0.length : Int) < a1))))))

set_option maxHeartbeats 4000000 in
set_option maxRecDepth 100000 in
theorem wire_Reader_take_c (a0_0 : List Int) (a0_1 : Bool) (a0_2 : Bool) (a1 : Int) (b1 : Nat) (p1 : Option Addr) (c1 : Nat) (W : Nat → Prop) (w : World) (hE : Ex w (Av [some ⟨b1, 0, none⟩] No) [some ⟨b1, 0, none⟩] w) (hW : ∀ k, W k → k < w.heap.size) (hW0 : ∀ p, some p ∈ ([some ⟨b1, 0, none⟩] : List (Option Addr)) → ¬ W p.block) (r1 : Raw (Av [some ⟨b1, 0, none⟩] W) (Kd.int .u8) w.heap p1 c1 a0_0) (x1 : Bx w b1 59 [.slice p1 a0_0.length c1, .bool a0_1, .bool a0_2]) (r : (List Int) × ((List Int) × Bool × Bool)) (hF : wire_Reader_take a0_0 a0_1 a0_2 a1 = some r) :
    Calls Try.prog 33 [.pointer (some ⟨b1, 0, none⟩), .int .i64 a1].toArray w (Ret fun v w' => ∃ (u1 : Option Addr) (d1 : Nat) (u2 : Option Addr) (d2 : Nat), v = .slice u1 r.1.length d1 ∧ Ex w (Av [some ⟨b1, 0, none⟩] No) [some ⟨b1, 0, none⟩] w' ∧ Raw (Av [some ⟨b1, 0, none⟩] W) (Kd.int .u8) w'.heap u1 d1 r.1 ∧ Raw (Av [some ⟨b1, 0, none⟩] W) (Kd.int .u8) w'.heap u2 d2 r.2.1 ∧ Bx w' b1 59 [.slice u2 r.2.1.length d2, .bool r.2.2.1, .bool r.2.2.2]) := by
  unfold wire_Reader_take at hF
  refine enter [(0, .pointer (some ⟨b1, 0, none⟩)), (1, .int .i64 a1)] Try.func33 rfl Try.ntmps33 rfl rfl fun a ha => ?_
  refine wp_seq_k (fun K1 hK1 => ?_)
  refine wreg ?_
  refine go1 ha rfl (d_assign ha rfl) fun a ha => ?_
  refine nil_ ?_
  refine hK1 _ _ ?_
  have ha := ha.to (l' := [(0, _), (1, _)]) rfl
  refine wp_seq_k (fun K2 hK2 => ?_)
  refine wp_seq_k (fun K3 hK3 => ?_)
  refine wreg ?_
  refine go1 ha rfl (d_move ha rfl) fun a ha => ?_
  obtain ⟨t1, ht1, hF⟩ := bind_elim hF
  refine goR ha rfl (d_call Try.call30 ha (vs := [.pointer (some ⟨b1, 0, none⟩)]) rfl (wire_Reader_Failed_c a0_0 a0_1 a0_2 _ _ _ (Av [some ⟨b1, 0, none⟩] W) _ (Ex.wlt (as0 := []) (rr := []) (ro := [some ⟨b1, 0, none⟩]) hE hW) (.inr ⟨⟨b1, 0, none⟩, by simp, rfl⟩) (Raw.arg (as0 := []) (rr := []) (ro := [some ⟨b1, 0, none⟩]) r1 (fun _ h => h)) x1 _ ht1)) fun v w1 a h ha => ?_
  obtain ⟨rfl, hC⟩ := h
  have hs : Step [some ⟨b1, 0, none⟩] [some ⟨b1, 0, none⟩] w w1 := hC.callStep [some ⟨b1, 0, none⟩]
  have r1 := hs.tr r1
  have x1 := x1.keep hC.fr ((Ex.callOff (as0 := []) (rt := [some ⟨b1, 0, none⟩]) hE (u := some ⟨b1, 0, none⟩) (by simp)) _ rfl)
  have hE : Ex w (Av [some ⟨b1, 0, none⟩] No) [some ⟨b1, 0, none⟩] w1 := Ex.call (as0 := []) (rt := [some ⟨b1, 0, none⟩]) hE hC
  refine nil_ ?_
  refine hK3 _ _ ?_
  have ha := ha.to (l' := [(0, _), (1, _), (7, _)]) rfl
  rcases cond_elim hF with ⟨hc1, hF⟩ | ⟨hc1, hF⟩
  · refine wcond_t ha rfl hc1 ?_
    refine wp_seq_k (fun K4 hK4 => ?_)
    refine wreg ?_
    refine go1 ha rfl (d_assign ha rfl) fun a ha => ?_
    refine nil_ ?_
    refine hK4 _ _ ?_
    have ha := ha.to (l' := [(4, _)]) rfl
    refine wp_ret ?_
    injection hF with hF
    subst hF
    refine fin1 ha Try.results33 rfl ?_
    exact ⟨none, 0, _, _, rfl, hE, Raw.nil _ _ _ none 0 (Nat.zero_le _), r1, x1⟩
  · refine wcond_f ha rfl hc1 ?_
    refine wp_skip ?_
    refine hK2 _ _ ?_
    have ha := ha.to (l' := [(0, _), (1, _)]) rfl
    refine wp_seq_k (fun K5 hK5 => ?_)
    refine wseqJ (fun a w2 => ∃ (x2 : Bool), Has 42 [(0, .pointer (some ⟨b1, 0, none⟩)), (1, .int .i64 a1), (18, .bool x2)] a ∧ Ex w (Av [some ⟨b1, 0, none⟩] No) [some ⟨b1, 0, none⟩] w2 ∧ Raw (Av [some ⟨b1, 0, none⟩] W) (Kd.int .u8) w2.heap p1 c1 a0_0 ∧ Bx w2 b1 59 [.slice p1 a0_0.length c1, .bool a0_1, .bool a0_2] ∧ wire_Reader_take_j0 a0_0 a0_1 a0_2 a1 x2 = some r) ?_ ?_
    · rintro a w2 ⟨x2, ha, hE, r1, x1, hF⟩
      unfold wire_Reader_take_j0 at hF
      rcases cond_elim hF with ⟨hc3, hF⟩ | ⟨hc3, hF⟩
      · refine wcond_t ha rfl hc3 ?_
        refine wp_seq_k (fun K8 hK8 => ?_)
        refine wreg ?_
        refine go1 ha rfl (d_move ha rfl) fun a ha => ?_
        refine go1 ha rfl (d_move ha rfl) fun a ha => ?_
        refine go1 ha rfl (d_nilCheck ha rfl) fun a ha => ?_
        refine go1 ha rfl (d_fieldAddr (o' := 2) ha rfl Try.underlying59 rfl Try.sizeOf4 rfl) fun a ha => ?_
        refine goR0 ha (d_store (cs := [.slice p1 a0_0.length c1, .bool a0_1, .bool a0_2]) (vs := [.bool true]) ha rfl rfl x1 rfl (by simp [Value.oneCell']) Try.sizeOf4 rfl (Nat.le_of_ble_eq_true rfl)) fun v w3 a h ha => ?_
        obtain ⟨x1, hf⟩ := h
        have hf := hf.blk1
        have hs := hE.stepAt 0 rfl hf
        have r1 := hs.tr r1
        have hE := hE.wroteAt 0 rfl hf
        have x1 : Bx w3 b1 59 [.slice p1 a0_0.length c1, .bool a0_1, .bool true] := x1
        refine go1 ha rfl (d_nilCheck ha rfl) fun a ha => ?_
        refine go1 ha rfl (d_fieldAddr (o' := 0) ha rfl Try.underlying59 rfl Try.sizeOf23 rfl) fun a ha => ?_
        refine goR0 ha (d_store (cs := [.slice p1 a0_0.length c1, .bool a0_1, .bool true]) (vs := [.slice none 0 0]) ha rfl rfl x1 rfl (by simp [Value.oneCell']) Try.sizeOf23 rfl (Nat.le_of_ble_eq_true rfl)) fun v w4 a h ha => ?_
        obtain ⟨x1, hf⟩ := h
        have hf := hf.blk1
        have hs := hE.stepAt 0 rfl hf
        have r1 := hs.tr r1
        have hE := hE.wroteAt 0 rfl hf
        have x1 : Bx w4 b1 59 [.slice none 0 0, .bool a0_1, .bool true] := x1
        refine nil_ ?_
        refine hK8 _ _ ?_
        have ha := ha.to (l' := []) rfl
        refine wp_seq_k (fun K9 hK9 => ?_)
        refine wreg ?_
        refine go1 ha rfl (d_assign ha rfl) fun a ha => ?_
        refine nil_ ?_
        refine hK9 _ _ ?_
        have ha := ha.to (l' := [(4, _)]) rfl
        refine wp_ret ?_
        injection hF with hF
        subst hF
        refine fin1 ha Try.results33 rfl ?_
        exact ⟨none, 0, none, 0, rfl, hE, Raw.nil _ _ _ none 0 (Nat.zero_le _), Raw.nil _ _ _ none 0 (Nat.zero_le _), x1⟩
      · refine wcond_f ha rfl hc3 ?_
        refine wp_skip ?_
        refine hK5 _ _ ?_
        have ha := ha.to (l' := [(0, _), (1, _)]) rfl
        refine wp_seq_k (fun K10 hK10 => ?_)
        refine wreg ?_
        refine go1 ha rfl (d_move ha rfl) fun a ha => ?_
        refine go1 ha rfl (d_nilCheck ha rfl) fun a ha => ?_
        refine go1 ha rfl (d_fieldAddr (o' := 0) ha rfl Try.underlying59 rfl Try.sizeOf23 rfl) fun a ha => ?_
        refine go1 ha rfl (d_load ha rfl (x1.at_.cell 0 rfl) Try.isAgg23) fun a ha => ?_
        refine go1 ha rfl (d_move ha rfl) fun a ha => ?_
        refine go1 ha rfl (d_move ha rfl) fun a ha => ?_
        obtain ⟨hc4, hF⟩ := ck_elim hF
        refine goS ha rfl (d_slice_hm (kd := (Kd.int .u8)) ha Try.underlying23 Try.sizeOf5 rfl rfl rfl r1 hc4) fun v a h ha => ?_
        obtain ⟨p2, c2, rfl, r2, _⟩ := h
        refine go1 ha rfl (d_assign ha rfl) fun a ha => ?_
        refine nil_ ?_
        refine hK10 _ _ ?_
        have ha := ha.to (l' := [(0, _), (1, _), (5, _)]) rfl
        refine wp_seq_k (fun K11 hK11 => ?_)
        refine wreg ?_
        refine go1 ha rfl (d_move ha rfl) fun a ha => ?_
        refine go1 ha rfl (d_move ha rfl) fun a ha => ?_
        refine go1 ha rfl (d_nilCheck ha rfl) fun a ha => ?_
        refine go1 ha rfl (d_fieldAddr (o' := 0) ha rfl Try.underlying59 rfl Try.sizeOf23 rfl) fun a ha => ?_
        refine go1 ha rfl (d_load ha rfl (x1.at_.cell 0 rfl) Try.isAgg23) fun a ha => ?_
        refine go1 ha rfl (d_move ha rfl) fun a ha => ?_
        obtain ⟨hc5, hF⟩ := ck_elim hF
        refine goS ha rfl (d_slice_l (kd := (Kd.int .u8)) ha Try.underlying23 Try.sizeOf5 rfl rfl r1 hc5) fun v a h ha => ?_
        obtain ⟨p3, c3, rfl, r3, _⟩ := h
        refine go1 ha rfl (d_nilCheck ha rfl) fun a ha => ?_
        refine go1 ha rfl (d_fieldAddr (o' := 0) ha rfl Try.underlying59 rfl Try.sizeOf23 rfl) fun a ha => ?_
        refine goR0 ha (d_store (cs := [.slice p1 a0_0.length c1, .bool a0_1, .bool a0_2]) (vs := [.slice p3 (a0_0.drop (a1).toNat).length c3]) ha rfl rfl x1 rfl (by simp [Value.oneCell']) Try.sizeOf23 rfl (Nat.le_of_ble_eq_true rfl)) fun v w5 a h ha => ?_
        obtain ⟨x1, hf⟩ := h
        have hf := hf.blk1
        have hs := hE.stepAt 0 rfl hf
        have r1 := hs.tr r1
        have r2 := hs.tr r2
        have r3 := hs.tr r3
        have hE := hE.wroteAt 0 rfl hf
        have x1 : Bx w5 b1 59 [.slice p3 (a0_0.drop (a1).toNat).length c3, .bool a0_1, .bool a0_2] := x1
        refine nil_ ?_
        refine hK11 _ _ ?_
        have ha := ha.to (l' := [(5, _)]) rfl
        refine wp_seq_k (fun K12 hK12 => ?_)
        refine wreg ?_
        refine go1 ha rfl (d_move ha rfl) fun a ha => ?_
        refine go1 ha rfl (d_assign ha rfl) fun a ha => ?_
        refine nil_ ?_
        refine hK12 _ _ ?_
        have ha := ha.to (l' := [(4, _)]) rfl
        refine wp_ret ?_
        injection hF with hF
        subst hF
        refine fin1 ha Try.results33 rfl ?_
        exact ⟨_, _, _, _, rfl, hE, r2, r3, x1⟩
    · intro K7 hK7
      refine wreg ?_
      refine go1 ha rfl (d_move ha rfl) fun a ha => ?_
      refine go1 ha rfl (d_lt ha rfl rfl) fun a ha => ?_
      refine go1 ha rfl (d_move ha rfl) fun a ha => ?_
      rcases ite_elim hF with ⟨hc2, hF⟩ | ⟨hc2, hF⟩
      · refine goOff ha rfl rfl rfl rfl (decide_eq_true hc2) fun a ha => ?_
        refine goOff ha rfl rfl rfl rfl (decide_eq_true hc2) fun a ha => ?_
        refine goOff ha rfl rfl rfl rfl (decide_eq_true hc2) fun a ha => ?_
        refine goOff ha rfl rfl rfl rfl (decide_eq_true hc2) fun a ha => ?_
        refine goOff ha rfl rfl rfl rfl (decide_eq_true hc2) fun a ha => ?_
        refine goOff ha rfl rfl rfl rfl (decide_eq_true hc2) fun a ha => ?_
        refine goOff ha rfl rfl rfl rfl (decide_eq_true hc2) fun a ha => ?_
        refine go1 ha rfl (d_pick ha rfl (decide_eq_true hc2) rfl) fun a ha => ?_
        refine nil_ ?_
        exact hK7 _ _ ⟨true, ha.to rfl, hE, r1, x1, hF⟩
      · refine goOn1 ha rfl rfl rfl rfl (decide_eq_false hc2) (d_move ha rfl) fun a ha => ?_
        refine goOn1 ha rfl rfl rfl rfl (decide_eq_false hc2) (d_move ha rfl) fun a ha => ?_
        refine goOn1 ha rfl rfl rfl rfl (decide_eq_false hc2) (d_nilCheck ha rfl) fun a ha => ?_
        refine goOn1 ha rfl rfl rfl rfl (decide_eq_false hc2) (d_fieldAddr (o' := 0) ha rfl Try.underlying59 rfl Try.sizeOf23 rfl) fun a ha => ?_
        refine goOn1 ha rfl rfl rfl rfl (decide_eq_false hc2) (d_load ha rfl (x1.at_.cell 0 rfl) Try.isAgg23) fun a ha => ?_
        refine goOn1 ha rfl rfl rfl rfl (decide_eq_false hc2) (d_lenSlice ha Try.underlying23 rfl) fun a ha => ?_
        refine goOn1 ha rfl rfl rfl rfl (decide_eq_false hc2) (d_gt ha rfl rfl) fun a ha => ?_
        refine go1 ha rfl (d_pickF ha rfl (decide_eq_false hc2) rfl) fun a ha => ?_
        refine nil_ ?_
        exact hK7 _ _ ⟨(decide ((a0_0.length : Int) < a1)), ha.to rfl, hE, r1, x1, hF⟩

def wire_Reader_Number_l0 (k : Nat) : Nat → (List Int) → Bool → Bool → Int → (List Int) → Int → Option (Int × ((List Int) × Bool × Bool))
  | 0, _, _, _, _, _, _ => none
  | k1 + 1, x3, x4, x5, x6, x7, x8 =>
    (if x8 < (0 : Int) then (some (x6, (x3, x4, x5))) else (ck (0 ≤ x8 ∧ x8 < (x7.length : Int)) (wire_Reader_Number_l0 k k1 x3 x4 x5 (bits .or .u64 (shl .u64 x6 (8 : Int)) (IntKind.u64.wrap (x7.getD (x8).toNat (0 : Int)))) x7 (IntKind.i64.wrap (x8 - (1 : Int))))))

def wire_Reader_Number_j1 (k : Nat) (a0_0 : List Int) (a0_1 : Bool) (a0_2 : Bool) (x2 : Int) : Option (Int × ((List Int) × Bool × Bool)) :=
  ((wire_Reader_take a0_0 a0_1 a0_2 x2).bind fun t1 => (wire_Reader_Number_l0 k k t1.2.1 t1.2.2.1 t1.2.2.2 (0 : Int) t1.1 (IntKind.i64.wrap ((t1.1.length : Int) - (1 : Int)))))

def wire_Reader_Number (k : Nat) (a0_0 : List Int) (a0_1 : Bool) (a0_2 : Bool) (a1 : Int) : Option (Int × ((List Int) × Bool × Bool)) :=
  (if a1 < (1 : Int) then (wire_Reader_Number_j1 k a0_0 a0_1 a0_2 (-1 : Int)) else (if (8 : Int) < a1 then (wire_Reader_Number_j1 k a0_0 a0_1 a0_2 (-1 : Int)) else (wire_Reader_Number_j1 k a0_0 a0_1 a0_2 a1)))

set_option maxHeartbeats 4000000 in
set_option maxRecDepth 100000 in
theorem wire_Reader_Number_c (k : Nat) (a0_0 : List Int) (a0_1 : Bool) (a0_2 : Bool) (a1 : Int) (b1 : Nat) (p1 : Option Addr) (c1 : Nat) (W : Nat → Prop) (w : World) (hE : Ex w (Av [some ⟨b1, 0, none⟩] No) [some ⟨b1, 0, none⟩] w) (hW : ∀ k, W k → k < w.heap.size) (hW0 : ∀ p, some p ∈ ([some ⟨b1, 0, none⟩] : List (Option Addr)) → ¬ W p.block) (r1 : Raw (Av [some ⟨b1, 0, none⟩] W) (Kd.int .u8) w.heap p1 c1 a0_0) (x1 : Bx w b1 59 [.slice p1 a0_0.length c1, .bool a0_1, .bool a0_2]) (r : Int × ((List Int) × Bool × Bool)) (hF : wire_Reader_Number k a0_0 a0_1 a0_2 a1 = some r) :
    Calls Try.prog 18 [.pointer (some ⟨b1, 0, none⟩), .int .i64 a1].toArray w (Ret fun v w' => ∃ (u1 : Option Addr) (d1 : Nat), v = .int .u64 r.1 ∧ Ex w (Av [some ⟨b1, 0, none⟩] No) [some ⟨b1, 0, none⟩] w' ∧ Raw (Av [some ⟨b1, 0, none⟩] W) (Kd.int .u8) w'.heap u1 d1 r.2.1 ∧ Bx w' b1 59 [.slice u1 r.2.1.length d1, .bool r.2.2.1, .bool r.2.2.2]) := by
  unfold wire_Reader_Number at hF
  refine enter [(0, .pointer (some ⟨b1, 0, none⟩)), (1, .int .i64 a1)] Try.func18 rfl Try.ntmps18 rfl rfl fun a ha => ?_
  refine wp_seq_k (fun K1 hK1 => ?_)
  refine wreg ?_
  refine go1 ha rfl (d_assign ha rfl) fun a ha => ?_
  refine nil_ ?_
  refine hK1 _ _ ?_
  have ha := ha.to (l' := [(0, _), (1, _), (4, _)]) rfl
  refine wscopeJ 0 (fun k' a w3 => ∃ (x3 : List Int) (p4 : Option Addr) (c4 : Nat) (x4 : Bool) (x5 : Bool) (x6 : Int) (x7 : List Int) (p5 : Option Addr) (c5 : Nat) (x8 : Int), Has 32 [(4, .int .u64 x6), (5, .slice p5 x7.length c5), (6, .int .i64 x8)] a ∧ Ex w (Av [some ⟨b1, 0, none⟩] No) [some ⟨b1, 0, none⟩] w3 ∧ Raw (Av [some ⟨b1, 0, none⟩] W) (Kd.int .u8) w3.heap p4 c4 x3 ∧ Raw (Av [some ⟨b1, 0, none⟩] W) (Kd.int .u8) w3.heap p5 c5 x7 ∧ Bx w3 b1 59 [.slice p4 x3.length c4, .bool x4, .bool x5] ∧ wire_Reader_Number_l0 k k' x3 x4 x5 x6 x7 x8 = some r) k rfl ?_ ?_
  · rintro k1 a w3 ⟨x3, p4, c4, x4, x5, x6, x7, p5, c5, x8, ha, hE, r4, r5, x1, hF⟩ K8 hK8
    cases k1 with
    | zero => cases hF
    | succ k1 =>
      rw [wire_Reader_Number_l0] at hF
      refine wp_seq_k (fun K9 hK9 => ?_)
      refine wp_seq_k (fun K10 hK10 => ?_)
      refine wreg ?_
      refine go1 ha rfl (d_move ha rfl) fun a ha => ?_
      refine go1 ha rfl (d_lt ha rfl rfl) fun a ha => ?_
      refine nil_ ?_
      refine hK10 _ _ ?_
      have ha := ha.to (l' := [(4, _), (5, _), (6, _), (20, _)]) rfl
      rcases ite_elim hF with ⟨hc3, hF⟩ | ⟨hc3, hF⟩
      · refine wcond_t ha rfl (decide_eq_true hc3) ?_
        refine wp_seq_k (fun K11 hK11 => ?_)
        refine wreg ?_
        refine go1 ha rfl (d_move ha rfl) fun a ha => ?_
        refine go1 ha rfl (d_assign ha rfl) fun a ha => ?_
        refine nil_ ?_
        refine hK11 _ _ ?_
        have ha := ha.to (l' := [(4, _)]) rfl
        refine wp_ret ?_
        injection hF with hF
        subst hF
        refine fin1 ha Try.results18 rfl ?_
        exact ⟨_, _, rfl, hE, r4, x1⟩
      · refine wcond_f ha rfl (decide_eq_false hc3) ?_
        refine wp_skip ?_
        refine hK9 _ _ ?_
        have ha := ha.to (l' := [(4, _), (5, _), (6, _)]) rfl
        refine wp_seq_k (fun K12 hK12 => ?_)
        refine wreg ?_
        refine go1 ha rfl (d_move ha rfl) fun a ha => ?_
        refine go1 ha rfl (d_shl ha rfl rfl (by decide)) fun a ha => ?_
        refine go1 ha rfl (d_move ha rfl) fun a ha => ?_
        refine go1 ha rfl (d_move ha rfl) fun a ha => ?_
        obtain ⟨hc4, hF⟩ := ck_elim hF
        refine goS ha rfl (d_index (kd := (Kd.int .u8)) ha rfl rfl Try.underlying23 Try.sizeOf5 r5 hc4 (0 : Int)) fun v a h ha => ?_
        obtain ⟨b2, q1, cs1, rfl, _, hk1, at1⟩ := h
        obtain rfl := hk1
        refine go1 ha rfl (d_load ha rfl (at1.cell 0 rfl) Try.isAgg5) fun a ha => ?_
        refine go1 ha rfl (d_cvt ha Try.underlying5 Try.underlying22 rfl) fun a ha => ?_
        refine go1 ha rfl (d_or ha rfl rfl) fun a ha => ?_
        refine go1 ha rfl (d_assign ha rfl) fun a ha => ?_
        refine nil_ ?_
        refine hK12 _ _ ?_
        have ha := ha.to (l' := [(4, _), (5, _), (6, _)]) rfl
        refine wp_seq_k (fun K13 hK13 => ?_)
        refine wreg ?_
        refine go1 ha rfl (d_move ha rfl) fun a ha => ?_
        refine go1 ha rfl (d_sub ha rfl rfl) fun a ha => ?_
        refine go1 ha rfl (d_assign ha rfl) fun a ha => ?_
        refine nil_ ?_
        refine hK13 _ _ ?_
        have ha := ha.to (l' := [(4, _), (5, _), (6, _)]) rfl
        exact wp_goto ⟨rfl, hK8 k1 _ _ (Nat.lt_succ_self _) ⟨x3, _, _, x4, x5, (bits .or .u64 (shl .u64 x6 (8 : Int)) (IntKind.u64.wrap (x7.getD (x8).toNat (0 : Int)))), x7, _, _, (IntKind.i64.wrap (x8 - (1 : Int))), ha.to rfl, hE, r4, r5, x1, hF⟩⟩
  · intro Q' hL
    refine wseqJ (fun a w1 => ∃ (x2 : Int), Has 32 [(0, .pointer (some ⟨b1, 0, none⟩)), (1, .int .i64 x2), (4, .int .u64 (0 : Int))] a ∧ Ex w (Av [some ⟨b1, 0, none⟩] No) [some ⟨b1, 0, none⟩] w1 ∧ Raw (Av [some ⟨b1, 0, none⟩] W) (Kd.int .u8) w1.heap p1 c1 a0_0 ∧ Bx w1 b1 59 [.slice p1 a0_0.length c1, .bool a0_1, .bool a0_2] ∧ wire_Reader_Number_j1 k a0_0 a0_1 a0_2 x2 = some r) ?_ ?_
    · rintro a w1 ⟨x2, ha, hE, r1, x1, hF⟩
      unfold wire_Reader_Number_j1 at hF
      refine wp_seq_k (fun K6 hK6 => ?_)
      refine wreg ?_
      refine go1 ha rfl (d_move ha rfl) fun a ha => ?_
      refine go1 ha rfl (d_move ha rfl) fun a ha => ?_
      obtain ⟨t1, ht1, hF⟩ := bind_elim hF
      refine goR ha rfl (d_call Try.call33 ha (vs := [.pointer (some ⟨b1, 0, none⟩), .int .i64 x2]) rfl (wire_Reader_take_c a0_0 a0_1 a0_2 x2 _ _ _ (Av [] W) _ (Ex.sub (as0 := [some ⟨b1, 0, none⟩]) (rt := []) hE) (Ex.wlt (as0 := [some ⟨b1, 0, none⟩]) (rr := []) (ro := []) hE hW) (Ex.wsep (as0 := [some ⟨b1, 0, none⟩]) (rr := []) (ro := []) hE hW hW0) (Raw.arg (as0 := [some ⟨b1, 0, none⟩]) (rr := []) (ro := []) r1 (fun _ h => h)) x1 _ ht1)) fun v w2 a h ha => ?_
      obtain ⟨p2, c2, p3, c3, rfl, hC, r2, r3, x1⟩ := h
      have hs : Step [some ⟨b1, 0, none⟩] [some ⟨b1, 0, none⟩] w1 w2 := hC.callStep []
      have r1 := hs.tr r1
      have r2 : Raw (Av [some ⟨b1, 0, none⟩] W) (Kd.int .u8) w2.heap p2 c2 t1.1 := Raw.retW (rt := []) r2
      have r3 : Raw (Av [some ⟨b1, 0, none⟩] W) (Kd.int .u8) w2.heap p3 c3 t1.2.1 := Raw.retW (rt := []) r3
      have hE : Ex w (Av [some ⟨b1, 0, none⟩] No) [some ⟨b1, 0, none⟩] w2 := Ex.call (as0 := [some ⟨b1, 0, none⟩]) (rt := []) hE hC
      refine go1 ha rfl (d_assign ha rfl) fun a ha => ?_
      refine nil_ ?_
      refine hK6 _ _ ?_
      have ha := ha.to (l' := [(4, _), (5, _)]) rfl
      refine wp_seq_k (fun K7 hK7 => ?_)
      refine wreg ?_
      refine go1 ha rfl (d_move ha rfl) fun a ha => ?_
      refine go1 ha rfl (d_lenSlice ha Try.underlying23 rfl) fun a ha => ?_
      refine go1 ha rfl (d_sub ha rfl rfl) fun a ha => ?_
      refine go1 ha rfl (d_assign ha rfl) fun a ha => ?_
      refine nil_ ?_
      refine hK7 _ _ ?_
      have ha := ha.to (l' := [(4, _), (5, _), (6, _)]) rfl
      refine wp_seq_k (fun K2 hK2 => wp_label (hK2 _ _ ?_))
      exact hL _ _ ⟨t1.2.1, _, _, t1.2.2.1, t1.2.2.2, (0 : Int), t1.1, _, _, (IntKind.i64.wrap ((t1.1.length : Int) - (1 : Int))), ha.to rfl, hE, r3, r2, x1, hF⟩
    · intro K4 hK4
      refine wp_seq_k (fun K5 hK5 => ?_)
      refine wreg ?_
      refine go1 ha rfl (d_move ha rfl) fun a ha => ?_
      refine go1 ha rfl (d_lt ha rfl rfl) fun a ha => ?_
      refine go1 ha rfl (d_move ha rfl) fun a ha => ?_
      rcases ite_elim hF with ⟨hc1, hF⟩ | ⟨hc1, hF⟩
      · refine goOff ha rfl rfl rfl rfl (decide_eq_true hc1) fun a ha => ?_
        refine goOff ha rfl rfl rfl rfl (decide_eq_true hc1) fun a ha => ?_
        refine go1 ha rfl (d_pick ha rfl (decide_eq_true hc1) rfl) fun a ha => ?_
        refine nil_ ?_
        refine hK5 _ _ ?_
        have ha := ha.to (l' := [(0, _), (1, _), (4, _), (12, _)]) rfl
        refine wcond_t ha rfl rfl ?_
        refine wreg ?_
        refine go1 ha rfl (d_assign ha rfl) fun a ha => ?_
        refine nil_ ?_
        exact hK4 _ _ ⟨(-1 : Int), ha.to rfl, hE, r1, x1, hF⟩
      · refine goOn1 ha rfl rfl rfl rfl (decide_eq_false hc1) (d_move ha rfl) fun a ha => ?_
        refine goOn1 ha rfl rfl rfl rfl (decide_eq_false hc1) (d_gt ha rfl rfl) fun a ha => ?_
        refine go1 ha rfl (d_pickF ha rfl (decide_eq_false hc1) rfl) fun a ha => ?_
        refine nil_ ?_
        refine hK5 _ _ ?_
        have ha := ha.to (l' := [(0, _), (1, _), (4, _), (12, _)]) rfl
        rcases ite_elim hF with ⟨hc2, hF⟩ | ⟨hc2, hF⟩
        · refine wcond_t ha rfl (decide_eq_true hc2) ?_
          refine wreg ?_
          refine go1 ha rfl (d_assign ha rfl) fun a ha => ?_
          refine nil_ ?_
          exact hK4 _ _ ⟨(-1 : Int), ha.to rfl, hE, r1, x1, hF⟩
        · refine wcond_f ha rfl (decide_eq_false hc2) ?_
          refine wp_skip ?_
          exact hK4 _ _ ⟨a1, ha.to rfl, hE, r1, x1, hF⟩

def wire_Reader_Blob_j0 (k : Nat) (a0_0 : List Int) (a0_1 : Bool) (a0_2 : Bool) (x2 : Int) : Option ((List Int) × ((List Int) × Bool × Bool)) :=
  ((wire_Reader_Number k a0_0 a0_1 a0_2 x2).bind fun t1 => ((wire_Reader_take t1.2.1 t1.2.2.1 t1.2.2.2 (IntKind.i64.wrap t1.1)).bind fun t2 => ((slices_Clone_byte_byte t2.1).bind fun t3 => (some (t3, (t2.2.1, t2.2.2.1, t2.2.2.2))))))

def wire_Reader_Blob (k : Nat) (a0_0 : List Int) (a0_1 : Bool) (a0_2 : Bool) (a1 : Int) : Option ((List Int) × ((List Int) × Bool × Bool)) :=
  (if a1 = (1 : Int) then (wire_Reader_Blob_j0 k a0_0 a0_1 a0_2 a1) else (if a1 = (2 : Int) then (wire_Reader_Blob_j0 k a0_0 a0_1 a0_2 a1) else (wire_Reader_Blob_j0 k a0_0 a0_1 a0_2 (-1 : Int))))

set_option maxHeartbeats 4000000 in
set_option maxRecDepth 100000 in
theorem wire_Reader_Blob_c (k : Nat) (a0_0 : List Int) (a0_1 : Bool) (a0_2 : Bool) (a1 : Int) (b1 : Nat) (p1 : Option Addr) (c1 : Nat) (W : Nat → Prop) (w : World) (hE : Ex w (Av [some ⟨b1, 0, none⟩] No) [some ⟨b1, 0, none⟩] w) (hW : ∀ k, W k → k < w.heap.size) (hW0 : ∀ p, some p ∈ ([some ⟨b1, 0, none⟩] : List (Option Addr)) → ¬ W p.block) (r1 : Raw (Av [some ⟨b1, 0, none⟩] W) (Kd.int .u8) w.heap p1 c1 a0_0) (x1 : Bx w b1 59 [.slice p1 a0_0.length c1, .bool a0_1, .bool a0_2]) (r : (List Int) × ((List Int) × Bool × Bool)) (hF : wire_Reader_Blob k a0_0 a0_1 a0_2 a1 = some r) :
    Calls Try.prog 22 [.pointer (some ⟨b1, 0, none⟩), .int .i64 a1].toArray w (Ret fun v w' => ∃ (u1 : Option Addr) (d1 : Nat) (u2 : Option Addr) (d2 : Nat), v = .slice u1 r.1.length d1 ∧ Ex w (Av [some ⟨b1, 0, none⟩] No) [some ⟨b1, 0, none⟩, u1] w' ∧ Ow (Av [some ⟨b1, 0, none⟩, u1] W) w' 5 (Kd.int .u8) u1 d1 r.1 ∧ Raw (Av [some ⟨b1, 0, none⟩, u1] W) (Kd.int .u8) w'.heap u2 d2 r.2.1 ∧ Bx w' b1 59 [.slice u2 r.2.1.length d2, .bool r.2.2.1, .bool r.2.2.2]) := by
  unfold wire_Reader_Blob at hF
  refine enter [(0, .pointer (some ⟨b1, 0, none⟩)), (1, .int .i64 a1)] Try.func22 rfl Try.ntmps22 rfl rfl fun a ha => ?_
  refine wp_seq_k (fun K1 hK1 => ?_)
  refine wreg ?_
  refine go1 ha rfl (d_assign ha rfl) fun a ha => ?_
  refine nil_ ?_
  refine hK1 _ _ ?_
  have ha := ha.to (l' := [(0, _), (1, _)]) rfl
  refine wseqJ (fun a w1 => ∃ (x2 : Int), Has 20 [(0, .pointer (some ⟨b1, 0, none⟩)), (1, .int .i64 x2)] a ∧ Ex w (Av [some ⟨b1, 0, none⟩] No) [some ⟨b1, 0, none⟩] w1 ∧ Raw (Av [some ⟨b1, 0, none⟩] W) (Kd.int .u8) w1.heap p1 c1 a0_0 ∧ Bx w1 b1 59 [.slice p1 a0_0.length c1, .bool a0_1, .bool a0_2] ∧ wire_Reader_Blob_j0 k a0_0 a0_1 a0_2 x2 = some r) ?_ ?_
  · rintro a w1 ⟨x2, ha, hE, r1, x1, hF⟩
    unfold wire_Reader_Blob_j0 at hF
    refine wp_seq_k (fun K5 hK5 => ?_)
    refine wreg ?_
    refine go1 ha rfl (d_move ha rfl) fun a ha => ?_
    refine go1 ha rfl (d_move ha rfl) fun a ha => ?_
    obtain ⟨t1, ht1, hF⟩ := bind_elim hF
    refine goR ha rfl (d_call Try.call18 ha (vs := [.pointer (some ⟨b1, 0, none⟩), .int .i64 x2]) rfl (wire_Reader_Number_c k a0_0 a0_1 a0_2 x2 _ _ _ (Av [] W) _ (Ex.sub (as0 := [some ⟨b1, 0, none⟩]) (rt := []) hE) (Ex.wlt (as0 := [some ⟨b1, 0, none⟩]) (rr := []) (ro := []) hE hW) (Ex.wsep (as0 := [some ⟨b1, 0, none⟩]) (rr := []) (ro := []) hE hW hW0) (Raw.arg (as0 := [some ⟨b1, 0, none⟩]) (rr := []) (ro := []) r1 (fun _ h => h)) x1 _ ht1)) fun v w2 a h ha => ?_
    obtain ⟨p2, c2, rfl, hC, r2, x1⟩ := h
    have hs : Step [some ⟨b1, 0, none⟩] [some ⟨b1, 0, none⟩] w1 w2 := hC.callStep []
    have r1 := hs.tr r1
    have r2 : Raw (Av [some ⟨b1, 0, none⟩] W) (Kd.int .u8) w2.heap p2 c2 t1.2.1 := Raw.retW (rt := []) r2
    have hE : Ex w (Av [some ⟨b1, 0, none⟩] No) [some ⟨b1, 0, none⟩] w2 := Ex.call (as0 := [some ⟨b1, 0, none⟩]) (rt := []) hE hC
    refine go1 ha rfl (d_assign ha rfl) fun a ha => ?_
    refine nil_ ?_
    refine hK5 _ _ ?_
    have ha := ha.to (l' := [(0, _), (5, _)]) rfl
    refine wp_seq_k (fun K6 hK6 => ?_)
    refine wreg ?_
    refine go1 ha rfl (d_move ha rfl) fun a ha => ?_
    refine go1 ha rfl (d_move ha rfl) fun a ha => ?_
    refine go1 ha rfl (d_cvt ha Try.underlying22 Try.underlying3 rfl) fun a ha => ?_
    obtain ⟨t2, ht2, hF⟩ := bind_elim hF
    refine goR ha rfl (d_call Try.call33 ha (vs := [.pointer (some ⟨b1, 0, none⟩), .int .i64 (IntKind.i64.wrap t1.1)]) rfl (wire_Reader_take_c t1.2.1 t1.2.2.1 t1.2.2.2 (IntKind.i64.wrap t1.1) _ _ _ (Av [] W) _ (Ex.sub (as0 := [some ⟨b1, 0, none⟩]) (rt := []) hE) (Ex.wlt (as0 := [some ⟨b1, 0, none⟩]) (rr := []) (ro := []) hE hW) (Ex.wsep (as0 := [some ⟨b1, 0, none⟩]) (rr := []) (ro := []) hE hW hW0) (Raw.arg (as0 := [some ⟨b1, 0, none⟩]) (rr := []) (ro := []) r2 (fun _ h => h)) x1 _ ht2)) fun v w3 a h ha => ?_
    obtain ⟨p3, c3, p4, c4, rfl, hC, r3, r4, x1⟩ := h
    have hs : Step [some ⟨b1, 0, none⟩] [some ⟨b1, 0, none⟩] w2 w3 := hC.callStep []
    have r1 := hs.tr r1
    have r2 := hs.tr r2
    have r3 : Raw (Av [some ⟨b1, 0, none⟩] W) (Kd.int .u8) w3.heap p3 c3 t2.1 := Raw.retW (rt := []) r3
    have r4 : Raw (Av [some ⟨b1, 0, none⟩] W) (Kd.int .u8) w3.heap p4 c4 t2.2.1 := Raw.retW (rt := []) r4
    have hE : Ex w (Av [some ⟨b1, 0, none⟩] No) [some ⟨b1, 0, none⟩] w3 := Ex.call (as0 := [some ⟨b1, 0, none⟩]) (rt := []) hE hC
    obtain ⟨t3, ht3, hF⟩ := bind_elim hF
    refine goR ha rfl (d_call Try.call32 ha (vs := [.slice p3 t2.1.length c3]) rfl (slices_Clone_byte_byte_c t2.1 _ _ (Av [some ⟨b1, 0, none⟩] W) _ (Ex.wlt (as0 := []) (rr := []) (ro := [some ⟨b1, 0, none⟩]) hE hW) (Raw.arg (as0 := []) (rr := []) (ro := [some ⟨b1, 0, none⟩]) r3 (fun _ h => h)) _ ht3)) fun v w4 a h ha => ?_
    obtain ⟨p5, c5, rfl, hC, o1⟩ := h
    have hs : Step [some ⟨b1, 0, none⟩] [p5, some ⟨b1, 0, none⟩] w3 w4 := hC.callStep [some ⟨b1, 0, none⟩]
    have r1 := hs.tr r1
    have r2 := hs.tr r2
    have r3 := hs.tr r3
    have r4 := hs.tr r4
    have x1 := x1.keep hC.fr ((Ex.callOff (as0 := []) (rt := [some ⟨b1, 0, none⟩]) hE (u := some ⟨b1, 0, none⟩) (by simp)) _ rfl)
    have o1 : Ow (Av [p5, some ⟨b1, 0, none⟩] W) w4 5 (Kd.int .u8) p5 c5 t3 := o1.alone (Kd.Flat.int _)
    have hE : Ex w (Av [some ⟨b1, 0, none⟩] No) [p5, some ⟨b1, 0, none⟩] w4 := Ex.call (as0 := []) (rt := [some ⟨b1, 0, none⟩]) hE hC
    refine go1 ha rfl (d_assign ha rfl) fun a ha => ?_
    refine nil_ ?_
    refine hK6 _ _ ?_
    have ha := ha.to (l' := [(4, _)]) rfl
    refine wp_ret ?_
    have hs : Step [p5, some ⟨b1, 0, none⟩] [some ⟨b1, 0, none⟩, p5] w4 w4 := Step.pick _ _ [1, 0]
    have r1 := hs.tr r1
    have r2 := hs.tr r2
    have r3 := hs.tr r3
    have r4 := hs.tr r4
    have o1 := o1.keep (Fr.refl _ No) (fun _ _ h => h) (fun _ _ h => hs.trK h)
    have hE : Ex w (Av [some ⟨b1, 0, none⟩] No) [some ⟨b1, 0, none⟩, p5] w4 := hE.pick [1, 0] (by decide)
    injection hF with hF
    subst hF
    refine fin1 ha Try.results22 rfl ?_
    exact ⟨_, _, _, _, rfl, hE, o1, r4, x1⟩
  · intro K3 hK3
    refine wp_seq_k (fun K4 hK4 => ?_)
    refine wreg ?_
    refine go1 ha rfl (d_move ha rfl) fun a ha => ?_
    refine go1 ha rfl (d_neI ha rfl rfl) fun a ha => ?_
    refine go1 ha rfl (d_move ha rfl) fun a ha => ?_
    rcases ite_elim hF with ⟨hc1, hF⟩ | ⟨hc1, hF⟩
    · refine goOff ha rfl rfl rfl rfl (not_t (decide_eq_true hc1)) fun a ha => ?_
      refine goOff ha rfl rfl rfl rfl (not_t (decide_eq_true hc1)) fun a ha => ?_
      refine go1 ha rfl (d_pickF ha rfl (not_t (decide_eq_true hc1)) rfl) fun a ha => ?_
      refine nil_ ?_
      refine hK4 _ _ ?_
      have ha := ha.to (l' := [(0, _), (1, _), (11, _)]) rfl
      refine wcond_f ha rfl rfl ?_
      refine wp_skip ?_
      exact hK3 _ _ ⟨a1, ha.to rfl, hE, r1, x1, hF⟩
    · refine goOn1 ha rfl rfl rfl rfl (not_f (decide_eq_false hc1)) (d_move ha rfl) fun a ha => ?_
      refine goOn1 ha rfl rfl rfl rfl (not_f (decide_eq_false hc1)) (d_neI ha rfl rfl) fun a ha => ?_
      refine go1 ha rfl (d_pick ha rfl (not_f (decide_eq_false hc1)) rfl) fun a ha => ?_
      refine nil_ ?_
      refine hK4 _ _ ?_
      have ha := ha.to (l' := [(0, _), (1, _), (11, _)]) rfl
      rcases ite_elim hF with ⟨hc2, hF⟩ | ⟨hc2, hF⟩
      · refine wcond_f ha rfl (not_t (decide_eq_true hc2)) ?_
        refine wp_skip ?_
        exact hK3 _ _ ⟨a1, ha.to rfl, hE, r1, x1, hF⟩
      · refine wcond_t ha rfl (not_f (decide_eq_false hc2)) ?_
        refine wreg ?_
        refine go1 ha rfl (d_assign ha rfl) fun a ha => ?_
        refine nil_ ?_
        exact hK3 _ _ ⟨(-1 : Int), ha.to rfl, hE, r1, x1, hF⟩

def wire_Reader_Left (a0_0 : List Int) (a0_1 : Bool) (a0_2 : Bool) : Option (Int) :=
  ((wire_Reader_Failed a0_0 a0_1 a0_2).bind fun t1 => (bif t1 then (some (0 : Int)) else (some (a0_0.length : Int))))

set_option maxHeartbeats 4000000 in
set_option maxRecDepth 100000 in
theorem wire_Reader_Left_c (a0_0 : List Int) (a0_1 : Bool) (a0_2 : Bool) (b1 : Nat) (p1 : Option Addr) (c1 : Nat) (W : Nat → Prop) (w : World) (hW : ∀ k, W k → k < w.heap.size) (hb1 : W b1) (r1 : Raw (Av [] W) (Kd.int .u8) w.heap p1 c1 a0_0) (x1 : Bx w b1 59 [.slice p1 a0_0.length c1, .bool a0_1, .bool a0_2]) (r : Int) (hF : wire_Reader_Left a0_0 a0_1 a0_2 = some r) :
    Calls Try.prog 29 [.pointer (some ⟨b1, 0, none⟩)].toArray w (Ret fun v w' => v = .int .i64 r ∧ Ex w (Av [] No) [] w') := by
  unfold wire_Reader_Left at hF
  refine enter [(0, .pointer (some ⟨b1, 0, none⟩))] Try.func29 rfl Try.ntmps29 rfl rfl fun a ha => ?_
  have hE : Ex w (Av [] No) [] w := Ex.refl w _
  have hW0 : ∀ p, some p ∈ ([] : List (Option Addr)) → ¬ W p.block := fun _ h => by cases h
  refine wp_seq_k (fun K1 hK1 => ?_)
  refine wreg ?_
  refine go1 ha rfl (d_assign ha rfl) fun a ha => ?_
  refine nil_ ?_
  refine hK1 _ _ ?_
  have ha := ha.to (l' := [(0, _)]) rfl
  refine wp_seq_k (fun K2 hK2 => ?_)
  refine wp_seq_k (fun K3 hK3 => ?_)
  refine wreg ?_
  refine go1 ha rfl (d_move ha rfl) fun a ha => ?_
  obtain ⟨t1, ht1, hF⟩ := bind_elim hF
  refine goR ha rfl (d_call Try.call30 ha (vs := [.pointer (some ⟨b1, 0, none⟩)]) rfl (wire_Reader_Failed_c a0_0 a0_1 a0_2 _ _ _ (Av [] W) _ (Ex.wlt (as0 := []) (rr := []) (ro := []) hE hW) (.inl hb1) (Raw.arg (as0 := []) (rr := []) (ro := []) r1 (fun _ h => h)) x1 _ ht1)) fun v w1 a h ha => ?_
  obtain ⟨rfl, hC⟩ := h
  have hs : Step [] [] w w1 := hC.callStep []
  have r1 := hs.tr r1
  have x1 := x1.keep hC.fr (hE.roOffC (as0 := []) (rt := []) hW hW0 hb1)
  have hE : Ex w (Av [] No) [] w1 := Ex.call (as0 := []) (rt := []) hE hC
  refine nil_ ?_
  refine hK3 _ _ ?_
  have ha := ha.to (l' := [(0, _), (4, _)]) rfl
  rcases cond_elim hF with ⟨hc1, hF⟩ | ⟨hc1, hF⟩
  · refine wcond_t ha rfl hc1 ?_
    refine wp_seq_k (fun K4 hK4 => ?_)
    refine wreg ?_
    refine go1 ha rfl (d_assign ha rfl) fun a ha => ?_
    refine nil_ ?_
    refine hK4 _ _ ?_
    have ha := ha.to (l' := [(2, _)]) rfl
    refine wp_ret ?_
    injection hF with hF
    subst hF
    refine fin1 ha Try.results29 rfl ?_
    exact ⟨rfl, hE⟩
  · refine wcond_f ha rfl hc1 ?_
    refine wp_skip ?_
    refine hK2 _ _ ?_
    have ha := ha.to (l' := [(0, _)]) rfl
    refine wp_seq_k (fun K5 hK5 => ?_)
    refine wreg ?_
    refine go1 ha rfl (d_move ha rfl) fun a ha => ?_
    refine go1 ha rfl (d_nilCheck ha rfl) fun a ha => ?_
    refine go1 ha rfl (d_fieldAddr (o' := 0) ha rfl Try.underlying59 rfl Try.sizeOf23 rfl) fun a ha => ?_
    refine go1 ha rfl (d_load ha rfl (x1.at_.cell 0 rfl) Try.isAgg23) fun a ha => ?_
    refine go1 ha rfl (d_lenSlice ha Try.underlying23 rfl) fun a ha => ?_
    refine go1 ha rfl (d_assign ha rfl) fun a ha => ?_
    refine nil_ ?_
    refine hK5 _ _ ?_
    have ha := ha.to (l' := [(2, _)]) rfl
    refine wp_ret ?_
    injection hF with hF
    subst hF
    refine fin1 ha Try.results29 rfl ?_
    exact ⟨rfl, hE⟩

def wire_Reader_End_j0 (a0_0 : List Int) (a0_2 : Bool) (x2 : Bool) : Option (Int) :=
  (bif x2 then (some (1 : Int)) else (bif a0_2 then (some (16 : Int)) else (if (0 : Int) < (a0_0.length : Int) then (some (16 : Int)) else (some (0 : Int)))))

def wire_Reader_End (a0_0 : List Int) (a0_1 : Bool) (a0_2 : Bool) : Option (Int) :=
  (wire_Reader_End_j0 a0_0 a0_2 (!a0_1))

set_option maxHeartbeats 4000000 in
set_option maxRecDepth 100000 in
theorem wire_Reader_End_c (a0_0 : List Int) (a0_1 : Bool) (a0_2 : Bool) (b1 : Nat) (p1 : Option Addr) (c1 : Nat) (W : Nat → Prop) (w : World) (hW : ∀ k, W k → k < w.heap.size) (hb1 : W b1) (r1 : Raw (Av [] W) (Kd.int .u8) w.heap p1 c1 a0_0) (x1 : Bx w b1 59 [.slice p1 a0_0.length c1, .bool a0_1, .bool a0_2]) (r : Int) (hF : wire_Reader_End a0_0 a0_1 a0_2 = some r) :
    Calls Try.prog 28 [.pointer (some ⟨b1, 0, none⟩)].toArray w (Ret fun v w' => v = .int .i64 r ∧ Ex w (Av [] No) [] w') := by
  unfold wire_Reader_End at hF
  refine enter [(0, .pointer (some ⟨b1, 0, none⟩))] Try.func28 rfl Try.ntmps28 rfl rfl fun a ha => ?_
  have hE : Ex w (Av [] No) [] w := Ex.refl w _
  have hW0 : ∀ p, some p ∈ ([] : List (Option Addr)) → ¬ W p.block := fun _ h => by cases h
  refine wp_seq_k (fun K1 hK1 => ?_)
  refine wreg ?_
  refine go1 ha rfl (d_assign ha rfl) fun a ha => ?_
  refine nil_ ?_
  refine hK1 _ _ ?_
  have ha := ha.to (l' := [(0, _)]) rfl
  refine wp_seq_k (fun K2 hK2 => ?_)
  refine wp_block ?_
  refine wseqJ (fun a w1 => ∃ (x2 : Bool), Has 26 [(0, .pointer (some ⟨b1, 0, none⟩)), (3, .bool x2)] a ∧ Ex w (Av [] No) [] w1 ∧ Raw (Av [] W) (Kd.int .u8) w1.heap p1 c1 a0_0 ∧ Bx w1 b1 59 [.slice p1 a0_0.length c1, .bool a0_1, .bool a0_2] ∧ wire_Reader_End_j0 a0_0 a0_2 x2 = some r) ?_ ?_
  · rintro a w1 ⟨x2, ha, hE, r1, x1, hF⟩
    unfold wire_Reader_End_j0 at hF
    rcases cond_elim hF with ⟨hc1, hF⟩ | ⟨hc1, hF⟩
    · refine wcond_t ha rfl hc1 ?_
      refine wp_seq_k (fun K5 hK5 => ?_)
      refine wreg ?_
      refine go1 ha rfl (d_assign ha rfl) fun a ha => ?_
      refine nil_ ?_
      refine hK5 _ _ ?_
      have ha := ha.to (l' := [(2, _)]) rfl
      refine wp_ret ?_
      injection hF with hF
      subst hF
      refine fin1 ha Try.results28 rfl ?_
      exact ⟨rfl, hE⟩
    · refine wcond_f ha rfl hc1 ?_
      refine wp_seq_k (fun K6 hK6 => ?_)
      refine wreg ?_
      refine go1 ha rfl (d_move ha rfl) fun a ha => ?_
      refine go1 ha rfl (d_nilCheck ha rfl) fun a ha => ?_
      refine go1 ha rfl (d_fieldAddr (o' := 2) ha rfl Try.underlying59 rfl Try.sizeOf4 rfl) fun a ha => ?_
      refine go1 ha rfl (d_load ha rfl (x1.at_.cell 2 rfl) Try.isAgg4) fun a ha => ?_
      refine go1 ha rfl (d_move ha rfl) fun a ha => ?_
      rcases cond_elim hF with ⟨hc2, hF⟩ | ⟨hc2, hF⟩
      · refine goOff ha rfl rfl rfl rfl hc2 fun a ha => ?_
        refine goOff ha rfl rfl rfl rfl hc2 fun a ha => ?_
        refine goOff ha rfl rfl rfl rfl hc2 fun a ha => ?_
        refine goOff ha rfl rfl rfl rfl hc2 fun a ha => ?_
        refine goOff ha rfl rfl rfl rfl hc2 fun a ha => ?_
        refine goOff ha rfl rfl rfl rfl hc2 fun a ha => ?_
        refine go1 ha rfl (d_pick ha rfl hc2 rfl) fun a ha => ?_
        refine go1 ha rfl (d_assign ha rfl) fun a ha => ?_
        refine nil_ ?_
        refine hK6 _ _ ?_
        have ha := ha.to (l' := [(13, _)]) rfl
        refine wcond_t ha rfl rfl ?_
        refine wp_seq_k (fun K7 hK7 => ?_)
        refine wreg ?_
        refine go1 ha rfl (d_assign ha rfl) fun a ha => ?_
        refine nil_ ?_
        refine hK7 _ _ ?_
        have ha := ha.to (l' := [(2, _)]) rfl
        refine wp_ret ?_
        injection hF with hF
        subst hF
        refine fin1 ha Try.results28 rfl ?_
        exact ⟨rfl, hE⟩
      · refine goOn1 ha rfl rfl rfl rfl hc2 (d_move ha rfl) fun a ha => ?_
        refine goOn1 ha rfl rfl rfl rfl hc2 (d_nilCheck ha rfl) fun a ha => ?_
        refine goOn1 ha rfl rfl rfl rfl hc2 (d_fieldAddr (o' := 0) ha rfl Try.underlying59 rfl Try.sizeOf23 rfl) fun a ha => ?_
        refine goOn1 ha rfl rfl rfl rfl hc2 (d_load ha rfl (x1.at_.cell 0 rfl) Try.isAgg23) fun a ha => ?_
        refine goOn1 ha rfl rfl rfl rfl hc2 (d_lenSlice ha Try.underlying23 rfl) fun a ha => ?_
        refine goOn1 ha rfl rfl rfl rfl hc2 (d_gt ha rfl rfl) fun a ha => ?_
        refine go1 ha rfl (d_pickF ha rfl hc2 rfl) fun a ha => ?_
        refine go1 ha rfl (d_assign ha rfl) fun a ha => ?_
        refine nil_ ?_
        refine hK6 _ _ ?_
        have ha := ha.to (l' := [(13, _)]) rfl
        rcases ite_elim hF with ⟨hc3, hF⟩ | ⟨hc3, hF⟩
        · refine wcond_t ha rfl (decide_eq_true hc3) ?_
          refine wp_seq_k (fun K8 hK8 => ?_)
          refine wreg ?_
          refine go1 ha rfl (d_assign ha rfl) fun a ha => ?_
          refine nil_ ?_
          refine hK8 _ _ ?_
          have ha := ha.to (l' := [(2, _)]) rfl
          refine wp_ret ?_
          injection hF with hF
          subst hF
          refine fin1 ha Try.results28 rfl ?_
          exact ⟨rfl, hE⟩
        · refine wcond_f ha rfl (decide_eq_false hc3) ?_
          refine wp_skip ?_
          refine hK2 _ _ ?_
          have ha := ha.to (l' := []) rfl
          refine wp_seq_k (fun K9 hK9 => ?_)
          refine wreg ?_
          refine go1 ha rfl (d_assign ha rfl) fun a ha => ?_
          refine nil_ ?_
          refine hK9 _ _ ?_
          have ha := ha.to (l' := [(2, _)]) rfl
          refine wp_ret ?_
          injection hF with hF
          subst hF
          refine fin1 ha Try.results28 rfl ?_
          exact ⟨rfl, hE⟩
  · intro K4 hK4
    refine wreg ?_
    refine go1 ha rfl (d_move ha rfl) fun a ha => ?_
    refine go1 ha rfl (d_ptrnil_eq ha Try.underlying39 rfl rfl) fun a ha => ?_
    refine go1 ha rfl (d_move ha rfl) fun a ha => ?_
    refine goOn1 ha rfl rfl rfl rfl rfl (d_move ha rfl) fun a ha => ?_
    refine goOn1 ha rfl rfl rfl rfl rfl (d_nilCheck ha rfl) fun a ha => ?_
    refine goOn1 ha rfl rfl rfl rfl rfl (d_fieldAddr (o' := 1) ha rfl Try.underlying59 rfl Try.sizeOf4 rfl) fun a ha => ?_
    refine goOn1 ha rfl rfl rfl rfl rfl (d_load ha rfl (x1.at_.cell 1 rfl) Try.isAgg4) fun a ha => ?_
    refine goOn1 ha rfl rfl rfl rfl rfl (d_not ha rfl) fun a ha => ?_
    refine go1 ha rfl (d_pickF ha rfl rfl rfl) fun a ha => ?_
    refine go1 ha rfl (d_assign ha rfl) fun a ha => ?_
    refine nil_ ?_
    exact hK4 _ _ ⟨(!a0_1), ha.to rfl, hE, r1, x1, hF⟩

def warderlaw01_known (k : Nat)  : Option (Bool) :=
  ((wire_Put k (258 : Int) (2 : Int)).bind fun t1 => ((wire_Put k (256 : Int) (1 : Int)).bind fun t2 => ((wire_Whole k (-2 : Int)).bind fun t3 => ((wire_Blob k ([(97 : Int), (98 : Int)] : List (Int)) (1 : Int)).bind fun t4 => ((wire_New ([(1 : Int), (7 : Int), (9 : Int)] : List (Int))).bind fun t5 => ((wire_Reader_Blob k t5.1 t5.2.1 t5.2.2 (1 : Int)).bind fun t6 => ((wire_Reader_Left t6.2.1 t6.2.2.1 t6.2.2.2).bind fun t7 => (if (strOf t1.1) = (⟨#[2, 1]⟩ : ByteArray) then (if t2.2 = (2 : Int) then (if (strOf t3.1) = (⟨#[254, 255, 255, 255]⟩ : ByteArray) then (if (strOf t4.1) = (⟨#[2, 97, 98]⟩ : ByteArray) then (if (strOf t6.1) = (⟨#[7]⟩ : ByteArray) then (if t7 = (1 : Int) then ((wire_Reader_Number k t6.2.1 t6.2.2.1 t6.2.2.2 (2 : Int)).bind fun t8 => (if t8.1 = (0 : Int) then ((wire_Reader_Failed t8.2.1 t8.2.2.1 t8.2.2.2).bind fun t9 => (bif t9 then ((wire_Reader_Left t8.2.1 t8.2.2.1 t8.2.2.2).bind fun t10 => (if t10 = (0 : Int) then ((wire_Reader_End t8.2.1 t8.2.2.1 t8.2.2.2).bind fun t11 => (some (decide (t11 = (16 : Int))))) else (some false))) else (some false))) else (some false))) else (some false)) else (some false)) else (some false)) else (some false)) else (some false)) else (some false)))))))))

set_option maxHeartbeats 4000000 in
set_option maxRecDepth 100000 in
theorem warderlaw01_known_c (k : Nat)   (W : Nat → Prop) (w : World) (hW : ∀ k, W k → k < w.heap.size) (r : Bool) (hF : warderlaw01_known k  = some r) :
    Calls Try.prog 9 [].toArray w (Ret fun v w' => v = .bool r ∧ Ex w (Av [] No) [] w') := by
  unfold warderlaw01_known at hF
  refine enter [] Try.func9 rfl Try.ntmps9 rfl rfl fun a ha => ?_
  have hE : Ex w (Av [] No) [] w := Ex.refl w _
  have hW0 : ∀ p, some p ∈ ([] : List (Option Addr)) → ¬ W p.block := fun _ h => by cases h
  refine wp_seq_k (fun K1 hK1 => ?_)
  refine wreg ?_
  refine go1 ha rfl (d_assign ha rfl) fun a ha => ?_
  refine nil_ ?_
  refine hK1 _ _ ?_
  have ha := ha.to (l' := []) rfl
  refine wp_seq_k (fun K2 hK2 => ?_)
  refine wreg ?_
  obtain ⟨t1, ht1, hF⟩ := bind_elim hF
  refine goR ha rfl (d_call Try.call10 ha (vs := [.int .u64 (258 : Int), .int .i64 (2 : Int)]) rfl (wire_Put_c k (258 : Int) (2 : Int)  (Av [] W) _ (Ex.wlt (as0 := []) (rr := []) (ro := []) hE hW)  _ ht1)) fun v w1 a h ha => ?_
  obtain ⟨p1, c1, rfl, hC, o1⟩ := h
  have hs : Step [] [p1] w w1 := hC.callStep []
  have o1 : Ow (Av [p1] W) w1 5 (Kd.int .u8) p1 c1 t1.1 := o1.alone (Kd.Flat.int _)
  have hE : Ex w (Av [] No) [p1] w1 := Ex.call (as0 := []) (rt := []) hE hC
  refine go1 ha rfl (d_move ha rfl) fun a ha => ?_
  refine go1 ha rfl (d_extract ha rfl rfl) fun a ha => ?_
  refine go1 ha rfl (d_extract ha rfl rfl) fun a ha => ?_
  refine go1 ha rfl (d_assign ha rfl) fun a ha => ?_
  refine go1 ha rfl (d_assign ha rfl) fun a ha => ?_
  refine nil_ ?_
  refine hK2 _ _ ?_
  have ha := ha.to (l' := [(1, _)]) rfl
  refine wp_seq_k (fun K3 hK3 => ?_)
  refine wreg ?_
  obtain ⟨t2, ht2, hF⟩ := bind_elim hF
  refine goR ha rfl (d_call Try.call10 ha (vs := [.int .u64 (256 : Int), .int .i64 (1 : Int)]) rfl (wire_Put_c k (256 : Int) (1 : Int)  (Av [p1] W) _ (Ex.wlt (as0 := []) (rr := []) (ro := [p1]) hE hW)  _ ht2)) fun v w2 a h ha => ?_
  obtain ⟨p2, c2, rfl, hC, o2⟩ := h
  have hs : Step [p1] [p2, p1] w1 w2 := hC.callStep [p1]
  have o1 := o1.keep hC.fr (Ex.callOff (as0 := []) (rt := [p1]) hE (u := p1) (by simp)) (fun _ _ h => hs.trK h)
  have o2 : Ow (Av [p2, p1] W) w2 5 (Kd.int .u8) p2 c2 t2.1 := o2.alone (Kd.Flat.int _)
  have hE : Ex w (Av [] No) [p2, p1] w2 := Ex.call (as0 := []) (rt := [p1]) hE hC
  refine go1 ha rfl (d_move ha rfl) fun a ha => ?_
  refine go1 ha rfl (d_extract ha rfl rfl) fun a ha => ?_
  refine go1 ha rfl (d_extract ha rfl rfl) fun a ha => ?_
  refine go1 ha rfl (d_assign ha rfl) fun a ha => ?_
  refine go1 ha rfl (d_assign ha rfl) fun a ha => ?_
  refine nil_ ?_
  refine hK3 _ _ ?_
  have ha := ha.to (l' := [(1, _), (4, _)]) rfl
  refine wp_seq_k (fun K4 hK4 => ?_)
  refine wreg ?_
  obtain ⟨t3, ht3, hF⟩ := bind_elim hF
  refine goR ha rfl (d_call Try.call12 ha (vs := [.int .i64 (-2 : Int)]) rfl (wire_Whole_c k (-2 : Int)  (Av [p2, p1] W) _ (Ex.wlt (as0 := []) (rr := []) (ro := [p2, p1]) hE hW)  _ ht3)) fun v w3 a h ha => ?_
  obtain ⟨p3, c3, rfl, hC, o3⟩ := h
  have hs : Step [p2, p1] [p3, p2, p1] w2 w3 := hC.callStep [p2, p1]
  have o2 := o2.keep hC.fr (Ex.callOff (as0 := []) (rt := [p2, p1]) hE (u := p2) (by simp)) (fun _ _ h => hs.trK h)
  have o1 := o1.keep hC.fr (Ex.callOff (as0 := []) (rt := [p2, p1]) hE (u := p1) (by simp)) (fun _ _ h => hs.trK h)
  have o3 : Ow (Av [p3, p2, p1] W) w3 5 (Kd.int .u8) p3 c3 t3.1 := o3.alone (Kd.Flat.int _)
  have hE : Ex w (Av [] No) [p3, p2, p1] w3 := Ex.call (as0 := []) (rt := [p2, p1]) hE hC
  refine go1 ha rfl (d_move ha rfl) fun a ha => ?_
  refine go1 ha rfl (d_extract ha rfl rfl) fun a ha => ?_
  refine go1 ha rfl (d_extract ha rfl rfl) fun a ha => ?_
  refine go1 ha rfl (d_assign ha rfl) fun a ha => ?_
  refine go1 ha rfl (d_assign ha rfl) fun a ha => ?_
  refine nil_ ?_
  refine hK4 _ _ ?_
  have ha := ha.to (l' := [(1, _), (4, _), (5, _)]) rfl
  refine wp_seq_k (fun K5 hK5 => ?_)
  refine wreg ?_
  refine goR ha rfl (d_buildSlice (B := W) (kd := (Kd.int .u8)) (xs := ([(97 : Int), (98 : Int)] : List (Int))) (vs := [.int .u8 (97 : Int), .int .u8 (98 : Int)]) ha Try.underlying23 Try.sizeOf5 Try.zeroValue5 rfl (Els.cons (c := [.int .u8 (97 : Int)]) (rfl) (Els.cons (c := [.int .u8 (98 : Int)]) (rfl) Els.nil)) (by simp [Value.cells, Kd.int, Kd.scalar, Kd.bool, Kd.str, Kd.pair, Kd.sl]) rfl rfl (by decide) (by decide) hE) fun v w4 a h ha => ?_
  obtain ⟨p4, c4, rfl, hs, hE, hf, o4⟩ := h
  have o3 := o3.keep hf (fun _ _ h => h) (fun _ _ h => hs.trK h)
  have o2 := o2.keep hf (fun _ _ h => h) (fun _ _ h => hs.trK h)
  have o1 := o1.keep hf (fun _ _ h => h) (fun _ _ h => hs.trK h)
  refine goR ha rfl (d_cvtMark (B := Av [p3, p2, p1] W) ha Try.underlying23 Try.underlying5 rfl o4 (Kd.Flat.int _) (by simp) (hE.offW hW hW0 0 rfl)) fun v w5 a h ha => ?_
  obtain ⟨rfl, hf, r1⟩ := h
  have hs := hE.stepAt 0 rfl hf
  have o3 := o3.keep hf (hE.off 0 1 rfl rfl (by decide)) (fun _ _ h => hs.trK h)
  have o2 := o2.keep hf (hE.off 0 2 rfl rfl (by decide)) (fun _ _ h => hs.trK h)
  have o1 := o1.keep hf (hE.off 0 3 rfl rfl (by decide)) (fun _ _ h => hs.trK h)
  have hE := hE.wroteAt 0 rfl hf
  have hs : Step [p4, p3, p2, p1] [p3, p2, p1] w5 w5 := Step.pick _ _ [1, 2, 3]
  have o3 := o3.keep (Fr.refl _ No) (fun _ _ h => h) (fun _ _ h => hs.trK h)
  have o2 := o2.keep (Fr.refl _ No) (fun _ _ h => h) (fun _ _ h => hs.trK h)
  have o1 := o1.keep (Fr.refl _ No) (fun _ _ h => h) (fun _ _ h => hs.trK h)
  have hE : Ex w (Av [] No) [p3, p2, p1] w5 := hE.pick [1, 2, 3] (by decide)
  obtain ⟨t4, ht4, hF⟩ := bind_elim hF
  refine goR ha rfl (d_call Try.call14 ha (vs := [.slice p4 ([(97 : Int), (98 : Int)] : List (Int)).length c4, .int .i64 (1 : Int)]) rfl (wire_Blob_c k ([(97 : Int), (98 : Int)] : List (Int)) (1 : Int) _ _ (Av [p3, p2, p1] W) _ (Ex.wlt (as0 := []) (rr := []) (ro := [p3, p2, p1]) hE hW) (Raw.arg (as0 := []) (rr := []) (ro := [p3, p2, p1]) r1 (fun _ h => h)) _ ht4)) fun v w6 a h ha => ?_
  obtain ⟨p5, c5, rfl, hC, o5⟩ := h
  have hs : Step [p3, p2, p1] [p5, p3, p2, p1] w5 w6 := hC.callStep [p3, p2, p1]
  have r1 := hs.tr r1
  have o3 := o3.keep hC.fr (Ex.callOff (as0 := []) (rt := [p3, p2, p1]) hE (u := p3) (by simp)) (fun _ _ h => hs.trK h)
  have o2 := o2.keep hC.fr (Ex.callOff (as0 := []) (rt := [p3, p2, p1]) hE (u := p2) (by simp)) (fun _ _ h => hs.trK h)
  have o1 := o1.keep hC.fr (Ex.callOff (as0 := []) (rt := [p3, p2, p1]) hE (u := p1) (by simp)) (fun _ _ h => hs.trK h)
  have o5 : Ow (Av [p5, p3, p2, p1] W) w6 5 (Kd.int .u8) p5 c5 t4.1 := o5.alone (Kd.Flat.int _)
  have hE : Ex w (Av [] No) [p5, p3, p2, p1] w6 := Ex.call (as0 := []) (rt := [p3, p2, p1]) hE hC
  refine go1 ha rfl (d_move ha rfl) fun a ha => ?_
  refine go1 ha rfl (d_extract ha rfl rfl) fun a ha => ?_
  refine go1 ha rfl (d_extract ha rfl rfl) fun a ha => ?_
  refine go1 ha rfl (d_assign ha rfl) fun a ha => ?_
  refine go1 ha rfl (d_assign ha rfl) fun a ha => ?_
  refine nil_ ?_
  refine hK5 _ _ ?_
  have ha := ha.to (l' := [(1, _), (4, _), (5, _), (7, _)]) rfl
  refine wp_seq_k (fun K6 hK6 => ?_)
  refine wreg ?_
  refine goR ha rfl (d_buildSlice (B := W) (kd := (Kd.int .u8)) (xs := ([(1 : Int), (7 : Int), (9 : Int)] : List (Int))) (vs := [.int .u8 (1 : Int), .int .u8 (7 : Int), .int .u8 (9 : Int)]) ha Try.underlying23 Try.sizeOf5 Try.zeroValue5 rfl (Els.cons (c := [.int .u8 (1 : Int)]) (rfl) (Els.cons (c := [.int .u8 (7 : Int)]) (rfl) (Els.cons (c := [.int .u8 (9 : Int)]) (rfl) Els.nil))) (by simp [Value.cells, Kd.int, Kd.scalar, Kd.bool, Kd.str, Kd.pair, Kd.sl]) rfl rfl (by decide) (by decide) hE) fun v w7 a h ha => ?_
  obtain ⟨p6, c6, rfl, hs, hE, hf, o6⟩ := h
  have r1 := hs.tr r1
  have o5 := o5.keep hf (fun _ _ h => h) (fun _ _ h => hs.trK h)
  have o3 := o3.keep hf (fun _ _ h => h) (fun _ _ h => hs.trK h)
  have o2 := o2.keep hf (fun _ _ h => h) (fun _ _ h => hs.trK h)
  have o1 := o1.keep hf (fun _ _ h => h) (fun _ _ h => hs.trK h)
  obtain ⟨t5, ht5, hF⟩ := bind_elim hF
  refine goR ha rfl (d_call Try.call17 ha (vs := [.slice p6 ([(1 : Int), (7 : Int), (9 : Int)] : List (Int)).length c6]) rfl (wire_New_c ([(1 : Int), (7 : Int), (9 : Int)] : List (Int)) _ _ (Av [p5, p3, p2, p1] W) _ (Ex.wlt (as0 := []) (rr := [p6]) (ro := [p5, p3, p2, p1]) hE hW) (Ow.argR (as0 := []) (rr := [p6]) (ro := [p5, p3, p2, p1]) o6 hE hW hW0 (by simp)) _ ht5)) fun v w8 a h ha => ?_
  obtain ⟨b1, p7, c7, rfl, hC, r2, x1⟩ := h
  have hs : Step [p6, p5, p3, p2, p1] [some ⟨b1, 0, none⟩, p6, p5, p3, p2, p1] w7 w8 := hC.callStep [p6, p5, p3, p2, p1]
  have r1 := hs.tr r1
  have r2 : Raw (Av [some ⟨b1, 0, none⟩, p6, p5, p3, p2, p1] (Old w)) (Kd.int .u8) w8.heap p7 c7 t5.1 := Raw.retF (as0 := []) (rt := [p6, p5, p3, p2, p1]) r2 hE
  have o6 := o6.keep hC.fr (Ex.callOff (as0 := []) (rt := [p6, p5, p3, p2, p1]) hE (u := p6) (by simp)) (fun _ _ h => hs.trK h)
  have o5 := o5.keep hC.fr (Ex.callOff (as0 := []) (rt := [p6, p5, p3, p2, p1]) hE (u := p5) (by simp)) (fun _ _ h => hs.trK h)
  have o3 := o3.keep hC.fr (Ex.callOff (as0 := []) (rt := [p6, p5, p3, p2, p1]) hE (u := p3) (by simp)) (fun _ _ h => hs.trK h)
  have o2 := o2.keep hC.fr (Ex.callOff (as0 := []) (rt := [p6, p5, p3, p2, p1]) hE (u := p2) (by simp)) (fun _ _ h => hs.trK h)
  have o1 := o1.keep hC.fr (Ex.callOff (as0 := []) (rt := [p6, p5, p3, p2, p1]) hE (u := p1) (by simp)) (fun _ _ h => hs.trK h)
  have hE : Ex w (Av [] No) [some ⟨b1, 0, none⟩, p6, p5, p3, p2, p1] w8 := Ex.call (as0 := []) (rt := [p6, p5, p3, p2, p1]) hE hC
  refine go1 ha rfl (d_assign ha rfl) fun a ha => ?_
  refine nil_ ?_
  refine hK6 _ _ ?_
  have ha := ha.to (l' := [(1, _), (4, _), (5, _), (7, _), (9, _)]) rfl
  refine wp_seq_k (fun K7 hK7 => ?_)
  refine wreg ?_
  refine go1 ha rfl (d_move ha rfl) fun a ha => ?_
  obtain ⟨t6, ht6, hF⟩ := bind_elim hF
  refine goR ha rfl (d_call Try.call22 ha (vs := [.pointer (some ⟨b1, 0, none⟩), .int .i64 (1 : Int)]) rfl (wire_Reader_Blob_c k t5.1 t5.2.1 t5.2.2 (1 : Int) _ _ _ (Av [p6, p5, p3, p2, p1] W) _ (Ex.sub (as0 := [some ⟨b1, 0, none⟩]) (rt := [p6, p5, p3, p2, p1]) hE) (Ex.wlt (as0 := [some ⟨b1, 0, none⟩]) (rr := []) (ro := [p6, p5, p3, p2, p1]) hE hW) (Ex.wsep (as0 := [some ⟨b1, 0, none⟩]) (rr := []) (ro := [p6, p5, p3, p2, p1]) hE hW hW0) (Raw.arg (as0 := [some ⟨b1, 0, none⟩]) (rr := []) (ro := [p6, p5, p3, p2, p1]) r2 hW) x1 _ ht6)) fun v w9 a h ha => ?_
  obtain ⟨p8, c8, p9, c9, rfl, hC, o7, r3, x1⟩ := h
  have hs : Step [some ⟨b1, 0, none⟩, p6, p5, p3, p2, p1] [some ⟨b1, 0, none⟩, p8, p6, p5, p3, p2, p1] w8 w9 := hC.callStep [p6, p5, p3, p2, p1]
  have r1 := hs.tr r1
  have r2 := hs.tr r2
  have r3 : Raw (Av [some ⟨b1, 0, none⟩, p8, p6, p5, p3, p2, p1] W) (Kd.int .u8) w9.heap p9 c9 t6.2.1 := Raw.retW (rt := [p6, p5, p3, p2, p1]) r3
  have o6 := o6.keep hC.fr (Ex.callOff (as0 := [some ⟨b1, 0, none⟩]) (rt := [p6, p5, p3, p2, p1]) hE (u := p6) (by simp)) (fun _ _ h => hs.trK h)
  have o5 := o5.keep hC.fr (Ex.callOff (as0 := [some ⟨b1, 0, none⟩]) (rt := [p6, p5, p3, p2, p1]) hE (u := p5) (by simp)) (fun _ _ h => hs.trK h)
  have o3 := o3.keep hC.fr (Ex.callOff (as0 := [some ⟨b1, 0, none⟩]) (rt := [p6, p5, p3, p2, p1]) hE (u := p3) (by simp)) (fun _ _ h => hs.trK h)
  have o2 := o2.keep hC.fr (Ex.callOff (as0 := [some ⟨b1, 0, none⟩]) (rt := [p6, p5, p3, p2, p1]) hE (u := p2) (by simp)) (fun _ _ h => hs.trK h)
  have o1 := o1.keep hC.fr (Ex.callOff (as0 := [some ⟨b1, 0, none⟩]) (rt := [p6, p5, p3, p2, p1]) hE (u := p1) (by simp)) (fun _ _ h => hs.trK h)
  have o7 : Ow (Av [some ⟨b1, 0, none⟩, p8, p6, p5, p3, p2, p1] W) w9 5 (Kd.int .u8) p8 c8 t6.1 := o7.alone (Kd.Flat.int _)
  have hE : Ex w (Av [] No) [some ⟨b1, 0, none⟩, p8, p6, p5, p3, p2, p1] w9 := Ex.call (as0 := [some ⟨b1, 0, none⟩]) (rt := [p6, p5, p3, p2, p1]) hE hC
  refine go1 ha rfl (d_move ha rfl) fun a ha => ?_
  obtain ⟨t7, ht7, hF⟩ := bind_elim hF
  refine goR ha rfl (d_call Try.call29 ha (vs := [.pointer (some ⟨b1, 0, none⟩)]) rfl (wire_Reader_Left_c t6.2.1 t6.2.2.1 t6.2.2.2 _ _ _ (Av [some ⟨b1, 0, none⟩, p8, p6, p5, p3, p2, p1] W) _ (Ex.wlt (as0 := []) (rr := []) (ro := [some ⟨b1, 0, none⟩, p8, p6, p5, p3, p2, p1]) hE hW) (.inr ⟨⟨b1, 0, none⟩, by simp, rfl⟩) (Raw.arg (as0 := []) (rr := []) (ro := [some ⟨b1, 0, none⟩, p8, p6, p5, p3, p2, p1]) r3 (fun _ h => h)) x1 _ ht7)) fun v w10 a h ha => ?_
  obtain ⟨rfl, hC⟩ := h
  have hs : Step [some ⟨b1, 0, none⟩, p8, p6, p5, p3, p2, p1] [some ⟨b1, 0, none⟩, p8, p6, p5, p3, p2, p1] w9 w10 := hC.callStep [some ⟨b1, 0, none⟩, p8, p6, p5, p3, p2, p1]
  have r1 := hs.tr r1
  have r2 := hs.tr r2
  have r3 := hs.tr r3
  have x1 := x1.keep hC.fr ((Ex.callOff (as0 := []) (rt := [some ⟨b1, 0, none⟩, p8, p6, p5, p3, p2, p1]) hE (u := some ⟨b1, 0, none⟩) (by simp)) _ rfl)
  have o7 := o7.keep hC.fr (Ex.callOff (as0 := []) (rt := [some ⟨b1, 0, none⟩, p8, p6, p5, p3, p2, p1]) hE (u := p8) (by simp)) (fun _ _ h => hs.trK h)
  have o6 := o6.keep hC.fr (Ex.callOff (as0 := []) (rt := [some ⟨b1, 0, none⟩, p8, p6, p5, p3, p2, p1]) hE (u := p6) (by simp)) (fun _ _ h => hs.trK h)
  have o5 := o5.keep hC.fr (Ex.callOff (as0 := []) (rt := [some ⟨b1, 0, none⟩, p8, p6, p5, p3, p2, p1]) hE (u := p5) (by simp)) (fun _ _ h => hs.trK h)
  have o3 := o3.keep hC.fr (Ex.callOff (as0 := []) (rt := [some ⟨b1, 0, none⟩, p8, p6, p5, p3, p2, p1]) hE (u := p3) (by simp)) (fun _ _ h => hs.trK h)
  have o2 := o2.keep hC.fr (Ex.callOff (as0 := []) (rt := [some ⟨b1, 0, none⟩, p8, p6, p5, p3, p2, p1]) hE (u := p2) (by simp)) (fun _ _ h => hs.trK h)
  have o1 := o1.keep hC.fr (Ex.callOff (as0 := []) (rt := [some ⟨b1, 0, none⟩, p8, p6, p5, p3, p2, p1]) hE (u := p1) (by simp)) (fun _ _ h => hs.trK h)
  have hE : Ex w (Av [] No) [some ⟨b1, 0, none⟩, p8, p6, p5, p3, p2, p1] w10 := Ex.call (as0 := []) (rt := [some ⟨b1, 0, none⟩, p8, p6, p5, p3, p2, p1]) hE hC
  refine go1 ha rfl (d_assign ha rfl) fun a ha => ?_
  refine go1 ha rfl (d_assign ha rfl) fun a ha => ?_
  refine nil_ ?_
  refine hK7 _ _ ?_
  have ha := ha.to (l' := [(1, _), (4, _), (5, _), (7, _), (9, _), (10, _), (11, _)]) rfl
  refine wp_seq_k (fun K8 hK8 => ?_)
  refine wreg ?_
  refine go1 ha rfl (d_move ha rfl) fun a ha => ?_
  refine go1 ha rfl (d_b2s ha Try.underlying23 Try.underlying5 Try.underlying9 rfl o1.rawNo) fun a ha => ?_
  refine go1 ha rfl (d_eqS ha rfl rfl) fun a ha => ?_
  refine go1 ha rfl (d_move ha rfl) fun a ha => ?_
  rcases ite_elim hF with ⟨hc1, hF⟩ | ⟨hc1, hF⟩
  · refine goOn1 ha rfl rfl rfl rfl (decide_eq_true hc1) (d_move ha rfl) fun a ha => ?_
    refine goOn1 ha rfl rfl rfl rfl (decide_eq_true hc1) (d_eqI ha rfl rfl) fun a ha => ?_
    refine go1 ha rfl (d_pick ha rfl (decide_eq_true hc1) rfl) fun a ha => ?_
    refine go1 ha rfl (d_move ha rfl) fun a ha => ?_
    rcases ite_elim hF with ⟨hc2, hF⟩ | ⟨hc2, hF⟩
    · refine goOn1 ha rfl rfl rfl rfl (decide_eq_true hc2) (d_move ha rfl) fun a ha => ?_
      refine goOn1 ha rfl rfl rfl rfl (decide_eq_true hc2) (d_b2s ha Try.underlying23 Try.underlying5 Try.underlying9 rfl o3.rawNo) fun a ha => ?_
      refine goOn1 ha rfl rfl rfl rfl (decide_eq_true hc2) (d_eqS ha rfl rfl) fun a ha => ?_
      refine go1 ha rfl (d_pick ha rfl (decide_eq_true hc2) rfl) fun a ha => ?_
      refine go1 ha rfl (d_move ha rfl) fun a ha => ?_
      rcases ite_elim hF with ⟨hc3, hF⟩ | ⟨hc3, hF⟩
      · refine goOn1 ha rfl rfl rfl rfl (decide_eq_true hc3) (d_move ha rfl) fun a ha => ?_
        refine goOn1 ha rfl rfl rfl rfl (decide_eq_true hc3) (d_b2s ha Try.underlying23 Try.underlying5 Try.underlying9 rfl o5.rawNo) fun a ha => ?_
        refine goOn1 ha rfl rfl rfl rfl (decide_eq_true hc3) (d_eqS ha rfl rfl) fun a ha => ?_
        refine go1 ha rfl (d_pick ha rfl (decide_eq_true hc3) rfl) fun a ha => ?_
        refine go1 ha rfl (d_move ha rfl) fun a ha => ?_
        rcases ite_elim hF with ⟨hc4, hF⟩ | ⟨hc4, hF⟩
        · refine goOn1 ha rfl rfl rfl rfl (decide_eq_true hc4) (d_move ha rfl) fun a ha => ?_
          refine goOn1 ha rfl rfl rfl rfl (decide_eq_true hc4) (d_b2s ha Try.underlying23 Try.underlying5 Try.underlying9 rfl o7.rawNo) fun a ha => ?_
          refine goOn1 ha rfl rfl rfl rfl (decide_eq_true hc4) (d_eqS ha rfl rfl) fun a ha => ?_
          refine go1 ha rfl (d_pick ha rfl (decide_eq_true hc4) rfl) fun a ha => ?_
          refine go1 ha rfl (d_move ha rfl) fun a ha => ?_
          rcases ite_elim hF with ⟨hc5, hF⟩ | ⟨hc5, hF⟩
          · refine goOn1 ha rfl rfl rfl rfl (decide_eq_true hc5) (d_move ha rfl) fun a ha => ?_
            refine goOn1 ha rfl rfl rfl rfl (decide_eq_true hc5) (d_eqI ha rfl rfl) fun a ha => ?_
            refine go1 ha rfl (d_pick ha rfl (decide_eq_true hc5) rfl) fun a ha => ?_
            refine go1 ha rfl (d_move ha rfl) fun a ha => ?_
            rcases ite_elim hF with ⟨hc6, hF⟩ | ⟨hc6, hF⟩
            · refine goOn1 ha rfl rfl rfl rfl (decide_eq_true hc6) (d_move ha rfl) fun a ha => ?_
              obtain ⟨t8, ht8, hF⟩ := bind_elim hF
              refine goOnR ha rfl rfl rfl rfl (decide_eq_true hc6) (d_call Try.call18 ha (vs := [.pointer (some ⟨b1, 0, none⟩), .int .i64 (2 : Int)]) rfl (wire_Reader_Number_c k t6.2.1 t6.2.2.1 t6.2.2.2 (2 : Int) _ _ _ (Av [p8, p6, p5, p3, p2, p1] W) _ (Ex.sub (as0 := [some ⟨b1, 0, none⟩]) (rt := [p8, p6, p5, p3, p2, p1]) hE) (Ex.wlt (as0 := [some ⟨b1, 0, none⟩]) (rr := []) (ro := [p8, p6, p5, p3, p2, p1]) hE hW) (Ex.wsep (as0 := [some ⟨b1, 0, none⟩]) (rr := []) (ro := [p8, p6, p5, p3, p2, p1]) hE hW hW0) (Raw.arg (as0 := [some ⟨b1, 0, none⟩]) (rr := []) (ro := [p8, p6, p5, p3, p2, p1]) r3 (fun _ h => h)) x1 _ ht8)) fun v w11 a h ha => ?_
              obtain ⟨p10, c10, rfl, hC, r4, x1⟩ := h
              have hs : Step [some ⟨b1, 0, none⟩, p8, p6, p5, p3, p2, p1] [some ⟨b1, 0, none⟩, p8, p6, p5, p3, p2, p1] w10 w11 := hC.callStep [p8, p6, p5, p3, p2, p1]
              have r1 := hs.tr r1
              have r2 := hs.tr r2
              have r3 := hs.tr r3
              have r4 : Raw (Av [some ⟨b1, 0, none⟩, p8, p6, p5, p3, p2, p1] W) (Kd.int .u8) w11.heap p10 c10 t8.2.1 := Raw.retW (rt := [p8, p6, p5, p3, p2, p1]) r4
              have o7 := o7.keep hC.fr (Ex.callOff (as0 := [some ⟨b1, 0, none⟩]) (rt := [p8, p6, p5, p3, p2, p1]) hE (u := p8) (by simp)) (fun _ _ h => hs.trK h)
              have o6 := o6.keep hC.fr (Ex.callOff (as0 := [some ⟨b1, 0, none⟩]) (rt := [p8, p6, p5, p3, p2, p1]) hE (u := p6) (by simp)) (fun _ _ h => hs.trK h)
              have o5 := o5.keep hC.fr (Ex.callOff (as0 := [some ⟨b1, 0, none⟩]) (rt := [p8, p6, p5, p3, p2, p1]) hE (u := p5) (by simp)) (fun _ _ h => hs.trK h)
              have o3 := o3.keep hC.fr (Ex.callOff (as0 := [some ⟨b1, 0, none⟩]) (rt := [p8, p6, p5, p3, p2, p1]) hE (u := p3) (by simp)) (fun _ _ h => hs.trK h)
              have o2 := o2.keep hC.fr (Ex.callOff (as0 := [some ⟨b1, 0, none⟩]) (rt := [p8, p6, p5, p3, p2, p1]) hE (u := p2) (by simp)) (fun _ _ h => hs.trK h)
              have o1 := o1.keep hC.fr (Ex.callOff (as0 := [some ⟨b1, 0, none⟩]) (rt := [p8, p6, p5, p3, p2, p1]) hE (u := p1) (by simp)) (fun _ _ h => hs.trK h)
              have hE : Ex w (Av [] No) [some ⟨b1, 0, none⟩, p8, p6, p5, p3, p2, p1] w11 := Ex.call (as0 := [some ⟨b1, 0, none⟩]) (rt := [p8, p6, p5, p3, p2, p1]) hE hC
              refine goOn1 ha rfl rfl rfl rfl (decide_eq_true hc6) (d_eqI ha rfl rfl) fun a ha => ?_
              refine go1 ha rfl (d_pick ha rfl (decide_eq_true hc6) rfl) fun a ha => ?_
              refine go1 ha rfl (d_move ha rfl) fun a ha => ?_
              rcases ite_elim hF with ⟨hc7, hF⟩ | ⟨hc7, hF⟩
              · refine goOn1 ha rfl rfl rfl rfl (decide_eq_true hc7) (d_move ha rfl) fun a ha => ?_
                obtain ⟨t9, ht9, hF⟩ := bind_elim hF
                refine goOnR ha rfl rfl rfl rfl (decide_eq_true hc7) (d_call Try.call30 ha (vs := [.pointer (some ⟨b1, 0, none⟩)]) rfl (wire_Reader_Failed_c t8.2.1 t8.2.2.1 t8.2.2.2 _ _ _ (Av [some ⟨b1, 0, none⟩, p8, p6, p5, p3, p2, p1] W) _ (Ex.wlt (as0 := []) (rr := []) (ro := [some ⟨b1, 0, none⟩, p8, p6, p5, p3, p2, p1]) hE hW) (.inr ⟨⟨b1, 0, none⟩, by simp, rfl⟩) (Raw.arg (as0 := []) (rr := []) (ro := [some ⟨b1, 0, none⟩, p8, p6, p5, p3, p2, p1]) r4 (fun _ h => h)) x1 _ ht9)) fun v w12 a h ha => ?_
                obtain ⟨rfl, hC⟩ := h
                have hs : Step [some ⟨b1, 0, none⟩, p8, p6, p5, p3, p2, p1] [some ⟨b1, 0, none⟩, p8, p6, p5, p3, p2, p1] w11 w12 := hC.callStep [some ⟨b1, 0, none⟩, p8, p6, p5, p3, p2, p1]
                have r1 := hs.tr r1
                have r2 := hs.tr r2
                have r3 := hs.tr r3
                have r4 := hs.tr r4
                have x1 := x1.keep hC.fr ((Ex.callOff (as0 := []) (rt := [some ⟨b1, 0, none⟩, p8, p6, p5, p3, p2, p1]) hE (u := some ⟨b1, 0, none⟩) (by simp)) _ rfl)
                have o7 := o7.keep hC.fr (Ex.callOff (as0 := []) (rt := [some ⟨b1, 0, none⟩, p8, p6, p5, p3, p2, p1]) hE (u := p8) (by simp)) (fun _ _ h => hs.trK h)
                have o6 := o6.keep hC.fr (Ex.callOff (as0 := []) (rt := [some ⟨b1, 0, none⟩, p8, p6, p5, p3, p2, p1]) hE (u := p6) (by simp)) (fun _ _ h => hs.trK h)
                have o5 := o5.keep hC.fr (Ex.callOff (as0 := []) (rt := [some ⟨b1, 0, none⟩, p8, p6, p5, p3, p2, p1]) hE (u := p5) (by simp)) (fun _ _ h => hs.trK h)
                have o3 := o3.keep hC.fr (Ex.callOff (as0 := []) (rt := [some ⟨b1, 0, none⟩, p8, p6, p5, p3, p2, p1]) hE (u := p3) (by simp)) (fun _ _ h => hs.trK h)
                have o2 := o2.keep hC.fr (Ex.callOff (as0 := []) (rt := [some ⟨b1, 0, none⟩, p8, p6, p5, p3, p2, p1]) hE (u := p2) (by simp)) (fun _ _ h => hs.trK h)
                have o1 := o1.keep hC.fr (Ex.callOff (as0 := []) (rt := [some ⟨b1, 0, none⟩, p8, p6, p5, p3, p2, p1]) hE (u := p1) (by simp)) (fun _ _ h => hs.trK h)
                have hE : Ex w (Av [] No) [some ⟨b1, 0, none⟩, p8, p6, p5, p3, p2, p1] w12 := Ex.call (as0 := []) (rt := [some ⟨b1, 0, none⟩, p8, p6, p5, p3, p2, p1]) hE hC
                refine go1 ha rfl (d_pick ha rfl (decide_eq_true hc7) rfl) fun a ha => ?_
                refine go1 ha rfl (d_move ha rfl) fun a ha => ?_
                rcases cond_elim hF with ⟨hc8, hF⟩ | ⟨hc8, hF⟩
                · refine goOn1 ha rfl rfl rfl rfl hc8 (d_move ha rfl) fun a ha => ?_
                  obtain ⟨t10, ht10, hF⟩ := bind_elim hF
                  refine goOnR ha rfl rfl rfl rfl hc8 (d_call Try.call29 ha (vs := [.pointer (some ⟨b1, 0, none⟩)]) rfl (wire_Reader_Left_c t8.2.1 t8.2.2.1 t8.2.2.2 _ _ _ (Av [some ⟨b1, 0, none⟩, p8, p6, p5, p3, p2, p1] W) _ (Ex.wlt (as0 := []) (rr := []) (ro := [some ⟨b1, 0, none⟩, p8, p6, p5, p3, p2, p1]) hE hW) (.inr ⟨⟨b1, 0, none⟩, by simp, rfl⟩) (Raw.arg (as0 := []) (rr := []) (ro := [some ⟨b1, 0, none⟩, p8, p6, p5, p3, p2, p1]) r4 (fun _ h => h)) x1 _ ht10)) fun v w13 a h ha => ?_
                  obtain ⟨rfl, hC⟩ := h
                  have hs : Step [some ⟨b1, 0, none⟩, p8, p6, p5, p3, p2, p1] [some ⟨b1, 0, none⟩, p8, p6, p5, p3, p2, p1] w12 w13 := hC.callStep [some ⟨b1, 0, none⟩, p8, p6, p5, p3, p2, p1]
                  have r1 := hs.tr r1
                  have r2 := hs.tr r2
                  have r3 := hs.tr r3
                  have r4 := hs.tr r4
                  have x1 := x1.keep hC.fr ((Ex.callOff (as0 := []) (rt := [some ⟨b1, 0, none⟩, p8, p6, p5, p3, p2, p1]) hE (u := some ⟨b1, 0, none⟩) (by simp)) _ rfl)
                  have o7 := o7.keep hC.fr (Ex.callOff (as0 := []) (rt := [some ⟨b1, 0, none⟩, p8, p6, p5, p3, p2, p1]) hE (u := p8) (by simp)) (fun _ _ h => hs.trK h)
                  have o6 := o6.keep hC.fr (Ex.callOff (as0 := []) (rt := [some ⟨b1, 0, none⟩, p8, p6, p5, p3, p2, p1]) hE (u := p6) (by simp)) (fun _ _ h => hs.trK h)
                  have o5 := o5.keep hC.fr (Ex.callOff (as0 := []) (rt := [some ⟨b1, 0, none⟩, p8, p6, p5, p3, p2, p1]) hE (u := p5) (by simp)) (fun _ _ h => hs.trK h)
                  have o3 := o3.keep hC.fr (Ex.callOff (as0 := []) (rt := [some ⟨b1, 0, none⟩, p8, p6, p5, p3, p2, p1]) hE (u := p3) (by simp)) (fun _ _ h => hs.trK h)
                  have o2 := o2.keep hC.fr (Ex.callOff (as0 := []) (rt := [some ⟨b1, 0, none⟩, p8, p6, p5, p3, p2, p1]) hE (u := p2) (by simp)) (fun _ _ h => hs.trK h)
                  have o1 := o1.keep hC.fr (Ex.callOff (as0 := []) (rt := [some ⟨b1, 0, none⟩, p8, p6, p5, p3, p2, p1]) hE (u := p1) (by simp)) (fun _ _ h => hs.trK h)
                  have hE : Ex w (Av [] No) [some ⟨b1, 0, none⟩, p8, p6, p5, p3, p2, p1] w13 := Ex.call (as0 := []) (rt := [some ⟨b1, 0, none⟩, p8, p6, p5, p3, p2, p1]) hE hC
                  refine goOn1 ha rfl rfl rfl rfl hc8 (d_eqI ha rfl rfl) fun a ha => ?_
                  refine go1 ha rfl (d_pick ha rfl hc8 rfl) fun a ha => ?_
                  refine go1 ha rfl (d_move ha rfl) fun a ha => ?_
                  rcases ite_elim hF with ⟨hc9, hF⟩ | ⟨hc9, hF⟩
                  · refine goOn1 ha rfl rfl rfl rfl (decide_eq_true hc9) (d_move ha rfl) fun a ha => ?_
                    obtain ⟨t11, ht11, hF⟩ := bind_elim hF
                    refine goOnR ha rfl rfl rfl rfl (decide_eq_true hc9) (d_call Try.call28 ha (vs := [.pointer (some ⟨b1, 0, none⟩)]) rfl (wire_Reader_End_c t8.2.1 t8.2.2.1 t8.2.2.2 _ _ _ (Av [some ⟨b1, 0, none⟩, p8, p6, p5, p3, p2, p1] W) _ (Ex.wlt (as0 := []) (rr := []) (ro := [some ⟨b1, 0, none⟩, p8, p6, p5, p3, p2, p1]) hE hW) (.inr ⟨⟨b1, 0, none⟩, by simp, rfl⟩) (Raw.arg (as0 := []) (rr := []) (ro := [some ⟨b1, 0, none⟩, p8, p6, p5, p3, p2, p1]) r4 (fun _ h => h)) x1 _ ht11)) fun v w14 a h ha => ?_
                    obtain ⟨rfl, hC⟩ := h
                    have hs : Step [some ⟨b1, 0, none⟩, p8, p6, p5, p3, p2, p1] [some ⟨b1, 0, none⟩, p8, p6, p5, p3, p2, p1] w13 w14 := hC.callStep [some ⟨b1, 0, none⟩, p8, p6, p5, p3, p2, p1]
                    have r1 := hs.tr r1
                    have r2 := hs.tr r2
                    have r3 := hs.tr r3
                    have r4 := hs.tr r4
                    have x1 := x1.keep hC.fr ((Ex.callOff (as0 := []) (rt := [some ⟨b1, 0, none⟩, p8, p6, p5, p3, p2, p1]) hE (u := some ⟨b1, 0, none⟩) (by simp)) _ rfl)
                    have o7 := o7.keep hC.fr (Ex.callOff (as0 := []) (rt := [some ⟨b1, 0, none⟩, p8, p6, p5, p3, p2, p1]) hE (u := p8) (by simp)) (fun _ _ h => hs.trK h)
                    have o6 := o6.keep hC.fr (Ex.callOff (as0 := []) (rt := [some ⟨b1, 0, none⟩, p8, p6, p5, p3, p2, p1]) hE (u := p6) (by simp)) (fun _ _ h => hs.trK h)
                    have o5 := o5.keep hC.fr (Ex.callOff (as0 := []) (rt := [some ⟨b1, 0, none⟩, p8, p6, p5, p3, p2, p1]) hE (u := p5) (by simp)) (fun _ _ h => hs.trK h)
                    have o3 := o3.keep hC.fr (Ex.callOff (as0 := []) (rt := [some ⟨b1, 0, none⟩, p8, p6, p5, p3, p2, p1]) hE (u := p3) (by simp)) (fun _ _ h => hs.trK h)
                    have o2 := o2.keep hC.fr (Ex.callOff (as0 := []) (rt := [some ⟨b1, 0, none⟩, p8, p6, p5, p3, p2, p1]) hE (u := p2) (by simp)) (fun _ _ h => hs.trK h)
                    have o1 := o1.keep hC.fr (Ex.callOff (as0 := []) (rt := [some ⟨b1, 0, none⟩, p8, p6, p5, p3, p2, p1]) hE (u := p1) (by simp)) (fun _ _ h => hs.trK h)
                    have hE : Ex w (Av [] No) [some ⟨b1, 0, none⟩, p8, p6, p5, p3, p2, p1] w14 := Ex.call (as0 := []) (rt := [some ⟨b1, 0, none⟩, p8, p6, p5, p3, p2, p1]) hE hC
                    refine goOn1 ha rfl rfl rfl rfl (decide_eq_true hc9) (d_eqI ha rfl rfl) fun a ha => ?_
                    refine go1 ha rfl (d_pick ha rfl (decide_eq_true hc9) rfl) fun a ha => ?_
                    refine go1 ha rfl (d_assign ha rfl) fun a ha => ?_
                    refine nil_ ?_
                    refine hK8 _ _ ?_
                    have ha := ha.to (l' := [(0, _)]) rfl
                    refine wp_ret ?_
                    have hs : Step [some ⟨b1, 0, none⟩, p8, p6, p5, p3, p2, p1] [] w14 w14 := Step.pick _ _ []
                    have r1 := hs.tr r1
                    have r2 := hs.tr r2
                    have r3 := hs.tr r3
                    have r4 := hs.tr r4
                    have hE : Ex w (Av [] No) [] w14 := hE.pick [] (by decide)
                    injection hF with hF
                    subst hF
                    refine fin1 ha Try.results9 rfl ?_
                    exact ⟨rfl, hE⟩
                  · refine goOff ha rfl rfl rfl rfl (decide_eq_false hc9) fun a ha => ?_
                    refine goOff ha rfl rfl rfl rfl (decide_eq_false hc9) fun a ha => ?_
                    refine goOff ha rfl rfl rfl rfl (decide_eq_false hc9) fun a ha => ?_
                    refine go1 ha rfl (d_pickF ha rfl (decide_eq_false hc9) rfl) fun a ha => ?_
                    refine go1 ha rfl (d_assign ha rfl) fun a ha => ?_
                    refine nil_ ?_
                    refine hK8 _ _ ?_
                    have ha := ha.to (l' := [(0, _)]) rfl
                    refine wp_ret ?_
                    have hs : Step [some ⟨b1, 0, none⟩, p8, p6, p5, p3, p2, p1] [] w13 w13 := Step.pick _ _ []
                    have r1 := hs.tr r1
                    have r2 := hs.tr r2
                    have r3 := hs.tr r3
                    have r4 := hs.tr r4
                    have hE : Ex w (Av [] No) [] w13 := hE.pick [] (by decide)
                    injection hF with hF
                    subst hF
                    refine fin1 ha Try.results9 rfl ?_
                    exact ⟨rfl, hE⟩
                · refine goOff ha rfl rfl rfl rfl hc8 fun a ha => ?_
                  refine goOff ha rfl rfl rfl rfl hc8 fun a ha => ?_
                  refine goOff ha rfl rfl rfl rfl hc8 fun a ha => ?_
                  refine go1 ha rfl (d_pickF ha rfl hc8 rfl) fun a ha => ?_
                  refine go1 ha rfl (d_move ha rfl) fun a ha => ?_
                  refine goOff ha rfl rfl rfl rfl rfl fun a ha => ?_
                  refine goOff ha rfl rfl rfl rfl rfl fun a ha => ?_
                  refine goOff ha rfl rfl rfl rfl rfl fun a ha => ?_
                  refine go1 ha rfl (d_pickF ha rfl rfl rfl) fun a ha => ?_
                  refine go1 ha rfl (d_assign ha rfl) fun a ha => ?_
                  refine nil_ ?_
                  refine hK8 _ _ ?_
                  have ha := ha.to (l' := [(0, _)]) rfl
                  refine wp_ret ?_
                  have hs : Step [some ⟨b1, 0, none⟩, p8, p6, p5, p3, p2, p1] [] w12 w12 := Step.pick _ _ []
                  have r1 := hs.tr r1
                  have r2 := hs.tr r2
                  have r3 := hs.tr r3
                  have r4 := hs.tr r4
                  have hE : Ex w (Av [] No) [] w12 := hE.pick [] (by decide)
                  injection hF with hF
                  subst hF
                  refine fin1 ha Try.results9 rfl ?_
                  exact ⟨rfl, hE⟩
              · refine goOff ha rfl rfl rfl rfl (decide_eq_false hc7) fun a ha => ?_
                refine goOff ha rfl rfl rfl rfl (decide_eq_false hc7) fun a ha => ?_
                refine go1 ha rfl (d_pickF ha rfl (decide_eq_false hc7) rfl) fun a ha => ?_
                refine go1 ha rfl (d_move ha rfl) fun a ha => ?_
                refine goOff ha rfl rfl rfl rfl rfl fun a ha => ?_
                refine goOff ha rfl rfl rfl rfl rfl fun a ha => ?_
                refine goOff ha rfl rfl rfl rfl rfl fun a ha => ?_
                refine go1 ha rfl (d_pickF ha rfl rfl rfl) fun a ha => ?_
                refine go1 ha rfl (d_move ha rfl) fun a ha => ?_
                refine goOff ha rfl rfl rfl rfl rfl fun a ha => ?_
                refine goOff ha rfl rfl rfl rfl rfl fun a ha => ?_
                refine goOff ha rfl rfl rfl rfl rfl fun a ha => ?_
                refine go1 ha rfl (d_pickF ha rfl rfl rfl) fun a ha => ?_
                refine go1 ha rfl (d_assign ha rfl) fun a ha => ?_
                refine nil_ ?_
                refine hK8 _ _ ?_
                have ha := ha.to (l' := [(0, _)]) rfl
                refine wp_ret ?_
                have hs : Step [some ⟨b1, 0, none⟩, p8, p6, p5, p3, p2, p1] [] w11 w11 := Step.pick _ _ []
                have r1 := hs.tr r1
                have r2 := hs.tr r2
                have r3 := hs.tr r3
                have r4 := hs.tr r4
                have hE : Ex w (Av [] No) [] w11 := hE.pick [] (by decide)
                injection hF with hF
                subst hF
                refine fin1 ha Try.results9 rfl ?_
                exact ⟨rfl, hE⟩
            · refine goOff ha rfl rfl rfl rfl (decide_eq_false hc6) fun a ha => ?_
              refine goOff ha rfl rfl rfl rfl (decide_eq_false hc6) fun a ha => ?_
              refine goOff ha rfl rfl rfl rfl (decide_eq_false hc6) fun a ha => ?_
              refine go1 ha rfl (d_pickF ha rfl (decide_eq_false hc6) rfl) fun a ha => ?_
              refine go1 ha rfl (d_move ha rfl) fun a ha => ?_
              refine goOff ha rfl rfl rfl rfl rfl fun a ha => ?_
              refine goOff ha rfl rfl rfl rfl rfl fun a ha => ?_
              refine go1 ha rfl (d_pickF ha rfl rfl rfl) fun a ha => ?_
              refine go1 ha rfl (d_move ha rfl) fun a ha => ?_
              refine goOff ha rfl rfl rfl rfl rfl fun a ha => ?_
              refine goOff ha rfl rfl rfl rfl rfl fun a ha => ?_
              refine goOff ha rfl rfl rfl rfl rfl fun a ha => ?_
              refine go1 ha rfl (d_pickF ha rfl rfl rfl) fun a ha => ?_
              refine go1 ha rfl (d_move ha rfl) fun a ha => ?_
              refine goOff ha rfl rfl rfl rfl rfl fun a ha => ?_
              refine goOff ha rfl rfl rfl rfl rfl fun a ha => ?_
              refine goOff ha rfl rfl rfl rfl rfl fun a ha => ?_
              refine go1 ha rfl (d_pickF ha rfl rfl rfl) fun a ha => ?_
              refine go1 ha rfl (d_assign ha rfl) fun a ha => ?_
              refine nil_ ?_
              refine hK8 _ _ ?_
              have ha := ha.to (l' := [(0, _)]) rfl
              refine wp_ret ?_
              have hs : Step [some ⟨b1, 0, none⟩, p8, p6, p5, p3, p2, p1] [] w10 w10 := Step.pick _ _ []
              have r1 := hs.tr r1
              have r2 := hs.tr r2
              have r3 := hs.tr r3
              have hE : Ex w (Av [] No) [] w10 := hE.pick [] (by decide)
              injection hF with hF
              subst hF
              refine fin1 ha Try.results9 rfl ?_
              exact ⟨rfl, hE⟩
          · refine goOff ha rfl rfl rfl rfl (decide_eq_false hc5) fun a ha => ?_
            refine goOff ha rfl rfl rfl rfl (decide_eq_false hc5) fun a ha => ?_
            refine go1 ha rfl (d_pickF ha rfl (decide_eq_false hc5) rfl) fun a ha => ?_
            refine go1 ha rfl (d_move ha rfl) fun a ha => ?_
            refine goOff ha rfl rfl rfl rfl rfl fun a ha => ?_
            refine goOff ha rfl rfl rfl rfl rfl fun a ha => ?_
            refine goOff ha rfl rfl rfl rfl rfl fun a ha => ?_
            refine go1 ha rfl (d_pickF ha rfl rfl rfl) fun a ha => ?_
            refine go1 ha rfl (d_move ha rfl) fun a ha => ?_
            refine goOff ha rfl rfl rfl rfl rfl fun a ha => ?_
            refine goOff ha rfl rfl rfl rfl rfl fun a ha => ?_
            refine go1 ha rfl (d_pickF ha rfl rfl rfl) fun a ha => ?_
            refine go1 ha rfl (d_move ha rfl) fun a ha => ?_
            refine goOff ha rfl rfl rfl rfl rfl fun a ha => ?_
            refine goOff ha rfl rfl rfl rfl rfl fun a ha => ?_
            refine goOff ha rfl rfl rfl rfl rfl fun a ha => ?_
            refine go1 ha rfl (d_pickF ha rfl rfl rfl) fun a ha => ?_
            refine go1 ha rfl (d_move ha rfl) fun a ha => ?_
            refine goOff ha rfl rfl rfl rfl rfl fun a ha => ?_
            refine goOff ha rfl rfl rfl rfl rfl fun a ha => ?_
            refine goOff ha rfl rfl rfl rfl rfl fun a ha => ?_
            refine go1 ha rfl (d_pickF ha rfl rfl rfl) fun a ha => ?_
            refine go1 ha rfl (d_assign ha rfl) fun a ha => ?_
            refine nil_ ?_
            refine hK8 _ _ ?_
            have ha := ha.to (l' := [(0, _)]) rfl
            refine wp_ret ?_
            have hs : Step [some ⟨b1, 0, none⟩, p8, p6, p5, p3, p2, p1] [] w10 w10 := Step.pick _ _ []
            have r1 := hs.tr r1
            have r2 := hs.tr r2
            have r3 := hs.tr r3
            have hE : Ex w (Av [] No) [] w10 := hE.pick [] (by decide)
            injection hF with hF
            subst hF
            refine fin1 ha Try.results9 rfl ?_
            exact ⟨rfl, hE⟩
        · refine goOff ha rfl rfl rfl rfl (decide_eq_false hc4) fun a ha => ?_
          refine goOff ha rfl rfl rfl rfl (decide_eq_false hc4) fun a ha => ?_
          refine goOff ha rfl rfl rfl rfl (decide_eq_false hc4) fun a ha => ?_
          refine go1 ha rfl (d_pickF ha rfl (decide_eq_false hc4) rfl) fun a ha => ?_
          refine go1 ha rfl (d_move ha rfl) fun a ha => ?_
          refine goOff ha rfl rfl rfl rfl rfl fun a ha => ?_
          refine goOff ha rfl rfl rfl rfl rfl fun a ha => ?_
          refine go1 ha rfl (d_pickF ha rfl rfl rfl) fun a ha => ?_
          refine go1 ha rfl (d_move ha rfl) fun a ha => ?_
          refine goOff ha rfl rfl rfl rfl rfl fun a ha => ?_
          refine goOff ha rfl rfl rfl rfl rfl fun a ha => ?_
          refine goOff ha rfl rfl rfl rfl rfl fun a ha => ?_
          refine go1 ha rfl (d_pickF ha rfl rfl rfl) fun a ha => ?_
          refine go1 ha rfl (d_move ha rfl) fun a ha => ?_
          refine goOff ha rfl rfl rfl rfl rfl fun a ha => ?_
          refine goOff ha rfl rfl rfl rfl rfl fun a ha => ?_
          refine go1 ha rfl (d_pickF ha rfl rfl rfl) fun a ha => ?_
          refine go1 ha rfl (d_move ha rfl) fun a ha => ?_
          refine goOff ha rfl rfl rfl rfl rfl fun a ha => ?_
          refine goOff ha rfl rfl rfl rfl rfl fun a ha => ?_
          refine goOff ha rfl rfl rfl rfl rfl fun a ha => ?_
          refine go1 ha rfl (d_pickF ha rfl rfl rfl) fun a ha => ?_
          refine go1 ha rfl (d_move ha rfl) fun a ha => ?_
          refine goOff ha rfl rfl rfl rfl rfl fun a ha => ?_
          refine goOff ha rfl rfl rfl rfl rfl fun a ha => ?_
          refine goOff ha rfl rfl rfl rfl rfl fun a ha => ?_
          refine go1 ha rfl (d_pickF ha rfl rfl rfl) fun a ha => ?_
          refine go1 ha rfl (d_assign ha rfl) fun a ha => ?_
          refine nil_ ?_
          refine hK8 _ _ ?_
          have ha := ha.to (l' := [(0, _)]) rfl
          refine wp_ret ?_
          have hs : Step [some ⟨b1, 0, none⟩, p8, p6, p5, p3, p2, p1] [] w10 w10 := Step.pick _ _ []
          have r1 := hs.tr r1
          have r2 := hs.tr r2
          have r3 := hs.tr r3
          have hE : Ex w (Av [] No) [] w10 := hE.pick [] (by decide)
          injection hF with hF
          subst hF
          refine fin1 ha Try.results9 rfl ?_
          exact ⟨rfl, hE⟩
      · refine goOff ha rfl rfl rfl rfl (decide_eq_false hc3) fun a ha => ?_
        refine goOff ha rfl rfl rfl rfl (decide_eq_false hc3) fun a ha => ?_
        refine goOff ha rfl rfl rfl rfl (decide_eq_false hc3) fun a ha => ?_
        refine go1 ha rfl (d_pickF ha rfl (decide_eq_false hc3) rfl) fun a ha => ?_
        refine go1 ha rfl (d_move ha rfl) fun a ha => ?_
        refine goOff ha rfl rfl rfl rfl rfl fun a ha => ?_
        refine goOff ha rfl rfl rfl rfl rfl fun a ha => ?_
        refine goOff ha rfl rfl rfl rfl rfl fun a ha => ?_
        refine go1 ha rfl (d_pickF ha rfl rfl rfl) fun a ha => ?_
        refine go1 ha rfl (d_move ha rfl) fun a ha => ?_
        refine goOff ha rfl rfl rfl rfl rfl fun a ha => ?_
        refine goOff ha rfl rfl rfl rfl rfl fun a ha => ?_
        refine go1 ha rfl (d_pickF ha rfl rfl rfl) fun a ha => ?_
        refine go1 ha rfl (d_move ha rfl) fun a ha => ?_
        refine goOff ha rfl rfl rfl rfl rfl fun a ha => ?_
        refine goOff ha rfl rfl rfl rfl rfl fun a ha => ?_
        refine goOff ha rfl rfl rfl rfl rfl fun a ha => ?_
        refine go1 ha rfl (d_pickF ha rfl rfl rfl) fun a ha => ?_
        refine go1 ha rfl (d_move ha rfl) fun a ha => ?_
        refine goOff ha rfl rfl rfl rfl rfl fun a ha => ?_
        refine goOff ha rfl rfl rfl rfl rfl fun a ha => ?_
        refine go1 ha rfl (d_pickF ha rfl rfl rfl) fun a ha => ?_
        refine go1 ha rfl (d_move ha rfl) fun a ha => ?_
        refine goOff ha rfl rfl rfl rfl rfl fun a ha => ?_
        refine goOff ha rfl rfl rfl rfl rfl fun a ha => ?_
        refine goOff ha rfl rfl rfl rfl rfl fun a ha => ?_
        refine go1 ha rfl (d_pickF ha rfl rfl rfl) fun a ha => ?_
        refine go1 ha rfl (d_move ha rfl) fun a ha => ?_
        refine goOff ha rfl rfl rfl rfl rfl fun a ha => ?_
        refine goOff ha rfl rfl rfl rfl rfl fun a ha => ?_
        refine goOff ha rfl rfl rfl rfl rfl fun a ha => ?_
        refine go1 ha rfl (d_pickF ha rfl rfl rfl) fun a ha => ?_
        refine go1 ha rfl (d_assign ha rfl) fun a ha => ?_
        refine nil_ ?_
        refine hK8 _ _ ?_
        have ha := ha.to (l' := [(0, _)]) rfl
        refine wp_ret ?_
        have hs : Step [some ⟨b1, 0, none⟩, p8, p6, p5, p3, p2, p1] [] w10 w10 := Step.pick _ _ []
        have r1 := hs.tr r1
        have r2 := hs.tr r2
        have r3 := hs.tr r3
        have hE : Ex w (Av [] No) [] w10 := hE.pick [] (by decide)
        injection hF with hF
        subst hF
        refine fin1 ha Try.results9 rfl ?_
        exact ⟨rfl, hE⟩
    · refine goOff ha rfl rfl rfl rfl (decide_eq_false hc2) fun a ha => ?_
      refine goOff ha rfl rfl rfl rfl (decide_eq_false hc2) fun a ha => ?_
      refine goOff ha rfl rfl rfl rfl (decide_eq_false hc2) fun a ha => ?_
      refine go1 ha rfl (d_pickF ha rfl (decide_eq_false hc2) rfl) fun a ha => ?_
      refine go1 ha rfl (d_move ha rfl) fun a ha => ?_
      refine goOff ha rfl rfl rfl rfl rfl fun a ha => ?_
      refine goOff ha rfl rfl rfl rfl rfl fun a ha => ?_
      refine goOff ha rfl rfl rfl rfl rfl fun a ha => ?_
      refine go1 ha rfl (d_pickF ha rfl rfl rfl) fun a ha => ?_
      refine go1 ha rfl (d_move ha rfl) fun a ha => ?_
      refine goOff ha rfl rfl rfl rfl rfl fun a ha => ?_
      refine goOff ha rfl rfl rfl rfl rfl fun a ha => ?_
      refine goOff ha rfl rfl rfl rfl rfl fun a ha => ?_
      refine go1 ha rfl (d_pickF ha rfl rfl rfl) fun a ha => ?_
      refine go1 ha rfl (d_move ha rfl) fun a ha => ?_
      refine goOff ha rfl rfl rfl rfl rfl fun a ha => ?_
      refine goOff ha rfl rfl rfl rfl rfl fun a ha => ?_
      refine go1 ha rfl (d_pickF ha rfl rfl rfl) fun a ha => ?_
      refine go1 ha rfl (d_move ha rfl) fun a ha => ?_
      refine goOff ha rfl rfl rfl rfl rfl fun a ha => ?_
      refine goOff ha rfl rfl rfl rfl rfl fun a ha => ?_
      refine goOff ha rfl rfl rfl rfl rfl fun a ha => ?_
      refine go1 ha rfl (d_pickF ha rfl rfl rfl) fun a ha => ?_
      refine go1 ha rfl (d_move ha rfl) fun a ha => ?_
      refine goOff ha rfl rfl rfl rfl rfl fun a ha => ?_
      refine goOff ha rfl rfl rfl rfl rfl fun a ha => ?_
      refine go1 ha rfl (d_pickF ha rfl rfl rfl) fun a ha => ?_
      refine go1 ha rfl (d_move ha rfl) fun a ha => ?_
      refine goOff ha rfl rfl rfl rfl rfl fun a ha => ?_
      refine goOff ha rfl rfl rfl rfl rfl fun a ha => ?_
      refine goOff ha rfl rfl rfl rfl rfl fun a ha => ?_
      refine go1 ha rfl (d_pickF ha rfl rfl rfl) fun a ha => ?_
      refine go1 ha rfl (d_move ha rfl) fun a ha => ?_
      refine goOff ha rfl rfl rfl rfl rfl fun a ha => ?_
      refine goOff ha rfl rfl rfl rfl rfl fun a ha => ?_
      refine goOff ha rfl rfl rfl rfl rfl fun a ha => ?_
      refine go1 ha rfl (d_pickF ha rfl rfl rfl) fun a ha => ?_
      refine go1 ha rfl (d_assign ha rfl) fun a ha => ?_
      refine nil_ ?_
      refine hK8 _ _ ?_
      have ha := ha.to (l' := [(0, _)]) rfl
      refine wp_ret ?_
      have hs : Step [some ⟨b1, 0, none⟩, p8, p6, p5, p3, p2, p1] [] w10 w10 := Step.pick _ _ []
      have r1 := hs.tr r1
      have r2 := hs.tr r2
      have r3 := hs.tr r3
      have hE : Ex w (Av [] No) [] w10 := hE.pick [] (by decide)
      injection hF with hF
      subst hF
      refine fin1 ha Try.results9 rfl ?_
      exact ⟨rfl, hE⟩
  · refine goOff ha rfl rfl rfl rfl (decide_eq_false hc1) fun a ha => ?_
    refine goOff ha rfl rfl rfl rfl (decide_eq_false hc1) fun a ha => ?_
    refine go1 ha rfl (d_pickF ha rfl (decide_eq_false hc1) rfl) fun a ha => ?_
    refine go1 ha rfl (d_move ha rfl) fun a ha => ?_
    refine goOff ha rfl rfl rfl rfl rfl fun a ha => ?_
    refine goOff ha rfl rfl rfl rfl rfl fun a ha => ?_
    refine goOff ha rfl rfl rfl rfl rfl fun a ha => ?_
    refine go1 ha rfl (d_pickF ha rfl rfl rfl) fun a ha => ?_
    refine go1 ha rfl (d_move ha rfl) fun a ha => ?_
    refine goOff ha rfl rfl rfl rfl rfl fun a ha => ?_
    refine goOff ha rfl rfl rfl rfl rfl fun a ha => ?_
    refine goOff ha rfl rfl rfl rfl rfl fun a ha => ?_
    refine go1 ha rfl (d_pickF ha rfl rfl rfl) fun a ha => ?_
    refine go1 ha rfl (d_move ha rfl) fun a ha => ?_
    refine goOff ha rfl rfl rfl rfl rfl fun a ha => ?_
    refine goOff ha rfl rfl rfl rfl rfl fun a ha => ?_
    refine goOff ha rfl rfl rfl rfl rfl fun a ha => ?_
    refine go1 ha rfl (d_pickF ha rfl rfl rfl) fun a ha => ?_
    refine go1 ha rfl (d_move ha rfl) fun a ha => ?_
    refine goOff ha rfl rfl rfl rfl rfl fun a ha => ?_
    refine goOff ha rfl rfl rfl rfl rfl fun a ha => ?_
    refine go1 ha rfl (d_pickF ha rfl rfl rfl) fun a ha => ?_
    refine go1 ha rfl (d_move ha rfl) fun a ha => ?_
    refine goOff ha rfl rfl rfl rfl rfl fun a ha => ?_
    refine goOff ha rfl rfl rfl rfl rfl fun a ha => ?_
    refine goOff ha rfl rfl rfl rfl rfl fun a ha => ?_
    refine go1 ha rfl (d_pickF ha rfl rfl rfl) fun a ha => ?_
    refine go1 ha rfl (d_move ha rfl) fun a ha => ?_
    refine goOff ha rfl rfl rfl rfl rfl fun a ha => ?_
    refine goOff ha rfl rfl rfl rfl rfl fun a ha => ?_
    refine go1 ha rfl (d_pickF ha rfl rfl rfl) fun a ha => ?_
    refine go1 ha rfl (d_move ha rfl) fun a ha => ?_
    refine goOff ha rfl rfl rfl rfl rfl fun a ha => ?_
    refine goOff ha rfl rfl rfl rfl rfl fun a ha => ?_
    refine goOff ha rfl rfl rfl rfl rfl fun a ha => ?_
    refine go1 ha rfl (d_pickF ha rfl rfl rfl) fun a ha => ?_
    refine go1 ha rfl (d_move ha rfl) fun a ha => ?_
    refine goOff ha rfl rfl rfl rfl rfl fun a ha => ?_
    refine goOff ha rfl rfl rfl rfl rfl fun a ha => ?_
    refine goOff ha rfl rfl rfl rfl rfl fun a ha => ?_
    refine go1 ha rfl (d_pickF ha rfl rfl rfl) fun a ha => ?_
    refine go1 ha rfl (d_assign ha rfl) fun a ha => ?_
    refine nil_ ?_
    refine hK8 _ _ ?_
    have ha := ha.to (l' := [(0, _)]) rfl
    refine wp_ret ?_
    have hs : Step [some ⟨b1, 0, none⟩, p8, p6, p5, p3, p2, p1] [] w10 w10 := Step.pick _ _ []
    have r1 := hs.tr r1
    have r2 := hs.tr r2
    have r3 := hs.tr r3
    have hE : Ex w (Av [] No) [] w10 := hE.pick [] (by decide)
    injection hF with hF
    subst hF
    refine fin1 ha Try.results9 rfl ?_
    exact ⟨rfl, hE⟩

def warderref01_Put_l1 (k : Nat) (a1 : Int) : Nat → Int → (List Int) → Int → Option ((List Int) × Int)
  | 0, _, _, _ => none
  | k1 + 1, x1, x2, x3 =>
    (if x3 < a1 then (ck ((x2.length + ([IntKind.u8.wrap (x1.tmod (256 : Int))] : List (Int)).length) * 1 ≤ 140737488355328) (warderref01_Put_l1 k a1 k1 (IntKind.u64.wrap (x1.tdiv (256 : Int))) (x2 ++ ([IntKind.u8.wrap (x1.tmod (256 : Int))] : List (Int))) (IntKind.i64.wrap (x3 + (1 : Int))))) else (if (0 : Int) < x1 then (some (([] : List (Int)), (2 : Int))) else (some (x2, (0 : Int)))))

def warderref01_Put_j0 (k : Nat) (a0 : Int) (a1 : Int) : Option ((List Int) × Int) :=
  (warderref01_Put_l1 k a1 k a0 ([] : List (Int)) (0 : Int))

def warderref01_Put (k : Nat) (a0 : Int) (a1 : Int) : Option ((List Int) × Int) :=
  (if a1 < (1 : Int) then (some (([] : List (Int)), (2 : Int))) else (if (8 : Int) < a1 then (some (([] : List (Int)), (2 : Int))) else (warderref01_Put_j0 k a0 a1)))

set_option maxHeartbeats 4000000 in
set_option maxRecDepth 100000 in
theorem warderref01_Put_c (k : Nat) (a0 : Int) (a1 : Int)  (W : Nat → Prop) (w : World) (hW : ∀ k, W k → k < w.heap.size) (r : (List Int) × Int) (hF : warderref01_Put k a0 a1 = some r) :
    Calls Try.prog 11 [.int .u64 a0, .int .i64 a1].toArray w (Ret fun v w' => ∃ (u1 : Option Addr) (d1 : Nat), v = .tuple #[.slice u1 r.1.length d1, .int .i64 r.2] ∧ Ex w (Av [] No) [u1] w' ∧ Ow (Av [u1] W) w' 5 (Kd.int .u8) u1 d1 r.1) := by
  unfold warderref01_Put at hF
  refine enter [(0, .int .u64 a0), (1, .int .i64 a1)] Try.func11 rfl Try.ntmps11 rfl rfl fun a ha => ?_
  have hE : Ex w (Av [] No) [] w := Ex.refl w _
  have hW0 : ∀ p, some p ∈ ([] : List (Option Addr)) → ¬ W p.block := fun _ h => by cases h
  refine wp_seq_k (fun K1 hK1 => ?_)
  refine wreg ?_
  refine go1 ha rfl (d_assign ha rfl) fun a ha => ?_
  refine go1 ha rfl (d_assign ha rfl) fun a ha => ?_
  refine nil_ ?_
  refine hK1 _ _ ?_
  have ha := ha.to (l' := [(0, _), (1, _)]) rfl
  refine wseqJ (fun a w1 => Has 30 [(0, .int .u64 a0), (1, .int .i64 a1)] a ∧ Ex w (Av [] No) [] w1 ∧ warderref01_Put_j0 k a0 a1 = some r) ?_ ?_
  · rintro a w1 ⟨ha, hE, hF⟩
    unfold warderref01_Put_j0 at hF
    refine wp_seq_k (fun K7 hK7 => ?_)
    refine wreg ?_
    refine go1 ha rfl (d_assign ha rfl) fun a ha => ?_
    refine nil_ ?_
    refine hK7 _ _ ?_
    have ha := ha.to (l' := [(0, _), (1, _), (6, _)]) rfl
    refine wp_seq_k (fun K8 hK8 => ?_)
    refine wp_seq_k (fun K9 hK9 => ?_)
    refine wreg ?_
    refine go1 ha rfl (d_assign ha rfl) fun a ha => ?_
    refine nil_ ?_
    refine hK9 _ _ ?_
    have ha := ha.to (l' := [(0, _), (1, _), (6, _), (7, _)]) rfl
    refine wp_block ?_
    have hs := Step.add (a := none) [] (Fr.refl w1 No) (fun _ h => by cases h)
    have hE : Ex w (Av [] No) [none] w1 := hE.add (a := none) (Fr.refl w1 No) (fun _ h => by cases h)
    have o6 := Ow.nil (Av [none] W) w1 5 (Kd.int .u8)
    refine wloopJ (fun k' a w2 => ∃ (x1 : Int) (x2 : List Int) (p1 : Option Addr) (c1 : Nat) (x3 : Int), Has 30 [(0, .int .u64 x1), (1, .int .i64 a1), (6, .slice p1 x2.length c1), (7, .int .i64 x3)] a ∧ Ex w (Av [] No) [p1] w2 ∧ Ow (Av [p1] W) w2 5 (Kd.int .u8) p1 c1 x2 ∧ warderref01_Put_l1 k a1 k' x1 x2 x3 = some r) k ⟨a0, ([] : List (Int)), _, _, (0 : Int), ha.to rfl, hE, o6, hF⟩ ?_
    rintro k1 a w2 ⟨x1, x2, p1, c1, x3, ha, hE, o3, hF⟩ K10 hK10
    cases k1 with
    | zero => cases hF
    | succ k1 =>
      rw [warderref01_Put_l1] at hF
      refine wp_seq_k (fun K11 hK11 => ?_)
      refine wp_seq_k (fun K12 hK12 => ?_)
      refine wreg ?_
      refine go1 ha rfl (d_move ha rfl) fun a ha => ?_
      refine go1 ha rfl (d_move ha rfl) fun a ha => ?_
      refine go1 ha rfl (d_lt ha rfl rfl) fun a ha => ?_
      refine nil_ ?_
      refine hK12 _ _ ?_
      have ha := ha.to (l' := [(0, _), (1, _), (6, _), (7, _), (16, _)]) rfl
      rcases ite_elim hF with ⟨hc3, hF⟩ | ⟨hc3, hF⟩
      · refine wcond_t ha rfl (decide_eq_true hc3) ?_
        refine wp_skip ?_
        refine hK11 _ _ ?_
        have ha := ha.to (l' := [(0, _), (1, _), (6, _), (7, _)]) rfl
        refine wp_seq_k (fun K13 hK13 => ?_)
        refine wp_block ?_
        refine wp_seq_k (fun K14 hK14 => ?_)
        refine wreg ?_
        refine go1 ha rfl (d_move ha rfl) fun a ha => ?_
        refine go1 ha rfl (d_move ha rfl) fun a ha => ?_
        refine go1 ha rfl (d_rem ha rfl rfl (by decide)) fun a ha => ?_
        refine go1 ha rfl (d_cvt ha Try.underlying22 Try.underlying5 rfl) fun a ha => ?_
        refine goR ha rfl (d_buildSlice (B := W) (kd := (Kd.int .u8)) (xs := ([IntKind.u8.wrap (x1.tmod (256 : Int))] : List (Int))) (vs := [.int .u8 (IntKind.u8.wrap (x1.tmod (256 : Int)))]) ha Try.underlying23 Try.sizeOf5 Try.zeroValue5 rfl (Els.cons (c := [.int .u8 (IntKind.u8.wrap (x1.tmod (256 : Int)))]) (rfl) Els.nil) (by simp [Value.cells, Kd.int, Kd.scalar, Kd.bool, Kd.str, Kd.pair, Kd.sl]) rfl rfl (by decide) (by decide) hE) fun v w3 a h ha => ?_
        obtain ⟨p2, c2, rfl, hs, hE, hf, o4⟩ := h
        have o3 := o3.keep hf (fun _ _ h => h) (fun _ _ h => hs.trK h)
        obtain ⟨hc4, hF⟩ := ck_elim hF
        refine goR ha rfl (d_append (B := W) (kd := (Kd.int .u8)) (zv := .int .u8 (0 : Int)) (bytes := 1) (lf := [p2]) (rt := []) (fun q => [p2, q]) (fun _ => rfl) ha Try.underlying23 (by kernel_rfl) rfl (by decide) (by decide) rfl rfl hE o3 o4.rawNo (fun _ _ h => ((Kd.Flat.int _)).eq h) hc4) fun v w4 a h ha => ?_
        obtain ⟨p3, c3, rfl, hs, hE1, hf, o3⟩ := h
        have o4 := o4.keep hf (hE.off 1 0 rfl rfl (by decide)) (fun _ _ h => hs.trK h)
        have hE := hE1
        refine go1 ha rfl (d_assign ha rfl) fun a ha => ?_
        refine nil_ ?_
        refine hK14 _ _ ?_
        have ha := ha.to (l' := [(0, _), (1, _), (6, _), (7, _)]) rfl
        refine wreg ?_
        refine go1 ha rfl (d_move ha rfl) fun a ha => ?_
        refine go1 ha rfl (d_quo ha rfl rfl (by decide)) fun a ha => ?_
        refine go1 ha rfl (d_assign ha rfl) fun a ha => ?_
        refine nil_ ?_
        refine hK13 _ _ ?_
        have ha := ha.to (l' := [(0, _), (1, _), (6, _), (7, _)]) rfl
        refine wreg ?_
        refine go1 ha rfl (d_move ha rfl) fun a ha => ?_
        refine go1 ha rfl (d_add ha rfl rfl) fun a ha => ?_
        refine go1 ha rfl (d_assign ha rfl) fun a ha => ?_
        refine nil_ ?_
        have hs : Step [p2, p3] [p3] w4 w4 := Step.pick _ _ [1]
        have o3 := o3.keep (Fr.refl _ No) (fun _ _ h => h) (fun _ _ h => hs.trK h)
        have hE : Ex w (Av [] No) [p3] w4 := hE.pick [1] (by decide)
        exact hK10 k1 _ _ (Nat.lt_succ_self _) ⟨(IntKind.u64.wrap (x1.tdiv (256 : Int))), (x2 ++ ([IntKind.u8.wrap (x1.tmod (256 : Int))] : List (Int))), _, _, (IntKind.i64.wrap (x3 + (1 : Int))), ha.to rfl, hE, o3, hF⟩
      · refine wcond_f ha rfl (decide_eq_false hc3) ?_
        refine wp_exit ?_
        refine hK8 _ _ ?_
        have ha := ha.to (l' := [(0, _), (6, _)]) rfl
        refine wp_seq_k (fun K15 hK15 => ?_)
        refine wp_seq_k (fun K16 hK16 => ?_)
        refine wreg ?_
        refine go1 ha rfl (d_move ha rfl) fun a ha => ?_
        refine go1 ha rfl (d_gt ha rfl rfl) fun a ha => ?_
        refine nil_ ?_
        refine hK16 _ _ ?_
        have ha := ha.to (l' := [(6, _), (28, _)]) rfl
        rcases ite_elim hF with ⟨hc5, hF⟩ | ⟨hc5, hF⟩
        · refine wcond_t ha rfl (decide_eq_true hc5) ?_
          refine wp_seq_k (fun K17 hK17 => ?_)
          refine wreg ?_
          refine go1 ha rfl (d_assign ha rfl) fun a ha => ?_
          refine go1 ha rfl (d_assign ha rfl) fun a ha => ?_
          refine nil_ ?_
          refine hK17 _ _ ?_
          have ha := ha.to (l' := [(4, _), (5, _)]) rfl
          refine wp_ret ?_
          have hs := Step.add (a := none) [p1] (Fr.refl w2 No) (fun _ h => by cases h)
          have o3 := o3.keep (Fr.refl _ No) (fun _ _ h => h) (fun _ _ h => hs.trK h)
          have hE : Ex w (Av [] No) [none, p1] w2 := hE.add (a := none) (Fr.refl w2 No) (fun _ h => by cases h)
          have o5 := Ow.nil (Av [none, p1] W) w2 5 (Kd.int .u8)
          have hs : Step [none, p1] [none] w2 w2 := Step.pick _ _ [0]
          have o5 := o5.keep (Fr.refl _ No) (fun _ _ h => h) (fun _ _ h => hs.trK h)
          have hE : Ex w (Av [] No) [none] w2 := hE.pick [0] (by decide)
          injection hF with hF
          subst hF
          refine finN ha Try.results11 (.tmp rfl (.tmp rfl .nil)) (by simp) ?_
          exact ⟨_, _, rfl, hE, o5⟩
        · refine wcond_f ha rfl (decide_eq_false hc5) ?_
          refine wp_skip ?_
          refine hK15 _ _ ?_
          have ha := ha.to (l' := [(6, _)]) rfl
          refine wp_seq_k (fun K18 hK18 => ?_)
          refine wreg ?_
          refine go1 ha rfl (d_move ha rfl) fun a ha => ?_
          refine go1 ha rfl (d_assign ha rfl) fun a ha => ?_
          refine go1 ha rfl (d_assign ha rfl) fun a ha => ?_
          refine nil_ ?_
          refine hK18 _ _ ?_
          have ha := ha.to (l' := [(4, _), (5, _)]) rfl
          refine wp_ret ?_
          injection hF with hF
          subst hF
          refine finN ha Try.results11 (.tmp rfl (.tmp rfl .nil)) (by simp) ?_
          exact ⟨_, _, rfl, hE, o3⟩
  · intro K3 hK3
    refine wp_seq_k (fun K4 hK4 => ?_)
    refine wreg ?_
    refine go1 ha rfl (d_move ha rfl) fun a ha => ?_
    refine go1 ha rfl (d_lt ha rfl rfl) fun a ha => ?_
    refine go1 ha rfl (d_move ha rfl) fun a ha => ?_
    rcases ite_elim hF with ⟨hc1, hF⟩ | ⟨hc1, hF⟩
    · refine goOff ha rfl rfl rfl rfl (decide_eq_true hc1) fun a ha => ?_
      refine goOff ha rfl rfl rfl rfl (decide_eq_true hc1) fun a ha => ?_
      refine go1 ha rfl (d_pick ha rfl (decide_eq_true hc1) rfl) fun a ha => ?_
      refine nil_ ?_
      refine hK4 _ _ ?_
      have ha := ha.to (l' := [(0, _), (1, _), (13, _)]) rfl
      refine wcond_t ha rfl rfl ?_
      refine wp_seq_k (fun K5 hK5 => ?_)
      refine wreg ?_
      refine go1 ha rfl (d_assign ha rfl) fun a ha => ?_
      refine go1 ha rfl (d_assign ha rfl) fun a ha => ?_
      refine nil_ ?_
      refine hK5 _ _ ?_
      have ha := ha.to (l' := [(4, _), (5, _)]) rfl
      refine wp_ret ?_
      have hs := Step.add (a := none) [] (Fr.refl w No) (fun _ h => by cases h)
      have hE : Ex w (Av [] No) [none] w := hE.add (a := none) (Fr.refl w No) (fun _ h => by cases h)
      have o1 := Ow.nil (Av [none] W) w 5 (Kd.int .u8)
      injection hF with hF
      subst hF
      refine finN ha Try.results11 (.tmp rfl (.tmp rfl .nil)) (by simp) ?_
      exact ⟨_, _, rfl, hE, o1⟩
    · refine goOn1 ha rfl rfl rfl rfl (decide_eq_false hc1) (d_move ha rfl) fun a ha => ?_
      refine goOn1 ha rfl rfl rfl rfl (decide_eq_false hc1) (d_gt ha rfl rfl) fun a ha => ?_
      refine go1 ha rfl (d_pickF ha rfl (decide_eq_false hc1) rfl) fun a ha => ?_
      refine nil_ ?_
      refine hK4 _ _ ?_
      have ha := ha.to (l' := [(0, _), (1, _), (13, _)]) rfl
      rcases ite_elim hF with ⟨hc2, hF⟩ | ⟨hc2, hF⟩
      · refine wcond_t ha rfl (decide_eq_true hc2) ?_
        refine wp_seq_k (fun K6 hK6 => ?_)
        refine wreg ?_
        refine go1 ha rfl (d_assign ha rfl) fun a ha => ?_
        refine go1 ha rfl (d_assign ha rfl) fun a ha => ?_
        refine nil_ ?_
        refine hK6 _ _ ?_
        have ha := ha.to (l' := [(4, _), (5, _)]) rfl
        refine wp_ret ?_
        have hs := Step.add (a := none) [] (Fr.refl w No) (fun _ h => by cases h)
        have hE : Ex w (Av [] No) [none] w := hE.add (a := none) (Fr.refl w No) (fun _ h => by cases h)
        have o2 := Ow.nil (Av [none] W) w 5 (Kd.int .u8)
        injection hF with hF
        subst hF
        refine finN ha Try.results11 (.tmp rfl (.tmp rfl .nil)) (by simp) ?_
        exact ⟨_, _, rfl, hE, o2⟩
      · refine wcond_f ha rfl (decide_eq_false hc2) ?_
        refine wp_skip ?_
        exact hK3 _ _ ⟨ha.to rfl, hE, hF⟩

def warderref01_Whole_j1 (k : Nat) (x1 : Int) : Option ((List Int) × Int) :=
  ((warderref01_Put k (IntKind.u64.wrap x1) (4 : Int)).bind fun t1 => (some (t1.1, t1.2)))

def warderref01_Whole_j0 (k : Nat) (a0 : Int) : Option ((List Int) × Int) :=
  (if a0 < (0 : Int) then (warderref01_Whole_j1 k (IntKind.i64.wrap (a0 + (4294967296 : Int)))) else (warderref01_Whole_j1 k a0))

def warderref01_Whole (k : Nat) (a0 : Int) : Option ((List Int) × Int) :=
  (if a0 < (-2147483648 : Int) then (some (([] : List (Int)), (2 : Int))) else (if (2147483647 : Int) < a0 then (some (([] : List (Int)), (2 : Int))) else (warderref01_Whole_j0 k a0)))

set_option maxHeartbeats 4000000 in
set_option maxRecDepth 100000 in
theorem warderref01_Whole_c (k : Nat) (a0 : Int)  (W : Nat → Prop) (w : World) (hW : ∀ k, W k → k < w.heap.size) (r : (List Int) × Int) (hF : warderref01_Whole k a0 = some r) :
    Calls Try.prog 13 [.int .i64 a0].toArray w (Ret fun v w' => ∃ (u1 : Option Addr) (d1 : Nat), v = .tuple #[.slice u1 r.1.length d1, .int .i64 r.2] ∧ Ex w (Av [] No) [u1] w' ∧ Ow (Av [u1] W) w' 5 (Kd.int .u8) u1 d1 r.1) := by
  unfold warderref01_Whole at hF
  refine enter [(0, .int .i64 a0)] Try.func13 rfl Try.ntmps13 rfl rfl fun a ha => ?_
  have hE : Ex w (Av [] No) [] w := Ex.refl w _
  have hW0 : ∀ p, some p ∈ ([] : List (Option Addr)) → ¬ W p.block := fun _ h => by cases h
  refine wp_seq_k (fun K1 hK1 => ?_)
  refine wreg ?_
  refine go1 ha rfl (d_assign ha rfl) fun a ha => ?_
  refine go1 ha rfl (d_assign ha rfl) fun a ha => ?_
  refine nil_ ?_
  refine hK1 _ _ ?_
  have ha := ha.to (l' := [(0, _)]) rfl
  refine wseqJ (fun a w1 => Has 19 [(0, .int .i64 a0)] a ∧ Ex w (Av [] No) [] w1 ∧ warderref01_Whole_j0 k a0 = some r) ?_ ?_
  · rintro a w1 ⟨ha, hE, hF⟩
    unfold warderref01_Whole_j0 at hF
    refine wseqJ (fun a w2 => ∃ (x1 : Int), Has 19 [(0, .int .i64 x1)] a ∧ Ex w (Av [] No) [] w2 ∧ warderref01_Whole_j1 k x1 = some r) ?_ ?_
    · rintro a w2 ⟨x1, ha, hE, hF⟩
      unfold warderref01_Whole_j1 at hF
      refine wp_seq_k (fun K10 hK10 => ?_)
      refine wreg ?_
      refine go1 ha rfl (d_move ha rfl) fun a ha => ?_
      refine go1 ha rfl (d_cvt ha Try.underlying3 Try.underlying22 rfl) fun a ha => ?_
      obtain ⟨t1, ht1, hF⟩ := bind_elim hF
      refine goR ha rfl (d_call Try.call11 ha (vs := [.int .u64 (IntKind.u64.wrap x1), .int .i64 (4 : Int)]) rfl (warderref01_Put_c k (IntKind.u64.wrap x1) (4 : Int)  (Av [] W) _ (Ex.wlt (as0 := []) (rr := []) (ro := []) hE hW)  _ ht1)) fun v w3 a h ha => ?_
      obtain ⟨p1, c1, rfl, hC, o3⟩ := h
      have hs : Step [] [p1] w2 w3 := hC.callStep []
      have o3 : Ow (Av [p1] W) w3 5 (Kd.int .u8) p1 c1 t1.1 := o3.alone (Kd.Flat.int _)
      have hE : Ex w (Av [] No) [p1] w3 := Ex.call (as0 := []) (rt := []) hE hC
      refine go1 ha rfl (d_extract ha rfl rfl) fun a ha => ?_
      refine go1 ha rfl (d_extract ha rfl rfl) fun a ha => ?_
      refine go1 ha rfl (d_assign ha rfl) fun a ha => ?_
      refine go1 ha rfl (d_assign ha rfl) fun a ha => ?_
      refine nil_ ?_
      refine hK10 _ _ ?_
      have ha := ha.to (l' := [(2, _), (3, _)]) rfl
      refine wp_ret ?_
      injection hF with hF
      subst hF
      refine finN ha Try.results13 (.tmp rfl (.tmp rfl .nil)) (by simp) ?_
      exact ⟨_, _, rfl, hE, o3⟩
    · intro K8 hK8
      refine wp_seq_k (fun K9 hK9 => ?_)
      refine wreg ?_
      refine go1 ha rfl (d_move ha rfl) fun a ha => ?_
      refine go1 ha rfl (d_lt ha rfl rfl) fun a ha => ?_
      refine nil_ ?_
      refine hK9 _ _ ?_
      have ha := ha.to (l' := [(0, _), (11, _)]) rfl
      rcases ite_elim hF with ⟨hc3, hF⟩ | ⟨hc3, hF⟩
      · refine wcond_t ha rfl (decide_eq_true hc3) ?_
        refine wreg ?_
        refine go1 ha rfl (d_move ha rfl) fun a ha => ?_
        refine go1 ha rfl (d_add ha rfl rfl) fun a ha => ?_
        refine go1 ha rfl (d_assign ha rfl) fun a ha => ?_
        refine nil_ ?_
        exact hK8 _ _ ⟨(IntKind.i64.wrap (a0 + (4294967296 : Int))), ha.to rfl, hE, hF⟩
      · refine wcond_f ha rfl (decide_eq_false hc3) ?_
        refine wp_skip ?_
        exact hK8 _ _ ⟨a0, ha.to rfl, hE, hF⟩
  · intro K3 hK3
    refine wp_seq_k (fun K4 hK4 => ?_)
    refine wreg ?_
    refine go1 ha rfl (d_move ha rfl) fun a ha => ?_
    refine go1 ha rfl (d_lt ha rfl rfl) fun a ha => ?_
    refine go1 ha rfl (d_move ha rfl) fun a ha => ?_
    rcases ite_elim hF with ⟨hc1, hF⟩ | ⟨hc1, hF⟩
    · refine goOff ha rfl rfl rfl rfl (decide_eq_true hc1) fun a ha => ?_
      refine goOff ha rfl rfl rfl rfl (decide_eq_true hc1) fun a ha => ?_
      refine go1 ha rfl (d_pick ha rfl (decide_eq_true hc1) rfl) fun a ha => ?_
      refine nil_ ?_
      refine hK4 _ _ ?_
      have ha := ha.to (l' := [(0, _), (9, _)]) rfl
      refine wcond_t ha rfl rfl ?_
      refine wp_seq_k (fun K5 hK5 => ?_)
      refine wreg ?_
      refine go1 ha rfl (d_assign ha rfl) fun a ha => ?_
      refine go1 ha rfl (d_assign ha rfl) fun a ha => ?_
      refine nil_ ?_
      refine hK5 _ _ ?_
      have ha := ha.to (l' := [(2, _), (3, _)]) rfl
      refine wp_ret ?_
      have hs := Step.add (a := none) [] (Fr.refl w No) (fun _ h => by cases h)
      have hE : Ex w (Av [] No) [none] w := hE.add (a := none) (Fr.refl w No) (fun _ h => by cases h)
      have o1 := Ow.nil (Av [none] W) w 5 (Kd.int .u8)
      injection hF with hF
      subst hF
      refine finN ha Try.results13 (.tmp rfl (.tmp rfl .nil)) (by simp) ?_
      exact ⟨_, _, rfl, hE, o1⟩
    · refine goOn1 ha rfl rfl rfl rfl (decide_eq_false hc1) (d_move ha rfl) fun a ha => ?_
      refine goOn1 ha rfl rfl rfl rfl (decide_eq_false hc1) (d_gt ha rfl rfl) fun a ha => ?_
      refine go1 ha rfl (d_pickF ha rfl (decide_eq_false hc1) rfl) fun a ha => ?_
      refine nil_ ?_
      refine hK4 _ _ ?_
      have ha := ha.to (l' := [(0, _), (9, _)]) rfl
      rcases ite_elim hF with ⟨hc2, hF⟩ | ⟨hc2, hF⟩
      · refine wcond_t ha rfl (decide_eq_true hc2) ?_
        refine wp_seq_k (fun K6 hK6 => ?_)
        refine wreg ?_
        refine go1 ha rfl (d_assign ha rfl) fun a ha => ?_
        refine go1 ha rfl (d_assign ha rfl) fun a ha => ?_
        refine nil_ ?_
        refine hK6 _ _ ?_
        have ha := ha.to (l' := [(2, _), (3, _)]) rfl
        refine wp_ret ?_
        have hs := Step.add (a := none) [] (Fr.refl w No) (fun _ h => by cases h)
        have hE : Ex w (Av [] No) [none] w := hE.add (a := none) (Fr.refl w No) (fun _ h => by cases h)
        have o2 := Ow.nil (Av [none] W) w 5 (Kd.int .u8)
        injection hF with hF
        subst hF
        refine finN ha Try.results13 (.tmp rfl (.tmp rfl .nil)) (by simp) ?_
        exact ⟨_, _, rfl, hE, o2⟩
      · refine wcond_f ha rfl (decide_eq_false hc2) ?_
        refine wp_skip ?_
        exact hK3 _ _ ⟨ha.to rfl, hE, hF⟩

def warderref01_Blob_j0 (k : Nat) (a0 : List Int) (a1 : Int) : Option ((List Int) × Int) :=
  ((warderref01_Put k (IntKind.u64.wrap (a0.length : Int)) a1).bind fun t1 => (if t1.2 = (0 : Int) then (ck ((t1.1.length + a0.length) * 1 ≤ 140737488355328) (some ((t1.1 ++ a0), (0 : Int)))) else (some (([] : List (Int)), (17 : Int)))))

def warderref01_Blob (k : Nat) (a0 : List Int) (a1 : Int) : Option ((List Int) × Int) :=
  (if a1 = (1 : Int) then (warderref01_Blob_j0 k a0 a1) else (if a1 = (2 : Int) then (warderref01_Blob_j0 k a0 a1) else (some (([] : List (Int)), (2 : Int)))))

set_option maxHeartbeats 4000000 in
set_option maxRecDepth 100000 in
theorem warderref01_Blob_c (k : Nat) (a0 : List Int) (a1 : Int) (p1 : Option Addr) (c1 : Nat) (W : Nat → Prop) (w : World) (hW : ∀ k, W k → k < w.heap.size) (r1 : Raw (Av [] W) (Kd.int .u8) w.heap p1 c1 a0) (r : (List Int) × Int) (hF : warderref01_Blob k a0 a1 = some r) :
    Calls Try.prog 15 [.slice p1 a0.length c1, .int .i64 a1].toArray w (Ret fun v w' => ∃ (u1 : Option Addr) (d1 : Nat), v = .tuple #[.slice u1 r.1.length d1, .int .i64 r.2] ∧ Ex w (Av [] No) [u1] w' ∧ Ow (Av [u1] W) w' 5 (Kd.int .u8) u1 d1 r.1) := by
  unfold warderref01_Blob at hF
  refine enter [(0, .slice p1 a0.length c1), (1, .int .i64 a1)] Try.func15 rfl Try.ntmps15 rfl rfl fun a ha => ?_
  have hE : Ex w (Av [] No) [] w := Ex.refl w _
  have hW0 : ∀ p, some p ∈ ([] : List (Option Addr)) → ¬ W p.block := fun _ h => by cases h
  refine wp_seq_k (fun K1 hK1 => ?_)
  refine wreg ?_
  refine go1 ha rfl (d_assign ha rfl) fun a ha => ?_
  refine go1 ha rfl (d_assign ha rfl) fun a ha => ?_
  refine nil_ ?_
  refine hK1 _ _ ?_
  have ha := ha.to (l' := [(0, _), (1, _)]) rfl
  refine wseqJ (fun a w1 => Has 27 [(0, .slice p1 a0.length c1), (1, .int .i64 a1)] a ∧ Ex w (Av [] No) [] w1 ∧ Raw (Av [] W) (Kd.int .u8) w1.heap p1 c1 a0 ∧ warderref01_Blob_j0 k a0 a1 = some r) ?_ ?_
  · rintro a w1 ⟨ha, hE, r1, hF⟩
    unfold warderref01_Blob_j0 at hF
    refine wp_seq_k (fun K6 hK6 => ?_)
    refine wreg ?_
    refine go1 ha rfl (d_move ha rfl) fun a ha => ?_
    refine go1 ha rfl (d_lenSlice ha Try.underlying23 rfl) fun a ha => ?_
    refine go1 ha rfl (d_cvt ha Try.underlying3 Try.underlying22 rfl) fun a ha => ?_
    refine go1 ha rfl (d_move ha rfl) fun a ha => ?_
    obtain ⟨t1, ht1, hF⟩ := bind_elim hF
    refine goR ha rfl (d_call Try.call11 ha (vs := [.int .u64 (IntKind.u64.wrap (a0.length : Int)), .int .i64 a1]) rfl (warderref01_Put_c k (IntKind.u64.wrap (a0.length : Int)) a1  (Av [] W) _ (Ex.wlt (as0 := []) (rr := []) (ro := []) hE hW)  _ ht1)) fun v w2 a h ha => ?_
    obtain ⟨p2, c2, rfl, hC, o2⟩ := h
    have hs : Step [] [p2] w1 w2 := hC.callStep []
    have r1 := hs.tr r1
    have o2 : Ow (Av [p2] W) w2 5 (Kd.int .u8) p2 c2 t1.1 := o2.alone (Kd.Flat.int _)
    have hE : Ex w (Av [] No) [p2] w2 := Ex.call (as0 := []) (rt := []) hE hC
    refine go1 ha rfl (d_move ha rfl) fun a ha => ?_
    refine go1 ha rfl (d_extract ha rfl rfl) fun a ha => ?_
    refine go1 ha rfl (d_extract ha rfl rfl) fun a ha => ?_
    refine go1 ha rfl (d_assign ha rfl) fun a ha => ?_
    refine go1 ha rfl (d_assign ha rfl) fun a ha => ?_
    refine nil_ ?_
    refine hK6 _ _ ?_
    have ha := ha.to (l' := [(0, _), (6, _), (7, _)]) rfl
    refine wp_seq_k (fun K7 hK7 => ?_)
    refine wp_seq_k (fun K8 hK8 => ?_)
    refine wreg ?_
    refine go1 ha rfl (d_move ha rfl) fun a ha => ?_
    refine go1 ha rfl (d_neI ha rfl rfl) fun a ha => ?_
    refine nil_ ?_
    refine hK8 _ _ ?_
    have ha := ha.to (l' := [(0, _), (6, _), (23, _)]) rfl
    rcases ite_elim hF with ⟨hc3, hF⟩ | ⟨hc3, hF⟩
    · refine wcond_f ha rfl (not_t (decide_eq_true hc3)) ?_
      refine wp_skip ?_
      refine hK7 _ _ ?_
      have ha := ha.to (l' := [(0, _), (6, _)]) rfl
      refine wp_seq_k (fun K10 hK10 => ?_)
      refine wreg ?_
      refine go1 ha rfl (d_move ha rfl) fun a ha => ?_
      refine go1 ha rfl (d_move ha rfl) fun a ha => ?_
      obtain ⟨hc4, hF⟩ := ck_elim hF
      refine goR ha rfl (d_append (B := W) (kd := (Kd.int .u8)) (zv := .int .u8 (0 : Int)) (bytes := 1) (lf := []) (rt := []) (fun q => [q]) (fun _ => rfl) ha Try.underlying23 (by kernel_rfl) rfl (by decide) (by decide) rfl rfl hE o2 r1 (fun _ _ h => h) hc4) fun v w3 a h ha => ?_
      obtain ⟨p3, c3, rfl, hs, hE1, hf, o2⟩ := h
      have r1 := hs.tr r1
      have hE := hE1
      refine go1 ha rfl (d_assign ha rfl) fun a ha => ?_
      refine go1 ha rfl (d_assign ha rfl) fun a ha => ?_
      refine nil_ ?_
      refine hK10 _ _ ?_
      have ha := ha.to (l' := [(4, _), (5, _)]) rfl
      refine wp_ret ?_
      injection hF with hF
      subst hF
      refine finN ha Try.results15 (.tmp rfl (.tmp rfl .nil)) (by simp) ?_
      exact ⟨_, _, rfl, hE, o2⟩
    · refine wcond_t ha rfl (not_f (decide_eq_false hc3)) ?_
      refine wp_seq_k (fun K9 hK9 => ?_)
      refine wreg ?_
      refine go1 ha rfl (d_assign ha rfl) fun a ha => ?_
      refine go1 ha rfl (d_assign ha rfl) fun a ha => ?_
      refine nil_ ?_
      refine hK9 _ _ ?_
      have ha := ha.to (l' := [(4, _), (5, _)]) rfl
      refine wp_ret ?_
      have hs := Step.add (a := none) [p2] (Fr.refl w2 No) (fun _ h => by cases h)
      have r1 := hs.tr r1
      have o2 := o2.keep (Fr.refl _ No) (fun _ _ h => h) (fun _ _ h => hs.trK h)
      have hE : Ex w (Av [] No) [none, p2] w2 := hE.add (a := none) (Fr.refl w2 No) (fun _ h => by cases h)
      have o3 := Ow.nil (Av [none, p2] W) w2 5 (Kd.int .u8)
      have hs : Step [none, p2] [none] w2 w2 := Step.pick _ _ [0]
      have r1 := hs.tr r1
      have o3 := o3.keep (Fr.refl _ No) (fun _ _ h => h) (fun _ _ h => hs.trK h)
      have hE : Ex w (Av [] No) [none] w2 := hE.pick [0] (by decide)
      injection hF with hF
      subst hF
      refine finN ha Try.results15 (.tmp rfl (.tmp rfl .nil)) (by simp) ?_
      exact ⟨_, _, rfl, hE, o3⟩
  · intro K3 hK3
    refine wp_seq_k (fun K4 hK4 => ?_)
    refine wreg ?_
    refine go1 ha rfl (d_move ha rfl) fun a ha => ?_
    refine go1 ha rfl (d_neI ha rfl rfl) fun a ha => ?_
    refine go1 ha rfl (d_move ha rfl) fun a ha => ?_
    rcases ite_elim hF with ⟨hc1, hF⟩ | ⟨hc1, hF⟩
    · refine goOff ha rfl rfl rfl rfl (not_t (decide_eq_true hc1)) fun a ha => ?_
      refine goOff ha rfl rfl rfl rfl (not_t (decide_eq_true hc1)) fun a ha => ?_
      refine go1 ha rfl (d_pickF ha rfl (not_t (decide_eq_true hc1)) rfl) fun a ha => ?_
      refine nil_ ?_
      refine hK4 _ _ ?_
      have ha := ha.to (l' := [(0, _), (1, _), (13, _)]) rfl
      refine wcond_f ha rfl rfl ?_
      refine wp_skip ?_
      exact hK3 _ _ ⟨ha.to rfl, hE, r1, hF⟩
    · refine goOn1 ha rfl rfl rfl rfl (not_f (decide_eq_false hc1)) (d_move ha rfl) fun a ha => ?_
      refine goOn1 ha rfl rfl rfl rfl (not_f (decide_eq_false hc1)) (d_neI ha rfl rfl) fun a ha => ?_
      refine go1 ha rfl (d_pick ha rfl (not_f (decide_eq_false hc1)) rfl) fun a ha => ?_
      refine nil_ ?_
      refine hK4 _ _ ?_
      have ha := ha.to (l' := [(0, _), (1, _), (13, _)]) rfl
      rcases ite_elim hF with ⟨hc2, hF⟩ | ⟨hc2, hF⟩
      · refine wcond_f ha rfl (not_t (decide_eq_true hc2)) ?_
        refine wp_skip ?_
        exact hK3 _ _ ⟨ha.to rfl, hE, r1, hF⟩
      · refine wcond_t ha rfl (not_f (decide_eq_false hc2)) ?_
        refine wp_seq_k (fun K5 hK5 => ?_)
        refine wreg ?_
        refine go1 ha rfl (d_assign ha rfl) fun a ha => ?_
        refine go1 ha rfl (d_assign ha rfl) fun a ha => ?_
        refine nil_ ?_
        refine hK5 _ _ ?_
        have ha := ha.to (l' := [(4, _), (5, _)]) rfl
        refine wp_ret ?_
        have hs := Step.add (a := none) [] (Fr.refl w No) (fun _ h => by cases h)
        have r1 := hs.tr r1
        have hE : Ex w (Av [] No) [none] w := hE.add (a := none) (Fr.refl w No) (fun _ h => by cases h)
        have o1 := Ow.nil (Av [none] W) w 5 (Kd.int .u8)
        injection hF with hF
        subst hF
        refine finN ha Try.results15 (.tmp rfl (.tmp rfl .nil)) (by simp) ?_
        exact ⟨_, _, rfl, hE, o1⟩

def warderlaw01_WirePuts_l3 (k : Nat) (a3 : List Int) : Nat → (List Int) → (List Int) → Int → Option (Bool)
  | 0, _, _, _ => none
  | k1 + 1, x3, x4, x5 =>
    (if x5 < (x3.length : Int) then (ck (0 ≤ x5 ∧ x5 < (x3.length : Int)) (ck (0 ≤ x5 ∧ x5 < (x3.length : Int)) (warderlaw01_WirePuts_l3 k a3 k1 (x3.set (x5).toNat (IntKind.u8.wrap ((x3.getD (x5).toNat (0 : Int)) + (1 : Int)))) x4 (IntKind.i64.wrap (x5 + (1 : Int)))))) else (if (strOf x4) = (strOf a3) then ((warderlaw01_known k ).bind fun t8 => (some t8)) else (some false)))

def warderlaw01_WirePuts_j2 (k : Nat) (a3 : List Int) (x1 : List Int) (x2 : List Int) : Option (Bool) :=
  (warderlaw01_WirePuts_l3 k a3 k x1 x2 (0 : Int))

def warderlaw01_WirePuts_j1 (k : Nat) (a1 : Int) (a3 : List Int) : Option (Bool) :=
  (ck ((([] : List (Int)).length + a3.length) * 1 ≤ 140737488355328) ((wire_Blob k (([] : List (Int)) ++ a3) a1).bind fun t6 => ((warderref01_Blob k a3 a1).bind fun t7 => (if (strOf t6.1) = (strOf t7.1) then (if t6.2 = t7.2 then (warderlaw01_WirePuts_j2 k a3 t6.1 (([] : List (Int)) ++ a3)) else (some false)) else (some false)))))

def warderlaw01_WirePuts_j0 (k : Nat) (a1 : Int) (a2 : Int) (a3 : List Int) : Option (Bool) :=
  ((wire_Whole k a2).bind fun t4 => ((warderref01_Whole k a2).bind fun t5 => (if (strOf t4.1) = (strOf t5.1) then (if t4.2 = t5.2 then (warderlaw01_WirePuts_j1 k a1 a3) else (some false)) else (some false))))

def warderlaw01_WirePuts (k : Nat) (a0 : Int) (a1 : Int) (a2 : Int) (a3 : List Int) : Option (Bool) :=
  (if (70000 : Int) < (a3.length : Int) then ((warderlaw01_known k ).bind fun t1 => (some t1)) else ((wire_Put k a0 a1).bind fun t2 => ((warderref01_Put k a0 a1).bind fun t3 => (if (strOf t2.1) = (strOf t3.1) then (if t2.2 = t3.2 then (warderlaw01_WirePuts_j0 k a1 a2 a3) else (some false)) else (some false)))))

set_option maxHeartbeats 4000000 in
set_option maxRecDepth 100000 in
theorem warderlaw01_WirePuts_c (k : Nat) (a0 : Int) (a1 : Int) (a2 : Int) (a3 : List Int) (p1 : Option Addr) (c1 : Nat) (W : Nat → Prop) (w : World) (hW : ∀ k, W k → k < w.heap.size) (r1 : Raw (Av [] W) (Kd.int .u8) w.heap p1 c1 a3) (r : Bool) (hF : warderlaw01_WirePuts k a0 a1 a2 a3 = some r) :
    Calls Try.prog 3 [.int .u64 a0, .int .i64 a1, .int .i64 a2, .slice p1 a3.length c1].toArray w (Ret fun v w' => v = .bool r ∧ Ex w (Av [] No) [] w') := by
  unfold warderlaw01_WirePuts at hF
  refine enter [(0, .int .u64 a0), (1, .int .i64 a1), (2, .int .i64 a2), (3, .slice p1 a3.length c1)] Try.func3 rfl Try.ntmps3 rfl rfl fun a ha => ?_
  have hE : Ex w (Av [] No) [] w := Ex.refl w _
  have hW0 : ∀ p, some p ∈ ([] : List (Option Addr)) → ¬ W p.block := fun _ h => by cases h
  refine wp_seq_k (fun K1 hK1 => ?_)
  refine wreg ?_
  refine go1 ha rfl (d_assign ha rfl) fun a ha => ?_
  refine nil_ ?_
  refine hK1 _ _ ?_
  have ha := ha.to (l' := [(0, _), (1, _), (2, _), (3, _)]) rfl
  refine wp_seq_k (fun K2 hK2 => ?_)
  refine wp_seq_k (fun K3 hK3 => ?_)
  refine wreg ?_
  refine go1 ha rfl (d_move ha rfl) fun a ha => ?_
  refine go1 ha rfl (d_lenSlice ha Try.underlying23 rfl) fun a ha => ?_
  refine go1 ha rfl (d_gt ha rfl rfl) fun a ha => ?_
  refine nil_ ?_
  refine hK3 _ _ ?_
  have ha := ha.to (l' := [(0, _), (1, _), (2, _), (3, _), (17, _)]) rfl
  rcases ite_elim hF with ⟨hc1, hF⟩ | ⟨hc1, hF⟩
  · refine wcond_t ha rfl (decide_eq_true hc1) ?_
    refine wp_seq_k (fun K4 hK4 => ?_)
    refine wreg ?_
    obtain ⟨t1, ht1, hF⟩ := bind_elim hF
    refine goR ha rfl (d_call Try.call9 ha (vs := []) rfl (warderlaw01_known_c k   (Av [] W) _ (Ex.wlt (as0 := []) (rr := []) (ro := []) hE hW)  _ ht1)) fun v w1 a h ha => ?_
    obtain ⟨rfl, hC⟩ := h
    have hs : Step [] [] w w1 := hC.callStep []
    have r1 := hs.tr r1
    have hE : Ex w (Av [] No) [] w1 := Ex.call (as0 := []) (rt := []) hE hC
    refine go1 ha rfl (d_assign ha rfl) fun a ha => ?_
    refine nil_ ?_
    refine hK4 _ _ ?_
    have ha := ha.to (l' := [(8, _)]) rfl
    refine wp_ret ?_
    injection hF with hF
    subst hF
    refine fin1 ha Try.results3 rfl ?_
    exact ⟨rfl, hE⟩
  · refine wcond_f ha rfl (decide_eq_false hc1) ?_
    refine wp_skip ?_
    refine hK2 _ _ ?_
    have ha := ha.to (l' := [(0, _), (1, _), (2, _), (3, _)]) rfl
    refine wp_seq_k (fun K5 hK5 => ?_)
    refine wreg ?_
    refine go1 ha rfl (d_move ha rfl) fun a ha => ?_
    refine go1 ha rfl (d_move ha rfl) fun a ha => ?_
    obtain ⟨t2, ht2, hF⟩ := bind_elim hF
    refine goR ha rfl (d_call Try.call10 ha (vs := [.int .u64 a0, .int .i64 a1]) rfl (wire_Put_c k a0 a1  (Av [] W) _ (Ex.wlt (as0 := []) (rr := []) (ro := []) hE hW)  _ ht2)) fun v w2 a h ha => ?_
    obtain ⟨p2, c2, rfl, hC, o1⟩ := h
    have hs : Step [] [p2] w w2 := hC.callStep []
    have r1 := hs.tr r1
    have o1 : Ow (Av [p2] W) w2 5 (Kd.int .u8) p2 c2 t2.1 := o1.alone (Kd.Flat.int _)
    have hE : Ex w (Av [] No) [p2] w2 := Ex.call (as0 := []) (rt := []) hE hC
    refine go1 ha rfl (d_move ha rfl) fun a ha => ?_
    refine go1 ha rfl (d_extract ha rfl rfl) fun a ha => ?_
    refine go1 ha rfl (d_extract ha rfl rfl) fun a ha => ?_
    refine go1 ha rfl (d_assign ha rfl) fun a ha => ?_
    refine go1 ha rfl (d_assign ha rfl) fun a ha => ?_
    refine nil_ ?_
    refine hK5 _ _ ?_
    have ha := ha.to (l' := [(0, _), (1, _), (2, _), (3, _), (9, _), (10, _)]) rfl
    refine wp_seq_k (fun K6 hK6 => ?_)
    refine wreg ?_
    refine go1 ha rfl (d_move ha rfl) fun a ha => ?_
    refine go1 ha rfl (d_move ha rfl) fun a ha => ?_
    obtain ⟨t3, ht3, hF⟩ := bind_elim hF
    refine goR ha rfl (d_call Try.call11 ha (vs := [.int .u64 a0, .int .i64 a1]) rfl (warderref01_Put_c k a0 a1  (Av [p2] W) _ (Ex.wlt (as0 := []) (rr := []) (ro := [p2]) hE hW)  _ ht3)) fun v w3 a h ha => ?_
    obtain ⟨p3, c3, rfl, hC, o2⟩ := h
    have hs : Step [p2] [p3, p2] w2 w3 := hC.callStep [p2]
    have r1 := hs.tr r1
    have o1 := o1.keep hC.fr (Ex.callOff (as0 := []) (rt := [p2]) hE (u := p2) (by simp)) (fun _ _ h => hs.trK h)
    have o2 : Ow (Av [p3, p2] W) w3 5 (Kd.int .u8) p3 c3 t3.1 := o2.alone (Kd.Flat.int _)
    have hE : Ex w (Av [] No) [p3, p2] w3 := Ex.call (as0 := []) (rt := [p2]) hE hC
    refine go1 ha rfl (d_move ha rfl) fun a ha => ?_
    refine go1 ha rfl (d_extract ha rfl rfl) fun a ha => ?_
    refine go1 ha rfl (d_extract ha rfl rfl) fun a ha => ?_
    refine go1 ha rfl (d_assign ha rfl) fun a ha => ?_
    refine go1 ha rfl (d_assign ha rfl) fun a ha => ?_
    refine nil_ ?_
    refine hK6 _ _ ?_
    have ha := ha.to (l' := [(1, _), (2, _), (3, _), (9, _), (10, _), (11, _), (12, _)]) rfl
    refine wseqJ (fun a w4 => Has 105 [(1, .int .i64 a1), (2, .int .i64 a2), (3, .slice p1 a3.length c1)] a ∧ Ex w (Av [] No) [] w4 ∧ Raw (Av [] W) (Kd.int .u8) w4.heap p1 c1 a3 ∧ warderlaw01_WirePuts_j0 k a1 a2 a3 = some r) ?_ ?_
    · rintro a w4 ⟨ha, hE, r1, hF⟩
      unfold warderlaw01_WirePuts_j0 at hF
      refine wp_seq_k (fun K12 hK12 => ?_)
      refine wreg ?_
      refine go1 ha rfl (d_move ha rfl) fun a ha => ?_
      obtain ⟨t4, ht4, hF⟩ := bind_elim hF
      refine goR ha rfl (d_call Try.call12 ha (vs := [.int .i64 a2]) rfl (wire_Whole_c k a2  (Av [] W) _ (Ex.wlt (as0 := []) (rr := []) (ro := []) hE hW)  _ ht4)) fun v w5 a h ha => ?_
      obtain ⟨p4, c4, rfl, hC, o3⟩ := h
      have hs : Step [] [p4] w4 w5 := hC.callStep []
      have r1 := hs.tr r1
      have o3 : Ow (Av [p4] W) w5 5 (Kd.int .u8) p4 c4 t4.1 := o3.alone (Kd.Flat.int _)
      have hE : Ex w (Av [] No) [p4] w5 := Ex.call (as0 := []) (rt := []) hE hC
      refine go1 ha rfl (d_move ha rfl) fun a ha => ?_
      refine go1 ha rfl (d_extract ha rfl rfl) fun a ha => ?_
      refine go1 ha rfl (d_extract ha rfl rfl) fun a ha => ?_
      refine go1 ha rfl (d_assign ha rfl) fun a ha => ?_
      refine go1 ha rfl (d_assign ha rfl) fun a ha => ?_
      refine nil_ ?_
      refine hK12 _ _ ?_
      have ha := ha.to (l' := [(1, _), (2, _), (3, _), (9, _), (10, _)]) rfl
      refine wp_seq_k (fun K13 hK13 => ?_)
      refine wreg ?_
      refine go1 ha rfl (d_move ha rfl) fun a ha => ?_
      obtain ⟨t5, ht5, hF⟩ := bind_elim hF
      refine goR ha rfl (d_call Try.call13 ha (vs := [.int .i64 a2]) rfl (warderref01_Whole_c k a2  (Av [p4] W) _ (Ex.wlt (as0 := []) (rr := []) (ro := [p4]) hE hW)  _ ht5)) fun v w6 a h ha => ?_
      obtain ⟨p5, c5, rfl, hC, o4⟩ := h
      have hs : Step [p4] [p5, p4] w5 w6 := hC.callStep [p4]
      have r1 := hs.tr r1
      have o3 := o3.keep hC.fr (Ex.callOff (as0 := []) (rt := [p4]) hE (u := p4) (by simp)) (fun _ _ h => hs.trK h)
      have o4 : Ow (Av [p5, p4] W) w6 5 (Kd.int .u8) p5 c5 t5.1 := o4.alone (Kd.Flat.int _)
      have hE : Ex w (Av [] No) [p5, p4] w6 := Ex.call (as0 := []) (rt := [p4]) hE hC
      refine go1 ha rfl (d_move ha rfl) fun a ha => ?_
      refine go1 ha rfl (d_extract ha rfl rfl) fun a ha => ?_
      refine go1 ha rfl (d_extract ha rfl rfl) fun a ha => ?_
      refine go1 ha rfl (d_assign ha rfl) fun a ha => ?_
      refine go1 ha rfl (d_assign ha rfl) fun a ha => ?_
      refine nil_ ?_
      refine hK13 _ _ ?_
      have ha := ha.to (l' := [(1, _), (3, _), (9, _), (10, _), (11, _), (12, _)]) rfl
      refine wseqJ (fun a w7 => Has 105 [(1, .int .i64 a1), (3, .slice p1 a3.length c1)] a ∧ Ex w (Av [] No) [] w7 ∧ Raw (Av [] W) (Kd.int .u8) w7.heap p1 c1 a3 ∧ warderlaw01_WirePuts_j1 k a1 a3 = some r) ?_ ?_
      · rintro a w7 ⟨ha, hE, r1, hF⟩
        unfold warderlaw01_WirePuts_j1 at hF
        refine wp_seq_k (fun K19 hK19 => ?_)
        refine wreg ?_
        refine go1 ha rfl (d_move ha rfl) fun a ha => ?_
        obtain ⟨hc6, hF⟩ := ck_elim hF
        have hs := Step.add (a := none) [] (Fr.refl w7 No) (fun _ h => by cases h)
        have r1 := hs.tr r1
        have hE : Ex w (Av [] No) [none] w7 := hE.add (a := none) (Fr.refl w7 No) (fun _ h => by cases h)
        have o5 := Ow.nil (Av [none] W) w7 5 (Kd.int .u8)
        refine goR ha rfl (d_append (B := W) (kd := (Kd.int .u8)) (zv := .int .u8 (0 : Int)) (bytes := 1) (lf := []) (rt := []) (fun q => [q]) (fun _ => rfl) ha Try.underlying23 (by kernel_rfl) rfl (by decide) (by decide) rfl rfl hE o5 r1 (fun _ _ h => h) hc6) fun v w8 a h ha => ?_
        obtain ⟨p6, c6, rfl, hs, hE1, hf, o5⟩ := h
        have r1 := hs.tr r1
        have hE := hE1
        refine go1 ha rfl (d_assign ha rfl) fun a ha => ?_
        refine nil_ ?_
        refine hK19 _ _ ?_
        have ha := ha.to (l' := [(1, _), (3, _), (13, _)]) rfl
        refine wp_seq_k (fun K20 hK20 => ?_)
        refine wreg ?_
        refine go1 ha rfl (d_move ha rfl) fun a ha => ?_
        refine go1 ha rfl (d_move ha rfl) fun a ha => ?_
        obtain ⟨t6, ht6, hF⟩ := bind_elim hF
        refine goR ha rfl (d_call Try.call14 ha (vs := [.slice p6 (([] : List (Int)) ++ a3).length c6, .int .i64 a1]) rfl (wire_Blob_c k (([] : List (Int)) ++ a3) a1 _ _ (Av [] W) _ (Ex.wlt (as0 := []) (rr := [p6]) (ro := []) hE hW) (Ow.argR (as0 := []) (rr := [p6]) (ro := []) o5 hE hW hW0 (by simp)) _ ht6)) fun v w9 a h ha => ?_
        obtain ⟨p7, c7, rfl, hC, o6⟩ := h
        have hs : Step [p6] [p7, p6] w8 w9 := hC.callStep [p6]
        have r1 := hs.tr r1
        have o5 := o5.keep hC.fr (Ex.callOff (as0 := []) (rt := [p6]) hE (u := p6) (by simp)) (fun _ _ h => hs.trK h)
        have o6 : Ow (Av [p7, p6] W) w9 5 (Kd.int .u8) p7 c7 t6.1 := o6.alone (Kd.Flat.int _)
        have hE : Ex w (Av [] No) [p7, p6] w9 := Ex.call (as0 := []) (rt := [p6]) hE hC
        refine go1 ha rfl (d_move ha rfl) fun a ha => ?_
        refine go1 ha rfl (d_extract ha rfl rfl) fun a ha => ?_
        refine go1 ha rfl (d_extract ha rfl rfl) fun a ha => ?_
        refine go1 ha rfl (d_assign ha rfl) fun a ha => ?_
        refine go1 ha rfl (d_assign ha rfl) fun a ha => ?_
        refine nil_ ?_
        refine hK20 _ _ ?_
        have ha := ha.to (l' := [(1, _), (3, _), (9, _), (10, _), (13, _)]) rfl
        refine wp_seq_k (fun K21 hK21 => ?_)
        refine wreg ?_
        refine go1 ha rfl (d_move ha rfl) fun a ha => ?_
        refine go1 ha rfl (d_move ha rfl) fun a ha => ?_
        obtain ⟨t7, ht7, hF⟩ := bind_elim hF
        refine goR ha rfl (d_call Try.call15 ha (vs := [.slice p1 a3.length c1, .int .i64 a1]) rfl (warderref01_Blob_c k a3 a1 _ _ (Av [p7, p6] W) _ (Ex.wlt (as0 := []) (rr := []) (ro := [p7, p6]) hE hW) (Raw.arg (as0 := []) (rr := []) (ro := [p7, p6]) r1 (fun _ h => h)) _ ht7)) fun v w10 a h ha => ?_
        obtain ⟨p8, c8, rfl, hC, o7⟩ := h
        have hs : Step [p7, p6] [p8, p7, p6] w9 w10 := hC.callStep [p7, p6]
        have r1 := hs.tr r1
        have o6 := o6.keep hC.fr (Ex.callOff (as0 := []) (rt := [p7, p6]) hE (u := p7) (by simp)) (fun _ _ h => hs.trK h)
        have o5 := o5.keep hC.fr (Ex.callOff (as0 := []) (rt := [p7, p6]) hE (u := p6) (by simp)) (fun _ _ h => hs.trK h)
        have o7 : Ow (Av [p8, p7, p6] W) w10 5 (Kd.int .u8) p8 c8 t7.1 := o7.alone (Kd.Flat.int _)
        have hE : Ex w (Av [] No) [p8, p7, p6] w10 := Ex.call (as0 := []) (rt := [p7, p6]) hE hC
        refine go1 ha rfl (d_move ha rfl) fun a ha => ?_
        refine go1 ha rfl (d_extract ha rfl rfl) fun a ha => ?_
        refine go1 ha rfl (d_extract ha rfl rfl) fun a ha => ?_
        refine go1 ha rfl (d_assign ha rfl) fun a ha => ?_
        refine go1 ha rfl (d_assign ha rfl) fun a ha => ?_
        refine nil_ ?_
        refine hK21 _ _ ?_
        have ha := ha.to (l' := [(3, _), (9, _), (10, _), (11, _), (12, _), (13, _)]) rfl
        refine wseqJ (fun a w11 => ∃ (x1 : List Int) (p9 : Option Addr) (c9 : Nat) (x2 : List Int) (p10 : Option Addr) (c10 : Nat), Has 105 [(3, .slice p1 a3.length c1), (9, .slice p9 x1.length c9), (13, .slice p10 x2.length c10)] a ∧ Ex w (Av [] No) [p9, p10] w11 ∧ Raw (Av [p9, p10] W) (Kd.int .u8) w11.heap p1 c1 a3 ∧ Ow (Av [p9, p10] W) w11 5 (Kd.int .u8) p9 c9 x1 ∧ Ow (Av [p9, p10] W) w11 5 (Kd.int .u8) p10 c10 x2 ∧ warderlaw01_WirePuts_j2 k a3 x1 x2 = some r) ?_ ?_
        · rintro a w11 ⟨x1, p9, c9, x2, p10, c10, ha, hE, r1, o8, o9, hF⟩
          unfold warderlaw01_WirePuts_j2 at hF
          refine wp_seq_k (fun K27 hK27 => ?_)
          refine wp_seq_k (fun K28 hK28 => ?_)
          refine wreg ?_
          refine go1 ha rfl (d_assign ha rfl) fun a ha => ?_
          refine nil_ ?_
          refine hK28 _ _ ?_
          have ha := ha.to (l' := [(3, _), (9, _), (13, _), (14, _)]) rfl
          refine wp_block ?_
          refine wloopJ (fun k' a w12 => ∃ (x3 : List Int) (p11 : Option Addr) (c11 : Nat) (x4 : List Int) (p12 : Option Addr) (c12 : Nat) (x5 : Int), Has 105 [(3, .slice p1 a3.length c1), (9, .slice p11 x3.length c11), (13, .slice p12 x4.length c12), (14, .int .i64 x5)] a ∧ Ex w (Av [] No) [p11, p12] w12 ∧ Raw (Av [p11, p12] W) (Kd.int .u8) w12.heap p1 c1 a3 ∧ Ow (Av [p11, p12] W) w12 5 (Kd.int .u8) p11 c11 x3 ∧ Ow (Av [p11, p12] W) w12 5 (Kd.int .u8) p12 c12 x4 ∧ warderlaw01_WirePuts_l3 k a3 k' x3 x4 x5 = some r) k ⟨x1, _, _, x2, _, _, (0 : Int), ha.to rfl, hE, r1, o8, o9, hF⟩ ?_
          rintro k1 a w12 ⟨x3, p11, c11, x4, p12, c12, x5, ha, hE, r1, o10, o11, hF⟩ K29 hK29
          cases k1 with
          | zero => cases hF
          | succ k1 =>
            rw [warderlaw01_WirePuts_l3] at hF
            refine wp_seq_k (fun K30 hK30 => ?_)
            refine wp_seq_k (fun K31 hK31 => ?_)
            refine wreg ?_
            refine go1 ha rfl (d_move ha rfl) fun a ha => ?_
            refine go1 ha rfl (d_move ha rfl) fun a ha => ?_
            refine go1 ha rfl (d_lenSlice ha Try.underlying23 rfl) fun a ha => ?_
            refine go1 ha rfl (d_lt ha rfl rfl) fun a ha => ?_
            refine nil_ ?_
            refine hK31 _ _ ?_
            have ha := ha.to (l' := [(3, _), (9, _), (13, _), (14, _), (88, _)]) rfl
            rcases ite_elim hF with ⟨hc9, hF⟩ | ⟨hc9, hF⟩
            · refine wcond_t ha rfl (decide_eq_true hc9) ?_
              refine wp_skip ?_
              refine hK30 _ _ ?_
              have ha := ha.to (l' := [(3, _), (9, _), (13, _), (14, _)]) rfl
              refine wp_seq_k (fun K32 hK32 => ?_)
              refine wp_block ?_
              refine wreg ?_
              refine go1 ha rfl (d_move ha rfl) fun a ha => ?_
              refine go1 ha rfl (d_move ha rfl) fun a ha => ?_
              obtain ⟨hc10, hF⟩ := ck_elim hF
              refine goS ha rfl (d_indexOwR (kd := (Kd.int .u8)) ha rfl rfl Try.underlying23 Try.sizeOf5 o10 hc10 (0 : Int)) fun v a h ha => ?_
              obtain ⟨b1, q1, cs1, rfl, hk1, at1⟩ := h
              obtain rfl := hk1
              refine go1 ha rfl (d_load ha rfl (at1.cell 0 rfl) Try.isAgg5) fun a ha => ?_
              refine go1 ha rfl (d_add ha rfl rfl) fun a ha => ?_
              obtain ⟨hc11, hF⟩ := ck_elim hF
              refine goS ha rfl (d_indexOw (kd := (Kd.int .u8)) ha rfl rfl Try.underlying23 Try.sizeOf5 o10 hc11) fun v a h ha => ?_
              obtain ⟨b2, e1, rfl⟩ := h
              have hq1 : (x5).toNat < x3.length := by omega
              refine goR0 ha (d_storeOw (B := W) (kd := (Kd.int .u8)) (lf := []) (rt := [p12]) (vs := [.int .u8 (IntKind.u8.wrap ((x3.getD (x5).toNat (0 : Int)) + (1 : Int)))]) (yv := IntKind.u8.wrap ((x3.getD (x5).toNat (0 : Int)) + (1 : Int))) (fun q => [q, p12]) (fun _ => rfl) ha Try.sizeOf5 e1 rfl rfl rfl hE o10 hq1 (rfl)) fun v w13 a h ha => ?_
              obtain ⟨hs, hE1, hf, o10⟩ := h
              have r1 := hs.tr r1
              have o11 := o11.keep hf (hE.off 0 1 rfl rfl (by decide)) (fun _ _ h => hs.trK h)
              have hE := hE1
              have ha : Has 105 [(3, .slice p1 a3.length c1), (9, .slice p11 (x3.set (x5).toNat (IntKind.u8.wrap ((x3.getD (x5).toNat (0 : Int)) + (1 : Int)))).length c11), (13, .slice p12 x4.length c12), (14, .int .i64 x5), (91, .slice p11 (x3.set (x5).toNat (IntKind.u8.wrap ((x3.getD (x5).toNat (0 : Int)) + (1 : Int)))).length c11), (92, .int .i64 x5), (93, .pointer (some ⟨b1, q1, none⟩)), (94, .int .u8 (x3.getD (x5).toNat (0 : Int))), (95, .int .u8 (IntKind.u8.wrap ((x3.getD (x5).toNat (0 : Int)) + (1 : Int))))] a := by simpa only [List.length_set] using ha.to (l' := [(3, _), (9, _), (13, _), (14, _), (91, _), (92, _), (93, _), (94, _), (95, _)]) rfl
              refine nil_ ?_
              refine hK32 _ _ ?_
              have ha := ha.to (l' := [(3, _), (9, _), (13, _), (14, _)]) rfl
              refine wreg ?_
              refine go1 ha rfl (d_move ha rfl) fun a ha => ?_
              refine go1 ha rfl (d_add ha rfl rfl) fun a ha => ?_
              refine go1 ha rfl (d_assign ha rfl) fun a ha => ?_
              refine nil_ ?_
              exact hK29 k1 _ _ (Nat.lt_succ_self _) ⟨(x3.set (x5).toNat (IntKind.u8.wrap ((x3.getD (x5).toNat (0 : Int)) + (1 : Int)))), _, _, x4, _, _, (IntKind.i64.wrap (x5 + (1 : Int))), ha.to rfl, hE, r1, o10, o11, hF⟩
            · refine wcond_f ha rfl (decide_eq_false hc9) ?_
              refine wp_exit ?_
              refine hK27 _ _ ?_
              have ha := ha.to (l' := [(3, _), (13, _)]) rfl
              refine wp_seq_k (fun K33 hK33 => ?_)
              refine wreg ?_
              refine go1 ha rfl (d_move ha rfl) fun a ha => ?_
              refine go1 ha rfl (d_b2s ha Try.underlying23 Try.underlying5 Try.underlying9 rfl o11.rawNo) fun a ha => ?_
              refine go1 ha rfl (d_move ha rfl) fun a ha => ?_
              refine go1 ha rfl (d_b2s ha Try.underlying23 Try.underlying5 Try.underlying9 rfl r1) fun a ha => ?_
              refine go1 ha rfl (d_eqS ha rfl rfl) fun a ha => ?_
              refine go1 ha rfl (d_move ha rfl) fun a ha => ?_
              rcases ite_elim hF with ⟨hc12, hF⟩ | ⟨hc12, hF⟩
              · obtain ⟨t8, ht8, hF⟩ := bind_elim hF
                refine goOnR ha rfl rfl rfl rfl (decide_eq_true hc12) (d_call Try.call9 ha (vs := []) rfl (warderlaw01_known_c k   (Av [p11, p12] W) _ (Ex.wlt (as0 := []) (rr := []) (ro := [p11, p12]) hE hW)  _ ht8)) fun v w14 a h ha => ?_
                obtain ⟨rfl, hC⟩ := h
                have hs : Step [p11, p12] [p11, p12] w12 w14 := hC.callStep [p11, p12]
                have r1 := hs.tr r1
                have o10 := o10.keep hC.fr (Ex.callOff (as0 := []) (rt := [p11, p12]) hE (u := p11) (by simp)) (fun _ _ h => hs.trK h)
                have o11 := o11.keep hC.fr (Ex.callOff (as0 := []) (rt := [p11, p12]) hE (u := p12) (by simp)) (fun _ _ h => hs.trK h)
                have hE : Ex w (Av [] No) [p11, p12] w14 := Ex.call (as0 := []) (rt := [p11, p12]) hE hC
                refine go1 ha rfl (d_pick ha rfl (decide_eq_true hc12) rfl) fun a ha => ?_
                refine go1 ha rfl (d_assign ha rfl) fun a ha => ?_
                refine nil_ ?_
                refine hK33 _ _ ?_
                have ha := ha.to (l' := [(8, _)]) rfl
                refine wp_ret ?_
                have hs : Step [p11, p12] [] w14 w14 := Step.pick _ _ []
                have r1 := hs.tr r1
                have hE : Ex w (Av [] No) [] w14 := hE.pick [] (by decide)
                injection hF with hF
                subst hF
                refine fin1 ha Try.results3 rfl ?_
                exact ⟨rfl, hE⟩
              · refine goOff ha rfl rfl rfl rfl (decide_eq_false hc12) fun a ha => ?_
                refine go1 ha rfl (d_pickF ha rfl (decide_eq_false hc12) rfl) fun a ha => ?_
                refine go1 ha rfl (d_assign ha rfl) fun a ha => ?_
                refine nil_ ?_
                refine hK33 _ _ ?_
                have ha := ha.to (l' := [(8, _)]) rfl
                refine wp_ret ?_
                have hs : Step [p11, p12] [] w12 w12 := Step.pick _ _ []
                have r1 := hs.tr r1
                have hE : Ex w (Av [] No) [] w12 := hE.pick [] (by decide)
                injection hF with hF
                subst hF
                refine fin1 ha Try.results3 rfl ?_
                exact ⟨rfl, hE⟩
        · intro K23 hK23
          refine wp_seq_k (fun K24 hK24 => ?_)
          refine wreg ?_
          refine go1 ha rfl (d_move ha rfl) fun a ha => ?_
          refine go1 ha rfl (d_b2s ha Try.underlying23 Try.underlying5 Try.underlying9 rfl o6.rawNo) fun a ha => ?_
          refine go1 ha rfl (d_move ha rfl) fun a ha => ?_
          refine go1 ha rfl (d_b2s ha Try.underlying23 Try.underlying5 Try.underlying9 rfl o7.rawNo) fun a ha => ?_
          refine go1 ha rfl (d_neS ha rfl rfl) fun a ha => ?_
          refine go1 ha rfl (d_move ha rfl) fun a ha => ?_
          rcases ite_elim hF with ⟨hc7, hF⟩ | ⟨hc7, hF⟩
          · refine goOn1 ha rfl rfl rfl rfl (not_t (decide_eq_true hc7)) (d_move ha rfl) fun a ha => ?_
            refine goOn1 ha rfl rfl rfl rfl (not_t (decide_eq_true hc7)) (d_move ha rfl) fun a ha => ?_
            refine goOn1 ha rfl rfl rfl rfl (not_t (decide_eq_true hc7)) (d_neI ha rfl rfl) fun a ha => ?_
            refine go1 ha rfl (d_pickF ha rfl (not_t (decide_eq_true hc7)) rfl) fun a ha => ?_
            refine nil_ ?_
            refine hK24 _ _ ?_
            have ha := ha.to (l' := [(3, _), (9, _), (13, _), (84, _)]) rfl
            rcases ite_elim hF with ⟨hc8, hF⟩ | ⟨hc8, hF⟩
            · refine wcond_f ha rfl (not_t (decide_eq_true hc8)) ?_
              refine wp_skip ?_
              have hs : Step [p8, p7, p6] [p7, p6] w10 w10 := Step.pick _ _ [1, 2]
              have r1 := hs.tr r1
              have o6 := o6.keep (Fr.refl _ No) (fun _ _ h => h) (fun _ _ h => hs.trK h)
              have o5 := o5.keep (Fr.refl _ No) (fun _ _ h => h) (fun _ _ h => hs.trK h)
              have hE : Ex w (Av [] No) [p7, p6] w10 := hE.pick [1, 2] (by decide)
              exact hK23 _ _ ⟨t6.1, _, _, (([] : List (Int)) ++ a3), _, _, ha.to rfl, hE, r1, o6, o5, hF⟩
            · refine wcond_t ha rfl (not_f (decide_eq_false hc8)) ?_
              refine wp_seq_k (fun K26 hK26 => ?_)
              refine wreg ?_
              refine go1 ha rfl (d_assign ha rfl) fun a ha => ?_
              refine nil_ ?_
              refine hK26 _ _ ?_
              have ha := ha.to (l' := [(8, _)]) rfl
              refine wp_ret ?_
              have hs : Step [p8, p7, p6] [] w10 w10 := Step.pick _ _ []
              have r1 := hs.tr r1
              have hE : Ex w (Av [] No) [] w10 := hE.pick [] (by decide)
              injection hF with hF
              subst hF
              refine fin1 ha Try.results3 rfl ?_
              exact ⟨rfl, hE⟩
          · refine goOff ha rfl rfl rfl rfl (not_f (decide_eq_false hc7)) fun a ha => ?_
            refine goOff ha rfl rfl rfl rfl (not_f (decide_eq_false hc7)) fun a ha => ?_
            refine goOff ha rfl rfl rfl rfl (not_f (decide_eq_false hc7)) fun a ha => ?_
            refine go1 ha rfl (d_pick ha rfl (not_f (decide_eq_false hc7)) rfl) fun a ha => ?_
            refine nil_ ?_
            refine hK24 _ _ ?_
            have ha := ha.to (l' := [(3, _), (9, _), (13, _), (84, _)]) rfl
            refine wcond_t ha rfl rfl ?_
            refine wp_seq_k (fun K25 hK25 => ?_)
            refine wreg ?_
            refine go1 ha rfl (d_assign ha rfl) fun a ha => ?_
            refine nil_ ?_
            refine hK25 _ _ ?_
            have ha := ha.to (l' := [(8, _)]) rfl
            refine wp_ret ?_
            have hs : Step [p8, p7, p6] [] w10 w10 := Step.pick _ _ []
            have r1 := hs.tr r1
            have hE : Ex w (Av [] No) [] w10 := hE.pick [] (by decide)
            injection hF with hF
            subst hF
            refine fin1 ha Try.results3 rfl ?_
            exact ⟨rfl, hE⟩
      · intro K15 hK15
        refine wp_seq_k (fun K16 hK16 => ?_)
        refine wreg ?_
        refine go1 ha rfl (d_move ha rfl) fun a ha => ?_
        refine go1 ha rfl (d_b2s ha Try.underlying23 Try.underlying5 Try.underlying9 rfl o3.rawNo) fun a ha => ?_
        refine go1 ha rfl (d_move ha rfl) fun a ha => ?_
        refine go1 ha rfl (d_b2s ha Try.underlying23 Try.underlying5 Try.underlying9 rfl o4.rawNo) fun a ha => ?_
        refine go1 ha rfl (d_neS ha rfl rfl) fun a ha => ?_
        refine go1 ha rfl (d_move ha rfl) fun a ha => ?_
        rcases ite_elim hF with ⟨hc4, hF⟩ | ⟨hc4, hF⟩
        · refine goOn1 ha rfl rfl rfl rfl (not_t (decide_eq_true hc4)) (d_move ha rfl) fun a ha => ?_
          refine goOn1 ha rfl rfl rfl rfl (not_t (decide_eq_true hc4)) (d_move ha rfl) fun a ha => ?_
          refine goOn1 ha rfl rfl rfl rfl (not_t (decide_eq_true hc4)) (d_neI ha rfl rfl) fun a ha => ?_
          refine go1 ha rfl (d_pickF ha rfl (not_t (decide_eq_true hc4)) rfl) fun a ha => ?_
          refine nil_ ?_
          refine hK16 _ _ ?_
          have ha := ha.to (l' := [(1, _), (3, _), (60, _)]) rfl
          rcases ite_elim hF with ⟨hc5, hF⟩ | ⟨hc5, hF⟩
          · refine wcond_f ha rfl (not_t (decide_eq_true hc5)) ?_
            refine wp_skip ?_
            have hs : Step [p5, p4] [] w6 w6 := Step.pick _ _ []
            have r1 := hs.tr r1
            have hE : Ex w (Av [] No) [] w6 := hE.pick [] (by decide)
            exact hK15 _ _ ⟨ha.to rfl, hE, r1, hF⟩
          · refine wcond_t ha rfl (not_f (decide_eq_false hc5)) ?_
            refine wp_seq_k (fun K18 hK18 => ?_)
            refine wreg ?_
            refine go1 ha rfl (d_assign ha rfl) fun a ha => ?_
            refine nil_ ?_
            refine hK18 _ _ ?_
            have ha := ha.to (l' := [(8, _)]) rfl
            refine wp_ret ?_
            have hs : Step [p5, p4] [] w6 w6 := Step.pick _ _ []
            have r1 := hs.tr r1
            have hE : Ex w (Av [] No) [] w6 := hE.pick [] (by decide)
            injection hF with hF
            subst hF
            refine fin1 ha Try.results3 rfl ?_
            exact ⟨rfl, hE⟩
        · refine goOff ha rfl rfl rfl rfl (not_f (decide_eq_false hc4)) fun a ha => ?_
          refine goOff ha rfl rfl rfl rfl (not_f (decide_eq_false hc4)) fun a ha => ?_
          refine goOff ha rfl rfl rfl rfl (not_f (decide_eq_false hc4)) fun a ha => ?_
          refine go1 ha rfl (d_pick ha rfl (not_f (decide_eq_false hc4)) rfl) fun a ha => ?_
          refine nil_ ?_
          refine hK16 _ _ ?_
          have ha := ha.to (l' := [(1, _), (3, _), (60, _)]) rfl
          refine wcond_t ha rfl rfl ?_
          refine wp_seq_k (fun K17 hK17 => ?_)
          refine wreg ?_
          refine go1 ha rfl (d_assign ha rfl) fun a ha => ?_
          refine nil_ ?_
          refine hK17 _ _ ?_
          have ha := ha.to (l' := [(8, _)]) rfl
          refine wp_ret ?_
          have hs : Step [p5, p4] [] w6 w6 := Step.pick _ _ []
          have r1 := hs.tr r1
          have hE : Ex w (Av [] No) [] w6 := hE.pick [] (by decide)
          injection hF with hF
          subst hF
          refine fin1 ha Try.results3 rfl ?_
          exact ⟨rfl, hE⟩
    · intro K8 hK8
      refine wp_seq_k (fun K9 hK9 => ?_)
      refine wreg ?_
      refine go1 ha rfl (d_move ha rfl) fun a ha => ?_
      refine go1 ha rfl (d_b2s ha Try.underlying23 Try.underlying5 Try.underlying9 rfl o1.rawNo) fun a ha => ?_
      refine go1 ha rfl (d_move ha rfl) fun a ha => ?_
      refine go1 ha rfl (d_b2s ha Try.underlying23 Try.underlying5 Try.underlying9 rfl o2.rawNo) fun a ha => ?_
      refine go1 ha rfl (d_neS ha rfl rfl) fun a ha => ?_
      refine go1 ha rfl (d_move ha rfl) fun a ha => ?_
      rcases ite_elim hF with ⟨hc2, hF⟩ | ⟨hc2, hF⟩
      · refine goOn1 ha rfl rfl rfl rfl (not_t (decide_eq_true hc2)) (d_move ha rfl) fun a ha => ?_
        refine goOn1 ha rfl rfl rfl rfl (not_t (decide_eq_true hc2)) (d_move ha rfl) fun a ha => ?_
        refine goOn1 ha rfl rfl rfl rfl (not_t (decide_eq_true hc2)) (d_neI ha rfl rfl) fun a ha => ?_
        refine go1 ha rfl (d_pickF ha rfl (not_t (decide_eq_true hc2)) rfl) fun a ha => ?_
        refine nil_ ?_
        refine hK9 _ _ ?_
        have ha := ha.to (l' := [(1, _), (2, _), (3, _), (40, _)]) rfl
        rcases ite_elim hF with ⟨hc3, hF⟩ | ⟨hc3, hF⟩
        · refine wcond_f ha rfl (not_t (decide_eq_true hc3)) ?_
          refine wp_skip ?_
          have hs : Step [p3, p2] [] w3 w3 := Step.pick _ _ []
          have r1 := hs.tr r1
          have hE : Ex w (Av [] No) [] w3 := hE.pick [] (by decide)
          exact hK8 _ _ ⟨ha.to rfl, hE, r1, hF⟩
        · refine wcond_t ha rfl (not_f (decide_eq_false hc3)) ?_
          refine wp_seq_k (fun K11 hK11 => ?_)
          refine wreg ?_
          refine go1 ha rfl (d_assign ha rfl) fun a ha => ?_
          refine nil_ ?_
          refine hK11 _ _ ?_
          have ha := ha.to (l' := [(8, _)]) rfl
          refine wp_ret ?_
          have hs : Step [p3, p2] [] w3 w3 := Step.pick _ _ []
          have r1 := hs.tr r1
          have hE : Ex w (Av [] No) [] w3 := hE.pick [] (by decide)
          injection hF with hF
          subst hF
          refine fin1 ha Try.results3 rfl ?_
          exact ⟨rfl, hE⟩
      · refine goOff ha rfl rfl rfl rfl (not_f (decide_eq_false hc2)) fun a ha => ?_
        refine goOff ha rfl rfl rfl rfl (not_f (decide_eq_false hc2)) fun a ha => ?_
        refine goOff ha rfl rfl rfl rfl (not_f (decide_eq_false hc2)) fun a ha => ?_
        refine go1 ha rfl (d_pick ha rfl (not_f (decide_eq_false hc2)) rfl) fun a ha => ?_
        refine nil_ ?_
        refine hK9 _ _ ?_
        have ha := ha.to (l' := [(1, _), (2, _), (3, _), (40, _)]) rfl
        refine wcond_t ha rfl rfl ?_
        refine wp_seq_k (fun K10 hK10 => ?_)
        refine wreg ?_
        refine go1 ha rfl (d_assign ha rfl) fun a ha => ?_
        refine nil_ ?_
        refine hK10 _ _ ?_
        have ha := ha.to (l' := [(8, _)]) rfl
        refine wp_ret ?_
        have hs : Step [p3, p2] [] w3 w3 := Step.pick _ _ []
        have r1 := hs.tr r1
        have hE : Ex w (Av [] No) [] w3 := hE.pick [] (by decide)
        injection hF with hF
        subst hF
        refine fin1 ha Try.results3 rfl ?_
        exact ⟨rfl, hE⟩

def warderlaw01_WireJoins_l3 (k : Nat) (a0 : List (List Int)) : Nat → (List (List Int)) → Int → Option (Bool)
  | 0, _, _ => none
  | k4 + 1, x9, x10 =>
    (if x10 < (a0.length : Int) then (ck (0 ≤ x10 ∧ x10 < (x9.length : Int)) (ck (0 ≤ x10 ∧ x10 < (a0.length : Int)) (if (strOf (x9.getD (x10).toNat ([] : List (Int)))) = (strOf (a0.getD (x10).toNat ([] : List (Int)))) then (warderlaw01_WireJoins_l3 k a0 k4 x9 (IntKind.i64.wrap (x10 + (1 : Int)))) else (some false)))) else ((warderlaw01_known k ).bind fun t4 => (some t4)))

def warderlaw01_WireJoins_l2 (k : Nat) (a0 : List (List Int)) : Nat → (List (List Int)) → (List Int) → Int → Option (Bool)
  | 0, _, _, _ => none
  | k3 + 1, x6, x7, x8 =>
    (if x8 < (x7.length : Int) then (ck (0 ≤ x8 ∧ x8 < (x7.length : Int)) (ck (0 ≤ x8 ∧ x8 < (x7.length : Int)) (warderlaw01_WireJoins_l2 k a0 k3 x6 (x7.set (x8).toNat (IntKind.u8.wrap ((x7.getD (x8).toNat (0 : Int)) + (1 : Int)))) (IntKind.i64.wrap (x8 + (1 : Int)))))) else (warderlaw01_WireJoins_l3 k a0 k x6 (0 : Int)))

def warderlaw01_WireJoins_l1 (k : Nat) (a0 : List (List Int)) : Nat → (List (List Int)) → (List Int) → Int → Option (Bool)
  | 0, _, _, _ => none
  | k2 + 1, x3, x4, x5 =>
    (if x5 < (a0.length : Int) then (ck (0 ≤ x5 ∧ x5 < (a0.length : Int)) (ck ((([] : List (Int)).length + (a0.getD (x5).toNat ([] : List (Int))).length) * 1 ≤ 140737488355328) (ck ((x3.length + ([(([] : List (Int)) ++ (a0.getD (x5).toNat ([] : List (Int))))] : List (List Int)).length) * 24 ≤ 140737488355328) (ck (0 ≤ x5 ∧ x5 < (a0.length : Int)) (ck ((x4.length + (a0.getD (x5).toNat ([] : List (Int))).length) * 1 ≤ 140737488355328) (warderlaw01_WireJoins_l1 k a0 k2 (x3 ++ ([(([] : List (Int)) ++ (a0.getD (x5).toNat ([] : List (Int))))] : List (List Int))) (x4 ++ (a0.getD (x5).toNat ([] : List (Int)))) (IntKind.i64.wrap (x5 + (1 : Int))))))))) else ((wire_Join k x3).bind fun t3 => (if (strOf t3) = (strOf x4) then (warderlaw01_WireJoins_l2 k a0 k x3 t3 (0 : Int)) else (some false))))

def warderlaw01_WireJoins_l0 (k : Nat) (a0 : List (List Int)) : Nat → Int → Int → Option (Bool)
  | 0, _, _ => none
  | k1 + 1, x1, x2 =>
    (if x2 < (a0.length : Int) then (ck (0 ≤ x2 ∧ x2 < (a0.length : Int)) (if (100 : Int) < x2 then ((warderlaw01_known k ).bind fun t1 => (some t1)) else (if (20000 : Int) < (IntKind.i64.wrap (x1 + ((a0.getD (x2).toNat ([] : List (Int))).length : Int))) then ((warderlaw01_known k ).bind fun t2 => (some t2)) else (warderlaw01_WireJoins_l0 k a0 k1 (IntKind.i64.wrap (x1 + ((a0.getD (x2).toNat ([] : List (Int))).length : Int))) (IntKind.i64.wrap (x2 + (1 : Int))))))) else (warderlaw01_WireJoins_l1 k a0 k ([] : List (List Int)) ([] : List (Int)) (0 : Int)))

def warderlaw01_WireJoins (k : Nat) (a0 : List (List Int)) : Option (Bool) :=
  (warderlaw01_WireJoins_l0 k a0 k (0 : Int) (0 : Int))
end Go.Proofs.Ytogclgfpnaocfaa
