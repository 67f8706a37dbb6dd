/- Own work. A part of the proof of a law of this seat: The walk: what each function of the program comes to. -/
import Derived.Test.YtmljbiijlljhfaaProg
import Derived.Test.YtmljbiijlljhfaaWf1
import Derived.Test.YtmljbiijlljhfaaBld
open Go Go.RowKit Go.Sx
namespace Go.Proofs.Ytmljbiijlljhfaa
set_option linter.unusedVariables false
set_option linter.unusedSimpArgs false

set_option maxHeartbeats 4000000 in
set_option maxRecDepth 100000 in
theorem warderlaw02_NibbleBack_c (k : Nat) (a0_0 : Int) (a0_1 : ByteArray) (a1 : Int) (a2 : Int)  (W : Nat → Prop) (w : World) (hW : ∀ k, W k → k < w.heap.size) (r : Bool) (hF : warderlaw02_NibbleBack k a0_0 a0_1 a1 a2 = some r) :
    Calls Try.prog 6 [.agg #[.int .i64 a0_0, .string a0_1], .int .i64 a1, .int .u8 a2].toArray w (Ret fun v w' => v = .bool r ∧ Ex w (Av [] No) [] w') := by
  unfold warderlaw02_NibbleBack at hF
  refine enter [(0, .agg #[.int .i64 a0_0, .string a0_1]), (1, .int .i64 a1), (2, .int .u8 a2)] Try.func6 rfl Try.ntmps6 rfl rfl fun a ha => ?_
  have hE : Ex w (Av [] No) [] w := Ex.refl w _
  have hW0 : ∀ p, some p ∈ ([] : List (Option Addr)) → ¬ W p.block := fun _ h => by cases h
  refine wp_seq_k (fun K1 hK1 => ?_)
  refine wreg ?_
  refine goR ha rfl (d_box (cs := [.int .i64 a0_0, .string a0_1]) ha rfl rfl) fun v w1 a h ha => ?_
  obtain ⟨b1, rfl, hb, hl, x1, hf⟩ := h
  have hs := Step.addB [] hf hb
  have hE := hE.addB hf hb hl
  refine go1 ha rfl (d_assign ha rfl) fun a ha => ?_
  refine nil_ ?_
  refine hK1 _ _ ?_
  have ha := ha.to (l' := [(1, _), (2, _), (3, _)]) rfl
  refine wseqJ (fun a w5 => Has 115 [(1, .int .i64 a1), (2, .int .u8 a2), (3, .pointer (some ⟨b1, 0, none⟩))] a ∧ Ex w (Av [] No) [some ⟨b1, 0, none⟩] w5 ∧ Bx w5 b1 29 [.int .i64 a0_0, .string a0_1] ∧ warderlaw02_NibbleBack_j0 k a0_0 a0_1 a1 a2 = some r) ?_ ?_
  · rintro a w5 ⟨ha, hE, x1, hF⟩
    unfold warderlaw02_NibbleBack_j0 at hF
    refine wp_seq_k (fun K7 hK7 => ?_)
    refine wreg ?_
    refine go1 ha rfl (d_loadAgg (cs := [.int .i64 a0_0, .string a0_1]) ha rfl (x1.at_.sub' 0 2 rfl) Try.isAgg29 Try.sizeOf29 rfl) fun a ha => ?_
    obtain ⟨t4, ht4, hF⟩ := bind_elim hF
    refine goR ha rfl (d_call Try.call15 ha (vs := [.agg #[.int .i64 a0_0, .string a0_1]]) rfl (nibble_Of_c k a0_0 a0_1  (Av [some ⟨b1, 0, none⟩] W) _ (Ex.wlt (as0 := []) (rr := []) (ro := [some ⟨b1, 0, none⟩]) hE hW)  _ ht4)) fun v w6 a h ha => ?_
    obtain ⟨p1, c1, rfl, hC, o1⟩ := h
    have hs : Step [some ⟨b1, 0, none⟩] [p1, some ⟨b1, 0, none⟩] w5 w6 := hC.callStep [some ⟨b1, 0, none⟩]
    have x1 := x1.keep hC.fr ((Ex.callOff (as0 := []) (rt := [some ⟨b1, 0, none⟩]) hE (u := some ⟨b1, 0, none⟩) (by simp)) _ rfl)
    have o1 : Ow (Av [p1, some ⟨b1, 0, none⟩] W) w6 5 (Kd.int .u8) p1 c1 t4 := o1.alone (Kd.Flat.int _)
    have hE : Ex w (Av [] No) [p1, some ⟨b1, 0, none⟩] w6 := Ex.call (as0 := []) (rt := [some ⟨b1, 0, none⟩]) hE hC
    refine go1 ha rfl (d_assign ha rfl) fun a ha => ?_
    refine nil_ ?_
    refine hK7 _ _ ?_
    have ha := ha.to (l' := [(1, _), (2, _), (3, _), (7, _)]) rfl
    refine wp_seq_k (fun K8 hK8 => ?_)
    refine wreg ?_
    refine go1 ha rfl (d_move ha rfl) fun a ha => ?_
    obtain ⟨t5, ht5, hF⟩ := bind_elim hF
    refine goR ha rfl (d_call Try.call21 ha (vs := [.slice p1 t4.length c1]) rfl (nibble_Read_c k t4 _ _ (Av [some ⟨b1, 0, none⟩] W) _ (Ex.wlt (as0 := []) (rr := [p1]) (ro := [some ⟨b1, 0, none⟩]) hE hW) (Ow.argR (as0 := []) (rr := [p1]) (ro := [some ⟨b1, 0, none⟩]) o1 hE hW hW0 (by simp)) _ ht5)) fun v w7 a h ha => ?_
    obtain ⟨rfl, hC⟩ := h
    have hs : Step [p1, some ⟨b1, 0, none⟩] [p1, some ⟨b1, 0, none⟩] w6 w7 := hC.callStep [p1, some ⟨b1, 0, none⟩]
    have o1 := o1.keep hC.fr (Ex.callOff (as0 := []) (rt := [p1, some ⟨b1, 0, none⟩]) hE (u := p1) (by simp)) (fun _ _ h => hs.trK h)
    have x1 := x1.keep hC.fr ((Ex.callOff (as0 := []) (rt := [p1, some ⟨b1, 0, none⟩]) hE (u := some ⟨b1, 0, none⟩) (by simp)) _ rfl)
    have hE : Ex w (Av [] No) [p1, some ⟨b1, 0, none⟩] w7 := Ex.call (as0 := []) (rt := [p1, some ⟨b1, 0, none⟩]) hE hC
    refine go1 ha rfl (d_move ha rfl) fun a ha => ?_
    refine go1 ha rfl (d_extract ha rfl rfl) fun a ha => ?_
    refine go1 ha rfl (d_extract ha rfl rfl) fun a ha => ?_
    refine goR ha rfl (d_alloc (cs := [.int .i64 (0 : Int), .string (⟨#[]⟩ : ByteArray)]) Try.zeroValue29 rfl) fun v w8 a h ha => ?_
    obtain ⟨b2, rfl, hb, hl, x2, hf⟩ := h
    have hs := Step.addB [p1, some ⟨b1, 0, none⟩] hf hb
    have o1 := o1.keep hf (fun _ _ h => h) (fun _ _ h => hs.trK h)
    have x1 := x1.stay hf
    have hE := hE.addB hf hb hl
    refine goR0 ha (d_store (cs := [.int .i64 (0 : Int), .string (⟨#[]⟩ : ByteArray)]) (vs := [.int .i64 t5.1.1, .string t5.1.2]) ha rfl rfl x2 rfl (by simp [Value.oneCell']) Try.sizeOf29 rfl (Nat.le_of_ble_eq_true rfl)) fun v w9 a h ha => ?_
    obtain ⟨x2, hf⟩ := h
    have hf := hf.blk1
    have hs := hE.stepAt 0 rfl hf
    have o1 := o1.keep hf (hE.off 0 1 rfl rfl (by decide)) (fun _ _ h => hs.trK h)
    have x1 := x1.keep hf ((hE.off 0 2 rfl rfl (by decide)) _ rfl)
    have hE := hE.wroteAt 0 rfl hf
    have x2 : Bx w9 b2 29 [.int .i64 t5.1.1, .string t5.1.2] := x2
    refine go1 ha rfl (d_assign ha rfl) fun a ha => ?_
    refine nil_ ?_
    refine hK8 _ _ ?_
    have ha := ha.to (l' := [(1, _), (2, _), (3, _), (7, _), (8, _), (9, _)]) rfl
    refine wseqJ (fun a w10 => ∃ (x3 : List Int) (p2 : Option Addr) (c2 : Nat), Has 115 [(1, .int .i64 a1), (2, .int .u8 a2), (3, .pointer (some ⟨b1, 0, none⟩)), (7, .slice p2 x3.length c2)] a ∧ Ex w (Av [] No) [p2, some ⟨b1, 0, none⟩] w10 ∧ Bx w10 b1 29 [.int .i64 a0_0, .string a0_1] ∧ Ow (Av [p2, some ⟨b1, 0, none⟩] W) w10 5 (Kd.int .u8) p2 c2 x3 ∧ warderlaw02_NibbleBack_j1 k a0_0 a0_1 a1 a2 x3 = some r) ?_ ?_
    · rintro a w10 ⟨x3, p2, c2, ha, hE, x1, o2, hF⟩
      unfold warderlaw02_NibbleBack_j1 at hF
      refine wp_seq_k (fun K15 hK15 => ?_)
      refine wp_seq_k (fun K16 hK16 => ?_)
      refine wreg ?_
      refine go1 ha rfl (d_move ha rfl) fun a ha => ?_
      refine go1 ha rfl (d_move ha rfl) fun a ha => ?_
      refine go1 ha rfl (d_lenSlice ha Try.underlying22 rfl) fun a ha => ?_
      refine go1 ha rfl (d_sub ha rfl rfl) fun a ha => ?_
      obtain ⟨hc6, hF⟩ := ck_elim hF
      refine goS ha rfl (d_slice_h (kd := (Kd.int .u8)) ha Try.underlying22 Try.sizeOf5 rfl rfl o2.rawNo hc6) fun v a h ha => ?_
      obtain ⟨p3, c3, rfl, r1, inn1⟩ := h
      obtain ⟨t6, ht6, hF⟩ := bind_elim hF
      refine goR ha rfl (d_call Try.call21 ha (vs := [.slice p3 (x3.take (IntKind.i64.wrap ((x3.length : Int) - (1 : Int))).toNat).length c3]) rfl (nibble_Read_c k (x3.take (IntKind.i64.wrap ((x3.length : Int) - (1 : Int))).toNat) _ _ (Av [some ⟨b1, 0, none⟩] W) _ (Ex.wlt (as0 := []) (rr := [p2]) (ro := [some ⟨b1, 0, none⟩]) hE hW) (Raw.argP (as0 := []) (rr := [p2]) (ro := [some ⟨b1, 0, none⟩]) r1 (Kd.Flat.int _) inn1 hE hW hW0 (by simp)) _ ht6)) fun v w11 a h ha => ?_
      obtain ⟨rfl, hC⟩ := h
      have hs : Step [p2, some ⟨b1, 0, none⟩] [p2, some ⟨b1, 0, none⟩] w10 w11 := hC.callStep [p2, some ⟨b1, 0, none⟩]
      have o2 := o2.keep hC.fr (Ex.callOff (as0 := []) (rt := [p2, some ⟨b1, 0, none⟩]) hE (u := p2) (by simp)) (fun _ _ h => hs.trK h)
      have x1 := x1.keep hC.fr ((Ex.callOff (as0 := []) (rt := [p2, some ⟨b1, 0, none⟩]) hE (u := some ⟨b1, 0, none⟩) (by simp)) _ rfl)
      have hE : Ex w (Av [] No) [p2, some ⟨b1, 0, none⟩] w11 := Ex.call (as0 := []) (rt := [p2, some ⟨b1, 0, none⟩]) hE hC
      refine go1 ha rfl (d_move ha rfl) fun a ha => ?_
      refine go1 ha rfl (d_extract ha rfl rfl) fun a ha => ?_
      refine go1 ha rfl (d_extract ha rfl rfl) fun a ha => ?_
      refine goR ha rfl (d_alloc (cs := [.int .i64 (0 : Int), .string (⟨#[]⟩ : ByteArray)]) Try.zeroValue29 rfl) fun v w12 a h ha => ?_
      obtain ⟨b3, rfl, hb, hl, x4, hf⟩ := h
      have hs := Step.addB [p2, some ⟨b1, 0, none⟩] hf hb
      have o2 := o2.keep hf (fun _ _ h => h) (fun _ _ h => hs.trK h)
      have x1 := x1.stay hf
      have hE := hE.addB hf hb hl
      refine goR0 ha (d_store (cs := [.int .i64 (0 : Int), .string (⟨#[]⟩ : ByteArray)]) (vs := [.int .i64 t6.1.1, .string t6.1.2]) ha rfl rfl x4 rfl (by simp [Value.oneCell']) Try.sizeOf29 rfl (Nat.le_of_ble_eq_true rfl)) fun v w13 a h ha => ?_
      obtain ⟨x4, hf⟩ := h
      have hf := hf.blk1
      have hs := hE.stepAt 0 rfl hf
      have o2 := o2.keep hf (hE.off 0 1 rfl rfl (by decide)) (fun _ _ h => hs.trK h)
      have x1 := x1.keep hf ((hE.off 0 2 rfl rfl (by decide)) _ rfl)
      have hE := hE.wroteAt 0 rfl hf
      have x4 : Bx w13 b3 29 [.int .i64 t6.1.1, .string t6.1.2] := x4
      refine go1 ha rfl (d_assign ha rfl) fun a ha => ?_
      refine nil_ ?_
      refine hK16 _ _ ?_
      have ha := ha.to (l' := [(1, _), (2, _), (3, _), (7, _), (11, _)]) rfl
      refine wp_seq_k (fun K17 hK17 => ?_)
      refine wreg ?_
      refine go1 ha rfl (d_move ha rfl) fun a ha => ?_
      refine go1 ha rfl (d_neI ha rfl rfl) fun a ha => ?_
      refine nil_ ?_
      refine hK17 _ _ ?_
      have ha := ha.to (l' := [(1, _), (2, _), (3, _), (7, _), (56, _)]) rfl
      rcases ite_elim hF with ⟨hc7, hF⟩ | ⟨hc7, hF⟩
      · refine wcond_f ha rfl (not_t (decide_eq_true hc7)) ?_
        refine wp_skip ?_
        refine hK15 _ _ ?_
        have ha := ha.to (l' := [(1, _), (2, _), (3, _), (7, _)]) rfl
        refine wp_seq_k (fun K19 hK19 => ?_)
        refine wp_seq_k (fun K20 hK20 => ?_)
        refine wreg ?_
        refine go1 ha rfl (d_move ha rfl) fun a ha => ?_
        obtain ⟨hc8, hF⟩ := ck_elim hF
        have hs := Step.add (a := none) [some ⟨b3, 0, none⟩, p2, some ⟨b1, 0, none⟩] (Fr.refl w13 No) (fun _ h => by cases h)
        have o2 := o2.keep (Fr.refl _ No) (fun _ _ h => h) (fun _ _ h => hs.trK h)
        have hE : Ex w (Av [] No) [none, some ⟨b3, 0, none⟩, p2, some ⟨b1, 0, none⟩] w13 := hE.add (a := none) (Fr.refl w13 No) (fun _ h => by cases h)
        have o3 := Ow.nil (Av [none, some ⟨b3, 0, none⟩, p2, some ⟨b1, 0, none⟩] W) w13 5 (Kd.int .u8)
        refine goR ha rfl (d_append (B := W) (kd := (Kd.int .u8)) (zv := .int .u8 (0 : Int)) (bytes := 1) (lf := []) (rt := [some ⟨b3, 0, none⟩, p2, some ⟨b1, 0, none⟩]) (fun q => [q, some ⟨b3, 0, none⟩, p2, some ⟨b1, 0, none⟩]) (fun _ => rfl) ha Try.underlying22 (by kernel_rfl) rfl (by decide) (by decide) rfl rfl hE o3 o2.rawNo (fun _ _ h => ((Kd.Flat.int _)).eq h) hc8) fun v w14 a h ha => ?_
        obtain ⟨p4, c4, rfl, hs, hE1, hf, o3⟩ := h
        have x4 := x4.keep hf ((hE.off 0 1 rfl rfl (by decide)) _ rfl)
        have o2 := o2.keep hf (hE.off 0 2 rfl rfl (by decide)) (fun _ _ h => hs.trK h)
        have x1 := x1.keep hf ((hE.off 0 3 rfl rfl (by decide)) _ rfl)
        have hE := hE1
        refine goR ha rfl (d_buildSlice (B := W) (kd := (Kd.int .u8)) (xs := ([(0 : Int)] : List (Int))) (vs := [.int .u8 (0 : Int)]) ha Try.underlying22 Try.sizeOf5 Try.zeroValue5 rfl (Els.cons (c := [.int .u8 (0 : Int)]) (rfl) Els.nil) (by simp [Value.cells, Kd.int, Kd.scalar, Kd.bool, Kd.str, Kd.pair, Kd.sl]) rfl rfl (by decide) (by decide) hE) fun v w15 a h ha => ?_
        obtain ⟨p5, c5, rfl, hs, hE, hf, o4⟩ := h
        have o3 := o3.keep hf (fun _ _ h => h) (fun _ _ h => hs.trK h)
        have x4 := x4.stay hf
        have o2 := o2.keep hf (fun _ _ h => h) (fun _ _ h => hs.trK h)
        have x1 := x1.stay hf
        obtain ⟨hc9, hF⟩ := ck_elim hF
        refine goR ha rfl (d_append (B := W) (kd := (Kd.int .u8)) (zv := .int .u8 (0 : Int)) (bytes := 1) (lf := [p5]) (rt := [some ⟨b3, 0, none⟩, p2, some ⟨b1, 0, none⟩]) (fun q => [p5, q, some ⟨b3, 0, none⟩, p2, some ⟨b1, 0, none⟩]) (fun _ => rfl) ha Try.underlying22 (by kernel_rfl) rfl (by decide) (by decide) rfl rfl hE o3 o4.rawNo (fun _ _ h => ((Kd.Flat.int _)).eq h) hc9) fun v w16 a h ha => ?_
        obtain ⟨p6, c6, rfl, hs, hE1, hf, o3⟩ := h
        have o4 := o4.keep hf (hE.off 1 0 rfl rfl (by decide)) (fun _ _ h => hs.trK h)
        have x4 := x4.keep hf ((hE.off 1 2 rfl rfl (by decide)) _ rfl)
        have o2 := o2.keep hf (hE.off 1 3 rfl rfl (by decide)) (fun _ _ h => hs.trK h)
        have x1 := x1.keep hf ((hE.off 1 4 rfl rfl (by decide)) _ rfl)
        have hE := hE1
        obtain ⟨t7, ht7, hF⟩ := bind_elim hF
        have hs : Step [p5, p6, some ⟨b3, 0, none⟩, p2, some ⟨b1, 0, none⟩] [p6, p5, some ⟨b3, 0, none⟩, p2, some ⟨b1, 0, none⟩] w16 w16 := Step.pick _ _ [1, 0, 2, 3, 4]
        have o3 := o3.keep (Fr.refl _ No) (fun _ _ h => h) (fun _ _ h => hs.trK h)
        have o4 := o4.keep (Fr.refl _ No) (fun _ _ h => h) (fun _ _ h => hs.trK h)
        have o2 := o2.keep (Fr.refl _ No) (fun _ _ h => h) (fun _ _ h => hs.trK h)
        have hE : Ex w (Av [] No) [p6, p5, some ⟨b3, 0, none⟩, p2, some ⟨b1, 0, none⟩] w16 := hE.pick [1, 0, 2, 3, 4] (by decide)
        refine goR ha rfl (d_call Try.call21 ha (vs := [.slice p6 ((([] : List (Int)) ++ x3) ++ ([(0 : Int)] : List (Int))).length c6]) rfl (nibble_Read_c k ((([] : List (Int)) ++ x3) ++ ([(0 : Int)] : List (Int))) _ _ (Av [p5, some ⟨b3, 0, none⟩, p2, some ⟨b1, 0, none⟩] W) _ (Ex.wlt (as0 := []) (rr := [p6]) (ro := [p5, some ⟨b3, 0, none⟩, p2, some ⟨b1, 0, none⟩]) hE hW) (Ow.argR (as0 := []) (rr := [p6]) (ro := [p5, some ⟨b3, 0, none⟩, p2, some ⟨b1, 0, none⟩]) o3 hE hW hW0 (by simp)) _ ht7)) fun v w17 a h ha => ?_
        obtain ⟨rfl, hC⟩ := h
        have hs : Step [p6, p5, some ⟨b3, 0, none⟩, p2, some ⟨b1, 0, none⟩] [p6, p5, some ⟨b3, 0, none⟩, p2, some ⟨b1, 0, none⟩] w16 w17 := hC.callStep [p6, p5, some ⟨b3, 0, none⟩, p2, some ⟨b1, 0, none⟩]
        have o3 := o3.keep hC.fr (Ex.callOff (as0 := []) (rt := [p6, p5, some ⟨b3, 0, none⟩, p2, some ⟨b1, 0, none⟩]) hE (u := p6) (by simp)) (fun _ _ h => hs.trK h)
        have o4 := o4.keep hC.fr (Ex.callOff (as0 := []) (rt := [p6, p5, some ⟨b3, 0, none⟩, p2, some ⟨b1, 0, none⟩]) hE (u := p5) (by simp)) (fun _ _ h => hs.trK h)
        have x4 := x4.keep hC.fr ((Ex.callOff (as0 := []) (rt := [p6, p5, some ⟨b3, 0, none⟩, p2, some ⟨b1, 0, none⟩]) hE (u := some ⟨b3, 0, none⟩) (by simp)) _ rfl)
        have o2 := o2.keep hC.fr (Ex.callOff (as0 := []) (rt := [p6, p5, some ⟨b3, 0, none⟩, p2, some ⟨b1, 0, none⟩]) hE (u := p2) (by simp)) (fun _ _ h => hs.trK h)
        have x1 := x1.keep hC.fr ((Ex.callOff (as0 := []) (rt := [p6, p5, some ⟨b3, 0, none⟩, p2, some ⟨b1, 0, none⟩]) hE (u := some ⟨b1, 0, none⟩) (by simp)) _ rfl)
        have hE : Ex w (Av [] No) [p6, p5, some ⟨b3, 0, none⟩, p2, some ⟨b1, 0, none⟩] w17 := Ex.call (as0 := []) (rt := [p6, p5, some ⟨b3, 0, none⟩, p2, some ⟨b1, 0, none⟩]) hE hC
        refine go1 ha rfl (d_move ha rfl) fun a ha => ?_
        refine go1 ha rfl (d_extract ha rfl rfl) fun a ha => ?_
        refine go1 ha rfl (d_extract ha rfl rfl) fun a ha => ?_
        refine goR ha rfl (d_alloc (cs := [.int .i64 (0 : Int), .string (⟨#[]⟩ : ByteArray)]) Try.zeroValue29 rfl) fun v w18 a h ha => ?_
        obtain ⟨b4, rfl, hb, hl, x5, hf⟩ := h
        have hs := Step.addB [p6, p5, some ⟨b3, 0, none⟩, p2, some ⟨b1, 0, none⟩] hf hb
        have o3 := o3.keep hf (fun _ _ h => h) (fun _ _ h => hs.trK h)
        have o4 := o4.keep hf (fun _ _ h => h) (fun _ _ h => hs.trK h)
        have x4 := x4.stay hf
        have o2 := o2.keep hf (fun _ _ h => h) (fun _ _ h => hs.trK h)
        have x1 := x1.stay hf
        have hE := hE.addB hf hb hl
        refine goR0 ha (d_store (cs := [.int .i64 (0 : Int), .string (⟨#[]⟩ : ByteArray)]) (vs := [.int .i64 t7.1.1, .string t7.1.2]) ha rfl rfl x5 rfl (by simp [Value.oneCell']) Try.sizeOf29 rfl (Nat.le_of_ble_eq_true rfl)) fun v w19 a h ha => ?_
        obtain ⟨x5, hf⟩ := h
        have hf := hf.blk1
        have hs := hE.stepAt 0 rfl hf
        have o3 := o3.keep hf (hE.off 0 1 rfl rfl (by decide)) (fun _ _ h => hs.trK h)
        have o4 := o4.keep hf (hE.off 0 2 rfl rfl (by decide)) (fun _ _ h => hs.trK h)
        have x4 := x4.keep hf ((hE.off 0 3 rfl rfl (by decide)) _ rfl)
        have o2 := o2.keep hf (hE.off 0 4 rfl rfl (by decide)) (fun _ _ h => hs.trK h)
        have x1 := x1.keep hf ((hE.off 0 5 rfl rfl (by decide)) _ rfl)
        have hE := hE.wroteAt 0 rfl hf
        have x5 : Bx w19 b4 29 [.int .i64 t7.1.1, .string t7.1.2] := x5
        refine go1 ha rfl (d_assign ha rfl) fun a ha => ?_
        refine nil_ ?_
        refine hK20 _ _ ?_
        have ha := ha.to (l' := [(1, _), (2, _), (3, _), (7, _), (13, _)]) rfl
        refine wp_seq_k (fun K21 hK21 => ?_)
        refine wreg ?_
        refine go1 ha rfl (d_move ha rfl) fun a ha => ?_
        refine go1 ha rfl (d_neI ha rfl rfl) fun a ha => ?_
        refine nil_ ?_
        refine hK21 _ _ ?_
        have ha := ha.to (l' := [(1, _), (2, _), (3, _), (7, _), (66, _)]) rfl
        rcases ite_elim hF with ⟨hc10, hF⟩ | ⟨hc10, hF⟩
        · refine wcond_f ha rfl (not_t (decide_eq_true hc10)) ?_
          refine wp_skip ?_
          refine hK19 _ _ ?_
          have ha := ha.to (l' := [(1, _), (2, _), (3, _), (7, _)]) rfl
          refine wp_seq_k (fun K23 hK23 => ?_)
          refine wreg ?_
          refine go1 ha rfl (d_move ha rfl) fun a ha => ?_
          refine go1 ha rfl (d_cvt ha Try.underlying3 Try.underlying41 rfl) fun a ha => ?_
          refine go1 ha rfl (d_move ha rfl) fun a ha => ?_
          refine go1 ha rfl (d_lenSlice ha Try.underlying22 rfl) fun a ha => ?_
          refine go1 ha rfl (d_cvt ha Try.underlying3 Try.underlying41 rfl) fun a ha => ?_
          obtain ⟨hc11, hF⟩ := ck_elim hF
          refine go1 ha rfl (d_rem ha rfl rfl hc11) fun a ha => ?_
          refine go1 ha rfl (d_cvt ha Try.underlying41 Try.underlying3 rfl) fun a ha => ?_
          refine go1 ha rfl (d_assign ha rfl) fun a ha => ?_
          refine nil_ ?_
          refine hK23 _ _ ?_
          have ha := ha.to (l' := [(2, _), (3, _), (7, _), (14, _)]) rfl
          refine wp_seq_k (fun K24 hK24 => ?_)
          refine wreg ?_
          refine go1 ha rfl (d_move ha rfl) fun a ha => ?_
          refine go1 ha rfl (d_move ha rfl) fun a ha => ?_
          refine go1 ha rfl (d_move ha rfl) fun a ha => ?_
          refine go1 ha rfl (d_move ha rfl) fun a ha => ?_
          obtain ⟨hc12, hF⟩ := ck_elim hF
          refine goS ha rfl (d_indexOwR (kd := (Kd.int .u8)) ha rfl rfl Try.underlying22 Try.sizeOf5 o2 hc12 (0 : Int)) fun v a h ha => ?_
          obtain ⟨b5, q1, cs1, rfl, hk1, at1⟩ := h
          obtain rfl := hk1
          refine go1 ha rfl (d_load ha rfl (at1.cell 0 rfl) Try.isAgg5) fun a ha => ?_
          refine go1 ha rfl (d_move ha rfl) fun a ha => ?_
          refine go1 ha rfl (d_add ha rfl rfl) fun a ha => ?_
          obtain ⟨hc13, hF⟩ := ck_elim hF
          refine goS ha rfl (d_indexOw (kd := (Kd.int .u8)) ha rfl rfl Try.underlying22 Try.sizeOf5 o2 hc13) fun v a h ha => ?_
          obtain ⟨b6, e1, rfl⟩ := h
          have hq1 : (IntKind.i64.wrap ((IntKind.u64.wrap a1).tmod (IntKind.u64.wrap (x3.length : Int)))).toNat < x3.length := by omega
          refine goR0 ha (d_storeOw (B := W) (kd := (Kd.int .u8)) (lf := [some ⟨b4, 0, none⟩, p6, p5, some ⟨b3, 0, none⟩]) (rt := [some ⟨b1, 0, none⟩]) (vs := [.int .u8 (IntKind.u8.wrap ((x3.getD (IntKind.i64.wrap ((IntKind.u64.wrap a1).tmod (IntKind.u64.wrap (x3.length : Int)))).toNat (0 : Int)) + a2))]) (yv := IntKind.u8.wrap ((x3.getD (IntKind.i64.wrap ((IntKind.u64.wrap a1).tmod (IntKind.u64.wrap (x3.length : Int)))).toNat (0 : Int)) + a2)) (fun q => [some ⟨b4, 0, none⟩, p6, p5, some ⟨b3, 0, none⟩, q, some ⟨b1, 0, none⟩]) (fun _ => rfl) ha Try.sizeOf5 e1 rfl rfl rfl hE o2 hq1 (rfl)) fun v w20 a h ha => ?_
          obtain ⟨hs, hE1, hf, o2⟩ := h
          have x5 := x5.keep hf ((hE.off 4 0 rfl rfl (by decide)) _ rfl)
          have o3 := o3.keep hf (hE.off 4 1 rfl rfl (by decide)) (fun _ _ h => hs.trK h)
          have o4 := o4.keep hf (hE.off 4 2 rfl rfl (by decide)) (fun _ _ h => hs.trK h)
          have x4 := x4.keep hf ((hE.off 4 3 rfl rfl (by decide)) _ rfl)
          have x1 := x1.keep hf ((hE.off 4 5 rfl rfl (by decide)) _ rfl)
          have hE := hE1
          have ha : Has 115 [(2, .int .u8 a2), (3, .pointer (some ⟨b1, 0, none⟩)), (7, .slice p2 (x3.set (IntKind.i64.wrap ((IntKind.u64.wrap a1).tmod (IntKind.u64.wrap (x3.length : Int)))).toNat (IntKind.u8.wrap ((x3.getD (IntKind.i64.wrap ((IntKind.u64.wrap a1).tmod (IntKind.u64.wrap (x3.length : Int)))).toNat (0 : Int)) + a2))).length c2), (14, .int .i64 (IntKind.i64.wrap ((IntKind.u64.wrap a1).tmod (IntKind.u64.wrap (x3.length : Int))))), (74, .slice p2 (x3.set (IntKind.i64.wrap ((IntKind.u64.wrap a1).tmod (IntKind.u64.wrap (x3.length : Int)))).toNat (IntKind.u8.wrap ((x3.getD (IntKind.i64.wrap ((IntKind.u64.wrap a1).tmod (IntKind.u64.wrap (x3.length : Int)))).toNat (0 : Int)) + a2))).length c2), (75, .int .i64 (IntKind.i64.wrap ((IntKind.u64.wrap a1).tmod (IntKind.u64.wrap (x3.length : Int))))), (76, .slice p2 (x3.set (IntKind.i64.wrap ((IntKind.u64.wrap a1).tmod (IntKind.u64.wrap (x3.length : Int)))).toNat (IntKind.u8.wrap ((x3.getD (IntKind.i64.wrap ((IntKind.u64.wrap a1).tmod (IntKind.u64.wrap (x3.length : Int)))).toNat (0 : Int)) + a2))).length c2), (77, .int .i64 (IntKind.i64.wrap ((IntKind.u64.wrap a1).tmod (IntKind.u64.wrap (x3.length : Int))))), (78, .pointer (some ⟨b5, q1, none⟩)), (79, .int .u8 (x3.getD (IntKind.i64.wrap ((IntKind.u64.wrap a1).tmod (IntKind.u64.wrap (x3.length : Int)))).toNat (0 : Int))), (80, .int .u8 a2), (81, .int .u8 (IntKind.u8.wrap ((x3.getD (IntKind.i64.wrap ((IntKind.u64.wrap a1).tmod (IntKind.u64.wrap (x3.length : Int)))).toNat (0 : Int)) + a2)))] a := by simpa only [List.length_set] using ha.to (l' := [(2, _), (3, _), (7, _), (14, _), (74, _), (75, _), (76, _), (77, _), (78, _), (79, _), (80, _), (81, _)]) rfl
          refine nil_ ?_
          refine hK24 _ _ ?_
          have ha := ha.to (l' := [(2, _), (3, _), (7, _)]) rfl
          refine wp_seq_k (fun K25 hK25 => ?_)
          refine wreg ?_
          refine go1 ha rfl (d_move ha rfl) fun a ha => ?_
          obtain ⟨t8, ht8, hF⟩ := bind_elim hF
          have hs : Step [some ⟨b4, 0, none⟩, p6, p5, some ⟨b3, 0, none⟩, p2, some ⟨b1, 0, none⟩] [p2, some ⟨b4, 0, none⟩, p6, p5, some ⟨b3, 0, none⟩, some ⟨b1, 0, none⟩] w20 w20 := Step.pick _ _ [4, 0, 1, 2, 3, 5]
          have o2 := o2.keep (Fr.refl _ No) (fun _ _ h => h) (fun _ _ h => hs.trK h)
          have o3 := o3.keep (Fr.refl _ No) (fun _ _ h => h) (fun _ _ h => hs.trK h)
          have o4 := o4.keep (Fr.refl _ No) (fun _ _ h => h) (fun _ _ h => hs.trK h)
          have hE : Ex w (Av [] No) [p2, some ⟨b4, 0, none⟩, p6, p5, some ⟨b3, 0, none⟩, some ⟨b1, 0, none⟩] w20 := hE.pick [4, 0, 1, 2, 3, 5] (by decide)
          refine goR ha rfl (d_call Try.call21 ha (vs := [.slice p2 (x3.set (IntKind.i64.wrap ((IntKind.u64.wrap a1).tmod (IntKind.u64.wrap (x3.length : Int)))).toNat (IntKind.u8.wrap ((x3.getD (IntKind.i64.wrap ((IntKind.u64.wrap a1).tmod (IntKind.u64.wrap (x3.length : Int)))).toNat (0 : Int)) + a2))).length c2]) rfl (nibble_Read_c k (x3.set (IntKind.i64.wrap ((IntKind.u64.wrap a1).tmod (IntKind.u64.wrap (x3.length : Int)))).toNat (IntKind.u8.wrap ((x3.getD (IntKind.i64.wrap ((IntKind.u64.wrap a1).tmod (IntKind.u64.wrap (x3.length : Int)))).toNat (0 : Int)) + a2))) _ _ (Av [some ⟨b4, 0, none⟩, p6, p5, some ⟨b3, 0, none⟩, some ⟨b1, 0, none⟩] W) _ (Ex.wlt (as0 := []) (rr := [p2]) (ro := [some ⟨b4, 0, none⟩, p6, p5, some ⟨b3, 0, none⟩, some ⟨b1, 0, none⟩]) hE hW) (Ow.argR (as0 := []) (rr := [p2]) (ro := [some ⟨b4, 0, none⟩, p6, p5, some ⟨b3, 0, none⟩, some ⟨b1, 0, none⟩]) o2 hE hW hW0 (by simp)) _ ht8)) fun v w21 a h ha => ?_
          obtain ⟨rfl, hC⟩ := h
          have hs : Step [p2, some ⟨b4, 0, none⟩, p6, p5, some ⟨b3, 0, none⟩, some ⟨b1, 0, none⟩] [p2, some ⟨b4, 0, none⟩, p6, p5, some ⟨b3, 0, none⟩, some ⟨b1, 0, none⟩] w20 w21 := hC.callStep [p2, some ⟨b4, 0, none⟩, p6, p5, some ⟨b3, 0, none⟩, some ⟨b1, 0, none⟩]
          have o2 := o2.keep hC.fr (Ex.callOff (as0 := []) (rt := [p2, some ⟨b4, 0, none⟩, p6, p5, some ⟨b3, 0, none⟩, some ⟨b1, 0, none⟩]) hE (u := p2) (by simp)) (fun _ _ h => hs.trK h)
          have x5 := x5.keep hC.fr ((Ex.callOff (as0 := []) (rt := [p2, some ⟨b4, 0, none⟩, p6, p5, some ⟨b3, 0, none⟩, some ⟨b1, 0, none⟩]) hE (u := some ⟨b4, 0, none⟩) (by simp)) _ rfl)
          have o3 := o3.keep hC.fr (Ex.callOff (as0 := []) (rt := [p2, some ⟨b4, 0, none⟩, p6, p5, some ⟨b3, 0, none⟩, some ⟨b1, 0, none⟩]) hE (u := p6) (by simp)) (fun _ _ h => hs.trK h)
          have o4 := o4.keep hC.fr (Ex.callOff (as0 := []) (rt := [p2, some ⟨b4, 0, none⟩, p6, p5, some ⟨b3, 0, none⟩, some ⟨b1, 0, none⟩]) hE (u := p5) (by simp)) (fun _ _ h => hs.trK h)
          have x4 := x4.keep hC.fr ((Ex.callOff (as0 := []) (rt := [p2, some ⟨b4, 0, none⟩, p6, p5, some ⟨b3, 0, none⟩, some ⟨b1, 0, none⟩]) hE (u := some ⟨b3, 0, none⟩) (by simp)) _ rfl)
          have x1 := x1.keep hC.fr ((Ex.callOff (as0 := []) (rt := [p2, some ⟨b4, 0, none⟩, p6, p5, some ⟨b3, 0, none⟩, some ⟨b1, 0, none⟩]) hE (u := some ⟨b1, 0, none⟩) (by simp)) _ rfl)
          have hE : Ex w (Av [] No) [p2, some ⟨b4, 0, none⟩, p6, p5, some ⟨b3, 0, none⟩, some ⟨b1, 0, none⟩] w21 := Ex.call (as0 := []) (rt := [p2, some ⟨b4, 0, none⟩, p6, p5, some ⟨b3, 0, none⟩, some ⟨b1, 0, none⟩]) hE hC
          refine go1 ha rfl (d_move ha rfl) fun a ha => ?_
          refine go1 ha rfl (d_extract ha rfl rfl) fun a ha => ?_
          refine go1 ha rfl (d_extract ha rfl rfl) fun a ha => ?_
          refine goR ha rfl (d_alloc (cs := [.int .i64 (0 : Int), .string (⟨#[]⟩ : ByteArray)]) Try.zeroValue29 rfl) fun v w22 a h ha => ?_
          obtain ⟨b7, rfl, hb, hl, x6, hf⟩ := h
          have hs := Step.addB [p2, some ⟨b4, 0, none⟩, p6, p5, some ⟨b3, 0, none⟩, some ⟨b1, 0, none⟩] hf hb
          have o2 := o2.keep hf (fun _ _ h => h) (fun _ _ h => hs.trK h)
          have x5 := x5.stay hf
          have o3 := o3.keep hf (fun _ _ h => h) (fun _ _ h => hs.trK h)
          have o4 := o4.keep hf (fun _ _ h => h) (fun _ _ h => hs.trK h)
          have x4 := x4.stay hf
          have x1 := x1.stay hf
          have hE := hE.addB hf hb hl
          refine goR0 ha (d_store (cs := [.int .i64 (0 : Int), .string (⟨#[]⟩ : ByteArray)]) (vs := [.int .i64 t8.1.1, .string t8.1.2]) ha rfl rfl x6 rfl (by simp [Value.oneCell']) Try.sizeOf29 rfl (Nat.le_of_ble_eq_true rfl)) fun v w23 a h ha => ?_
          obtain ⟨x6, hf⟩ := h
          have hf := hf.blk1
          have hs := hE.stepAt 0 rfl hf
          have o2 := o2.keep hf (hE.off 0 1 rfl rfl (by decide)) (fun _ _ h => hs.trK h)
          have x5 := x5.keep hf ((hE.off 0 2 rfl rfl (by decide)) _ rfl)
          have o3 := o3.keep hf (hE.off 0 3 rfl rfl (by decide)) (fun _ _ h => hs.trK h)
          have o4 := o4.keep hf (hE.off 0 4 rfl rfl (by decide)) (fun _ _ h => hs.trK h)
          have x4 := x4.keep hf ((hE.off 0 5 rfl rfl (by decide)) _ rfl)
          have x1 := x1.keep hf ((hE.off 0 6 rfl rfl (by decide)) _ rfl)
          have hE := hE.wroteAt 0 rfl hf
          have x6 : Bx w23 b7 29 [.int .i64 t8.1.1, .string t8.1.2] := x6
          refine go1 ha rfl (d_assign ha rfl) fun a ha => ?_
          refine nil_ ?_
          refine hK25 _ _ ?_
          have ha := ha.to (l' := [(2, _), (3, _), (15, _), (16, _)]) rfl
          refine wp_seq_k (fun K26 hK26 => ?_)
          refine wreg ?_
          refine go1 ha rfl (d_move ha rfl) fun a ha => ?_
          refine go1 ha rfl (d_eqI ha rfl rfl) fun a ha => ?_
          refine go1 ha rfl (d_move ha rfl) fun a ha => ?_
          rcases ite_elim hF with ⟨hc14, hF⟩ | ⟨hc14, hF⟩
          · refine goOn1 ha rfl rfl rfl rfl (decide_eq_true hc14) (d_move ha rfl) fun a ha => ?_
            refine goOn1 ha rfl rfl rfl rfl (decide_eq_true hc14) (d_eqI ha rfl rfl) fun a ha => ?_
            refine go1 ha rfl (d_pick ha rfl (decide_eq_true hc14) rfl) fun a ha => ?_
            refine go1 ha rfl (d_move ha rfl) fun a ha => ?_
            rcases ite_elim hF with ⟨hc15, hF⟩ | ⟨hc15, hF⟩
            · refine goOn1 ha rfl rfl rfl rfl (decide_eq_true hc15) (d_loadAgg (cs := [.int .i64 t8.1.1, .string t8.1.2]) ha rfl (x6.at_.sub' 0 2 rfl) Try.isAgg29 Try.sizeOf29 rfl) fun a ha => ?_
              refine goOn1 ha rfl rfl rfl rfl (decide_eq_true hc15) (d_loadAgg (cs := [.int .i64 a0_0, .string a0_1]) ha rfl (x1.at_.sub' 0 2 rfl) Try.isAgg29 Try.sizeOf29 rfl) fun a ha => ?_
              refine goOn1 ha rfl rfl rfl rfl (decide_eq_true hc15) (d_eqAg (q := t8.1.1 = a0_0 ∧ t8.1.2 = a0_1) ha rfl rfl (by kernel_rfl) (.struct Try.underlying29 (by kernel_rfl) (.cons (by decide) (.cell Try.isAgg27 rfl) (.cell Try.isAgg27 rfl) (.int Try.underlying27) (.one (by decide) (.cell Try.isAgg9 rfl) (.cell Try.isAgg9 rfl) (.str Try.underlying9))))) fun a ha => ?_
              refine go1 ha rfl (d_pick ha rfl (decide_eq_true hc15) rfl) fun a ha => ?_
              refine go1 ha rfl (d_move ha rfl) fun a ha => ?_
              rcases ite_elim hF with ⟨hc16, hF⟩ | ⟨hc16, hF⟩
              · refine goOff ha rfl rfl rfl rfl (decide_eq_true hc16) fun a ha => ?_
                refine goOff ha rfl rfl rfl rfl (decide_eq_true hc16) fun a ha => ?_
                refine goOff ha rfl rfl rfl rfl (decide_eq_true hc16) fun a ha => ?_
                refine goGone ha rfl rfl rfl rfl  fun a ha => ?_
                refine goGone ha rfl rfl rfl rfl  fun a ha => ?_
                refine goGone ha rfl rfl rfl rfl  fun a ha => ?_
                refine goGone ha rfl rfl rfl rfl  fun a ha => ?_
                refine goGone ha rfl rfl rfl rfl  fun a ha => ?_
                refine goGone ha rfl rfl rfl rfl  fun a ha => ?_
                refine goGone ha rfl rfl rfl rfl  fun a ha => ?_
                refine goOff ha rfl rfl rfl rfl (decide_eq_true hc16) fun a ha => ?_
                refine go1 ha rfl (d_pick ha rfl (decide_eq_true hc16) rfl) fun a ha => ?_
                refine go1 ha rfl (d_move ha rfl) fun a ha => ?_
                obtain ⟨t9, ht9, hF⟩ := bind_elim hF
                refine goOnR ha rfl rfl rfl rfl rfl (d_call Try.call10 ha (vs := []) rfl (warderlaw02_known_c k   (Av [some ⟨b7, 0, none⟩, p2, some ⟨b4, 0, none⟩, p6, p5, some ⟨b3, 0, none⟩, some ⟨b1, 0, none⟩] W) _ (Ex.wlt (as0 := []) (rr := []) (ro := [some ⟨b7, 0, none⟩, p2, some ⟨b4, 0, none⟩, p6, p5, some ⟨b3, 0, none⟩, some ⟨b1, 0, none⟩]) hE hW)  _ ht9)) fun v w24 a h ha => ?_
                obtain ⟨rfl, hC⟩ := h
                have hs : Step [some ⟨b7, 0, none⟩, p2, some ⟨b4, 0, none⟩, p6, p5, some ⟨b3, 0, none⟩, some ⟨b1, 0, none⟩] [some ⟨b7, 0, none⟩, p2, some ⟨b4, 0, none⟩, p6, p5, some ⟨b3, 0, none⟩, some ⟨b1, 0, none⟩] w23 w24 := hC.callStep [some ⟨b7, 0, none⟩, p2, some ⟨b4, 0, none⟩, p6, p5, some ⟨b3, 0, none⟩, some ⟨b1, 0, none⟩]
                have x6 := x6.keep hC.fr ((Ex.callOff (as0 := []) (rt := [some ⟨b7, 0, none⟩, p2, some ⟨b4, 0, none⟩, p6, p5, some ⟨b3, 0, none⟩, some ⟨b1, 0, none⟩]) hE (u := some ⟨b7, 0, none⟩) (by simp)) _ rfl)
                have o2 := o2.keep hC.fr (Ex.callOff (as0 := []) (rt := [some ⟨b7, 0, none⟩, p2, some ⟨b4, 0, none⟩, p6, p5, some ⟨b3, 0, none⟩, some ⟨b1, 0, none⟩]) hE (u := p2) (by simp)) (fun _ _ h => hs.trK h)
                have x5 := x5.keep hC.fr ((Ex.callOff (as0 := []) (rt := [some ⟨b7, 0, none⟩, p2, some ⟨b4, 0, none⟩, p6, p5, some ⟨b3, 0, none⟩, some ⟨b1, 0, none⟩]) hE (u := some ⟨b4, 0, none⟩) (by simp)) _ rfl)
                have o3 := o3.keep hC.fr (Ex.callOff (as0 := []) (rt := [some ⟨b7, 0, none⟩, p2, some ⟨b4, 0, none⟩, p6, p5, some ⟨b3, 0, none⟩, some ⟨b1, 0, none⟩]) hE (u := p6) (by simp)) (fun _ _ h => hs.trK h)
                have o4 := o4.keep hC.fr (Ex.callOff (as0 := []) (rt := [some ⟨b7, 0, none⟩, p2, some ⟨b4, 0, none⟩, p6, p5, some ⟨b3, 0, none⟩, some ⟨b1, 0, none⟩]) hE (u := p5) (by simp)) (fun _ _ h => hs.trK h)
                have x4 := x4.keep hC.fr ((Ex.callOff (as0 := []) (rt := [some ⟨b7, 0, none⟩, p2, some ⟨b4, 0, none⟩, p6, p5, some ⟨b3, 0, none⟩, some ⟨b1, 0, none⟩]) hE (u := some ⟨b3, 0, none⟩) (by simp)) _ rfl)
                have x1 := x1.keep hC.fr ((Ex.callOff (as0 := []) (rt := [some ⟨b7, 0, none⟩, p2, some ⟨b4, 0, none⟩, p6, p5, some ⟨b3, 0, none⟩, some ⟨b1, 0, none⟩]) hE (u := some ⟨b1, 0, none⟩) (by simp)) _ rfl)
                have hE : Ex w (Av [] No) [some ⟨b7, 0, none⟩, p2, some ⟨b4, 0, none⟩, p6, p5, some ⟨b3, 0, none⟩, some ⟨b1, 0, none⟩] w24 := Ex.call (as0 := []) (rt := [some ⟨b7, 0, none⟩, p2, some ⟨b4, 0, none⟩, p6, p5, some ⟨b3, 0, none⟩, some ⟨b1, 0, none⟩]) hE hC
                refine go1 ha rfl (d_pick ha rfl rfl rfl) fun a ha => ?_
                refine go1 ha rfl (d_assign ha rfl) fun a ha => ?_
                refine nil_ ?_
                refine hK26 _ _ ?_
                have ha := ha.to (l' := [(6, _)]) rfl
                refine wp_ret ?_
                have hs : Step [some ⟨b7, 0, none⟩, p2, some ⟨b4, 0, none⟩, p6, p5, some ⟨b3, 0, none⟩, some ⟨b1, 0, none⟩] [] w24 w24 := Step.pick _ _ []
                have hE : Ex w (Av [] No) [] w24 := hE.pick [] (by decide)
                injection hF with hF
                subst hF
                refine fin1 ha Try.results6 rfl ?_
                exact ⟨rfl, hE⟩
              · refine goOn1 ha rfl rfl rfl rfl (decide_eq_false hc16) (d_move ha rfl) fun a ha => ?_
                refine goOn1 ha rfl rfl rfl rfl (decide_eq_false hc16) (d_neI ha rfl rfl) fun a ha => ?_
                refine goOn1 ha rfl rfl rfl rfl (decide_eq_false hc16) (d_move ha rfl) fun a ha => ?_
                rcases ite_elim hF with ⟨hc17, hF⟩ | ⟨hc17, hF⟩
                · refine goOff ha rfl rfl rfl rfl (not_t (decide_eq_true hc17)) fun a ha => ?_
                  refine goOff ha rfl rfl rfl rfl (not_t (decide_eq_true hc17)) fun a ha => ?_
                  refine goOff ha rfl rfl rfl rfl (not_t (decide_eq_true hc17)) fun a ha => ?_
                  refine goGone ha rfl rfl rfl rfl  fun a ha => ?_
                  refine goGone ha rfl rfl rfl rfl  fun a ha => ?_
                  refine goGone ha rfl rfl rfl rfl  fun a ha => ?_
                  refine goOff ha rfl rfl rfl rfl (not_t (decide_eq_true hc17)) fun a ha => ?_
                  refine goOn1 ha rfl rfl rfl rfl (decide_eq_false hc16) (d_pickF ha rfl (not_t (decide_eq_true hc17)) rfl) fun a ha => ?_
                  refine go1 ha rfl (d_pickF ha rfl (decide_eq_false hc16) rfl) fun a ha => ?_
                  refine go1 ha rfl (d_move ha rfl) fun a ha => ?_
                  refine goOff ha rfl rfl rfl rfl rfl fun a ha => ?_
                  refine go1 ha rfl (d_pickF ha rfl rfl rfl) fun a ha => ?_
                  refine go1 ha rfl (d_assign ha rfl) fun a ha => ?_
                  refine nil_ ?_
                  refine hK26 _ _ ?_
                  have ha := ha.to (l' := [(6, _)]) rfl
                  refine wp_ret ?_
                  have hs : Step [some ⟨b7, 0, none⟩, p2, some ⟨b4, 0, none⟩, p6, p5, some ⟨b3, 0, none⟩, some ⟨b1, 0, none⟩] [] w23 w23 := Step.pick _ _ []
                  have hE : Ex w (Av [] No) [] w23 := hE.pick [] (by decide)
                  injection hF with hF
                  subst hF
                  refine fin1 ha Try.results6 rfl ?_
                  exact ⟨rfl, hE⟩
                · refine goOn1 ha rfl rfl rfl rfl (not_f (decide_eq_false hc17)) (d_move ha rfl) fun a ha => ?_
                  refine goOn1 ha rfl rfl rfl rfl (not_f (decide_eq_false hc17)) (d_eqI ha rfl rfl) fun a ha => ?_
                  refine goOn1 ha rfl rfl rfl rfl (not_f (decide_eq_false hc17)) (d_move ha rfl) fun a ha => ?_
                  rcases ite_elim hF with ⟨hc18, hF⟩ | ⟨hc18, hF⟩
                  · refine goOff ha rfl rfl rfl rfl (decide_eq_true hc18) fun a ha => ?_
                    refine goOff ha rfl rfl rfl rfl (decide_eq_true hc18) fun a ha => ?_
                    refine goOff ha rfl rfl rfl rfl (decide_eq_true hc18) fun a ha => ?_
                    refine goOn1 ha rfl rfl rfl rfl (not_f (decide_eq_false hc17)) (d_pick ha rfl (decide_eq_true hc18) rfl) fun a ha => ?_
                    refine goOn1 ha rfl rfl rfl rfl (decide_eq_false hc16) (d_pick ha rfl (not_f (decide_eq_false hc17)) rfl) fun a ha => ?_
                    refine go1 ha rfl (d_pickF ha rfl (decide_eq_false hc16) rfl) fun a ha => ?_
                    refine go1 ha rfl (d_move ha rfl) fun a ha => ?_
                    obtain ⟨t10, ht10, hF⟩ := bind_elim hF
                    refine goOnR ha rfl rfl rfl rfl rfl (d_call Try.call10 ha (vs := []) rfl (warderlaw02_known_c k   (Av [some ⟨b7, 0, none⟩, p2, some ⟨b4, 0, none⟩, p6, p5, some ⟨b3, 0, none⟩, some ⟨b1, 0, none⟩] W) _ (Ex.wlt (as0 := []) (rr := []) (ro := [some ⟨b7, 0, none⟩, p2, some ⟨b4, 0, none⟩, p6, p5, some ⟨b3, 0, none⟩, some ⟨b1, 0, none⟩]) hE hW)  _ ht10)) fun v w25 a h ha => ?_
                    obtain ⟨rfl, hC⟩ := h
                    have hs : Step [some ⟨b7, 0, none⟩, p2, some ⟨b4, 0, none⟩, p6, p5, some ⟨b3, 0, none⟩, some ⟨b1, 0, none⟩] [some ⟨b7, 0, none⟩, p2, some ⟨b4, 0, none⟩, p6, p5, some ⟨b3, 0, none⟩, some ⟨b1, 0, none⟩] w23 w25 := hC.callStep [some ⟨b7, 0, none⟩, p2, some ⟨b4, 0, none⟩, p6, p5, some ⟨b3, 0, none⟩, some ⟨b1, 0, none⟩]
                    have x6 := x6.keep hC.fr ((Ex.callOff (as0 := []) (rt := [some ⟨b7, 0, none⟩, p2, some ⟨b4, 0, none⟩, p6, p5, some ⟨b3, 0, none⟩, some ⟨b1, 0, none⟩]) hE (u := some ⟨b7, 0, none⟩) (by simp)) _ rfl)
                    have o2 := o2.keep hC.fr (Ex.callOff (as0 := []) (rt := [some ⟨b7, 0, none⟩, p2, some ⟨b4, 0, none⟩, p6, p5, some ⟨b3, 0, none⟩, some ⟨b1, 0, none⟩]) hE (u := p2) (by simp)) (fun _ _ h => hs.trK h)
                    have x5 := x5.keep hC.fr ((Ex.callOff (as0 := []) (rt := [some ⟨b7, 0, none⟩, p2, some ⟨b4, 0, none⟩, p6, p5, some ⟨b3, 0, none⟩, some ⟨b1, 0, none⟩]) hE (u := some ⟨b4, 0, none⟩) (by simp)) _ rfl)
                    have o3 := o3.keep hC.fr (Ex.callOff (as0 := []) (rt := [some ⟨b7, 0, none⟩, p2, some ⟨b4, 0, none⟩, p6, p5, some ⟨b3, 0, none⟩, some ⟨b1, 0, none⟩]) hE (u := p6) (by simp)) (fun _ _ h => hs.trK h)
                    have o4 := o4.keep hC.fr (Ex.callOff (as0 := []) (rt := [some ⟨b7, 0, none⟩, p2, some ⟨b4, 0, none⟩, p6, p5, some ⟨b3, 0, none⟩, some ⟨b1, 0, none⟩]) hE (u := p5) (by simp)) (fun _ _ h => hs.trK h)
                    have x4 := x4.keep hC.fr ((Ex.callOff (as0 := []) (rt := [some ⟨b7, 0, none⟩, p2, some ⟨b4, 0, none⟩, p6, p5, some ⟨b3, 0, none⟩, some ⟨b1, 0, none⟩]) hE (u := some ⟨b3, 0, none⟩) (by simp)) _ rfl)
                    have x1 := x1.keep hC.fr ((Ex.callOff (as0 := []) (rt := [some ⟨b7, 0, none⟩, p2, some ⟨b4, 0, none⟩, p6, p5, some ⟨b3, 0, none⟩, some ⟨b1, 0, none⟩]) hE (u := some ⟨b1, 0, none⟩) (by simp)) _ rfl)
                    have hE : Ex w (Av [] No) [some ⟨b7, 0, none⟩, p2, some ⟨b4, 0, none⟩, p6, p5, some ⟨b3, 0, none⟩, some ⟨b1, 0, none⟩] w25 := Ex.call (as0 := []) (rt := [some ⟨b7, 0, none⟩, p2, some ⟨b4, 0, none⟩, p6, p5, some ⟨b3, 0, none⟩, some ⟨b1, 0, none⟩]) hE hC
                    refine go1 ha rfl (d_pick ha rfl rfl rfl) fun a ha => ?_
                    refine go1 ha rfl (d_assign ha rfl) fun a ha => ?_
                    refine nil_ ?_
                    refine hK26 _ _ ?_
                    have ha := ha.to (l' := [(6, _)]) rfl
                    refine wp_ret ?_
                    have hs : Step [some ⟨b7, 0, none⟩, p2, some ⟨b4, 0, none⟩, p6, p5, some ⟨b3, 0, none⟩, some ⟨b1, 0, none⟩] [] w25 w25 := Step.pick _ _ []
                    have hE : Ex w (Av [] No) [] w25 := hE.pick [] (by decide)
                    injection hF with hF
                    subst hF
                    refine fin1 ha Try.results6 rfl ?_
                    exact ⟨rfl, hE⟩
                  · refine goOn1 ha rfl rfl rfl rfl (decide_eq_false hc18) (d_loadAgg (cs := [.int .i64 t8.1.1, .string t8.1.2]) ha rfl (x6.at_.sub' 0 2 rfl) Try.isAgg29 Try.sizeOf29 rfl) fun a ha => ?_
                    refine goOn1 ha rfl rfl rfl rfl (decide_eq_false hc18) (d_loadAgg (cs := [.int .i64 a0_0, .string a0_1]) ha rfl (x1.at_.sub' 0 2 rfl) Try.isAgg29 Try.sizeOf29 rfl) fun a ha => ?_
                    refine goOn1 ha rfl rfl rfl rfl (decide_eq_false hc18) (d_neAg (q := t8.1.1 = a0_0 ∧ t8.1.2 = a0_1) ha rfl rfl (by kernel_rfl) (.struct Try.underlying29 (by kernel_rfl) (.cons (by decide) (.cell Try.isAgg27 rfl) (.cell Try.isAgg27 rfl) (.int Try.underlying27) (.one (by decide) (.cell Try.isAgg9 rfl) (.cell Try.isAgg9 rfl) (.str Try.underlying9))))) fun a ha => ?_
                    refine goOn1 ha rfl rfl rfl rfl (not_f (decide_eq_false hc17)) (d_pickF ha rfl (decide_eq_false hc18) rfl) fun a ha => ?_
                    refine goOn1 ha rfl rfl rfl rfl (decide_eq_false hc16) (d_pick ha rfl (not_f (decide_eq_false hc17)) rfl) fun a ha => ?_
                    refine go1 ha rfl (d_pickF ha rfl (decide_eq_false hc16) rfl) fun a ha => ?_
                    refine go1 ha rfl (d_move ha rfl) fun a ha => ?_
                    rcases ite_elim hF with ⟨hc19, hF⟩ | ⟨hc19, hF⟩
                    · refine goOff ha rfl rfl rfl rfl (not_t (decide_eq_true hc19)) fun a ha => ?_
                      refine go1 ha rfl (d_pickF ha rfl (not_t (decide_eq_true hc19)) rfl) fun a ha => ?_
                      refine go1 ha rfl (d_assign ha rfl) fun a ha => ?_
                      refine nil_ ?_
                      refine hK26 _ _ ?_
                      have ha := ha.to (l' := [(6, _)]) rfl
                      refine wp_ret ?_
                      have hs : Step [some ⟨b7, 0, none⟩, p2, some ⟨b4, 0, none⟩, p6, p5, some ⟨b3, 0, none⟩, some ⟨b1, 0, none⟩] [] w23 w23 := Step.pick _ _ []
                      have hE : Ex w (Av [] No) [] w23 := hE.pick [] (by decide)
                      injection hF with hF
                      subst hF
                      refine fin1 ha Try.results6 rfl ?_
                      exact ⟨rfl, hE⟩
                    · obtain ⟨t11, ht11, hF⟩ := bind_elim hF
                      refine goOnR ha rfl rfl rfl rfl (not_f (decide_eq_false hc19)) (d_call Try.call10 ha (vs := []) rfl (warderlaw02_known_c k   (Av [some ⟨b7, 0, none⟩, p2, some ⟨b4, 0, none⟩, p6, p5, some ⟨b3, 0, none⟩, some ⟨b1, 0, none⟩] W) _ (Ex.wlt (as0 := []) (rr := []) (ro := [some ⟨b7, 0, none⟩, p2, some ⟨b4, 0, none⟩, p6, p5, some ⟨b3, 0, none⟩, some ⟨b1, 0, none⟩]) hE hW)  _ ht11)) fun v w26 a h ha => ?_
                      obtain ⟨rfl, hC⟩ := h
                      have hs : Step [some ⟨b7, 0, none⟩, p2, some ⟨b4, 0, none⟩, p6, p5, some ⟨b3, 0, none⟩, some ⟨b1, 0, none⟩] [some ⟨b7, 0, none⟩, p2, some ⟨b4, 0, none⟩, p6, p5, some ⟨b3, 0, none⟩, some ⟨b1, 0, none⟩] w23 w26 := hC.callStep [some ⟨b7, 0, none⟩, p2, some ⟨b4, 0, none⟩, p6, p5, some ⟨b3, 0, none⟩, some ⟨b1, 0, none⟩]
                      have x6 := x6.keep hC.fr ((Ex.callOff (as0 := []) (rt := [some ⟨b7, 0, none⟩, p2, some ⟨b4, 0, none⟩, p6, p5, some ⟨b3, 0, none⟩, some ⟨b1, 0, none⟩]) hE (u := some ⟨b7, 0, none⟩) (by simp)) _ rfl)
                      have o2 := o2.keep hC.fr (Ex.callOff (as0 := []) (rt := [some ⟨b7, 0, none⟩, p2, some ⟨b4, 0, none⟩, p6, p5, some ⟨b3, 0, none⟩, some ⟨b1, 0, none⟩]) hE (u := p2) (by simp)) (fun _ _ h => hs.trK h)
                      have x5 := x5.keep hC.fr ((Ex.callOff (as0 := []) (rt := [some ⟨b7, 0, none⟩, p2, some ⟨b4, 0, none⟩, p6, p5, some ⟨b3, 0, none⟩, some ⟨b1, 0, none⟩]) hE (u := some ⟨b4, 0, none⟩) (by simp)) _ rfl)
                      have o3 := o3.keep hC.fr (Ex.callOff (as0 := []) (rt := [some ⟨b7, 0, none⟩, p2, some ⟨b4, 0, none⟩, p6, p5, some ⟨b3, 0, none⟩, some ⟨b1, 0, none⟩]) hE (u := p6) (by simp)) (fun _ _ h => hs.trK h)
                      have o4 := o4.keep hC.fr (Ex.callOff (as0 := []) (rt := [some ⟨b7, 0, none⟩, p2, some ⟨b4, 0, none⟩, p6, p5, some ⟨b3, 0, none⟩, some ⟨b1, 0, none⟩]) hE (u := p5) (by simp)) (fun _ _ h => hs.trK h)
                      have x4 := x4.keep hC.fr ((Ex.callOff (as0 := []) (rt := [some ⟨b7, 0, none⟩, p2, some ⟨b4, 0, none⟩, p6, p5, some ⟨b3, 0, none⟩, some ⟨b1, 0, none⟩]) hE (u := some ⟨b3, 0, none⟩) (by simp)) _ rfl)
                      have x1 := x1.keep hC.fr ((Ex.callOff (as0 := []) (rt := [some ⟨b7, 0, none⟩, p2, some ⟨b4, 0, none⟩, p6, p5, some ⟨b3, 0, none⟩, some ⟨b1, 0, none⟩]) hE (u := some ⟨b1, 0, none⟩) (by simp)) _ rfl)
                      have hE : Ex w (Av [] No) [some ⟨b7, 0, none⟩, p2, some ⟨b4, 0, none⟩, p6, p5, some ⟨b3, 0, none⟩, some ⟨b1, 0, none⟩] w26 := Ex.call (as0 := []) (rt := [some ⟨b7, 0, none⟩, p2, some ⟨b4, 0, none⟩, p6, p5, some ⟨b3, 0, none⟩, some ⟨b1, 0, none⟩]) hE hC
                      refine go1 ha rfl (d_pick ha rfl (not_f (decide_eq_false hc19)) rfl) fun a ha => ?_
                      refine go1 ha rfl (d_assign ha rfl) fun a ha => ?_
                      refine nil_ ?_
                      refine hK26 _ _ ?_
                      have ha := ha.to (l' := [(6, _)]) rfl
                      refine wp_ret ?_
                      have hs : Step [some ⟨b7, 0, none⟩, p2, some ⟨b4, 0, none⟩, p6, p5, some ⟨b3, 0, none⟩, some ⟨b1, 0, none⟩] [] w26 w26 := Step.pick _ _ []
                      have hE : Ex w (Av [] No) [] w26 := hE.pick [] (by decide)
                      injection hF with hF
                      subst hF
                      refine fin1 ha Try.results6 rfl ?_
                      exact ⟨rfl, hE⟩
            · refine goOff ha rfl rfl rfl rfl (decide_eq_false hc15) fun a ha => ?_
              refine goOff ha rfl rfl rfl rfl (decide_eq_false hc15) fun a ha => ?_
              refine goOff ha rfl rfl rfl rfl (decide_eq_false hc15) fun a ha => ?_
              refine go1 ha rfl (d_pickF ha rfl (decide_eq_false hc15) rfl) fun a ha => ?_
              refine go1 ha rfl (d_move ha rfl) fun a ha => ?_
              refine goOn1 ha rfl rfl rfl rfl rfl (d_move ha rfl) fun a ha => ?_
              refine goOn1 ha rfl rfl rfl rfl rfl (d_neI ha rfl rfl) fun a ha => ?_
              refine goOn1 ha rfl rfl rfl rfl rfl (d_move ha rfl) fun a ha => ?_
              rcases ite_elim hF with ⟨hc20, hF⟩ | ⟨hc20, hF⟩
              · refine goOff ha rfl rfl rfl rfl (not_t (decide_eq_true hc20)) fun a ha => ?_
                refine goOff ha rfl rfl rfl rfl (not_t (decide_eq_true hc20)) fun a ha => ?_
                refine goOff ha rfl rfl rfl rfl (not_t (decide_eq_true hc20)) fun a ha => ?_
                refine goGone ha rfl rfl rfl rfl  fun a ha => ?_
                refine goGone ha rfl rfl rfl rfl  fun a ha => ?_
                refine goGone ha rfl rfl rfl rfl  fun a ha => ?_
                refine goOff ha rfl rfl rfl rfl (not_t (decide_eq_true hc20)) fun a ha => ?_
                refine goOn1 ha rfl rfl rfl rfl rfl (d_pickF ha rfl (not_t (decide_eq_true hc20)) rfl) fun a ha => ?_
                refine go1 ha rfl (d_pickF ha rfl rfl rfl) fun a ha => ?_
                refine go1 ha rfl (d_move ha rfl) fun a ha => ?_
                refine goOff ha rfl rfl rfl rfl rfl fun a ha => ?_
                refine go1 ha rfl (d_pickF ha rfl rfl rfl) fun a ha => ?_
                refine go1 ha rfl (d_assign ha rfl) fun a ha => ?_
                refine nil_ ?_
                refine hK26 _ _ ?_
                have ha := ha.to (l' := [(6, _)]) rfl
                refine wp_ret ?_
                have hs : Step [some ⟨b7, 0, none⟩, p2, some ⟨b4, 0, none⟩, p6, p5, some ⟨b3, 0, none⟩, some ⟨b1, 0, none⟩] [] w23 w23 := Step.pick _ _ []
                have hE : Ex w (Av [] No) [] w23 := hE.pick [] (by decide)
                injection hF with hF
                subst hF
                refine fin1 ha Try.results6 rfl ?_
                exact ⟨rfl, hE⟩
              · refine goOn1 ha rfl rfl rfl rfl (not_f (decide_eq_false hc20)) (d_move ha rfl) fun a ha => ?_
                refine goOn1 ha rfl rfl rfl rfl (not_f (decide_eq_false hc20)) (d_eqI ha rfl rfl) fun a ha => ?_
                refine goOn1 ha rfl rfl rfl rfl (not_f (decide_eq_false hc20)) (d_move ha rfl) fun a ha => ?_
                rcases ite_elim hF with ⟨hc21, hF⟩ | ⟨hc21, hF⟩
                · refine goOff ha rfl rfl rfl rfl (decide_eq_true hc21) fun a ha => ?_
                  refine goOff ha rfl rfl rfl rfl (decide_eq_true hc21) fun a ha => ?_
                  refine goOff ha rfl rfl rfl rfl (decide_eq_true hc21) fun a ha => ?_
                  refine goOn1 ha rfl rfl rfl rfl (not_f (decide_eq_false hc20)) (d_pick ha rfl (decide_eq_true hc21) rfl) fun a ha => ?_
                  refine goOn1 ha rfl rfl rfl rfl rfl (d_pick ha rfl (not_f (decide_eq_false hc20)) rfl) fun a ha => ?_
                  refine go1 ha rfl (d_pickF ha rfl rfl rfl) fun a ha => ?_
                  refine go1 ha rfl (d_move ha rfl) fun a ha => ?_
                  obtain ⟨t12, ht12, hF⟩ := bind_elim hF
                  refine goOnR ha rfl rfl rfl rfl rfl (d_call Try.call10 ha (vs := []) rfl (warderlaw02_known_c k   (Av [some ⟨b7, 0, none⟩, p2, some ⟨b4, 0, none⟩, p6, p5, some ⟨b3, 0, none⟩, some ⟨b1, 0, none⟩] W) _ (Ex.wlt (as0 := []) (rr := []) (ro := [some ⟨b7, 0, none⟩, p2, some ⟨b4, 0, none⟩, p6, p5, some ⟨b3, 0, none⟩, some ⟨b1, 0, none⟩]) hE hW)  _ ht12)) fun v w27 a h ha => ?_
                  obtain ⟨rfl, hC⟩ := h
                  have hs : Step [some ⟨b7, 0, none⟩, p2, some ⟨b4, 0, none⟩, p6, p5, some ⟨b3, 0, none⟩, some ⟨b1, 0, none⟩] [some ⟨b7, 0, none⟩, p2, some ⟨b4, 0, none⟩, p6, p5, some ⟨b3, 0, none⟩, some ⟨b1, 0, none⟩] w23 w27 := hC.callStep [some ⟨b7, 0, none⟩, p2, some ⟨b4, 0, none⟩, p6, p5, some ⟨b3, 0, none⟩, some ⟨b1, 0, none⟩]
                  have x6 := x6.keep hC.fr ((Ex.callOff (as0 := []) (rt := [some ⟨b7, 0, none⟩, p2, some ⟨b4, 0, none⟩, p6, p5, some ⟨b3, 0, none⟩, some ⟨b1, 0, none⟩]) hE (u := some ⟨b7, 0, none⟩) (by simp)) _ rfl)
                  have o2 := o2.keep hC.fr (Ex.callOff (as0 := []) (rt := [some ⟨b7, 0, none⟩, p2, some ⟨b4, 0, none⟩, p6, p5, some ⟨b3, 0, none⟩, some ⟨b1, 0, none⟩]) hE (u := p2) (by simp)) (fun _ _ h => hs.trK h)
                  have x5 := x5.keep hC.fr ((Ex.callOff (as0 := []) (rt := [some ⟨b7, 0, none⟩, p2, some ⟨b4, 0, none⟩, p6, p5, some ⟨b3, 0, none⟩, some ⟨b1, 0, none⟩]) hE (u := some ⟨b4, 0, none⟩) (by simp)) _ rfl)
                  have o3 := o3.keep hC.fr (Ex.callOff (as0 := []) (rt := [some ⟨b7, 0, none⟩, p2, some ⟨b4, 0, none⟩, p6, p5, some ⟨b3, 0, none⟩, some ⟨b1, 0, none⟩]) hE (u := p6) (by simp)) (fun _ _ h => hs.trK h)
                  have o4 := o4.keep hC.fr (Ex.callOff (as0 := []) (rt := [some ⟨b7, 0, none⟩, p2, some ⟨b4, 0, none⟩, p6, p5, some ⟨b3, 0, none⟩, some ⟨b1, 0, none⟩]) hE (u := p5) (by simp)) (fun _ _ h => hs.trK h)
                  have x4 := x4.keep hC.fr ((Ex.callOff (as0 := []) (rt := [some ⟨b7, 0, none⟩, p2, some ⟨b4, 0, none⟩, p6, p5, some ⟨b3, 0, none⟩, some ⟨b1, 0, none⟩]) hE (u := some ⟨b3, 0, none⟩) (by simp)) _ rfl)
                  have x1 := x1.keep hC.fr ((Ex.callOff (as0 := []) (rt := [some ⟨b7, 0, none⟩, p2, some ⟨b4, 0, none⟩, p6, p5, some ⟨b3, 0, none⟩, some ⟨b1, 0, none⟩]) hE (u := some ⟨b1, 0, none⟩) (by simp)) _ rfl)
                  have hE : Ex w (Av [] No) [some ⟨b7, 0, none⟩, p2, some ⟨b4, 0, none⟩, p6, p5, some ⟨b3, 0, none⟩, some ⟨b1, 0, none⟩] w27 := Ex.call (as0 := []) (rt := [some ⟨b7, 0, none⟩, p2, some ⟨b4, 0, none⟩, p6, p5, some ⟨b3, 0, none⟩, some ⟨b1, 0, none⟩]) hE hC
                  refine go1 ha rfl (d_pick ha rfl rfl rfl) fun a ha => ?_
                  refine go1 ha rfl (d_assign ha rfl) fun a ha => ?_
                  refine nil_ ?_
                  refine hK26 _ _ ?_
                  have ha := ha.to (l' := [(6, _)]) rfl
                  refine wp_ret ?_
                  have hs : Step [some ⟨b7, 0, none⟩, p2, some ⟨b4, 0, none⟩, p6, p5, some ⟨b3, 0, none⟩, some ⟨b1, 0, none⟩] [] w27 w27 := Step.pick _ _ []
                  have hE : Ex w (Av [] No) [] w27 := hE.pick [] (by decide)
                  injection hF with hF
                  subst hF
                  refine fin1 ha Try.results6 rfl ?_
                  exact ⟨rfl, hE⟩
                · refine goOn1 ha rfl rfl rfl rfl (decide_eq_false hc21) (d_loadAgg (cs := [.int .i64 t8.1.1, .string t8.1.2]) ha rfl (x6.at_.sub' 0 2 rfl) Try.isAgg29 Try.sizeOf29 rfl) fun a ha => ?_
                  refine goOn1 ha rfl rfl rfl rfl (decide_eq_false hc21) (d_loadAgg (cs := [.int .i64 a0_0, .string a0_1]) ha rfl (x1.at_.sub' 0 2 rfl) Try.isAgg29 Try.sizeOf29 rfl) fun a ha => ?_
                  refine goOn1 ha rfl rfl rfl rfl (decide_eq_false hc21) (d_neAg (q := t8.1.1 = a0_0 ∧ t8.1.2 = a0_1) ha rfl rfl (by kernel_rfl) (.struct Try.underlying29 (by kernel_rfl) (.cons (by decide) (.cell Try.isAgg27 rfl) (.cell Try.isAgg27 rfl) (.int Try.underlying27) (.one (by decide) (.cell Try.isAgg9 rfl) (.cell Try.isAgg9 rfl) (.str Try.underlying9))))) fun a ha => ?_
                  refine goOn1 ha rfl rfl rfl rfl (not_f (decide_eq_false hc20)) (d_pickF ha rfl (decide_eq_false hc21) rfl) fun a ha => ?_
                  refine goOn1 ha rfl rfl rfl rfl rfl (d_pick ha rfl (not_f (decide_eq_false hc20)) rfl) fun a ha => ?_
                  refine go1 ha rfl (d_pickF ha rfl rfl rfl) fun a ha => ?_
                  refine go1 ha rfl (d_move ha rfl) fun a ha => ?_
                  rcases ite_elim hF with ⟨hc22, hF⟩ | ⟨hc22, hF⟩
                  · refine goOff ha rfl rfl rfl rfl (not_t (decide_eq_true hc22)) fun a ha => ?_
                    refine go1 ha rfl (d_pickF ha rfl (not_t (decide_eq_true hc22)) rfl) fun a ha => ?_
                    refine go1 ha rfl (d_assign ha rfl) fun a ha => ?_
                    refine nil_ ?_
                    refine hK26 _ _ ?_
                    have ha := ha.to (l' := [(6, _)]) rfl
                    refine wp_ret ?_
                    have hs : Step [some ⟨b7, 0, none⟩, p2, some ⟨b4, 0, none⟩, p6, p5, some ⟨b3, 0, none⟩, some ⟨b1, 0, none⟩] [] w23 w23 := Step.pick _ _ []
                    have hE : Ex w (Av [] No) [] w23 := hE.pick [] (by decide)
                    injection hF with hF
                    subst hF
                    refine fin1 ha Try.results6 rfl ?_
                    exact ⟨rfl, hE⟩
                  · obtain ⟨t13, ht13, hF⟩ := bind_elim hF
                    refine goOnR ha rfl rfl rfl rfl (not_f (decide_eq_false hc22)) (d_call Try.call10 ha (vs := []) rfl (warderlaw02_known_c k   (Av [some ⟨b7, 0, none⟩, p2, some ⟨b4, 0, none⟩, p6, p5, some ⟨b3, 0, none⟩, some ⟨b1, 0, none⟩] W) _ (Ex.wlt (as0 := []) (rr := []) (ro := [some ⟨b7, 0, none⟩, p2, some ⟨b4, 0, none⟩, p6, p5, some ⟨b3, 0, none⟩, some ⟨b1, 0, none⟩]) hE hW)  _ ht13)) fun v w28 a h ha => ?_
                    obtain ⟨rfl, hC⟩ := h
                    have hs : Step [some ⟨b7, 0, none⟩, p2, some ⟨b4, 0, none⟩, p6, p5, some ⟨b3, 0, none⟩, some ⟨b1, 0, none⟩] [some ⟨b7, 0, none⟩, p2, some ⟨b4, 0, none⟩, p6, p5, some ⟨b3, 0, none⟩, some ⟨b1, 0, none⟩] w23 w28 := hC.callStep [some ⟨b7, 0, none⟩, p2, some ⟨b4, 0, none⟩, p6, p5, some ⟨b3, 0, none⟩, some ⟨b1, 0, none⟩]
                    have x6 := x6.keep hC.fr ((Ex.callOff (as0 := []) (rt := [some ⟨b7, 0, none⟩, p2, some ⟨b4, 0, none⟩, p6, p5, some ⟨b3, 0, none⟩, some ⟨b1, 0, none⟩]) hE (u := some ⟨b7, 0, none⟩) (by simp)) _ rfl)
                    have o2 := o2.keep hC.fr (Ex.callOff (as0 := []) (rt := [some ⟨b7, 0, none⟩, p2, some ⟨b4, 0, none⟩, p6, p5, some ⟨b3, 0, none⟩, some ⟨b1, 0, none⟩]) hE (u := p2) (by simp)) (fun _ _ h => hs.trK h)
                    have x5 := x5.keep hC.fr ((Ex.callOff (as0 := []) (rt := [some ⟨b7, 0, none⟩, p2, some ⟨b4, 0, none⟩, p6, p5, some ⟨b3, 0, none⟩, some ⟨b1, 0, none⟩]) hE (u := some ⟨b4, 0, none⟩) (by simp)) _ rfl)
                    have o3 := o3.keep hC.fr (Ex.callOff (as0 := []) (rt := [some ⟨b7, 0, none⟩, p2, some ⟨b4, 0, none⟩, p6, p5, some ⟨b3, 0, none⟩, some ⟨b1, 0, none⟩]) hE (u := p6) (by simp)) (fun _ _ h => hs.trK h)
                    have o4 := o4.keep hC.fr (Ex.callOff (as0 := []) (rt := [some ⟨b7, 0, none⟩, p2, some ⟨b4, 0, none⟩, p6, p5, some ⟨b3, 0, none⟩, some ⟨b1, 0, none⟩]) hE (u := p5) (by simp)) (fun _ _ h => hs.trK h)
                    have x4 := x4.keep hC.fr ((Ex.callOff (as0 := []) (rt := [some ⟨b7, 0, none⟩, p2, some ⟨b4, 0, none⟩, p6, p5, some ⟨b3, 0, none⟩, some ⟨b1, 0, none⟩]) hE (u := some ⟨b3, 0, none⟩) (by simp)) _ rfl)
                    have x1 := x1.keep hC.fr ((Ex.callOff (as0 := []) (rt := [some ⟨b7, 0, none⟩, p2, some ⟨b4, 0, none⟩, p6, p5, some ⟨b3, 0, none⟩, some ⟨b1, 0, none⟩]) hE (u := some ⟨b1, 0, none⟩) (by simp)) _ rfl)
                    have hE : Ex w (Av [] No) [some ⟨b7, 0, none⟩, p2, some ⟨b4, 0, none⟩, p6, p5, some ⟨b3, 0, none⟩, some ⟨b1, 0, none⟩] w28 := Ex.call (as0 := []) (rt := [some ⟨b7, 0, none⟩, p2, some ⟨b4, 0, none⟩, p6, p5, some ⟨b3, 0, none⟩, some ⟨b1, 0, none⟩]) hE hC
                    refine go1 ha rfl (d_pick ha rfl (not_f (decide_eq_false hc22)) rfl) fun a ha => ?_
                    refine go1 ha rfl (d_assign ha rfl) fun a ha => ?_
                    refine nil_ ?_
                    refine hK26 _ _ ?_
                    have ha := ha.to (l' := [(6, _)]) rfl
                    refine wp_ret ?_
                    have hs : Step [some ⟨b7, 0, none⟩, p2, some ⟨b4, 0, none⟩, p6, p5, some ⟨b3, 0, none⟩, some ⟨b1, 0, none⟩] [] w28 w28 := Step.pick _ _ []
                    have hE : Ex w (Av [] No) [] w28 := hE.pick [] (by decide)
                    injection hF with hF
                    subst hF
                    refine fin1 ha Try.results6 rfl ?_
                    exact ⟨rfl, hE⟩
          · refine goOff ha rfl rfl rfl rfl (decide_eq_false hc14) fun a ha => ?_
            refine goOff ha rfl rfl rfl rfl (decide_eq_false hc14) fun a ha => ?_
            refine go1 ha rfl (d_pickF ha rfl (decide_eq_false hc14) rfl) fun a ha => ?_
            refine go1 ha rfl (d_move ha rfl) fun a ha => ?_
            refine goOff ha rfl rfl rfl rfl rfl fun a ha => ?_
            refine goOff ha rfl rfl rfl rfl rfl fun a ha => ?_
            refine goOff ha rfl rfl rfl rfl rfl fun a ha => ?_
            refine go1 ha rfl (d_pickF ha rfl rfl rfl) fun a ha => ?_
            refine go1 ha rfl (d_move ha rfl) fun a ha => ?_
            refine goOn1 ha rfl rfl rfl rfl rfl (d_move ha rfl) fun a ha => ?_
            refine goOn1 ha rfl rfl rfl rfl rfl (d_neI ha rfl rfl) fun a ha => ?_
            refine goOn1 ha rfl rfl rfl rfl rfl (d_move ha rfl) fun a ha => ?_
            rcases ite_elim hF with ⟨hc23, hF⟩ | ⟨hc23, hF⟩
            · refine goOff ha rfl rfl rfl rfl (not_t (decide_eq_true hc23)) fun a ha => ?_
              refine goOff ha rfl rfl rfl rfl (not_t (decide_eq_true hc23)) fun a ha => ?_
              refine goOff ha rfl rfl rfl rfl (not_t (decide_eq_true hc23)) fun a ha => ?_
              refine goGone ha rfl rfl rfl rfl  fun a ha => ?_
              refine goGone ha rfl rfl rfl rfl  fun a ha => ?_
              refine goGone ha rfl rfl rfl rfl  fun a ha => ?_
              refine goOff ha rfl rfl rfl rfl (not_t (decide_eq_true hc23)) fun a ha => ?_
              refine goOn1 ha rfl rfl rfl rfl rfl (d_pickF ha rfl (not_t (decide_eq_true hc23)) rfl) fun a ha => ?_
              refine go1 ha rfl (d_pickF ha rfl rfl rfl) fun a ha => ?_
              refine go1 ha rfl (d_move ha rfl) fun a ha => ?_
              refine goOff ha rfl rfl rfl rfl rfl fun a ha => ?_
              refine go1 ha rfl (d_pickF ha rfl rfl rfl) fun a ha => ?_
              refine go1 ha rfl (d_assign ha rfl) fun a ha => ?_
              refine nil_ ?_
              refine hK26 _ _ ?_
              have ha := ha.to (l' := [(6, _)]) rfl
              refine wp_ret ?_
              have hs : Step [some ⟨b7, 0, none⟩, p2, some ⟨b4, 0, none⟩, p6, p5, some ⟨b3, 0, none⟩, some ⟨b1, 0, none⟩] [] w23 w23 := Step.pick _ _ []
              have hE : Ex w (Av [] No) [] w23 := hE.pick [] (by decide)
              injection hF with hF
              subst hF
              refine fin1 ha Try.results6 rfl ?_
              exact ⟨rfl, hE⟩
            · refine goOn1 ha rfl rfl rfl rfl (not_f (decide_eq_false hc23)) (d_move ha rfl) fun a ha => ?_
              refine goOn1 ha rfl rfl rfl rfl (not_f (decide_eq_false hc23)) (d_eqI ha rfl rfl) fun a ha => ?_
              refine goOn1 ha rfl rfl rfl rfl (not_f (decide_eq_false hc23)) (d_move ha rfl) fun a ha => ?_
              rcases ite_elim hF with ⟨hc24, hF⟩ | ⟨hc24, hF⟩
              · refine goOff ha rfl rfl rfl rfl (decide_eq_true hc24) fun a ha => ?_
                refine goOff ha rfl rfl rfl rfl (decide_eq_true hc24) fun a ha => ?_
                refine goOff ha rfl rfl rfl rfl (decide_eq_true hc24) fun a ha => ?_
                refine goOn1 ha rfl rfl rfl rfl (not_f (decide_eq_false hc23)) (d_pick ha rfl (decide_eq_true hc24) rfl) fun a ha => ?_
                refine goOn1 ha rfl rfl rfl rfl rfl (d_pick ha rfl (not_f (decide_eq_false hc23)) rfl) fun a ha => ?_
                refine go1 ha rfl (d_pickF ha rfl rfl rfl) fun a ha => ?_
                refine go1 ha rfl (d_move ha rfl) fun a ha => ?_
                obtain ⟨t14, ht14, hF⟩ := bind_elim hF
                refine goOnR ha rfl rfl rfl rfl rfl (d_call Try.call10 ha (vs := []) rfl (warderlaw02_known_c k   (Av [some ⟨b7, 0, none⟩, p2, some ⟨b4, 0, none⟩, p6, p5, some ⟨b3, 0, none⟩, some ⟨b1, 0, none⟩] W) _ (Ex.wlt (as0 := []) (rr := []) (ro := [some ⟨b7, 0, none⟩, p2, some ⟨b4, 0, none⟩, p6, p5, some ⟨b3, 0, none⟩, some ⟨b1, 0, none⟩]) hE hW)  _ ht14)) fun v w29 a h ha => ?_
                obtain ⟨rfl, hC⟩ := h
                have hs : Step [some ⟨b7, 0, none⟩, p2, some ⟨b4, 0, none⟩, p6, p5, some ⟨b3, 0, none⟩, some ⟨b1, 0, none⟩] [some ⟨b7, 0, none⟩, p2, some ⟨b4, 0, none⟩, p6, p5, some ⟨b3, 0, none⟩, some ⟨b1, 0, none⟩] w23 w29 := hC.callStep [some ⟨b7, 0, none⟩, p2, some ⟨b4, 0, none⟩, p6, p5, some ⟨b3, 0, none⟩, some ⟨b1, 0, none⟩]
                have x6 := x6.keep hC.fr ((Ex.callOff (as0 := []) (rt := [some ⟨b7, 0, none⟩, p2, some ⟨b4, 0, none⟩, p6, p5, some ⟨b3, 0, none⟩, some ⟨b1, 0, none⟩]) hE (u := some ⟨b7, 0, none⟩) (by simp)) _ rfl)
                have o2 := o2.keep hC.fr (Ex.callOff (as0 := []) (rt := [some ⟨b7, 0, none⟩, p2, some ⟨b4, 0, none⟩, p6, p5, some ⟨b3, 0, none⟩, some ⟨b1, 0, none⟩]) hE (u := p2) (by simp)) (fun _ _ h => hs.trK h)
                have x5 := x5.keep hC.fr ((Ex.callOff (as0 := []) (rt := [some ⟨b7, 0, none⟩, p2, some ⟨b4, 0, none⟩, p6, p5, some ⟨b3, 0, none⟩, some ⟨b1, 0, none⟩]) hE (u := some ⟨b4, 0, none⟩) (by simp)) _ rfl)
                have o3 := o3.keep hC.fr (Ex.callOff (as0 := []) (rt := [some ⟨b7, 0, none⟩, p2, some ⟨b4, 0, none⟩, p6, p5, some ⟨b3, 0, none⟩, some ⟨b1, 0, none⟩]) hE (u := p6) (by simp)) (fun _ _ h => hs.trK h)
                have o4 := o4.keep hC.fr (Ex.callOff (as0 := []) (rt := [some ⟨b7, 0, none⟩, p2, some ⟨b4, 0, none⟩, p6, p5, some ⟨b3, 0, none⟩, some ⟨b1, 0, none⟩]) hE (u := p5) (by simp)) (fun _ _ h => hs.trK h)
                have x4 := x4.keep hC.fr ((Ex.callOff (as0 := []) (rt := [some ⟨b7, 0, none⟩, p2, some ⟨b4, 0, none⟩, p6, p5, some ⟨b3, 0, none⟩, some ⟨b1, 0, none⟩]) hE (u := some ⟨b3, 0, none⟩) (by simp)) _ rfl)
                have x1 := x1.keep hC.fr ((Ex.callOff (as0 := []) (rt := [some ⟨b7, 0, none⟩, p2, some ⟨b4, 0, none⟩, p6, p5, some ⟨b3, 0, none⟩, some ⟨b1, 0, none⟩]) hE (u := some ⟨b1, 0, none⟩) (by simp)) _ rfl)
                have hE : Ex w (Av [] No) [some ⟨b7, 0, none⟩, p2, some ⟨b4, 0, none⟩, p6, p5, some ⟨b3, 0, none⟩, some ⟨b1, 0, none⟩] w29 := Ex.call (as0 := []) (rt := [some ⟨b7, 0, none⟩, p2, some ⟨b4, 0, none⟩, p6, p5, some ⟨b3, 0, none⟩, some ⟨b1, 0, none⟩]) hE hC
                refine go1 ha rfl (d_pick ha rfl rfl rfl) fun a ha => ?_
                refine go1 ha rfl (d_assign ha rfl) fun a ha => ?_
                refine nil_ ?_
                refine hK26 _ _ ?_
                have ha := ha.to (l' := [(6, _)]) rfl
                refine wp_ret ?_
                have hs : Step [some ⟨b7, 0, none⟩, p2, some ⟨b4, 0, none⟩, p6, p5, some ⟨b3, 0, none⟩, some ⟨b1, 0, none⟩] [] w29 w29 := Step.pick _ _ []
                have hE : Ex w (Av [] No) [] w29 := hE.pick [] (by decide)
                injection hF with hF
                subst hF
                refine fin1 ha Try.results6 rfl ?_
                exact ⟨rfl, hE⟩
              · refine goOn1 ha rfl rfl rfl rfl (decide_eq_false hc24) (d_loadAgg (cs := [.int .i64 t8.1.1, .string t8.1.2]) ha rfl (x6.at_.sub' 0 2 rfl) Try.isAgg29 Try.sizeOf29 rfl) fun a ha => ?_
                refine goOn1 ha rfl rfl rfl rfl (decide_eq_false hc24) (d_loadAgg (cs := [.int .i64 a0_0, .string a0_1]) ha rfl (x1.at_.sub' 0 2 rfl) Try.isAgg29 Try.sizeOf29 rfl) fun a ha => ?_
                refine goOn1 ha rfl rfl rfl rfl (decide_eq_false hc24) (d_neAg (q := t8.1.1 = a0_0 ∧ t8.1.2 = a0_1) ha rfl rfl (by kernel_rfl) (.struct Try.underlying29 (by kernel_rfl) (.cons (by decide) (.cell Try.isAgg27 rfl) (.cell Try.isAgg27 rfl) (.int Try.underlying27) (.one (by decide) (.cell Try.isAgg9 rfl) (.cell Try.isAgg9 rfl) (.str Try.underlying9))))) fun a ha => ?_
                refine goOn1 ha rfl rfl rfl rfl (not_f (decide_eq_false hc23)) (d_pickF ha rfl (decide_eq_false hc24) rfl) fun a ha => ?_
                refine goOn1 ha rfl rfl rfl rfl rfl (d_pick ha rfl (not_f (decide_eq_false hc23)) rfl) fun a ha => ?_
                refine go1 ha rfl (d_pickF ha rfl rfl rfl) fun a ha => ?_
                refine go1 ha rfl (d_move ha rfl) fun a ha => ?_
                rcases ite_elim hF with ⟨hc25, hF⟩ | ⟨hc25, hF⟩
                · refine goOff ha rfl rfl rfl rfl (not_t (decide_eq_true hc25)) fun a ha => ?_
                  refine go1 ha rfl (d_pickF ha rfl (not_t (decide_eq_true hc25)) rfl) fun a ha => ?_
                  refine go1 ha rfl (d_assign ha rfl) fun a ha => ?_
                  refine nil_ ?_
                  refine hK26 _ _ ?_
                  have ha := ha.to (l' := [(6, _)]) rfl
                  refine wp_ret ?_
                  have hs : Step [some ⟨b7, 0, none⟩, p2, some ⟨b4, 0, none⟩, p6, p5, some ⟨b3, 0, none⟩, some ⟨b1, 0, none⟩] [] w23 w23 := Step.pick _ _ []
                  have hE : Ex w (Av [] No) [] w23 := hE.pick [] (by decide)
                  injection hF with hF
                  subst hF
                  refine fin1 ha Try.results6 rfl ?_
                  exact ⟨rfl, hE⟩
                · obtain ⟨t15, ht15, hF⟩ := bind_elim hF
                  refine goOnR ha rfl rfl rfl rfl (not_f (decide_eq_false hc25)) (d_call Try.call10 ha (vs := []) rfl (warderlaw02_known_c k   (Av [some ⟨b7, 0, none⟩, p2, some ⟨b4, 0, none⟩, p6, p5, some ⟨b3, 0, none⟩, some ⟨b1, 0, none⟩] W) _ (Ex.wlt (as0 := []) (rr := []) (ro := [some ⟨b7, 0, none⟩, p2, some ⟨b4, 0, none⟩, p6, p5, some ⟨b3, 0, none⟩, some ⟨b1, 0, none⟩]) hE hW)  _ ht15)) fun v w30 a h ha => ?_
                  obtain ⟨rfl, hC⟩ := h
                  have hs : Step [some ⟨b7, 0, none⟩, p2, some ⟨b4, 0, none⟩, p6, p5, some ⟨b3, 0, none⟩, some ⟨b1, 0, none⟩] [some ⟨b7, 0, none⟩, p2, some ⟨b4, 0, none⟩, p6, p5, some ⟨b3, 0, none⟩, some ⟨b1, 0, none⟩] w23 w30 := hC.callStep [some ⟨b7, 0, none⟩, p2, some ⟨b4, 0, none⟩, p6, p5, some ⟨b3, 0, none⟩, some ⟨b1, 0, none⟩]
                  have x6 := x6.keep hC.fr ((Ex.callOff (as0 := []) (rt := [some ⟨b7, 0, none⟩, p2, some ⟨b4, 0, none⟩, p6, p5, some ⟨b3, 0, none⟩, some ⟨b1, 0, none⟩]) hE (u := some ⟨b7, 0, none⟩) (by simp)) _ rfl)
                  have o2 := o2.keep hC.fr (Ex.callOff (as0 := []) (rt := [some ⟨b7, 0, none⟩, p2, some ⟨b4, 0, none⟩, p6, p5, some ⟨b3, 0, none⟩, some ⟨b1, 0, none⟩]) hE (u := p2) (by simp)) (fun _ _ h => hs.trK h)
                  have x5 := x5.keep hC.fr ((Ex.callOff (as0 := []) (rt := [some ⟨b7, 0, none⟩, p2, some ⟨b4, 0, none⟩, p6, p5, some ⟨b3, 0, none⟩, some ⟨b1, 0, none⟩]) hE (u := some ⟨b4, 0, none⟩) (by simp)) _ rfl)
                  have o3 := o3.keep hC.fr (Ex.callOff (as0 := []) (rt := [some ⟨b7, 0, none⟩, p2, some ⟨b4, 0, none⟩, p6, p5, some ⟨b3, 0, none⟩, some ⟨b1, 0, none⟩]) hE (u := p6) (by simp)) (fun _ _ h => hs.trK h)
                  have o4 := o4.keep hC.fr (Ex.callOff (as0 := []) (rt := [some ⟨b7, 0, none⟩, p2, some ⟨b4, 0, none⟩, p6, p5, some ⟨b3, 0, none⟩, some ⟨b1, 0, none⟩]) hE (u := p5) (by simp)) (fun _ _ h => hs.trK h)
                  have x4 := x4.keep hC.fr ((Ex.callOff (as0 := []) (rt := [some ⟨b7, 0, none⟩, p2, some ⟨b4, 0, none⟩, p6, p5, some ⟨b3, 0, none⟩, some ⟨b1, 0, none⟩]) hE (u := some ⟨b3, 0, none⟩) (by simp)) _ rfl)
                  have x1 := x1.keep hC.fr ((Ex.callOff (as0 := []) (rt := [some ⟨b7, 0, none⟩, p2, some ⟨b4, 0, none⟩, p6, p5, some ⟨b3, 0, none⟩, some ⟨b1, 0, none⟩]) hE (u := some ⟨b1, 0, none⟩) (by simp)) _ rfl)
                  have hE : Ex w (Av [] No) [some ⟨b7, 0, none⟩, p2, some ⟨b4, 0, none⟩, p6, p5, some ⟨b3, 0, none⟩, some ⟨b1, 0, none⟩] w30 := Ex.call (as0 := []) (rt := [some ⟨b7, 0, none⟩, p2, some ⟨b4, 0, none⟩, p6, p5, some ⟨b3, 0, none⟩, some ⟨b1, 0, none⟩]) hE hC
                  refine go1 ha rfl (d_pick ha rfl (not_f (decide_eq_false hc25)) rfl) fun a ha => ?_
                  refine go1 ha rfl (d_assign ha rfl) fun a ha => ?_
                  refine nil_ ?_
                  refine hK26 _ _ ?_
                  have ha := ha.to (l' := [(6, _)]) rfl
                  refine wp_ret ?_
                  have hs : Step [some ⟨b7, 0, none⟩, p2, some ⟨b4, 0, none⟩, p6, p5, some ⟨b3, 0, none⟩, some ⟨b1, 0, none⟩] [] w30 w30 := Step.pick _ _ []
                  have hE : Ex w (Av [] No) [] w30 := hE.pick [] (by decide)
                  injection hF with hF
                  subst hF
                  refine fin1 ha Try.results6 rfl ?_
                  exact ⟨rfl, hE⟩
        · refine wcond_t ha rfl (not_f (decide_eq_false hc10)) ?_
          refine wp_seq_k (fun K22 hK22 => ?_)
          refine wreg ?_
          refine go1 ha rfl (d_assign ha rfl) fun a ha => ?_
          refine nil_ ?_
          refine hK22 _ _ ?_
          have ha := ha.to (l' := [(6, _)]) rfl
          refine wp_ret ?_
          have hs : Step [some ⟨b4, 0, none⟩, p6, p5, some ⟨b3, 0, none⟩, p2, some ⟨b1, 0, none⟩] [] w19 w19 := Step.pick _ _ []
          have hE : Ex w (Av [] No) [] w19 := hE.pick [] (by decide)
          injection hF with hF
          subst hF
          refine fin1 ha Try.results6 rfl ?_
          exact ⟨rfl, hE⟩
      · refine wcond_t ha rfl (not_f (decide_eq_false hc7)) ?_
        refine wp_seq_k (fun K18 hK18 => ?_)
        refine wreg ?_
        refine go1 ha rfl (d_assign ha rfl) fun a ha => ?_
        refine nil_ ?_
        refine hK18 _ _ ?_
        have ha := ha.to (l' := [(6, _)]) rfl
        refine wp_ret ?_
        have hs : Step [some ⟨b3, 0, none⟩, p2, some ⟨b1, 0, none⟩] [] w13 w13 := Step.pick _ _ []
        have hE : Ex w (Av [] No) [] w13 := hE.pick [] (by decide)
        injection hF with hF
        subst hF
        refine fin1 ha Try.results6 rfl ?_
        exact ⟨rfl, hE⟩
    · intro K10 hK10
      refine wp_seq_k (fun K11 hK11 => ?_)
      refine wreg ?_
      refine go1 ha rfl (d_move ha rfl) fun a ha => ?_
      refine go1 ha rfl (d_neI ha rfl rfl) fun a ha => ?_
      refine go1 ha rfl (d_move ha rfl) fun a ha => ?_
      rcases ite_elim hF with ⟨hc3, hF⟩ | ⟨hc3, hF⟩
      · refine goOn1 ha rfl rfl rfl rfl (not_t (decide_eq_true hc3)) (d_loadAgg (cs := [.int .i64 t5.1.1, .string t5.1.2]) ha rfl (x2.at_.sub' 0 2 rfl) Try.isAgg29 Try.sizeOf29 rfl) fun a ha => ?_
        refine goOn1 ha rfl rfl rfl rfl (not_t (decide_eq_true hc3)) (d_loadAgg (cs := [.int .i64 a0_0, .string a0_1]) ha rfl (x1.at_.sub' 0 2 rfl) Try.isAgg29 Try.sizeOf29 rfl) fun a ha => ?_
        refine goOn1 ha rfl rfl rfl rfl (not_t (decide_eq_true hc3)) (d_neAg (q := t5.1.1 = a0_0 ∧ t5.1.2 = a0_1) ha rfl rfl (by kernel_rfl) (.struct Try.underlying29 (by kernel_rfl) (.cons (by decide) (.cell Try.isAgg27 rfl) (.cell Try.isAgg27 rfl) (.int Try.underlying27) (.one (by decide) (.cell Try.isAgg9 rfl) (.cell Try.isAgg9 rfl) (.str Try.underlying9))))) fun a ha => ?_
        refine go1 ha rfl (d_pickF ha rfl (not_t (decide_eq_true hc3)) rfl) fun a ha => ?_
        refine go1 ha rfl (d_move ha rfl) fun a ha => ?_
        rcases ite_elim hF with ⟨hc4, hF⟩ | ⟨hc4, hF⟩
        · refine goOn1 ha rfl rfl rfl rfl (not_t (decide_eq_true hc4)) (d_move ha rfl) fun a ha => ?_
          refine goOn1 ha rfl rfl rfl rfl (not_t (decide_eq_true hc4)) (d_lenSlice ha Try.underlying22 rfl) fun a ha => ?_
          refine goOn1 ha rfl rfl rfl rfl (not_t (decide_eq_true hc4)) (d_eqI ha rfl rfl) fun a ha => ?_
          refine go1 ha rfl (d_pickF ha rfl (not_t (decide_eq_true hc4)) rfl) fun a ha => ?_
          refine nil_ ?_
          refine hK11 _ _ ?_
          have ha := ha.to (l' := [(1, _), (2, _), (3, _), (7, _), (45, _)]) rfl
          rcases ite_elim hF with ⟨hc5, hF⟩ | ⟨hc5, hF⟩
          · refine wcond_t ha rfl (decide_eq_true hc5) ?_
            refine wp_seq_k (fun K14 hK14 => ?_)
            refine wreg ?_
            refine go1 ha rfl (d_assign ha rfl) fun a ha => ?_
            refine nil_ ?_
            refine hK14 _ _ ?_
            have ha := ha.to (l' := [(6, _)]) rfl
            refine wp_ret ?_
            have hs : Step [some ⟨b2, 0, none⟩, p1, some ⟨b1, 0, none⟩] [] w9 w9 := Step.pick _ _ []
            have hE : Ex w (Av [] No) [] w9 := hE.pick [] (by decide)
            injection hF with hF
            subst hF
            refine fin1 ha Try.results6 rfl ?_
            exact ⟨rfl, hE⟩
          · refine wcond_f ha rfl (decide_eq_false hc5) ?_
            refine wp_skip ?_
            have hs : Step [some ⟨b2, 0, none⟩, p1, some ⟨b1, 0, none⟩] [p1, some ⟨b1, 0, none⟩] w9 w9 := Step.pick _ _ [1, 2]
            have o1 := o1.keep (Fr.refl _ No) (fun _ _ h => h) (fun _ _ h => hs.trK h)
            have hE : Ex w (Av [] No) [p1, some ⟨b1, 0, none⟩] w9 := hE.pick [1, 2] (by decide)
            exact hK10 _ _ ⟨t4, _, _, ha.to rfl, hE, x1, o1, hF⟩
        · refine goOff ha rfl rfl rfl rfl (not_f (decide_eq_false hc4)) fun a ha => ?_
          refine goOff ha rfl rfl rfl rfl (not_f (decide_eq_false hc4)) fun a ha => ?_
          refine goOff ha rfl rfl rfl rfl (not_f (decide_eq_false hc4)) fun a ha => ?_
          refine go1 ha rfl (d_pick ha rfl (not_f (decide_eq_false hc4)) rfl) fun a ha => ?_
          refine nil_ ?_
          refine hK11 _ _ ?_
          have ha := ha.to (l' := [(1, _), (2, _), (3, _), (7, _), (45, _)]) rfl
          refine wcond_t ha rfl rfl ?_
          refine wp_seq_k (fun K13 hK13 => ?_)
          refine wreg ?_
          refine go1 ha rfl (d_assign ha rfl) fun a ha => ?_
          refine nil_ ?_
          refine hK13 _ _ ?_
          have ha := ha.to (l' := [(6, _)]) rfl
          refine wp_ret ?_
          have hs : Step [some ⟨b2, 0, none⟩, p1, some ⟨b1, 0, none⟩] [] w9 w9 := Step.pick _ _ []
          have hE : Ex w (Av [] No) [] w9 := hE.pick [] (by decide)
          injection hF with hF
          subst hF
          refine fin1 ha Try.results6 rfl ?_
          exact ⟨rfl, hE⟩
      · refine goOff ha rfl rfl rfl rfl (not_f (decide_eq_false hc3)) fun a ha => ?_
        refine goOff ha rfl rfl rfl rfl (not_f (decide_eq_false hc3)) fun a ha => ?_
        refine goOff ha rfl rfl rfl rfl (not_f (decide_eq_false hc3)) fun a ha => ?_
        refine go1 ha rfl (d_pick ha rfl (not_f (decide_eq_false hc3)) rfl) fun a ha => ?_
        refine go1 ha rfl (d_move ha rfl) fun a ha => ?_
        refine goOff ha rfl rfl rfl rfl rfl fun a ha => ?_
        refine goOff ha rfl rfl rfl rfl rfl fun a ha => ?_
        refine goOff ha rfl rfl rfl rfl rfl fun a ha => ?_
        refine go1 ha rfl (d_pick ha rfl rfl rfl) fun a ha => ?_
        refine nil_ ?_
        refine hK11 _ _ ?_
        have ha := ha.to (l' := [(1, _), (2, _), (3, _), (7, _), (45, _)]) rfl
        refine wcond_t ha rfl rfl ?_
        refine wp_seq_k (fun K12 hK12 => ?_)
        refine wreg ?_
        refine go1 ha rfl (d_assign ha rfl) fun a ha => ?_
        refine nil_ ?_
        refine hK12 _ _ ?_
        have ha := ha.to (l' := [(6, _)]) rfl
        refine wp_ret ?_
        have hs : Step [some ⟨b2, 0, none⟩, p1, some ⟨b1, 0, none⟩] [] w9 w9 := Step.pick _ _ []
        have hE : Ex w (Av [] No) [] w9 := hE.pick [] (by decide)
        injection hF with hF
        subst hF
        refine fin1 ha Try.results6 rfl ?_
        exact ⟨rfl, hE⟩
  · intro K3 hK3
    refine wp_seq_k (fun K4 hK4 => ?_)
    refine wreg ?_
    refine go1 ha rfl (d_fieldAddr (o' := 1) ha rfl Try.underlying29 rfl Try.sizeOf9 rfl) fun a ha => ?_
    refine go1 ha rfl (d_load ha rfl (x1.at_.cell 1 rfl) Try.isAgg9) fun a ha => ?_
    refine go1 ha rfl (d_lenString ha Try.underlying9 rfl) fun a ha => ?_
    refine go1 ha rfl (d_gt ha rfl rfl) fun a ha => ?_
    refine go1 ha rfl (d_move ha rfl) fun a ha => ?_
    rcases ite_elim hF with ⟨hc1, hF⟩ | ⟨hc1, hF⟩
    · refine goOff ha rfl rfl rfl rfl (decide_eq_true hc1) fun a ha => ?_
      refine goOff ha rfl rfl rfl rfl (decide_eq_true hc1) fun a ha => ?_
      refine goOff ha rfl rfl rfl rfl (decide_eq_true hc1) fun a ha => ?_
      refine go1 ha rfl (d_pick ha rfl (decide_eq_true hc1) rfl) fun a ha => ?_
      refine nil_ ?_
      refine hK4 _ _ ?_
      have ha := ha.to (l' := [(1, _), (2, _), (3, _), (25, _)]) rfl
      refine wcond_t ha rfl rfl ?_
      refine wp_seq_k (fun K5 hK5 => ?_)
      refine wreg ?_
      obtain ⟨t1, ht1, hF⟩ := bind_elim hF
      refine goR ha rfl (d_call Try.call10 ha (vs := []) rfl (warderlaw02_known_c k   (Av [some ⟨b1, 0, none⟩] W) _ (Ex.wlt (as0 := []) (rr := []) (ro := [some ⟨b1, 0, none⟩]) hE hW)  _ ht1)) fun v w2 a h ha => ?_
      obtain ⟨rfl, hC⟩ := h
      have hs : Step [some ⟨b1, 0, none⟩] [some ⟨b1, 0, none⟩] w1 w2 := hC.callStep [some ⟨b1, 0, none⟩]
      have x1 := x1.keep hC.fr ((Ex.callOff (as0 := []) (rt := [some ⟨b1, 0, none⟩]) hE (u := some ⟨b1, 0, none⟩) (by simp)) _ rfl)
      have hE : Ex w (Av [] No) [some ⟨b1, 0, none⟩] w2 := Ex.call (as0 := []) (rt := [some ⟨b1, 0, none⟩]) hE hC
      refine go1 ha rfl (d_assign ha rfl) fun a ha => ?_
      refine nil_ ?_
      refine hK5 _ _ ?_
      have ha := ha.to (l' := [(6, _)]) rfl
      refine wp_ret ?_
      have hs : Step [some ⟨b1, 0, none⟩] [] w2 w2 := Step.pick _ _ []
      have hE : Ex w (Av [] No) [] w2 := hE.pick [] (by decide)
      injection hF with hF
      subst hF
      refine fin1 ha Try.results6 rfl ?_
      exact ⟨rfl, hE⟩
    · refine goOn1 ha rfl rfl rfl rfl (decide_eq_false hc1) (d_loadAgg (cs := [.int .i64 a0_0, .string a0_1]) ha rfl (x1.at_.sub' 0 2 rfl) Try.isAgg29 Try.sizeOf29 rfl) fun a ha => ?_
      obtain ⟨t2, ht2, hF⟩ := bind_elim hF
      refine goOnR ha rfl rfl rfl rfl (decide_eq_false hc1) (d_call Try.call17 ha (vs := [.agg #[.int .i64 a0_0, .string a0_1]]) rfl (warderref02_May_c k a0_0 a0_1  (Av [some ⟨b1, 0, none⟩] W) _ (Ex.wlt (as0 := []) (rr := []) (ro := [some ⟨b1, 0, none⟩]) hE hW)  _ ht2)) fun v w3 a h ha => ?_
      obtain ⟨rfl, hC⟩ := h
      have hs : Step [some ⟨b1, 0, none⟩] [some ⟨b1, 0, none⟩] w1 w3 := hC.callStep [some ⟨b1, 0, none⟩]
      have x1 := x1.keep hC.fr ((Ex.callOff (as0 := []) (rt := [some ⟨b1, 0, none⟩]) hE (u := some ⟨b1, 0, none⟩) (by simp)) _ rfl)
      have hE : Ex w (Av [] No) [some ⟨b1, 0, none⟩] w3 := Ex.call (as0 := []) (rt := [some ⟨b1, 0, none⟩]) hE hC
      refine goOn1 ha rfl rfl rfl rfl (decide_eq_false hc1) (d_not ha rfl) fun a ha => ?_
      refine go1 ha rfl (d_pickF ha rfl (decide_eq_false hc1) rfl) fun a ha => ?_
      refine nil_ ?_
      refine hK4 _ _ ?_
      have ha := ha.to (l' := [(1, _), (2, _), (3, _), (25, _)]) rfl
      rcases cond_elim hF with ⟨hc2, hF⟩ | ⟨hc2, hF⟩
      · refine wcond_t ha rfl hc2 ?_
        refine wp_seq_k (fun K6 hK6 => ?_)
        refine wreg ?_
        obtain ⟨t3, ht3, hF⟩ := bind_elim hF
        refine goR ha rfl (d_call Try.call10 ha (vs := []) rfl (warderlaw02_known_c k   (Av [some ⟨b1, 0, none⟩] W) _ (Ex.wlt (as0 := []) (rr := []) (ro := [some ⟨b1, 0, none⟩]) hE hW)  _ ht3)) fun v w4 a h ha => ?_
        obtain ⟨rfl, hC⟩ := h
        have hs : Step [some ⟨b1, 0, none⟩] [some ⟨b1, 0, none⟩] w3 w4 := hC.callStep [some ⟨b1, 0, none⟩]
        have x1 := x1.keep hC.fr ((Ex.callOff (as0 := []) (rt := [some ⟨b1, 0, none⟩]) hE (u := some ⟨b1, 0, none⟩) (by simp)) _ rfl)
        have hE : Ex w (Av [] No) [some ⟨b1, 0, none⟩] w4 := Ex.call (as0 := []) (rt := [some ⟨b1, 0, none⟩]) hE hC
        refine go1 ha rfl (d_assign ha rfl) fun a ha => ?_
        refine nil_ ?_
        refine hK6 _ _ ?_
        have ha := ha.to (l' := [(6, _)]) rfl
        refine wp_ret ?_
        have hs : Step [some ⟨b1, 0, none⟩] [] w4 w4 := Step.pick _ _ []
        have hE : Ex w (Av [] No) [] w4 := hE.pick [] (by decide)
        injection hF with hF
        subst hF
        refine fin1 ha Try.results6 rfl ?_
        exact ⟨rfl, hE⟩
      · refine wcond_f ha rfl hc2 ?_
        refine wp_skip ?_
        exact hK3 _ _ ⟨ha.to rfl, hE, x1, hF⟩

def cmp_isNaN_byte (a0 : Int) : Option (Bool) :=
  (some (!decide (a0 = a0)))

set_option maxHeartbeats 4000000 in
set_option maxRecDepth 100000 in
theorem cmp_isNaN_byte_c (a0 : Int)  (W : Nat → Prop) (w : World) (hW : ∀ k, W k → k < w.heap.size) (r : Bool) (hF : cmp_isNaN_byte a0 = some r) :
    Calls Try.prog 44 [.int .u8 a0].toArray w (Ret fun v w' => v = .bool r ∧ Ex w (Av [] No) [] w') := by
  unfold cmp_isNaN_byte at hF
  refine enter [(0, .int .u8 a0)] Try.func44 rfl Try.ntmps44 rfl rfl fun a ha => ?_
  have hE : Ex w (Av [] No) [] w := Ex.refl w _
  have hW0 : ∀ p, some p ∈ ([] : List (Option Addr)) → ¬ W p.block := fun _ h => by cases h
  refine wp_seq_k (fun K1 hK1 => ?_)
  refine wreg ?_
  refine go1 ha rfl (d_assign ha rfl) fun a ha => ?_
  refine nil_ ?_
  refine hK1 _ _ ?_
  have ha := ha.to (l' := [(0, _)]) rfl
  refine wp_seq_k (fun K2 hK2 => ?_)
  refine wreg ?_
  refine go1 ha rfl (d_move ha rfl) fun a ha => ?_
  refine go1 ha rfl (d_move ha rfl) fun a ha => ?_
  refine go1 ha rfl (d_neI ha rfl rfl) fun a ha => ?_
  refine go1 ha rfl (d_assign ha rfl) fun a ha => ?_
  refine nil_ ?_
  refine hK2 _ _ ?_
  have ha := ha.to (l' := [(2, _)]) rfl
  refine wp_ret ?_
  injection hF with hF
  subst hF
  refine fin1 ha Try.results44 rfl ?_
  exact ⟨rfl, hE⟩

def cmp_Compare_byte (a0 : Int) (a1 : Int) : Option (Int) :=
  ((cmp_isNaN_byte a0).bind fun t1 => ((cmp_isNaN_byte a1).bind fun t2 => (bif t1 then (bif t2 then (some (0 : Int)) else (some (-1 : Int))) else (bif t2 then (some (1 : Int)) else (if a0 < a1 then (some (-1 : Int)) else (if a1 < a0 then (some (1 : Int)) else (some (0 : Int))))))))

set_option maxHeartbeats 4000000 in
set_option maxRecDepth 100000 in
theorem cmp_Compare_byte_c (a0 : Int) (a1 : Int)  (W : Nat → Prop) (w : World) (hW : ∀ k, W k → k < w.heap.size) (r : Int) (hF : cmp_Compare_byte a0 a1 = some r) :
    Calls Try.prog 41 [.int .u8 a0, .int .u8 a1].toArray w (Ret fun v w' => v = .int .i64 r ∧ Ex w (Av [] No) [] w') := by
  unfold cmp_Compare_byte at hF
  refine enter [(0, .int .u8 a0), (1, .int .u8 a1)] Try.func41 rfl Try.ntmps41 rfl rfl fun a ha => ?_
  have hE : Ex w (Av [] No) [] w := Ex.refl w _
  have hW0 : ∀ p, some p ∈ ([] : List (Option Addr)) → ¬ W p.block := fun _ h => by cases h
  refine wp_seq_k (fun K1 hK1 => ?_)
  refine wreg ?_
  refine go1 ha rfl (d_assign ha rfl) fun a ha => ?_
  refine nil_ ?_
  refine hK1 _ _ ?_
  have ha := ha.to (l' := [(0, _), (1, _)]) rfl
  refine wp_seq_k (fun K2 hK2 => ?_)
  refine wreg ?_
  refine go1 ha rfl (d_move ha rfl) fun a ha => ?_
  obtain ⟨t1, ht1, hF⟩ := bind_elim hF
  refine goR ha rfl (d_call Try.call44 ha (vs := [.int .u8 a0]) rfl (cmp_isNaN_byte_c a0  (Av [] W) _ (Ex.wlt (as0 := []) (rr := []) (ro := []) hE hW)  _ ht1)) fun v w1 a h ha => ?_
  obtain ⟨rfl, hC⟩ := h
  have hs : Step [] [] w w1 := hC.callStep []
  have hE : Ex w (Av [] No) [] w1 := Ex.call (as0 := []) (rt := []) hE hC
  refine go1 ha rfl (d_assign ha rfl) fun a ha => ?_
  refine nil_ ?_
  refine hK2 _ _ ?_
  have ha := ha.to (l' := [(0, _), (1, _), (5, _)]) rfl
  refine wp_seq_k (fun K3 hK3 => ?_)
  refine wreg ?_
  refine go1 ha rfl (d_move ha rfl) fun a ha => ?_
  obtain ⟨t2, ht2, hF⟩ := bind_elim hF
  refine goR ha rfl (d_call Try.call44 ha (vs := [.int .u8 a1]) rfl (cmp_isNaN_byte_c a1  (Av [] W) _ (Ex.wlt (as0 := []) (rr := []) (ro := []) hE hW)  _ ht2)) fun v w2 a h ha => ?_
  obtain ⟨rfl, hC⟩ := h
  have hs : Step [] [] w1 w2 := hC.callStep []
  have hE : Ex w (Av [] No) [] w2 := Ex.call (as0 := []) (rt := []) hE hC
  refine go1 ha rfl (d_assign ha rfl) fun a ha => ?_
  refine nil_ ?_
  refine hK3 _ _ ?_
  have ha := ha.to (l' := [(0, _), (1, _), (5, _), (6, _)]) rfl
  refine wp_seq_k (fun K4 hK4 => ?_)
  refine wp_seq_k (fun K5 hK5 => ?_)
  refine wreg ?_
  refine go1 ha rfl (d_move ha rfl) fun a ha => ?_
  refine nil_ ?_
  refine hK5 _ _ ?_
  have ha := ha.to (l' := [(0, _), (1, _), (6, _), (11, _)]) rfl
  rcases cond_elim hF with ⟨hc1, hF⟩ | ⟨hc1, hF⟩
  · refine wcond_t ha rfl hc1 ?_
    refine wp_seq_k (fun K6 hK6 => ?_)
    refine wp_seq_k (fun K7 hK7 => ?_)
    refine wreg ?_
    refine go1 ha rfl (d_move ha rfl) fun a ha => ?_
    refine nil_ ?_
    refine hK7 _ _ ?_
    have ha := ha.to (l' := [(12, _)]) rfl
    rcases cond_elim hF with ⟨hc2, hF⟩ | ⟨hc2, hF⟩
    · refine wcond_t ha rfl hc2 ?_
      refine wp_seq_k (fun K8 hK8 => ?_)
      refine wreg ?_
      refine go1 ha rfl (d_assign ha rfl) fun a ha => ?_
      refine nil_ ?_
      refine hK8 _ _ ?_
      have ha := ha.to (l' := [(4, _)]) rfl
      refine wp_ret ?_
      injection hF with hF
      subst hF
      refine fin1 ha Try.results41 rfl ?_
      exact ⟨rfl, hE⟩
    · refine wcond_f ha rfl hc2 ?_
      refine wp_skip ?_
      refine hK6 _ _ ?_
      have ha := ha.to (l' := []) rfl
      refine wp_seq_k (fun K9 hK9 => ?_)
      refine wreg ?_
      refine go1 ha rfl (d_assign ha rfl) fun a ha => ?_
      refine nil_ ?_
      refine hK9 _ _ ?_
      have ha := ha.to (l' := [(4, _)]) rfl
      refine wp_ret ?_
      injection hF with hF
      subst hF
      refine fin1 ha Try.results41 rfl ?_
      exact ⟨rfl, hE⟩
  · refine wcond_f ha rfl hc1 ?_
    refine wp_skip ?_
    refine hK4 _ _ ?_
    have ha := ha.to (l' := [(0, _), (1, _), (6, _)]) rfl
    refine wp_seq_k (fun K10 hK10 => ?_)
    refine wp_seq_k (fun K11 hK11 => ?_)
    refine wreg ?_
    refine go1 ha rfl (d_move ha rfl) fun a ha => ?_
    refine nil_ ?_
    refine hK11 _ _ ?_
    have ha := ha.to (l' := [(0, _), (1, _), (13, _)]) rfl
    rcases cond_elim hF with ⟨hc3, hF⟩ | ⟨hc3, hF⟩
    · refine wcond_t ha rfl hc3 ?_
      refine wp_seq_k (fun K12 hK12 => ?_)
      refine wreg ?_
      refine go1 ha rfl (d_assign ha rfl) fun a ha => ?_
      refine nil_ ?_
      refine hK12 _ _ ?_
      have ha := ha.to (l' := [(4, _)]) rfl
      refine wp_ret ?_
      injection hF with hF
      subst hF
      refine fin1 ha Try.results41 rfl ?_
      exact ⟨rfl, hE⟩
    · refine wcond_f ha rfl hc3 ?_
      refine wp_skip ?_
      refine hK10 _ _ ?_
      have ha := ha.to (l' := [(0, _), (1, _)]) rfl
      refine wp_seq_k (fun K13 hK13 => ?_)
      refine wp_seq_k (fun K14 hK14 => ?_)
      refine wreg ?_
      refine go1 ha rfl (d_move ha rfl) fun a ha => ?_
      refine go1 ha rfl (d_move ha rfl) fun a ha => ?_
      refine go1 ha rfl (d_lt ha rfl rfl) fun a ha => ?_
      refine nil_ ?_
      refine hK14 _ _ ?_
      have ha := ha.to (l' := [(0, _), (1, _), (16, _)]) rfl
      rcases ite_elim hF with ⟨hc4, hF⟩ | ⟨hc4, hF⟩
      · refine wcond_t ha rfl (decide_eq_true hc4) ?_
        refine wp_seq_k (fun K15 hK15 => ?_)
        refine wreg ?_
        refine go1 ha rfl (d_assign ha rfl) fun a ha => ?_
        refine nil_ ?_
        refine hK15 _ _ ?_
        have ha := ha.to (l' := [(4, _)]) rfl
        refine wp_ret ?_
        injection hF with hF
        subst hF
        refine fin1 ha Try.results41 rfl ?_
        exact ⟨rfl, hE⟩
      · refine wcond_f ha rfl (decide_eq_false hc4) ?_
        refine wp_skip ?_
        refine hK13 _ _ ?_
        have ha := ha.to (l' := [(0, _), (1, _)]) rfl
        refine wp_seq_k (fun K16 hK16 => ?_)
        refine wp_seq_k (fun K17 hK17 => ?_)
        refine wreg ?_
        refine go1 ha rfl (d_move ha rfl) fun a ha => ?_
        refine go1 ha rfl (d_move ha rfl) fun a ha => ?_
        refine go1 ha rfl (d_gt ha rfl rfl) fun a ha => ?_
        refine nil_ ?_
        refine hK17 _ _ ?_
        have ha := ha.to (l' := [(19, _)]) rfl
        rcases ite_elim hF with ⟨hc5, hF⟩ | ⟨hc5, hF⟩
        · refine wcond_t ha rfl (decide_eq_true hc5) ?_
          refine wp_seq_k (fun K18 hK18 => ?_)
          refine wreg ?_
          refine go1 ha rfl (d_assign ha rfl) fun a ha => ?_
          refine nil_ ?_
          refine hK18 _ _ ?_
          have ha := ha.to (l' := [(4, _)]) rfl
          refine wp_ret ?_
          injection hF with hF
          subst hF
          refine fin1 ha Try.results41 rfl ?_
          exact ⟨rfl, hE⟩
        · refine wcond_f ha rfl (decide_eq_false hc5) ?_
          refine wp_skip ?_
          refine hK16 _ _ ?_
          have ha := ha.to (l' := []) rfl
          refine wp_seq_k (fun K19 hK19 => ?_)
          refine wreg ?_
          refine go1 ha rfl (d_assign ha rfl) fun a ha => ?_
          refine nil_ ?_
          refine hK19 _ _ ?_
          have ha := ha.to (l' := [(4, _)]) rfl
          refine wp_ret ?_
          injection hF with hF
          subst hF
          refine fin1 ha Try.results41 rfl ?_
          exact ⟨rfl, hE⟩

def slices_Compare_byte_byte_l0 (k : Nat) (a0 : List Int) (a1 : List Int) : Nat → Int → Option (Int)
  | 0, _ => none
  | k1 + 1, x1 =>
    (if x1 < (a0.length : Int) then (ck (0 ≤ x1 ∧ x1 < (a0.length : Int)) (if (a1.length : Int) ≤ x1 then (some (1 : Int)) else (ck (0 ≤ x1 ∧ x1 < (a1.length : Int)) ((cmp_Compare_byte (a0.getD (x1).toNat (0 : Int)) (a1.getD (x1).toNat (0 : Int))).bind fun t1 => (if t1 = (0 : Int) then (slices_Compare_byte_byte_l0 k a0 a1 k1 (IntKind.i64.wrap (x1 + (1 : Int)))) else (some t1)))))) else (if (a0.length : Int) < (a1.length : Int) then (some (-1 : Int)) else (some (0 : Int))))

def slices_Compare_byte_byte (k : Nat) (a0 : List Int) (a1 : List Int) : Option (Int) :=
  (slices_Compare_byte_byte_l0 k a0 a1 k (0 : Int))

set_option maxHeartbeats 4000000 in
set_option maxRecDepth 100000 in
theorem slices_Compare_byte_byte_c (k : Nat) (a0 : List Int) (a1 : List Int) (p1 : Option Addr) (c1 : Nat) (p2 : Option Addr) (c2 : Nat) (W : Nat → Prop) (w : World) (hW : ∀ k, W k → k < w.heap.size) (r1 : Raw (Av [] W) (Kd.int .u8) w.heap p1 c1 a0) (r2 : Raw (Av [] W) (Kd.int .u8) w.heap p2 c2 a1) (r : Int) (hF : slices_Compare_byte_byte k a0 a1 = some r) :
    Calls Try.prog 37 [.slice p1 a0.length c1, .slice p2 a1.length c2].toArray w (Ret fun v w' => v = .int .i64 r ∧ Ex w (Av [] No) [] w') := by
  unfold slices_Compare_byte_byte at hF
  refine enter [(0, .slice p1 a0.length c1), (1, .slice p2 a1.length c2)] Try.func37 rfl Try.ntmps37 rfl rfl fun a ha => ?_
  have hE : Ex w (Av [] No) [] w := Ex.refl w _
  have hW0 : ∀ p, some p ∈ ([] : List (Option Addr)) → ¬ W p.block := fun _ h => by cases h
  refine wp_seq_k (fun K1 hK1 => ?_)
  refine wreg ?_
  refine go1 ha rfl (d_assign ha rfl) fun a ha => ?_
  refine nil_ ?_
  refine hK1 _ _ ?_
  have ha := ha.to (l' := [(0, _), (1, _)]) rfl
  refine wp_seq_k (fun K2 hK2 => ?_)
  refine wp_seq_k (fun K3 hK3 => ?_)
  refine wreg ?_
  refine go1 ha rfl (d_move ha rfl) fun a ha => ?_
  refine go1 ha rfl (d_lenSlice ha Try.underlying22 rfl) fun a ha => ?_
  refine go1 ha rfl (d_move ha rfl) fun a ha => ?_
  refine nil_ ?_
  refine hK3 _ _ ?_
  have ha := ha.to (l' := [(0, _), (1, _), (9, _), (10, _), (11, _)]) rfl
  refine wp_block ?_
  refine wloopJ (fun k' a w1 => ∃ (x1 : Int), Has 36 [(0, .slice p1 a0.length c1), (1, .slice p2 a1.length c2), (9, .slice p1 a0.length c1), (10, .int .i64 (a0.length : Int)), (11, .int .i64 x1)] a ∧ Ex w (Av [] No) [] w1 ∧ Raw (Av [] W) (Kd.int .u8) w1.heap p1 c1 a0 ∧ Raw (Av [] W) (Kd.int .u8) w1.heap p2 c2 a1 ∧ slices_Compare_byte_byte_l0 k a0 a1 k' x1 = some r) k ⟨(0 : Int), ha.to rfl, hE, r1, r2, hF⟩ ?_
  rintro k1 a w1 ⟨x1, ha, hE, r1, r2, hF⟩ K4 hK4
  cases k1 with
  | zero => cases hF
  | succ k1 =>
    rw [slices_Compare_byte_byte_l0] at hF
    refine wp_seq_k (fun K5 hK5 => ?_)
    refine wreg ?_
    refine go1 ha rfl (d_lt ha rfl rfl) fun a ha => ?_
    refine nil_ ?_
    refine hK5 _ _ ?_
    have ha := ha.to (l' := [(0, _), (1, _), (9, _), (10, _), (11, _), (12, _)]) rfl
    refine wp_seq_k (fun K6 hK6 => ?_)
    rcases ite_elim hF with ⟨hc1, hF⟩ | ⟨hc1, hF⟩
    · refine wcond_t ha rfl (decide_eq_true hc1) ?_
      refine wp_skip ?_
      refine hK6 _ _ ?_
      have ha := ha.to (l' := [(0, _), (1, _), (9, _), (10, _), (11, _)]) rfl
      refine wp_seq_k (fun K7 hK7 => ?_)
      refine wp_block ?_
      refine wp_seq_k (fun K8 hK8 => ?_)
      refine wreg ?_
      refine go1 ha rfl (d_move ha rfl) fun a ha => ?_
      obtain ⟨hc2, hF⟩ := ck_elim hF
      refine goS ha rfl (d_index (kd := (Kd.int .u8)) ha rfl rfl Try.underlying22 Try.sizeOf5 r1 hc2 (0 : Int)) fun v a h ha => ?_
      obtain ⟨b1, q1, cs1, rfl, _, hk1, at1⟩ := h
      obtain rfl := hk1
      refine go1 ha rfl (d_load ha rfl (at1.cell 0 rfl) Try.isAgg5) fun a ha => ?_
      refine go1 ha rfl (d_assign ha rfl) fun a ha => ?_
      refine go1 ha rfl (d_assign ha rfl) fun a ha => ?_
      refine nil_ ?_
      refine hK8 _ _ ?_
      have ha := ha.to (l' := [(0, _), (1, _), (5, _), (6, _), (9, _), (10, _), (11, _)]) rfl
      refine wp_seq_k (fun K9 hK9 => ?_)
      refine wp_seq_k (fun K10 hK10 => ?_)
      refine wreg ?_
      refine go1 ha rfl (d_move ha rfl) fun a ha => ?_
      refine go1 ha rfl (d_move ha rfl) fun a ha => ?_
      refine go1 ha rfl (d_lenSlice ha Try.underlying22 rfl) fun a ha => ?_
      refine go1 ha rfl (d_ge ha rfl rfl) fun a ha => ?_
      refine nil_ ?_
      refine hK10 _ _ ?_
      have ha := ha.to (l' := [(0, _), (1, _), (5, _), (6, _), (9, _), (10, _), (11, _), (19, _)]) rfl
      rcases ite_elim hF with ⟨hc3, hF⟩ | ⟨hc3, hF⟩
      · refine wcond_t ha rfl (decide_eq_true hc3) ?_
        refine wp_seq_k (fun K11 hK11 => ?_)
        refine wreg ?_
        refine go1 ha rfl (d_assign ha rfl) fun a ha => ?_
        refine nil_ ?_
        refine hK11 _ _ ?_
        have ha := ha.to (l' := [(4, _)]) rfl
        refine wp_ret ?_
        injection hF with hF
        subst hF
        refine fin1 ha Try.results37 rfl ?_
        exact ⟨rfl, hE⟩
      · refine wcond_f ha rfl (decide_eq_false hc3) ?_
        refine wp_skip ?_
        refine hK9 _ _ ?_
        have ha := ha.to (l' := [(0, _), (1, _), (5, _), (6, _), (9, _), (10, _), (11, _)]) rfl
        refine wp_seq_k (fun K12 hK12 => ?_)
        refine wreg ?_
        refine go1 ha rfl (d_move ha rfl) fun a ha => ?_
        refine go1 ha rfl (d_move ha rfl) fun a ha => ?_
        obtain ⟨hc4, hF⟩ := ck_elim hF
        refine goS ha rfl (d_index (kd := (Kd.int .u8)) ha rfl rfl Try.underlying22 Try.sizeOf5 r2 hc4 (0 : Int)) fun v a h ha => ?_
        obtain ⟨b2, q2, cs2, rfl, _, hk2, at2⟩ := h
        obtain rfl := hk2
        refine go1 ha rfl (d_load ha rfl (at2.cell 0 rfl) Try.isAgg5) fun a ha => ?_
        refine go1 ha rfl (d_assign ha rfl) fun a ha => ?_
        refine nil_ ?_
        refine hK12 _ _ ?_
        have ha := ha.to (l' := [(0, _), (1, _), (6, _), (7, _), (9, _), (10, _), (11, _)]) rfl
        refine wp_seq_k (fun K13 hK13 => ?_)
        refine wreg ?_
        refine go1 ha rfl (d_move ha rfl) fun a ha => ?_
        refine go1 ha rfl (d_move ha rfl) fun a ha => ?_
        obtain ⟨t1, ht1, hF⟩ := bind_elim hF
        refine goR ha rfl (d_call Try.call41 ha (vs := [.int .u8 (a0.getD (x1).toNat (0 : Int)), .int .u8 (a1.getD (x1).toNat (0 : Int))]) rfl (cmp_Compare_byte_c (a0.getD (x1).toNat (0 : Int)) (a1.getD (x1).toNat (0 : Int))  (Av [] W) _ (Ex.wlt (as0 := []) (rr := []) (ro := []) hE hW)  _ ht1)) fun v w2 a h ha => ?_
        obtain ⟨rfl, hC⟩ := h
        have hs : Step [] [] w1 w2 := hC.callStep []
        have r1 := hs.tr r1
        have r2 := hs.tr r2
        have hE : Ex w (Av [] No) [] w2 := Ex.call (as0 := []) (rt := []) hE hC
        refine go1 ha rfl (d_assign ha rfl) fun a ha => ?_
        refine nil_ ?_
        refine hK13 _ _ ?_
        have ha := ha.to (l' := [(0, _), (1, _), (8, _), (9, _), (10, _), (11, _)]) rfl
        refine wp_seq_k (fun K14 hK14 => ?_)
        refine wreg ?_
        refine go1 ha rfl (d_move ha rfl) fun a ha => ?_
        refine go1 ha rfl (d_neI ha rfl rfl) fun a ha => ?_
        refine nil_ ?_
        refine hK14 _ _ ?_
        have ha := ha.to (l' := [(0, _), (1, _), (8, _), (9, _), (10, _), (11, _), (28, _)]) rfl
        rcases ite_elim hF with ⟨hc5, hF⟩ | ⟨hc5, hF⟩
        · refine wcond_f ha rfl (not_t (decide_eq_true hc5)) ?_
          refine wp_skip ?_
          refine hK7 _ _ ?_
          have ha := ha.to (l' := [(0, _), (1, _), (9, _), (10, _), (11, _)]) rfl
          refine wreg ?_
          refine go1 ha rfl (d_add ha rfl rfl) fun a ha => ?_
          refine go1 ha rfl (d_move ha rfl) fun a ha => ?_
          refine nil_ ?_
          exact hK4 k1 _ _ (Nat.lt_succ_self _) ⟨(IntKind.i64.wrap (x1 + (1 : Int))), ha.to rfl, hE, r1, r2, hF⟩
        · refine wcond_t ha rfl (not_f (decide_eq_false hc5)) ?_
          refine wp_seq_k (fun K15 hK15 => ?_)
          refine wreg ?_
          refine go1 ha rfl (d_move ha rfl) fun a ha => ?_
          refine go1 ha rfl (d_assign ha rfl) fun a ha => ?_
          refine nil_ ?_
          refine hK15 _ _ ?_
          have ha := ha.to (l' := [(4, _)]) rfl
          refine wp_ret ?_
          injection hF with hF
          subst hF
          refine fin1 ha Try.results37 rfl ?_
          exact ⟨rfl, hE⟩
    · refine wcond_f ha rfl (decide_eq_false hc1) ?_
      refine wp_exit ?_
      refine hK2 _ _ ?_
      have ha := ha.to (l' := [(0, _), (1, _)]) rfl
      refine wp_seq_k (fun K16 hK16 => ?_)
      refine wp_seq_k (fun K17 hK17 => ?_)
      refine wreg ?_
      refine go1 ha rfl (d_move ha rfl) fun a ha => ?_
      refine go1 ha rfl (d_lenSlice ha Try.underlying22 rfl) fun a ha => ?_
      refine go1 ha rfl (d_move ha rfl) fun a ha => ?_
      refine go1 ha rfl (d_lenSlice ha Try.underlying22 rfl) fun a ha => ?_
      refine go1 ha rfl (d_lt ha rfl rfl) fun a ha => ?_
      refine nil_ ?_
      refine hK17 _ _ ?_
      have ha := ha.to (l' := [(35, _)]) rfl
      rcases ite_elim hF with ⟨hc6, hF⟩ | ⟨hc6, hF⟩
      · refine wcond_t ha rfl (decide_eq_true hc6) ?_
        refine wp_seq_k (fun K18 hK18 => ?_)
        refine wreg ?_
        refine go1 ha rfl (d_assign ha rfl) fun a ha => ?_
        refine nil_ ?_
        refine hK18 _ _ ?_
        have ha := ha.to (l' := [(4, _)]) rfl
        refine wp_ret ?_
        injection hF with hF
        subst hF
        refine fin1 ha Try.results37 rfl ?_
        exact ⟨rfl, hE⟩
      · refine wcond_f ha rfl (decide_eq_false hc6) ?_
        refine wp_skip ?_
        refine hK16 _ _ ?_
        have ha := ha.to (l' := []) rfl
        refine wp_seq_k (fun K19 hK19 => ?_)
        refine wreg ?_
        refine go1 ha rfl (d_assign ha rfl) fun a ha => ?_
        refine nil_ ?_
        refine hK19 _ _ ?_
        have ha := ha.to (l' := [(4, _)]) rfl
        refine wp_ret ?_
        injection hF with hF
        subst hF
        refine fin1 ha Try.results37 rfl ?_
        exact ⟨rfl, hE⟩

def nibble_Less (k : Nat) (a0_0 : Int) (a0_1 : ByteArray) (a1_0 : Int) (a1_1 : ByteArray) : Option (Bool) :=
  ((nibble_Of k a0_0 a0_1).bind fun t1 => ((nibble_Of k a1_0 a1_1).bind fun t2 => ((slices_Compare_byte_byte k t1 t2).bind fun t3 => (some (decide (t3 < (0 : Int)))))))

set_option maxHeartbeats 4000000 in
set_option maxRecDepth 100000 in
theorem nibble_Less_c (k : Nat) (a0_0 : Int) (a0_1 : ByteArray) (a1_0 : Int) (a1_1 : ByteArray)  (W : Nat → Prop) (w : World) (hW : ∀ k, W k → k < w.heap.size) (r : Bool) (hF : nibble_Less k a0_0 a0_1 a1_0 a1_1 = some r) :
    Calls Try.prog 23 [.agg #[.int .i64 a0_0, .string a0_1], .agg #[.int .i64 a1_0, .string a1_1]].toArray w (Ret fun v w' => v = .bool r ∧ Ex w (Av [] No) [] w') := by
  unfold nibble_Less at hF
  refine enter [(0, .agg #[.int .i64 a0_0, .string a0_1]), (1, .agg #[.int .i64 a1_0, .string a1_1])] Try.func23 rfl Try.ntmps23 rfl rfl fun a ha => ?_
  have hE : Ex w (Av [] No) [] w := Ex.refl w _
  have hW0 : ∀ p, some p ∈ ([] : List (Option Addr)) → ¬ W p.block := fun _ h => by cases h
  refine wp_seq_k (fun K1 hK1 => ?_)
  refine wreg ?_
  refine goR ha rfl (d_box (cs := [.int .i64 a0_0, .string a0_1]) ha rfl rfl) fun v w1 a h ha => ?_
  obtain ⟨b1, rfl, hb, hl, x1, hf⟩ := h
  have hs := Step.addB [] hf hb
  have hE := hE.addB hf hb hl
  refine goR ha rfl (d_box (cs := [.int .i64 a1_0, .string a1_1]) ha rfl rfl) fun v w2 a h ha => ?_
  obtain ⟨b2, rfl, hb, hl, x2, hf⟩ := h
  have hs := Step.addB [some ⟨b1, 0, none⟩] hf hb
  have x1 := x1.stay hf
  have hE := hE.addB hf hb hl
  refine go1 ha rfl (d_assign ha rfl) fun a ha => ?_
  refine nil_ ?_
  refine hK1 _ _ ?_
  have ha := ha.to (l' := [(2, _), (3, _)]) rfl
  refine wp_seq_k (fun K2 hK2 => ?_)
  obtain ⟨t1, ht1, hF⟩ := bind_elim hF
  refine drawnC 1 (by kernel_rfl) 3 (by decide) rfl (fun b a wI => HasB 11 [(2, .pointer (some ⟨b1, 0, none⟩)), (3, .pointer (some ⟨b2, 0, none⟩))] [(0, 5, .agg #[.int .i64 a0_0, .string a0_1]), (2, 7, .agg #[.int .i64 a1_0, .string a1_1])] b a ∧ Ex w (Av [] No) [some ⟨b2, 0, none⟩, some ⟨b1, 0, none⟩] wI ∧ Fr w2 wI No ∧ Bx wI b1 29 [.int .i64 a0_0, .string a0_1] ∧ Bx wI b2 29 [.int .i64 a1_0, .string a1_1] ∧ Sl b a 1 6 (fun v => ∃ (p1 : Option Addr) (c1 : Nat), v = .slice p1 t1.length c1 ∧ Raw (Av [some ⟨b2, 0, none⟩, some ⟨b1, 0, none⟩] (Old w)) (Kd.int .u8) wI.heap p1 c1 t1)) ?_ (EachAt.all0 ?_) ?_
  · exact ⟨HasB.start (ha.to rfl) rfl, hE.drew, (Fr.refl _ No).drew, x1, x2, Sl.start rfl⟩
  · refine (EachAt.cons ?_ (EachAt.cons ?_ (EachAt.cons ?_ EachAt.nil)))
    · intro b a wI hI hb hn hc
      obtain ⟨hB, hE, hr, x1, x2, hp1⟩ := hI
      have ha : Has 11 [(2, .pointer (some ⟨b1, 0, none⟩))] a := hB.get [] (fun _ h => by cases h) _ rfl
      refine DoesG.plain rfl (Does.mono (d_loadAgg (cs := [.int .i64 a0_0, .string a0_1]) ha rfl (x1.at_.sub' 0 2 rfl) Try.isAgg29 Try.sizeOf29 rfl) ?_)
      rintro v wJ ⟨rfl, rfl⟩
      exact ⟨HasB.put hB 0 rfl rfl rfl rfl, hE, hr, x1, x2, hp1.keep rfl rfl (fun _ h => h)⟩
    · intro b a wI hI hb hn hc
      obtain ⟨hB, hE, hr, x1, x2, hp1⟩ := hI
      have ha : Has 11 [(5, .agg #[.int .i64 a0_0, .string a0_1])] a := hB.get [0] (List.forall_mem_cons.2 ⟨(hn 0 (mem_needs rfl)), (fun _ h => by cases h)⟩) _ rfl
      refine DoesG.plain rfl (Does.mono (d_call Try.call15 ha (vs := [.agg #[.int .i64 a0_0, .string a0_1]]) rfl (nibble_Of_c k a0_0 a0_1  (Av [some ⟨b2, 0, none⟩, some ⟨b1, 0, none⟩] W) _ (Ex.wlt (as0 := []) (rr := []) (ro := [some ⟨b2, 0, none⟩, some ⟨b1, 0, none⟩]) hE hW)  _ ht1)) ?_)
      intro v w3 h
      obtain ⟨p1, c1, rfl, hC, o1⟩ := h
      have hfr : Fr wI w3 No := hC.fr.mono (fun _ _ h => by rcases h with h | ⟨_, h, _⟩; exact h; cases h)
      have hs : Step [some ⟨b2, 0, none⟩, some ⟨b1, 0, none⟩] [p1, some ⟨b2, 0, none⟩, some ⟨b1, 0, none⟩] wI w3 := hC.callStep [some ⟨b2, 0, none⟩, some ⟨b1, 0, none⟩]
      have x2 := x2.keep hC.fr ((Ex.callOff (as0 := []) (rt := [some ⟨b2, 0, none⟩, some ⟨b1, 0, none⟩]) hE (u := some ⟨b2, 0, none⟩) (by simp)) _ rfl)
      have x1 := x1.keep hC.fr ((Ex.callOff (as0 := []) (rt := [some ⟨b2, 0, none⟩, some ⟨b1, 0, none⟩]) hE (u := some ⟨b1, 0, none⟩) (by simp)) _ rfl)
      have o1 : Ow (Av [p1, some ⟨b2, 0, none⟩, some ⟨b1, 0, none⟩] W) w3 5 (Kd.int .u8) p1 c1 t1 := o1.alone (Kd.Flat.int _)
      have hE : Ex w (Av [] No) [p1, some ⟨b2, 0, none⟩, some ⟨b1, 0, none⟩] w3 := Ex.call (as0 := []) (rt := [some ⟨b2, 0, none⟩, some ⟨b1, 0, none⟩]) hE hC
      have r1 : Raw (Av [some ⟨b2, 0, none⟩, some ⟨b1, 0, none⟩] (Old w)) (Kd.int .u8) w3.heap p1 c1 t1 := o1.freeF (Kd.Flat.int _) hE 0 rfl
      have hs : Step [p1, some ⟨b2, 0, none⟩, some ⟨b1, 0, none⟩] [some ⟨b2, 0, none⟩, some ⟨b1, 0, none⟩] w3 w3 := Step.pick _ _ [1, 2]
      have hE : Ex w (Av [] No) [some ⟨b2, 0, none⟩, some ⟨b1, 0, none⟩] w3 := hE.pick [1, 2] (by decide)
      exact ⟨HasB.putR hB 1 rfl rfl rfl, hE, hr.step hfr (fun _ _ h => h), x1, x2, Sl.new hB.has rfl ⟨_, _, rfl, r1⟩⟩
    · intro b a wI hI hb hn hc
      obtain ⟨hB, hE, hr, x1, x2, hp1⟩ := hI
      have ha : Has 11 [(3, .pointer (some ⟨b2, 0, none⟩))] a := hB.get [] (fun _ h => by cases h) _ rfl
      refine DoesG.plain rfl (Does.mono (d_loadAgg (cs := [.int .i64 a1_0, .string a1_1]) ha rfl (x2.at_.sub' 0 2 rfl) Try.isAgg29 Try.sizeOf29 rfl) ?_)
      rintro v wJ ⟨rfl, rfl⟩
      exact ⟨HasB.put hB 2 rfl rfl rfl rfl, hE, hr, x1, x2, hp1.keep rfl rfl (fun _ h => h)⟩
  · intro b a w4 hb hI
    obtain ⟨hB, hE, hr, x1, x2, hp1⟩ := hI
    have ha : Has 11 [(5, .agg #[.int .i64 a0_0, .string a0_1]), (7, .agg #[.int .i64 a1_0, .string a1_1]), (2, .pointer (some ⟨b1, 0, none⟩)), (3, .pointer (some ⟨b2, 0, none⟩))] a := hB.get [0, 2] (List.forall_mem_cons.2 ⟨(hb 0 (by decide) (by decide)), (List.forall_mem_cons.2 ⟨(hb 2 (by decide) (by decide)), (fun _ h => by cases h)⟩)⟩) _ rfl
    obtain ⟨p1, c1, hs, r1⟩ := hp1 (hb 1 (by decide) (by decide))
    have ha := ha.know hs
    obtain ⟨t2, ht2, hF⟩ := bind_elim hF
    refine goR ha rfl (d_call Try.call15 ha (vs := [.agg #[.int .i64 a1_0, .string a1_1]]) rfl (nibble_Of_c k a1_0 a1_1  (Av [some ⟨b2, 0, none⟩, some ⟨b1, 0, none⟩] W) _ (Ex.wlt (as0 := []) (rr := []) (ro := [some ⟨b2, 0, none⟩, some ⟨b1, 0, none⟩]) hE hW)  _ ht2)) fun v w5 a h ha => ?_
    obtain ⟨p2, c2, rfl, hC, o2⟩ := h
    have hs : Step [some ⟨b2, 0, none⟩, some ⟨b1, 0, none⟩] [p2, some ⟨b2, 0, none⟩, some ⟨b1, 0, none⟩] w4 w5 := hC.callStep [some ⟨b2, 0, none⟩, some ⟨b1, 0, none⟩]
    have r1 := hs.tr r1
    have x2 := x2.keep hC.fr ((Ex.callOff (as0 := []) (rt := [some ⟨b2, 0, none⟩, some ⟨b1, 0, none⟩]) hE (u := some ⟨b2, 0, none⟩) (by simp)) _ rfl)
    have x1 := x1.keep hC.fr ((Ex.callOff (as0 := []) (rt := [some ⟨b2, 0, none⟩, some ⟨b1, 0, none⟩]) hE (u := some ⟨b1, 0, none⟩) (by simp)) _ rfl)
    have o2 : Ow (Av [p2, some ⟨b2, 0, none⟩, some ⟨b1, 0, none⟩] W) w5 5 (Kd.int .u8) p2 c2 t2 := o2.alone (Kd.Flat.int _)
    have hE : Ex w (Av [] No) [p2, some ⟨b2, 0, none⟩, some ⟨b1, 0, none⟩] w5 := Ex.call (as0 := []) (rt := [some ⟨b2, 0, none⟩, some ⟨b1, 0, none⟩]) hE hC
    obtain ⟨t3, ht3, hF⟩ := bind_elim hF
    refine goR ha rfl (d_call Try.call37 ha (vs := [.slice p1 t1.length c1, .slice p2 t2.length c2]) rfl (slices_Compare_byte_byte_c k t1 t2 _ _ _ _ (Av [some ⟨b2, 0, none⟩, some ⟨b1, 0, none⟩] W) _ (Ex.wlt (as0 := []) (rr := [p2]) (ro := [some ⟨b2, 0, none⟩, some ⟨b1, 0, none⟩]) hE hW) (Raw.arg (as0 := []) (rr := [p2]) (ro := [some ⟨b2, 0, none⟩, some ⟨b1, 0, none⟩]) r1 hW) (Ow.argR (as0 := []) (rr := [p2]) (ro := [some ⟨b2, 0, none⟩, some ⟨b1, 0, none⟩]) o2 hE hW hW0 (by simp)) _ ht3)) fun v w6 a h ha => ?_
    obtain ⟨rfl, hC⟩ := h
    have hs : Step [p2, some ⟨b2, 0, none⟩, some ⟨b1, 0, none⟩] [p2, some ⟨b2, 0, none⟩, some ⟨b1, 0, none⟩] w5 w6 := hC.callStep [p2, some ⟨b2, 0, none⟩, some ⟨b1, 0, none⟩]
    have r1 := hs.tr r1
    have o2 := o2.keep hC.fr (Ex.callOff (as0 := []) (rt := [p2, some ⟨b2, 0, none⟩, some ⟨b1, 0, none⟩]) hE (u := p2) (by simp)) (fun _ _ h => hs.trK h)
    have x2 := x2.keep hC.fr ((Ex.callOff (as0 := []) (rt := [p2, some ⟨b2, 0, none⟩, some ⟨b1, 0, none⟩]) hE (u := some ⟨b2, 0, none⟩) (by simp)) _ rfl)
    have x1 := x1.keep hC.fr ((Ex.callOff (as0 := []) (rt := [p2, some ⟨b2, 0, none⟩, some ⟨b1, 0, none⟩]) hE (u := some ⟨b1, 0, none⟩) (by simp)) _ rfl)
    have hE : Ex w (Av [] No) [p2, some ⟨b2, 0, none⟩, some ⟨b1, 0, none⟩] w6 := Ex.call (as0 := []) (rt := [p2, some ⟨b2, 0, none⟩, some ⟨b1, 0, none⟩]) hE hC
    refine go1 ha rfl (d_lt ha rfl rfl) fun a ha => ?_
    refine go1 ha rfl (d_assign ha rfl) fun a ha => ?_
    refine nil_ ?_
    refine hK2 _ _ ?_
    have ha := ha.to (l' := [(4, _)]) rfl
    refine wp_ret ?_
    have hs : Step [p2, some ⟨b2, 0, none⟩, some ⟨b1, 0, none⟩] [] w6 w6 := Step.pick _ _ []
    have r1 := hs.tr r1
    have hE : Ex w (Av [] No) [] w6 := hE.pick [] (by decide)
    injection hF with hF
    subst hF
    refine fin1 ha Try.results23 rfl ?_
    exact ⟨rfl, hE⟩

def warderref02_Less_j0 (t1 : (List Int)) (t3 : Int) (x3 : List Int) : Option (Bool) :=
  (if (t1.length : Int) ≤ t3 then (some true) else (ck (0 ≤ t3 ∧ t3 < (t1.length : Int)) (ck (0 ≤ t3 ∧ t3 < (x3.length : Int)) (some (decide ((t1.getD (t3).toNat (0 : Int)) < (x3.getD (t3).toNat (0 : Int))))))))

def warderref02_Less (k : Nat) (a0_0 : Int) (a0_1 : ByteArray) (a1_0 : Int) (a1_1 : ByteArray) : Option (Bool) :=
  ((warderref02_Of k a0_0 a0_1).bind fun t1 => ((warderref02_Of k a1_0 a1_1).bind fun t2 => ((warderref02_Diff k t1 t2).bind fun t3 => (if t3 < (0 : Int) then (some false) else (if (t2.length : Int) ≤ t3 then (some false) else (warderref02_Less_j0 t1 t3 t2))))))

set_option maxHeartbeats 4000000 in
set_option maxRecDepth 100000 in
theorem warderref02_Less_c (k : Nat) (a0_0 : Int) (a0_1 : ByteArray) (a1_0 : Int) (a1_1 : ByteArray)  (W : Nat → Prop) (w : World) (hW : ∀ k, W k → k < w.heap.size) (r : Bool) (hF : warderref02_Less k a0_0 a0_1 a1_0 a1_1 = some r) :
    Calls Try.prog 24 [.agg #[.int .i64 a0_0, .string a0_1], .agg #[.int .i64 a1_0, .string a1_1]].toArray w (Ret fun v w' => v = .bool r ∧ Ex w (Av [] No) [] w') := by
  unfold warderref02_Less at hF
  refine enter [(0, .agg #[.int .i64 a0_0, .string a0_1]), (1, .agg #[.int .i64 a1_0, .string a1_1])] Try.func24 rfl Try.ntmps24 rfl rfl fun a ha => ?_
  have hE : Ex w (Av [] No) [] w := Ex.refl w _
  have hW0 : ∀ p, some p ∈ ([] : List (Option Addr)) → ¬ W p.block := fun _ h => by cases h
  refine wp_seq_k (fun K1 hK1 => ?_)
  refine wreg ?_
  refine goR ha rfl (d_box (cs := [.int .i64 a0_0, .string a0_1]) ha rfl rfl) fun v w1 a h ha => ?_
  obtain ⟨b1, rfl, hb, hl, x1, hf⟩ := h
  have hs := Step.addB [] hf hb
  have hE := hE.addB hf hb hl
  refine goR ha rfl (d_box (cs := [.int .i64 a1_0, .string a1_1]) ha rfl rfl) fun v w2 a h ha => ?_
  obtain ⟨b2, rfl, hb, hl, x2, hf⟩ := h
  have hs := Step.addB [some ⟨b1, 0, none⟩] hf hb
  have x1 := x1.stay hf
  have hE := hE.addB hf hb hl
  refine go1 ha rfl (d_assign ha rfl) fun a ha => ?_
  refine nil_ ?_
  refine hK1 _ _ ?_
  have ha := ha.to (l' := [(2, _), (3, _)]) rfl
  refine wp_seq_k (fun K2 hK2 => ?_)
  obtain ⟨t1, ht1, hF⟩ := bind_elim hF
  refine drawnC 1 (by kernel_rfl) 3 (by decide) rfl (fun b a wI => HasB 38 [(2, .pointer (some ⟨b1, 0, none⟩)), (3, .pointer (some ⟨b2, 0, none⟩))] [(0, 8, .agg #[.int .i64 a0_0, .string a0_1]), (2, 10, .agg #[.int .i64 a1_0, .string a1_1])] b a ∧ Ex w (Av [] No) [some ⟨b2, 0, none⟩, some ⟨b1, 0, none⟩] wI ∧ Fr w2 wI No ∧ Bx wI b1 29 [.int .i64 a0_0, .string a0_1] ∧ Bx wI b2 29 [.int .i64 a1_0, .string a1_1] ∧ Sl b a 1 9 (fun v => ∃ (p1 : Option Addr) (c1 : Nat), v = .slice p1 t1.length c1 ∧ Raw (Av [some ⟨b2, 0, none⟩, some ⟨b1, 0, none⟩] (Old w)) (Kd.int .u8) wI.heap p1 c1 t1)) ?_ (EachAt.all0 ?_) ?_
  · exact ⟨HasB.start (ha.to rfl) rfl, hE.drew, (Fr.refl _ No).drew, x1, x2, Sl.start rfl⟩
  · refine (EachAt.cons ?_ (EachAt.cons ?_ (EachAt.cons ?_ EachAt.nil)))
    · intro b a wI hI hb hn hc
      obtain ⟨hB, hE, hr, x1, x2, hp1⟩ := hI
      have ha : Has 38 [(2, .pointer (some ⟨b1, 0, none⟩))] a := hB.get [] (fun _ h => by cases h) _ rfl
      refine DoesG.plain rfl (Does.mono (d_loadAgg (cs := [.int .i64 a0_0, .string a0_1]) ha rfl (x1.at_.sub' 0 2 rfl) Try.isAgg29 Try.sizeOf29 rfl) ?_)
      rintro v wJ ⟨rfl, rfl⟩
      exact ⟨HasB.put hB 0 rfl rfl rfl rfl, hE, hr, x1, x2, hp1.keep rfl rfl (fun _ h => h)⟩
    · intro b a wI hI hb hn hc
      obtain ⟨hB, hE, hr, x1, x2, hp1⟩ := hI
      have ha : Has 38 [(8, .agg #[.int .i64 a0_0, .string a0_1])] a := hB.get [0] (List.forall_mem_cons.2 ⟨(hn 0 (mem_needs rfl)), (fun _ h => by cases h)⟩) _ rfl
      refine DoesG.plain rfl (Does.mono (d_call Try.call20 ha (vs := [.agg #[.int .i64 a0_0, .string a0_1]]) rfl (warderref02_Of_c k a0_0 a0_1  (Av [some ⟨b2, 0, none⟩, some ⟨b1, 0, none⟩] W) _ (Ex.wlt (as0 := []) (rr := []) (ro := [some ⟨b2, 0, none⟩, some ⟨b1, 0, none⟩]) hE hW)  _ ht1)) ?_)
      intro v w3 h
      obtain ⟨p1, c1, rfl, hC, o1⟩ := h
      have hfr : Fr wI w3 No := hC.fr.mono (fun _ _ h => by rcases h with h | ⟨_, h, _⟩; exact h; cases h)
      have hs : Step [some ⟨b2, 0, none⟩, some ⟨b1, 0, none⟩] [p1, some ⟨b2, 0, none⟩, some ⟨b1, 0, none⟩] wI w3 := hC.callStep [some ⟨b2, 0, none⟩, some ⟨b1, 0, none⟩]
      have x2 := x2.keep hC.fr ((Ex.callOff (as0 := []) (rt := [some ⟨b2, 0, none⟩, some ⟨b1, 0, none⟩]) hE (u := some ⟨b2, 0, none⟩) (by simp)) _ rfl)
      have x1 := x1.keep hC.fr ((Ex.callOff (as0 := []) (rt := [some ⟨b2, 0, none⟩, some ⟨b1, 0, none⟩]) hE (u := some ⟨b1, 0, none⟩) (by simp)) _ rfl)
      have o1 : Ow (Av [p1, some ⟨b2, 0, none⟩, some ⟨b1, 0, none⟩] W) w3 5 (Kd.int .u8) p1 c1 t1 := o1.alone (Kd.Flat.int _)
      have hE : Ex w (Av [] No) [p1, some ⟨b2, 0, none⟩, some ⟨b1, 0, none⟩] w3 := Ex.call (as0 := []) (rt := [some ⟨b2, 0, none⟩, some ⟨b1, 0, none⟩]) hE hC
      have r1 : Raw (Av [some ⟨b2, 0, none⟩, some ⟨b1, 0, none⟩] (Old w)) (Kd.int .u8) w3.heap p1 c1 t1 := o1.freeF (Kd.Flat.int _) hE 0 rfl
      have hs : Step [p1, some ⟨b2, 0, none⟩, some ⟨b1, 0, none⟩] [some ⟨b2, 0, none⟩, some ⟨b1, 0, none⟩] w3 w3 := Step.pick _ _ [1, 2]
      have hE : Ex w (Av [] No) [some ⟨b2, 0, none⟩, some ⟨b1, 0, none⟩] w3 := hE.pick [1, 2] (by decide)
      exact ⟨HasB.putR hB 1 rfl rfl rfl, hE, hr.step hfr (fun _ _ h => h), x1, x2, Sl.new hB.has rfl ⟨_, _, rfl, r1⟩⟩
    · intro b a wI hI hb hn hc
      obtain ⟨hB, hE, hr, x1, x2, hp1⟩ := hI
      have ha : Has 38 [(3, .pointer (some ⟨b2, 0, none⟩))] a := hB.get [] (fun _ h => by cases h) _ rfl
      refine DoesG.plain rfl (Does.mono (d_loadAgg (cs := [.int .i64 a1_0, .string a1_1]) ha rfl (x2.at_.sub' 0 2 rfl) Try.isAgg29 Try.sizeOf29 rfl) ?_)
      rintro v wJ ⟨rfl, rfl⟩
      exact ⟨HasB.put hB 2 rfl rfl rfl rfl, hE, hr, x1, x2, hp1.keep rfl rfl (fun _ h => h)⟩
  · intro b a w4 hb hI
    obtain ⟨hB, hE, hr, x1, x2, hp1⟩ := hI
    have ha : Has 38 [(8, .agg #[.int .i64 a0_0, .string a0_1]), (10, .agg #[.int .i64 a1_0, .string a1_1]), (2, .pointer (some ⟨b1, 0, none⟩)), (3, .pointer (some ⟨b2, 0, none⟩))] a := hB.get [0, 2] (List.forall_mem_cons.2 ⟨(hb 0 (by decide) (by decide)), (List.forall_mem_cons.2 ⟨(hb 2 (by decide) (by decide)), (fun _ h => by cases h)⟩)⟩) _ rfl
    obtain ⟨p1, c1, hs, r1⟩ := hp1 (hb 1 (by decide) (by decide))
    have ha := ha.know hs
    obtain ⟨t2, ht2, hF⟩ := bind_elim hF
    refine goR ha rfl (d_call Try.call20 ha (vs := [.agg #[.int .i64 a1_0, .string a1_1]]) rfl (warderref02_Of_c k a1_0 a1_1  (Av [some ⟨b2, 0, none⟩, some ⟨b1, 0, none⟩] W) _ (Ex.wlt (as0 := []) (rr := []) (ro := [some ⟨b2, 0, none⟩, some ⟨b1, 0, none⟩]) hE hW)  _ ht2)) fun v w5 a h ha => ?_
    obtain ⟨p2, c2, rfl, hC, o2⟩ := h
    have hs : Step [some ⟨b2, 0, none⟩, some ⟨b1, 0, none⟩] [p2, some ⟨b2, 0, none⟩, some ⟨b1, 0, none⟩] w4 w5 := hC.callStep [some ⟨b2, 0, none⟩, some ⟨b1, 0, none⟩]
    have r1 := hs.tr r1
    have x2 := x2.keep hC.fr ((Ex.callOff (as0 := []) (rt := [some ⟨b2, 0, none⟩, some ⟨b1, 0, none⟩]) hE (u := some ⟨b2, 0, none⟩) (by simp)) _ rfl)
    have x1 := x1.keep hC.fr ((Ex.callOff (as0 := []) (rt := [some ⟨b2, 0, none⟩, some ⟨b1, 0, none⟩]) hE (u := some ⟨b1, 0, none⟩) (by simp)) _ rfl)
    have o2 : Ow (Av [p2, some ⟨b2, 0, none⟩, some ⟨b1, 0, none⟩] W) w5 5 (Kd.int .u8) p2 c2 t2 := o2.alone (Kd.Flat.int _)
    have hE : Ex w (Av [] No) [p2, some ⟨b2, 0, none⟩, some ⟨b1, 0, none⟩] w5 := Ex.call (as0 := []) (rt := [some ⟨b2, 0, none⟩, some ⟨b1, 0, none⟩]) hE hC
    refine go1 ha rfl (d_assign ha rfl) fun a ha => ?_
    refine go1 ha rfl (d_assign ha rfl) fun a ha => ?_
    refine nil_ ?_
    refine hK2 _ _ ?_
    have ha := ha.to (l' := [(5, _), (6, _)]) rfl
    refine wp_seq_k (fun K3 hK3 => ?_)
    refine wreg ?_
    refine go1 ha rfl (d_move ha rfl) fun a ha => ?_
    refine go1 ha rfl (d_move ha rfl) fun a ha => ?_
    obtain ⟨t3, ht3, hF⟩ := bind_elim hF
    refine goR ha rfl (d_call Try.call12 ha (vs := [.slice p1 t1.length c1, .slice p2 t2.length c2]) rfl (warderref02_Diff_c k t1 t2 _ _ _ _ (Av [some ⟨b2, 0, none⟩, some ⟨b1, 0, none⟩] W) _ (Ex.wlt (as0 := []) (rr := [p2]) (ro := [some ⟨b2, 0, none⟩, some ⟨b1, 0, none⟩]) hE hW) (Raw.arg (as0 := []) (rr := [p2]) (ro := [some ⟨b2, 0, none⟩, some ⟨b1, 0, none⟩]) r1 hW) (Ow.argR (as0 := []) (rr := [p2]) (ro := [some ⟨b2, 0, none⟩, some ⟨b1, 0, none⟩]) o2 hE hW hW0 (by simp)) _ ht3)) fun v w6 a h ha => ?_
    obtain ⟨rfl, hC⟩ := h
    have hs : Step [p2, some ⟨b2, 0, none⟩, some ⟨b1, 0, none⟩] [p2, some ⟨b2, 0, none⟩, some ⟨b1, 0, none⟩] w5 w6 := hC.callStep [p2, some ⟨b2, 0, none⟩, some ⟨b1, 0, none⟩]
    have r1 := hs.tr r1
    have o2 := o2.keep hC.fr (Ex.callOff (as0 := []) (rt := [p2, some ⟨b2, 0, none⟩, some ⟨b1, 0, none⟩]) hE (u := p2) (by simp)) (fun _ _ h => hs.trK h)
    have x2 := x2.keep hC.fr ((Ex.callOff (as0 := []) (rt := [p2, some ⟨b2, 0, none⟩, some ⟨b1, 0, none⟩]) hE (u := some ⟨b2, 0, none⟩) (by simp)) _ rfl)
    have x1 := x1.keep hC.fr ((Ex.callOff (as0 := []) (rt := [p2, some ⟨b2, 0, none⟩, some ⟨b1, 0, none⟩]) hE (u := some ⟨b1, 0, none⟩) (by simp)) _ rfl)
    have hE : Ex w (Av [] No) [p2, some ⟨b2, 0, none⟩, some ⟨b1, 0, none⟩] w6 := Ex.call (as0 := []) (rt := [p2, some ⟨b2, 0, none⟩, some ⟨b1, 0, none⟩]) hE hC
    refine go1 ha rfl (d_assign ha rfl) fun a ha => ?_
    refine nil_ ?_
    refine hK3 _ _ ?_
    have ha := ha.to (l' := [(5, _), (6, _), (7, _)]) rfl
    refine wseqJ (fun a w7 => ∃ (x3 : List Int) (p3 : Option Addr) (c3 : Nat), Has 38 [(5, .slice p1 t1.length c1), (6, .slice p3 x3.length c3), (7, .int .i64 t3)] a ∧ Ex w (Av [] No) [p3] w7 ∧ Raw (Av [p3] (Old w)) (Kd.int .u8) w7.heap p1 c1 t1 ∧ Ow (Av [p3] W) w7 5 (Kd.int .u8) p3 c3 x3 ∧ warderref02_Less_j0 t1 t3 x3 = some r) ?_ ?_
    · rintro a w7 ⟨x3, p3, c3, ha, hE, r1, o3, hF⟩
      unfold warderref02_Less_j0 at hF
      refine wp_seq_k (fun K9 hK9 => ?_)
      rcases ite_elim hF with ⟨hc3, hF⟩ | ⟨hc3, hF⟩
      · refine drawnC 5 (by kernel_rfl) 13 (by decide) rfl (fun b a wI => HasB 38 [(5, .slice p1 t1.length c1), (6, .slice p3 x3.length c3), (7, .int .i64 t3)] [(0, 23, .int .i64 t3), (1, 24, .slice p1 t1.length c1), (2, 25, .int .i64 (t1.length : Int)), (3, 26, .bool (decide ((t1.length : Int) ≤ t3))), (4, 27, .bool (decide ((t1.length : Int) ≤ t3))), (5, 28, undef), (6, 29, undef), (7, 30, undef), (8, 31, undef), (9, 32, undef), (10, 33, undef), (11, 34, undef), (12, 35, undef)] b a ∧ Ex w (Av [] No) [p3] wI ∧ Fr w7 wI No ∧ Raw (Av [p3] (Old w)) (Kd.int .u8) wI.heap p1 c1 t1 ∧ Ow (Av [p3] W) wI 5 (Kd.int .u8) p3 c3 x3) ?_ (EachAt.all0 ?_) ?_
        · exact ⟨HasB.start (ha.to rfl) rfl, hE.drew, (Fr.refl _ No).drew, r1, o3⟩
        · refine (EachAt.cons ?_ (EachAt.cons ?_ (EachAt.cons ?_ (EachAt.cons ?_ (EachAt.cons ?_ (EachAt.cons ?_ (EachAt.cons ?_ (EachAt.cons ?_ (EachAt.cons ?_ (EachAt.cons ?_ (EachAt.cons ?_ (EachAt.cons ?_ (EachAt.cons ?_ EachAt.nil)))))))))))))
          · intro b a wI hI hb hn hc
            obtain ⟨hB, hE, hr, r1, o3⟩ := hI
            have ha : Has 38 [(7, .int .i64 t3)] a := hB.get [] (fun _ h => by cases h) _ rfl
            refine DoesG.plain rfl (Does.mono (d_move ha rfl) ?_)
            rintro v wJ ⟨rfl, rfl⟩
            exact ⟨HasB.put hB 0 rfl rfl rfl rfl, hE, hr, r1, o3⟩
          · intro b a wI hI hb hn hc
            obtain ⟨hB, hE, hr, r1, o3⟩ := hI
            have ha : Has 38 [(5, .slice p1 t1.length c1)] a := hB.get [] (fun _ h => by cases h) _ rfl
            refine DoesG.plain rfl (Does.mono (d_move ha rfl) ?_)
            rintro v wJ ⟨rfl, rfl⟩
            exact ⟨HasB.put hB 1 rfl rfl rfl rfl, hE, hr, r1, o3⟩
          · intro b a wI hI hb hn hc
            obtain ⟨hB, hE, hr, r1, o3⟩ := hI
            have ha : Has 38 [(24, .slice p1 t1.length c1)] a := hB.get [1] (List.forall_mem_cons.2 ⟨(hn 1 (mem_needs rfl)), (fun _ h => by cases h)⟩) _ rfl
            refine DoesG.plain rfl (Does.mono (d_lenSlice ha Try.underlying22 rfl) ?_)
            rintro v wJ ⟨rfl, rfl⟩
            exact ⟨HasB.put hB 2 rfl rfl rfl rfl, hE, hr, r1, o3⟩
          · intro b a wI hI hb hn hc
            obtain ⟨hB, hE, hr, r1, o3⟩ := hI
            have ha : Has 38 [(23, .int .i64 t3), (25, .int .i64 (t1.length : Int))] a := hB.get [0, 2] (List.forall_mem_cons.2 ⟨(hn 0 (mem_needs rfl)), (List.forall_mem_cons.2 ⟨(hn 2 (mem_needs rfl)), (fun _ h => by cases h)⟩)⟩) _ rfl
            refine DoesG.plain rfl (Does.mono (d_ge ha rfl rfl) ?_)
            rintro v wJ ⟨rfl, rfl⟩
            exact ⟨HasB.put hB 3 rfl rfl rfl rfl, hE, hr, r1, o3⟩
          · intro b a wI hI hb hn hc
            obtain ⟨hB, hE, hr, r1, o3⟩ := hI
            have ha : Has 38 [(26, .bool (decide ((t1.length : Int) ≤ t3)))] a := hB.get [3] (List.forall_mem_cons.2 ⟨(hn 3 (mem_needs rfl)), (fun _ h => by cases h)⟩) _ rfl
            refine DoesG.plain rfl (Does.mono (d_move ha rfl) ?_)
            rintro v wJ ⟨rfl, rfl⟩
            exact ⟨HasB.put hB 4 rfl rfl rfl rfl, hE, hr, r1, o3⟩
          · intro b a wI hI hb hn hc
            obtain ⟨hB, hE, hr, r1, o3⟩ := hI
            have ha : Has 38 [(5, .slice p1 t1.length c1), (27, .bool (decide ((t1.length : Int) ≤ t3)))] a := hB.get [4] (List.forall_mem_cons.2 ⟨(hn 4 (mem_needs rfl)), (fun _ h => by cases h)⟩) _ rfl
            refine DoesG.off rfl ha rfl rfl rfl (decide_eq_true hc3) ?_
            exact ⟨HasB.put hB 5 rfl rfl rfl rfl, hE, hr, r1, o3⟩
          · intro b a wI hI hb hn hc
            obtain ⟨hB, hE, hr, r1, o3⟩ := hI
            have ha : Has 38 [(7, .int .i64 t3), (27, .bool (decide ((t1.length : Int) ≤ t3)))] a := hB.get [4] (List.forall_mem_cons.2 ⟨(hn 4 (mem_needs rfl)), (fun _ h => by cases h)⟩) _ rfl
            refine DoesG.off rfl ha rfl rfl rfl (decide_eq_true hc3) ?_
            exact ⟨HasB.put hB 6 rfl rfl rfl rfl, hE, hr, r1, o3⟩
          · intro b a wI hI hb hn hc
            obtain ⟨hB, hE, hr, r1, o3⟩ := hI
            have ha : Has 38 [(27, .bool (decide ((t1.length : Int) ≤ t3))), (28, undef), (29, undef)] a := hB.get [4, 5, 6] (List.forall_mem_cons.2 ⟨(hn 4 (mem_needs rfl)), (List.forall_mem_cons.2 ⟨(hn 5 (mem_needs rfl)), (List.forall_mem_cons.2 ⟨(hn 6 (mem_needs rfl)), (fun _ h => by cases h)⟩)⟩)⟩) _ rfl
            refine DoesG.off rfl ha rfl rfl rfl (decide_eq_true hc3) ?_
            exact ⟨HasB.put hB 7 rfl rfl rfl rfl, hE, hr, r1, o3⟩
          · intro b a wI hI hb hn hc
            obtain ⟨hB, hE, hr, r1, o3⟩ := hI
            have ha : Has 38 [(27, .bool (decide ((t1.length : Int) ≤ t3))), (30, undef)] a := hB.get [4, 7] (List.forall_mem_cons.2 ⟨(hn 4 (mem_needs rfl)), (List.forall_mem_cons.2 ⟨(hn 7 (mem_needs rfl)), (fun _ h => by cases h)⟩)⟩) _ rfl
            refine DoesG.off rfl ha rfl rfl rfl (decide_eq_true hc3) ?_
            exact ⟨HasB.put hB 8 rfl rfl rfl rfl, hE, hr, r1, o3⟩
          · intro b a wI hI hb hn hc
            obtain ⟨hB, hE, hr, r1, o3⟩ := hI
            have ha : Has 38 [(6, .slice p3 x3.length c3), (27, .bool (decide ((t1.length : Int) ≤ t3)))] a := hB.get [4] (List.forall_mem_cons.2 ⟨(hn 4 (mem_needs rfl)), (fun _ h => by cases h)⟩) _ rfl
            refine DoesG.off rfl ha rfl rfl rfl (decide_eq_true hc3) ?_
            exact ⟨HasB.put hB 9 rfl rfl rfl rfl, hE, hr, r1, o3⟩
          · intro b a wI hI hb hn hc
            obtain ⟨hB, hE, hr, r1, o3⟩ := hI
            have ha : Has 38 [(7, .int .i64 t3), (27, .bool (decide ((t1.length : Int) ≤ t3)))] a := hB.get [4] (List.forall_mem_cons.2 ⟨(hn 4 (mem_needs rfl)), (fun _ h => by cases h)⟩) _ rfl
            refine DoesG.off rfl ha rfl rfl rfl (decide_eq_true hc3) ?_
            exact ⟨HasB.put hB 10 rfl rfl rfl rfl, hE, hr, r1, o3⟩
          · intro b a wI hI hb hn hc
            obtain ⟨hB, hE, hr, r1, o3⟩ := hI
            have ha : Has 38 [(27, .bool (decide ((t1.length : Int) ≤ t3))), (32, undef), (33, undef)] a := hB.get [4, 9, 10] (List.forall_mem_cons.2 ⟨(hn 4 (mem_needs rfl)), (List.forall_mem_cons.2 ⟨(hn 9 (mem_needs rfl)), (List.forall_mem_cons.2 ⟨(hn 10 (mem_needs rfl)), (fun _ h => by cases h)⟩)⟩)⟩) _ rfl
            refine DoesG.off rfl ha rfl rfl rfl (decide_eq_true hc3) ?_
            exact ⟨HasB.put hB 11 rfl rfl rfl rfl, hE, hr, r1, o3⟩
          · intro b a wI hI hb hn hc
            obtain ⟨hB, hE, hr, r1, o3⟩ := hI
            have ha : Has 38 [(27, .bool (decide ((t1.length : Int) ≤ t3))), (34, undef)] a := hB.get [4, 11] (List.forall_mem_cons.2 ⟨(hn 4 (mem_needs rfl)), (List.forall_mem_cons.2 ⟨(hn 11 (mem_needs rfl)), (fun _ h => by cases h)⟩)⟩) _ rfl
            refine DoesG.off rfl ha rfl rfl rfl (decide_eq_true hc3) ?_
            exact ⟨HasB.put hB 12 rfl rfl rfl rfl, hE, hr, r1, o3⟩
        · intro b a w8 hb hI
          obtain ⟨hB, hE, hr, r1, o3⟩ := hI
          have ha : Has 38 [(23, .int .i64 t3), (24, .slice p1 t1.length c1), (25, .int .i64 (t1.length : Int)), (26, .bool (decide ((t1.length : Int) ≤ t3))), (27, .bool (decide ((t1.length : Int) ≤ t3))), (28, undef), (29, undef), (30, undef), (31, undef), (32, undef), (33, undef), (34, undef), (35, undef), (5, .slice p1 t1.length c1), (6, .slice p3 x3.length c3), (7, .int .i64 t3)] a := hB.get [0, 1, 2, 3, 4, 5, 6, 7, 8, 9, 10, 11, 12] (List.forall_mem_cons.2 ⟨(hb 0 (by decide) (by decide)), (List.forall_mem_cons.2 ⟨(hb 1 (by decide) (by decide)), (List.forall_mem_cons.2 ⟨(hb 2 (by decide) (by decide)), (List.forall_mem_cons.2 ⟨(hb 3 (by decide) (by decide)), (List.forall_mem_cons.2 ⟨(hb 4 (by decide) (by decide)), (List.forall_mem_cons.2 ⟨(hb 5 (by decide) (by decide)), (List.forall_mem_cons.2 ⟨(hb 6 (by decide) (by decide)), (List.forall_mem_cons.2 ⟨(hb 7 (by decide) (by decide)), (List.forall_mem_cons.2 ⟨(hb 8 (by decide) (by decide)), (List.forall_mem_cons.2 ⟨(hb 9 (by decide) (by decide)), (List.forall_mem_cons.2 ⟨(hb 10 (by decide) (by decide)), (List.forall_mem_cons.2 ⟨(hb 11 (by decide) (by decide)), (List.forall_mem_cons.2 ⟨(hb 12 (by decide) (by decide)), (fun _ h => by cases h)⟩)⟩)⟩)⟩)⟩)⟩)⟩)⟩)⟩)⟩)⟩)⟩)⟩) _ rfl
          refine goOff ha rfl rfl rfl rfl (decide_eq_true hc3) fun a ha => ?_
          refine go1 ha rfl (d_pick ha rfl (decide_eq_true hc3) rfl) fun a ha => ?_
          refine go1 ha rfl (d_assign ha rfl) fun a ha => ?_
          refine nil_ ?_
          refine hK9 _ _ ?_
          have ha := ha.to (l' := [(4, _)]) rfl
          refine wp_ret ?_
          have hs : Step [p3] [] w8 w8 := Step.pick _ _ []
          have r1 := hs.tr r1
          have hE : Ex w (Av [] No) [] w8 := hE.pick [] (by decide)
          injection hF with hF
          subst hF
          refine fin1 ha Try.results24 rfl ?_
          exact ⟨rfl, hE⟩
      · obtain ⟨hc4, hF⟩ := ck_elim hF
        obtain ⟨hc5, hF⟩ := ck_elim hF
        refine drawnC 5 (by kernel_rfl) 13 (by decide) rfl (fun b a wI => HasB 38 [(5, .slice p1 t1.length c1), (6, .slice p3 x3.length c3), (7, .int .i64 t3)] [(0, 23, .int .i64 t3), (1, 24, .slice p1 t1.length c1), (2, 25, .int .i64 (t1.length : Int)), (3, 26, .bool (decide ((t1.length : Int) ≤ t3))), (4, 27, .bool (decide ((t1.length : Int) ≤ t3))), (5, 28, .slice p1 t1.length c1), (6, 29, .int .i64 t3), (8, 31, .int .u8 (t1.getD (t3).toNat (0 : Int))), (9, 32, .slice p3 x3.length c3), (10, 33, .int .i64 t3), (12, 35, .int .u8 (x3.getD (t3).toNat (0 : Int)))] b a ∧ Ex w (Av [] No) [p3] wI ∧ Fr w7 wI No ∧ Raw (Av [p3] (Old w)) (Kd.int .u8) wI.heap p1 c1 t1 ∧ Ow (Av [p3] W) wI 5 (Kd.int .u8) p3 c3 x3 ∧ Sl b a 7 30 (fun v => ∃ (b3 : Nat) (q1 : Nat) (cs1 : List Value), v = .pointer (some ⟨b3, q1, none⟩) ∧ (Kd.int .u8).K (Av [p3] (Old w)) wI.heap (t1.getD (t3).toNat (0 : Int)) cs1 ∧ At wI b3 q1 cs1) ∧ Sl b a 11 34 (fun v => ∃ (b4 : Nat) (q2 : Nat) (cs2 : List Value), v = .pointer (some ⟨b4, q2, none⟩) ∧ (Kd.int .u8).K (Av [p3] W) wI.heap (x3.getD (t3).toNat (0 : Int)) cs2 ∧ At wI b4 q2 cs2)) ?_ (EachAt.all0 ?_) ?_
        · exact ⟨HasB.start (ha.to rfl) rfl, hE.drew, (Fr.refl _ No).drew, r1, o3, Sl.start rfl, Sl.start rfl⟩
        · refine (EachAt.cons ?_ (EachAt.cons ?_ (EachAt.cons ?_ (EachAt.cons ?_ (EachAt.cons ?_ (EachAt.cons ?_ (EachAt.cons ?_ (EachAt.cons ?_ (EachAt.cons ?_ (EachAt.cons ?_ (EachAt.cons ?_ (EachAt.cons ?_ (EachAt.cons ?_ EachAt.nil)))))))))))))
          · intro b a wI hI hb hn hc
            obtain ⟨hB, hE, hr, r1, o3, hp7, hp11⟩ := hI
            have ha : Has 38 [(7, .int .i64 t3)] a := hB.get [] (fun _ h => by cases h) _ rfl
            refine DoesG.plain rfl (Does.mono (d_move ha rfl) ?_)
            rintro v wJ ⟨rfl, rfl⟩
            exact ⟨HasB.put hB 0 rfl rfl rfl rfl, hE, hr, r1, o3, hp7.keep rfl rfl (fun _ h => h), hp11.keep rfl rfl (fun _ h => h)⟩
          · intro b a wI hI hb hn hc
            obtain ⟨hB, hE, hr, r1, o3, hp7, hp11⟩ := hI
            have ha : Has 38 [(5, .slice p1 t1.length c1)] a := hB.get [] (fun _ h => by cases h) _ rfl
            refine DoesG.plain rfl (Does.mono (d_move ha rfl) ?_)
            rintro v wJ ⟨rfl, rfl⟩
            exact ⟨HasB.put hB 1 rfl rfl rfl rfl, hE, hr, r1, o3, hp7.keep rfl rfl (fun _ h => h), hp11.keep rfl rfl (fun _ h => h)⟩
          · intro b a wI hI hb hn hc
            obtain ⟨hB, hE, hr, r1, o3, hp7, hp11⟩ := hI
            have ha : Has 38 [(24, .slice p1 t1.length c1)] a := hB.get [1] (List.forall_mem_cons.2 ⟨(hn 1 (mem_needs rfl)), (fun _ h => by cases h)⟩) _ rfl
            refine DoesG.plain rfl (Does.mono (d_lenSlice ha Try.underlying22 rfl) ?_)
            rintro v wJ ⟨rfl, rfl⟩
            exact ⟨HasB.put hB 2 rfl rfl rfl rfl, hE, hr, r1, o3, hp7.keep rfl rfl (fun _ h => h), hp11.keep rfl rfl (fun _ h => h)⟩
          · intro b a wI hI hb hn hc
            obtain ⟨hB, hE, hr, r1, o3, hp7, hp11⟩ := hI
            have ha : Has 38 [(23, .int .i64 t3), (25, .int .i64 (t1.length : Int))] a := hB.get [0, 2] (List.forall_mem_cons.2 ⟨(hn 0 (mem_needs rfl)), (List.forall_mem_cons.2 ⟨(hn 2 (mem_needs rfl)), (fun _ h => by cases h)⟩)⟩) _ rfl
            refine DoesG.plain rfl (Does.mono (d_ge ha rfl rfl) ?_)
            rintro v wJ ⟨rfl, rfl⟩
            exact ⟨HasB.put hB 3 rfl rfl rfl rfl, hE, hr, r1, o3, hp7.keep rfl rfl (fun _ h => h), hp11.keep rfl rfl (fun _ h => h)⟩
          · intro b a wI hI hb hn hc
            obtain ⟨hB, hE, hr, r1, o3, hp7, hp11⟩ := hI
            have ha : Has 38 [(26, .bool (decide ((t1.length : Int) ≤ t3)))] a := hB.get [3] (List.forall_mem_cons.2 ⟨(hn 3 (mem_needs rfl)), (fun _ h => by cases h)⟩) _ rfl
            refine DoesG.plain rfl (Does.mono (d_move ha rfl) ?_)
            rintro v wJ ⟨rfl, rfl⟩
            exact ⟨HasB.put hB 4 rfl rfl rfl rfl, hE, hr, r1, o3, hp7.keep rfl rfl (fun _ h => h), hp11.keep rfl rfl (fun _ h => h)⟩
          · intro b a wI hI hb hn hc
            obtain ⟨hB, hE, hr, r1, o3, hp7, hp11⟩ := hI
            have ha : Has 38 [(5, .slice p1 t1.length c1), (27, .bool (decide ((t1.length : Int) ≤ t3)))] a := hB.get [4] (List.forall_mem_cons.2 ⟨(hn 4 (mem_needs rfl)), (fun _ h => by cases h)⟩) _ rfl
            refine DoesG.on rfl ha rfl rfl rfl (decide_eq_false hc3) (Does.mono (d_move ha rfl) ?_)
            rintro v wJ ⟨rfl, rfl⟩
            exact ⟨HasB.put hB 5 rfl rfl rfl rfl, hE, hr, r1, o3, hp7.keep rfl rfl (fun _ h => h), hp11.keep rfl rfl (fun _ h => h)⟩
          · intro b a wI hI hb hn hc
            obtain ⟨hB, hE, hr, r1, o3, hp7, hp11⟩ := hI
            have ha : Has 38 [(7, .int .i64 t3), (27, .bool (decide ((t1.length : Int) ≤ t3)))] a := hB.get [4] (List.forall_mem_cons.2 ⟨(hn 4 (mem_needs rfl)), (fun _ h => by cases h)⟩) _ rfl
            refine DoesG.on rfl ha rfl rfl rfl (decide_eq_false hc3) (Does.mono (d_move ha rfl) ?_)
            rintro v wJ ⟨rfl, rfl⟩
            exact ⟨HasB.put hB 6 rfl rfl rfl rfl, hE, hr, r1, o3, hp7.keep rfl rfl (fun _ h => h), hp11.keep rfl rfl (fun _ h => h)⟩
          · intro b a wI hI hb hn hc
            obtain ⟨hB, hE, hr, r1, o3, hp7, hp11⟩ := hI
            have ha : Has 38 [(27, .bool (decide ((t1.length : Int) ≤ t3))), (28, .slice p1 t1.length c1), (29, .int .i64 t3)] a := hB.get [4, 5, 6] (List.forall_mem_cons.2 ⟨(hn 4 (mem_needs rfl)), (List.forall_mem_cons.2 ⟨(hn 5 (mem_needs rfl)), (List.forall_mem_cons.2 ⟨(hn 6 (mem_needs rfl)), (fun _ h => by cases h)⟩)⟩)⟩) _ rfl
            refine DoesG.on rfl ha rfl rfl rfl (decide_eq_false hc3) (Does.mono (d_index (kd := (Kd.int .u8)) ha rfl rfl Try.underlying22 Try.sizeOf5 r1 hc4 (0 : Int)) ?_)
            rintro v wJ ⟨rfl, h⟩
            obtain ⟨b3, q1, cs1, rfl, _, hk1, at1⟩ := h
            exact ⟨HasB.putR hB 7 rfl rfl rfl, hE, hr, r1, o3, Sl.new hB.has rfl ⟨_, _, _, rfl, hk1, at1⟩, hp11.keep rfl rfl (fun _ h => h)⟩
          · intro b a wI hI hb hn hc
            obtain ⟨hB, hE, hr, r1, o3, hp7, hp11⟩ := hI
            have ha : Has 38 [(27, .bool (decide ((t1.length : Int) ≤ t3)))] a := hB.get [4] (List.forall_mem_cons.2 ⟨(hn 4 (mem_needs rfl)), (fun _ h => by cases h)⟩) _ rfl
            obtain ⟨b3, q1, cs1, hs7, hk1, at1⟩ := hp7 (hn 7 (mem_needs rfl))
            have ha := ha.know hs7
            obtain rfl := hk1
            refine DoesG.on rfl ha rfl rfl rfl (decide_eq_false hc3) (Does.mono (d_load ha rfl (at1.cell 0 rfl) Try.isAgg5) ?_)
            rintro v wJ ⟨rfl, rfl⟩
            exact ⟨HasB.put hB 8 rfl rfl rfl rfl, hE, hr, r1, o3, hp7.keep rfl rfl (fun _ h => h), hp11.keep rfl rfl (fun _ h => h)⟩
          · intro b a wI hI hb hn hc
            obtain ⟨hB, hE, hr, r1, o3, hp7, hp11⟩ := hI
            have ha : Has 38 [(6, .slice p3 x3.length c3), (27, .bool (decide ((t1.length : Int) ≤ t3)))] a := hB.get [4] (List.forall_mem_cons.2 ⟨(hn 4 (mem_needs rfl)), (fun _ h => by cases h)⟩) _ rfl
            refine DoesG.on rfl ha rfl rfl rfl (decide_eq_false hc3) (Does.mono (d_move ha rfl) ?_)
            rintro v wJ ⟨rfl, rfl⟩
            exact ⟨HasB.put hB 9 rfl rfl rfl rfl, hE, hr, r1, o3, hp7.keep rfl rfl (fun _ h => h), hp11.keep rfl rfl (fun _ h => h)⟩
          · intro b a wI hI hb hn hc
            obtain ⟨hB, hE, hr, r1, o3, hp7, hp11⟩ := hI
            have ha : Has 38 [(7, .int .i64 t3), (27, .bool (decide ((t1.length : Int) ≤ t3)))] a := hB.get [4] (List.forall_mem_cons.2 ⟨(hn 4 (mem_needs rfl)), (fun _ h => by cases h)⟩) _ rfl
            refine DoesG.on rfl ha rfl rfl rfl (decide_eq_false hc3) (Does.mono (d_move ha rfl) ?_)
            rintro v wJ ⟨rfl, rfl⟩
            exact ⟨HasB.put hB 10 rfl rfl rfl rfl, hE, hr, r1, o3, hp7.keep rfl rfl (fun _ h => h), hp11.keep rfl rfl (fun _ h => h)⟩
          · intro b a wI hI hb hn hc
            obtain ⟨hB, hE, hr, r1, o3, hp7, hp11⟩ := hI
            have ha : Has 38 [(27, .bool (decide ((t1.length : Int) ≤ t3))), (32, .slice p3 x3.length c3), (33, .int .i64 t3)] a := hB.get [4, 9, 10] (List.forall_mem_cons.2 ⟨(hn 4 (mem_needs rfl)), (List.forall_mem_cons.2 ⟨(hn 9 (mem_needs rfl)), (List.forall_mem_cons.2 ⟨(hn 10 (mem_needs rfl)), (fun _ h => by cases h)⟩)⟩)⟩) _ rfl
            refine DoesG.on rfl ha rfl rfl rfl (decide_eq_false hc3) (Does.mono (d_indexOwR (kd := (Kd.int .u8)) ha rfl rfl Try.underlying22 Try.sizeOf5 o3 hc5 (0 : Int)) ?_)
            rintro v wJ ⟨rfl, h⟩
            obtain ⟨b4, q2, cs2, rfl, hk2, at2⟩ := h
            exact ⟨HasB.putR hB 11 rfl rfl rfl, hE, hr, r1, o3, hp7.keep rfl rfl (fun _ h => h), Sl.new hB.has rfl ⟨_, _, _, rfl, hk2, at2⟩⟩
          · intro b a wI hI hb hn hc
            obtain ⟨hB, hE, hr, r1, o3, hp7, hp11⟩ := hI
            have ha : Has 38 [(27, .bool (decide ((t1.length : Int) ≤ t3)))] a := hB.get [4] (List.forall_mem_cons.2 ⟨(hn 4 (mem_needs rfl)), (fun _ h => by cases h)⟩) _ rfl
            obtain ⟨b4, q2, cs2, hs11, hk2, at2⟩ := hp11 (hn 11 (mem_needs rfl))
            have ha := ha.know hs11
            obtain rfl := hk2
            refine DoesG.on rfl ha rfl rfl rfl (decide_eq_false hc3) (Does.mono (d_load ha rfl (at2.cell 0 rfl) Try.isAgg5) ?_)
            rintro v wJ ⟨rfl, rfl⟩
            exact ⟨HasB.put hB 12 rfl rfl rfl rfl, hE, hr, r1, o3, hp7.keep rfl rfl (fun _ h => h), hp11.keep rfl rfl (fun _ h => h)⟩
        · intro b a w9 hb hI
          obtain ⟨hB, hE, hr, r1, o3, hp7, hp11⟩ := hI
          have ha : Has 38 [(23, .int .i64 t3), (24, .slice p1 t1.length c1), (25, .int .i64 (t1.length : Int)), (26, .bool (decide ((t1.length : Int) ≤ t3))), (27, .bool (decide ((t1.length : Int) ≤ t3))), (28, .slice p1 t1.length c1), (29, .int .i64 t3), (31, .int .u8 (t1.getD (t3).toNat (0 : Int))), (32, .slice p3 x3.length c3), (33, .int .i64 t3), (35, .int .u8 (x3.getD (t3).toNat (0 : Int))), (5, .slice p1 t1.length c1), (6, .slice p3 x3.length c3), (7, .int .i64 t3)] a := hB.get [0, 1, 2, 3, 4, 5, 6, 8, 9, 10, 12] (List.forall_mem_cons.2 ⟨(hb 0 (by decide) (by decide)), (List.forall_mem_cons.2 ⟨(hb 1 (by decide) (by decide)), (List.forall_mem_cons.2 ⟨(hb 2 (by decide) (by decide)), (List.forall_mem_cons.2 ⟨(hb 3 (by decide) (by decide)), (List.forall_mem_cons.2 ⟨(hb 4 (by decide) (by decide)), (List.forall_mem_cons.2 ⟨(hb 5 (by decide) (by decide)), (List.forall_mem_cons.2 ⟨(hb 6 (by decide) (by decide)), (List.forall_mem_cons.2 ⟨(hb 8 (by decide) (by decide)), (List.forall_mem_cons.2 ⟨(hb 9 (by decide) (by decide)), (List.forall_mem_cons.2 ⟨(hb 10 (by decide) (by decide)), (List.forall_mem_cons.2 ⟨(hb 12 (by decide) (by decide)), (fun _ h => by cases h)⟩)⟩)⟩)⟩)⟩)⟩)⟩)⟩)⟩)⟩)⟩) _ rfl
          refine goOn1 ha rfl rfl rfl rfl (decide_eq_false hc3) (d_lt ha rfl rfl) fun a ha => ?_
          refine go1 ha rfl (d_pickF ha rfl (decide_eq_false hc3) rfl) fun a ha => ?_
          refine go1 ha rfl (d_assign ha rfl) fun a ha => ?_
          refine nil_ ?_
          refine hK9 _ _ ?_
          have ha := ha.to (l' := [(4, _)]) rfl
          refine wp_ret ?_
          have hs : Step [p3] [] w9 w9 := Step.pick _ _ []
          have r1 := hs.tr r1
          have hE : Ex w (Av [] No) [] w9 := hE.pick [] (by decide)
          injection hF with hF
          subst hF
          refine fin1 ha Try.results24 rfl ?_
          exact ⟨rfl, hE⟩
    · intro K5 hK5
      refine wp_seq_k (fun K6 hK6 => ?_)
      refine wreg ?_
      refine go1 ha rfl (d_move ha rfl) fun a ha => ?_
      refine go1 ha rfl (d_lt ha rfl rfl) fun a ha => ?_
      refine go1 ha rfl (d_move ha rfl) fun a ha => ?_
      rcases ite_elim hF with ⟨hc1, hF⟩ | ⟨hc1, hF⟩
      · refine goOff ha rfl rfl rfl rfl (decide_eq_true hc1) fun a ha => ?_
        refine goOff ha rfl rfl rfl rfl (decide_eq_true hc1) fun a ha => ?_
        refine goOff ha rfl rfl rfl rfl (decide_eq_true hc1) fun a ha => ?_
        refine goOff ha rfl rfl rfl rfl (decide_eq_true hc1) fun a ha => ?_
        refine go1 ha rfl (d_pick ha rfl (decide_eq_true hc1) rfl) fun a ha => ?_
        refine nil_ ?_
        refine hK6 _ _ ?_
        have ha := ha.to (l' := [(5, _), (6, _), (7, _), (22, _)]) rfl
        refine wcond_t ha rfl rfl ?_
        refine wp_seq_k (fun K7 hK7 => ?_)
        refine wreg ?_
        refine go1 ha rfl (d_assign ha rfl) fun a ha => ?_
        refine nil_ ?_
        refine hK7 _ _ ?_
        have ha := ha.to (l' := [(4, _)]) rfl
        refine wp_ret ?_
        have hs : Step [p2, some ⟨b2, 0, none⟩, some ⟨b1, 0, none⟩] [] w6 w6 := Step.pick _ _ []
        have r1 := hs.tr r1
        have hE : Ex w (Av [] No) [] w6 := hE.pick [] (by decide)
        injection hF with hF
        subst hF
        refine fin1 ha Try.results24 rfl ?_
        exact ⟨rfl, hE⟩
      · refine goOn1 ha rfl rfl rfl rfl (decide_eq_false hc1) (d_move ha rfl) fun a ha => ?_
        refine goOn1 ha rfl rfl rfl rfl (decide_eq_false hc1) (d_move ha rfl) fun a ha => ?_
        refine goOn1 ha rfl rfl rfl rfl (decide_eq_false hc1) (d_lenSlice ha Try.underlying22 rfl) fun a ha => ?_
        refine goOn1 ha rfl rfl rfl rfl (decide_eq_false hc1) (d_ge ha rfl rfl) fun a ha => ?_
        refine go1 ha rfl (d_pickF ha rfl (decide_eq_false hc1) rfl) fun a ha => ?_
        refine nil_ ?_
        refine hK6 _ _ ?_
        have ha := ha.to (l' := [(5, _), (6, _), (7, _), (22, _)]) rfl
        rcases ite_elim hF with ⟨hc2, hF⟩ | ⟨hc2, hF⟩
        · refine wcond_t ha rfl (decide_eq_true hc2) ?_
          refine wp_seq_k (fun K8 hK8 => ?_)
          refine wreg ?_
          refine go1 ha rfl (d_assign ha rfl) fun a ha => ?_
          refine nil_ ?_
          refine hK8 _ _ ?_
          have ha := ha.to (l' := [(4, _)]) rfl
          refine wp_ret ?_
          have hs : Step [p2, some ⟨b2, 0, none⟩, some ⟨b1, 0, none⟩] [] w6 w6 := Step.pick _ _ []
          have r1 := hs.tr r1
          have hE : Ex w (Av [] No) [] w6 := hE.pick [] (by decide)
          injection hF with hF
          subst hF
          refine fin1 ha Try.results24 rfl ?_
          exact ⟨rfl, hE⟩
        · refine wcond_f ha rfl (decide_eq_false hc2) ?_
          refine wp_skip ?_
          have hs : Step [p2, some ⟨b2, 0, none⟩, some ⟨b1, 0, none⟩] [p2] w6 w6 := Step.pick _ _ [0]
          have r1 := hs.tr r1
          have o2 := o2.keep (Fr.refl _ No) (fun _ _ h => h) (fun _ _ h => hs.trK h)
          have hE : Ex w (Av [] No) [p2] w6 := hE.pick [0] (by decide)
          exact hK5 _ _ ⟨t2, _, _, ha.to rfl, hE, r1, o2, hF⟩

def warderref02_Is (a0 : List Int) (a1 : List Int) : Option (Bool) :=
  (if (a0.length : Int) ≤ (a1.length : Int) then (ck (0 ≤ (a0.length : Int) ∧ (a0.length : Int) ≤ (a1.length : Int)) (some (decide ((strOf (a1.take ((a0.length : Int)).toNat)) = (strOf a0))))) else (some false))

set_option maxHeartbeats 4000000 in
set_option maxRecDepth 100000 in
theorem warderref02_Is_c (a0 : List Int) (a1 : List Int) (p1 : Option Addr) (c1 : Nat) (p2 : Option Addr) (c2 : Nat) (W : Nat → Prop) (w : World) (hW : ∀ k, W k → k < w.heap.size) (r1 : Raw (Av [] W) (Kd.int .u8) w.heap p1 c1 a0) (r2 : Raw (Av [] W) (Kd.int .u8) w.heap p2 c2 a1) (r : Bool) (hF : warderref02_Is a0 a1 = some r) :
    Calls Try.prog 25 [.slice p1 a0.length c1, .slice p2 a1.length c2].toArray w (Ret fun v w' => v = .bool r ∧ Ex w (Av [] No) [] w') := by
  unfold warderref02_Is at hF
  refine enter [(0, .slice p1 a0.length c1), (1, .slice p2 a1.length c2)] Try.func25 rfl Try.ntmps25 rfl rfl fun a ha => ?_
  have hE : Ex w (Av [] No) [] w := Ex.refl w _
  have hW0 : ∀ p, some p ∈ ([] : List (Option Addr)) → ¬ W p.block := fun _ h => by cases h
  refine wp_seq_k (fun K1 hK1 => ?_)
  refine wreg ?_
  refine go1 ha rfl (d_assign ha rfl) fun a ha => ?_
  refine nil_ ?_
  refine hK1 _ _ ?_
  have ha := ha.to (l' := [(0, _), (1, _)]) rfl
  refine wp_seq_k (fun K2 hK2 => ?_)
  rcases ite_elim hF with ⟨hc1, hF⟩ | ⟨hc1, hF⟩
  · obtain ⟨hc2, hF⟩ := ck_elim hF
    refine drawnC 1 (by kernel_rfl) 13 (by decide) rfl (fun b a wI => HasB 20 [(0, .slice p1 a0.length c1), (1, .slice p2 a1.length c2)] [(0, 5, .slice p1 a0.length c1), (1, 6, .int .i64 (a0.length : Int)), (2, 7, .slice p2 a1.length c2), (3, 8, .int .i64 (a1.length : Int)), (4, 9, .bool (decide ((a0.length : Int) ≤ (a1.length : Int)))), (5, 10, .bool (decide ((a0.length : Int) ≤ (a1.length : Int)))), (6, 11, .slice p2 a1.length c2), (7, 12, .slice p1 a0.length c1), (8, 13, .int .i64 (a0.length : Int)), (10, 15, .string (strOf (a1.take ((a0.length : Int)).toNat))), (11, 16, .slice p1 a0.length c1), (12, 17, .string (strOf a0))] b a ∧ Ex w (Av [] No) [] wI ∧ Fr w wI No ∧ Raw (Av [] W) (Kd.int .u8) wI.heap p1 c1 a0 ∧ Raw (Av [] W) (Kd.int .u8) wI.heap p2 c2 a1 ∧ Sl b a 9 14 (fun v => ∃ (p3 : Option Addr) (c3 : Nat), v = .slice p3 (a1.take ((a0.length : Int)).toNat).length c3 ∧ Raw (Av [] W) (Kd.int .u8) wI.heap p3 c3 (a1.take ((a0.length : Int)).toNat))) ?_ (EachAt.all0 ?_) ?_
    · exact ⟨HasB.start (ha.to rfl) rfl, hE.drew, (Fr.refl _ No).drew, r1, r2, Sl.start rfl⟩
    · refine (EachAt.cons ?_ (EachAt.cons ?_ (EachAt.cons ?_ (EachAt.cons ?_ (EachAt.cons ?_ (EachAt.cons ?_ (EachAt.cons ?_ (EachAt.cons ?_ (EachAt.cons ?_ (EachAt.cons ?_ (EachAt.cons ?_ (EachAt.cons ?_ (EachAt.cons ?_ EachAt.nil)))))))))))))
      · intro b a wI hI hb hn hc
        obtain ⟨hB, hE, hr, r1, r2, hp9⟩ := hI
        have ha : Has 20 [(0, .slice p1 a0.length c1)] a := hB.get [] (fun _ h => by cases h) _ rfl
        refine DoesG.plain rfl (Does.mono (d_move ha rfl) ?_)
        rintro v wJ ⟨rfl, rfl⟩
        exact ⟨HasB.put hB 0 rfl rfl rfl rfl, hE, hr, r1, r2, hp9.keep rfl rfl (fun _ h => h)⟩
      · intro b a wI hI hb hn hc
        obtain ⟨hB, hE, hr, r1, r2, hp9⟩ := hI
        have ha : Has 20 [(5, .slice p1 a0.length c1)] a := hB.get [0] (List.forall_mem_cons.2 ⟨(hn 0 (mem_needs rfl)), (fun _ h => by cases h)⟩) _ rfl
        refine DoesG.plain rfl (Does.mono (d_lenSlice ha Try.underlying22 rfl) ?_)
        rintro v wJ ⟨rfl, rfl⟩
        exact ⟨HasB.put hB 1 rfl rfl rfl rfl, hE, hr, r1, r2, hp9.keep rfl rfl (fun _ h => h)⟩
      · intro b a wI hI hb hn hc
        obtain ⟨hB, hE, hr, r1, r2, hp9⟩ := hI
        have ha : Has 20 [(1, .slice p2 a1.length c2)] a := hB.get [] (fun _ h => by cases h) _ rfl
        refine DoesG.plain rfl (Does.mono (d_move ha rfl) ?_)
        rintro v wJ ⟨rfl, rfl⟩
        exact ⟨HasB.put hB 2 rfl rfl rfl rfl, hE, hr, r1, r2, hp9.keep rfl rfl (fun _ h => h)⟩
      · intro b a wI hI hb hn hc
        obtain ⟨hB, hE, hr, r1, r2, hp9⟩ := hI
        have ha : Has 20 [(7, .slice p2 a1.length c2)] a := hB.get [2] (List.forall_mem_cons.2 ⟨(hn 2 (mem_needs rfl)), (fun _ h => by cases h)⟩) _ rfl
        refine DoesG.plain rfl (Does.mono (d_lenSlice ha Try.underlying22 rfl) ?_)
        rintro v wJ ⟨rfl, rfl⟩
        exact ⟨HasB.put hB 3 rfl rfl rfl rfl, hE, hr, r1, r2, hp9.keep rfl rfl (fun _ h => h)⟩
      · intro b a wI hI hb hn hc
        obtain ⟨hB, hE, hr, r1, r2, hp9⟩ := hI
        have ha : Has 20 [(6, .int .i64 (a0.length : Int)), (8, .int .i64 (a1.length : Int))] a := hB.get [1, 3] (List.forall_mem_cons.2 ⟨(hn 1 (mem_needs rfl)), (List.forall_mem_cons.2 ⟨(hn 3 (mem_needs rfl)), (fun _ h => by cases h)⟩)⟩) _ rfl
        refine DoesG.plain rfl (Does.mono (d_le ha rfl rfl) ?_)
        rintro v wJ ⟨rfl, rfl⟩
        exact ⟨HasB.put hB 4 rfl rfl rfl rfl, hE, hr, r1, r2, hp9.keep rfl rfl (fun _ h => h)⟩
      · intro b a wI hI hb hn hc
        obtain ⟨hB, hE, hr, r1, r2, hp9⟩ := hI
        have ha : Has 20 [(9, .bool (decide ((a0.length : Int) ≤ (a1.length : Int))))] a := hB.get [4] (List.forall_mem_cons.2 ⟨(hn 4 (mem_needs rfl)), (fun _ h => by cases h)⟩) _ rfl
        refine DoesG.plain rfl (Does.mono (d_move ha rfl) ?_)
        rintro v wJ ⟨rfl, rfl⟩
        exact ⟨HasB.put hB 5 rfl rfl rfl rfl, hE, hr, r1, r2, hp9.keep rfl rfl (fun _ h => h)⟩
      · intro b a wI hI hb hn hc
        obtain ⟨hB, hE, hr, r1, r2, hp9⟩ := hI
        have ha : Has 20 [(1, .slice p2 a1.length c2), (10, .bool (decide ((a0.length : Int) ≤ (a1.length : Int))))] a := hB.get [5] (List.forall_mem_cons.2 ⟨(hn 5 (mem_needs rfl)), (fun _ h => by cases h)⟩) _ rfl
        refine DoesG.on rfl ha rfl rfl rfl (decide_eq_true hc1) (Does.mono (d_move ha rfl) ?_)
        rintro v wJ ⟨rfl, rfl⟩
        exact ⟨HasB.put hB 6 rfl rfl rfl rfl, hE, hr, r1, r2, hp9.keep rfl rfl (fun _ h => h)⟩
      · intro b a wI hI hb hn hc
        obtain ⟨hB, hE, hr, r1, r2, hp9⟩ := hI
        have ha : Has 20 [(0, .slice p1 a0.length c1), (10, .bool (decide ((a0.length : Int) ≤ (a1.length : Int))))] a := hB.get [5] (List.forall_mem_cons.2 ⟨(hn 5 (mem_needs rfl)), (fun _ h => by cases h)⟩) _ rfl
        refine DoesG.on rfl ha rfl rfl rfl (decide_eq_true hc1) (Does.mono (d_move ha rfl) ?_)
        rintro v wJ ⟨rfl, rfl⟩
        exact ⟨HasB.put hB 7 rfl rfl rfl rfl, hE, hr, r1, r2, hp9.keep rfl rfl (fun _ h => h)⟩
      · intro b a wI hI hb hn hc
        obtain ⟨hB, hE, hr, r1, r2, hp9⟩ := hI
        have ha : Has 20 [(10, .bool (decide ((a0.length : Int) ≤ (a1.length : Int)))), (12, .slice p1 a0.length c1)] a := hB.get [5, 7] (List.forall_mem_cons.2 ⟨(hn 5 (mem_needs rfl)), (List.forall_mem_cons.2 ⟨(hn 7 (mem_needs rfl)), (fun _ h => by cases h)⟩)⟩) _ rfl
        refine DoesG.on rfl ha rfl rfl rfl (decide_eq_true hc1) (Does.mono (d_lenSlice ha Try.underlying22 rfl) ?_)
        rintro v wJ ⟨rfl, rfl⟩
        exact ⟨HasB.put hB 8 rfl rfl rfl rfl, hE, hr, r1, r2, hp9.keep rfl rfl (fun _ h => h)⟩
      · intro b a wI hI hb hn hc
        obtain ⟨hB, hE, hr, r1, r2, hp9⟩ := hI
        have ha : Has 20 [(10, .bool (decide ((a0.length : Int) ≤ (a1.length : Int)))), (11, .slice p2 a1.length c2), (13, .int .i64 (a0.length : Int))] a := hB.get [5, 6, 8] (List.forall_mem_cons.2 ⟨(hn 5 (mem_needs rfl)), (List.forall_mem_cons.2 ⟨(hn 6 (mem_needs rfl)), (List.forall_mem_cons.2 ⟨(hn 8 (mem_needs rfl)), (fun _ h => by cases h)⟩)⟩)⟩) _ rfl
        refine DoesG.on rfl ha rfl rfl rfl (decide_eq_true hc1) (Does.mono (d_slice_h (kd := (Kd.int .u8)) ha Try.underlying22 Try.sizeOf5 rfl rfl r2 hc2) ?_)
        rintro v wJ ⟨rfl, h⟩
        obtain ⟨p3, c3, rfl, r3, _⟩ := h
        exact ⟨HasB.putR hB 9 rfl rfl rfl, hE, hr, r1, r2, Sl.new hB.has rfl ⟨_, _, rfl, r3⟩⟩
      · intro b a wI hI hb hn hc
        obtain ⟨hB, hE, hr, r1, r2, hp9⟩ := hI
        have ha : Has 20 [(10, .bool (decide ((a0.length : Int) ≤ (a1.length : Int))))] a := hB.get [5] (List.forall_mem_cons.2 ⟨(hn 5 (mem_needs rfl)), (fun _ h => by cases h)⟩) _ rfl
        obtain ⟨p3, c3, hs9, r3⟩ := hp9 (hn 9 (mem_needs rfl))
        have ha := ha.know hs9
        refine DoesG.on rfl ha rfl rfl rfl (decide_eq_true hc1) (Does.mono (d_b2s ha Try.underlying22 Try.underlying5 Try.underlying9 rfl r3) ?_)
        rintro v wJ ⟨rfl, rfl⟩
        exact ⟨HasB.put hB 10 rfl rfl rfl rfl, hE, hr, r1, r2, hp9.keep rfl rfl (fun _ h => h)⟩
      · intro b a wI hI hb hn hc
        obtain ⟨hB, hE, hr, r1, r2, hp9⟩ := hI
        have ha : Has 20 [(0, .slice p1 a0.length c1), (10, .bool (decide ((a0.length : Int) ≤ (a1.length : Int))))] a := hB.get [5] (List.forall_mem_cons.2 ⟨(hn 5 (mem_needs rfl)), (fun _ h => by cases h)⟩) _ rfl
        refine DoesG.on rfl ha rfl rfl rfl (decide_eq_true hc1) (Does.mono (d_move ha rfl) ?_)
        rintro v wJ ⟨rfl, rfl⟩
        exact ⟨HasB.put hB 11 rfl rfl rfl rfl, hE, hr, r1, r2, hp9.keep rfl rfl (fun _ h => h)⟩
      · intro b a wI hI hb hn hc
        obtain ⟨hB, hE, hr, r1, r2, hp9⟩ := hI
        have ha : Has 20 [(10, .bool (decide ((a0.length : Int) ≤ (a1.length : Int)))), (16, .slice p1 a0.length c1)] a := hB.get [5, 11] (List.forall_mem_cons.2 ⟨(hn 5 (mem_needs rfl)), (List.forall_mem_cons.2 ⟨(hn 11 (mem_needs rfl)), (fun _ h => by cases h)⟩)⟩) _ rfl
        refine DoesG.on rfl ha rfl rfl rfl (decide_eq_true hc1) (Does.mono (d_b2s ha Try.underlying22 Try.underlying5 Try.underlying9 rfl r1) ?_)
        rintro v wJ ⟨rfl, rfl⟩
        exact ⟨HasB.put hB 12 rfl rfl rfl rfl, hE, hr, r1, r2, hp9.keep rfl rfl (fun _ h => h)⟩
    · intro b a w1 hb hI
      obtain ⟨hB, hE, hr, r1, r2, hp9⟩ := hI
      have ha : Has 20 [(5, .slice p1 a0.length c1), (6, .int .i64 (a0.length : Int)), (7, .slice p2 a1.length c2), (8, .int .i64 (a1.length : Int)), (9, .bool (decide ((a0.length : Int) ≤ (a1.length : Int)))), (10, .bool (decide ((a0.length : Int) ≤ (a1.length : Int)))), (11, .slice p2 a1.length c2), (12, .slice p1 a0.length c1), (13, .int .i64 (a0.length : Int)), (15, .string (strOf (a1.take ((a0.length : Int)).toNat))), (16, .slice p1 a0.length c1), (17, .string (strOf a0)), (0, .slice p1 a0.length c1), (1, .slice p2 a1.length c2)] a := hB.get [0, 1, 2, 3, 4, 5, 6, 7, 8, 10, 11, 12] (List.forall_mem_cons.2 ⟨(hb 0 (by decide) (by decide)), (List.forall_mem_cons.2 ⟨(hb 1 (by decide) (by decide)), (List.forall_mem_cons.2 ⟨(hb 2 (by decide) (by decide)), (List.forall_mem_cons.2 ⟨(hb 3 (by decide) (by decide)), (List.forall_mem_cons.2 ⟨(hb 4 (by decide) (by decide)), (List.forall_mem_cons.2 ⟨(hb 5 (by decide) (by decide)), (List.forall_mem_cons.2 ⟨(hb 6 (by decide) (by decide)), (List.forall_mem_cons.2 ⟨(hb 7 (by decide) (by decide)), (List.forall_mem_cons.2 ⟨(hb 8 (by decide) (by decide)), (List.forall_mem_cons.2 ⟨(hb 10 (by decide) (by decide)), (List.forall_mem_cons.2 ⟨(hb 11 (by decide) (by decide)), (List.forall_mem_cons.2 ⟨(hb 12 (by decide) (by decide)), (fun _ h => by cases h)⟩)⟩)⟩)⟩)⟩)⟩)⟩)⟩)⟩)⟩)⟩)⟩) _ rfl
      obtain ⟨p3, c3, hs, r3⟩ := hp9 (hb 9 (by decide) (by decide))
      have ha := ha.know hs
      refine goOn1 ha rfl rfl rfl rfl (decide_eq_true hc1) (d_eqS ha rfl rfl) fun a ha => ?_
      refine go1 ha rfl (d_pick ha rfl (decide_eq_true hc1) rfl) fun a ha => ?_
      refine go1 ha rfl (d_assign ha rfl) fun a ha => ?_
      refine nil_ ?_
      refine hK2 _ _ ?_
      have ha := ha.to (l' := [(4, _)]) rfl
      refine wp_ret ?_
      injection hF with hF
      subst hF
      refine fin1 ha Try.results25 rfl ?_
      exact ⟨rfl, hE⟩
  · refine drawnC 1 (by kernel_rfl) 13 (by decide) rfl (fun b a wI => HasB 20 [(0, .slice p1 a0.length c1), (1, .slice p2 a1.length c2)] [(0, 5, .slice p1 a0.length c1), (1, 6, .int .i64 (a0.length : Int)), (2, 7, .slice p2 a1.length c2), (3, 8, .int .i64 (a1.length : Int)), (4, 9, .bool (decide ((a0.length : Int) ≤ (a1.length : Int)))), (5, 10, .bool (decide ((a0.length : Int) ≤ (a1.length : Int)))), (6, 11, undef), (7, 12, undef), (8, 13, undef), (9, 14, undef), (10, 15, undef), (11, 16, undef), (12, 17, undef)] b a ∧ Ex w (Av [] No) [] wI ∧ Fr w wI No ∧ Raw (Av [] W) (Kd.int .u8) wI.heap p1 c1 a0 ∧ Raw (Av [] W) (Kd.int .u8) wI.heap p2 c2 a1) ?_ (EachAt.all0 ?_) ?_
    · exact ⟨HasB.start (ha.to rfl) rfl, hE.drew, (Fr.refl _ No).drew, r1, r2⟩
    · refine (EachAt.cons ?_ (EachAt.cons ?_ (EachAt.cons ?_ (EachAt.cons ?_ (EachAt.cons ?_ (EachAt.cons ?_ (EachAt.cons ?_ (EachAt.cons ?_ (EachAt.cons ?_ (EachAt.cons ?_ (EachAt.cons ?_ (EachAt.cons ?_ (EachAt.cons ?_ EachAt.nil)))))))))))))
      · intro b a wI hI hb hn hc
        obtain ⟨hB, hE, hr, r1, r2⟩ := hI
        have ha : Has 20 [(0, .slice p1 a0.length c1)] a := hB.get [] (fun _ h => by cases h) _ rfl
        refine DoesG.plain rfl (Does.mono (d_move ha rfl) ?_)
        rintro v wJ ⟨rfl, rfl⟩
        exact ⟨HasB.put hB 0 rfl rfl rfl rfl, hE, hr, r1, r2⟩
      · intro b a wI hI hb hn hc
        obtain ⟨hB, hE, hr, r1, r2⟩ := hI
        have ha : Has 20 [(5, .slice p1 a0.length c1)] a := hB.get [0] (List.forall_mem_cons.2 ⟨(hn 0 (mem_needs rfl)), (fun _ h => by cases h)⟩) _ rfl
        refine DoesG.plain rfl (Does.mono (d_lenSlice ha Try.underlying22 rfl) ?_)
        rintro v wJ ⟨rfl, rfl⟩
        exact ⟨HasB.put hB 1 rfl rfl rfl rfl, hE, hr, r1, r2⟩
      · intro b a wI hI hb hn hc
        obtain ⟨hB, hE, hr, r1, r2⟩ := hI
        have ha : Has 20 [(1, .slice p2 a1.length c2)] a := hB.get [] (fun _ h => by cases h) _ rfl
        refine DoesG.plain rfl (Does.mono (d_move ha rfl) ?_)
        rintro v wJ ⟨rfl, rfl⟩
        exact ⟨HasB.put hB 2 rfl rfl rfl rfl, hE, hr, r1, r2⟩
      · intro b a wI hI hb hn hc
        obtain ⟨hB, hE, hr, r1, r2⟩ := hI
        have ha : Has 20 [(7, .slice p2 a1.length c2)] a := hB.get [2] (List.forall_mem_cons.2 ⟨(hn 2 (mem_needs rfl)), (fun _ h => by cases h)⟩) _ rfl
        refine DoesG.plain rfl (Does.mono (d_lenSlice ha Try.underlying22 rfl) ?_)
        rintro v wJ ⟨rfl, rfl⟩
        exact ⟨HasB.put hB 3 rfl rfl rfl rfl, hE, hr, r1, r2⟩
      · intro b a wI hI hb hn hc
        obtain ⟨hB, hE, hr, r1, r2⟩ := hI
        have ha : Has 20 [(6, .int .i64 (a0.length : Int)), (8, .int .i64 (a1.length : Int))] a := hB.get [1, 3] (List.forall_mem_cons.2 ⟨(hn 1 (mem_needs rfl)), (List.forall_mem_cons.2 ⟨(hn 3 (mem_needs rfl)), (fun _ h => by cases h)⟩)⟩) _ rfl
        refine DoesG.plain rfl (Does.mono (d_le ha rfl rfl) ?_)
        rintro v wJ ⟨rfl, rfl⟩
        exact ⟨HasB.put hB 4 rfl rfl rfl rfl, hE, hr, r1, r2⟩
      · intro b a wI hI hb hn hc
        obtain ⟨hB, hE, hr, r1, r2⟩ := hI
        have ha : Has 20 [(9, .bool (decide ((a0.length : Int) ≤ (a1.length : Int))))] a := hB.get [4] (List.forall_mem_cons.2 ⟨(hn 4 (mem_needs rfl)), (fun _ h => by cases h)⟩) _ rfl
        refine DoesG.plain rfl (Does.mono (d_move ha rfl) ?_)
        rintro v wJ ⟨rfl, rfl⟩
        exact ⟨HasB.put hB 5 rfl rfl rfl rfl, hE, hr, r1, r2⟩
      · intro b a wI hI hb hn hc
        obtain ⟨hB, hE, hr, r1, r2⟩ := hI
        have ha : Has 20 [(1, .slice p2 a1.length c2), (10, .bool (decide ((a0.length : Int) ≤ (a1.length : Int))))] a := hB.get [5] (List.forall_mem_cons.2 ⟨(hn 5 (mem_needs rfl)), (fun _ h => by cases h)⟩) _ rfl
        refine DoesG.off rfl ha rfl rfl rfl (decide_eq_false hc1) ?_
        exact ⟨HasB.put hB 6 rfl rfl rfl rfl, hE, hr, r1, r2⟩
      · intro b a wI hI hb hn hc
        obtain ⟨hB, hE, hr, r1, r2⟩ := hI
        have ha : Has 20 [(0, .slice p1 a0.length c1), (10, .bool (decide ((a0.length : Int) ≤ (a1.length : Int))))] a := hB.get [5] (List.forall_mem_cons.2 ⟨(hn 5 (mem_needs rfl)), (fun _ h => by cases h)⟩) _ rfl
        refine DoesG.off rfl ha rfl rfl rfl (decide_eq_false hc1) ?_
        exact ⟨HasB.put hB 7 rfl rfl rfl rfl, hE, hr, r1, r2⟩
      · intro b a wI hI hb hn hc
        obtain ⟨hB, hE, hr, r1, r2⟩ := hI
        have ha : Has 20 [(10, .bool (decide ((a0.length : Int) ≤ (a1.length : Int)))), (12, undef)] a := hB.get [5, 7] (List.forall_mem_cons.2 ⟨(hn 5 (mem_needs rfl)), (List.forall_mem_cons.2 ⟨(hn 7 (mem_needs rfl)), (fun _ h => by cases h)⟩)⟩) _ rfl
        refine DoesG.off rfl ha rfl rfl rfl (decide_eq_false hc1) ?_
        exact ⟨HasB.put hB 8 rfl rfl rfl rfl, hE, hr, r1, r2⟩
      · intro b a wI hI hb hn hc
        obtain ⟨hB, hE, hr, r1, r2⟩ := hI
        have ha : Has 20 [(10, .bool (decide ((a0.length : Int) ≤ (a1.length : Int)))), (11, undef), (13, undef)] a := hB.get [5, 6, 8] (List.forall_mem_cons.2 ⟨(hn 5 (mem_needs rfl)), (List.forall_mem_cons.2 ⟨(hn 6 (mem_needs rfl)), (List.forall_mem_cons.2 ⟨(hn 8 (mem_needs rfl)), (fun _ h => by cases h)⟩)⟩)⟩) _ rfl
        refine DoesG.off rfl ha rfl rfl rfl (decide_eq_false hc1) ?_
        exact ⟨HasB.put hB 9 rfl rfl rfl rfl, hE, hr, r1, r2⟩
      · intro b a wI hI hb hn hc
        obtain ⟨hB, hE, hr, r1, r2⟩ := hI
        have ha : Has 20 [(10, .bool (decide ((a0.length : Int) ≤ (a1.length : Int)))), (14, undef)] a := hB.get [5, 9] (List.forall_mem_cons.2 ⟨(hn 5 (mem_needs rfl)), (List.forall_mem_cons.2 ⟨(hn 9 (mem_needs rfl)), (fun _ h => by cases h)⟩)⟩) _ rfl
        refine DoesG.off rfl ha rfl rfl rfl (decide_eq_false hc1) ?_
        exact ⟨HasB.put hB 10 rfl rfl rfl rfl, hE, hr, r1, r2⟩
      · intro b a wI hI hb hn hc
        obtain ⟨hB, hE, hr, r1, r2⟩ := hI
        have ha : Has 20 [(0, .slice p1 a0.length c1), (10, .bool (decide ((a0.length : Int) ≤ (a1.length : Int))))] a := hB.get [5] (List.forall_mem_cons.2 ⟨(hn 5 (mem_needs rfl)), (fun _ h => by cases h)⟩) _ rfl
        refine DoesG.off rfl ha rfl rfl rfl (decide_eq_false hc1) ?_
        exact ⟨HasB.put hB 11 rfl rfl rfl rfl, hE, hr, r1, r2⟩
      · intro b a wI hI hb hn hc
        obtain ⟨hB, hE, hr, r1, r2⟩ := hI
        have ha : Has 20 [(10, .bool (decide ((a0.length : Int) ≤ (a1.length : Int)))), (16, undef)] a := hB.get [5, 11] (List.forall_mem_cons.2 ⟨(hn 5 (mem_needs rfl)), (List.forall_mem_cons.2 ⟨(hn 11 (mem_needs rfl)), (fun _ h => by cases h)⟩)⟩) _ rfl
        refine DoesG.off rfl ha rfl rfl rfl (decide_eq_false hc1) ?_
        exact ⟨HasB.put hB 12 rfl rfl rfl rfl, hE, hr, r1, r2⟩
    · intro b a w2 hb hI
      obtain ⟨hB, hE, hr, r1, r2⟩ := hI
      have ha : Has 20 [(5, .slice p1 a0.length c1), (6, .int .i64 (a0.length : Int)), (7, .slice p2 a1.length c2), (8, .int .i64 (a1.length : Int)), (9, .bool (decide ((a0.length : Int) ≤ (a1.length : Int)))), (10, .bool (decide ((a0.length : Int) ≤ (a1.length : Int)))), (11, undef), (12, undef), (13, undef), (14, undef), (15, undef), (16, undef), (17, undef), (0, .slice p1 a0.length c1), (1, .slice p2 a1.length c2)] a := hB.get [0, 1, 2, 3, 4, 5, 6, 7, 8, 9, 10, 11, 12] (List.forall_mem_cons.2 ⟨(hb 0 (by decide) (by decide)), (List.forall_mem_cons.2 ⟨(hb 1 (by decide) (by decide)), (List.forall_mem_cons.2 ⟨(hb 2 (by decide) (by decide)), (List.forall_mem_cons.2 ⟨(hb 3 (by decide) (by decide)), (List.forall_mem_cons.2 ⟨(hb 4 (by decide) (by decide)), (List.forall_mem_cons.2 ⟨(hb 5 (by decide) (by decide)), (List.forall_mem_cons.2 ⟨(hb 6 (by decide) (by decide)), (List.forall_mem_cons.2 ⟨(hb 7 (by decide) (by decide)), (List.forall_mem_cons.2 ⟨(hb 8 (by decide) (by decide)), (List.forall_mem_cons.2 ⟨(hb 9 (by decide) (by decide)), (List.forall_mem_cons.2 ⟨(hb 10 (by decide) (by decide)), (List.forall_mem_cons.2 ⟨(hb 11 (by decide) (by decide)), (List.forall_mem_cons.2 ⟨(hb 12 (by decide) (by decide)), (fun _ h => by cases h)⟩)⟩)⟩)⟩)⟩)⟩)⟩)⟩)⟩)⟩)⟩)⟩)⟩) _ rfl
      refine goOff ha rfl rfl rfl rfl (decide_eq_false hc1) fun a ha => ?_
      refine go1 ha rfl (d_pickF ha rfl (decide_eq_false hc1) rfl) fun a ha => ?_
      refine go1 ha rfl (d_assign ha rfl) fun a ha => ?_
      refine nil_ ?_
      refine hK2 _ _ ?_
      have ha := ha.to (l' := [(4, _)]) rfl
      refine wp_ret ?_
      injection hF with hF
      subst hF
      refine fin1 ha Try.results25 rfl ?_
      exact ⟨rfl, hE⟩

def warderlaw02_NibbleApart_j3 (k : Nat) (a0_0 : Int) (a0_1 : ByteArray) (a1_0 : Int) (a1_1 : ByteArray) (t3 : Bool) (t11 : (List Int)) (t13 : Int) (x3 : List Int) : Option (Bool) :=
  (if a0_0 = a1_0 ∧ a0_1 = a1_1 then ((warderlaw02_known k ).bind fun t17 => (some t17)) else ((warderref02_Is t11 x3).bind fun t14 => (bif t14 then (some false) else ((warderref02_Is x3 t11).bind fun t15 => (bif t15 then (some false) else (if (t11.length : Int) ≤ t13 then (some false) else (if (x3.length : Int) ≤ t13 then (some false) else (ck (0 ≤ t13 ∧ t13 < (t11.length : Int)) (ck (0 ≤ t13 ∧ t13 < (x3.length : Int)) (bif !((decide ((t11.getD (t13).toNat (0 : Int)) < (x3.getD (t13).toNat (0 : Int)))) == t3) then (some false) else ((warderlaw02_known k ).bind fun t16 => (some t16))))))))))))

def warderlaw02_NibbleApart_j2 (k : Nat) (a0_0 : Int) (a0_1 : ByteArray) (a1_0 : Int) (a1_1 : ByteArray) (t3 : Bool) (t4 : Bool) : Option (Bool) :=
  ((nibble_Of k a0_0 a0_1).bind fun t11 => ((nibble_Of k a1_0 a1_1).bind fun t12 => ((nibble_Diff k t11 t12).bind fun t13 => (bif !((decide (a0_0 = a1_0 ∧ a0_1 = a1_1)) == (decide (t13 < (0 : Int)))) then (some false) else (bif t3 then (bif (decide (a0_0 = a1_0 ∧ a0_1 = a1_1)) == true then (some false) else (warderlaw02_NibbleApart_j3 k a0_0 a0_1 a1_0 a1_1 t3 t11 t13 t12)) else (bif (decide (a0_0 = a1_0 ∧ a0_1 = a1_1)) == t4 then (some false) else (warderlaw02_NibbleApart_j3 k a0_0 a0_1 a1_0 a1_1 t3 t11 t13 t12)))))))

def warderlaw02_NibbleApart_j1 (k : Nat) (a0_0 : Int) (a0_1 : ByteArray) (a1_0 : Int) (a1_1 : ByteArray) (t3 : Bool) (t4 : Bool) : Option (Bool) :=
  ((warderref02_May k a0_0 a0_1).bind fun t7 => (bif !t7 then ((warderlaw02_known k ).bind fun t8 => (some t8)) else ((warderref02_May k a1_0 a1_1).bind fun t9 => (bif !t9 then ((warderlaw02_known k ).bind fun t10 => (some t10)) else (warderlaw02_NibbleApart_j2 k a0_0 a0_1 a1_0 a1_1 t3 t4)))))

def warderlaw02_NibbleApart_j0 (k : Nat) (a0_0 : Int) (a0_1 : ByteArray) (a1_0 : Int) (a1_1 : ByteArray) : Option (Bool) :=
  ((nibble_Less k a0_0 a0_1 a1_0 a1_1).bind fun t3 => ((nibble_Less k a1_0 a1_1 a0_0 a0_1).bind fun t4 => ((warderref02_Less k a0_0 a0_1 a1_0 a1_1).bind fun t5 => (bif !(t3 == t5) then (some false) else ((warderref02_Less k a1_0 a1_1 a0_0 a0_1).bind fun t6 => (bif !(t4 == t6) then (some false) else (bif t3 then (bif t4 then (some false) else (warderlaw02_NibbleApart_j1 k a0_0 a0_1 a1_0 a1_1 t3 t4)) else (warderlaw02_NibbleApart_j1 k a0_0 a0_1 a1_0 a1_1 t3 t4))))))))

def warderlaw02_NibbleApart (k : Nat) (a0_0 : Int) (a0_1 : ByteArray) (a1_0 : Int) (a1_1 : ByteArray) : Option (Bool) :=
  (if (2000 : Int) < (a0_1.size : Int) then ((warderlaw02_known k ).bind fun t1 => (some t1)) else (if (2000 : Int) < (a1_1.size : Int) then ((warderlaw02_known k ).bind fun t2 => (some t2)) else (warderlaw02_NibbleApart_j0 k a0_0 a0_1 a1_0 a1_1)))
end Go.Proofs.Ytmljbiijlljhfaa
