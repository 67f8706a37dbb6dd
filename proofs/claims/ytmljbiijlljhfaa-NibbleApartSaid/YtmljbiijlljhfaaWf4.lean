/- Own work. A part of the proof of a law of this seat: The walk: what each function of the program comes to. -/
import Derived.Test.YtmljbiijlljhfaaProg
import Derived.Test.YtmljbiijlljhfaaWf3
import Derived.Test.YtmljbiijlljhfaaBld
open Go Go.RowKit Go.Sx
namespace Go.Proofs.Ytmljbiijlljhfaa
set_option linter.unusedVariables false
set_option linter.unusedSimpArgs false

set_option maxHeartbeats 4000000 in
set_option maxRecDepth 100000 in
theorem warderlaw02_NibbleOrders_c (k : Nat) (a0_0 : Int) (a0_1 : ByteArray) (a1_0 : Int) (a1_1 : ByteArray) (a2_0 : Int) (a2_1 : ByteArray)  (W : Nat → Prop) (w : World) (hW : ∀ k, W k → k < w.heap.size) (r : Bool) (hF : warderlaw02_NibbleOrders k a0_0 a0_1 a1_0 a1_1 a2_0 a2_1 = some r) :
    Calls Try.prog 8 [.agg #[.int .i64 a0_0, .string a0_1], .agg #[.int .i64 a1_0, .string a1_1], .agg #[.int .i64 a2_0, .string a2_1]].toArray w (Ret fun v w' => v = .bool r ∧ Ex w (Av [] No) [] w') := by
  unfold warderlaw02_NibbleOrders at hF
  refine enter [(0, .agg #[.int .i64 a0_0, .string a0_1]), (1, .agg #[.int .i64 a1_0, .string a1_1]), (2, .agg #[.int .i64 a2_0, .string a2_1])] Try.func8 rfl Try.ntmps8 rfl rfl fun a ha => ?_
  have hE : Ex w (Av [] No) [] w := Ex.refl w _
  have hW0 : ∀ p, some p ∈ ([] : List (Option Addr)) → ¬ W p.block := fun _ h => by cases h
  refine wp_seq_k (fun K1 hK1 => ?_)
  refine wreg ?_
  refine goR ha rfl (d_box (cs := [.int .i64 a0_0, .string a0_1]) ha rfl rfl) fun v w1 a h ha => ?_
  obtain ⟨b1, rfl, hb, hl, x1, hf⟩ := h
  have hs := Step.addB [] hf hb
  have hE := hE.addB hf hb hl
  refine goR ha rfl (d_box (cs := [.int .i64 a1_0, .string a1_1]) ha rfl rfl) fun v w2 a h ha => ?_
  obtain ⟨b2, rfl, hb, hl, x2, hf⟩ := h
  have hs := Step.addB [some ⟨b1, 0, none⟩] hf hb
  have x1 := x1.stay hf
  have hE := hE.addB hf hb hl
  refine goR ha rfl (d_box (cs := [.int .i64 a2_0, .string a2_1]) ha rfl rfl) fun v w3 a h ha => ?_
  obtain ⟨b3, rfl, hb, hl, x3, hf⟩ := h
  have hs := Step.addB [some ⟨b2, 0, none⟩, some ⟨b1, 0, none⟩] hf hb
  have x2 := x2.stay hf
  have x1 := x1.stay hf
  have hE := hE.addB hf hb hl
  refine go1 ha rfl (d_assign ha rfl) fun a ha => ?_
  refine nil_ ?_
  refine hK1 _ _ ?_
  have ha := ha.to (l' := [(3, _), (4, _), (5, _)]) rfl
  refine wseqJ (fun a w7 => Has 44 [(3, .pointer (some ⟨b1, 0, none⟩)), (4, .pointer (some ⟨b2, 0, none⟩)), (5, .pointer (some ⟨b3, 0, none⟩))] a ∧ Ex w (Av [] No) [some ⟨b3, 0, none⟩, some ⟨b2, 0, none⟩, some ⟨b1, 0, none⟩] w7 ∧ Bx w7 b1 29 [.int .i64 a0_0, .string a0_1] ∧ Bx w7 b2 29 [.int .i64 a1_0, .string a1_1] ∧ Bx w7 b3 29 [.int .i64 a2_0, .string a2_1] ∧ warderlaw02_NibbleOrders_j0 k a0_0 a0_1 a1_0 a1_1 a2_0 a2_1 = some r) ?_ ?_
  · rintro a w7 ⟨ha, hE, x1, x2, x3, hF⟩
    unfold warderlaw02_NibbleOrders_j0 at hF
    refine wp_seq_k (fun K8 hK8 => ?_)
    refine wp_seq_k (fun K9 hK9 => ?_)
    refine wreg ?_
    refine go1 ha rfl (d_loadAgg (cs := [.int .i64 a0_0, .string a0_1]) ha rfl (x1.at_.sub' 0 2 rfl) Try.isAgg29 Try.sizeOf29 rfl) fun a ha => ?_
    refine go1 ha rfl (d_loadAgg (cs := [.int .i64 a0_0, .string a0_1]) ha rfl (x1.at_.sub' 0 2 rfl) Try.isAgg29 Try.sizeOf29 rfl) fun a ha => ?_
    obtain ⟨t4, ht4, hF⟩ := bind_elim hF
    refine goR ha rfl (d_call Try.call23 ha (vs := [.agg #[.int .i64 a0_0, .string a0_1], .agg #[.int .i64 a0_0, .string a0_1]]) rfl (nibble_Less_c k a0_0 a0_1 a0_0 a0_1  (Av [some ⟨b3, 0, none⟩, some ⟨b2, 0, none⟩, some ⟨b1, 0, none⟩] W) _ (Ex.wlt (as0 := []) (rr := []) (ro := [some ⟨b3, 0, none⟩, some ⟨b2, 0, none⟩, some ⟨b1, 0, none⟩]) hE hW)  _ ht4)) fun v w8 a h ha => ?_
    obtain ⟨rfl, hC⟩ := h
    have hs : Step [some ⟨b3, 0, none⟩, some ⟨b2, 0, none⟩, some ⟨b1, 0, none⟩] [some ⟨b3, 0, none⟩, some ⟨b2, 0, none⟩, some ⟨b1, 0, none⟩] w7 w8 := hC.callStep [some ⟨b3, 0, none⟩, some ⟨b2, 0, none⟩, some ⟨b1, 0, none⟩]
    have x3 := x3.keep hC.fr ((Ex.callOff (as0 := []) (rt := [some ⟨b3, 0, none⟩, some ⟨b2, 0, none⟩, some ⟨b1, 0, none⟩]) hE (u := some ⟨b3, 0, none⟩) (by simp)) _ rfl)
    have x2 := x2.keep hC.fr ((Ex.callOff (as0 := []) (rt := [some ⟨b3, 0, none⟩, some ⟨b2, 0, none⟩, some ⟨b1, 0, none⟩]) hE (u := some ⟨b2, 0, none⟩) (by simp)) _ rfl)
    have x1 := x1.keep hC.fr ((Ex.callOff (as0 := []) (rt := [some ⟨b3, 0, none⟩, some ⟨b2, 0, none⟩, some ⟨b1, 0, none⟩]) hE (u := some ⟨b1, 0, none⟩) (by simp)) _ rfl)
    have hE : Ex w (Av [] No) [some ⟨b3, 0, none⟩, some ⟨b2, 0, none⟩, some ⟨b1, 0, none⟩] w8 := Ex.call (as0 := []) (rt := [some ⟨b3, 0, none⟩, some ⟨b2, 0, none⟩, some ⟨b1, 0, none⟩]) hE hC
    refine go1 ha rfl (d_move ha rfl) fun a ha => ?_
    rcases cond_elim hF with ⟨hc4, hF⟩ | ⟨hc4, hF⟩
    · refine goOff ha rfl rfl rfl rfl hc4 fun a ha => ?_
      refine goOff ha rfl rfl rfl rfl hc4 fun a ha => ?_
      refine goOff ha rfl rfl rfl rfl hc4 fun a ha => ?_
      refine goOff ha rfl rfl rfl rfl hc4 fun a ha => ?_
      refine goGone ha rfl rfl rfl rfl  fun a ha => ?_
      refine goGone ha rfl rfl rfl rfl  fun a ha => ?_
      refine goGone ha rfl rfl rfl rfl  fun a ha => ?_
      refine goOff ha rfl rfl rfl rfl hc4 fun a ha => ?_
      refine goOff ha rfl rfl rfl rfl hc4 fun a ha => ?_
      refine goGone ha rfl rfl rfl rfl  fun a ha => ?_
      refine goGone ha rfl rfl rfl rfl  fun a ha => ?_
      refine goGone ha rfl rfl rfl rfl  fun a ha => ?_
      refine goGone ha rfl rfl rfl rfl  fun a ha => ?_
      refine goOff ha rfl rfl rfl rfl hc4 fun a ha => ?_
      refine go1 ha rfl (d_pick ha rfl hc4 rfl) fun a ha => ?_
      refine nil_ ?_
      refine hK9 _ _ ?_
      have ha := ha.to (l' := [(42, _)]) rfl
      refine wcond_t ha rfl rfl ?_
      refine wp_seq_k (fun K10 hK10 => ?_)
      refine wreg ?_
      refine go1 ha rfl (d_assign ha rfl) fun a ha => ?_
      refine nil_ ?_
      refine hK10 _ _ ?_
      have ha := ha.to (l' := [(6, _)]) rfl
      refine wp_ret ?_
      have hs : Step [some ⟨b3, 0, none⟩, some ⟨b2, 0, none⟩, some ⟨b1, 0, none⟩] [] w8 w8 := Step.pick _ _ []
      have hE : Ex w (Av [] No) [] w8 := hE.pick [] (by decide)
      injection hF with hF
      subst hF
      refine fin1 ha Try.results8 rfl ?_
      exact ⟨rfl, hE⟩
    · refine goOn1 ha rfl rfl rfl rfl hc4 (d_loadAgg (cs := [.int .i64 a0_0, .string a0_1]) ha rfl (x1.at_.sub' 0 2 rfl) Try.isAgg29 Try.sizeOf29 rfl) fun a ha => ?_
      refine goOn1 ha rfl rfl rfl rfl hc4 (d_loadAgg (cs := [.int .i64 a1_0, .string a1_1]) ha rfl (x2.at_.sub' 0 2 rfl) Try.isAgg29 Try.sizeOf29 rfl) fun a ha => ?_
      obtain ⟨t5, ht5, hF⟩ := bind_elim hF
      refine goOnR ha rfl rfl rfl rfl hc4 (d_call Try.call23 ha (vs := [.agg #[.int .i64 a0_0, .string a0_1], .agg #[.int .i64 a1_0, .string a1_1]]) rfl (nibble_Less_c k a0_0 a0_1 a1_0 a1_1  (Av [some ⟨b3, 0, none⟩, some ⟨b2, 0, none⟩, some ⟨b1, 0, none⟩] W) _ (Ex.wlt (as0 := []) (rr := []) (ro := [some ⟨b3, 0, none⟩, some ⟨b2, 0, none⟩, some ⟨b1, 0, none⟩]) hE hW)  _ ht5)) fun v w9 a h ha => ?_
      obtain ⟨rfl, hC⟩ := h
      have hs : Step [some ⟨b3, 0, none⟩, some ⟨b2, 0, none⟩, some ⟨b1, 0, none⟩] [some ⟨b3, 0, none⟩, some ⟨b2, 0, none⟩, some ⟨b1, 0, none⟩] w8 w9 := hC.callStep [some ⟨b3, 0, none⟩, some ⟨b2, 0, none⟩, some ⟨b1, 0, none⟩]
      have x3 := x3.keep hC.fr ((Ex.callOff (as0 := []) (rt := [some ⟨b3, 0, none⟩, some ⟨b2, 0, none⟩, some ⟨b1, 0, none⟩]) hE (u := some ⟨b3, 0, none⟩) (by simp)) _ rfl)
      have x2 := x2.keep hC.fr ((Ex.callOff (as0 := []) (rt := [some ⟨b3, 0, none⟩, some ⟨b2, 0, none⟩, some ⟨b1, 0, none⟩]) hE (u := some ⟨b2, 0, none⟩) (by simp)) _ rfl)
      have x1 := x1.keep hC.fr ((Ex.callOff (as0 := []) (rt := [some ⟨b3, 0, none⟩, some ⟨b2, 0, none⟩, some ⟨b1, 0, none⟩]) hE (u := some ⟨b1, 0, none⟩) (by simp)) _ rfl)
      have hE : Ex w (Av [] No) [some ⟨b3, 0, none⟩, some ⟨b2, 0, none⟩, some ⟨b1, 0, none⟩] w9 := Ex.call (as0 := []) (rt := [some ⟨b3, 0, none⟩, some ⟨b2, 0, none⟩, some ⟨b1, 0, none⟩]) hE hC
      refine goOn1 ha rfl rfl rfl rfl hc4 (d_move ha rfl) fun a ha => ?_
      rcases cond_elim hF with ⟨hc5, hF⟩ | ⟨hc5, hF⟩
      · refine goOn1 ha rfl rfl rfl rfl hc5 (d_loadAgg (cs := [.int .i64 a1_0, .string a1_1]) ha rfl (x2.at_.sub' 0 2 rfl) Try.isAgg29 Try.sizeOf29 rfl) fun a ha => ?_
        refine goOn1 ha rfl rfl rfl rfl hc5 (d_loadAgg (cs := [.int .i64 a2_0, .string a2_1]) ha rfl (x3.at_.sub' 0 2 rfl) Try.isAgg29 Try.sizeOf29 rfl) fun a ha => ?_
        obtain ⟨t6, ht6, hF⟩ := bind_elim hF
        refine goOnR ha rfl rfl rfl rfl hc5 (d_call Try.call23 ha (vs := [.agg #[.int .i64 a1_0, .string a1_1], .agg #[.int .i64 a2_0, .string a2_1]]) rfl (nibble_Less_c k a1_0 a1_1 a2_0 a2_1  (Av [some ⟨b3, 0, none⟩, some ⟨b2, 0, none⟩, some ⟨b1, 0, none⟩] W) _ (Ex.wlt (as0 := []) (rr := []) (ro := [some ⟨b3, 0, none⟩, some ⟨b2, 0, none⟩, some ⟨b1, 0, none⟩]) hE hW)  _ ht6)) fun v w10 a h ha => ?_
        obtain ⟨rfl, hC⟩ := h
        have hs : Step [some ⟨b3, 0, none⟩, some ⟨b2, 0, none⟩, some ⟨b1, 0, none⟩] [some ⟨b3, 0, none⟩, some ⟨b2, 0, none⟩, some ⟨b1, 0, none⟩] w9 w10 := hC.callStep [some ⟨b3, 0, none⟩, some ⟨b2, 0, none⟩, some ⟨b1, 0, none⟩]
        have x3 := x3.keep hC.fr ((Ex.callOff (as0 := []) (rt := [some ⟨b3, 0, none⟩, some ⟨b2, 0, none⟩, some ⟨b1, 0, none⟩]) hE (u := some ⟨b3, 0, none⟩) (by simp)) _ rfl)
        have x2 := x2.keep hC.fr ((Ex.callOff (as0 := []) (rt := [some ⟨b3, 0, none⟩, some ⟨b2, 0, none⟩, some ⟨b1, 0, none⟩]) hE (u := some ⟨b2, 0, none⟩) (by simp)) _ rfl)
        have x1 := x1.keep hC.fr ((Ex.callOff (as0 := []) (rt := [some ⟨b3, 0, none⟩, some ⟨b2, 0, none⟩, some ⟨b1, 0, none⟩]) hE (u := some ⟨b1, 0, none⟩) (by simp)) _ rfl)
        have hE : Ex w (Av [] No) [some ⟨b3, 0, none⟩, some ⟨b2, 0, none⟩, some ⟨b1, 0, none⟩] w10 := Ex.call (as0 := []) (rt := [some ⟨b3, 0, none⟩, some ⟨b2, 0, none⟩, some ⟨b1, 0, none⟩]) hE hC
        refine goOn1 ha rfl rfl rfl rfl hc4 (d_pick ha rfl hc5 rfl) fun a ha => ?_
        refine goOn1 ha rfl rfl rfl rfl hc4 (d_move ha rfl) fun a ha => ?_
        rcases cond_elim hF with ⟨hc6, hF⟩ | ⟨hc6, hF⟩
        · refine goOn1 ha rfl rfl rfl rfl hc6 (d_loadAgg (cs := [.int .i64 a0_0, .string a0_1]) ha rfl (x1.at_.sub' 0 2 rfl) Try.isAgg29 Try.sizeOf29 rfl) fun a ha => ?_
          refine goOn1 ha rfl rfl rfl rfl hc6 (d_loadAgg (cs := [.int .i64 a2_0, .string a2_1]) ha rfl (x3.at_.sub' 0 2 rfl) Try.isAgg29 Try.sizeOf29 rfl) fun a ha => ?_
          obtain ⟨t7, ht7, hF⟩ := bind_elim hF
          refine goOnR ha rfl rfl rfl rfl hc6 (d_call Try.call23 ha (vs := [.agg #[.int .i64 a0_0, .string a0_1], .agg #[.int .i64 a2_0, .string a2_1]]) rfl (nibble_Less_c k a0_0 a0_1 a2_0 a2_1  (Av [some ⟨b3, 0, none⟩, some ⟨b2, 0, none⟩, some ⟨b1, 0, none⟩] W) _ (Ex.wlt (as0 := []) (rr := []) (ro := [some ⟨b3, 0, none⟩, some ⟨b2, 0, none⟩, some ⟨b1, 0, none⟩]) hE hW)  _ ht7)) fun v w11 a h ha => ?_
          obtain ⟨rfl, hC⟩ := h
          have hs : Step [some ⟨b3, 0, none⟩, some ⟨b2, 0, none⟩, some ⟨b1, 0, none⟩] [some ⟨b3, 0, none⟩, some ⟨b2, 0, none⟩, some ⟨b1, 0, none⟩] w10 w11 := hC.callStep [some ⟨b3, 0, none⟩, some ⟨b2, 0, none⟩, some ⟨b1, 0, none⟩]
          have x3 := x3.keep hC.fr ((Ex.callOff (as0 := []) (rt := [some ⟨b3, 0, none⟩, some ⟨b2, 0, none⟩, some ⟨b1, 0, none⟩]) hE (u := some ⟨b3, 0, none⟩) (by simp)) _ rfl)
          have x2 := x2.keep hC.fr ((Ex.callOff (as0 := []) (rt := [some ⟨b3, 0, none⟩, some ⟨b2, 0, none⟩, some ⟨b1, 0, none⟩]) hE (u := some ⟨b2, 0, none⟩) (by simp)) _ rfl)
          have x1 := x1.keep hC.fr ((Ex.callOff (as0 := []) (rt := [some ⟨b3, 0, none⟩, some ⟨b2, 0, none⟩, some ⟨b1, 0, none⟩]) hE (u := some ⟨b1, 0, none⟩) (by simp)) _ rfl)
          have hE : Ex w (Av [] No) [some ⟨b3, 0, none⟩, some ⟨b2, 0, none⟩, some ⟨b1, 0, none⟩] w11 := Ex.call (as0 := []) (rt := [some ⟨b3, 0, none⟩, some ⟨b2, 0, none⟩, some ⟨b1, 0, none⟩]) hE hC
          refine goOn1 ha rfl rfl rfl rfl hc6 (d_not ha rfl) fun a ha => ?_
          refine goOn1 ha rfl rfl rfl rfl hc4 (d_pick ha rfl hc6 rfl) fun a ha => ?_
          refine go1 ha rfl (d_pickF ha rfl hc4 rfl) fun a ha => ?_
          refine nil_ ?_
          refine hK9 _ _ ?_
          have ha := ha.to (l' := [(42, _)]) rfl
          rcases cond_elim hF with ⟨hc7, hF⟩ | ⟨hc7, hF⟩
          · refine wcond_t ha rfl hc7 ?_
            refine wp_seq_k (fun K11 hK11 => ?_)
            refine wreg ?_
            refine go1 ha rfl (d_assign ha rfl) fun a ha => ?_
            refine nil_ ?_
            refine hK11 _ _ ?_
            have ha := ha.to (l' := [(6, _)]) rfl
            refine wp_ret ?_
            have hs : Step [some ⟨b3, 0, none⟩, some ⟨b2, 0, none⟩, some ⟨b1, 0, none⟩] [] w11 w11 := Step.pick _ _ []
            have hE : Ex w (Av [] No) [] w11 := hE.pick [] (by decide)
            injection hF with hF
            subst hF
            refine fin1 ha Try.results8 rfl ?_
            exact ⟨rfl, hE⟩
          · refine wcond_f ha rfl hc7 ?_
            refine wp_skip ?_
            refine hK8 _ _ ?_
            have ha := ha.to (l' := []) rfl
            refine wp_seq_k (fun K12 hK12 => ?_)
            refine wreg ?_
            obtain ⟨t8, ht8, hF⟩ := bind_elim hF
            refine goR ha rfl (d_call Try.call10 ha (vs := []) rfl (warderlaw02_known_c k   (Av [some ⟨b3, 0, none⟩, some ⟨b2, 0, none⟩, some ⟨b1, 0, none⟩] W) _ (Ex.wlt (as0 := []) (rr := []) (ro := [some ⟨b3, 0, none⟩, some ⟨b2, 0, none⟩, some ⟨b1, 0, none⟩]) hE hW)  _ ht8)) fun v w12 a h ha => ?_
            obtain ⟨rfl, hC⟩ := h
            have hs : Step [some ⟨b3, 0, none⟩, some ⟨b2, 0, none⟩, some ⟨b1, 0, none⟩] [some ⟨b3, 0, none⟩, some ⟨b2, 0, none⟩, some ⟨b1, 0, none⟩] w11 w12 := hC.callStep [some ⟨b3, 0, none⟩, some ⟨b2, 0, none⟩, some ⟨b1, 0, none⟩]
            have x3 := x3.keep hC.fr ((Ex.callOff (as0 := []) (rt := [some ⟨b3, 0, none⟩, some ⟨b2, 0, none⟩, some ⟨b1, 0, none⟩]) hE (u := some ⟨b3, 0, none⟩) (by simp)) _ rfl)
            have x2 := x2.keep hC.fr ((Ex.callOff (as0 := []) (rt := [some ⟨b3, 0, none⟩, some ⟨b2, 0, none⟩, some ⟨b1, 0, none⟩]) hE (u := some ⟨b2, 0, none⟩) (by simp)) _ rfl)
            have x1 := x1.keep hC.fr ((Ex.callOff (as0 := []) (rt := [some ⟨b3, 0, none⟩, some ⟨b2, 0, none⟩, some ⟨b1, 0, none⟩]) hE (u := some ⟨b1, 0, none⟩) (by simp)) _ rfl)
            have hE : Ex w (Av [] No) [some ⟨b3, 0, none⟩, some ⟨b2, 0, none⟩, some ⟨b1, 0, none⟩] w12 := Ex.call (as0 := []) (rt := [some ⟨b3, 0, none⟩, some ⟨b2, 0, none⟩, some ⟨b1, 0, none⟩]) hE hC
            refine go1 ha rfl (d_assign ha rfl) fun a ha => ?_
            refine nil_ ?_
            refine hK12 _ _ ?_
            have ha := ha.to (l' := [(6, _)]) rfl
            refine wp_ret ?_
            have hs : Step [some ⟨b3, 0, none⟩, some ⟨b2, 0, none⟩, some ⟨b1, 0, none⟩] [] w12 w12 := Step.pick _ _ []
            have hE : Ex w (Av [] No) [] w12 := hE.pick [] (by decide)
            injection hF with hF
            subst hF
            refine fin1 ha Try.results8 rfl ?_
            exact ⟨rfl, hE⟩
        · refine goOff ha rfl rfl rfl rfl hc6 fun a ha => ?_
          refine goOff ha rfl rfl rfl rfl hc6 fun a ha => ?_
          refine goOff ha rfl rfl rfl rfl hc6 fun a ha => ?_
          refine goOff ha rfl rfl rfl rfl hc6 fun a ha => ?_
          refine goOn1 ha rfl rfl rfl rfl hc4 (d_pickF ha rfl hc6 rfl) fun a ha => ?_
          refine go1 ha rfl (d_pickF ha rfl hc4 rfl) fun a ha => ?_
          refine nil_ ?_
          refine hK9 _ _ ?_
          have ha := ha.to (l' := [(42, _)]) rfl
          refine wcond_f ha rfl rfl ?_
          refine wp_skip ?_
          refine hK8 _ _ ?_
          have ha := ha.to (l' := []) rfl
          refine wp_seq_k (fun K13 hK13 => ?_)
          refine wreg ?_
          obtain ⟨t9, ht9, hF⟩ := bind_elim hF
          refine goR ha rfl (d_call Try.call10 ha (vs := []) rfl (warderlaw02_known_c k   (Av [some ⟨b3, 0, none⟩, some ⟨b2, 0, none⟩, some ⟨b1, 0, none⟩] W) _ (Ex.wlt (as0 := []) (rr := []) (ro := [some ⟨b3, 0, none⟩, some ⟨b2, 0, none⟩, some ⟨b1, 0, none⟩]) hE hW)  _ ht9)) fun v w13 a h ha => ?_
          obtain ⟨rfl, hC⟩ := h
          have hs : Step [some ⟨b3, 0, none⟩, some ⟨b2, 0, none⟩, some ⟨b1, 0, none⟩] [some ⟨b3, 0, none⟩, some ⟨b2, 0, none⟩, some ⟨b1, 0, none⟩] w10 w13 := hC.callStep [some ⟨b3, 0, none⟩, some ⟨b2, 0, none⟩, some ⟨b1, 0, none⟩]
          have x3 := x3.keep hC.fr ((Ex.callOff (as0 := []) (rt := [some ⟨b3, 0, none⟩, some ⟨b2, 0, none⟩, some ⟨b1, 0, none⟩]) hE (u := some ⟨b3, 0, none⟩) (by simp)) _ rfl)
          have x2 := x2.keep hC.fr ((Ex.callOff (as0 := []) (rt := [some ⟨b3, 0, none⟩, some ⟨b2, 0, none⟩, some ⟨b1, 0, none⟩]) hE (u := some ⟨b2, 0, none⟩) (by simp)) _ rfl)
          have x1 := x1.keep hC.fr ((Ex.callOff (as0 := []) (rt := [some ⟨b3, 0, none⟩, some ⟨b2, 0, none⟩, some ⟨b1, 0, none⟩]) hE (u := some ⟨b1, 0, none⟩) (by simp)) _ rfl)
          have hE : Ex w (Av [] No) [some ⟨b3, 0, none⟩, some ⟨b2, 0, none⟩, some ⟨b1, 0, none⟩] w13 := Ex.call (as0 := []) (rt := [some ⟨b3, 0, none⟩, some ⟨b2, 0, none⟩, some ⟨b1, 0, none⟩]) hE hC
          refine go1 ha rfl (d_assign ha rfl) fun a ha => ?_
          refine nil_ ?_
          refine hK13 _ _ ?_
          have ha := ha.to (l' := [(6, _)]) rfl
          refine wp_ret ?_
          have hs : Step [some ⟨b3, 0, none⟩, some ⟨b2, 0, none⟩, some ⟨b1, 0, none⟩] [] w13 w13 := Step.pick _ _ []
          have hE : Ex w (Av [] No) [] w13 := hE.pick [] (by decide)
          injection hF with hF
          subst hF
          refine fin1 ha Try.results8 rfl ?_
          exact ⟨rfl, hE⟩
      · refine goOff ha rfl rfl rfl rfl hc5 fun a ha => ?_
        refine goOff ha rfl rfl rfl rfl hc5 fun a ha => ?_
        refine goOff ha rfl rfl rfl rfl hc5 fun a ha => ?_
        refine goOn1 ha rfl rfl rfl rfl hc4 (d_pickF ha rfl hc5 rfl) fun a ha => ?_
        refine goOn1 ha rfl rfl rfl rfl hc4 (d_move ha rfl) fun a ha => ?_
        refine goOff ha rfl rfl rfl rfl rfl fun a ha => ?_
        refine goOff ha rfl rfl rfl rfl rfl fun a ha => ?_
        refine goOff ha rfl rfl rfl rfl rfl fun a ha => ?_
        refine goOff ha rfl rfl rfl rfl rfl fun a ha => ?_
        refine goOn1 ha rfl rfl rfl rfl hc4 (d_pickF ha rfl rfl rfl) fun a ha => ?_
        refine go1 ha rfl (d_pickF ha rfl hc4 rfl) fun a ha => ?_
        refine nil_ ?_
        refine hK9 _ _ ?_
        have ha := ha.to (l' := [(42, _)]) rfl
        refine wcond_f ha rfl rfl ?_
        refine wp_skip ?_
        refine hK8 _ _ ?_
        have ha := ha.to (l' := []) rfl
        refine wp_seq_k (fun K14 hK14 => ?_)
        refine wreg ?_
        obtain ⟨t10, ht10, hF⟩ := bind_elim hF
        refine goR ha rfl (d_call Try.call10 ha (vs := []) rfl (warderlaw02_known_c k   (Av [some ⟨b3, 0, none⟩, some ⟨b2, 0, none⟩, some ⟨b1, 0, none⟩] W) _ (Ex.wlt (as0 := []) (rr := []) (ro := [some ⟨b3, 0, none⟩, some ⟨b2, 0, none⟩, some ⟨b1, 0, none⟩]) hE hW)  _ ht10)) fun v w14 a h ha => ?_
        obtain ⟨rfl, hC⟩ := h
        have hs : Step [some ⟨b3, 0, none⟩, some ⟨b2, 0, none⟩, some ⟨b1, 0, none⟩] [some ⟨b3, 0, none⟩, some ⟨b2, 0, none⟩, some ⟨b1, 0, none⟩] w9 w14 := hC.callStep [some ⟨b3, 0, none⟩, some ⟨b2, 0, none⟩, some ⟨b1, 0, none⟩]
        have x3 := x3.keep hC.fr ((Ex.callOff (as0 := []) (rt := [some ⟨b3, 0, none⟩, some ⟨b2, 0, none⟩, some ⟨b1, 0, none⟩]) hE (u := some ⟨b3, 0, none⟩) (by simp)) _ rfl)
        have x2 := x2.keep hC.fr ((Ex.callOff (as0 := []) (rt := [some ⟨b3, 0, none⟩, some ⟨b2, 0, none⟩, some ⟨b1, 0, none⟩]) hE (u := some ⟨b2, 0, none⟩) (by simp)) _ rfl)
        have x1 := x1.keep hC.fr ((Ex.callOff (as0 := []) (rt := [some ⟨b3, 0, none⟩, some ⟨b2, 0, none⟩, some ⟨b1, 0, none⟩]) hE (u := some ⟨b1, 0, none⟩) (by simp)) _ rfl)
        have hE : Ex w (Av [] No) [some ⟨b3, 0, none⟩, some ⟨b2, 0, none⟩, some ⟨b1, 0, none⟩] w14 := Ex.call (as0 := []) (rt := [some ⟨b3, 0, none⟩, some ⟨b2, 0, none⟩, some ⟨b1, 0, none⟩]) hE hC
        refine go1 ha rfl (d_assign ha rfl) fun a ha => ?_
        refine nil_ ?_
        refine hK14 _ _ ?_
        have ha := ha.to (l' := [(6, _)]) rfl
        refine wp_ret ?_
        have hs : Step [some ⟨b3, 0, none⟩, some ⟨b2, 0, none⟩, some ⟨b1, 0, none⟩] [] w14 w14 := Step.pick _ _ []
        have hE : Ex w (Av [] No) [] w14 := hE.pick [] (by decide)
        injection hF with hF
        subst hF
        refine fin1 ha Try.results8 rfl ?_
        exact ⟨rfl, hE⟩
  · intro K3 hK3
    refine wp_seq_k (fun K4 hK4 => ?_)
    refine wreg ?_
    refine go1 ha rfl (d_fieldAddr (o' := 1) ha rfl Try.underlying29 rfl Try.sizeOf9 rfl) fun a ha => ?_
    refine go1 ha rfl (d_load ha rfl (x1.at_.cell 1 rfl) Try.isAgg9) fun a ha => ?_
    refine go1 ha rfl (d_lenString ha Try.underlying9 rfl) fun a ha => ?_
    refine go1 ha rfl (d_gt ha rfl rfl) fun a ha => ?_
    refine go1 ha rfl (d_move ha rfl) fun a ha => ?_
    rcases ite_elim hF with ⟨hc1, hF⟩ | ⟨hc1, hF⟩
    · refine goOff ha rfl rfl rfl rfl (decide_eq_true hc1) fun a ha => ?_
      refine goOff ha rfl rfl rfl rfl (decide_eq_true hc1) fun a ha => ?_
      refine goOff ha rfl rfl rfl rfl (decide_eq_true hc1) fun a ha => ?_
      refine goOff ha rfl rfl rfl rfl (decide_eq_true hc1) fun a ha => ?_
      refine go1 ha rfl (d_pick ha rfl (decide_eq_true hc1) rfl) fun a ha => ?_
      refine go1 ha rfl (d_move ha rfl) fun a ha => ?_
      refine goOff ha rfl rfl rfl rfl rfl fun a ha => ?_
      refine goOff ha rfl rfl rfl rfl rfl fun a ha => ?_
      refine goOff ha rfl rfl rfl rfl rfl fun a ha => ?_
      refine goOff ha rfl rfl rfl rfl rfl fun a ha => ?_
      refine go1 ha rfl (d_pick ha rfl rfl rfl) fun a ha => ?_
      refine nil_ ?_
      refine hK4 _ _ ?_
      have ha := ha.to (l' := [(3, _), (4, _), (5, _), (22, _)]) rfl
      refine wcond_t ha rfl rfl ?_
      refine wp_seq_k (fun K5 hK5 => ?_)
      refine wreg ?_
      obtain ⟨t1, ht1, hF⟩ := bind_elim hF
      refine goR ha rfl (d_call Try.call10 ha (vs := []) rfl (warderlaw02_known_c k   (Av [some ⟨b3, 0, none⟩, some ⟨b2, 0, none⟩, some ⟨b1, 0, none⟩] W) _ (Ex.wlt (as0 := []) (rr := []) (ro := [some ⟨b3, 0, none⟩, some ⟨b2, 0, none⟩, some ⟨b1, 0, none⟩]) hE hW)  _ ht1)) fun v w4 a h ha => ?_
      obtain ⟨rfl, hC⟩ := h
      have hs : Step [some ⟨b3, 0, none⟩, some ⟨b2, 0, none⟩, some ⟨b1, 0, none⟩] [some ⟨b3, 0, none⟩, some ⟨b2, 0, none⟩, some ⟨b1, 0, none⟩] w3 w4 := hC.callStep [some ⟨b3, 0, none⟩, some ⟨b2, 0, none⟩, some ⟨b1, 0, none⟩]
      have x3 := x3.keep hC.fr ((Ex.callOff (as0 := []) (rt := [some ⟨b3, 0, none⟩, some ⟨b2, 0, none⟩, some ⟨b1, 0, none⟩]) hE (u := some ⟨b3, 0, none⟩) (by simp)) _ rfl)
      have x2 := x2.keep hC.fr ((Ex.callOff (as0 := []) (rt := [some ⟨b3, 0, none⟩, some ⟨b2, 0, none⟩, some ⟨b1, 0, none⟩]) hE (u := some ⟨b2, 0, none⟩) (by simp)) _ rfl)
      have x1 := x1.keep hC.fr ((Ex.callOff (as0 := []) (rt := [some ⟨b3, 0, none⟩, some ⟨b2, 0, none⟩, some ⟨b1, 0, none⟩]) hE (u := some ⟨b1, 0, none⟩) (by simp)) _ rfl)
      have hE : Ex w (Av [] No) [some ⟨b3, 0, none⟩, some ⟨b2, 0, none⟩, some ⟨b1, 0, none⟩] w4 := Ex.call (as0 := []) (rt := [some ⟨b3, 0, none⟩, some ⟨b2, 0, none⟩, some ⟨b1, 0, none⟩]) hE hC
      refine go1 ha rfl (d_assign ha rfl) fun a ha => ?_
      refine nil_ ?_
      refine hK5 _ _ ?_
      have ha := ha.to (l' := [(6, _)]) rfl
      refine wp_ret ?_
      have hs : Step [some ⟨b3, 0, none⟩, some ⟨b2, 0, none⟩, some ⟨b1, 0, none⟩] [] w4 w4 := Step.pick _ _ []
      have hE : Ex w (Av [] No) [] w4 := hE.pick [] (by decide)
      injection hF with hF
      subst hF
      refine fin1 ha Try.results8 rfl ?_
      exact ⟨rfl, hE⟩
    · refine goOn1 ha rfl rfl rfl rfl (decide_eq_false hc1) (d_fieldAddr (o' := 1) ha rfl Try.underlying29 rfl Try.sizeOf9 rfl) fun a ha => ?_
      refine goOn1 ha rfl rfl rfl rfl (decide_eq_false hc1) (d_load ha rfl (x2.at_.cell 1 rfl) Try.isAgg9) fun a ha => ?_
      refine goOn1 ha rfl rfl rfl rfl (decide_eq_false hc1) (d_lenString ha Try.underlying9 rfl) fun a ha => ?_
      refine goOn1 ha rfl rfl rfl rfl (decide_eq_false hc1) (d_gt ha rfl rfl) fun a ha => ?_
      refine go1 ha rfl (d_pickF ha rfl (decide_eq_false hc1) rfl) fun a ha => ?_
      refine go1 ha rfl (d_move ha rfl) fun a ha => ?_
      rcases ite_elim hF with ⟨hc2, hF⟩ | ⟨hc2, hF⟩
      · refine goOff ha rfl rfl rfl rfl (decide_eq_true hc2) fun a ha => ?_
        refine goOff ha rfl rfl rfl rfl (decide_eq_true hc2) fun a ha => ?_
        refine goOff ha rfl rfl rfl rfl (decide_eq_true hc2) fun a ha => ?_
        refine goOff ha rfl rfl rfl rfl (decide_eq_true hc2) fun a ha => ?_
        refine go1 ha rfl (d_pick ha rfl (decide_eq_true hc2) rfl) fun a ha => ?_
        refine nil_ ?_
        refine hK4 _ _ ?_
        have ha := ha.to (l' := [(3, _), (4, _), (5, _), (22, _)]) rfl
        refine wcond_t ha rfl rfl ?_
        refine wp_seq_k (fun K6 hK6 => ?_)
        refine wreg ?_
        obtain ⟨t2, ht2, hF⟩ := bind_elim hF
        refine goR ha rfl (d_call Try.call10 ha (vs := []) rfl (warderlaw02_known_c k   (Av [some ⟨b3, 0, none⟩, some ⟨b2, 0, none⟩, some ⟨b1, 0, none⟩] W) _ (Ex.wlt (as0 := []) (rr := []) (ro := [some ⟨b3, 0, none⟩, some ⟨b2, 0, none⟩, some ⟨b1, 0, none⟩]) hE hW)  _ ht2)) fun v w5 a h ha => ?_
        obtain ⟨rfl, hC⟩ := h
        have hs : Step [some ⟨b3, 0, none⟩, some ⟨b2, 0, none⟩, some ⟨b1, 0, none⟩] [some ⟨b3, 0, none⟩, some ⟨b2, 0, none⟩, some ⟨b1, 0, none⟩] w3 w5 := hC.callStep [some ⟨b3, 0, none⟩, some ⟨b2, 0, none⟩, some ⟨b1, 0, none⟩]
        have x3 := x3.keep hC.fr ((Ex.callOff (as0 := []) (rt := [some ⟨b3, 0, none⟩, some ⟨b2, 0, none⟩, some ⟨b1, 0, none⟩]) hE (u := some ⟨b3, 0, none⟩) (by simp)) _ rfl)
        have x2 := x2.keep hC.fr ((Ex.callOff (as0 := []) (rt := [some ⟨b3, 0, none⟩, some ⟨b2, 0, none⟩, some ⟨b1, 0, none⟩]) hE (u := some ⟨b2, 0, none⟩) (by simp)) _ rfl)
        have x1 := x1.keep hC.fr ((Ex.callOff (as0 := []) (rt := [some ⟨b3, 0, none⟩, some ⟨b2, 0, none⟩, some ⟨b1, 0, none⟩]) hE (u := some ⟨b1, 0, none⟩) (by simp)) _ rfl)
        have hE : Ex w (Av [] No) [some ⟨b3, 0, none⟩, some ⟨b2, 0, none⟩, some ⟨b1, 0, none⟩] w5 := Ex.call (as0 := []) (rt := [some ⟨b3, 0, none⟩, some ⟨b2, 0, none⟩, some ⟨b1, 0, none⟩]) hE hC
        refine go1 ha rfl (d_assign ha rfl) fun a ha => ?_
        refine nil_ ?_
        refine hK6 _ _ ?_
        have ha := ha.to (l' := [(6, _)]) rfl
        refine wp_ret ?_
        have hs : Step [some ⟨b3, 0, none⟩, some ⟨b2, 0, none⟩, some ⟨b1, 0, none⟩] [] w5 w5 := Step.pick _ _ []
        have hE : Ex w (Av [] No) [] w5 := hE.pick [] (by decide)
        injection hF with hF
        subst hF
        refine fin1 ha Try.results8 rfl ?_
        exact ⟨rfl, hE⟩
      · refine goOn1 ha rfl rfl rfl rfl (decide_eq_false hc2) (d_fieldAddr (o' := 1) ha rfl Try.underlying29 rfl Try.sizeOf9 rfl) fun a ha => ?_
        refine goOn1 ha rfl rfl rfl rfl (decide_eq_false hc2) (d_load ha rfl (x3.at_.cell 1 rfl) Try.isAgg9) fun a ha => ?_
        refine goOn1 ha rfl rfl rfl rfl (decide_eq_false hc2) (d_lenString ha Try.underlying9 rfl) fun a ha => ?_
        refine goOn1 ha rfl rfl rfl rfl (decide_eq_false hc2) (d_gt ha rfl rfl) fun a ha => ?_
        refine go1 ha rfl (d_pickF ha rfl (decide_eq_false hc2) rfl) fun a ha => ?_
        refine nil_ ?_
        refine hK4 _ _ ?_
        have ha := ha.to (l' := [(3, _), (4, _), (5, _), (22, _)]) rfl
        rcases ite_elim hF with ⟨hc3, hF⟩ | ⟨hc3, hF⟩
        · refine wcond_t ha rfl (decide_eq_true hc3) ?_
          refine wp_seq_k (fun K7 hK7 => ?_)
          refine wreg ?_
          obtain ⟨t3, ht3, hF⟩ := bind_elim hF
          refine goR ha rfl (d_call Try.call10 ha (vs := []) rfl (warderlaw02_known_c k   (Av [some ⟨b3, 0, none⟩, some ⟨b2, 0, none⟩, some ⟨b1, 0, none⟩] W) _ (Ex.wlt (as0 := []) (rr := []) (ro := [some ⟨b3, 0, none⟩, some ⟨b2, 0, none⟩, some ⟨b1, 0, none⟩]) hE hW)  _ ht3)) fun v w6 a h ha => ?_
          obtain ⟨rfl, hC⟩ := h
          have hs : Step [some ⟨b3, 0, none⟩, some ⟨b2, 0, none⟩, some ⟨b1, 0, none⟩] [some ⟨b3, 0, none⟩, some ⟨b2, 0, none⟩, some ⟨b1, 0, none⟩] w3 w6 := hC.callStep [some ⟨b3, 0, none⟩, some ⟨b2, 0, none⟩, some ⟨b1, 0, none⟩]
          have x3 := x3.keep hC.fr ((Ex.callOff (as0 := []) (rt := [some ⟨b3, 0, none⟩, some ⟨b2, 0, none⟩, some ⟨b1, 0, none⟩]) hE (u := some ⟨b3, 0, none⟩) (by simp)) _ rfl)
          have x2 := x2.keep hC.fr ((Ex.callOff (as0 := []) (rt := [some ⟨b3, 0, none⟩, some ⟨b2, 0, none⟩, some ⟨b1, 0, none⟩]) hE (u := some ⟨b2, 0, none⟩) (by simp)) _ rfl)
          have x1 := x1.keep hC.fr ((Ex.callOff (as0 := []) (rt := [some ⟨b3, 0, none⟩, some ⟨b2, 0, none⟩, some ⟨b1, 0, none⟩]) hE (u := some ⟨b1, 0, none⟩) (by simp)) _ rfl)
          have hE : Ex w (Av [] No) [some ⟨b3, 0, none⟩, some ⟨b2, 0, none⟩, some ⟨b1, 0, none⟩] w6 := Ex.call (as0 := []) (rt := [some ⟨b3, 0, none⟩, some ⟨b2, 0, none⟩, some ⟨b1, 0, none⟩]) hE hC
          refine go1 ha rfl (d_assign ha rfl) fun a ha => ?_
          refine nil_ ?_
          refine hK7 _ _ ?_
          have ha := ha.to (l' := [(6, _)]) rfl
          refine wp_ret ?_
          have hs : Step [some ⟨b3, 0, none⟩, some ⟨b2, 0, none⟩, some ⟨b1, 0, none⟩] [] w6 w6 := Step.pick _ _ []
          have hE : Ex w (Av [] No) [] w6 := hE.pick [] (by decide)
          injection hF with hF
          subst hF
          refine fin1 ha Try.results8 rfl ?_
          exact ⟨rfl, hE⟩
        · refine wcond_f ha rfl (decide_eq_false hc3) ?_
          refine wp_skip ?_
          exact hK3 _ _ ⟨ha.to rfl, hE, x1, x2, x3, hF⟩

def warderlaw02_NibbleNil (k : Nat)  : Option (Bool) :=
  ((nibble_Read k []).bind fun t1 => ((nibble_Of k (0 : Int) (⟨#[]⟩ : ByteArray)).bind fun t2 => (if (t2.length : Int) = (0 : Int) then (if t1.2 = (16 : Int) then ((nibble_Diff k [] []).bind fun t3 => (if t3 = (-1 : Int) then ((nibble_Diff k [] ([(0 : Int)] : List (Int))).bind fun t4 => (if t4 = (0 : Int) then ((nibble_Text k []).bind fun t5 => (if t5 = (⟨#[]⟩ : ByteArray) then ((nibble_May k (1 : Int) (⟨#[]⟩ : ByteArray)).bind fun t6 => (bif !t6 then ((nibble_Less k (0 : Int) (⟨#[]⟩ : ByteArray) (0 : Int) (⟨#[]⟩ : ByteArray)).bind fun t7 => (bif !t7 then ((nibble_Less k (0 : Int) (⟨#[]⟩ : ByteArray) (1 : Int) (⟨#[97]⟩ : ByteArray)).bind fun t8 => (bif t8 then ((warderlaw02_known k ).bind fun t9 => (some t9)) else (some false))) else (some false))) else (some false))) else (some false))) else (some false))) else (some false))) else (some false)) else (some false))))

set_option maxHeartbeats 4000000 in
set_option maxRecDepth 100000 in
theorem warderlaw02_NibbleNil_c (k : Nat)   (W : Nat → Prop) (w : World) (hW : ∀ k, W k → k < w.heap.size) (r : Bool) (hF : warderlaw02_NibbleNil k  = some r) :
    Calls Try.prog 9 [].toArray w (Ret fun v w' => v = .bool r ∧ Ex w (Av [] No) [] w') := by
  unfold warderlaw02_NibbleNil at hF
  refine enter [] Try.func9 rfl Try.ntmps9 rfl rfl fun a ha => ?_
  have hE : Ex w (Av [] No) [] w := Ex.refl w _
  have hW0 : ∀ p, some p ∈ ([] : List (Option Addr)) → ¬ W p.block := fun _ h => by cases h
  refine wp_seq_k (fun K1 hK1 => ?_)
  refine wreg ?_
  refine go1 ha rfl (d_assign ha rfl) fun a ha => ?_
  refine nil_ ?_
  refine hK1 _ _ ?_
  have ha := ha.to (l' := []) rfl
  refine wp_seq_k (fun K2 hK2 => ?_)
  refine wreg ?_
  obtain ⟨t1, ht1, hF⟩ := bind_elim hF
  refine goR ha rfl (d_call Try.call21 ha (vs := [.slice none 0 0]) rfl (nibble_Read_c k [] _ _ (Av [] W) _ (Ex.wlt (as0 := []) (rr := []) (ro := []) hE hW) (Raw.nil _ _ _ none 0 (Nat.zero_le _)) _ ht1)) fun v w1 a h ha => ?_
  obtain ⟨rfl, hC⟩ := h
  have hs : Step [] [] w w1 := hC.callStep []
  have hE : Ex w (Av [] No) [] w1 := Ex.call (as0 := []) (rt := []) hE hC
  refine go1 ha rfl (d_move ha rfl) fun a ha => ?_
  refine go1 ha rfl (d_extract ha rfl rfl) fun a ha => ?_
  refine go1 ha rfl (d_extract ha rfl rfl) fun a ha => ?_
  refine goR ha rfl (d_alloc (cs := [.int .i64 (0 : Int), .string (⟨#[]⟩ : ByteArray)]) Try.zeroValue29 rfl) fun v w2 a h ha => ?_
  obtain ⟨b1, rfl, hb, hl, x1, hf⟩ := h
  have hs := Step.addB [] hf hb
  have hE := hE.addB hf hb hl
  refine goR0 ha (d_store (cs := [.int .i64 (0 : Int), .string (⟨#[]⟩ : ByteArray)]) (vs := [.int .i64 t1.1.1, .string t1.1.2]) ha rfl rfl x1 rfl (by simp [Value.oneCell']) Try.sizeOf29 rfl (Nat.le_of_ble_eq_true rfl)) fun v w3 a h ha => ?_
  obtain ⟨x1, hf⟩ := h
  have hf := hf.blk1
  have hs := hE.stepAt 0 rfl hf
  have hE := hE.wroteAt 0 rfl hf
  have x1 : Bx w3 b1 29 [.int .i64 t1.1.1, .string t1.1.2] := x1
  refine go1 ha rfl (d_assign ha rfl) fun a ha => ?_
  refine nil_ ?_
  refine hK2 _ _ ?_
  have ha := ha.to (l' := [(2, _)]) rfl
  refine wp_seq_k (fun K3 hK3 => ?_)
  refine wreg ?_
  refine go1 ha rfl (d_build (vs := []) (cs := [.int .i64 (0 : Int), .string (⟨#[]⟩ : ByteArray)]) ha (fun w => run_build w 29 _ _ (by kernel_rfl)) rfl) fun a ha => ?_
  obtain ⟨t2, ht2, hF⟩ := bind_elim hF
  refine goR ha rfl (d_call Try.call15 ha (vs := [.agg #[.int .i64 (0 : Int), .string (⟨#[]⟩ : ByteArray)]]) rfl (nibble_Of_c k (0 : Int) (⟨#[]⟩ : ByteArray)  (Av [some ⟨b1, 0, none⟩] W) _ (Ex.wlt (as0 := []) (rr := []) (ro := [some ⟨b1, 0, none⟩]) hE hW)  _ ht2)) fun v w4 a h ha => ?_
  obtain ⟨p1, c1, rfl, hC, o1⟩ := h
  have hs : Step [some ⟨b1, 0, none⟩] [p1, some ⟨b1, 0, none⟩] w3 w4 := hC.callStep [some ⟨b1, 0, none⟩]
  have x1 := x1.keep hC.fr ((Ex.callOff (as0 := []) (rt := [some ⟨b1, 0, none⟩]) hE (u := some ⟨b1, 0, none⟩) (by simp)) _ rfl)
  have o1 : Ow (Av [p1, some ⟨b1, 0, none⟩] W) w4 5 (Kd.int .u8) p1 c1 t2 := o1.alone (Kd.Flat.int _)
  have hE : Ex w (Av [] No) [p1, some ⟨b1, 0, none⟩] w4 := Ex.call (as0 := []) (rt := [some ⟨b1, 0, none⟩]) hE hC
  refine go1 ha rfl (d_lenSlice ha Try.underlying22 rfl) fun a ha => ?_
  refine go1 ha rfl (d_eqI ha rfl rfl) fun a ha => ?_
  refine go1 ha rfl (d_move ha rfl) fun a ha => ?_
  rcases ite_elim hF with ⟨hc1, hF⟩ | ⟨hc1, hF⟩
  · refine goOn1 ha rfl rfl rfl rfl (decide_eq_true hc1) (d_move ha rfl) fun a ha => ?_
    refine goOn1 ha rfl rfl rfl rfl (decide_eq_true hc1) (d_eqI ha rfl rfl) fun a ha => ?_
    refine go1 ha rfl (d_pick ha rfl (decide_eq_true hc1) rfl) fun a ha => ?_
    refine go1 ha rfl (d_move ha rfl) fun a ha => ?_
    rcases ite_elim hF with ⟨hc2, hF⟩ | ⟨hc2, hF⟩
    · obtain ⟨t3, ht3, hF⟩ := bind_elim hF
      refine goOnR ha rfl rfl rfl rfl (decide_eq_true hc2) (d_call Try.call11 ha (vs := [.slice none 0 0, .slice none 0 0]) rfl (nibble_Diff_c k [] [] _ _ _ _ (Av [p1, some ⟨b1, 0, none⟩] W) _ (Ex.wlt (as0 := []) (rr := []) (ro := [p1, some ⟨b1, 0, none⟩]) hE hW) (Raw.nil _ _ _ none 0 (Nat.zero_le _)) (Raw.nil _ _ _ none 0 (Nat.zero_le _)) _ ht3)) fun v w5 a h ha => ?_
      obtain ⟨rfl, hC⟩ := h
      have hs : Step [p1, some ⟨b1, 0, none⟩] [p1, some ⟨b1, 0, none⟩] w4 w5 := hC.callStep [p1, some ⟨b1, 0, none⟩]
      have o1 := o1.keep hC.fr (Ex.callOff (as0 := []) (rt := [p1, some ⟨b1, 0, none⟩]) hE (u := p1) (by simp)) (fun _ _ h => hs.trK h)
      have x1 := x1.keep hC.fr ((Ex.callOff (as0 := []) (rt := [p1, some ⟨b1, 0, none⟩]) hE (u := some ⟨b1, 0, none⟩) (by simp)) _ rfl)
      have hE : Ex w (Av [] No) [p1, some ⟨b1, 0, none⟩] w5 := Ex.call (as0 := []) (rt := [p1, some ⟨b1, 0, none⟩]) hE hC
      refine goOn1 ha rfl rfl rfl rfl (decide_eq_true hc2) (d_eqI ha rfl rfl) fun a ha => ?_
      refine go1 ha rfl (d_pick ha rfl (decide_eq_true hc2) rfl) fun a ha => ?_
      refine go1 ha rfl (d_move ha rfl) fun a ha => ?_
      rcases ite_elim hF with ⟨hc3, hF⟩ | ⟨hc3, hF⟩
      · refine goOnR ha rfl rfl rfl rfl (decide_eq_true hc3) (d_buildSlice (B := W) (kd := (Kd.int .u8)) (xs := ([(0 : Int)] : List (Int))) (vs := [.int .u8 (0 : Int)]) ha Try.underlying22 Try.sizeOf5 Try.zeroValue5 rfl (Els.cons (c := [.int .u8 (0 : Int)]) (rfl) Els.nil) (by simp [Value.cells, Kd.int, Kd.scalar, Kd.bool, Kd.str, Kd.pair, Kd.sl]) rfl rfl (by decide) (by decide) hE) fun v w6 a h ha => ?_
        obtain ⟨p2, c2, rfl, hs, hE, hf, o2⟩ := h
        have o1 := o1.keep hf (fun _ _ h => h) (fun _ _ h => hs.trK h)
        have x1 := x1.stay hf
        obtain ⟨t4, ht4, hF⟩ := bind_elim hF
        refine goOnR ha rfl rfl rfl rfl (decide_eq_true hc3) (d_call Try.call11 ha (vs := [.slice none 0 0, .slice p2 ([(0 : Int)] : List (Int)).length c2]) rfl (nibble_Diff_c k [] ([(0 : Int)] : List (Int)) _ _ _ _ (Av [p1, some ⟨b1, 0, none⟩] W) _ (Ex.wlt (as0 := []) (rr := [p2]) (ro := [p1, some ⟨b1, 0, none⟩]) hE hW) (Raw.nil _ _ _ none 0 (Nat.zero_le _)) (Ow.argR (as0 := []) (rr := [p2]) (ro := [p1, some ⟨b1, 0, none⟩]) o2 hE hW hW0 (by simp)) _ ht4)) fun v w7 a h ha => ?_
        obtain ⟨rfl, hC⟩ := h
        have hs : Step [p2, p1, some ⟨b1, 0, none⟩] [p2, p1, some ⟨b1, 0, none⟩] w6 w7 := hC.callStep [p2, p1, some ⟨b1, 0, none⟩]
        have o2 := o2.keep hC.fr (Ex.callOff (as0 := []) (rt := [p2, p1, some ⟨b1, 0, none⟩]) hE (u := p2) (by simp)) (fun _ _ h => hs.trK h)
        have o1 := o1.keep hC.fr (Ex.callOff (as0 := []) (rt := [p2, p1, some ⟨b1, 0, none⟩]) hE (u := p1) (by simp)) (fun _ _ h => hs.trK h)
        have x1 := x1.keep hC.fr ((Ex.callOff (as0 := []) (rt := [p2, p1, some ⟨b1, 0, none⟩]) hE (u := some ⟨b1, 0, none⟩) (by simp)) _ rfl)
        have hE : Ex w (Av [] No) [p2, p1, some ⟨b1, 0, none⟩] w7 := Ex.call (as0 := []) (rt := [p2, p1, some ⟨b1, 0, none⟩]) hE hC
        refine goOn1 ha rfl rfl rfl rfl (decide_eq_true hc3) (d_eqI ha rfl rfl) fun a ha => ?_
        refine go1 ha rfl (d_pick ha rfl (decide_eq_true hc3) rfl) fun a ha => ?_
        refine go1 ha rfl (d_move ha rfl) fun a ha => ?_
        rcases ite_elim hF with ⟨hc4, hF⟩ | ⟨hc4, hF⟩
        · obtain ⟨t5, ht5, hF⟩ := bind_elim hF
          refine goOnR ha rfl rfl rfl rfl (decide_eq_true hc4) (d_call Try.call13 ha (vs := [.slice none 0 0]) rfl (nibble_Text_c k [] _ _ (Av [p2, p1, some ⟨b1, 0, none⟩] W) _ (Ex.wlt (as0 := []) (rr := []) (ro := [p2, p1, some ⟨b1, 0, none⟩]) hE hW) (Raw.nil _ _ _ none 0 (Nat.zero_le _)) _ ht5)) fun v w8 a h ha => ?_
          obtain ⟨rfl, hC⟩ := h
          have hs : Step [p2, p1, some ⟨b1, 0, none⟩] [p2, p1, some ⟨b1, 0, none⟩] w7 w8 := hC.callStep [p2, p1, some ⟨b1, 0, none⟩]
          have o2 := o2.keep hC.fr (Ex.callOff (as0 := []) (rt := [p2, p1, some ⟨b1, 0, none⟩]) hE (u := p2) (by simp)) (fun _ _ h => hs.trK h)
          have o1 := o1.keep hC.fr (Ex.callOff (as0 := []) (rt := [p2, p1, some ⟨b1, 0, none⟩]) hE (u := p1) (by simp)) (fun _ _ h => hs.trK h)
          have x1 := x1.keep hC.fr ((Ex.callOff (as0 := []) (rt := [p2, p1, some ⟨b1, 0, none⟩]) hE (u := some ⟨b1, 0, none⟩) (by simp)) _ rfl)
          have hE : Ex w (Av [] No) [p2, p1, some ⟨b1, 0, none⟩] w8 := Ex.call (as0 := []) (rt := [p2, p1, some ⟨b1, 0, none⟩]) hE hC
          refine goOn1 ha rfl rfl rfl rfl (decide_eq_true hc4) (d_eqS ha rfl rfl) fun a ha => ?_
          refine go1 ha rfl (d_pick ha rfl (decide_eq_true hc4) rfl) fun a ha => ?_
          refine go1 ha rfl (d_move ha rfl) fun a ha => ?_
          rcases ite_elim hF with ⟨hc5, hF⟩ | ⟨hc5, hF⟩
          · refine goOn1 ha rfl rfl rfl rfl (decide_eq_true hc5) (d_build (vs := [(0, .int .i64 (1 : Int))]) (cs := [.int .i64 (1 : Int), .string (⟨#[]⟩ : ByteArray)]) ha (fun w => run_build w 29 _ _ (by kernel_rfl)) rfl) fun a ha => ?_
            obtain ⟨t6, ht6, hF⟩ := bind_elim hF
            refine goOnR ha rfl rfl rfl rfl (decide_eq_true hc5) (d_call Try.call16 ha (vs := [.agg #[.int .i64 (1 : Int), .string (⟨#[]⟩ : ByteArray)]]) rfl (nibble_May_c k (1 : Int) (⟨#[]⟩ : ByteArray)  (Av [p2, p1, some ⟨b1, 0, none⟩] W) _ (Ex.wlt (as0 := []) (rr := []) (ro := [p2, p1, some ⟨b1, 0, none⟩]) hE hW)  _ ht6)) fun v w9 a h ha => ?_
            obtain ⟨rfl, hC⟩ := h
            have hs : Step [p2, p1, some ⟨b1, 0, none⟩] [p2, p1, some ⟨b1, 0, none⟩] w8 w9 := hC.callStep [p2, p1, some ⟨b1, 0, none⟩]
            have o2 := o2.keep hC.fr (Ex.callOff (as0 := []) (rt := [p2, p1, some ⟨b1, 0, none⟩]) hE (u := p2) (by simp)) (fun _ _ h => hs.trK h)
            have o1 := o1.keep hC.fr (Ex.callOff (as0 := []) (rt := [p2, p1, some ⟨b1, 0, none⟩]) hE (u := p1) (by simp)) (fun _ _ h => hs.trK h)
            have x1 := x1.keep hC.fr ((Ex.callOff (as0 := []) (rt := [p2, p1, some ⟨b1, 0, none⟩]) hE (u := some ⟨b1, 0, none⟩) (by simp)) _ rfl)
            have hE : Ex w (Av [] No) [p2, p1, some ⟨b1, 0, none⟩] w9 := Ex.call (as0 := []) (rt := [p2, p1, some ⟨b1, 0, none⟩]) hE hC
            refine goOn1 ha rfl rfl rfl rfl (decide_eq_true hc5) (d_not ha rfl) fun a ha => ?_
            refine go1 ha rfl (d_pick ha rfl (decide_eq_true hc5) rfl) fun a ha => ?_
            refine go1 ha rfl (d_move ha rfl) fun a ha => ?_
            rcases cond_elim hF with ⟨hc6, hF⟩ | ⟨hc6, hF⟩
            · refine goOn1 ha rfl rfl rfl rfl hc6 (d_build (vs := []) (cs := [.int .i64 (0 : Int), .string (⟨#[]⟩ : ByteArray)]) ha (fun w => run_build w 29 _ _ (by kernel_rfl)) rfl) fun a ha => ?_
              refine goOn1 ha rfl rfl rfl rfl hc6 (d_build (vs := []) (cs := [.int .i64 (0 : Int), .string (⟨#[]⟩ : ByteArray)]) ha (fun w => run_build w 29 _ _ (by kernel_rfl)) rfl) fun a ha => ?_
              obtain ⟨t7, ht7, hF⟩ := bind_elim hF
              refine goOnR ha rfl rfl rfl rfl hc6 (d_call Try.call23 ha (vs := [.agg #[.int .i64 (0 : Int), .string (⟨#[]⟩ : ByteArray)], .agg #[.int .i64 (0 : Int), .string (⟨#[]⟩ : ByteArray)]]) rfl (nibble_Less_c k (0 : Int) (⟨#[]⟩ : ByteArray) (0 : Int) (⟨#[]⟩ : ByteArray)  (Av [p2, p1, some ⟨b1, 0, none⟩] W) _ (Ex.wlt (as0 := []) (rr := []) (ro := [p2, p1, some ⟨b1, 0, none⟩]) hE hW)  _ ht7)) fun v w10 a h ha => ?_
              obtain ⟨rfl, hC⟩ := h
              have hs : Step [p2, p1, some ⟨b1, 0, none⟩] [p2, p1, some ⟨b1, 0, none⟩] w9 w10 := hC.callStep [p2, p1, some ⟨b1, 0, none⟩]
              have o2 := o2.keep hC.fr (Ex.callOff (as0 := []) (rt := [p2, p1, some ⟨b1, 0, none⟩]) hE (u := p2) (by simp)) (fun _ _ h => hs.trK h)
              have o1 := o1.keep hC.fr (Ex.callOff (as0 := []) (rt := [p2, p1, some ⟨b1, 0, none⟩]) hE (u := p1) (by simp)) (fun _ _ h => hs.trK h)
              have x1 := x1.keep hC.fr ((Ex.callOff (as0 := []) (rt := [p2, p1, some ⟨b1, 0, none⟩]) hE (u := some ⟨b1, 0, none⟩) (by simp)) _ rfl)
              have hE : Ex w (Av [] No) [p2, p1, some ⟨b1, 0, none⟩] w10 := Ex.call (as0 := []) (rt := [p2, p1, some ⟨b1, 0, none⟩]) hE hC
              refine goOn1 ha rfl rfl rfl rfl hc6 (d_not ha rfl) fun a ha => ?_
              refine go1 ha rfl (d_pick ha rfl hc6 rfl) fun a ha => ?_
              refine go1 ha rfl (d_move ha rfl) fun a ha => ?_
              rcases cond_elim hF with ⟨hc7, hF⟩ | ⟨hc7, hF⟩
              · refine goOn1 ha rfl rfl rfl rfl hc7 (d_build (vs := []) (cs := [.int .i64 (0 : Int), .string (⟨#[]⟩ : ByteArray)]) ha (fun w => run_build w 29 _ _ (by kernel_rfl)) rfl) fun a ha => ?_
                refine goOn1 ha rfl rfl rfl rfl hc7 (d_build (vs := [(0, .int .i64 (1 : Int)), (1, .string (⟨#[97]⟩ : ByteArray))]) (cs := [.int .i64 (1 : Int), .string (⟨#[97]⟩ : ByteArray)]) ha (fun w => run_build w 29 _ _ (by kernel_rfl)) rfl) fun a ha => ?_
                obtain ⟨t8, ht8, hF⟩ := bind_elim hF
                refine goOnR ha rfl rfl rfl rfl hc7 (d_call Try.call23 ha (vs := [.agg #[.int .i64 (0 : Int), .string (⟨#[]⟩ : ByteArray)], .agg #[.int .i64 (1 : Int), .string (⟨#[97]⟩ : ByteArray)]]) rfl (nibble_Less_c k (0 : Int) (⟨#[]⟩ : ByteArray) (1 : Int) (⟨#[97]⟩ : ByteArray)  (Av [p2, p1, some ⟨b1, 0, none⟩] W) _ (Ex.wlt (as0 := []) (rr := []) (ro := [p2, p1, some ⟨b1, 0, none⟩]) hE hW)  _ ht8)) fun v w11 a h ha => ?_
                obtain ⟨rfl, hC⟩ := h
                have hs : Step [p2, p1, some ⟨b1, 0, none⟩] [p2, p1, some ⟨b1, 0, none⟩] w10 w11 := hC.callStep [p2, p1, some ⟨b1, 0, none⟩]
                have o2 := o2.keep hC.fr (Ex.callOff (as0 := []) (rt := [p2, p1, some ⟨b1, 0, none⟩]) hE (u := p2) (by simp)) (fun _ _ h => hs.trK h)
                have o1 := o1.keep hC.fr (Ex.callOff (as0 := []) (rt := [p2, p1, some ⟨b1, 0, none⟩]) hE (u := p1) (by simp)) (fun _ _ h => hs.trK h)
                have x1 := x1.keep hC.fr ((Ex.callOff (as0 := []) (rt := [p2, p1, some ⟨b1, 0, none⟩]) hE (u := some ⟨b1, 0, none⟩) (by simp)) _ rfl)
                have hE : Ex w (Av [] No) [p2, p1, some ⟨b1, 0, none⟩] w11 := Ex.call (as0 := []) (rt := [p2, p1, some ⟨b1, 0, none⟩]) hE hC
                refine go1 ha rfl (d_pick ha rfl hc7 rfl) fun a ha => ?_
                refine go1 ha rfl (d_move ha rfl) fun a ha => ?_
                rcases cond_elim hF with ⟨hc8, hF⟩ | ⟨hc8, hF⟩
                · obtain ⟨t9, ht9, hF⟩ := bind_elim hF
                  refine goOnR ha rfl rfl rfl rfl hc8 (d_call Try.call10 ha (vs := []) rfl (warderlaw02_known_c k   (Av [p2, p1, some ⟨b1, 0, none⟩] W) _ (Ex.wlt (as0 := []) (rr := []) (ro := [p2, p1, some ⟨b1, 0, none⟩]) hE hW)  _ ht9)) fun v w12 a h ha => ?_
                  obtain ⟨rfl, hC⟩ := h
                  have hs : Step [p2, p1, some ⟨b1, 0, none⟩] [p2, p1, some ⟨b1, 0, none⟩] w11 w12 := hC.callStep [p2, p1, some ⟨b1, 0, none⟩]
                  have o2 := o2.keep hC.fr (Ex.callOff (as0 := []) (rt := [p2, p1, some ⟨b1, 0, none⟩]) hE (u := p2) (by simp)) (fun _ _ h => hs.trK h)
                  have o1 := o1.keep hC.fr (Ex.callOff (as0 := []) (rt := [p2, p1, some ⟨b1, 0, none⟩]) hE (u := p1) (by simp)) (fun _ _ h => hs.trK h)
                  have x1 := x1.keep hC.fr ((Ex.callOff (as0 := []) (rt := [p2, p1, some ⟨b1, 0, none⟩]) hE (u := some ⟨b1, 0, none⟩) (by simp)) _ rfl)
                  have hE : Ex w (Av [] No) [p2, p1, some ⟨b1, 0, none⟩] w12 := Ex.call (as0 := []) (rt := [p2, p1, some ⟨b1, 0, none⟩]) hE hC
                  refine go1 ha rfl (d_pick ha rfl hc8 rfl) fun a ha => ?_
                  refine go1 ha rfl (d_assign ha rfl) fun a ha => ?_
                  refine nil_ ?_
                  refine hK3 _ _ ?_
                  have ha := ha.to (l' := [(0, _)]) rfl
                  refine wp_ret ?_
                  have hs : Step [p2, p1, some ⟨b1, 0, none⟩] [] w12 w12 := Step.pick _ _ []
                  have hE : Ex w (Av [] No) [] w12 := hE.pick [] (by decide)
                  injection hF with hF
                  subst hF
                  refine fin1 ha Try.results9 rfl ?_
                  exact ⟨rfl, hE⟩
                · refine goOff ha rfl rfl rfl rfl hc8 fun a ha => ?_
                  refine go1 ha rfl (d_pickF ha rfl hc8 rfl) fun a ha => ?_
                  refine go1 ha rfl (d_assign ha rfl) fun a ha => ?_
                  refine nil_ ?_
                  refine hK3 _ _ ?_
                  have ha := ha.to (l' := [(0, _)]) rfl
                  refine wp_ret ?_
                  have hs : Step [p2, p1, some ⟨b1, 0, none⟩] [] w11 w11 := Step.pick _ _ []
                  have hE : Ex w (Av [] No) [] w11 := hE.pick [] (by decide)
                  injection hF with hF
                  subst hF
                  refine fin1 ha Try.results9 rfl ?_
                  exact ⟨rfl, hE⟩
              · refine goOff ha rfl rfl rfl rfl hc7 fun a ha => ?_
                refine goOff ha rfl rfl rfl rfl hc7 fun a ha => ?_
                refine goOff ha rfl rfl rfl rfl hc7 fun a ha => ?_
                refine go1 ha rfl (d_pickF ha rfl hc7 rfl) fun a ha => ?_
                refine go1 ha rfl (d_move ha rfl) fun a ha => ?_
                refine goOff ha rfl rfl rfl rfl rfl fun a ha => ?_
                refine go1 ha rfl (d_pickF ha rfl rfl rfl) fun a ha => ?_
                refine go1 ha rfl (d_assign ha rfl) fun a ha => ?_
                refine nil_ ?_
                refine hK3 _ _ ?_
                have ha := ha.to (l' := [(0, _)]) rfl
                refine wp_ret ?_
                have hs : Step [p2, p1, some ⟨b1, 0, none⟩] [] w10 w10 := Step.pick _ _ []
                have hE : Ex w (Av [] No) [] w10 := hE.pick [] (by decide)
                injection hF with hF
                subst hF
                refine fin1 ha Try.results9 rfl ?_
                exact ⟨rfl, hE⟩
            · refine goOff ha rfl rfl rfl rfl hc6 fun a ha => ?_
              refine goOff ha rfl rfl rfl rfl hc6 fun a ha => ?_
              refine goOff ha rfl rfl rfl rfl hc6 fun a ha => ?_
              refine goOff ha rfl rfl rfl rfl hc6 fun a ha => ?_
              refine go1 ha rfl (d_pickF ha rfl hc6 rfl) fun a ha => ?_
              refine go1 ha rfl (d_move ha rfl) fun a ha => ?_
              refine goOff ha rfl rfl rfl rfl rfl fun a ha => ?_
              refine goOff ha rfl rfl rfl rfl rfl fun a ha => ?_
              refine goOff ha rfl rfl rfl rfl rfl fun a ha => ?_
              refine go1 ha rfl (d_pickF ha rfl rfl rfl) fun a ha => ?_
              refine go1 ha rfl (d_move ha rfl) fun a ha => ?_
              refine goOff ha rfl rfl rfl rfl rfl fun a ha => ?_
              refine go1 ha rfl (d_pickF ha rfl rfl rfl) fun a ha => ?_
              refine go1 ha rfl (d_assign ha rfl) fun a ha => ?_
              refine nil_ ?_
              refine hK3 _ _ ?_
              have ha := ha.to (l' := [(0, _)]) rfl
              refine wp_ret ?_
              have hs : Step [p2, p1, some ⟨b1, 0, none⟩] [] w9 w9 := Step.pick _ _ []
              have hE : Ex w (Av [] No) [] w9 := hE.pick [] (by decide)
              injection hF with hF
              subst hF
              refine fin1 ha Try.results9 rfl ?_
              exact ⟨rfl, hE⟩
          · refine goOff ha rfl rfl rfl rfl (decide_eq_false hc5) fun a ha => ?_
            refine goOff ha rfl rfl rfl rfl (decide_eq_false hc5) fun a ha => ?_
            refine goOff ha rfl rfl rfl rfl (decide_eq_false hc5) fun a ha => ?_
            refine go1 ha rfl (d_pickF ha rfl (decide_eq_false hc5) rfl) fun a ha => ?_
            refine go1 ha rfl (d_move ha rfl) fun a ha => ?_
            refine goOff ha rfl rfl rfl rfl rfl fun a ha => ?_
            refine goOff ha rfl rfl rfl rfl rfl fun a ha => ?_
            refine goOff ha rfl rfl rfl rfl rfl fun a ha => ?_
            refine goOff ha rfl rfl rfl rfl rfl fun a ha => ?_
            refine go1 ha rfl (d_pickF ha rfl rfl rfl) fun a ha => ?_
            refine go1 ha rfl (d_move ha rfl) fun a ha => ?_
            refine goOff ha rfl rfl rfl rfl rfl fun a ha => ?_
            refine goOff ha rfl rfl rfl rfl rfl fun a ha => ?_
            refine goOff ha rfl rfl rfl rfl rfl fun a ha => ?_
            refine go1 ha rfl (d_pickF ha rfl rfl rfl) fun a ha => ?_
            refine go1 ha rfl (d_move ha rfl) fun a ha => ?_
            refine goOff ha rfl rfl rfl rfl rfl fun a ha => ?_
            refine go1 ha rfl (d_pickF ha rfl rfl rfl) fun a ha => ?_
            refine go1 ha rfl (d_assign ha rfl) fun a ha => ?_
            refine nil_ ?_
            refine hK3 _ _ ?_
            have ha := ha.to (l' := [(0, _)]) rfl
            refine wp_ret ?_
            have hs : Step [p2, p1, some ⟨b1, 0, none⟩] [] w8 w8 := Step.pick _ _ []
            have hE : Ex w (Av [] No) [] w8 := hE.pick [] (by decide)
            injection hF with hF
            subst hF
            refine fin1 ha Try.results9 rfl ?_
            exact ⟨rfl, hE⟩
        · refine goOff ha rfl rfl rfl rfl (decide_eq_false hc4) fun a ha => ?_
          refine goOff ha rfl rfl rfl rfl (decide_eq_false hc4) fun a ha => ?_
          refine go1 ha rfl (d_pickF ha rfl (decide_eq_false hc4) rfl) fun a ha => ?_
          refine go1 ha rfl (d_move ha rfl) fun a ha => ?_
          refine goOff ha rfl rfl rfl rfl rfl fun a ha => ?_
          refine goOff ha rfl rfl rfl rfl rfl fun a ha => ?_
          refine goOff ha rfl rfl rfl rfl rfl fun a ha => ?_
          refine go1 ha rfl (d_pickF ha rfl rfl rfl) fun a ha => ?_
          refine go1 ha rfl (d_move ha rfl) fun a ha => ?_
          refine goOff ha rfl rfl rfl rfl rfl fun a ha => ?_
          refine goOff ha rfl rfl rfl rfl rfl fun a ha => ?_
          refine goOff ha rfl rfl rfl rfl rfl fun a ha => ?_
          refine goOff ha rfl rfl rfl rfl rfl fun a ha => ?_
          refine go1 ha rfl (d_pickF ha rfl rfl rfl) fun a ha => ?_
          refine go1 ha rfl (d_move ha rfl) fun a ha => ?_
          refine goOff ha rfl rfl rfl rfl rfl fun a ha => ?_
          refine goOff ha rfl rfl rfl rfl rfl fun a ha => ?_
          refine goOff ha rfl rfl rfl rfl rfl fun a ha => ?_
          refine go1 ha rfl (d_pickF ha rfl rfl rfl) fun a ha => ?_
          refine go1 ha rfl (d_move ha rfl) fun a ha => ?_
          refine goOff ha rfl rfl rfl rfl rfl fun a ha => ?_
          refine go1 ha rfl (d_pickF ha rfl rfl rfl) fun a ha => ?_
          refine go1 ha rfl (d_assign ha rfl) fun a ha => ?_
          refine nil_ ?_
          refine hK3 _ _ ?_
          have ha := ha.to (l' := [(0, _)]) rfl
          refine wp_ret ?_
          have hs : Step [p2, p1, some ⟨b1, 0, none⟩] [] w7 w7 := Step.pick _ _ []
          have hE : Ex w (Av [] No) [] w7 := hE.pick [] (by decide)
          injection hF with hF
          subst hF
          refine fin1 ha Try.results9 rfl ?_
          exact ⟨rfl, hE⟩
      · refine goOff ha rfl rfl rfl rfl (decide_eq_false hc3) fun a ha => ?_
        refine goOff ha rfl rfl rfl rfl (decide_eq_false hc3) fun a ha => ?_
        refine goOff ha rfl rfl rfl rfl (decide_eq_false hc3) fun a ha => ?_
        refine go1 ha rfl (d_pickF ha rfl (decide_eq_false hc3) rfl) fun a ha => ?_
        refine go1 ha rfl (d_move ha rfl) fun a ha => ?_
        refine goOff ha rfl rfl rfl rfl rfl fun a ha => ?_
        refine goOff ha rfl rfl rfl rfl rfl fun a ha => ?_
        refine go1 ha rfl (d_pickF ha rfl rfl rfl) fun a ha => ?_
        refine go1 ha rfl (d_move ha rfl) fun a ha => ?_
        refine goOff ha rfl rfl rfl rfl rfl fun a ha => ?_
        refine goOff ha rfl rfl rfl rfl rfl fun a ha => ?_
        refine goOff ha rfl rfl rfl rfl rfl fun a ha => ?_
        refine go1 ha rfl (d_pickF ha rfl rfl rfl) fun a ha => ?_
        refine go1 ha rfl (d_move ha rfl) fun a ha => ?_
        refine goOff ha rfl rfl rfl rfl rfl fun a ha => ?_
        refine goOff ha rfl rfl rfl rfl rfl fun a ha => ?_
        refine goOff ha rfl rfl rfl rfl rfl fun a ha => ?_
        refine goOff ha rfl rfl rfl rfl rfl fun a ha => ?_
        refine go1 ha rfl (d_pickF ha rfl rfl rfl) fun a ha => ?_
        refine go1 ha rfl (d_move ha rfl) fun a ha => ?_
        refine goOff ha rfl rfl rfl rfl rfl fun a ha => ?_
        refine goOff ha rfl rfl rfl rfl rfl fun a ha => ?_
        refine goOff ha rfl rfl rfl rfl rfl fun a ha => ?_
        refine go1 ha rfl (d_pickF ha rfl rfl rfl) fun a ha => ?_
        refine go1 ha rfl (d_move ha rfl) fun a ha => ?_
        refine goOff ha rfl rfl rfl rfl rfl fun a ha => ?_
        refine go1 ha rfl (d_pickF ha rfl rfl rfl) fun a ha => ?_
        refine go1 ha rfl (d_assign ha rfl) fun a ha => ?_
        refine nil_ ?_
        refine hK3 _ _ ?_
        have ha := ha.to (l' := [(0, _)]) rfl
        refine wp_ret ?_
        have hs : Step [p1, some ⟨b1, 0, none⟩] [] w5 w5 := Step.pick _ _ []
        have hE : Ex w (Av [] No) [] w5 := hE.pick [] (by decide)
        injection hF with hF
        subst hF
        refine fin1 ha Try.results9 rfl ?_
        exact ⟨rfl, hE⟩
    · refine goOff ha rfl rfl rfl rfl (decide_eq_false hc2) fun a ha => ?_
      refine goOff ha rfl rfl rfl rfl (decide_eq_false hc2) fun a ha => ?_
      refine go1 ha rfl (d_pickF ha rfl (decide_eq_false hc2) rfl) fun a ha => ?_
      refine go1 ha rfl (d_move ha rfl) fun a ha => ?_
      refine goOff ha rfl rfl rfl rfl rfl fun a ha => ?_
      refine goOff ha rfl rfl rfl rfl rfl fun a ha => ?_
      refine goOff ha rfl rfl rfl rfl rfl fun a ha => ?_
      refine go1 ha rfl (d_pickF ha rfl rfl rfl) fun a ha => ?_
      refine go1 ha rfl (d_move ha rfl) fun a ha => ?_
      refine goOff ha rfl rfl rfl rfl rfl fun a ha => ?_
      refine goOff ha rfl rfl rfl rfl rfl fun a ha => ?_
      refine go1 ha rfl (d_pickF ha rfl rfl rfl) fun a ha => ?_
      refine go1 ha rfl (d_move ha rfl) fun a ha => ?_
      refine goOff ha rfl rfl rfl rfl rfl fun a ha => ?_
      refine goOff ha rfl rfl rfl rfl rfl fun a ha => ?_
      refine goOff ha rfl rfl rfl rfl rfl fun a ha => ?_
      refine go1 ha rfl (d_pickF ha rfl rfl rfl) fun a ha => ?_
      refine go1 ha rfl (d_move ha rfl) fun a ha => ?_
      refine goOff ha rfl rfl rfl rfl rfl fun a ha => ?_
      refine goOff ha rfl rfl rfl rfl rfl fun a ha => ?_
      refine goOff ha rfl rfl rfl rfl rfl fun a ha => ?_
      refine goOff ha rfl rfl rfl rfl rfl fun a ha => ?_
      refine go1 ha rfl (d_pickF ha rfl rfl rfl) fun a ha => ?_
      refine go1 ha rfl (d_move ha rfl) fun a ha => ?_
      refine goOff ha rfl rfl rfl rfl rfl fun a ha => ?_
      refine goOff ha rfl rfl rfl rfl rfl fun a ha => ?_
      refine goOff ha rfl rfl rfl rfl rfl fun a ha => ?_
      refine go1 ha rfl (d_pickF ha rfl rfl rfl) fun a ha => ?_
      refine go1 ha rfl (d_move ha rfl) fun a ha => ?_
      refine goOff ha rfl rfl rfl rfl rfl fun a ha => ?_
      refine go1 ha rfl (d_pickF ha rfl rfl rfl) fun a ha => ?_
      refine go1 ha rfl (d_assign ha rfl) fun a ha => ?_
      refine nil_ ?_
      refine hK3 _ _ ?_
      have ha := ha.to (l' := [(0, _)]) rfl
      refine wp_ret ?_
      have hs : Step [p1, some ⟨b1, 0, none⟩] [] w4 w4 := Step.pick _ _ []
      have hE : Ex w (Av [] No) [] w4 := hE.pick [] (by decide)
      injection hF with hF
      subst hF
      refine fin1 ha Try.results9 rfl ?_
      exact ⟨rfl, hE⟩
  · refine goOff ha rfl rfl rfl rfl (decide_eq_false hc1) fun a ha => ?_
    refine goOff ha rfl rfl rfl rfl (decide_eq_false hc1) fun a ha => ?_
    refine go1 ha rfl (d_pickF ha rfl (decide_eq_false hc1) rfl) fun a ha => ?_
    refine go1 ha rfl (d_move ha rfl) fun a ha => ?_
    refine goOff ha rfl rfl rfl rfl rfl fun a ha => ?_
    refine goOff ha rfl rfl rfl rfl rfl fun a ha => ?_
    refine go1 ha rfl (d_pickF ha rfl rfl rfl) fun a ha => ?_
    refine go1 ha rfl (d_move ha rfl) fun a ha => ?_
    refine goOff ha rfl rfl rfl rfl rfl fun a ha => ?_
    refine goOff ha rfl rfl rfl rfl rfl fun a ha => ?_
    refine goOff ha rfl rfl rfl rfl rfl fun a ha => ?_
    refine go1 ha rfl (d_pickF ha rfl rfl rfl) fun a ha => ?_
    refine go1 ha rfl (d_move ha rfl) fun a ha => ?_
    refine goOff ha rfl rfl rfl rfl rfl fun a ha => ?_
    refine goOff ha rfl rfl rfl rfl rfl fun a ha => ?_
    refine go1 ha rfl (d_pickF ha rfl rfl rfl) fun a ha => ?_
    refine go1 ha rfl (d_move ha rfl) fun a ha => ?_
    refine goOff ha rfl rfl rfl rfl rfl fun a ha => ?_
    refine goOff ha rfl rfl rfl rfl rfl fun a ha => ?_
    refine goOff ha rfl rfl rfl rfl rfl fun a ha => ?_
    refine go1 ha rfl (d_pickF ha rfl rfl rfl) fun a ha => ?_
    refine go1 ha rfl (d_move ha rfl) fun a ha => ?_
    refine goOff ha rfl rfl rfl rfl rfl fun a ha => ?_
    refine goOff ha rfl rfl rfl rfl rfl fun a ha => ?_
    refine goOff ha rfl rfl rfl rfl rfl fun a ha => ?_
    refine goOff ha rfl rfl rfl rfl rfl fun a ha => ?_
    refine go1 ha rfl (d_pickF ha rfl rfl rfl) fun a ha => ?_
    refine go1 ha rfl (d_move ha rfl) fun a ha => ?_
    refine goOff ha rfl rfl rfl rfl rfl fun a ha => ?_
    refine goOff ha rfl rfl rfl rfl rfl fun a ha => ?_
    refine goOff ha rfl rfl rfl rfl rfl fun a ha => ?_
    refine go1 ha rfl (d_pickF ha rfl rfl rfl) fun a ha => ?_
    refine go1 ha rfl (d_move ha rfl) fun a ha => ?_
    refine goOff ha rfl rfl rfl rfl rfl fun a ha => ?_
    refine go1 ha rfl (d_pickF ha rfl rfl rfl) fun a ha => ?_
    refine go1 ha rfl (d_assign ha rfl) fun a ha => ?_
    refine nil_ ?_
    refine hK3 _ _ ?_
    have ha := ha.to (l' := [(0, _)]) rfl
    refine wp_ret ?_
    have hs : Step [p1, some ⟨b1, 0, none⟩] [] w4 w4 := Step.pick _ _ []
    have hE : Ex w (Av [] No) [] w4 := hE.pick [] (by decide)
    injection hF with hF
    subst hF
    refine fin1 ha Try.results9 rfl ?_
    exact ⟨rfl, hE⟩
end Go.Proofs.Ytmljbiijlljhfaa
