/- Own work. A part of the proof of a law of this seat: The walk: what each function of the program comes to. -/
import Derived.Test.YtmljbiijlljhfaaProg
import Derived.Test.YtmljbiijlljhfaaWf2
import Derived.Test.YtmljbiijlljhfaaBld
open Go Go.RowKit Go.Sx
namespace Go.Proofs.Ytmljbiijlljhfaa
set_option linter.unusedVariables false
set_option linter.unusedSimpArgs false

set_option maxHeartbeats 4000000 in
set_option maxRecDepth 100000 in
theorem warderlaw02_NibbleApart_c (k : Nat) (a0_0 : Int) (a0_1 : ByteArray) (a1_0 : Int) (a1_1 : ByteArray)  (W : Nat → Prop) (w : World) (hW : ∀ k, W k → k < w.heap.size) (r : Bool) (hF : warderlaw02_NibbleApart k a0_0 a0_1 a1_0 a1_1 = some r) :
    Calls Try.prog 7 [.agg #[.int .i64 a0_0, .string a0_1], .agg #[.int .i64 a1_0, .string a1_1]].toArray w (Ret fun v w' => v = .bool r ∧ Ex w (Av [] No) [] w') := by
  unfold warderlaw02_NibbleApart at hF
  refine enter [(0, .agg #[.int .i64 a0_0, .string a0_1]), (1, .agg #[.int .i64 a1_0, .string a1_1])] Try.func7 rfl Try.ntmps7 rfl rfl fun a ha => ?_
  have hE : Ex w (Av [] No) [] w := Ex.refl w _
  have hW0 : ∀ p, some p ∈ ([] : List (Option Addr)) → ¬ W p.block := fun _ h => by cases h
  refine wp_seq_k (fun K1 hK1 => ?_)
  refine wreg ?_
  refine goR ha rfl (d_box (cs := [.int .i64 a0_0, .string a0_1]) ha rfl rfl) fun v w1 a h ha => ?_
  obtain ⟨b1, rfl, hb, hl, x1, hf⟩ := h
  have hs := Step.addB [] hf hb
  have hE := hE.addB hf hb hl
  refine goR ha rfl (d_box (cs := [.int .i64 a1_0, .string a1_1]) ha rfl rfl) fun v w2 a h ha => ?_
  obtain ⟨b2, rfl, hb, hl, x2, hf⟩ := h
  have hs := Step.addB [some ⟨b1, 0, none⟩] hf hb
  have x1 := x1.stay hf
  have hE := hE.addB hf hb hl
  refine go1 ha rfl (d_assign ha rfl) fun a ha => ?_
  refine nil_ ?_
  refine hK1 _ _ ?_
  have ha := ha.to (l' := [(2, _), (3, _)]) rfl
  refine wseqJ (fun a w5 => Has 116 [(2, .pointer (some ⟨b1, 0, none⟩)), (3, .pointer (some ⟨b2, 0, none⟩))] a ∧ Ex w (Av [] No) [some ⟨b2, 0, none⟩, some ⟨b1, 0, none⟩] w5 ∧ Bx w5 b1 29 [.int .i64 a0_0, .string a0_1] ∧ Bx w5 b2 29 [.int .i64 a1_0, .string a1_1] ∧ warderlaw02_NibbleApart_j0 k a0_0 a0_1 a1_0 a1_1 = some r) ?_ ?_
  · rintro a w5 ⟨ha, hE, x1, x2, hF⟩
    unfold warderlaw02_NibbleApart_j0 at hF
    refine wp_seq_k (fun K7 hK7 => ?_)
    obtain ⟨t3, ht3, hF⟩ := bind_elim hF
    refine drawnC 3 (by kernel_rfl) 5 (by decide) rfl (fun b a wI => HasB 116 [(2, .pointer (some ⟨b1, 0, none⟩)), (3, .pointer (some ⟨b2, 0, none⟩))] [(0, 21, .agg #[.int .i64 a0_0, .string a0_1]), (1, 22, .agg #[.int .i64 a1_0, .string a1_1]), (2, 23, .bool t3), (3, 24, .agg #[.int .i64 a1_0, .string a1_1]), (4, 25, .agg #[.int .i64 a0_0, .string a0_1])] b a ∧ Ex w (Av [] No) [some ⟨b2, 0, none⟩, some ⟨b1, 0, none⟩] wI ∧ Fr w5 wI No ∧ Bx wI b1 29 [.int .i64 a0_0, .string a0_1] ∧ Bx wI b2 29 [.int .i64 a1_0, .string a1_1]) ?_ (EachAt.all0 ?_) ?_
    · exact ⟨HasB.start (ha.to rfl) rfl, hE.drew, (Fr.refl _ No).drew, x1, x2⟩
    · refine (EachAt.cons ?_ (EachAt.cons ?_ (EachAt.cons ?_ (EachAt.cons ?_ (EachAt.cons ?_ EachAt.nil)))))
      · intro b a wI hI hb hn hc
        obtain ⟨hB, hE, hr, x1, x2⟩ := hI
        have ha : Has 116 [(2, .pointer (some ⟨b1, 0, none⟩))] a := hB.get [] (fun _ h => by cases h) _ rfl
        refine DoesG.plain rfl (Does.mono (d_loadAgg (cs := [.int .i64 a0_0, .string a0_1]) ha rfl (x1.at_.sub' 0 2 rfl) Try.isAgg29 Try.sizeOf29 rfl) ?_)
        rintro v wJ ⟨rfl, rfl⟩
        exact ⟨HasB.put hB 0 rfl rfl rfl rfl, hE, hr, x1, x2⟩
      · intro b a wI hI hb hn hc
        obtain ⟨hB, hE, hr, x1, x2⟩ := hI
        have ha : Has 116 [(3, .pointer (some ⟨b2, 0, none⟩))] a := hB.get [] (fun _ h => by cases h) _ rfl
        refine DoesG.plain rfl (Does.mono (d_loadAgg (cs := [.int .i64 a1_0, .string a1_1]) ha rfl (x2.at_.sub' 0 2 rfl) Try.isAgg29 Try.sizeOf29 rfl) ?_)
        rintro v wJ ⟨rfl, rfl⟩
        exact ⟨HasB.put hB 1 rfl rfl rfl rfl, hE, hr, x1, x2⟩
      · intro b a wI hI hb hn hc
        obtain ⟨hB, hE, hr, x1, x2⟩ := hI
        have ha : Has 116 [(21, .agg #[.int .i64 a0_0, .string a0_1]), (22, .agg #[.int .i64 a1_0, .string a1_1])] a := hB.get [0, 1] (List.forall_mem_cons.2 ⟨(hn 0 (mem_needs rfl)), (List.forall_mem_cons.2 ⟨(hn 1 (mem_needs rfl)), (fun _ h => by cases h)⟩)⟩) _ rfl
        refine DoesG.plain rfl (Does.mono (d_call Try.call23 ha (vs := [.agg #[.int .i64 a0_0, .string a0_1], .agg #[.int .i64 a1_0, .string a1_1]]) rfl (nibble_Less_c k a0_0 a0_1 a1_0 a1_1  (Av [some ⟨b2, 0, none⟩, some ⟨b1, 0, none⟩] W) _ (Ex.wlt (as0 := []) (rr := []) (ro := [some ⟨b2, 0, none⟩, some ⟨b1, 0, none⟩]) hE hW)  _ ht3)) ?_)
        intro v w6 h
        obtain ⟨rfl, hC⟩ := h
        have hfr : Fr wI w6 No := hC.fr.mono (fun _ _ h => by rcases h with h | ⟨_, h, _⟩; exact h; cases h)
        have hs : Step [some ⟨b2, 0, none⟩, some ⟨b1, 0, none⟩] [some ⟨b2, 0, none⟩, some ⟨b1, 0, none⟩] wI w6 := hC.callStep [some ⟨b2, 0, none⟩, some ⟨b1, 0, none⟩]
        have x2 := x2.keep hC.fr ((Ex.callOff (as0 := []) (rt := [some ⟨b2, 0, none⟩, some ⟨b1, 0, none⟩]) hE (u := some ⟨b2, 0, none⟩) (by simp)) _ rfl)
        have x1 := x1.keep hC.fr ((Ex.callOff (as0 := []) (rt := [some ⟨b2, 0, none⟩, some ⟨b1, 0, none⟩]) hE (u := some ⟨b1, 0, none⟩) (by simp)) _ rfl)
        have hE : Ex w (Av [] No) [some ⟨b2, 0, none⟩, some ⟨b1, 0, none⟩] w6 := Ex.call (as0 := []) (rt := [some ⟨b2, 0, none⟩, some ⟨b1, 0, none⟩]) hE hC
        exact ⟨HasB.put hB 2 rfl rfl rfl rfl, hE, hr.step hfr (fun _ _ h => h), x1, x2⟩
      · intro b a wI hI hb hn hc
        obtain ⟨hB, hE, hr, x1, x2⟩ := hI
        have ha : Has 116 [(3, .pointer (some ⟨b2, 0, none⟩))] a := hB.get [] (fun _ h => by cases h) _ rfl
        refine DoesG.plain rfl (Does.mono (d_loadAgg (cs := [.int .i64 a1_0, .string a1_1]) ha rfl (x2.at_.sub' 0 2 rfl) Try.isAgg29 Try.sizeOf29 rfl) ?_)
        rintro v wJ ⟨rfl, rfl⟩
        exact ⟨HasB.put hB 3 rfl rfl rfl rfl, hE, hr, x1, x2⟩
      · intro b a wI hI hb hn hc
        obtain ⟨hB, hE, hr, x1, x2⟩ := hI
        have ha : Has 116 [(2, .pointer (some ⟨b1, 0, none⟩))] a := hB.get [] (fun _ h => by cases h) _ rfl
        refine DoesG.plain rfl (Does.mono (d_loadAgg (cs := [.int .i64 a0_0, .string a0_1]) ha rfl (x1.at_.sub' 0 2 rfl) Try.isAgg29 Try.sizeOf29 rfl) ?_)
        rintro v wJ ⟨rfl, rfl⟩
        exact ⟨HasB.put hB 4 rfl rfl rfl rfl, hE, hr, x1, x2⟩
    · intro b a w7 hb hI
      obtain ⟨hB, hE, hr, x1, x2⟩ := hI
      have ha : Has 116 [(21, .agg #[.int .i64 a0_0, .string a0_1]), (22, .agg #[.int .i64 a1_0, .string a1_1]), (23, .bool t3), (24, .agg #[.int .i64 a1_0, .string a1_1]), (25, .agg #[.int .i64 a0_0, .string a0_1]), (2, .pointer (some ⟨b1, 0, none⟩)), (3, .pointer (some ⟨b2, 0, none⟩))] a := hB.get [0, 1, 2, 3, 4] (List.forall_mem_cons.2 ⟨(hb 0 (by decide) (by decide)), (List.forall_mem_cons.2 ⟨(hb 1 (by decide) (by decide)), (List.forall_mem_cons.2 ⟨(hb 2 (by decide) (by decide)), (List.forall_mem_cons.2 ⟨(hb 3 (by decide) (by decide)), (List.forall_mem_cons.2 ⟨(hb 4 (by decide) (by decide)), (fun _ h => by cases h)⟩)⟩)⟩)⟩)⟩) _ rfl
      obtain ⟨t4, ht4, hF⟩ := bind_elim hF
      refine goR ha rfl (d_call Try.call23 ha (vs := [.agg #[.int .i64 a1_0, .string a1_1], .agg #[.int .i64 a0_0, .string a0_1]]) rfl (nibble_Less_c k a1_0 a1_1 a0_0 a0_1  (Av [some ⟨b2, 0, none⟩, some ⟨b1, 0, none⟩] W) _ (Ex.wlt (as0 := []) (rr := []) (ro := [some ⟨b2, 0, none⟩, some ⟨b1, 0, none⟩]) hE hW)  _ ht4)) fun v w8 a h ha => ?_
      obtain ⟨rfl, hC⟩ := h
      have hs : Step [some ⟨b2, 0, none⟩, some ⟨b1, 0, none⟩] [some ⟨b2, 0, none⟩, some ⟨b1, 0, none⟩] w7 w8 := hC.callStep [some ⟨b2, 0, none⟩, some ⟨b1, 0, none⟩]
      have x2 := x2.keep hC.fr ((Ex.callOff (as0 := []) (rt := [some ⟨b2, 0, none⟩, some ⟨b1, 0, none⟩]) hE (u := some ⟨b2, 0, none⟩) (by simp)) _ rfl)
      have x1 := x1.keep hC.fr ((Ex.callOff (as0 := []) (rt := [some ⟨b2, 0, none⟩, some ⟨b1, 0, none⟩]) hE (u := some ⟨b1, 0, none⟩) (by simp)) _ rfl)
      have hE : Ex w (Av [] No) [some ⟨b2, 0, none⟩, some ⟨b1, 0, none⟩] w8 := Ex.call (as0 := []) (rt := [some ⟨b2, 0, none⟩, some ⟨b1, 0, none⟩]) hE hC
      refine go1 ha rfl (d_assign ha rfl) fun a ha => ?_
      refine go1 ha rfl (d_assign ha rfl) fun a ha => ?_
      refine nil_ ?_
      refine hK7 _ _ ?_
      have ha := ha.to (l' := [(2, _), (3, _), (5, _), (6, _)]) rfl
      refine wseqJ (fun a w11 => Has 116 [(2, .pointer (some ⟨b1, 0, none⟩)), (3, .pointer (some ⟨b2, 0, none⟩)), (5, .bool t3), (6, .bool t4)] a ∧ Ex w (Av [] No) [some ⟨b2, 0, none⟩, some ⟨b1, 0, none⟩] w11 ∧ Bx w11 b1 29 [.int .i64 a0_0, .string a0_1] ∧ Bx w11 b2 29 [.int .i64 a1_0, .string a1_1] ∧ warderlaw02_NibbleApart_j1 k a0_0 a0_1 a1_0 a1_1 t3 t4 = some r) ?_ ?_
      · rintro a w11 ⟨ha, hE, x1, x2, hF⟩
        unfold warderlaw02_NibbleApart_j1 at hF
        refine wseqJ (fun a w16 => Has 116 [(2, .pointer (some ⟨b1, 0, none⟩)), (3, .pointer (some ⟨b2, 0, none⟩)), (5, .bool t3), (6, .bool t4)] a ∧ Ex w (Av [] No) [some ⟨b2, 0, none⟩, some ⟨b1, 0, none⟩] w16 ∧ Bx w16 b1 29 [.int .i64 a0_0, .string a0_1] ∧ Bx w16 b2 29 [.int .i64 a1_0, .string a1_1] ∧ warderlaw02_NibbleApart_j2 k a0_0 a0_1 a1_0 a1_1 t3 t4 = some r) ?_ ?_
        · rintro a w16 ⟨ha, hE, x1, x2, hF⟩
          unfold warderlaw02_NibbleApart_j2 at hF
          refine wp_seq_k (fun K19 hK19 => ?_)
          obtain ⟨t11, ht11, hF⟩ := bind_elim hF
          refine drawnC 8 (by kernel_rfl) 3 (by decide) rfl (fun b a wI => HasB 116 [(2, .pointer (some ⟨b1, 0, none⟩)), (3, .pointer (some ⟨b2, 0, none⟩)), (5, .bool t3), (6, .bool t4)] [(0, 54, .agg #[.int .i64 a0_0, .string a0_1]), (2, 56, .agg #[.int .i64 a1_0, .string a1_1])] b a ∧ Ex w (Av [] No) [some ⟨b2, 0, none⟩, some ⟨b1, 0, none⟩] wI ∧ Fr w16 wI No ∧ Bx wI b1 29 [.int .i64 a0_0, .string a0_1] ∧ Bx wI b2 29 [.int .i64 a1_0, .string a1_1] ∧ Sl b a 1 55 (fun v => ∃ (p1 : Option Addr) (c1 : Nat), v = .slice p1 t11.length c1 ∧ Raw (Av [some ⟨b2, 0, none⟩, some ⟨b1, 0, none⟩] (Old w)) (Kd.int .u8) wI.heap p1 c1 t11)) ?_ (EachAt.all0 ?_) ?_
          · exact ⟨HasB.start (ha.to rfl) rfl, hE.drew, (Fr.refl _ No).drew, x1, x2, Sl.start rfl⟩
          · refine (EachAt.cons ?_ (EachAt.cons ?_ (EachAt.cons ?_ EachAt.nil)))
            · intro b a wI hI hb hn hc
              obtain ⟨hB, hE, hr, x1, x2, hp1⟩ := hI
              have ha : Has 116 [(2, .pointer (some ⟨b1, 0, none⟩))] a := hB.get [] (fun _ h => by cases h) _ rfl
              refine DoesG.plain rfl (Does.mono (d_loadAgg (cs := [.int .i64 a0_0, .string a0_1]) ha rfl (x1.at_.sub' 0 2 rfl) Try.isAgg29 Try.sizeOf29 rfl) ?_)
              rintro v wJ ⟨rfl, rfl⟩
              exact ⟨HasB.put hB 0 rfl rfl rfl rfl, hE, hr, x1, x2, hp1.keep rfl rfl (fun _ h => h)⟩
            · intro b a wI hI hb hn hc
              obtain ⟨hB, hE, hr, x1, x2, hp1⟩ := hI
              have ha : Has 116 [(54, .agg #[.int .i64 a0_0, .string a0_1])] a := hB.get [0] (List.forall_mem_cons.2 ⟨(hn 0 (mem_needs rfl)), (fun _ h => by cases h)⟩) _ rfl
              refine DoesG.plain rfl (Does.mono (d_call Try.call15 ha (vs := [.agg #[.int .i64 a0_0, .string a0_1]]) rfl (nibble_Of_c k a0_0 a0_1  (Av [some ⟨b2, 0, none⟩, some ⟨b1, 0, none⟩] W) _ (Ex.wlt (as0 := []) (rr := []) (ro := [some ⟨b2, 0, none⟩, some ⟨b1, 0, none⟩]) hE hW)  _ ht11)) ?_)
              intro v w17 h
              obtain ⟨p1, c1, rfl, hC, o1⟩ := h
              have hfr : Fr wI w17 No := hC.fr.mono (fun _ _ h => by rcases h with h | ⟨_, h, _⟩; exact h; cases h)
              have hs : Step [some ⟨b2, 0, none⟩, some ⟨b1, 0, none⟩] [p1, some ⟨b2, 0, none⟩, some ⟨b1, 0, none⟩] wI w17 := hC.callStep [some ⟨b2, 0, none⟩, some ⟨b1, 0, none⟩]
              have x2 := x2.keep hC.fr ((Ex.callOff (as0 := []) (rt := [some ⟨b2, 0, none⟩, some ⟨b1, 0, none⟩]) hE (u := some ⟨b2, 0, none⟩) (by simp)) _ rfl)
              have x1 := x1.keep hC.fr ((Ex.callOff (as0 := []) (rt := [some ⟨b2, 0, none⟩, some ⟨b1, 0, none⟩]) hE (u := some ⟨b1, 0, none⟩) (by simp)) _ rfl)
              have o1 : Ow (Av [p1, some ⟨b2, 0, none⟩, some ⟨b1, 0, none⟩] W) w17 5 (Kd.int .u8) p1 c1 t11 := o1.alone (Kd.Flat.int _)
              have hE : Ex w (Av [] No) [p1, some ⟨b2, 0, none⟩, some ⟨b1, 0, none⟩] w17 := Ex.call (as0 := []) (rt := [some ⟨b2, 0, none⟩, some ⟨b1, 0, none⟩]) hE hC
              have r1 : Raw (Av [some ⟨b2, 0, none⟩, some ⟨b1, 0, none⟩] (Old w)) (Kd.int .u8) w17.heap p1 c1 t11 := o1.freeF (Kd.Flat.int _) hE 0 rfl
              have hs : Step [p1, some ⟨b2, 0, none⟩, some ⟨b1, 0, none⟩] [some ⟨b2, 0, none⟩, some ⟨b1, 0, none⟩] w17 w17 := Step.pick _ _ [1, 2]
              have hE : Ex w (Av [] No) [some ⟨b2, 0, none⟩, some ⟨b1, 0, none⟩] w17 := hE.pick [1, 2] (by decide)
              exact ⟨HasB.putR hB 1 rfl rfl rfl, hE, hr.step hfr (fun _ _ h => h), x1, x2, Sl.new hB.has rfl ⟨_, _, rfl, r1⟩⟩
            · intro b a wI hI hb hn hc
              obtain ⟨hB, hE, hr, x1, x2, hp1⟩ := hI
              have ha : Has 116 [(3, .pointer (some ⟨b2, 0, none⟩))] a := hB.get [] (fun _ h => by cases h) _ rfl
              refine DoesG.plain rfl (Does.mono (d_loadAgg (cs := [.int .i64 a1_0, .string a1_1]) ha rfl (x2.at_.sub' 0 2 rfl) Try.isAgg29 Try.sizeOf29 rfl) ?_)
              rintro v wJ ⟨rfl, rfl⟩
              exact ⟨HasB.put hB 2 rfl rfl rfl rfl, hE, hr, x1, x2, hp1.keep rfl rfl (fun _ h => h)⟩
          · intro b a w18 hb hI
            obtain ⟨hB, hE, hr, x1, x2, hp1⟩ := hI
            have ha : Has 116 [(54, .agg #[.int .i64 a0_0, .string a0_1]), (56, .agg #[.int .i64 a1_0, .string a1_1]), (2, .pointer (some ⟨b1, 0, none⟩)), (3, .pointer (some ⟨b2, 0, none⟩)), (5, .bool t3), (6, .bool t4)] a := hB.get [0, 2] (List.forall_mem_cons.2 ⟨(hb 0 (by decide) (by decide)), (List.forall_mem_cons.2 ⟨(hb 2 (by decide) (by decide)), (fun _ h => by cases h)⟩)⟩) _ rfl
            obtain ⟨p1, c1, hs, r1⟩ := hp1 (hb 1 (by decide) (by decide))
            have ha := ha.know hs
            obtain ⟨t12, ht12, hF⟩ := bind_elim hF
            refine goR ha rfl (d_call Try.call15 ha (vs := [.agg #[.int .i64 a1_0, .string a1_1]]) rfl (nibble_Of_c k a1_0 a1_1  (Av [some ⟨b2, 0, none⟩, some ⟨b1, 0, none⟩] W) _ (Ex.wlt (as0 := []) (rr := []) (ro := [some ⟨b2, 0, none⟩, some ⟨b1, 0, none⟩]) hE hW)  _ ht12)) fun v w19 a h ha => ?_
            obtain ⟨p2, c2, rfl, hC, o2⟩ := h
            have hs : Step [some ⟨b2, 0, none⟩, some ⟨b1, 0, none⟩] [p2, some ⟨b2, 0, none⟩, some ⟨b1, 0, none⟩] w18 w19 := hC.callStep [some ⟨b2, 0, none⟩, some ⟨b1, 0, none⟩]
            have r1 := hs.tr r1
            have x2 := x2.keep hC.fr ((Ex.callOff (as0 := []) (rt := [some ⟨b2, 0, none⟩, some ⟨b1, 0, none⟩]) hE (u := some ⟨b2, 0, none⟩) (by simp)) _ rfl)
            have x1 := x1.keep hC.fr ((Ex.callOff (as0 := []) (rt := [some ⟨b2, 0, none⟩, some ⟨b1, 0, none⟩]) hE (u := some ⟨b1, 0, none⟩) (by simp)) _ rfl)
            have o2 : Ow (Av [p2, some ⟨b2, 0, none⟩, some ⟨b1, 0, none⟩] W) w19 5 (Kd.int .u8) p2 c2 t12 := o2.alone (Kd.Flat.int _)
            have hE : Ex w (Av [] No) [p2, some ⟨b2, 0, none⟩, some ⟨b1, 0, none⟩] w19 := Ex.call (as0 := []) (rt := [some ⟨b2, 0, none⟩, some ⟨b1, 0, none⟩]) hE hC
            refine go1 ha rfl (d_assign ha rfl) fun a ha => ?_
            refine go1 ha rfl (d_assign ha rfl) fun a ha => ?_
            refine nil_ ?_
            refine hK19 _ _ ?_
            have ha := ha.to (l' := [(2, _), (3, _), (5, _), (6, _), (7, _), (8, _)]) rfl
            refine wp_seq_k (fun K20 hK20 => ?_)
            refine wreg ?_
            refine go1 ha rfl (d_move ha rfl) fun a ha => ?_
            refine go1 ha rfl (d_move ha rfl) fun a ha => ?_
            obtain ⟨t13, ht13, hF⟩ := bind_elim hF
            refine goR ha rfl (d_call Try.call11 ha (vs := [.slice p1 t11.length c1, .slice p2 t12.length c2]) rfl (nibble_Diff_c k t11 t12 _ _ _ _ (Av [some ⟨b2, 0, none⟩, some ⟨b1, 0, none⟩] W) _ (Ex.wlt (as0 := []) (rr := [p2]) (ro := [some ⟨b2, 0, none⟩, some ⟨b1, 0, none⟩]) hE hW) (Raw.arg (as0 := []) (rr := [p2]) (ro := [some ⟨b2, 0, none⟩, some ⟨b1, 0, none⟩]) r1 hW) (Ow.argR (as0 := []) (rr := [p2]) (ro := [some ⟨b2, 0, none⟩, some ⟨b1, 0, none⟩]) o2 hE hW hW0 (by simp)) _ ht13)) fun v w20 a h ha => ?_
            obtain ⟨rfl, hC⟩ := h
            have hs : Step [p2, some ⟨b2, 0, none⟩, some ⟨b1, 0, none⟩] [p2, some ⟨b2, 0, none⟩, some ⟨b1, 0, none⟩] w19 w20 := hC.callStep [p2, some ⟨b2, 0, none⟩, some ⟨b1, 0, none⟩]
            have r1 := hs.tr r1
            have o2 := o2.keep hC.fr (Ex.callOff (as0 := []) (rt := [p2, some ⟨b2, 0, none⟩, some ⟨b1, 0, none⟩]) hE (u := p2) (by simp)) (fun _ _ h => hs.trK h)
            have x2 := x2.keep hC.fr ((Ex.callOff (as0 := []) (rt := [p2, some ⟨b2, 0, none⟩, some ⟨b1, 0, none⟩]) hE (u := some ⟨b2, 0, none⟩) (by simp)) _ rfl)
            have x1 := x1.keep hC.fr ((Ex.callOff (as0 := []) (rt := [p2, some ⟨b2, 0, none⟩, some ⟨b1, 0, none⟩]) hE (u := some ⟨b1, 0, none⟩) (by simp)) _ rfl)
            have hE : Ex w (Av [] No) [p2, some ⟨b2, 0, none⟩, some ⟨b1, 0, none⟩] w20 := Ex.call (as0 := []) (rt := [p2, some ⟨b2, 0, none⟩, some ⟨b1, 0, none⟩]) hE hC
            refine go1 ha rfl (d_assign ha rfl) fun a ha => ?_
            refine nil_ ?_
            refine hK20 _ _ ?_
            have ha := ha.to (l' := [(2, _), (3, _), (5, _), (6, _), (7, _), (8, _), (9, _)]) rfl
            refine wseqJ (fun a w21 => ∃ (x3 : List Int) (p3 : Option Addr) (c3 : Nat), Has 116 [(2, .pointer (some ⟨b1, 0, none⟩)), (3, .pointer (some ⟨b2, 0, none⟩)), (5, .bool t3), (7, .slice p1 t11.length c1), (8, .slice p3 x3.length c3), (9, .int .i64 t13)] a ∧ Ex w (Av [] No) [p3, some ⟨b2, 0, none⟩, some ⟨b1, 0, none⟩] w21 ∧ Raw (Av [p3, some ⟨b2, 0, none⟩, some ⟨b1, 0, none⟩] (Old w)) (Kd.int .u8) w21.heap p1 c1 t11 ∧ Bx w21 b1 29 [.int .i64 a0_0, .string a0_1] ∧ Bx w21 b2 29 [.int .i64 a1_0, .string a1_1] ∧ Ow (Av [p3, some ⟨b2, 0, none⟩, some ⟨b1, 0, none⟩] W) w21 5 (Kd.int .u8) p3 c3 x3 ∧ warderlaw02_NibbleApart_j3 k a0_0 a0_1 a1_0 a1_1 t3 t11 t13 x3 = some r) ?_ ?_
            · rintro a w21 ⟨x3, p3, c3, ha, hE, r1, x1, x2, o3, hF⟩
              unfold warderlaw02_NibbleApart_j3 at hF
              refine wp_seq_k (fun K27 hK27 => ?_)
              refine wp_seq_k (fun K28 hK28 => ?_)
              rcases ite_elim hF with ⟨hc13, hF⟩ | ⟨hc13, hF⟩
              · refine drawnC 12 (by kernel_rfl) 35 (by decide) rfl (fun b a wI => HasB 116 [(2, .pointer (some ⟨b1, 0, none⟩)), (3, .pointer (some ⟨b2, 0, none⟩)), (5, .bool t3), (7, .slice p1 t11.length c1), (8, .slice p3 x3.length c3), (9, .int .i64 t13)] [(0, 77, .agg #[.int .i64 a0_0, .string a0_1]), (1, 78, .agg #[.int .i64 a1_0, .string a1_1]), (2, 79, .bool (!decide (a0_0 = a1_0 ∧ a0_1 = a1_1))), (3, 80, .bool (!decide (a0_0 = a1_0 ∧ a0_1 = a1_1))), (4, 81, undef), (5, 82, undef), (6, 83, undef), (7, 84, undef), (8, 85, undef), (9, 86, undef), (10, 87, undef), (11, 88, undef), (12, 89, undef), (13, 90, undef), (14, 91, undef), (15, 92, undef), (16, 93, undef), (17, 94, undef), (18, 95, undef), (19, 96, undef), (20, 97, undef), (21, 98, undef), (22, 99, undef), (23, 100, undef), (24, 101, undef), (25, 102, undef), (26, 103, undef), (27, 104, undef), (28, 105, undef), (29, 106, undef), (30, 107, undef), (31, 108, undef), (32, 109, undef), (33, 110, undef), (34, 111, undef)] b a ∧ Ex w (Av [] No) [p3, some ⟨b2, 0, none⟩, some ⟨b1, 0, none⟩] wI ∧ Fr w21 wI No ∧ Raw (Av [p3, some ⟨b2, 0, none⟩, some ⟨b1, 0, none⟩] (Old w)) (Kd.int .u8) wI.heap p1 c1 t11 ∧ Bx wI b1 29 [.int .i64 a0_0, .string a0_1] ∧ Bx wI b2 29 [.int .i64 a1_0, .string a1_1] ∧ Ow (Av [p3, some ⟨b2, 0, none⟩, some ⟨b1, 0, none⟩] W) wI 5 (Kd.int .u8) p3 c3 x3) ?_ (EachAt.all0 ?_) ?_
                · exact ⟨HasB.start (ha.to rfl) rfl, hE.drew, (Fr.refl _ No).drew, r1, x1, x2, o3⟩
                · refine (EachAt.cons ?_ (EachAt.cons ?_ (EachAt.cons ?_ (EachAt.cons ?_ (EachAt.cons ?_ (EachAt.cons ?_ (EachAt.cons ?_ (EachAt.cons ?_ (EachAt.cons ?_ (EachAt.cons ?_ (EachAt.cons ?_ (EachAt.cons ?_ (EachAt.cons ?_ (EachAt.cons ?_ (EachAt.cons ?_ (EachAt.cons ?_ (EachAt.cons ?_ (EachAt.cons ?_ (EachAt.cons ?_ (EachAt.cons ?_ (EachAt.cons ?_ (EachAt.cons ?_ (EachAt.cons ?_ (EachAt.cons ?_ (EachAt.cons ?_ (EachAt.cons ?_ (EachAt.cons ?_ (EachAt.cons ?_ (EachAt.cons ?_ (EachAt.cons ?_ (EachAt.cons ?_ (EachAt.cons ?_ (EachAt.cons ?_ (EachAt.cons ?_ (EachAt.cons ?_ EachAt.nil)))))))))))))))))))))))))))))))))))
                  · intro b a wI hI hb hn hc
                    obtain ⟨hB, hE, hr, r1, x1, x2, o3⟩ := hI
                    have ha : Has 116 [(2, .pointer (some ⟨b1, 0, none⟩))] a := hB.get [] (fun _ h => by cases h) _ rfl
                    refine DoesG.plain rfl (Does.mono (d_loadAgg (cs := [.int .i64 a0_0, .string a0_1]) ha rfl (x1.at_.sub' 0 2 rfl) Try.isAgg29 Try.sizeOf29 rfl) ?_)
                    rintro v wJ ⟨rfl, rfl⟩
                    exact ⟨HasB.put hB 0 rfl rfl rfl rfl, hE, hr, r1, x1, x2, o3⟩
                  · intro b a wI hI hb hn hc
                    obtain ⟨hB, hE, hr, r1, x1, x2, o3⟩ := hI
                    have ha : Has 116 [(3, .pointer (some ⟨b2, 0, none⟩))] a := hB.get [] (fun _ h => by cases h) _ rfl
                    refine DoesG.plain rfl (Does.mono (d_loadAgg (cs := [.int .i64 a1_0, .string a1_1]) ha rfl (x2.at_.sub' 0 2 rfl) Try.isAgg29 Try.sizeOf29 rfl) ?_)
                    rintro v wJ ⟨rfl, rfl⟩
                    exact ⟨HasB.put hB 1 rfl rfl rfl rfl, hE, hr, r1, x1, x2, o3⟩
                  · intro b a wI hI hb hn hc
                    obtain ⟨hB, hE, hr, r1, x1, x2, o3⟩ := hI
                    have ha : Has 116 [(77, .agg #[.int .i64 a0_0, .string a0_1]), (78, .agg #[.int .i64 a1_0, .string a1_1])] a := hB.get [0, 1] (List.forall_mem_cons.2 ⟨(hn 0 (mem_needs rfl)), (List.forall_mem_cons.2 ⟨(hn 1 (mem_needs rfl)), (fun _ h => by cases h)⟩)⟩) _ rfl
                    refine DoesG.plain rfl (Does.mono (d_neAg (q := a0_0 = a1_0 ∧ a0_1 = a1_1) ha rfl rfl (by kernel_rfl) (.struct Try.underlying29 (by kernel_rfl) (.cons (by decide) (.cell Try.isAgg27 rfl) (.cell Try.isAgg27 rfl) (.int Try.underlying27) (.one (by decide) (.cell Try.isAgg9 rfl) (.cell Try.isAgg9 rfl) (.str Try.underlying9))))) ?_)
                    rintro v wJ ⟨rfl, rfl⟩
                    exact ⟨HasB.put hB 2 rfl rfl rfl rfl, hE, hr, r1, x1, x2, o3⟩
                  · intro b a wI hI hb hn hc
                    obtain ⟨hB, hE, hr, r1, x1, x2, o3⟩ := hI
                    have ha : Has 116 [(79, .bool (!decide (a0_0 = a1_0 ∧ a0_1 = a1_1)))] a := hB.get [2] (List.forall_mem_cons.2 ⟨(hn 2 (mem_needs rfl)), (fun _ h => by cases h)⟩) _ rfl
                    refine DoesG.plain rfl (Does.mono (d_move ha rfl) ?_)
                    rintro v wJ ⟨rfl, rfl⟩
                    exact ⟨HasB.put hB 3 rfl rfl rfl rfl, hE, hr, r1, x1, x2, o3⟩
                  · intro b a wI hI hb hn hc
                    obtain ⟨hB, hE, hr, r1, x1, x2, o3⟩ := hI
                    have ha : Has 116 [(7, .slice p1 t11.length c1), (80, .bool (!decide (a0_0 = a1_0 ∧ a0_1 = a1_1)))] a := hB.get [3] (List.forall_mem_cons.2 ⟨(hn 3 (mem_needs rfl)), (fun _ h => by cases h)⟩) _ rfl
                    refine DoesG.off rfl ha rfl rfl rfl (not_t (decide_eq_true hc13)) ?_
                    exact ⟨HasB.put hB 4 rfl rfl rfl rfl, hE, hr, r1, x1, x2, o3⟩
                  · intro b a wI hI hb hn hc
                    obtain ⟨hB, hE, hr, r1, x1, x2, o3⟩ := hI
                    have ha : Has 116 [(8, .slice p3 x3.length c3), (80, .bool (!decide (a0_0 = a1_0 ∧ a0_1 = a1_1)))] a := hB.get [3] (List.forall_mem_cons.2 ⟨(hn 3 (mem_needs rfl)), (fun _ h => by cases h)⟩) _ rfl
                    refine DoesG.off rfl ha rfl rfl rfl (not_t (decide_eq_true hc13)) ?_
                    exact ⟨HasB.put hB 5 rfl rfl rfl rfl, hE, hr, r1, x1, x2, o3⟩
                  · intro b a wI hI hb hn hc
                    obtain ⟨hB, hE, hr, r1, x1, x2, o3⟩ := hI
                    have ha : Has 116 [(80, .bool (!decide (a0_0 = a1_0 ∧ a0_1 = a1_1))), (81, undef), (82, undef)] a := hB.get [3, 4, 5] (List.forall_mem_cons.2 ⟨(hn 3 (mem_needs rfl)), (List.forall_mem_cons.2 ⟨(hn 4 (mem_needs rfl)), (List.forall_mem_cons.2 ⟨(hn 5 (mem_needs rfl)), (fun _ h => by cases h)⟩)⟩)⟩) _ rfl
                    refine DoesG.off rfl ha rfl rfl rfl (not_t (decide_eq_true hc13)) ?_
                    exact ⟨HasB.put hB 6 rfl rfl rfl rfl, hE, hr, r1, x1, x2, o3⟩
                  · intro b a wI hI hb hn hc
                    obtain ⟨hB, hE, hr, r1, x1, x2, o3⟩ := hI
                    have ha : Has 116 [(80, .bool (!decide (a0_0 = a1_0 ∧ a0_1 = a1_1))), (83, undef)] a := hB.get [3, 6] (List.forall_mem_cons.2 ⟨(hn 3 (mem_needs rfl)), (List.forall_mem_cons.2 ⟨(hn 6 (mem_needs rfl)), (fun _ h => by cases h)⟩)⟩) _ rfl
                    refine DoesG.off rfl ha rfl rfl rfl (not_t (decide_eq_true hc13)) ?_
                    exact ⟨HasB.put hB 7 rfl rfl rfl rfl, hE, hr, r1, x1, x2, o3⟩
                  · intro b a wI hI hb hn hc
                    obtain ⟨hB, hE, hr, r1, x1, x2, o3⟩ := hI
                    have ha : Has 116 [(8, .slice p3 x3.length c3), (84, undef)] a := hB.get [7] (List.forall_mem_cons.2 ⟨(hn 7 (mem_needs rfl)), (fun _ h => by cases h)⟩) _ rfl
                    refine DoesG.gone rfl ha rfl rfl rfl ?_
                    exact ⟨HasB.put hB 8 rfl rfl rfl rfl, hE, hr, r1, x1, x2, o3⟩
                  · intro b a wI hI hb hn hc
                    obtain ⟨hB, hE, hr, r1, x1, x2, o3⟩ := hI
                    have ha : Has 116 [(7, .slice p1 t11.length c1), (84, undef)] a := hB.get [7] (List.forall_mem_cons.2 ⟨(hn 7 (mem_needs rfl)), (fun _ h => by cases h)⟩) _ rfl
                    refine DoesG.gone rfl ha rfl rfl rfl ?_
                    exact ⟨HasB.put hB 9 rfl rfl rfl rfl, hE, hr, r1, x1, x2, o3⟩
                  · intro b a wI hI hb hn hc
                    obtain ⟨hB, hE, hr, r1, x1, x2, o3⟩ := hI
                    have ha : Has 116 [(84, undef), (85, undef), (86, undef)] a := hB.get [7, 8, 9] (List.forall_mem_cons.2 ⟨(hn 7 (mem_needs rfl)), (List.forall_mem_cons.2 ⟨(hn 8 (mem_needs rfl)), (List.forall_mem_cons.2 ⟨(hn 9 (mem_needs rfl)), (fun _ h => by cases h)⟩)⟩)⟩) _ rfl
                    refine DoesG.gone rfl ha rfl rfl rfl ?_
                    exact ⟨HasB.put hB 10 rfl rfl rfl rfl, hE, hr, r1, x1, x2, o3⟩
                  · intro b a wI hI hb hn hc
                    obtain ⟨hB, hE, hr, r1, x1, x2, o3⟩ := hI
                    have ha : Has 116 [(80, .bool (!decide (a0_0 = a1_0 ∧ a0_1 = a1_1))), (84, undef), (87, undef)] a := hB.get [3, 7, 10] (List.forall_mem_cons.2 ⟨(hn 3 (mem_needs rfl)), (List.forall_mem_cons.2 ⟨(hn 7 (mem_needs rfl)), (List.forall_mem_cons.2 ⟨(hn 10 (mem_needs rfl)), (fun _ h => by cases h)⟩)⟩)⟩) _ rfl
                    refine DoesG.off rfl ha rfl rfl rfl (not_t (decide_eq_true hc13)) ?_
                    exact ⟨HasB.put hB 11 rfl rfl rfl rfl, hE, hr, r1, x1, x2, o3⟩
                  · intro b a wI hI hb hn hc
                    obtain ⟨hB, hE, hr, r1, x1, x2, o3⟩ := hI
                    have ha : Has 116 [(80, .bool (!decide (a0_0 = a1_0 ∧ a0_1 = a1_1))), (88, undef)] a := hB.get [3, 11] (List.forall_mem_cons.2 ⟨(hn 3 (mem_needs rfl)), (List.forall_mem_cons.2 ⟨(hn 11 (mem_needs rfl)), (fun _ h => by cases h)⟩)⟩) _ rfl
                    refine DoesG.off rfl ha rfl rfl rfl (not_t (decide_eq_true hc13)) ?_
                    exact ⟨HasB.put hB 12 rfl rfl rfl rfl, hE, hr, r1, x1, x2, o3⟩
                  · intro b a wI hI hb hn hc
                    obtain ⟨hB, hE, hr, r1, x1, x2, o3⟩ := hI
                    have ha : Has 116 [(9, .int .i64 t13), (89, undef)] a := hB.get [12] (List.forall_mem_cons.2 ⟨(hn 12 (mem_needs rfl)), (fun _ h => by cases h)⟩) _ rfl
                    refine DoesG.gone rfl ha rfl rfl rfl ?_
                    exact ⟨HasB.put hB 13 rfl rfl rfl rfl, hE, hr, r1, x1, x2, o3⟩
                  · intro b a wI hI hb hn hc
                    obtain ⟨hB, hE, hr, r1, x1, x2, o3⟩ := hI
                    have ha : Has 116 [(7, .slice p1 t11.length c1), (89, undef)] a := hB.get [12] (List.forall_mem_cons.2 ⟨(hn 12 (mem_needs rfl)), (fun _ h => by cases h)⟩) _ rfl
                    refine DoesG.gone rfl ha rfl rfl rfl ?_
                    exact ⟨HasB.put hB 14 rfl rfl rfl rfl, hE, hr, r1, x1, x2, o3⟩
                  · intro b a wI hI hb hn hc
                    obtain ⟨hB, hE, hr, r1, x1, x2, o3⟩ := hI
                    have ha : Has 116 [(89, undef), (91, undef)] a := hB.get [12, 14] (List.forall_mem_cons.2 ⟨(hn 12 (mem_needs rfl)), (List.forall_mem_cons.2 ⟨(hn 14 (mem_needs rfl)), (fun _ h => by cases h)⟩)⟩) _ rfl
                    refine DoesG.gone rfl ha rfl rfl rfl ?_
                    exact ⟨HasB.put hB 15 rfl rfl rfl rfl, hE, hr, r1, x1, x2, o3⟩
                  · intro b a wI hI hb hn hc
                    obtain ⟨hB, hE, hr, r1, x1, x2, o3⟩ := hI
                    have ha : Has 116 [(89, undef), (90, undef), (92, undef)] a := hB.get [12, 13, 15] (List.forall_mem_cons.2 ⟨(hn 12 (mem_needs rfl)), (List.forall_mem_cons.2 ⟨(hn 13 (mem_needs rfl)), (List.forall_mem_cons.2 ⟨(hn 15 (mem_needs rfl)), (fun _ h => by cases h)⟩)⟩)⟩) _ rfl
                    refine DoesG.gone rfl ha rfl rfl rfl ?_
                    exact ⟨HasB.put hB 16 rfl rfl rfl rfl, hE, hr, r1, x1, x2, o3⟩
                  · intro b a wI hI hb hn hc
                    obtain ⟨hB, hE, hr, r1, x1, x2, o3⟩ := hI
                    have ha : Has 116 [(80, .bool (!decide (a0_0 = a1_0 ∧ a0_1 = a1_1))), (89, undef), (93, undef)] a := hB.get [3, 12, 16] (List.forall_mem_cons.2 ⟨(hn 3 (mem_needs rfl)), (List.forall_mem_cons.2 ⟨(hn 12 (mem_needs rfl)), (List.forall_mem_cons.2 ⟨(hn 16 (mem_needs rfl)), (fun _ h => by cases h)⟩)⟩)⟩) _ rfl
                    refine DoesG.off rfl ha rfl rfl rfl (not_t (decide_eq_true hc13)) ?_
                    exact ⟨HasB.put hB 17 rfl rfl rfl rfl, hE, hr, r1, x1, x2, o3⟩
                  · intro b a wI hI hb hn hc
                    obtain ⟨hB, hE, hr, r1, x1, x2, o3⟩ := hI
                    have ha : Has 116 [(80, .bool (!decide (a0_0 = a1_0 ∧ a0_1 = a1_1))), (94, undef)] a := hB.get [3, 17] (List.forall_mem_cons.2 ⟨(hn 3 (mem_needs rfl)), (List.forall_mem_cons.2 ⟨(hn 17 (mem_needs rfl)), (fun _ h => by cases h)⟩)⟩) _ rfl
                    refine DoesG.off rfl ha rfl rfl rfl (not_t (decide_eq_true hc13)) ?_
                    exact ⟨HasB.put hB 18 rfl rfl rfl rfl, hE, hr, r1, x1, x2, o3⟩
                  · intro b a wI hI hb hn hc
                    obtain ⟨hB, hE, hr, r1, x1, x2, o3⟩ := hI
                    have ha : Has 116 [(9, .int .i64 t13), (95, undef)] a := hB.get [18] (List.forall_mem_cons.2 ⟨(hn 18 (mem_needs rfl)), (fun _ h => by cases h)⟩) _ rfl
                    refine DoesG.gone rfl ha rfl rfl rfl ?_
                    exact ⟨HasB.put hB 19 rfl rfl rfl rfl, hE, hr, r1, x1, x2, o3⟩
                  · intro b a wI hI hb hn hc
                    obtain ⟨hB, hE, hr, r1, x1, x2, o3⟩ := hI
                    have ha : Has 116 [(8, .slice p3 x3.length c3), (95, undef)] a := hB.get [18] (List.forall_mem_cons.2 ⟨(hn 18 (mem_needs rfl)), (fun _ h => by cases h)⟩) _ rfl
                    refine DoesG.gone rfl ha rfl rfl rfl ?_
                    exact ⟨HasB.put hB 20 rfl rfl rfl rfl, hE, hr, r1, x1, x2, o3⟩
                  · intro b a wI hI hb hn hc
                    obtain ⟨hB, hE, hr, r1, x1, x2, o3⟩ := hI
                    have ha : Has 116 [(95, undef), (97, undef)] a := hB.get [18, 20] (List.forall_mem_cons.2 ⟨(hn 18 (mem_needs rfl)), (List.forall_mem_cons.2 ⟨(hn 20 (mem_needs rfl)), (fun _ h => by cases h)⟩)⟩) _ rfl
                    refine DoesG.gone rfl ha rfl rfl rfl ?_
                    exact ⟨HasB.put hB 21 rfl rfl rfl rfl, hE, hr, r1, x1, x2, o3⟩
                  · intro b a wI hI hb hn hc
                    obtain ⟨hB, hE, hr, r1, x1, x2, o3⟩ := hI
                    have ha : Has 116 [(95, undef), (96, undef), (98, undef)] a := hB.get [18, 19, 21] (List.forall_mem_cons.2 ⟨(hn 18 (mem_needs rfl)), (List.forall_mem_cons.2 ⟨(hn 19 (mem_needs rfl)), (List.forall_mem_cons.2 ⟨(hn 21 (mem_needs rfl)), (fun _ h => by cases h)⟩)⟩)⟩) _ rfl
                    refine DoesG.gone rfl ha rfl rfl rfl ?_
                    exact ⟨HasB.put hB 22 rfl rfl rfl rfl, hE, hr, r1, x1, x2, o3⟩
                  · intro b a wI hI hb hn hc
                    obtain ⟨hB, hE, hr, r1, x1, x2, o3⟩ := hI
                    have ha : Has 116 [(80, .bool (!decide (a0_0 = a1_0 ∧ a0_1 = a1_1))), (95, undef), (99, undef)] a := hB.get [3, 18, 22] (List.forall_mem_cons.2 ⟨(hn 3 (mem_needs rfl)), (List.forall_mem_cons.2 ⟨(hn 18 (mem_needs rfl)), (List.forall_mem_cons.2 ⟨(hn 22 (mem_needs rfl)), (fun _ h => by cases h)⟩)⟩)⟩) _ rfl
                    refine DoesG.off rfl ha rfl rfl rfl (not_t (decide_eq_true hc13)) ?_
                    exact ⟨HasB.put hB 23 rfl rfl rfl rfl, hE, hr, r1, x1, x2, o3⟩
                  · intro b a wI hI hb hn hc
                    obtain ⟨hB, hE, hr, r1, x1, x2, o3⟩ := hI
                    have ha : Has 116 [(80, .bool (!decide (a0_0 = a1_0 ∧ a0_1 = a1_1))), (100, undef)] a := hB.get [3, 23] (List.forall_mem_cons.2 ⟨(hn 3 (mem_needs rfl)), (List.forall_mem_cons.2 ⟨(hn 23 (mem_needs rfl)), (fun _ h => by cases h)⟩)⟩) _ rfl
                    refine DoesG.off rfl ha rfl rfl rfl (not_t (decide_eq_true hc13)) ?_
                    exact ⟨HasB.put hB 24 rfl rfl rfl rfl, hE, hr, r1, x1, x2, o3⟩
                  · intro b a wI hI hb hn hc
                    obtain ⟨hB, hE, hr, r1, x1, x2, o3⟩ := hI
                    have ha : Has 116 [(7, .slice p1 t11.length c1), (101, undef)] a := hB.get [24] (List.forall_mem_cons.2 ⟨(hn 24 (mem_needs rfl)), (fun _ h => by cases h)⟩) _ rfl
                    refine DoesG.gone rfl ha rfl rfl rfl ?_
                    exact ⟨HasB.put hB 25 rfl rfl rfl rfl, hE, hr, r1, x1, x2, o3⟩
                  · intro b a wI hI hb hn hc
                    obtain ⟨hB, hE, hr, r1, x1, x2, o3⟩ := hI
                    have ha : Has 116 [(9, .int .i64 t13), (101, undef)] a := hB.get [24] (List.forall_mem_cons.2 ⟨(hn 24 (mem_needs rfl)), (fun _ h => by cases h)⟩) _ rfl
                    refine DoesG.gone rfl ha rfl rfl rfl ?_
                    exact ⟨HasB.put hB 26 rfl rfl rfl rfl, hE, hr, r1, x1, x2, o3⟩
                  · intro b a wI hI hb hn hc
                    obtain ⟨hB, hE, hr, r1, x1, x2, o3⟩ := hI
                    have ha : Has 116 [(101, undef), (102, undef), (103, undef)] a := hB.get [24, 25, 26] (List.forall_mem_cons.2 ⟨(hn 24 (mem_needs rfl)), (List.forall_mem_cons.2 ⟨(hn 25 (mem_needs rfl)), (List.forall_mem_cons.2 ⟨(hn 26 (mem_needs rfl)), (fun _ h => by cases h)⟩)⟩)⟩) _ rfl
                    refine DoesG.gone rfl ha rfl rfl rfl ?_
                    exact ⟨HasB.put hB 27 rfl rfl rfl rfl, hE, hr, r1, x1, x2, o3⟩
                  · intro b a wI hI hb hn hc
                    obtain ⟨hB, hE, hr, r1, x1, x2, o3⟩ := hI
                    have ha : Has 116 [(101, undef), (104, undef)] a := hB.get [24, 27] (List.forall_mem_cons.2 ⟨(hn 24 (mem_needs rfl)), (List.forall_mem_cons.2 ⟨(hn 27 (mem_needs rfl)), (fun _ h => by cases h)⟩)⟩) _ rfl
                    refine DoesG.gone rfl ha rfl rfl rfl ?_
                    exact ⟨HasB.put hB 28 rfl rfl rfl rfl, hE, hr, r1, x1, x2, o3⟩
                  · intro b a wI hI hb hn hc
                    obtain ⟨hB, hE, hr, r1, x1, x2, o3⟩ := hI
                    have ha : Has 116 [(8, .slice p3 x3.length c3), (101, undef)] a := hB.get [24] (List.forall_mem_cons.2 ⟨(hn 24 (mem_needs rfl)), (fun _ h => by cases h)⟩) _ rfl
                    refine DoesG.gone rfl ha rfl rfl rfl ?_
                    exact ⟨HasB.put hB 29 rfl rfl rfl rfl, hE, hr, r1, x1, x2, o3⟩
                  · intro b a wI hI hb hn hc
                    obtain ⟨hB, hE, hr, r1, x1, x2, o3⟩ := hI
                    have ha : Has 116 [(9, .int .i64 t13), (101, undef)] a := hB.get [24] (List.forall_mem_cons.2 ⟨(hn 24 (mem_needs rfl)), (fun _ h => by cases h)⟩) _ rfl
                    refine DoesG.gone rfl ha rfl rfl rfl ?_
                    exact ⟨HasB.put hB 30 rfl rfl rfl rfl, hE, hr, r1, x1, x2, o3⟩
                  · intro b a wI hI hb hn hc
                    obtain ⟨hB, hE, hr, r1, x1, x2, o3⟩ := hI
                    have ha : Has 116 [(101, undef), (106, undef), (107, undef)] a := hB.get [24, 29, 30] (List.forall_mem_cons.2 ⟨(hn 24 (mem_needs rfl)), (List.forall_mem_cons.2 ⟨(hn 29 (mem_needs rfl)), (List.forall_mem_cons.2 ⟨(hn 30 (mem_needs rfl)), (fun _ h => by cases h)⟩)⟩)⟩) _ rfl
                    refine DoesG.gone rfl ha rfl rfl rfl ?_
                    exact ⟨HasB.put hB 31 rfl rfl rfl rfl, hE, hr, r1, x1, x2, o3⟩
                  · intro b a wI hI hb hn hc
                    obtain ⟨hB, hE, hr, r1, x1, x2, o3⟩ := hI
                    have ha : Has 116 [(101, undef), (108, undef)] a := hB.get [24, 31] (List.forall_mem_cons.2 ⟨(hn 24 (mem_needs rfl)), (List.forall_mem_cons.2 ⟨(hn 31 (mem_needs rfl)), (fun _ h => by cases h)⟩)⟩) _ rfl
                    refine DoesG.gone rfl ha rfl rfl rfl ?_
                    exact ⟨HasB.put hB 32 rfl rfl rfl rfl, hE, hr, r1, x1, x2, o3⟩
                  · intro b a wI hI hb hn hc
                    obtain ⟨hB, hE, hr, r1, x1, x2, o3⟩ := hI
                    have ha : Has 116 [(101, undef), (105, undef), (109, undef)] a := hB.get [24, 28, 32] (List.forall_mem_cons.2 ⟨(hn 24 (mem_needs rfl)), (List.forall_mem_cons.2 ⟨(hn 28 (mem_needs rfl)), (List.forall_mem_cons.2 ⟨(hn 32 (mem_needs rfl)), (fun _ h => by cases h)⟩)⟩)⟩) _ rfl
                    refine DoesG.gone rfl ha rfl rfl rfl ?_
                    exact ⟨HasB.put hB 33 rfl rfl rfl rfl, hE, hr, r1, x1, x2, o3⟩
                  · intro b a wI hI hb hn hc
                    obtain ⟨hB, hE, hr, r1, x1, x2, o3⟩ := hI
                    have ha : Has 116 [(5, .bool t3), (101, undef)] a := hB.get [24] (List.forall_mem_cons.2 ⟨(hn 24 (mem_needs rfl)), (fun _ h => by cases h)⟩) _ rfl
                    refine DoesG.gone rfl ha rfl rfl rfl ?_
                    exact ⟨HasB.put hB 34 rfl rfl rfl rfl, hE, hr, r1, x1, x2, o3⟩
                · intro b a w30 hb hI
                  obtain ⟨hB, hE, hr, r1, x1, x2, o3⟩ := hI
                  have ha : Has 116 [(77, .agg #[.int .i64 a0_0, .string a0_1]), (78, .agg #[.int .i64 a1_0, .string a1_1]), (79, .bool (!decide (a0_0 = a1_0 ∧ a0_1 = a1_1))), (80, .bool (!decide (a0_0 = a1_0 ∧ a0_1 = a1_1))), (81, undef), (82, undef), (83, undef), (84, undef), (85, undef), (86, undef), (87, undef), (88, undef), (89, undef), (90, undef), (91, undef), (92, undef), (93, undef), (94, undef), (95, undef), (96, undef), (97, undef), (98, undef), (99, undef), (100, undef), (101, undef), (102, undef), (103, undef), (104, undef), (105, undef), (106, undef), (107, undef), (108, undef), (109, undef), (110, undef), (111, undef), (2, .pointer (some ⟨b1, 0, none⟩)), (3, .pointer (some ⟨b2, 0, none⟩)), (5, .bool t3), (7, .slice p1 t11.length c1), (8, .slice p3 x3.length c3), (9, .int .i64 t13)] a := hB.get [0, 1, 2, 3, 4, 5, 6, 7, 8, 9, 10, 11, 12, 13, 14, 15, 16, 17, 18, 19, 20, 21, 22, 23, 24, 25, 26, 27, 28, 29, 30, 31, 32, 33, 34] (List.forall_mem_cons.2 ⟨(hb 0 (by decide) (by decide)), (List.forall_mem_cons.2 ⟨(hb 1 (by decide) (by decide)), (List.forall_mem_cons.2 ⟨(hb 2 (by decide) (by decide)), (List.forall_mem_cons.2 ⟨(hb 3 (by decide) (by decide)), (List.forall_mem_cons.2 ⟨(hb 4 (by decide) (by decide)), (List.forall_mem_cons.2 ⟨(hb 5 (by decide) (by decide)), (List.forall_mem_cons.2 ⟨(hb 6 (by decide) (by decide)), (List.forall_mem_cons.2 ⟨(hb 7 (by decide) (by decide)), (List.forall_mem_cons.2 ⟨(hb 8 (by decide) (by decide)), (List.forall_mem_cons.2 ⟨(hb 9 (by decide) (by decide)), (List.forall_mem_cons.2 ⟨(hb 10 (by decide) (by decide)), (List.forall_mem_cons.2 ⟨(hb 11 (by decide) (by decide)), (List.forall_mem_cons.2 ⟨(hb 12 (by decide) (by decide)), (List.forall_mem_cons.2 ⟨(hb 13 (by decide) (by decide)), (List.forall_mem_cons.2 ⟨(hb 14 (by decide) (by decide)), (List.forall_mem_cons.2 ⟨(hb 15 (by decide) (by decide)), (List.forall_mem_cons.2 ⟨(hb 16 (by decide) (by decide)), (List.forall_mem_cons.2 ⟨(hb 17 (by decide) (by decide)), (List.forall_mem_cons.2 ⟨(hb 18 (by decide) (by decide)), (List.forall_mem_cons.2 ⟨(hb 19 (by decide) (by decide)), (List.forall_mem_cons.2 ⟨(hb 20 (by decide) (by decide)), (List.forall_mem_cons.2 ⟨(hb 21 (by decide) (by decide)), (List.forall_mem_cons.2 ⟨(hb 22 (by decide) (by decide)), (List.forall_mem_cons.2 ⟨(hb 23 (by decide) (by decide)), (List.forall_mem_cons.2 ⟨(hb 24 (by decide) (by decide)), (List.forall_mem_cons.2 ⟨(hb 25 (by decide) (by decide)), (List.forall_mem_cons.2 ⟨(hb 26 (by decide) (by decide)), (List.forall_mem_cons.2 ⟨(hb 27 (by decide) (by decide)), (List.forall_mem_cons.2 ⟨(hb 28 (by decide) (by decide)), (List.forall_mem_cons.2 ⟨(hb 29 (by decide) (by decide)), (List.forall_mem_cons.2 ⟨(hb 30 (by decide) (by decide)), (List.forall_mem_cons.2 ⟨(hb 31 (by decide) (by decide)), (List.forall_mem_cons.2 ⟨(hb 32 (by decide) (by decide)), (List.forall_mem_cons.2 ⟨(hb 33 (by decide) (by decide)), (List.forall_mem_cons.2 ⟨(hb 34 (by decide) (by decide)), (fun _ h => by cases h)⟩)⟩)⟩)⟩)⟩)⟩)⟩)⟩)⟩)⟩)⟩)⟩)⟩)⟩)⟩)⟩)⟩)⟩)⟩)⟩)⟩)⟩)⟩)⟩)⟩)⟩)⟩)⟩)⟩)⟩)⟩)⟩)⟩)⟩)⟩) _ rfl
                  refine goGone ha rfl rfl rfl rfl  fun a ha => ?_
                  refine goOff ha rfl rfl rfl rfl (not_t (decide_eq_true hc13)) fun a ha => ?_
                  refine go1 ha rfl (d_pickF ha rfl (not_t (decide_eq_true hc13)) rfl) fun a ha => ?_
                  refine nil_ ?_
                  refine hK28 _ _ ?_
                  have ha := ha.to (l' := [(114, _)]) rfl
                  refine wcond_f ha rfl rfl ?_
                  refine wp_skip ?_
                  refine hK27 _ _ ?_
                  have ha := ha.to (l' := []) rfl
                  refine wp_seq_k (fun K35 hK35 => ?_)
                  refine wreg ?_
                  obtain ⟨t17, ht17, hF⟩ := bind_elim hF
                  refine goR ha rfl (d_call Try.call10 ha (vs := []) rfl (warderlaw02_known_c k   (Av [p3, some ⟨b2, 0, none⟩, some ⟨b1, 0, none⟩] W) _ (Ex.wlt (as0 := []) (rr := []) (ro := [p3, some ⟨b2, 0, none⟩, some ⟨b1, 0, none⟩]) hE hW)  _ ht17)) fun v w31 a h ha => ?_
                  obtain ⟨rfl, hC⟩ := h
                  have hs : Step [p3, some ⟨b2, 0, none⟩, some ⟨b1, 0, none⟩] [p3, some ⟨b2, 0, none⟩, some ⟨b1, 0, none⟩] w30 w31 := hC.callStep [p3, some ⟨b2, 0, none⟩, some ⟨b1, 0, none⟩]
                  have r1 := hs.tr r1
                  have o3 := o3.keep hC.fr (Ex.callOff (as0 := []) (rt := [p3, some ⟨b2, 0, none⟩, some ⟨b1, 0, none⟩]) hE (u := p3) (by simp)) (fun _ _ h => hs.trK h)
                  have x2 := x2.keep hC.fr ((Ex.callOff (as0 := []) (rt := [p3, some ⟨b2, 0, none⟩, some ⟨b1, 0, none⟩]) hE (u := some ⟨b2, 0, none⟩) (by simp)) _ rfl)
                  have x1 := x1.keep hC.fr ((Ex.callOff (as0 := []) (rt := [p3, some ⟨b2, 0, none⟩, some ⟨b1, 0, none⟩]) hE (u := some ⟨b1, 0, none⟩) (by simp)) _ rfl)
                  have hE : Ex w (Av [] No) [p3, some ⟨b2, 0, none⟩, some ⟨b1, 0, none⟩] w31 := Ex.call (as0 := []) (rt := [p3, some ⟨b2, 0, none⟩, some ⟨b1, 0, none⟩]) hE hC
                  refine go1 ha rfl (d_assign ha rfl) fun a ha => ?_
                  refine nil_ ?_
                  refine hK35 _ _ ?_
                  have ha := ha.to (l' := [(4, _)]) rfl
                  refine wp_ret ?_
                  have hs : Step [p3, some ⟨b2, 0, none⟩, some ⟨b1, 0, none⟩] [] w31 w31 := Step.pick _ _ []
                  have r1 := hs.tr r1
                  have hE : Ex w (Av [] No) [] w31 := hE.pick [] (by decide)
                  injection hF with hF
                  subst hF
                  refine fin1 ha Try.results7 rfl ?_
                  exact ⟨rfl, hE⟩
              · obtain ⟨t14, ht14, hF⟩ := bind_elim hF
                rcases cond_elim hF with ⟨hc14, hF⟩ | ⟨hc14, hF⟩
                · refine drawnC 12 (by kernel_rfl) 35 (by decide) rfl (fun b a wI => HasB 116 [(2, .pointer (some ⟨b1, 0, none⟩)), (3, .pointer (some ⟨b2, 0, none⟩)), (5, .bool t3), (7, .slice p1 t11.length c1), (8, .slice p3 x3.length c3), (9, .int .i64 t13)] [(0, 77, .agg #[.int .i64 a0_0, .string a0_1]), (1, 78, .agg #[.int .i64 a1_0, .string a1_1]), (2, 79, .bool (!decide (a0_0 = a1_0 ∧ a0_1 = a1_1))), (3, 80, .bool (!decide (a0_0 = a1_0 ∧ a0_1 = a1_1))), (4, 81, .slice p1 t11.length c1), (5, 82, .slice p3 x3.length c3), (6, 83, .bool t14), (7, 84, .bool t14), (8, 85, undef), (9, 86, undef), (10, 87, undef), (11, 88, .bool true), (12, 89, .bool true), (13, 90, undef), (14, 91, undef), (15, 92, undef), (16, 93, undef), (17, 94, .bool true), (18, 95, .bool true), (19, 96, undef), (20, 97, undef), (21, 98, undef), (22, 99, undef), (23, 100, .bool true), (24, 101, .bool true), (25, 102, undef), (26, 103, undef), (27, 104, undef), (28, 105, undef), (29, 106, undef), (30, 107, undef), (31, 108, undef), (32, 109, undef), (33, 110, undef), (34, 111, undef)] b a ∧ Ex w (Av [] No) [p3, some ⟨b2, 0, none⟩, some ⟨b1, 0, none⟩] wI ∧ Fr w21 wI No ∧ Raw (Av [p3, some ⟨b2, 0, none⟩, some ⟨b1, 0, none⟩] (Old w)) (Kd.int .u8) wI.heap p1 c1 t11 ∧ Bx wI b1 29 [.int .i64 a0_0, .string a0_1] ∧ Bx wI b2 29 [.int .i64 a1_0, .string a1_1] ∧ Ow (Av [p3, some ⟨b2, 0, none⟩, some ⟨b1, 0, none⟩] W) wI 5 (Kd.int .u8) p3 c3 x3) ?_ (EachAt.all0 ?_) ?_
                  · exact ⟨HasB.start (ha.to rfl) rfl, hE.drew, (Fr.refl _ No).drew, r1, x1, x2, o3⟩
                  · refine (EachAt.cons ?_ (EachAt.cons ?_ (EachAt.cons ?_ (EachAt.cons ?_ (EachAt.cons ?_ (EachAt.cons ?_ (EachAt.cons ?_ (EachAt.cons ?_ (EachAt.cons ?_ (EachAt.cons ?_ (EachAt.cons ?_ (EachAt.cons ?_ (EachAt.cons ?_ (EachAt.cons ?_ (EachAt.cons ?_ (EachAt.cons ?_ (EachAt.cons ?_ (EachAt.cons ?_ (EachAt.cons ?_ (EachAt.cons ?_ (EachAt.cons ?_ (EachAt.cons ?_ (EachAt.cons ?_ (EachAt.cons ?_ (EachAt.cons ?_ (EachAt.cons ?_ (EachAt.cons ?_ (EachAt.cons ?_ (EachAt.cons ?_ (EachAt.cons ?_ (EachAt.cons ?_ (EachAt.cons ?_ (EachAt.cons ?_ (EachAt.cons ?_ (EachAt.cons ?_ EachAt.nil)))))))))))))))))))))))))))))))))))
                    · intro b a wI hI hb hn hc
                      obtain ⟨hB, hE, hr, r1, x1, x2, o3⟩ := hI
                      have ha : Has 116 [(2, .pointer (some ⟨b1, 0, none⟩))] a := hB.get [] (fun _ h => by cases h) _ rfl
                      refine DoesG.plain rfl (Does.mono (d_loadAgg (cs := [.int .i64 a0_0, .string a0_1]) ha rfl (x1.at_.sub' 0 2 rfl) Try.isAgg29 Try.sizeOf29 rfl) ?_)
                      rintro v wJ ⟨rfl, rfl⟩
                      exact ⟨HasB.put hB 0 rfl rfl rfl rfl, hE, hr, r1, x1, x2, o3⟩
                    · intro b a wI hI hb hn hc
                      obtain ⟨hB, hE, hr, r1, x1, x2, o3⟩ := hI
                      have ha : Has 116 [(3, .pointer (some ⟨b2, 0, none⟩))] a := hB.get [] (fun _ h => by cases h) _ rfl
                      refine DoesG.plain rfl (Does.mono (d_loadAgg (cs := [.int .i64 a1_0, .string a1_1]) ha rfl (x2.at_.sub' 0 2 rfl) Try.isAgg29 Try.sizeOf29 rfl) ?_)
                      rintro v wJ ⟨rfl, rfl⟩
                      exact ⟨HasB.put hB 1 rfl rfl rfl rfl, hE, hr, r1, x1, x2, o3⟩
                    · intro b a wI hI hb hn hc
                      obtain ⟨hB, hE, hr, r1, x1, x2, o3⟩ := hI
                      have ha : Has 116 [(77, .agg #[.int .i64 a0_0, .string a0_1]), (78, .agg #[.int .i64 a1_0, .string a1_1])] a := hB.get [0, 1] (List.forall_mem_cons.2 ⟨(hn 0 (mem_needs rfl)), (List.forall_mem_cons.2 ⟨(hn 1 (mem_needs rfl)), (fun _ h => by cases h)⟩)⟩) _ rfl
                      refine DoesG.plain rfl (Does.mono (d_neAg (q := a0_0 = a1_0 ∧ a0_1 = a1_1) ha rfl rfl (by kernel_rfl) (.struct Try.underlying29 (by kernel_rfl) (.cons (by decide) (.cell Try.isAgg27 rfl) (.cell Try.isAgg27 rfl) (.int Try.underlying27) (.one (by decide) (.cell Try.isAgg9 rfl) (.cell Try.isAgg9 rfl) (.str Try.underlying9))))) ?_)
                      rintro v wJ ⟨rfl, rfl⟩
                      exact ⟨HasB.put hB 2 rfl rfl rfl rfl, hE, hr, r1, x1, x2, o3⟩
                    · intro b a wI hI hb hn hc
                      obtain ⟨hB, hE, hr, r1, x1, x2, o3⟩ := hI
                      have ha : Has 116 [(79, .bool (!decide (a0_0 = a1_0 ∧ a0_1 = a1_1)))] a := hB.get [2] (List.forall_mem_cons.2 ⟨(hn 2 (mem_needs rfl)), (fun _ h => by cases h)⟩) _ rfl
                      refine DoesG.plain rfl (Does.mono (d_move ha rfl) ?_)
                      rintro v wJ ⟨rfl, rfl⟩
                      exact ⟨HasB.put hB 3 rfl rfl rfl rfl, hE, hr, r1, x1, x2, o3⟩
                    · intro b a wI hI hb hn hc
                      obtain ⟨hB, hE, hr, r1, x1, x2, o3⟩ := hI
                      have ha : Has 116 [(7, .slice p1 t11.length c1), (80, .bool (!decide (a0_0 = a1_0 ∧ a0_1 = a1_1)))] a := hB.get [3] (List.forall_mem_cons.2 ⟨(hn 3 (mem_needs rfl)), (fun _ h => by cases h)⟩) _ rfl
                      refine DoesG.on rfl ha rfl rfl rfl (not_f (decide_eq_false hc13)) (Does.mono (d_move ha rfl) ?_)
                      rintro v wJ ⟨rfl, rfl⟩
                      exact ⟨HasB.put hB 4 rfl rfl rfl rfl, hE, hr, r1, x1, x2, o3⟩
                    · intro b a wI hI hb hn hc
                      obtain ⟨hB, hE, hr, r1, x1, x2, o3⟩ := hI
                      have ha : Has 116 [(8, .slice p3 x3.length c3), (80, .bool (!decide (a0_0 = a1_0 ∧ a0_1 = a1_1)))] a := hB.get [3] (List.forall_mem_cons.2 ⟨(hn 3 (mem_needs rfl)), (fun _ h => by cases h)⟩) _ rfl
                      refine DoesG.on rfl ha rfl rfl rfl (not_f (decide_eq_false hc13)) (Does.mono (d_move ha rfl) ?_)
                      rintro v wJ ⟨rfl, rfl⟩
                      exact ⟨HasB.put hB 5 rfl rfl rfl rfl, hE, hr, r1, x1, x2, o3⟩
                    · intro b a wI hI hb hn hc
                      obtain ⟨hB, hE, hr, r1, x1, x2, o3⟩ := hI
                      have ha : Has 116 [(80, .bool (!decide (a0_0 = a1_0 ∧ a0_1 = a1_1))), (81, .slice p1 t11.length c1), (82, .slice p3 x3.length c3)] a := hB.get [3, 4, 5] (List.forall_mem_cons.2 ⟨(hn 3 (mem_needs rfl)), (List.forall_mem_cons.2 ⟨(hn 4 (mem_needs rfl)), (List.forall_mem_cons.2 ⟨(hn 5 (mem_needs rfl)), (fun _ h => by cases h)⟩)⟩)⟩) _ rfl
                      refine DoesG.on rfl ha rfl rfl rfl (not_f (decide_eq_false hc13)) (Does.mono (d_call Try.call25 ha (vs := [.slice p1 t11.length c1, .slice p3 x3.length c3]) rfl (warderref02_Is_c t11 x3 _ _ _ _ (Av [some ⟨b2, 0, none⟩, some ⟨b1, 0, none⟩] W) _ (Ex.wlt (as0 := []) (rr := [p3]) (ro := [some ⟨b2, 0, none⟩, some ⟨b1, 0, none⟩]) hE hW) (Raw.arg (as0 := []) (rr := [p3]) (ro := [some ⟨b2, 0, none⟩, some ⟨b1, 0, none⟩]) r1 hW) (Ow.argR (as0 := []) (rr := [p3]) (ro := [some ⟨b2, 0, none⟩, some ⟨b1, 0, none⟩]) o3 hE hW hW0 (by simp)) _ ht14)) ?_)
                      intro v w22 h
                      obtain ⟨rfl, hC⟩ := h
                      have hfr : Fr wI w22 No := hC.fr.mono (fun _ _ h => by rcases h with h | ⟨_, h, _⟩; exact h; cases h)
                      have hs : Step [p3, some ⟨b2, 0, none⟩, some ⟨b1, 0, none⟩] [p3, some ⟨b2, 0, none⟩, some ⟨b1, 0, none⟩] wI w22 := hC.callStep [p3, some ⟨b2, 0, none⟩, some ⟨b1, 0, none⟩]
                      have r1 := hs.tr r1
                      have o3 := o3.keep hC.fr (Ex.callOff (as0 := []) (rt := [p3, some ⟨b2, 0, none⟩, some ⟨b1, 0, none⟩]) hE (u := p3) (by simp)) (fun _ _ h => hs.trK h)
                      have x2 := x2.keep hC.fr ((Ex.callOff (as0 := []) (rt := [p3, some ⟨b2, 0, none⟩, some ⟨b1, 0, none⟩]) hE (u := some ⟨b2, 0, none⟩) (by simp)) _ rfl)
                      have x1 := x1.keep hC.fr ((Ex.callOff (as0 := []) (rt := [p3, some ⟨b2, 0, none⟩, some ⟨b1, 0, none⟩]) hE (u := some ⟨b1, 0, none⟩) (by simp)) _ rfl)
                      have hE : Ex w (Av [] No) [p3, some ⟨b2, 0, none⟩, some ⟨b1, 0, none⟩] w22 := Ex.call (as0 := []) (rt := [p3, some ⟨b2, 0, none⟩, some ⟨b1, 0, none⟩]) hE hC
                      exact ⟨HasB.put hB 6 rfl rfl rfl rfl, hE, hr.step hfr (fun _ _ h => h), r1, x1, x2, o3⟩
                    · intro b a wI hI hb hn hc
                      obtain ⟨hB, hE, hr, r1, x1, x2, o3⟩ := hI
                      have ha : Has 116 [(80, .bool (!decide (a0_0 = a1_0 ∧ a0_1 = a1_1))), (83, .bool t14)] a := hB.get [3, 6] (List.forall_mem_cons.2 ⟨(hn 3 (mem_needs rfl)), (List.forall_mem_cons.2 ⟨(hn 6 (mem_needs rfl)), (fun _ h => by cases h)⟩)⟩) _ rfl
                      refine DoesG.on rfl ha rfl rfl rfl (not_f (decide_eq_false hc13)) (Does.mono (d_move ha rfl) ?_)
                      rintro v wJ ⟨rfl, rfl⟩
                      exact ⟨HasB.put hB 7 rfl rfl rfl rfl, hE, hr, r1, x1, x2, o3⟩
                    · intro b a wI hI hb hn hc
                      obtain ⟨hB, hE, hr, r1, x1, x2, o3⟩ := hI
                      have ha : Has 116 [(8, .slice p3 x3.length c3), (84, .bool t14)] a := hB.get [7] (List.forall_mem_cons.2 ⟨(hn 7 (mem_needs rfl)), (fun _ h => by cases h)⟩) _ rfl
                      refine DoesG.off rfl ha rfl rfl rfl hc14 ?_
                      exact ⟨HasB.put hB 8 rfl rfl rfl rfl, hE, hr, r1, x1, x2, o3⟩
                    · intro b a wI hI hb hn hc
                      obtain ⟨hB, hE, hr, r1, x1, x2, o3⟩ := hI
                      have ha : Has 116 [(7, .slice p1 t11.length c1), (84, .bool t14)] a := hB.get [7] (List.forall_mem_cons.2 ⟨(hn 7 (mem_needs rfl)), (fun _ h => by cases h)⟩) _ rfl
                      refine DoesG.off rfl ha rfl rfl rfl hc14 ?_
                      exact ⟨HasB.put hB 9 rfl rfl rfl rfl, hE, hr, r1, x1, x2, o3⟩
                    · intro b a wI hI hb hn hc
                      obtain ⟨hB, hE, hr, r1, x1, x2, o3⟩ := hI
                      have ha : Has 116 [(84, .bool t14), (85, undef), (86, undef)] a := hB.get [7, 8, 9] (List.forall_mem_cons.2 ⟨(hn 7 (mem_needs rfl)), (List.forall_mem_cons.2 ⟨(hn 8 (mem_needs rfl)), (List.forall_mem_cons.2 ⟨(hn 9 (mem_needs rfl)), (fun _ h => by cases h)⟩)⟩)⟩) _ rfl
                      refine DoesG.off rfl ha rfl rfl rfl hc14 ?_
                      exact ⟨HasB.put hB 10 rfl rfl rfl rfl, hE, hr, r1, x1, x2, o3⟩
                    · intro b a wI hI hb hn hc
                      obtain ⟨hB, hE, hr, r1, x1, x2, o3⟩ := hI
                      have ha : Has 116 [(80, .bool (!decide (a0_0 = a1_0 ∧ a0_1 = a1_1))), (84, .bool t14), (87, undef)] a := hB.get [3, 7, 10] (List.forall_mem_cons.2 ⟨(hn 3 (mem_needs rfl)), (List.forall_mem_cons.2 ⟨(hn 7 (mem_needs rfl)), (List.forall_mem_cons.2 ⟨(hn 10 (mem_needs rfl)), (fun _ h => by cases h)⟩)⟩)⟩) _ rfl
                      refine DoesG.on rfl ha rfl rfl rfl (not_f (decide_eq_false hc13)) (Does.mono (d_pick ha rfl hc14 rfl) ?_)
                      rintro v wJ ⟨rfl, rfl⟩
                      exact ⟨HasB.put hB 11 rfl rfl rfl rfl, hE, hr, r1, x1, x2, o3⟩
                    · intro b a wI hI hb hn hc
                      obtain ⟨hB, hE, hr, r1, x1, x2, o3⟩ := hI
                      have ha : Has 116 [(80, .bool (!decide (a0_0 = a1_0 ∧ a0_1 = a1_1))), (88, .bool true)] a := hB.get [3, 11] (List.forall_mem_cons.2 ⟨(hn 3 (mem_needs rfl)), (List.forall_mem_cons.2 ⟨(hn 11 (mem_needs rfl)), (fun _ h => by cases h)⟩)⟩) _ rfl
                      refine DoesG.on rfl ha rfl rfl rfl (not_f (decide_eq_false hc13)) (Does.mono (d_move ha rfl) ?_)
                      rintro v wJ ⟨rfl, rfl⟩
                      exact ⟨HasB.put hB 12 rfl rfl rfl rfl, hE, hr, r1, x1, x2, o3⟩
                    · intro b a wI hI hb hn hc
                      obtain ⟨hB, hE, hr, r1, x1, x2, o3⟩ := hI
                      have ha : Has 116 [(9, .int .i64 t13), (89, .bool true)] a := hB.get [12] (List.forall_mem_cons.2 ⟨(hn 12 (mem_needs rfl)), (fun _ h => by cases h)⟩) _ rfl
                      refine DoesG.off rfl ha rfl rfl rfl rfl ?_
                      exact ⟨HasB.put hB 13 rfl rfl rfl rfl, hE, hr, r1, x1, x2, o3⟩
                    · intro b a wI hI hb hn hc
                      obtain ⟨hB, hE, hr, r1, x1, x2, o3⟩ := hI
                      have ha : Has 116 [(7, .slice p1 t11.length c1), (89, .bool true)] a := hB.get [12] (List.forall_mem_cons.2 ⟨(hn 12 (mem_needs rfl)), (fun _ h => by cases h)⟩) _ rfl
                      refine DoesG.off rfl ha rfl rfl rfl rfl ?_
                      exact ⟨HasB.put hB 14 rfl rfl rfl rfl, hE, hr, r1, x1, x2, o3⟩
                    · intro b a wI hI hb hn hc
                      obtain ⟨hB, hE, hr, r1, x1, x2, o3⟩ := hI
                      have ha : Has 116 [(89, .bool true), (91, undef)] a := hB.get [12, 14] (List.forall_mem_cons.2 ⟨(hn 12 (mem_needs rfl)), (List.forall_mem_cons.2 ⟨(hn 14 (mem_needs rfl)), (fun _ h => by cases h)⟩)⟩) _ rfl
                      refine DoesG.off rfl ha rfl rfl rfl rfl ?_
                      exact ⟨HasB.put hB 15 rfl rfl rfl rfl, hE, hr, r1, x1, x2, o3⟩
                    · intro b a wI hI hb hn hc
                      obtain ⟨hB, hE, hr, r1, x1, x2, o3⟩ := hI
                      have ha : Has 116 [(89, .bool true), (90, undef), (92, undef)] a := hB.get [12, 13, 15] (List.forall_mem_cons.2 ⟨(hn 12 (mem_needs rfl)), (List.forall_mem_cons.2 ⟨(hn 13 (mem_needs rfl)), (List.forall_mem_cons.2 ⟨(hn 15 (mem_needs rfl)), (fun _ h => by cases h)⟩)⟩)⟩) _ rfl
                      refine DoesG.off rfl ha rfl rfl rfl rfl ?_
                      exact ⟨HasB.put hB 16 rfl rfl rfl rfl, hE, hr, r1, x1, x2, o3⟩
                    · intro b a wI hI hb hn hc
                      obtain ⟨hB, hE, hr, r1, x1, x2, o3⟩ := hI
                      have ha : Has 116 [(80, .bool (!decide (a0_0 = a1_0 ∧ a0_1 = a1_1))), (89, .bool true), (93, undef)] a := hB.get [3, 12, 16] (List.forall_mem_cons.2 ⟨(hn 3 (mem_needs rfl)), (List.forall_mem_cons.2 ⟨(hn 12 (mem_needs rfl)), (List.forall_mem_cons.2 ⟨(hn 16 (mem_needs rfl)), (fun _ h => by cases h)⟩)⟩)⟩) _ rfl
                      refine DoesG.on rfl ha rfl rfl rfl (not_f (decide_eq_false hc13)) (Does.mono (d_pick ha rfl rfl rfl) ?_)
                      rintro v wJ ⟨rfl, rfl⟩
                      exact ⟨HasB.put hB 17 rfl rfl rfl rfl, hE, hr, r1, x1, x2, o3⟩
                    · intro b a wI hI hb hn hc
                      obtain ⟨hB, hE, hr, r1, x1, x2, o3⟩ := hI
                      have ha : Has 116 [(80, .bool (!decide (a0_0 = a1_0 ∧ a0_1 = a1_1))), (94, .bool true)] a := hB.get [3, 17] (List.forall_mem_cons.2 ⟨(hn 3 (mem_needs rfl)), (List.forall_mem_cons.2 ⟨(hn 17 (mem_needs rfl)), (fun _ h => by cases h)⟩)⟩) _ rfl
                      refine DoesG.on rfl ha rfl rfl rfl (not_f (decide_eq_false hc13)) (Does.mono (d_move ha rfl) ?_)
                      rintro v wJ ⟨rfl, rfl⟩
                      exact ⟨HasB.put hB 18 rfl rfl rfl rfl, hE, hr, r1, x1, x2, o3⟩
                    · intro b a wI hI hb hn hc
                      obtain ⟨hB, hE, hr, r1, x1, x2, o3⟩ := hI
                      have ha : Has 116 [(9, .int .i64 t13), (95, .bool true)] a := hB.get [18] (List.forall_mem_cons.2 ⟨(hn 18 (mem_needs rfl)), (fun _ h => by cases h)⟩) _ rfl
                      refine DoesG.off rfl ha rfl rfl rfl rfl ?_
                      exact ⟨HasB.put hB 19 rfl rfl rfl rfl, hE, hr, r1, x1, x2, o3⟩
                    · intro b a wI hI hb hn hc
                      obtain ⟨hB, hE, hr, r1, x1, x2, o3⟩ := hI
                      have ha : Has 116 [(8, .slice p3 x3.length c3), (95, .bool true)] a := hB.get [18] (List.forall_mem_cons.2 ⟨(hn 18 (mem_needs rfl)), (fun _ h => by cases h)⟩) _ rfl
                      refine DoesG.off rfl ha rfl rfl rfl rfl ?_
                      exact ⟨HasB.put hB 20 rfl rfl rfl rfl, hE, hr, r1, x1, x2, o3⟩
                    · intro b a wI hI hb hn hc
                      obtain ⟨hB, hE, hr, r1, x1, x2, o3⟩ := hI
                      have ha : Has 116 [(95, .bool true), (97, undef)] a := hB.get [18, 20] (List.forall_mem_cons.2 ⟨(hn 18 (mem_needs rfl)), (List.forall_mem_cons.2 ⟨(hn 20 (mem_needs rfl)), (fun _ h => by cases h)⟩)⟩) _ rfl
                      refine DoesG.off rfl ha rfl rfl rfl rfl ?_
                      exact ⟨HasB.put hB 21 rfl rfl rfl rfl, hE, hr, r1, x1, x2, o3⟩
                    · intro b a wI hI hb hn hc
                      obtain ⟨hB, hE, hr, r1, x1, x2, o3⟩ := hI
                      have ha : Has 116 [(95, .bool true), (96, undef), (98, undef)] a := hB.get [18, 19, 21] (List.forall_mem_cons.2 ⟨(hn 18 (mem_needs rfl)), (List.forall_mem_cons.2 ⟨(hn 19 (mem_needs rfl)), (List.forall_mem_cons.2 ⟨(hn 21 (mem_needs rfl)), (fun _ h => by cases h)⟩)⟩)⟩) _ rfl
                      refine DoesG.off rfl ha rfl rfl rfl rfl ?_
                      exact ⟨HasB.put hB 22 rfl rfl rfl rfl, hE, hr, r1, x1, x2, o3⟩
                    · intro b a wI hI hb hn hc
                      obtain ⟨hB, hE, hr, r1, x1, x2, o3⟩ := hI
                      have ha : Has 116 [(80, .bool (!decide (a0_0 = a1_0 ∧ a0_1 = a1_1))), (95, .bool true), (99, undef)] a := hB.get [3, 18, 22] (List.forall_mem_cons.2 ⟨(hn 3 (mem_needs rfl)), (List.forall_mem_cons.2 ⟨(hn 18 (mem_needs rfl)), (List.forall_mem_cons.2 ⟨(hn 22 (mem_needs rfl)), (fun _ h => by cases h)⟩)⟩)⟩) _ rfl
                      refine DoesG.on rfl ha rfl rfl rfl (not_f (decide_eq_false hc13)) (Does.mono (d_pick ha rfl rfl rfl) ?_)
                      rintro v wJ ⟨rfl, rfl⟩
                      exact ⟨HasB.put hB 23 rfl rfl rfl rfl, hE, hr, r1, x1, x2, o3⟩
                    · intro b a wI hI hb hn hc
                      obtain ⟨hB, hE, hr, r1, x1, x2, o3⟩ := hI
                      have ha : Has 116 [(80, .bool (!decide (a0_0 = a1_0 ∧ a0_1 = a1_1))), (100, .bool true)] a := hB.get [3, 23] (List.forall_mem_cons.2 ⟨(hn 3 (mem_needs rfl)), (List.forall_mem_cons.2 ⟨(hn 23 (mem_needs rfl)), (fun _ h => by cases h)⟩)⟩) _ rfl
                      refine DoesG.on rfl ha rfl rfl rfl (not_f (decide_eq_false hc13)) (Does.mono (d_move ha rfl) ?_)
                      rintro v wJ ⟨rfl, rfl⟩
                      exact ⟨HasB.put hB 24 rfl rfl rfl rfl, hE, hr, r1, x1, x2, o3⟩
                    · intro b a wI hI hb hn hc
                      obtain ⟨hB, hE, hr, r1, x1, x2, o3⟩ := hI
                      have ha : Has 116 [(7, .slice p1 t11.length c1), (101, .bool true)] a := hB.get [24] (List.forall_mem_cons.2 ⟨(hn 24 (mem_needs rfl)), (fun _ h => by cases h)⟩) _ rfl
                      refine DoesG.off rfl ha rfl rfl rfl rfl ?_
                      exact ⟨HasB.put hB 25 rfl rfl rfl rfl, hE, hr, r1, x1, x2, o3⟩
                    · intro b a wI hI hb hn hc
                      obtain ⟨hB, hE, hr, r1, x1, x2, o3⟩ := hI
                      have ha : Has 116 [(9, .int .i64 t13), (101, .bool true)] a := hB.get [24] (List.forall_mem_cons.2 ⟨(hn 24 (mem_needs rfl)), (fun _ h => by cases h)⟩) _ rfl
                      refine DoesG.off rfl ha rfl rfl rfl rfl ?_
                      exact ⟨HasB.put hB 26 rfl rfl rfl rfl, hE, hr, r1, x1, x2, o3⟩
                    · intro b a wI hI hb hn hc
                      obtain ⟨hB, hE, hr, r1, x1, x2, o3⟩ := hI
                      have ha : Has 116 [(101, .bool true), (102, undef), (103, undef)] a := hB.get [24, 25, 26] (List.forall_mem_cons.2 ⟨(hn 24 (mem_needs rfl)), (List.forall_mem_cons.2 ⟨(hn 25 (mem_needs rfl)), (List.forall_mem_cons.2 ⟨(hn 26 (mem_needs rfl)), (fun _ h => by cases h)⟩)⟩)⟩) _ rfl
                      refine DoesG.off rfl ha rfl rfl rfl rfl ?_
                      exact ⟨HasB.put hB 27 rfl rfl rfl rfl, hE, hr, r1, x1, x2, o3⟩
                    · intro b a wI hI hb hn hc
                      obtain ⟨hB, hE, hr, r1, x1, x2, o3⟩ := hI
                      have ha : Has 116 [(101, .bool true), (104, undef)] a := hB.get [24, 27] (List.forall_mem_cons.2 ⟨(hn 24 (mem_needs rfl)), (List.forall_mem_cons.2 ⟨(hn 27 (mem_needs rfl)), (fun _ h => by cases h)⟩)⟩) _ rfl
                      refine DoesG.off rfl ha rfl rfl rfl rfl ?_
                      exact ⟨HasB.put hB 28 rfl rfl rfl rfl, hE, hr, r1, x1, x2, o3⟩
                    · intro b a wI hI hb hn hc
                      obtain ⟨hB, hE, hr, r1, x1, x2, o3⟩ := hI
                      have ha : Has 116 [(8, .slice p3 x3.length c3), (101, .bool true)] a := hB.get [24] (List.forall_mem_cons.2 ⟨(hn 24 (mem_needs rfl)), (fun _ h => by cases h)⟩) _ rfl
                      refine DoesG.off rfl ha rfl rfl rfl rfl ?_
                      exact ⟨HasB.put hB 29 rfl rfl rfl rfl, hE, hr, r1, x1, x2, o3⟩
                    · intro b a wI hI hb hn hc
                      obtain ⟨hB, hE, hr, r1, x1, x2, o3⟩ := hI
                      have ha : Has 116 [(9, .int .i64 t13), (101, .bool true)] a := hB.get [24] (List.forall_mem_cons.2 ⟨(hn 24 (mem_needs rfl)), (fun _ h => by cases h)⟩) _ rfl
                      refine DoesG.off rfl ha rfl rfl rfl rfl ?_
                      exact ⟨HasB.put hB 30 rfl rfl rfl rfl, hE, hr, r1, x1, x2, o3⟩
                    · intro b a wI hI hb hn hc
                      obtain ⟨hB, hE, hr, r1, x1, x2, o3⟩ := hI
                      have ha : Has 116 [(101, .bool true), (106, undef), (107, undef)] a := hB.get [24, 29, 30] (List.forall_mem_cons.2 ⟨(hn 24 (mem_needs rfl)), (List.forall_mem_cons.2 ⟨(hn 29 (mem_needs rfl)), (List.forall_mem_cons.2 ⟨(hn 30 (mem_needs rfl)), (fun _ h => by cases h)⟩)⟩)⟩) _ rfl
                      refine DoesG.off rfl ha rfl rfl rfl rfl ?_
                      exact ⟨HasB.put hB 31 rfl rfl rfl rfl, hE, hr, r1, x1, x2, o3⟩
                    · intro b a wI hI hb hn hc
                      obtain ⟨hB, hE, hr, r1, x1, x2, o3⟩ := hI
                      have ha : Has 116 [(101, .bool true), (108, undef)] a := hB.get [24, 31] (List.forall_mem_cons.2 ⟨(hn 24 (mem_needs rfl)), (List.forall_mem_cons.2 ⟨(hn 31 (mem_needs rfl)), (fun _ h => by cases h)⟩)⟩) _ rfl
                      refine DoesG.off rfl ha rfl rfl rfl rfl ?_
                      exact ⟨HasB.put hB 32 rfl rfl rfl rfl, hE, hr, r1, x1, x2, o3⟩
                    · intro b a wI hI hb hn hc
                      obtain ⟨hB, hE, hr, r1, x1, x2, o3⟩ := hI
                      have ha : Has 116 [(101, .bool true), (105, undef), (109, undef)] a := hB.get [24, 28, 32] (List.forall_mem_cons.2 ⟨(hn 24 (mem_needs rfl)), (List.forall_mem_cons.2 ⟨(hn 28 (mem_needs rfl)), (List.forall_mem_cons.2 ⟨(hn 32 (mem_needs rfl)), (fun _ h => by cases h)⟩)⟩)⟩) _ rfl
                      refine DoesG.off rfl ha rfl rfl rfl rfl ?_
                      exact ⟨HasB.put hB 33 rfl rfl rfl rfl, hE, hr, r1, x1, x2, o3⟩
                    · intro b a wI hI hb hn hc
                      obtain ⟨hB, hE, hr, r1, x1, x2, o3⟩ := hI
                      have ha : Has 116 [(5, .bool t3), (101, .bool true)] a := hB.get [24] (List.forall_mem_cons.2 ⟨(hn 24 (mem_needs rfl)), (fun _ h => by cases h)⟩) _ rfl
                      refine DoesG.off rfl ha rfl rfl rfl rfl ?_
                      exact ⟨HasB.put hB 34 rfl rfl rfl rfl, hE, hr, r1, x1, x2, o3⟩
                  · intro b a w23 hb hI
                    obtain ⟨hB, hE, hr, r1, x1, x2, o3⟩ := hI
                    have ha : Has 116 [(77, .agg #[.int .i64 a0_0, .string a0_1]), (78, .agg #[.int .i64 a1_0, .string a1_1]), (79, .bool (!decide (a0_0 = a1_0 ∧ a0_1 = a1_1))), (80, .bool (!decide (a0_0 = a1_0 ∧ a0_1 = a1_1))), (81, .slice p1 t11.length c1), (82, .slice p3 x3.length c3), (83, .bool t14), (84, .bool t14), (85, undef), (86, undef), (87, undef), (88, .bool true), (89, .bool true), (90, undef), (91, undef), (92, undef), (93, undef), (94, .bool true), (95, .bool true), (96, undef), (97, undef), (98, undef), (99, undef), (100, .bool true), (101, .bool true), (102, undef), (103, undef), (104, undef), (105, undef), (106, undef), (107, undef), (108, undef), (109, undef), (110, undef), (111, undef), (2, .pointer (some ⟨b1, 0, none⟩)), (3, .pointer (some ⟨b2, 0, none⟩)), (5, .bool t3), (7, .slice p1 t11.length c1), (8, .slice p3 x3.length c3), (9, .int .i64 t13)] a := hB.get [0, 1, 2, 3, 4, 5, 6, 7, 8, 9, 10, 11, 12, 13, 14, 15, 16, 17, 18, 19, 20, 21, 22, 23, 24, 25, 26, 27, 28, 29, 30, 31, 32, 33, 34] (List.forall_mem_cons.2 ⟨(hb 0 (by decide) (by decide)), (List.forall_mem_cons.2 ⟨(hb 1 (by decide) (by decide)), (List.forall_mem_cons.2 ⟨(hb 2 (by decide) (by decide)), (List.forall_mem_cons.2 ⟨(hb 3 (by decide) (by decide)), (List.forall_mem_cons.2 ⟨(hb 4 (by decide) (by decide)), (List.forall_mem_cons.2 ⟨(hb 5 (by decide) (by decide)), (List.forall_mem_cons.2 ⟨(hb 6 (by decide) (by decide)), (List.forall_mem_cons.2 ⟨(hb 7 (by decide) (by decide)), (List.forall_mem_cons.2 ⟨(hb 8 (by decide) (by decide)), (List.forall_mem_cons.2 ⟨(hb 9 (by decide) (by decide)), (List.forall_mem_cons.2 ⟨(hb 10 (by decide) (by decide)), (List.forall_mem_cons.2 ⟨(hb 11 (by decide) (by decide)), (List.forall_mem_cons.2 ⟨(hb 12 (by decide) (by decide)), (List.forall_mem_cons.2 ⟨(hb 13 (by decide) (by decide)), (List.forall_mem_cons.2 ⟨(hb 14 (by decide) (by decide)), (List.forall_mem_cons.2 ⟨(hb 15 (by decide) (by decide)), (List.forall_mem_cons.2 ⟨(hb 16 (by decide) (by decide)), (List.forall_mem_cons.2 ⟨(hb 17 (by decide) (by decide)), (List.forall_mem_cons.2 ⟨(hb 18 (by decide) (by decide)), (List.forall_mem_cons.2 ⟨(hb 19 (by decide) (by decide)), (List.forall_mem_cons.2 ⟨(hb 20 (by decide) (by decide)), (List.forall_mem_cons.2 ⟨(hb 21 (by decide) (by decide)), (List.forall_mem_cons.2 ⟨(hb 22 (by decide) (by decide)), (List.forall_mem_cons.2 ⟨(hb 23 (by decide) (by decide)), (List.forall_mem_cons.2 ⟨(hb 24 (by decide) (by decide)), (List.forall_mem_cons.2 ⟨(hb 25 (by decide) (by decide)), (List.forall_mem_cons.2 ⟨(hb 26 (by decide) (by decide)), (List.forall_mem_cons.2 ⟨(hb 27 (by decide) (by decide)), (List.forall_mem_cons.2 ⟨(hb 28 (by decide) (by decide)), (List.forall_mem_cons.2 ⟨(hb 29 (by decide) (by decide)), (List.forall_mem_cons.2 ⟨(hb 30 (by decide) (by decide)), (List.forall_mem_cons.2 ⟨(hb 31 (by decide) (by decide)), (List.forall_mem_cons.2 ⟨(hb 32 (by decide) (by decide)), (List.forall_mem_cons.2 ⟨(hb 33 (by decide) (by decide)), (List.forall_mem_cons.2 ⟨(hb 34 (by decide) (by decide)), (fun _ h => by cases h)⟩)⟩)⟩)⟩)⟩)⟩)⟩)⟩)⟩)⟩)⟩)⟩)⟩)⟩)⟩)⟩)⟩)⟩)⟩)⟩)⟩)⟩)⟩)⟩)⟩)⟩)⟩)⟩)⟩)⟩)⟩)⟩)⟩)⟩)⟩) _ rfl
                    refine goOff ha rfl rfl rfl rfl rfl fun a ha => ?_
                    refine goOn1 ha rfl rfl rfl rfl (not_f (decide_eq_false hc13)) (d_pick ha rfl rfl rfl) fun a ha => ?_
                    refine go1 ha rfl (d_pick ha rfl (not_f (decide_eq_false hc13)) rfl) fun a ha => ?_
                    refine nil_ ?_
                    refine hK28 _ _ ?_
                    have ha := ha.to (l' := [(114, _)]) rfl
                    refine wcond_t ha rfl rfl ?_
                    refine wp_seq_k (fun K29 hK29 => ?_)
                    refine wreg ?_
                    refine go1 ha rfl (d_assign ha rfl) fun a ha => ?_
                    refine nil_ ?_
                    refine hK29 _ _ ?_
                    have ha := ha.to (l' := [(4, _)]) rfl
                    refine wp_ret ?_
                    have hs : Step [p3, some ⟨b2, 0, none⟩, some ⟨b1, 0, none⟩] [] w23 w23 := Step.pick _ _ []
                    have r1 := hs.tr r1
                    have hE : Ex w (Av [] No) [] w23 := hE.pick [] (by decide)
                    injection hF with hF
                    subst hF
                    refine fin1 ha Try.results7 rfl ?_
                    exact ⟨rfl, hE⟩
                · obtain ⟨t15, ht15, hF⟩ := bind_elim hF
                  rcases cond_elim hF with ⟨hc15, hF⟩ | ⟨hc15, hF⟩
                  · refine drawnC 12 (by kernel_rfl) 35 (by decide) rfl (fun b a wI => HasB 116 [(2, .pointer (some ⟨b1, 0, none⟩)), (3, .pointer (some ⟨b2, 0, none⟩)), (5, .bool t3), (7, .slice p1 t11.length c1), (8, .slice p3 x3.length c3), (9, .int .i64 t13)] [(0, 77, .agg #[.int .i64 a0_0, .string a0_1]), (1, 78, .agg #[.int .i64 a1_0, .string a1_1]), (2, 79, .bool (!decide (a0_0 = a1_0 ∧ a0_1 = a1_1))), (3, 80, .bool (!decide (a0_0 = a1_0 ∧ a0_1 = a1_1))), (4, 81, .slice p1 t11.length c1), (5, 82, .slice p3 x3.length c3), (6, 83, .bool t14), (7, 84, .bool t14), (8, 85, .slice p3 x3.length c3), (9, 86, .slice p1 t11.length c1), (10, 87, .bool t15), (11, 88, .bool t15), (12, 89, .bool t15), (13, 90, undef), (14, 91, undef), (15, 92, undef), (16, 93, undef), (17, 94, .bool true), (18, 95, .bool true), (19, 96, undef), (20, 97, undef), (21, 98, undef), (22, 99, undef), (23, 100, .bool true), (24, 101, .bool true), (25, 102, undef), (26, 103, undef), (27, 104, undef), (28, 105, undef), (29, 106, undef), (30, 107, undef), (31, 108, undef), (32, 109, undef), (33, 110, undef), (34, 111, undef)] b a ∧ Ex w (Av [] No) [p3, some ⟨b2, 0, none⟩, some ⟨b1, 0, none⟩] wI ∧ Fr w21 wI No ∧ Raw (Av [p3, some ⟨b2, 0, none⟩, some ⟨b1, 0, none⟩] (Old w)) (Kd.int .u8) wI.heap p1 c1 t11 ∧ Bx wI b1 29 [.int .i64 a0_0, .string a0_1] ∧ Bx wI b2 29 [.int .i64 a1_0, .string a1_1] ∧ Ow (Av [p3, some ⟨b2, 0, none⟩, some ⟨b1, 0, none⟩] W) wI 5 (Kd.int .u8) p3 c3 x3) ?_ (EachAt.all0 ?_) ?_
                    · exact ⟨HasB.start (ha.to rfl) rfl, hE.drew, (Fr.refl _ No).drew, r1, x1, x2, o3⟩
                    · refine (EachAt.cons ?_ (EachAt.cons ?_ (EachAt.cons ?_ (EachAt.cons ?_ (EachAt.cons ?_ (EachAt.cons ?_ (EachAt.cons ?_ (EachAt.cons ?_ (EachAt.cons ?_ (EachAt.cons ?_ (EachAt.cons ?_ (EachAt.cons ?_ (EachAt.cons ?_ (EachAt.cons ?_ (EachAt.cons ?_ (EachAt.cons ?_ (EachAt.cons ?_ (EachAt.cons ?_ (EachAt.cons ?_ (EachAt.cons ?_ (EachAt.cons ?_ (EachAt.cons ?_ (EachAt.cons ?_ (EachAt.cons ?_ (EachAt.cons ?_ (EachAt.cons ?_ (EachAt.cons ?_ (EachAt.cons ?_ (EachAt.cons ?_ (EachAt.cons ?_ (EachAt.cons ?_ (EachAt.cons ?_ (EachAt.cons ?_ (EachAt.cons ?_ (EachAt.cons ?_ EachAt.nil)))))))))))))))))))))))))))))))))))
                      · intro b a wI hI hb hn hc
                        obtain ⟨hB, hE, hr, r1, x1, x2, o3⟩ := hI
                        have ha : Has 116 [(2, .pointer (some ⟨b1, 0, none⟩))] a := hB.get [] (fun _ h => by cases h) _ rfl
                        refine DoesG.plain rfl (Does.mono (d_loadAgg (cs := [.int .i64 a0_0, .string a0_1]) ha rfl (x1.at_.sub' 0 2 rfl) Try.isAgg29 Try.sizeOf29 rfl) ?_)
                        rintro v wJ ⟨rfl, rfl⟩
                        exact ⟨HasB.put hB 0 rfl rfl rfl rfl, hE, hr, r1, x1, x2, o3⟩
                      · intro b a wI hI hb hn hc
                        obtain ⟨hB, hE, hr, r1, x1, x2, o3⟩ := hI
                        have ha : Has 116 [(3, .pointer (some ⟨b2, 0, none⟩))] a := hB.get [] (fun _ h => by cases h) _ rfl
                        refine DoesG.plain rfl (Does.mono (d_loadAgg (cs := [.int .i64 a1_0, .string a1_1]) ha rfl (x2.at_.sub' 0 2 rfl) Try.isAgg29 Try.sizeOf29 rfl) ?_)
                        rintro v wJ ⟨rfl, rfl⟩
                        exact ⟨HasB.put hB 1 rfl rfl rfl rfl, hE, hr, r1, x1, x2, o3⟩
                      · intro b a wI hI hb hn hc
                        obtain ⟨hB, hE, hr, r1, x1, x2, o3⟩ := hI
                        have ha : Has 116 [(77, .agg #[.int .i64 a0_0, .string a0_1]), (78, .agg #[.int .i64 a1_0, .string a1_1])] a := hB.get [0, 1] (List.forall_mem_cons.2 ⟨(hn 0 (mem_needs rfl)), (List.forall_mem_cons.2 ⟨(hn 1 (mem_needs rfl)), (fun _ h => by cases h)⟩)⟩) _ rfl
                        refine DoesG.plain rfl (Does.mono (d_neAg (q := a0_0 = a1_0 ∧ a0_1 = a1_1) ha rfl rfl (by kernel_rfl) (.struct Try.underlying29 (by kernel_rfl) (.cons (by decide) (.cell Try.isAgg27 rfl) (.cell Try.isAgg27 rfl) (.int Try.underlying27) (.one (by decide) (.cell Try.isAgg9 rfl) (.cell Try.isAgg9 rfl) (.str Try.underlying9))))) ?_)
                        rintro v wJ ⟨rfl, rfl⟩
                        exact ⟨HasB.put hB 2 rfl rfl rfl rfl, hE, hr, r1, x1, x2, o3⟩
                      · intro b a wI hI hb hn hc
                        obtain ⟨hB, hE, hr, r1, x1, x2, o3⟩ := hI
                        have ha : Has 116 [(79, .bool (!decide (a0_0 = a1_0 ∧ a0_1 = a1_1)))] a := hB.get [2] (List.forall_mem_cons.2 ⟨(hn 2 (mem_needs rfl)), (fun _ h => by cases h)⟩) _ rfl
                        refine DoesG.plain rfl (Does.mono (d_move ha rfl) ?_)
                        rintro v wJ ⟨rfl, rfl⟩
                        exact ⟨HasB.put hB 3 rfl rfl rfl rfl, hE, hr, r1, x1, x2, o3⟩
                      · intro b a wI hI hb hn hc
                        obtain ⟨hB, hE, hr, r1, x1, x2, o3⟩ := hI
                        have ha : Has 116 [(7, .slice p1 t11.length c1), (80, .bool (!decide (a0_0 = a1_0 ∧ a0_1 = a1_1)))] a := hB.get [3] (List.forall_mem_cons.2 ⟨(hn 3 (mem_needs rfl)), (fun _ h => by cases h)⟩) _ rfl
                        refine DoesG.on rfl ha rfl rfl rfl (not_f (decide_eq_false hc13)) (Does.mono (d_move ha rfl) ?_)
                        rintro v wJ ⟨rfl, rfl⟩
                        exact ⟨HasB.put hB 4 rfl rfl rfl rfl, hE, hr, r1, x1, x2, o3⟩
                      · intro b a wI hI hb hn hc
                        obtain ⟨hB, hE, hr, r1, x1, x2, o3⟩ := hI
                        have ha : Has 116 [(8, .slice p3 x3.length c3), (80, .bool (!decide (a0_0 = a1_0 ∧ a0_1 = a1_1)))] a := hB.get [3] (List.forall_mem_cons.2 ⟨(hn 3 (mem_needs rfl)), (fun _ h => by cases h)⟩) _ rfl
                        refine DoesG.on rfl ha rfl rfl rfl (not_f (decide_eq_false hc13)) (Does.mono (d_move ha rfl) ?_)
                        rintro v wJ ⟨rfl, rfl⟩
                        exact ⟨HasB.put hB 5 rfl rfl rfl rfl, hE, hr, r1, x1, x2, o3⟩
                      · intro b a wI hI hb hn hc
                        obtain ⟨hB, hE, hr, r1, x1, x2, o3⟩ := hI
                        have ha : Has 116 [(80, .bool (!decide (a0_0 = a1_0 ∧ a0_1 = a1_1))), (81, .slice p1 t11.length c1), (82, .slice p3 x3.length c3)] a := hB.get [3, 4, 5] (List.forall_mem_cons.2 ⟨(hn 3 (mem_needs rfl)), (List.forall_mem_cons.2 ⟨(hn 4 (mem_needs rfl)), (List.forall_mem_cons.2 ⟨(hn 5 (mem_needs rfl)), (fun _ h => by cases h)⟩)⟩)⟩) _ rfl
                        refine DoesG.on rfl ha rfl rfl rfl (not_f (decide_eq_false hc13)) (Does.mono (d_call Try.call25 ha (vs := [.slice p1 t11.length c1, .slice p3 x3.length c3]) rfl (warderref02_Is_c t11 x3 _ _ _ _ (Av [some ⟨b2, 0, none⟩, some ⟨b1, 0, none⟩] W) _ (Ex.wlt (as0 := []) (rr := [p3]) (ro := [some ⟨b2, 0, none⟩, some ⟨b1, 0, none⟩]) hE hW) (Raw.arg (as0 := []) (rr := [p3]) (ro := [some ⟨b2, 0, none⟩, some ⟨b1, 0, none⟩]) r1 hW) (Ow.argR (as0 := []) (rr := [p3]) (ro := [some ⟨b2, 0, none⟩, some ⟨b1, 0, none⟩]) o3 hE hW hW0 (by simp)) _ ht14)) ?_)
                        intro v w22 h
                        obtain ⟨rfl, hC⟩ := h
                        have hfr : Fr wI w22 No := hC.fr.mono (fun _ _ h => by rcases h with h | ⟨_, h, _⟩; exact h; cases h)
                        have hs : Step [p3, some ⟨b2, 0, none⟩, some ⟨b1, 0, none⟩] [p3, some ⟨b2, 0, none⟩, some ⟨b1, 0, none⟩] wI w22 := hC.callStep [p3, some ⟨b2, 0, none⟩, some ⟨b1, 0, none⟩]
                        have r1 := hs.tr r1
                        have o3 := o3.keep hC.fr (Ex.callOff (as0 := []) (rt := [p3, some ⟨b2, 0, none⟩, some ⟨b1, 0, none⟩]) hE (u := p3) (by simp)) (fun _ _ h => hs.trK h)
                        have x2 := x2.keep hC.fr ((Ex.callOff (as0 := []) (rt := [p3, some ⟨b2, 0, none⟩, some ⟨b1, 0, none⟩]) hE (u := some ⟨b2, 0, none⟩) (by simp)) _ rfl)
                        have x1 := x1.keep hC.fr ((Ex.callOff (as0 := []) (rt := [p3, some ⟨b2, 0, none⟩, some ⟨b1, 0, none⟩]) hE (u := some ⟨b1, 0, none⟩) (by simp)) _ rfl)
                        have hE : Ex w (Av [] No) [p3, some ⟨b2, 0, none⟩, some ⟨b1, 0, none⟩] w22 := Ex.call (as0 := []) (rt := [p3, some ⟨b2, 0, none⟩, some ⟨b1, 0, none⟩]) hE hC
                        exact ⟨HasB.put hB 6 rfl rfl rfl rfl, hE, hr.step hfr (fun _ _ h => h), r1, x1, x2, o3⟩
                      · intro b a wI hI hb hn hc
                        obtain ⟨hB, hE, hr, r1, x1, x2, o3⟩ := hI
                        have ha : Has 116 [(80, .bool (!decide (a0_0 = a1_0 ∧ a0_1 = a1_1))), (83, .bool t14)] a := hB.get [3, 6] (List.forall_mem_cons.2 ⟨(hn 3 (mem_needs rfl)), (List.forall_mem_cons.2 ⟨(hn 6 (mem_needs rfl)), (fun _ h => by cases h)⟩)⟩) _ rfl
                        refine DoesG.on rfl ha rfl rfl rfl (not_f (decide_eq_false hc13)) (Does.mono (d_move ha rfl) ?_)
                        rintro v wJ ⟨rfl, rfl⟩
                        exact ⟨HasB.put hB 7 rfl rfl rfl rfl, hE, hr, r1, x1, x2, o3⟩
                      · intro b a wI hI hb hn hc
                        obtain ⟨hB, hE, hr, r1, x1, x2, o3⟩ := hI
                        have ha : Has 116 [(8, .slice p3 x3.length c3), (84, .bool t14)] a := hB.get [7] (List.forall_mem_cons.2 ⟨(hn 7 (mem_needs rfl)), (fun _ h => by cases h)⟩) _ rfl
                        refine DoesG.on rfl ha rfl rfl rfl hc14 (Does.mono (d_move ha rfl) ?_)
                        rintro v wJ ⟨rfl, rfl⟩
                        exact ⟨HasB.put hB 8 rfl rfl rfl rfl, hE, hr, r1, x1, x2, o3⟩
                      · intro b a wI hI hb hn hc
                        obtain ⟨hB, hE, hr, r1, x1, x2, o3⟩ := hI
                        have ha : Has 116 [(7, .slice p1 t11.length c1), (84, .bool t14)] a := hB.get [7] (List.forall_mem_cons.2 ⟨(hn 7 (mem_needs rfl)), (fun _ h => by cases h)⟩) _ rfl
                        refine DoesG.on rfl ha rfl rfl rfl hc14 (Does.mono (d_move ha rfl) ?_)
                        rintro v wJ ⟨rfl, rfl⟩
                        exact ⟨HasB.put hB 9 rfl rfl rfl rfl, hE, hr, r1, x1, x2, o3⟩
                      · intro b a wI hI hb hn hc
                        obtain ⟨hB, hE, hr, r1, x1, x2, o3⟩ := hI
                        have ha : Has 116 [(84, .bool t14), (85, .slice p3 x3.length c3), (86, .slice p1 t11.length c1)] a := hB.get [7, 8, 9] (List.forall_mem_cons.2 ⟨(hn 7 (mem_needs rfl)), (List.forall_mem_cons.2 ⟨(hn 8 (mem_needs rfl)), (List.forall_mem_cons.2 ⟨(hn 9 (mem_needs rfl)), (fun _ h => by cases h)⟩)⟩)⟩) _ rfl
                        refine DoesG.on rfl ha rfl rfl rfl hc14 (Does.mono (d_call Try.call25 ha (vs := [.slice p3 x3.length c3, .slice p1 t11.length c1]) rfl (warderref02_Is_c x3 t11 _ _ _ _ (Av [some ⟨b2, 0, none⟩, some ⟨b1, 0, none⟩] W) _ (Ex.wlt (as0 := []) (rr := [p3]) (ro := [some ⟨b2, 0, none⟩, some ⟨b1, 0, none⟩]) hE hW) (Ow.argR (as0 := []) (rr := [p3]) (ro := [some ⟨b2, 0, none⟩, some ⟨b1, 0, none⟩]) o3 hE hW hW0 (by simp)) (Raw.arg (as0 := []) (rr := [p3]) (ro := [some ⟨b2, 0, none⟩, some ⟨b1, 0, none⟩]) r1 hW) _ ht15)) ?_)
                        intro v w24 h
                        obtain ⟨rfl, hC⟩ := h
                        have hfr : Fr wI w24 No := hC.fr.mono (fun _ _ h => by rcases h with h | ⟨_, h, _⟩; exact h; cases h)
                        have hs : Step [p3, some ⟨b2, 0, none⟩, some ⟨b1, 0, none⟩] [p3, some ⟨b2, 0, none⟩, some ⟨b1, 0, none⟩] wI w24 := hC.callStep [p3, some ⟨b2, 0, none⟩, some ⟨b1, 0, none⟩]
                        have r1 := hs.tr r1
                        have o3 := o3.keep hC.fr (Ex.callOff (as0 := []) (rt := [p3, some ⟨b2, 0, none⟩, some ⟨b1, 0, none⟩]) hE (u := p3) (by simp)) (fun _ _ h => hs.trK h)
                        have x2 := x2.keep hC.fr ((Ex.callOff (as0 := []) (rt := [p3, some ⟨b2, 0, none⟩, some ⟨b1, 0, none⟩]) hE (u := some ⟨b2, 0, none⟩) (by simp)) _ rfl)
                        have x1 := x1.keep hC.fr ((Ex.callOff (as0 := []) (rt := [p3, some ⟨b2, 0, none⟩, some ⟨b1, 0, none⟩]) hE (u := some ⟨b1, 0, none⟩) (by simp)) _ rfl)
                        have hE : Ex w (Av [] No) [p3, some ⟨b2, 0, none⟩, some ⟨b1, 0, none⟩] w24 := Ex.call (as0 := []) (rt := [p3, some ⟨b2, 0, none⟩, some ⟨b1, 0, none⟩]) hE hC
                        exact ⟨HasB.put hB 10 rfl rfl rfl rfl, hE, hr.step hfr (fun _ _ h => h), r1, x1, x2, o3⟩
                      · intro b a wI hI hb hn hc
                        obtain ⟨hB, hE, hr, r1, x1, x2, o3⟩ := hI
                        have ha : Has 116 [(80, .bool (!decide (a0_0 = a1_0 ∧ a0_1 = a1_1))), (84, .bool t14), (87, .bool t15)] a := hB.get [3, 7, 10] (List.forall_mem_cons.2 ⟨(hn 3 (mem_needs rfl)), (List.forall_mem_cons.2 ⟨(hn 7 (mem_needs rfl)), (List.forall_mem_cons.2 ⟨(hn 10 (mem_needs rfl)), (fun _ h => by cases h)⟩)⟩)⟩) _ rfl
                        refine DoesG.on rfl ha rfl rfl rfl (not_f (decide_eq_false hc13)) (Does.mono (d_pickF ha rfl hc14 rfl) ?_)
                        rintro v wJ ⟨rfl, rfl⟩
                        exact ⟨HasB.put hB 11 rfl rfl rfl rfl, hE, hr, r1, x1, x2, o3⟩
                      · intro b a wI hI hb hn hc
                        obtain ⟨hB, hE, hr, r1, x1, x2, o3⟩ := hI
                        have ha : Has 116 [(80, .bool (!decide (a0_0 = a1_0 ∧ a0_1 = a1_1))), (88, .bool t15)] a := hB.get [3, 11] (List.forall_mem_cons.2 ⟨(hn 3 (mem_needs rfl)), (List.forall_mem_cons.2 ⟨(hn 11 (mem_needs rfl)), (fun _ h => by cases h)⟩)⟩) _ rfl
                        refine DoesG.on rfl ha rfl rfl rfl (not_f (decide_eq_false hc13)) (Does.mono (d_move ha rfl) ?_)
                        rintro v wJ ⟨rfl, rfl⟩
                        exact ⟨HasB.put hB 12 rfl rfl rfl rfl, hE, hr, r1, x1, x2, o3⟩
                      · intro b a wI hI hb hn hc
                        obtain ⟨hB, hE, hr, r1, x1, x2, o3⟩ := hI
                        have ha : Has 116 [(9, .int .i64 t13), (89, .bool t15)] a := hB.get [12] (List.forall_mem_cons.2 ⟨(hn 12 (mem_needs rfl)), (fun _ h => by cases h)⟩) _ rfl
                        refine DoesG.off rfl ha rfl rfl rfl hc15 ?_
                        exact ⟨HasB.put hB 13 rfl rfl rfl rfl, hE, hr, r1, x1, x2, o3⟩
                      · intro b a wI hI hb hn hc
                        obtain ⟨hB, hE, hr, r1, x1, x2, o3⟩ := hI
                        have ha : Has 116 [(7, .slice p1 t11.length c1), (89, .bool t15)] a := hB.get [12] (List.forall_mem_cons.2 ⟨(hn 12 (mem_needs rfl)), (fun _ h => by cases h)⟩) _ rfl
                        refine DoesG.off rfl ha rfl rfl rfl hc15 ?_
                        exact ⟨HasB.put hB 14 rfl rfl rfl rfl, hE, hr, r1, x1, x2, o3⟩
                      · intro b a wI hI hb hn hc
                        obtain ⟨hB, hE, hr, r1, x1, x2, o3⟩ := hI
                        have ha : Has 116 [(89, .bool t15), (91, undef)] a := hB.get [12, 14] (List.forall_mem_cons.2 ⟨(hn 12 (mem_needs rfl)), (List.forall_mem_cons.2 ⟨(hn 14 (mem_needs rfl)), (fun _ h => by cases h)⟩)⟩) _ rfl
                        refine DoesG.off rfl ha rfl rfl rfl hc15 ?_
                        exact ⟨HasB.put hB 15 rfl rfl rfl rfl, hE, hr, r1, x1, x2, o3⟩
                      · intro b a wI hI hb hn hc
                        obtain ⟨hB, hE, hr, r1, x1, x2, o3⟩ := hI
                        have ha : Has 116 [(89, .bool t15), (90, undef), (92, undef)] a := hB.get [12, 13, 15] (List.forall_mem_cons.2 ⟨(hn 12 (mem_needs rfl)), (List.forall_mem_cons.2 ⟨(hn 13 (mem_needs rfl)), (List.forall_mem_cons.2 ⟨(hn 15 (mem_needs rfl)), (fun _ h => by cases h)⟩)⟩)⟩) _ rfl
                        refine DoesG.off rfl ha rfl rfl rfl hc15 ?_
                        exact ⟨HasB.put hB 16 rfl rfl rfl rfl, hE, hr, r1, x1, x2, o3⟩
                      · intro b a wI hI hb hn hc
                        obtain ⟨hB, hE, hr, r1, x1, x2, o3⟩ := hI
                        have ha : Has 116 [(80, .bool (!decide (a0_0 = a1_0 ∧ a0_1 = a1_1))), (89, .bool t15), (93, undef)] a := hB.get [3, 12, 16] (List.forall_mem_cons.2 ⟨(hn 3 (mem_needs rfl)), (List.forall_mem_cons.2 ⟨(hn 12 (mem_needs rfl)), (List.forall_mem_cons.2 ⟨(hn 16 (mem_needs rfl)), (fun _ h => by cases h)⟩)⟩)⟩) _ rfl
                        refine DoesG.on rfl ha rfl rfl rfl (not_f (decide_eq_false hc13)) (Does.mono (d_pick ha rfl hc15 rfl) ?_)
                        rintro v wJ ⟨rfl, rfl⟩
                        exact ⟨HasB.put hB 17 rfl rfl rfl rfl, hE, hr, r1, x1, x2, o3⟩
                      · intro b a wI hI hb hn hc
                        obtain ⟨hB, hE, hr, r1, x1, x2, o3⟩ := hI
                        have ha : Has 116 [(80, .bool (!decide (a0_0 = a1_0 ∧ a0_1 = a1_1))), (94, .bool true)] a := hB.get [3, 17] (List.forall_mem_cons.2 ⟨(hn 3 (mem_needs rfl)), (List.forall_mem_cons.2 ⟨(hn 17 (mem_needs rfl)), (fun _ h => by cases h)⟩)⟩) _ rfl
                        refine DoesG.on rfl ha rfl rfl rfl (not_f (decide_eq_false hc13)) (Does.mono (d_move ha rfl) ?_)
                        rintro v wJ ⟨rfl, rfl⟩
                        exact ⟨HasB.put hB 18 rfl rfl rfl rfl, hE, hr, r1, x1, x2, o3⟩
                      · intro b a wI hI hb hn hc
                        obtain ⟨hB, hE, hr, r1, x1, x2, o3⟩ := hI
                        have ha : Has 116 [(9, .int .i64 t13), (95, .bool true)] a := hB.get [18] (List.forall_mem_cons.2 ⟨(hn 18 (mem_needs rfl)), (fun _ h => by cases h)⟩) _ rfl
                        refine DoesG.off rfl ha rfl rfl rfl rfl ?_
                        exact ⟨HasB.put hB 19 rfl rfl rfl rfl, hE, hr, r1, x1, x2, o3⟩
                      · intro b a wI hI hb hn hc
                        obtain ⟨hB, hE, hr, r1, x1, x2, o3⟩ := hI
                        have ha : Has 116 [(8, .slice p3 x3.length c3), (95, .bool true)] a := hB.get [18] (List.forall_mem_cons.2 ⟨(hn 18 (mem_needs rfl)), (fun _ h => by cases h)⟩) _ rfl
                        refine DoesG.off rfl ha rfl rfl rfl rfl ?_
                        exact ⟨HasB.put hB 20 rfl rfl rfl rfl, hE, hr, r1, x1, x2, o3⟩
                      · intro b a wI hI hb hn hc
                        obtain ⟨hB, hE, hr, r1, x1, x2, o3⟩ := hI
                        have ha : Has 116 [(95, .bool true), (97, undef)] a := hB.get [18, 20] (List.forall_mem_cons.2 ⟨(hn 18 (mem_needs rfl)), (List.forall_mem_cons.2 ⟨(hn 20 (mem_needs rfl)), (fun _ h => by cases h)⟩)⟩) _ rfl
                        refine DoesG.off rfl ha rfl rfl rfl rfl ?_
                        exact ⟨HasB.put hB 21 rfl rfl rfl rfl, hE, hr, r1, x1, x2, o3⟩
                      · intro b a wI hI hb hn hc
                        obtain ⟨hB, hE, hr, r1, x1, x2, o3⟩ := hI
                        have ha : Has 116 [(95, .bool true), (96, undef), (98, undef)] a := hB.get [18, 19, 21] (List.forall_mem_cons.2 ⟨(hn 18 (mem_needs rfl)), (List.forall_mem_cons.2 ⟨(hn 19 (mem_needs rfl)), (List.forall_mem_cons.2 ⟨(hn 21 (mem_needs rfl)), (fun _ h => by cases h)⟩)⟩)⟩) _ rfl
                        refine DoesG.off rfl ha rfl rfl rfl rfl ?_
                        exact ⟨HasB.put hB 22 rfl rfl rfl rfl, hE, hr, r1, x1, x2, o3⟩
                      · intro b a wI hI hb hn hc
                        obtain ⟨hB, hE, hr, r1, x1, x2, o3⟩ := hI
                        have ha : Has 116 [(80, .bool (!decide (a0_0 = a1_0 ∧ a0_1 = a1_1))), (95, .bool true), (99, undef)] a := hB.get [3, 18, 22] (List.forall_mem_cons.2 ⟨(hn 3 (mem_needs rfl)), (List.forall_mem_cons.2 ⟨(hn 18 (mem_needs rfl)), (List.forall_mem_cons.2 ⟨(hn 22 (mem_needs rfl)), (fun _ h => by cases h)⟩)⟩)⟩) _ rfl
                        refine DoesG.on rfl ha rfl rfl rfl (not_f (decide_eq_false hc13)) (Does.mono (d_pick ha rfl rfl rfl) ?_)
                        rintro v wJ ⟨rfl, rfl⟩
                        exact ⟨HasB.put hB 23 rfl rfl rfl rfl, hE, hr, r1, x1, x2, o3⟩
                      · intro b a wI hI hb hn hc
                        obtain ⟨hB, hE, hr, r1, x1, x2, o3⟩ := hI
                        have ha : Has 116 [(80, .bool (!decide (a0_0 = a1_0 ∧ a0_1 = a1_1))), (100, .bool true)] a := hB.get [3, 23] (List.forall_mem_cons.2 ⟨(hn 3 (mem_needs rfl)), (List.forall_mem_cons.2 ⟨(hn 23 (mem_needs rfl)), (fun _ h => by cases h)⟩)⟩) _ rfl
                        refine DoesG.on rfl ha rfl rfl rfl (not_f (decide_eq_false hc13)) (Does.mono (d_move ha rfl) ?_)
                        rintro v wJ ⟨rfl, rfl⟩
                        exact ⟨HasB.put hB 24 rfl rfl rfl rfl, hE, hr, r1, x1, x2, o3⟩
                      · intro b a wI hI hb hn hc
                        obtain ⟨hB, hE, hr, r1, x1, x2, o3⟩ := hI
                        have ha : Has 116 [(7, .slice p1 t11.length c1), (101, .bool true)] a := hB.get [24] (List.forall_mem_cons.2 ⟨(hn 24 (mem_needs rfl)), (fun _ h => by cases h)⟩) _ rfl
                        refine DoesG.off rfl ha rfl rfl rfl rfl ?_
                        exact ⟨HasB.put hB 25 rfl rfl rfl rfl, hE, hr, r1, x1, x2, o3⟩
                      · intro b a wI hI hb hn hc
                        obtain ⟨hB, hE, hr, r1, x1, x2, o3⟩ := hI
                        have ha : Has 116 [(9, .int .i64 t13), (101, .bool true)] a := hB.get [24] (List.forall_mem_cons.2 ⟨(hn 24 (mem_needs rfl)), (fun _ h => by cases h)⟩) _ rfl
                        refine DoesG.off rfl ha rfl rfl rfl rfl ?_
                        exact ⟨HasB.put hB 26 rfl rfl rfl rfl, hE, hr, r1, x1, x2, o3⟩
                      · intro b a wI hI hb hn hc
                        obtain ⟨hB, hE, hr, r1, x1, x2, o3⟩ := hI
                        have ha : Has 116 [(101, .bool true), (102, undef), (103, undef)] a := hB.get [24, 25, 26] (List.forall_mem_cons.2 ⟨(hn 24 (mem_needs rfl)), (List.forall_mem_cons.2 ⟨(hn 25 (mem_needs rfl)), (List.forall_mem_cons.2 ⟨(hn 26 (mem_needs rfl)), (fun _ h => by cases h)⟩)⟩)⟩) _ rfl
                        refine DoesG.off rfl ha rfl rfl rfl rfl ?_
                        exact ⟨HasB.put hB 27 rfl rfl rfl rfl, hE, hr, r1, x1, x2, o3⟩
                      · intro b a wI hI hb hn hc
                        obtain ⟨hB, hE, hr, r1, x1, x2, o3⟩ := hI
                        have ha : Has 116 [(101, .bool true), (104, undef)] a := hB.get [24, 27] (List.forall_mem_cons.2 ⟨(hn 24 (mem_needs rfl)), (List.forall_mem_cons.2 ⟨(hn 27 (mem_needs rfl)), (fun _ h => by cases h)⟩)⟩) _ rfl
                        refine DoesG.off rfl ha rfl rfl rfl rfl ?_
                        exact ⟨HasB.put hB 28 rfl rfl rfl rfl, hE, hr, r1, x1, x2, o3⟩
                      · intro b a wI hI hb hn hc
                        obtain ⟨hB, hE, hr, r1, x1, x2, o3⟩ := hI
                        have ha : Has 116 [(8, .slice p3 x3.length c3), (101, .bool true)] a := hB.get [24] (List.forall_mem_cons.2 ⟨(hn 24 (mem_needs rfl)), (fun _ h => by cases h)⟩) _ rfl
                        refine DoesG.off rfl ha rfl rfl rfl rfl ?_
                        exact ⟨HasB.put hB 29 rfl rfl rfl rfl, hE, hr, r1, x1, x2, o3⟩
                      · intro b a wI hI hb hn hc
                        obtain ⟨hB, hE, hr, r1, x1, x2, o3⟩ := hI
                        have ha : Has 116 [(9, .int .i64 t13), (101, .bool true)] a := hB.get [24] (List.forall_mem_cons.2 ⟨(hn 24 (mem_needs rfl)), (fun _ h => by cases h)⟩) _ rfl
                        refine DoesG.off rfl ha rfl rfl rfl rfl ?_
                        exact ⟨HasB.put hB 30 rfl rfl rfl rfl, hE, hr, r1, x1, x2, o3⟩
                      · intro b a wI hI hb hn hc
                        obtain ⟨hB, hE, hr, r1, x1, x2, o3⟩ := hI
                        have ha : Has 116 [(101, .bool true), (106, undef), (107, undef)] a := hB.get [24, 29, 30] (List.forall_mem_cons.2 ⟨(hn 24 (mem_needs rfl)), (List.forall_mem_cons.2 ⟨(hn 29 (mem_needs rfl)), (List.forall_mem_cons.2 ⟨(hn 30 (mem_needs rfl)), (fun _ h => by cases h)⟩)⟩)⟩) _ rfl
                        refine DoesG.off rfl ha rfl rfl rfl rfl ?_
                        exact ⟨HasB.put hB 31 rfl rfl rfl rfl, hE, hr, r1, x1, x2, o3⟩
                      · intro b a wI hI hb hn hc
                        obtain ⟨hB, hE, hr, r1, x1, x2, o3⟩ := hI
                        have ha : Has 116 [(101, .bool true), (108, undef)] a := hB.get [24, 31] (List.forall_mem_cons.2 ⟨(hn 24 (mem_needs rfl)), (List.forall_mem_cons.2 ⟨(hn 31 (mem_needs rfl)), (fun _ h => by cases h)⟩)⟩) _ rfl
                        refine DoesG.off rfl ha rfl rfl rfl rfl ?_
                        exact ⟨HasB.put hB 32 rfl rfl rfl rfl, hE, hr, r1, x1, x2, o3⟩
                      · intro b a wI hI hb hn hc
                        obtain ⟨hB, hE, hr, r1, x1, x2, o3⟩ := hI
                        have ha : Has 116 [(101, .bool true), (105, undef), (109, undef)] a := hB.get [24, 28, 32] (List.forall_mem_cons.2 ⟨(hn 24 (mem_needs rfl)), (List.forall_mem_cons.2 ⟨(hn 28 (mem_needs rfl)), (List.forall_mem_cons.2 ⟨(hn 32 (mem_needs rfl)), (fun _ h => by cases h)⟩)⟩)⟩) _ rfl
                        refine DoesG.off rfl ha rfl rfl rfl rfl ?_
                        exact ⟨HasB.put hB 33 rfl rfl rfl rfl, hE, hr, r1, x1, x2, o3⟩
                      · intro b a wI hI hb hn hc
                        obtain ⟨hB, hE, hr, r1, x1, x2, o3⟩ := hI
                        have ha : Has 116 [(5, .bool t3), (101, .bool true)] a := hB.get [24] (List.forall_mem_cons.2 ⟨(hn 24 (mem_needs rfl)), (fun _ h => by cases h)⟩) _ rfl
                        refine DoesG.off rfl ha rfl rfl rfl rfl ?_
                        exact ⟨HasB.put hB 34 rfl rfl rfl rfl, hE, hr, r1, x1, x2, o3⟩
                    · intro b a w25 hb hI
                      obtain ⟨hB, hE, hr, r1, x1, x2, o3⟩ := hI
                      have ha : Has 116 [(77, .agg #[.int .i64 a0_0, .string a0_1]), (78, .agg #[.int .i64 a1_0, .string a1_1]), (79, .bool (!decide (a0_0 = a1_0 ∧ a0_1 = a1_1))), (80, .bool (!decide (a0_0 = a1_0 ∧ a0_1 = a1_1))), (81, .slice p1 t11.length c1), (82, .slice p3 x3.length c3), (83, .bool t14), (84, .bool t14), (85, .slice p3 x3.length c3), (86, .slice p1 t11.length c1), (87, .bool t15), (88, .bool t15), (89, .bool t15), (90, undef), (91, undef), (92, undef), (93, undef), (94, .bool true), (95, .bool true), (96, undef), (97, undef), (98, undef), (99, undef), (100, .bool true), (101, .bool true), (102, undef), (103, undef), (104, undef), (105, undef), (106, undef), (107, undef), (108, undef), (109, undef), (110, undef), (111, undef), (2, .pointer (some ⟨b1, 0, none⟩)), (3, .pointer (some ⟨b2, 0, none⟩)), (5, .bool t3), (7, .slice p1 t11.length c1), (8, .slice p3 x3.length c3), (9, .int .i64 t13)] a := hB.get [0, 1, 2, 3, 4, 5, 6, 7, 8, 9, 10, 11, 12, 13, 14, 15, 16, 17, 18, 19, 20, 21, 22, 23, 24, 25, 26, 27, 28, 29, 30, 31, 32, 33, 34] (List.forall_mem_cons.2 ⟨(hb 0 (by decide) (by decide)), (List.forall_mem_cons.2 ⟨(hb 1 (by decide) (by decide)), (List.forall_mem_cons.2 ⟨(hb 2 (by decide) (by decide)), (List.forall_mem_cons.2 ⟨(hb 3 (by decide) (by decide)), (List.forall_mem_cons.2 ⟨(hb 4 (by decide) (by decide)), (List.forall_mem_cons.2 ⟨(hb 5 (by decide) (by decide)), (List.forall_mem_cons.2 ⟨(hb 6 (by decide) (by decide)), (List.forall_mem_cons.2 ⟨(hb 7 (by decide) (by decide)), (List.forall_mem_cons.2 ⟨(hb 8 (by decide) (by decide)), (List.forall_mem_cons.2 ⟨(hb 9 (by decide) (by decide)), (List.forall_mem_cons.2 ⟨(hb 10 (by decide) (by decide)), (List.forall_mem_cons.2 ⟨(hb 11 (by decide) (by decide)), (List.forall_mem_cons.2 ⟨(hb 12 (by decide) (by decide)), (List.forall_mem_cons.2 ⟨(hb 13 (by decide) (by decide)), (List.forall_mem_cons.2 ⟨(hb 14 (by decide) (by decide)), (List.forall_mem_cons.2 ⟨(hb 15 (by decide) (by decide)), (List.forall_mem_cons.2 ⟨(hb 16 (by decide) (by decide)), (List.forall_mem_cons.2 ⟨(hb 17 (by decide) (by decide)), (List.forall_mem_cons.2 ⟨(hb 18 (by decide) (by decide)), (List.forall_mem_cons.2 ⟨(hb 19 (by decide) (by decide)), (List.forall_mem_cons.2 ⟨(hb 20 (by decide) (by decide)), (List.forall_mem_cons.2 ⟨(hb 21 (by decide) (by decide)), (List.forall_mem_cons.2 ⟨(hb 22 (by decide) (by decide)), (List.forall_mem_cons.2 ⟨(hb 23 (by decide) (by decide)), (List.forall_mem_cons.2 ⟨(hb 24 (by decide) (by decide)), (List.forall_mem_cons.2 ⟨(hb 25 (by decide) (by decide)), (List.forall_mem_cons.2 ⟨(hb 26 (by decide) (by decide)), (List.forall_mem_cons.2 ⟨(hb 27 (by decide) (by decide)), (List.forall_mem_cons.2 ⟨(hb 28 (by decide) (by decide)), (List.forall_mem_cons.2 ⟨(hb 29 (by decide) (by decide)), (List.forall_mem_cons.2 ⟨(hb 30 (by decide) (by decide)), (List.forall_mem_cons.2 ⟨(hb 31 (by decide) (by decide)), (List.forall_mem_cons.2 ⟨(hb 32 (by decide) (by decide)), (List.forall_mem_cons.2 ⟨(hb 33 (by decide) (by decide)), (List.forall_mem_cons.2 ⟨(hb 34 (by decide) (by decide)), (fun _ h => by cases h)⟩)⟩)⟩)⟩)⟩)⟩)⟩)⟩)⟩)⟩)⟩)⟩)⟩)⟩)⟩)⟩)⟩)⟩)⟩)⟩)⟩)⟩)⟩)⟩)⟩)⟩)⟩)⟩)⟩)⟩)⟩)⟩)⟩)⟩)⟩) _ rfl
                      refine goOff ha rfl rfl rfl rfl rfl fun a ha => ?_
                      refine goOn1 ha rfl rfl rfl rfl (not_f (decide_eq_false hc13)) (d_pick ha rfl rfl rfl) fun a ha => ?_
                      refine go1 ha rfl (d_pick ha rfl (not_f (decide_eq_false hc13)) rfl) fun a ha => ?_
                      refine nil_ ?_
                      refine hK28 _ _ ?_
                      have ha := ha.to (l' := [(114, _)]) rfl
                      refine wcond_t ha rfl rfl ?_
                      refine wp_seq_k (fun K30 hK30 => ?_)
                      refine wreg ?_
                      refine go1 ha rfl (d_assign ha rfl) fun a ha => ?_
                      refine nil_ ?_
                      refine hK30 _ _ ?_
                      have ha := ha.to (l' := [(4, _)]) rfl
                      refine wp_ret ?_
                      have hs : Step [p3, some ⟨b2, 0, none⟩, some ⟨b1, 0, none⟩] [] w25 w25 := Step.pick _ _ []
                      have r1 := hs.tr r1
                      have hE : Ex w (Av [] No) [] w25 := hE.pick [] (by decide)
                      injection hF with hF
                      subst hF
                      refine fin1 ha Try.results7 rfl ?_
                      exact ⟨rfl, hE⟩
                  · rcases ite_elim hF with ⟨hc16, hF⟩ | ⟨hc16, hF⟩
                    · refine drawnC 12 (by kernel_rfl) 35 (by decide) rfl (fun b a wI => HasB 116 [(2, .pointer (some ⟨b1, 0, none⟩)), (3, .pointer (some ⟨b2, 0, none⟩)), (5, .bool t3), (7, .slice p1 t11.length c1), (8, .slice p3 x3.length c3), (9, .int .i64 t13)] [(0, 77, .agg #[.int .i64 a0_0, .string a0_1]), (1, 78, .agg #[.int .i64 a1_0, .string a1_1]), (2, 79, .bool (!decide (a0_0 = a1_0 ∧ a0_1 = a1_1))), (3, 80, .bool (!decide (a0_0 = a1_0 ∧ a0_1 = a1_1))), (4, 81, .slice p1 t11.length c1), (5, 82, .slice p3 x3.length c3), (6, 83, .bool t14), (7, 84, .bool t14), (8, 85, .slice p3 x3.length c3), (9, 86, .slice p1 t11.length c1), (10, 87, .bool t15), (11, 88, .bool t15), (12, 89, .bool t15), (13, 90, .int .i64 t13), (14, 91, .slice p1 t11.length c1), (15, 92, .int .i64 (t11.length : Int)), (16, 93, .bool (decide ((t11.length : Int) ≤ t13))), (17, 94, .bool (decide ((t11.length : Int) ≤ t13))), (18, 95, .bool (decide ((t11.length : Int) ≤ t13))), (19, 96, undef), (20, 97, undef), (21, 98, undef), (22, 99, undef), (23, 100, .bool true), (24, 101, .bool true), (25, 102, undef), (26, 103, undef), (27, 104, undef), (28, 105, undef), (29, 106, undef), (30, 107, undef), (31, 108, undef), (32, 109, undef), (33, 110, undef), (34, 111, undef)] b a ∧ Ex w (Av [] No) [p3, some ⟨b2, 0, none⟩, some ⟨b1, 0, none⟩] wI ∧ Fr w21 wI No ∧ Raw (Av [p3, some ⟨b2, 0, none⟩, some ⟨b1, 0, none⟩] (Old w)) (Kd.int .u8) wI.heap p1 c1 t11 ∧ Bx wI b1 29 [.int .i64 a0_0, .string a0_1] ∧ Bx wI b2 29 [.int .i64 a1_0, .string a1_1] ∧ Ow (Av [p3, some ⟨b2, 0, none⟩, some ⟨b1, 0, none⟩] W) wI 5 (Kd.int .u8) p3 c3 x3) ?_ (EachAt.all0 ?_) ?_
                      · exact ⟨HasB.start (ha.to rfl) rfl, hE.drew, (Fr.refl _ No).drew, r1, x1, x2, o3⟩
                      · refine (EachAt.cons ?_ (EachAt.cons ?_ (EachAt.cons ?_ (EachAt.cons ?_ (EachAt.cons ?_ (EachAt.cons ?_ (EachAt.cons ?_ (EachAt.cons ?_ (EachAt.cons ?_ (EachAt.cons ?_ (EachAt.cons ?_ (EachAt.cons ?_ (EachAt.cons ?_ (EachAt.cons ?_ (EachAt.cons ?_ (EachAt.cons ?_ (EachAt.cons ?_ (EachAt.cons ?_ (EachAt.cons ?_ (EachAt.cons ?_ (EachAt.cons ?_ (EachAt.cons ?_ (EachAt.cons ?_ (EachAt.cons ?_ (EachAt.cons ?_ (EachAt.cons ?_ (EachAt.cons ?_ (EachAt.cons ?_ (EachAt.cons ?_ (EachAt.cons ?_ (EachAt.cons ?_ (EachAt.cons ?_ (EachAt.cons ?_ (EachAt.cons ?_ (EachAt.cons ?_ EachAt.nil)))))))))))))))))))))))))))))))))))
                        · intro b a wI hI hb hn hc
                          obtain ⟨hB, hE, hr, r1, x1, x2, o3⟩ := hI
                          have ha : Has 116 [(2, .pointer (some ⟨b1, 0, none⟩))] a := hB.get [] (fun _ h => by cases h) _ rfl
                          refine DoesG.plain rfl (Does.mono (d_loadAgg (cs := [.int .i64 a0_0, .string a0_1]) ha rfl (x1.at_.sub' 0 2 rfl) Try.isAgg29 Try.sizeOf29 rfl) ?_)
                          rintro v wJ ⟨rfl, rfl⟩
                          exact ⟨HasB.put hB 0 rfl rfl rfl rfl, hE, hr, r1, x1, x2, o3⟩
                        · intro b a wI hI hb hn hc
                          obtain ⟨hB, hE, hr, r1, x1, x2, o3⟩ := hI
                          have ha : Has 116 [(3, .pointer (some ⟨b2, 0, none⟩))] a := hB.get [] (fun _ h => by cases h) _ rfl
                          refine DoesG.plain rfl (Does.mono (d_loadAgg (cs := [.int .i64 a1_0, .string a1_1]) ha rfl (x2.at_.sub' 0 2 rfl) Try.isAgg29 Try.sizeOf29 rfl) ?_)
                          rintro v wJ ⟨rfl, rfl⟩
                          exact ⟨HasB.put hB 1 rfl rfl rfl rfl, hE, hr, r1, x1, x2, o3⟩
                        · intro b a wI hI hb hn hc
                          obtain ⟨hB, hE, hr, r1, x1, x2, o3⟩ := hI
                          have ha : Has 116 [(77, .agg #[.int .i64 a0_0, .string a0_1]), (78, .agg #[.int .i64 a1_0, .string a1_1])] a := hB.get [0, 1] (List.forall_mem_cons.2 ⟨(hn 0 (mem_needs rfl)), (List.forall_mem_cons.2 ⟨(hn 1 (mem_needs rfl)), (fun _ h => by cases h)⟩)⟩) _ rfl
                          refine DoesG.plain rfl (Does.mono (d_neAg (q := a0_0 = a1_0 ∧ a0_1 = a1_1) ha rfl rfl (by kernel_rfl) (.struct Try.underlying29 (by kernel_rfl) (.cons (by decide) (.cell Try.isAgg27 rfl) (.cell Try.isAgg27 rfl) (.int Try.underlying27) (.one (by decide) (.cell Try.isAgg9 rfl) (.cell Try.isAgg9 rfl) (.str Try.underlying9))))) ?_)
                          rintro v wJ ⟨rfl, rfl⟩
                          exact ⟨HasB.put hB 2 rfl rfl rfl rfl, hE, hr, r1, x1, x2, o3⟩
                        · intro b a wI hI hb hn hc
                          obtain ⟨hB, hE, hr, r1, x1, x2, o3⟩ := hI
                          have ha : Has 116 [(79, .bool (!decide (a0_0 = a1_0 ∧ a0_1 = a1_1)))] a := hB.get [2] (List.forall_mem_cons.2 ⟨(hn 2 (mem_needs rfl)), (fun _ h => by cases h)⟩) _ rfl
                          refine DoesG.plain rfl (Does.mono (d_move ha rfl) ?_)
                          rintro v wJ ⟨rfl, rfl⟩
                          exact ⟨HasB.put hB 3 rfl rfl rfl rfl, hE, hr, r1, x1, x2, o3⟩
                        · intro b a wI hI hb hn hc
                          obtain ⟨hB, hE, hr, r1, x1, x2, o3⟩ := hI
                          have ha : Has 116 [(7, .slice p1 t11.length c1), (80, .bool (!decide (a0_0 = a1_0 ∧ a0_1 = a1_1)))] a := hB.get [3] (List.forall_mem_cons.2 ⟨(hn 3 (mem_needs rfl)), (fun _ h => by cases h)⟩) _ rfl
                          refine DoesG.on rfl ha rfl rfl rfl (not_f (decide_eq_false hc13)) (Does.mono (d_move ha rfl) ?_)
                          rintro v wJ ⟨rfl, rfl⟩
                          exact ⟨HasB.put hB 4 rfl rfl rfl rfl, hE, hr, r1, x1, x2, o3⟩
                        · intro b a wI hI hb hn hc
                          obtain ⟨hB, hE, hr, r1, x1, x2, o3⟩ := hI
                          have ha : Has 116 [(8, .slice p3 x3.length c3), (80, .bool (!decide (a0_0 = a1_0 ∧ a0_1 = a1_1)))] a := hB.get [3] (List.forall_mem_cons.2 ⟨(hn 3 (mem_needs rfl)), (fun _ h => by cases h)⟩) _ rfl
                          refine DoesG.on rfl ha rfl rfl rfl (not_f (decide_eq_false hc13)) (Does.mono (d_move ha rfl) ?_)
                          rintro v wJ ⟨rfl, rfl⟩
                          exact ⟨HasB.put hB 5 rfl rfl rfl rfl, hE, hr, r1, x1, x2, o3⟩
                        · intro b a wI hI hb hn hc
                          obtain ⟨hB, hE, hr, r1, x1, x2, o3⟩ := hI
                          have ha : Has 116 [(80, .bool (!decide (a0_0 = a1_0 ∧ a0_1 = a1_1))), (81, .slice p1 t11.length c1), (82, .slice p3 x3.length c3)] a := hB.get [3, 4, 5] (List.forall_mem_cons.2 ⟨(hn 3 (mem_needs rfl)), (List.forall_mem_cons.2 ⟨(hn 4 (mem_needs rfl)), (List.forall_mem_cons.2 ⟨(hn 5 (mem_needs rfl)), (fun _ h => by cases h)⟩)⟩)⟩) _ rfl
                          refine DoesG.on rfl ha rfl rfl rfl (not_f (decide_eq_false hc13)) (Does.mono (d_call Try.call25 ha (vs := [.slice p1 t11.length c1, .slice p3 x3.length c3]) rfl (warderref02_Is_c t11 x3 _ _ _ _ (Av [some ⟨b2, 0, none⟩, some ⟨b1, 0, none⟩] W) _ (Ex.wlt (as0 := []) (rr := [p3]) (ro := [some ⟨b2, 0, none⟩, some ⟨b1, 0, none⟩]) hE hW) (Raw.arg (as0 := []) (rr := [p3]) (ro := [some ⟨b2, 0, none⟩, some ⟨b1, 0, none⟩]) r1 hW) (Ow.argR (as0 := []) (rr := [p3]) (ro := [some ⟨b2, 0, none⟩, some ⟨b1, 0, none⟩]) o3 hE hW hW0 (by simp)) _ ht14)) ?_)
                          intro v w22 h
                          obtain ⟨rfl, hC⟩ := h
                          have hfr : Fr wI w22 No := hC.fr.mono (fun _ _ h => by rcases h with h | ⟨_, h, _⟩; exact h; cases h)
                          have hs : Step [p3, some ⟨b2, 0, none⟩, some ⟨b1, 0, none⟩] [p3, some ⟨b2, 0, none⟩, some ⟨b1, 0, none⟩] wI w22 := hC.callStep [p3, some ⟨b2, 0, none⟩, some ⟨b1, 0, none⟩]
                          have r1 := hs.tr r1
                          have o3 := o3.keep hC.fr (Ex.callOff (as0 := []) (rt := [p3, some ⟨b2, 0, none⟩, some ⟨b1, 0, none⟩]) hE (u := p3) (by simp)) (fun _ _ h => hs.trK h)
                          have x2 := x2.keep hC.fr ((Ex.callOff (as0 := []) (rt := [p3, some ⟨b2, 0, none⟩, some ⟨b1, 0, none⟩]) hE (u := some ⟨b2, 0, none⟩) (by simp)) _ rfl)
                          have x1 := x1.keep hC.fr ((Ex.callOff (as0 := []) (rt := [p3, some ⟨b2, 0, none⟩, some ⟨b1, 0, none⟩]) hE (u := some ⟨b1, 0, none⟩) (by simp)) _ rfl)
                          have hE : Ex w (Av [] No) [p3, some ⟨b2, 0, none⟩, some ⟨b1, 0, none⟩] w22 := Ex.call (as0 := []) (rt := [p3, some ⟨b2, 0, none⟩, some ⟨b1, 0, none⟩]) hE hC
                          exact ⟨HasB.put hB 6 rfl rfl rfl rfl, hE, hr.step hfr (fun _ _ h => h), r1, x1, x2, o3⟩
                        · intro b a wI hI hb hn hc
                          obtain ⟨hB, hE, hr, r1, x1, x2, o3⟩ := hI
                          have ha : Has 116 [(80, .bool (!decide (a0_0 = a1_0 ∧ a0_1 = a1_1))), (83, .bool t14)] a := hB.get [3, 6] (List.forall_mem_cons.2 ⟨(hn 3 (mem_needs rfl)), (List.forall_mem_cons.2 ⟨(hn 6 (mem_needs rfl)), (fun _ h => by cases h)⟩)⟩) _ rfl
                          refine DoesG.on rfl ha rfl rfl rfl (not_f (decide_eq_false hc13)) (Does.mono (d_move ha rfl) ?_)
                          rintro v wJ ⟨rfl, rfl⟩
                          exact ⟨HasB.put hB 7 rfl rfl rfl rfl, hE, hr, r1, x1, x2, o3⟩
                        · intro b a wI hI hb hn hc
                          obtain ⟨hB, hE, hr, r1, x1, x2, o3⟩ := hI
                          have ha : Has 116 [(8, .slice p3 x3.length c3), (84, .bool t14)] a := hB.get [7] (List.forall_mem_cons.2 ⟨(hn 7 (mem_needs rfl)), (fun _ h => by cases h)⟩) _ rfl
                          refine DoesG.on rfl ha rfl rfl rfl hc14 (Does.mono (d_move ha rfl) ?_)
                          rintro v wJ ⟨rfl, rfl⟩
                          exact ⟨HasB.put hB 8 rfl rfl rfl rfl, hE, hr, r1, x1, x2, o3⟩
                        · intro b a wI hI hb hn hc
                          obtain ⟨hB, hE, hr, r1, x1, x2, o3⟩ := hI
                          have ha : Has 116 [(7, .slice p1 t11.length c1), (84, .bool t14)] a := hB.get [7] (List.forall_mem_cons.2 ⟨(hn 7 (mem_needs rfl)), (fun _ h => by cases h)⟩) _ rfl
                          refine DoesG.on rfl ha rfl rfl rfl hc14 (Does.mono (d_move ha rfl) ?_)
                          rintro v wJ ⟨rfl, rfl⟩
                          exact ⟨HasB.put hB 9 rfl rfl rfl rfl, hE, hr, r1, x1, x2, o3⟩
                        · intro b a wI hI hb hn hc
                          obtain ⟨hB, hE, hr, r1, x1, x2, o3⟩ := hI
                          have ha : Has 116 [(84, .bool t14), (85, .slice p3 x3.length c3), (86, .slice p1 t11.length c1)] a := hB.get [7, 8, 9] (List.forall_mem_cons.2 ⟨(hn 7 (mem_needs rfl)), (List.forall_mem_cons.2 ⟨(hn 8 (mem_needs rfl)), (List.forall_mem_cons.2 ⟨(hn 9 (mem_needs rfl)), (fun _ h => by cases h)⟩)⟩)⟩) _ rfl
                          refine DoesG.on rfl ha rfl rfl rfl hc14 (Does.mono (d_call Try.call25 ha (vs := [.slice p3 x3.length c3, .slice p1 t11.length c1]) rfl (warderref02_Is_c x3 t11 _ _ _ _ (Av [some ⟨b2, 0, none⟩, some ⟨b1, 0, none⟩] W) _ (Ex.wlt (as0 := []) (rr := [p3]) (ro := [some ⟨b2, 0, none⟩, some ⟨b1, 0, none⟩]) hE hW) (Ow.argR (as0 := []) (rr := [p3]) (ro := [some ⟨b2, 0, none⟩, some ⟨b1, 0, none⟩]) o3 hE hW hW0 (by simp)) (Raw.arg (as0 := []) (rr := [p3]) (ro := [some ⟨b2, 0, none⟩, some ⟨b1, 0, none⟩]) r1 hW) _ ht15)) ?_)
                          intro v w24 h
                          obtain ⟨rfl, hC⟩ := h
                          have hfr : Fr wI w24 No := hC.fr.mono (fun _ _ h => by rcases h with h | ⟨_, h, _⟩; exact h; cases h)
                          have hs : Step [p3, some ⟨b2, 0, none⟩, some ⟨b1, 0, none⟩] [p3, some ⟨b2, 0, none⟩, some ⟨b1, 0, none⟩] wI w24 := hC.callStep [p3, some ⟨b2, 0, none⟩, some ⟨b1, 0, none⟩]
                          have r1 := hs.tr r1
                          have o3 := o3.keep hC.fr (Ex.callOff (as0 := []) (rt := [p3, some ⟨b2, 0, none⟩, some ⟨b1, 0, none⟩]) hE (u := p3) (by simp)) (fun _ _ h => hs.trK h)
                          have x2 := x2.keep hC.fr ((Ex.callOff (as0 := []) (rt := [p3, some ⟨b2, 0, none⟩, some ⟨b1, 0, none⟩]) hE (u := some ⟨b2, 0, none⟩) (by simp)) _ rfl)
                          have x1 := x1.keep hC.fr ((Ex.callOff (as0 := []) (rt := [p3, some ⟨b2, 0, none⟩, some ⟨b1, 0, none⟩]) hE (u := some ⟨b1, 0, none⟩) (by simp)) _ rfl)
                          have hE : Ex w (Av [] No) [p3, some ⟨b2, 0, none⟩, some ⟨b1, 0, none⟩] w24 := Ex.call (as0 := []) (rt := [p3, some ⟨b2, 0, none⟩, some ⟨b1, 0, none⟩]) hE hC
                          exact ⟨HasB.put hB 10 rfl rfl rfl rfl, hE, hr.step hfr (fun _ _ h => h), r1, x1, x2, o3⟩
                        · intro b a wI hI hb hn hc
                          obtain ⟨hB, hE, hr, r1, x1, x2, o3⟩ := hI
                          have ha : Has 116 [(80, .bool (!decide (a0_0 = a1_0 ∧ a0_1 = a1_1))), (84, .bool t14), (87, .bool t15)] a := hB.get [3, 7, 10] (List.forall_mem_cons.2 ⟨(hn 3 (mem_needs rfl)), (List.forall_mem_cons.2 ⟨(hn 7 (mem_needs rfl)), (List.forall_mem_cons.2 ⟨(hn 10 (mem_needs rfl)), (fun _ h => by cases h)⟩)⟩)⟩) _ rfl
                          refine DoesG.on rfl ha rfl rfl rfl (not_f (decide_eq_false hc13)) (Does.mono (d_pickF ha rfl hc14 rfl) ?_)
                          rintro v wJ ⟨rfl, rfl⟩
                          exact ⟨HasB.put hB 11 rfl rfl rfl rfl, hE, hr, r1, x1, x2, o3⟩
                        · intro b a wI hI hb hn hc
                          obtain ⟨hB, hE, hr, r1, x1, x2, o3⟩ := hI
                          have ha : Has 116 [(80, .bool (!decide (a0_0 = a1_0 ∧ a0_1 = a1_1))), (88, .bool t15)] a := hB.get [3, 11] (List.forall_mem_cons.2 ⟨(hn 3 (mem_needs rfl)), (List.forall_mem_cons.2 ⟨(hn 11 (mem_needs rfl)), (fun _ h => by cases h)⟩)⟩) _ rfl
                          refine DoesG.on rfl ha rfl rfl rfl (not_f (decide_eq_false hc13)) (Does.mono (d_move ha rfl) ?_)
                          rintro v wJ ⟨rfl, rfl⟩
                          exact ⟨HasB.put hB 12 rfl rfl rfl rfl, hE, hr, r1, x1, x2, o3⟩
                        · intro b a wI hI hb hn hc
                          obtain ⟨hB, hE, hr, r1, x1, x2, o3⟩ := hI
                          have ha : Has 116 [(9, .int .i64 t13), (89, .bool t15)] a := hB.get [12] (List.forall_mem_cons.2 ⟨(hn 12 (mem_needs rfl)), (fun _ h => by cases h)⟩) _ rfl
                          refine DoesG.on rfl ha rfl rfl rfl hc15 (Does.mono (d_move ha rfl) ?_)
                          rintro v wJ ⟨rfl, rfl⟩
                          exact ⟨HasB.put hB 13 rfl rfl rfl rfl, hE, hr, r1, x1, x2, o3⟩
                        · intro b a wI hI hb hn hc
                          obtain ⟨hB, hE, hr, r1, x1, x2, o3⟩ := hI
                          have ha : Has 116 [(7, .slice p1 t11.length c1), (89, .bool t15)] a := hB.get [12] (List.forall_mem_cons.2 ⟨(hn 12 (mem_needs rfl)), (fun _ h => by cases h)⟩) _ rfl
                          refine DoesG.on rfl ha rfl rfl rfl hc15 (Does.mono (d_move ha rfl) ?_)
                          rintro v wJ ⟨rfl, rfl⟩
                          exact ⟨HasB.put hB 14 rfl rfl rfl rfl, hE, hr, r1, x1, x2, o3⟩
                        · intro b a wI hI hb hn hc
                          obtain ⟨hB, hE, hr, r1, x1, x2, o3⟩ := hI
                          have ha : Has 116 [(89, .bool t15), (91, .slice p1 t11.length c1)] a := hB.get [12, 14] (List.forall_mem_cons.2 ⟨(hn 12 (mem_needs rfl)), (List.forall_mem_cons.2 ⟨(hn 14 (mem_needs rfl)), (fun _ h => by cases h)⟩)⟩) _ rfl
                          refine DoesG.on rfl ha rfl rfl rfl hc15 (Does.mono (d_lenSlice ha Try.underlying22 rfl) ?_)
                          rintro v wJ ⟨rfl, rfl⟩
                          exact ⟨HasB.put hB 15 rfl rfl rfl rfl, hE, hr, r1, x1, x2, o3⟩
                        · intro b a wI hI hb hn hc
                          obtain ⟨hB, hE, hr, r1, x1, x2, o3⟩ := hI
                          have ha : Has 116 [(89, .bool t15), (90, .int .i64 t13), (92, .int .i64 (t11.length : Int))] a := hB.get [12, 13, 15] (List.forall_mem_cons.2 ⟨(hn 12 (mem_needs rfl)), (List.forall_mem_cons.2 ⟨(hn 13 (mem_needs rfl)), (List.forall_mem_cons.2 ⟨(hn 15 (mem_needs rfl)), (fun _ h => by cases h)⟩)⟩)⟩) _ rfl
                          refine DoesG.on rfl ha rfl rfl rfl hc15 (Does.mono (d_ge ha rfl rfl) ?_)
                          rintro v wJ ⟨rfl, rfl⟩
                          exact ⟨HasB.put hB 16 rfl rfl rfl rfl, hE, hr, r1, x1, x2, o3⟩
                        · intro b a wI hI hb hn hc
                          obtain ⟨hB, hE, hr, r1, x1, x2, o3⟩ := hI
                          have ha : Has 116 [(80, .bool (!decide (a0_0 = a1_0 ∧ a0_1 = a1_1))), (89, .bool t15), (93, .bool (decide ((t11.length : Int) ≤ t13)))] a := hB.get [3, 12, 16] (List.forall_mem_cons.2 ⟨(hn 3 (mem_needs rfl)), (List.forall_mem_cons.2 ⟨(hn 12 (mem_needs rfl)), (List.forall_mem_cons.2 ⟨(hn 16 (mem_needs rfl)), (fun _ h => by cases h)⟩)⟩)⟩) _ rfl
                          refine DoesG.on rfl ha rfl rfl rfl (not_f (decide_eq_false hc13)) (Does.mono (d_pickF ha rfl hc15 rfl) ?_)
                          rintro v wJ ⟨rfl, rfl⟩
                          exact ⟨HasB.put hB 17 rfl rfl rfl rfl, hE, hr, r1, x1, x2, o3⟩
                        · intro b a wI hI hb hn hc
                          obtain ⟨hB, hE, hr, r1, x1, x2, o3⟩ := hI
                          have ha : Has 116 [(80, .bool (!decide (a0_0 = a1_0 ∧ a0_1 = a1_1))), (94, .bool (decide ((t11.length : Int) ≤ t13)))] a := hB.get [3, 17] (List.forall_mem_cons.2 ⟨(hn 3 (mem_needs rfl)), (List.forall_mem_cons.2 ⟨(hn 17 (mem_needs rfl)), (fun _ h => by cases h)⟩)⟩) _ rfl
                          refine DoesG.on rfl ha rfl rfl rfl (not_f (decide_eq_false hc13)) (Does.mono (d_move ha rfl) ?_)
                          rintro v wJ ⟨rfl, rfl⟩
                          exact ⟨HasB.put hB 18 rfl rfl rfl rfl, hE, hr, r1, x1, x2, o3⟩
                        · intro b a wI hI hb hn hc
                          obtain ⟨hB, hE, hr, r1, x1, x2, o3⟩ := hI
                          have ha : Has 116 [(9, .int .i64 t13), (95, .bool (decide ((t11.length : Int) ≤ t13)))] a := hB.get [18] (List.forall_mem_cons.2 ⟨(hn 18 (mem_needs rfl)), (fun _ h => by cases h)⟩) _ rfl
                          refine DoesG.off rfl ha rfl rfl rfl (decide_eq_true hc16) ?_
                          exact ⟨HasB.put hB 19 rfl rfl rfl rfl, hE, hr, r1, x1, x2, o3⟩
                        · intro b a wI hI hb hn hc
                          obtain ⟨hB, hE, hr, r1, x1, x2, o3⟩ := hI
                          have ha : Has 116 [(8, .slice p3 x3.length c3), (95, .bool (decide ((t11.length : Int) ≤ t13)))] a := hB.get [18] (List.forall_mem_cons.2 ⟨(hn 18 (mem_needs rfl)), (fun _ h => by cases h)⟩) _ rfl
                          refine DoesG.off rfl ha rfl rfl rfl (decide_eq_true hc16) ?_
                          exact ⟨HasB.put hB 20 rfl rfl rfl rfl, hE, hr, r1, x1, x2, o3⟩
                        · intro b a wI hI hb hn hc
                          obtain ⟨hB, hE, hr, r1, x1, x2, o3⟩ := hI
                          have ha : Has 116 [(95, .bool (decide ((t11.length : Int) ≤ t13))), (97, undef)] a := hB.get [18, 20] (List.forall_mem_cons.2 ⟨(hn 18 (mem_needs rfl)), (List.forall_mem_cons.2 ⟨(hn 20 (mem_needs rfl)), (fun _ h => by cases h)⟩)⟩) _ rfl
                          refine DoesG.off rfl ha rfl rfl rfl (decide_eq_true hc16) ?_
                          exact ⟨HasB.put hB 21 rfl rfl rfl rfl, hE, hr, r1, x1, x2, o3⟩
                        · intro b a wI hI hb hn hc
                          obtain ⟨hB, hE, hr, r1, x1, x2, o3⟩ := hI
                          have ha : Has 116 [(95, .bool (decide ((t11.length : Int) ≤ t13))), (96, undef), (98, undef)] a := hB.get [18, 19, 21] (List.forall_mem_cons.2 ⟨(hn 18 (mem_needs rfl)), (List.forall_mem_cons.2 ⟨(hn 19 (mem_needs rfl)), (List.forall_mem_cons.2 ⟨(hn 21 (mem_needs rfl)), (fun _ h => by cases h)⟩)⟩)⟩) _ rfl
                          refine DoesG.off rfl ha rfl rfl rfl (decide_eq_true hc16) ?_
                          exact ⟨HasB.put hB 22 rfl rfl rfl rfl, hE, hr, r1, x1, x2, o3⟩
                        · intro b a wI hI hb hn hc
                          obtain ⟨hB, hE, hr, r1, x1, x2, o3⟩ := hI
                          have ha : Has 116 [(80, .bool (!decide (a0_0 = a1_0 ∧ a0_1 = a1_1))), (95, .bool (decide ((t11.length : Int) ≤ t13))), (99, undef)] a := hB.get [3, 18, 22] (List.forall_mem_cons.2 ⟨(hn 3 (mem_needs rfl)), (List.forall_mem_cons.2 ⟨(hn 18 (mem_needs rfl)), (List.forall_mem_cons.2 ⟨(hn 22 (mem_needs rfl)), (fun _ h => by cases h)⟩)⟩)⟩) _ rfl
                          refine DoesG.on rfl ha rfl rfl rfl (not_f (decide_eq_false hc13)) (Does.mono (d_pick ha rfl (decide_eq_true hc16) rfl) ?_)
                          rintro v wJ ⟨rfl, rfl⟩
                          exact ⟨HasB.put hB 23 rfl rfl rfl rfl, hE, hr, r1, x1, x2, o3⟩
                        · intro b a wI hI hb hn hc
                          obtain ⟨hB, hE, hr, r1, x1, x2, o3⟩ := hI
                          have ha : Has 116 [(80, .bool (!decide (a0_0 = a1_0 ∧ a0_1 = a1_1))), (100, .bool true)] a := hB.get [3, 23] (List.forall_mem_cons.2 ⟨(hn 3 (mem_needs rfl)), (List.forall_mem_cons.2 ⟨(hn 23 (mem_needs rfl)), (fun _ h => by cases h)⟩)⟩) _ rfl
                          refine DoesG.on rfl ha rfl rfl rfl (not_f (decide_eq_false hc13)) (Does.mono (d_move ha rfl) ?_)
                          rintro v wJ ⟨rfl, rfl⟩
                          exact ⟨HasB.put hB 24 rfl rfl rfl rfl, hE, hr, r1, x1, x2, o3⟩
                        · intro b a wI hI hb hn hc
                          obtain ⟨hB, hE, hr, r1, x1, x2, o3⟩ := hI
                          have ha : Has 116 [(7, .slice p1 t11.length c1), (101, .bool true)] a := hB.get [24] (List.forall_mem_cons.2 ⟨(hn 24 (mem_needs rfl)), (fun _ h => by cases h)⟩) _ rfl
                          refine DoesG.off rfl ha rfl rfl rfl rfl ?_
                          exact ⟨HasB.put hB 25 rfl rfl rfl rfl, hE, hr, r1, x1, x2, o3⟩
                        · intro b a wI hI hb hn hc
                          obtain ⟨hB, hE, hr, r1, x1, x2, o3⟩ := hI
                          have ha : Has 116 [(9, .int .i64 t13), (101, .bool true)] a := hB.get [24] (List.forall_mem_cons.2 ⟨(hn 24 (mem_needs rfl)), (fun _ h => by cases h)⟩) _ rfl
                          refine DoesG.off rfl ha rfl rfl rfl rfl ?_
                          exact ⟨HasB.put hB 26 rfl rfl rfl rfl, hE, hr, r1, x1, x2, o3⟩
                        · intro b a wI hI hb hn hc
                          obtain ⟨hB, hE, hr, r1, x1, x2, o3⟩ := hI
                          have ha : Has 116 [(101, .bool true), (102, undef), (103, undef)] a := hB.get [24, 25, 26] (List.forall_mem_cons.2 ⟨(hn 24 (mem_needs rfl)), (List.forall_mem_cons.2 ⟨(hn 25 (mem_needs rfl)), (List.forall_mem_cons.2 ⟨(hn 26 (mem_needs rfl)), (fun _ h => by cases h)⟩)⟩)⟩) _ rfl
                          refine DoesG.off rfl ha rfl rfl rfl rfl ?_
                          exact ⟨HasB.put hB 27 rfl rfl rfl rfl, hE, hr, r1, x1, x2, o3⟩
                        · intro b a wI hI hb hn hc
                          obtain ⟨hB, hE, hr, r1, x1, x2, o3⟩ := hI
                          have ha : Has 116 [(101, .bool true), (104, undef)] a := hB.get [24, 27] (List.forall_mem_cons.2 ⟨(hn 24 (mem_needs rfl)), (List.forall_mem_cons.2 ⟨(hn 27 (mem_needs rfl)), (fun _ h => by cases h)⟩)⟩) _ rfl
                          refine DoesG.off rfl ha rfl rfl rfl rfl ?_
                          exact ⟨HasB.put hB 28 rfl rfl rfl rfl, hE, hr, r1, x1, x2, o3⟩
                        · intro b a wI hI hb hn hc
                          obtain ⟨hB, hE, hr, r1, x1, x2, o3⟩ := hI
                          have ha : Has 116 [(8, .slice p3 x3.length c3), (101, .bool true)] a := hB.get [24] (List.forall_mem_cons.2 ⟨(hn 24 (mem_needs rfl)), (fun _ h => by cases h)⟩) _ rfl
                          refine DoesG.off rfl ha rfl rfl rfl rfl ?_
                          exact ⟨HasB.put hB 29 rfl rfl rfl rfl, hE, hr, r1, x1, x2, o3⟩
                        · intro b a wI hI hb hn hc
                          obtain ⟨hB, hE, hr, r1, x1, x2, o3⟩ := hI
                          have ha : Has 116 [(9, .int .i64 t13), (101, .bool true)] a := hB.get [24] (List.forall_mem_cons.2 ⟨(hn 24 (mem_needs rfl)), (fun _ h => by cases h)⟩) _ rfl
                          refine DoesG.off rfl ha rfl rfl rfl rfl ?_
                          exact ⟨HasB.put hB 30 rfl rfl rfl rfl, hE, hr, r1, x1, x2, o3⟩
                        · intro b a wI hI hb hn hc
                          obtain ⟨hB, hE, hr, r1, x1, x2, o3⟩ := hI
                          have ha : Has 116 [(101, .bool true), (106, undef), (107, undef)] a := hB.get [24, 29, 30] (List.forall_mem_cons.2 ⟨(hn 24 (mem_needs rfl)), (List.forall_mem_cons.2 ⟨(hn 29 (mem_needs rfl)), (List.forall_mem_cons.2 ⟨(hn 30 (mem_needs rfl)), (fun _ h => by cases h)⟩)⟩)⟩) _ rfl
                          refine DoesG.off rfl ha rfl rfl rfl rfl ?_
                          exact ⟨HasB.put hB 31 rfl rfl rfl rfl, hE, hr, r1, x1, x2, o3⟩
                        · intro b a wI hI hb hn hc
                          obtain ⟨hB, hE, hr, r1, x1, x2, o3⟩ := hI
                          have ha : Has 116 [(101, .bool true), (108, undef)] a := hB.get [24, 31] (List.forall_mem_cons.2 ⟨(hn 24 (mem_needs rfl)), (List.forall_mem_cons.2 ⟨(hn 31 (mem_needs rfl)), (fun _ h => by cases h)⟩)⟩) _ rfl
                          refine DoesG.off rfl ha rfl rfl rfl rfl ?_
                          exact ⟨HasB.put hB 32 rfl rfl rfl rfl, hE, hr, r1, x1, x2, o3⟩
                        · intro b a wI hI hb hn hc
                          obtain ⟨hB, hE, hr, r1, x1, x2, o3⟩ := hI
                          have ha : Has 116 [(101, .bool true), (105, undef), (109, undef)] a := hB.get [24, 28, 32] (List.forall_mem_cons.2 ⟨(hn 24 (mem_needs rfl)), (List.forall_mem_cons.2 ⟨(hn 28 (mem_needs rfl)), (List.forall_mem_cons.2 ⟨(hn 32 (mem_needs rfl)), (fun _ h => by cases h)⟩)⟩)⟩) _ rfl
                          refine DoesG.off rfl ha rfl rfl rfl rfl ?_
                          exact ⟨HasB.put hB 33 rfl rfl rfl rfl, hE, hr, r1, x1, x2, o3⟩
                        · intro b a wI hI hb hn hc
                          obtain ⟨hB, hE, hr, r1, x1, x2, o3⟩ := hI
                          have ha : Has 116 [(5, .bool t3), (101, .bool true)] a := hB.get [24] (List.forall_mem_cons.2 ⟨(hn 24 (mem_needs rfl)), (fun _ h => by cases h)⟩) _ rfl
                          refine DoesG.off rfl ha rfl rfl rfl rfl ?_
                          exact ⟨HasB.put hB 34 rfl rfl rfl rfl, hE, hr, r1, x1, x2, o3⟩
                      · intro b a w26 hb hI
                        obtain ⟨hB, hE, hr, r1, x1, x2, o3⟩ := hI
                        have ha : Has 116 [(77, .agg #[.int .i64 a0_0, .string a0_1]), (78, .agg #[.int .i64 a1_0, .string a1_1]), (79, .bool (!decide (a0_0 = a1_0 ∧ a0_1 = a1_1))), (80, .bool (!decide (a0_0 = a1_0 ∧ a0_1 = a1_1))), (81, .slice p1 t11.length c1), (82, .slice p3 x3.length c3), (83, .bool t14), (84, .bool t14), (85, .slice p3 x3.length c3), (86, .slice p1 t11.length c1), (87, .bool t15), (88, .bool t15), (89, .bool t15), (90, .int .i64 t13), (91, .slice p1 t11.length c1), (92, .int .i64 (t11.length : Int)), (93, .bool (decide ((t11.length : Int) ≤ t13))), (94, .bool (decide ((t11.length : Int) ≤ t13))), (95, .bool (decide ((t11.length : Int) ≤ t13))), (96, undef), (97, undef), (98, undef), (99, undef), (100, .bool true), (101, .bool true), (102, undef), (103, undef), (104, undef), (105, undef), (106, undef), (107, undef), (108, undef), (109, undef), (110, undef), (111, undef), (2, .pointer (some ⟨b1, 0, none⟩)), (3, .pointer (some ⟨b2, 0, none⟩)), (5, .bool t3), (7, .slice p1 t11.length c1), (8, .slice p3 x3.length c3), (9, .int .i64 t13)] a := hB.get [0, 1, 2, 3, 4, 5, 6, 7, 8, 9, 10, 11, 12, 13, 14, 15, 16, 17, 18, 19, 20, 21, 22, 23, 24, 25, 26, 27, 28, 29, 30, 31, 32, 33, 34] (List.forall_mem_cons.2 ⟨(hb 0 (by decide) (by decide)), (List.forall_mem_cons.2 ⟨(hb 1 (by decide) (by decide)), (List.forall_mem_cons.2 ⟨(hb 2 (by decide) (by decide)), (List.forall_mem_cons.2 ⟨(hb 3 (by decide) (by decide)), (List.forall_mem_cons.2 ⟨(hb 4 (by decide) (by decide)), (List.forall_mem_cons.2 ⟨(hb 5 (by decide) (by decide)), (List.forall_mem_cons.2 ⟨(hb 6 (by decide) (by decide)), (List.forall_mem_cons.2 ⟨(hb 7 (by decide) (by decide)), (List.forall_mem_cons.2 ⟨(hb 8 (by decide) (by decide)), (List.forall_mem_cons.2 ⟨(hb 9 (by decide) (by decide)), (List.forall_mem_cons.2 ⟨(hb 10 (by decide) (by decide)), (List.forall_mem_cons.2 ⟨(hb 11 (by decide) (by decide)), (List.forall_mem_cons.2 ⟨(hb 12 (by decide) (by decide)), (List.forall_mem_cons.2 ⟨(hb 13 (by decide) (by decide)), (List.forall_mem_cons.2 ⟨(hb 14 (by decide) (by decide)), (List.forall_mem_cons.2 ⟨(hb 15 (by decide) (by decide)), (List.forall_mem_cons.2 ⟨(hb 16 (by decide) (by decide)), (List.forall_mem_cons.2 ⟨(hb 17 (by decide) (by decide)), (List.forall_mem_cons.2 ⟨(hb 18 (by decide) (by decide)), (List.forall_mem_cons.2 ⟨(hb 19 (by decide) (by decide)), (List.forall_mem_cons.2 ⟨(hb 20 (by decide) (by decide)), (List.forall_mem_cons.2 ⟨(hb 21 (by decide) (by decide)), (List.forall_mem_cons.2 ⟨(hb 22 (by decide) (by decide)), (List.forall_mem_cons.2 ⟨(hb 23 (by decide) (by decide)), (List.forall_mem_cons.2 ⟨(hb 24 (by decide) (by decide)), (List.forall_mem_cons.2 ⟨(hb 25 (by decide) (by decide)), (List.forall_mem_cons.2 ⟨(hb 26 (by decide) (by decide)), (List.forall_mem_cons.2 ⟨(hb 27 (by decide) (by decide)), (List.forall_mem_cons.2 ⟨(hb 28 (by decide) (by decide)), (List.forall_mem_cons.2 ⟨(hb 29 (by decide) (by decide)), (List.forall_mem_cons.2 ⟨(hb 30 (by decide) (by decide)), (List.forall_mem_cons.2 ⟨(hb 31 (by decide) (by decide)), (List.forall_mem_cons.2 ⟨(hb 32 (by decide) (by decide)), (List.forall_mem_cons.2 ⟨(hb 33 (by decide) (by decide)), (List.forall_mem_cons.2 ⟨(hb 34 (by decide) (by decide)), (fun _ h => by cases h)⟩)⟩)⟩)⟩)⟩)⟩)⟩)⟩)⟩)⟩)⟩)⟩)⟩)⟩)⟩)⟩)⟩)⟩)⟩)⟩)⟩)⟩)⟩)⟩)⟩)⟩)⟩)⟩)⟩)⟩)⟩)⟩)⟩)⟩)⟩) _ rfl
                        refine goOff ha rfl rfl rfl rfl rfl fun a ha => ?_
                        refine goOn1 ha rfl rfl rfl rfl (not_f (decide_eq_false hc13)) (d_pick ha rfl rfl rfl) fun a ha => ?_
                        refine go1 ha rfl (d_pick ha rfl (not_f (decide_eq_false hc13)) rfl) fun a ha => ?_
                        refine nil_ ?_
                        refine hK28 _ _ ?_
                        have ha := ha.to (l' := [(114, _)]) rfl
                        refine wcond_t ha rfl rfl ?_
                        refine wp_seq_k (fun K31 hK31 => ?_)
                        refine wreg ?_
                        refine go1 ha rfl (d_assign ha rfl) fun a ha => ?_
                        refine nil_ ?_
                        refine hK31 _ _ ?_
                        have ha := ha.to (l' := [(4, _)]) rfl
                        refine wp_ret ?_
                        have hs : Step [p3, some ⟨b2, 0, none⟩, some ⟨b1, 0, none⟩] [] w26 w26 := Step.pick _ _ []
                        have r1 := hs.tr r1
                        have hE : Ex w (Av [] No) [] w26 := hE.pick [] (by decide)
                        injection hF with hF
                        subst hF
                        refine fin1 ha Try.results7 rfl ?_
                        exact ⟨rfl, hE⟩
                    · rcases ite_elim hF with ⟨hc17, hF⟩ | ⟨hc17, hF⟩
                      · refine drawnC 12 (by kernel_rfl) 35 (by decide) rfl (fun b a wI => HasB 116 [(2, .pointer (some ⟨b1, 0, none⟩)), (3, .pointer (some ⟨b2, 0, none⟩)), (5, .bool t3), (7, .slice p1 t11.length c1), (8, .slice p3 x3.length c3), (9, .int .i64 t13)] [(0, 77, .agg #[.int .i64 a0_0, .string a0_1]), (1, 78, .agg #[.int .i64 a1_0, .string a1_1]), (2, 79, .bool (!decide (a0_0 = a1_0 ∧ a0_1 = a1_1))), (3, 80, .bool (!decide (a0_0 = a1_0 ∧ a0_1 = a1_1))), (4, 81, .slice p1 t11.length c1), (5, 82, .slice p3 x3.length c3), (6, 83, .bool t14), (7, 84, .bool t14), (8, 85, .slice p3 x3.length c3), (9, 86, .slice p1 t11.length c1), (10, 87, .bool t15), (11, 88, .bool t15), (12, 89, .bool t15), (13, 90, .int .i64 t13), (14, 91, .slice p1 t11.length c1), (15, 92, .int .i64 (t11.length : Int)), (16, 93, .bool (decide ((t11.length : Int) ≤ t13))), (17, 94, .bool (decide ((t11.length : Int) ≤ t13))), (18, 95, .bool (decide ((t11.length : Int) ≤ t13))), (19, 96, .int .i64 t13), (20, 97, .slice p3 x3.length c3), (21, 98, .int .i64 (x3.length : Int)), (22, 99, .bool (decide ((x3.length : Int) ≤ t13))), (23, 100, .bool (decide ((x3.length : Int) ≤ t13))), (24, 101, .bool (decide ((x3.length : Int) ≤ t13))), (25, 102, undef), (26, 103, undef), (27, 104, undef), (28, 105, undef), (29, 106, undef), (30, 107, undef), (31, 108, undef), (32, 109, undef), (33, 110, undef), (34, 111, undef)] b a ∧ Ex w (Av [] No) [p3, some ⟨b2, 0, none⟩, some ⟨b1, 0, none⟩] wI ∧ Fr w21 wI No ∧ Raw (Av [p3, some ⟨b2, 0, none⟩, some ⟨b1, 0, none⟩] (Old w)) (Kd.int .u8) wI.heap p1 c1 t11 ∧ Bx wI b1 29 [.int .i64 a0_0, .string a0_1] ∧ Bx wI b2 29 [.int .i64 a1_0, .string a1_1] ∧ Ow (Av [p3, some ⟨b2, 0, none⟩, some ⟨b1, 0, none⟩] W) wI 5 (Kd.int .u8) p3 c3 x3) ?_ (EachAt.all0 ?_) ?_
                        · exact ⟨HasB.start (ha.to rfl) rfl, hE.drew, (Fr.refl _ No).drew, r1, x1, x2, o3⟩
                        · refine (EachAt.cons ?_ (EachAt.cons ?_ (EachAt.cons ?_ (EachAt.cons ?_ (EachAt.cons ?_ (EachAt.cons ?_ (EachAt.cons ?_ (EachAt.cons ?_ (EachAt.cons ?_ (EachAt.cons ?_ (EachAt.cons ?_ (EachAt.cons ?_ (EachAt.cons ?_ (EachAt.cons ?_ (EachAt.cons ?_ (EachAt.cons ?_ (EachAt.cons ?_ (EachAt.cons ?_ (EachAt.cons ?_ (EachAt.cons ?_ (EachAt.cons ?_ (EachAt.cons ?_ (EachAt.cons ?_ (EachAt.cons ?_ (EachAt.cons ?_ (EachAt.cons ?_ (EachAt.cons ?_ (EachAt.cons ?_ (EachAt.cons ?_ (EachAt.cons ?_ (EachAt.cons ?_ (EachAt.cons ?_ (EachAt.cons ?_ (EachAt.cons ?_ (EachAt.cons ?_ EachAt.nil)))))))))))))))))))))))))))))))))))
                          · intro b a wI hI hb hn hc
                            obtain ⟨hB, hE, hr, r1, x1, x2, o3⟩ := hI
                            have ha : Has 116 [(2, .pointer (some ⟨b1, 0, none⟩))] a := hB.get [] (fun _ h => by cases h) _ rfl
                            refine DoesG.plain rfl (Does.mono (d_loadAgg (cs := [.int .i64 a0_0, .string a0_1]) ha rfl (x1.at_.sub' 0 2 rfl) Try.isAgg29 Try.sizeOf29 rfl) ?_)
                            rintro v wJ ⟨rfl, rfl⟩
                            exact ⟨HasB.put hB 0 rfl rfl rfl rfl, hE, hr, r1, x1, x2, o3⟩
                          · intro b a wI hI hb hn hc
                            obtain ⟨hB, hE, hr, r1, x1, x2, o3⟩ := hI
                            have ha : Has 116 [(3, .pointer (some ⟨b2, 0, none⟩))] a := hB.get [] (fun _ h => by cases h) _ rfl
                            refine DoesG.plain rfl (Does.mono (d_loadAgg (cs := [.int .i64 a1_0, .string a1_1]) ha rfl (x2.at_.sub' 0 2 rfl) Try.isAgg29 Try.sizeOf29 rfl) ?_)
                            rintro v wJ ⟨rfl, rfl⟩
                            exact ⟨HasB.put hB 1 rfl rfl rfl rfl, hE, hr, r1, x1, x2, o3⟩
                          · intro b a wI hI hb hn hc
                            obtain ⟨hB, hE, hr, r1, x1, x2, o3⟩ := hI
                            have ha : Has 116 [(77, .agg #[.int .i64 a0_0, .string a0_1]), (78, .agg #[.int .i64 a1_0, .string a1_1])] a := hB.get [0, 1] (List.forall_mem_cons.2 ⟨(hn 0 (mem_needs rfl)), (List.forall_mem_cons.2 ⟨(hn 1 (mem_needs rfl)), (fun _ h => by cases h)⟩)⟩) _ rfl
                            refine DoesG.plain rfl (Does.mono (d_neAg (q := a0_0 = a1_0 ∧ a0_1 = a1_1) ha rfl rfl (by kernel_rfl) (.struct Try.underlying29 (by kernel_rfl) (.cons (by decide) (.cell Try.isAgg27 rfl) (.cell Try.isAgg27 rfl) (.int Try.underlying27) (.one (by decide) (.cell Try.isAgg9 rfl) (.cell Try.isAgg9 rfl) (.str Try.underlying9))))) ?_)
                            rintro v wJ ⟨rfl, rfl⟩
                            exact ⟨HasB.put hB 2 rfl rfl rfl rfl, hE, hr, r1, x1, x2, o3⟩
                          · intro b a wI hI hb hn hc
                            obtain ⟨hB, hE, hr, r1, x1, x2, o3⟩ := hI
                            have ha : Has 116 [(79, .bool (!decide (a0_0 = a1_0 ∧ a0_1 = a1_1)))] a := hB.get [2] (List.forall_mem_cons.2 ⟨(hn 2 (mem_needs rfl)), (fun _ h => by cases h)⟩) _ rfl
                            refine DoesG.plain rfl (Does.mono (d_move ha rfl) ?_)
                            rintro v wJ ⟨rfl, rfl⟩
                            exact ⟨HasB.put hB 3 rfl rfl rfl rfl, hE, hr, r1, x1, x2, o3⟩
                          · intro b a wI hI hb hn hc
                            obtain ⟨hB, hE, hr, r1, x1, x2, o3⟩ := hI
                            have ha : Has 116 [(7, .slice p1 t11.length c1), (80, .bool (!decide (a0_0 = a1_0 ∧ a0_1 = a1_1)))] a := hB.get [3] (List.forall_mem_cons.2 ⟨(hn 3 (mem_needs rfl)), (fun _ h => by cases h)⟩) _ rfl
                            refine DoesG.on rfl ha rfl rfl rfl (not_f (decide_eq_false hc13)) (Does.mono (d_move ha rfl) ?_)
                            rintro v wJ ⟨rfl, rfl⟩
                            exact ⟨HasB.put hB 4 rfl rfl rfl rfl, hE, hr, r1, x1, x2, o3⟩
                          · intro b a wI hI hb hn hc
                            obtain ⟨hB, hE, hr, r1, x1, x2, o3⟩ := hI
                            have ha : Has 116 [(8, .slice p3 x3.length c3), (80, .bool (!decide (a0_0 = a1_0 ∧ a0_1 = a1_1)))] a := hB.get [3] (List.forall_mem_cons.2 ⟨(hn 3 (mem_needs rfl)), (fun _ h => by cases h)⟩) _ rfl
                            refine DoesG.on rfl ha rfl rfl rfl (not_f (decide_eq_false hc13)) (Does.mono (d_move ha rfl) ?_)
                            rintro v wJ ⟨rfl, rfl⟩
                            exact ⟨HasB.put hB 5 rfl rfl rfl rfl, hE, hr, r1, x1, x2, o3⟩
                          · intro b a wI hI hb hn hc
                            obtain ⟨hB, hE, hr, r1, x1, x2, o3⟩ := hI
                            have ha : Has 116 [(80, .bool (!decide (a0_0 = a1_0 ∧ a0_1 = a1_1))), (81, .slice p1 t11.length c1), (82, .slice p3 x3.length c3)] a := hB.get [3, 4, 5] (List.forall_mem_cons.2 ⟨(hn 3 (mem_needs rfl)), (List.forall_mem_cons.2 ⟨(hn 4 (mem_needs rfl)), (List.forall_mem_cons.2 ⟨(hn 5 (mem_needs rfl)), (fun _ h => by cases h)⟩)⟩)⟩) _ rfl
                            refine DoesG.on rfl ha rfl rfl rfl (not_f (decide_eq_false hc13)) (Does.mono (d_call Try.call25 ha (vs := [.slice p1 t11.length c1, .slice p3 x3.length c3]) rfl (warderref02_Is_c t11 x3 _ _ _ _ (Av [some ⟨b2, 0, none⟩, some ⟨b1, 0, none⟩] W) _ (Ex.wlt (as0 := []) (rr := [p3]) (ro := [some ⟨b2, 0, none⟩, some ⟨b1, 0, none⟩]) hE hW) (Raw.arg (as0 := []) (rr := [p3]) (ro := [some ⟨b2, 0, none⟩, some ⟨b1, 0, none⟩]) r1 hW) (Ow.argR (as0 := []) (rr := [p3]) (ro := [some ⟨b2, 0, none⟩, some ⟨b1, 0, none⟩]) o3 hE hW hW0 (by simp)) _ ht14)) ?_)
                            intro v w22 h
                            obtain ⟨rfl, hC⟩ := h
                            have hfr : Fr wI w22 No := hC.fr.mono (fun _ _ h => by rcases h with h | ⟨_, h, _⟩; exact h; cases h)
                            have hs : Step [p3, some ⟨b2, 0, none⟩, some ⟨b1, 0, none⟩] [p3, some ⟨b2, 0, none⟩, some ⟨b1, 0, none⟩] wI w22 := hC.callStep [p3, some ⟨b2, 0, none⟩, some ⟨b1, 0, none⟩]
                            have r1 := hs.tr r1
                            have o3 := o3.keep hC.fr (Ex.callOff (as0 := []) (rt := [p3, some ⟨b2, 0, none⟩, some ⟨b1, 0, none⟩]) hE (u := p3) (by simp)) (fun _ _ h => hs.trK h)
                            have x2 := x2.keep hC.fr ((Ex.callOff (as0 := []) (rt := [p3, some ⟨b2, 0, none⟩, some ⟨b1, 0, none⟩]) hE (u := some ⟨b2, 0, none⟩) (by simp)) _ rfl)
                            have x1 := x1.keep hC.fr ((Ex.callOff (as0 := []) (rt := [p3, some ⟨b2, 0, none⟩, some ⟨b1, 0, none⟩]) hE (u := some ⟨b1, 0, none⟩) (by simp)) _ rfl)
                            have hE : Ex w (Av [] No) [p3, some ⟨b2, 0, none⟩, some ⟨b1, 0, none⟩] w22 := Ex.call (as0 := []) (rt := [p3, some ⟨b2, 0, none⟩, some ⟨b1, 0, none⟩]) hE hC
                            exact ⟨HasB.put hB 6 rfl rfl rfl rfl, hE, hr.step hfr (fun _ _ h => h), r1, x1, x2, o3⟩
                          · intro b a wI hI hb hn hc
                            obtain ⟨hB, hE, hr, r1, x1, x2, o3⟩ := hI
                            have ha : Has 116 [(80, .bool (!decide (a0_0 = a1_0 ∧ a0_1 = a1_1))), (83, .bool t14)] a := hB.get [3, 6] (List.forall_mem_cons.2 ⟨(hn 3 (mem_needs rfl)), (List.forall_mem_cons.2 ⟨(hn 6 (mem_needs rfl)), (fun _ h => by cases h)⟩)⟩) _ rfl
                            refine DoesG.on rfl ha rfl rfl rfl (not_f (decide_eq_false hc13)) (Does.mono (d_move ha rfl) ?_)
                            rintro v wJ ⟨rfl, rfl⟩
                            exact ⟨HasB.put hB 7 rfl rfl rfl rfl, hE, hr, r1, x1, x2, o3⟩
                          · intro b a wI hI hb hn hc
                            obtain ⟨hB, hE, hr, r1, x1, x2, o3⟩ := hI
                            have ha : Has 116 [(8, .slice p3 x3.length c3), (84, .bool t14)] a := hB.get [7] (List.forall_mem_cons.2 ⟨(hn 7 (mem_needs rfl)), (fun _ h => by cases h)⟩) _ rfl
                            refine DoesG.on rfl ha rfl rfl rfl hc14 (Does.mono (d_move ha rfl) ?_)
                            rintro v wJ ⟨rfl, rfl⟩
                            exact ⟨HasB.put hB 8 rfl rfl rfl rfl, hE, hr, r1, x1, x2, o3⟩
                          · intro b a wI hI hb hn hc
                            obtain ⟨hB, hE, hr, r1, x1, x2, o3⟩ := hI
                            have ha : Has 116 [(7, .slice p1 t11.length c1), (84, .bool t14)] a := hB.get [7] (List.forall_mem_cons.2 ⟨(hn 7 (mem_needs rfl)), (fun _ h => by cases h)⟩) _ rfl
                            refine DoesG.on rfl ha rfl rfl rfl hc14 (Does.mono (d_move ha rfl) ?_)
                            rintro v wJ ⟨rfl, rfl⟩
                            exact ⟨HasB.put hB 9 rfl rfl rfl rfl, hE, hr, r1, x1, x2, o3⟩
                          · intro b a wI hI hb hn hc
                            obtain ⟨hB, hE, hr, r1, x1, x2, o3⟩ := hI
                            have ha : Has 116 [(84, .bool t14), (85, .slice p3 x3.length c3), (86, .slice p1 t11.length c1)] a := hB.get [7, 8, 9] (List.forall_mem_cons.2 ⟨(hn 7 (mem_needs rfl)), (List.forall_mem_cons.2 ⟨(hn 8 (mem_needs rfl)), (List.forall_mem_cons.2 ⟨(hn 9 (mem_needs rfl)), (fun _ h => by cases h)⟩)⟩)⟩) _ rfl
                            refine DoesG.on rfl ha rfl rfl rfl hc14 (Does.mono (d_call Try.call25 ha (vs := [.slice p3 x3.length c3, .slice p1 t11.length c1]) rfl (warderref02_Is_c x3 t11 _ _ _ _ (Av [some ⟨b2, 0, none⟩, some ⟨b1, 0, none⟩] W) _ (Ex.wlt (as0 := []) (rr := [p3]) (ro := [some ⟨b2, 0, none⟩, some ⟨b1, 0, none⟩]) hE hW) (Ow.argR (as0 := []) (rr := [p3]) (ro := [some ⟨b2, 0, none⟩, some ⟨b1, 0, none⟩]) o3 hE hW hW0 (by simp)) (Raw.arg (as0 := []) (rr := [p3]) (ro := [some ⟨b2, 0, none⟩, some ⟨b1, 0, none⟩]) r1 hW) _ ht15)) ?_)
                            intro v w24 h
                            obtain ⟨rfl, hC⟩ := h
                            have hfr : Fr wI w24 No := hC.fr.mono (fun _ _ h => by rcases h with h | ⟨_, h, _⟩; exact h; cases h)
                            have hs : Step [p3, some ⟨b2, 0, none⟩, some ⟨b1, 0, none⟩] [p3, some ⟨b2, 0, none⟩, some ⟨b1, 0, none⟩] wI w24 := hC.callStep [p3, some ⟨b2, 0, none⟩, some ⟨b1, 0, none⟩]
                            have r1 := hs.tr r1
                            have o3 := o3.keep hC.fr (Ex.callOff (as0 := []) (rt := [p3, some ⟨b2, 0, none⟩, some ⟨b1, 0, none⟩]) hE (u := p3) (by simp)) (fun _ _ h => hs.trK h)
                            have x2 := x2.keep hC.fr ((Ex.callOff (as0 := []) (rt := [p3, some ⟨b2, 0, none⟩, some ⟨b1, 0, none⟩]) hE (u := some ⟨b2, 0, none⟩) (by simp)) _ rfl)
                            have x1 := x1.keep hC.fr ((Ex.callOff (as0 := []) (rt := [p3, some ⟨b2, 0, none⟩, some ⟨b1, 0, none⟩]) hE (u := some ⟨b1, 0, none⟩) (by simp)) _ rfl)
                            have hE : Ex w (Av [] No) [p3, some ⟨b2, 0, none⟩, some ⟨b1, 0, none⟩] w24 := Ex.call (as0 := []) (rt := [p3, some ⟨b2, 0, none⟩, some ⟨b1, 0, none⟩]) hE hC
                            exact ⟨HasB.put hB 10 rfl rfl rfl rfl, hE, hr.step hfr (fun _ _ h => h), r1, x1, x2, o3⟩
                          · intro b a wI hI hb hn hc
                            obtain ⟨hB, hE, hr, r1, x1, x2, o3⟩ := hI
                            have ha : Has 116 [(80, .bool (!decide (a0_0 = a1_0 ∧ a0_1 = a1_1))), (84, .bool t14), (87, .bool t15)] a := hB.get [3, 7, 10] (List.forall_mem_cons.2 ⟨(hn 3 (mem_needs rfl)), (List.forall_mem_cons.2 ⟨(hn 7 (mem_needs rfl)), (List.forall_mem_cons.2 ⟨(hn 10 (mem_needs rfl)), (fun _ h => by cases h)⟩)⟩)⟩) _ rfl
                            refine DoesG.on rfl ha rfl rfl rfl (not_f (decide_eq_false hc13)) (Does.mono (d_pickF ha rfl hc14 rfl) ?_)
                            rintro v wJ ⟨rfl, rfl⟩
                            exact ⟨HasB.put hB 11 rfl rfl rfl rfl, hE, hr, r1, x1, x2, o3⟩
                          · intro b a wI hI hb hn hc
                            obtain ⟨hB, hE, hr, r1, x1, x2, o3⟩ := hI
                            have ha : Has 116 [(80, .bool (!decide (a0_0 = a1_0 ∧ a0_1 = a1_1))), (88, .bool t15)] a := hB.get [3, 11] (List.forall_mem_cons.2 ⟨(hn 3 (mem_needs rfl)), (List.forall_mem_cons.2 ⟨(hn 11 (mem_needs rfl)), (fun _ h => by cases h)⟩)⟩) _ rfl
                            refine DoesG.on rfl ha rfl rfl rfl (not_f (decide_eq_false hc13)) (Does.mono (d_move ha rfl) ?_)
                            rintro v wJ ⟨rfl, rfl⟩
                            exact ⟨HasB.put hB 12 rfl rfl rfl rfl, hE, hr, r1, x1, x2, o3⟩
                          · intro b a wI hI hb hn hc
                            obtain ⟨hB, hE, hr, r1, x1, x2, o3⟩ := hI
                            have ha : Has 116 [(9, .int .i64 t13), (89, .bool t15)] a := hB.get [12] (List.forall_mem_cons.2 ⟨(hn 12 (mem_needs rfl)), (fun _ h => by cases h)⟩) _ rfl
                            refine DoesG.on rfl ha rfl rfl rfl hc15 (Does.mono (d_move ha rfl) ?_)
                            rintro v wJ ⟨rfl, rfl⟩
                            exact ⟨HasB.put hB 13 rfl rfl rfl rfl, hE, hr, r1, x1, x2, o3⟩
                          · intro b a wI hI hb hn hc
                            obtain ⟨hB, hE, hr, r1, x1, x2, o3⟩ := hI
                            have ha : Has 116 [(7, .slice p1 t11.length c1), (89, .bool t15)] a := hB.get [12] (List.forall_mem_cons.2 ⟨(hn 12 (mem_needs rfl)), (fun _ h => by cases h)⟩) _ rfl
                            refine DoesG.on rfl ha rfl rfl rfl hc15 (Does.mono (d_move ha rfl) ?_)
                            rintro v wJ ⟨rfl, rfl⟩
                            exact ⟨HasB.put hB 14 rfl rfl rfl rfl, hE, hr, r1, x1, x2, o3⟩
                          · intro b a wI hI hb hn hc
                            obtain ⟨hB, hE, hr, r1, x1, x2, o3⟩ := hI
                            have ha : Has 116 [(89, .bool t15), (91, .slice p1 t11.length c1)] a := hB.get [12, 14] (List.forall_mem_cons.2 ⟨(hn 12 (mem_needs rfl)), (List.forall_mem_cons.2 ⟨(hn 14 (mem_needs rfl)), (fun _ h => by cases h)⟩)⟩) _ rfl
                            refine DoesG.on rfl ha rfl rfl rfl hc15 (Does.mono (d_lenSlice ha Try.underlying22 rfl) ?_)
                            rintro v wJ ⟨rfl, rfl⟩
                            exact ⟨HasB.put hB 15 rfl rfl rfl rfl, hE, hr, r1, x1, x2, o3⟩
                          · intro b a wI hI hb hn hc
                            obtain ⟨hB, hE, hr, r1, x1, x2, o3⟩ := hI
                            have ha : Has 116 [(89, .bool t15), (90, .int .i64 t13), (92, .int .i64 (t11.length : Int))] a := hB.get [12, 13, 15] (List.forall_mem_cons.2 ⟨(hn 12 (mem_needs rfl)), (List.forall_mem_cons.2 ⟨(hn 13 (mem_needs rfl)), (List.forall_mem_cons.2 ⟨(hn 15 (mem_needs rfl)), (fun _ h => by cases h)⟩)⟩)⟩) _ rfl
                            refine DoesG.on rfl ha rfl rfl rfl hc15 (Does.mono (d_ge ha rfl rfl) ?_)
                            rintro v wJ ⟨rfl, rfl⟩
                            exact ⟨HasB.put hB 16 rfl rfl rfl rfl, hE, hr, r1, x1, x2, o3⟩
                          · intro b a wI hI hb hn hc
                            obtain ⟨hB, hE, hr, r1, x1, x2, o3⟩ := hI
                            have ha : Has 116 [(80, .bool (!decide (a0_0 = a1_0 ∧ a0_1 = a1_1))), (89, .bool t15), (93, .bool (decide ((t11.length : Int) ≤ t13)))] a := hB.get [3, 12, 16] (List.forall_mem_cons.2 ⟨(hn 3 (mem_needs rfl)), (List.forall_mem_cons.2 ⟨(hn 12 (mem_needs rfl)), (List.forall_mem_cons.2 ⟨(hn 16 (mem_needs rfl)), (fun _ h => by cases h)⟩)⟩)⟩) _ rfl
                            refine DoesG.on rfl ha rfl rfl rfl (not_f (decide_eq_false hc13)) (Does.mono (d_pickF ha rfl hc15 rfl) ?_)
                            rintro v wJ ⟨rfl, rfl⟩
                            exact ⟨HasB.put hB 17 rfl rfl rfl rfl, hE, hr, r1, x1, x2, o3⟩
                          · intro b a wI hI hb hn hc
                            obtain ⟨hB, hE, hr, r1, x1, x2, o3⟩ := hI
                            have ha : Has 116 [(80, .bool (!decide (a0_0 = a1_0 ∧ a0_1 = a1_1))), (94, .bool (decide ((t11.length : Int) ≤ t13)))] a := hB.get [3, 17] (List.forall_mem_cons.2 ⟨(hn 3 (mem_needs rfl)), (List.forall_mem_cons.2 ⟨(hn 17 (mem_needs rfl)), (fun _ h => by cases h)⟩)⟩) _ rfl
                            refine DoesG.on rfl ha rfl rfl rfl (not_f (decide_eq_false hc13)) (Does.mono (d_move ha rfl) ?_)
                            rintro v wJ ⟨rfl, rfl⟩
                            exact ⟨HasB.put hB 18 rfl rfl rfl rfl, hE, hr, r1, x1, x2, o3⟩
                          · intro b a wI hI hb hn hc
                            obtain ⟨hB, hE, hr, r1, x1, x2, o3⟩ := hI
                            have ha : Has 116 [(9, .int .i64 t13), (95, .bool (decide ((t11.length : Int) ≤ t13)))] a := hB.get [18] (List.forall_mem_cons.2 ⟨(hn 18 (mem_needs rfl)), (fun _ h => by cases h)⟩) _ rfl
                            refine DoesG.on rfl ha rfl rfl rfl (decide_eq_false hc16) (Does.mono (d_move ha rfl) ?_)
                            rintro v wJ ⟨rfl, rfl⟩
                            exact ⟨HasB.put hB 19 rfl rfl rfl rfl, hE, hr, r1, x1, x2, o3⟩
                          · intro b a wI hI hb hn hc
                            obtain ⟨hB, hE, hr, r1, x1, x2, o3⟩ := hI
                            have ha : Has 116 [(8, .slice p3 x3.length c3), (95, .bool (decide ((t11.length : Int) ≤ t13)))] a := hB.get [18] (List.forall_mem_cons.2 ⟨(hn 18 (mem_needs rfl)), (fun _ h => by cases h)⟩) _ rfl
                            refine DoesG.on rfl ha rfl rfl rfl (decide_eq_false hc16) (Does.mono (d_move ha rfl) ?_)
                            rintro v wJ ⟨rfl, rfl⟩
                            exact ⟨HasB.put hB 20 rfl rfl rfl rfl, hE, hr, r1, x1, x2, o3⟩
                          · intro b a wI hI hb hn hc
                            obtain ⟨hB, hE, hr, r1, x1, x2, o3⟩ := hI
                            have ha : Has 116 [(95, .bool (decide ((t11.length : Int) ≤ t13))), (97, .slice p3 x3.length c3)] a := hB.get [18, 20] (List.forall_mem_cons.2 ⟨(hn 18 (mem_needs rfl)), (List.forall_mem_cons.2 ⟨(hn 20 (mem_needs rfl)), (fun _ h => by cases h)⟩)⟩) _ rfl
                            refine DoesG.on rfl ha rfl rfl rfl (decide_eq_false hc16) (Does.mono (d_lenSlice ha Try.underlying22 rfl) ?_)
                            rintro v wJ ⟨rfl, rfl⟩
                            exact ⟨HasB.put hB 21 rfl rfl rfl rfl, hE, hr, r1, x1, x2, o3⟩
                          · intro b a wI hI hb hn hc
                            obtain ⟨hB, hE, hr, r1, x1, x2, o3⟩ := hI
                            have ha : Has 116 [(95, .bool (decide ((t11.length : Int) ≤ t13))), (96, .int .i64 t13), (98, .int .i64 (x3.length : Int))] a := hB.get [18, 19, 21] (List.forall_mem_cons.2 ⟨(hn 18 (mem_needs rfl)), (List.forall_mem_cons.2 ⟨(hn 19 (mem_needs rfl)), (List.forall_mem_cons.2 ⟨(hn 21 (mem_needs rfl)), (fun _ h => by cases h)⟩)⟩)⟩) _ rfl
                            refine DoesG.on rfl ha rfl rfl rfl (decide_eq_false hc16) (Does.mono (d_ge ha rfl rfl) ?_)
                            rintro v wJ ⟨rfl, rfl⟩
                            exact ⟨HasB.put hB 22 rfl rfl rfl rfl, hE, hr, r1, x1, x2, o3⟩
                          · intro b a wI hI hb hn hc
                            obtain ⟨hB, hE, hr, r1, x1, x2, o3⟩ := hI
                            have ha : Has 116 [(80, .bool (!decide (a0_0 = a1_0 ∧ a0_1 = a1_1))), (95, .bool (decide ((t11.length : Int) ≤ t13))), (99, .bool (decide ((x3.length : Int) ≤ t13)))] a := hB.get [3, 18, 22] (List.forall_mem_cons.2 ⟨(hn 3 (mem_needs rfl)), (List.forall_mem_cons.2 ⟨(hn 18 (mem_needs rfl)), (List.forall_mem_cons.2 ⟨(hn 22 (mem_needs rfl)), (fun _ h => by cases h)⟩)⟩)⟩) _ rfl
                            refine DoesG.on rfl ha rfl rfl rfl (not_f (decide_eq_false hc13)) (Does.mono (d_pickF ha rfl (decide_eq_false hc16) rfl) ?_)
                            rintro v wJ ⟨rfl, rfl⟩
                            exact ⟨HasB.put hB 23 rfl rfl rfl rfl, hE, hr, r1, x1, x2, o3⟩
                          · intro b a wI hI hb hn hc
                            obtain ⟨hB, hE, hr, r1, x1, x2, o3⟩ := hI
                            have ha : Has 116 [(80, .bool (!decide (a0_0 = a1_0 ∧ a0_1 = a1_1))), (100, .bool (decide ((x3.length : Int) ≤ t13)))] a := hB.get [3, 23] (List.forall_mem_cons.2 ⟨(hn 3 (mem_needs rfl)), (List.forall_mem_cons.2 ⟨(hn 23 (mem_needs rfl)), (fun _ h => by cases h)⟩)⟩) _ rfl
                            refine DoesG.on rfl ha rfl rfl rfl (not_f (decide_eq_false hc13)) (Does.mono (d_move ha rfl) ?_)
                            rintro v wJ ⟨rfl, rfl⟩
                            exact ⟨HasB.put hB 24 rfl rfl rfl rfl, hE, hr, r1, x1, x2, o3⟩
                          · intro b a wI hI hb hn hc
                            obtain ⟨hB, hE, hr, r1, x1, x2, o3⟩ := hI
                            have ha : Has 116 [(7, .slice p1 t11.length c1), (101, .bool (decide ((x3.length : Int) ≤ t13)))] a := hB.get [24] (List.forall_mem_cons.2 ⟨(hn 24 (mem_needs rfl)), (fun _ h => by cases h)⟩) _ rfl
                            refine DoesG.off rfl ha rfl rfl rfl (decide_eq_true hc17) ?_
                            exact ⟨HasB.put hB 25 rfl rfl rfl rfl, hE, hr, r1, x1, x2, o3⟩
                          · intro b a wI hI hb hn hc
                            obtain ⟨hB, hE, hr, r1, x1, x2, o3⟩ := hI
                            have ha : Has 116 [(9, .int .i64 t13), (101, .bool (decide ((x3.length : Int) ≤ t13)))] a := hB.get [24] (List.forall_mem_cons.2 ⟨(hn 24 (mem_needs rfl)), (fun _ h => by cases h)⟩) _ rfl
                            refine DoesG.off rfl ha rfl rfl rfl (decide_eq_true hc17) ?_
                            exact ⟨HasB.put hB 26 rfl rfl rfl rfl, hE, hr, r1, x1, x2, o3⟩
                          · intro b a wI hI hb hn hc
                            obtain ⟨hB, hE, hr, r1, x1, x2, o3⟩ := hI
                            have ha : Has 116 [(101, .bool (decide ((x3.length : Int) ≤ t13))), (102, undef), (103, undef)] a := hB.get [24, 25, 26] (List.forall_mem_cons.2 ⟨(hn 24 (mem_needs rfl)), (List.forall_mem_cons.2 ⟨(hn 25 (mem_needs rfl)), (List.forall_mem_cons.2 ⟨(hn 26 (mem_needs rfl)), (fun _ h => by cases h)⟩)⟩)⟩) _ rfl
                            refine DoesG.off rfl ha rfl rfl rfl (decide_eq_true hc17) ?_
                            exact ⟨HasB.put hB 27 rfl rfl rfl rfl, hE, hr, r1, x1, x2, o3⟩
                          · intro b a wI hI hb hn hc
                            obtain ⟨hB, hE, hr, r1, x1, x2, o3⟩ := hI
                            have ha : Has 116 [(101, .bool (decide ((x3.length : Int) ≤ t13))), (104, undef)] a := hB.get [24, 27] (List.forall_mem_cons.2 ⟨(hn 24 (mem_needs rfl)), (List.forall_mem_cons.2 ⟨(hn 27 (mem_needs rfl)), (fun _ h => by cases h)⟩)⟩) _ rfl
                            refine DoesG.off rfl ha rfl rfl rfl (decide_eq_true hc17) ?_
                            exact ⟨HasB.put hB 28 rfl rfl rfl rfl, hE, hr, r1, x1, x2, o3⟩
                          · intro b a wI hI hb hn hc
                            obtain ⟨hB, hE, hr, r1, x1, x2, o3⟩ := hI
                            have ha : Has 116 [(8, .slice p3 x3.length c3), (101, .bool (decide ((x3.length : Int) ≤ t13)))] a := hB.get [24] (List.forall_mem_cons.2 ⟨(hn 24 (mem_needs rfl)), (fun _ h => by cases h)⟩) _ rfl
                            refine DoesG.off rfl ha rfl rfl rfl (decide_eq_true hc17) ?_
                            exact ⟨HasB.put hB 29 rfl rfl rfl rfl, hE, hr, r1, x1, x2, o3⟩
                          · intro b a wI hI hb hn hc
                            obtain ⟨hB, hE, hr, r1, x1, x2, o3⟩ := hI
                            have ha : Has 116 [(9, .int .i64 t13), (101, .bool (decide ((x3.length : Int) ≤ t13)))] a := hB.get [24] (List.forall_mem_cons.2 ⟨(hn 24 (mem_needs rfl)), (fun _ h => by cases h)⟩) _ rfl
                            refine DoesG.off rfl ha rfl rfl rfl (decide_eq_true hc17) ?_
                            exact ⟨HasB.put hB 30 rfl rfl rfl rfl, hE, hr, r1, x1, x2, o3⟩
                          · intro b a wI hI hb hn hc
                            obtain ⟨hB, hE, hr, r1, x1, x2, o3⟩ := hI
                            have ha : Has 116 [(101, .bool (decide ((x3.length : Int) ≤ t13))), (106, undef), (107, undef)] a := hB.get [24, 29, 30] (List.forall_mem_cons.2 ⟨(hn 24 (mem_needs rfl)), (List.forall_mem_cons.2 ⟨(hn 29 (mem_needs rfl)), (List.forall_mem_cons.2 ⟨(hn 30 (mem_needs rfl)), (fun _ h => by cases h)⟩)⟩)⟩) _ rfl
                            refine DoesG.off rfl ha rfl rfl rfl (decide_eq_true hc17) ?_
                            exact ⟨HasB.put hB 31 rfl rfl rfl rfl, hE, hr, r1, x1, x2, o3⟩
                          · intro b a wI hI hb hn hc
                            obtain ⟨hB, hE, hr, r1, x1, x2, o3⟩ := hI
                            have ha : Has 116 [(101, .bool (decide ((x3.length : Int) ≤ t13))), (108, undef)] a := hB.get [24, 31] (List.forall_mem_cons.2 ⟨(hn 24 (mem_needs rfl)), (List.forall_mem_cons.2 ⟨(hn 31 (mem_needs rfl)), (fun _ h => by cases h)⟩)⟩) _ rfl
                            refine DoesG.off rfl ha rfl rfl rfl (decide_eq_true hc17) ?_
                            exact ⟨HasB.put hB 32 rfl rfl rfl rfl, hE, hr, r1, x1, x2, o3⟩
                          · intro b a wI hI hb hn hc
                            obtain ⟨hB, hE, hr, r1, x1, x2, o3⟩ := hI
                            have ha : Has 116 [(101, .bool (decide ((x3.length : Int) ≤ t13))), (105, undef), (109, undef)] a := hB.get [24, 28, 32] (List.forall_mem_cons.2 ⟨(hn 24 (mem_needs rfl)), (List.forall_mem_cons.2 ⟨(hn 28 (mem_needs rfl)), (List.forall_mem_cons.2 ⟨(hn 32 (mem_needs rfl)), (fun _ h => by cases h)⟩)⟩)⟩) _ rfl
                            refine DoesG.off rfl ha rfl rfl rfl (decide_eq_true hc17) ?_
                            exact ⟨HasB.put hB 33 rfl rfl rfl rfl, hE, hr, r1, x1, x2, o3⟩
                          · intro b a wI hI hb hn hc
                            obtain ⟨hB, hE, hr, r1, x1, x2, o3⟩ := hI
                            have ha : Has 116 [(5, .bool t3), (101, .bool (decide ((x3.length : Int) ≤ t13)))] a := hB.get [24] (List.forall_mem_cons.2 ⟨(hn 24 (mem_needs rfl)), (fun _ h => by cases h)⟩) _ rfl
                            refine DoesG.off rfl ha rfl rfl rfl (decide_eq_true hc17) ?_
                            exact ⟨HasB.put hB 34 rfl rfl rfl rfl, hE, hr, r1, x1, x2, o3⟩
                        · intro b a w27 hb hI
                          obtain ⟨hB, hE, hr, r1, x1, x2, o3⟩ := hI
                          have ha : Has 116 [(77, .agg #[.int .i64 a0_0, .string a0_1]), (78, .agg #[.int .i64 a1_0, .string a1_1]), (79, .bool (!decide (a0_0 = a1_0 ∧ a0_1 = a1_1))), (80, .bool (!decide (a0_0 = a1_0 ∧ a0_1 = a1_1))), (81, .slice p1 t11.length c1), (82, .slice p3 x3.length c3), (83, .bool t14), (84, .bool t14), (85, .slice p3 x3.length c3), (86, .slice p1 t11.length c1), (87, .bool t15), (88, .bool t15), (89, .bool t15), (90, .int .i64 t13), (91, .slice p1 t11.length c1), (92, .int .i64 (t11.length : Int)), (93, .bool (decide ((t11.length : Int) ≤ t13))), (94, .bool (decide ((t11.length : Int) ≤ t13))), (95, .bool (decide ((t11.length : Int) ≤ t13))), (96, .int .i64 t13), (97, .slice p3 x3.length c3), (98, .int .i64 (x3.length : Int)), (99, .bool (decide ((x3.length : Int) ≤ t13))), (100, .bool (decide ((x3.length : Int) ≤ t13))), (101, .bool (decide ((x3.length : Int) ≤ t13))), (102, undef), (103, undef), (104, undef), (105, undef), (106, undef), (107, undef), (108, undef), (109, undef), (110, undef), (111, undef), (2, .pointer (some ⟨b1, 0, none⟩)), (3, .pointer (some ⟨b2, 0, none⟩)), (5, .bool t3), (7, .slice p1 t11.length c1), (8, .slice p3 x3.length c3), (9, .int .i64 t13)] a := hB.get [0, 1, 2, 3, 4, 5, 6, 7, 8, 9, 10, 11, 12, 13, 14, 15, 16, 17, 18, 19, 20, 21, 22, 23, 24, 25, 26, 27, 28, 29, 30, 31, 32, 33, 34] (List.forall_mem_cons.2 ⟨(hb 0 (by decide) (by decide)), (List.forall_mem_cons.2 ⟨(hb 1 (by decide) (by decide)), (List.forall_mem_cons.2 ⟨(hb 2 (by decide) (by decide)), (List.forall_mem_cons.2 ⟨(hb 3 (by decide) (by decide)), (List.forall_mem_cons.2 ⟨(hb 4 (by decide) (by decide)), (List.forall_mem_cons.2 ⟨(hb 5 (by decide) (by decide)), (List.forall_mem_cons.2 ⟨(hb 6 (by decide) (by decide)), (List.forall_mem_cons.2 ⟨(hb 7 (by decide) (by decide)), (List.forall_mem_cons.2 ⟨(hb 8 (by decide) (by decide)), (List.forall_mem_cons.2 ⟨(hb 9 (by decide) (by decide)), (List.forall_mem_cons.2 ⟨(hb 10 (by decide) (by decide)), (List.forall_mem_cons.2 ⟨(hb 11 (by decide) (by decide)), (List.forall_mem_cons.2 ⟨(hb 12 (by decide) (by decide)), (List.forall_mem_cons.2 ⟨(hb 13 (by decide) (by decide)), (List.forall_mem_cons.2 ⟨(hb 14 (by decide) (by decide)), (List.forall_mem_cons.2 ⟨(hb 15 (by decide) (by decide)), (List.forall_mem_cons.2 ⟨(hb 16 (by decide) (by decide)), (List.forall_mem_cons.2 ⟨(hb 17 (by decide) (by decide)), (List.forall_mem_cons.2 ⟨(hb 18 (by decide) (by decide)), (List.forall_mem_cons.2 ⟨(hb 19 (by decide) (by decide)), (List.forall_mem_cons.2 ⟨(hb 20 (by decide) (by decide)), (List.forall_mem_cons.2 ⟨(hb 21 (by decide) (by decide)), (List.forall_mem_cons.2 ⟨(hb 22 (by decide) (by decide)), (List.forall_mem_cons.2 ⟨(hb 23 (by decide) (by decide)), (List.forall_mem_cons.2 ⟨(hb 24 (by decide) (by decide)), (List.forall_mem_cons.2 ⟨(hb 25 (by decide) (by decide)), (List.forall_mem_cons.2 ⟨(hb 26 (by decide) (by decide)), (List.forall_mem_cons.2 ⟨(hb 27 (by decide) (by decide)), (List.forall_mem_cons.2 ⟨(hb 28 (by decide) (by decide)), (List.forall_mem_cons.2 ⟨(hb 29 (by decide) (by decide)), (List.forall_mem_cons.2 ⟨(hb 30 (by decide) (by decide)), (List.forall_mem_cons.2 ⟨(hb 31 (by decide) (by decide)), (List.forall_mem_cons.2 ⟨(hb 32 (by decide) (by decide)), (List.forall_mem_cons.2 ⟨(hb 33 (by decide) (by decide)), (List.forall_mem_cons.2 ⟨(hb 34 (by decide) (by decide)), (fun _ h => by cases h)⟩)⟩)⟩)⟩)⟩)⟩)⟩)⟩)⟩)⟩)⟩)⟩)⟩)⟩)⟩)⟩)⟩)⟩)⟩)⟩)⟩)⟩)⟩)⟩)⟩)⟩)⟩)⟩)⟩)⟩)⟩)⟩)⟩)⟩)⟩) _ rfl
                          refine goOff ha rfl rfl rfl rfl (decide_eq_true hc17) fun a ha => ?_
                          refine goOn1 ha rfl rfl rfl rfl (not_f (decide_eq_false hc13)) (d_pick ha rfl (decide_eq_true hc17) rfl) fun a ha => ?_
                          refine go1 ha rfl (d_pick ha rfl (not_f (decide_eq_false hc13)) rfl) fun a ha => ?_
                          refine nil_ ?_
                          refine hK28 _ _ ?_
                          have ha := ha.to (l' := [(114, _)]) rfl
                          refine wcond_t ha rfl rfl ?_
                          refine wp_seq_k (fun K32 hK32 => ?_)
                          refine wreg ?_
                          refine go1 ha rfl (d_assign ha rfl) fun a ha => ?_
                          refine nil_ ?_
                          refine hK32 _ _ ?_
                          have ha := ha.to (l' := [(4, _)]) rfl
                          refine wp_ret ?_
                          have hs : Step [p3, some ⟨b2, 0, none⟩, some ⟨b1, 0, none⟩] [] w27 w27 := Step.pick _ _ []
                          have r1 := hs.tr r1
                          have hE : Ex w (Av [] No) [] w27 := hE.pick [] (by decide)
                          injection hF with hF
                          subst hF
                          refine fin1 ha Try.results7 rfl ?_
                          exact ⟨rfl, hE⟩
                      · obtain ⟨hc18, hF⟩ := ck_elim hF
                        obtain ⟨hc19, hF⟩ := ck_elim hF
                        refine drawnC 12 (by kernel_rfl) 35 (by decide) rfl (fun b a wI => HasB 116 [(2, .pointer (some ⟨b1, 0, none⟩)), (3, .pointer (some ⟨b2, 0, none⟩)), (5, .bool t3), (7, .slice p1 t11.length c1), (8, .slice p3 x3.length c3), (9, .int .i64 t13)] [(0, 77, .agg #[.int .i64 a0_0, .string a0_1]), (1, 78, .agg #[.int .i64 a1_0, .string a1_1]), (2, 79, .bool (!decide (a0_0 = a1_0 ∧ a0_1 = a1_1))), (3, 80, .bool (!decide (a0_0 = a1_0 ∧ a0_1 = a1_1))), (4, 81, .slice p1 t11.length c1), (5, 82, .slice p3 x3.length c3), (6, 83, .bool t14), (7, 84, .bool t14), (8, 85, .slice p3 x3.length c3), (9, 86, .slice p1 t11.length c1), (10, 87, .bool t15), (11, 88, .bool t15), (12, 89, .bool t15), (13, 90, .int .i64 t13), (14, 91, .slice p1 t11.length c1), (15, 92, .int .i64 (t11.length : Int)), (16, 93, .bool (decide ((t11.length : Int) ≤ t13))), (17, 94, .bool (decide ((t11.length : Int) ≤ t13))), (18, 95, .bool (decide ((t11.length : Int) ≤ t13))), (19, 96, .int .i64 t13), (20, 97, .slice p3 x3.length c3), (21, 98, .int .i64 (x3.length : Int)), (22, 99, .bool (decide ((x3.length : Int) ≤ t13))), (23, 100, .bool (decide ((x3.length : Int) ≤ t13))), (24, 101, .bool (decide ((x3.length : Int) ≤ t13))), (25, 102, .slice p1 t11.length c1), (26, 103, .int .i64 t13), (28, 105, .int .u8 (t11.getD (t13).toNat (0 : Int))), (29, 106, .slice p3 x3.length c3), (30, 107, .int .i64 t13), (32, 109, .int .u8 (x3.getD (t13).toNat (0 : Int))), (33, 110, .bool (decide ((t11.getD (t13).toNat (0 : Int)) < (x3.getD (t13).toNat (0 : Int))))), (34, 111, .bool t3)] b a ∧ Ex w (Av [] No) [p3, some ⟨b2, 0, none⟩, some ⟨b1, 0, none⟩] wI ∧ Fr w21 wI No ∧ Raw (Av [p3, some ⟨b2, 0, none⟩, some ⟨b1, 0, none⟩] (Old w)) (Kd.int .u8) wI.heap p1 c1 t11 ∧ Bx wI b1 29 [.int .i64 a0_0, .string a0_1] ∧ Bx wI b2 29 [.int .i64 a1_0, .string a1_1] ∧ Ow (Av [p3, some ⟨b2, 0, none⟩, some ⟨b1, 0, none⟩] W) wI 5 (Kd.int .u8) p3 c3 x3 ∧ Sl b a 27 104 (fun v => ∃ (b3 : Nat) (q1 : Nat) (cs1 : List Value), v = .pointer (some ⟨b3, q1, none⟩) ∧ (Kd.int .u8).K (Av [p3, some ⟨b2, 0, none⟩, some ⟨b1, 0, none⟩] (Old w)) wI.heap (t11.getD (t13).toNat (0 : Int)) cs1 ∧ At wI b3 q1 cs1) ∧ Sl b a 31 108 (fun v => ∃ (b4 : Nat) (q2 : Nat) (cs2 : List Value), v = .pointer (some ⟨b4, q2, none⟩) ∧ (Kd.int .u8).K (Av [p3, some ⟨b2, 0, none⟩, some ⟨b1, 0, none⟩] W) wI.heap (x3.getD (t13).toNat (0 : Int)) cs2 ∧ At wI b4 q2 cs2)) ?_ (EachAt.all0 ?_) ?_
                        · exact ⟨HasB.start (ha.to rfl) rfl, hE.drew, (Fr.refl _ No).drew, r1, x1, x2, o3, Sl.start rfl, Sl.start rfl⟩
                        · refine (EachAt.cons ?_ (EachAt.cons ?_ (EachAt.cons ?_ (EachAt.cons ?_ (EachAt.cons ?_ (EachAt.cons ?_ (EachAt.cons ?_ (EachAt.cons ?_ (EachAt.cons ?_ (EachAt.cons ?_ (EachAt.cons ?_ (EachAt.cons ?_ (EachAt.cons ?_ (EachAt.cons ?_ (EachAt.cons ?_ (EachAt.cons ?_ (EachAt.cons ?_ (EachAt.cons ?_ (EachAt.cons ?_ (EachAt.cons ?_ (EachAt.cons ?_ (EachAt.cons ?_ (EachAt.cons ?_ (EachAt.cons ?_ (EachAt.cons ?_ (EachAt.cons ?_ (EachAt.cons ?_ (EachAt.cons ?_ (EachAt.cons ?_ (EachAt.cons ?_ (EachAt.cons ?_ (EachAt.cons ?_ (EachAt.cons ?_ (EachAt.cons ?_ (EachAt.cons ?_ EachAt.nil)))))))))))))))))))))))))))))))))))
                          · intro b a wI hI hb hn hc
                            obtain ⟨hB, hE, hr, r1, x1, x2, o3, hp27, hp31⟩ := hI
                            have ha : Has 116 [(2, .pointer (some ⟨b1, 0, none⟩))] a := hB.get [] (fun _ h => by cases h) _ rfl
                            refine DoesG.plain rfl (Does.mono (d_loadAgg (cs := [.int .i64 a0_0, .string a0_1]) ha rfl (x1.at_.sub' 0 2 rfl) Try.isAgg29 Try.sizeOf29 rfl) ?_)
                            rintro v wJ ⟨rfl, rfl⟩
                            exact ⟨HasB.put hB 0 rfl rfl rfl rfl, hE, hr, r1, x1, x2, o3, hp27.keep rfl rfl (fun _ h => h), hp31.keep rfl rfl (fun _ h => h)⟩
                          · intro b a wI hI hb hn hc
                            obtain ⟨hB, hE, hr, r1, x1, x2, o3, hp27, hp31⟩ := hI
                            have ha : Has 116 [(3, .pointer (some ⟨b2, 0, none⟩))] a := hB.get [] (fun _ h => by cases h) _ rfl
                            refine DoesG.plain rfl (Does.mono (d_loadAgg (cs := [.int .i64 a1_0, .string a1_1]) ha rfl (x2.at_.sub' 0 2 rfl) Try.isAgg29 Try.sizeOf29 rfl) ?_)
                            rintro v wJ ⟨rfl, rfl⟩
                            exact ⟨HasB.put hB 1 rfl rfl rfl rfl, hE, hr, r1, x1, x2, o3, hp27.keep rfl rfl (fun _ h => h), hp31.keep rfl rfl (fun _ h => h)⟩
                          · intro b a wI hI hb hn hc
                            obtain ⟨hB, hE, hr, r1, x1, x2, o3, hp27, hp31⟩ := hI
                            have ha : Has 116 [(77, .agg #[.int .i64 a0_0, .string a0_1]), (78, .agg #[.int .i64 a1_0, .string a1_1])] a := hB.get [0, 1] (List.forall_mem_cons.2 ⟨(hn 0 (mem_needs rfl)), (List.forall_mem_cons.2 ⟨(hn 1 (mem_needs rfl)), (fun _ h => by cases h)⟩)⟩) _ rfl
                            refine DoesG.plain rfl (Does.mono (d_neAg (q := a0_0 = a1_0 ∧ a0_1 = a1_1) ha rfl rfl (by kernel_rfl) (.struct Try.underlying29 (by kernel_rfl) (.cons (by decide) (.cell Try.isAgg27 rfl) (.cell Try.isAgg27 rfl) (.int Try.underlying27) (.one (by decide) (.cell Try.isAgg9 rfl) (.cell Try.isAgg9 rfl) (.str Try.underlying9))))) ?_)
                            rintro v wJ ⟨rfl, rfl⟩
                            exact ⟨HasB.put hB 2 rfl rfl rfl rfl, hE, hr, r1, x1, x2, o3, hp27.keep rfl rfl (fun _ h => h), hp31.keep rfl rfl (fun _ h => h)⟩
                          · intro b a wI hI hb hn hc
                            obtain ⟨hB, hE, hr, r1, x1, x2, o3, hp27, hp31⟩ := hI
                            have ha : Has 116 [(79, .bool (!decide (a0_0 = a1_0 ∧ a0_1 = a1_1)))] a := hB.get [2] (List.forall_mem_cons.2 ⟨(hn 2 (mem_needs rfl)), (fun _ h => by cases h)⟩) _ rfl
                            refine DoesG.plain rfl (Does.mono (d_move ha rfl) ?_)
                            rintro v wJ ⟨rfl, rfl⟩
                            exact ⟨HasB.put hB 3 rfl rfl rfl rfl, hE, hr, r1, x1, x2, o3, hp27.keep rfl rfl (fun _ h => h), hp31.keep rfl rfl (fun _ h => h)⟩
                          · intro b a wI hI hb hn hc
                            obtain ⟨hB, hE, hr, r1, x1, x2, o3, hp27, hp31⟩ := hI
                            have ha : Has 116 [(7, .slice p1 t11.length c1), (80, .bool (!decide (a0_0 = a1_0 ∧ a0_1 = a1_1)))] a := hB.get [3] (List.forall_mem_cons.2 ⟨(hn 3 (mem_needs rfl)), (fun _ h => by cases h)⟩) _ rfl
                            refine DoesG.on rfl ha rfl rfl rfl (not_f (decide_eq_false hc13)) (Does.mono (d_move ha rfl) ?_)
                            rintro v wJ ⟨rfl, rfl⟩
                            exact ⟨HasB.put hB 4 rfl rfl rfl rfl, hE, hr, r1, x1, x2, o3, hp27.keep rfl rfl (fun _ h => h), hp31.keep rfl rfl (fun _ h => h)⟩
                          · intro b a wI hI hb hn hc
                            obtain ⟨hB, hE, hr, r1, x1, x2, o3, hp27, hp31⟩ := hI
                            have ha : Has 116 [(8, .slice p3 x3.length c3), (80, .bool (!decide (a0_0 = a1_0 ∧ a0_1 = a1_1)))] a := hB.get [3] (List.forall_mem_cons.2 ⟨(hn 3 (mem_needs rfl)), (fun _ h => by cases h)⟩) _ rfl
                            refine DoesG.on rfl ha rfl rfl rfl (not_f (decide_eq_false hc13)) (Does.mono (d_move ha rfl) ?_)
                            rintro v wJ ⟨rfl, rfl⟩
                            exact ⟨HasB.put hB 5 rfl rfl rfl rfl, hE, hr, r1, x1, x2, o3, hp27.keep rfl rfl (fun _ h => h), hp31.keep rfl rfl (fun _ h => h)⟩
                          · intro b a wI hI hb hn hc
                            obtain ⟨hB, hE, hr, r1, x1, x2, o3, hp27, hp31⟩ := hI
                            have ha : Has 116 [(80, .bool (!decide (a0_0 = a1_0 ∧ a0_1 = a1_1))), (81, .slice p1 t11.length c1), (82, .slice p3 x3.length c3)] a := hB.get [3, 4, 5] (List.forall_mem_cons.2 ⟨(hn 3 (mem_needs rfl)), (List.forall_mem_cons.2 ⟨(hn 4 (mem_needs rfl)), (List.forall_mem_cons.2 ⟨(hn 5 (mem_needs rfl)), (fun _ h => by cases h)⟩)⟩)⟩) _ rfl
                            refine DoesG.on rfl ha rfl rfl rfl (not_f (decide_eq_false hc13)) (Does.mono (d_call Try.call25 ha (vs := [.slice p1 t11.length c1, .slice p3 x3.length c3]) rfl (warderref02_Is_c t11 x3 _ _ _ _ (Av [some ⟨b2, 0, none⟩, some ⟨b1, 0, none⟩] W) _ (Ex.wlt (as0 := []) (rr := [p3]) (ro := [some ⟨b2, 0, none⟩, some ⟨b1, 0, none⟩]) hE hW) (Raw.arg (as0 := []) (rr := [p3]) (ro := [some ⟨b2, 0, none⟩, some ⟨b1, 0, none⟩]) r1 hW) (Ow.argR (as0 := []) (rr := [p3]) (ro := [some ⟨b2, 0, none⟩, some ⟨b1, 0, none⟩]) o3 hE hW hW0 (by simp)) _ ht14)) ?_)
                            intro v w22 h
                            obtain ⟨rfl, hC⟩ := h
                            have hfr : Fr wI w22 No := hC.fr.mono (fun _ _ h => by rcases h with h | ⟨_, h, _⟩; exact h; cases h)
                            have hs : Step [p3, some ⟨b2, 0, none⟩, some ⟨b1, 0, none⟩] [p3, some ⟨b2, 0, none⟩, some ⟨b1, 0, none⟩] wI w22 := hC.callStep [p3, some ⟨b2, 0, none⟩, some ⟨b1, 0, none⟩]
                            have r1 := hs.tr r1
                            have o3 := o3.keep hC.fr (Ex.callOff (as0 := []) (rt := [p3, some ⟨b2, 0, none⟩, some ⟨b1, 0, none⟩]) hE (u := p3) (by simp)) (fun _ _ h => hs.trK h)
                            have x2 := x2.keep hC.fr ((Ex.callOff (as0 := []) (rt := [p3, some ⟨b2, 0, none⟩, some ⟨b1, 0, none⟩]) hE (u := some ⟨b2, 0, none⟩) (by simp)) _ rfl)
                            have x1 := x1.keep hC.fr ((Ex.callOff (as0 := []) (rt := [p3, some ⟨b2, 0, none⟩, some ⟨b1, 0, none⟩]) hE (u := some ⟨b1, 0, none⟩) (by simp)) _ rfl)
                            have hE : Ex w (Av [] No) [p3, some ⟨b2, 0, none⟩, some ⟨b1, 0, none⟩] w22 := Ex.call (as0 := []) (rt := [p3, some ⟨b2, 0, none⟩, some ⟨b1, 0, none⟩]) hE hC
                            exact ⟨HasB.put hB 6 rfl rfl rfl rfl, hE, hr.step hfr (fun _ _ h => h), r1, x1, x2, o3, hp27.keep rfl rfl (fun _ ⟨b3, q1, cs1, e, hk1, at1⟩ => ⟨_, _, _, e, Kd.step _ hk1 hfr.size (fun k hk _ => hfr.blk k hk id), at1.stay hfr⟩), hp31.keep rfl rfl (fun _ ⟨b4, q2, cs2, e, hk2, at2⟩ => ⟨_, _, _, e, Kd.step _ hk2 hfr.size (fun k hk _ => hfr.blk k hk id), at2.stay hfr⟩)⟩
                          · intro b a wI hI hb hn hc
                            obtain ⟨hB, hE, hr, r1, x1, x2, o3, hp27, hp31⟩ := hI
                            have ha : Has 116 [(80, .bool (!decide (a0_0 = a1_0 ∧ a0_1 = a1_1))), (83, .bool t14)] a := hB.get [3, 6] (List.forall_mem_cons.2 ⟨(hn 3 (mem_needs rfl)), (List.forall_mem_cons.2 ⟨(hn 6 (mem_needs rfl)), (fun _ h => by cases h)⟩)⟩) _ rfl
                            refine DoesG.on rfl ha rfl rfl rfl (not_f (decide_eq_false hc13)) (Does.mono (d_move ha rfl) ?_)
                            rintro v wJ ⟨rfl, rfl⟩
                            exact ⟨HasB.put hB 7 rfl rfl rfl rfl, hE, hr, r1, x1, x2, o3, hp27.keep rfl rfl (fun _ h => h), hp31.keep rfl rfl (fun _ h => h)⟩
                          · intro b a wI hI hb hn hc
                            obtain ⟨hB, hE, hr, r1, x1, x2, o3, hp27, hp31⟩ := hI
                            have ha : Has 116 [(8, .slice p3 x3.length c3), (84, .bool t14)] a := hB.get [7] (List.forall_mem_cons.2 ⟨(hn 7 (mem_needs rfl)), (fun _ h => by cases h)⟩) _ rfl
                            refine DoesG.on rfl ha rfl rfl rfl hc14 (Does.mono (d_move ha rfl) ?_)
                            rintro v wJ ⟨rfl, rfl⟩
                            exact ⟨HasB.put hB 8 rfl rfl rfl rfl, hE, hr, r1, x1, x2, o3, hp27.keep rfl rfl (fun _ h => h), hp31.keep rfl rfl (fun _ h => h)⟩
                          · intro b a wI hI hb hn hc
                            obtain ⟨hB, hE, hr, r1, x1, x2, o3, hp27, hp31⟩ := hI
                            have ha : Has 116 [(7, .slice p1 t11.length c1), (84, .bool t14)] a := hB.get [7] (List.forall_mem_cons.2 ⟨(hn 7 (mem_needs rfl)), (fun _ h => by cases h)⟩) _ rfl
                            refine DoesG.on rfl ha rfl rfl rfl hc14 (Does.mono (d_move ha rfl) ?_)
                            rintro v wJ ⟨rfl, rfl⟩
                            exact ⟨HasB.put hB 9 rfl rfl rfl rfl, hE, hr, r1, x1, x2, o3, hp27.keep rfl rfl (fun _ h => h), hp31.keep rfl rfl (fun _ h => h)⟩
                          · intro b a wI hI hb hn hc
                            obtain ⟨hB, hE, hr, r1, x1, x2, o3, hp27, hp31⟩ := hI
                            have ha : Has 116 [(84, .bool t14), (85, .slice p3 x3.length c3), (86, .slice p1 t11.length c1)] a := hB.get [7, 8, 9] (List.forall_mem_cons.2 ⟨(hn 7 (mem_needs rfl)), (List.forall_mem_cons.2 ⟨(hn 8 (mem_needs rfl)), (List.forall_mem_cons.2 ⟨(hn 9 (mem_needs rfl)), (fun _ h => by cases h)⟩)⟩)⟩) _ rfl
                            refine DoesG.on rfl ha rfl rfl rfl hc14 (Does.mono (d_call Try.call25 ha (vs := [.slice p3 x3.length c3, .slice p1 t11.length c1]) rfl (warderref02_Is_c x3 t11 _ _ _ _ (Av [some ⟨b2, 0, none⟩, some ⟨b1, 0, none⟩] W) _ (Ex.wlt (as0 := []) (rr := [p3]) (ro := [some ⟨b2, 0, none⟩, some ⟨b1, 0, none⟩]) hE hW) (Ow.argR (as0 := []) (rr := [p3]) (ro := [some ⟨b2, 0, none⟩, some ⟨b1, 0, none⟩]) o3 hE hW hW0 (by simp)) (Raw.arg (as0 := []) (rr := [p3]) (ro := [some ⟨b2, 0, none⟩, some ⟨b1, 0, none⟩]) r1 hW) _ ht15)) ?_)
                            intro v w24 h
                            obtain ⟨rfl, hC⟩ := h
                            have hfr : Fr wI w24 No := hC.fr.mono (fun _ _ h => by rcases h with h | ⟨_, h, _⟩; exact h; cases h)
                            have hs : Step [p3, some ⟨b2, 0, none⟩, some ⟨b1, 0, none⟩] [p3, some ⟨b2, 0, none⟩, some ⟨b1, 0, none⟩] wI w24 := hC.callStep [p3, some ⟨b2, 0, none⟩, some ⟨b1, 0, none⟩]
                            have r1 := hs.tr r1
                            have o3 := o3.keep hC.fr (Ex.callOff (as0 := []) (rt := [p3, some ⟨b2, 0, none⟩, some ⟨b1, 0, none⟩]) hE (u := p3) (by simp)) (fun _ _ h => hs.trK h)
                            have x2 := x2.keep hC.fr ((Ex.callOff (as0 := []) (rt := [p3, some ⟨b2, 0, none⟩, some ⟨b1, 0, none⟩]) hE (u := some ⟨b2, 0, none⟩) (by simp)) _ rfl)
                            have x1 := x1.keep hC.fr ((Ex.callOff (as0 := []) (rt := [p3, some ⟨b2, 0, none⟩, some ⟨b1, 0, none⟩]) hE (u := some ⟨b1, 0, none⟩) (by simp)) _ rfl)
                            have hE : Ex w (Av [] No) [p3, some ⟨b2, 0, none⟩, some ⟨b1, 0, none⟩] w24 := Ex.call (as0 := []) (rt := [p3, some ⟨b2, 0, none⟩, some ⟨b1, 0, none⟩]) hE hC
                            exact ⟨HasB.put hB 10 rfl rfl rfl rfl, hE, hr.step hfr (fun _ _ h => h), r1, x1, x2, o3, hp27.keep rfl rfl (fun _ ⟨b3, q1, cs1, e, hk1, at1⟩ => ⟨_, _, _, e, Kd.step _ hk1 hfr.size (fun k hk _ => hfr.blk k hk id), at1.stay hfr⟩), hp31.keep rfl rfl (fun _ ⟨b4, q2, cs2, e, hk2, at2⟩ => ⟨_, _, _, e, Kd.step _ hk2 hfr.size (fun k hk _ => hfr.blk k hk id), at2.stay hfr⟩)⟩
                          · intro b a wI hI hb hn hc
                            obtain ⟨hB, hE, hr, r1, x1, x2, o3, hp27, hp31⟩ := hI
                            have ha : Has 116 [(80, .bool (!decide (a0_0 = a1_0 ∧ a0_1 = a1_1))), (84, .bool t14), (87, .bool t15)] a := hB.get [3, 7, 10] (List.forall_mem_cons.2 ⟨(hn 3 (mem_needs rfl)), (List.forall_mem_cons.2 ⟨(hn 7 (mem_needs rfl)), (List.forall_mem_cons.2 ⟨(hn 10 (mem_needs rfl)), (fun _ h => by cases h)⟩)⟩)⟩) _ rfl
                            refine DoesG.on rfl ha rfl rfl rfl (not_f (decide_eq_false hc13)) (Does.mono (d_pickF ha rfl hc14 rfl) ?_)
                            rintro v wJ ⟨rfl, rfl⟩
                            exact ⟨HasB.put hB 11 rfl rfl rfl rfl, hE, hr, r1, x1, x2, o3, hp27.keep rfl rfl (fun _ h => h), hp31.keep rfl rfl (fun _ h => h)⟩
                          · intro b a wI hI hb hn hc
                            obtain ⟨hB, hE, hr, r1, x1, x2, o3, hp27, hp31⟩ := hI
                            have ha : Has 116 [(80, .bool (!decide (a0_0 = a1_0 ∧ a0_1 = a1_1))), (88, .bool t15)] a := hB.get [3, 11] (List.forall_mem_cons.2 ⟨(hn 3 (mem_needs rfl)), (List.forall_mem_cons.2 ⟨(hn 11 (mem_needs rfl)), (fun _ h => by cases h)⟩)⟩) _ rfl
                            refine DoesG.on rfl ha rfl rfl rfl (not_f (decide_eq_false hc13)) (Does.mono (d_move ha rfl) ?_)
                            rintro v wJ ⟨rfl, rfl⟩
                            exact ⟨HasB.put hB 12 rfl rfl rfl rfl, hE, hr, r1, x1, x2, o3, hp27.keep rfl rfl (fun _ h => h), hp31.keep rfl rfl (fun _ h => h)⟩
                          · intro b a wI hI hb hn hc
                            obtain ⟨hB, hE, hr, r1, x1, x2, o3, hp27, hp31⟩ := hI
                            have ha : Has 116 [(9, .int .i64 t13), (89, .bool t15)] a := hB.get [12] (List.forall_mem_cons.2 ⟨(hn 12 (mem_needs rfl)), (fun _ h => by cases h)⟩) _ rfl
                            refine DoesG.on rfl ha rfl rfl rfl hc15 (Does.mono (d_move ha rfl) ?_)
                            rintro v wJ ⟨rfl, rfl⟩
                            exact ⟨HasB.put hB 13 rfl rfl rfl rfl, hE, hr, r1, x1, x2, o3, hp27.keep rfl rfl (fun _ h => h), hp31.keep rfl rfl (fun _ h => h)⟩
                          · intro b a wI hI hb hn hc
                            obtain ⟨hB, hE, hr, r1, x1, x2, o3, hp27, hp31⟩ := hI
                            have ha : Has 116 [(7, .slice p1 t11.length c1), (89, .bool t15)] a := hB.get [12] (List.forall_mem_cons.2 ⟨(hn 12 (mem_needs rfl)), (fun _ h => by cases h)⟩) _ rfl
                            refine DoesG.on rfl ha rfl rfl rfl hc15 (Does.mono (d_move ha rfl) ?_)
                            rintro v wJ ⟨rfl, rfl⟩
                            exact ⟨HasB.put hB 14 rfl rfl rfl rfl, hE, hr, r1, x1, x2, o3, hp27.keep rfl rfl (fun _ h => h), hp31.keep rfl rfl (fun _ h => h)⟩
                          · intro b a wI hI hb hn hc
                            obtain ⟨hB, hE, hr, r1, x1, x2, o3, hp27, hp31⟩ := hI
                            have ha : Has 116 [(89, .bool t15), (91, .slice p1 t11.length c1)] a := hB.get [12, 14] (List.forall_mem_cons.2 ⟨(hn 12 (mem_needs rfl)), (List.forall_mem_cons.2 ⟨(hn 14 (mem_needs rfl)), (fun _ h => by cases h)⟩)⟩) _ rfl
                            refine DoesG.on rfl ha rfl rfl rfl hc15 (Does.mono (d_lenSlice ha Try.underlying22 rfl) ?_)
                            rintro v wJ ⟨rfl, rfl⟩
                            exact ⟨HasB.put hB 15 rfl rfl rfl rfl, hE, hr, r1, x1, x2, o3, hp27.keep rfl rfl (fun _ h => h), hp31.keep rfl rfl (fun _ h => h)⟩
                          · intro b a wI hI hb hn hc
                            obtain ⟨hB, hE, hr, r1, x1, x2, o3, hp27, hp31⟩ := hI
                            have ha : Has 116 [(89, .bool t15), (90, .int .i64 t13), (92, .int .i64 (t11.length : Int))] a := hB.get [12, 13, 15] (List.forall_mem_cons.2 ⟨(hn 12 (mem_needs rfl)), (List.forall_mem_cons.2 ⟨(hn 13 (mem_needs rfl)), (List.forall_mem_cons.2 ⟨(hn 15 (mem_needs rfl)), (fun _ h => by cases h)⟩)⟩)⟩) _ rfl
                            refine DoesG.on rfl ha rfl rfl rfl hc15 (Does.mono (d_ge ha rfl rfl) ?_)
                            rintro v wJ ⟨rfl, rfl⟩
                            exact ⟨HasB.put hB 16 rfl rfl rfl rfl, hE, hr, r1, x1, x2, o3, hp27.keep rfl rfl (fun _ h => h), hp31.keep rfl rfl (fun _ h => h)⟩
                          · intro b a wI hI hb hn hc
                            obtain ⟨hB, hE, hr, r1, x1, x2, o3, hp27, hp31⟩ := hI
                            have ha : Has 116 [(80, .bool (!decide (a0_0 = a1_0 ∧ a0_1 = a1_1))), (89, .bool t15), (93, .bool (decide ((t11.length : Int) ≤ t13)))] a := hB.get [3, 12, 16] (List.forall_mem_cons.2 ⟨(hn 3 (mem_needs rfl)), (List.forall_mem_cons.2 ⟨(hn 12 (mem_needs rfl)), (List.forall_mem_cons.2 ⟨(hn 16 (mem_needs rfl)), (fun _ h => by cases h)⟩)⟩)⟩) _ rfl
                            refine DoesG.on rfl ha rfl rfl rfl (not_f (decide_eq_false hc13)) (Does.mono (d_pickF ha rfl hc15 rfl) ?_)
                            rintro v wJ ⟨rfl, rfl⟩
                            exact ⟨HasB.put hB 17 rfl rfl rfl rfl, hE, hr, r1, x1, x2, o3, hp27.keep rfl rfl (fun _ h => h), hp31.keep rfl rfl (fun _ h => h)⟩
                          · intro b a wI hI hb hn hc
                            obtain ⟨hB, hE, hr, r1, x1, x2, o3, hp27, hp31⟩ := hI
                            have ha : Has 116 [(80, .bool (!decide (a0_0 = a1_0 ∧ a0_1 = a1_1))), (94, .bool (decide ((t11.length : Int) ≤ t13)))] a := hB.get [3, 17] (List.forall_mem_cons.2 ⟨(hn 3 (mem_needs rfl)), (List.forall_mem_cons.2 ⟨(hn 17 (mem_needs rfl)), (fun _ h => by cases h)⟩)⟩) _ rfl
                            refine DoesG.on rfl ha rfl rfl rfl (not_f (decide_eq_false hc13)) (Does.mono (d_move ha rfl) ?_)
                            rintro v wJ ⟨rfl, rfl⟩
                            exact ⟨HasB.put hB 18 rfl rfl rfl rfl, hE, hr, r1, x1, x2, o3, hp27.keep rfl rfl (fun _ h => h), hp31.keep rfl rfl (fun _ h => h)⟩
                          · intro b a wI hI hb hn hc
                            obtain ⟨hB, hE, hr, r1, x1, x2, o3, hp27, hp31⟩ := hI
                            have ha : Has 116 [(9, .int .i64 t13), (95, .bool (decide ((t11.length : Int) ≤ t13)))] a := hB.get [18] (List.forall_mem_cons.2 ⟨(hn 18 (mem_needs rfl)), (fun _ h => by cases h)⟩) _ rfl
                            refine DoesG.on rfl ha rfl rfl rfl (decide_eq_false hc16) (Does.mono (d_move ha rfl) ?_)
                            rintro v wJ ⟨rfl, rfl⟩
                            exact ⟨HasB.put hB 19 rfl rfl rfl rfl, hE, hr, r1, x1, x2, o3, hp27.keep rfl rfl (fun _ h => h), hp31.keep rfl rfl (fun _ h => h)⟩
                          · intro b a wI hI hb hn hc
                            obtain ⟨hB, hE, hr, r1, x1, x2, o3, hp27, hp31⟩ := hI
                            have ha : Has 116 [(8, .slice p3 x3.length c3), (95, .bool (decide ((t11.length : Int) ≤ t13)))] a := hB.get [18] (List.forall_mem_cons.2 ⟨(hn 18 (mem_needs rfl)), (fun _ h => by cases h)⟩) _ rfl
                            refine DoesG.on rfl ha rfl rfl rfl (decide_eq_false hc16) (Does.mono (d_move ha rfl) ?_)
                            rintro v wJ ⟨rfl, rfl⟩
                            exact ⟨HasB.put hB 20 rfl rfl rfl rfl, hE, hr, r1, x1, x2, o3, hp27.keep rfl rfl (fun _ h => h), hp31.keep rfl rfl (fun _ h => h)⟩
                          · intro b a wI hI hb hn hc
                            obtain ⟨hB, hE, hr, r1, x1, x2, o3, hp27, hp31⟩ := hI
                            have ha : Has 116 [(95, .bool (decide ((t11.length : Int) ≤ t13))), (97, .slice p3 x3.length c3)] a := hB.get [18, 20] (List.forall_mem_cons.2 ⟨(hn 18 (mem_needs rfl)), (List.forall_mem_cons.2 ⟨(hn 20 (mem_needs rfl)), (fun _ h => by cases h)⟩)⟩) _ rfl
                            refine DoesG.on rfl ha rfl rfl rfl (decide_eq_false hc16) (Does.mono (d_lenSlice ha Try.underlying22 rfl) ?_)
                            rintro v wJ ⟨rfl, rfl⟩
                            exact ⟨HasB.put hB 21 rfl rfl rfl rfl, hE, hr, r1, x1, x2, o3, hp27.keep rfl rfl (fun _ h => h), hp31.keep rfl rfl (fun _ h => h)⟩
                          · intro b a wI hI hb hn hc
                            obtain ⟨hB, hE, hr, r1, x1, x2, o3, hp27, hp31⟩ := hI
                            have ha : Has 116 [(95, .bool (decide ((t11.length : Int) ≤ t13))), (96, .int .i64 t13), (98, .int .i64 (x3.length : Int))] a := hB.get [18, 19, 21] (List.forall_mem_cons.2 ⟨(hn 18 (mem_needs rfl)), (List.forall_mem_cons.2 ⟨(hn 19 (mem_needs rfl)), (List.forall_mem_cons.2 ⟨(hn 21 (mem_needs rfl)), (fun _ h => by cases h)⟩)⟩)⟩) _ rfl
                            refine DoesG.on rfl ha rfl rfl rfl (decide_eq_false hc16) (Does.mono (d_ge ha rfl rfl) ?_)
                            rintro v wJ ⟨rfl, rfl⟩
                            exact ⟨HasB.put hB 22 rfl rfl rfl rfl, hE, hr, r1, x1, x2, o3, hp27.keep rfl rfl (fun _ h => h), hp31.keep rfl rfl (fun _ h => h)⟩
                          · intro b a wI hI hb hn hc
                            obtain ⟨hB, hE, hr, r1, x1, x2, o3, hp27, hp31⟩ := hI
                            have ha : Has 116 [(80, .bool (!decide (a0_0 = a1_0 ∧ a0_1 = a1_1))), (95, .bool (decide ((t11.length : Int) ≤ t13))), (99, .bool (decide ((x3.length : Int) ≤ t13)))] a := hB.get [3, 18, 22] (List.forall_mem_cons.2 ⟨(hn 3 (mem_needs rfl)), (List.forall_mem_cons.2 ⟨(hn 18 (mem_needs rfl)), (List.forall_mem_cons.2 ⟨(hn 22 (mem_needs rfl)), (fun _ h => by cases h)⟩)⟩)⟩) _ rfl
                            refine DoesG.on rfl ha rfl rfl rfl (not_f (decide_eq_false hc13)) (Does.mono (d_pickF ha rfl (decide_eq_false hc16) rfl) ?_)
                            rintro v wJ ⟨rfl, rfl⟩
                            exact ⟨HasB.put hB 23 rfl rfl rfl rfl, hE, hr, r1, x1, x2, o3, hp27.keep rfl rfl (fun _ h => h), hp31.keep rfl rfl (fun _ h => h)⟩
                          · intro b a wI hI hb hn hc
                            obtain ⟨hB, hE, hr, r1, x1, x2, o3, hp27, hp31⟩ := hI
                            have ha : Has 116 [(80, .bool (!decide (a0_0 = a1_0 ∧ a0_1 = a1_1))), (100, .bool (decide ((x3.length : Int) ≤ t13)))] a := hB.get [3, 23] (List.forall_mem_cons.2 ⟨(hn 3 (mem_needs rfl)), (List.forall_mem_cons.2 ⟨(hn 23 (mem_needs rfl)), (fun _ h => by cases h)⟩)⟩) _ rfl
                            refine DoesG.on rfl ha rfl rfl rfl (not_f (decide_eq_false hc13)) (Does.mono (d_move ha rfl) ?_)
                            rintro v wJ ⟨rfl, rfl⟩
                            exact ⟨HasB.put hB 24 rfl rfl rfl rfl, hE, hr, r1, x1, x2, o3, hp27.keep rfl rfl (fun _ h => h), hp31.keep rfl rfl (fun _ h => h)⟩
                          · intro b a wI hI hb hn hc
                            obtain ⟨hB, hE, hr, r1, x1, x2, o3, hp27, hp31⟩ := hI
                            have ha : Has 116 [(7, .slice p1 t11.length c1), (101, .bool (decide ((x3.length : Int) ≤ t13)))] a := hB.get [24] (List.forall_mem_cons.2 ⟨(hn 24 (mem_needs rfl)), (fun _ h => by cases h)⟩) _ rfl
                            refine DoesG.on rfl ha rfl rfl rfl (decide_eq_false hc17) (Does.mono (d_move ha rfl) ?_)
                            rintro v wJ ⟨rfl, rfl⟩
                            exact ⟨HasB.put hB 25 rfl rfl rfl rfl, hE, hr, r1, x1, x2, o3, hp27.keep rfl rfl (fun _ h => h), hp31.keep rfl rfl (fun _ h => h)⟩
                          · intro b a wI hI hb hn hc
                            obtain ⟨hB, hE, hr, r1, x1, x2, o3, hp27, hp31⟩ := hI
                            have ha : Has 116 [(9, .int .i64 t13), (101, .bool (decide ((x3.length : Int) ≤ t13)))] a := hB.get [24] (List.forall_mem_cons.2 ⟨(hn 24 (mem_needs rfl)), (fun _ h => by cases h)⟩) _ rfl
                            refine DoesG.on rfl ha rfl rfl rfl (decide_eq_false hc17) (Does.mono (d_move ha rfl) ?_)
                            rintro v wJ ⟨rfl, rfl⟩
                            exact ⟨HasB.put hB 26 rfl rfl rfl rfl, hE, hr, r1, x1, x2, o3, hp27.keep rfl rfl (fun _ h => h), hp31.keep rfl rfl (fun _ h => h)⟩
                          · intro b a wI hI hb hn hc
                            obtain ⟨hB, hE, hr, r1, x1, x2, o3, hp27, hp31⟩ := hI
                            have ha : Has 116 [(101, .bool (decide ((x3.length : Int) ≤ t13))), (102, .slice p1 t11.length c1), (103, .int .i64 t13)] a := hB.get [24, 25, 26] (List.forall_mem_cons.2 ⟨(hn 24 (mem_needs rfl)), (List.forall_mem_cons.2 ⟨(hn 25 (mem_needs rfl)), (List.forall_mem_cons.2 ⟨(hn 26 (mem_needs rfl)), (fun _ h => by cases h)⟩)⟩)⟩) _ rfl
                            refine DoesG.on rfl ha rfl rfl rfl (decide_eq_false hc17) (Does.mono (d_index (kd := (Kd.int .u8)) ha rfl rfl Try.underlying22 Try.sizeOf5 r1 hc18 (0 : Int)) ?_)
                            rintro v wJ ⟨rfl, h⟩
                            obtain ⟨b3, q1, cs1, rfl, _, hk1, at1⟩ := h
                            exact ⟨HasB.putR hB 27 rfl rfl rfl, hE, hr, r1, x1, x2, o3, Sl.new hB.has rfl ⟨_, _, _, rfl, hk1, at1⟩, hp31.keep rfl rfl (fun _ h => h)⟩
                          · intro b a wI hI hb hn hc
                            obtain ⟨hB, hE, hr, r1, x1, x2, o3, hp27, hp31⟩ := hI
                            have ha : Has 116 [(101, .bool (decide ((x3.length : Int) ≤ t13)))] a := hB.get [24] (List.forall_mem_cons.2 ⟨(hn 24 (mem_needs rfl)), (fun _ h => by cases h)⟩) _ rfl
                            obtain ⟨b3, q1, cs1, hs27, hk1, at1⟩ := hp27 (hn 27 (mem_needs rfl))
                            have ha := ha.know hs27
                            obtain rfl := hk1
                            refine DoesG.on rfl ha rfl rfl rfl (decide_eq_false hc17) (Does.mono (d_load ha rfl (at1.cell 0 rfl) Try.isAgg5) ?_)
                            rintro v wJ ⟨rfl, rfl⟩
                            exact ⟨HasB.put hB 28 rfl rfl rfl rfl, hE, hr, r1, x1, x2, o3, hp27.keep rfl rfl (fun _ h => h), hp31.keep rfl rfl (fun _ h => h)⟩
                          · intro b a wI hI hb hn hc
                            obtain ⟨hB, hE, hr, r1, x1, x2, o3, hp27, hp31⟩ := hI
                            have ha : Has 116 [(8, .slice p3 x3.length c3), (101, .bool (decide ((x3.length : Int) ≤ t13)))] a := hB.get [24] (List.forall_mem_cons.2 ⟨(hn 24 (mem_needs rfl)), (fun _ h => by cases h)⟩) _ rfl
                            refine DoesG.on rfl ha rfl rfl rfl (decide_eq_false hc17) (Does.mono (d_move ha rfl) ?_)
                            rintro v wJ ⟨rfl, rfl⟩
                            exact ⟨HasB.put hB 29 rfl rfl rfl rfl, hE, hr, r1, x1, x2, o3, hp27.keep rfl rfl (fun _ h => h), hp31.keep rfl rfl (fun _ h => h)⟩
                          · intro b a wI hI hb hn hc
                            obtain ⟨hB, hE, hr, r1, x1, x2, o3, hp27, hp31⟩ := hI
                            have ha : Has 116 [(9, .int .i64 t13), (101, .bool (decide ((x3.length : Int) ≤ t13)))] a := hB.get [24] (List.forall_mem_cons.2 ⟨(hn 24 (mem_needs rfl)), (fun _ h => by cases h)⟩) _ rfl
                            refine DoesG.on rfl ha rfl rfl rfl (decide_eq_false hc17) (Does.mono (d_move ha rfl) ?_)
                            rintro v wJ ⟨rfl, rfl⟩
                            exact ⟨HasB.put hB 30 rfl rfl rfl rfl, hE, hr, r1, x1, x2, o3, hp27.keep rfl rfl (fun _ h => h), hp31.keep rfl rfl (fun _ h => h)⟩
                          · intro b a wI hI hb hn hc
                            obtain ⟨hB, hE, hr, r1, x1, x2, o3, hp27, hp31⟩ := hI
                            have ha : Has 116 [(101, .bool (decide ((x3.length : Int) ≤ t13))), (106, .slice p3 x3.length c3), (107, .int .i64 t13)] a := hB.get [24, 29, 30] (List.forall_mem_cons.2 ⟨(hn 24 (mem_needs rfl)), (List.forall_mem_cons.2 ⟨(hn 29 (mem_needs rfl)), (List.forall_mem_cons.2 ⟨(hn 30 (mem_needs rfl)), (fun _ h => by cases h)⟩)⟩)⟩) _ rfl
                            refine DoesG.on rfl ha rfl rfl rfl (decide_eq_false hc17) (Does.mono (d_indexOwR (kd := (Kd.int .u8)) ha rfl rfl Try.underlying22 Try.sizeOf5 o3 hc19 (0 : Int)) ?_)
                            rintro v wJ ⟨rfl, h⟩
                            obtain ⟨b4, q2, cs2, rfl, hk2, at2⟩ := h
                            exact ⟨HasB.putR hB 31 rfl rfl rfl, hE, hr, r1, x1, x2, o3, hp27.keep rfl rfl (fun _ h => h), Sl.new hB.has rfl ⟨_, _, _, rfl, hk2, at2⟩⟩
                          · intro b a wI hI hb hn hc
                            obtain ⟨hB, hE, hr, r1, x1, x2, o3, hp27, hp31⟩ := hI
                            have ha : Has 116 [(101, .bool (decide ((x3.length : Int) ≤ t13)))] a := hB.get [24] (List.forall_mem_cons.2 ⟨(hn 24 (mem_needs rfl)), (fun _ h => by cases h)⟩) _ rfl
                            obtain ⟨b4, q2, cs2, hs31, hk2, at2⟩ := hp31 (hn 31 (mem_needs rfl))
                            have ha := ha.know hs31
                            obtain rfl := hk2
                            refine DoesG.on rfl ha rfl rfl rfl (decide_eq_false hc17) (Does.mono (d_load ha rfl (at2.cell 0 rfl) Try.isAgg5) ?_)
                            rintro v wJ ⟨rfl, rfl⟩
                            exact ⟨HasB.put hB 32 rfl rfl rfl rfl, hE, hr, r1, x1, x2, o3, hp27.keep rfl rfl (fun _ h => h), hp31.keep rfl rfl (fun _ h => h)⟩
                          · intro b a wI hI hb hn hc
                            obtain ⟨hB, hE, hr, r1, x1, x2, o3, hp27, hp31⟩ := hI
                            have ha : Has 116 [(101, .bool (decide ((x3.length : Int) ≤ t13))), (105, .int .u8 (t11.getD (t13).toNat (0 : Int))), (109, .int .u8 (x3.getD (t13).toNat (0 : Int)))] a := hB.get [24, 28, 32] (List.forall_mem_cons.2 ⟨(hn 24 (mem_needs rfl)), (List.forall_mem_cons.2 ⟨(hn 28 (mem_needs rfl)), (List.forall_mem_cons.2 ⟨(hn 32 (mem_needs rfl)), (fun _ h => by cases h)⟩)⟩)⟩) _ rfl
                            refine DoesG.on rfl ha rfl rfl rfl (decide_eq_false hc17) (Does.mono (d_lt ha rfl rfl) ?_)
                            rintro v wJ ⟨rfl, rfl⟩
                            exact ⟨HasB.put hB 33 rfl rfl rfl rfl, hE, hr, r1, x1, x2, o3, hp27.keep rfl rfl (fun _ h => h), hp31.keep rfl rfl (fun _ h => h)⟩
                          · intro b a wI hI hb hn hc
                            obtain ⟨hB, hE, hr, r1, x1, x2, o3, hp27, hp31⟩ := hI
                            have ha : Has 116 [(5, .bool t3), (101, .bool (decide ((x3.length : Int) ≤ t13)))] a := hB.get [24] (List.forall_mem_cons.2 ⟨(hn 24 (mem_needs rfl)), (fun _ h => by cases h)⟩) _ rfl
                            refine DoesG.on rfl ha rfl rfl rfl (decide_eq_false hc17) (Does.mono (d_move ha rfl) ?_)
                            rintro v wJ ⟨rfl, rfl⟩
                            exact ⟨HasB.put hB 34 rfl rfl rfl rfl, hE, hr, r1, x1, x2, o3, hp27.keep rfl rfl (fun _ h => h), hp31.keep rfl rfl (fun _ h => h)⟩
                        · intro b a w28 hb hI
                          obtain ⟨hB, hE, hr, r1, x1, x2, o3, hp27, hp31⟩ := hI
                          have ha : Has 116 [(77, .agg #[.int .i64 a0_0, .string a0_1]), (78, .agg #[.int .i64 a1_0, .string a1_1]), (79, .bool (!decide (a0_0 = a1_0 ∧ a0_1 = a1_1))), (80, .bool (!decide (a0_0 = a1_0 ∧ a0_1 = a1_1))), (81, .slice p1 t11.length c1), (82, .slice p3 x3.length c3), (83, .bool t14), (84, .bool t14), (85, .slice p3 x3.length c3), (86, .slice p1 t11.length c1), (87, .bool t15), (88, .bool t15), (89, .bool t15), (90, .int .i64 t13), (91, .slice p1 t11.length c1), (92, .int .i64 (t11.length : Int)), (93, .bool (decide ((t11.length : Int) ≤ t13))), (94, .bool (decide ((t11.length : Int) ≤ t13))), (95, .bool (decide ((t11.length : Int) ≤ t13))), (96, .int .i64 t13), (97, .slice p3 x3.length c3), (98, .int .i64 (x3.length : Int)), (99, .bool (decide ((x3.length : Int) ≤ t13))), (100, .bool (decide ((x3.length : Int) ≤ t13))), (101, .bool (decide ((x3.length : Int) ≤ t13))), (102, .slice p1 t11.length c1), (103, .int .i64 t13), (105, .int .u8 (t11.getD (t13).toNat (0 : Int))), (106, .slice p3 x3.length c3), (107, .int .i64 t13), (109, .int .u8 (x3.getD (t13).toNat (0 : Int))), (110, .bool (decide ((t11.getD (t13).toNat (0 : Int)) < (x3.getD (t13).toNat (0 : Int))))), (111, .bool t3), (2, .pointer (some ⟨b1, 0, none⟩)), (3, .pointer (some ⟨b2, 0, none⟩)), (5, .bool t3), (7, .slice p1 t11.length c1), (8, .slice p3 x3.length c3), (9, .int .i64 t13)] a := hB.get [0, 1, 2, 3, 4, 5, 6, 7, 8, 9, 10, 11, 12, 13, 14, 15, 16, 17, 18, 19, 20, 21, 22, 23, 24, 25, 26, 28, 29, 30, 32, 33, 34] (List.forall_mem_cons.2 ⟨(hb 0 (by decide) (by decide)), (List.forall_mem_cons.2 ⟨(hb 1 (by decide) (by decide)), (List.forall_mem_cons.2 ⟨(hb 2 (by decide) (by decide)), (List.forall_mem_cons.2 ⟨(hb 3 (by decide) (by decide)), (List.forall_mem_cons.2 ⟨(hb 4 (by decide) (by decide)), (List.forall_mem_cons.2 ⟨(hb 5 (by decide) (by decide)), (List.forall_mem_cons.2 ⟨(hb 6 (by decide) (by decide)), (List.forall_mem_cons.2 ⟨(hb 7 (by decide) (by decide)), (List.forall_mem_cons.2 ⟨(hb 8 (by decide) (by decide)), (List.forall_mem_cons.2 ⟨(hb 9 (by decide) (by decide)), (List.forall_mem_cons.2 ⟨(hb 10 (by decide) (by decide)), (List.forall_mem_cons.2 ⟨(hb 11 (by decide) (by decide)), (List.forall_mem_cons.2 ⟨(hb 12 (by decide) (by decide)), (List.forall_mem_cons.2 ⟨(hb 13 (by decide) (by decide)), (List.forall_mem_cons.2 ⟨(hb 14 (by decide) (by decide)), (List.forall_mem_cons.2 ⟨(hb 15 (by decide) (by decide)), (List.forall_mem_cons.2 ⟨(hb 16 (by decide) (by decide)), (List.forall_mem_cons.2 ⟨(hb 17 (by decide) (by decide)), (List.forall_mem_cons.2 ⟨(hb 18 (by decide) (by decide)), (List.forall_mem_cons.2 ⟨(hb 19 (by decide) (by decide)), (List.forall_mem_cons.2 ⟨(hb 20 (by decide) (by decide)), (List.forall_mem_cons.2 ⟨(hb 21 (by decide) (by decide)), (List.forall_mem_cons.2 ⟨(hb 22 (by decide) (by decide)), (List.forall_mem_cons.2 ⟨(hb 23 (by decide) (by decide)), (List.forall_mem_cons.2 ⟨(hb 24 (by decide) (by decide)), (List.forall_mem_cons.2 ⟨(hb 25 (by decide) (by decide)), (List.forall_mem_cons.2 ⟨(hb 26 (by decide) (by decide)), (List.forall_mem_cons.2 ⟨(hb 28 (by decide) (by decide)), (List.forall_mem_cons.2 ⟨(hb 29 (by decide) (by decide)), (List.forall_mem_cons.2 ⟨(hb 30 (by decide) (by decide)), (List.forall_mem_cons.2 ⟨(hb 32 (by decide) (by decide)), (List.forall_mem_cons.2 ⟨(hb 33 (by decide) (by decide)), (List.forall_mem_cons.2 ⟨(hb 34 (by decide) (by decide)), (fun _ h => by cases h)⟩)⟩)⟩)⟩)⟩)⟩)⟩)⟩)⟩)⟩)⟩)⟩)⟩)⟩)⟩)⟩)⟩)⟩)⟩)⟩)⟩)⟩)⟩)⟩)⟩)⟩)⟩)⟩)⟩)⟩)⟩)⟩)⟩) _ rfl
                          refine goOn1 ha rfl rfl rfl rfl (decide_eq_false hc17) (d_neB ha Try.underlying4 rfl rfl) fun a ha => ?_
                          refine goOn1 ha rfl rfl rfl rfl (not_f (decide_eq_false hc13)) (d_pickF ha rfl (decide_eq_false hc17) rfl) fun a ha => ?_
                          refine go1 ha rfl (d_pick ha rfl (not_f (decide_eq_false hc13)) rfl) fun a ha => ?_
                          refine nil_ ?_
                          refine hK28 _ _ ?_
                          have ha := ha.to (l' := [(114, _)]) rfl
                          rcases cond_elim hF with ⟨hc20, hF⟩ | ⟨hc20, hF⟩
                          · refine wcond_t ha rfl hc20 ?_
                            refine wp_seq_k (fun K33 hK33 => ?_)
                            refine wreg ?_
                            refine go1 ha rfl (d_assign ha rfl) fun a ha => ?_
                            refine nil_ ?_
                            refine hK33 _ _ ?_
                            have ha := ha.to (l' := [(4, _)]) rfl
                            refine wp_ret ?_
                            have hs : Step [p3, some ⟨b2, 0, none⟩, some ⟨b1, 0, none⟩] [] w28 w28 := Step.pick _ _ []
                            have r1 := hs.tr r1
                            have hE : Ex w (Av [] No) [] w28 := hE.pick [] (by decide)
                            injection hF with hF
                            subst hF
                            refine fin1 ha Try.results7 rfl ?_
                            exact ⟨rfl, hE⟩
                          · refine wcond_f ha rfl hc20 ?_
                            refine wp_skip ?_
                            refine hK27 _ _ ?_
                            have ha := ha.to (l' := []) rfl
                            refine wp_seq_k (fun K34 hK34 => ?_)
                            refine wreg ?_
                            obtain ⟨t16, ht16, hF⟩ := bind_elim hF
                            refine goR ha rfl (d_call Try.call10 ha (vs := []) rfl (warderlaw02_known_c k   (Av [p3, some ⟨b2, 0, none⟩, some ⟨b1, 0, none⟩] W) _ (Ex.wlt (as0 := []) (rr := []) (ro := [p3, some ⟨b2, 0, none⟩, some ⟨b1, 0, none⟩]) hE hW)  _ ht16)) fun v w29 a h ha => ?_
                            obtain ⟨rfl, hC⟩ := h
                            have hs : Step [p3, some ⟨b2, 0, none⟩, some ⟨b1, 0, none⟩] [p3, some ⟨b2, 0, none⟩, some ⟨b1, 0, none⟩] w28 w29 := hC.callStep [p3, some ⟨b2, 0, none⟩, some ⟨b1, 0, none⟩]
                            have r1 := hs.tr r1
                            have o3 := o3.keep hC.fr (Ex.callOff (as0 := []) (rt := [p3, some ⟨b2, 0, none⟩, some ⟨b1, 0, none⟩]) hE (u := p3) (by simp)) (fun _ _ h => hs.trK h)
                            have x2 := x2.keep hC.fr ((Ex.callOff (as0 := []) (rt := [p3, some ⟨b2, 0, none⟩, some ⟨b1, 0, none⟩]) hE (u := some ⟨b2, 0, none⟩) (by simp)) _ rfl)
                            have x1 := x1.keep hC.fr ((Ex.callOff (as0 := []) (rt := [p3, some ⟨b2, 0, none⟩, some ⟨b1, 0, none⟩]) hE (u := some ⟨b1, 0, none⟩) (by simp)) _ rfl)
                            have hE : Ex w (Av [] No) [p3, some ⟨b2, 0, none⟩, some ⟨b1, 0, none⟩] w29 := Ex.call (as0 := []) (rt := [p3, some ⟨b2, 0, none⟩, some ⟨b1, 0, none⟩]) hE hC
                            refine go1 ha rfl (d_assign ha rfl) fun a ha => ?_
                            refine nil_ ?_
                            refine hK34 _ _ ?_
                            have ha := ha.to (l' := [(4, _)]) rfl
                            refine wp_ret ?_
                            have hs : Step [p3, some ⟨b2, 0, none⟩, some ⟨b1, 0, none⟩] [] w29 w29 := Step.pick _ _ []
                            have r1 := hs.tr r1
                            have hE : Ex w (Av [] No) [] w29 := hE.pick [] (by decide)
                            injection hF with hF
                            subst hF
                            refine fin1 ha Try.results7 rfl ?_
                            exact ⟨rfl, hE⟩
            · intro K22 hK22
              refine wp_seq_k (fun K23 hK23 => ?_)
              refine wreg ?_
              refine go1 ha rfl (d_loadAgg (cs := [.int .i64 a0_0, .string a0_1]) ha rfl (x1.at_.sub' 0 2 rfl) Try.isAgg29 Try.sizeOf29 rfl) fun a ha => ?_
              refine go1 ha rfl (d_loadAgg (cs := [.int .i64 a1_0, .string a1_1]) ha rfl (x2.at_.sub' 0 2 rfl) Try.isAgg29 Try.sizeOf29 rfl) fun a ha => ?_
              refine go1 ha rfl (d_eqAg (q := a0_0 = a1_0 ∧ a0_1 = a1_1) ha rfl rfl (by kernel_rfl) (.struct Try.underlying29 (by kernel_rfl) (.cons (by decide) (.cell Try.isAgg27 rfl) (.cell Try.isAgg27 rfl) (.int Try.underlying27) (.one (by decide) (.cell Try.isAgg9 rfl) (.cell Try.isAgg9 rfl) (.str Try.underlying9))))) fun a ha => ?_
              refine go1 ha rfl (d_move ha rfl) fun a ha => ?_
              refine go1 ha rfl (d_lt ha rfl rfl) fun a ha => ?_
              refine go1 ha rfl (d_neB ha Try.underlying4 rfl rfl) fun a ha => ?_
              refine go1 ha rfl (d_move ha rfl) fun a ha => ?_
              rcases cond_elim hF with ⟨hc9, hF⟩ | ⟨hc9, hF⟩
              · refine goOff ha rfl rfl rfl rfl hc9 fun a ha => ?_
                refine goOff ha rfl rfl rfl rfl hc9 fun a ha => ?_
                refine goOff ha rfl rfl rfl rfl hc9 fun a ha => ?_
                refine goOff ha rfl rfl rfl rfl hc9 fun a ha => ?_
                refine goOff ha rfl rfl rfl rfl hc9 fun a ha => ?_
                refine goGone ha rfl rfl rfl rfl  fun a ha => ?_
                refine goOff ha rfl rfl rfl rfl hc9 fun a ha => ?_
                refine goOff ha rfl rfl rfl rfl hc9 fun a ha => ?_
                refine go1 ha rfl (d_pick ha rfl hc9 rfl) fun a ha => ?_
                refine nil_ ?_
                refine hK23 _ _ ?_
                have ha := ha.to (l' := [(2, _), (3, _), (5, _), (7, _), (8, _), (9, _), (76, _)]) rfl
                refine wcond_t ha rfl rfl ?_
                refine wp_seq_k (fun K24 hK24 => ?_)
                refine wreg ?_
                refine go1 ha rfl (d_assign ha rfl) fun a ha => ?_
                refine nil_ ?_
                refine hK24 _ _ ?_
                have ha := ha.to (l' := [(4, _)]) rfl
                refine wp_ret ?_
                have hs : Step [p2, some ⟨b2, 0, none⟩, some ⟨b1, 0, none⟩] [] w20 w20 := Step.pick _ _ []
                have r1 := hs.tr r1
                have hE : Ex w (Av [] No) [] w20 := hE.pick [] (by decide)
                injection hF with hF
                subst hF
                refine fin1 ha Try.results7 rfl ?_
                exact ⟨rfl, hE⟩
              · refine goOn1 ha rfl rfl rfl rfl hc9 (d_loadAgg (cs := [.int .i64 a0_0, .string a0_1]) ha rfl (x1.at_.sub' 0 2 rfl) Try.isAgg29 Try.sizeOf29 rfl) fun a ha => ?_
                refine goOn1 ha rfl rfl rfl rfl hc9 (d_loadAgg (cs := [.int .i64 a1_0, .string a1_1]) ha rfl (x2.at_.sub' 0 2 rfl) Try.isAgg29 Try.sizeOf29 rfl) fun a ha => ?_
                refine goOn1 ha rfl rfl rfl rfl hc9 (d_eqAg (q := a0_0 = a1_0 ∧ a0_1 = a1_1) ha rfl rfl (by kernel_rfl) (.struct Try.underlying29 (by kernel_rfl) (.cons (by decide) (.cell Try.isAgg27 rfl) (.cell Try.isAgg27 rfl) (.int Try.underlying27) (.one (by decide) (.cell Try.isAgg9 rfl) (.cell Try.isAgg9 rfl) (.str Try.underlying9))))) fun a ha => ?_
                refine goOn1 ha rfl rfl rfl rfl hc9 (d_move ha rfl) fun a ha => ?_
                refine goOn1 ha rfl rfl rfl rfl hc9 (d_move ha rfl) fun a ha => ?_
                rcases cond_elim hF with ⟨hc10, hF⟩ | ⟨hc10, hF⟩
                · refine goOff ha rfl rfl rfl rfl hc10 fun a ha => ?_
                  refine goOn1 ha rfl rfl rfl rfl hc9 (d_pick ha rfl hc10 rfl) fun a ha => ?_
                  refine goOn1 ha rfl rfl rfl rfl hc9 (d_eqB ha Try.underlying4 rfl rfl) fun a ha => ?_
                  refine go1 ha rfl (d_pickF ha rfl hc9 rfl) fun a ha => ?_
                  refine nil_ ?_
                  refine hK23 _ _ ?_
                  have ha := ha.to (l' := [(2, _), (3, _), (5, _), (7, _), (8, _), (9, _), (76, _)]) rfl
                  rcases cond_elim hF with ⟨hc11, hF⟩ | ⟨hc11, hF⟩
                  · refine wcond_t ha rfl hc11 ?_
                    refine wp_seq_k (fun K25 hK25 => ?_)
                    refine wreg ?_
                    refine go1 ha rfl (d_assign ha rfl) fun a ha => ?_
                    refine nil_ ?_
                    refine hK25 _ _ ?_
                    have ha := ha.to (l' := [(4, _)]) rfl
                    refine wp_ret ?_
                    have hs : Step [p2, some ⟨b2, 0, none⟩, some ⟨b1, 0, none⟩] [] w20 w20 := Step.pick _ _ []
                    have r1 := hs.tr r1
                    have hE : Ex w (Av [] No) [] w20 := hE.pick [] (by decide)
                    injection hF with hF
                    subst hF
                    refine fin1 ha Try.results7 rfl ?_
                    exact ⟨rfl, hE⟩
                  · refine wcond_f ha rfl hc11 ?_
                    refine wp_skip ?_
                    exact hK22 _ _ ⟨t12, _, _, ha.to rfl, hE, r1, x1, x2, o2, hF⟩
                · refine goOn1 ha rfl rfl rfl rfl hc10 (d_move ha rfl) fun a ha => ?_
                  refine goOn1 ha rfl rfl rfl rfl hc9 (d_pickF ha rfl hc10 rfl) fun a ha => ?_
                  refine goOn1 ha rfl rfl rfl rfl hc9 (d_eqB ha Try.underlying4 rfl rfl) fun a ha => ?_
                  refine go1 ha rfl (d_pickF ha rfl hc9 rfl) fun a ha => ?_
                  refine nil_ ?_
                  refine hK23 _ _ ?_
                  have ha := ha.to (l' := [(2, _), (3, _), (5, _), (7, _), (8, _), (9, _), (76, _)]) rfl
                  rcases cond_elim hF with ⟨hc12, hF⟩ | ⟨hc12, hF⟩
                  · refine wcond_t ha rfl hc12 ?_
                    refine wp_seq_k (fun K26 hK26 => ?_)
                    refine wreg ?_
                    refine go1 ha rfl (d_assign ha rfl) fun a ha => ?_
                    refine nil_ ?_
                    refine hK26 _ _ ?_
                    have ha := ha.to (l' := [(4, _)]) rfl
                    refine wp_ret ?_
                    have hs : Step [p2, some ⟨b2, 0, none⟩, some ⟨b1, 0, none⟩] [] w20 w20 := Step.pick _ _ []
                    have r1 := hs.tr r1
                    have hE : Ex w (Av [] No) [] w20 := hE.pick [] (by decide)
                    injection hF with hF
                    subst hF
                    refine fin1 ha Try.results7 rfl ?_
                    exact ⟨rfl, hE⟩
                  · refine wcond_f ha rfl hc12 ?_
                    refine wp_skip ?_
                    exact hK22 _ _ ⟨t12, _, _, ha.to rfl, hE, r1, x1, x2, o2, hF⟩
        · intro K15 hK15
          refine wp_seq_k (fun K16 hK16 => ?_)
          refine wreg ?_
          refine go1 ha rfl (d_loadAgg (cs := [.int .i64 a0_0, .string a0_1]) ha rfl (x1.at_.sub' 0 2 rfl) Try.isAgg29 Try.sizeOf29 rfl) fun a ha => ?_
          obtain ⟨t7, ht7, hF⟩ := bind_elim hF
          refine goR ha rfl (d_call Try.call17 ha (vs := [.agg #[.int .i64 a0_0, .string a0_1]]) rfl (warderref02_May_c k a0_0 a0_1  (Av [some ⟨b2, 0, none⟩, some ⟨b1, 0, none⟩] W) _ (Ex.wlt (as0 := []) (rr := []) (ro := [some ⟨b2, 0, none⟩, some ⟨b1, 0, none⟩]) hE hW)  _ ht7)) fun v w12 a h ha => ?_
          obtain ⟨rfl, hC⟩ := h
          have hs : Step [some ⟨b2, 0, none⟩, some ⟨b1, 0, none⟩] [some ⟨b2, 0, none⟩, some ⟨b1, 0, none⟩] w11 w12 := hC.callStep [some ⟨b2, 0, none⟩, some ⟨b1, 0, none⟩]
          have x2 := x2.keep hC.fr ((Ex.callOff (as0 := []) (rt := [some ⟨b2, 0, none⟩, some ⟨b1, 0, none⟩]) hE (u := some ⟨b2, 0, none⟩) (by simp)) _ rfl)
          have x1 := x1.keep hC.fr ((Ex.callOff (as0 := []) (rt := [some ⟨b2, 0, none⟩, some ⟨b1, 0, none⟩]) hE (u := some ⟨b1, 0, none⟩) (by simp)) _ rfl)
          have hE : Ex w (Av [] No) [some ⟨b2, 0, none⟩, some ⟨b1, 0, none⟩] w12 := Ex.call (as0 := []) (rt := [some ⟨b2, 0, none⟩, some ⟨b1, 0, none⟩]) hE hC
          refine go1 ha rfl (d_not ha rfl) fun a ha => ?_
          refine go1 ha rfl (d_move ha rfl) fun a ha => ?_
          rcases cond_elim hF with ⟨hc7, hF⟩ | ⟨hc7, hF⟩
          · refine goOff ha rfl rfl rfl rfl hc7 fun a ha => ?_
            refine goOff ha rfl rfl rfl rfl hc7 fun a ha => ?_
            refine goOff ha rfl rfl rfl rfl hc7 fun a ha => ?_
            refine go1 ha rfl (d_pick ha rfl hc7 rfl) fun a ha => ?_
            refine nil_ ?_
            refine hK16 _ _ ?_
            have ha := ha.to (l' := [(2, _), (3, _), (5, _), (6, _), (52, _)]) rfl
            refine wcond_t ha rfl rfl ?_
            refine wp_seq_k (fun K17 hK17 => ?_)
            refine wreg ?_
            obtain ⟨t8, ht8, hF⟩ := bind_elim hF
            refine goR ha rfl (d_call Try.call10 ha (vs := []) rfl (warderlaw02_known_c k   (Av [some ⟨b2, 0, none⟩, some ⟨b1, 0, none⟩] W) _ (Ex.wlt (as0 := []) (rr := []) (ro := [some ⟨b2, 0, none⟩, some ⟨b1, 0, none⟩]) hE hW)  _ ht8)) fun v w13 a h ha => ?_
            obtain ⟨rfl, hC⟩ := h
            have hs : Step [some ⟨b2, 0, none⟩, some ⟨b1, 0, none⟩] [some ⟨b2, 0, none⟩, some ⟨b1, 0, none⟩] w12 w13 := hC.callStep [some ⟨b2, 0, none⟩, some ⟨b1, 0, none⟩]
            have x2 := x2.keep hC.fr ((Ex.callOff (as0 := []) (rt := [some ⟨b2, 0, none⟩, some ⟨b1, 0, none⟩]) hE (u := some ⟨b2, 0, none⟩) (by simp)) _ rfl)
            have x1 := x1.keep hC.fr ((Ex.callOff (as0 := []) (rt := [some ⟨b2, 0, none⟩, some ⟨b1, 0, none⟩]) hE (u := some ⟨b1, 0, none⟩) (by simp)) _ rfl)
            have hE : Ex w (Av [] No) [some ⟨b2, 0, none⟩, some ⟨b1, 0, none⟩] w13 := Ex.call (as0 := []) (rt := [some ⟨b2, 0, none⟩, some ⟨b1, 0, none⟩]) hE hC
            refine go1 ha rfl (d_assign ha rfl) fun a ha => ?_
            refine nil_ ?_
            refine hK17 _ _ ?_
            have ha := ha.to (l' := [(4, _)]) rfl
            refine wp_ret ?_
            have hs : Step [some ⟨b2, 0, none⟩, some ⟨b1, 0, none⟩] [] w13 w13 := Step.pick _ _ []
            have hE : Ex w (Av [] No) [] w13 := hE.pick [] (by decide)
            injection hF with hF
            subst hF
            refine fin1 ha Try.results7 rfl ?_
            exact ⟨rfl, hE⟩
          · refine goOn1 ha rfl rfl rfl rfl hc7 (d_loadAgg (cs := [.int .i64 a1_0, .string a1_1]) ha rfl (x2.at_.sub' 0 2 rfl) Try.isAgg29 Try.sizeOf29 rfl) fun a ha => ?_
            obtain ⟨t9, ht9, hF⟩ := bind_elim hF
            refine goOnR ha rfl rfl rfl rfl hc7 (d_call Try.call17 ha (vs := [.agg #[.int .i64 a1_0, .string a1_1]]) rfl (warderref02_May_c k a1_0 a1_1  (Av [some ⟨b2, 0, none⟩, some ⟨b1, 0, none⟩] W) _ (Ex.wlt (as0 := []) (rr := []) (ro := [some ⟨b2, 0, none⟩, some ⟨b1, 0, none⟩]) hE hW)  _ ht9)) fun v w14 a h ha => ?_
            obtain ⟨rfl, hC⟩ := h
            have hs : Step [some ⟨b2, 0, none⟩, some ⟨b1, 0, none⟩] [some ⟨b2, 0, none⟩, some ⟨b1, 0, none⟩] w12 w14 := hC.callStep [some ⟨b2, 0, none⟩, some ⟨b1, 0, none⟩]
            have x2 := x2.keep hC.fr ((Ex.callOff (as0 := []) (rt := [some ⟨b2, 0, none⟩, some ⟨b1, 0, none⟩]) hE (u := some ⟨b2, 0, none⟩) (by simp)) _ rfl)
            have x1 := x1.keep hC.fr ((Ex.callOff (as0 := []) (rt := [some ⟨b2, 0, none⟩, some ⟨b1, 0, none⟩]) hE (u := some ⟨b1, 0, none⟩) (by simp)) _ rfl)
            have hE : Ex w (Av [] No) [some ⟨b2, 0, none⟩, some ⟨b1, 0, none⟩] w14 := Ex.call (as0 := []) (rt := [some ⟨b2, 0, none⟩, some ⟨b1, 0, none⟩]) hE hC
            refine goOn1 ha rfl rfl rfl rfl hc7 (d_not ha rfl) fun a ha => ?_
            refine go1 ha rfl (d_pickF ha rfl hc7 rfl) fun a ha => ?_
            refine nil_ ?_
            refine hK16 _ _ ?_
            have ha := ha.to (l' := [(2, _), (3, _), (5, _), (6, _), (52, _)]) rfl
            rcases cond_elim hF with ⟨hc8, hF⟩ | ⟨hc8, hF⟩
            · refine wcond_t ha rfl hc8 ?_
              refine wp_seq_k (fun K18 hK18 => ?_)
              refine wreg ?_
              obtain ⟨t10, ht10, hF⟩ := bind_elim hF
              refine goR ha rfl (d_call Try.call10 ha (vs := []) rfl (warderlaw02_known_c k   (Av [some ⟨b2, 0, none⟩, some ⟨b1, 0, none⟩] W) _ (Ex.wlt (as0 := []) (rr := []) (ro := [some ⟨b2, 0, none⟩, some ⟨b1, 0, none⟩]) hE hW)  _ ht10)) fun v w15 a h ha => ?_
              obtain ⟨rfl, hC⟩ := h
              have hs : Step [some ⟨b2, 0, none⟩, some ⟨b1, 0, none⟩] [some ⟨b2, 0, none⟩, some ⟨b1, 0, none⟩] w14 w15 := hC.callStep [some ⟨b2, 0, none⟩, some ⟨b1, 0, none⟩]
              have x2 := x2.keep hC.fr ((Ex.callOff (as0 := []) (rt := [some ⟨b2, 0, none⟩, some ⟨b1, 0, none⟩]) hE (u := some ⟨b2, 0, none⟩) (by simp)) _ rfl)
              have x1 := x1.keep hC.fr ((Ex.callOff (as0 := []) (rt := [some ⟨b2, 0, none⟩, some ⟨b1, 0, none⟩]) hE (u := some ⟨b1, 0, none⟩) (by simp)) _ rfl)
              have hE : Ex w (Av [] No) [some ⟨b2, 0, none⟩, some ⟨b1, 0, none⟩] w15 := Ex.call (as0 := []) (rt := [some ⟨b2, 0, none⟩, some ⟨b1, 0, none⟩]) hE hC
              refine go1 ha rfl (d_assign ha rfl) fun a ha => ?_
              refine nil_ ?_
              refine hK18 _ _ ?_
              have ha := ha.to (l' := [(4, _)]) rfl
              refine wp_ret ?_
              have hs : Step [some ⟨b2, 0, none⟩, some ⟨b1, 0, none⟩] [] w15 w15 := Step.pick _ _ []
              have hE : Ex w (Av [] No) [] w15 := hE.pick [] (by decide)
              injection hF with hF
              subst hF
              refine fin1 ha Try.results7 rfl ?_
              exact ⟨rfl, hE⟩
            · refine wcond_f ha rfl hc8 ?_
              refine wp_skip ?_
              exact hK15 _ _ ⟨ha.to rfl, hE, x1, x2, hF⟩
      · intro K9 hK9
        refine wp_seq_k (fun K10 hK10 => ?_)
        refine wreg ?_
        refine go1 ha rfl (d_move ha rfl) fun a ha => ?_
        refine go1 ha rfl (d_loadAgg (cs := [.int .i64 a0_0, .string a0_1]) ha rfl (x1.at_.sub' 0 2 rfl) Try.isAgg29 Try.sizeOf29 rfl) fun a ha => ?_
        refine go1 ha rfl (d_loadAgg (cs := [.int .i64 a1_0, .string a1_1]) ha rfl (x2.at_.sub' 0 2 rfl) Try.isAgg29 Try.sizeOf29 rfl) fun a ha => ?_
        obtain ⟨t5, ht5, hF⟩ := bind_elim hF
        refine goR ha rfl (d_call Try.call24 ha (vs := [.agg #[.int .i64 a0_0, .string a0_1], .agg #[.int .i64 a1_0, .string a1_1]]) rfl (warderref02_Less_c k a0_0 a0_1 a1_0 a1_1  (Av [some ⟨b2, 0, none⟩, some ⟨b1, 0, none⟩] W) _ (Ex.wlt (as0 := []) (rr := []) (ro := [some ⟨b2, 0, none⟩, some ⟨b1, 0, none⟩]) hE hW)  _ ht5)) fun v w9 a h ha => ?_
        obtain ⟨rfl, hC⟩ := h
        have hs : Step [some ⟨b2, 0, none⟩, some ⟨b1, 0, none⟩] [some ⟨b2, 0, none⟩, some ⟨b1, 0, none⟩] w8 w9 := hC.callStep [some ⟨b2, 0, none⟩, some ⟨b1, 0, none⟩]
        have x2 := x2.keep hC.fr ((Ex.callOff (as0 := []) (rt := [some ⟨b2, 0, none⟩, some ⟨b1, 0, none⟩]) hE (u := some ⟨b2, 0, none⟩) (by simp)) _ rfl)
        have x1 := x1.keep hC.fr ((Ex.callOff (as0 := []) (rt := [some ⟨b2, 0, none⟩, some ⟨b1, 0, none⟩]) hE (u := some ⟨b1, 0, none⟩) (by simp)) _ rfl)
        have hE : Ex w (Av [] No) [some ⟨b2, 0, none⟩, some ⟨b1, 0, none⟩] w9 := Ex.call (as0 := []) (rt := [some ⟨b2, 0, none⟩, some ⟨b1, 0, none⟩]) hE hC
        refine go1 ha rfl (d_neB ha Try.underlying4 rfl rfl) fun a ha => ?_
        refine go1 ha rfl (d_move ha rfl) fun a ha => ?_
        rcases cond_elim hF with ⟨hc3, hF⟩ | ⟨hc3, hF⟩
        · refine goOff ha rfl rfl rfl rfl hc3 fun a ha => ?_
          refine goOff ha rfl rfl rfl rfl hc3 fun a ha => ?_
          refine goOff ha rfl rfl rfl rfl hc3 fun a ha => ?_
          refine goOff ha rfl rfl rfl rfl hc3 fun a ha => ?_
          refine goOff ha rfl rfl rfl rfl hc3 fun a ha => ?_
          refine go1 ha rfl (d_pick ha rfl hc3 rfl) fun a ha => ?_
          refine go1 ha rfl (d_move ha rfl) fun a ha => ?_
          refine goOff ha rfl rfl rfl rfl rfl fun a ha => ?_
          refine goOff ha rfl rfl rfl rfl rfl fun a ha => ?_
          refine goGone ha rfl rfl rfl rfl  fun a ha => ?_
          refine goOff ha rfl rfl rfl rfl rfl fun a ha => ?_
          refine go1 ha rfl (d_pick ha rfl rfl rfl) fun a ha => ?_
          refine nil_ ?_
          refine hK10 _ _ ?_
          have ha := ha.to (l' := [(2, _), (3, _), (5, _), (6, _), (44, _)]) rfl
          refine wcond_t ha rfl rfl ?_
          refine wp_seq_k (fun K11 hK11 => ?_)
          refine wreg ?_
          refine go1 ha rfl (d_assign ha rfl) fun a ha => ?_
          refine nil_ ?_
          refine hK11 _ _ ?_
          have ha := ha.to (l' := [(4, _)]) rfl
          refine wp_ret ?_
          have hs : Step [some ⟨b2, 0, none⟩, some ⟨b1, 0, none⟩] [] w9 w9 := Step.pick _ _ []
          have hE : Ex w (Av [] No) [] w9 := hE.pick [] (by decide)
          injection hF with hF
          subst hF
          refine fin1 ha Try.results7 rfl ?_
          exact ⟨rfl, hE⟩
        · refine goOn1 ha rfl rfl rfl rfl hc3 (d_move ha rfl) fun a ha => ?_
          refine goOn1 ha rfl rfl rfl rfl hc3 (d_loadAgg (cs := [.int .i64 a1_0, .string a1_1]) ha rfl (x2.at_.sub' 0 2 rfl) Try.isAgg29 Try.sizeOf29 rfl) fun a ha => ?_
          refine goOn1 ha rfl rfl rfl rfl hc3 (d_loadAgg (cs := [.int .i64 a0_0, .string a0_1]) ha rfl (x1.at_.sub' 0 2 rfl) Try.isAgg29 Try.sizeOf29 rfl) fun a ha => ?_
          obtain ⟨t6, ht6, hF⟩ := bind_elim hF
          refine goOnR ha rfl rfl rfl rfl hc3 (d_call Try.call24 ha (vs := [.agg #[.int .i64 a1_0, .string a1_1], .agg #[.int .i64 a0_0, .string a0_1]]) rfl (warderref02_Less_c k a1_0 a1_1 a0_0 a0_1  (Av [some ⟨b2, 0, none⟩, some ⟨b1, 0, none⟩] W) _ (Ex.wlt (as0 := []) (rr := []) (ro := [some ⟨b2, 0, none⟩, some ⟨b1, 0, none⟩]) hE hW)  _ ht6)) fun v w10 a h ha => ?_
          obtain ⟨rfl, hC⟩ := h
          have hs : Step [some ⟨b2, 0, none⟩, some ⟨b1, 0, none⟩] [some ⟨b2, 0, none⟩, some ⟨b1, 0, none⟩] w9 w10 := hC.callStep [some ⟨b2, 0, none⟩, some ⟨b1, 0, none⟩]
          have x2 := x2.keep hC.fr ((Ex.callOff (as0 := []) (rt := [some ⟨b2, 0, none⟩, some ⟨b1, 0, none⟩]) hE (u := some ⟨b2, 0, none⟩) (by simp)) _ rfl)
          have x1 := x1.keep hC.fr ((Ex.callOff (as0 := []) (rt := [some ⟨b2, 0, none⟩, some ⟨b1, 0, none⟩]) hE (u := some ⟨b1, 0, none⟩) (by simp)) _ rfl)
          have hE : Ex w (Av [] No) [some ⟨b2, 0, none⟩, some ⟨b1, 0, none⟩] w10 := Ex.call (as0 := []) (rt := [some ⟨b2, 0, none⟩, some ⟨b1, 0, none⟩]) hE hC
          refine goOn1 ha rfl rfl rfl rfl hc3 (d_neB ha Try.underlying4 rfl rfl) fun a ha => ?_
          refine go1 ha rfl (d_pickF ha rfl hc3 rfl) fun a ha => ?_
          refine go1 ha rfl (d_move ha rfl) fun a ha => ?_
          rcases cond_elim hF with ⟨hc4, hF⟩ | ⟨hc4, hF⟩
          · refine goOff ha rfl rfl rfl rfl hc4 fun a ha => ?_
            refine goOff ha rfl rfl rfl rfl hc4 fun a ha => ?_
            refine goGone ha rfl rfl rfl rfl  fun a ha => ?_
            refine goOff ha rfl rfl rfl rfl hc4 fun a ha => ?_
            refine go1 ha rfl (d_pick ha rfl hc4 rfl) fun a ha => ?_
            refine nil_ ?_
            refine hK10 _ _ ?_
            have ha := ha.to (l' := [(2, _), (3, _), (5, _), (6, _), (44, _)]) rfl
            refine wcond_t ha rfl rfl ?_
            refine wp_seq_k (fun K12 hK12 => ?_)
            refine wreg ?_
            refine go1 ha rfl (d_assign ha rfl) fun a ha => ?_
            refine nil_ ?_
            refine hK12 _ _ ?_
            have ha := ha.to (l' := [(4, _)]) rfl
            refine wp_ret ?_
            have hs : Step [some ⟨b2, 0, none⟩, some ⟨b1, 0, none⟩] [] w10 w10 := Step.pick _ _ []
            have hE : Ex w (Av [] No) [] w10 := hE.pick [] (by decide)
            injection hF with hF
            subst hF
            refine fin1 ha Try.results7 rfl ?_
            exact ⟨rfl, hE⟩
          · refine goOn1 ha rfl rfl rfl rfl hc4 (d_move ha rfl) fun a ha => ?_
            refine goOn1 ha rfl rfl rfl rfl hc4 (d_move ha rfl) fun a ha => ?_
            rcases cond_elim hF with ⟨hc5, hF⟩ | ⟨hc5, hF⟩
            · refine goOn1 ha rfl rfl rfl rfl hc5 (d_move ha rfl) fun a ha => ?_
              refine goOn1 ha rfl rfl rfl rfl hc4 (d_pick ha rfl hc5 rfl) fun a ha => ?_
              refine go1 ha rfl (d_pickF ha rfl hc4 rfl) fun a ha => ?_
              refine nil_ ?_
              refine hK10 _ _ ?_
              have ha := ha.to (l' := [(2, _), (3, _), (5, _), (6, _), (44, _)]) rfl
              rcases cond_elim hF with ⟨hc6, hF⟩ | ⟨hc6, hF⟩
              · refine wcond_t ha rfl hc6 ?_
                refine wp_seq_k (fun K13 hK13 => ?_)
                refine wreg ?_
                refine go1 ha rfl (d_assign ha rfl) fun a ha => ?_
                refine nil_ ?_
                refine hK13 _ _ ?_
                have ha := ha.to (l' := [(4, _)]) rfl
                refine wp_ret ?_
                have hs : Step [some ⟨b2, 0, none⟩, some ⟨b1, 0, none⟩] [] w10 w10 := Step.pick _ _ []
                have hE : Ex w (Av [] No) [] w10 := hE.pick [] (by decide)
                injection hF with hF
                subst hF
                refine fin1 ha Try.results7 rfl ?_
                exact ⟨rfl, hE⟩
              · refine wcond_f ha rfl hc6 ?_
                refine wp_skip ?_
                exact hK9 _ _ ⟨ha.to rfl, hE, x1, x2, hF⟩
            · refine goOff ha rfl rfl rfl rfl hc5 fun a ha => ?_
              refine goOn1 ha rfl rfl rfl rfl hc4 (d_pickF ha rfl hc5 rfl) fun a ha => ?_
              refine go1 ha rfl (d_pickF ha rfl hc4 rfl) fun a ha => ?_
              refine nil_ ?_
              refine hK10 _ _ ?_
              have ha := ha.to (l' := [(2, _), (3, _), (5, _), (6, _), (44, _)]) rfl
              refine wcond_f ha rfl rfl ?_
              refine wp_skip ?_
              exact hK9 _ _ ⟨ha.to rfl, hE, x1, x2, hF⟩
  · intro K3 hK3
    refine wp_seq_k (fun K4 hK4 => ?_)
    refine wreg ?_
    refine go1 ha rfl (d_fieldAddr (o' := 1) ha rfl Try.underlying29 rfl Try.sizeOf9 rfl) fun a ha => ?_
    refine go1 ha rfl (d_load ha rfl (x1.at_.cell 1 rfl) Try.isAgg9) fun a ha => ?_
    refine go1 ha rfl (d_lenString ha Try.underlying9 rfl) fun a ha => ?_
    refine go1 ha rfl (d_gt ha rfl rfl) fun a ha => ?_
    refine go1 ha rfl (d_move ha rfl) fun a ha => ?_
    rcases ite_elim hF with ⟨hc1, hF⟩ | ⟨hc1, hF⟩
    · refine goOff ha rfl rfl rfl rfl (decide_eq_true hc1) fun a ha => ?_
      refine goOff ha rfl rfl rfl rfl (decide_eq_true hc1) fun a ha => ?_
      refine goOff ha rfl rfl rfl rfl (decide_eq_true hc1) fun a ha => ?_
      refine goOff ha rfl rfl rfl rfl (decide_eq_true hc1) fun a ha => ?_
      refine go1 ha rfl (d_pick ha rfl (decide_eq_true hc1) rfl) fun a ha => ?_
      refine nil_ ?_
      refine hK4 _ _ ?_
      have ha := ha.to (l' := [(2, _), (3, _), (19, _)]) rfl
      refine wcond_t ha rfl rfl ?_
      refine wp_seq_k (fun K5 hK5 => ?_)
      refine wreg ?_
      obtain ⟨t1, ht1, hF⟩ := bind_elim hF
      refine goR ha rfl (d_call Try.call10 ha (vs := []) rfl (warderlaw02_known_c k   (Av [some ⟨b2, 0, none⟩, some ⟨b1, 0, none⟩] W) _ (Ex.wlt (as0 := []) (rr := []) (ro := [some ⟨b2, 0, none⟩, some ⟨b1, 0, none⟩]) hE hW)  _ ht1)) fun v w3 a h ha => ?_
      obtain ⟨rfl, hC⟩ := h
      have hs : Step [some ⟨b2, 0, none⟩, some ⟨b1, 0, none⟩] [some ⟨b2, 0, none⟩, some ⟨b1, 0, none⟩] w2 w3 := hC.callStep [some ⟨b2, 0, none⟩, some ⟨b1, 0, none⟩]
      have x2 := x2.keep hC.fr ((Ex.callOff (as0 := []) (rt := [some ⟨b2, 0, none⟩, some ⟨b1, 0, none⟩]) hE (u := some ⟨b2, 0, none⟩) (by simp)) _ rfl)
      have x1 := x1.keep hC.fr ((Ex.callOff (as0 := []) (rt := [some ⟨b2, 0, none⟩, some ⟨b1, 0, none⟩]) hE (u := some ⟨b1, 0, none⟩) (by simp)) _ rfl)
      have hE : Ex w (Av [] No) [some ⟨b2, 0, none⟩, some ⟨b1, 0, none⟩] w3 := Ex.call (as0 := []) (rt := [some ⟨b2, 0, none⟩, some ⟨b1, 0, none⟩]) hE hC
      refine go1 ha rfl (d_assign ha rfl) fun a ha => ?_
      refine nil_ ?_
      refine hK5 _ _ ?_
      have ha := ha.to (l' := [(4, _)]) rfl
      refine wp_ret ?_
      have hs : Step [some ⟨b2, 0, none⟩, some ⟨b1, 0, none⟩] [] w3 w3 := Step.pick _ _ []
      have hE : Ex w (Av [] No) [] w3 := hE.pick [] (by decide)
      injection hF with hF
      subst hF
      refine fin1 ha Try.results7 rfl ?_
      exact ⟨rfl, hE⟩
    · refine goOn1 ha rfl rfl rfl rfl (decide_eq_false hc1) (d_fieldAddr (o' := 1) ha rfl Try.underlying29 rfl Try.sizeOf9 rfl) fun a ha => ?_
      refine goOn1 ha rfl rfl rfl rfl (decide_eq_false hc1) (d_load ha rfl (x2.at_.cell 1 rfl) Try.isAgg9) fun a ha => ?_
      refine goOn1 ha rfl rfl rfl rfl (decide_eq_false hc1) (d_lenString ha Try.underlying9 rfl) fun a ha => ?_
      refine goOn1 ha rfl rfl rfl rfl (decide_eq_false hc1) (d_gt ha rfl rfl) fun a ha => ?_
      refine go1 ha rfl (d_pickF ha rfl (decide_eq_false hc1) rfl) fun a ha => ?_
      refine nil_ ?_
      refine hK4 _ _ ?_
      have ha := ha.to (l' := [(2, _), (3, _), (19, _)]) rfl
      rcases ite_elim hF with ⟨hc2, hF⟩ | ⟨hc2, hF⟩
      · refine wcond_t ha rfl (decide_eq_true hc2) ?_
        refine wp_seq_k (fun K6 hK6 => ?_)
        refine wreg ?_
        obtain ⟨t2, ht2, hF⟩ := bind_elim hF
        refine goR ha rfl (d_call Try.call10 ha (vs := []) rfl (warderlaw02_known_c k   (Av [some ⟨b2, 0, none⟩, some ⟨b1, 0, none⟩] W) _ (Ex.wlt (as0 := []) (rr := []) (ro := [some ⟨b2, 0, none⟩, some ⟨b1, 0, none⟩]) hE hW)  _ ht2)) fun v w4 a h ha => ?_
        obtain ⟨rfl, hC⟩ := h
        have hs : Step [some ⟨b2, 0, none⟩, some ⟨b1, 0, none⟩] [some ⟨b2, 0, none⟩, some ⟨b1, 0, none⟩] w2 w4 := hC.callStep [some ⟨b2, 0, none⟩, some ⟨b1, 0, none⟩]
        have x2 := x2.keep hC.fr ((Ex.callOff (as0 := []) (rt := [some ⟨b2, 0, none⟩, some ⟨b1, 0, none⟩]) hE (u := some ⟨b2, 0, none⟩) (by simp)) _ rfl)
        have x1 := x1.keep hC.fr ((Ex.callOff (as0 := []) (rt := [some ⟨b2, 0, none⟩, some ⟨b1, 0, none⟩]) hE (u := some ⟨b1, 0, none⟩) (by simp)) _ rfl)
        have hE : Ex w (Av [] No) [some ⟨b2, 0, none⟩, some ⟨b1, 0, none⟩] w4 := Ex.call (as0 := []) (rt := [some ⟨b2, 0, none⟩, some ⟨b1, 0, none⟩]) hE hC
        refine go1 ha rfl (d_assign ha rfl) fun a ha => ?_
        refine nil_ ?_
        refine hK6 _ _ ?_
        have ha := ha.to (l' := [(4, _)]) rfl
        refine wp_ret ?_
        have hs : Step [some ⟨b2, 0, none⟩, some ⟨b1, 0, none⟩] [] w4 w4 := Step.pick _ _ []
        have hE : Ex w (Av [] No) [] w4 := hE.pick [] (by decide)
        injection hF with hF
        subst hF
        refine fin1 ha Try.results7 rfl ?_
        exact ⟨rfl, hE⟩
      · refine wcond_f ha rfl (decide_eq_false hc2) ?_
        refine wp_skip ?_
        exact hK3 _ _ ⟨ha.to rfl, hE, x1, x2, hF⟩

def warderlaw02_NibbleOrders_j0 (k : Nat) (a0_0 : Int) (a0_1 : ByteArray) (a1_0 : Int) (a1_1 : ByteArray) (a2_0 : Int) (a2_1 : ByteArray) : Option (Bool) :=
  ((nibble_Less k a0_0 a0_1 a0_0 a0_1).bind fun t4 => (bif t4 then (some false) else ((nibble_Less k a0_0 a0_1 a1_0 a1_1).bind fun t5 => (bif t5 then ((nibble_Less k a1_0 a1_1 a2_0 a2_1).bind fun t6 => (bif t6 then ((nibble_Less k a0_0 a0_1 a2_0 a2_1).bind fun t7 => (bif !t7 then (some false) else ((warderlaw02_known k ).bind fun t8 => (some t8)))) else ((warderlaw02_known k ).bind fun t9 => (some t9)))) else ((warderlaw02_known k ).bind fun t10 => (some t10))))))

def warderlaw02_NibbleOrders (k : Nat) (a0_0 : Int) (a0_1 : ByteArray) (a1_0 : Int) (a1_1 : ByteArray) (a2_0 : Int) (a2_1 : ByteArray) : Option (Bool) :=
  (if (2000 : Int) < (a0_1.size : Int) then ((warderlaw02_known k ).bind fun t1 => (some t1)) else (if (2000 : Int) < (a1_1.size : Int) then ((warderlaw02_known k ).bind fun t2 => (some t2)) else (if (2000 : Int) < (a2_1.size : Int) then ((warderlaw02_known k ).bind fun t3 => (some t3)) else (warderlaw02_NibbleOrders_j0 k a0_0 a0_1 a1_0 a1_1 a2_0 a2_1))))
end Go.Proofs.Ytmljbiijlljhfaa
