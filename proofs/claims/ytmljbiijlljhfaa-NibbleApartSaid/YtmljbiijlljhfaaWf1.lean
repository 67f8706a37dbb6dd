/- Own work. A part of the proof of a law of this seat: The walk: what each function of the program comes to. -/
import Derived.Test.YtmljbiijlljhfaaProg
import Derived.Test.YtmljbiijlljhfaaWf
import Derived.Test.YtmljbiijlljhfaaBld
open Go Go.RowKit Go.Sx
namespace Go.Proofs.Ytmljbiijlljhfaa
set_option linter.unusedVariables false
set_option linter.unusedSimpArgs false

set_option maxHeartbeats 4000000 in
set_option maxRecDepth 100000 in
theorem nibble_Of_c (k : Nat) (a0_0 : Int) (a0_1 : ByteArray)  (W : Nat → Prop) (w : World) (hW : ∀ k, W k → k < w.heap.size) (r : (List Int)) (hF : nibble_Of k a0_0 a0_1 = some r) :
    Calls Try.prog 15 [.agg #[.int .i64 a0_0, .string a0_1]].toArray w (Ret fun v w' => ∃ (u1 : Option Addr) (d1 : Nat), v = .slice u1 r.length d1 ∧ Ex w (Av [] No) [u1] w' ∧ Ow (Av [u1] W) w' 5 (Kd.int .u8) u1 d1 r) := by
  unfold nibble_Of at hF
  refine enter [(0, .agg #[.int .i64 a0_0, .string a0_1])] Try.func15 rfl Try.ntmps15 rfl rfl fun a ha => ?_
  have hE : Ex w (Av [] No) [] w := Ex.refl w _
  have hW0 : ∀ p, some p ∈ ([] : List (Option Addr)) → ¬ W p.block := fun _ h => by cases h
  refine wp_seq_k (fun K1 hK1 => ?_)
  refine wreg ?_
  refine goR ha rfl (d_box (cs := [.int .i64 a0_0, .string a0_1]) ha rfl rfl) fun v w1 a h ha => ?_
  obtain ⟨b1, rfl, hb, hl, x1, hf⟩ := h
  have hs := Step.addB [] hf hb
  have hE := hE.addB hf hb hl
  refine go1 ha rfl (d_assign ha rfl) fun a ha => ?_
  refine nil_ ?_
  refine hK1 _ _ ?_
  have ha := ha.to (l' := [(1, _)]) rfl
  refine wp_seq_k (fun K2 hK2 => ?_)
  refine wp_seq_k (fun K3 hK3 => ?_)
  refine wreg ?_
  refine go1 ha rfl (d_loadAgg (cs := [.int .i64 a0_0, .string a0_1]) ha rfl (x1.at_.sub' 0 2 rfl) Try.isAgg29 Try.sizeOf29 rfl) fun a ha => ?_
  obtain ⟨t1, ht1, hF⟩ := bind_elim hF
  refine goR ha rfl (d_call Try.call16 ha (vs := [.agg #[.int .i64 a0_0, .string a0_1]]) rfl (nibble_May_c k a0_0 a0_1  (Av [some ⟨b1, 0, none⟩] W) _ (Ex.wlt (as0 := []) (rr := []) (ro := [some ⟨b1, 0, none⟩]) hE hW)  _ ht1)) fun v w2 a h ha => ?_
  obtain ⟨rfl, hC⟩ := h
  have hs : Step [some ⟨b1, 0, none⟩] [some ⟨b1, 0, none⟩] w1 w2 := hC.callStep [some ⟨b1, 0, none⟩]
  have x1 := x1.keep hC.fr ((Ex.callOff (as0 := []) (rt := [some ⟨b1, 0, none⟩]) hE (u := some ⟨b1, 0, none⟩) (by simp)) _ rfl)
  have hE : Ex w (Av [] No) [some ⟨b1, 0, none⟩] w2 := Ex.call (as0 := []) (rt := [some ⟨b1, 0, none⟩]) hE hC
  refine go1 ha rfl (d_not ha rfl) fun a ha => ?_
  refine nil_ ?_
  refine hK3 _ _ ?_
  have ha := ha.to (l' := [(1, _), (8, _)]) rfl
  rcases cond_elim hF with ⟨hc1, hF⟩ | ⟨hc1, hF⟩
  · refine wcond_t ha rfl hc1 ?_
    refine wp_seq_k (fun K4 hK4 => ?_)
    refine wreg ?_
    refine go1 ha rfl (d_assign ha rfl) fun a ha => ?_
    refine nil_ ?_
    refine hK4 _ _ ?_
    have ha := ha.to (l' := [(2, _)]) rfl
    refine wp_ret ?_
    have hs := Step.add (a := none) [some ⟨b1, 0, none⟩] (Fr.refl w2 No) (fun _ h => by cases h)
    have hE : Ex w (Av [] No) [none, some ⟨b1, 0, none⟩] w2 := hE.add (a := none) (Fr.refl w2 No) (fun _ h => by cases h)
    have o1 := Ow.nil (Av [none, some ⟨b1, 0, none⟩] W) w2 5 (Kd.int .u8)
    have hs : Step [none, some ⟨b1, 0, none⟩] [none] w2 w2 := Step.pick _ _ [0]
    have o1 := o1.keep (Fr.refl _ No) (fun _ _ h => h) (fun _ _ h => hs.trK h)
    have hE : Ex w (Av [] No) [none] w2 := hE.pick [0] (by decide)
    injection hF with hF
    subst hF
    refine fin1 ha Try.results15 rfl ?_
    exact ⟨_, _, rfl, hE, o1⟩
  · refine wcond_f ha rfl hc1 ?_
    refine wp_skip ?_
    refine hK2 _ _ ?_
    have ha := ha.to (l' := [(1, _)]) rfl
    refine wp_seq_k (fun K5 hK5 => ?_)
    obtain ⟨t2, ht2, hF⟩ := bind_elim hF
    obtain ⟨t3, ht3, hF⟩ := bind_elim hF
    obtain ⟨t4, ht4, hF⟩ := bind_elim hF
    refine drawnC 3 (by kernel_rfl) 9 (by decide) rfl (fun b a wI => HasB 35 [(1, .pointer (some ⟨b1, 0, none⟩))] [(0, 9, .agg #[.int .i64 a0_0, .string a0_1]), (1, 10, .int .u16 t2), (3, 12, .pointer (some ⟨b1, 1, none⟩)), (4, 13, .string a0_1), (5, 14, .int .i64 (a0_1.size : Int)), (7, 16, .pointer (some ⟨b1, 0, none⟩)), (8, 17, .int .i64 a0_0)] b a ∧ Ex w (Av [] No) [some ⟨b1, 0, none⟩] wI ∧ Fr w2 wI No ∧ Bx wI b1 29 [.int .i64 a0_0, .string a0_1] ∧ Sl b a 2 11 (fun v => ∃ (p1 : Option Addr) (c1 : Nat), v = .slice p1 t3.length c1 ∧ Raw (Av [some ⟨b1, 0, none⟩] (Old w)) (Kd.int .u8) wI.heap p1 c1 t3) ∧ Sl b a 6 15 (fun v => ∃ (p2 : Option Addr) (c2 : Nat), v = .slice p2 t4.length c2 ∧ Raw (Av [some ⟨b1, 0, none⟩] (Old w)) (Kd.int .u8) wI.heap p2 c2 t4)) ?_ (EachAt.all0 ?_) ?_
    · exact ⟨HasB.start (ha.to rfl) rfl, hE.drew, (Fr.refl _ No).drew, x1, Sl.start rfl, Sl.start rfl⟩
    · refine (EachAt.cons ?_ (EachAt.cons ?_ (EachAt.cons ?_ (EachAt.cons ?_ (EachAt.cons ?_ (EachAt.cons ?_ (EachAt.cons ?_ (EachAt.cons ?_ (EachAt.cons ?_ EachAt.nil)))))))))
      · intro b a wI hI hb hn hc
        obtain ⟨hB, hE, hr, x1, hp2, hp6⟩ := hI
        have ha : Has 35 [(1, .pointer (some ⟨b1, 0, none⟩))] a := hB.get [] (fun _ h => by cases h) _ rfl
        refine DoesG.plain rfl (Does.mono (d_loadAgg (cs := [.int .i64 a0_0, .string a0_1]) ha rfl (x1.at_.sub' 0 2 rfl) Try.isAgg29 Try.sizeOf29 rfl) ?_)
        rintro v wJ ⟨rfl, rfl⟩
        exact ⟨HasB.put hB 0 rfl rfl rfl rfl, hE, hr, x1, hp2.keep rfl rfl (fun _ h => h), hp6.keep rfl rfl (fun _ h => h)⟩
      · intro b a wI hI hb hn hc
        obtain ⟨hB, hE, hr, x1, hp2, hp6⟩ := hI
        have ha : Has 35 [(9, .agg #[.int .i64 a0_0, .string a0_1])] a := hB.get [0] (List.forall_mem_cons.2 ⟨(hn 0 (mem_needs rfl)), (fun _ h => by cases h)⟩) _ rfl
        refine DoesG.plain rfl (Does.mono (d_call Try.call18 ha (vs := [.agg #[.int .i64 a0_0, .string a0_1]]) rfl (nibble_Hash_c k a0_0 a0_1  (Av [some ⟨b1, 0, none⟩] W) _ (Ex.wlt (as0 := []) (rr := []) (ro := [some ⟨b1, 0, none⟩]) hE hW)  _ ht2)) ?_)
        intro v w3 h
        obtain ⟨rfl, hC⟩ := h
        have hfr : Fr wI w3 No := hC.fr.mono (fun _ _ h => by rcases h with h | ⟨_, h, _⟩; exact h; cases h)
        have hs : Step [some ⟨b1, 0, none⟩] [some ⟨b1, 0, none⟩] wI w3 := hC.callStep [some ⟨b1, 0, none⟩]
        have x1 := x1.keep hC.fr ((Ex.callOff (as0 := []) (rt := [some ⟨b1, 0, none⟩]) hE (u := some ⟨b1, 0, none⟩) (by simp)) _ rfl)
        have hE : Ex w (Av [] No) [some ⟨b1, 0, none⟩] w3 := Ex.call (as0 := []) (rt := [some ⟨b1, 0, none⟩]) hE hC
        exact ⟨HasB.put hB 1 rfl rfl rfl rfl, hE, hr.step hfr (fun _ _ h => h), x1, hp2.keep rfl rfl (fun _ ⟨p1, c1, e, r1⟩ => ⟨_, _, e, r1.step hfr.size (fun k hk _ => hfr.blk k hk id)⟩), hp6.keep rfl rfl (fun _ ⟨p2, c2, e, r2⟩ => ⟨_, _, e, r2.step hfr.size (fun k hk _ => hfr.blk k hk id)⟩)⟩
      · intro b a wI hI hb hn hc
        obtain ⟨hB, hE, hr, x1, hp2, hp6⟩ := hI
        have ha : Has 35 [(10, .int .u16 t2)] a := hB.get [1] (List.forall_mem_cons.2 ⟨(hn 1 (mem_needs rfl)), (fun _ h => by cases h)⟩) _ rfl
        refine DoesG.plain rfl (Does.mono (d_call Try.call29 ha (vs := [.int .u16 t2, .int .i64 (4 : Int)]) rfl (nibble_cut_uint16_c k t2 (4 : Int)  (Av [some ⟨b1, 0, none⟩] W) _ (Ex.wlt (as0 := []) (rr := []) (ro := [some ⟨b1, 0, none⟩]) hE hW)  _ ht3)) ?_)
        intro v w4 h
        obtain ⟨p1, c1, rfl, hC, o2⟩ := h
        have hfr : Fr wI w4 No := hC.fr.mono (fun _ _ h => by rcases h with h | ⟨_, h, _⟩; exact h; cases h)
        have hs : Step [some ⟨b1, 0, none⟩] [p1, some ⟨b1, 0, none⟩] wI w4 := hC.callStep [some ⟨b1, 0, none⟩]
        have x1 := x1.keep hC.fr ((Ex.callOff (as0 := []) (rt := [some ⟨b1, 0, none⟩]) hE (u := some ⟨b1, 0, none⟩) (by simp)) _ rfl)
        have o2 : Ow (Av [p1, some ⟨b1, 0, none⟩] W) w4 5 (Kd.int .u8) p1 c1 t3 := o2.alone (Kd.Flat.int _)
        have hE : Ex w (Av [] No) [p1, some ⟨b1, 0, none⟩] w4 := Ex.call (as0 := []) (rt := [some ⟨b1, 0, none⟩]) hE hC
        have r1 : Raw (Av [some ⟨b1, 0, none⟩] (Old w)) (Kd.int .u8) w4.heap p1 c1 t3 := o2.freeF (Kd.Flat.int _) hE 0 rfl
        have hs : Step [p1, some ⟨b1, 0, none⟩] [some ⟨b1, 0, none⟩] w4 w4 := Step.pick _ _ [1]
        have hE : Ex w (Av [] No) [some ⟨b1, 0, none⟩] w4 := hE.pick [1] (by decide)
        exact ⟨HasB.putR hB 2 rfl rfl rfl, hE, hr.step hfr (fun _ _ h => h), x1, Sl.new hB.has rfl ⟨_, _, rfl, r1⟩, hp6.keep rfl rfl (fun _ ⟨p2, c2, e, r2⟩ => ⟨_, _, e, r2.step hfr.size (fun k hk _ => hfr.blk k hk id)⟩)⟩
      · intro b a wI hI hb hn hc
        obtain ⟨hB, hE, hr, x1, hp2, hp6⟩ := hI
        have ha : Has 35 [(1, .pointer (some ⟨b1, 0, none⟩))] a := hB.get [] (fun _ h => by cases h) _ rfl
        refine DoesG.plain rfl (Does.mono (d_fieldAddr (o' := 1) ha rfl Try.underlying29 rfl Try.sizeOf9 rfl) ?_)
        rintro v wJ ⟨rfl, rfl⟩
        exact ⟨HasB.put hB 3 rfl rfl rfl rfl, hE, hr, x1, hp2.keep rfl rfl (fun _ h => h), hp6.keep rfl rfl (fun _ h => h)⟩
      · intro b a wI hI hb hn hc
        obtain ⟨hB, hE, hr, x1, hp2, hp6⟩ := hI
        have ha : Has 35 [(12, .pointer (some ⟨b1, 1, none⟩))] a := hB.get [3] (List.forall_mem_cons.2 ⟨(hn 3 (mem_needs rfl)), (fun _ h => by cases h)⟩) _ rfl
        refine DoesG.plain rfl (Does.mono (d_load ha rfl (x1.at_.cell 1 rfl) Try.isAgg9) ?_)
        rintro v wJ ⟨rfl, rfl⟩
        exact ⟨HasB.put hB 4 rfl rfl rfl rfl, hE, hr, x1, hp2.keep rfl rfl (fun _ h => h), hp6.keep rfl rfl (fun _ h => h)⟩
      · intro b a wI hI hb hn hc
        obtain ⟨hB, hE, hr, x1, hp2, hp6⟩ := hI
        have ha : Has 35 [(13, .string a0_1)] a := hB.get [4] (List.forall_mem_cons.2 ⟨(hn 4 (mem_needs rfl)), (fun _ h => by cases h)⟩) _ rfl
        refine DoesG.plain rfl (Does.mono (d_lenString ha Try.underlying9 rfl) ?_)
        rintro v wJ ⟨rfl, rfl⟩
        exact ⟨HasB.put hB 5 rfl rfl rfl rfl, hE, hr, x1, hp2.keep rfl rfl (fun _ h => h), hp6.keep rfl rfl (fun _ h => h)⟩
      · intro b a wI hI hb hn hc
        obtain ⟨hB, hE, hr, x1, hp2, hp6⟩ := hI
        have ha : Has 35 [(14, .int .i64 (a0_1.size : Int))] a := hB.get [5] (List.forall_mem_cons.2 ⟨(hn 5 (mem_needs rfl)), (fun _ h => by cases h)⟩) _ rfl
        refine DoesG.plain rfl (Does.mono (d_call Try.call30 ha (vs := [.int .i64 (a0_1.size : Int), .int .i64 (2 : Int)]) rfl (nibble_cut_int_c k (a0_1.size : Int) (2 : Int)  (Av [some ⟨b1, 0, none⟩] W) _ (Ex.wlt (as0 := []) (rr := []) (ro := [some ⟨b1, 0, none⟩]) hE hW)  _ ht4)) ?_)
        intro v w5 h
        obtain ⟨p2, c2, rfl, hC, o3⟩ := h
        have hfr : Fr wI w5 No := hC.fr.mono (fun _ _ h => by rcases h with h | ⟨_, h, _⟩; exact h; cases h)
        have hs : Step [some ⟨b1, 0, none⟩] [p2, some ⟨b1, 0, none⟩] wI w5 := hC.callStep [some ⟨b1, 0, none⟩]
        have x1 := x1.keep hC.fr ((Ex.callOff (as0 := []) (rt := [some ⟨b1, 0, none⟩]) hE (u := some ⟨b1, 0, none⟩) (by simp)) _ rfl)
        have o3 : Ow (Av [p2, some ⟨b1, 0, none⟩] W) w5 5 (Kd.int .u8) p2 c2 t4 := o3.alone (Kd.Flat.int _)
        have hE : Ex w (Av [] No) [p2, some ⟨b1, 0, none⟩] w5 := Ex.call (as0 := []) (rt := [some ⟨b1, 0, none⟩]) hE hC
        have r2 : Raw (Av [some ⟨b1, 0, none⟩] (Old w)) (Kd.int .u8) w5.heap p2 c2 t4 := o3.freeF (Kd.Flat.int _) hE 0 rfl
        have hs : Step [p2, some ⟨b1, 0, none⟩] [some ⟨b1, 0, none⟩] w5 w5 := Step.pick _ _ [1]
        have hE : Ex w (Av [] No) [some ⟨b1, 0, none⟩] w5 := hE.pick [1] (by decide)
        exact ⟨HasB.putR hB 6 rfl rfl rfl, hE, hr.step hfr (fun _ _ h => h), x1, hp2.keep rfl rfl (fun _ ⟨p1, c1, e, r1⟩ => ⟨_, _, e, r1.step hfr.size (fun k hk _ => hfr.blk k hk id)⟩), Sl.new hB.has rfl ⟨_, _, rfl, r2⟩⟩
      · intro b a wI hI hb hn hc
        obtain ⟨hB, hE, hr, x1, hp2, hp6⟩ := hI
        have ha : Has 35 [(1, .pointer (some ⟨b1, 0, none⟩))] a := hB.get [] (fun _ h => by cases h) _ rfl
        refine DoesG.plain rfl (Does.mono (d_fieldAddr (o' := 0) ha rfl Try.underlying29 rfl Try.sizeOf27 rfl) ?_)
        rintro v wJ ⟨rfl, rfl⟩
        exact ⟨HasB.put hB 7 rfl rfl rfl rfl, hE, hr, x1, hp2.keep rfl rfl (fun _ h => h), hp6.keep rfl rfl (fun _ h => h)⟩
      · intro b a wI hI hb hn hc
        obtain ⟨hB, hE, hr, x1, hp2, hp6⟩ := hI
        have ha : Has 35 [(16, .pointer (some ⟨b1, 0, none⟩))] a := hB.get [7] (List.forall_mem_cons.2 ⟨(hn 7 (mem_needs rfl)), (fun _ h => by cases h)⟩) _ rfl
        refine DoesG.plain rfl (Does.mono (d_load ha rfl (x1.at_.cell 0 rfl) Try.isAgg27) ?_)
        rintro v wJ ⟨rfl, rfl⟩
        exact ⟨HasB.put hB 8 rfl rfl rfl rfl, hE, hr, x1, hp2.keep rfl rfl (fun _ h => h), hp6.keep rfl rfl (fun _ h => h)⟩
    · intro b a w6 hb hI
      obtain ⟨hB, hE, hr, x1, hp2, hp6⟩ := hI
      have ha : Has 35 [(9, .agg #[.int .i64 a0_0, .string a0_1]), (10, .int .u16 t2), (12, .pointer (some ⟨b1, 1, none⟩)), (13, .string a0_1), (14, .int .i64 (a0_1.size : Int)), (16, .pointer (some ⟨b1, 0, none⟩)), (17, .int .i64 a0_0), (1, .pointer (some ⟨b1, 0, none⟩))] a := hB.get [0, 1, 3, 4, 5, 7, 8] (List.forall_mem_cons.2 ⟨(hb 0 (by decide) (by decide)), (List.forall_mem_cons.2 ⟨(hb 1 (by decide) (by decide)), (List.forall_mem_cons.2 ⟨(hb 3 (by decide) (by decide)), (List.forall_mem_cons.2 ⟨(hb 4 (by decide) (by decide)), (List.forall_mem_cons.2 ⟨(hb 5 (by decide) (by decide)), (List.forall_mem_cons.2 ⟨(hb 7 (by decide) (by decide)), (List.forall_mem_cons.2 ⟨(hb 8 (by decide) (by decide)), (fun _ h => by cases h)⟩)⟩)⟩)⟩)⟩)⟩)⟩) _ rfl
      obtain ⟨p1, c1, hs, r1⟩ := hp2 (hb 2 (by decide) (by decide))
      have ha := ha.know hs
      obtain ⟨p2, c2, hs, r2⟩ := hp6 (hb 6 (by decide) (by decide))
      have ha := ha.know hs
      obtain ⟨t5, ht5, hF⟩ := bind_elim hF
      refine goR ha rfl (d_call Try.call31 ha (vs := [.int .i64 a0_0, .int .i64 (1 : Int)]) rfl (nibble_cut_api_KeyType_c k a0_0 (1 : Int)  (Av [some ⟨b1, 0, none⟩] W) _ (Ex.wlt (as0 := []) (rr := []) (ro := [some ⟨b1, 0, none⟩]) hE hW)  _ ht5)) fun v w7 a h ha => ?_
      obtain ⟨p3, c3, rfl, hC, o4⟩ := h
      have hs : Step [some ⟨b1, 0, none⟩] [p3, some ⟨b1, 0, none⟩] w6 w7 := hC.callStep [some ⟨b1, 0, none⟩]
      have r1 := hs.tr r1
      have r2 := hs.tr r2
      have x1 := x1.keep hC.fr ((Ex.callOff (as0 := []) (rt := [some ⟨b1, 0, none⟩]) hE (u := some ⟨b1, 0, none⟩) (by simp)) _ rfl)
      have o4 : Ow (Av [p3, some ⟨b1, 0, none⟩] W) w7 5 (Kd.int .u8) p3 c3 t5 := o4.alone (Kd.Flat.int _)
      have hE : Ex w (Av [] No) [p3, some ⟨b1, 0, none⟩] w7 := Ex.call (as0 := []) (rt := [some ⟨b1, 0, none⟩]) hE hC
      have r3 : Raw (Av [some ⟨b1, 0, none⟩] (Old w)) (Kd.int .u8) w7.heap p3 c3 t5 := o4.freeF (Kd.Flat.int _) hE 0 rfl
      have hs : Step [p3, some ⟨b1, 0, none⟩] [some ⟨b1, 0, none⟩] w7 w7 := Step.pick _ _ [1]
      have r1 := hs.tr r1
      have r2 := hs.tr r2
      have hE : Ex w (Av [] No) [some ⟨b1, 0, none⟩] w7 := hE.pick [1] (by decide)
      refine goR ha rfl (d_buildSlice (B := W) (kd := (Kd.sl (Kd.int .u8))) (xs := ([t3, t4, t5] : List (List Int))) (vs := [.slice p1 t3.length c1, .slice p2 t4.length c2, .slice p3 t5.length c3]) ha Try.underlying62 Try.sizeOf22 Try.zeroValue22 rfl (Els.cons (c := [.slice p1 t3.length c1]) (⟨_, _, rfl, r1.toW hW⟩) (Els.cons (c := [.slice p2 t4.length c2]) (⟨_, _, rfl, r2.toW hW⟩) (Els.cons (c := [.slice p3 t5.length c3]) (⟨_, _, rfl, r3.toW hW⟩) Els.nil))) (by simp [Value.cells, Kd.int, Kd.scalar, Kd.bool, Kd.str, Kd.pair, Kd.sl]) rfl rfl (by decide) (by decide) hE) fun v w8 a h ha => ?_
      obtain ⟨p4, c4, rfl, hs, hE, hf, o5⟩ := h
      have r1 := hs.tr r1
      have r2 := hs.tr r2
      have r3 := hs.tr r3
      have x1 := x1.stay hf
      obtain ⟨t6, ht6, hF⟩ := bind_elim hF
      refine goR ha rfl (d_call Try.call28 ha (vs := [.slice p4 ([t3, t4, t5] : List (List Int)).length c4]) rfl (slices_Concat_byte_byte_c k ([t3, t4, t5] : List (List Int)) _ _ (Av [some ⟨b1, 0, none⟩] W) _ (Ex.wlt (as0 := []) (rr := [p4]) (ro := [some ⟨b1, 0, none⟩]) hE hW) (Ow.argR (as0 := []) (rr := [p4]) (ro := [some ⟨b1, 0, none⟩]) o5 hE hW hW0 (by simp)) _ ht6)) fun v w9 a h ha => ?_
      obtain ⟨p5, c5, rfl, hC, o6⟩ := h
      have hs : Step [p4, some ⟨b1, 0, none⟩] [p5, p4, some ⟨b1, 0, none⟩] w8 w9 := hC.callStep [p4, some ⟨b1, 0, none⟩]
      have r1 := hs.tr r1
      have r2 := hs.tr r2
      have r3 := hs.tr r3
      have o5 := o5.keep hC.fr (Ex.callOff (as0 := []) (rt := [p4, some ⟨b1, 0, none⟩]) hE (u := p4) (by simp)) (fun _ _ h => hs.trK h)
      have x1 := x1.keep hC.fr ((Ex.callOff (as0 := []) (rt := [p4, some ⟨b1, 0, none⟩]) hE (u := some ⟨b1, 0, none⟩) (by simp)) _ rfl)
      have o6 : Ow (Av [p5, p4, some ⟨b1, 0, none⟩] W) w9 5 (Kd.int .u8) p5 c5 t6 := o6.alone (Kd.Flat.int _)
      have hE : Ex w (Av [] No) [p5, p4, some ⟨b1, 0, none⟩] w9 := Ex.call (as0 := []) (rt := [p4, some ⟨b1, 0, none⟩]) hE hC
      refine go1 ha rfl (d_assign ha rfl) fun a ha => ?_
      refine nil_ ?_
      refine hK5 _ _ ?_
      have ha := ha.to (l' := [(1, _), (3, _)]) rfl
      refine wp_seq_k (fun K6 hK6 => ?_)
      refine wp_seq_k (fun K7 hK7 => ?_)
      refine wreg ?_
      refine go1 ha rfl (d_fieldAddr (o' := 1) ha rfl Try.underlying29 rfl Try.sizeOf9 rfl) fun a ha => ?_
      refine go1 ha rfl (d_load ha rfl (x1.at_.cell 1 rfl) Try.isAgg9) fun a ha => ?_
      obtain ⟨hc2, hF⟩ := ck_elim hF
      refine goR ha rfl (d_s2b ha Try.underlying9 Try.underlying22 Try.underlying5 rfl hc2) fun v w10 a h ha => ?_
      obtain ⟨p6, c6, rfl, hf, r4⟩ := h
      have r4 := r4.newF hE
      have hs := Step.more [p5, p4, some ⟨b1, 0, none⟩] hf
      have r1 := hs.tr r1
      have r2 := hs.tr r2
      have r3 := hs.tr r3
      have o6 := o6.keep hf (fun _ _ h => h) (fun _ _ h => hs.trK h)
      have o5 := o5.keep hf (fun _ _ h => h) (fun _ _ h => hs.trK h)
      have x1 := x1.stay hf
      have hE := hE.more hf
      refine go1 ha rfl (d_lenSlice ha Try.underlying22 rfl) fun a ha => ?_
      refine go1 ha rfl (d_move ha rfl) fun a ha => ?_
      refine nil_ ?_
      refine hK7 _ _ ?_
      have ha := ha.to (l' := [(3, _), (23, _), (24, _), (25, _)]) rfl
      refine wp_block ?_
      have hs : Step [p5, p4, some ⟨b1, 0, none⟩] [p5] w10 w10 := Step.pick _ _ [0]
      have r1 := hs.tr r1
      have r2 := hs.tr r2
      have r3 := hs.tr r3
      have r4 := hs.tr r4
      have o6 := o6.keep (Fr.refl _ No) (fun _ _ h => h) (fun _ _ h => hs.trK h)
      have hE : Ex w (Av [] No) [p5] w10 := hE.pick [0] (by decide)
      refine wloopJ (fun k' a w11 => ∃ (x2 : List Int) (p7 : Option Addr) (c7 : Nat) (x3 : Int), Has 35 [(3, .slice p7 x2.length c7), (23, .slice p6 (bytesOf a0_1).length c6), (24, .int .i64 ((bytesOf a0_1).length : Int)), (25, .int .i64 x3)] a ∧ Ex w (Av [] No) [p7] w11 ∧ Raw (Av [p7] (Old w)) (Kd.int .u8) w11.heap p6 c6 (bytesOf a0_1) ∧ Ow (Av [p7] W) w11 5 (Kd.int .u8) p7 c7 x2 ∧ nibble_Of_l0 k a0_1 k' x2 x3 = some r) k ⟨t6, _, _, (0 : Int), ha.to rfl, hE, r4, o6, hF⟩ ?_
      rintro k1 a w11 ⟨x2, p7, c7, x3, ha, hE, r4, o7, hF⟩ K8 hK8
      cases k1 with
      | zero => cases hF
      | succ k1 =>
        rw [nibble_Of_l0] at hF
        refine wp_seq_k (fun K9 hK9 => ?_)
        refine wreg ?_
        refine go1 ha rfl (d_lt ha rfl rfl) fun a ha => ?_
        refine nil_ ?_
        refine hK9 _ _ ?_
        have ha := ha.to (l' := [(3, _), (23, _), (24, _), (25, _), (26, _)]) rfl
        refine wp_seq_k (fun K10 hK10 => ?_)
        rcases ite_elim hF with ⟨hc3, hF⟩ | ⟨hc3, hF⟩
        · refine wcond_t ha rfl (decide_eq_true hc3) ?_
          refine wp_skip ?_
          refine hK10 _ _ ?_
          have ha := ha.to (l' := [(3, _), (23, _), (24, _), (25, _)]) rfl
          refine wp_seq_k (fun K11 hK11 => ?_)
          refine wp_block ?_
          refine wp_seq_k (fun K12 hK12 => ?_)
          refine wreg ?_
          obtain ⟨hc4, hF⟩ := ck_elim hF
          refine goS ha rfl (d_index (kd := (Kd.int .u8)) ha rfl rfl Try.underlying22 Try.sizeOf5 r4 hc4 (0 : Int)) fun v a h ha => ?_
          obtain ⟨b2, q1, cs1, rfl, _, hk1, at1⟩ := h
          obtain rfl := hk1
          refine go1 ha rfl (d_load ha rfl (at1.cell 0 rfl) Try.isAgg5) fun a ha => ?_
          refine go1 ha rfl (d_assign ha rfl) fun a ha => ?_
          refine nil_ ?_
          refine hK12 _ _ ?_
          have ha := ha.to (l' := [(3, _), (5, _), (23, _), (24, _), (25, _)]) rfl
          refine wreg ?_
          refine go1 ha rfl (d_move ha rfl) fun a ha => ?_
          refine go1 ha rfl (d_move ha rfl) fun a ha => ?_
          obtain ⟨t7, ht7, hF⟩ := bind_elim hF
          refine goR ha rfl (d_call Try.call32 ha (vs := [.int .u8 ((bytesOf a0_1).getD (x3).toNat (0 : Int)), .int .i64 (2 : Int)]) rfl (nibble_cut_byte_c k ((bytesOf a0_1).getD (x3).toNat (0 : Int)) (2 : Int)  (Av [p7] W) _ (Ex.wlt (as0 := []) (rr := []) (ro := [p7]) hE hW)  _ ht7)) fun v w12 a h ha => ?_
          obtain ⟨p8, c8, rfl, hC, o8⟩ := h
          have hs : Step [p7] [p8, p7] w11 w12 := hC.callStep [p7]
          have r4 := hs.tr r4
          have o7 := o7.keep hC.fr (Ex.callOff (as0 := []) (rt := [p7]) hE (u := p7) (by simp)) (fun _ _ h => hs.trK h)
          have o8 : Ow (Av [p8, p7] W) w12 5 (Kd.int .u8) p8 c8 t7 := o8.alone (Kd.Flat.int _)
          have hE : Ex w (Av [] No) [p8, p7] w12 := Ex.call (as0 := []) (rt := [p7]) hE hC
          obtain ⟨hc5, hF⟩ := ck_elim hF
          refine goR ha rfl (d_append (B := W) (kd := (Kd.int .u8)) (zv := .int .u8 (0 : Int)) (bytes := 1) (lf := [p8]) (rt := []) (fun q => [p8, q]) (fun _ => rfl) ha Try.underlying22 (by kernel_rfl) rfl (by decide) (by decide) rfl rfl hE o7 o8.rawNo (fun _ _ h => ((Kd.Flat.int _)).eq h) hc5) fun v w13 a h ha => ?_
          obtain ⟨p9, c9, rfl, hs, hE1, hf, o7⟩ := h
          have r4 := hs.tr r4
          have o8 := o8.keep hf (hE.off 1 0 rfl rfl (by decide)) (fun _ _ h => hs.trK h)
          have hE := hE1
          refine go1 ha rfl (d_assign ha rfl) fun a ha => ?_
          refine nil_ ?_
          refine hK11 _ _ ?_
          have ha := ha.to (l' := [(3, _), (23, _), (24, _), (25, _)]) rfl
          refine wreg ?_
          refine go1 ha rfl (d_add ha rfl rfl) fun a ha => ?_
          refine go1 ha rfl (d_move ha rfl) fun a ha => ?_
          refine nil_ ?_
          have hs : Step [p8, p9] [p9] w13 w13 := Step.pick _ _ [1]
          have r4 := hs.tr r4
          have o7 := o7.keep (Fr.refl _ No) (fun _ _ h => h) (fun _ _ h => hs.trK h)
          have hE : Ex w (Av [] No) [p9] w13 := hE.pick [1] (by decide)
          exact hK8 k1 _ _ (Nat.lt_succ_self _) ⟨(x2 ++ t7), _, _, (IntKind.i64.wrap (x3 + (1 : Int))), ha.to rfl, hE, r4, o7, hF⟩
        · refine wcond_f ha rfl (decide_eq_false hc3) ?_
          refine wp_exit ?_
          refine hK6 _ _ ?_
          have ha := ha.to (l' := [(3, _)]) rfl
          refine wp_seq_k (fun K13 hK13 => ?_)
          refine wreg ?_
          refine go1 ha rfl (d_move ha rfl) fun a ha => ?_
          refine go1 ha rfl (d_assign ha rfl) fun a ha => ?_
          refine nil_ ?_
          refine hK13 _ _ ?_
          have ha := ha.to (l' := [(2, _)]) rfl
          refine wp_ret ?_
          injection hF with hF
          subst hF
          refine fin1 ha Try.results15 rfl ?_
          exact ⟨_, _, rfl, hE, o7⟩

def warderref02_May_l1 (k : Nat) (a0_1 : ByteArray) : Nat → Int → Option (Bool)
  | 0, _ => none
  | k1 + 1, x2 =>
    (if x2 < (a0_1.size : Int) then (ck (0 ≤ x2 ∧ x2 < (a0_1.size : Int)) (if ((bytesOf a0_1).getD (x2).toNat 0) < (33 : Int) then (some false) else (ck (0 ≤ x2 ∧ x2 < (a0_1.size : Int)) (if (126 : Int) < ((bytesOf a0_1).getD (x2).toNat 0) then (some false) else (ck (0 ≤ x2 ∧ x2 < (a0_1.size : Int)) (if ((bytesOf a0_1).getD (x2).toNat 0) = (59 : Int) then (some false) else (warderref02_May_l1 k a0_1 k1 (IntKind.i64.wrap (x2 + (1 : Int)))))))))) else (some true))

def warderref02_May_j0 (k : Nat) (a0_1 : ByteArray) : Option (Bool) :=
  (warderref02_May_l1 k a0_1 k (0 : Int))

def warderref02_May (k : Nat) (a0_0 : Int) (a0_1 : ByteArray) : Option (Bool) :=
  (if a0_0 < (1 : Int) then (some false) else (if (4 : Int) < a0_0 then (some false) else (if (a0_1.size : Int) < (1 : Int) then (some false) else (if (32 : Int) < (a0_1.size : Int) then (some false) else (warderref02_May_j0 k a0_1)))))

set_option maxHeartbeats 4000000 in
set_option maxRecDepth 100000 in
theorem warderref02_May_c (k : Nat) (a0_0 : Int) (a0_1 : ByteArray)  (W : Nat → Prop) (w : World) (hW : ∀ k, W k → k < w.heap.size) (r : Bool) (hF : warderref02_May k a0_0 a0_1 = some r) :
    Calls Try.prog 17 [.agg #[.int .i64 a0_0, .string a0_1]].toArray w (Ret fun v w' => v = .bool r ∧ Ex w (Av [] No) [] w') := by
  unfold warderref02_May at hF
  refine enter [(0, .agg #[.int .i64 a0_0, .string a0_1])] Try.func17 rfl Try.ntmps17 rfl rfl fun a ha => ?_
  have hE : Ex w (Av [] No) [] w := Ex.refl w _
  have hW0 : ∀ p, some p ∈ ([] : List (Option Addr)) → ¬ W p.block := fun _ h => by cases h
  refine wp_seq_k (fun K1 hK1 => ?_)
  refine wreg ?_
  refine goR ha rfl (d_box (cs := [.int .i64 a0_0, .string a0_1]) ha rfl rfl) fun v w1 a h ha => ?_
  obtain ⟨b1, rfl, hb, hl, x1, hf⟩ := h
  have hs := Step.addB [] hf hb
  have hE := hE.addB hf hb hl
  refine go1 ha rfl (d_assign ha rfl) fun a ha => ?_
  refine nil_ ?_
  refine hK1 _ _ ?_
  have ha := ha.to (l' := [(1, _)]) rfl
  refine wseqJ (fun a w2 => Has 50 [(1, .pointer (some ⟨b1, 0, none⟩))] a ∧ Ex w (Av [] No) [some ⟨b1, 0, none⟩] w2 ∧ Bx w2 b1 29 [.int .i64 a0_0, .string a0_1] ∧ warderref02_May_j0 k a0_1 = some r) ?_ ?_
  · rintro a w2 ⟨ha, hE, x1, hF⟩
    unfold warderref02_May_j0 at hF
    refine wp_seq_k (fun K9 hK9 => ?_)
    refine wp_seq_k (fun K10 hK10 => ?_)
    refine wreg ?_
    refine go1 ha rfl (d_assign ha rfl) fun a ha => ?_
    refine nil_ ?_
    refine hK10 _ _ ?_
    have ha := ha.to (l' := [(1, _), (3, _)]) rfl
    refine wp_block ?_
    refine wloopJ (fun k' a w3 => ∃ (x2 : Int), Has 50 [(1, .pointer (some ⟨b1, 0, none⟩)), (3, .int .i64 x2)] a ∧ Ex w (Av [] No) [some ⟨b1, 0, none⟩] w3 ∧ Bx w3 b1 29 [.int .i64 a0_0, .string a0_1] ∧ warderref02_May_l1 k a0_1 k' x2 = some r) k ⟨(0 : Int), ha.to rfl, hE, x1, hF⟩ ?_
    rintro k1 a w3 ⟨x2, ha, hE, x1, hF⟩ K11 hK11
    cases k1 with
    | zero => cases hF
    | succ k1 =>
      rw [warderref02_May_l1] at hF
      refine wp_seq_k (fun K12 hK12 => ?_)
      refine wp_seq_k (fun K13 hK13 => ?_)
      refine wreg ?_
      refine go1 ha rfl (d_move ha rfl) fun a ha => ?_
      refine go1 ha rfl (d_fieldAddr (o' := 1) ha rfl Try.underlying29 rfl Try.sizeOf9 rfl) fun a ha => ?_
      refine go1 ha rfl (d_load ha rfl (x1.at_.cell 1 rfl) Try.isAgg9) fun a ha => ?_
      refine go1 ha rfl (d_lenString ha Try.underlying9 rfl) fun a ha => ?_
      refine go1 ha rfl (d_lt ha rfl rfl) fun a ha => ?_
      refine nil_ ?_
      refine hK13 _ _ ?_
      have ha := ha.to (l' := [(1, _), (3, _), (28, _)]) rfl
      rcases ite_elim hF with ⟨hc5, hF⟩ | ⟨hc5, hF⟩
      · refine wcond_t ha rfl (decide_eq_true hc5) ?_
        refine wp_skip ?_
        refine hK12 _ _ ?_
        have ha := ha.to (l' := [(1, _), (3, _)]) rfl
        refine wp_seq_k (fun K14 hK14 => ?_)
        refine wp_block ?_
        refine wp_seq_k (fun K15 hK15 => ?_)
        refine wreg ?_
        refine go1 ha rfl (d_fieldAddr (o' := 1) ha rfl Try.underlying29 rfl Try.sizeOf9 rfl) fun a ha => ?_
        refine go1 ha rfl (d_load ha rfl (x1.at_.cell 1 rfl) Try.isAgg9) fun a ha => ?_
        refine go1 ha rfl (d_move ha rfl) fun a ha => ?_
        obtain ⟨hc6, hF⟩ := ck_elim hF
        refine go1 ha rfl (d_strIndex ha Try.underlying9 rfl rfl hc6) fun a ha => ?_
        refine go1 ha rfl (d_lt ha rfl rfl) fun a ha => ?_
        refine go1 ha rfl (d_move ha rfl) fun a ha => ?_
        rcases ite_elim hF with ⟨hc7, hF⟩ | ⟨hc7, hF⟩
        · refine goOff ha rfl rfl rfl rfl (decide_eq_true hc7) fun a ha => ?_
          refine goOff ha rfl rfl rfl rfl (decide_eq_true hc7) fun a ha => ?_
          refine goOff ha rfl rfl rfl rfl (decide_eq_true hc7) fun a ha => ?_
          refine goOff ha rfl rfl rfl rfl (decide_eq_true hc7) fun a ha => ?_
          refine goOff ha rfl rfl rfl rfl (decide_eq_true hc7) fun a ha => ?_
          refine go1 ha rfl (d_pick ha rfl (decide_eq_true hc7) rfl) fun a ha => ?_
          refine go1 ha rfl (d_move ha rfl) fun a ha => ?_
          refine goOff ha rfl rfl rfl rfl rfl fun a ha => ?_
          refine goOff ha rfl rfl rfl rfl rfl fun a ha => ?_
          refine goOff ha rfl rfl rfl rfl rfl fun a ha => ?_
          refine goOff ha rfl rfl rfl rfl rfl fun a ha => ?_
          refine goOff ha rfl rfl rfl rfl rfl fun a ha => ?_
          refine go1 ha rfl (d_pick ha rfl rfl rfl) fun a ha => ?_
          refine nil_ ?_
          refine hK15 _ _ ?_
          have ha := ha.to (l' := [(1, _), (3, _), (49, _)]) rfl
          refine wcond_t ha rfl rfl ?_
          refine wp_seq_k (fun K16 hK16 => ?_)
          refine wreg ?_
          refine go1 ha rfl (d_assign ha rfl) fun a ha => ?_
          refine nil_ ?_
          refine hK16 _ _ ?_
          have ha := ha.to (l' := [(2, _)]) rfl
          refine wp_ret ?_
          have hs : Step [some ⟨b1, 0, none⟩] [] w3 w3 := Step.pick _ _ []
          have hE : Ex w (Av [] No) [] w3 := hE.pick [] (by decide)
          injection hF with hF
          subst hF
          refine fin1 ha Try.results17 rfl ?_
          exact ⟨rfl, hE⟩
        · refine goOn1 ha rfl rfl rfl rfl (decide_eq_false hc7) (d_fieldAddr (o' := 1) ha rfl Try.underlying29 rfl Try.sizeOf9 rfl) fun a ha => ?_
          refine goOn1 ha rfl rfl rfl rfl (decide_eq_false hc7) (d_load ha rfl (x1.at_.cell 1 rfl) Try.isAgg9) fun a ha => ?_
          refine goOn1 ha rfl rfl rfl rfl (decide_eq_false hc7) (d_move ha rfl) fun a ha => ?_
          obtain ⟨hc8, hF⟩ := ck_elim hF
          refine goOn1 ha rfl rfl rfl rfl (decide_eq_false hc7) (d_strIndex ha Try.underlying9 rfl rfl hc8) fun a ha => ?_
          refine goOn1 ha rfl rfl rfl rfl (decide_eq_false hc7) (d_gt ha rfl rfl) fun a ha => ?_
          refine go1 ha rfl (d_pickF ha rfl (decide_eq_false hc7) rfl) fun a ha => ?_
          refine go1 ha rfl (d_move ha rfl) fun a ha => ?_
          rcases ite_elim hF with ⟨hc9, hF⟩ | ⟨hc9, hF⟩
          · refine goOff ha rfl rfl rfl rfl (decide_eq_true hc9) fun a ha => ?_
            refine goOff ha rfl rfl rfl rfl (decide_eq_true hc9) fun a ha => ?_
            refine goOff ha rfl rfl rfl rfl (decide_eq_true hc9) fun a ha => ?_
            refine goOff ha rfl rfl rfl rfl (decide_eq_true hc9) fun a ha => ?_
            refine goOff ha rfl rfl rfl rfl (decide_eq_true hc9) fun a ha => ?_
            refine go1 ha rfl (d_pick ha rfl (decide_eq_true hc9) rfl) fun a ha => ?_
            refine nil_ ?_
            refine hK15 _ _ ?_
            have ha := ha.to (l' := [(1, _), (3, _), (49, _)]) rfl
            refine wcond_t ha rfl rfl ?_
            refine wp_seq_k (fun K17 hK17 => ?_)
            refine wreg ?_
            refine go1 ha rfl (d_assign ha rfl) fun a ha => ?_
            refine nil_ ?_
            refine hK17 _ _ ?_
            have ha := ha.to (l' := [(2, _)]) rfl
            refine wp_ret ?_
            have hs : Step [some ⟨b1, 0, none⟩] [] w3 w3 := Step.pick _ _ []
            have hE : Ex w (Av [] No) [] w3 := hE.pick [] (by decide)
            injection hF with hF
            subst hF
            refine fin1 ha Try.results17 rfl ?_
            exact ⟨rfl, hE⟩
          · refine goOn1 ha rfl rfl rfl rfl (decide_eq_false hc9) (d_fieldAddr (o' := 1) ha rfl Try.underlying29 rfl Try.sizeOf9 rfl) fun a ha => ?_
            refine goOn1 ha rfl rfl rfl rfl (decide_eq_false hc9) (d_load ha rfl (x1.at_.cell 1 rfl) Try.isAgg9) fun a ha => ?_
            refine goOn1 ha rfl rfl rfl rfl (decide_eq_false hc9) (d_move ha rfl) fun a ha => ?_
            obtain ⟨hc10, hF⟩ := ck_elim hF
            refine goOn1 ha rfl rfl rfl rfl (decide_eq_false hc9) (d_strIndex ha Try.underlying9 rfl rfl hc10) fun a ha => ?_
            refine goOn1 ha rfl rfl rfl rfl (decide_eq_false hc9) (d_eqI ha rfl rfl) fun a ha => ?_
            refine go1 ha rfl (d_pickF ha rfl (decide_eq_false hc9) rfl) fun a ha => ?_
            refine nil_ ?_
            refine hK15 _ _ ?_
            have ha := ha.to (l' := [(1, _), (3, _), (49, _)]) rfl
            rcases ite_elim hF with ⟨hc11, hF⟩ | ⟨hc11, hF⟩
            · refine wcond_t ha rfl (decide_eq_true hc11) ?_
              refine wp_seq_k (fun K18 hK18 => ?_)
              refine wreg ?_
              refine go1 ha rfl (d_assign ha rfl) fun a ha => ?_
              refine nil_ ?_
              refine hK18 _ _ ?_
              have ha := ha.to (l' := [(2, _)]) rfl
              refine wp_ret ?_
              have hs : Step [some ⟨b1, 0, none⟩] [] w3 w3 := Step.pick _ _ []
              have hE : Ex w (Av [] No) [] w3 := hE.pick [] (by decide)
              injection hF with hF
              subst hF
              refine fin1 ha Try.results17 rfl ?_
              exact ⟨rfl, hE⟩
            · refine wcond_f ha rfl (decide_eq_false hc11) ?_
              refine wp_skip ?_
              refine hK14 _ _ ?_
              have ha := ha.to (l' := [(1, _), (3, _)]) rfl
              refine wreg ?_
              refine go1 ha rfl (d_move ha rfl) fun a ha => ?_
              refine go1 ha rfl (d_add ha rfl rfl) fun a ha => ?_
              refine go1 ha rfl (d_assign ha rfl) fun a ha => ?_
              refine nil_ ?_
              exact hK11 k1 _ _ (Nat.lt_succ_self _) ⟨(IntKind.i64.wrap (x2 + (1 : Int))), ha.to rfl, hE, x1, hF⟩
      · refine wcond_f ha rfl (decide_eq_false hc5) ?_
        refine wp_exit ?_
        refine hK9 _ _ ?_
        have ha := ha.to (l' := []) rfl
        refine wp_seq_k (fun K19 hK19 => ?_)
        refine wreg ?_
        refine go1 ha rfl (d_assign ha rfl) fun a ha => ?_
        refine nil_ ?_
        refine hK19 _ _ ?_
        have ha := ha.to (l' := [(2, _)]) rfl
        refine wp_ret ?_
        have hs : Step [some ⟨b1, 0, none⟩] [] w3 w3 := Step.pick _ _ []
        have hE : Ex w (Av [] No) [] w3 := hE.pick [] (by decide)
        injection hF with hF
        subst hF
        refine fin1 ha Try.results17 rfl ?_
        exact ⟨rfl, hE⟩
  · intro K3 hK3
    refine wp_seq_k (fun K4 hK4 => ?_)
    refine wreg ?_
    refine go1 ha rfl (d_fieldAddr (o' := 0) ha rfl Try.underlying29 rfl Try.sizeOf27 rfl) fun a ha => ?_
    refine go1 ha rfl (d_load ha rfl (x1.at_.cell 0 rfl) Try.isAgg27) fun a ha => ?_
    refine go1 ha rfl (d_lt ha rfl rfl) fun a ha => ?_
    refine go1 ha rfl (d_move ha rfl) fun a ha => ?_
    rcases ite_elim hF with ⟨hc1, hF⟩ | ⟨hc1, hF⟩
    · refine goOff ha rfl rfl rfl rfl (decide_eq_true hc1) fun a ha => ?_
      refine goOff ha rfl rfl rfl rfl (decide_eq_true hc1) fun a ha => ?_
      refine goOff ha rfl rfl rfl rfl (decide_eq_true hc1) fun a ha => ?_
      refine go1 ha rfl (d_pick ha rfl (decide_eq_true hc1) rfl) fun a ha => ?_
      refine go1 ha rfl (d_move ha rfl) fun a ha => ?_
      refine goOff ha rfl rfl rfl rfl rfl fun a ha => ?_
      refine goOff ha rfl rfl rfl rfl rfl fun a ha => ?_
      refine goOff ha rfl rfl rfl rfl rfl fun a ha => ?_
      refine goOff ha rfl rfl rfl rfl rfl fun a ha => ?_
      refine go1 ha rfl (d_pick ha rfl rfl rfl) fun a ha => ?_
      refine go1 ha rfl (d_move ha rfl) fun a ha => ?_
      refine goOff ha rfl rfl rfl rfl rfl fun a ha => ?_
      refine goOff ha rfl rfl rfl rfl rfl fun a ha => ?_
      refine goOff ha rfl rfl rfl rfl rfl fun a ha => ?_
      refine goOff ha rfl rfl rfl rfl rfl fun a ha => ?_
      refine go1 ha rfl (d_pick ha rfl rfl rfl) fun a ha => ?_
      refine nil_ ?_
      refine hK4 _ _ ?_
      have ha := ha.to (l' := [(1, _), (23, _)]) rfl
      refine wcond_t ha rfl rfl ?_
      refine wp_seq_k (fun K5 hK5 => ?_)
      refine wreg ?_
      refine go1 ha rfl (d_assign ha rfl) fun a ha => ?_
      refine nil_ ?_
      refine hK5 _ _ ?_
      have ha := ha.to (l' := [(2, _)]) rfl
      refine wp_ret ?_
      have hs : Step [some ⟨b1, 0, none⟩] [] w1 w1 := Step.pick _ _ []
      have hE : Ex w (Av [] No) [] w1 := hE.pick [] (by decide)
      injection hF with hF
      subst hF
      refine fin1 ha Try.results17 rfl ?_
      exact ⟨rfl, hE⟩
    · refine goOn1 ha rfl rfl rfl rfl (decide_eq_false hc1) (d_fieldAddr (o' := 0) ha rfl Try.underlying29 rfl Try.sizeOf27 rfl) fun a ha => ?_
      refine goOn1 ha rfl rfl rfl rfl (decide_eq_false hc1) (d_load ha rfl (x1.at_.cell 0 rfl) Try.isAgg27) fun a ha => ?_
      refine goOn1 ha rfl rfl rfl rfl (decide_eq_false hc1) (d_gt ha rfl rfl) fun a ha => ?_
      refine go1 ha rfl (d_pickF ha rfl (decide_eq_false hc1) rfl) fun a ha => ?_
      refine go1 ha rfl (d_move ha rfl) fun a ha => ?_
      rcases ite_elim hF with ⟨hc2, hF⟩ | ⟨hc2, hF⟩
      · refine goOff ha rfl rfl rfl rfl (decide_eq_true hc2) fun a ha => ?_
        refine goOff ha rfl rfl rfl rfl (decide_eq_true hc2) fun a ha => ?_
        refine goOff ha rfl rfl rfl rfl (decide_eq_true hc2) fun a ha => ?_
        refine goOff ha rfl rfl rfl rfl (decide_eq_true hc2) fun a ha => ?_
        refine go1 ha rfl (d_pick ha rfl (decide_eq_true hc2) rfl) fun a ha => ?_
        refine go1 ha rfl (d_move ha rfl) fun a ha => ?_
        refine goOff ha rfl rfl rfl rfl rfl fun a ha => ?_
        refine goOff ha rfl rfl rfl rfl rfl fun a ha => ?_
        refine goOff ha rfl rfl rfl rfl rfl fun a ha => ?_
        refine goOff ha rfl rfl rfl rfl rfl fun a ha => ?_
        refine go1 ha rfl (d_pick ha rfl rfl rfl) fun a ha => ?_
        refine nil_ ?_
        refine hK4 _ _ ?_
        have ha := ha.to (l' := [(1, _), (23, _)]) rfl
        refine wcond_t ha rfl rfl ?_
        refine wp_seq_k (fun K6 hK6 => ?_)
        refine wreg ?_
        refine go1 ha rfl (d_assign ha rfl) fun a ha => ?_
        refine nil_ ?_
        refine hK6 _ _ ?_
        have ha := ha.to (l' := [(2, _)]) rfl
        refine wp_ret ?_
        have hs : Step [some ⟨b1, 0, none⟩] [] w1 w1 := Step.pick _ _ []
        have hE : Ex w (Av [] No) [] w1 := hE.pick [] (by decide)
        injection hF with hF
        subst hF
        refine fin1 ha Try.results17 rfl ?_
        exact ⟨rfl, hE⟩
      · refine goOn1 ha rfl rfl rfl rfl (decide_eq_false hc2) (d_fieldAddr (o' := 1) ha rfl Try.underlying29 rfl Try.sizeOf9 rfl) fun a ha => ?_
        refine goOn1 ha rfl rfl rfl rfl (decide_eq_false hc2) (d_load ha rfl (x1.at_.cell 1 rfl) Try.isAgg9) fun a ha => ?_
        refine goOn1 ha rfl rfl rfl rfl (decide_eq_false hc2) (d_lenString ha Try.underlying9 rfl) fun a ha => ?_
        refine goOn1 ha rfl rfl rfl rfl (decide_eq_false hc2) (d_lt ha rfl rfl) fun a ha => ?_
        refine go1 ha rfl (d_pickF ha rfl (decide_eq_false hc2) rfl) fun a ha => ?_
        refine go1 ha rfl (d_move ha rfl) fun a ha => ?_
        rcases ite_elim hF with ⟨hc3, hF⟩ | ⟨hc3, hF⟩
        · refine goOff ha rfl rfl rfl rfl (decide_eq_true hc3) fun a ha => ?_
          refine goOff ha rfl rfl rfl rfl (decide_eq_true hc3) fun a ha => ?_
          refine goOff ha rfl rfl rfl rfl (decide_eq_true hc3) fun a ha => ?_
          refine goOff ha rfl rfl rfl rfl (decide_eq_true hc3) fun a ha => ?_
          refine go1 ha rfl (d_pick ha rfl (decide_eq_true hc3) rfl) fun a ha => ?_
          refine nil_ ?_
          refine hK4 _ _ ?_
          have ha := ha.to (l' := [(1, _), (23, _)]) rfl
          refine wcond_t ha rfl rfl ?_
          refine wp_seq_k (fun K7 hK7 => ?_)
          refine wreg ?_
          refine go1 ha rfl (d_assign ha rfl) fun a ha => ?_
          refine nil_ ?_
          refine hK7 _ _ ?_
          have ha := ha.to (l' := [(2, _)]) rfl
          refine wp_ret ?_
          have hs : Step [some ⟨b1, 0, none⟩] [] w1 w1 := Step.pick _ _ []
          have hE : Ex w (Av [] No) [] w1 := hE.pick [] (by decide)
          injection hF with hF
          subst hF
          refine fin1 ha Try.results17 rfl ?_
          exact ⟨rfl, hE⟩
        · refine goOn1 ha rfl rfl rfl rfl (decide_eq_false hc3) (d_fieldAddr (o' := 1) ha rfl Try.underlying29 rfl Try.sizeOf9 rfl) fun a ha => ?_
          refine goOn1 ha rfl rfl rfl rfl (decide_eq_false hc3) (d_load ha rfl (x1.at_.cell 1 rfl) Try.isAgg9) fun a ha => ?_
          refine goOn1 ha rfl rfl rfl rfl (decide_eq_false hc3) (d_lenString ha Try.underlying9 rfl) fun a ha => ?_
          refine goOn1 ha rfl rfl rfl rfl (decide_eq_false hc3) (d_gt ha rfl rfl) fun a ha => ?_
          refine go1 ha rfl (d_pickF ha rfl (decide_eq_false hc3) rfl) fun a ha => ?_
          refine nil_ ?_
          refine hK4 _ _ ?_
          have ha := ha.to (l' := [(1, _), (23, _)]) rfl
          rcases ite_elim hF with ⟨hc4, hF⟩ | ⟨hc4, hF⟩
          · refine wcond_t ha rfl (decide_eq_true hc4) ?_
            refine wp_seq_k (fun K8 hK8 => ?_)
            refine wreg ?_
            refine go1 ha rfl (d_assign ha rfl) fun a ha => ?_
            refine nil_ ?_
            refine hK8 _ _ ?_
            have ha := ha.to (l' := [(2, _)]) rfl
            refine wp_ret ?_
            have hs : Step [some ⟨b1, 0, none⟩] [] w1 w1 := Step.pick _ _ []
            have hE : Ex w (Av [] No) [] w1 := hE.pick [] (by decide)
            injection hF with hF
            subst hF
            refine fin1 ha Try.results17 rfl ?_
            exact ⟨rfl, hE⟩
          · refine wcond_f ha rfl (decide_eq_false hc4) ?_
            refine wp_skip ?_
            exact hK3 _ _ ⟨ha.to rfl, hE, x1, hF⟩

def warderref02_Hash_l1 (k : Nat) : Nat → Int → Int → Option (Int)
  | 0, _, _ => none
  | k2 + 1, x4, x5 =>
    (if (0 : Int) < x4 then (warderref02_Hash_l1 k k2 (IntKind.u64.wrap (x4.tdiv (65536 : Int))) (bits .xor .u64 x5 (x4.tmod (65536 : Int)))) else (some (IntKind.i64.wrap x5)))

def warderref02_Hash_l0 (k : Nat) (a0_1 : ByteArray) : Nat → Int → Int → Option (Int)
  | 0, _, _ => none
  | k1 + 1, x2, x3 =>
    (if x3 < (a0_1.size : Int) then (ck (0 ≤ x3 ∧ x3 < (a0_1.size : Int)) (warderref02_Hash_l0 k a0_1 k1 (IntKind.u64.wrap ((bits .xor .u64 x2 (IntKind.u64.wrap ((bytesOf a0_1).getD (x3).toNat 0))) * (1099511628211 : Int))) (IntKind.i64.wrap (x3 + (1 : Int))))) else (warderref02_Hash_l1 k k x2 (0 : Int)))

def warderref02_Hash (k : Nat) (a0_0 : Int) (a0_1 : ByteArray) : Option (Int) :=
  (warderref02_Hash_l0 k a0_1 k (IntKind.u64.wrap ((bits .xor .u64 (14695981039346656037 : Int) ((IntKind.u64.wrap a0_0).tmod (256 : Int))) * (1099511628211 : Int))) (0 : Int))

set_option maxHeartbeats 4000000 in
set_option maxRecDepth 100000 in
theorem warderref02_Hash_c (k : Nat) (a0_0 : Int) (a0_1 : ByteArray)  (W : Nat → Prop) (w : World) (hW : ∀ k, W k → k < w.heap.size) (r : Int) (hF : warderref02_Hash k a0_0 a0_1 = some r) :
    Calls Try.prog 19 [.agg #[.int .i64 a0_0, .string a0_1]].toArray w (Ret fun v w' => v = .int .i64 r ∧ Ex w (Av [] No) [] w') := by
  unfold warderref02_Hash at hF
  refine enter [(0, .agg #[.int .i64 a0_0, .string a0_1])] Try.func19 rfl Try.ntmps19 rfl rfl fun a ha => ?_
  have hE : Ex w (Av [] No) [] w := Ex.refl w _
  have hW0 : ∀ p, some p ∈ ([] : List (Option Addr)) → ¬ W p.block := fun _ h => by cases h
  refine wp_seq_k (fun K1 hK1 => ?_)
  refine wreg ?_
  refine goR ha rfl (d_box (cs := [.int .i64 a0_0, .string a0_1]) ha rfl rfl) fun v w1 a h ha => ?_
  obtain ⟨b1, rfl, hb, hl, x1, hf⟩ := h
  have hs := Step.addB [] hf hb
  have hE := hE.addB hf hb hl
  refine go1 ha rfl (d_assign ha rfl) fun a ha => ?_
  refine nil_ ?_
  refine hK1 _ _ ?_
  have ha := ha.to (l' := [(1, _)]) rfl
  refine wp_seq_k (fun K2 hK2 => ?_)
  refine wreg ?_
  refine go1 ha rfl (d_assign ha rfl) fun a ha => ?_
  refine nil_ ?_
  refine hK2 _ _ ?_
  have ha := ha.to (l' := [(1, _), (3, _)]) rfl
  refine wp_seq_k (fun K3 hK3 => ?_)
  refine wreg ?_
  refine go1 ha rfl (d_move ha rfl) fun a ha => ?_
  refine go1 ha rfl (d_fieldAddr (o' := 0) ha rfl Try.underlying29 rfl Try.sizeOf27 rfl) fun a ha => ?_
  refine go1 ha rfl (d_load ha rfl (x1.at_.cell 0 rfl) Try.isAgg27) fun a ha => ?_
  refine go1 ha rfl (d_cvt ha Try.underlying27 Try.underlying59 rfl) fun a ha => ?_
  refine go1 ha rfl (d_rem ha rfl rfl (by decide)) fun a ha => ?_
  refine go1 ha rfl (d_xor ha rfl rfl) fun a ha => ?_
  refine go1 ha rfl (d_mul ha rfl rfl) fun a ha => ?_
  refine go1 ha rfl (d_assign ha rfl) fun a ha => ?_
  refine nil_ ?_
  refine hK3 _ _ ?_
  have ha := ha.to (l' := [(1, _), (3, _)]) rfl
  refine wp_seq_k (fun K4 hK4 => ?_)
  refine wp_seq_k (fun K5 hK5 => ?_)
  refine wreg ?_
  refine go1 ha rfl (d_assign ha rfl) fun a ha => ?_
  refine nil_ ?_
  refine hK5 _ _ ?_
  have ha := ha.to (l' := [(1, _), (3, _), (4, _)]) rfl
  refine wp_block ?_
  refine wloopJ (fun k' a w2 => ∃ (x2 : Int) (x3 : Int), Has 38 [(1, .pointer (some ⟨b1, 0, none⟩)), (3, .int .u64 x2), (4, .int .i64 x3)] a ∧ Ex w (Av [] No) [some ⟨b1, 0, none⟩] w2 ∧ Bx w2 b1 29 [.int .i64 a0_0, .string a0_1] ∧ warderref02_Hash_l0 k a0_1 k' x2 x3 = some r) k ⟨(IntKind.u64.wrap ((bits .xor .u64 (14695981039346656037 : Int) ((IntKind.u64.wrap a0_0).tmod (256 : Int))) * (1099511628211 : Int))), (0 : Int), ha.to rfl, hE, x1, hF⟩ ?_
  rintro k1 a w2 ⟨x2, x3, ha, hE, x1, hF⟩ K6 hK6
  cases k1 with
  | zero => cases hF
  | succ k1 =>
    rw [warderref02_Hash_l0] at hF
    refine wp_seq_k (fun K7 hK7 => ?_)
    refine wp_seq_k (fun K8 hK8 => ?_)
    refine wreg ?_
    refine go1 ha rfl (d_move ha rfl) fun a ha => ?_
    refine go1 ha rfl (d_fieldAddr (o' := 1) ha rfl Try.underlying29 rfl Try.sizeOf9 rfl) fun a ha => ?_
    refine go1 ha rfl (d_load ha rfl (x1.at_.cell 1 rfl) Try.isAgg9) fun a ha => ?_
    refine go1 ha rfl (d_lenString ha Try.underlying9 rfl) fun a ha => ?_
    refine go1 ha rfl (d_lt ha rfl rfl) fun a ha => ?_
    refine nil_ ?_
    refine hK8 _ _ ?_
    have ha := ha.to (l' := [(1, _), (3, _), (4, _), (17, _)]) rfl
    rcases ite_elim hF with ⟨hc1, hF⟩ | ⟨hc1, hF⟩
    · refine wcond_t ha rfl (decide_eq_true hc1) ?_
      refine wp_skip ?_
      refine hK7 _ _ ?_
      have ha := ha.to (l' := [(1, _), (3, _), (4, _)]) rfl
      refine wp_seq_k (fun K9 hK9 => ?_)
      refine wp_block ?_
      refine wreg ?_
      refine go1 ha rfl (d_move ha rfl) fun a ha => ?_
      refine go1 ha rfl (d_fieldAddr (o' := 1) ha rfl Try.underlying29 rfl Try.sizeOf9 rfl) fun a ha => ?_
      refine go1 ha rfl (d_load ha rfl (x1.at_.cell 1 rfl) Try.isAgg9) fun a ha => ?_
      refine go1 ha rfl (d_move ha rfl) fun a ha => ?_
      obtain ⟨hc2, hF⟩ := ck_elim hF
      refine go1 ha rfl (d_strIndex ha Try.underlying9 rfl rfl hc2) fun a ha => ?_
      refine go1 ha rfl (d_cvt ha Try.underlying5 Try.underlying59 rfl) fun a ha => ?_
      refine go1 ha rfl (d_xor ha rfl rfl) fun a ha => ?_
      refine go1 ha rfl (d_mul ha rfl rfl) fun a ha => ?_
      refine go1 ha rfl (d_assign ha rfl) fun a ha => ?_
      refine nil_ ?_
      refine hK9 _ _ ?_
      have ha := ha.to (l' := [(1, _), (3, _), (4, _)]) rfl
      refine wreg ?_
      refine go1 ha rfl (d_move ha rfl) fun a ha => ?_
      refine go1 ha rfl (d_add ha rfl rfl) fun a ha => ?_
      refine go1 ha rfl (d_assign ha rfl) fun a ha => ?_
      refine nil_ ?_
      exact hK6 k1 _ _ (Nat.lt_succ_self _) ⟨(IntKind.u64.wrap ((bits .xor .u64 x2 (IntKind.u64.wrap ((bytesOf a0_1).getD (x3).toNat 0))) * (1099511628211 : Int))), (IntKind.i64.wrap (x3 + (1 : Int))), ha.to rfl, hE, x1, hF⟩
    · refine wcond_f ha rfl (decide_eq_false hc1) ?_
      refine wp_exit ?_
      refine hK4 _ _ ?_
      have ha := ha.to (l' := [(3, _)]) rfl
      refine wp_seq_k (fun K10 hK10 => ?_)
      refine wreg ?_
      refine go1 ha rfl (d_assign ha rfl) fun a ha => ?_
      refine nil_ ?_
      refine hK10 _ _ ?_
      have ha := ha.to (l' := [(3, _), (5, _)]) rfl
      refine wp_seq_k (fun K11 hK11 => ?_)
      refine wp_block ?_
      have hs : Step [some ⟨b1, 0, none⟩] [] w2 w2 := Step.pick _ _ []
      have hE : Ex w (Av [] No) [] w2 := hE.pick [] (by decide)
      refine wloopJ (fun k' a w3 => ∃ (x4 : Int) (x5 : Int), Has 38 [(3, .int .u64 x4), (5, .int .u64 x5)] a ∧ Ex w (Av [] No) [] w3 ∧ warderref02_Hash_l1 k k' x4 x5 = some r) k ⟨x2, (0 : Int), ha.to rfl, hE, hF⟩ ?_
      rintro k2 a w3 ⟨x4, x5, ha, hE, hF⟩ K12 hK12
      cases k2 with
      | zero => cases hF
      | succ k2 =>
        rw [warderref02_Hash_l1] at hF
        refine wp_seq_k (fun K13 hK13 => ?_)
        refine wp_seq_k (fun K14 hK14 => ?_)
        refine wreg ?_
        refine go1 ha rfl (d_move ha rfl) fun a ha => ?_
        refine go1 ha rfl (d_gt ha rfl rfl) fun a ha => ?_
        refine nil_ ?_
        refine hK14 _ _ ?_
        have ha := ha.to (l' := [(3, _), (5, _), (29, _)]) rfl
        rcases ite_elim hF with ⟨hc3, hF⟩ | ⟨hc3, hF⟩
        · refine wcond_t ha rfl (decide_eq_true hc3) ?_
          refine wp_skip ?_
          refine hK13 _ _ ?_
          have ha := ha.to (l' := [(3, _), (5, _)]) rfl
          refine wp_block ?_
          refine wp_seq_k (fun K15 hK15 => ?_)
          refine wreg ?_
          refine go1 ha rfl (d_move ha rfl) fun a ha => ?_
          refine go1 ha rfl (d_move ha rfl) fun a ha => ?_
          refine go1 ha rfl (d_rem ha rfl rfl (by decide)) fun a ha => ?_
          refine go1 ha rfl (d_xor ha rfl rfl) fun a ha => ?_
          refine go1 ha rfl (d_assign ha rfl) fun a ha => ?_
          refine nil_ ?_
          refine hK15 _ _ ?_
          have ha := ha.to (l' := [(3, _), (5, _)]) rfl
          refine wreg ?_
          refine go1 ha rfl (d_move ha rfl) fun a ha => ?_
          refine go1 ha rfl (d_quo ha rfl rfl (by decide)) fun a ha => ?_
          refine go1 ha rfl (d_assign ha rfl) fun a ha => ?_
          refine nil_ ?_
          exact hK12 k2 _ _ (Nat.lt_succ_self _) ⟨(IntKind.u64.wrap (x4.tdiv (65536 : Int))), (bits .xor .u64 x5 (x4.tmod (65536 : Int))), ha.to rfl, hE, hF⟩
        · refine wcond_f ha rfl (decide_eq_false hc3) ?_
          refine wp_exit ?_
          refine hK11 _ _ ?_
          have ha := ha.to (l' := [(5, _)]) rfl
          refine wp_seq_k (fun K16 hK16 => ?_)
          refine wreg ?_
          refine go1 ha rfl (d_move ha rfl) fun a ha => ?_
          refine go1 ha rfl (d_cvt ha Try.underlying59 Try.underlying3 rfl) fun a ha => ?_
          refine go1 ha rfl (d_assign ha rfl) fun a ha => ?_
          refine nil_ ?_
          refine hK16 _ _ ?_
          have ha := ha.to (l' := [(2, _)]) rfl
          refine wp_ret ?_
          injection hF with hF
          subst hF
          refine fin1 ha Try.results19 rfl ?_
          exact ⟨rfl, hE⟩

def warderref02_Of_l0 (k : Nat) (a0_1 : ByteArray) : Nat → (List Int) → Int → Option ((List Int))
  | 0, _, _ => none
  | k1 + 1, x2, x3 =>
    (if x3 < (a0_1.size : Int) then (ck (0 ≤ x3 ∧ x3 < (a0_1.size : Int)) (ck (0 ≤ x3 ∧ x3 < (a0_1.size : Int)) (ck ((x2.length + ([IntKind.u8.wrap (((bytesOf a0_1).getD (x3).toNat 0).tdiv (16 : Int)), ((bytesOf a0_1).getD (x3).toNat 0).tmod (16 : Int)] : List (Int)).length) * 1 ≤ 140737488355328) (warderref02_Of_l0 k a0_1 k1 (x2 ++ ([IntKind.u8.wrap (((bytesOf a0_1).getD (x3).toNat 0).tdiv (16 : Int)), ((bytesOf a0_1).getD (x3).toNat 0).tmod (16 : Int)] : List (Int))) (IntKind.i64.wrap (x3 + (1 : Int))))))) else (some x2))

def warderref02_Of (k : Nat) (a0_0 : Int) (a0_1 : ByteArray) : Option ((List Int)) :=
  ((warderref02_May k a0_0 a0_1).bind fun t1 => (bif !t1 then (some ([] : List (Int))) else ((warderref02_Hash k a0_0 a0_1).bind fun t2 => (warderref02_Of_l0 k a0_1 k ([IntKind.u8.wrap (IntKind.i64.wrap (t2.tdiv (4096 : Int))), IntKind.u8.wrap ((IntKind.i64.wrap (t2.tdiv (256 : Int))).tmod (16 : Int)), IntKind.u8.wrap ((IntKind.i64.wrap (t2.tdiv (16 : Int))).tmod (16 : Int)), IntKind.u8.wrap (t2.tmod (16 : Int)), IntKind.u8.wrap (IntKind.i64.wrap ((a0_1.size : Int).tdiv (16 : Int))), IntKind.u8.wrap ((a0_1.size : Int).tmod (16 : Int)), IntKind.u8.wrap a0_0] : List (Int)) (0 : Int)))))

set_option maxHeartbeats 4000000 in
set_option maxRecDepth 100000 in
theorem warderref02_Of_c (k : Nat) (a0_0 : Int) (a0_1 : ByteArray)  (W : Nat → Prop) (w : World) (hW : ∀ k, W k → k < w.heap.size) (r : (List Int)) (hF : warderref02_Of k a0_0 a0_1 = some r) :
    Calls Try.prog 20 [.agg #[.int .i64 a0_0, .string a0_1]].toArray w (Ret fun v w' => ∃ (u1 : Option Addr) (d1 : Nat), v = .slice u1 r.length d1 ∧ Ex w (Av [] No) [u1] w' ∧ Ow (Av [u1] W) w' 5 (Kd.int .u8) u1 d1 r) := by
  unfold warderref02_Of at hF
  refine enter [(0, .agg #[.int .i64 a0_0, .string a0_1])] Try.func20 rfl Try.ntmps20 rfl rfl fun a ha => ?_
  have hE : Ex w (Av [] No) [] w := Ex.refl w _
  have hW0 : ∀ p, some p ∈ ([] : List (Option Addr)) → ¬ W p.block := fun _ h => by cases h
  refine wp_seq_k (fun K1 hK1 => ?_)
  refine wreg ?_
  refine goR ha rfl (d_box (cs := [.int .i64 a0_0, .string a0_1]) ha rfl rfl) fun v w1 a h ha => ?_
  obtain ⟨b1, rfl, hb, hl, x1, hf⟩ := h
  have hs := Step.addB [] hf hb
  have hE := hE.addB hf hb hl
  refine go1 ha rfl (d_assign ha rfl) fun a ha => ?_
  refine nil_ ?_
  refine hK1 _ _ ?_
  have ha := ha.to (l' := [(1, _)]) rfl
  refine wp_seq_k (fun K2 hK2 => ?_)
  refine wp_seq_k (fun K3 hK3 => ?_)
  refine wreg ?_
  refine go1 ha rfl (d_loadAgg (cs := [.int .i64 a0_0, .string a0_1]) ha rfl (x1.at_.sub' 0 2 rfl) Try.isAgg29 Try.sizeOf29 rfl) fun a ha => ?_
  obtain ⟨t1, ht1, hF⟩ := bind_elim hF
  refine goR ha rfl (d_call Try.call17 ha (vs := [.agg #[.int .i64 a0_0, .string a0_1]]) rfl (warderref02_May_c k a0_0 a0_1  (Av [some ⟨b1, 0, none⟩] W) _ (Ex.wlt (as0 := []) (rr := []) (ro := [some ⟨b1, 0, none⟩]) hE hW)  _ ht1)) fun v w2 a h ha => ?_
  obtain ⟨rfl, hC⟩ := h
  have hs : Step [some ⟨b1, 0, none⟩] [some ⟨b1, 0, none⟩] w1 w2 := hC.callStep [some ⟨b1, 0, none⟩]
  have x1 := x1.keep hC.fr ((Ex.callOff (as0 := []) (rt := [some ⟨b1, 0, none⟩]) hE (u := some ⟨b1, 0, none⟩) (by simp)) _ rfl)
  have hE : Ex w (Av [] No) [some ⟨b1, 0, none⟩] w2 := Ex.call (as0 := []) (rt := [some ⟨b1, 0, none⟩]) hE hC
  refine go1 ha rfl (d_not ha rfl) fun a ha => ?_
  refine nil_ ?_
  refine hK3 _ _ ?_
  have ha := ha.to (l' := [(1, _), (9, _)]) rfl
  rcases cond_elim hF with ⟨hc1, hF⟩ | ⟨hc1, hF⟩
  · refine wcond_t ha rfl hc1 ?_
    refine wp_seq_k (fun K4 hK4 => ?_)
    refine wreg ?_
    refine go1 ha rfl (d_assign ha rfl) fun a ha => ?_
    refine nil_ ?_
    refine hK4 _ _ ?_
    have ha := ha.to (l' := [(2, _)]) rfl
    refine wp_ret ?_
    have hs := Step.add (a := none) [some ⟨b1, 0, none⟩] (Fr.refl w2 No) (fun _ h => by cases h)
    have hE : Ex w (Av [] No) [none, some ⟨b1, 0, none⟩] w2 := hE.add (a := none) (Fr.refl w2 No) (fun _ h => by cases h)
    have o1 := Ow.nil (Av [none, some ⟨b1, 0, none⟩] W) w2 5 (Kd.int .u8)
    have hs : Step [none, some ⟨b1, 0, none⟩] [none] w2 w2 := Step.pick _ _ [0]
    have o1 := o1.keep (Fr.refl _ No) (fun _ _ h => h) (fun _ _ h => hs.trK h)
    have hE : Ex w (Av [] No) [none] w2 := hE.pick [0] (by decide)
    injection hF with hF
    subst hF
    refine fin1 ha Try.results20 rfl ?_
    exact ⟨_, _, rfl, hE, o1⟩
  · refine wcond_f ha rfl hc1 ?_
    refine wp_skip ?_
    refine hK2 _ _ ?_
    have ha := ha.to (l' := [(1, _)]) rfl
    refine wp_seq_k (fun K5 hK5 => ?_)
    obtain ⟨t2, ht2, hF⟩ := bind_elim hF
    refine drawnC 3 (by kernel_rfl) 6 (by decide) rfl (fun b a wI => HasB 58 [(1, .pointer (some ⟨b1, 0, none⟩))] [(0, 10, .agg #[.int .i64 a0_0, .string a0_1]), (1, 11, .int .i64 t2), (2, 12, .pointer (some ⟨b1, 1, none⟩)), (3, 13, .string a0_1), (4, 14, .int .i64 (a0_1.size : Int)), (5, 3, .int .i64 t2)] b a ∧ Ex w (Av [] No) [some ⟨b1, 0, none⟩] wI ∧ Fr w2 wI No ∧ Bx wI b1 29 [.int .i64 a0_0, .string a0_1]) ?_ (EachAt.all0 ?_) ?_
    · exact ⟨HasB.start (ha.to rfl) rfl, hE.drew, (Fr.refl _ No).drew, x1⟩
    · refine (EachAt.cons ?_ (EachAt.cons ?_ (EachAt.cons ?_ (EachAt.cons ?_ (EachAt.cons ?_ (EachAt.cons ?_ EachAt.nil))))))
      · intro b a wI hI hb hn hc
        obtain ⟨hB, hE, hr, x1⟩ := hI
        have ha : Has 58 [(1, .pointer (some ⟨b1, 0, none⟩))] a := hB.get [] (fun _ h => by cases h) _ rfl
        refine DoesG.plain rfl (Does.mono (d_loadAgg (cs := [.int .i64 a0_0, .string a0_1]) ha rfl (x1.at_.sub' 0 2 rfl) Try.isAgg29 Try.sizeOf29 rfl) ?_)
        rintro v wJ ⟨rfl, rfl⟩
        exact ⟨HasB.put hB 0 rfl rfl rfl rfl, hE, hr, x1⟩
      · intro b a wI hI hb hn hc
        obtain ⟨hB, hE, hr, x1⟩ := hI
        have ha : Has 58 [(10, .agg #[.int .i64 a0_0, .string a0_1])] a := hB.get [0] (List.forall_mem_cons.2 ⟨(hn 0 (mem_needs rfl)), (fun _ h => by cases h)⟩) _ rfl
        refine DoesG.plain rfl (Does.mono (d_call Try.call19 ha (vs := [.agg #[.int .i64 a0_0, .string a0_1]]) rfl (warderref02_Hash_c k a0_0 a0_1  (Av [some ⟨b1, 0, none⟩] W) _ (Ex.wlt (as0 := []) (rr := []) (ro := [some ⟨b1, 0, none⟩]) hE hW)  _ ht2)) ?_)
        intro v w3 h
        obtain ⟨rfl, hC⟩ := h
        have hfr : Fr wI w3 No := hC.fr.mono (fun _ _ h => by rcases h with h | ⟨_, h, _⟩; exact h; cases h)
        have hs : Step [some ⟨b1, 0, none⟩] [some ⟨b1, 0, none⟩] wI w3 := hC.callStep [some ⟨b1, 0, none⟩]
        have x1 := x1.keep hC.fr ((Ex.callOff (as0 := []) (rt := [some ⟨b1, 0, none⟩]) hE (u := some ⟨b1, 0, none⟩) (by simp)) _ rfl)
        have hE : Ex w (Av [] No) [some ⟨b1, 0, none⟩] w3 := Ex.call (as0 := []) (rt := [some ⟨b1, 0, none⟩]) hE hC
        exact ⟨HasB.put hB 1 rfl rfl rfl rfl, hE, hr.step hfr (fun _ _ h => h), x1⟩
      · intro b a wI hI hb hn hc
        obtain ⟨hB, hE, hr, x1⟩ := hI
        have ha : Has 58 [(1, .pointer (some ⟨b1, 0, none⟩))] a := hB.get [] (fun _ h => by cases h) _ rfl
        refine DoesG.plain rfl (Does.mono (d_fieldAddr (o' := 1) ha rfl Try.underlying29 rfl Try.sizeOf9 rfl) ?_)
        rintro v wJ ⟨rfl, rfl⟩
        exact ⟨HasB.put hB 2 rfl rfl rfl rfl, hE, hr, x1⟩
      · intro b a wI hI hb hn hc
        obtain ⟨hB, hE, hr, x1⟩ := hI
        have ha : Has 58 [(12, .pointer (some ⟨b1, 1, none⟩))] a := hB.get [2] (List.forall_mem_cons.2 ⟨(hn 2 (mem_needs rfl)), (fun _ h => by cases h)⟩) _ rfl
        refine DoesG.plain rfl (Does.mono (d_load ha rfl (x1.at_.cell 1 rfl) Try.isAgg9) ?_)
        rintro v wJ ⟨rfl, rfl⟩
        exact ⟨HasB.put hB 3 rfl rfl rfl rfl, hE, hr, x1⟩
      · intro b a wI hI hb hn hc
        obtain ⟨hB, hE, hr, x1⟩ := hI
        have ha : Has 58 [(13, .string a0_1)] a := hB.get [3] (List.forall_mem_cons.2 ⟨(hn 3 (mem_needs rfl)), (fun _ h => by cases h)⟩) _ rfl
        refine DoesG.plain rfl (Does.mono (d_lenString ha Try.underlying9 rfl) ?_)
        rintro v wJ ⟨rfl, rfl⟩
        exact ⟨HasB.put hB 4 rfl rfl rfl rfl, hE, hr, x1⟩
      · intro b a wI hI hb hn hc
        obtain ⟨hB, hE, hr, x1⟩ := hI
        have ha : Has 58 [(11, .int .i64 t2)] a := hB.get [1] (List.forall_mem_cons.2 ⟨(hn 1 (mem_needs rfl)), (fun _ h => by cases h)⟩) _ rfl
        refine DoesG.plain rfl (Does.mono (d_assign ha rfl) ?_)
        rintro v wJ ⟨rfl, rfl⟩
        exact ⟨HasB.put hB 5 rfl rfl rfl rfl, hE, hr, x1⟩
    · intro b a w4 hb hI
      obtain ⟨hB, hE, hr, x1⟩ := hI
      have ha : Has 58 [(10, .agg #[.int .i64 a0_0, .string a0_1]), (11, .int .i64 t2), (12, .pointer (some ⟨b1, 1, none⟩)), (13, .string a0_1), (14, .int .i64 (a0_1.size : Int)), (3, .int .i64 t2), (1, .pointer (some ⟨b1, 0, none⟩))] a := hB.get [0, 1, 2, 3, 4, 5] (List.forall_mem_cons.2 ⟨(hb 0 (by decide) (by decide)), (List.forall_mem_cons.2 ⟨(hb 1 (by decide) (by decide)), (List.forall_mem_cons.2 ⟨(hb 2 (by decide) (by decide)), (List.forall_mem_cons.2 ⟨(hb 3 (by decide) (by decide)), (List.forall_mem_cons.2 ⟨(hb 4 (by decide) (by decide)), (List.forall_mem_cons.2 ⟨(hb 5 (by decide) (by decide)), (fun _ h => by cases h)⟩)⟩)⟩)⟩)⟩)⟩) _ rfl
      refine go1 ha rfl (d_assign ha rfl) fun a ha => ?_
      refine nil_ ?_
      refine hK5 _ _ ?_
      have ha := ha.to (l' := [(1, _), (3, _), (4, _)]) rfl
      refine wp_seq_k (fun K6 hK6 => ?_)
      refine wreg ?_
      refine go1 ha rfl (d_move ha rfl) fun a ha => ?_
      refine go1 ha rfl (d_quo ha rfl rfl (by decide)) fun a ha => ?_
      refine go1 ha rfl (d_cvt ha Try.underlying3 Try.underlying5 rfl) fun a ha => ?_
      refine go1 ha rfl (d_move ha rfl) fun a ha => ?_
      refine go1 ha rfl (d_quo ha rfl rfl (by decide)) fun a ha => ?_
      refine go1 ha rfl (d_rem ha rfl rfl (by decide)) fun a ha => ?_
      refine go1 ha rfl (d_cvt ha Try.underlying3 Try.underlying5 rfl) fun a ha => ?_
      refine go1 ha rfl (d_move ha rfl) fun a ha => ?_
      refine go1 ha rfl (d_quo ha rfl rfl (by decide)) fun a ha => ?_
      refine go1 ha rfl (d_rem ha rfl rfl (by decide)) fun a ha => ?_
      refine go1 ha rfl (d_cvt ha Try.underlying3 Try.underlying5 rfl) fun a ha => ?_
      refine go1 ha rfl (d_move ha rfl) fun a ha => ?_
      refine go1 ha rfl (d_rem ha rfl rfl (by decide)) fun a ha => ?_
      refine go1 ha rfl (d_cvt ha Try.underlying3 Try.underlying5 rfl) fun a ha => ?_
      refine go1 ha rfl (d_move ha rfl) fun a ha => ?_
      refine go1 ha rfl (d_quo ha rfl rfl (by decide)) fun a ha => ?_
      refine go1 ha rfl (d_cvt ha Try.underlying3 Try.underlying5 rfl) fun a ha => ?_
      refine go1 ha rfl (d_move ha rfl) fun a ha => ?_
      refine go1 ha rfl (d_rem ha rfl rfl (by decide)) fun a ha => ?_
      refine go1 ha rfl (d_cvt ha Try.underlying3 Try.underlying5 rfl) fun a ha => ?_
      refine go1 ha rfl (d_fieldAddr (o' := 0) ha rfl Try.underlying29 rfl Try.sizeOf27 rfl) fun a ha => ?_
      refine go1 ha rfl (d_load ha rfl (x1.at_.cell 0 rfl) Try.isAgg27) fun a ha => ?_
      refine go1 ha rfl (d_cvt ha Try.underlying27 Try.underlying5 rfl) fun a ha => ?_
      refine goR ha rfl (d_buildSlice (B := W) (kd := (Kd.int .u8)) (xs := ([IntKind.u8.wrap (IntKind.i64.wrap (t2.tdiv (4096 : Int))), IntKind.u8.wrap ((IntKind.i64.wrap (t2.tdiv (256 : Int))).tmod (16 : Int)), IntKind.u8.wrap ((IntKind.i64.wrap (t2.tdiv (16 : Int))).tmod (16 : Int)), IntKind.u8.wrap (t2.tmod (16 : Int)), IntKind.u8.wrap (IntKind.i64.wrap ((a0_1.size : Int).tdiv (16 : Int))), IntKind.u8.wrap ((a0_1.size : Int).tmod (16 : Int)), IntKind.u8.wrap a0_0] : List (Int))) (vs := [.int .u8 (IntKind.u8.wrap (IntKind.i64.wrap (t2.tdiv (4096 : Int)))), .int .u8 (IntKind.u8.wrap ((IntKind.i64.wrap (t2.tdiv (256 : Int))).tmod (16 : Int))), .int .u8 (IntKind.u8.wrap ((IntKind.i64.wrap (t2.tdiv (16 : Int))).tmod (16 : Int))), .int .u8 (IntKind.u8.wrap (t2.tmod (16 : Int))), .int .u8 (IntKind.u8.wrap (IntKind.i64.wrap ((a0_1.size : Int).tdiv (16 : Int)))), .int .u8 (IntKind.u8.wrap ((a0_1.size : Int).tmod (16 : Int))), .int .u8 (IntKind.u8.wrap a0_0)]) ha Try.underlying22 Try.sizeOf5 Try.zeroValue5 rfl (Els.cons (c := [.int .u8 (IntKind.u8.wrap (IntKind.i64.wrap (t2.tdiv (4096 : Int))))]) (rfl) (Els.cons (c := [.int .u8 (IntKind.u8.wrap ((IntKind.i64.wrap (t2.tdiv (256 : Int))).tmod (16 : Int)))]) (rfl) (Els.cons (c := [.int .u8 (IntKind.u8.wrap ((IntKind.i64.wrap (t2.tdiv (16 : Int))).tmod (16 : Int)))]) (rfl) (Els.cons (c := [.int .u8 (IntKind.u8.wrap (t2.tmod (16 : Int)))]) (rfl) (Els.cons (c := [.int .u8 (IntKind.u8.wrap (IntKind.i64.wrap ((a0_1.size : Int).tdiv (16 : Int))))]) (rfl) (Els.cons (c := [.int .u8 (IntKind.u8.wrap ((a0_1.size : Int).tmod (16 : Int)))]) (rfl) (Els.cons (c := [.int .u8 (IntKind.u8.wrap a0_0)]) (rfl) Els.nil))))))) (by simp [Value.cells, Kd.int, Kd.scalar, Kd.bool, Kd.str, Kd.pair, Kd.sl]) rfl rfl (by decide) (by decide) hE) fun v w5 a h ha => ?_
      obtain ⟨p1, c1, rfl, hs, hE, hf, o2⟩ := h
      have x1 := x1.stay hf
      refine go1 ha rfl (d_assign ha rfl) fun a ha => ?_
      refine nil_ ?_
      refine hK6 _ _ ?_
      have ha := ha.to (l' := [(1, _), (4, _), (5, _)]) rfl
      refine wp_seq_k (fun K7 hK7 => ?_)
      refine wp_seq_k (fun K8 hK8 => ?_)
      refine wreg ?_
      refine go1 ha rfl (d_assign ha rfl) fun a ha => ?_
      refine nil_ ?_
      refine hK8 _ _ ?_
      have ha := ha.to (l' := [(1, _), (4, _), (5, _), (6, _)]) rfl
      refine wp_block ?_
      refine wloopJ (fun k' a w6 => ∃ (x2 : List Int) (p2 : Option Addr) (c2 : Nat) (x3 : Int), Has 58 [(1, .pointer (some ⟨b1, 0, none⟩)), (4, .int .i64 (a0_1.size : Int)), (5, .slice p2 x2.length c2), (6, .int .i64 x3)] a ∧ Ex w (Av [] No) [p2, some ⟨b1, 0, none⟩] w6 ∧ Bx w6 b1 29 [.int .i64 a0_0, .string a0_1] ∧ Ow (Av [p2, some ⟨b1, 0, none⟩] W) w6 5 (Kd.int .u8) p2 c2 x2 ∧ warderref02_Of_l0 k a0_1 k' x2 x3 = some r) k ⟨([IntKind.u8.wrap (IntKind.i64.wrap (t2.tdiv (4096 : Int))), IntKind.u8.wrap ((IntKind.i64.wrap (t2.tdiv (256 : Int))).tmod (16 : Int)), IntKind.u8.wrap ((IntKind.i64.wrap (t2.tdiv (16 : Int))).tmod (16 : Int)), IntKind.u8.wrap (t2.tmod (16 : Int)), IntKind.u8.wrap (IntKind.i64.wrap ((a0_1.size : Int).tdiv (16 : Int))), IntKind.u8.wrap ((a0_1.size : Int).tmod (16 : Int)), IntKind.u8.wrap a0_0] : List (Int)), _, _, (0 : Int), ha.to rfl, hE, x1, o2, hF⟩ ?_
      rintro k1 a w6 ⟨x2, p2, c2, x3, ha, hE, x1, o3, hF⟩ K9 hK9
      cases k1 with
      | zero => cases hF
      | succ k1 =>
        rw [warderref02_Of_l0] at hF
        refine wp_seq_k (fun K10 hK10 => ?_)
        refine wp_seq_k (fun K11 hK11 => ?_)
        refine wreg ?_
        refine go1 ha rfl (d_move ha rfl) fun a ha => ?_
        refine go1 ha rfl (d_move ha rfl) fun a ha => ?_
        refine go1 ha rfl (d_lt ha rfl rfl) fun a ha => ?_
        refine nil_ ?_
        refine hK11 _ _ ?_
        have ha := ha.to (l' := [(1, _), (4, _), (5, _), (6, _), (41, _)]) rfl
        rcases ite_elim hF with ⟨hc2, hF⟩ | ⟨hc2, hF⟩
        · refine wcond_t ha rfl (decide_eq_true hc2) ?_
          refine wp_skip ?_
          refine hK10 _ _ ?_
          have ha := ha.to (l' := [(1, _), (4, _), (5, _), (6, _)]) rfl
          refine wp_seq_k (fun K12 hK12 => ?_)
          refine wp_block ?_
          obtain ⟨hc3, hF⟩ := ck_elim hF
          obtain ⟨hc4, hF⟩ := ck_elim hF
          refine drawnC 8 (by kernel_rfl) 12 (by decide) rfl (fun b a wI => HasB 58 [(1, .pointer (some ⟨b1, 0, none⟩)), (4, .int .i64 (a0_1.size : Int)), (5, .slice p2 x2.length c2), (6, .int .i64 x3)] [(0, 44, .slice p2 x2.length c2), (1, 45, .pointer (some ⟨b1, 1, none⟩)), (2, 46, .string a0_1), (3, 47, .int .i64 x3), (4, 48, .int .u8 ((bytesOf a0_1).getD (x3).toNat 0)), (5, 49, .int .u8 (IntKind.u8.wrap (((bytesOf a0_1).getD (x3).toNat 0).tdiv (16 : Int)))), (6, 50, .pointer (some ⟨b1, 1, none⟩)), (7, 51, .string a0_1), (8, 52, .int .i64 x3), (9, 53, .int .u8 ((bytesOf a0_1).getD (x3).toNat 0)), (10, 54, .int .u8 (((bytesOf a0_1).getD (x3).toNat 0).tmod (16 : Int)))] b a ∧ Ex w (Av [] No) [p2, some ⟨b1, 0, none⟩] wI ∧ Fr w6 wI No ∧ Bx wI b1 29 [.int .i64 a0_0, .string a0_1] ∧ Ow (Av [p2, some ⟨b1, 0, none⟩] W) wI 5 (Kd.int .u8) p2 c2 x2 ∧ Sl b a 11 55 (fun v => ∃ (p3 : Option Addr) (c3 : Nat), v = .slice p3 ([IntKind.u8.wrap (((bytesOf a0_1).getD (x3).toNat 0).tdiv (16 : Int)), ((bytesOf a0_1).getD (x3).toNat 0).tmod (16 : Int)] : List (Int)).length c3 ∧ Raw (Av [p2, some ⟨b1, 0, none⟩] (Old w)) (Kd.int .u8) wI.heap p3 c3 ([IntKind.u8.wrap (((bytesOf a0_1).getD (x3).toNat 0).tdiv (16 : Int)), ((bytesOf a0_1).getD (x3).toNat 0).tmod (16 : Int)] : List (Int)))) ?_ (EachAt.all0 ?_) ?_
          · exact ⟨HasB.start (ha.to rfl) rfl, hE.drew, (Fr.refl _ No).drew, x1, o3, Sl.start rfl⟩
          · refine (EachAt.cons ?_ (EachAt.cons ?_ (EachAt.cons ?_ (EachAt.cons ?_ (EachAt.cons ?_ (EachAt.cons ?_ (EachAt.cons ?_ (EachAt.cons ?_ (EachAt.cons ?_ (EachAt.cons ?_ (EachAt.cons ?_ (EachAt.cons ?_ EachAt.nil))))))))))))
            · intro b a wI hI hb hn hc
              obtain ⟨hB, hE, hr, x1, o3, hp11⟩ := hI
              have ha : Has 58 [(5, .slice p2 x2.length c2)] a := hB.get [] (fun _ h => by cases h) _ rfl
              refine DoesG.plain rfl (Does.mono (d_move ha rfl) ?_)
              rintro v wJ ⟨rfl, rfl⟩
              exact ⟨HasB.put hB 0 rfl rfl rfl rfl, hE, hr, x1, o3, hp11.keep rfl rfl (fun _ h => h)⟩
            · intro b a wI hI hb hn hc
              obtain ⟨hB, hE, hr, x1, o3, hp11⟩ := hI
              have ha : Has 58 [(1, .pointer (some ⟨b1, 0, none⟩))] a := hB.get [] (fun _ h => by cases h) _ rfl
              refine DoesG.plain rfl (Does.mono (d_fieldAddr (o' := 1) ha rfl Try.underlying29 rfl Try.sizeOf9 rfl) ?_)
              rintro v wJ ⟨rfl, rfl⟩
              exact ⟨HasB.put hB 1 rfl rfl rfl rfl, hE, hr, x1, o3, hp11.keep rfl rfl (fun _ h => h)⟩
            · intro b a wI hI hb hn hc
              obtain ⟨hB, hE, hr, x1, o3, hp11⟩ := hI
              have ha : Has 58 [(45, .pointer (some ⟨b1, 1, none⟩))] a := hB.get [1] (List.forall_mem_cons.2 ⟨(hn 1 (mem_needs rfl)), (fun _ h => by cases h)⟩) _ rfl
              refine DoesG.plain rfl (Does.mono (d_load ha rfl (x1.at_.cell 1 rfl) Try.isAgg9) ?_)
              rintro v wJ ⟨rfl, rfl⟩
              exact ⟨HasB.put hB 2 rfl rfl rfl rfl, hE, hr, x1, o3, hp11.keep rfl rfl (fun _ h => h)⟩
            · intro b a wI hI hb hn hc
              obtain ⟨hB, hE, hr, x1, o3, hp11⟩ := hI
              have ha : Has 58 [(6, .int .i64 x3)] a := hB.get [] (fun _ h => by cases h) _ rfl
              refine DoesG.plain rfl (Does.mono (d_move ha rfl) ?_)
              rintro v wJ ⟨rfl, rfl⟩
              exact ⟨HasB.put hB 3 rfl rfl rfl rfl, hE, hr, x1, o3, hp11.keep rfl rfl (fun _ h => h)⟩
            · intro b a wI hI hb hn hc
              obtain ⟨hB, hE, hr, x1, o3, hp11⟩ := hI
              have ha : Has 58 [(46, .string a0_1), (47, .int .i64 x3)] a := hB.get [2, 3] (List.forall_mem_cons.2 ⟨(hn 2 (mem_needs rfl)), (List.forall_mem_cons.2 ⟨(hn 3 (mem_needs rfl)), (fun _ h => by cases h)⟩)⟩) _ rfl
              refine DoesG.plain rfl (Does.mono (d_strIndex ha Try.underlying9 rfl rfl hc3) ?_)
              rintro v wJ ⟨rfl, rfl⟩
              exact ⟨HasB.put hB 4 rfl rfl rfl rfl, hE, hr, x1, o3, hp11.keep rfl rfl (fun _ h => h)⟩
            · intro b a wI hI hb hn hc
              obtain ⟨hB, hE, hr, x1, o3, hp11⟩ := hI
              have ha : Has 58 [(48, .int .u8 ((bytesOf a0_1).getD (x3).toNat 0))] a := hB.get [4] (List.forall_mem_cons.2 ⟨(hn 4 (mem_needs rfl)), (fun _ h => by cases h)⟩) _ rfl
              refine DoesG.plain rfl (Does.mono (d_quo ha rfl rfl (by decide)) ?_)
              rintro v wJ ⟨rfl, rfl⟩
              exact ⟨HasB.put hB 5 rfl rfl rfl rfl, hE, hr, x1, o3, hp11.keep rfl rfl (fun _ h => h)⟩
            · intro b a wI hI hb hn hc
              obtain ⟨hB, hE, hr, x1, o3, hp11⟩ := hI
              have ha : Has 58 [(1, .pointer (some ⟨b1, 0, none⟩))] a := hB.get [] (fun _ h => by cases h) _ rfl
              refine DoesG.plain rfl (Does.mono (d_fieldAddr (o' := 1) ha rfl Try.underlying29 rfl Try.sizeOf9 rfl) ?_)
              rintro v wJ ⟨rfl, rfl⟩
              exact ⟨HasB.put hB 6 rfl rfl rfl rfl, hE, hr, x1, o3, hp11.keep rfl rfl (fun _ h => h)⟩
            · intro b a wI hI hb hn hc
              obtain ⟨hB, hE, hr, x1, o3, hp11⟩ := hI
              have ha : Has 58 [(50, .pointer (some ⟨b1, 1, none⟩))] a := hB.get [6] (List.forall_mem_cons.2 ⟨(hn 6 (mem_needs rfl)), (fun _ h => by cases h)⟩) _ rfl
              refine DoesG.plain rfl (Does.mono (d_load ha rfl (x1.at_.cell 1 rfl) Try.isAgg9) ?_)
              rintro v wJ ⟨rfl, rfl⟩
              exact ⟨HasB.put hB 7 rfl rfl rfl rfl, hE, hr, x1, o3, hp11.keep rfl rfl (fun _ h => h)⟩
            · intro b a wI hI hb hn hc
              obtain ⟨hB, hE, hr, x1, o3, hp11⟩ := hI
              have ha : Has 58 [(6, .int .i64 x3)] a := hB.get [] (fun _ h => by cases h) _ rfl
              refine DoesG.plain rfl (Does.mono (d_move ha rfl) ?_)
              rintro v wJ ⟨rfl, rfl⟩
              exact ⟨HasB.put hB 8 rfl rfl rfl rfl, hE, hr, x1, o3, hp11.keep rfl rfl (fun _ h => h)⟩
            · intro b a wI hI hb hn hc
              obtain ⟨hB, hE, hr, x1, o3, hp11⟩ := hI
              have ha : Has 58 [(51, .string a0_1), (52, .int .i64 x3)] a := hB.get [7, 8] (List.forall_mem_cons.2 ⟨(hn 7 (mem_needs rfl)), (List.forall_mem_cons.2 ⟨(hn 8 (mem_needs rfl)), (fun _ h => by cases h)⟩)⟩) _ rfl
              refine DoesG.plain rfl (Does.mono (d_strIndex ha Try.underlying9 rfl rfl hc4) ?_)
              rintro v wJ ⟨rfl, rfl⟩
              exact ⟨HasB.put hB 9 rfl rfl rfl rfl, hE, hr, x1, o3, hp11.keep rfl rfl (fun _ h => h)⟩
            · intro b a wI hI hb hn hc
              obtain ⟨hB, hE, hr, x1, o3, hp11⟩ := hI
              have ha : Has 58 [(53, .int .u8 ((bytesOf a0_1).getD (x3).toNat 0))] a := hB.get [9] (List.forall_mem_cons.2 ⟨(hn 9 (mem_needs rfl)), (fun _ h => by cases h)⟩) _ rfl
              refine DoesG.plain rfl (Does.mono (d_rem ha rfl rfl (by decide)) ?_)
              rintro v wJ ⟨rfl, rfl⟩
              exact ⟨HasB.put hB 10 rfl rfl rfl rfl, hE, hr, x1, o3, hp11.keep rfl rfl (fun _ h => h)⟩
            · intro b a wI hI hb hn hc
              obtain ⟨hB, hE, hr, x1, o3, hp11⟩ := hI
              have ha : Has 58 [(49, .int .u8 (IntKind.u8.wrap (((bytesOf a0_1).getD (x3).toNat 0).tdiv (16 : Int)))), (54, .int .u8 (((bytesOf a0_1).getD (x3).toNat 0).tmod (16 : Int)))] a := hB.get [5, 10] (List.forall_mem_cons.2 ⟨(hn 5 (mem_needs rfl)), (List.forall_mem_cons.2 ⟨(hn 10 (mem_needs rfl)), (fun _ h => by cases h)⟩)⟩) _ rfl
              refine DoesG.plain rfl (Does.mono (d_buildSlice (B := W) (kd := (Kd.int .u8)) (xs := ([IntKind.u8.wrap (((bytesOf a0_1).getD (x3).toNat 0).tdiv (16 : Int)), ((bytesOf a0_1).getD (x3).toNat 0).tmod (16 : Int)] : List (Int))) (vs := [.int .u8 (IntKind.u8.wrap (((bytesOf a0_1).getD (x3).toNat 0).tdiv (16 : Int))), .int .u8 (((bytesOf a0_1).getD (x3).toNat 0).tmod (16 : Int))]) ha Try.underlying22 Try.sizeOf5 Try.zeroValue5 rfl (Els.cons (c := [.int .u8 (IntKind.u8.wrap (((bytesOf a0_1).getD (x3).toNat 0).tdiv (16 : Int)))]) (rfl) (Els.cons (c := [.int .u8 (((bytesOf a0_1).getD (x3).toNat 0).tmod (16 : Int))]) (rfl) Els.nil)) (by simp [Value.cells, Kd.int, Kd.scalar, Kd.bool, Kd.str, Kd.pair, Kd.sl]) rfl rfl (by decide) (by decide) hE) ?_)
              intro v w7 h
              obtain ⟨p3, c3, rfl, hs, hE, hf, o4⟩ := h
              have hfr : Fr wI w7 No := hf
              have o3 := o3.keep hf (fun _ _ h => h) (fun _ _ h => hs.trK h)
              have x1 := x1.stay hf
              have r1 : Raw (Av [p2, some ⟨b1, 0, none⟩] (Old w)) (Kd.int .u8) w7.heap p3 c3 ([IntKind.u8.wrap (((bytesOf a0_1).getD (x3).toNat 0).tdiv (16 : Int)), ((bytesOf a0_1).getD (x3).toNat 0).tmod (16 : Int)] : List (Int)) := o4.freeF (Kd.Flat.int _) hE 0 rfl
              have hs : Step [p3, p2, some ⟨b1, 0, none⟩] [p2, some ⟨b1, 0, none⟩] w7 w7 := Step.pick _ _ [1, 2]
              have o3 := o3.keep (Fr.refl _ No) (fun _ _ h => h) (fun _ _ h => hs.trK h)
              have hE : Ex w (Av [] No) [p2, some ⟨b1, 0, none⟩] w7 := hE.pick [1, 2] (by decide)
              exact ⟨HasB.putR hB 11 rfl rfl rfl, hE, hr.step hfr (fun _ _ h => h), x1, o3, Sl.new hB.has rfl ⟨_, _, rfl, r1⟩⟩
          · intro b a w8 hb hI
            obtain ⟨hB, hE, hr, x1, o3, hp11⟩ := hI
            have ha : Has 58 [(44, .slice p2 x2.length c2), (45, .pointer (some ⟨b1, 1, none⟩)), (46, .string a0_1), (47, .int .i64 x3), (48, .int .u8 ((bytesOf a0_1).getD (x3).toNat 0)), (49, .int .u8 (IntKind.u8.wrap (((bytesOf a0_1).getD (x3).toNat 0).tdiv (16 : Int)))), (50, .pointer (some ⟨b1, 1, none⟩)), (51, .string a0_1), (52, .int .i64 x3), (53, .int .u8 ((bytesOf a0_1).getD (x3).toNat 0)), (54, .int .u8 (((bytesOf a0_1).getD (x3).toNat 0).tmod (16 : Int))), (1, .pointer (some ⟨b1, 0, none⟩)), (4, .int .i64 (a0_1.size : Int)), (5, .slice p2 x2.length c2), (6, .int .i64 x3)] a := hB.get [0, 1, 2, 3, 4, 5, 6, 7, 8, 9, 10] (List.forall_mem_cons.2 ⟨(hb 0 (by decide) (by decide)), (List.forall_mem_cons.2 ⟨(hb 1 (by decide) (by decide)), (List.forall_mem_cons.2 ⟨(hb 2 (by decide) (by decide)), (List.forall_mem_cons.2 ⟨(hb 3 (by decide) (by decide)), (List.forall_mem_cons.2 ⟨(hb 4 (by decide) (by decide)), (List.forall_mem_cons.2 ⟨(hb 5 (by decide) (by decide)), (List.forall_mem_cons.2 ⟨(hb 6 (by decide) (by decide)), (List.forall_mem_cons.2 ⟨(hb 7 (by decide) (by decide)), (List.forall_mem_cons.2 ⟨(hb 8 (by decide) (by decide)), (List.forall_mem_cons.2 ⟨(hb 9 (by decide) (by decide)), (List.forall_mem_cons.2 ⟨(hb 10 (by decide) (by decide)), (fun _ h => by cases h)⟩)⟩)⟩)⟩)⟩)⟩)⟩)⟩)⟩)⟩)⟩) _ rfl
            obtain ⟨p3, c3, hs, r1⟩ := hp11 (hb 11 (by decide) (by decide))
            have ha := ha.know hs
            obtain ⟨hc5, hF⟩ := ck_elim hF
            refine goR ha rfl (d_append (B := W) (kd := (Kd.int .u8)) (zv := .int .u8 (0 : Int)) (bytes := 1) (lf := []) (rt := [some ⟨b1, 0, none⟩]) (fun q => [q, some ⟨b1, 0, none⟩]) (fun _ => rfl) ha Try.underlying22 (by kernel_rfl) rfl (by decide) (by decide) rfl rfl hE o3 (r1.toW hW) (fun _ _ h => h) hc5) fun v w9 a h ha => ?_
            obtain ⟨p4, c4, rfl, hs, hE1, hf, o3⟩ := h
            have r1 := hs.tr r1
            have x1 := x1.keep hf ((hE.off 0 1 rfl rfl (by decide)) _ rfl)
            have hE := hE1
            refine go1 ha rfl (d_assign ha rfl) fun a ha => ?_
            refine nil_ ?_
            refine hK12 _ _ ?_
            have ha := ha.to (l' := [(1, _), (4, _), (5, _), (6, _)]) rfl
            refine wreg ?_
            refine go1 ha rfl (d_move ha rfl) fun a ha => ?_
            refine go1 ha rfl (d_add ha rfl rfl) fun a ha => ?_
            refine go1 ha rfl (d_assign ha rfl) fun a ha => ?_
            refine nil_ ?_
            exact hK9 k1 _ _ (Nat.lt_succ_self _) ⟨(x2 ++ ([IntKind.u8.wrap (((bytesOf a0_1).getD (x3).toNat 0).tdiv (16 : Int)), ((bytesOf a0_1).getD (x3).toNat 0).tmod (16 : Int)] : List (Int))), _, _, (IntKind.i64.wrap (x3 + (1 : Int))), ha.to rfl, hE, x1, o3, hF⟩
        · refine wcond_f ha rfl (decide_eq_false hc2) ?_
          refine wp_exit ?_
          refine hK7 _ _ ?_
          have ha := ha.to (l' := [(5, _)]) rfl
          refine wp_seq_k (fun K13 hK13 => ?_)
          refine wreg ?_
          refine go1 ha rfl (d_move ha rfl) fun a ha => ?_
          refine go1 ha rfl (d_assign ha rfl) fun a ha => ?_
          refine nil_ ?_
          refine hK13 _ _ ?_
          have ha := ha.to (l' := [(2, _)]) rfl
          refine wp_ret ?_
          have hs : Step [p2, some ⟨b1, 0, none⟩] [p2] w6 w6 := Step.pick _ _ [0]
          have o3 := o3.keep (Fr.refl _ No) (fun _ _ h => h) (fun _ _ h => hs.trK h)
          have hE : Ex w (Av [] No) [p2] w6 := hE.pick [0] (by decide)
          injection hF with hF
          subst hF
          refine fin1 ha Try.results20 rfl ?_
          exact ⟨_, _, rfl, hE, o3⟩

def warderlaw02_NibbleOf (k : Nat) (a0_0 : Int) (a0_1 : ByteArray) : Option (Bool) :=
  (if (2000 : Int) < (a0_1.size : Int) then ((warderlaw02_known k ).bind fun t1 => (some t1)) else ((nibble_Of k a0_0 a0_1).bind fun t2 => ((nibble_May k a0_0 a0_1).bind fun t3 => ((warderref02_May k a0_0 a0_1).bind fun t4 => (bif t3 == t4 then ((nibble_Hash k a0_0 a0_1).bind fun t5 => ((warderref02_Hash k a0_0 a0_1).bind fun t6 => (if (IntKind.i64.wrap t5) = t6 then ((warderref02_Of k a0_0 a0_1).bind fun t7 => (if (strOf t2) = (strOf t7) then ((nibble_May k a0_0 a0_1).bind fun t8 => (bif (decide ((0 : Int) < (t2.length : Int))) == t8 then (if (t2.length : Int) ≤ (71 : Int) then ((warderlaw02_known k ).bind fun t9 => (some t9)) else (some false)) else (some false))) else (some false))) else (some false)))) else (some false))))))

set_option maxHeartbeats 4000000 in
set_option maxRecDepth 100000 in
theorem warderlaw02_NibbleOf_c (k : Nat) (a0_0 : Int) (a0_1 : ByteArray)  (W : Nat → Prop) (w : World) (hW : ∀ k, W k → k < w.heap.size) (r : Bool) (hF : warderlaw02_NibbleOf k a0_0 a0_1 = some r) :
    Calls Try.prog 4 [.agg #[.int .i64 a0_0, .string a0_1]].toArray w (Ret fun v w' => v = .bool r ∧ Ex w (Av [] No) [] w') := by
  unfold warderlaw02_NibbleOf at hF
  refine enter [(0, .agg #[.int .i64 a0_0, .string a0_1])] Try.func4 rfl Try.ntmps4 rfl rfl fun a ha => ?_
  have hE : Ex w (Av [] No) [] w := Ex.refl w _
  have hW0 : ∀ p, some p ∈ ([] : List (Option Addr)) → ¬ W p.block := fun _ h => by cases h
  refine wp_seq_k (fun K1 hK1 => ?_)
  refine wreg ?_
  refine goR ha rfl (d_box (cs := [.int .i64 a0_0, .string a0_1]) ha rfl rfl) fun v w1 a h ha => ?_
  obtain ⟨b1, rfl, hb, hl, x1, hf⟩ := h
  have hs := Step.addB [] hf hb
  have hE := hE.addB hf hb hl
  refine go1 ha rfl (d_assign ha rfl) fun a ha => ?_
  refine nil_ ?_
  refine hK1 _ _ ?_
  have ha := ha.to (l' := [(1, _)]) rfl
  refine wp_seq_k (fun K2 hK2 => ?_)
  refine wp_seq_k (fun K3 hK3 => ?_)
  refine wreg ?_
  refine go1 ha rfl (d_fieldAddr (o' := 1) ha rfl Try.underlying29 rfl Try.sizeOf9 rfl) fun a ha => ?_
  refine go1 ha rfl (d_load ha rfl (x1.at_.cell 1 rfl) Try.isAgg9) fun a ha => ?_
  refine go1 ha rfl (d_lenString ha Try.underlying9 rfl) fun a ha => ?_
  refine go1 ha rfl (d_gt ha rfl rfl) fun a ha => ?_
  refine nil_ ?_
  refine hK3 _ _ ?_
  have ha := ha.to (l' := [(1, _), (7, _)]) rfl
  rcases ite_elim hF with ⟨hc1, hF⟩ | ⟨hc1, hF⟩
  · refine wcond_t ha rfl (decide_eq_true hc1) ?_
    refine wp_seq_k (fun K4 hK4 => ?_)
    refine wreg ?_
    obtain ⟨t1, ht1, hF⟩ := bind_elim hF
    refine goR ha rfl (d_call Try.call10 ha (vs := []) rfl (warderlaw02_known_c k   (Av [some ⟨b1, 0, none⟩] W) _ (Ex.wlt (as0 := []) (rr := []) (ro := [some ⟨b1, 0, none⟩]) hE hW)  _ ht1)) fun v w2 a h ha => ?_
    obtain ⟨rfl, hC⟩ := h
    have hs : Step [some ⟨b1, 0, none⟩] [some ⟨b1, 0, none⟩] w1 w2 := hC.callStep [some ⟨b1, 0, none⟩]
    have x1 := x1.keep hC.fr ((Ex.callOff (as0 := []) (rt := [some ⟨b1, 0, none⟩]) hE (u := some ⟨b1, 0, none⟩) (by simp)) _ rfl)
    have hE : Ex w (Av [] No) [some ⟨b1, 0, none⟩] w2 := Ex.call (as0 := []) (rt := [some ⟨b1, 0, none⟩]) hE hC
    refine go1 ha rfl (d_assign ha rfl) fun a ha => ?_
    refine nil_ ?_
    refine hK4 _ _ ?_
    have ha := ha.to (l' := [(2, _)]) rfl
    refine wp_ret ?_
    have hs : Step [some ⟨b1, 0, none⟩] [] w2 w2 := Step.pick _ _ []
    have hE : Ex w (Av [] No) [] w2 := hE.pick [] (by decide)
    injection hF with hF
    subst hF
    refine fin1 ha Try.results4 rfl ?_
    exact ⟨rfl, hE⟩
  · refine wcond_f ha rfl (decide_eq_false hc1) ?_
    refine wp_skip ?_
    refine hK2 _ _ ?_
    have ha := ha.to (l' := [(1, _)]) rfl
    refine wp_seq_k (fun K5 hK5 => ?_)
    refine wreg ?_
    refine go1 ha rfl (d_loadAgg (cs := [.int .i64 a0_0, .string a0_1]) ha rfl (x1.at_.sub' 0 2 rfl) Try.isAgg29 Try.sizeOf29 rfl) fun a ha => ?_
    obtain ⟨t2, ht2, hF⟩ := bind_elim hF
    refine goR ha rfl (d_call Try.call15 ha (vs := [.agg #[.int .i64 a0_0, .string a0_1]]) rfl (nibble_Of_c k a0_0 a0_1  (Av [some ⟨b1, 0, none⟩] W) _ (Ex.wlt (as0 := []) (rr := []) (ro := [some ⟨b1, 0, none⟩]) hE hW)  _ ht2)) fun v w3 a h ha => ?_
    obtain ⟨p1, c1, rfl, hC, o1⟩ := h
    have hs : Step [some ⟨b1, 0, none⟩] [p1, some ⟨b1, 0, none⟩] w1 w3 := hC.callStep [some ⟨b1, 0, none⟩]
    have x1 := x1.keep hC.fr ((Ex.callOff (as0 := []) (rt := [some ⟨b1, 0, none⟩]) hE (u := some ⟨b1, 0, none⟩) (by simp)) _ rfl)
    have o1 : Ow (Av [p1, some ⟨b1, 0, none⟩] W) w3 5 (Kd.int .u8) p1 c1 t2 := o1.alone (Kd.Flat.int _)
    have hE : Ex w (Av [] No) [p1, some ⟨b1, 0, none⟩] w3 := Ex.call (as0 := []) (rt := [some ⟨b1, 0, none⟩]) hE hC
    refine go1 ha rfl (d_assign ha rfl) fun a ha => ?_
    refine nil_ ?_
    refine hK5 _ _ ?_
    have ha := ha.to (l' := [(1, _), (3, _)]) rfl
    refine wp_seq_k (fun K6 hK6 => ?_)
    obtain ⟨t3, ht3, hF⟩ := bind_elim hF
    obtain ⟨t4, ht4, hF⟩ := bind_elim hF
    rcases cond_elim hF with ⟨hc2, hF⟩ | ⟨hc2, hF⟩
    · obtain ⟨t5, ht5, hF⟩ := bind_elim hF
      obtain ⟨t6, ht6, hF⟩ := bind_elim hF
      rcases ite_elim hF with ⟨hc3, hF⟩ | ⟨hc3, hF⟩
      · obtain ⟨t7, ht7, hF⟩ := bind_elim hF
        rcases ite_elim hF with ⟨hc4, hF⟩ | ⟨hc4, hF⟩
        · obtain ⟨t8, ht8, hF⟩ := bind_elim hF
          refine drawnC 4 (by kernel_rfl) 27 (by decide) rfl (fun b a wI => HasB 48 [(1, .pointer (some ⟨b1, 0, none⟩)), (3, .slice p1 t2.length c1)] [(0, 11, .agg #[.int .i64 a0_0, .string a0_1]), (1, 12, .bool t3), (2, 13, .agg #[.int .i64 a0_0, .string a0_1]), (3, 14, .bool t4), (4, 15, .bool (t3 == t4)), (5, 16, .bool (t3 == t4)), (6, 17, .agg #[.int .i64 a0_0, .string a0_1]), (7, 18, .int .u16 t5), (8, 19, .int .i64 (IntKind.i64.wrap t5)), (9, 20, .agg #[.int .i64 a0_0, .string a0_1]), (10, 21, .int .i64 t6), (11, 22, .bool (decide ((IntKind.i64.wrap t5) = t6))), (12, 23, .bool (decide ((IntKind.i64.wrap t5) = t6))), (13, 24, .bool (decide ((IntKind.i64.wrap t5) = t6))), (14, 25, .slice p1 t2.length c1), (15, 26, .string (strOf t2)), (16, 27, .agg #[.int .i64 a0_0, .string a0_1]), (18, 29, .string (strOf t7)), (19, 30, .bool (decide ((strOf t2) = (strOf t7)))), (20, 31, .bool (decide ((strOf t2) = (strOf t7)))), (21, 32, .bool (decide ((strOf t2) = (strOf t7)))), (22, 33, .slice p1 t2.length c1), (23, 34, .int .i64 (t2.length : Int)), (24, 35, .bool (decide ((0 : Int) < (t2.length : Int)))), (25, 36, .agg #[.int .i64 a0_0, .string a0_1]), (26, 37, .bool t8)] b a ∧ Ex w (Av [] No) [p1, some ⟨b1, 0, none⟩] wI ∧ Fr w3 wI No ∧ Bx wI b1 29 [.int .i64 a0_0, .string a0_1] ∧ Ow (Av [p1, some ⟨b1, 0, none⟩] W) wI 5 (Kd.int .u8) p1 c1 t2 ∧ Sl b a 17 28 (fun v => ∃ (p2 : Option Addr) (c2 : Nat), v = .slice p2 t7.length c2 ∧ Raw (Av [p1, some ⟨b1, 0, none⟩] (Old w)) (Kd.int .u8) wI.heap p2 c2 t7)) ?_ (EachAt.all0 ?_) ?_
          · exact ⟨HasB.start (ha.to rfl) rfl, hE.drew, (Fr.refl _ No).drew, x1, o1, Sl.start rfl⟩
          · refine (EachAt.cons ?_ (EachAt.cons ?_ (EachAt.cons ?_ (EachAt.cons ?_ (EachAt.cons ?_ (EachAt.cons ?_ (EachAt.cons ?_ (EachAt.cons ?_ (EachAt.cons ?_ (EachAt.cons ?_ (EachAt.cons ?_ (EachAt.cons ?_ (EachAt.cons ?_ (EachAt.cons ?_ (EachAt.cons ?_ (EachAt.cons ?_ (EachAt.cons ?_ (EachAt.cons ?_ (EachAt.cons ?_ (EachAt.cons ?_ (EachAt.cons ?_ (EachAt.cons ?_ (EachAt.cons ?_ (EachAt.cons ?_ (EachAt.cons ?_ (EachAt.cons ?_ (EachAt.cons ?_ EachAt.nil)))))))))))))))))))))))))))
            · intro b a wI hI hb hn hc
              obtain ⟨hB, hE, hr, x1, o1, hp17⟩ := hI
              have ha : Has 48 [(1, .pointer (some ⟨b1, 0, none⟩))] a := hB.get [] (fun _ h => by cases h) _ rfl
              refine DoesG.plain rfl (Does.mono (d_loadAgg (cs := [.int .i64 a0_0, .string a0_1]) ha rfl (x1.at_.sub' 0 2 rfl) Try.isAgg29 Try.sizeOf29 rfl) ?_)
              rintro v wJ ⟨rfl, rfl⟩
              exact ⟨HasB.put hB 0 rfl rfl rfl rfl, hE, hr, x1, o1, hp17.keep rfl rfl (fun _ h => h)⟩
            · intro b a wI hI hb hn hc
              obtain ⟨hB, hE, hr, x1, o1, hp17⟩ := hI
              have ha : Has 48 [(11, .agg #[.int .i64 a0_0, .string a0_1])] a := hB.get [0] (List.forall_mem_cons.2 ⟨(hn 0 (mem_needs rfl)), (fun _ h => by cases h)⟩) _ rfl
              refine DoesG.plain rfl (Does.mono (d_call Try.call16 ha (vs := [.agg #[.int .i64 a0_0, .string a0_1]]) rfl (nibble_May_c k a0_0 a0_1  (Av [p1, some ⟨b1, 0, none⟩] W) _ (Ex.wlt (as0 := []) (rr := []) (ro := [p1, some ⟨b1, 0, none⟩]) hE hW)  _ ht3)) ?_)
              intro v w4 h
              obtain ⟨rfl, hC⟩ := h
              have hfr : Fr wI w4 No := hC.fr.mono (fun _ _ h => by rcases h with h | ⟨_, h, _⟩; exact h; cases h)
              have hs : Step [p1, some ⟨b1, 0, none⟩] [p1, some ⟨b1, 0, none⟩] wI w4 := hC.callStep [p1, some ⟨b1, 0, none⟩]
              have o1 := o1.keep hC.fr (Ex.callOff (as0 := []) (rt := [p1, some ⟨b1, 0, none⟩]) hE (u := p1) (by simp)) (fun _ _ h => hs.trK h)
              have x1 := x1.keep hC.fr ((Ex.callOff (as0 := []) (rt := [p1, some ⟨b1, 0, none⟩]) hE (u := some ⟨b1, 0, none⟩) (by simp)) _ rfl)
              have hE : Ex w (Av [] No) [p1, some ⟨b1, 0, none⟩] w4 := Ex.call (as0 := []) (rt := [p1, some ⟨b1, 0, none⟩]) hE hC
              exact ⟨HasB.put hB 1 rfl rfl rfl rfl, hE, hr.step hfr (fun _ _ h => h), x1, o1, hp17.keep rfl rfl (fun _ ⟨p2, c2, e, r1⟩ => ⟨_, _, e, r1.step hfr.size (fun k hk _ => hfr.blk k hk id)⟩)⟩
            · intro b a wI hI hb hn hc
              obtain ⟨hB, hE, hr, x1, o1, hp17⟩ := hI
              have ha : Has 48 [(1, .pointer (some ⟨b1, 0, none⟩))] a := hB.get [] (fun _ h => by cases h) _ rfl
              refine DoesG.plain rfl (Does.mono (d_loadAgg (cs := [.int .i64 a0_0, .string a0_1]) ha rfl (x1.at_.sub' 0 2 rfl) Try.isAgg29 Try.sizeOf29 rfl) ?_)
              rintro v wJ ⟨rfl, rfl⟩
              exact ⟨HasB.put hB 2 rfl rfl rfl rfl, hE, hr, x1, o1, hp17.keep rfl rfl (fun _ h => h)⟩
            · intro b a wI hI hb hn hc
              obtain ⟨hB, hE, hr, x1, o1, hp17⟩ := hI
              have ha : Has 48 [(13, .agg #[.int .i64 a0_0, .string a0_1])] a := hB.get [2] (List.forall_mem_cons.2 ⟨(hn 2 (mem_needs rfl)), (fun _ h => by cases h)⟩) _ rfl
              refine DoesG.plain rfl (Does.mono (d_call Try.call17 ha (vs := [.agg #[.int .i64 a0_0, .string a0_1]]) rfl (warderref02_May_c k a0_0 a0_1  (Av [p1, some ⟨b1, 0, none⟩] W) _ (Ex.wlt (as0 := []) (rr := []) (ro := [p1, some ⟨b1, 0, none⟩]) hE hW)  _ ht4)) ?_)
              intro v w5 h
              obtain ⟨rfl, hC⟩ := h
              have hfr : Fr wI w5 No := hC.fr.mono (fun _ _ h => by rcases h with h | ⟨_, h, _⟩; exact h; cases h)
              have hs : Step [p1, some ⟨b1, 0, none⟩] [p1, some ⟨b1, 0, none⟩] wI w5 := hC.callStep [p1, some ⟨b1, 0, none⟩]
              have o1 := o1.keep hC.fr (Ex.callOff (as0 := []) (rt := [p1, some ⟨b1, 0, none⟩]) hE (u := p1) (by simp)) (fun _ _ h => hs.trK h)
              have x1 := x1.keep hC.fr ((Ex.callOff (as0 := []) (rt := [p1, some ⟨b1, 0, none⟩]) hE (u := some ⟨b1, 0, none⟩) (by simp)) _ rfl)
              have hE : Ex w (Av [] No) [p1, some ⟨b1, 0, none⟩] w5 := Ex.call (as0 := []) (rt := [p1, some ⟨b1, 0, none⟩]) hE hC
              exact ⟨HasB.put hB 3 rfl rfl rfl rfl, hE, hr.step hfr (fun _ _ h => h), x1, o1, hp17.keep rfl rfl (fun _ ⟨p2, c2, e, r1⟩ => ⟨_, _, e, r1.step hfr.size (fun k hk _ => hfr.blk k hk id)⟩)⟩
            · intro b a wI hI hb hn hc
              obtain ⟨hB, hE, hr, x1, o1, hp17⟩ := hI
              have ha : Has 48 [(12, .bool t3), (14, .bool t4)] a := hB.get [1, 3] (List.forall_mem_cons.2 ⟨(hn 1 (mem_needs rfl)), (List.forall_mem_cons.2 ⟨(hn 3 (mem_needs rfl)), (fun _ h => by cases h)⟩)⟩) _ rfl
              refine DoesG.plain rfl (Does.mono (d_eqB ha Try.underlying4 rfl rfl) ?_)
              rintro v wJ ⟨rfl, rfl⟩
              exact ⟨HasB.put hB 4 rfl rfl rfl rfl, hE, hr, x1, o1, hp17.keep rfl rfl (fun _ h => h)⟩
            · intro b a wI hI hb hn hc
              obtain ⟨hB, hE, hr, x1, o1, hp17⟩ := hI
              have ha : Has 48 [(15, .bool (t3 == t4))] a := hB.get [4] (List.forall_mem_cons.2 ⟨(hn 4 (mem_needs rfl)), (fun _ h => by cases h)⟩) _ rfl
              refine DoesG.plain rfl (Does.mono (d_move ha rfl) ?_)
              rintro v wJ ⟨rfl, rfl⟩
              exact ⟨HasB.put hB 5 rfl rfl rfl rfl, hE, hr, x1, o1, hp17.keep rfl rfl (fun _ h => h)⟩
            · intro b a wI hI hb hn hc
              obtain ⟨hB, hE, hr, x1, o1, hp17⟩ := hI
              have ha : Has 48 [(1, .pointer (some ⟨b1, 0, none⟩)), (16, .bool (t3 == t4))] a := hB.get [5] (List.forall_mem_cons.2 ⟨(hn 5 (mem_needs rfl)), (fun _ h => by cases h)⟩) _ rfl
              refine DoesG.on rfl ha rfl rfl rfl hc2 (Does.mono (d_loadAgg (cs := [.int .i64 a0_0, .string a0_1]) ha rfl (x1.at_.sub' 0 2 rfl) Try.isAgg29 Try.sizeOf29 rfl) ?_)
              rintro v wJ ⟨rfl, rfl⟩
              exact ⟨HasB.put hB 6 rfl rfl rfl rfl, hE, hr, x1, o1, hp17.keep rfl rfl (fun _ h => h)⟩
            · intro b a wI hI hb hn hc
              obtain ⟨hB, hE, hr, x1, o1, hp17⟩ := hI
              have ha : Has 48 [(16, .bool (t3 == t4)), (17, .agg #[.int .i64 a0_0, .string a0_1])] a := hB.get [5, 6] (List.forall_mem_cons.2 ⟨(hn 5 (mem_needs rfl)), (List.forall_mem_cons.2 ⟨(hn 6 (mem_needs rfl)), (fun _ h => by cases h)⟩)⟩) _ rfl
              refine DoesG.on rfl ha rfl rfl rfl hc2 (Does.mono (d_call Try.call18 ha (vs := [.agg #[.int .i64 a0_0, .string a0_1]]) rfl (nibble_Hash_c k a0_0 a0_1  (Av [p1, some ⟨b1, 0, none⟩] W) _ (Ex.wlt (as0 := []) (rr := []) (ro := [p1, some ⟨b1, 0, none⟩]) hE hW)  _ ht5)) ?_)
              intro v w6 h
              obtain ⟨rfl, hC⟩ := h
              have hfr : Fr wI w6 No := hC.fr.mono (fun _ _ h => by rcases h with h | ⟨_, h, _⟩; exact h; cases h)
              have hs : Step [p1, some ⟨b1, 0, none⟩] [p1, some ⟨b1, 0, none⟩] wI w6 := hC.callStep [p1, some ⟨b1, 0, none⟩]
              have o1 := o1.keep hC.fr (Ex.callOff (as0 := []) (rt := [p1, some ⟨b1, 0, none⟩]) hE (u := p1) (by simp)) (fun _ _ h => hs.trK h)
              have x1 := x1.keep hC.fr ((Ex.callOff (as0 := []) (rt := [p1, some ⟨b1, 0, none⟩]) hE (u := some ⟨b1, 0, none⟩) (by simp)) _ rfl)
              have hE : Ex w (Av [] No) [p1, some ⟨b1, 0, none⟩] w6 := Ex.call (as0 := []) (rt := [p1, some ⟨b1, 0, none⟩]) hE hC
              exact ⟨HasB.put hB 7 rfl rfl rfl rfl, hE, hr.step hfr (fun _ _ h => h), x1, o1, hp17.keep rfl rfl (fun _ ⟨p2, c2, e, r1⟩ => ⟨_, _, e, r1.step hfr.size (fun k hk _ => hfr.blk k hk id)⟩)⟩
            · intro b a wI hI hb hn hc
              obtain ⟨hB, hE, hr, x1, o1, hp17⟩ := hI
              have ha : Has 48 [(16, .bool (t3 == t4)), (18, .int .u16 t5)] a := hB.get [5, 7] (List.forall_mem_cons.2 ⟨(hn 5 (mem_needs rfl)), (List.forall_mem_cons.2 ⟨(hn 7 (mem_needs rfl)), (fun _ h => by cases h)⟩)⟩) _ rfl
              refine DoesG.on rfl ha rfl rfl rfl hc2 (Does.mono (d_cvt ha Try.underlying32 Try.underlying3 rfl) ?_)
              rintro v wJ ⟨rfl, rfl⟩
              exact ⟨HasB.put hB 8 rfl rfl rfl rfl, hE, hr, x1, o1, hp17.keep rfl rfl (fun _ h => h)⟩
            · intro b a wI hI hb hn hc
              obtain ⟨hB, hE, hr, x1, o1, hp17⟩ := hI
              have ha : Has 48 [(1, .pointer (some ⟨b1, 0, none⟩)), (16, .bool (t3 == t4))] a := hB.get [5] (List.forall_mem_cons.2 ⟨(hn 5 (mem_needs rfl)), (fun _ h => by cases h)⟩) _ rfl
              refine DoesG.on rfl ha rfl rfl rfl hc2 (Does.mono (d_loadAgg (cs := [.int .i64 a0_0, .string a0_1]) ha rfl (x1.at_.sub' 0 2 rfl) Try.isAgg29 Try.sizeOf29 rfl) ?_)
              rintro v wJ ⟨rfl, rfl⟩
              exact ⟨HasB.put hB 9 rfl rfl rfl rfl, hE, hr, x1, o1, hp17.keep rfl rfl (fun _ h => h)⟩
            · intro b a wI hI hb hn hc
              obtain ⟨hB, hE, hr, x1, o1, hp17⟩ := hI
              have ha : Has 48 [(16, .bool (t3 == t4)), (20, .agg #[.int .i64 a0_0, .string a0_1])] a := hB.get [5, 9] (List.forall_mem_cons.2 ⟨(hn 5 (mem_needs rfl)), (List.forall_mem_cons.2 ⟨(hn 9 (mem_needs rfl)), (fun _ h => by cases h)⟩)⟩) _ rfl
              refine DoesG.on rfl ha rfl rfl rfl hc2 (Does.mono (d_call Try.call19 ha (vs := [.agg #[.int .i64 a0_0, .string a0_1]]) rfl (warderref02_Hash_c k a0_0 a0_1  (Av [p1, some ⟨b1, 0, none⟩] W) _ (Ex.wlt (as0 := []) (rr := []) (ro := [p1, some ⟨b1, 0, none⟩]) hE hW)  _ ht6)) ?_)
              intro v w7 h
              obtain ⟨rfl, hC⟩ := h
              have hfr : Fr wI w7 No := hC.fr.mono (fun _ _ h => by rcases h with h | ⟨_, h, _⟩; exact h; cases h)
              have hs : Step [p1, some ⟨b1, 0, none⟩] [p1, some ⟨b1, 0, none⟩] wI w7 := hC.callStep [p1, some ⟨b1, 0, none⟩]
              have o1 := o1.keep hC.fr (Ex.callOff (as0 := []) (rt := [p1, some ⟨b1, 0, none⟩]) hE (u := p1) (by simp)) (fun _ _ h => hs.trK h)
              have x1 := x1.keep hC.fr ((Ex.callOff (as0 := []) (rt := [p1, some ⟨b1, 0, none⟩]) hE (u := some ⟨b1, 0, none⟩) (by simp)) _ rfl)
              have hE : Ex w (Av [] No) [p1, some ⟨b1, 0, none⟩] w7 := Ex.call (as0 := []) (rt := [p1, some ⟨b1, 0, none⟩]) hE hC
              exact ⟨HasB.put hB 10 rfl rfl rfl rfl, hE, hr.step hfr (fun _ _ h => h), x1, o1, hp17.keep rfl rfl (fun _ ⟨p2, c2, e, r1⟩ => ⟨_, _, e, r1.step hfr.size (fun k hk _ => hfr.blk k hk id)⟩)⟩
            · intro b a wI hI hb hn hc
              obtain ⟨hB, hE, hr, x1, o1, hp17⟩ := hI
              have ha : Has 48 [(16, .bool (t3 == t4)), (19, .int .i64 (IntKind.i64.wrap t5)), (21, .int .i64 t6)] a := hB.get [5, 8, 10] (List.forall_mem_cons.2 ⟨(hn 5 (mem_needs rfl)), (List.forall_mem_cons.2 ⟨(hn 8 (mem_needs rfl)), (List.forall_mem_cons.2 ⟨(hn 10 (mem_needs rfl)), (fun _ h => by cases h)⟩)⟩)⟩) _ rfl
              refine DoesG.on rfl ha rfl rfl rfl hc2 (Does.mono (d_eqI ha rfl rfl) ?_)
              rintro v wJ ⟨rfl, rfl⟩
              exact ⟨HasB.put hB 11 rfl rfl rfl rfl, hE, hr, x1, o1, hp17.keep rfl rfl (fun _ h => h)⟩
            · intro b a wI hI hb hn hc
              obtain ⟨hB, hE, hr, x1, o1, hp17⟩ := hI
              have ha : Has 48 [(16, .bool (t3 == t4)), (22, .bool (decide ((IntKind.i64.wrap t5) = t6)))] a := hB.get [5, 11] (List.forall_mem_cons.2 ⟨(hn 5 (mem_needs rfl)), (List.forall_mem_cons.2 ⟨(hn 11 (mem_needs rfl)), (fun _ h => by cases h)⟩)⟩) _ rfl
              refine DoesG.plain rfl (Does.mono (d_pick ha rfl hc2 rfl) ?_)
              rintro v wJ ⟨rfl, rfl⟩
              exact ⟨HasB.put hB 12 rfl rfl rfl rfl, hE, hr, x1, o1, hp17.keep rfl rfl (fun _ h => h)⟩
            · intro b a wI hI hb hn hc
              obtain ⟨hB, hE, hr, x1, o1, hp17⟩ := hI
              have ha : Has 48 [(23, .bool (decide ((IntKind.i64.wrap t5) = t6)))] a := hB.get [12] (List.forall_mem_cons.2 ⟨(hn 12 (mem_needs rfl)), (fun _ h => by cases h)⟩) _ rfl
              refine DoesG.plain rfl (Does.mono (d_move ha rfl) ?_)
              rintro v wJ ⟨rfl, rfl⟩
              exact ⟨HasB.put hB 13 rfl rfl rfl rfl, hE, hr, x1, o1, hp17.keep rfl rfl (fun _ h => h)⟩
            · intro b a wI hI hb hn hc
              obtain ⟨hB, hE, hr, x1, o1, hp17⟩ := hI
              have ha : Has 48 [(3, .slice p1 t2.length c1), (24, .bool (decide ((IntKind.i64.wrap t5) = t6)))] a := hB.get [13] (List.forall_mem_cons.2 ⟨(hn 13 (mem_needs rfl)), (fun _ h => by cases h)⟩) _ rfl
              refine DoesG.on rfl ha rfl rfl rfl (decide_eq_true hc3) (Does.mono (d_move ha rfl) ?_)
              rintro v wJ ⟨rfl, rfl⟩
              exact ⟨HasB.put hB 14 rfl rfl rfl rfl, hE, hr, x1, o1, hp17.keep rfl rfl (fun _ h => h)⟩
            · intro b a wI hI hb hn hc
              obtain ⟨hB, hE, hr, x1, o1, hp17⟩ := hI
              have ha : Has 48 [(24, .bool (decide ((IntKind.i64.wrap t5) = t6))), (25, .slice p1 t2.length c1)] a := hB.get [13, 14] (List.forall_mem_cons.2 ⟨(hn 13 (mem_needs rfl)), (List.forall_mem_cons.2 ⟨(hn 14 (mem_needs rfl)), (fun _ h => by cases h)⟩)⟩) _ rfl
              refine DoesG.on rfl ha rfl rfl rfl (decide_eq_true hc3) (Does.mono (d_b2s ha Try.underlying22 Try.underlying5 Try.underlying9 rfl o1.rawNo) ?_)
              rintro v wJ ⟨rfl, rfl⟩
              exact ⟨HasB.put hB 15 rfl rfl rfl rfl, hE, hr, x1, o1, hp17.keep rfl rfl (fun _ h => h)⟩
            · intro b a wI hI hb hn hc
              obtain ⟨hB, hE, hr, x1, o1, hp17⟩ := hI
              have ha : Has 48 [(1, .pointer (some ⟨b1, 0, none⟩)), (24, .bool (decide ((IntKind.i64.wrap t5) = t6)))] a := hB.get [13] (List.forall_mem_cons.2 ⟨(hn 13 (mem_needs rfl)), (fun _ h => by cases h)⟩) _ rfl
              refine DoesG.on rfl ha rfl rfl rfl (decide_eq_true hc3) (Does.mono (d_loadAgg (cs := [.int .i64 a0_0, .string a0_1]) ha rfl (x1.at_.sub' 0 2 rfl) Try.isAgg29 Try.sizeOf29 rfl) ?_)
              rintro v wJ ⟨rfl, rfl⟩
              exact ⟨HasB.put hB 16 rfl rfl rfl rfl, hE, hr, x1, o1, hp17.keep rfl rfl (fun _ h => h)⟩
            · intro b a wI hI hb hn hc
              obtain ⟨hB, hE, hr, x1, o1, hp17⟩ := hI
              have ha : Has 48 [(24, .bool (decide ((IntKind.i64.wrap t5) = t6))), (27, .agg #[.int .i64 a0_0, .string a0_1])] a := hB.get [13, 16] (List.forall_mem_cons.2 ⟨(hn 13 (mem_needs rfl)), (List.forall_mem_cons.2 ⟨(hn 16 (mem_needs rfl)), (fun _ h => by cases h)⟩)⟩) _ rfl
              refine DoesG.on rfl ha rfl rfl rfl (decide_eq_true hc3) (Does.mono (d_call Try.call20 ha (vs := [.agg #[.int .i64 a0_0, .string a0_1]]) rfl (warderref02_Of_c k a0_0 a0_1  (Av [p1, some ⟨b1, 0, none⟩] W) _ (Ex.wlt (as0 := []) (rr := []) (ro := [p1, some ⟨b1, 0, none⟩]) hE hW)  _ ht7)) ?_)
              intro v w8 h
              obtain ⟨p2, c2, rfl, hC, o2⟩ := h
              have hfr : Fr wI w8 No := hC.fr.mono (fun _ _ h => by rcases h with h | ⟨_, h, _⟩; exact h; cases h)
              have hs : Step [p1, some ⟨b1, 0, none⟩] [p2, p1, some ⟨b1, 0, none⟩] wI w8 := hC.callStep [p1, some ⟨b1, 0, none⟩]
              have o1 := o1.keep hC.fr (Ex.callOff (as0 := []) (rt := [p1, some ⟨b1, 0, none⟩]) hE (u := p1) (by simp)) (fun _ _ h => hs.trK h)
              have x1 := x1.keep hC.fr ((Ex.callOff (as0 := []) (rt := [p1, some ⟨b1, 0, none⟩]) hE (u := some ⟨b1, 0, none⟩) (by simp)) _ rfl)
              have o2 : Ow (Av [p2, p1, some ⟨b1, 0, none⟩] W) w8 5 (Kd.int .u8) p2 c2 t7 := o2.alone (Kd.Flat.int _)
              have hE : Ex w (Av [] No) [p2, p1, some ⟨b1, 0, none⟩] w8 := Ex.call (as0 := []) (rt := [p1, some ⟨b1, 0, none⟩]) hE hC
              have r1 : Raw (Av [p1, some ⟨b1, 0, none⟩] (Old w)) (Kd.int .u8) w8.heap p2 c2 t7 := o2.freeF (Kd.Flat.int _) hE 0 rfl
              have hs : Step [p2, p1, some ⟨b1, 0, none⟩] [p1, some ⟨b1, 0, none⟩] w8 w8 := Step.pick _ _ [1, 2]
              have o1 := o1.keep (Fr.refl _ No) (fun _ _ h => h) (fun _ _ h => hs.trK h)
              have hE : Ex w (Av [] No) [p1, some ⟨b1, 0, none⟩] w8 := hE.pick [1, 2] (by decide)
              exact ⟨HasB.putR hB 17 rfl rfl rfl, hE, hr.step hfr (fun _ _ h => h), x1, o1, Sl.new hB.has rfl ⟨_, _, rfl, r1⟩⟩
            · intro b a wI hI hb hn hc
              obtain ⟨hB, hE, hr, x1, o1, hp17⟩ := hI
              have ha : Has 48 [(24, .bool (decide ((IntKind.i64.wrap t5) = t6)))] a := hB.get [13] (List.forall_mem_cons.2 ⟨(hn 13 (mem_needs rfl)), (fun _ h => by cases h)⟩) _ rfl
              obtain ⟨p2, c2, hs17, r1⟩ := hp17 (hn 17 (mem_needs rfl))
              have ha := ha.know hs17
              refine DoesG.on rfl ha rfl rfl rfl (decide_eq_true hc3) (Does.mono (d_b2s ha Try.underlying22 Try.underlying5 Try.underlying9 rfl r1) ?_)
              rintro v wJ ⟨rfl, rfl⟩
              exact ⟨HasB.put hB 18 rfl rfl rfl rfl, hE, hr, x1, o1, hp17.keep rfl rfl (fun _ h => h)⟩
            · intro b a wI hI hb hn hc
              obtain ⟨hB, hE, hr, x1, o1, hp17⟩ := hI
              have ha : Has 48 [(24, .bool (decide ((IntKind.i64.wrap t5) = t6))), (26, .string (strOf t2)), (29, .string (strOf t7))] a := hB.get [13, 15, 18] (List.forall_mem_cons.2 ⟨(hn 13 (mem_needs rfl)), (List.forall_mem_cons.2 ⟨(hn 15 (mem_needs rfl)), (List.forall_mem_cons.2 ⟨(hn 18 (mem_needs rfl)), (fun _ h => by cases h)⟩)⟩)⟩) _ rfl
              refine DoesG.on rfl ha rfl rfl rfl (decide_eq_true hc3) (Does.mono (d_eqS ha rfl rfl) ?_)
              rintro v wJ ⟨rfl, rfl⟩
              exact ⟨HasB.put hB 19 rfl rfl rfl rfl, hE, hr, x1, o1, hp17.keep rfl rfl (fun _ h => h)⟩
            · intro b a wI hI hb hn hc
              obtain ⟨hB, hE, hr, x1, o1, hp17⟩ := hI
              have ha : Has 48 [(24, .bool (decide ((IntKind.i64.wrap t5) = t6))), (30, .bool (decide ((strOf t2) = (strOf t7))))] a := hB.get [13, 19] (List.forall_mem_cons.2 ⟨(hn 13 (mem_needs rfl)), (List.forall_mem_cons.2 ⟨(hn 19 (mem_needs rfl)), (fun _ h => by cases h)⟩)⟩) _ rfl
              refine DoesG.plain rfl (Does.mono (d_pick ha rfl (decide_eq_true hc3) rfl) ?_)
              rintro v wJ ⟨rfl, rfl⟩
              exact ⟨HasB.put hB 20 rfl rfl rfl rfl, hE, hr, x1, o1, hp17.keep rfl rfl (fun _ h => h)⟩
            · intro b a wI hI hb hn hc
              obtain ⟨hB, hE, hr, x1, o1, hp17⟩ := hI
              have ha : Has 48 [(31, .bool (decide ((strOf t2) = (strOf t7))))] a := hB.get [20] (List.forall_mem_cons.2 ⟨(hn 20 (mem_needs rfl)), (fun _ h => by cases h)⟩) _ rfl
              refine DoesG.plain rfl (Does.mono (d_move ha rfl) ?_)
              rintro v wJ ⟨rfl, rfl⟩
              exact ⟨HasB.put hB 21 rfl rfl rfl rfl, hE, hr, x1, o1, hp17.keep rfl rfl (fun _ h => h)⟩
            · intro b a wI hI hb hn hc
              obtain ⟨hB, hE, hr, x1, o1, hp17⟩ := hI
              have ha : Has 48 [(3, .slice p1 t2.length c1), (32, .bool (decide ((strOf t2) = (strOf t7))))] a := hB.get [21] (List.forall_mem_cons.2 ⟨(hn 21 (mem_needs rfl)), (fun _ h => by cases h)⟩) _ rfl
              refine DoesG.on rfl ha rfl rfl rfl (decide_eq_true hc4) (Does.mono (d_move ha rfl) ?_)
              rintro v wJ ⟨rfl, rfl⟩
              exact ⟨HasB.put hB 22 rfl rfl rfl rfl, hE, hr, x1, o1, hp17.keep rfl rfl (fun _ h => h)⟩
            · intro b a wI hI hb hn hc
              obtain ⟨hB, hE, hr, x1, o1, hp17⟩ := hI
              have ha : Has 48 [(32, .bool (decide ((strOf t2) = (strOf t7)))), (33, .slice p1 t2.length c1)] a := hB.get [21, 22] (List.forall_mem_cons.2 ⟨(hn 21 (mem_needs rfl)), (List.forall_mem_cons.2 ⟨(hn 22 (mem_needs rfl)), (fun _ h => by cases h)⟩)⟩) _ rfl
              refine DoesG.on rfl ha rfl rfl rfl (decide_eq_true hc4) (Does.mono (d_lenSlice ha Try.underlying22 rfl) ?_)
              rintro v wJ ⟨rfl, rfl⟩
              exact ⟨HasB.put hB 23 rfl rfl rfl rfl, hE, hr, x1, o1, hp17.keep rfl rfl (fun _ h => h)⟩
            · intro b a wI hI hb hn hc
              obtain ⟨hB, hE, hr, x1, o1, hp17⟩ := hI
              have ha : Has 48 [(32, .bool (decide ((strOf t2) = (strOf t7)))), (34, .int .i64 (t2.length : Int))] a := hB.get [21, 23] (List.forall_mem_cons.2 ⟨(hn 21 (mem_needs rfl)), (List.forall_mem_cons.2 ⟨(hn 23 (mem_needs rfl)), (fun _ h => by cases h)⟩)⟩) _ rfl
              refine DoesG.on rfl ha rfl rfl rfl (decide_eq_true hc4) (Does.mono (d_gt ha rfl rfl) ?_)
              rintro v wJ ⟨rfl, rfl⟩
              exact ⟨HasB.put hB 24 rfl rfl rfl rfl, hE, hr, x1, o1, hp17.keep rfl rfl (fun _ h => h)⟩
            · intro b a wI hI hb hn hc
              obtain ⟨hB, hE, hr, x1, o1, hp17⟩ := hI
              have ha : Has 48 [(1, .pointer (some ⟨b1, 0, none⟩)), (32, .bool (decide ((strOf t2) = (strOf t7))))] a := hB.get [21] (List.forall_mem_cons.2 ⟨(hn 21 (mem_needs rfl)), (fun _ h => by cases h)⟩) _ rfl
              refine DoesG.on rfl ha rfl rfl rfl (decide_eq_true hc4) (Does.mono (d_loadAgg (cs := [.int .i64 a0_0, .string a0_1]) ha rfl (x1.at_.sub' 0 2 rfl) Try.isAgg29 Try.sizeOf29 rfl) ?_)
              rintro v wJ ⟨rfl, rfl⟩
              exact ⟨HasB.put hB 25 rfl rfl rfl rfl, hE, hr, x1, o1, hp17.keep rfl rfl (fun _ h => h)⟩
            · intro b a wI hI hb hn hc
              obtain ⟨hB, hE, hr, x1, o1, hp17⟩ := hI
              have ha : Has 48 [(32, .bool (decide ((strOf t2) = (strOf t7)))), (36, .agg #[.int .i64 a0_0, .string a0_1])] a := hB.get [21, 25] (List.forall_mem_cons.2 ⟨(hn 21 (mem_needs rfl)), (List.forall_mem_cons.2 ⟨(hn 25 (mem_needs rfl)), (fun _ h => by cases h)⟩)⟩) _ rfl
              refine DoesG.on rfl ha rfl rfl rfl (decide_eq_true hc4) (Does.mono (d_call Try.call16 ha (vs := [.agg #[.int .i64 a0_0, .string a0_1]]) rfl (nibble_May_c k a0_0 a0_1  (Av [p1, some ⟨b1, 0, none⟩] W) _ (Ex.wlt (as0 := []) (rr := []) (ro := [p1, some ⟨b1, 0, none⟩]) hE hW)  _ ht8)) ?_)
              intro v w9 h
              obtain ⟨rfl, hC⟩ := h
              have hfr : Fr wI w9 No := hC.fr.mono (fun _ _ h => by rcases h with h | ⟨_, h, _⟩; exact h; cases h)
              have hs : Step [p1, some ⟨b1, 0, none⟩] [p1, some ⟨b1, 0, none⟩] wI w9 := hC.callStep [p1, some ⟨b1, 0, none⟩]
              have o1 := o1.keep hC.fr (Ex.callOff (as0 := []) (rt := [p1, some ⟨b1, 0, none⟩]) hE (u := p1) (by simp)) (fun _ _ h => hs.trK h)
              have x1 := x1.keep hC.fr ((Ex.callOff (as0 := []) (rt := [p1, some ⟨b1, 0, none⟩]) hE (u := some ⟨b1, 0, none⟩) (by simp)) _ rfl)
              have hE : Ex w (Av [] No) [p1, some ⟨b1, 0, none⟩] w9 := Ex.call (as0 := []) (rt := [p1, some ⟨b1, 0, none⟩]) hE hC
              exact ⟨HasB.put hB 26 rfl rfl rfl rfl, hE, hr.step hfr (fun _ _ h => h), x1, o1, hp17.keep rfl rfl (fun _ ⟨p2, c2, e, r1⟩ => ⟨_, _, e, r1.step hfr.size (fun k hk _ => hfr.blk k hk id)⟩)⟩
          · intro b a w10 hb hI
            obtain ⟨hB, hE, hr, x1, o1, hp17⟩ := hI
            have ha : Has 48 [(11, .agg #[.int .i64 a0_0, .string a0_1]), (12, .bool t3), (13, .agg #[.int .i64 a0_0, .string a0_1]), (14, .bool t4), (15, .bool (t3 == t4)), (16, .bool (t3 == t4)), (17, .agg #[.int .i64 a0_0, .string a0_1]), (18, .int .u16 t5), (19, .int .i64 (IntKind.i64.wrap t5)), (20, .agg #[.int .i64 a0_0, .string a0_1]), (21, .int .i64 t6), (22, .bool (decide ((IntKind.i64.wrap t5) = t6))), (23, .bool (decide ((IntKind.i64.wrap t5) = t6))), (24, .bool (decide ((IntKind.i64.wrap t5) = t6))), (25, .slice p1 t2.length c1), (26, .string (strOf t2)), (27, .agg #[.int .i64 a0_0, .string a0_1]), (29, .string (strOf t7)), (30, .bool (decide ((strOf t2) = (strOf t7)))), (31, .bool (decide ((strOf t2) = (strOf t7)))), (32, .bool (decide ((strOf t2) = (strOf t7)))), (33, .slice p1 t2.length c1), (34, .int .i64 (t2.length : Int)), (35, .bool (decide ((0 : Int) < (t2.length : Int)))), (36, .agg #[.int .i64 a0_0, .string a0_1]), (37, .bool t8), (1, .pointer (some ⟨b1, 0, none⟩)), (3, .slice p1 t2.length c1)] a := hB.get [0, 1, 2, 3, 4, 5, 6, 7, 8, 9, 10, 11, 12, 13, 14, 15, 16, 18, 19, 20, 21, 22, 23, 24, 25, 26] (List.forall_mem_cons.2 ⟨(hb 0 (by decide) (by decide)), (List.forall_mem_cons.2 ⟨(hb 1 (by decide) (by decide)), (List.forall_mem_cons.2 ⟨(hb 2 (by decide) (by decide)), (List.forall_mem_cons.2 ⟨(hb 3 (by decide) (by decide)), (List.forall_mem_cons.2 ⟨(hb 4 (by decide) (by decide)), (List.forall_mem_cons.2 ⟨(hb 5 (by decide) (by decide)), (List.forall_mem_cons.2 ⟨(hb 6 (by decide) (by decide)), (List.forall_mem_cons.2 ⟨(hb 7 (by decide) (by decide)), (List.forall_mem_cons.2 ⟨(hb 8 (by decide) (by decide)), (List.forall_mem_cons.2 ⟨(hb 9 (by decide) (by decide)), (List.forall_mem_cons.2 ⟨(hb 10 (by decide) (by decide)), (List.forall_mem_cons.2 ⟨(hb 11 (by decide) (by decide)), (List.forall_mem_cons.2 ⟨(hb 12 (by decide) (by decide)), (List.forall_mem_cons.2 ⟨(hb 13 (by decide) (by decide)), (List.forall_mem_cons.2 ⟨(hb 14 (by decide) (by decide)), (List.forall_mem_cons.2 ⟨(hb 15 (by decide) (by decide)), (List.forall_mem_cons.2 ⟨(hb 16 (by decide) (by decide)), (List.forall_mem_cons.2 ⟨(hb 18 (by decide) (by decide)), (List.forall_mem_cons.2 ⟨(hb 19 (by decide) (by decide)), (List.forall_mem_cons.2 ⟨(hb 20 (by decide) (by decide)), (List.forall_mem_cons.2 ⟨(hb 21 (by decide) (by decide)), (List.forall_mem_cons.2 ⟨(hb 22 (by decide) (by decide)), (List.forall_mem_cons.2 ⟨(hb 23 (by decide) (by decide)), (List.forall_mem_cons.2 ⟨(hb 24 (by decide) (by decide)), (List.forall_mem_cons.2 ⟨(hb 25 (by decide) (by decide)), (List.forall_mem_cons.2 ⟨(hb 26 (by decide) (by decide)), (fun _ h => by cases h)⟩)⟩)⟩)⟩)⟩)⟩)⟩)⟩)⟩)⟩)⟩)⟩)⟩)⟩)⟩)⟩)⟩)⟩)⟩)⟩)⟩)⟩)⟩)⟩)⟩)⟩) _ rfl
            obtain ⟨p2, c2, hs, r1⟩ := hp17 (hb 17 (by decide) (by decide))
            have ha := ha.know hs
            refine goOn1 ha rfl rfl rfl rfl (decide_eq_true hc4) (d_eqB ha Try.underlying4 rfl rfl) fun a ha => ?_
            refine go1 ha rfl (d_pick ha rfl (decide_eq_true hc4) rfl) fun a ha => ?_
            refine go1 ha rfl (d_move ha rfl) fun a ha => ?_
            rcases cond_elim hF with ⟨hc5, hF⟩ | ⟨hc5, hF⟩
            · refine goOn1 ha rfl rfl rfl rfl hc5 (d_move ha rfl) fun a ha => ?_
              refine goOn1 ha rfl rfl rfl rfl hc5 (d_lenSlice ha Try.underlying22 rfl) fun a ha => ?_
              refine goOn1 ha rfl rfl rfl rfl hc5 (d_le ha rfl rfl) fun a ha => ?_
              refine go1 ha rfl (d_pick ha rfl hc5 rfl) fun a ha => ?_
              refine go1 ha rfl (d_move ha rfl) fun a ha => ?_
              rcases ite_elim hF with ⟨hc6, hF⟩ | ⟨hc6, hF⟩
              · obtain ⟨t9, ht9, hF⟩ := bind_elim hF
                refine goOnR ha rfl rfl rfl rfl (decide_eq_true hc6) (d_call Try.call10 ha (vs := []) rfl (warderlaw02_known_c k   (Av [p1, some ⟨b1, 0, none⟩] W) _ (Ex.wlt (as0 := []) (rr := []) (ro := [p1, some ⟨b1, 0, none⟩]) hE hW)  _ ht9)) fun v w11 a h ha => ?_
                obtain ⟨rfl, hC⟩ := h
                have hs : Step [p1, some ⟨b1, 0, none⟩] [p1, some ⟨b1, 0, none⟩] w10 w11 := hC.callStep [p1, some ⟨b1, 0, none⟩]
                have r1 := hs.tr r1
                have o1 := o1.keep hC.fr (Ex.callOff (as0 := []) (rt := [p1, some ⟨b1, 0, none⟩]) hE (u := p1) (by simp)) (fun _ _ h => hs.trK h)
                have x1 := x1.keep hC.fr ((Ex.callOff (as0 := []) (rt := [p1, some ⟨b1, 0, none⟩]) hE (u := some ⟨b1, 0, none⟩) (by simp)) _ rfl)
                have hE : Ex w (Av [] No) [p1, some ⟨b1, 0, none⟩] w11 := Ex.call (as0 := []) (rt := [p1, some ⟨b1, 0, none⟩]) hE hC
                refine go1 ha rfl (d_pick ha rfl (decide_eq_true hc6) rfl) fun a ha => ?_
                refine go1 ha rfl (d_assign ha rfl) fun a ha => ?_
                refine nil_ ?_
                refine hK6 _ _ ?_
                have ha := ha.to (l' := [(2, _)]) rfl
                refine wp_ret ?_
                have hs : Step [p1, some ⟨b1, 0, none⟩] [] w11 w11 := Step.pick _ _ []
                have r1 := hs.tr r1
                have hE : Ex w (Av [] No) [] w11 := hE.pick [] (by decide)
                injection hF with hF
                subst hF
                refine fin1 ha Try.results4 rfl ?_
                exact ⟨rfl, hE⟩
              · refine goOff ha rfl rfl rfl rfl (decide_eq_false hc6) fun a ha => ?_
                refine go1 ha rfl (d_pickF ha rfl (decide_eq_false hc6) rfl) fun a ha => ?_
                refine go1 ha rfl (d_assign ha rfl) fun a ha => ?_
                refine nil_ ?_
                refine hK6 _ _ ?_
                have ha := ha.to (l' := [(2, _)]) rfl
                refine wp_ret ?_
                have hs : Step [p1, some ⟨b1, 0, none⟩] [] w10 w10 := Step.pick _ _ []
                have r1 := hs.tr r1
                have hE : Ex w (Av [] No) [] w10 := hE.pick [] (by decide)
                injection hF with hF
                subst hF
                refine fin1 ha Try.results4 rfl ?_
                exact ⟨rfl, hE⟩
            · refine goOff ha rfl rfl rfl rfl hc5 fun a ha => ?_
              refine goOff ha rfl rfl rfl rfl hc5 fun a ha => ?_
              refine goOff ha rfl rfl rfl rfl hc5 fun a ha => ?_
              refine go1 ha rfl (d_pickF ha rfl hc5 rfl) fun a ha => ?_
              refine go1 ha rfl (d_move ha rfl) fun a ha => ?_
              refine goOff ha rfl rfl rfl rfl rfl fun a ha => ?_
              refine go1 ha rfl (d_pickF ha rfl rfl rfl) fun a ha => ?_
              refine go1 ha rfl (d_assign ha rfl) fun a ha => ?_
              refine nil_ ?_
              refine hK6 _ _ ?_
              have ha := ha.to (l' := [(2, _)]) rfl
              refine wp_ret ?_
              have hs : Step [p1, some ⟨b1, 0, none⟩] [] w10 w10 := Step.pick _ _ []
              have r1 := hs.tr r1
              have hE : Ex w (Av [] No) [] w10 := hE.pick [] (by decide)
              injection hF with hF
              subst hF
              refine fin1 ha Try.results4 rfl ?_
              exact ⟨rfl, hE⟩
        · refine drawnC 4 (by kernel_rfl) 27 (by decide) rfl (fun b a wI => HasB 48 [(1, .pointer (some ⟨b1, 0, none⟩)), (3, .slice p1 t2.length c1)] [(0, 11, .agg #[.int .i64 a0_0, .string a0_1]), (1, 12, .bool t3), (2, 13, .agg #[.int .i64 a0_0, .string a0_1]), (3, 14, .bool t4), (4, 15, .bool (t3 == t4)), (5, 16, .bool (t3 == t4)), (6, 17, .agg #[.int .i64 a0_0, .string a0_1]), (7, 18, .int .u16 t5), (8, 19, .int .i64 (IntKind.i64.wrap t5)), (9, 20, .agg #[.int .i64 a0_0, .string a0_1]), (10, 21, .int .i64 t6), (11, 22, .bool (decide ((IntKind.i64.wrap t5) = t6))), (12, 23, .bool (decide ((IntKind.i64.wrap t5) = t6))), (13, 24, .bool (decide ((IntKind.i64.wrap t5) = t6))), (14, 25, .slice p1 t2.length c1), (15, 26, .string (strOf t2)), (16, 27, .agg #[.int .i64 a0_0, .string a0_1]), (18, 29, .string (strOf t7)), (19, 30, .bool (decide ((strOf t2) = (strOf t7)))), (20, 31, .bool (decide ((strOf t2) = (strOf t7)))), (21, 32, .bool (decide ((strOf t2) = (strOf t7)))), (22, 33, undef), (23, 34, undef), (24, 35, undef), (25, 36, undef), (26, 37, undef)] b a ∧ Ex w (Av [] No) [p1, some ⟨b1, 0, none⟩] wI ∧ Fr w3 wI No ∧ Bx wI b1 29 [.int .i64 a0_0, .string a0_1] ∧ Ow (Av [p1, some ⟨b1, 0, none⟩] W) wI 5 (Kd.int .u8) p1 c1 t2 ∧ Sl b a 17 28 (fun v => ∃ (p2 : Option Addr) (c2 : Nat), v = .slice p2 t7.length c2 ∧ Raw (Av [p1, some ⟨b1, 0, none⟩] (Old w)) (Kd.int .u8) wI.heap p2 c2 t7)) ?_ (EachAt.all0 ?_) ?_
          · exact ⟨HasB.start (ha.to rfl) rfl, hE.drew, (Fr.refl _ No).drew, x1, o1, Sl.start rfl⟩
          · refine (EachAt.cons ?_ (EachAt.cons ?_ (EachAt.cons ?_ (EachAt.cons ?_ (EachAt.cons ?_ (EachAt.cons ?_ (EachAt.cons ?_ (EachAt.cons ?_ (EachAt.cons ?_ (EachAt.cons ?_ (EachAt.cons ?_ (EachAt.cons ?_ (EachAt.cons ?_ (EachAt.cons ?_ (EachAt.cons ?_ (EachAt.cons ?_ (EachAt.cons ?_ (EachAt.cons ?_ (EachAt.cons ?_ (EachAt.cons ?_ (EachAt.cons ?_ (EachAt.cons ?_ (EachAt.cons ?_ (EachAt.cons ?_ (EachAt.cons ?_ (EachAt.cons ?_ (EachAt.cons ?_ EachAt.nil)))))))))))))))))))))))))))
            · intro b a wI hI hb hn hc
              obtain ⟨hB, hE, hr, x1, o1, hp17⟩ := hI
              have ha : Has 48 [(1, .pointer (some ⟨b1, 0, none⟩))] a := hB.get [] (fun _ h => by cases h) _ rfl
              refine DoesG.plain rfl (Does.mono (d_loadAgg (cs := [.int .i64 a0_0, .string a0_1]) ha rfl (x1.at_.sub' 0 2 rfl) Try.isAgg29 Try.sizeOf29 rfl) ?_)
              rintro v wJ ⟨rfl, rfl⟩
              exact ⟨HasB.put hB 0 rfl rfl rfl rfl, hE, hr, x1, o1, hp17.keep rfl rfl (fun _ h => h)⟩
            · intro b a wI hI hb hn hc
              obtain ⟨hB, hE, hr, x1, o1, hp17⟩ := hI
              have ha : Has 48 [(11, .agg #[.int .i64 a0_0, .string a0_1])] a := hB.get [0] (List.forall_mem_cons.2 ⟨(hn 0 (mem_needs rfl)), (fun _ h => by cases h)⟩) _ rfl
              refine DoesG.plain rfl (Does.mono (d_call Try.call16 ha (vs := [.agg #[.int .i64 a0_0, .string a0_1]]) rfl (nibble_May_c k a0_0 a0_1  (Av [p1, some ⟨b1, 0, none⟩] W) _ (Ex.wlt (as0 := []) (rr := []) (ro := [p1, some ⟨b1, 0, none⟩]) hE hW)  _ ht3)) ?_)
              intro v w4 h
              obtain ⟨rfl, hC⟩ := h
              have hfr : Fr wI w4 No := hC.fr.mono (fun _ _ h => by rcases h with h | ⟨_, h, _⟩; exact h; cases h)
              have hs : Step [p1, some ⟨b1, 0, none⟩] [p1, some ⟨b1, 0, none⟩] wI w4 := hC.callStep [p1, some ⟨b1, 0, none⟩]
              have o1 := o1.keep hC.fr (Ex.callOff (as0 := []) (rt := [p1, some ⟨b1, 0, none⟩]) hE (u := p1) (by simp)) (fun _ _ h => hs.trK h)
              have x1 := x1.keep hC.fr ((Ex.callOff (as0 := []) (rt := [p1, some ⟨b1, 0, none⟩]) hE (u := some ⟨b1, 0, none⟩) (by simp)) _ rfl)
              have hE : Ex w (Av [] No) [p1, some ⟨b1, 0, none⟩] w4 := Ex.call (as0 := []) (rt := [p1, some ⟨b1, 0, none⟩]) hE hC
              exact ⟨HasB.put hB 1 rfl rfl rfl rfl, hE, hr.step hfr (fun _ _ h => h), x1, o1, hp17.keep rfl rfl (fun _ ⟨p2, c2, e, r1⟩ => ⟨_, _, e, r1.step hfr.size (fun k hk _ => hfr.blk k hk id)⟩)⟩
            · intro b a wI hI hb hn hc
              obtain ⟨hB, hE, hr, x1, o1, hp17⟩ := hI
              have ha : Has 48 [(1, .pointer (some ⟨b1, 0, none⟩))] a := hB.get [] (fun _ h => by cases h) _ rfl
              refine DoesG.plain rfl (Does.mono (d_loadAgg (cs := [.int .i64 a0_0, .string a0_1]) ha rfl (x1.at_.sub' 0 2 rfl) Try.isAgg29 Try.sizeOf29 rfl) ?_)
              rintro v wJ ⟨rfl, rfl⟩
              exact ⟨HasB.put hB 2 rfl rfl rfl rfl, hE, hr, x1, o1, hp17.keep rfl rfl (fun _ h => h)⟩
            · intro b a wI hI hb hn hc
              obtain ⟨hB, hE, hr, x1, o1, hp17⟩ := hI
              have ha : Has 48 [(13, .agg #[.int .i64 a0_0, .string a0_1])] a := hB.get [2] (List.forall_mem_cons.2 ⟨(hn 2 (mem_needs rfl)), (fun _ h => by cases h)⟩) _ rfl
              refine DoesG.plain rfl (Does.mono (d_call Try.call17 ha (vs := [.agg #[.int .i64 a0_0, .string a0_1]]) rfl (warderref02_May_c k a0_0 a0_1  (Av [p1, some ⟨b1, 0, none⟩] W) _ (Ex.wlt (as0 := []) (rr := []) (ro := [p1, some ⟨b1, 0, none⟩]) hE hW)  _ ht4)) ?_)
              intro v w5 h
              obtain ⟨rfl, hC⟩ := h
              have hfr : Fr wI w5 No := hC.fr.mono (fun _ _ h => by rcases h with h | ⟨_, h, _⟩; exact h; cases h)
              have hs : Step [p1, some ⟨b1, 0, none⟩] [p1, some ⟨b1, 0, none⟩] wI w5 := hC.callStep [p1, some ⟨b1, 0, none⟩]
              have o1 := o1.keep hC.fr (Ex.callOff (as0 := []) (rt := [p1, some ⟨b1, 0, none⟩]) hE (u := p1) (by simp)) (fun _ _ h => hs.trK h)
              have x1 := x1.keep hC.fr ((Ex.callOff (as0 := []) (rt := [p1, some ⟨b1, 0, none⟩]) hE (u := some ⟨b1, 0, none⟩) (by simp)) _ rfl)
              have hE : Ex w (Av [] No) [p1, some ⟨b1, 0, none⟩] w5 := Ex.call (as0 := []) (rt := [p1, some ⟨b1, 0, none⟩]) hE hC
              exact ⟨HasB.put hB 3 rfl rfl rfl rfl, hE, hr.step hfr (fun _ _ h => h), x1, o1, hp17.keep rfl rfl (fun _ ⟨p2, c2, e, r1⟩ => ⟨_, _, e, r1.step hfr.size (fun k hk _ => hfr.blk k hk id)⟩)⟩
            · intro b a wI hI hb hn hc
              obtain ⟨hB, hE, hr, x1, o1, hp17⟩ := hI
              have ha : Has 48 [(12, .bool t3), (14, .bool t4)] a := hB.get [1, 3] (List.forall_mem_cons.2 ⟨(hn 1 (mem_needs rfl)), (List.forall_mem_cons.2 ⟨(hn 3 (mem_needs rfl)), (fun _ h => by cases h)⟩)⟩) _ rfl
              refine DoesG.plain rfl (Does.mono (d_eqB ha Try.underlying4 rfl rfl) ?_)
              rintro v wJ ⟨rfl, rfl⟩
              exact ⟨HasB.put hB 4 rfl rfl rfl rfl, hE, hr, x1, o1, hp17.keep rfl rfl (fun _ h => h)⟩
            · intro b a wI hI hb hn hc
              obtain ⟨hB, hE, hr, x1, o1, hp17⟩ := hI
              have ha : Has 48 [(15, .bool (t3 == t4))] a := hB.get [4] (List.forall_mem_cons.2 ⟨(hn 4 (mem_needs rfl)), (fun _ h => by cases h)⟩) _ rfl
              refine DoesG.plain rfl (Does.mono (d_move ha rfl) ?_)
              rintro v wJ ⟨rfl, rfl⟩
              exact ⟨HasB.put hB 5 rfl rfl rfl rfl, hE, hr, x1, o1, hp17.keep rfl rfl (fun _ h => h)⟩
            · intro b a wI hI hb hn hc
              obtain ⟨hB, hE, hr, x1, o1, hp17⟩ := hI
              have ha : Has 48 [(1, .pointer (some ⟨b1, 0, none⟩)), (16, .bool (t3 == t4))] a := hB.get [5] (List.forall_mem_cons.2 ⟨(hn 5 (mem_needs rfl)), (fun _ h => by cases h)⟩) _ rfl
              refine DoesG.on rfl ha rfl rfl rfl hc2 (Does.mono (d_loadAgg (cs := [.int .i64 a0_0, .string a0_1]) ha rfl (x1.at_.sub' 0 2 rfl) Try.isAgg29 Try.sizeOf29 rfl) ?_)
              rintro v wJ ⟨rfl, rfl⟩
              exact ⟨HasB.put hB 6 rfl rfl rfl rfl, hE, hr, x1, o1, hp17.keep rfl rfl (fun _ h => h)⟩
            · intro b a wI hI hb hn hc
              obtain ⟨hB, hE, hr, x1, o1, hp17⟩ := hI
              have ha : Has 48 [(16, .bool (t3 == t4)), (17, .agg #[.int .i64 a0_0, .string a0_1])] a := hB.get [5, 6] (List.forall_mem_cons.2 ⟨(hn 5 (mem_needs rfl)), (List.forall_mem_cons.2 ⟨(hn 6 (mem_needs rfl)), (fun _ h => by cases h)⟩)⟩) _ rfl
              refine DoesG.on rfl ha rfl rfl rfl hc2 (Does.mono (d_call Try.call18 ha (vs := [.agg #[.int .i64 a0_0, .string a0_1]]) rfl (nibble_Hash_c k a0_0 a0_1  (Av [p1, some ⟨b1, 0, none⟩] W) _ (Ex.wlt (as0 := []) (rr := []) (ro := [p1, some ⟨b1, 0, none⟩]) hE hW)  _ ht5)) ?_)
              intro v w6 h
              obtain ⟨rfl, hC⟩ := h
              have hfr : Fr wI w6 No := hC.fr.mono (fun _ _ h => by rcases h with h | ⟨_, h, _⟩; exact h; cases h)
              have hs : Step [p1, some ⟨b1, 0, none⟩] [p1, some ⟨b1, 0, none⟩] wI w6 := hC.callStep [p1, some ⟨b1, 0, none⟩]
              have o1 := o1.keep hC.fr (Ex.callOff (as0 := []) (rt := [p1, some ⟨b1, 0, none⟩]) hE (u := p1) (by simp)) (fun _ _ h => hs.trK h)
              have x1 := x1.keep hC.fr ((Ex.callOff (as0 := []) (rt := [p1, some ⟨b1, 0, none⟩]) hE (u := some ⟨b1, 0, none⟩) (by simp)) _ rfl)
              have hE : Ex w (Av [] No) [p1, some ⟨b1, 0, none⟩] w6 := Ex.call (as0 := []) (rt := [p1, some ⟨b1, 0, none⟩]) hE hC
              exact ⟨HasB.put hB 7 rfl rfl rfl rfl, hE, hr.step hfr (fun _ _ h => h), x1, o1, hp17.keep rfl rfl (fun _ ⟨p2, c2, e, r1⟩ => ⟨_, _, e, r1.step hfr.size (fun k hk _ => hfr.blk k hk id)⟩)⟩
            · intro b a wI hI hb hn hc
              obtain ⟨hB, hE, hr, x1, o1, hp17⟩ := hI
              have ha : Has 48 [(16, .bool (t3 == t4)), (18, .int .u16 t5)] a := hB.get [5, 7] (List.forall_mem_cons.2 ⟨(hn 5 (mem_needs rfl)), (List.forall_mem_cons.2 ⟨(hn 7 (mem_needs rfl)), (fun _ h => by cases h)⟩)⟩) _ rfl
              refine DoesG.on rfl ha rfl rfl rfl hc2 (Does.mono (d_cvt ha Try.underlying32 Try.underlying3 rfl) ?_)
              rintro v wJ ⟨rfl, rfl⟩
              exact ⟨HasB.put hB 8 rfl rfl rfl rfl, hE, hr, x1, o1, hp17.keep rfl rfl (fun _ h => h)⟩
            · intro b a wI hI hb hn hc
              obtain ⟨hB, hE, hr, x1, o1, hp17⟩ := hI
              have ha : Has 48 [(1, .pointer (some ⟨b1, 0, none⟩)), (16, .bool (t3 == t4))] a := hB.get [5] (List.forall_mem_cons.2 ⟨(hn 5 (mem_needs rfl)), (fun _ h => by cases h)⟩) _ rfl
              refine DoesG.on rfl ha rfl rfl rfl hc2 (Does.mono (d_loadAgg (cs := [.int .i64 a0_0, .string a0_1]) ha rfl (x1.at_.sub' 0 2 rfl) Try.isAgg29 Try.sizeOf29 rfl) ?_)
              rintro v wJ ⟨rfl, rfl⟩
              exact ⟨HasB.put hB 9 rfl rfl rfl rfl, hE, hr, x1, o1, hp17.keep rfl rfl (fun _ h => h)⟩
            · intro b a wI hI hb hn hc
              obtain ⟨hB, hE, hr, x1, o1, hp17⟩ := hI
              have ha : Has 48 [(16, .bool (t3 == t4)), (20, .agg #[.int .i64 a0_0, .string a0_1])] a := hB.get [5, 9] (List.forall_mem_cons.2 ⟨(hn 5 (mem_needs rfl)), (List.forall_mem_cons.2 ⟨(hn 9 (mem_needs rfl)), (fun _ h => by cases h)⟩)⟩) _ rfl
              refine DoesG.on rfl ha rfl rfl rfl hc2 (Does.mono (d_call Try.call19 ha (vs := [.agg #[.int .i64 a0_0, .string a0_1]]) rfl (warderref02_Hash_c k a0_0 a0_1  (Av [p1, some ⟨b1, 0, none⟩] W) _ (Ex.wlt (as0 := []) (rr := []) (ro := [p1, some ⟨b1, 0, none⟩]) hE hW)  _ ht6)) ?_)
              intro v w7 h
              obtain ⟨rfl, hC⟩ := h
              have hfr : Fr wI w7 No := hC.fr.mono (fun _ _ h => by rcases h with h | ⟨_, h, _⟩; exact h; cases h)
              have hs : Step [p1, some ⟨b1, 0, none⟩] [p1, some ⟨b1, 0, none⟩] wI w7 := hC.callStep [p1, some ⟨b1, 0, none⟩]
              have o1 := o1.keep hC.fr (Ex.callOff (as0 := []) (rt := [p1, some ⟨b1, 0, none⟩]) hE (u := p1) (by simp)) (fun _ _ h => hs.trK h)
              have x1 := x1.keep hC.fr ((Ex.callOff (as0 := []) (rt := [p1, some ⟨b1, 0, none⟩]) hE (u := some ⟨b1, 0, none⟩) (by simp)) _ rfl)
              have hE : Ex w (Av [] No) [p1, some ⟨b1, 0, none⟩] w7 := Ex.call (as0 := []) (rt := [p1, some ⟨b1, 0, none⟩]) hE hC
              exact ⟨HasB.put hB 10 rfl rfl rfl rfl, hE, hr.step hfr (fun _ _ h => h), x1, o1, hp17.keep rfl rfl (fun _ ⟨p2, c2, e, r1⟩ => ⟨_, _, e, r1.step hfr.size (fun k hk _ => hfr.blk k hk id)⟩)⟩
            · intro b a wI hI hb hn hc
              obtain ⟨hB, hE, hr, x1, o1, hp17⟩ := hI
              have ha : Has 48 [(16, .bool (t3 == t4)), (19, .int .i64 (IntKind.i64.wrap t5)), (21, .int .i64 t6)] a := hB.get [5, 8, 10] (List.forall_mem_cons.2 ⟨(hn 5 (mem_needs rfl)), (List.forall_mem_cons.2 ⟨(hn 8 (mem_needs rfl)), (List.forall_mem_cons.2 ⟨(hn 10 (mem_needs rfl)), (fun _ h => by cases h)⟩)⟩)⟩) _ rfl
              refine DoesG.on rfl ha rfl rfl rfl hc2 (Does.mono (d_eqI ha rfl rfl) ?_)
              rintro v wJ ⟨rfl, rfl⟩
              exact ⟨HasB.put hB 11 rfl rfl rfl rfl, hE, hr, x1, o1, hp17.keep rfl rfl (fun _ h => h)⟩
            · intro b a wI hI hb hn hc
              obtain ⟨hB, hE, hr, x1, o1, hp17⟩ := hI
              have ha : Has 48 [(16, .bool (t3 == t4)), (22, .bool (decide ((IntKind.i64.wrap t5) = t6)))] a := hB.get [5, 11] (List.forall_mem_cons.2 ⟨(hn 5 (mem_needs rfl)), (List.forall_mem_cons.2 ⟨(hn 11 (mem_needs rfl)), (fun _ h => by cases h)⟩)⟩) _ rfl
              refine DoesG.plain rfl (Does.mono (d_pick ha rfl hc2 rfl) ?_)
              rintro v wJ ⟨rfl, rfl⟩
              exact ⟨HasB.put hB 12 rfl rfl rfl rfl, hE, hr, x1, o1, hp17.keep rfl rfl (fun _ h => h)⟩
            · intro b a wI hI hb hn hc
              obtain ⟨hB, hE, hr, x1, o1, hp17⟩ := hI
              have ha : Has 48 [(23, .bool (decide ((IntKind.i64.wrap t5) = t6)))] a := hB.get [12] (List.forall_mem_cons.2 ⟨(hn 12 (mem_needs rfl)), (fun _ h => by cases h)⟩) _ rfl
              refine DoesG.plain rfl (Does.mono (d_move ha rfl) ?_)
              rintro v wJ ⟨rfl, rfl⟩
              exact ⟨HasB.put hB 13 rfl rfl rfl rfl, hE, hr, x1, o1, hp17.keep rfl rfl (fun _ h => h)⟩
            · intro b a wI hI hb hn hc
              obtain ⟨hB, hE, hr, x1, o1, hp17⟩ := hI
              have ha : Has 48 [(3, .slice p1 t2.length c1), (24, .bool (decide ((IntKind.i64.wrap t5) = t6)))] a := hB.get [13] (List.forall_mem_cons.2 ⟨(hn 13 (mem_needs rfl)), (fun _ h => by cases h)⟩) _ rfl
              refine DoesG.on rfl ha rfl rfl rfl (decide_eq_true hc3) (Does.mono (d_move ha rfl) ?_)
              rintro v wJ ⟨rfl, rfl⟩
              exact ⟨HasB.put hB 14 rfl rfl rfl rfl, hE, hr, x1, o1, hp17.keep rfl rfl (fun _ h => h)⟩
            · intro b a wI hI hb hn hc
              obtain ⟨hB, hE, hr, x1, o1, hp17⟩ := hI
              have ha : Has 48 [(24, .bool (decide ((IntKind.i64.wrap t5) = t6))), (25, .slice p1 t2.length c1)] a := hB.get [13, 14] (List.forall_mem_cons.2 ⟨(hn 13 (mem_needs rfl)), (List.forall_mem_cons.2 ⟨(hn 14 (mem_needs rfl)), (fun _ h => by cases h)⟩)⟩) _ rfl
              refine DoesG.on rfl ha rfl rfl rfl (decide_eq_true hc3) (Does.mono (d_b2s ha Try.underlying22 Try.underlying5 Try.underlying9 rfl o1.rawNo) ?_)
              rintro v wJ ⟨rfl, rfl⟩
              exact ⟨HasB.put hB 15 rfl rfl rfl rfl, hE, hr, x1, o1, hp17.keep rfl rfl (fun _ h => h)⟩
            · intro b a wI hI hb hn hc
              obtain ⟨hB, hE, hr, x1, o1, hp17⟩ := hI
              have ha : Has 48 [(1, .pointer (some ⟨b1, 0, none⟩)), (24, .bool (decide ((IntKind.i64.wrap t5) = t6)))] a := hB.get [13] (List.forall_mem_cons.2 ⟨(hn 13 (mem_needs rfl)), (fun _ h => by cases h)⟩) _ rfl
              refine DoesG.on rfl ha rfl rfl rfl (decide_eq_true hc3) (Does.mono (d_loadAgg (cs := [.int .i64 a0_0, .string a0_1]) ha rfl (x1.at_.sub' 0 2 rfl) Try.isAgg29 Try.sizeOf29 rfl) ?_)
              rintro v wJ ⟨rfl, rfl⟩
              exact ⟨HasB.put hB 16 rfl rfl rfl rfl, hE, hr, x1, o1, hp17.keep rfl rfl (fun _ h => h)⟩
            · intro b a wI hI hb hn hc
              obtain ⟨hB, hE, hr, x1, o1, hp17⟩ := hI
              have ha : Has 48 [(24, .bool (decide ((IntKind.i64.wrap t5) = t6))), (27, .agg #[.int .i64 a0_0, .string a0_1])] a := hB.get [13, 16] (List.forall_mem_cons.2 ⟨(hn 13 (mem_needs rfl)), (List.forall_mem_cons.2 ⟨(hn 16 (mem_needs rfl)), (fun _ h => by cases h)⟩)⟩) _ rfl
              refine DoesG.on rfl ha rfl rfl rfl (decide_eq_true hc3) (Does.mono (d_call Try.call20 ha (vs := [.agg #[.int .i64 a0_0, .string a0_1]]) rfl (warderref02_Of_c k a0_0 a0_1  (Av [p1, some ⟨b1, 0, none⟩] W) _ (Ex.wlt (as0 := []) (rr := []) (ro := [p1, some ⟨b1, 0, none⟩]) hE hW)  _ ht7)) ?_)
              intro v w8 h
              obtain ⟨p2, c2, rfl, hC, o2⟩ := h
              have hfr : Fr wI w8 No := hC.fr.mono (fun _ _ h => by rcases h with h | ⟨_, h, _⟩; exact h; cases h)
              have hs : Step [p1, some ⟨b1, 0, none⟩] [p2, p1, some ⟨b1, 0, none⟩] wI w8 := hC.callStep [p1, some ⟨b1, 0, none⟩]
              have o1 := o1.keep hC.fr (Ex.callOff (as0 := []) (rt := [p1, some ⟨b1, 0, none⟩]) hE (u := p1) (by simp)) (fun _ _ h => hs.trK h)
              have x1 := x1.keep hC.fr ((Ex.callOff (as0 := []) (rt := [p1, some ⟨b1, 0, none⟩]) hE (u := some ⟨b1, 0, none⟩) (by simp)) _ rfl)
              have o2 : Ow (Av [p2, p1, some ⟨b1, 0, none⟩] W) w8 5 (Kd.int .u8) p2 c2 t7 := o2.alone (Kd.Flat.int _)
              have hE : Ex w (Av [] No) [p2, p1, some ⟨b1, 0, none⟩] w8 := Ex.call (as0 := []) (rt := [p1, some ⟨b1, 0, none⟩]) hE hC
              have r1 : Raw (Av [p1, some ⟨b1, 0, none⟩] (Old w)) (Kd.int .u8) w8.heap p2 c2 t7 := o2.freeF (Kd.Flat.int _) hE 0 rfl
              have hs : Step [p2, p1, some ⟨b1, 0, none⟩] [p1, some ⟨b1, 0, none⟩] w8 w8 := Step.pick _ _ [1, 2]
              have o1 := o1.keep (Fr.refl _ No) (fun _ _ h => h) (fun _ _ h => hs.trK h)
              have hE : Ex w (Av [] No) [p1, some ⟨b1, 0, none⟩] w8 := hE.pick [1, 2] (by decide)
              exact ⟨HasB.putR hB 17 rfl rfl rfl, hE, hr.step hfr (fun _ _ h => h), x1, o1, Sl.new hB.has rfl ⟨_, _, rfl, r1⟩⟩
            · intro b a wI hI hb hn hc
              obtain ⟨hB, hE, hr, x1, o1, hp17⟩ := hI
              have ha : Has 48 [(24, .bool (decide ((IntKind.i64.wrap t5) = t6)))] a := hB.get [13] (List.forall_mem_cons.2 ⟨(hn 13 (mem_needs rfl)), (fun _ h => by cases h)⟩) _ rfl
              obtain ⟨p2, c2, hs17, r1⟩ := hp17 (hn 17 (mem_needs rfl))
              have ha := ha.know hs17
              refine DoesG.on rfl ha rfl rfl rfl (decide_eq_true hc3) (Does.mono (d_b2s ha Try.underlying22 Try.underlying5 Try.underlying9 rfl r1) ?_)
              rintro v wJ ⟨rfl, rfl⟩
              exact ⟨HasB.put hB 18 rfl rfl rfl rfl, hE, hr, x1, o1, hp17.keep rfl rfl (fun _ h => h)⟩
            · intro b a wI hI hb hn hc
              obtain ⟨hB, hE, hr, x1, o1, hp17⟩ := hI
              have ha : Has 48 [(24, .bool (decide ((IntKind.i64.wrap t5) = t6))), (26, .string (strOf t2)), (29, .string (strOf t7))] a := hB.get [13, 15, 18] (List.forall_mem_cons.2 ⟨(hn 13 (mem_needs rfl)), (List.forall_mem_cons.2 ⟨(hn 15 (mem_needs rfl)), (List.forall_mem_cons.2 ⟨(hn 18 (mem_needs rfl)), (fun _ h => by cases h)⟩)⟩)⟩) _ rfl
              refine DoesG.on rfl ha rfl rfl rfl (decide_eq_true hc3) (Does.mono (d_eqS ha rfl rfl) ?_)
              rintro v wJ ⟨rfl, rfl⟩
              exact ⟨HasB.put hB 19 rfl rfl rfl rfl, hE, hr, x1, o1, hp17.keep rfl rfl (fun _ h => h)⟩
            · intro b a wI hI hb hn hc
              obtain ⟨hB, hE, hr, x1, o1, hp17⟩ := hI
              have ha : Has 48 [(24, .bool (decide ((IntKind.i64.wrap t5) = t6))), (30, .bool (decide ((strOf t2) = (strOf t7))))] a := hB.get [13, 19] (List.forall_mem_cons.2 ⟨(hn 13 (mem_needs rfl)), (List.forall_mem_cons.2 ⟨(hn 19 (mem_needs rfl)), (fun _ h => by cases h)⟩)⟩) _ rfl
              refine DoesG.plain rfl (Does.mono (d_pick ha rfl (decide_eq_true hc3) rfl) ?_)
              rintro v wJ ⟨rfl, rfl⟩
              exact ⟨HasB.put hB 20 rfl rfl rfl rfl, hE, hr, x1, o1, hp17.keep rfl rfl (fun _ h => h)⟩
            · intro b a wI hI hb hn hc
              obtain ⟨hB, hE, hr, x1, o1, hp17⟩ := hI
              have ha : Has 48 [(31, .bool (decide ((strOf t2) = (strOf t7))))] a := hB.get [20] (List.forall_mem_cons.2 ⟨(hn 20 (mem_needs rfl)), (fun _ h => by cases h)⟩) _ rfl
              refine DoesG.plain rfl (Does.mono (d_move ha rfl) ?_)
              rintro v wJ ⟨rfl, rfl⟩
              exact ⟨HasB.put hB 21 rfl rfl rfl rfl, hE, hr, x1, o1, hp17.keep rfl rfl (fun _ h => h)⟩
            · intro b a wI hI hb hn hc
              obtain ⟨hB, hE, hr, x1, o1, hp17⟩ := hI
              have ha : Has 48 [(3, .slice p1 t2.length c1), (32, .bool (decide ((strOf t2) = (strOf t7))))] a := hB.get [21] (List.forall_mem_cons.2 ⟨(hn 21 (mem_needs rfl)), (fun _ h => by cases h)⟩) _ rfl
              refine DoesG.off rfl ha rfl rfl rfl (decide_eq_false hc4) ?_
              exact ⟨HasB.put hB 22 rfl rfl rfl rfl, hE, hr, x1, o1, hp17.keep rfl rfl (fun _ h => h)⟩
            · intro b a wI hI hb hn hc
              obtain ⟨hB, hE, hr, x1, o1, hp17⟩ := hI
              have ha : Has 48 [(32, .bool (decide ((strOf t2) = (strOf t7)))), (33, undef)] a := hB.get [21, 22] (List.forall_mem_cons.2 ⟨(hn 21 (mem_needs rfl)), (List.forall_mem_cons.2 ⟨(hn 22 (mem_needs rfl)), (fun _ h => by cases h)⟩)⟩) _ rfl
              refine DoesG.off rfl ha rfl rfl rfl (decide_eq_false hc4) ?_
              exact ⟨HasB.put hB 23 rfl rfl rfl rfl, hE, hr, x1, o1, hp17.keep rfl rfl (fun _ h => h)⟩
            · intro b a wI hI hb hn hc
              obtain ⟨hB, hE, hr, x1, o1, hp17⟩ := hI
              have ha : Has 48 [(32, .bool (decide ((strOf t2) = (strOf t7)))), (34, undef)] a := hB.get [21, 23] (List.forall_mem_cons.2 ⟨(hn 21 (mem_needs rfl)), (List.forall_mem_cons.2 ⟨(hn 23 (mem_needs rfl)), (fun _ h => by cases h)⟩)⟩) _ rfl
              refine DoesG.off rfl ha rfl rfl rfl (decide_eq_false hc4) ?_
              exact ⟨HasB.put hB 24 rfl rfl rfl rfl, hE, hr, x1, o1, hp17.keep rfl rfl (fun _ h => h)⟩
            · intro b a wI hI hb hn hc
              obtain ⟨hB, hE, hr, x1, o1, hp17⟩ := hI
              have ha : Has 48 [(1, .pointer (some ⟨b1, 0, none⟩)), (32, .bool (decide ((strOf t2) = (strOf t7))))] a := hB.get [21] (List.forall_mem_cons.2 ⟨(hn 21 (mem_needs rfl)), (fun _ h => by cases h)⟩) _ rfl
              refine DoesG.off rfl ha rfl rfl rfl (decide_eq_false hc4) ?_
              exact ⟨HasB.put hB 25 rfl rfl rfl rfl, hE, hr, x1, o1, hp17.keep rfl rfl (fun _ h => h)⟩
            · intro b a wI hI hb hn hc
              obtain ⟨hB, hE, hr, x1, o1, hp17⟩ := hI
              have ha : Has 48 [(32, .bool (decide ((strOf t2) = (strOf t7)))), (36, undef)] a := hB.get [21, 25] (List.forall_mem_cons.2 ⟨(hn 21 (mem_needs rfl)), (List.forall_mem_cons.2 ⟨(hn 25 (mem_needs rfl)), (fun _ h => by cases h)⟩)⟩) _ rfl
              refine DoesG.off rfl ha rfl rfl rfl (decide_eq_false hc4) ?_
              exact ⟨HasB.put hB 26 rfl rfl rfl rfl, hE, hr, x1, o1, hp17.keep rfl rfl (fun _ h => h)⟩
          · intro b a w12 hb hI
            obtain ⟨hB, hE, hr, x1, o1, hp17⟩ := hI
            have ha : Has 48 [(11, .agg #[.int .i64 a0_0, .string a0_1]), (12, .bool t3), (13, .agg #[.int .i64 a0_0, .string a0_1]), (14, .bool t4), (15, .bool (t3 == t4)), (16, .bool (t3 == t4)), (17, .agg #[.int .i64 a0_0, .string a0_1]), (18, .int .u16 t5), (19, .int .i64 (IntKind.i64.wrap t5)), (20, .agg #[.int .i64 a0_0, .string a0_1]), (21, .int .i64 t6), (22, .bool (decide ((IntKind.i64.wrap t5) = t6))), (23, .bool (decide ((IntKind.i64.wrap t5) = t6))), (24, .bool (decide ((IntKind.i64.wrap t5) = t6))), (25, .slice p1 t2.length c1), (26, .string (strOf t2)), (27, .agg #[.int .i64 a0_0, .string a0_1]), (29, .string (strOf t7)), (30, .bool (decide ((strOf t2) = (strOf t7)))), (31, .bool (decide ((strOf t2) = (strOf t7)))), (32, .bool (decide ((strOf t2) = (strOf t7)))), (33, undef), (34, undef), (35, undef), (36, undef), (37, undef), (1, .pointer (some ⟨b1, 0, none⟩)), (3, .slice p1 t2.length c1)] a := hB.get [0, 1, 2, 3, 4, 5, 6, 7, 8, 9, 10, 11, 12, 13, 14, 15, 16, 18, 19, 20, 21, 22, 23, 24, 25, 26] (List.forall_mem_cons.2 ⟨(hb 0 (by decide) (by decide)), (List.forall_mem_cons.2 ⟨(hb 1 (by decide) (by decide)), (List.forall_mem_cons.2 ⟨(hb 2 (by decide) (by decide)), (List.forall_mem_cons.2 ⟨(hb 3 (by decide) (by decide)), (List.forall_mem_cons.2 ⟨(hb 4 (by decide) (by decide)), (List.forall_mem_cons.2 ⟨(hb 5 (by decide) (by decide)), (List.forall_mem_cons.2 ⟨(hb 6 (by decide) (by decide)), (List.forall_mem_cons.2 ⟨(hb 7 (by decide) (by decide)), (List.forall_mem_cons.2 ⟨(hb 8 (by decide) (by decide)), (List.forall_mem_cons.2 ⟨(hb 9 (by decide) (by decide)), (List.forall_mem_cons.2 ⟨(hb 10 (by decide) (by decide)), (List.forall_mem_cons.2 ⟨(hb 11 (by decide) (by decide)), (List.forall_mem_cons.2 ⟨(hb 12 (by decide) (by decide)), (List.forall_mem_cons.2 ⟨(hb 13 (by decide) (by decide)), (List.forall_mem_cons.2 ⟨(hb 14 (by decide) (by decide)), (List.forall_mem_cons.2 ⟨(hb 15 (by decide) (by decide)), (List.forall_mem_cons.2 ⟨(hb 16 (by decide) (by decide)), (List.forall_mem_cons.2 ⟨(hb 18 (by decide) (by decide)), (List.forall_mem_cons.2 ⟨(hb 19 (by decide) (by decide)), (List.forall_mem_cons.2 ⟨(hb 20 (by decide) (by decide)), (List.forall_mem_cons.2 ⟨(hb 21 (by decide) (by decide)), (List.forall_mem_cons.2 ⟨(hb 22 (by decide) (by decide)), (List.forall_mem_cons.2 ⟨(hb 23 (by decide) (by decide)), (List.forall_mem_cons.2 ⟨(hb 24 (by decide) (by decide)), (List.forall_mem_cons.2 ⟨(hb 25 (by decide) (by decide)), (List.forall_mem_cons.2 ⟨(hb 26 (by decide) (by decide)), (fun _ h => by cases h)⟩)⟩)⟩)⟩)⟩)⟩)⟩)⟩)⟩)⟩)⟩)⟩)⟩)⟩)⟩)⟩)⟩)⟩)⟩)⟩)⟩)⟩)⟩)⟩)⟩)⟩) _ rfl
            obtain ⟨p2, c2, hs, r1⟩ := hp17 (hb 17 (by decide) (by decide))
            have ha := ha.know hs
            refine goOff ha rfl rfl rfl rfl (decide_eq_false hc4) fun a ha => ?_
            refine go1 ha rfl (d_pickF ha rfl (decide_eq_false hc4) rfl) fun a ha => ?_
            refine go1 ha rfl (d_move ha rfl) fun a ha => ?_
            refine goOff ha rfl rfl rfl rfl rfl fun a ha => ?_
            refine goOff ha rfl rfl rfl rfl rfl fun a ha => ?_
            refine goOff ha rfl rfl rfl rfl rfl fun a ha => ?_
            refine go1 ha rfl (d_pickF ha rfl rfl rfl) fun a ha => ?_
            refine go1 ha rfl (d_move ha rfl) fun a ha => ?_
            refine goOff ha rfl rfl rfl rfl rfl fun a ha => ?_
            refine go1 ha rfl (d_pickF ha rfl rfl rfl) fun a ha => ?_
            refine go1 ha rfl (d_assign ha rfl) fun a ha => ?_
            refine nil_ ?_
            refine hK6 _ _ ?_
            have ha := ha.to (l' := [(2, _)]) rfl
            refine wp_ret ?_
            have hs : Step [p1, some ⟨b1, 0, none⟩] [] w12 w12 := Step.pick _ _ []
            have r1 := hs.tr r1
            have hE : Ex w (Av [] No) [] w12 := hE.pick [] (by decide)
            injection hF with hF
            subst hF
            refine fin1 ha Try.results4 rfl ?_
            exact ⟨rfl, hE⟩
      · refine drawnC 4 (by kernel_rfl) 27 (by decide) rfl (fun b a wI => HasB 48 [(1, .pointer (some ⟨b1, 0, none⟩)), (3, .slice p1 t2.length c1)] [(0, 11, .agg #[.int .i64 a0_0, .string a0_1]), (1, 12, .bool t3), (2, 13, .agg #[.int .i64 a0_0, .string a0_1]), (3, 14, .bool t4), (4, 15, .bool (t3 == t4)), (5, 16, .bool (t3 == t4)), (6, 17, .agg #[.int .i64 a0_0, .string a0_1]), (7, 18, .int .u16 t5), (8, 19, .int .i64 (IntKind.i64.wrap t5)), (9, 20, .agg #[.int .i64 a0_0, .string a0_1]), (10, 21, .int .i64 t6), (11, 22, .bool (decide ((IntKind.i64.wrap t5) = t6))), (12, 23, .bool (decide ((IntKind.i64.wrap t5) = t6))), (13, 24, .bool (decide ((IntKind.i64.wrap t5) = t6))), (14, 25, undef), (15, 26, undef), (16, 27, undef), (17, 28, undef), (18, 29, undef), (19, 30, undef), (20, 31, .bool false), (21, 32, .bool false), (22, 33, undef), (23, 34, undef), (24, 35, undef), (25, 36, undef), (26, 37, undef)] b a ∧ Ex w (Av [] No) [p1, some ⟨b1, 0, none⟩] wI ∧ Fr w3 wI No ∧ Bx wI b1 29 [.int .i64 a0_0, .string a0_1] ∧ Ow (Av [p1, some ⟨b1, 0, none⟩] W) wI 5 (Kd.int .u8) p1 c1 t2) ?_ (EachAt.all0 ?_) ?_
        · exact ⟨HasB.start (ha.to rfl) rfl, hE.drew, (Fr.refl _ No).drew, x1, o1⟩
        · refine (EachAt.cons ?_ (EachAt.cons ?_ (EachAt.cons ?_ (EachAt.cons ?_ (EachAt.cons ?_ (EachAt.cons ?_ (EachAt.cons ?_ (EachAt.cons ?_ (EachAt.cons ?_ (EachAt.cons ?_ (EachAt.cons ?_ (EachAt.cons ?_ (EachAt.cons ?_ (EachAt.cons ?_ (EachAt.cons ?_ (EachAt.cons ?_ (EachAt.cons ?_ (EachAt.cons ?_ (EachAt.cons ?_ (EachAt.cons ?_ (EachAt.cons ?_ (EachAt.cons ?_ (EachAt.cons ?_ (EachAt.cons ?_ (EachAt.cons ?_ (EachAt.cons ?_ (EachAt.cons ?_ EachAt.nil)))))))))))))))))))))))))))
          · intro b a wI hI hb hn hc
            obtain ⟨hB, hE, hr, x1, o1⟩ := hI
            have ha : Has 48 [(1, .pointer (some ⟨b1, 0, none⟩))] a := hB.get [] (fun _ h => by cases h) _ rfl
            refine DoesG.plain rfl (Does.mono (d_loadAgg (cs := [.int .i64 a0_0, .string a0_1]) ha rfl (x1.at_.sub' 0 2 rfl) Try.isAgg29 Try.sizeOf29 rfl) ?_)
            rintro v wJ ⟨rfl, rfl⟩
            exact ⟨HasB.put hB 0 rfl rfl rfl rfl, hE, hr, x1, o1⟩
          · intro b a wI hI hb hn hc
            obtain ⟨hB, hE, hr, x1, o1⟩ := hI
            have ha : Has 48 [(11, .agg #[.int .i64 a0_0, .string a0_1])] a := hB.get [0] (List.forall_mem_cons.2 ⟨(hn 0 (mem_needs rfl)), (fun _ h => by cases h)⟩) _ rfl
            refine DoesG.plain rfl (Does.mono (d_call Try.call16 ha (vs := [.agg #[.int .i64 a0_0, .string a0_1]]) rfl (nibble_May_c k a0_0 a0_1  (Av [p1, some ⟨b1, 0, none⟩] W) _ (Ex.wlt (as0 := []) (rr := []) (ro := [p1, some ⟨b1, 0, none⟩]) hE hW)  _ ht3)) ?_)
            intro v w4 h
            obtain ⟨rfl, hC⟩ := h
            have hfr : Fr wI w4 No := hC.fr.mono (fun _ _ h => by rcases h with h | ⟨_, h, _⟩; exact h; cases h)
            have hs : Step [p1, some ⟨b1, 0, none⟩] [p1, some ⟨b1, 0, none⟩] wI w4 := hC.callStep [p1, some ⟨b1, 0, none⟩]
            have o1 := o1.keep hC.fr (Ex.callOff (as0 := []) (rt := [p1, some ⟨b1, 0, none⟩]) hE (u := p1) (by simp)) (fun _ _ h => hs.trK h)
            have x1 := x1.keep hC.fr ((Ex.callOff (as0 := []) (rt := [p1, some ⟨b1, 0, none⟩]) hE (u := some ⟨b1, 0, none⟩) (by simp)) _ rfl)
            have hE : Ex w (Av [] No) [p1, some ⟨b1, 0, none⟩] w4 := Ex.call (as0 := []) (rt := [p1, some ⟨b1, 0, none⟩]) hE hC
            exact ⟨HasB.put hB 1 rfl rfl rfl rfl, hE, hr.step hfr (fun _ _ h => h), x1, o1⟩
          · intro b a wI hI hb hn hc
            obtain ⟨hB, hE, hr, x1, o1⟩ := hI
            have ha : Has 48 [(1, .pointer (some ⟨b1, 0, none⟩))] a := hB.get [] (fun _ h => by cases h) _ rfl
            refine DoesG.plain rfl (Does.mono (d_loadAgg (cs := [.int .i64 a0_0, .string a0_1]) ha rfl (x1.at_.sub' 0 2 rfl) Try.isAgg29 Try.sizeOf29 rfl) ?_)
            rintro v wJ ⟨rfl, rfl⟩
            exact ⟨HasB.put hB 2 rfl rfl rfl rfl, hE, hr, x1, o1⟩
          · intro b a wI hI hb hn hc
            obtain ⟨hB, hE, hr, x1, o1⟩ := hI
            have ha : Has 48 [(13, .agg #[.int .i64 a0_0, .string a0_1])] a := hB.get [2] (List.forall_mem_cons.2 ⟨(hn 2 (mem_needs rfl)), (fun _ h => by cases h)⟩) _ rfl
            refine DoesG.plain rfl (Does.mono (d_call Try.call17 ha (vs := [.agg #[.int .i64 a0_0, .string a0_1]]) rfl (warderref02_May_c k a0_0 a0_1  (Av [p1, some ⟨b1, 0, none⟩] W) _ (Ex.wlt (as0 := []) (rr := []) (ro := [p1, some ⟨b1, 0, none⟩]) hE hW)  _ ht4)) ?_)
            intro v w5 h
            obtain ⟨rfl, hC⟩ := h
            have hfr : Fr wI w5 No := hC.fr.mono (fun _ _ h => by rcases h with h | ⟨_, h, _⟩; exact h; cases h)
            have hs : Step [p1, some ⟨b1, 0, none⟩] [p1, some ⟨b1, 0, none⟩] wI w5 := hC.callStep [p1, some ⟨b1, 0, none⟩]
            have o1 := o1.keep hC.fr (Ex.callOff (as0 := []) (rt := [p1, some ⟨b1, 0, none⟩]) hE (u := p1) (by simp)) (fun _ _ h => hs.trK h)
            have x1 := x1.keep hC.fr ((Ex.callOff (as0 := []) (rt := [p1, some ⟨b1, 0, none⟩]) hE (u := some ⟨b1, 0, none⟩) (by simp)) _ rfl)
            have hE : Ex w (Av [] No) [p1, some ⟨b1, 0, none⟩] w5 := Ex.call (as0 := []) (rt := [p1, some ⟨b1, 0, none⟩]) hE hC
            exact ⟨HasB.put hB 3 rfl rfl rfl rfl, hE, hr.step hfr (fun _ _ h => h), x1, o1⟩
          · intro b a wI hI hb hn hc
            obtain ⟨hB, hE, hr, x1, o1⟩ := hI
            have ha : Has 48 [(12, .bool t3), (14, .bool t4)] a := hB.get [1, 3] (List.forall_mem_cons.2 ⟨(hn 1 (mem_needs rfl)), (List.forall_mem_cons.2 ⟨(hn 3 (mem_needs rfl)), (fun _ h => by cases h)⟩)⟩) _ rfl
            refine DoesG.plain rfl (Does.mono (d_eqB ha Try.underlying4 rfl rfl) ?_)
            rintro v wJ ⟨rfl, rfl⟩
            exact ⟨HasB.put hB 4 rfl rfl rfl rfl, hE, hr, x1, o1⟩
          · intro b a wI hI hb hn hc
            obtain ⟨hB, hE, hr, x1, o1⟩ := hI
            have ha : Has 48 [(15, .bool (t3 == t4))] a := hB.get [4] (List.forall_mem_cons.2 ⟨(hn 4 (mem_needs rfl)), (fun _ h => by cases h)⟩) _ rfl
            refine DoesG.plain rfl (Does.mono (d_move ha rfl) ?_)
            rintro v wJ ⟨rfl, rfl⟩
            exact ⟨HasB.put hB 5 rfl rfl rfl rfl, hE, hr, x1, o1⟩
          · intro b a wI hI hb hn hc
            obtain ⟨hB, hE, hr, x1, o1⟩ := hI
            have ha : Has 48 [(1, .pointer (some ⟨b1, 0, none⟩)), (16, .bool (t3 == t4))] a := hB.get [5] (List.forall_mem_cons.2 ⟨(hn 5 (mem_needs rfl)), (fun _ h => by cases h)⟩) _ rfl
            refine DoesG.on rfl ha rfl rfl rfl hc2 (Does.mono (d_loadAgg (cs := [.int .i64 a0_0, .string a0_1]) ha rfl (x1.at_.sub' 0 2 rfl) Try.isAgg29 Try.sizeOf29 rfl) ?_)
            rintro v wJ ⟨rfl, rfl⟩
            exact ⟨HasB.put hB 6 rfl rfl rfl rfl, hE, hr, x1, o1⟩
          · intro b a wI hI hb hn hc
            obtain ⟨hB, hE, hr, x1, o1⟩ := hI
            have ha : Has 48 [(16, .bool (t3 == t4)), (17, .agg #[.int .i64 a0_0, .string a0_1])] a := hB.get [5, 6] (List.forall_mem_cons.2 ⟨(hn 5 (mem_needs rfl)), (List.forall_mem_cons.2 ⟨(hn 6 (mem_needs rfl)), (fun _ h => by cases h)⟩)⟩) _ rfl
            refine DoesG.on rfl ha rfl rfl rfl hc2 (Does.mono (d_call Try.call18 ha (vs := [.agg #[.int .i64 a0_0, .string a0_1]]) rfl (nibble_Hash_c k a0_0 a0_1  (Av [p1, some ⟨b1, 0, none⟩] W) _ (Ex.wlt (as0 := []) (rr := []) (ro := [p1, some ⟨b1, 0, none⟩]) hE hW)  _ ht5)) ?_)
            intro v w6 h
            obtain ⟨rfl, hC⟩ := h
            have hfr : Fr wI w6 No := hC.fr.mono (fun _ _ h => by rcases h with h | ⟨_, h, _⟩; exact h; cases h)
            have hs : Step [p1, some ⟨b1, 0, none⟩] [p1, some ⟨b1, 0, none⟩] wI w6 := hC.callStep [p1, some ⟨b1, 0, none⟩]
            have o1 := o1.keep hC.fr (Ex.callOff (as0 := []) (rt := [p1, some ⟨b1, 0, none⟩]) hE (u := p1) (by simp)) (fun _ _ h => hs.trK h)
            have x1 := x1.keep hC.fr ((Ex.callOff (as0 := []) (rt := [p1, some ⟨b1, 0, none⟩]) hE (u := some ⟨b1, 0, none⟩) (by simp)) _ rfl)
            have hE : Ex w (Av [] No) [p1, some ⟨b1, 0, none⟩] w6 := Ex.call (as0 := []) (rt := [p1, some ⟨b1, 0, none⟩]) hE hC
            exact ⟨HasB.put hB 7 rfl rfl rfl rfl, hE, hr.step hfr (fun _ _ h => h), x1, o1⟩
          · intro b a wI hI hb hn hc
            obtain ⟨hB, hE, hr, x1, o1⟩ := hI
            have ha : Has 48 [(16, .bool (t3 == t4)), (18, .int .u16 t5)] a := hB.get [5, 7] (List.forall_mem_cons.2 ⟨(hn 5 (mem_needs rfl)), (List.forall_mem_cons.2 ⟨(hn 7 (mem_needs rfl)), (fun _ h => by cases h)⟩)⟩) _ rfl
            refine DoesG.on rfl ha rfl rfl rfl hc2 (Does.mono (d_cvt ha Try.underlying32 Try.underlying3 rfl) ?_)
            rintro v wJ ⟨rfl, rfl⟩
            exact ⟨HasB.put hB 8 rfl rfl rfl rfl, hE, hr, x1, o1⟩
          · intro b a wI hI hb hn hc
            obtain ⟨hB, hE, hr, x1, o1⟩ := hI
            have ha : Has 48 [(1, .pointer (some ⟨b1, 0, none⟩)), (16, .bool (t3 == t4))] a := hB.get [5] (List.forall_mem_cons.2 ⟨(hn 5 (mem_needs rfl)), (fun _ h => by cases h)⟩) _ rfl
            refine DoesG.on rfl ha rfl rfl rfl hc2 (Does.mono (d_loadAgg (cs := [.int .i64 a0_0, .string a0_1]) ha rfl (x1.at_.sub' 0 2 rfl) Try.isAgg29 Try.sizeOf29 rfl) ?_)
            rintro v wJ ⟨rfl, rfl⟩
            exact ⟨HasB.put hB 9 rfl rfl rfl rfl, hE, hr, x1, o1⟩
          · intro b a wI hI hb hn hc
            obtain ⟨hB, hE, hr, x1, o1⟩ := hI
            have ha : Has 48 [(16, .bool (t3 == t4)), (20, .agg #[.int .i64 a0_0, .string a0_1])] a := hB.get [5, 9] (List.forall_mem_cons.2 ⟨(hn 5 (mem_needs rfl)), (List.forall_mem_cons.2 ⟨(hn 9 (mem_needs rfl)), (fun _ h => by cases h)⟩)⟩) _ rfl
            refine DoesG.on rfl ha rfl rfl rfl hc2 (Does.mono (d_call Try.call19 ha (vs := [.agg #[.int .i64 a0_0, .string a0_1]]) rfl (warderref02_Hash_c k a0_0 a0_1  (Av [p1, some ⟨b1, 0, none⟩] W) _ (Ex.wlt (as0 := []) (rr := []) (ro := [p1, some ⟨b1, 0, none⟩]) hE hW)  _ ht6)) ?_)
            intro v w7 h
            obtain ⟨rfl, hC⟩ := h
            have hfr : Fr wI w7 No := hC.fr.mono (fun _ _ h => by rcases h with h | ⟨_, h, _⟩; exact h; cases h)
            have hs : Step [p1, some ⟨b1, 0, none⟩] [p1, some ⟨b1, 0, none⟩] wI w7 := hC.callStep [p1, some ⟨b1, 0, none⟩]
            have o1 := o1.keep hC.fr (Ex.callOff (as0 := []) (rt := [p1, some ⟨b1, 0, none⟩]) hE (u := p1) (by simp)) (fun _ _ h => hs.trK h)
            have x1 := x1.keep hC.fr ((Ex.callOff (as0 := []) (rt := [p1, some ⟨b1, 0, none⟩]) hE (u := some ⟨b1, 0, none⟩) (by simp)) _ rfl)
            have hE : Ex w (Av [] No) [p1, some ⟨b1, 0, none⟩] w7 := Ex.call (as0 := []) (rt := [p1, some ⟨b1, 0, none⟩]) hE hC
            exact ⟨HasB.put hB 10 rfl rfl rfl rfl, hE, hr.step hfr (fun _ _ h => h), x1, o1⟩
          · intro b a wI hI hb hn hc
            obtain ⟨hB, hE, hr, x1, o1⟩ := hI
            have ha : Has 48 [(16, .bool (t3 == t4)), (19, .int .i64 (IntKind.i64.wrap t5)), (21, .int .i64 t6)] a := hB.get [5, 8, 10] (List.forall_mem_cons.2 ⟨(hn 5 (mem_needs rfl)), (List.forall_mem_cons.2 ⟨(hn 8 (mem_needs rfl)), (List.forall_mem_cons.2 ⟨(hn 10 (mem_needs rfl)), (fun _ h => by cases h)⟩)⟩)⟩) _ rfl
            refine DoesG.on rfl ha rfl rfl rfl hc2 (Does.mono (d_eqI ha rfl rfl) ?_)
            rintro v wJ ⟨rfl, rfl⟩
            exact ⟨HasB.put hB 11 rfl rfl rfl rfl, hE, hr, x1, o1⟩
          · intro b a wI hI hb hn hc
            obtain ⟨hB, hE, hr, x1, o1⟩ := hI
            have ha : Has 48 [(16, .bool (t3 == t4)), (22, .bool (decide ((IntKind.i64.wrap t5) = t6)))] a := hB.get [5, 11] (List.forall_mem_cons.2 ⟨(hn 5 (mem_needs rfl)), (List.forall_mem_cons.2 ⟨(hn 11 (mem_needs rfl)), (fun _ h => by cases h)⟩)⟩) _ rfl
            refine DoesG.plain rfl (Does.mono (d_pick ha rfl hc2 rfl) ?_)
            rintro v wJ ⟨rfl, rfl⟩
            exact ⟨HasB.put hB 12 rfl rfl rfl rfl, hE, hr, x1, o1⟩
          · intro b a wI hI hb hn hc
            obtain ⟨hB, hE, hr, x1, o1⟩ := hI
            have ha : Has 48 [(23, .bool (decide ((IntKind.i64.wrap t5) = t6)))] a := hB.get [12] (List.forall_mem_cons.2 ⟨(hn 12 (mem_needs rfl)), (fun _ h => by cases h)⟩) _ rfl
            refine DoesG.plain rfl (Does.mono (d_move ha rfl) ?_)
            rintro v wJ ⟨rfl, rfl⟩
            exact ⟨HasB.put hB 13 rfl rfl rfl rfl, hE, hr, x1, o1⟩
          · intro b a wI hI hb hn hc
            obtain ⟨hB, hE, hr, x1, o1⟩ := hI
            have ha : Has 48 [(3, .slice p1 t2.length c1), (24, .bool (decide ((IntKind.i64.wrap t5) = t6)))] a := hB.get [13] (List.forall_mem_cons.2 ⟨(hn 13 (mem_needs rfl)), (fun _ h => by cases h)⟩) _ rfl
            refine DoesG.off rfl ha rfl rfl rfl (decide_eq_false hc3) ?_
            exact ⟨HasB.put hB 14 rfl rfl rfl rfl, hE, hr, x1, o1⟩
          · intro b a wI hI hb hn hc
            obtain ⟨hB, hE, hr, x1, o1⟩ := hI
            have ha : Has 48 [(24, .bool (decide ((IntKind.i64.wrap t5) = t6))), (25, undef)] a := hB.get [13, 14] (List.forall_mem_cons.2 ⟨(hn 13 (mem_needs rfl)), (List.forall_mem_cons.2 ⟨(hn 14 (mem_needs rfl)), (fun _ h => by cases h)⟩)⟩) _ rfl
            refine DoesG.off rfl ha rfl rfl rfl (decide_eq_false hc3) ?_
            exact ⟨HasB.put hB 15 rfl rfl rfl rfl, hE, hr, x1, o1⟩
          · intro b a wI hI hb hn hc
            obtain ⟨hB, hE, hr, x1, o1⟩ := hI
            have ha : Has 48 [(1, .pointer (some ⟨b1, 0, none⟩)), (24, .bool (decide ((IntKind.i64.wrap t5) = t6)))] a := hB.get [13] (List.forall_mem_cons.2 ⟨(hn 13 (mem_needs rfl)), (fun _ h => by cases h)⟩) _ rfl
            refine DoesG.off rfl ha rfl rfl rfl (decide_eq_false hc3) ?_
            exact ⟨HasB.put hB 16 rfl rfl rfl rfl, hE, hr, x1, o1⟩
          · intro b a wI hI hb hn hc
            obtain ⟨hB, hE, hr, x1, o1⟩ := hI
            have ha : Has 48 [(24, .bool (decide ((IntKind.i64.wrap t5) = t6))), (27, undef)] a := hB.get [13, 16] (List.forall_mem_cons.2 ⟨(hn 13 (mem_needs rfl)), (List.forall_mem_cons.2 ⟨(hn 16 (mem_needs rfl)), (fun _ h => by cases h)⟩)⟩) _ rfl
            refine DoesG.off rfl ha rfl rfl rfl (decide_eq_false hc3) ?_
            exact ⟨HasB.put hB 17 rfl rfl rfl rfl, hE, hr, x1, o1⟩
          · intro b a wI hI hb hn hc
            obtain ⟨hB, hE, hr, x1, o1⟩ := hI
            have ha : Has 48 [(24, .bool (decide ((IntKind.i64.wrap t5) = t6))), (28, undef)] a := hB.get [13, 17] (List.forall_mem_cons.2 ⟨(hn 13 (mem_needs rfl)), (List.forall_mem_cons.2 ⟨(hn 17 (mem_needs rfl)), (fun _ h => by cases h)⟩)⟩) _ rfl
            refine DoesG.off rfl ha rfl rfl rfl (decide_eq_false hc3) ?_
            exact ⟨HasB.put hB 18 rfl rfl rfl rfl, hE, hr, x1, o1⟩
          · intro b a wI hI hb hn hc
            obtain ⟨hB, hE, hr, x1, o1⟩ := hI
            have ha : Has 48 [(24, .bool (decide ((IntKind.i64.wrap t5) = t6))), (26, undef), (29, undef)] a := hB.get [13, 15, 18] (List.forall_mem_cons.2 ⟨(hn 13 (mem_needs rfl)), (List.forall_mem_cons.2 ⟨(hn 15 (mem_needs rfl)), (List.forall_mem_cons.2 ⟨(hn 18 (mem_needs rfl)), (fun _ h => by cases h)⟩)⟩)⟩) _ rfl
            refine DoesG.off rfl ha rfl rfl rfl (decide_eq_false hc3) ?_
            exact ⟨HasB.put hB 19 rfl rfl rfl rfl, hE, hr, x1, o1⟩
          · intro b a wI hI hb hn hc
            obtain ⟨hB, hE, hr, x1, o1⟩ := hI
            have ha : Has 48 [(24, .bool (decide ((IntKind.i64.wrap t5) = t6))), (30, undef)] a := hB.get [13, 19] (List.forall_mem_cons.2 ⟨(hn 13 (mem_needs rfl)), (List.forall_mem_cons.2 ⟨(hn 19 (mem_needs rfl)), (fun _ h => by cases h)⟩)⟩) _ rfl
            refine DoesG.plain rfl (Does.mono (d_pickF ha rfl (decide_eq_false hc3) rfl) ?_)
            rintro v wJ ⟨rfl, rfl⟩
            exact ⟨HasB.put hB 20 rfl rfl rfl rfl, hE, hr, x1, o1⟩
          · intro b a wI hI hb hn hc
            obtain ⟨hB, hE, hr, x1, o1⟩ := hI
            have ha : Has 48 [(31, .bool false)] a := hB.get [20] (List.forall_mem_cons.2 ⟨(hn 20 (mem_needs rfl)), (fun _ h => by cases h)⟩) _ rfl
            refine DoesG.plain rfl (Does.mono (d_move ha rfl) ?_)
            rintro v wJ ⟨rfl, rfl⟩
            exact ⟨HasB.put hB 21 rfl rfl rfl rfl, hE, hr, x1, o1⟩
          · intro b a wI hI hb hn hc
            obtain ⟨hB, hE, hr, x1, o1⟩ := hI
            have ha : Has 48 [(3, .slice p1 t2.length c1), (32, .bool false)] a := hB.get [21] (List.forall_mem_cons.2 ⟨(hn 21 (mem_needs rfl)), (fun _ h => by cases h)⟩) _ rfl
            refine DoesG.off rfl ha rfl rfl rfl rfl ?_
            exact ⟨HasB.put hB 22 rfl rfl rfl rfl, hE, hr, x1, o1⟩
          · intro b a wI hI hb hn hc
            obtain ⟨hB, hE, hr, x1, o1⟩ := hI
            have ha : Has 48 [(32, .bool false), (33, undef)] a := hB.get [21, 22] (List.forall_mem_cons.2 ⟨(hn 21 (mem_needs rfl)), (List.forall_mem_cons.2 ⟨(hn 22 (mem_needs rfl)), (fun _ h => by cases h)⟩)⟩) _ rfl
            refine DoesG.off rfl ha rfl rfl rfl rfl ?_
            exact ⟨HasB.put hB 23 rfl rfl rfl rfl, hE, hr, x1, o1⟩
          · intro b a wI hI hb hn hc
            obtain ⟨hB, hE, hr, x1, o1⟩ := hI
            have ha : Has 48 [(32, .bool false), (34, undef)] a := hB.get [21, 23] (List.forall_mem_cons.2 ⟨(hn 21 (mem_needs rfl)), (List.forall_mem_cons.2 ⟨(hn 23 (mem_needs rfl)), (fun _ h => by cases h)⟩)⟩) _ rfl
            refine DoesG.off rfl ha rfl rfl rfl rfl ?_
            exact ⟨HasB.put hB 24 rfl rfl rfl rfl, hE, hr, x1, o1⟩
          · intro b a wI hI hb hn hc
            obtain ⟨hB, hE, hr, x1, o1⟩ := hI
            have ha : Has 48 [(1, .pointer (some ⟨b1, 0, none⟩)), (32, .bool false)] a := hB.get [21] (List.forall_mem_cons.2 ⟨(hn 21 (mem_needs rfl)), (fun _ h => by cases h)⟩) _ rfl
            refine DoesG.off rfl ha rfl rfl rfl rfl ?_
            exact ⟨HasB.put hB 25 rfl rfl rfl rfl, hE, hr, x1, o1⟩
          · intro b a wI hI hb hn hc
            obtain ⟨hB, hE, hr, x1, o1⟩ := hI
            have ha : Has 48 [(32, .bool false), (36, undef)] a := hB.get [21, 25] (List.forall_mem_cons.2 ⟨(hn 21 (mem_needs rfl)), (List.forall_mem_cons.2 ⟨(hn 25 (mem_needs rfl)), (fun _ h => by cases h)⟩)⟩) _ rfl
            refine DoesG.off rfl ha rfl rfl rfl rfl ?_
            exact ⟨HasB.put hB 26 rfl rfl rfl rfl, hE, hr, x1, o1⟩
        · intro b a w13 hb hI
          obtain ⟨hB, hE, hr, x1, o1⟩ := hI
          have ha : Has 48 [(11, .agg #[.int .i64 a0_0, .string a0_1]), (12, .bool t3), (13, .agg #[.int .i64 a0_0, .string a0_1]), (14, .bool t4), (15, .bool (t3 == t4)), (16, .bool (t3 == t4)), (17, .agg #[.int .i64 a0_0, .string a0_1]), (18, .int .u16 t5), (19, .int .i64 (IntKind.i64.wrap t5)), (20, .agg #[.int .i64 a0_0, .string a0_1]), (21, .int .i64 t6), (22, .bool (decide ((IntKind.i64.wrap t5) = t6))), (23, .bool (decide ((IntKind.i64.wrap t5) = t6))), (24, .bool (decide ((IntKind.i64.wrap t5) = t6))), (25, undef), (26, undef), (27, undef), (28, undef), (29, undef), (30, undef), (31, .bool false), (32, .bool false), (33, undef), (34, undef), (35, undef), (36, undef), (37, undef), (1, .pointer (some ⟨b1, 0, none⟩)), (3, .slice p1 t2.length c1)] a := hB.get [0, 1, 2, 3, 4, 5, 6, 7, 8, 9, 10, 11, 12, 13, 14, 15, 16, 17, 18, 19, 20, 21, 22, 23, 24, 25, 26] (List.forall_mem_cons.2 ⟨(hb 0 (by decide) (by decide)), (List.forall_mem_cons.2 ⟨(hb 1 (by decide) (by decide)), (List.forall_mem_cons.2 ⟨(hb 2 (by decide) (by decide)), (List.forall_mem_cons.2 ⟨(hb 3 (by decide) (by decide)), (List.forall_mem_cons.2 ⟨(hb 4 (by decide) (by decide)), (List.forall_mem_cons.2 ⟨(hb 5 (by decide) (by decide)), (List.forall_mem_cons.2 ⟨(hb 6 (by decide) (by decide)), (List.forall_mem_cons.2 ⟨(hb 7 (by decide) (by decide)), (List.forall_mem_cons.2 ⟨(hb 8 (by decide) (by decide)), (List.forall_mem_cons.2 ⟨(hb 9 (by decide) (by decide)), (List.forall_mem_cons.2 ⟨(hb 10 (by decide) (by decide)), (List.forall_mem_cons.2 ⟨(hb 11 (by decide) (by decide)), (List.forall_mem_cons.2 ⟨(hb 12 (by decide) (by decide)), (List.forall_mem_cons.2 ⟨(hb 13 (by decide) (by decide)), (List.forall_mem_cons.2 ⟨(hb 14 (by decide) (by decide)), (List.forall_mem_cons.2 ⟨(hb 15 (by decide) (by decide)), (List.forall_mem_cons.2 ⟨(hb 16 (by decide) (by decide)), (List.forall_mem_cons.2 ⟨(hb 17 (by decide) (by decide)), (List.forall_mem_cons.2 ⟨(hb 18 (by decide) (by decide)), (List.forall_mem_cons.2 ⟨(hb 19 (by decide) (by decide)), (List.forall_mem_cons.2 ⟨(hb 20 (by decide) (by decide)), (List.forall_mem_cons.2 ⟨(hb 21 (by decide) (by decide)), (List.forall_mem_cons.2 ⟨(hb 22 (by decide) (by decide)), (List.forall_mem_cons.2 ⟨(hb 23 (by decide) (by decide)), (List.forall_mem_cons.2 ⟨(hb 24 (by decide) (by decide)), (List.forall_mem_cons.2 ⟨(hb 25 (by decide) (by decide)), (List.forall_mem_cons.2 ⟨(hb 26 (by decide) (by decide)), (fun _ h => by cases h)⟩)⟩)⟩)⟩)⟩)⟩)⟩)⟩)⟩)⟩)⟩)⟩)⟩)⟩)⟩)⟩)⟩)⟩)⟩)⟩)⟩)⟩)⟩)⟩)⟩)⟩)⟩) _ rfl
          refine goOff ha rfl rfl rfl rfl rfl fun a ha => ?_
          refine go1 ha rfl (d_pickF ha rfl rfl rfl) fun a ha => ?_
          refine go1 ha rfl (d_move ha rfl) fun a ha => ?_
          refine goOff ha rfl rfl rfl rfl rfl fun a ha => ?_
          refine goOff ha rfl rfl rfl rfl rfl fun a ha => ?_
          refine goOff ha rfl rfl rfl rfl rfl fun a ha => ?_
          refine go1 ha rfl (d_pickF ha rfl rfl rfl) fun a ha => ?_
          refine go1 ha rfl (d_move ha rfl) fun a ha => ?_
          refine goOff ha rfl rfl rfl rfl rfl fun a ha => ?_
          refine go1 ha rfl (d_pickF ha rfl rfl rfl) fun a ha => ?_
          refine go1 ha rfl (d_assign ha rfl) fun a ha => ?_
          refine nil_ ?_
          refine hK6 _ _ ?_
          have ha := ha.to (l' := [(2, _)]) rfl
          refine wp_ret ?_
          have hs : Step [p1, some ⟨b1, 0, none⟩] [] w13 w13 := Step.pick _ _ []
          have hE : Ex w (Av [] No) [] w13 := hE.pick [] (by decide)
          injection hF with hF
          subst hF
          refine fin1 ha Try.results4 rfl ?_
          exact ⟨rfl, hE⟩
    · refine drawnC 4 (by kernel_rfl) 27 (by decide) rfl (fun b a wI => HasB 48 [(1, .pointer (some ⟨b1, 0, none⟩)), (3, .slice p1 t2.length c1)] [(0, 11, .agg #[.int .i64 a0_0, .string a0_1]), (1, 12, .bool t3), (2, 13, .agg #[.int .i64 a0_0, .string a0_1]), (3, 14, .bool t4), (4, 15, .bool (t3 == t4)), (5, 16, .bool (t3 == t4)), (6, 17, undef), (7, 18, undef), (8, 19, undef), (9, 20, undef), (10, 21, undef), (11, 22, undef), (12, 23, .bool false), (13, 24, .bool false), (14, 25, undef), (15, 26, undef), (16, 27, undef), (17, 28, undef), (18, 29, undef), (19, 30, undef), (20, 31, .bool false), (21, 32, .bool false), (22, 33, undef), (23, 34, undef), (24, 35, undef), (25, 36, undef), (26, 37, undef)] b a ∧ Ex w (Av [] No) [p1, some ⟨b1, 0, none⟩] wI ∧ Fr w3 wI No ∧ Bx wI b1 29 [.int .i64 a0_0, .string a0_1] ∧ Ow (Av [p1, some ⟨b1, 0, none⟩] W) wI 5 (Kd.int .u8) p1 c1 t2) ?_ (EachAt.all0 ?_) ?_
      · exact ⟨HasB.start (ha.to rfl) rfl, hE.drew, (Fr.refl _ No).drew, x1, o1⟩
      · refine (EachAt.cons ?_ (EachAt.cons ?_ (EachAt.cons ?_ (EachAt.cons ?_ (EachAt.cons ?_ (EachAt.cons ?_ (EachAt.cons ?_ (EachAt.cons ?_ (EachAt.cons ?_ (EachAt.cons ?_ (EachAt.cons ?_ (EachAt.cons ?_ (EachAt.cons ?_ (EachAt.cons ?_ (EachAt.cons ?_ (EachAt.cons ?_ (EachAt.cons ?_ (EachAt.cons ?_ (EachAt.cons ?_ (EachAt.cons ?_ (EachAt.cons ?_ (EachAt.cons ?_ (EachAt.cons ?_ (EachAt.cons ?_ (EachAt.cons ?_ (EachAt.cons ?_ (EachAt.cons ?_ EachAt.nil)))))))))))))))))))))))))))
        · intro b a wI hI hb hn hc
          obtain ⟨hB, hE, hr, x1, o1⟩ := hI
          have ha : Has 48 [(1, .pointer (some ⟨b1, 0, none⟩))] a := hB.get [] (fun _ h => by cases h) _ rfl
          refine DoesG.plain rfl (Does.mono (d_loadAgg (cs := [.int .i64 a0_0, .string a0_1]) ha rfl (x1.at_.sub' 0 2 rfl) Try.isAgg29 Try.sizeOf29 rfl) ?_)
          rintro v wJ ⟨rfl, rfl⟩
          exact ⟨HasB.put hB 0 rfl rfl rfl rfl, hE, hr, x1, o1⟩
        · intro b a wI hI hb hn hc
          obtain ⟨hB, hE, hr, x1, o1⟩ := hI
          have ha : Has 48 [(11, .agg #[.int .i64 a0_0, .string a0_1])] a := hB.get [0] (List.forall_mem_cons.2 ⟨(hn 0 (mem_needs rfl)), (fun _ h => by cases h)⟩) _ rfl
          refine DoesG.plain rfl (Does.mono (d_call Try.call16 ha (vs := [.agg #[.int .i64 a0_0, .string a0_1]]) rfl (nibble_May_c k a0_0 a0_1  (Av [p1, some ⟨b1, 0, none⟩] W) _ (Ex.wlt (as0 := []) (rr := []) (ro := [p1, some ⟨b1, 0, none⟩]) hE hW)  _ ht3)) ?_)
          intro v w4 h
          obtain ⟨rfl, hC⟩ := h
          have hfr : Fr wI w4 No := hC.fr.mono (fun _ _ h => by rcases h with h | ⟨_, h, _⟩; exact h; cases h)
          have hs : Step [p1, some ⟨b1, 0, none⟩] [p1, some ⟨b1, 0, none⟩] wI w4 := hC.callStep [p1, some ⟨b1, 0, none⟩]
          have o1 := o1.keep hC.fr (Ex.callOff (as0 := []) (rt := [p1, some ⟨b1, 0, none⟩]) hE (u := p1) (by simp)) (fun _ _ h => hs.trK h)
          have x1 := x1.keep hC.fr ((Ex.callOff (as0 := []) (rt := [p1, some ⟨b1, 0, none⟩]) hE (u := some ⟨b1, 0, none⟩) (by simp)) _ rfl)
          have hE : Ex w (Av [] No) [p1, some ⟨b1, 0, none⟩] w4 := Ex.call (as0 := []) (rt := [p1, some ⟨b1, 0, none⟩]) hE hC
          exact ⟨HasB.put hB 1 rfl rfl rfl rfl, hE, hr.step hfr (fun _ _ h => h), x1, o1⟩
        · intro b a wI hI hb hn hc
          obtain ⟨hB, hE, hr, x1, o1⟩ := hI
          have ha : Has 48 [(1, .pointer (some ⟨b1, 0, none⟩))] a := hB.get [] (fun _ h => by cases h) _ rfl
          refine DoesG.plain rfl (Does.mono (d_loadAgg (cs := [.int .i64 a0_0, .string a0_1]) ha rfl (x1.at_.sub' 0 2 rfl) Try.isAgg29 Try.sizeOf29 rfl) ?_)
          rintro v wJ ⟨rfl, rfl⟩
          exact ⟨HasB.put hB 2 rfl rfl rfl rfl, hE, hr, x1, o1⟩
        · intro b a wI hI hb hn hc
          obtain ⟨hB, hE, hr, x1, o1⟩ := hI
          have ha : Has 48 [(13, .agg #[.int .i64 a0_0, .string a0_1])] a := hB.get [2] (List.forall_mem_cons.2 ⟨(hn 2 (mem_needs rfl)), (fun _ h => by cases h)⟩) _ rfl
          refine DoesG.plain rfl (Does.mono (d_call Try.call17 ha (vs := [.agg #[.int .i64 a0_0, .string a0_1]]) rfl (warderref02_May_c k a0_0 a0_1  (Av [p1, some ⟨b1, 0, none⟩] W) _ (Ex.wlt (as0 := []) (rr := []) (ro := [p1, some ⟨b1, 0, none⟩]) hE hW)  _ ht4)) ?_)
          intro v w5 h
          obtain ⟨rfl, hC⟩ := h
          have hfr : Fr wI w5 No := hC.fr.mono (fun _ _ h => by rcases h with h | ⟨_, h, _⟩; exact h; cases h)
          have hs : Step [p1, some ⟨b1, 0, none⟩] [p1, some ⟨b1, 0, none⟩] wI w5 := hC.callStep [p1, some ⟨b1, 0, none⟩]
          have o1 := o1.keep hC.fr (Ex.callOff (as0 := []) (rt := [p1, some ⟨b1, 0, none⟩]) hE (u := p1) (by simp)) (fun _ _ h => hs.trK h)
          have x1 := x1.keep hC.fr ((Ex.callOff (as0 := []) (rt := [p1, some ⟨b1, 0, none⟩]) hE (u := some ⟨b1, 0, none⟩) (by simp)) _ rfl)
          have hE : Ex w (Av [] No) [p1, some ⟨b1, 0, none⟩] w5 := Ex.call (as0 := []) (rt := [p1, some ⟨b1, 0, none⟩]) hE hC
          exact ⟨HasB.put hB 3 rfl rfl rfl rfl, hE, hr.step hfr (fun _ _ h => h), x1, o1⟩
        · intro b a wI hI hb hn hc
          obtain ⟨hB, hE, hr, x1, o1⟩ := hI
          have ha : Has 48 [(12, .bool t3), (14, .bool t4)] a := hB.get [1, 3] (List.forall_mem_cons.2 ⟨(hn 1 (mem_needs rfl)), (List.forall_mem_cons.2 ⟨(hn 3 (mem_needs rfl)), (fun _ h => by cases h)⟩)⟩) _ rfl
          refine DoesG.plain rfl (Does.mono (d_eqB ha Try.underlying4 rfl rfl) ?_)
          rintro v wJ ⟨rfl, rfl⟩
          exact ⟨HasB.put hB 4 rfl rfl rfl rfl, hE, hr, x1, o1⟩
        · intro b a wI hI hb hn hc
          obtain ⟨hB, hE, hr, x1, o1⟩ := hI
          have ha : Has 48 [(15, .bool (t3 == t4))] a := hB.get [4] (List.forall_mem_cons.2 ⟨(hn 4 (mem_needs rfl)), (fun _ h => by cases h)⟩) _ rfl
          refine DoesG.plain rfl (Does.mono (d_move ha rfl) ?_)
          rintro v wJ ⟨rfl, rfl⟩
          exact ⟨HasB.put hB 5 rfl rfl rfl rfl, hE, hr, x1, o1⟩
        · intro b a wI hI hb hn hc
          obtain ⟨hB, hE, hr, x1, o1⟩ := hI
          have ha : Has 48 [(1, .pointer (some ⟨b1, 0, none⟩)), (16, .bool (t3 == t4))] a := hB.get [5] (List.forall_mem_cons.2 ⟨(hn 5 (mem_needs rfl)), (fun _ h => by cases h)⟩) _ rfl
          refine DoesG.off rfl ha rfl rfl rfl hc2 ?_
          exact ⟨HasB.put hB 6 rfl rfl rfl rfl, hE, hr, x1, o1⟩
        · intro b a wI hI hb hn hc
          obtain ⟨hB, hE, hr, x1, o1⟩ := hI
          have ha : Has 48 [(16, .bool (t3 == t4)), (17, undef)] a := hB.get [5, 6] (List.forall_mem_cons.2 ⟨(hn 5 (mem_needs rfl)), (List.forall_mem_cons.2 ⟨(hn 6 (mem_needs rfl)), (fun _ h => by cases h)⟩)⟩) _ rfl
          refine DoesG.off rfl ha rfl rfl rfl hc2 ?_
          exact ⟨HasB.put hB 7 rfl rfl rfl rfl, hE, hr, x1, o1⟩
        · intro b a wI hI hb hn hc
          obtain ⟨hB, hE, hr, x1, o1⟩ := hI
          have ha : Has 48 [(16, .bool (t3 == t4)), (18, undef)] a := hB.get [5, 7] (List.forall_mem_cons.2 ⟨(hn 5 (mem_needs rfl)), (List.forall_mem_cons.2 ⟨(hn 7 (mem_needs rfl)), (fun _ h => by cases h)⟩)⟩) _ rfl
          refine DoesG.off rfl ha rfl rfl rfl hc2 ?_
          exact ⟨HasB.put hB 8 rfl rfl rfl rfl, hE, hr, x1, o1⟩
        · intro b a wI hI hb hn hc
          obtain ⟨hB, hE, hr, x1, o1⟩ := hI
          have ha : Has 48 [(1, .pointer (some ⟨b1, 0, none⟩)), (16, .bool (t3 == t4))] a := hB.get [5] (List.forall_mem_cons.2 ⟨(hn 5 (mem_needs rfl)), (fun _ h => by cases h)⟩) _ rfl
          refine DoesG.off rfl ha rfl rfl rfl hc2 ?_
          exact ⟨HasB.put hB 9 rfl rfl rfl rfl, hE, hr, x1, o1⟩
        · intro b a wI hI hb hn hc
          obtain ⟨hB, hE, hr, x1, o1⟩ := hI
          have ha : Has 48 [(16, .bool (t3 == t4)), (20, undef)] a := hB.get [5, 9] (List.forall_mem_cons.2 ⟨(hn 5 (mem_needs rfl)), (List.forall_mem_cons.2 ⟨(hn 9 (mem_needs rfl)), (fun _ h => by cases h)⟩)⟩) _ rfl
          refine DoesG.off rfl ha rfl rfl rfl hc2 ?_
          exact ⟨HasB.put hB 10 rfl rfl rfl rfl, hE, hr, x1, o1⟩
        · intro b a wI hI hb hn hc
          obtain ⟨hB, hE, hr, x1, o1⟩ := hI
          have ha : Has 48 [(16, .bool (t3 == t4)), (19, undef), (21, undef)] a := hB.get [5, 8, 10] (List.forall_mem_cons.2 ⟨(hn 5 (mem_needs rfl)), (List.forall_mem_cons.2 ⟨(hn 8 (mem_needs rfl)), (List.forall_mem_cons.2 ⟨(hn 10 (mem_needs rfl)), (fun _ h => by cases h)⟩)⟩)⟩) _ rfl
          refine DoesG.off rfl ha rfl rfl rfl hc2 ?_
          exact ⟨HasB.put hB 11 rfl rfl rfl rfl, hE, hr, x1, o1⟩
        · intro b a wI hI hb hn hc
          obtain ⟨hB, hE, hr, x1, o1⟩ := hI
          have ha : Has 48 [(16, .bool (t3 == t4)), (22, undef)] a := hB.get [5, 11] (List.forall_mem_cons.2 ⟨(hn 5 (mem_needs rfl)), (List.forall_mem_cons.2 ⟨(hn 11 (mem_needs rfl)), (fun _ h => by cases h)⟩)⟩) _ rfl
          refine DoesG.plain rfl (Does.mono (d_pickF ha rfl hc2 rfl) ?_)
          rintro v wJ ⟨rfl, rfl⟩
          exact ⟨HasB.put hB 12 rfl rfl rfl rfl, hE, hr, x1, o1⟩
        · intro b a wI hI hb hn hc
          obtain ⟨hB, hE, hr, x1, o1⟩ := hI
          have ha : Has 48 [(23, .bool false)] a := hB.get [12] (List.forall_mem_cons.2 ⟨(hn 12 (mem_needs rfl)), (fun _ h => by cases h)⟩) _ rfl
          refine DoesG.plain rfl (Does.mono (d_move ha rfl) ?_)
          rintro v wJ ⟨rfl, rfl⟩
          exact ⟨HasB.put hB 13 rfl rfl rfl rfl, hE, hr, x1, o1⟩
        · intro b a wI hI hb hn hc
          obtain ⟨hB, hE, hr, x1, o1⟩ := hI
          have ha : Has 48 [(3, .slice p1 t2.length c1), (24, .bool false)] a := hB.get [13] (List.forall_mem_cons.2 ⟨(hn 13 (mem_needs rfl)), (fun _ h => by cases h)⟩) _ rfl
          refine DoesG.off rfl ha rfl rfl rfl rfl ?_
          exact ⟨HasB.put hB 14 rfl rfl rfl rfl, hE, hr, x1, o1⟩
        · intro b a wI hI hb hn hc
          obtain ⟨hB, hE, hr, x1, o1⟩ := hI
          have ha : Has 48 [(24, .bool false), (25, undef)] a := hB.get [13, 14] (List.forall_mem_cons.2 ⟨(hn 13 (mem_needs rfl)), (List.forall_mem_cons.2 ⟨(hn 14 (mem_needs rfl)), (fun _ h => by cases h)⟩)⟩) _ rfl
          refine DoesG.off rfl ha rfl rfl rfl rfl ?_
          exact ⟨HasB.put hB 15 rfl rfl rfl rfl, hE, hr, x1, o1⟩
        · intro b a wI hI hb hn hc
          obtain ⟨hB, hE, hr, x1, o1⟩ := hI
          have ha : Has 48 [(1, .pointer (some ⟨b1, 0, none⟩)), (24, .bool false)] a := hB.get [13] (List.forall_mem_cons.2 ⟨(hn 13 (mem_needs rfl)), (fun _ h => by cases h)⟩) _ rfl
          refine DoesG.off rfl ha rfl rfl rfl rfl ?_
          exact ⟨HasB.put hB 16 rfl rfl rfl rfl, hE, hr, x1, o1⟩
        · intro b a wI hI hb hn hc
          obtain ⟨hB, hE, hr, x1, o1⟩ := hI
          have ha : Has 48 [(24, .bool false), (27, undef)] a := hB.get [13, 16] (List.forall_mem_cons.2 ⟨(hn 13 (mem_needs rfl)), (List.forall_mem_cons.2 ⟨(hn 16 (mem_needs rfl)), (fun _ h => by cases h)⟩)⟩) _ rfl
          refine DoesG.off rfl ha rfl rfl rfl rfl ?_
          exact ⟨HasB.put hB 17 rfl rfl rfl rfl, hE, hr, x1, o1⟩
        · intro b a wI hI hb hn hc
          obtain ⟨hB, hE, hr, x1, o1⟩ := hI
          have ha : Has 48 [(24, .bool false), (28, undef)] a := hB.get [13, 17] (List.forall_mem_cons.2 ⟨(hn 13 (mem_needs rfl)), (List.forall_mem_cons.2 ⟨(hn 17 (mem_needs rfl)), (fun _ h => by cases h)⟩)⟩) _ rfl
          refine DoesG.off rfl ha rfl rfl rfl rfl ?_
          exact ⟨HasB.put hB 18 rfl rfl rfl rfl, hE, hr, x1, o1⟩
        · intro b a wI hI hb hn hc
          obtain ⟨hB, hE, hr, x1, o1⟩ := hI
          have ha : Has 48 [(24, .bool false), (26, undef), (29, undef)] a := hB.get [13, 15, 18] (List.forall_mem_cons.2 ⟨(hn 13 (mem_needs rfl)), (List.forall_mem_cons.2 ⟨(hn 15 (mem_needs rfl)), (List.forall_mem_cons.2 ⟨(hn 18 (mem_needs rfl)), (fun _ h => by cases h)⟩)⟩)⟩) _ rfl
          refine DoesG.off rfl ha rfl rfl rfl rfl ?_
          exact ⟨HasB.put hB 19 rfl rfl rfl rfl, hE, hr, x1, o1⟩
        · intro b a wI hI hb hn hc
          obtain ⟨hB, hE, hr, x1, o1⟩ := hI
          have ha : Has 48 [(24, .bool false), (30, undef)] a := hB.get [13, 19] (List.forall_mem_cons.2 ⟨(hn 13 (mem_needs rfl)), (List.forall_mem_cons.2 ⟨(hn 19 (mem_needs rfl)), (fun _ h => by cases h)⟩)⟩) _ rfl
          refine DoesG.plain rfl (Does.mono (d_pickF ha rfl rfl rfl) ?_)
          rintro v wJ ⟨rfl, rfl⟩
          exact ⟨HasB.put hB 20 rfl rfl rfl rfl, hE, hr, x1, o1⟩
        · intro b a wI hI hb hn hc
          obtain ⟨hB, hE, hr, x1, o1⟩ := hI
          have ha : Has 48 [(31, .bool false)] a := hB.get [20] (List.forall_mem_cons.2 ⟨(hn 20 (mem_needs rfl)), (fun _ h => by cases h)⟩) _ rfl
          refine DoesG.plain rfl (Does.mono (d_move ha rfl) ?_)
          rintro v wJ ⟨rfl, rfl⟩
          exact ⟨HasB.put hB 21 rfl rfl rfl rfl, hE, hr, x1, o1⟩
        · intro b a wI hI hb hn hc
          obtain ⟨hB, hE, hr, x1, o1⟩ := hI
          have ha : Has 48 [(3, .slice p1 t2.length c1), (32, .bool false)] a := hB.get [21] (List.forall_mem_cons.2 ⟨(hn 21 (mem_needs rfl)), (fun _ h => by cases h)⟩) _ rfl
          refine DoesG.off rfl ha rfl rfl rfl rfl ?_
          exact ⟨HasB.put hB 22 rfl rfl rfl rfl, hE, hr, x1, o1⟩
        · intro b a wI hI hb hn hc
          obtain ⟨hB, hE, hr, x1, o1⟩ := hI
          have ha : Has 48 [(32, .bool false), (33, undef)] a := hB.get [21, 22] (List.forall_mem_cons.2 ⟨(hn 21 (mem_needs rfl)), (List.forall_mem_cons.2 ⟨(hn 22 (mem_needs rfl)), (fun _ h => by cases h)⟩)⟩) _ rfl
          refine DoesG.off rfl ha rfl rfl rfl rfl ?_
          exact ⟨HasB.put hB 23 rfl rfl rfl rfl, hE, hr, x1, o1⟩
        · intro b a wI hI hb hn hc
          obtain ⟨hB, hE, hr, x1, o1⟩ := hI
          have ha : Has 48 [(32, .bool false), (34, undef)] a := hB.get [21, 23] (List.forall_mem_cons.2 ⟨(hn 21 (mem_needs rfl)), (List.forall_mem_cons.2 ⟨(hn 23 (mem_needs rfl)), (fun _ h => by cases h)⟩)⟩) _ rfl
          refine DoesG.off rfl ha rfl rfl rfl rfl ?_
          exact ⟨HasB.put hB 24 rfl rfl rfl rfl, hE, hr, x1, o1⟩
        · intro b a wI hI hb hn hc
          obtain ⟨hB, hE, hr, x1, o1⟩ := hI
          have ha : Has 48 [(1, .pointer (some ⟨b1, 0, none⟩)), (32, .bool false)] a := hB.get [21] (List.forall_mem_cons.2 ⟨(hn 21 (mem_needs rfl)), (fun _ h => by cases h)⟩) _ rfl
          refine DoesG.off rfl ha rfl rfl rfl rfl ?_
          exact ⟨HasB.put hB 25 rfl rfl rfl rfl, hE, hr, x1, o1⟩
        · intro b a wI hI hb hn hc
          obtain ⟨hB, hE, hr, x1, o1⟩ := hI
          have ha : Has 48 [(32, .bool false), (36, undef)] a := hB.get [21, 25] (List.forall_mem_cons.2 ⟨(hn 21 (mem_needs rfl)), (List.forall_mem_cons.2 ⟨(hn 25 (mem_needs rfl)), (fun _ h => by cases h)⟩)⟩) _ rfl
          refine DoesG.off rfl ha rfl rfl rfl rfl ?_
          exact ⟨HasB.put hB 26 rfl rfl rfl rfl, hE, hr, x1, o1⟩
      · intro b a w14 hb hI
        obtain ⟨hB, hE, hr, x1, o1⟩ := hI
        have ha : Has 48 [(11, .agg #[.int .i64 a0_0, .string a0_1]), (12, .bool t3), (13, .agg #[.int .i64 a0_0, .string a0_1]), (14, .bool t4), (15, .bool (t3 == t4)), (16, .bool (t3 == t4)), (17, undef), (18, undef), (19, undef), (20, undef), (21, undef), (22, undef), (23, .bool false), (24, .bool false), (25, undef), (26, undef), (27, undef), (28, undef), (29, undef), (30, undef), (31, .bool false), (32, .bool false), (33, undef), (34, undef), (35, undef), (36, undef), (37, undef), (1, .pointer (some ⟨b1, 0, none⟩)), (3, .slice p1 t2.length c1)] a := hB.get [0, 1, 2, 3, 4, 5, 6, 7, 8, 9, 10, 11, 12, 13, 14, 15, 16, 17, 18, 19, 20, 21, 22, 23, 24, 25, 26] (List.forall_mem_cons.2 ⟨(hb 0 (by decide) (by decide)), (List.forall_mem_cons.2 ⟨(hb 1 (by decide) (by decide)), (List.forall_mem_cons.2 ⟨(hb 2 (by decide) (by decide)), (List.forall_mem_cons.2 ⟨(hb 3 (by decide) (by decide)), (List.forall_mem_cons.2 ⟨(hb 4 (by decide) (by decide)), (List.forall_mem_cons.2 ⟨(hb 5 (by decide) (by decide)), (List.forall_mem_cons.2 ⟨(hb 6 (by decide) (by decide)), (List.forall_mem_cons.2 ⟨(hb 7 (by decide) (by decide)), (List.forall_mem_cons.2 ⟨(hb 8 (by decide) (by decide)), (List.forall_mem_cons.2 ⟨(hb 9 (by decide) (by decide)), (List.forall_mem_cons.2 ⟨(hb 10 (by decide) (by decide)), (List.forall_mem_cons.2 ⟨(hb 11 (by decide) (by decide)), (List.forall_mem_cons.2 ⟨(hb 12 (by decide) (by decide)), (List.forall_mem_cons.2 ⟨(hb 13 (by decide) (by decide)), (List.forall_mem_cons.2 ⟨(hb 14 (by decide) (by decide)), (List.forall_mem_cons.2 ⟨(hb 15 (by decide) (by decide)), (List.forall_mem_cons.2 ⟨(hb 16 (by decide) (by decide)), (List.forall_mem_cons.2 ⟨(hb 17 (by decide) (by decide)), (List.forall_mem_cons.2 ⟨(hb 18 (by decide) (by decide)), (List.forall_mem_cons.2 ⟨(hb 19 (by decide) (by decide)), (List.forall_mem_cons.2 ⟨(hb 20 (by decide) (by decide)), (List.forall_mem_cons.2 ⟨(hb 21 (by decide) (by decide)), (List.forall_mem_cons.2 ⟨(hb 22 (by decide) (by decide)), (List.forall_mem_cons.2 ⟨(hb 23 (by decide) (by decide)), (List.forall_mem_cons.2 ⟨(hb 24 (by decide) (by decide)), (List.forall_mem_cons.2 ⟨(hb 25 (by decide) (by decide)), (List.forall_mem_cons.2 ⟨(hb 26 (by decide) (by decide)), (fun _ h => by cases h)⟩)⟩)⟩)⟩)⟩)⟩)⟩)⟩)⟩)⟩)⟩)⟩)⟩)⟩)⟩)⟩)⟩)⟩)⟩)⟩)⟩)⟩)⟩)⟩)⟩)⟩)⟩) _ rfl
        refine goOff ha rfl rfl rfl rfl rfl fun a ha => ?_
        refine go1 ha rfl (d_pickF ha rfl rfl rfl) fun a ha => ?_
        refine go1 ha rfl (d_move ha rfl) fun a ha => ?_
        refine goOff ha rfl rfl rfl rfl rfl fun a ha => ?_
        refine goOff ha rfl rfl rfl rfl rfl fun a ha => ?_
        refine goOff ha rfl rfl rfl rfl rfl fun a ha => ?_
        refine go1 ha rfl (d_pickF ha rfl rfl rfl) fun a ha => ?_
        refine go1 ha rfl (d_move ha rfl) fun a ha => ?_
        refine goOff ha rfl rfl rfl rfl rfl fun a ha => ?_
        refine go1 ha rfl (d_pickF ha rfl rfl rfl) fun a ha => ?_
        refine go1 ha rfl (d_assign ha rfl) fun a ha => ?_
        refine nil_ ?_
        refine hK6 _ _ ?_
        have ha := ha.to (l' := [(2, _)]) rfl
        refine wp_ret ?_
        have hs : Step [p1, some ⟨b1, 0, none⟩] [] w14 w14 := Step.pick _ _ []
        have hE : Ex w (Av [] No) [] w14 := hE.pick [] (by decide)
        injection hF with hF
        subst hF
        refine fin1 ha Try.results4 rfl ?_
        exact ⟨rfl, hE⟩

def slices_Equal_byte_byte_l0 (k : Nat) (a0 : List Int) (a1 : List Int) : Nat → Int → Option (Bool)
  | 0, _ => none
  | k1 + 1, x1 =>
    (if x1 < (a0.length : Int) then (ck (0 ≤ x1 ∧ x1 < (a0.length : Int)) (ck (0 ≤ x1 ∧ x1 < (a1.length : Int)) (if (a0.getD (x1).toNat (0 : Int)) = (a1.getD (x1).toNat (0 : Int)) then (slices_Equal_byte_byte_l0 k a0 a1 k1 (IntKind.i64.wrap (x1 + (1 : Int)))) else (some false)))) else (some true))

def slices_Equal_byte_byte (k : Nat) (a0 : List Int) (a1 : List Int) : Option (Bool) :=
  (if (a0.length : Int) = (a1.length : Int) then (slices_Equal_byte_byte_l0 k a0 a1 k (0 : Int)) else (some false))

set_option maxHeartbeats 4000000 in
set_option maxRecDepth 100000 in
theorem slices_Equal_byte_byte_c (k : Nat) (a0 : List Int) (a1 : List Int) (p1 : Option Addr) (c1 : Nat) (p2 : Option Addr) (c2 : Nat) (W : Nat → Prop) (w : World) (hW : ∀ k, W k → k < w.heap.size) (r1 : Raw (Av [] W) (Kd.int .u8) w.heap p1 c1 a0) (r2 : Raw (Av [] W) (Kd.int .u8) w.heap p2 c2 a1) (r : Bool) (hF : slices_Equal_byte_byte k a0 a1 = some r) :
    Calls Try.prog 36 [.slice p1 a0.length c1, .slice p2 a1.length c2].toArray w (Ret fun v w' => v = .bool r ∧ Ex w (Av [] No) [] w') := by
  unfold slices_Equal_byte_byte at hF
  refine enter [(0, .slice p1 a0.length c1), (1, .slice p2 a1.length c2)] Try.func36 rfl Try.ntmps36 rfl rfl fun a ha => ?_
  have hE : Ex w (Av [] No) [] w := Ex.refl w _
  have hW0 : ∀ p, some p ∈ ([] : List (Option Addr)) → ¬ W p.block := fun _ h => by cases h
  refine wp_seq_k (fun K1 hK1 => ?_)
  refine wreg ?_
  refine go1 ha rfl (d_assign ha rfl) fun a ha => ?_
  refine nil_ ?_
  refine hK1 _ _ ?_
  have ha := ha.to (l' := [(0, _), (1, _)]) rfl
  refine wp_seq_k (fun K2 hK2 => ?_)
  refine wp_seq_k (fun K3 hK3 => ?_)
  refine wreg ?_
  refine go1 ha rfl (d_move ha rfl) fun a ha => ?_
  refine go1 ha rfl (d_lenSlice ha Try.underlying22 rfl) fun a ha => ?_
  refine go1 ha rfl (d_move ha rfl) fun a ha => ?_
  refine go1 ha rfl (d_lenSlice ha Try.underlying22 rfl) fun a ha => ?_
  refine go1 ha rfl (d_neI ha rfl rfl) fun a ha => ?_
  refine nil_ ?_
  refine hK3 _ _ ?_
  have ha := ha.to (l' := [(0, _), (1, _), (10, _)]) rfl
  rcases ite_elim hF with ⟨hc1, hF⟩ | ⟨hc1, hF⟩
  · refine wcond_f ha rfl (not_t (decide_eq_true hc1)) ?_
    refine wp_skip ?_
    refine hK2 _ _ ?_
    have ha := ha.to (l' := [(0, _), (1, _)]) rfl
    refine wp_seq_k (fun K5 hK5 => ?_)
    refine wp_seq_k (fun K6 hK6 => ?_)
    refine wreg ?_
    refine go1 ha rfl (d_move ha rfl) fun a ha => ?_
    refine go1 ha rfl (d_lenSlice ha Try.underlying22 rfl) fun a ha => ?_
    refine go1 ha rfl (d_move ha rfl) fun a ha => ?_
    refine nil_ ?_
    refine hK6 _ _ ?_
    have ha := ha.to (l' := [(0, _), (1, _), (12, _), (13, _)]) rfl
    refine wp_block ?_
    refine wloopJ (fun k' a w1 => ∃ (x1 : Int), Has 26 [(0, .slice p1 a0.length c1), (1, .slice p2 a1.length c2), (12, .int .i64 (a0.length : Int)), (13, .int .i64 x1)] a ∧ Ex w (Av [] No) [] w1 ∧ Raw (Av [] W) (Kd.int .u8) w1.heap p1 c1 a0 ∧ Raw (Av [] W) (Kd.int .u8) w1.heap p2 c2 a1 ∧ slices_Equal_byte_byte_l0 k a0 a1 k' x1 = some r) k ⟨(0 : Int), ha.to rfl, hE, r1, r2, hF⟩ ?_
    rintro k1 a w1 ⟨x1, ha, hE, r1, r2, hF⟩ K7 hK7
    cases k1 with
    | zero => cases hF
    | succ k1 =>
      rw [slices_Equal_byte_byte_l0] at hF
      refine wp_seq_k (fun K8 hK8 => ?_)
      refine wreg ?_
      refine go1 ha rfl (d_lt ha rfl rfl) fun a ha => ?_
      refine nil_ ?_
      refine hK8 _ _ ?_
      have ha := ha.to (l' := [(0, _), (1, _), (12, _), (13, _), (14, _)]) rfl
      refine wp_seq_k (fun K9 hK9 => ?_)
      rcases ite_elim hF with ⟨hc2, hF⟩ | ⟨hc2, hF⟩
      · refine wcond_t ha rfl (decide_eq_true hc2) ?_
        refine wp_skip ?_
        refine hK9 _ _ ?_
        have ha := ha.to (l' := [(0, _), (1, _), (12, _), (13, _)]) rfl
        refine wp_seq_k (fun K10 hK10 => ?_)
        refine wp_block ?_
        refine wp_seq_k (fun K11 hK11 => ?_)
        refine wreg ?_
        refine go1 ha rfl (d_move ha rfl) fun a ha => ?_
        refine go1 ha rfl (d_assign ha rfl) fun a ha => ?_
        refine nil_ ?_
        refine hK11 _ _ ?_
        have ha := ha.to (l' := [(0, _), (1, _), (5, _), (12, _), (13, _)]) rfl
        refine wp_seq_k (fun K12 hK12 => ?_)
        obtain ⟨hc3, hF⟩ := ck_elim hF
        obtain ⟨hc4, hF⟩ := ck_elim hF
        refine drawnC 6 (by kernel_rfl) 8 (by decide) rfl (fun b a wI => HasB 26 [(0, .slice p1 a0.length c1), (1, .slice p2 a1.length c2), (5, .int .i64 x1), (12, .int .i64 (a0.length : Int)), (13, .int .i64 x1)] [(0, 16, .slice p1 a0.length c1), (1, 17, .int .i64 x1), (3, 19, .int .u8 (a0.getD (x1).toNat (0 : Int))), (4, 20, .slice p2 a1.length c2), (5, 21, .int .i64 x1), (7, 23, .int .u8 (a1.getD (x1).toNat (0 : Int)))] b a ∧ Ex w (Av [] No) [] wI ∧ Fr w1 wI No ∧ Raw (Av [] W) (Kd.int .u8) wI.heap p1 c1 a0 ∧ Raw (Av [] W) (Kd.int .u8) wI.heap p2 c2 a1 ∧ Sl b a 2 18 (fun v => ∃ (b1 : Nat) (q1 : Nat) (cs1 : List Value), v = .pointer (some ⟨b1, q1, none⟩) ∧ (Kd.int .u8).K (Av [] W) wI.heap (a0.getD (x1).toNat (0 : Int)) cs1 ∧ At wI b1 q1 cs1) ∧ Sl b a 6 22 (fun v => ∃ (b2 : Nat) (q2 : Nat) (cs2 : List Value), v = .pointer (some ⟨b2, q2, none⟩) ∧ (Kd.int .u8).K (Av [] W) wI.heap (a1.getD (x1).toNat (0 : Int)) cs2 ∧ At wI b2 q2 cs2)) ?_ (EachAt.all0 ?_) ?_
        · exact ⟨HasB.start (ha.to rfl) rfl, hE.drew, (Fr.refl _ No).drew, r1, r2, Sl.start rfl, Sl.start rfl⟩
        · refine (EachAt.cons ?_ (EachAt.cons ?_ (EachAt.cons ?_ (EachAt.cons ?_ (EachAt.cons ?_ (EachAt.cons ?_ (EachAt.cons ?_ (EachAt.cons ?_ EachAt.nil))))))))
          · intro b a wI hI hb hn hc
            obtain ⟨hB, hE, hr, r1, r2, hp2, hp6⟩ := hI
            have ha : Has 26 [(0, .slice p1 a0.length c1)] a := hB.get [] (fun _ h => by cases h) _ rfl
            refine DoesG.plain rfl (Does.mono (d_move ha rfl) ?_)
            rintro v wJ ⟨rfl, rfl⟩
            exact ⟨HasB.put hB 0 rfl rfl rfl rfl, hE, hr, r1, r2, hp2.keep rfl rfl (fun _ h => h), hp6.keep rfl rfl (fun _ h => h)⟩
          · intro b a wI hI hb hn hc
            obtain ⟨hB, hE, hr, r1, r2, hp2, hp6⟩ := hI
            have ha : Has 26 [(5, .int .i64 x1)] a := hB.get [] (fun _ h => by cases h) _ rfl
            refine DoesG.plain rfl (Does.mono (d_move ha rfl) ?_)
            rintro v wJ ⟨rfl, rfl⟩
            exact ⟨HasB.put hB 1 rfl rfl rfl rfl, hE, hr, r1, r2, hp2.keep rfl rfl (fun _ h => h), hp6.keep rfl rfl (fun _ h => h)⟩
          · intro b a wI hI hb hn hc
            obtain ⟨hB, hE, hr, r1, r2, hp2, hp6⟩ := hI
            have ha : Has 26 [(16, .slice p1 a0.length c1), (17, .int .i64 x1)] a := hB.get [0, 1] (List.forall_mem_cons.2 ⟨(hn 0 (mem_needs rfl)), (List.forall_mem_cons.2 ⟨(hn 1 (mem_needs rfl)), (fun _ h => by cases h)⟩)⟩) _ rfl
            refine DoesG.plain rfl (Does.mono (d_index (kd := (Kd.int .u8)) ha rfl rfl Try.underlying22 Try.sizeOf5 r1 hc3 (0 : Int)) ?_)
            rintro v wJ ⟨rfl, h⟩
            obtain ⟨b1, q1, cs1, rfl, _, hk1, at1⟩ := h
            exact ⟨HasB.putR hB 2 rfl rfl rfl, hE, hr, r1, r2, Sl.new hB.has rfl ⟨_, _, _, rfl, hk1, at1⟩, hp6.keep rfl rfl (fun _ h => h)⟩
          · intro b a wI hI hb hn hc
            obtain ⟨hB, hE, hr, r1, r2, hp2, hp6⟩ := hI
            have ha : Has 26 [] a := hB.get [] (fun _ h => by cases h) _ rfl
            obtain ⟨b1, q1, cs1, hs2, hk1, at1⟩ := hp2 (hn 2 (mem_needs rfl))
            have ha := ha.know hs2
            obtain rfl := hk1
            refine DoesG.plain rfl (Does.mono (d_load ha rfl (at1.cell 0 rfl) Try.isAgg5) ?_)
            rintro v wJ ⟨rfl, rfl⟩
            exact ⟨HasB.put hB 3 rfl rfl rfl rfl, hE, hr, r1, r2, hp2.keep rfl rfl (fun _ h => h), hp6.keep rfl rfl (fun _ h => h)⟩
          · intro b a wI hI hb hn hc
            obtain ⟨hB, hE, hr, r1, r2, hp2, hp6⟩ := hI
            have ha : Has 26 [(1, .slice p2 a1.length c2)] a := hB.get [] (fun _ h => by cases h) _ rfl
            refine DoesG.plain rfl (Does.mono (d_move ha rfl) ?_)
            rintro v wJ ⟨rfl, rfl⟩
            exact ⟨HasB.put hB 4 rfl rfl rfl rfl, hE, hr, r1, r2, hp2.keep rfl rfl (fun _ h => h), hp6.keep rfl rfl (fun _ h => h)⟩
          · intro b a wI hI hb hn hc
            obtain ⟨hB, hE, hr, r1, r2, hp2, hp6⟩ := hI
            have ha : Has 26 [(5, .int .i64 x1)] a := hB.get [] (fun _ h => by cases h) _ rfl
            refine DoesG.plain rfl (Does.mono (d_move ha rfl) ?_)
            rintro v wJ ⟨rfl, rfl⟩
            exact ⟨HasB.put hB 5 rfl rfl rfl rfl, hE, hr, r1, r2, hp2.keep rfl rfl (fun _ h => h), hp6.keep rfl rfl (fun _ h => h)⟩
          · intro b a wI hI hb hn hc
            obtain ⟨hB, hE, hr, r1, r2, hp2, hp6⟩ := hI
            have ha : Has 26 [(20, .slice p2 a1.length c2), (21, .int .i64 x1)] a := hB.get [4, 5] (List.forall_mem_cons.2 ⟨(hn 4 (mem_needs rfl)), (List.forall_mem_cons.2 ⟨(hn 5 (mem_needs rfl)), (fun _ h => by cases h)⟩)⟩) _ rfl
            refine DoesG.plain rfl (Does.mono (d_index (kd := (Kd.int .u8)) ha rfl rfl Try.underlying22 Try.sizeOf5 r2 hc4 (0 : Int)) ?_)
            rintro v wJ ⟨rfl, h⟩
            obtain ⟨b2, q2, cs2, rfl, _, hk2, at2⟩ := h
            exact ⟨HasB.putR hB 6 rfl rfl rfl, hE, hr, r1, r2, hp2.keep rfl rfl (fun _ h => h), Sl.new hB.has rfl ⟨_, _, _, rfl, hk2, at2⟩⟩
          · intro b a wI hI hb hn hc
            obtain ⟨hB, hE, hr, r1, r2, hp2, hp6⟩ := hI
            have ha : Has 26 [] a := hB.get [] (fun _ h => by cases h) _ rfl
            obtain ⟨b2, q2, cs2, hs6, hk2, at2⟩ := hp6 (hn 6 (mem_needs rfl))
            have ha := ha.know hs6
            obtain rfl := hk2
            refine DoesG.plain rfl (Does.mono (d_load ha rfl (at2.cell 0 rfl) Try.isAgg5) ?_)
            rintro v wJ ⟨rfl, rfl⟩
            exact ⟨HasB.put hB 7 rfl rfl rfl rfl, hE, hr, r1, r2, hp2.keep rfl rfl (fun _ h => h), hp6.keep rfl rfl (fun _ h => h)⟩
        · intro b a w2 hb hI
          obtain ⟨hB, hE, hr, r1, r2, hp2, hp6⟩ := hI
          have ha : Has 26 [(16, .slice p1 a0.length c1), (17, .int .i64 x1), (19, .int .u8 (a0.getD (x1).toNat (0 : Int))), (20, .slice p2 a1.length c2), (21, .int .i64 x1), (23, .int .u8 (a1.getD (x1).toNat (0 : Int))), (0, .slice p1 a0.length c1), (1, .slice p2 a1.length c2), (5, .int .i64 x1), (12, .int .i64 (a0.length : Int)), (13, .int .i64 x1)] a := hB.get [0, 1, 3, 4, 5, 7] (List.forall_mem_cons.2 ⟨(hb 0 (by decide) (by decide)), (List.forall_mem_cons.2 ⟨(hb 1 (by decide) (by decide)), (List.forall_mem_cons.2 ⟨(hb 3 (by decide) (by decide)), (List.forall_mem_cons.2 ⟨(hb 4 (by decide) (by decide)), (List.forall_mem_cons.2 ⟨(hb 5 (by decide) (by decide)), (List.forall_mem_cons.2 ⟨(hb 7 (by decide) (by decide)), (fun _ h => by cases h)⟩)⟩)⟩)⟩)⟩)⟩) _ rfl
          refine go1 ha rfl (d_neI ha rfl rfl) fun a ha => ?_
          refine nil_ ?_
          refine hK12 _ _ ?_
          have ha := ha.to (l' := [(0, _), (1, _), (12, _), (13, _), (24, _)]) rfl
          rcases ite_elim hF with ⟨hc5, hF⟩ | ⟨hc5, hF⟩
          · refine wcond_f ha rfl (not_t (decide_eq_true hc5)) ?_
            refine wp_skip ?_
            refine hK10 _ _ ?_
            have ha := ha.to (l' := [(0, _), (1, _), (12, _), (13, _)]) rfl
            refine wreg ?_
            refine go1 ha rfl (d_add ha rfl rfl) fun a ha => ?_
            refine go1 ha rfl (d_move ha rfl) fun a ha => ?_
            refine nil_ ?_
            exact hK7 k1 _ _ (Nat.lt_succ_self _) ⟨(IntKind.i64.wrap (x1 + (1 : Int))), ha.to rfl, hE, r1, r2, hF⟩
          · refine wcond_t ha rfl (not_f (decide_eq_false hc5)) ?_
            refine wp_seq_k (fun K13 hK13 => ?_)
            refine wreg ?_
            refine go1 ha rfl (d_assign ha rfl) fun a ha => ?_
            refine nil_ ?_
            refine hK13 _ _ ?_
            have ha := ha.to (l' := [(4, _)]) rfl
            refine wp_ret ?_
            injection hF with hF
            subst hF
            refine fin1 ha Try.results36 rfl ?_
            exact ⟨rfl, hE⟩
      · refine wcond_f ha rfl (decide_eq_false hc2) ?_
        refine wp_exit ?_
        refine hK5 _ _ ?_
        have ha := ha.to (l' := []) rfl
        refine wp_seq_k (fun K14 hK14 => ?_)
        refine wreg ?_
        refine go1 ha rfl (d_assign ha rfl) fun a ha => ?_
        refine nil_ ?_
        refine hK14 _ _ ?_
        have ha := ha.to (l' := [(4, _)]) rfl
        refine wp_ret ?_
        injection hF with hF
        subst hF
        refine fin1 ha Try.results36 rfl ?_
        exact ⟨rfl, hE⟩
  · refine wcond_t ha rfl (not_f (decide_eq_false hc1)) ?_
    refine wp_seq_k (fun K4 hK4 => ?_)
    refine wreg ?_
    refine go1 ha rfl (d_assign ha rfl) fun a ha => ?_
    refine nil_ ?_
    refine hK4 _ _ ?_
    have ha := ha.to (l' := [(4, _)]) rfl
    refine wp_ret ?_
    injection hF with hF
    subst hF
    refine fin1 ha Try.results36 rfl ?_
    exact ⟨rfl, hE⟩

def nibble_Read_l1 (k : Nat) (a0 : List Int) : Nat → (List Int) → Int → Option ((Int × ByteArray) × Int)
  | 0, _, _ => none
  | k1 + 1, x3, x4 =>
    (if x4 < (a0.length : Int) then (ck (0 ≤ x4 ∧ x4 < (a0.length : Int)) (ck (0 ≤ IntKind.i64.wrap (x4 + (1 : Int)) ∧ IntKind.i64.wrap (x4 + (1 : Int)) < (a0.length : Int)) (ck ((x3.length + ([bits .or .u8 (shl .u8 (a0.getD (x4).toNat (0 : Int)) (4 : Int)) (a0.getD (IntKind.i64.wrap (x4 + (1 : Int))).toNat (0 : Int))] : List (Int)).length) * 1 ≤ 140737488355328) (nibble_Read_l1 k a0 k1 (x3 ++ ([bits .or .u8 (shl .u8 (a0.getD (x4).toNat (0 : Int)) (4 : Int)) (a0.getD (IntKind.i64.wrap (x4 + (1 : Int))).toNat (0 : Int))] : List (Int))) (IntKind.i64.wrap (x4 + (2 : Int))))))) else ((nibble_May k (IntKind.i64.wrap (a0.getD ((6 : Int)).toNat (0 : Int))) (strOf x3)).bind fun t1 => (bif !t1 then (some (((0 : Int), (⟨#[]⟩ : ByteArray)), (16 : Int))) else ((nibble_Of k (IntKind.i64.wrap (a0.getD ((6 : Int)).toNat (0 : Int))) (strOf x3)).bind fun t2 => ((slices_Equal_byte_byte k t2 a0).bind fun t3 => (bif !t3 then (some (((0 : Int), (⟨#[]⟩ : ByteArray)), (16 : Int))) else (some ((IntKind.i64.wrap (a0.getD ((6 : Int)).toNat (0 : Int)), strOf x3), (0 : Int)))))))))

def nibble_Read_j0 (k : Nat) (a0 : List Int) : Option ((Int × ByteArray) × Int) :=
  (ck (0 ≤ (6 : Int) ∧ (6 : Int) < (a0.length : Int)) (nibble_Read_l1 k a0 k ([] : List (Int)) (7 : Int)))

def nibble_Read (k : Nat) (a0 : List Int) : Option ((Int × ByteArray) × Int) :=
  (if (a0.length : Int) < (7 : Int) then (some (((0 : Int), (⟨#[]⟩ : ByteArray)), (16 : Int))) else (if ((a0.length : Int).tmod (2 : Int)) = (0 : Int) then (some (((0 : Int), (⟨#[]⟩ : ByteArray)), (16 : Int))) else (nibble_Read_j0 k a0)))

set_option maxHeartbeats 4000000 in
set_option maxRecDepth 100000 in
theorem nibble_Read_c (k : Nat) (a0 : List Int) (p1 : Option Addr) (c1 : Nat) (W : Nat → Prop) (w : World) (hW : ∀ k, W k → k < w.heap.size) (r1 : Raw (Av [] W) (Kd.int .u8) w.heap p1 c1 a0) (r : (Int × ByteArray) × Int) (hF : nibble_Read k a0 = some r) :
    Calls Try.prog 21 [.slice p1 a0.length c1].toArray w (Ret fun v w' => v = .tuple #[.agg #[.int .i64 r.1.1, .string r.1.2], .int .i64 r.2] ∧ Ex w (Av [] No) [] w') := by
  unfold nibble_Read at hF
  refine enter [(0, .slice p1 a0.length c1)] Try.func21 rfl Try.ntmps21 rfl rfl fun a ha => ?_
  have hE : Ex w (Av [] No) [] w := Ex.refl w _
  have hW0 : ∀ p, some p ∈ ([] : List (Option Addr)) → ¬ W p.block := fun _ h => by cases h
  refine wp_seq_k (fun K1 hK1 => ?_)
  refine wreg ?_
  refine goR ha rfl (d_alloc (cs := [.int .i64 (0 : Int), .string (⟨#[]⟩ : ByteArray)]) Try.zeroValue29 rfl) fun v w1 a h ha => ?_
  obtain ⟨b1, rfl, hb, hl, x1, hf⟩ := h
  have hs := Step.addB [] hf hb
  have r1 := hs.tr r1
  have hE := hE.addB hf hb hl
  refine go1 ha rfl (d_assign ha rfl) fun a ha => ?_
  refine nil_ ?_
  refine hK1 _ _ ?_
  have ha := ha.to (l' := [(0, _), (2, _)]) rfl
  refine wseqJ (fun a w4 => Has 57 [(0, .slice p1 a0.length c1), (2, .pointer (some ⟨b1, 0, none⟩))] a ∧ Ex w (Av [] No) [some ⟨b1, 0, none⟩] w4 ∧ Raw (Av [some ⟨b1, 0, none⟩] W) (Kd.int .u8) w4.heap p1 c1 a0 ∧ Bx w4 b1 29 [.int .i64 (0 : Int), .string (⟨#[]⟩ : ByteArray)] ∧ nibble_Read_j0 k a0 = some r) ?_ ?_
  · rintro a w4 ⟨ha, hE, r1, x1, hF⟩
    unfold nibble_Read_j0 at hF
    refine wp_seq_k (fun K7 hK7 => ?_)
    refine wreg ?_
    refine go1 ha rfl (d_move ha rfl) fun a ha => ?_
    obtain ⟨hc3, hF⟩ := ck_elim hF
    refine goS ha rfl (d_index (kd := (Kd.int .u8)) ha rfl rfl Try.underlying22 Try.sizeOf5 r1 hc3 (0 : Int)) fun v a h ha => ?_
    obtain ⟨b2, q1, cs1, rfl, _, hk1, at1⟩ := h
    obtain rfl := hk1
    refine go1 ha rfl (d_load ha rfl (at1.cell 0 rfl) Try.isAgg5) fun a ha => ?_
    refine go1 ha rfl (d_cvt ha Try.underlying5 Try.underlying27 rfl) fun a ha => ?_
    refine go1 ha rfl (d_build (vs := [(0, .int .i64 (IntKind.i64.wrap (a0.getD ((6 : Int)).toNat (0 : Int))))]) (cs := [.int .i64 (IntKind.i64.wrap (a0.getD ((6 : Int)).toNat (0 : Int))), .string (⟨#[]⟩ : ByteArray)]) ha (fun w => run_build w 29 _ _ (by kernel_rfl)) rfl) fun a ha => ?_
    refine goR ha rfl (d_alloc (cs := [.int .i64 (0 : Int), .string (⟨#[]⟩ : ByteArray)]) Try.zeroValue29 rfl) fun v w5 a h ha => ?_
    obtain ⟨b3, rfl, hb, hl, x2, hf⟩ := h
    have hs := Step.addB [some ⟨b1, 0, none⟩] hf hb
    have r1 := hs.tr r1
    have x1 := x1.stay hf
    have hE := hE.addB hf hb hl
    refine goR0 ha (d_store (cs := [.int .i64 (0 : Int), .string (⟨#[]⟩ : ByteArray)]) (vs := [.int .i64 (IntKind.i64.wrap (a0.getD ((6 : Int)).toNat (0 : Int))), .string (⟨#[]⟩ : ByteArray)]) ha rfl rfl x2 rfl (by simp [Value.oneCell']) Try.sizeOf29 rfl (Nat.le_of_ble_eq_true rfl)) fun v w6 a h ha => ?_
    obtain ⟨x2, hf⟩ := h
    have hf := hf.blk1
    have hs := hE.stepAt 0 rfl hf
    have r1 := hs.tr r1
    have x1 := x1.keep hf ((hE.off 0 1 rfl rfl (by decide)) _ rfl)
    have hE := hE.wroteAt 0 rfl hf
    have x2 : Bx w6 b3 29 [.int .i64 (IntKind.i64.wrap (a0.getD ((6 : Int)).toNat (0 : Int))), .string (⟨#[]⟩ : ByteArray)] := x2
    refine nil_ ?_
    refine hK7 _ _ ?_
    have ha := ha.to (l' := [(0, _), (2, _), (4, _)]) rfl
    refine wp_seq_k (fun K8 hK8 => ?_)
    refine wreg ?_
    refine go1 ha rfl (d_assign ha rfl) fun a ha => ?_
    refine nil_ ?_
    refine hK8 _ _ ?_
    have ha := ha.to (l' := [(0, _), (2, _), (4, _), (5, _)]) rfl
    refine wp_seq_k (fun K9 hK9 => ?_)
    refine wp_seq_k (fun K10 hK10 => ?_)
    refine wreg ?_
    refine go1 ha rfl (d_assign ha rfl) fun a ha => ?_
    refine nil_ ?_
    refine hK10 _ _ ?_
    have ha := ha.to (l' := [(0, _), (2, _), (4, _), (5, _), (6, _)]) rfl
    refine wp_block ?_
    have hs := Step.add (a := none) [some ⟨b3, 0, none⟩, some ⟨b1, 0, none⟩] (Fr.refl w6 No) (fun _ h => by cases h)
    have r1 := hs.tr r1
    have hE : Ex w (Av [] No) [none, some ⟨b3, 0, none⟩, some ⟨b1, 0, none⟩] w6 := hE.add (a := none) (Fr.refl w6 No) (fun _ h => by cases h)
    have o4 := Ow.nil (Av [none, some ⟨b3, 0, none⟩, some ⟨b1, 0, none⟩] W) w6 5 (Kd.int .u8)
    refine wloopJ (fun k' a w7 => ∃ (x3 : List Int) (p2 : Option Addr) (c2 : Nat) (x4 : Int), Has 57 [(0, .slice p1 a0.length c1), (2, .pointer (some ⟨b1, 0, none⟩)), (4, .pointer (some ⟨b3, 0, none⟩)), (5, .slice p2 x3.length c2), (6, .int .i64 x4)] a ∧ Ex w (Av [] No) [p2, some ⟨b3, 0, none⟩, some ⟨b1, 0, none⟩] w7 ∧ Raw (Av [p2, some ⟨b3, 0, none⟩, some ⟨b1, 0, none⟩] W) (Kd.int .u8) w7.heap p1 c1 a0 ∧ Bx w7 b1 29 [.int .i64 (0 : Int), .string (⟨#[]⟩ : ByteArray)] ∧ Bx w7 b3 29 [.int .i64 (IntKind.i64.wrap (a0.getD ((6 : Int)).toNat (0 : Int))), .string (⟨#[]⟩ : ByteArray)] ∧ Ow (Av [p2, some ⟨b3, 0, none⟩, some ⟨b1, 0, none⟩] W) w7 5 (Kd.int .u8) p2 c2 x3 ∧ nibble_Read_l1 k a0 k' x3 x4 = some r) k ⟨([] : List (Int)), _, _, (7 : Int), ha.to rfl, hE, r1, x1, x2, o4, hF⟩ ?_
    rintro k1 a w7 ⟨x3, p2, c2, x4, ha, hE, r1, x1, x2, o1, hF⟩ K11 hK11
    cases k1 with
    | zero => cases hF
    | succ k1 =>
      rw [nibble_Read_l1] at hF
      refine wp_seq_k (fun K12 hK12 => ?_)
      refine wp_seq_k (fun K13 hK13 => ?_)
      refine wreg ?_
      refine go1 ha rfl (d_move ha rfl) fun a ha => ?_
      refine go1 ha rfl (d_move ha rfl) fun a ha => ?_
      refine go1 ha rfl (d_lenSlice ha Try.underlying22 rfl) fun a ha => ?_
      refine go1 ha rfl (d_lt ha rfl rfl) fun a ha => ?_
      refine nil_ ?_
      refine hK13 _ _ ?_
      have ha := ha.to (l' := [(0, _), (2, _), (4, _), (5, _), (6, _), (25, _)]) rfl
      rcases ite_elim hF with ⟨hc4, hF⟩ | ⟨hc4, hF⟩
      · refine wcond_t ha rfl (decide_eq_true hc4) ?_
        refine wp_skip ?_
        refine hK12 _ _ ?_
        have ha := ha.to (l' := [(0, _), (2, _), (4, _), (5, _), (6, _)]) rfl
        refine wp_seq_k (fun K14 hK14 => ?_)
        refine wp_block ?_
        obtain ⟨hc5, hF⟩ := ck_elim hF
        obtain ⟨hc6, hF⟩ := ck_elim hF
        refine drawnC 8 (by kernel_rfl) 13 (by decide) rfl (fun b a wI => HasB 57 [(0, .slice p1 a0.length c1), (2, .pointer (some ⟨b1, 0, none⟩)), (4, .pointer (some ⟨b3, 0, none⟩)), (5, .slice p2 x3.length c2), (6, .int .i64 x4)] [(0, 28, .slice p2 x3.length c2), (1, 29, .slice p1 a0.length c1), (2, 30, .int .i64 x4), (4, 32, .int .u8 (a0.getD (x4).toNat (0 : Int))), (5, 33, .int .u8 (shl .u8 (a0.getD (x4).toNat (0 : Int)) (4 : Int))), (6, 34, .slice p1 a0.length c1), (7, 35, .int .i64 x4), (8, 36, .int .i64 (IntKind.i64.wrap (x4 + (1 : Int)))), (10, 38, .int .u8 (a0.getD (IntKind.i64.wrap (x4 + (1 : Int))).toNat (0 : Int))), (11, 39, .int .u8 (bits .or .u8 (shl .u8 (a0.getD (x4).toNat (0 : Int)) (4 : Int)) (a0.getD (IntKind.i64.wrap (x4 + (1 : Int))).toNat (0 : Int))))] b a ∧ Ex w (Av [] No) [p2, some ⟨b3, 0, none⟩, some ⟨b1, 0, none⟩] wI ∧ Fr w7 wI No ∧ Raw (Av [p2, some ⟨b3, 0, none⟩, some ⟨b1, 0, none⟩] W) (Kd.int .u8) wI.heap p1 c1 a0 ∧ Bx wI b1 29 [.int .i64 (0 : Int), .string (⟨#[]⟩ : ByteArray)] ∧ Bx wI b3 29 [.int .i64 (IntKind.i64.wrap (a0.getD ((6 : Int)).toNat (0 : Int))), .string (⟨#[]⟩ : ByteArray)] ∧ Ow (Av [p2, some ⟨b3, 0, none⟩, some ⟨b1, 0, none⟩] W) wI 5 (Kd.int .u8) p2 c2 x3 ∧ Sl b a 3 31 (fun v => ∃ (b4 : Nat) (q2 : Nat) (cs2 : List Value), v = .pointer (some ⟨b4, q2, none⟩) ∧ (Kd.int .u8).K (Av [p2, some ⟨b3, 0, none⟩, some ⟨b1, 0, none⟩] W) wI.heap (a0.getD (x4).toNat (0 : Int)) cs2 ∧ At wI b4 q2 cs2) ∧ Sl b a 9 37 (fun v => ∃ (b5 : Nat) (q3 : Nat) (cs3 : List Value), v = .pointer (some ⟨b5, q3, none⟩) ∧ (Kd.int .u8).K (Av [p2, some ⟨b3, 0, none⟩, some ⟨b1, 0, none⟩] W) wI.heap (a0.getD (IntKind.i64.wrap (x4 + (1 : Int))).toNat (0 : Int)) cs3 ∧ At wI b5 q3 cs3) ∧ Sl b a 12 40 (fun v => ∃ (p3 : Option Addr) (c3 : Nat), v = .slice p3 ([bits .or .u8 (shl .u8 (a0.getD (x4).toNat (0 : Int)) (4 : Int)) (a0.getD (IntKind.i64.wrap (x4 + (1 : Int))).toNat (0 : Int))] : List (Int)).length c3 ∧ Raw (Av [p2, some ⟨b3, 0, none⟩, some ⟨b1, 0, none⟩] (Old w)) (Kd.int .u8) wI.heap p3 c3 ([bits .or .u8 (shl .u8 (a0.getD (x4).toNat (0 : Int)) (4 : Int)) (a0.getD (IntKind.i64.wrap (x4 + (1 : Int))).toNat (0 : Int))] : List (Int)))) ?_ (EachAt.all0 ?_) ?_
        · exact ⟨HasB.start (ha.to rfl) rfl, hE.drew, (Fr.refl _ No).drew, r1, x1, x2, o1, Sl.start rfl, Sl.start rfl, Sl.start rfl⟩
        · refine (EachAt.cons ?_ (EachAt.cons ?_ (EachAt.cons ?_ (EachAt.cons ?_ (EachAt.cons ?_ (EachAt.cons ?_ (EachAt.cons ?_ (EachAt.cons ?_ (EachAt.cons ?_ (EachAt.cons ?_ (EachAt.cons ?_ (EachAt.cons ?_ (EachAt.cons ?_ EachAt.nil)))))))))))))
          · intro b a wI hI hb hn hc
            obtain ⟨hB, hE, hr, r1, x1, x2, o1, hp3, hp9, hp12⟩ := hI
            have ha : Has 57 [(5, .slice p2 x3.length c2)] a := hB.get [] (fun _ h => by cases h) _ rfl
            refine DoesG.plain rfl (Does.mono (d_move ha rfl) ?_)
            rintro v wJ ⟨rfl, rfl⟩
            exact ⟨HasB.put hB 0 rfl rfl rfl rfl, hE, hr, r1, x1, x2, o1, hp3.keep rfl rfl (fun _ h => h), hp9.keep rfl rfl (fun _ h => h), hp12.keep rfl rfl (fun _ h => h)⟩
          · intro b a wI hI hb hn hc
            obtain ⟨hB, hE, hr, r1, x1, x2, o1, hp3, hp9, hp12⟩ := hI
            have ha : Has 57 [(0, .slice p1 a0.length c1)] a := hB.get [] (fun _ h => by cases h) _ rfl
            refine DoesG.plain rfl (Does.mono (d_move ha rfl) ?_)
            rintro v wJ ⟨rfl, rfl⟩
            exact ⟨HasB.put hB 1 rfl rfl rfl rfl, hE, hr, r1, x1, x2, o1, hp3.keep rfl rfl (fun _ h => h), hp9.keep rfl rfl (fun _ h => h), hp12.keep rfl rfl (fun _ h => h)⟩
          · intro b a wI hI hb hn hc
            obtain ⟨hB, hE, hr, r1, x1, x2, o1, hp3, hp9, hp12⟩ := hI
            have ha : Has 57 [(6, .int .i64 x4)] a := hB.get [] (fun _ h => by cases h) _ rfl
            refine DoesG.plain rfl (Does.mono (d_move ha rfl) ?_)
            rintro v wJ ⟨rfl, rfl⟩
            exact ⟨HasB.put hB 2 rfl rfl rfl rfl, hE, hr, r1, x1, x2, o1, hp3.keep rfl rfl (fun _ h => h), hp9.keep rfl rfl (fun _ h => h), hp12.keep rfl rfl (fun _ h => h)⟩
          · intro b a wI hI hb hn hc
            obtain ⟨hB, hE, hr, r1, x1, x2, o1, hp3, hp9, hp12⟩ := hI
            have ha : Has 57 [(29, .slice p1 a0.length c1), (30, .int .i64 x4)] a := hB.get [1, 2] (List.forall_mem_cons.2 ⟨(hn 1 (mem_needs rfl)), (List.forall_mem_cons.2 ⟨(hn 2 (mem_needs rfl)), (fun _ h => by cases h)⟩)⟩) _ rfl
            refine DoesG.plain rfl (Does.mono (d_index (kd := (Kd.int .u8)) ha rfl rfl Try.underlying22 Try.sizeOf5 r1 hc5 (0 : Int)) ?_)
            rintro v wJ ⟨rfl, h⟩
            obtain ⟨b4, q2, cs2, rfl, _, hk2, at2⟩ := h
            exact ⟨HasB.putR hB 3 rfl rfl rfl, hE, hr, r1, x1, x2, o1, Sl.new hB.has rfl ⟨_, _, _, rfl, hk2, at2⟩, hp9.keep rfl rfl (fun _ h => h), hp12.keep rfl rfl (fun _ h => h)⟩
          · intro b a wI hI hb hn hc
            obtain ⟨hB, hE, hr, r1, x1, x2, o1, hp3, hp9, hp12⟩ := hI
            have ha : Has 57 [] a := hB.get [] (fun _ h => by cases h) _ rfl
            obtain ⟨b4, q2, cs2, hs3, hk2, at2⟩ := hp3 (hn 3 (mem_needs rfl))
            have ha := ha.know hs3
            obtain rfl := hk2
            refine DoesG.plain rfl (Does.mono (d_load ha rfl (at2.cell 0 rfl) Try.isAgg5) ?_)
            rintro v wJ ⟨rfl, rfl⟩
            exact ⟨HasB.put hB 4 rfl rfl rfl rfl, hE, hr, r1, x1, x2, o1, hp3.keep rfl rfl (fun _ h => h), hp9.keep rfl rfl (fun _ h => h), hp12.keep rfl rfl (fun _ h => h)⟩
          · intro b a wI hI hb hn hc
            obtain ⟨hB, hE, hr, r1, x1, x2, o1, hp3, hp9, hp12⟩ := hI
            have ha : Has 57 [(32, .int .u8 (a0.getD (x4).toNat (0 : Int)))] a := hB.get [4] (List.forall_mem_cons.2 ⟨(hn 4 (mem_needs rfl)), (fun _ h => by cases h)⟩) _ rfl
            refine DoesG.plain rfl (Does.mono (d_shl ha rfl rfl (by decide)) ?_)
            rintro v wJ ⟨rfl, rfl⟩
            exact ⟨HasB.put hB 5 rfl rfl rfl rfl, hE, hr, r1, x1, x2, o1, hp3.keep rfl rfl (fun _ h => h), hp9.keep rfl rfl (fun _ h => h), hp12.keep rfl rfl (fun _ h => h)⟩
          · intro b a wI hI hb hn hc
            obtain ⟨hB, hE, hr, r1, x1, x2, o1, hp3, hp9, hp12⟩ := hI
            have ha : Has 57 [(0, .slice p1 a0.length c1)] a := hB.get [] (fun _ h => by cases h) _ rfl
            refine DoesG.plain rfl (Does.mono (d_move ha rfl) ?_)
            rintro v wJ ⟨rfl, rfl⟩
            exact ⟨HasB.put hB 6 rfl rfl rfl rfl, hE, hr, r1, x1, x2, o1, hp3.keep rfl rfl (fun _ h => h), hp9.keep rfl rfl (fun _ h => h), hp12.keep rfl rfl (fun _ h => h)⟩
          · intro b a wI hI hb hn hc
            obtain ⟨hB, hE, hr, r1, x1, x2, o1, hp3, hp9, hp12⟩ := hI
            have ha : Has 57 [(6, .int .i64 x4)] a := hB.get [] (fun _ h => by cases h) _ rfl
            refine DoesG.plain rfl (Does.mono (d_move ha rfl) ?_)
            rintro v wJ ⟨rfl, rfl⟩
            exact ⟨HasB.put hB 7 rfl rfl rfl rfl, hE, hr, r1, x1, x2, o1, hp3.keep rfl rfl (fun _ h => h), hp9.keep rfl rfl (fun _ h => h), hp12.keep rfl rfl (fun _ h => h)⟩
          · intro b a wI hI hb hn hc
            obtain ⟨hB, hE, hr, r1, x1, x2, o1, hp3, hp9, hp12⟩ := hI
            have ha : Has 57 [(35, .int .i64 x4)] a := hB.get [7] (List.forall_mem_cons.2 ⟨(hn 7 (mem_needs rfl)), (fun _ h => by cases h)⟩) _ rfl
            refine DoesG.plain rfl (Does.mono (d_add ha rfl rfl) ?_)
            rintro v wJ ⟨rfl, rfl⟩
            exact ⟨HasB.put hB 8 rfl rfl rfl rfl, hE, hr, r1, x1, x2, o1, hp3.keep rfl rfl (fun _ h => h), hp9.keep rfl rfl (fun _ h => h), hp12.keep rfl rfl (fun _ h => h)⟩
          · intro b a wI hI hb hn hc
            obtain ⟨hB, hE, hr, r1, x1, x2, o1, hp3, hp9, hp12⟩ := hI
            have ha : Has 57 [(34, .slice p1 a0.length c1), (36, .int .i64 (IntKind.i64.wrap (x4 + (1 : Int))))] a := hB.get [6, 8] (List.forall_mem_cons.2 ⟨(hn 6 (mem_needs rfl)), (List.forall_mem_cons.2 ⟨(hn 8 (mem_needs rfl)), (fun _ h => by cases h)⟩)⟩) _ rfl
            refine DoesG.plain rfl (Does.mono (d_index (kd := (Kd.int .u8)) ha rfl rfl Try.underlying22 Try.sizeOf5 r1 hc6 (0 : Int)) ?_)
            rintro v wJ ⟨rfl, h⟩
            obtain ⟨b5, q3, cs3, rfl, _, hk3, at3⟩ := h
            exact ⟨HasB.putR hB 9 rfl rfl rfl, hE, hr, r1, x1, x2, o1, hp3.keep rfl rfl (fun _ h => h), Sl.new hB.has rfl ⟨_, _, _, rfl, hk3, at3⟩, hp12.keep rfl rfl (fun _ h => h)⟩
          · intro b a wI hI hb hn hc
            obtain ⟨hB, hE, hr, r1, x1, x2, o1, hp3, hp9, hp12⟩ := hI
            have ha : Has 57 [] a := hB.get [] (fun _ h => by cases h) _ rfl
            obtain ⟨b5, q3, cs3, hs9, hk3, at3⟩ := hp9 (hn 9 (mem_needs rfl))
            have ha := ha.know hs9
            obtain rfl := hk3
            refine DoesG.plain rfl (Does.mono (d_load ha rfl (at3.cell 0 rfl) Try.isAgg5) ?_)
            rintro v wJ ⟨rfl, rfl⟩
            exact ⟨HasB.put hB 10 rfl rfl rfl rfl, hE, hr, r1, x1, x2, o1, hp3.keep rfl rfl (fun _ h => h), hp9.keep rfl rfl (fun _ h => h), hp12.keep rfl rfl (fun _ h => h)⟩
          · intro b a wI hI hb hn hc
            obtain ⟨hB, hE, hr, r1, x1, x2, o1, hp3, hp9, hp12⟩ := hI
            have ha : Has 57 [(33, .int .u8 (shl .u8 (a0.getD (x4).toNat (0 : Int)) (4 : Int))), (38, .int .u8 (a0.getD (IntKind.i64.wrap (x4 + (1 : Int))).toNat (0 : Int)))] a := hB.get [5, 10] (List.forall_mem_cons.2 ⟨(hn 5 (mem_needs rfl)), (List.forall_mem_cons.2 ⟨(hn 10 (mem_needs rfl)), (fun _ h => by cases h)⟩)⟩) _ rfl
            refine DoesG.plain rfl (Does.mono (d_or ha rfl rfl) ?_)
            rintro v wJ ⟨rfl, rfl⟩
            exact ⟨HasB.put hB 11 rfl rfl rfl rfl, hE, hr, r1, x1, x2, o1, hp3.keep rfl rfl (fun _ h => h), hp9.keep rfl rfl (fun _ h => h), hp12.keep rfl rfl (fun _ h => h)⟩
          · intro b a wI hI hb hn hc
            obtain ⟨hB, hE, hr, r1, x1, x2, o1, hp3, hp9, hp12⟩ := hI
            have ha : Has 57 [(39, .int .u8 (bits .or .u8 (shl .u8 (a0.getD (x4).toNat (0 : Int)) (4 : Int)) (a0.getD (IntKind.i64.wrap (x4 + (1 : Int))).toNat (0 : Int))))] a := hB.get [11] (List.forall_mem_cons.2 ⟨(hn 11 (mem_needs rfl)), (fun _ h => by cases h)⟩) _ rfl
            refine DoesG.plain rfl (Does.mono (d_buildSlice (B := W) (kd := (Kd.int .u8)) (xs := ([bits .or .u8 (shl .u8 (a0.getD (x4).toNat (0 : Int)) (4 : Int)) (a0.getD (IntKind.i64.wrap (x4 + (1 : Int))).toNat (0 : Int))] : List (Int))) (vs := [.int .u8 (bits .or .u8 (shl .u8 (a0.getD (x4).toNat (0 : Int)) (4 : Int)) (a0.getD (IntKind.i64.wrap (x4 + (1 : Int))).toNat (0 : Int)))]) ha Try.underlying22 Try.sizeOf5 Try.zeroValue5 rfl (Els.cons (c := [.int .u8 (bits .or .u8 (shl .u8 (a0.getD (x4).toNat (0 : Int)) (4 : Int)) (a0.getD (IntKind.i64.wrap (x4 + (1 : Int))).toNat (0 : Int)))]) (rfl) Els.nil) (by simp [Value.cells, Kd.int, Kd.scalar, Kd.bool, Kd.str, Kd.pair, Kd.sl]) rfl rfl (by decide) (by decide) hE) ?_)
            intro v w8 h
            obtain ⟨p3, c3, rfl, hs, hE, hf, o2⟩ := h
            have hfr : Fr wI w8 No := hf
            have r1 := hs.tr r1
            have o1 := o1.keep hf (fun _ _ h => h) (fun _ _ h => hs.trK h)
            have x2 := x2.stay hf
            have x1 := x1.stay hf
            have r2 : Raw (Av [p2, some ⟨b3, 0, none⟩, some ⟨b1, 0, none⟩] (Old w)) (Kd.int .u8) w8.heap p3 c3 ([bits .or .u8 (shl .u8 (a0.getD (x4).toNat (0 : Int)) (4 : Int)) (a0.getD (IntKind.i64.wrap (x4 + (1 : Int))).toNat (0 : Int))] : List (Int)) := o2.freeF (Kd.Flat.int _) hE 0 rfl
            have hs : Step [p3, p2, some ⟨b3, 0, none⟩, some ⟨b1, 0, none⟩] [p2, some ⟨b3, 0, none⟩, some ⟨b1, 0, none⟩] w8 w8 := Step.pick _ _ [1, 2, 3]
            have r1 := hs.tr r1
            have o1 := o1.keep (Fr.refl _ No) (fun _ _ h => h) (fun _ _ h => hs.trK h)
            have hE : Ex w (Av [] No) [p2, some ⟨b3, 0, none⟩, some ⟨b1, 0, none⟩] w8 := hE.pick [1, 2, 3] (by decide)
            exact ⟨HasB.putR hB 12 rfl rfl rfl, hE, hr.step hfr (fun _ _ h => h), r1, x1, x2, o1, hp3.keep rfl rfl (fun _ ⟨b4, q2, cs2, e, hk2, at2⟩ => ⟨_, _, _, e, Kd.step _ hk2 hfr.size (fun k hk _ => hfr.blk k hk id), at2.stay hfr⟩), hp9.keep rfl rfl (fun _ ⟨b5, q3, cs3, e, hk3, at3⟩ => ⟨_, _, _, e, Kd.step _ hk3 hfr.size (fun k hk _ => hfr.blk k hk id), at3.stay hfr⟩), Sl.new hB.has rfl ⟨_, _, rfl, r2⟩⟩
        · intro b a w9 hb hI
          obtain ⟨hB, hE, hr, r1, x1, x2, o1, hp3, hp9, hp12⟩ := hI
          have ha : Has 57 [(28, .slice p2 x3.length c2), (29, .slice p1 a0.length c1), (30, .int .i64 x4), (32, .int .u8 (a0.getD (x4).toNat (0 : Int))), (33, .int .u8 (shl .u8 (a0.getD (x4).toNat (0 : Int)) (4 : Int))), (34, .slice p1 a0.length c1), (35, .int .i64 x4), (36, .int .i64 (IntKind.i64.wrap (x4 + (1 : Int)))), (38, .int .u8 (a0.getD (IntKind.i64.wrap (x4 + (1 : Int))).toNat (0 : Int))), (39, .int .u8 (bits .or .u8 (shl .u8 (a0.getD (x4).toNat (0 : Int)) (4 : Int)) (a0.getD (IntKind.i64.wrap (x4 + (1 : Int))).toNat (0 : Int)))), (0, .slice p1 a0.length c1), (2, .pointer (some ⟨b1, 0, none⟩)), (4, .pointer (some ⟨b3, 0, none⟩)), (5, .slice p2 x3.length c2), (6, .int .i64 x4)] a := hB.get [0, 1, 2, 4, 5, 6, 7, 8, 10, 11] (List.forall_mem_cons.2 ⟨(hb 0 (by decide) (by decide)), (List.forall_mem_cons.2 ⟨(hb 1 (by decide) (by decide)), (List.forall_mem_cons.2 ⟨(hb 2 (by decide) (by decide)), (List.forall_mem_cons.2 ⟨(hb 4 (by decide) (by decide)), (List.forall_mem_cons.2 ⟨(hb 5 (by decide) (by decide)), (List.forall_mem_cons.2 ⟨(hb 6 (by decide) (by decide)), (List.forall_mem_cons.2 ⟨(hb 7 (by decide) (by decide)), (List.forall_mem_cons.2 ⟨(hb 8 (by decide) (by decide)), (List.forall_mem_cons.2 ⟨(hb 10 (by decide) (by decide)), (List.forall_mem_cons.2 ⟨(hb 11 (by decide) (by decide)), (fun _ h => by cases h)⟩)⟩)⟩)⟩)⟩)⟩)⟩)⟩)⟩)⟩) _ rfl
          obtain ⟨p3, c3, hs, r2⟩ := hp12 (hb 12 (by decide) (by decide))
          have ha := ha.know hs
          obtain ⟨hc7, hF⟩ := ck_elim hF
          refine goR ha rfl (d_append (B := W) (kd := (Kd.int .u8)) (zv := .int .u8 (0 : Int)) (bytes := 1) (lf := []) (rt := [some ⟨b3, 0, none⟩, some ⟨b1, 0, none⟩]) (fun q => [q, some ⟨b3, 0, none⟩, some ⟨b1, 0, none⟩]) (fun _ => rfl) ha Try.underlying22 (by kernel_rfl) rfl (by decide) (by decide) rfl rfl hE o1 (r2.toW hW) (fun _ _ h => h) hc7) fun v w10 a h ha => ?_
          obtain ⟨p4, c4, rfl, hs, hE1, hf, o1⟩ := h
          have r1 := hs.tr r1
          have r2 := hs.tr r2
          have x2 := x2.keep hf ((hE.off 0 1 rfl rfl (by decide)) _ rfl)
          have x1 := x1.keep hf ((hE.off 0 2 rfl rfl (by decide)) _ rfl)
          have hE := hE1
          refine go1 ha rfl (d_assign ha rfl) fun a ha => ?_
          refine nil_ ?_
          refine hK14 _ _ ?_
          have ha := ha.to (l' := [(0, _), (2, _), (4, _), (5, _), (6, _)]) rfl
          refine wreg ?_
          refine go1 ha rfl (d_move ha rfl) fun a ha => ?_
          refine go1 ha rfl (d_add ha rfl rfl) fun a ha => ?_
          refine go1 ha rfl (d_assign ha rfl) fun a ha => ?_
          refine nil_ ?_
          exact hK11 k1 _ _ (Nat.lt_succ_self _) ⟨(x3 ++ ([bits .or .u8 (shl .u8 (a0.getD (x4).toNat (0 : Int)) (4 : Int)) (a0.getD (IntKind.i64.wrap (x4 + (1 : Int))).toNat (0 : Int))] : List (Int))), _, _, (IntKind.i64.wrap (x4 + (2 : Int))), ha.to rfl, hE, r1, x1, x2, o1, hF⟩
      · refine wcond_f ha rfl (decide_eq_false hc4) ?_
        refine wp_exit ?_
        refine hK9 _ _ ?_
        have ha := ha.to (l' := [(0, _), (2, _), (4, _), (5, _)]) rfl
        refine wp_seq_k (fun K15 hK15 => ?_)
        refine wreg ?_
        refine go1 ha rfl (d_move ha rfl) fun a ha => ?_
        refine go1 ha rfl (d_b2s ha Try.underlying22 Try.underlying5 Try.underlying9 rfl o1.rawNo) fun a ha => ?_
        refine go1 ha rfl (d_fieldAddr (o' := 1) ha rfl Try.underlying29 rfl Try.sizeOf9 rfl) fun a ha => ?_
        refine goR0 ha (d_store (cs := [.int .i64 (IntKind.i64.wrap (a0.getD ((6 : Int)).toNat (0 : Int))), .string (⟨#[]⟩ : ByteArray)]) (vs := [.string (strOf x3)]) ha rfl rfl x2 rfl (by simp [Value.oneCell']) Try.sizeOf9 rfl (Nat.le_of_ble_eq_true rfl)) fun v w11 a h ha => ?_
        obtain ⟨x2, hf⟩ := h
        have hf := hf.blk1
        have hs := hE.stepAt 1 rfl hf
        have r1 := hs.tr r1
        have o1 := o1.keep hf (hE.off 1 0 rfl rfl (by decide)) (fun _ _ h => hs.trK h)
        have x1 := x1.keep hf ((hE.off 1 2 rfl rfl (by decide)) _ rfl)
        have hE := hE.wroteAt 1 rfl hf
        have x2 : Bx w11 b3 29 [.int .i64 (IntKind.i64.wrap (a0.getD ((6 : Int)).toNat (0 : Int))), .string (strOf x3)] := x2
        refine nil_ ?_
        refine hK15 _ _ ?_
        have ha := ha.to (l' := [(0, _), (2, _), (4, _)]) rfl
        refine wp_seq_k (fun K16 hK16 => ?_)
        refine wp_seq_k (fun K17 hK17 => ?_)
        refine wreg ?_
        refine go1 ha rfl (d_loadAgg (cs := [.int .i64 (IntKind.i64.wrap (a0.getD ((6 : Int)).toNat (0 : Int))), .string (strOf x3)]) ha rfl (x2.at_.sub' 0 2 rfl) Try.isAgg29 Try.sizeOf29 rfl) fun a ha => ?_
        obtain ⟨t1, ht1, hF⟩ := bind_elim hF
        refine goR ha rfl (d_call Try.call16 ha (vs := [.agg #[.int .i64 (IntKind.i64.wrap (a0.getD ((6 : Int)).toNat (0 : Int))), .string (strOf x3)]]) rfl (nibble_May_c k (IntKind.i64.wrap (a0.getD ((6 : Int)).toNat (0 : Int))) (strOf x3)  (Av [p2, some ⟨b3, 0, none⟩, some ⟨b1, 0, none⟩] W) _ (Ex.wlt (as0 := []) (rr := []) (ro := [p2, some ⟨b3, 0, none⟩, some ⟨b1, 0, none⟩]) hE hW)  _ ht1)) fun v w12 a h ha => ?_
        obtain ⟨rfl, hC⟩ := h
        have hs : Step [p2, some ⟨b3, 0, none⟩, some ⟨b1, 0, none⟩] [p2, some ⟨b3, 0, none⟩, some ⟨b1, 0, none⟩] w11 w12 := hC.callStep [p2, some ⟨b3, 0, none⟩, some ⟨b1, 0, none⟩]
        have r1 := hs.tr r1
        have o1 := o1.keep hC.fr (Ex.callOff (as0 := []) (rt := [p2, some ⟨b3, 0, none⟩, some ⟨b1, 0, none⟩]) hE (u := p2) (by simp)) (fun _ _ h => hs.trK h)
        have x2 := x2.keep hC.fr ((Ex.callOff (as0 := []) (rt := [p2, some ⟨b3, 0, none⟩, some ⟨b1, 0, none⟩]) hE (u := some ⟨b3, 0, none⟩) (by simp)) _ rfl)
        have x1 := x1.keep hC.fr ((Ex.callOff (as0 := []) (rt := [p2, some ⟨b3, 0, none⟩, some ⟨b1, 0, none⟩]) hE (u := some ⟨b1, 0, none⟩) (by simp)) _ rfl)
        have hE : Ex w (Av [] No) [p2, some ⟨b3, 0, none⟩, some ⟨b1, 0, none⟩] w12 := Ex.call (as0 := []) (rt := [p2, some ⟨b3, 0, none⟩, some ⟨b1, 0, none⟩]) hE hC
        refine go1 ha rfl (d_not ha rfl) fun a ha => ?_
        refine go1 ha rfl (d_move ha rfl) fun a ha => ?_
        rcases cond_elim hF with ⟨hc8, hF⟩ | ⟨hc8, hF⟩
        · refine goOff ha rfl rfl rfl rfl hc8 fun a ha => ?_
          refine goOff ha rfl rfl rfl rfl hc8 fun a ha => ?_
          refine goOff ha rfl rfl rfl rfl hc8 fun a ha => ?_
          refine goOff ha rfl rfl rfl rfl hc8 fun a ha => ?_
          refine goOff ha rfl rfl rfl rfl hc8 fun a ha => ?_
          refine go1 ha rfl (d_pick ha rfl hc8 rfl) fun a ha => ?_
          refine nil_ ?_
          refine hK17 _ _ ?_
          have ha := ha.to (l' := [(2, _), (4, _), (54, _)]) rfl
          refine wcond_t ha rfl rfl ?_
          refine wp_seq_k (fun K18 hK18 => ?_)
          refine wreg ?_
          refine go1 ha rfl (d_build (vs := []) (cs := [.int .i64 (0 : Int), .string (⟨#[]⟩ : ByteArray)]) ha (fun w => run_build w 29 _ _ (by kernel_rfl)) rfl) fun a ha => ?_
          refine goR0 ha (d_store (cs := [.int .i64 (0 : Int), .string (⟨#[]⟩ : ByteArray)]) (vs := [.int .i64 (0 : Int), .string (⟨#[]⟩ : ByteArray)]) ha rfl rfl x1 rfl (by simp [Value.oneCell']) Try.sizeOf29 rfl (Nat.le_of_ble_eq_true rfl)) fun v w13 a h ha => ?_
          obtain ⟨x1, hf⟩ := h
          have hf := hf.blk1
          have hs := hE.stepAt 2 rfl hf
          have r1 := hs.tr r1
          have o1 := o1.keep hf (hE.off 2 0 rfl rfl (by decide)) (fun _ _ h => hs.trK h)
          have x2 := x2.keep hf ((hE.off 2 1 rfl rfl (by decide)) _ rfl)
          have hE := hE.wroteAt 2 rfl hf
          have x1 : Bx w13 b1 29 [.int .i64 (0 : Int), .string (⟨#[]⟩ : ByteArray)] := x1
          refine go1 ha rfl (d_assign ha rfl) fun a ha => ?_
          refine nil_ ?_
          refine hK18 _ _ ?_
          have ha := ha.to (l' := [(2, _), (3, _)]) rfl
          refine wp_ret ?_
          have hs : Step [p2, some ⟨b3, 0, none⟩, some ⟨b1, 0, none⟩] [] w13 w13 := Step.pick _ _ []
          have r1 := hs.tr r1
          have hE : Ex w (Av [] No) [] w13 := hE.pick [] (by decide)
          injection hF with hF
          subst hF
          refine finN ha Try.results21 (.cell rfl (run_loadAgg (x1.at_.sub' 0 2 rfl) Try.isAgg29 Try.sizeOf29 rfl) (.tmp rfl .nil)) (by simp) ?_
          exact ⟨rfl, hE⟩
        · refine goOn1 ha rfl rfl rfl rfl hc8 (d_loadAgg (cs := [.int .i64 (IntKind.i64.wrap (a0.getD ((6 : Int)).toNat (0 : Int))), .string (strOf x3)]) ha rfl (x2.at_.sub' 0 2 rfl) Try.isAgg29 Try.sizeOf29 rfl) fun a ha => ?_
          obtain ⟨t2, ht2, hF⟩ := bind_elim hF
          refine goOnR ha rfl rfl rfl rfl hc8 (d_call Try.call15 ha (vs := [.agg #[.int .i64 (IntKind.i64.wrap (a0.getD ((6 : Int)).toNat (0 : Int))), .string (strOf x3)]]) rfl (nibble_Of_c k (IntKind.i64.wrap (a0.getD ((6 : Int)).toNat (0 : Int))) (strOf x3)  (Av [p2, some ⟨b3, 0, none⟩, some ⟨b1, 0, none⟩] W) _ (Ex.wlt (as0 := []) (rr := []) (ro := [p2, some ⟨b3, 0, none⟩, some ⟨b1, 0, none⟩]) hE hW)  _ ht2)) fun v w14 a h ha => ?_
          obtain ⟨p5, c5, rfl, hC, o3⟩ := h
          have hs : Step [p2, some ⟨b3, 0, none⟩, some ⟨b1, 0, none⟩] [p5, p2, some ⟨b3, 0, none⟩, some ⟨b1, 0, none⟩] w12 w14 := hC.callStep [p2, some ⟨b3, 0, none⟩, some ⟨b1, 0, none⟩]
          have r1 := hs.tr r1
          have o1 := o1.keep hC.fr (Ex.callOff (as0 := []) (rt := [p2, some ⟨b3, 0, none⟩, some ⟨b1, 0, none⟩]) hE (u := p2) (by simp)) (fun _ _ h => hs.trK h)
          have x2 := x2.keep hC.fr ((Ex.callOff (as0 := []) (rt := [p2, some ⟨b3, 0, none⟩, some ⟨b1, 0, none⟩]) hE (u := some ⟨b3, 0, none⟩) (by simp)) _ rfl)
          have x1 := x1.keep hC.fr ((Ex.callOff (as0 := []) (rt := [p2, some ⟨b3, 0, none⟩, some ⟨b1, 0, none⟩]) hE (u := some ⟨b1, 0, none⟩) (by simp)) _ rfl)
          have o3 : Ow (Av [p5, p2, some ⟨b3, 0, none⟩, some ⟨b1, 0, none⟩] W) w14 5 (Kd.int .u8) p5 c5 t2 := o3.alone (Kd.Flat.int _)
          have hE : Ex w (Av [] No) [p5, p2, some ⟨b3, 0, none⟩, some ⟨b1, 0, none⟩] w14 := Ex.call (as0 := []) (rt := [p2, some ⟨b3, 0, none⟩, some ⟨b1, 0, none⟩]) hE hC
          refine goOn1 ha rfl rfl rfl rfl hc8 (d_move ha rfl) fun a ha => ?_
          obtain ⟨t3, ht3, hF⟩ := bind_elim hF
          refine goOnR ha rfl rfl rfl rfl hc8 (d_call Try.call36 ha (vs := [.slice p5 t2.length c5, .slice p1 a0.length c1]) rfl (slices_Equal_byte_byte_c k t2 a0 _ _ _ _ (Av [p2, some ⟨b3, 0, none⟩, some ⟨b1, 0, none⟩] W) _ (Ex.wlt (as0 := []) (rr := [p5]) (ro := [p2, some ⟨b3, 0, none⟩, some ⟨b1, 0, none⟩]) hE hW) (Ow.argR (as0 := []) (rr := [p5]) (ro := [p2, some ⟨b3, 0, none⟩, some ⟨b1, 0, none⟩]) o3 hE hW hW0 (by simp)) (Raw.arg (as0 := []) (rr := [p5]) (ro := [p2, some ⟨b3, 0, none⟩, some ⟨b1, 0, none⟩]) r1 (fun _ h => h)) _ ht3)) fun v w15 a h ha => ?_
          obtain ⟨rfl, hC⟩ := h
          have hs : Step [p5, p2, some ⟨b3, 0, none⟩, some ⟨b1, 0, none⟩] [p5, p2, some ⟨b3, 0, none⟩, some ⟨b1, 0, none⟩] w14 w15 := hC.callStep [p5, p2, some ⟨b3, 0, none⟩, some ⟨b1, 0, none⟩]
          have r1 := hs.tr r1
          have o3 := o3.keep hC.fr (Ex.callOff (as0 := []) (rt := [p5, p2, some ⟨b3, 0, none⟩, some ⟨b1, 0, none⟩]) hE (u := p5) (by simp)) (fun _ _ h => hs.trK h)
          have o1 := o1.keep hC.fr (Ex.callOff (as0 := []) (rt := [p5, p2, some ⟨b3, 0, none⟩, some ⟨b1, 0, none⟩]) hE (u := p2) (by simp)) (fun _ _ h => hs.trK h)
          have x2 := x2.keep hC.fr ((Ex.callOff (as0 := []) (rt := [p5, p2, some ⟨b3, 0, none⟩, some ⟨b1, 0, none⟩]) hE (u := some ⟨b3, 0, none⟩) (by simp)) _ rfl)
          have x1 := x1.keep hC.fr ((Ex.callOff (as0 := []) (rt := [p5, p2, some ⟨b3, 0, none⟩, some ⟨b1, 0, none⟩]) hE (u := some ⟨b1, 0, none⟩) (by simp)) _ rfl)
          have hE : Ex w (Av [] No) [p5, p2, some ⟨b3, 0, none⟩, some ⟨b1, 0, none⟩] w15 := Ex.call (as0 := []) (rt := [p5, p2, some ⟨b3, 0, none⟩, some ⟨b1, 0, none⟩]) hE hC
          refine goOn1 ha rfl rfl rfl rfl hc8 (d_not ha rfl) fun a ha => ?_
          refine go1 ha rfl (d_pickF ha rfl hc8 rfl) fun a ha => ?_
          refine nil_ ?_
          refine hK17 _ _ ?_
          have ha := ha.to (l' := [(2, _), (4, _), (54, _)]) rfl
          rcases cond_elim hF with ⟨hc9, hF⟩ | ⟨hc9, hF⟩
          · refine wcond_t ha rfl hc9 ?_
            refine wp_seq_k (fun K19 hK19 => ?_)
            refine wreg ?_
            refine go1 ha rfl (d_build (vs := []) (cs := [.int .i64 (0 : Int), .string (⟨#[]⟩ : ByteArray)]) ha (fun w => run_build w 29 _ _ (by kernel_rfl)) rfl) fun a ha => ?_
            refine goR0 ha (d_store (cs := [.int .i64 (0 : Int), .string (⟨#[]⟩ : ByteArray)]) (vs := [.int .i64 (0 : Int), .string (⟨#[]⟩ : ByteArray)]) ha rfl rfl x1 rfl (by simp [Value.oneCell']) Try.sizeOf29 rfl (Nat.le_of_ble_eq_true rfl)) fun v w16 a h ha => ?_
            obtain ⟨x1, hf⟩ := h
            have hf := hf.blk1
            have hs := hE.stepAt 3 rfl hf
            have r1 := hs.tr r1
            have o3 := o3.keep hf (hE.off 3 0 rfl rfl (by decide)) (fun _ _ h => hs.trK h)
            have o1 := o1.keep hf (hE.off 3 1 rfl rfl (by decide)) (fun _ _ h => hs.trK h)
            have x2 := x2.keep hf ((hE.off 3 2 rfl rfl (by decide)) _ rfl)
            have hE := hE.wroteAt 3 rfl hf
            have x1 : Bx w16 b1 29 [.int .i64 (0 : Int), .string (⟨#[]⟩ : ByteArray)] := x1
            refine go1 ha rfl (d_assign ha rfl) fun a ha => ?_
            refine nil_ ?_
            refine hK19 _ _ ?_
            have ha := ha.to (l' := [(2, _), (3, _)]) rfl
            refine wp_ret ?_
            have hs : Step [p5, p2, some ⟨b3, 0, none⟩, some ⟨b1, 0, none⟩] [] w16 w16 := Step.pick _ _ []
            have r1 := hs.tr r1
            have hE : Ex w (Av [] No) [] w16 := hE.pick [] (by decide)
            injection hF with hF
            subst hF
            refine finN ha Try.results21 (.cell rfl (run_loadAgg (x1.at_.sub' 0 2 rfl) Try.isAgg29 Try.sizeOf29 rfl) (.tmp rfl .nil)) (by simp) ?_
            exact ⟨rfl, hE⟩
          · refine wcond_f ha rfl hc9 ?_
            refine wp_skip ?_
            refine hK16 _ _ ?_
            have ha := ha.to (l' := [(2, _), (4, _)]) rfl
            refine wp_seq_k (fun K20 hK20 => ?_)
            refine wreg ?_
            refine go1 ha rfl (d_loadAgg (cs := [.int .i64 (IntKind.i64.wrap (a0.getD ((6 : Int)).toNat (0 : Int))), .string (strOf x3)]) ha rfl (x2.at_.sub' 0 2 rfl) Try.isAgg29 Try.sizeOf29 rfl) fun a ha => ?_
            refine goR0 ha (d_store (cs := [.int .i64 (0 : Int), .string (⟨#[]⟩ : ByteArray)]) (vs := [.int .i64 (IntKind.i64.wrap (a0.getD ((6 : Int)).toNat (0 : Int))), .string (strOf x3)]) ha rfl rfl x1 rfl (by simp [Value.oneCell']) Try.sizeOf29 rfl (Nat.le_of_ble_eq_true rfl)) fun v w17 a h ha => ?_
            obtain ⟨x1, hf⟩ := h
            have hf := hf.blk1
            have hs := hE.stepAt 3 rfl hf
            have r1 := hs.tr r1
            have o3 := o3.keep hf (hE.off 3 0 rfl rfl (by decide)) (fun _ _ h => hs.trK h)
            have o1 := o1.keep hf (hE.off 3 1 rfl rfl (by decide)) (fun _ _ h => hs.trK h)
            have x2 := x2.keep hf ((hE.off 3 2 rfl rfl (by decide)) _ rfl)
            have hE := hE.wroteAt 3 rfl hf
            have x1 : Bx w17 b1 29 [.int .i64 (IntKind.i64.wrap (a0.getD ((6 : Int)).toNat (0 : Int))), .string (strOf x3)] := x1
            refine go1 ha rfl (d_assign ha rfl) fun a ha => ?_
            refine nil_ ?_
            refine hK20 _ _ ?_
            have ha := ha.to (l' := [(2, _), (3, _)]) rfl
            refine wp_ret ?_
            have hs : Step [p5, p2, some ⟨b3, 0, none⟩, some ⟨b1, 0, none⟩] [] w17 w17 := Step.pick _ _ []
            have r1 := hs.tr r1
            have hE : Ex w (Av [] No) [] w17 := hE.pick [] (by decide)
            injection hF with hF
            subst hF
            refine finN ha Try.results21 (.cell rfl (run_loadAgg (x1.at_.sub' 0 2 rfl) Try.isAgg29 Try.sizeOf29 rfl) (.tmp rfl .nil)) (by simp) ?_
            exact ⟨rfl, hE⟩
  · intro K3 hK3
    refine wp_seq_k (fun K4 hK4 => ?_)
    refine wreg ?_
    refine go1 ha rfl (d_move ha rfl) fun a ha => ?_
    refine go1 ha rfl (d_lenSlice ha Try.underlying22 rfl) fun a ha => ?_
    refine go1 ha rfl (d_lt ha rfl rfl) fun a ha => ?_
    refine go1 ha rfl (d_move ha rfl) fun a ha => ?_
    rcases ite_elim hF with ⟨hc1, hF⟩ | ⟨hc1, hF⟩
    · refine goOff ha rfl rfl rfl rfl (decide_eq_true hc1) fun a ha => ?_
      refine goOff ha rfl rfl rfl rfl (decide_eq_true hc1) fun a ha => ?_
      refine goOff ha rfl rfl rfl rfl (decide_eq_true hc1) fun a ha => ?_
      refine goOff ha rfl rfl rfl rfl (decide_eq_true hc1) fun a ha => ?_
      refine go1 ha rfl (d_pick ha rfl (decide_eq_true hc1) rfl) fun a ha => ?_
      refine nil_ ?_
      refine hK4 _ _ ?_
      have ha := ha.to (l' := [(0, _), (2, _), (15, _)]) rfl
      refine wcond_t ha rfl rfl ?_
      refine wp_seq_k (fun K5 hK5 => ?_)
      refine wreg ?_
      refine go1 ha rfl (d_build (vs := []) (cs := [.int .i64 (0 : Int), .string (⟨#[]⟩ : ByteArray)]) ha (fun w => run_build w 29 _ _ (by kernel_rfl)) rfl) fun a ha => ?_
      refine goR0 ha (d_store (cs := [.int .i64 (0 : Int), .string (⟨#[]⟩ : ByteArray)]) (vs := [.int .i64 (0 : Int), .string (⟨#[]⟩ : ByteArray)]) ha rfl rfl x1 rfl (by simp [Value.oneCell']) Try.sizeOf29 rfl (Nat.le_of_ble_eq_true rfl)) fun v w2 a h ha => ?_
      obtain ⟨x1, hf⟩ := h
      have hf := hf.blk1
      have hs := hE.stepAt 0 rfl hf
      have r1 := hs.tr r1
      have hE := hE.wroteAt 0 rfl hf
      have x1 : Bx w2 b1 29 [.int .i64 (0 : Int), .string (⟨#[]⟩ : ByteArray)] := x1
      refine go1 ha rfl (d_assign ha rfl) fun a ha => ?_
      refine nil_ ?_
      refine hK5 _ _ ?_
      have ha := ha.to (l' := [(2, _), (3, _)]) rfl
      refine wp_ret ?_
      have hs : Step [some ⟨b1, 0, none⟩] [] w2 w2 := Step.pick _ _ []
      have r1 := hs.tr r1
      have hE : Ex w (Av [] No) [] w2 := hE.pick [] (by decide)
      injection hF with hF
      subst hF
      refine finN ha Try.results21 (.cell rfl (run_loadAgg (x1.at_.sub' 0 2 rfl) Try.isAgg29 Try.sizeOf29 rfl) (.tmp rfl .nil)) (by simp) ?_
      exact ⟨rfl, hE⟩
    · refine goOn1 ha rfl rfl rfl rfl (decide_eq_false hc1) (d_move ha rfl) fun a ha => ?_
      refine goOn1 ha rfl rfl rfl rfl (decide_eq_false hc1) (d_lenSlice ha Try.underlying22 rfl) fun a ha => ?_
      refine goOn1 ha rfl rfl rfl rfl (decide_eq_false hc1) (d_rem ha rfl rfl (by decide)) fun a ha => ?_
      refine goOn1 ha rfl rfl rfl rfl (decide_eq_false hc1) (d_eqI ha rfl rfl) fun a ha => ?_
      refine go1 ha rfl (d_pickF ha rfl (decide_eq_false hc1) rfl) fun a ha => ?_
      refine nil_ ?_
      refine hK4 _ _ ?_
      have ha := ha.to (l' := [(0, _), (2, _), (15, _)]) rfl
      rcases ite_elim hF with ⟨hc2, hF⟩ | ⟨hc2, hF⟩
      · refine wcond_t ha rfl (decide_eq_true hc2) ?_
        refine wp_seq_k (fun K6 hK6 => ?_)
        refine wreg ?_
        refine go1 ha rfl (d_build (vs := []) (cs := [.int .i64 (0 : Int), .string (⟨#[]⟩ : ByteArray)]) ha (fun w => run_build w 29 _ _ (by kernel_rfl)) rfl) fun a ha => ?_
        refine goR0 ha (d_store (cs := [.int .i64 (0 : Int), .string (⟨#[]⟩ : ByteArray)]) (vs := [.int .i64 (0 : Int), .string (⟨#[]⟩ : ByteArray)]) ha rfl rfl x1 rfl (by simp [Value.oneCell']) Try.sizeOf29 rfl (Nat.le_of_ble_eq_true rfl)) fun v w3 a h ha => ?_
        obtain ⟨x1, hf⟩ := h
        have hf := hf.blk1
        have hs := hE.stepAt 0 rfl hf
        have r1 := hs.tr r1
        have hE := hE.wroteAt 0 rfl hf
        have x1 : Bx w3 b1 29 [.int .i64 (0 : Int), .string (⟨#[]⟩ : ByteArray)] := x1
        refine go1 ha rfl (d_assign ha rfl) fun a ha => ?_
        refine nil_ ?_
        refine hK6 _ _ ?_
        have ha := ha.to (l' := [(2, _), (3, _)]) rfl
        refine wp_ret ?_
        have hs : Step [some ⟨b1, 0, none⟩] [] w3 w3 := Step.pick _ _ []
        have r1 := hs.tr r1
        have hE : Ex w (Av [] No) [] w3 := hE.pick [] (by decide)
        injection hF with hF
        subst hF
        refine finN ha Try.results21 (.cell rfl (run_loadAgg (x1.at_.sub' 0 2 rfl) Try.isAgg29 Try.sizeOf29 rfl) (.tmp rfl .nil)) (by simp) ?_
        exact ⟨rfl, hE⟩
      · refine wcond_f ha rfl (decide_eq_false hc2) ?_
        refine wp_skip ?_
        exact hK3 _ _ ⟨ha.to rfl, hE, r1, x1, hF⟩

def warderlaw02_NibbleBack_j1 (k : Nat) (a0_0 : Int) (a0_1 : ByteArray) (a1 : Int) (a2 : Int) (x3 : List Int) : Option (Bool) :=
  (ck (0 ≤ IntKind.i64.wrap ((x3.length : Int) - (1 : Int)) ∧ IntKind.i64.wrap ((x3.length : Int) - (1 : Int)) ≤ (x3.length : Int)) ((nibble_Read k (x3.take (IntKind.i64.wrap ((x3.length : Int) - (1 : Int))).toNat)).bind fun t6 => (if t6.2 = (16 : Int) then (ck ((([] : List (Int)).length + x3.length) * 1 ≤ 140737488355328) (ck (((([] : List (Int)) ++ x3).length + ([(0 : Int)] : List (Int)).length) * 1 ≤ 140737488355328) ((nibble_Read k ((([] : List (Int)) ++ x3) ++ ([(0 : Int)] : List (Int)))).bind fun t7 => (if t7.2 = (16 : Int) then (ck ((IntKind.u64.wrap (x3.length : Int)) ≠ 0) (ck (0 ≤ IntKind.i64.wrap ((IntKind.u64.wrap a1).tmod (IntKind.u64.wrap (x3.length : Int))) ∧ IntKind.i64.wrap ((IntKind.u64.wrap a1).tmod (IntKind.u64.wrap (x3.length : Int))) < (x3.length : Int)) (ck (0 ≤ IntKind.i64.wrap ((IntKind.u64.wrap a1).tmod (IntKind.u64.wrap (x3.length : Int))) ∧ IntKind.i64.wrap ((IntKind.u64.wrap a1).tmod (IntKind.u64.wrap (x3.length : Int))) < (x3.length : Int)) ((nibble_Read k (x3.set (IntKind.i64.wrap ((IntKind.u64.wrap a1).tmod (IntKind.u64.wrap (x3.length : Int)))).toNat (IntKind.u8.wrap ((x3.getD (IntKind.i64.wrap ((IntKind.u64.wrap a1).tmod (IntKind.u64.wrap (x3.length : Int)))).toNat (0 : Int)) + a2)))).bind fun t8 => (if a2 = (0 : Int) then (if t8.2 = (0 : Int) then (if t8.1.1 = a0_0 ∧ t8.1.2 = a0_1 then ((warderlaw02_known k ).bind fun t9 => (some t9)) else (if a2 = (0 : Int) then (some false) else (if t8.2 = (16 : Int) then ((warderlaw02_known k ).bind fun t10 => (some t10)) else (if t8.1.1 = a0_0 ∧ t8.1.2 = a0_1 then (some false) else ((warderlaw02_known k ).bind fun t11 => (some t11)))))) else (if a2 = (0 : Int) then (some false) else (if t8.2 = (16 : Int) then ((warderlaw02_known k ).bind fun t12 => (some t12)) else (if t8.1.1 = a0_0 ∧ t8.1.2 = a0_1 then (some false) else ((warderlaw02_known k ).bind fun t13 => (some t13)))))) else (if a2 = (0 : Int) then (some false) else (if t8.2 = (16 : Int) then ((warderlaw02_known k ).bind fun t14 => (some t14)) else (if t8.1.1 = a0_0 ∧ t8.1.2 = a0_1 then (some false) else ((warderlaw02_known k ).bind fun t15 => (some t15)))))))))) else (some false))))) else (some false))))

def warderlaw02_NibbleBack_j0 (k : Nat) (a0_0 : Int) (a0_1 : ByteArray) (a1 : Int) (a2 : Int) : Option (Bool) :=
  ((nibble_Of k a0_0 a0_1).bind fun t4 => ((nibble_Read k t4).bind fun t5 => (if t5.2 = (0 : Int) then (if t5.1.1 = a0_0 ∧ t5.1.2 = a0_1 then (if (t4.length : Int) = (0 : Int) then (some false) else (warderlaw02_NibbleBack_j1 k a0_0 a0_1 a1 a2 t4)) else (some false)) else (some false))))

def warderlaw02_NibbleBack (k : Nat) (a0_0 : Int) (a0_1 : ByteArray) (a1 : Int) (a2 : Int) : Option (Bool) :=
  (if (2000 : Int) < (a0_1.size : Int) then ((warderlaw02_known k ).bind fun t1 => (some t1)) else ((warderref02_May k a0_0 a0_1).bind fun t2 => (bif !t2 then ((warderlaw02_known k ).bind fun t3 => (some t3)) else (warderlaw02_NibbleBack_j0 k a0_0 a0_1 a1 a2))))
end Go.Proofs.Ytmljbiijlljhfaa
