/- Own work. A part of the proof of a law of this seat: this seat's functions, by the machine, and the plain law -/
import Derived.Test.YtmljbiijlljhfaaProg
import Derived.Test.YtmljbiijlljhfaaSb
import Derived.Test.YtmljbiijlljhfaaWg
/- Own work. A part of the proof of a law of this seat: The walk: what each function of the program comes to. -/
open Go Go.RowKit Go.Sx
namespace Go.Proofs.Ytmljbiijlljhfaa
set_option linter.unusedVariables false
set_option linter.unusedSimpArgs false

def nibble_mix_l0 (k : Nat) (a1 : List Int) : Nat → Int → Int → Option (Int)
  | 0, _, _ => none
  | k1 + 1, x1, x2 =>
    (if x2 < (a1.length : Int) then (ck (0 ≤ x2 ∧ x2 < (a1.length : Int)) (nibble_mix_l0 k a1 k1 (IntKind.u64.wrap ((bits .xor .u64 x1 (IntKind.u64.wrap (a1.getD (x2).toNat (0 : Int)))) * (1099511628211 : Int))) (IntKind.i64.wrap (x2 + (1 : Int))))) else (some x1))

def nibble_mix (k : Nat) (a0 : Int) (a1 : List Int) : Option (Int) :=
  (nibble_mix_l0 k a1 k a0 (0 : Int))

set_option maxHeartbeats 4000000 in
set_option maxRecDepth 100000 in
theorem nibble_mix_c (k : Nat) (a0 : Int) (a1 : List Int) (p1 : Option Addr) (c1 : Nat) (W : Nat → Prop) (w : World) (hW : ∀ k, W k → k < w.heap.size) (r1 : Raw (Av [] W) (Kd.int .u8) w.heap p1 c1 a1) (r : Int) (hF : nibble_mix k a0 a1 = some r) :
    Calls Try.prog 35 [.int .u64 a0, .slice p1 a1.length c1].toArray w (Ret fun v w' => v = .int .u64 r ∧ Ex w (Av [] No) [] w') := by
  unfold nibble_mix at hF
  refine enter [(0, .int .u64 a0), (1, .slice p1 a1.length c1)] Try.func35 rfl Try.ntmps35 rfl rfl fun a ha => ?_
  have hE : Ex w (Av [] No) [] w := Ex.refl w _
  have hW0 : ∀ p, some p ∈ ([] : List (Option Addr)) → ¬ W p.block := fun _ h => by cases h
  refine wp_seq_k (fun K1 hK1 => ?_)
  refine wreg ?_
  refine go1 ha rfl (d_assign ha rfl) fun a ha => ?_
  refine nil_ ?_
  refine hK1 _ _ ?_
  have ha := ha.to (l' := [(0, _), (1, _)]) rfl
  refine wp_seq_k (fun K2 hK2 => ?_)
  refine wp_seq_k (fun K3 hK3 => ?_)
  refine wreg ?_
  refine go1 ha rfl (d_move ha rfl) fun a ha => ?_
  refine go1 ha rfl (d_lenSlice ha Try.underlying22 rfl) fun a ha => ?_
  refine go1 ha rfl (d_move ha rfl) fun a ha => ?_
  refine nil_ ?_
  refine hK3 _ _ ?_
  have ha := ha.to (l' := [(0, _), (7, _), (8, _), (9, _)]) rfl
  refine wp_block ?_
  refine wloopJ (fun k' a w1 => ∃ (x1 : Int) (x2 : Int), Has 20 [(0, .int .u64 x1), (7, .slice p1 a1.length c1), (8, .int .i64 (a1.length : Int)), (9, .int .i64 x2)] a ∧ Ex w (Av [] No) [] w1 ∧ Raw (Av [] W) (Kd.int .u8) w1.heap p1 c1 a1 ∧ nibble_mix_l0 k a1 k' x1 x2 = some r) k ⟨a0, (0 : Int), ha.to rfl, hE, r1, hF⟩ ?_
  rintro k1 a w1 ⟨x1, x2, ha, hE, r1, hF⟩ K4 hK4
  cases k1 with
  | zero => cases hF
  | succ k1 =>
    rw [nibble_mix_l0] at hF
    refine wp_seq_k (fun K5 hK5 => ?_)
    refine wreg ?_
    refine go1 ha rfl (d_lt ha rfl rfl) fun a ha => ?_
    refine nil_ ?_
    refine hK5 _ _ ?_
    have ha := ha.to (l' := [(0, _), (7, _), (8, _), (9, _), (10, _)]) rfl
    refine wp_seq_k (fun K6 hK6 => ?_)
    rcases ite_elim hF with ⟨hc1, hF⟩ | ⟨hc1, hF⟩
    · refine wcond_t ha rfl (decide_eq_true hc1) ?_
      refine wp_skip ?_
      refine hK6 _ _ ?_
      have ha := ha.to (l' := [(0, _), (7, _), (8, _), (9, _)]) rfl
      refine wp_seq_k (fun K7 hK7 => ?_)
      refine wp_block ?_
      refine wp_seq_k (fun K8 hK8 => ?_)
      refine wreg ?_
      obtain ⟨hc2, hF⟩ := ck_elim hF
      refine goS ha rfl (d_index (kd := (Kd.int .u8)) ha rfl rfl Try.underlying22 Try.sizeOf5 r1 hc2 (0 : Int)) fun v a h ha => ?_
      obtain ⟨b1, q1, cs1, rfl, _, hk1, at1⟩ := h
      obtain rfl := hk1
      refine go1 ha rfl (d_load ha rfl (at1.cell 0 rfl) Try.isAgg5) fun a ha => ?_
      refine go1 ha rfl (d_assign ha rfl) fun a ha => ?_
      refine nil_ ?_
      refine hK8 _ _ ?_
      have ha := ha.to (l' := [(0, _), (6, _), (7, _), (8, _), (9, _)]) rfl
      refine wreg ?_
      refine go1 ha rfl (d_move ha rfl) fun a ha => ?_
      refine go1 ha rfl (d_move ha rfl) fun a ha => ?_
      refine go1 ha rfl (d_cvt ha Try.underlying5 Try.underlying59 rfl) fun a ha => ?_
      refine go1 ha rfl (d_xor ha rfl rfl) fun a ha => ?_
      refine go1 ha rfl (d_mul ha rfl rfl) fun a ha => ?_
      refine go1 ha rfl (d_assign ha rfl) fun a ha => ?_
      refine nil_ ?_
      refine hK7 _ _ ?_
      have ha := ha.to (l' := [(0, _), (7, _), (8, _), (9, _)]) rfl
      refine wreg ?_
      refine go1 ha rfl (d_add ha rfl rfl) fun a ha => ?_
      refine go1 ha rfl (d_move ha rfl) fun a ha => ?_
      refine nil_ ?_
      exact hK4 k1 _ _ (Nat.lt_succ_self _) ⟨(IntKind.u64.wrap ((bits .xor .u64 x1 (IntKind.u64.wrap (a1.getD (x2).toNat (0 : Int)))) * (1099511628211 : Int))), (IntKind.i64.wrap (x2 + (1 : Int))), ha.to rfl, hE, r1, hF⟩
    · refine wcond_f ha rfl (decide_eq_false hc1) ?_
      refine wp_exit ?_
      refine hK2 _ _ ?_
      have ha := ha.to (l' := [(0, _)]) rfl
      refine wp_seq_k (fun K9 hK9 => ?_)
      refine wreg ?_
      refine go1 ha rfl (d_move ha rfl) fun a ha => ?_
      refine go1 ha rfl (d_assign ha rfl) fun a ha => ?_
      refine nil_ ?_
      refine hK9 _ _ ?_
      have ha := ha.to (l' := [(4, _)]) rfl
      refine wp_ret ?_
      injection hF with hF
      subst hF
      refine fin1 ha Try.results35 rfl ?_
      exact ⟨rfl, hE⟩

def nibble_Hash (k : Nat) (a0_0 : Int) (a0_1 : ByteArray) : Option (Int) :=
  ((nibble_mix k (14695981039346656037 : Int) ([IntKind.u8.wrap a0_0] : List (Int))).bind fun t1 => (ck (a0_1.size ≤ 140737488355328) ((nibble_mix k t1 (bytesOf a0_1)).bind fun t2 => (some (IntKind.u16.wrap (bits .xor .u64 (bits .xor .u64 (bits .xor .u64 (shr .u64 t2 (48 : Int)) (shr .u64 t2 (32 : Int))) (shr .u64 t2 (16 : Int))) t2))))))

set_option maxHeartbeats 4000000 in
set_option maxRecDepth 100000 in
theorem nibble_Hash_c (k : Nat) (a0_0 : Int) (a0_1 : ByteArray)  (W : Nat → Prop) (w : World) (hW : ∀ k, W k → k < w.heap.size) (r : Int) (hF : nibble_Hash k a0_0 a0_1 = some r) :
    Calls Try.prog 18 [.agg #[.int .i64 a0_0, .string a0_1]].toArray w (Ret fun v w' => v = .int .u16 r ∧ Ex w (Av [] No) [] w') := by
  unfold nibble_Hash at hF
  refine enter [(0, .agg #[.int .i64 a0_0, .string a0_1])] Try.func18 rfl Try.ntmps18 rfl rfl fun a ha => ?_
  have hE : Ex w (Av [] No) [] w := Ex.refl w _
  have hW0 : ∀ p, some p ∈ ([] : List (Option Addr)) → ¬ W p.block := fun _ h => by cases h
  refine wp_seq_k (fun K1 hK1 => ?_)
  refine wreg ?_
  refine goR ha rfl (d_box (cs := [.int .i64 a0_0, .string a0_1]) ha rfl rfl) fun v w1 a h ha => ?_
  obtain ⟨b1, rfl, hb, hl, x1, hf⟩ := h
  have hs := Step.addB [] hf hb
  have hE := hE.addB hf hb hl
  refine go1 ha rfl (d_assign ha rfl) fun a ha => ?_
  refine nil_ ?_
  refine hK1 _ _ ?_
  have ha := ha.to (l' := [(1, _)]) rfl
  refine wp_seq_k (fun K2 hK2 => ?_)
  obtain ⟨t1, ht1, hF⟩ := bind_elim hF
  obtain ⟨hc1, hF⟩ := ck_elim hF
  refine drawnC 1 (by kernel_rfl) 8 (by decide) rfl (fun b a wI => HasB 24 [(1, .pointer (some ⟨b1, 0, none⟩))] [(0, 4, .pointer (some ⟨b1, 0, none⟩)), (1, 5, .int .i64 a0_0), (2, 6, .int .u8 (IntKind.u8.wrap a0_0)), (4, 8, .int .u64 t1), (5, 9, .pointer (some ⟨b1, 1, none⟩)), (6, 10, .string a0_1)] b a ∧ Ex w (Av [] No) [some ⟨b1, 0, none⟩] wI ∧ Fr w1 wI No ∧ Bx wI b1 29 [.int .i64 a0_0, .string a0_1] ∧ Sl b a 3 7 (fun v => ∃ (p1 : Option Addr) (c1 : Nat), v = .slice p1 ([IntKind.u8.wrap a0_0] : List (Int)).length c1 ∧ Raw (Av [some ⟨b1, 0, none⟩] (Old w)) (Kd.int .u8) wI.heap p1 c1 ([IntKind.u8.wrap a0_0] : List (Int))) ∧ Sl b a 7 11 (fun v => ∃ (p2 : Option Addr) (c2 : Nat), v = .slice p2 (bytesOf a0_1).length c2 ∧ Raw (Av [some ⟨b1, 0, none⟩] (Old w)) (Kd.int .u8) wI.heap p2 c2 (bytesOf a0_1))) ?_ (EachAt.all0 ?_) ?_
  · exact ⟨HasB.start (ha.to rfl) rfl, hE.drew, (Fr.refl _ No).drew, x1, Sl.start rfl, Sl.start rfl⟩
  · refine (EachAt.cons ?_ (EachAt.cons ?_ (EachAt.cons ?_ (EachAt.cons ?_ (EachAt.cons ?_ (EachAt.cons ?_ (EachAt.cons ?_ (EachAt.cons ?_ EachAt.nil))))))))
    · intro b a wI hI hb hn hc
      obtain ⟨hB, hE, hr, x1, hp3, hp7⟩ := hI
      have ha : Has 24 [(1, .pointer (some ⟨b1, 0, none⟩))] a := hB.get [] (fun _ h => by cases h) _ rfl
      refine DoesG.plain rfl (Does.mono (d_fieldAddr (o' := 0) ha rfl Try.underlying29 rfl Try.sizeOf27 rfl) ?_)
      rintro v wJ ⟨rfl, rfl⟩
      exact ⟨HasB.put hB 0 rfl rfl rfl rfl, hE, hr, x1, hp3.keep rfl rfl (fun _ h => h), hp7.keep rfl rfl (fun _ h => h)⟩
    · intro b a wI hI hb hn hc
      obtain ⟨hB, hE, hr, x1, hp3, hp7⟩ := hI
      have ha : Has 24 [(4, .pointer (some ⟨b1, 0, none⟩))] a := hB.get [0] (List.forall_mem_cons.2 ⟨(hn 0 (mem_needs rfl)), (fun _ h => by cases h)⟩) _ rfl
      refine DoesG.plain rfl (Does.mono (d_load ha rfl (x1.at_.cell 0 rfl) Try.isAgg27) ?_)
      rintro v wJ ⟨rfl, rfl⟩
      exact ⟨HasB.put hB 1 rfl rfl rfl rfl, hE, hr, x1, hp3.keep rfl rfl (fun _ h => h), hp7.keep rfl rfl (fun _ h => h)⟩
    · intro b a wI hI hb hn hc
      obtain ⟨hB, hE, hr, x1, hp3, hp7⟩ := hI
      have ha : Has 24 [(5, .int .i64 a0_0)] a := hB.get [1] (List.forall_mem_cons.2 ⟨(hn 1 (mem_needs rfl)), (fun _ h => by cases h)⟩) _ rfl
      refine DoesG.plain rfl (Does.mono (d_cvt ha Try.underlying27 Try.underlying5 rfl) ?_)
      rintro v wJ ⟨rfl, rfl⟩
      exact ⟨HasB.put hB 2 rfl rfl rfl rfl, hE, hr, x1, hp3.keep rfl rfl (fun _ h => h), hp7.keep rfl rfl (fun _ h => h)⟩
    · intro b a wI hI hb hn hc
      obtain ⟨hB, hE, hr, x1, hp3, hp7⟩ := hI
      have ha : Has 24 [(6, .int .u8 (IntKind.u8.wrap a0_0))] a := hB.get [2] (List.forall_mem_cons.2 ⟨(hn 2 (mem_needs rfl)), (fun _ h => by cases h)⟩) _ rfl
      refine DoesG.plain rfl (Does.mono (d_buildSlice (B := W) (kd := (Kd.int .u8)) (xs := ([IntKind.u8.wrap a0_0] : List (Int))) (vs := [.int .u8 (IntKind.u8.wrap a0_0)]) ha Try.underlying22 Try.sizeOf5 Try.zeroValue5 rfl (Els.cons (c := [.int .u8 (IntKind.u8.wrap a0_0)]) (rfl) Els.nil) (by simp [Value.cells, Kd.int, Kd.scalar, Kd.bool, Kd.str, Kd.pair, Kd.sl]) rfl rfl (by decide) (by decide) hE) ?_)
      intro v w2 h
      obtain ⟨p1, c1, rfl, hs, hE, hf, o1⟩ := h
      have hfr : Fr wI w2 No := hf
      have x1 := x1.stay hf
      have r1 : Raw (Av [some ⟨b1, 0, none⟩] (Old w)) (Kd.int .u8) w2.heap p1 c1 ([IntKind.u8.wrap a0_0] : List (Int)) := o1.freeF (Kd.Flat.int _) hE 0 rfl
      have hs : Step [p1, some ⟨b1, 0, none⟩] [some ⟨b1, 0, none⟩] w2 w2 := Step.pick _ _ [1]
      have hE : Ex w (Av [] No) [some ⟨b1, 0, none⟩] w2 := hE.pick [1] (by decide)
      exact ⟨HasB.putR hB 3 rfl rfl rfl, hE, hr.step hfr (fun _ _ h => h), x1, Sl.new hB.has rfl ⟨_, _, rfl, r1⟩, hp7.keep rfl rfl (fun _ ⟨p2, c2, e, r2⟩ => ⟨_, _, e, r2.step hfr.size (fun k hk _ => hfr.blk k hk id)⟩)⟩
    · intro b a wI hI hb hn hc
      obtain ⟨hB, hE, hr, x1, hp3, hp7⟩ := hI
      have ha : Has 24 [] a := hB.get [] (fun _ h => by cases h) _ rfl
      obtain ⟨p1, c1, hs3, r1⟩ := hp3 (hn 3 (mem_needs rfl))
      have ha := ha.know hs3
      refine DoesG.plain rfl (Does.mono (d_call Try.call35 ha (vs := [.int .u64 (14695981039346656037 : Int), .slice p1 ([IntKind.u8.wrap a0_0] : List (Int)).length c1]) rfl (nibble_mix_c k (14695981039346656037 : Int) ([IntKind.u8.wrap a0_0] : List (Int)) _ _ (Av [some ⟨b1, 0, none⟩] W) _ (Ex.wlt (as0 := []) (rr := []) (ro := [some ⟨b1, 0, none⟩]) hE hW) (Raw.arg (as0 := []) (rr := []) (ro := [some ⟨b1, 0, none⟩]) r1 hW) _ ht1)) ?_)
      intro v w3 h
      obtain ⟨rfl, hC⟩ := h
      have hfr : Fr wI w3 No := hC.fr.mono (fun _ _ h => by rcases h with h | ⟨_, h, _⟩; exact h; cases h)
      have hs : Step [some ⟨b1, 0, none⟩] [some ⟨b1, 0, none⟩] wI w3 := hC.callStep [some ⟨b1, 0, none⟩]
      have r1 := hs.tr r1
      have x1 := x1.keep hC.fr ((Ex.callOff (as0 := []) (rt := [some ⟨b1, 0, none⟩]) hE (u := some ⟨b1, 0, none⟩) (by simp)) _ rfl)
      have hE : Ex w (Av [] No) [some ⟨b1, 0, none⟩] w3 := Ex.call (as0 := []) (rt := [some ⟨b1, 0, none⟩]) hE hC
      exact ⟨HasB.put hB 4 rfl rfl rfl rfl, hE, hr.step hfr (fun _ _ h => h), x1, hp3.keep rfl rfl (fun _ ⟨p1, c1, e, r1⟩ => ⟨_, _, e, r1.step hfr.size (fun k hk _ => hfr.blk k hk id)⟩), hp7.keep rfl rfl (fun _ ⟨p2, c2, e, r2⟩ => ⟨_, _, e, r2.step hfr.size (fun k hk _ => hfr.blk k hk id)⟩)⟩
    · intro b a wI hI hb hn hc
      obtain ⟨hB, hE, hr, x1, hp3, hp7⟩ := hI
      have ha : Has 24 [(1, .pointer (some ⟨b1, 0, none⟩))] a := hB.get [] (fun _ h => by cases h) _ rfl
      refine DoesG.plain rfl (Does.mono (d_fieldAddr (o' := 1) ha rfl Try.underlying29 rfl Try.sizeOf9 rfl) ?_)
      rintro v wJ ⟨rfl, rfl⟩
      exact ⟨HasB.put hB 5 rfl rfl rfl rfl, hE, hr, x1, hp3.keep rfl rfl (fun _ h => h), hp7.keep rfl rfl (fun _ h => h)⟩
    · intro b a wI hI hb hn hc
      obtain ⟨hB, hE, hr, x1, hp3, hp7⟩ := hI
      have ha : Has 24 [(9, .pointer (some ⟨b1, 1, none⟩))] a := hB.get [5] (List.forall_mem_cons.2 ⟨(hn 5 (mem_needs rfl)), (fun _ h => by cases h)⟩) _ rfl
      refine DoesG.plain rfl (Does.mono (d_load ha rfl (x1.at_.cell 1 rfl) Try.isAgg9) ?_)
      rintro v wJ ⟨rfl, rfl⟩
      exact ⟨HasB.put hB 6 rfl rfl rfl rfl, hE, hr, x1, hp3.keep rfl rfl (fun _ h => h), hp7.keep rfl rfl (fun _ h => h)⟩
    · intro b a wI hI hb hn hc
      obtain ⟨hB, hE, hr, x1, hp3, hp7⟩ := hI
      have ha : Has 24 [(10, .string a0_1)] a := hB.get [6] (List.forall_mem_cons.2 ⟨(hn 6 (mem_needs rfl)), (fun _ h => by cases h)⟩) _ rfl
      refine DoesG.plain rfl (Does.mono (d_s2b ha Try.underlying9 Try.underlying22 Try.underlying5 rfl hc1) ?_)
      intro v w4 h
      obtain ⟨p2, c2, rfl, hf, r2⟩ := h
      have hfr : Fr wI w4 No := hf
      have r2 := r2.newF hE
      have hs := Step.more [some ⟨b1, 0, none⟩] hf
      have x1 := x1.stay hf
      have hE := hE.more hf
      exact ⟨HasB.putR hB 7 rfl rfl rfl, hE, hr.step hfr (fun _ _ h => h), x1, hp3.keep rfl rfl (fun _ ⟨p1, c1, e, r1⟩ => ⟨_, _, e, r1.step hfr.size (fun k hk _ => hfr.blk k hk id)⟩), Sl.new hB.has rfl ⟨_, _, rfl, r2⟩⟩
  · intro b a w5 hb hI
    obtain ⟨hB, hE, hr, x1, hp3, hp7⟩ := hI
    have ha : Has 24 [(4, .pointer (some ⟨b1, 0, none⟩)), (5, .int .i64 a0_0), (6, .int .u8 (IntKind.u8.wrap a0_0)), (8, .int .u64 t1), (9, .pointer (some ⟨b1, 1, none⟩)), (10, .string a0_1), (1, .pointer (some ⟨b1, 0, none⟩))] a := hB.get [0, 1, 2, 4, 5, 6] (List.forall_mem_cons.2 ⟨(hb 0 (by decide) (by decide)), (List.forall_mem_cons.2 ⟨(hb 1 (by decide) (by decide)), (List.forall_mem_cons.2 ⟨(hb 2 (by decide) (by decide)), (List.forall_mem_cons.2 ⟨(hb 4 (by decide) (by decide)), (List.forall_mem_cons.2 ⟨(hb 5 (by decide) (by decide)), (List.forall_mem_cons.2 ⟨(hb 6 (by decide) (by decide)), (fun _ h => by cases h)⟩)⟩)⟩)⟩)⟩)⟩) _ rfl
    obtain ⟨p1, c1, hs, r1⟩ := hp3 (hb 3 (by decide) (by decide))
    have ha := ha.know hs
    obtain ⟨p2, c2, hs, r2⟩ := hp7 (hb 7 (by decide) (by decide))
    have ha := ha.know hs
    obtain ⟨t2, ht2, hF⟩ := bind_elim hF
    refine goR ha rfl (d_call Try.call35 ha (vs := [.int .u64 t1, .slice p2 (bytesOf a0_1).length c2]) rfl (nibble_mix_c k t1 (bytesOf a0_1) _ _ (Av [some ⟨b1, 0, none⟩] W) _ (Ex.wlt (as0 := []) (rr := []) (ro := [some ⟨b1, 0, none⟩]) hE hW) (Raw.arg (as0 := []) (rr := []) (ro := [some ⟨b1, 0, none⟩]) r2 hW) _ ht2)) fun v w6 a h ha => ?_
    obtain ⟨rfl, hC⟩ := h
    have hs : Step [some ⟨b1, 0, none⟩] [some ⟨b1, 0, none⟩] w5 w6 := hC.callStep [some ⟨b1, 0, none⟩]
    have r1 := hs.tr r1
    have r2 := hs.tr r2
    have x1 := x1.keep hC.fr ((Ex.callOff (as0 := []) (rt := [some ⟨b1, 0, none⟩]) hE (u := some ⟨b1, 0, none⟩) (by simp)) _ rfl)
    have hE : Ex w (Av [] No) [some ⟨b1, 0, none⟩] w6 := Ex.call (as0 := []) (rt := [some ⟨b1, 0, none⟩]) hE hC
    refine go1 ha rfl (d_assign ha rfl) fun a ha => ?_
    refine nil_ ?_
    refine hK2 _ _ ?_
    have ha := ha.to (l' := [(3, _)]) rfl
    refine wp_seq_k (fun K3 hK3 => ?_)
    refine wreg ?_
    refine go1 ha rfl (d_move ha rfl) fun a ha => ?_
    refine go1 ha rfl (d_shr ha rfl rfl (by decide)) fun a ha => ?_
    refine go1 ha rfl (d_move ha rfl) fun a ha => ?_
    refine go1 ha rfl (d_shr ha rfl rfl (by decide)) fun a ha => ?_
    refine go1 ha rfl (d_xor ha rfl rfl) fun a ha => ?_
    refine go1 ha rfl (d_move ha rfl) fun a ha => ?_
    refine go1 ha rfl (d_shr ha rfl rfl (by decide)) fun a ha => ?_
    refine go1 ha rfl (d_xor ha rfl rfl) fun a ha => ?_
    refine go1 ha rfl (d_move ha rfl) fun a ha => ?_
    refine go1 ha rfl (d_xor ha rfl rfl) fun a ha => ?_
    refine go1 ha rfl (d_cvt ha Try.underlying59 Try.underlying32 rfl) fun a ha => ?_
    refine go1 ha rfl (d_assign ha rfl) fun a ha => ?_
    refine nil_ ?_
    refine hK3 _ _ ?_
    have ha := ha.to (l' := [(2, _)]) rfl
    refine wp_ret ?_
    have hs : Step [some ⟨b1, 0, none⟩] [] w6 w6 := Step.pick _ _ []
    have r1 := hs.tr r1
    have r2 := hs.tr r2
    have hE : Ex w (Av [] No) [] w6 := hE.pick [] (by decide)
    injection hF with hF
    subst hF
    refine fin1 ha Try.results18 rfl ?_
    exact ⟨rfl, hE⟩

def nibble_Diff_l0 (k : Nat) (a0 : List Int) (a1 : List Int) : Nat → Int → Option (Int)
  | 0, _ => none
  | k1 + 1, x1 =>
    (if x1 < (if (a1.length : Int) < (a0.length : Int) then (a1.length : Int) else (a0.length : Int)) then (ck (0 ≤ x1 ∧ x1 < (a0.length : Int)) (ck (0 ≤ x1 ∧ x1 < (a1.length : Int)) (if (a0.getD (x1).toNat (0 : Int)) = (a1.getD (x1).toNat (0 : Int)) then (nibble_Diff_l0 k a0 a1 k1 (IntKind.i64.wrap (x1 + (1 : Int)))) else (some x1)))) else (if (a0.length : Int) = (a1.length : Int) then (some (-1 : Int)) else (some (if (a1.length : Int) < (a0.length : Int) then (a1.length : Int) else (a0.length : Int)))))

def nibble_Diff (k : Nat) (a0 : List Int) (a1 : List Int) : Option (Int) :=
  (nibble_Diff_l0 k a0 a1 k (0 : Int))

set_option maxHeartbeats 4000000 in
set_option maxRecDepth 100000 in
theorem nibble_Diff_c (k : Nat) (a0 : List Int) (a1 : List Int) (p1 : Option Addr) (c1 : Nat) (p2 : Option Addr) (c2 : Nat) (W : Nat → Prop) (w : World) (hW : ∀ k, W k → k < w.heap.size) (r1 : Raw (Av [] W) (Kd.int .u8) w.heap p1 c1 a0) (r2 : Raw (Av [] W) (Kd.int .u8) w.heap p2 c2 a1) (r : Int) (hF : nibble_Diff k a0 a1 = some r) :
    Calls Try.prog 11 [.slice p1 a0.length c1, .slice p2 a1.length c2].toArray w (Ret fun v w' => v = .int .i64 r ∧ Ex w (Av [] No) [] w') := by
  unfold nibble_Diff at hF
  refine enter [(0, .slice p1 a0.length c1), (1, .slice p2 a1.length c2)] Try.func11 rfl Try.ntmps11 rfl rfl fun a ha => ?_
  have hE : Ex w (Av [] No) [] w := Ex.refl w _
  have hW0 : ∀ p, some p ∈ ([] : List (Option Addr)) → ¬ W p.block := fun _ h => by cases h
  refine wp_seq_k (fun K1 hK1 => ?_)
  refine wreg ?_
  refine go1 ha rfl (d_assign ha rfl) fun a ha => ?_
  refine nil_ ?_
  refine hK1 _ _ ?_
  have ha := ha.to (l' := [(0, _), (1, _)]) rfl
  refine wp_seq_k (fun K2 hK2 => ?_)
  refine wreg ?_
  refine go1 ha rfl (d_move ha rfl) fun a ha => ?_
  refine go1 ha rfl (d_lenSlice ha Try.underlying22 rfl) fun a ha => ?_
  refine go1 ha rfl (d_move ha rfl) fun a ha => ?_
  refine go1 ha rfl (d_lenSlice ha Try.underlying22 rfl) fun a ha => ?_
  refine go1 ha rfl (d_min ha rfl rfl) fun a ha => ?_
  refine go1 ha rfl (d_assign ha rfl) fun a ha => ?_
  refine nil_ ?_
  refine hK2 _ _ ?_
  have ha := ha.to (l' := [(0, _), (1, _), (5, _)]) rfl
  refine wp_seq_k (fun K3 hK3 => ?_)
  refine wp_seq_k (fun K4 hK4 => ?_)
  refine wreg ?_
  refine go1 ha rfl (d_move ha rfl) fun a ha => ?_
  refine go1 ha rfl (d_move ha rfl) fun a ha => ?_
  refine nil_ ?_
  refine hK4 _ _ ?_
  have ha := ha.to (l' := [(0, _), (1, _), (5, _), (12, _), (13, _)]) rfl
  refine wp_block ?_
  refine wloopJ (fun k' a w1 => ∃ (x1 : Int), Has 33 [(0, .slice p1 a0.length c1), (1, .slice p2 a1.length c2), (5, .int .i64 (if (a1.length : Int) < (a0.length : Int) then (a1.length : Int) else (a0.length : Int))), (12, .int .i64 (if (a1.length : Int) < (a0.length : Int) then (a1.length : Int) else (a0.length : Int))), (13, .int .i64 x1)] a ∧ Ex w (Av [] No) [] w1 ∧ Raw (Av [] W) (Kd.int .u8) w1.heap p1 c1 a0 ∧ Raw (Av [] W) (Kd.int .u8) w1.heap p2 c2 a1 ∧ nibble_Diff_l0 k a0 a1 k' x1 = some r) k ⟨(0 : Int), ha.to rfl, hE, r1, r2, hF⟩ ?_
  rintro k1 a w1 ⟨x1, ha, hE, r1, r2, hF⟩ K5 hK5
  cases k1 with
  | zero => cases hF
  | succ k1 =>
    rw [nibble_Diff_l0] at hF
    refine wp_seq_k (fun K6 hK6 => ?_)
    refine wreg ?_
    refine go1 ha rfl (d_lt ha rfl rfl) fun a ha => ?_
    refine nil_ ?_
    refine hK6 _ _ ?_
    have ha := ha.to (l' := [(0, _), (1, _), (5, _), (12, _), (13, _), (14, _)]) rfl
    refine wp_seq_k (fun K7 hK7 => ?_)
    rcases ite_elim hF with ⟨hc1, hF⟩ | ⟨hc1, hF⟩
    · refine wcond_t ha rfl (decide_eq_true hc1) ?_
      refine wp_skip ?_
      refine hK7 _ _ ?_
      have ha := ha.to (l' := [(0, _), (1, _), (5, _), (12, _), (13, _)]) rfl
      refine wp_seq_k (fun K8 hK8 => ?_)
      refine wp_block ?_
      refine wp_seq_k (fun K9 hK9 => ?_)
      refine wreg ?_
      refine go1 ha rfl (d_move ha rfl) fun a ha => ?_
      refine go1 ha rfl (d_assign ha rfl) fun a ha => ?_
      refine nil_ ?_
      refine hK9 _ _ ?_
      have ha := ha.to (l' := [(0, _), (1, _), (5, _), (6, _), (12, _), (13, _)]) rfl
      refine wp_seq_k (fun K10 hK10 => ?_)
      obtain ⟨hc2, hF⟩ := ck_elim hF
      obtain ⟨hc3, hF⟩ := ck_elim hF
      refine drawnC 5 (by kernel_rfl) 8 (by decide) rfl (fun b a wI => HasB 33 [(0, .slice p1 a0.length c1), (1, .slice p2 a1.length c2), (5, .int .i64 (if (a1.length : Int) < (a0.length : Int) then (a1.length : Int) else (a0.length : Int))), (6, .int .i64 x1), (12, .int .i64 (if (a1.length : Int) < (a0.length : Int) then (a1.length : Int) else (a0.length : Int))), (13, .int .i64 x1)] [(0, 16, .slice p1 a0.length c1), (1, 17, .int .i64 x1), (3, 19, .int .u8 (a0.getD (x1).toNat (0 : Int))), (4, 20, .slice p2 a1.length c2), (5, 21, .int .i64 x1), (7, 23, .int .u8 (a1.getD (x1).toNat (0 : Int)))] b a ∧ Ex w (Av [] No) [] wI ∧ Fr w1 wI No ∧ Raw (Av [] W) (Kd.int .u8) wI.heap p1 c1 a0 ∧ Raw (Av [] W) (Kd.int .u8) wI.heap p2 c2 a1 ∧ Sl b a 2 18 (fun v => ∃ (b1 : Nat) (q1 : Nat) (cs1 : List Value), v = .pointer (some ⟨b1, q1, none⟩) ∧ (Kd.int .u8).K (Av [] W) wI.heap (a0.getD (x1).toNat (0 : Int)) cs1 ∧ At wI b1 q1 cs1) ∧ Sl b a 6 22 (fun v => ∃ (b2 : Nat) (q2 : Nat) (cs2 : List Value), v = .pointer (some ⟨b2, q2, none⟩) ∧ (Kd.int .u8).K (Av [] W) wI.heap (a1.getD (x1).toNat (0 : Int)) cs2 ∧ At wI b2 q2 cs2)) ?_ (EachAt.all0 ?_) ?_
      · exact ⟨HasB.start (ha.to rfl) rfl, hE.drew, (Fr.refl _ No).drew, r1, r2, Sl.start rfl, Sl.start rfl⟩
      · refine (EachAt.cons ?_ (EachAt.cons ?_ (EachAt.cons ?_ (EachAt.cons ?_ (EachAt.cons ?_ (EachAt.cons ?_ (EachAt.cons ?_ (EachAt.cons ?_ EachAt.nil))))))))
        · intro b a wI hI hb hn hc
          obtain ⟨hB, hE, hr, r1, r2, hp2, hp6⟩ := hI
          have ha : Has 33 [(0, .slice p1 a0.length c1)] a := hB.get [] (fun _ h => by cases h) _ rfl
          refine DoesG.plain rfl (Does.mono (d_move ha rfl) ?_)
          rintro v wJ ⟨rfl, rfl⟩
          exact ⟨HasB.put hB 0 rfl rfl rfl rfl, hE, hr, r1, r2, hp2.keep rfl rfl (fun _ h => h), hp6.keep rfl rfl (fun _ h => h)⟩
        · intro b a wI hI hb hn hc
          obtain ⟨hB, hE, hr, r1, r2, hp2, hp6⟩ := hI
          have ha : Has 33 [(6, .int .i64 x1)] a := hB.get [] (fun _ h => by cases h) _ rfl
          refine DoesG.plain rfl (Does.mono (d_move ha rfl) ?_)
          rintro v wJ ⟨rfl, rfl⟩
          exact ⟨HasB.put hB 1 rfl rfl rfl rfl, hE, hr, r1, r2, hp2.keep rfl rfl (fun _ h => h), hp6.keep rfl rfl (fun _ h => h)⟩
        · intro b a wI hI hb hn hc
          obtain ⟨hB, hE, hr, r1, r2, hp2, hp6⟩ := hI
          have ha : Has 33 [(16, .slice p1 a0.length c1), (17, .int .i64 x1)] a := hB.get [0, 1] (List.forall_mem_cons.2 ⟨(hn 0 (mem_needs rfl)), (List.forall_mem_cons.2 ⟨(hn 1 (mem_needs rfl)), (fun _ h => by cases h)⟩)⟩) _ rfl
          refine DoesG.plain rfl (Does.mono (d_index (kd := (Kd.int .u8)) ha rfl rfl Try.underlying22 Try.sizeOf5 r1 hc2 (0 : Int)) ?_)
          rintro v wJ ⟨rfl, h⟩
          obtain ⟨b1, q1, cs1, rfl, _, hk1, at1⟩ := h
          exact ⟨HasB.putR hB 2 rfl rfl rfl, hE, hr, r1, r2, Sl.new hB.has rfl ⟨_, _, _, rfl, hk1, at1⟩, hp6.keep rfl rfl (fun _ h => h)⟩
        · intro b a wI hI hb hn hc
          obtain ⟨hB, hE, hr, r1, r2, hp2, hp6⟩ := hI
          have ha : Has 33 [] a := hB.get [] (fun _ h => by cases h) _ rfl
          obtain ⟨b1, q1, cs1, hs2, hk1, at1⟩ := hp2 (hn 2 (mem_needs rfl))
          have ha := ha.know hs2
          obtain rfl := hk1
          refine DoesG.plain rfl (Does.mono (d_load ha rfl (at1.cell 0 rfl) Try.isAgg5) ?_)
          rintro v wJ ⟨rfl, rfl⟩
          exact ⟨HasB.put hB 3 rfl rfl rfl rfl, hE, hr, r1, r2, hp2.keep rfl rfl (fun _ h => h), hp6.keep rfl rfl (fun _ h => h)⟩
        · intro b a wI hI hb hn hc
          obtain ⟨hB, hE, hr, r1, r2, hp2, hp6⟩ := hI
          have ha : Has 33 [(1, .slice p2 a1.length c2)] a := hB.get [] (fun _ h => by cases h) _ rfl
          refine DoesG.plain rfl (Does.mono (d_move ha rfl) ?_)
          rintro v wJ ⟨rfl, rfl⟩
          exact ⟨HasB.put hB 4 rfl rfl rfl rfl, hE, hr, r1, r2, hp2.keep rfl rfl (fun _ h => h), hp6.keep rfl rfl (fun _ h => h)⟩
        · intro b a wI hI hb hn hc
          obtain ⟨hB, hE, hr, r1, r2, hp2, hp6⟩ := hI
          have ha : Has 33 [(6, .int .i64 x1)] a := hB.get [] (fun _ h => by cases h) _ rfl
          refine DoesG.plain rfl (Does.mono (d_move ha rfl) ?_)
          rintro v wJ ⟨rfl, rfl⟩
          exact ⟨HasB.put hB 5 rfl rfl rfl rfl, hE, hr, r1, r2, hp2.keep rfl rfl (fun _ h => h), hp6.keep rfl rfl (fun _ h => h)⟩
        · intro b a wI hI hb hn hc
          obtain ⟨hB, hE, hr, r1, r2, hp2, hp6⟩ := hI
          have ha : Has 33 [(20, .slice p2 a1.length c2), (21, .int .i64 x1)] a := hB.get [4, 5] (List.forall_mem_cons.2 ⟨(hn 4 (mem_needs rfl)), (List.forall_mem_cons.2 ⟨(hn 5 (mem_needs rfl)), (fun _ h => by cases h)⟩)⟩) _ rfl
          refine DoesG.plain rfl (Does.mono (d_index (kd := (Kd.int .u8)) ha rfl rfl Try.underlying22 Try.sizeOf5 r2 hc3 (0 : Int)) ?_)
          rintro v wJ ⟨rfl, h⟩
          obtain ⟨b2, q2, cs2, rfl, _, hk2, at2⟩ := h
          exact ⟨HasB.putR hB 6 rfl rfl rfl, hE, hr, r1, r2, hp2.keep rfl rfl (fun _ h => h), Sl.new hB.has rfl ⟨_, _, _, rfl, hk2, at2⟩⟩
        · intro b a wI hI hb hn hc
          obtain ⟨hB, hE, hr, r1, r2, hp2, hp6⟩ := hI
          have ha : Has 33 [] a := hB.get [] (fun _ h => by cases h) _ rfl
          obtain ⟨b2, q2, cs2, hs6, hk2, at2⟩ := hp6 (hn 6 (mem_needs rfl))
          have ha := ha.know hs6
          obtain rfl := hk2
          refine DoesG.plain rfl (Does.mono (d_load ha rfl (at2.cell 0 rfl) Try.isAgg5) ?_)
          rintro v wJ ⟨rfl, rfl⟩
          exact ⟨HasB.put hB 7 rfl rfl rfl rfl, hE, hr, r1, r2, hp2.keep rfl rfl (fun _ h => h), hp6.keep rfl rfl (fun _ h => h)⟩
      · intro b a w2 hb hI
        obtain ⟨hB, hE, hr, r1, r2, hp2, hp6⟩ := hI
        have ha : Has 33 [(16, .slice p1 a0.length c1), (17, .int .i64 x1), (19, .int .u8 (a0.getD (x1).toNat (0 : Int))), (20, .slice p2 a1.length c2), (21, .int .i64 x1), (23, .int .u8 (a1.getD (x1).toNat (0 : Int))), (0, .slice p1 a0.length c1), (1, .slice p2 a1.length c2), (5, .int .i64 (if (a1.length : Int) < (a0.length : Int) then (a1.length : Int) else (a0.length : Int))), (6, .int .i64 x1), (12, .int .i64 (if (a1.length : Int) < (a0.length : Int) then (a1.length : Int) else (a0.length : Int))), (13, .int .i64 x1)] a := hB.get [0, 1, 3, 4, 5, 7] (List.forall_mem_cons.2 ⟨(hb 0 (by decide) (by decide)), (List.forall_mem_cons.2 ⟨(hb 1 (by decide) (by decide)), (List.forall_mem_cons.2 ⟨(hb 3 (by decide) (by decide)), (List.forall_mem_cons.2 ⟨(hb 4 (by decide) (by decide)), (List.forall_mem_cons.2 ⟨(hb 5 (by decide) (by decide)), (List.forall_mem_cons.2 ⟨(hb 7 (by decide) (by decide)), (fun _ h => by cases h)⟩)⟩)⟩)⟩)⟩)⟩) _ rfl
        refine go1 ha rfl (d_neI ha rfl rfl) fun a ha => ?_
        refine nil_ ?_
        refine hK10 _ _ ?_
        have ha := ha.to (l' := [(0, _), (1, _), (5, _), (6, _), (12, _), (13, _), (24, _)]) rfl
        rcases ite_elim hF with ⟨hc4, hF⟩ | ⟨hc4, hF⟩
        · refine wcond_f ha rfl (not_t (decide_eq_true hc4)) ?_
          refine wp_skip ?_
          refine hK8 _ _ ?_
          have ha := ha.to (l' := [(0, _), (1, _), (5, _), (12, _), (13, _)]) rfl
          refine wreg ?_
          refine go1 ha rfl (d_add ha rfl rfl) fun a ha => ?_
          refine go1 ha rfl (d_move ha rfl) fun a ha => ?_
          refine nil_ ?_
          exact hK5 k1 _ _ (Nat.lt_succ_self _) ⟨(IntKind.i64.wrap (x1 + (1 : Int))), ha.to rfl, hE, r1, r2, hF⟩
        · refine wcond_t ha rfl (not_f (decide_eq_false hc4)) ?_
          refine wp_seq_k (fun K11 hK11 => ?_)
          refine wreg ?_
          refine go1 ha rfl (d_move ha rfl) fun a ha => ?_
          refine go1 ha rfl (d_assign ha rfl) fun a ha => ?_
          refine nil_ ?_
          refine hK11 _ _ ?_
          have ha := ha.to (l' := [(4, _)]) rfl
          refine wp_ret ?_
          injection hF with hF
          subst hF
          refine fin1 ha Try.results11 rfl ?_
          exact ⟨rfl, hE⟩
    · refine wcond_f ha rfl (decide_eq_false hc1) ?_
      refine wp_exit ?_
      refine hK3 _ _ ?_
      have ha := ha.to (l' := [(0, _), (1, _), (5, _)]) rfl
      refine wp_seq_k (fun K12 hK12 => ?_)
      refine wp_seq_k (fun K13 hK13 => ?_)
      refine wreg ?_
      refine go1 ha rfl (d_move ha rfl) fun a ha => ?_
      refine go1 ha rfl (d_lenSlice ha Try.underlying22 rfl) fun a ha => ?_
      refine go1 ha rfl (d_move ha rfl) fun a ha => ?_
      refine go1 ha rfl (d_lenSlice ha Try.underlying22 rfl) fun a ha => ?_
      refine go1 ha rfl (d_eqI ha rfl rfl) fun a ha => ?_
      refine nil_ ?_
      refine hK13 _ _ ?_
      have ha := ha.to (l' := [(5, _), (31, _)]) rfl
      rcases ite_elim hF with ⟨hc5, hF⟩ | ⟨hc5, hF⟩
      · refine wcond_t ha rfl (decide_eq_true hc5) ?_
        refine wp_seq_k (fun K14 hK14 => ?_)
        refine wreg ?_
        refine go1 ha rfl (d_assign ha rfl) fun a ha => ?_
        refine nil_ ?_
        refine hK14 _ _ ?_
        have ha := ha.to (l' := [(4, _)]) rfl
        refine wp_ret ?_
        injection hF with hF
        subst hF
        refine fin1 ha Try.results11 rfl ?_
        exact ⟨rfl, hE⟩
      · refine wcond_f ha rfl (decide_eq_false hc5) ?_
        refine wp_skip ?_
        refine hK12 _ _ ?_
        have ha := ha.to (l' := [(5, _)]) rfl
        refine wp_seq_k (fun K15 hK15 => ?_)
        refine wreg ?_
        refine go1 ha rfl (d_move ha rfl) fun a ha => ?_
        refine go1 ha rfl (d_assign ha rfl) fun a ha => ?_
        refine nil_ ?_
        refine hK15 _ _ ?_
        have ha := ha.to (l' := [(4, _)]) rfl
        refine wp_ret ?_
        injection hF with hF
        subst hF
        refine fin1 ha Try.results11 rfl ?_
        exact ⟨rfl, hE⟩

def strings_Builder_copyCheck (a0_1 : List Int) : Option ((Unit × (List Int))) :=
  (some ((), a0_1))

set_option maxHeartbeats 4000000 in
set_option maxRecDepth 100000 in
theorem strings_Builder_copyCheck_c (a0_1 : List Int) (b1 : Nat) (q1 : Option Addr) (p1 : Option Addr) (c1 : Nat) (W : Nat → Prop) (w : World) (hE : Ex w (Av [some ⟨b1, 0, none⟩, p1] No) [some ⟨b1, 0, none⟩, p1] w) (hW : ∀ k, W k → k < w.heap.size) (hW0 : ∀ p, some p ∈ ([some ⟨b1, 0, none⟩, p1] : List (Option Addr)) → ¬ W p.block) (hq1 : q1 = none ∨ q1 = some ⟨b1, 0, none⟩) (o1 : Ow (Av [some ⟨b1, 0, none⟩, p1] W) w 5 (Kd.int .u8) p1 c1 a0_1) (x1 : Bx w b1 47 [.pointer q1, .slice p1 a0_1.length c1]) (r : (Unit × (List Int))) (hF : strings_Builder_copyCheck a0_1 = some r) :
    Calls Try.prog 38 [.pointer (some ⟨b1, 0, none⟩)].toArray w (Ret fun v w' => ∃ (u1 : Option Addr) (u2 : Option Addr) (d2 : Nat), v = .tuple #[] ∧ Ex w (Av [some ⟨b1, 0, none⟩, p1] No) [some ⟨b1, 0, none⟩, u2] w' ∧ (u1 = none ∨ u1 = some ⟨b1, 0, none⟩) ∧ Ow (Av [some ⟨b1, 0, none⟩, u2] W) w' 5 (Kd.int .u8) u2 d2 r.2 ∧ Bx w' b1 47 [.pointer u1, .slice u2 r.2.length d2]) := by
  unfold strings_Builder_copyCheck at hF
  refine enter [(0, .pointer (some ⟨b1, 0, none⟩))] Try.func38 rfl Try.ntmps38 rfl rfl fun a ha => ?_
  rcases hq1 with rfl | rfl
  · refine wp_seq_k (fun K1 hK1 => ?_)
    refine wreg ?_
    refine go1 ha rfl (d_move ha rfl) fun a ha => ?_
    refine go1 ha rfl (d_nilCheck ha rfl) fun a ha => ?_
    refine go1 ha rfl (d_fieldAddr (o' := 0) ha rfl Try.underlying47 rfl Try.sizeOf45 rfl) fun a ha => ?_
    refine go1 ha rfl (d_load ha rfl (x1.at_.cell 0 rfl) Try.isAgg45) fun a ha => ?_
    refine go1 ha rfl (d_ptrnil_eq ha Try.underlying45 rfl rfl) fun a ha => ?_
    refine nil_ ?_
    refine hK1 _ _ ?_
    have ha := ha.to (l' := [(0, _), (6, _)]) rfl
    refine wcond_t ha rfl rfl ?_
    refine wreg ?_
    refine go1 ha rfl (d_move ha rfl) fun a ha => ?_
    refine go1 ha rfl (d_move ha rfl) fun a ha => ?_
    refine go1 ha rfl (d_toUnsafe (s := 2) ha Try.underlying45 Try.underlying66 (by kernel_rfl) (by decide) rfl x1 (Nat.le_of_ble_eq_true rfl)) fun a ha => ?_
    refine go1 ha rfl (d_noEscape (fn := Try.f42) (by kernel_rfl) (by kernel_rfl) (by kernel_rfl) (by kernel_rfl) (by kernel_rfl) ha rfl) fun a ha => ?_
    refine go1 ha rfl (d_fromUnsafe ha Try.underlying66 Try.underlying45 (by kernel_rfl) rfl x1 (by kernel_rfl)) fun a ha => ?_
    refine go1 ha rfl (d_nilCheck ha rfl) fun a ha => ?_
    refine go1 ha rfl (d_fieldAddr (o' := 0) ha rfl Try.underlying47 rfl Try.sizeOf45 rfl) fun a ha => ?_
    refine goR0 ha (d_store (cs := [.pointer none, .slice p1 a0_1.length c1]) (vs := [.pointer (some ⟨b1, 0, none⟩)]) ha rfl rfl x1 rfl (by simp [Value.oneCell']) Try.sizeOf45 rfl (Nat.le_of_ble_eq_true rfl)) fun v w1 a h ha => ?_
    obtain ⟨x1, hf⟩ := h
    have hf := hf.blk1
    have hs := hE.stepAt 0 rfl hf
    have o1 := o1.keep hf (hE.off 0 1 rfl rfl (by decide)) (fun _ _ h => hs.trK h)
    have hE := hE.wroteAt 0 rfl hf
    have x1 : Bx w1 b1 47 [.pointer (some ⟨b1, 0, none⟩), .slice p1 a0_1.length c1] := x1
    refine nil_ ?_
    injection hF with hF
    subst hF
    refine fin0 ha Try.results38 ?_
    exact ⟨_, _, _, rfl, hE, .inr rfl, o1, x1⟩
  · refine wp_seq_k (fun K1 hK1 => ?_)
    refine wreg ?_
    refine go1 ha rfl (d_move ha rfl) fun a ha => ?_
    refine go1 ha rfl (d_nilCheck ha rfl) fun a ha => ?_
    refine go1 ha rfl (d_fieldAddr (o' := 0) ha rfl Try.underlying47 rfl Try.sizeOf45 rfl) fun a ha => ?_
    refine go1 ha rfl (d_load ha rfl (x1.at_.cell 0 rfl) Try.isAgg45) fun a ha => ?_
    refine go1 ha rfl (d_ptrnil_eq ha Try.underlying45 rfl rfl) fun a ha => ?_
    refine nil_ ?_
    refine hK1 _ _ ?_
    have ha := ha.to (l' := [(0, _), (6, _)]) rfl
    refine wcond_f ha rfl rfl ?_
    refine wp_seq_k (fun K2 hK2 => ?_)
    refine wreg ?_
    refine go1 ha rfl (d_move ha rfl) fun a ha => ?_
    refine go1 ha rfl (d_nilCheck ha rfl) fun a ha => ?_
    refine go1 ha rfl (d_fieldAddr (o' := 0) ha rfl Try.underlying47 rfl Try.sizeOf45 rfl) fun a ha => ?_
    refine go1 ha rfl (d_load ha rfl (x1.at_.cell 0 rfl) Try.isAgg45) fun a ha => ?_
    refine go1 ha rfl (d_move ha rfl) fun a ha => ?_
    refine go1 ha rfl (d_ptrneSelf ha Try.underlying45 (by kernel_rfl) rfl rfl) fun a ha => ?_
    refine nil_ ?_
    refine hK2 _ _ ?_
    have ha := ha.to (l' := [(19, _)]) rfl
    refine wcond_f ha rfl rfl ?_
    refine wp_skip ?_
    injection hF with hF
    subst hF
    refine fin0 ha Try.results38 ?_
    exact ⟨_, _, _, rfl, hE, .inr rfl, o1, x1⟩

def strings_Builder_WriteByte (a0_1 : List Int) (a1 : Int) : Option (Unit × (Unit × (List Int))) :=
  ((strings_Builder_copyCheck a0_1).bind fun t1 => (ck ((t1.2.length + ([a1] : List (Int)).length) * 1 ≤ 140737488355328) (some ((), ((), (t1.2 ++ ([a1] : List (Int))))))))

set_option maxHeartbeats 4000000 in
set_option maxRecDepth 100000 in
theorem strings_Builder_WriteByte_c (a0_1 : List Int) (a1 : Int) (b1 : Nat) (q1 : Option Addr) (p1 : Option Addr) (c1 : Nat) (W : Nat → Prop) (w : World) (hE : Ex w (Av [some ⟨b1, 0, none⟩, p1] No) [some ⟨b1, 0, none⟩, p1] w) (hW : ∀ k, W k → k < w.heap.size) (hW0 : ∀ p, some p ∈ ([some ⟨b1, 0, none⟩, p1] : List (Option Addr)) → ¬ W p.block) (hq1 : q1 = none ∨ q1 = some ⟨b1, 0, none⟩) (o1 : Ow (Av [some ⟨b1, 0, none⟩, p1] W) w 5 (Kd.int .u8) p1 c1 a0_1) (x1 : Bx w b1 47 [.pointer q1, .slice p1 a0_1.length c1]) (r : Unit × (Unit × (List Int))) (hF : strings_Builder_WriteByte a0_1 a1 = some r) :
    Calls Try.prog 26 [.pointer (some ⟨b1, 0, none⟩), .int .u8 a1].toArray w (Ret fun v w' => ∃ (u1 : Option Addr) (u2 : Option Addr) (d2 : Nat), v = Value.nilIface ∧ Ex w (Av [some ⟨b1, 0, none⟩, p1] No) [some ⟨b1, 0, none⟩, u2] w' ∧ (u1 = none ∨ u1 = some ⟨b1, 0, none⟩) ∧ Ow (Av [some ⟨b1, 0, none⟩, u2] W) w' 5 (Kd.int .u8) u2 d2 r.2.2 ∧ Bx w' b1 47 [.pointer u1, .slice u2 r.2.2.length d2]) := by
  unfold strings_Builder_WriteByte at hF
  refine enter [(0, .pointer (some ⟨b1, 0, none⟩)), (1, .int .u8 a1)] Try.func26 rfl Try.ntmps26 rfl rfl fun a ha => ?_
  refine wp_seq_k (fun K1 hK1 => ?_)
  refine wreg ?_
  refine go1 ha rfl (d_assign ha rfl) fun a ha => ?_
  refine nil_ ?_
  refine hK1 _ _ ?_
  have ha := ha.to (l' := [(0, _), (1, _)]) rfl
  refine wp_seq_k (fun K2 hK2 => ?_)
  refine wreg ?_
  refine go1 ha rfl (d_move ha rfl) fun a ha => ?_
  obtain ⟨t1, ht1, hF⟩ := bind_elim hF
  refine goR ha rfl (d_call Try.call38 ha (vs := [.pointer (some ⟨b1, 0, none⟩)]) rfl (strings_Builder_copyCheck_c a0_1 _ _ _ _ (Av [] W) _ (Ex.sub (as0 := [some ⟨b1, 0, none⟩, p1]) (rt := []) hE) (Ex.wlt (as0 := [some ⟨b1, 0, none⟩, p1]) (rr := []) (ro := []) hE hW) (Ex.wsep (as0 := [some ⟨b1, 0, none⟩, p1]) (rr := []) (ro := []) hE hW hW0) hq1 (Ow.arg (as0 := [some ⟨b1, 0, none⟩, p1]) (rr := []) (ro := []) o1) x1 _ ht1)) fun v w1 a h ha => ?_
  obtain ⟨q2, p2, c2, rfl, hC, hq2, o2, x1⟩ := h
  have hs : Step [some ⟨b1, 0, none⟩, p1] [some ⟨b1, 0, none⟩, p2] w w1 := hC.callStep []
  have o2 : Ow (Av [some ⟨b1, 0, none⟩, p2] W) w1 5 (Kd.int .u8) p2 c2 t1.2 := o2.alone (Kd.Flat.int _)
  have hE : Ex w (Av [some ⟨b1, 0, none⟩, p1] No) [some ⟨b1, 0, none⟩, p2] w1 := Ex.call (as0 := [some ⟨b1, 0, none⟩, p1]) (rt := []) hE hC
  refine nil_ ?_
  refine hK2 _ _ ?_
  have ha := ha.to (l' := [(0, _), (1, _)]) rfl
  refine wp_seq_k (fun K3 hK3 => ?_)
  refine wreg ?_
  refine go1 ha rfl (d_move ha rfl) fun a ha => ?_
  refine go1 ha rfl (d_move ha rfl) fun a ha => ?_
  refine go1 ha rfl (d_nilCheck ha rfl) fun a ha => ?_
  refine go1 ha rfl (d_fieldAddr (o' := 1) ha rfl Try.underlying47 rfl Try.sizeOf22 rfl) fun a ha => ?_
  refine go1 ha rfl (d_load ha rfl (x1.at_.cell 1 rfl) Try.isAgg22) fun a ha => ?_
  refine go1 ha rfl (d_move ha rfl) fun a ha => ?_
  refine goR ha rfl (d_buildSlice (B := W) (kd := (Kd.int .u8)) (xs := ([a1] : List (Int))) (vs := [.int .u8 a1]) ha Try.underlying22 Try.sizeOf5 Try.zeroValue5 rfl (Els.cons (c := [.int .u8 a1]) (rfl) Els.nil) (by simp [Value.cells, Kd.int, Kd.scalar, Kd.bool, Kd.str, Kd.pair, Kd.sl]) rfl rfl (by decide) (by decide) hE) fun v w2 a h ha => ?_
  obtain ⟨p3, c3, rfl, hs, hE, hf, o3⟩ := h
  have x1 := x1.stay hf
  have o2 := o2.keep hf (fun _ _ h => h) (fun _ _ h => hs.trK h)
  obtain ⟨hc1, hF⟩ := ck_elim hF
  refine goR ha rfl (d_append (B := W) (kd := (Kd.int .u8)) (zv := .int .u8 (0 : Int)) (bytes := 1) (lf := [p3, some ⟨b1, 0, none⟩]) (rt := []) (fun q => [p3, some ⟨b1, 0, none⟩, q]) (fun _ => rfl) ha Try.underlying22 (by kernel_rfl) rfl (by decide) (by decide) rfl rfl hE o2 o3.rawNo (fun _ _ h => ((Kd.Flat.int _)).eq h) hc1) fun v w3 a h ha => ?_
  obtain ⟨p4, c4, rfl, hs, hE1, hf, o2⟩ := h
  have o3 := o3.keep hf (hE.off 2 0 rfl rfl (by decide)) (fun _ _ h => hs.trK h)
  have x1 := x1.keep hf ((hE.off 2 1 rfl rfl (by decide)) _ rfl)
  have hE := hE1
  refine go1 ha rfl (d_nilCheck ha rfl) fun a ha => ?_
  refine go1 ha rfl (d_fieldAddr (o' := 1) ha rfl Try.underlying47 rfl Try.sizeOf22 rfl) fun a ha => ?_
  refine goR0 ha (d_store (cs := [.pointer q2, .slice p2 t1.2.length c2]) (vs := [.slice p4 (t1.2 ++ ([a1] : List (Int))).length c4]) ha rfl rfl x1 rfl (by simp [Value.oneCell']) Try.sizeOf22 rfl (Nat.le_of_ble_eq_true rfl)) fun v w4 a h ha => ?_
  obtain ⟨x1, hf⟩ := h
  have hf := hf.blk1
  have hs := hE.stepAt 1 rfl hf
  have o3 := o3.keep hf (hE.off 1 0 rfl rfl (by decide)) (fun _ _ h => hs.trK h)
  have o2 := o2.keep hf (hE.off 1 2 rfl rfl (by decide)) (fun _ _ h => hs.trK h)
  have hE := hE.wroteAt 1 rfl hf
  have x1 : Bx w4 b1 47 [.pointer q2, .slice p4 (t1.2 ++ ([a1] : List (Int))).length c4] := x1
  refine nil_ ?_
  refine hK3 _ _ ?_
  have ha := ha.to (l' := []) rfl
  refine wp_seq_k (fun K4 hK4 => ?_)
  refine wreg ?_
  refine go1 ha rfl (d_assign ha rfl) fun a ha => ?_
  refine nil_ ?_
  refine hK4 _ _ ?_
  have ha := ha.to (l' := [(4, _)]) rfl
  refine wp_ret ?_
  have hs : Step [p3, some ⟨b1, 0, none⟩, p4] [some ⟨b1, 0, none⟩, p4] w4 w4 := Step.pick _ _ [1, 2]
  have o2 := o2.keep (Fr.refl _ No) (fun _ _ h => h) (fun _ _ h => hs.trK h)
  have hE : Ex w (Av [some ⟨b1, 0, none⟩, p1] No) [some ⟨b1, 0, none⟩, p4] w4 := hE.pick [1, 2] (by decide)
  injection hF with hF
  subst hF
  refine fin1 ha Try.results26 rfl ?_
  exact ⟨_, _, _, rfl, hE, hq2, o2, x1⟩

def nibble_Text_l0 (k : Nat) (a0 : List Int) : Nat → (List Int) → Int → Option (ByteArray)
  | 0, _, _ => none
  | k1 + 1, x2, x3 =>
    (if x3 < (a0.length : Int) then (ck (0 ≤ x3 ∧ x3 < (a0.length : Int)) (if (IntKind.i64.wrap (a0.getD (x3).toNat (0 : Int))) < (16 : Int) then (ck (0 ≤ (a0.getD (x3).toNat (0 : Int)) ∧ (a0.getD (x3).toNat (0 : Int)) < ((⟨#[48, 49, 50, 51, 52, 53, 54, 55, 56, 57, 97, 98, 99, 100, 101, 102]⟩ : ByteArray).size : Int)) ((strings_Builder_WriteByte x2 ((bytesOf (⟨#[48, 49, 50, 51, 52, 53, 54, 55, 56, 57, 97, 98, 99, 100, 101, 102]⟩ : ByteArray)).getD ((a0.getD (x3).toNat (0 : Int))).toNat 0)).bind fun t1 => (nibble_Text_l0 k a0 k1 t1.2.2 (IntKind.i64.wrap (x3 + (1 : Int)))))) else ((strings_Builder_WriteByte x2 (63 : Int)).bind fun t2 => (nibble_Text_l0 k a0 k1 t2.2.2 (IntKind.i64.wrap (x3 + (1 : Int))))))) else (ck (∀ x ∈ x2, 0 ≤ x ∧ x < 256) (some (strOf x2))))

def nibble_Text (k : Nat) (a0 : List Int) : Option (ByteArray) :=
  (nibble_Text_l0 k a0 k ([] : List (Int)) (0 : Int))

set_option maxHeartbeats 4000000 in
set_option maxRecDepth 100000 in
theorem nibble_Text_c (k : Nat) (a0 : List Int) (p1 : Option Addr) (c1 : Nat) (W : Nat → Prop) (w : World) (hW : ∀ k, W k → k < w.heap.size) (r1 : Raw (Av [] W) (Kd.int .u8) w.heap p1 c1 a0) (r : ByteArray) (hF : nibble_Text k a0 = some r) :
    Calls Try.prog 13 [.slice p1 a0.length c1].toArray w (Ret fun v w' => v = .string r ∧ Ex w (Av [] No) [] w') := by
  unfold nibble_Text at hF
  refine enter [(0, .slice p1 a0.length c1)] Try.func13 rfl Try.ntmps13 rfl rfl fun a ha => ?_
  have r1E := r1
  have hE : Ex w (Av [] No) [] w := Ex.refl w _
  have hW0 : ∀ p, some p ∈ ([] : List (Option Addr)) → ¬ W p.block := fun _ h => by cases h
  refine wp_seq_k (fun K1 hK1 => ?_)
  refine wreg ?_
  refine go1 ha rfl (d_assign ha rfl) fun a ha => ?_
  refine nil_ ?_
  refine hK1 _ _ ?_
  have ha := ha.to (l' := [(0, _)]) rfl
  refine wp_seq_k (fun K2 hK2 => ?_)
  refine wreg ?_
  refine goR ha rfl (d_alloc (cs := [.pointer none, .slice none 0 0]) Try.zeroValue47 rfl) fun v w1 a h ha => ?_
  obtain ⟨b1, rfl, hb, hl, x1, hf⟩ := h
  have hs := Step.addB [] hf hb
  have r1 := hs.tr r1
  have hE := hE.addB hf hb hl
  refine nil_ ?_
  refine hK2 _ _ ?_
  have ha := ha.to (l' := [(0, _), (3, _)]) rfl
  refine wp_seq_k (fun K3 hK3 => ?_)
  refine wp_seq_k (fun K4 hK4 => ?_)
  refine wreg ?_
  refine go1 ha rfl (d_move ha rfl) fun a ha => ?_
  refine go1 ha rfl (d_lenSlice ha Try.underlying22 rfl) fun a ha => ?_
  refine go1 ha rfl (d_move ha rfl) fun a ha => ?_
  refine nil_ ?_
  refine hK4 _ _ ?_
  have ha := ha.to (l' := [(3, _), (7, _), (8, _), (9, _)]) rfl
  refine wp_block ?_
  have hs := Step.add (a := none) [some ⟨b1, 0, none⟩] (Fr.refl w1 No) (fun _ h => by cases h)
  have r1 := hs.tr r1
  have hE : Ex w (Av [] No) [none, some ⟨b1, 0, none⟩] w1 := hE.add (a := none) (Fr.refl w1 No) (fun _ h => by cases h)
  have o4 := Ow.nil (Av [none, some ⟨b1, 0, none⟩] W) w1 5 (Kd.int .u8)
  refine wloopJ (fun k' a w2 => ∃ (q1 : Option Addr) (x2 : List Int) (p2 : Option Addr) (c2 : Nat) (x3 : Int), Has 22 [(3, .pointer (some ⟨b1, 0, none⟩)), (7, .slice p1 a0.length c1), (8, .int .i64 (a0.length : Int)), (9, .int .i64 x3)] a ∧ Ex w (Av [] No) [p2, some ⟨b1, 0, none⟩] w2 ∧ Raw (Av [p2, some ⟨b1, 0, none⟩] W) (Kd.int .u8) w2.heap p1 c1 a0 ∧ Ow (Av [p2, some ⟨b1, 0, none⟩] W) w2 5 (Kd.int .u8) p2 c2 x2 ∧ Bx w2 b1 47 [.pointer q1, .slice p2 x2.length c2] ∧ (q1 = none ∨ q1 = some ⟨b1, 0, none⟩) ∧ nibble_Text_l0 k a0 k' x2 x3 = some r) k ⟨_, ([] : List (Int)), _, _, (0 : Int), ha.to rfl, hE, r1, o4, x1, .inl rfl, hF⟩ ?_
  rintro k1 a w2 ⟨q1, x2, p2, c2, x3, ha, hE, r1, o1, x1, hq1, hF⟩ K5 hK5
  cases k1 with
  | zero => cases hF
  | succ k1 =>
    rw [nibble_Text_l0] at hF
    refine wp_seq_k (fun K6 hK6 => ?_)
    refine wreg ?_
    refine go1 ha rfl (d_lt ha rfl rfl) fun a ha => ?_
    refine nil_ ?_
    refine hK6 _ _ ?_
    have ha := ha.to (l' := [(3, _), (7, _), (8, _), (9, _), (10, _)]) rfl
    refine wp_seq_k (fun K7 hK7 => ?_)
    rcases ite_elim hF with ⟨hc1, hF⟩ | ⟨hc1, hF⟩
    · refine wcond_t ha rfl (decide_eq_true hc1) ?_
      refine wp_skip ?_
      refine hK7 _ _ ?_
      have ha := ha.to (l' := [(3, _), (7, _), (8, _), (9, _)]) rfl
      refine wp_seq_k (fun K8 hK8 => ?_)
      refine wp_block ?_
      refine wp_seq_k (fun K9 hK9 => ?_)
      refine wreg ?_
      obtain ⟨hc2, hF⟩ := ck_elim hF
      refine goS ha rfl (d_index (kd := (Kd.int .u8)) ha rfl rfl Try.underlying22 Try.sizeOf5 r1 hc2 (0 : Int)) fun v a h ha => ?_
      obtain ⟨b2, q2, cs1, rfl, _, hk1, at1⟩ := h
      obtain rfl := hk1
      refine go1 ha rfl (d_load ha rfl (at1.cell 0 rfl) Try.isAgg5) fun a ha => ?_
      refine go1 ha rfl (d_assign ha rfl) fun a ha => ?_
      refine nil_ ?_
      refine hK9 _ _ ?_
      have ha := ha.to (l' := [(3, _), (5, _), (7, _), (8, _), (9, _)]) rfl
      refine wp_seq_k (fun K10 hK10 => ?_)
      refine wreg ?_
      refine go1 ha rfl (d_assign ha rfl) fun a ha => ?_
      refine nil_ ?_
      refine hK10 _ _ ?_
      have ha := ha.to (l' := [(3, _), (5, _), (6, _), (7, _), (8, _), (9, _)]) rfl
      refine wp_seq_k (fun K11 hK11 => ?_)
      refine wp_seq_k (fun K12 hK12 => ?_)
      refine wreg ?_
      refine go1 ha rfl (d_move ha rfl) fun a ha => ?_
      refine go1 ha rfl (d_cvt ha Try.underlying5 Try.underlying3 rfl) fun a ha => ?_
      refine go1 ha rfl (d_lt ha rfl rfl) fun a ha => ?_
      refine nil_ ?_
      refine hK12 _ _ ?_
      have ha := ha.to (l' := [(3, _), (5, _), (6, _), (7, _), (8, _), (9, _), (15, _)]) rfl
      rcases ite_elim hF with ⟨hc3, hF⟩ | ⟨hc3, hF⟩
      · refine wcond_t ha rfl (decide_eq_true hc3) ?_
        refine wreg ?_
        refine go1 ha rfl (d_move ha rfl) fun a ha => ?_
        obtain ⟨hc4, hF⟩ := ck_elim hF
        refine go1 ha rfl (d_strIndex ha Try.underlying9 rfl rfl hc4) fun a ha => ?_
        refine go1 ha rfl (d_assign ha rfl) fun a ha => ?_
        refine nil_ ?_
        refine hK11 _ _ ?_
        have ha := ha.to (l' := [(3, _), (6, _), (7, _), (8, _), (9, _)]) rfl
        refine wreg ?_
        refine go1 ha rfl (d_move ha rfl) fun a ha => ?_
        obtain ⟨t1, ht1, hF⟩ := bind_elim hF
        have hs : Step [p2, some ⟨b1, 0, none⟩] [some ⟨b1, 0, none⟩, p2] w2 w2 := Step.pick _ _ [1, 0]
        have r1 := hs.tr r1
        have o1 := o1.keep (Fr.refl _ No) (fun _ _ h => h) (fun _ _ h => hs.trK h)
        have hE : Ex w (Av [] No) [some ⟨b1, 0, none⟩, p2] w2 := hE.pick [1, 0] (by decide)
        refine goR ha rfl (d_call Try.call26 ha (vs := [.pointer (some ⟨b1, 0, none⟩), .int .u8 ((bytesOf (⟨#[48, 49, 50, 51, 52, 53, 54, 55, 56, 57, 97, 98, 99, 100, 101, 102]⟩ : ByteArray)).getD ((a0.getD (x3).toNat (0 : Int))).toNat 0)]) rfl (strings_Builder_WriteByte_c x2 ((bytesOf (⟨#[48, 49, 50, 51, 52, 53, 54, 55, 56, 57, 97, 98, 99, 100, 101, 102]⟩ : ByteArray)).getD ((a0.getD (x3).toNat (0 : Int))).toNat 0) _ _ _ _ (Av [] W) _ (Ex.sub (as0 := [some ⟨b1, 0, none⟩, p2]) (rt := []) hE) (Ex.wlt (as0 := [some ⟨b1, 0, none⟩, p2]) (rr := []) (ro := []) hE hW) (Ex.wsep (as0 := [some ⟨b1, 0, none⟩, p2]) (rr := []) (ro := []) hE hW hW0) hq1 (Ow.arg (as0 := [some ⟨b1, 0, none⟩, p2]) (rr := []) (ro := []) o1) x1 _ ht1)) fun v w3 a h ha => ?_
        obtain ⟨q3, p3, c3, rfl, hC, hq2, o2, x1⟩ := h
        have hs : Step [some ⟨b1, 0, none⟩, p2] [some ⟨b1, 0, none⟩, p3] w2 w3 := hC.callStep []
        have r1 := hs.tr r1
        have o2 : Ow (Av [some ⟨b1, 0, none⟩, p3] W) w3 5 (Kd.int .u8) p3 c3 t1.2.2 := o2.alone (Kd.Flat.int _)
        have hE : Ex w (Av [] No) [some ⟨b1, 0, none⟩, p3] w3 := Ex.call (as0 := [some ⟨b1, 0, none⟩, p2]) (rt := []) hE hC
        refine nil_ ?_
        refine hK8 _ _ ?_
        have ha := ha.to (l' := [(3, _), (7, _), (8, _), (9, _)]) rfl
        refine wreg ?_
        refine go1 ha rfl (d_add ha rfl rfl) fun a ha => ?_
        refine go1 ha rfl (d_move ha rfl) fun a ha => ?_
        refine nil_ ?_
        have hs : Step [some ⟨b1, 0, none⟩, p3] [p3, some ⟨b1, 0, none⟩] w3 w3 := Step.pick _ _ [1, 0]
        have r1 := hs.tr r1
        have o2 := o2.keep (Fr.refl _ No) (fun _ _ h => h) (fun _ _ h => hs.trK h)
        have hE : Ex w (Av [] No) [p3, some ⟨b1, 0, none⟩] w3 := hE.pick [1, 0] (by decide)
        exact hK5 k1 _ _ (Nat.lt_succ_self _) ⟨_, t1.2.2, _, _, (IntKind.i64.wrap (x3 + (1 : Int))), ha.to rfl, hE, r1, o2, x1, hq2, hF⟩
      · refine wcond_f ha rfl (decide_eq_false hc3) ?_
        refine wp_skip ?_
        refine hK11 _ _ ?_
        have ha := ha.to (l' := [(3, _), (6, _), (7, _), (8, _), (9, _)]) rfl
        refine wreg ?_
        refine go1 ha rfl (d_move ha rfl) fun a ha => ?_
        obtain ⟨t2, ht2, hF⟩ := bind_elim hF
        have hs : Step [p2, some ⟨b1, 0, none⟩] [some ⟨b1, 0, none⟩, p2] w2 w2 := Step.pick _ _ [1, 0]
        have r1 := hs.tr r1
        have o1 := o1.keep (Fr.refl _ No) (fun _ _ h => h) (fun _ _ h => hs.trK h)
        have hE : Ex w (Av [] No) [some ⟨b1, 0, none⟩, p2] w2 := hE.pick [1, 0] (by decide)
        refine goR ha rfl (d_call Try.call26 ha (vs := [.pointer (some ⟨b1, 0, none⟩), .int .u8 (63 : Int)]) rfl (strings_Builder_WriteByte_c x2 (63 : Int) _ _ _ _ (Av [] W) _ (Ex.sub (as0 := [some ⟨b1, 0, none⟩, p2]) (rt := []) hE) (Ex.wlt (as0 := [some ⟨b1, 0, none⟩, p2]) (rr := []) (ro := []) hE hW) (Ex.wsep (as0 := [some ⟨b1, 0, none⟩, p2]) (rr := []) (ro := []) hE hW hW0) hq1 (Ow.arg (as0 := [some ⟨b1, 0, none⟩, p2]) (rr := []) (ro := []) o1) x1 _ ht2)) fun v w4 a h ha => ?_
        obtain ⟨q4, p4, c4, rfl, hC, hq3, o3, x1⟩ := h
        have hs : Step [some ⟨b1, 0, none⟩, p2] [some ⟨b1, 0, none⟩, p4] w2 w4 := hC.callStep []
        have r1 := hs.tr r1
        have o3 : Ow (Av [some ⟨b1, 0, none⟩, p4] W) w4 5 (Kd.int .u8) p4 c4 t2.2.2 := o3.alone (Kd.Flat.int _)
        have hE : Ex w (Av [] No) [some ⟨b1, 0, none⟩, p4] w4 := Ex.call (as0 := [some ⟨b1, 0, none⟩, p2]) (rt := []) hE hC
        refine nil_ ?_
        refine hK8 _ _ ?_
        have ha := ha.to (l' := [(3, _), (7, _), (8, _), (9, _)]) rfl
        refine wreg ?_
        refine go1 ha rfl (d_add ha rfl rfl) fun a ha => ?_
        refine go1 ha rfl (d_move ha rfl) fun a ha => ?_
        refine nil_ ?_
        have hs : Step [some ⟨b1, 0, none⟩, p4] [p4, some ⟨b1, 0, none⟩] w4 w4 := Step.pick _ _ [1, 0]
        have r1 := hs.tr r1
        have o3 := o3.keep (Fr.refl _ No) (fun _ _ h => h) (fun _ _ h => hs.trK h)
        have hE : Ex w (Av [] No) [p4, some ⟨b1, 0, none⟩] w4 := hE.pick [1, 0] (by decide)
        exact hK5 k1 _ _ (Nat.lt_succ_self _) ⟨_, t2.2.2, _, _, (IntKind.i64.wrap (x3 + (1 : Int))), ha.to rfl, hE, r1, o3, x1, hq3, hF⟩
    · refine wcond_f ha rfl (decide_eq_false hc1) ?_
      refine wp_exit ?_
      refine hK3 _ _ ?_
      have ha := ha.to (l' := [(3, _)]) rfl
      refine wp_seq_k (fun K13 hK13 => ?_)
      refine wreg ?_
      obtain ⟨hc5, hF⟩ := ck_elim hF
      refine goR ha rfl (d_call Try.call27 ha (vs := [.pointer (some ⟨b1, 0, none⟩)]) rfl (Try.bd_string (Bd.mk x1 hq1 o1 hE 1 0 rfl rfl (by decide) hc5) hE.fr.size)) fun v w5 a h ha => ?_
      obtain ⟨rfl, hb⟩ := h
      have hE := hE.only no_av hb
      have r1 := r1E.again hE
      refine go1 ha rfl (d_assign ha rfl) fun a ha => ?_
      refine nil_ ?_
      refine hK13 _ _ ?_
      have ha := ha.to (l' := [(2, _)]) rfl
      refine wp_ret ?_
      injection hF with hF
      subst hF
      refine fin1 ha Try.results13 rfl ?_
      exact ⟨rfl, hE⟩

def warderlaw02_known (k : Nat)  : Option (Bool) :=
  ((nibble_Hash k (97 : Int) (⟨#[]⟩ : ByteArray)).bind fun t1 => (if t1 = (6562 : Int) then ((nibble_Hash k (102 : Int) (⟨#[111, 111, 98, 97, 114]⟩ : ByteArray)).bind fun t2 => (if t2 = (21556 : Int) then ((nibble_Diff k ([(1 : Int), (2 : Int), (3 : Int)] : List (Int)) ([(1 : Int), (2 : Int), (4 : Int)] : List (Int))).bind fun t3 => (if t3 = (2 : Int) then ((nibble_Diff k ([(1 : Int), (2 : Int)] : List (Int)) ([(1 : Int), (2 : Int), (4 : Int)] : List (Int))).bind fun t4 => (if t4 = (2 : Int) then ((nibble_Text k ([(10 : Int), (0 : Int), (16 : Int)] : List (Int))).bind fun t5 => (some (decide (t5 = (⟨#[97, 48, 63]⟩ : ByteArray))))) else (some false))) else (some false))) else (some false))) else (some false)))

set_option maxHeartbeats 4000000 in
set_option maxRecDepth 100000 in
theorem warderlaw02_known_c (k : Nat)   (W : Nat → Prop) (w : World) (hW : ∀ k, W k → k < w.heap.size) (r : Bool) (hF : warderlaw02_known k  = some r) :
    Calls Try.prog 10 [].toArray w (Ret fun v w' => v = .bool r ∧ Ex w (Av [] No) [] w') := by
  unfold warderlaw02_known at hF
  refine enter [] Try.func10 rfl Try.ntmps10 rfl rfl fun a ha => ?_
  have hE : Ex w (Av [] No) [] w := Ex.refl w _
  have hW0 : ∀ p, some p ∈ ([] : List (Option Addr)) → ¬ W p.block := fun _ h => by cases h
  refine wp_seq_k (fun K1 hK1 => ?_)
  refine wreg ?_
  refine go1 ha rfl (d_assign ha rfl) fun a ha => ?_
  refine nil_ ?_
  refine hK1 _ _ ?_
  have ha := ha.to (l' := []) rfl
  refine wp_seq_k (fun K2 hK2 => ?_)
  refine wreg ?_
  refine go1 ha rfl (d_build (vs := [(0, .int .i64 (97 : Int))]) (cs := [.int .i64 (97 : Int), .string (⟨#[]⟩ : ByteArray)]) ha (fun w => run_build w 29 _ _ (by kernel_rfl)) rfl) fun a ha => ?_
  obtain ⟨t1, ht1, hF⟩ := bind_elim hF
  refine goR ha rfl (d_call Try.call18 ha (vs := [.agg #[.int .i64 (97 : Int), .string (⟨#[]⟩ : ByteArray)]]) rfl (nibble_Hash_c k (97 : Int) (⟨#[]⟩ : ByteArray)  (Av [] W) _ (Ex.wlt (as0 := []) (rr := []) (ro := []) hE hW)  _ ht1)) fun v w1 a h ha => ?_
  obtain ⟨rfl, hC⟩ := h
  have hs : Step [] [] w w1 := hC.callStep []
  have hE : Ex w (Av [] No) [] w1 := Ex.call (as0 := []) (rt := []) hE hC
  refine go1 ha rfl (d_eqI ha rfl rfl) fun a ha => ?_
  refine go1 ha rfl (d_move ha rfl) fun a ha => ?_
  rcases ite_elim hF with ⟨hc1, hF⟩ | ⟨hc1, hF⟩
  · refine goOn1 ha rfl rfl rfl rfl (decide_eq_true hc1) (d_build (vs := [(0, .int .i64 (102 : Int)), (1, .string (⟨#[111, 111, 98, 97, 114]⟩ : ByteArray))]) (cs := [.int .i64 (102 : Int), .string (⟨#[111, 111, 98, 97, 114]⟩ : ByteArray)]) ha (fun w => run_build w 29 _ _ (by kernel_rfl)) rfl) fun a ha => ?_
    obtain ⟨t2, ht2, hF⟩ := bind_elim hF
    refine goOnR ha rfl rfl rfl rfl (decide_eq_true hc1) (d_call Try.call18 ha (vs := [.agg #[.int .i64 (102 : Int), .string (⟨#[111, 111, 98, 97, 114]⟩ : ByteArray)]]) rfl (nibble_Hash_c k (102 : Int) (⟨#[111, 111, 98, 97, 114]⟩ : ByteArray)  (Av [] W) _ (Ex.wlt (as0 := []) (rr := []) (ro := []) hE hW)  _ ht2)) fun v w2 a h ha => ?_
    obtain ⟨rfl, hC⟩ := h
    have hs : Step [] [] w1 w2 := hC.callStep []
    have hE : Ex w (Av [] No) [] w2 := Ex.call (as0 := []) (rt := []) hE hC
    refine goOn1 ha rfl rfl rfl rfl (decide_eq_true hc1) (d_eqI ha rfl rfl) fun a ha => ?_
    refine go1 ha rfl (d_pick ha rfl (decide_eq_true hc1) rfl) fun a ha => ?_
    refine go1 ha rfl (d_move ha rfl) fun a ha => ?_
    rcases ite_elim hF with ⟨hc2, hF⟩ | ⟨hc2, hF⟩
    · refine goOnR ha rfl rfl rfl rfl (decide_eq_true hc2) (d_buildSlice (B := W) (kd := (Kd.int .u8)) (xs := ([(1 : Int), (2 : Int), (3 : Int)] : List (Int))) (vs := [.int .u8 (1 : Int), .int .u8 (2 : Int), .int .u8 (3 : Int)]) ha Try.underlying22 Try.sizeOf5 Try.zeroValue5 rfl (Els.cons (c := [.int .u8 (1 : Int)]) (rfl) (Els.cons (c := [.int .u8 (2 : Int)]) (rfl) (Els.cons (c := [.int .u8 (3 : Int)]) (rfl) Els.nil))) (by simp [Value.cells, Kd.int, Kd.scalar, Kd.bool, Kd.str, Kd.pair, Kd.sl]) rfl rfl (by decide) (by decide) hE) fun v w3 a h ha => ?_
      obtain ⟨p1, c1, rfl, hs, hE, hf, o1⟩ := h
      refine goOnR ha rfl rfl rfl rfl (decide_eq_true hc2) (d_buildSlice (B := W) (kd := (Kd.int .u8)) (xs := ([(1 : Int), (2 : Int), (4 : Int)] : List (Int))) (vs := [.int .u8 (1 : Int), .int .u8 (2 : Int), .int .u8 (4 : Int)]) ha Try.underlying22 Try.sizeOf5 Try.zeroValue5 rfl (Els.cons (c := [.int .u8 (1 : Int)]) (rfl) (Els.cons (c := [.int .u8 (2 : Int)]) (rfl) (Els.cons (c := [.int .u8 (4 : Int)]) (rfl) Els.nil))) (by simp [Value.cells, Kd.int, Kd.scalar, Kd.bool, Kd.str, Kd.pair, Kd.sl]) rfl rfl (by decide) (by decide) hE) fun v w4 a h ha => ?_
      obtain ⟨p2, c2, rfl, hs, hE, hf, o2⟩ := h
      have o1 := o1.keep hf (fun _ _ h => h) (fun _ _ h => hs.trK h)
      obtain ⟨t3, ht3, hF⟩ := bind_elim hF
      have hs : Step [p2, p1] [p1, p2] w4 w4 := Step.pick _ _ [1, 0]
      have o1 := o1.keep (Fr.refl _ No) (fun _ _ h => h) (fun _ _ h => hs.trK h)
      have o2 := o2.keep (Fr.refl _ No) (fun _ _ h => h) (fun _ _ h => hs.trK h)
      have hE : Ex w (Av [] No) [p1, p2] w4 := hE.pick [1, 0] (by decide)
      refine goOnR ha rfl rfl rfl rfl (decide_eq_true hc2) (d_call Try.call11 ha (vs := [.slice p1 ([(1 : Int), (2 : Int), (3 : Int)] : List (Int)).length c1, .slice p2 ([(1 : Int), (2 : Int), (4 : Int)] : List (Int)).length c2]) rfl (nibble_Diff_c k ([(1 : Int), (2 : Int), (3 : Int)] : List (Int)) ([(1 : Int), (2 : Int), (4 : Int)] : List (Int)) _ _ _ _ (Av [] W) _ (Ex.wlt (as0 := []) (rr := [p1, p2]) (ro := []) hE hW) (Ow.argR (as0 := []) (rr := [p1, p2]) (ro := []) o1 hE hW hW0 (by simp)) (Ow.argR (as0 := []) (rr := [p1, p2]) (ro := []) o2 hE hW hW0 (by simp)) _ ht3)) fun v w5 a h ha => ?_
      obtain ⟨rfl, hC⟩ := h
      have hs : Step [p1, p2] [p1, p2] w4 w5 := hC.callStep [p1, p2]
      have o1 := o1.keep hC.fr (Ex.callOff (as0 := []) (rt := [p1, p2]) hE (u := p1) (by simp)) (fun _ _ h => hs.trK h)
      have o2 := o2.keep hC.fr (Ex.callOff (as0 := []) (rt := [p1, p2]) hE (u := p2) (by simp)) (fun _ _ h => hs.trK h)
      have hE : Ex w (Av [] No) [p1, p2] w5 := Ex.call (as0 := []) (rt := [p1, p2]) hE hC
      refine goOn1 ha rfl rfl rfl rfl (decide_eq_true hc2) (d_eqI ha rfl rfl) fun a ha => ?_
      refine go1 ha rfl (d_pick ha rfl (decide_eq_true hc2) rfl) fun a ha => ?_
      refine go1 ha rfl (d_move ha rfl) fun a ha => ?_
      rcases ite_elim hF with ⟨hc3, hF⟩ | ⟨hc3, hF⟩
      · refine goOnR ha rfl rfl rfl rfl (decide_eq_true hc3) (d_buildSlice (B := W) (kd := (Kd.int .u8)) (xs := ([(1 : Int), (2 : Int)] : List (Int))) (vs := [.int .u8 (1 : Int), .int .u8 (2 : Int)]) ha Try.underlying22 Try.sizeOf5 Try.zeroValue5 rfl (Els.cons (c := [.int .u8 (1 : Int)]) (rfl) (Els.cons (c := [.int .u8 (2 : Int)]) (rfl) Els.nil)) (by simp [Value.cells, Kd.int, Kd.scalar, Kd.bool, Kd.str, Kd.pair, Kd.sl]) rfl rfl (by decide) (by decide) hE) fun v w6 a h ha => ?_
        obtain ⟨p3, c3, rfl, hs, hE, hf, o3⟩ := h
        have o1 := o1.keep hf (fun _ _ h => h) (fun _ _ h => hs.trK h)
        have o2 := o2.keep hf (fun _ _ h => h) (fun _ _ h => hs.trK h)
        refine goOnR ha rfl rfl rfl rfl (decide_eq_true hc3) (d_buildSlice (B := W) (kd := (Kd.int .u8)) (xs := ([(1 : Int), (2 : Int), (4 : Int)] : List (Int))) (vs := [.int .u8 (1 : Int), .int .u8 (2 : Int), .int .u8 (4 : Int)]) ha Try.underlying22 Try.sizeOf5 Try.zeroValue5 rfl (Els.cons (c := [.int .u8 (1 : Int)]) (rfl) (Els.cons (c := [.int .u8 (2 : Int)]) (rfl) (Els.cons (c := [.int .u8 (4 : Int)]) (rfl) Els.nil))) (by simp [Value.cells, Kd.int, Kd.scalar, Kd.bool, Kd.str, Kd.pair, Kd.sl]) rfl rfl (by decide) (by decide) hE) fun v w7 a h ha => ?_
        obtain ⟨p4, c4, rfl, hs, hE, hf, o4⟩ := h
        have o3 := o3.keep hf (fun _ _ h => h) (fun _ _ h => hs.trK h)
        have o1 := o1.keep hf (fun _ _ h => h) (fun _ _ h => hs.trK h)
        have o2 := o2.keep hf (fun _ _ h => h) (fun _ _ h => hs.trK h)
        obtain ⟨t4, ht4, hF⟩ := bind_elim hF
        have hs : Step [p4, p3, p1, p2] [p3, p4, p1, p2] w7 w7 := Step.pick _ _ [1, 0, 2, 3]
        have o3 := o3.keep (Fr.refl _ No) (fun _ _ h => h) (fun _ _ h => hs.trK h)
        have o4 := o4.keep (Fr.refl _ No) (fun _ _ h => h) (fun _ _ h => hs.trK h)
        have o1 := o1.keep (Fr.refl _ No) (fun _ _ h => h) (fun _ _ h => hs.trK h)
        have o2 := o2.keep (Fr.refl _ No) (fun _ _ h => h) (fun _ _ h => hs.trK h)
        have hE : Ex w (Av [] No) [p3, p4, p1, p2] w7 := hE.pick [1, 0, 2, 3] (by decide)
        refine goOnR ha rfl rfl rfl rfl (decide_eq_true hc3) (d_call Try.call11 ha (vs := [.slice p3 ([(1 : Int), (2 : Int)] : List (Int)).length c3, .slice p4 ([(1 : Int), (2 : Int), (4 : Int)] : List (Int)).length c4]) rfl (nibble_Diff_c k ([(1 : Int), (2 : Int)] : List (Int)) ([(1 : Int), (2 : Int), (4 : Int)] : List (Int)) _ _ _ _ (Av [p1, p2] W) _ (Ex.wlt (as0 := []) (rr := [p3, p4]) (ro := [p1, p2]) hE hW) (Ow.argR (as0 := []) (rr := [p3, p4]) (ro := [p1, p2]) o3 hE hW hW0 (by simp)) (Ow.argR (as0 := []) (rr := [p3, p4]) (ro := [p1, p2]) o4 hE hW hW0 (by simp)) _ ht4)) fun v w8 a h ha => ?_
        obtain ⟨rfl, hC⟩ := h
        have hs : Step [p3, p4, p1, p2] [p3, p4, p1, p2] w7 w8 := hC.callStep [p3, p4, p1, p2]
        have o3 := o3.keep hC.fr (Ex.callOff (as0 := []) (rt := [p3, p4, p1, p2]) hE (u := p3) (by simp)) (fun _ _ h => hs.trK h)
        have o4 := o4.keep hC.fr (Ex.callOff (as0 := []) (rt := [p3, p4, p1, p2]) hE (u := p4) (by simp)) (fun _ _ h => hs.trK h)
        have o1 := o1.keep hC.fr (Ex.callOff (as0 := []) (rt := [p3, p4, p1, p2]) hE (u := p1) (by simp)) (fun _ _ h => hs.trK h)
        have o2 := o2.keep hC.fr (Ex.callOff (as0 := []) (rt := [p3, p4, p1, p2]) hE (u := p2) (by simp)) (fun _ _ h => hs.trK h)
        have hE : Ex w (Av [] No) [p3, p4, p1, p2] w8 := Ex.call (as0 := []) (rt := [p3, p4, p1, p2]) hE hC
        refine goOn1 ha rfl rfl rfl rfl (decide_eq_true hc3) (d_eqI ha rfl rfl) fun a ha => ?_
        refine go1 ha rfl (d_pick ha rfl (decide_eq_true hc3) rfl) fun a ha => ?_
        refine go1 ha rfl (d_move ha rfl) fun a ha => ?_
        rcases ite_elim hF with ⟨hc4, hF⟩ | ⟨hc4, hF⟩
        · refine goOnR ha rfl rfl rfl rfl (decide_eq_true hc4) (d_buildSlice (B := W) (kd := (Kd.int .u8)) (xs := ([(10 : Int), (0 : Int), (16 : Int)] : List (Int))) (vs := [.int .u8 (10 : Int), .int .u8 (0 : Int), .int .u8 (16 : Int)]) ha Try.underlying22 Try.sizeOf5 Try.zeroValue5 rfl (Els.cons (c := [.int .u8 (10 : Int)]) (rfl) (Els.cons (c := [.int .u8 (0 : Int)]) (rfl) (Els.cons (c := [.int .u8 (16 : Int)]) (rfl) Els.nil))) (by simp [Value.cells, Kd.int, Kd.scalar, Kd.bool, Kd.str, Kd.pair, Kd.sl]) rfl rfl (by decide) (by decide) hE) fun v w9 a h ha => ?_
          obtain ⟨p5, c5, rfl, hs, hE, hf, o5⟩ := h
          have o3 := o3.keep hf (fun _ _ h => h) (fun _ _ h => hs.trK h)
          have o4 := o4.keep hf (fun _ _ h => h) (fun _ _ h => hs.trK h)
          have o1 := o1.keep hf (fun _ _ h => h) (fun _ _ h => hs.trK h)
          have o2 := o2.keep hf (fun _ _ h => h) (fun _ _ h => hs.trK h)
          obtain ⟨t5, ht5, hF⟩ := bind_elim hF
          refine goOnR ha rfl rfl rfl rfl (decide_eq_true hc4) (d_call Try.call13 ha (vs := [.slice p5 ([(10 : Int), (0 : Int), (16 : Int)] : List (Int)).length c5]) rfl (nibble_Text_c k ([(10 : Int), (0 : Int), (16 : Int)] : List (Int)) _ _ (Av [p3, p4, p1, p2] W) _ (Ex.wlt (as0 := []) (rr := [p5]) (ro := [p3, p4, p1, p2]) hE hW) (Ow.argR (as0 := []) (rr := [p5]) (ro := [p3, p4, p1, p2]) o5 hE hW hW0 (by simp)) _ ht5)) fun v w10 a h ha => ?_
          obtain ⟨rfl, hC⟩ := h
          have hs : Step [p5, p3, p4, p1, p2] [p5, p3, p4, p1, p2] w9 w10 := hC.callStep [p5, p3, p4, p1, p2]
          have o5 := o5.keep hC.fr (Ex.callOff (as0 := []) (rt := [p5, p3, p4, p1, p2]) hE (u := p5) (by simp)) (fun _ _ h => hs.trK h)
          have o3 := o3.keep hC.fr (Ex.callOff (as0 := []) (rt := [p5, p3, p4, p1, p2]) hE (u := p3) (by simp)) (fun _ _ h => hs.trK h)
          have o4 := o4.keep hC.fr (Ex.callOff (as0 := []) (rt := [p5, p3, p4, p1, p2]) hE (u := p4) (by simp)) (fun _ _ h => hs.trK h)
          have o1 := o1.keep hC.fr (Ex.callOff (as0 := []) (rt := [p5, p3, p4, p1, p2]) hE (u := p1) (by simp)) (fun _ _ h => hs.trK h)
          have o2 := o2.keep hC.fr (Ex.callOff (as0 := []) (rt := [p5, p3, p4, p1, p2]) hE (u := p2) (by simp)) (fun _ _ h => hs.trK h)
          have hE : Ex w (Av [] No) [p5, p3, p4, p1, p2] w10 := Ex.call (as0 := []) (rt := [p5, p3, p4, p1, p2]) hE hC
          refine goOn1 ha rfl rfl rfl rfl (decide_eq_true hc4) (d_eqS ha rfl rfl) fun a ha => ?_
          refine go1 ha rfl (d_pick ha rfl (decide_eq_true hc4) rfl) fun a ha => ?_
          refine go1 ha rfl (d_assign ha rfl) fun a ha => ?_
          refine nil_ ?_
          refine hK2 _ _ ?_
          have ha := ha.to (l' := [(0, _)]) rfl
          refine wp_ret ?_
          have hs : Step [p5, p3, p4, p1, p2] [] w10 w10 := Step.pick _ _ []
          have hE : Ex w (Av [] No) [] w10 := hE.pick [] (by decide)
          injection hF with hF
          subst hF
          refine fin1 ha Try.results10 rfl ?_
          exact ⟨rfl, hE⟩
        · refine goOff ha rfl rfl rfl rfl (decide_eq_false hc4) fun a ha => ?_
          refine goOff ha rfl rfl rfl rfl (decide_eq_false hc4) fun a ha => ?_
          refine goOff ha rfl rfl rfl rfl (decide_eq_false hc4) fun a ha => ?_
          refine go1 ha rfl (d_pickF ha rfl (decide_eq_false hc4) rfl) fun a ha => ?_
          refine go1 ha rfl (d_assign ha rfl) fun a ha => ?_
          refine nil_ ?_
          refine hK2 _ _ ?_
          have ha := ha.to (l' := [(0, _)]) rfl
          refine wp_ret ?_
          have hs : Step [p3, p4, p1, p2] [] w8 w8 := Step.pick _ _ []
          have hE : Ex w (Av [] No) [] w8 := hE.pick [] (by decide)
          injection hF with hF
          subst hF
          refine fin1 ha Try.results10 rfl ?_
          exact ⟨rfl, hE⟩
      · refine goOff ha rfl rfl rfl rfl (decide_eq_false hc3) fun a ha => ?_
        refine goOff ha rfl rfl rfl rfl (decide_eq_false hc3) fun a ha => ?_
        refine goOff ha rfl rfl rfl rfl (decide_eq_false hc3) fun a ha => ?_
        refine goOff ha rfl rfl rfl rfl (decide_eq_false hc3) fun a ha => ?_
        refine go1 ha rfl (d_pickF ha rfl (decide_eq_false hc3) rfl) fun a ha => ?_
        refine go1 ha rfl (d_move ha rfl) fun a ha => ?_
        refine goOff ha rfl rfl rfl rfl rfl fun a ha => ?_
        refine goOff ha rfl rfl rfl rfl rfl fun a ha => ?_
        refine goOff ha rfl rfl rfl rfl rfl fun a ha => ?_
        refine go1 ha rfl (d_pickF ha rfl rfl rfl) fun a ha => ?_
        refine go1 ha rfl (d_assign ha rfl) fun a ha => ?_
        refine nil_ ?_
        refine hK2 _ _ ?_
        have ha := ha.to (l' := [(0, _)]) rfl
        refine wp_ret ?_
        have hs : Step [p1, p2] [] w5 w5 := Step.pick _ _ []
        have hE : Ex w (Av [] No) [] w5 := hE.pick [] (by decide)
        injection hF with hF
        subst hF
        refine fin1 ha Try.results10 rfl ?_
        exact ⟨rfl, hE⟩
    · refine goOff ha rfl rfl rfl rfl (decide_eq_false hc2) fun a ha => ?_
      refine goOff ha rfl rfl rfl rfl (decide_eq_false hc2) fun a ha => ?_
      refine goOff ha rfl rfl rfl rfl (decide_eq_false hc2) fun a ha => ?_
      refine goOff ha rfl rfl rfl rfl (decide_eq_false hc2) fun a ha => ?_
      refine go1 ha rfl (d_pickF ha rfl (decide_eq_false hc2) rfl) fun a ha => ?_
      refine go1 ha rfl (d_move ha rfl) fun a ha => ?_
      refine goOff ha rfl rfl rfl rfl rfl fun a ha => ?_
      refine goOff ha rfl rfl rfl rfl rfl fun a ha => ?_
      refine goOff ha rfl rfl rfl rfl rfl fun a ha => ?_
      refine goOff ha rfl rfl rfl rfl rfl fun a ha => ?_
      refine go1 ha rfl (d_pickF ha rfl rfl rfl) fun a ha => ?_
      refine go1 ha rfl (d_move ha rfl) fun a ha => ?_
      refine goOff ha rfl rfl rfl rfl rfl fun a ha => ?_
      refine goOff ha rfl rfl rfl rfl rfl fun a ha => ?_
      refine goOff ha rfl rfl rfl rfl rfl fun a ha => ?_
      refine go1 ha rfl (d_pickF ha rfl rfl rfl) fun a ha => ?_
      refine go1 ha rfl (d_assign ha rfl) fun a ha => ?_
      refine nil_ ?_
      refine hK2 _ _ ?_
      have ha := ha.to (l' := [(0, _)]) rfl
      refine wp_ret ?_
      injection hF with hF
      subst hF
      refine fin1 ha Try.results10 rfl ?_
      exact ⟨rfl, hE⟩
  · refine goOff ha rfl rfl rfl rfl (decide_eq_false hc1) fun a ha => ?_
    refine goOff ha rfl rfl rfl rfl (decide_eq_false hc1) fun a ha => ?_
    refine goOff ha rfl rfl rfl rfl (decide_eq_false hc1) fun a ha => ?_
    refine go1 ha rfl (d_pickF ha rfl (decide_eq_false hc1) rfl) fun a ha => ?_
    refine go1 ha rfl (d_move ha rfl) fun a ha => ?_
    refine goOff ha rfl rfl rfl rfl rfl fun a ha => ?_
    refine goOff ha rfl rfl rfl rfl rfl fun a ha => ?_
    refine goOff ha rfl rfl rfl rfl rfl fun a ha => ?_
    refine goOff ha rfl rfl rfl rfl rfl fun a ha => ?_
    refine go1 ha rfl (d_pickF ha rfl rfl rfl) fun a ha => ?_
    refine go1 ha rfl (d_move ha rfl) fun a ha => ?_
    refine goOff ha rfl rfl rfl rfl rfl fun a ha => ?_
    refine goOff ha rfl rfl rfl rfl rfl fun a ha => ?_
    refine goOff ha rfl rfl rfl rfl rfl fun a ha => ?_
    refine goOff ha rfl rfl rfl rfl rfl fun a ha => ?_
    refine go1 ha rfl (d_pickF ha rfl rfl rfl) fun a ha => ?_
    refine go1 ha rfl (d_move ha rfl) fun a ha => ?_
    refine goOff ha rfl rfl rfl rfl rfl fun a ha => ?_
    refine goOff ha rfl rfl rfl rfl rfl fun a ha => ?_
    refine goOff ha rfl rfl rfl rfl rfl fun a ha => ?_
    refine go1 ha rfl (d_pickF ha rfl rfl rfl) fun a ha => ?_
    refine go1 ha rfl (d_assign ha rfl) fun a ha => ?_
    refine nil_ ?_
    refine hK2 _ _ ?_
    have ha := ha.to (l' := [(0, _)]) rfl
    refine wp_ret ?_
    injection hF with hF
    subst hF
    refine fin1 ha Try.results10 rfl ?_
    exact ⟨rfl, hE⟩

def warderref02_Diff_l0 (k : Nat) (a0 : List Int) (a1 : List Int) : Nat → Int → Option (Int)
  | 0, _ => none
  | k1 + 1, x1 =>
    (if x1 < (a0.length : Int) then (if x1 < (a1.length : Int) then (ck (0 ≤ x1 ∧ x1 < (a0.length : Int)) (ck (0 ≤ x1 ∧ x1 < (a1.length : Int)) (if (a0.getD (x1).toNat (0 : Int)) = (a1.getD (x1).toNat (0 : Int)) then (warderref02_Diff_l0 k a0 a1 k1 (IntKind.i64.wrap (x1 + (1 : Int)))) else (if x1 = (a0.length : Int) then (if x1 = (a1.length : Int) then (some (-1 : Int)) else (some x1)) else (some x1))))) else (if x1 = (a0.length : Int) then (if x1 = (a1.length : Int) then (some (-1 : Int)) else (some x1)) else (some x1))) else (if x1 = (a0.length : Int) then (if x1 = (a1.length : Int) then (some (-1 : Int)) else (some x1)) else (some x1)))

def warderref02_Diff (k : Nat) (a0 : List Int) (a1 : List Int) : Option (Int) :=
  (warderref02_Diff_l0 k a0 a1 k (0 : Int))

set_option maxHeartbeats 4000000 in
set_option maxRecDepth 100000 in
theorem warderref02_Diff_c (k : Nat) (a0 : List Int) (a1 : List Int) (p1 : Option Addr) (c1 : Nat) (p2 : Option Addr) (c2 : Nat) (W : Nat → Prop) (w : World) (hW : ∀ k, W k → k < w.heap.size) (r1 : Raw (Av [] W) (Kd.int .u8) w.heap p1 c1 a0) (r2 : Raw (Av [] W) (Kd.int .u8) w.heap p2 c2 a1) (r : Int) (hF : warderref02_Diff k a0 a1 = some r) :
    Calls Try.prog 12 [.slice p1 a0.length c1, .slice p2 a1.length c2].toArray w (Ret fun v w' => v = .int .i64 r ∧ Ex w (Av [] No) [] w') := by
  unfold warderref02_Diff at hF
  refine enter [(0, .slice p1 a0.length c1), (1, .slice p2 a1.length c2)] Try.func12 rfl Try.ntmps12 rfl rfl fun a ha => ?_
  have hE : Ex w (Av [] No) [] w := Ex.refl w _
  have hW0 : ∀ p, some p ∈ ([] : List (Option Addr)) → ¬ W p.block := fun _ h => by cases h
  refine wp_seq_k (fun K1 hK1 => ?_)
  refine wreg ?_
  refine go1 ha rfl (d_assign ha rfl) fun a ha => ?_
  refine nil_ ?_
  refine hK1 _ _ ?_
  have ha := ha.to (l' := [(0, _), (1, _)]) rfl
  refine wp_seq_k (fun K2 hK2 => ?_)
  refine wreg ?_
  refine go1 ha rfl (d_assign ha rfl) fun a ha => ?_
  refine nil_ ?_
  refine hK2 _ _ ?_
  have ha := ha.to (l' := [(0, _), (1, _), (5, _)]) rfl
  refine wp_seq_k (fun K3 hK3 => ?_)
  refine wp_block ?_
  refine wloopJ (fun k' a w1 => ∃ (x1 : Int), Has 40 [(0, .slice p1 a0.length c1), (1, .slice p2 a1.length c2), (5, .int .i64 x1)] a ∧ Ex w (Av [] No) [] w1 ∧ Raw (Av [] W) (Kd.int .u8) w1.heap p1 c1 a0 ∧ Raw (Av [] W) (Kd.int .u8) w1.heap p2 c2 a1 ∧ warderref02_Diff_l0 k a0 a1 k' x1 = some r) k ⟨(0 : Int), ha.to rfl, hE, r1, r2, hF⟩ ?_
  rintro k1 a w1 ⟨x1, ha, hE, r1, r2, hF⟩ K4 hK4
  cases k1 with
  | zero => cases hF
  | succ k1 =>
    rw [warderref02_Diff_l0] at hF
    refine wp_seq_k (fun K5 hK5 => ?_)
    refine wp_seq_k (fun K6 hK6 => ?_)
    rcases ite_elim hF with ⟨hc1, hF⟩ | ⟨hc1, hF⟩
    · rcases ite_elim hF with ⟨hc2, hF⟩ | ⟨hc2, hF⟩
      · obtain ⟨hc3, hF⟩ := ck_elim hF
        obtain ⟨hc4, hF⟩ := ck_elim hF
        refine drawnC 2 (by kernel_rfl) 19 (by decide) rfl (fun b a wI => HasB 40 [(0, .slice p1 a0.length c1), (1, .slice p2 a1.length c2), (5, .int .i64 x1)] [(0, 6, .int .i64 x1), (1, 7, .slice p1 a0.length c1), (2, 8, .int .i64 (a0.length : Int)), (3, 9, .bool (decide (x1 < (a0.length : Int)))), (4, 10, .bool (decide (x1 < (a0.length : Int)))), (5, 11, .int .i64 x1), (6, 12, .slice p2 a1.length c2), (7, 13, .int .i64 (a1.length : Int)), (8, 14, .bool (decide (x1 < (a1.length : Int)))), (9, 15, .bool (decide (x1 < (a1.length : Int)))), (10, 16, .bool (decide (x1 < (a1.length : Int)))), (11, 17, .slice p1 a0.length c1), (12, 18, .int .i64 x1), (14, 20, .int .u8 (a0.getD (x1).toNat (0 : Int))), (15, 21, .slice p2 a1.length c2), (16, 22, .int .i64 x1), (18, 24, .int .u8 (a1.getD (x1).toNat (0 : Int)))] b a ∧ Ex w (Av [] No) [] wI ∧ Fr w1 wI No ∧ Raw (Av [] W) (Kd.int .u8) wI.heap p1 c1 a0 ∧ Raw (Av [] W) (Kd.int .u8) wI.heap p2 c2 a1 ∧ Sl b a 13 19 (fun v => ∃ (b1 : Nat) (q1 : Nat) (cs1 : List Value), v = .pointer (some ⟨b1, q1, none⟩) ∧ (Kd.int .u8).K (Av [] W) wI.heap (a0.getD (x1).toNat (0 : Int)) cs1 ∧ At wI b1 q1 cs1) ∧ Sl b a 17 23 (fun v => ∃ (b2 : Nat) (q2 : Nat) (cs2 : List Value), v = .pointer (some ⟨b2, q2, none⟩) ∧ (Kd.int .u8).K (Av [] W) wI.heap (a1.getD (x1).toNat (0 : Int)) cs2 ∧ At wI b2 q2 cs2)) ?_ (EachAt.all0 ?_) ?_
        · exact ⟨HasB.start (ha.to rfl) rfl, hE.drew, (Fr.refl _ No).drew, r1, r2, Sl.start rfl, Sl.start rfl⟩
        · refine (EachAt.cons ?_ (EachAt.cons ?_ (EachAt.cons ?_ (EachAt.cons ?_ (EachAt.cons ?_ (EachAt.cons ?_ (EachAt.cons ?_ (EachAt.cons ?_ (EachAt.cons ?_ (EachAt.cons ?_ (EachAt.cons ?_ (EachAt.cons ?_ (EachAt.cons ?_ (EachAt.cons ?_ (EachAt.cons ?_ (EachAt.cons ?_ (EachAt.cons ?_ (EachAt.cons ?_ (EachAt.cons ?_ EachAt.nil)))))))))))))))))))
          · intro b a wI hI hb hn hc
            obtain ⟨hB, hE, hr, r1, r2, hp13, hp17⟩ := hI
            have ha : Has 40 [(5, .int .i64 x1)] a := hB.get [] (fun _ h => by cases h) _ rfl
            refine DoesG.plain rfl (Does.mono (d_move ha rfl) ?_)
            rintro v wJ ⟨rfl, rfl⟩
            exact ⟨HasB.put hB 0 rfl rfl rfl rfl, hE, hr, r1, r2, hp13.keep rfl rfl (fun _ h => h), hp17.keep rfl rfl (fun _ h => h)⟩
          · intro b a wI hI hb hn hc
            obtain ⟨hB, hE, hr, r1, r2, hp13, hp17⟩ := hI
            have ha : Has 40 [(0, .slice p1 a0.length c1)] a := hB.get [] (fun _ h => by cases h) _ rfl
            refine DoesG.plain rfl (Does.mono (d_move ha rfl) ?_)
            rintro v wJ ⟨rfl, rfl⟩
            exact ⟨HasB.put hB 1 rfl rfl rfl rfl, hE, hr, r1, r2, hp13.keep rfl rfl (fun _ h => h), hp17.keep rfl rfl (fun _ h => h)⟩
          · intro b a wI hI hb hn hc
            obtain ⟨hB, hE, hr, r1, r2, hp13, hp17⟩ := hI
            have ha : Has 40 [(7, .slice p1 a0.length c1)] a := hB.get [1] (List.forall_mem_cons.2 ⟨(hn 1 (mem_needs rfl)), (fun _ h => by cases h)⟩) _ rfl
            refine DoesG.plain rfl (Does.mono (d_lenSlice ha Try.underlying22 rfl) ?_)
            rintro v wJ ⟨rfl, rfl⟩
            exact ⟨HasB.put hB 2 rfl rfl rfl rfl, hE, hr, r1, r2, hp13.keep rfl rfl (fun _ h => h), hp17.keep rfl rfl (fun _ h => h)⟩
          · intro b a wI hI hb hn hc
            obtain ⟨hB, hE, hr, r1, r2, hp13, hp17⟩ := hI
            have ha : Has 40 [(6, .int .i64 x1), (8, .int .i64 (a0.length : Int))] a := hB.get [0, 2] (List.forall_mem_cons.2 ⟨(hn 0 (mem_needs rfl)), (List.forall_mem_cons.2 ⟨(hn 2 (mem_needs rfl)), (fun _ h => by cases h)⟩)⟩) _ rfl
            refine DoesG.plain rfl (Does.mono (d_lt ha rfl rfl) ?_)
            rintro v wJ ⟨rfl, rfl⟩
            exact ⟨HasB.put hB 3 rfl rfl rfl rfl, hE, hr, r1, r2, hp13.keep rfl rfl (fun _ h => h), hp17.keep rfl rfl (fun _ h => h)⟩
          · intro b a wI hI hb hn hc
            obtain ⟨hB, hE, hr, r1, r2, hp13, hp17⟩ := hI
            have ha : Has 40 [(9, .bool (decide (x1 < (a0.length : Int))))] a := hB.get [3] (List.forall_mem_cons.2 ⟨(hn 3 (mem_needs rfl)), (fun _ h => by cases h)⟩) _ rfl
            refine DoesG.plain rfl (Does.mono (d_move ha rfl) ?_)
            rintro v wJ ⟨rfl, rfl⟩
            exact ⟨HasB.put hB 4 rfl rfl rfl rfl, hE, hr, r1, r2, hp13.keep rfl rfl (fun _ h => h), hp17.keep rfl rfl (fun _ h => h)⟩
          · intro b a wI hI hb hn hc
            obtain ⟨hB, hE, hr, r1, r2, hp13, hp17⟩ := hI
            have ha : Has 40 [(5, .int .i64 x1), (10, .bool (decide (x1 < (a0.length : Int))))] a := hB.get [4] (List.forall_mem_cons.2 ⟨(hn 4 (mem_needs rfl)), (fun _ h => by cases h)⟩) _ rfl
            refine DoesG.on rfl ha rfl rfl rfl (decide_eq_true hc1) (Does.mono (d_move ha rfl) ?_)
            rintro v wJ ⟨rfl, rfl⟩
            exact ⟨HasB.put hB 5 rfl rfl rfl rfl, hE, hr, r1, r2, hp13.keep rfl rfl (fun _ h => h), hp17.keep rfl rfl (fun _ h => h)⟩
          · intro b a wI hI hb hn hc
            obtain ⟨hB, hE, hr, r1, r2, hp13, hp17⟩ := hI
            have ha : Has 40 [(1, .slice p2 a1.length c2), (10, .bool (decide (x1 < (a0.length : Int))))] a := hB.get [4] (List.forall_mem_cons.2 ⟨(hn 4 (mem_needs rfl)), (fun _ h => by cases h)⟩) _ rfl
            refine DoesG.on rfl ha rfl rfl rfl (decide_eq_true hc1) (Does.mono (d_move ha rfl) ?_)
            rintro v wJ ⟨rfl, rfl⟩
            exact ⟨HasB.put hB 6 rfl rfl rfl rfl, hE, hr, r1, r2, hp13.keep rfl rfl (fun _ h => h), hp17.keep rfl rfl (fun _ h => h)⟩
          · intro b a wI hI hb hn hc
            obtain ⟨hB, hE, hr, r1, r2, hp13, hp17⟩ := hI
            have ha : Has 40 [(10, .bool (decide (x1 < (a0.length : Int)))), (12, .slice p2 a1.length c2)] a := hB.get [4, 6] (List.forall_mem_cons.2 ⟨(hn 4 (mem_needs rfl)), (List.forall_mem_cons.2 ⟨(hn 6 (mem_needs rfl)), (fun _ h => by cases h)⟩)⟩) _ rfl
            refine DoesG.on rfl ha rfl rfl rfl (decide_eq_true hc1) (Does.mono (d_lenSlice ha Try.underlying22 rfl) ?_)
            rintro v wJ ⟨rfl, rfl⟩
            exact ⟨HasB.put hB 7 rfl rfl rfl rfl, hE, hr, r1, r2, hp13.keep rfl rfl (fun _ h => h), hp17.keep rfl rfl (fun _ h => h)⟩
          · intro b a wI hI hb hn hc
            obtain ⟨hB, hE, hr, r1, r2, hp13, hp17⟩ := hI
            have ha : Has 40 [(10, .bool (decide (x1 < (a0.length : Int)))), (11, .int .i64 x1), (13, .int .i64 (a1.length : Int))] a := hB.get [4, 5, 7] (List.forall_mem_cons.2 ⟨(hn 4 (mem_needs rfl)), (List.forall_mem_cons.2 ⟨(hn 5 (mem_needs rfl)), (List.forall_mem_cons.2 ⟨(hn 7 (mem_needs rfl)), (fun _ h => by cases h)⟩)⟩)⟩) _ rfl
            refine DoesG.on rfl ha rfl rfl rfl (decide_eq_true hc1) (Does.mono (d_lt ha rfl rfl) ?_)
            rintro v wJ ⟨rfl, rfl⟩
            exact ⟨HasB.put hB 8 rfl rfl rfl rfl, hE, hr, r1, r2, hp13.keep rfl rfl (fun _ h => h), hp17.keep rfl rfl (fun _ h => h)⟩
          · intro b a wI hI hb hn hc
            obtain ⟨hB, hE, hr, r1, r2, hp13, hp17⟩ := hI
            have ha : Has 40 [(10, .bool (decide (x1 < (a0.length : Int)))), (14, .bool (decide (x1 < (a1.length : Int))))] a := hB.get [4, 8] (List.forall_mem_cons.2 ⟨(hn 4 (mem_needs rfl)), (List.forall_mem_cons.2 ⟨(hn 8 (mem_needs rfl)), (fun _ h => by cases h)⟩)⟩) _ rfl
            refine DoesG.plain rfl (Does.mono (d_pick ha rfl (decide_eq_true hc1) rfl) ?_)
            rintro v wJ ⟨rfl, rfl⟩
            exact ⟨HasB.put hB 9 rfl rfl rfl rfl, hE, hr, r1, r2, hp13.keep rfl rfl (fun _ h => h), hp17.keep rfl rfl (fun _ h => h)⟩
          · intro b a wI hI hb hn hc
            obtain ⟨hB, hE, hr, r1, r2, hp13, hp17⟩ := hI
            have ha : Has 40 [(15, .bool (decide (x1 < (a1.length : Int))))] a := hB.get [9] (List.forall_mem_cons.2 ⟨(hn 9 (mem_needs rfl)), (fun _ h => by cases h)⟩) _ rfl
            refine DoesG.plain rfl (Does.mono (d_move ha rfl) ?_)
            rintro v wJ ⟨rfl, rfl⟩
            exact ⟨HasB.put hB 10 rfl rfl rfl rfl, hE, hr, r1, r2, hp13.keep rfl rfl (fun _ h => h), hp17.keep rfl rfl (fun _ h => h)⟩
          · intro b a wI hI hb hn hc
            obtain ⟨hB, hE, hr, r1, r2, hp13, hp17⟩ := hI
            have ha : Has 40 [(0, .slice p1 a0.length c1), (16, .bool (decide (x1 < (a1.length : Int))))] a := hB.get [10] (List.forall_mem_cons.2 ⟨(hn 10 (mem_needs rfl)), (fun _ h => by cases h)⟩) _ rfl
            refine DoesG.on rfl ha rfl rfl rfl (decide_eq_true hc2) (Does.mono (d_move ha rfl) ?_)
            rintro v wJ ⟨rfl, rfl⟩
            exact ⟨HasB.put hB 11 rfl rfl rfl rfl, hE, hr, r1, r2, hp13.keep rfl rfl (fun _ h => h), hp17.keep rfl rfl (fun _ h => h)⟩
          · intro b a wI hI hb hn hc
            obtain ⟨hB, hE, hr, r1, r2, hp13, hp17⟩ := hI
            have ha : Has 40 [(5, .int .i64 x1), (16, .bool (decide (x1 < (a1.length : Int))))] a := hB.get [10] (List.forall_mem_cons.2 ⟨(hn 10 (mem_needs rfl)), (fun _ h => by cases h)⟩) _ rfl
            refine DoesG.on rfl ha rfl rfl rfl (decide_eq_true hc2) (Does.mono (d_move ha rfl) ?_)
            rintro v wJ ⟨rfl, rfl⟩
            exact ⟨HasB.put hB 12 rfl rfl rfl rfl, hE, hr, r1, r2, hp13.keep rfl rfl (fun _ h => h), hp17.keep rfl rfl (fun _ h => h)⟩
          · intro b a wI hI hb hn hc
            obtain ⟨hB, hE, hr, r1, r2, hp13, hp17⟩ := hI
            have ha : Has 40 [(16, .bool (decide (x1 < (a1.length : Int)))), (17, .slice p1 a0.length c1), (18, .int .i64 x1)] a := hB.get [10, 11, 12] (List.forall_mem_cons.2 ⟨(hn 10 (mem_needs rfl)), (List.forall_mem_cons.2 ⟨(hn 11 (mem_needs rfl)), (List.forall_mem_cons.2 ⟨(hn 12 (mem_needs rfl)), (fun _ h => by cases h)⟩)⟩)⟩) _ rfl
            refine DoesG.on rfl ha rfl rfl rfl (decide_eq_true hc2) (Does.mono (d_index (kd := (Kd.int .u8)) ha rfl rfl Try.underlying22 Try.sizeOf5 r1 hc3 (0 : Int)) ?_)
            rintro v wJ ⟨rfl, h⟩
            obtain ⟨b1, q1, cs1, rfl, _, hk1, at1⟩ := h
            exact ⟨HasB.putR hB 13 rfl rfl rfl, hE, hr, r1, r2, Sl.new hB.has rfl ⟨_, _, _, rfl, hk1, at1⟩, hp17.keep rfl rfl (fun _ h => h)⟩
          · intro b a wI hI hb hn hc
            obtain ⟨hB, hE, hr, r1, r2, hp13, hp17⟩ := hI
            have ha : Has 40 [(16, .bool (decide (x1 < (a1.length : Int))))] a := hB.get [10] (List.forall_mem_cons.2 ⟨(hn 10 (mem_needs rfl)), (fun _ h => by cases h)⟩) _ rfl
            obtain ⟨b1, q1, cs1, hs13, hk1, at1⟩ := hp13 (hn 13 (mem_needs rfl))
            have ha := ha.know hs13
            obtain rfl := hk1
            refine DoesG.on rfl ha rfl rfl rfl (decide_eq_true hc2) (Does.mono (d_load ha rfl (at1.cell 0 rfl) Try.isAgg5) ?_)
            rintro v wJ ⟨rfl, rfl⟩
            exact ⟨HasB.put hB 14 rfl rfl rfl rfl, hE, hr, r1, r2, hp13.keep rfl rfl (fun _ h => h), hp17.keep rfl rfl (fun _ h => h)⟩
          · intro b a wI hI hb hn hc
            obtain ⟨hB, hE, hr, r1, r2, hp13, hp17⟩ := hI
            have ha : Has 40 [(1, .slice p2 a1.length c2), (16, .bool (decide (x1 < (a1.length : Int))))] a := hB.get [10] (List.forall_mem_cons.2 ⟨(hn 10 (mem_needs rfl)), (fun _ h => by cases h)⟩) _ rfl
            refine DoesG.on rfl ha rfl rfl rfl (decide_eq_true hc2) (Does.mono (d_move ha rfl) ?_)
            rintro v wJ ⟨rfl, rfl⟩
            exact ⟨HasB.put hB 15 rfl rfl rfl rfl, hE, hr, r1, r2, hp13.keep rfl rfl (fun _ h => h), hp17.keep rfl rfl (fun _ h => h)⟩
          · intro b a wI hI hb hn hc
            obtain ⟨hB, hE, hr, r1, r2, hp13, hp17⟩ := hI
            have ha : Has 40 [(5, .int .i64 x1), (16, .bool (decide (x1 < (a1.length : Int))))] a := hB.get [10] (List.forall_mem_cons.2 ⟨(hn 10 (mem_needs rfl)), (fun _ h => by cases h)⟩) _ rfl
            refine DoesG.on rfl ha rfl rfl rfl (decide_eq_true hc2) (Does.mono (d_move ha rfl) ?_)
            rintro v wJ ⟨rfl, rfl⟩
            exact ⟨HasB.put hB 16 rfl rfl rfl rfl, hE, hr, r1, r2, hp13.keep rfl rfl (fun _ h => h), hp17.keep rfl rfl (fun _ h => h)⟩
          · intro b a wI hI hb hn hc
            obtain ⟨hB, hE, hr, r1, r2, hp13, hp17⟩ := hI
            have ha : Has 40 [(16, .bool (decide (x1 < (a1.length : Int)))), (21, .slice p2 a1.length c2), (22, .int .i64 x1)] a := hB.get [10, 15, 16] (List.forall_mem_cons.2 ⟨(hn 10 (mem_needs rfl)), (List.forall_mem_cons.2 ⟨(hn 15 (mem_needs rfl)), (List.forall_mem_cons.2 ⟨(hn 16 (mem_needs rfl)), (fun _ h => by cases h)⟩)⟩)⟩) _ rfl
            refine DoesG.on rfl ha rfl rfl rfl (decide_eq_true hc2) (Does.mono (d_index (kd := (Kd.int .u8)) ha rfl rfl Try.underlying22 Try.sizeOf5 r2 hc4 (0 : Int)) ?_)
            rintro v wJ ⟨rfl, h⟩
            obtain ⟨b2, q2, cs2, rfl, _, hk2, at2⟩ := h
            exact ⟨HasB.putR hB 17 rfl rfl rfl, hE, hr, r1, r2, hp13.keep rfl rfl (fun _ h => h), Sl.new hB.has rfl ⟨_, _, _, rfl, hk2, at2⟩⟩
          · intro b a wI hI hb hn hc
            obtain ⟨hB, hE, hr, r1, r2, hp13, hp17⟩ := hI
            have ha : Has 40 [(16, .bool (decide (x1 < (a1.length : Int))))] a := hB.get [10] (List.forall_mem_cons.2 ⟨(hn 10 (mem_needs rfl)), (fun _ h => by cases h)⟩) _ rfl
            obtain ⟨b2, q2, cs2, hs17, hk2, at2⟩ := hp17 (hn 17 (mem_needs rfl))
            have ha := ha.know hs17
            obtain rfl := hk2
            refine DoesG.on rfl ha rfl rfl rfl (decide_eq_true hc2) (Does.mono (d_load ha rfl (at2.cell 0 rfl) Try.isAgg5) ?_)
            rintro v wJ ⟨rfl, rfl⟩
            exact ⟨HasB.put hB 18 rfl rfl rfl rfl, hE, hr, r1, r2, hp13.keep rfl rfl (fun _ h => h), hp17.keep rfl rfl (fun _ h => h)⟩
        · intro b a w2 hb hI
          obtain ⟨hB, hE, hr, r1, r2, hp13, hp17⟩ := hI
          have ha : Has 40 [(6, .int .i64 x1), (7, .slice p1 a0.length c1), (8, .int .i64 (a0.length : Int)), (9, .bool (decide (x1 < (a0.length : Int)))), (10, .bool (decide (x1 < (a0.length : Int)))), (11, .int .i64 x1), (12, .slice p2 a1.length c2), (13, .int .i64 (a1.length : Int)), (14, .bool (decide (x1 < (a1.length : Int)))), (15, .bool (decide (x1 < (a1.length : Int)))), (16, .bool (decide (x1 < (a1.length : Int)))), (17, .slice p1 a0.length c1), (18, .int .i64 x1), (20, .int .u8 (a0.getD (x1).toNat (0 : Int))), (21, .slice p2 a1.length c2), (22, .int .i64 x1), (24, .int .u8 (a1.getD (x1).toNat (0 : Int))), (0, .slice p1 a0.length c1), (1, .slice p2 a1.length c2), (5, .int .i64 x1)] a := hB.get [0, 1, 2, 3, 4, 5, 6, 7, 8, 9, 10, 11, 12, 14, 15, 16, 18] (List.forall_mem_cons.2 ⟨(hb 0 (by decide) (by decide)), (List.forall_mem_cons.2 ⟨(hb 1 (by decide) (by decide)), (List.forall_mem_cons.2 ⟨(hb 2 (by decide) (by decide)), (List.forall_mem_cons.2 ⟨(hb 3 (by decide) (by decide)), (List.forall_mem_cons.2 ⟨(hb 4 (by decide) (by decide)), (List.forall_mem_cons.2 ⟨(hb 5 (by decide) (by decide)), (List.forall_mem_cons.2 ⟨(hb 6 (by decide) (by decide)), (List.forall_mem_cons.2 ⟨(hb 7 (by decide) (by decide)), (List.forall_mem_cons.2 ⟨(hb 8 (by decide) (by decide)), (List.forall_mem_cons.2 ⟨(hb 9 (by decide) (by decide)), (List.forall_mem_cons.2 ⟨(hb 10 (by decide) (by decide)), (List.forall_mem_cons.2 ⟨(hb 11 (by decide) (by decide)), (List.forall_mem_cons.2 ⟨(hb 12 (by decide) (by decide)), (List.forall_mem_cons.2 ⟨(hb 14 (by decide) (by decide)), (List.forall_mem_cons.2 ⟨(hb 15 (by decide) (by decide)), (List.forall_mem_cons.2 ⟨(hb 16 (by decide) (by decide)), (List.forall_mem_cons.2 ⟨(hb 18 (by decide) (by decide)), (fun _ h => by cases h)⟩)⟩)⟩)⟩)⟩)⟩)⟩)⟩)⟩)⟩)⟩)⟩)⟩)⟩)⟩)⟩)⟩) _ rfl
          refine goOn1 ha rfl rfl rfl rfl (decide_eq_true hc2) (d_eqI ha rfl rfl) fun a ha => ?_
          refine go1 ha rfl (d_pick ha rfl (decide_eq_true hc2) rfl) fun a ha => ?_
          refine nil_ ?_
          refine hK6 _ _ ?_
          have ha := ha.to (l' := [(0, _), (1, _), (5, _), (26, _)]) rfl
          rcases ite_elim hF with ⟨hc5, hF⟩ | ⟨hc5, hF⟩
          · refine wcond_t ha rfl (decide_eq_true hc5) ?_
            refine wp_skip ?_
            refine hK5 _ _ ?_
            have ha := ha.to (l' := [(0, _), (1, _), (5, _)]) rfl
            refine wp_block ?_
            refine wreg ?_
            refine go1 ha rfl (d_move ha rfl) fun a ha => ?_
            refine go1 ha rfl (d_add ha rfl rfl) fun a ha => ?_
            refine go1 ha rfl (d_assign ha rfl) fun a ha => ?_
            refine nil_ ?_
            exact hK4 k1 _ _ (Nat.lt_succ_self _) ⟨(IntKind.i64.wrap (x1 + (1 : Int))), ha.to rfl, hE, r1, r2, hF⟩
          · refine wcond_f ha rfl (decide_eq_false hc5) ?_
            refine wp_exit ?_
            refine hK3 _ _ ?_
            have ha := ha.to (l' := [(0, _), (1, _), (5, _)]) rfl
            refine wp_seq_k (fun K7 hK7 => ?_)
            refine wp_seq_k (fun K8 hK8 => ?_)
            refine wreg ?_
            refine go1 ha rfl (d_move ha rfl) fun a ha => ?_
            refine go1 ha rfl (d_move ha rfl) fun a ha => ?_
            refine go1 ha rfl (d_lenSlice ha Try.underlying22 rfl) fun a ha => ?_
            refine go1 ha rfl (d_eqI ha rfl rfl) fun a ha => ?_
            refine go1 ha rfl (d_move ha rfl) fun a ha => ?_
            rcases ite_elim hF with ⟨hc6, hF⟩ | ⟨hc6, hF⟩
            · refine goOn1 ha rfl rfl rfl rfl (decide_eq_true hc6) (d_move ha rfl) fun a ha => ?_
              refine goOn1 ha rfl rfl rfl rfl (decide_eq_true hc6) (d_move ha rfl) fun a ha => ?_
              refine goOn1 ha rfl rfl rfl rfl (decide_eq_true hc6) (d_lenSlice ha Try.underlying22 rfl) fun a ha => ?_
              refine goOn1 ha rfl rfl rfl rfl (decide_eq_true hc6) (d_eqI ha rfl rfl) fun a ha => ?_
              refine go1 ha rfl (d_pick ha rfl (decide_eq_true hc6) rfl) fun a ha => ?_
              refine nil_ ?_
              refine hK8 _ _ ?_
              have ha := ha.to (l' := [(5, _), (38, _)]) rfl
              rcases ite_elim hF with ⟨hc7, hF⟩ | ⟨hc7, hF⟩
              · refine wcond_t ha rfl (decide_eq_true hc7) ?_
                refine wp_seq_k (fun K9 hK9 => ?_)
                refine wreg ?_
                refine go1 ha rfl (d_assign ha rfl) fun a ha => ?_
                refine nil_ ?_
                refine hK9 _ _ ?_
                have ha := ha.to (l' := [(4, _)]) rfl
                refine wp_ret ?_
                injection hF with hF
                subst hF
                refine fin1 ha Try.results12 rfl ?_
                exact ⟨rfl, hE⟩
              · refine wcond_f ha rfl (decide_eq_false hc7) ?_
                refine wp_skip ?_
                refine hK7 _ _ ?_
                have ha := ha.to (l' := [(5, _)]) rfl
                refine wp_seq_k (fun K10 hK10 => ?_)
                refine wreg ?_
                refine go1 ha rfl (d_move ha rfl) fun a ha => ?_
                refine go1 ha rfl (d_assign ha rfl) fun a ha => ?_
                refine nil_ ?_
                refine hK10 _ _ ?_
                have ha := ha.to (l' := [(4, _)]) rfl
                refine wp_ret ?_
                injection hF with hF
                subst hF
                refine fin1 ha Try.results12 rfl ?_
                exact ⟨rfl, hE⟩
            · refine goOff ha rfl rfl rfl rfl (decide_eq_false hc6) fun a ha => ?_
              refine goOff ha rfl rfl rfl rfl (decide_eq_false hc6) fun a ha => ?_
              refine goOff ha rfl rfl rfl rfl (decide_eq_false hc6) fun a ha => ?_
              refine goOff ha rfl rfl rfl rfl (decide_eq_false hc6) fun a ha => ?_
              refine go1 ha rfl (d_pickF ha rfl (decide_eq_false hc6) rfl) fun a ha => ?_
              refine nil_ ?_
              refine hK8 _ _ ?_
              have ha := ha.to (l' := [(5, _), (38, _)]) rfl
              refine wcond_f ha rfl rfl ?_
              refine wp_skip ?_
              refine hK7 _ _ ?_
              have ha := ha.to (l' := [(5, _)]) rfl
              refine wp_seq_k (fun K11 hK11 => ?_)
              refine wreg ?_
              refine go1 ha rfl (d_move ha rfl) fun a ha => ?_
              refine go1 ha rfl (d_assign ha rfl) fun a ha => ?_
              refine nil_ ?_
              refine hK11 _ _ ?_
              have ha := ha.to (l' := [(4, _)]) rfl
              refine wp_ret ?_
              injection hF with hF
              subst hF
              refine fin1 ha Try.results12 rfl ?_
              exact ⟨rfl, hE⟩
      · refine drawnC 2 (by kernel_rfl) 19 (by decide) rfl (fun b a wI => HasB 40 [(0, .slice p1 a0.length c1), (1, .slice p2 a1.length c2), (5, .int .i64 x1)] [(0, 6, .int .i64 x1), (1, 7, .slice p1 a0.length c1), (2, 8, .int .i64 (a0.length : Int)), (3, 9, .bool (decide (x1 < (a0.length : Int)))), (4, 10, .bool (decide (x1 < (a0.length : Int)))), (5, 11, .int .i64 x1), (6, 12, .slice p2 a1.length c2), (7, 13, .int .i64 (a1.length : Int)), (8, 14, .bool (decide (x1 < (a1.length : Int)))), (9, 15, .bool (decide (x1 < (a1.length : Int)))), (10, 16, .bool (decide (x1 < (a1.length : Int)))), (11, 17, undef), (12, 18, undef), (13, 19, undef), (14, 20, undef), (15, 21, undef), (16, 22, undef), (17, 23, undef), (18, 24, undef)] b a ∧ Ex w (Av [] No) [] wI ∧ Fr w1 wI No ∧ Raw (Av [] W) (Kd.int .u8) wI.heap p1 c1 a0 ∧ Raw (Av [] W) (Kd.int .u8) wI.heap p2 c2 a1) ?_ (EachAt.all0 ?_) ?_
        · exact ⟨HasB.start (ha.to rfl) rfl, hE.drew, (Fr.refl _ No).drew, r1, r2⟩
        · refine (EachAt.cons ?_ (EachAt.cons ?_ (EachAt.cons ?_ (EachAt.cons ?_ (EachAt.cons ?_ (EachAt.cons ?_ (EachAt.cons ?_ (EachAt.cons ?_ (EachAt.cons ?_ (EachAt.cons ?_ (EachAt.cons ?_ (EachAt.cons ?_ (EachAt.cons ?_ (EachAt.cons ?_ (EachAt.cons ?_ (EachAt.cons ?_ (EachAt.cons ?_ (EachAt.cons ?_ (EachAt.cons ?_ EachAt.nil)))))))))))))))))))
          · intro b a wI hI hb hn hc
            obtain ⟨hB, hE, hr, r1, r2⟩ := hI
            have ha : Has 40 [(5, .int .i64 x1)] a := hB.get [] (fun _ h => by cases h) _ rfl
            refine DoesG.plain rfl (Does.mono (d_move ha rfl) ?_)
            rintro v wJ ⟨rfl, rfl⟩
            exact ⟨HasB.put hB 0 rfl rfl rfl rfl, hE, hr, r1, r2⟩
          · intro b a wI hI hb hn hc
            obtain ⟨hB, hE, hr, r1, r2⟩ := hI
            have ha : Has 40 [(0, .slice p1 a0.length c1)] a := hB.get [] (fun _ h => by cases h) _ rfl
            refine DoesG.plain rfl (Does.mono (d_move ha rfl) ?_)
            rintro v wJ ⟨rfl, rfl⟩
            exact ⟨HasB.put hB 1 rfl rfl rfl rfl, hE, hr, r1, r2⟩
          · intro b a wI hI hb hn hc
            obtain ⟨hB, hE, hr, r1, r2⟩ := hI
            have ha : Has 40 [(7, .slice p1 a0.length c1)] a := hB.get [1] (List.forall_mem_cons.2 ⟨(hn 1 (mem_needs rfl)), (fun _ h => by cases h)⟩) _ rfl
            refine DoesG.plain rfl (Does.mono (d_lenSlice ha Try.underlying22 rfl) ?_)
            rintro v wJ ⟨rfl, rfl⟩
            exact ⟨HasB.put hB 2 rfl rfl rfl rfl, hE, hr, r1, r2⟩
          · intro b a wI hI hb hn hc
            obtain ⟨hB, hE, hr, r1, r2⟩ := hI
            have ha : Has 40 [(6, .int .i64 x1), (8, .int .i64 (a0.length : Int))] a := hB.get [0, 2] (List.forall_mem_cons.2 ⟨(hn 0 (mem_needs rfl)), (List.forall_mem_cons.2 ⟨(hn 2 (mem_needs rfl)), (fun _ h => by cases h)⟩)⟩) _ rfl
            refine DoesG.plain rfl (Does.mono (d_lt ha rfl rfl) ?_)
            rintro v wJ ⟨rfl, rfl⟩
            exact ⟨HasB.put hB 3 rfl rfl rfl rfl, hE, hr, r1, r2⟩
          · intro b a wI hI hb hn hc
            obtain ⟨hB, hE, hr, r1, r2⟩ := hI
            have ha : Has 40 [(9, .bool (decide (x1 < (a0.length : Int))))] a := hB.get [3] (List.forall_mem_cons.2 ⟨(hn 3 (mem_needs rfl)), (fun _ h => by cases h)⟩) _ rfl
            refine DoesG.plain rfl (Does.mono (d_move ha rfl) ?_)
            rintro v wJ ⟨rfl, rfl⟩
            exact ⟨HasB.put hB 4 rfl rfl rfl rfl, hE, hr, r1, r2⟩
          · intro b a wI hI hb hn hc
            obtain ⟨hB, hE, hr, r1, r2⟩ := hI
            have ha : Has 40 [(5, .int .i64 x1), (10, .bool (decide (x1 < (a0.length : Int))))] a := hB.get [4] (List.forall_mem_cons.2 ⟨(hn 4 (mem_needs rfl)), (fun _ h => by cases h)⟩) _ rfl
            refine DoesG.on rfl ha rfl rfl rfl (decide_eq_true hc1) (Does.mono (d_move ha rfl) ?_)
            rintro v wJ ⟨rfl, rfl⟩
            exact ⟨HasB.put hB 5 rfl rfl rfl rfl, hE, hr, r1, r2⟩
          · intro b a wI hI hb hn hc
            obtain ⟨hB, hE, hr, r1, r2⟩ := hI
            have ha : Has 40 [(1, .slice p2 a1.length c2), (10, .bool (decide (x1 < (a0.length : Int))))] a := hB.get [4] (List.forall_mem_cons.2 ⟨(hn 4 (mem_needs rfl)), (fun _ h => by cases h)⟩) _ rfl
            refine DoesG.on rfl ha rfl rfl rfl (decide_eq_true hc1) (Does.mono (d_move ha rfl) ?_)
            rintro v wJ ⟨rfl, rfl⟩
            exact ⟨HasB.put hB 6 rfl rfl rfl rfl, hE, hr, r1, r2⟩
          · intro b a wI hI hb hn hc
            obtain ⟨hB, hE, hr, r1, r2⟩ := hI
            have ha : Has 40 [(10, .bool (decide (x1 < (a0.length : Int)))), (12, .slice p2 a1.length c2)] a := hB.get [4, 6] (List.forall_mem_cons.2 ⟨(hn 4 (mem_needs rfl)), (List.forall_mem_cons.2 ⟨(hn 6 (mem_needs rfl)), (fun _ h => by cases h)⟩)⟩) _ rfl
            refine DoesG.on rfl ha rfl rfl rfl (decide_eq_true hc1) (Does.mono (d_lenSlice ha Try.underlying22 rfl) ?_)
            rintro v wJ ⟨rfl, rfl⟩
            exact ⟨HasB.put hB 7 rfl rfl rfl rfl, hE, hr, r1, r2⟩
          · intro b a wI hI hb hn hc
            obtain ⟨hB, hE, hr, r1, r2⟩ := hI
            have ha : Has 40 [(10, .bool (decide (x1 < (a0.length : Int)))), (11, .int .i64 x1), (13, .int .i64 (a1.length : Int))] a := hB.get [4, 5, 7] (List.forall_mem_cons.2 ⟨(hn 4 (mem_needs rfl)), (List.forall_mem_cons.2 ⟨(hn 5 (mem_needs rfl)), (List.forall_mem_cons.2 ⟨(hn 7 (mem_needs rfl)), (fun _ h => by cases h)⟩)⟩)⟩) _ rfl
            refine DoesG.on rfl ha rfl rfl rfl (decide_eq_true hc1) (Does.mono (d_lt ha rfl rfl) ?_)
            rintro v wJ ⟨rfl, rfl⟩
            exact ⟨HasB.put hB 8 rfl rfl rfl rfl, hE, hr, r1, r2⟩
          · intro b a wI hI hb hn hc
            obtain ⟨hB, hE, hr, r1, r2⟩ := hI
            have ha : Has 40 [(10, .bool (decide (x1 < (a0.length : Int)))), (14, .bool (decide (x1 < (a1.length : Int))))] a := hB.get [4, 8] (List.forall_mem_cons.2 ⟨(hn 4 (mem_needs rfl)), (List.forall_mem_cons.2 ⟨(hn 8 (mem_needs rfl)), (fun _ h => by cases h)⟩)⟩) _ rfl
            refine DoesG.plain rfl (Does.mono (d_pick ha rfl (decide_eq_true hc1) rfl) ?_)
            rintro v wJ ⟨rfl, rfl⟩
            exact ⟨HasB.put hB 9 rfl rfl rfl rfl, hE, hr, r1, r2⟩
          · intro b a wI hI hb hn hc
            obtain ⟨hB, hE, hr, r1, r2⟩ := hI
            have ha : Has 40 [(15, .bool (decide (x1 < (a1.length : Int))))] a := hB.get [9] (List.forall_mem_cons.2 ⟨(hn 9 (mem_needs rfl)), (fun _ h => by cases h)⟩) _ rfl
            refine DoesG.plain rfl (Does.mono (d_move ha rfl) ?_)
            rintro v wJ ⟨rfl, rfl⟩
            exact ⟨HasB.put hB 10 rfl rfl rfl rfl, hE, hr, r1, r2⟩
          · intro b a wI hI hb hn hc
            obtain ⟨hB, hE, hr, r1, r2⟩ := hI
            have ha : Has 40 [(0, .slice p1 a0.length c1), (16, .bool (decide (x1 < (a1.length : Int))))] a := hB.get [10] (List.forall_mem_cons.2 ⟨(hn 10 (mem_needs rfl)), (fun _ h => by cases h)⟩) _ rfl
            refine DoesG.off rfl ha rfl rfl rfl (decide_eq_false hc2) ?_
            exact ⟨HasB.put hB 11 rfl rfl rfl rfl, hE, hr, r1, r2⟩
          · intro b a wI hI hb hn hc
            obtain ⟨hB, hE, hr, r1, r2⟩ := hI
            have ha : Has 40 [(5, .int .i64 x1), (16, .bool (decide (x1 < (a1.length : Int))))] a := hB.get [10] (List.forall_mem_cons.2 ⟨(hn 10 (mem_needs rfl)), (fun _ h => by cases h)⟩) _ rfl
            refine DoesG.off rfl ha rfl rfl rfl (decide_eq_false hc2) ?_
            exact ⟨HasB.put hB 12 rfl rfl rfl rfl, hE, hr, r1, r2⟩
          · intro b a wI hI hb hn hc
            obtain ⟨hB, hE, hr, r1, r2⟩ := hI
            have ha : Has 40 [(16, .bool (decide (x1 < (a1.length : Int)))), (17, undef), (18, undef)] a := hB.get [10, 11, 12] (List.forall_mem_cons.2 ⟨(hn 10 (mem_needs rfl)), (List.forall_mem_cons.2 ⟨(hn 11 (mem_needs rfl)), (List.forall_mem_cons.2 ⟨(hn 12 (mem_needs rfl)), (fun _ h => by cases h)⟩)⟩)⟩) _ rfl
            refine DoesG.off rfl ha rfl rfl rfl (decide_eq_false hc2) ?_
            exact ⟨HasB.put hB 13 rfl rfl rfl rfl, hE, hr, r1, r2⟩
          · intro b a wI hI hb hn hc
            obtain ⟨hB, hE, hr, r1, r2⟩ := hI
            have ha : Has 40 [(16, .bool (decide (x1 < (a1.length : Int)))), (19, undef)] a := hB.get [10, 13] (List.forall_mem_cons.2 ⟨(hn 10 (mem_needs rfl)), (List.forall_mem_cons.2 ⟨(hn 13 (mem_needs rfl)), (fun _ h => by cases h)⟩)⟩) _ rfl
            refine DoesG.off rfl ha rfl rfl rfl (decide_eq_false hc2) ?_
            exact ⟨HasB.put hB 14 rfl rfl rfl rfl, hE, hr, r1, r2⟩
          · intro b a wI hI hb hn hc
            obtain ⟨hB, hE, hr, r1, r2⟩ := hI
            have ha : Has 40 [(1, .slice p2 a1.length c2), (16, .bool (decide (x1 < (a1.length : Int))))] a := hB.get [10] (List.forall_mem_cons.2 ⟨(hn 10 (mem_needs rfl)), (fun _ h => by cases h)⟩) _ rfl
            refine DoesG.off rfl ha rfl rfl rfl (decide_eq_false hc2) ?_
            exact ⟨HasB.put hB 15 rfl rfl rfl rfl, hE, hr, r1, r2⟩
          · intro b a wI hI hb hn hc
            obtain ⟨hB, hE, hr, r1, r2⟩ := hI
            have ha : Has 40 [(5, .int .i64 x1), (16, .bool (decide (x1 < (a1.length : Int))))] a := hB.get [10] (List.forall_mem_cons.2 ⟨(hn 10 (mem_needs rfl)), (fun _ h => by cases h)⟩) _ rfl
            refine DoesG.off rfl ha rfl rfl rfl (decide_eq_false hc2) ?_
            exact ⟨HasB.put hB 16 rfl rfl rfl rfl, hE, hr, r1, r2⟩
          · intro b a wI hI hb hn hc
            obtain ⟨hB, hE, hr, r1, r2⟩ := hI
            have ha : Has 40 [(16, .bool (decide (x1 < (a1.length : Int)))), (21, undef), (22, undef)] a := hB.get [10, 15, 16] (List.forall_mem_cons.2 ⟨(hn 10 (mem_needs rfl)), (List.forall_mem_cons.2 ⟨(hn 15 (mem_needs rfl)), (List.forall_mem_cons.2 ⟨(hn 16 (mem_needs rfl)), (fun _ h => by cases h)⟩)⟩)⟩) _ rfl
            refine DoesG.off rfl ha rfl rfl rfl (decide_eq_false hc2) ?_
            exact ⟨HasB.put hB 17 rfl rfl rfl rfl, hE, hr, r1, r2⟩
          · intro b a wI hI hb hn hc
            obtain ⟨hB, hE, hr, r1, r2⟩ := hI
            have ha : Has 40 [(16, .bool (decide (x1 < (a1.length : Int)))), (23, undef)] a := hB.get [10, 17] (List.forall_mem_cons.2 ⟨(hn 10 (mem_needs rfl)), (List.forall_mem_cons.2 ⟨(hn 17 (mem_needs rfl)), (fun _ h => by cases h)⟩)⟩) _ rfl
            refine DoesG.off rfl ha rfl rfl rfl (decide_eq_false hc2) ?_
            exact ⟨HasB.put hB 18 rfl rfl rfl rfl, hE, hr, r1, r2⟩
        · intro b a w3 hb hI
          obtain ⟨hB, hE, hr, r1, r2⟩ := hI
          have ha : Has 40 [(6, .int .i64 x1), (7, .slice p1 a0.length c1), (8, .int .i64 (a0.length : Int)), (9, .bool (decide (x1 < (a0.length : Int)))), (10, .bool (decide (x1 < (a0.length : Int)))), (11, .int .i64 x1), (12, .slice p2 a1.length c2), (13, .int .i64 (a1.length : Int)), (14, .bool (decide (x1 < (a1.length : Int)))), (15, .bool (decide (x1 < (a1.length : Int)))), (16, .bool (decide (x1 < (a1.length : Int)))), (17, undef), (18, undef), (19, undef), (20, undef), (21, undef), (22, undef), (23, undef), (24, undef), (0, .slice p1 a0.length c1), (1, .slice p2 a1.length c2), (5, .int .i64 x1)] a := hB.get [0, 1, 2, 3, 4, 5, 6, 7, 8, 9, 10, 11, 12, 13, 14, 15, 16, 17, 18] (List.forall_mem_cons.2 ⟨(hb 0 (by decide) (by decide)), (List.forall_mem_cons.2 ⟨(hb 1 (by decide) (by decide)), (List.forall_mem_cons.2 ⟨(hb 2 (by decide) (by decide)), (List.forall_mem_cons.2 ⟨(hb 3 (by decide) (by decide)), (List.forall_mem_cons.2 ⟨(hb 4 (by decide) (by decide)), (List.forall_mem_cons.2 ⟨(hb 5 (by decide) (by decide)), (List.forall_mem_cons.2 ⟨(hb 6 (by decide) (by decide)), (List.forall_mem_cons.2 ⟨(hb 7 (by decide) (by decide)), (List.forall_mem_cons.2 ⟨(hb 8 (by decide) (by decide)), (List.forall_mem_cons.2 ⟨(hb 9 (by decide) (by decide)), (List.forall_mem_cons.2 ⟨(hb 10 (by decide) (by decide)), (List.forall_mem_cons.2 ⟨(hb 11 (by decide) (by decide)), (List.forall_mem_cons.2 ⟨(hb 12 (by decide) (by decide)), (List.forall_mem_cons.2 ⟨(hb 13 (by decide) (by decide)), (List.forall_mem_cons.2 ⟨(hb 14 (by decide) (by decide)), (List.forall_mem_cons.2 ⟨(hb 15 (by decide) (by decide)), (List.forall_mem_cons.2 ⟨(hb 16 (by decide) (by decide)), (List.forall_mem_cons.2 ⟨(hb 17 (by decide) (by decide)), (List.forall_mem_cons.2 ⟨(hb 18 (by decide) (by decide)), (fun _ h => by cases h)⟩)⟩)⟩)⟩)⟩)⟩)⟩)⟩)⟩)⟩)⟩)⟩)⟩)⟩)⟩)⟩)⟩)⟩)⟩) _ rfl
          refine goOff ha rfl rfl rfl rfl (decide_eq_false hc2) fun a ha => ?_
          refine go1 ha rfl (d_pickF ha rfl (decide_eq_false hc2) rfl) fun a ha => ?_
          refine nil_ ?_
          refine hK6 _ _ ?_
          have ha := ha.to (l' := [(0, _), (1, _), (5, _), (26, _)]) rfl
          refine wcond_f ha rfl rfl ?_
          refine wp_exit ?_
          refine hK3 _ _ ?_
          have ha := ha.to (l' := [(0, _), (1, _), (5, _)]) rfl
          refine wp_seq_k (fun K12 hK12 => ?_)
          refine wp_seq_k (fun K13 hK13 => ?_)
          refine wreg ?_
          refine go1 ha rfl (d_move ha rfl) fun a ha => ?_
          refine go1 ha rfl (d_move ha rfl) fun a ha => ?_
          refine go1 ha rfl (d_lenSlice ha Try.underlying22 rfl) fun a ha => ?_
          refine go1 ha rfl (d_eqI ha rfl rfl) fun a ha => ?_
          refine go1 ha rfl (d_move ha rfl) fun a ha => ?_
          rcases ite_elim hF with ⟨hc8, hF⟩ | ⟨hc8, hF⟩
          · refine goOn1 ha rfl rfl rfl rfl (decide_eq_true hc8) (d_move ha rfl) fun a ha => ?_
            refine goOn1 ha rfl rfl rfl rfl (decide_eq_true hc8) (d_move ha rfl) fun a ha => ?_
            refine goOn1 ha rfl rfl rfl rfl (decide_eq_true hc8) (d_lenSlice ha Try.underlying22 rfl) fun a ha => ?_
            refine goOn1 ha rfl rfl rfl rfl (decide_eq_true hc8) (d_eqI ha rfl rfl) fun a ha => ?_
            refine go1 ha rfl (d_pick ha rfl (decide_eq_true hc8) rfl) fun a ha => ?_
            refine nil_ ?_
            refine hK13 _ _ ?_
            have ha := ha.to (l' := [(5, _), (38, _)]) rfl
            rcases ite_elim hF with ⟨hc9, hF⟩ | ⟨hc9, hF⟩
            · refine wcond_t ha rfl (decide_eq_true hc9) ?_
              refine wp_seq_k (fun K14 hK14 => ?_)
              refine wreg ?_
              refine go1 ha rfl (d_assign ha rfl) fun a ha => ?_
              refine nil_ ?_
              refine hK14 _ _ ?_
              have ha := ha.to (l' := [(4, _)]) rfl
              refine wp_ret ?_
              injection hF with hF
              subst hF
              refine fin1 ha Try.results12 rfl ?_
              exact ⟨rfl, hE⟩
            · refine wcond_f ha rfl (decide_eq_false hc9) ?_
              refine wp_skip ?_
              refine hK12 _ _ ?_
              have ha := ha.to (l' := [(5, _)]) rfl
              refine wp_seq_k (fun K15 hK15 => ?_)
              refine wreg ?_
              refine go1 ha rfl (d_move ha rfl) fun a ha => ?_
              refine go1 ha rfl (d_assign ha rfl) fun a ha => ?_
              refine nil_ ?_
              refine hK15 _ _ ?_
              have ha := ha.to (l' := [(4, _)]) rfl
              refine wp_ret ?_
              injection hF with hF
              subst hF
              refine fin1 ha Try.results12 rfl ?_
              exact ⟨rfl, hE⟩
          · refine goOff ha rfl rfl rfl rfl (decide_eq_false hc8) fun a ha => ?_
            refine goOff ha rfl rfl rfl rfl (decide_eq_false hc8) fun a ha => ?_
            refine goOff ha rfl rfl rfl rfl (decide_eq_false hc8) fun a ha => ?_
            refine goOff ha rfl rfl rfl rfl (decide_eq_false hc8) fun a ha => ?_
            refine go1 ha rfl (d_pickF ha rfl (decide_eq_false hc8) rfl) fun a ha => ?_
            refine nil_ ?_
            refine hK13 _ _ ?_
            have ha := ha.to (l' := [(5, _), (38, _)]) rfl
            refine wcond_f ha rfl rfl ?_
            refine wp_skip ?_
            refine hK12 _ _ ?_
            have ha := ha.to (l' := [(5, _)]) rfl
            refine wp_seq_k (fun K16 hK16 => ?_)
            refine wreg ?_
            refine go1 ha rfl (d_move ha rfl) fun a ha => ?_
            refine go1 ha rfl (d_assign ha rfl) fun a ha => ?_
            refine nil_ ?_
            refine hK16 _ _ ?_
            have ha := ha.to (l' := [(4, _)]) rfl
            refine wp_ret ?_
            injection hF with hF
            subst hF
            refine fin1 ha Try.results12 rfl ?_
            exact ⟨rfl, hE⟩
    · refine drawnC 2 (by kernel_rfl) 19 (by decide) rfl (fun b a wI => HasB 40 [(0, .slice p1 a0.length c1), (1, .slice p2 a1.length c2), (5, .int .i64 x1)] [(0, 6, .int .i64 x1), (1, 7, .slice p1 a0.length c1), (2, 8, .int .i64 (a0.length : Int)), (3, 9, .bool (decide (x1 < (a0.length : Int)))), (4, 10, .bool (decide (x1 < (a0.length : Int)))), (5, 11, undef), (6, 12, undef), (7, 13, undef), (8, 14, undef), (9, 15, .bool false), (10, 16, .bool false), (11, 17, undef), (12, 18, undef), (13, 19, undef), (14, 20, undef), (15, 21, undef), (16, 22, undef), (17, 23, undef), (18, 24, undef)] b a ∧ Ex w (Av [] No) [] wI ∧ Fr w1 wI No ∧ Raw (Av [] W) (Kd.int .u8) wI.heap p1 c1 a0 ∧ Raw (Av [] W) (Kd.int .u8) wI.heap p2 c2 a1) ?_ (EachAt.all0 ?_) ?_
      · exact ⟨HasB.start (ha.to rfl) rfl, hE.drew, (Fr.refl _ No).drew, r1, r2⟩
      · refine (EachAt.cons ?_ (EachAt.cons ?_ (EachAt.cons ?_ (EachAt.cons ?_ (EachAt.cons ?_ (EachAt.cons ?_ (EachAt.cons ?_ (EachAt.cons ?_ (EachAt.cons ?_ (EachAt.cons ?_ (EachAt.cons ?_ (EachAt.cons ?_ (EachAt.cons ?_ (EachAt.cons ?_ (EachAt.cons ?_ (EachAt.cons ?_ (EachAt.cons ?_ (EachAt.cons ?_ (EachAt.cons ?_ EachAt.nil)))))))))))))))))))
        · intro b a wI hI hb hn hc
          obtain ⟨hB, hE, hr, r1, r2⟩ := hI
          have ha : Has 40 [(5, .int .i64 x1)] a := hB.get [] (fun _ h => by cases h) _ rfl
          refine DoesG.plain rfl (Does.mono (d_move ha rfl) ?_)
          rintro v wJ ⟨rfl, rfl⟩
          exact ⟨HasB.put hB 0 rfl rfl rfl rfl, hE, hr, r1, r2⟩
        · intro b a wI hI hb hn hc
          obtain ⟨hB, hE, hr, r1, r2⟩ := hI
          have ha : Has 40 [(0, .slice p1 a0.length c1)] a := hB.get [] (fun _ h => by cases h) _ rfl
          refine DoesG.plain rfl (Does.mono (d_move ha rfl) ?_)
          rintro v wJ ⟨rfl, rfl⟩
          exact ⟨HasB.put hB 1 rfl rfl rfl rfl, hE, hr, r1, r2⟩
        · intro b a wI hI hb hn hc
          obtain ⟨hB, hE, hr, r1, r2⟩ := hI
          have ha : Has 40 [(7, .slice p1 a0.length c1)] a := hB.get [1] (List.forall_mem_cons.2 ⟨(hn 1 (mem_needs rfl)), (fun _ h => by cases h)⟩) _ rfl
          refine DoesG.plain rfl (Does.mono (d_lenSlice ha Try.underlying22 rfl) ?_)
          rintro v wJ ⟨rfl, rfl⟩
          exact ⟨HasB.put hB 2 rfl rfl rfl rfl, hE, hr, r1, r2⟩
        · intro b a wI hI hb hn hc
          obtain ⟨hB, hE, hr, r1, r2⟩ := hI
          have ha : Has 40 [(6, .int .i64 x1), (8, .int .i64 (a0.length : Int))] a := hB.get [0, 2] (List.forall_mem_cons.2 ⟨(hn 0 (mem_needs rfl)), (List.forall_mem_cons.2 ⟨(hn 2 (mem_needs rfl)), (fun _ h => by cases h)⟩)⟩) _ rfl
          refine DoesG.plain rfl (Does.mono (d_lt ha rfl rfl) ?_)
          rintro v wJ ⟨rfl, rfl⟩
          exact ⟨HasB.put hB 3 rfl rfl rfl rfl, hE, hr, r1, r2⟩
        · intro b a wI hI hb hn hc
          obtain ⟨hB, hE, hr, r1, r2⟩ := hI
          have ha : Has 40 [(9, .bool (decide (x1 < (a0.length : Int))))] a := hB.get [3] (List.forall_mem_cons.2 ⟨(hn 3 (mem_needs rfl)), (fun _ h => by cases h)⟩) _ rfl
          refine DoesG.plain rfl (Does.mono (d_move ha rfl) ?_)
          rintro v wJ ⟨rfl, rfl⟩
          exact ⟨HasB.put hB 4 rfl rfl rfl rfl, hE, hr, r1, r2⟩
        · intro b a wI hI hb hn hc
          obtain ⟨hB, hE, hr, r1, r2⟩ := hI
          have ha : Has 40 [(5, .int .i64 x1), (10, .bool (decide (x1 < (a0.length : Int))))] a := hB.get [4] (List.forall_mem_cons.2 ⟨(hn 4 (mem_needs rfl)), (fun _ h => by cases h)⟩) _ rfl
          refine DoesG.off rfl ha rfl rfl rfl (decide_eq_false hc1) ?_
          exact ⟨HasB.put hB 5 rfl rfl rfl rfl, hE, hr, r1, r2⟩
        · intro b a wI hI hb hn hc
          obtain ⟨hB, hE, hr, r1, r2⟩ := hI
          have ha : Has 40 [(1, .slice p2 a1.length c2), (10, .bool (decide (x1 < (a0.length : Int))))] a := hB.get [4] (List.forall_mem_cons.2 ⟨(hn 4 (mem_needs rfl)), (fun _ h => by cases h)⟩) _ rfl
          refine DoesG.off rfl ha rfl rfl rfl (decide_eq_false hc1) ?_
          exact ⟨HasB.put hB 6 rfl rfl rfl rfl, hE, hr, r1, r2⟩
        · intro b a wI hI hb hn hc
          obtain ⟨hB, hE, hr, r1, r2⟩ := hI
          have ha : Has 40 [(10, .bool (decide (x1 < (a0.length : Int)))), (12, undef)] a := hB.get [4, 6] (List.forall_mem_cons.2 ⟨(hn 4 (mem_needs rfl)), (List.forall_mem_cons.2 ⟨(hn 6 (mem_needs rfl)), (fun _ h => by cases h)⟩)⟩) _ rfl
          refine DoesG.off rfl ha rfl rfl rfl (decide_eq_false hc1) ?_
          exact ⟨HasB.put hB 7 rfl rfl rfl rfl, hE, hr, r1, r2⟩
        · intro b a wI hI hb hn hc
          obtain ⟨hB, hE, hr, r1, r2⟩ := hI
          have ha : Has 40 [(10, .bool (decide (x1 < (a0.length : Int)))), (11, undef), (13, undef)] a := hB.get [4, 5, 7] (List.forall_mem_cons.2 ⟨(hn 4 (mem_needs rfl)), (List.forall_mem_cons.2 ⟨(hn 5 (mem_needs rfl)), (List.forall_mem_cons.2 ⟨(hn 7 (mem_needs rfl)), (fun _ h => by cases h)⟩)⟩)⟩) _ rfl
          refine DoesG.off rfl ha rfl rfl rfl (decide_eq_false hc1) ?_
          exact ⟨HasB.put hB 8 rfl rfl rfl rfl, hE, hr, r1, r2⟩
        · intro b a wI hI hb hn hc
          obtain ⟨hB, hE, hr, r1, r2⟩ := hI
          have ha : Has 40 [(10, .bool (decide (x1 < (a0.length : Int)))), (14, undef)] a := hB.get [4, 8] (List.forall_mem_cons.2 ⟨(hn 4 (mem_needs rfl)), (List.forall_mem_cons.2 ⟨(hn 8 (mem_needs rfl)), (fun _ h => by cases h)⟩)⟩) _ rfl
          refine DoesG.plain rfl (Does.mono (d_pickF ha rfl (decide_eq_false hc1) rfl) ?_)
          rintro v wJ ⟨rfl, rfl⟩
          exact ⟨HasB.put hB 9 rfl rfl rfl rfl, hE, hr, r1, r2⟩
        · intro b a wI hI hb hn hc
          obtain ⟨hB, hE, hr, r1, r2⟩ := hI
          have ha : Has 40 [(15, .bool false)] a := hB.get [9] (List.forall_mem_cons.2 ⟨(hn 9 (mem_needs rfl)), (fun _ h => by cases h)⟩) _ rfl
          refine DoesG.plain rfl (Does.mono (d_move ha rfl) ?_)
          rintro v wJ ⟨rfl, rfl⟩
          exact ⟨HasB.put hB 10 rfl rfl rfl rfl, hE, hr, r1, r2⟩
        · intro b a wI hI hb hn hc
          obtain ⟨hB, hE, hr, r1, r2⟩ := hI
          have ha : Has 40 [(0, .slice p1 a0.length c1), (16, .bool false)] a := hB.get [10] (List.forall_mem_cons.2 ⟨(hn 10 (mem_needs rfl)), (fun _ h => by cases h)⟩) _ rfl
          refine DoesG.off rfl ha rfl rfl rfl rfl ?_
          exact ⟨HasB.put hB 11 rfl rfl rfl rfl, hE, hr, r1, r2⟩
        · intro b a wI hI hb hn hc
          obtain ⟨hB, hE, hr, r1, r2⟩ := hI
          have ha : Has 40 [(5, .int .i64 x1), (16, .bool false)] a := hB.get [10] (List.forall_mem_cons.2 ⟨(hn 10 (mem_needs rfl)), (fun _ h => by cases h)⟩) _ rfl
          refine DoesG.off rfl ha rfl rfl rfl rfl ?_
          exact ⟨HasB.put hB 12 rfl rfl rfl rfl, hE, hr, r1, r2⟩
        · intro b a wI hI hb hn hc
          obtain ⟨hB, hE, hr, r1, r2⟩ := hI
          have ha : Has 40 [(16, .bool false), (17, undef), (18, undef)] a := hB.get [10, 11, 12] (List.forall_mem_cons.2 ⟨(hn 10 (mem_needs rfl)), (List.forall_mem_cons.2 ⟨(hn 11 (mem_needs rfl)), (List.forall_mem_cons.2 ⟨(hn 12 (mem_needs rfl)), (fun _ h => by cases h)⟩)⟩)⟩) _ rfl
          refine DoesG.off rfl ha rfl rfl rfl rfl ?_
          exact ⟨HasB.put hB 13 rfl rfl rfl rfl, hE, hr, r1, r2⟩
        · intro b a wI hI hb hn hc
          obtain ⟨hB, hE, hr, r1, r2⟩ := hI
          have ha : Has 40 [(16, .bool false), (19, undef)] a := hB.get [10, 13] (List.forall_mem_cons.2 ⟨(hn 10 (mem_needs rfl)), (List.forall_mem_cons.2 ⟨(hn 13 (mem_needs rfl)), (fun _ h => by cases h)⟩)⟩) _ rfl
          refine DoesG.off rfl ha rfl rfl rfl rfl ?_
          exact ⟨HasB.put hB 14 rfl rfl rfl rfl, hE, hr, r1, r2⟩
        · intro b a wI hI hb hn hc
          obtain ⟨hB, hE, hr, r1, r2⟩ := hI
          have ha : Has 40 [(1, .slice p2 a1.length c2), (16, .bool false)] a := hB.get [10] (List.forall_mem_cons.2 ⟨(hn 10 (mem_needs rfl)), (fun _ h => by cases h)⟩) _ rfl
          refine DoesG.off rfl ha rfl rfl rfl rfl ?_
          exact ⟨HasB.put hB 15 rfl rfl rfl rfl, hE, hr, r1, r2⟩
        · intro b a wI hI hb hn hc
          obtain ⟨hB, hE, hr, r1, r2⟩ := hI
          have ha : Has 40 [(5, .int .i64 x1), (16, .bool false)] a := hB.get [10] (List.forall_mem_cons.2 ⟨(hn 10 (mem_needs rfl)), (fun _ h => by cases h)⟩) _ rfl
          refine DoesG.off rfl ha rfl rfl rfl rfl ?_
          exact ⟨HasB.put hB 16 rfl rfl rfl rfl, hE, hr, r1, r2⟩
        · intro b a wI hI hb hn hc
          obtain ⟨hB, hE, hr, r1, r2⟩ := hI
          have ha : Has 40 [(16, .bool false), (21, undef), (22, undef)] a := hB.get [10, 15, 16] (List.forall_mem_cons.2 ⟨(hn 10 (mem_needs rfl)), (List.forall_mem_cons.2 ⟨(hn 15 (mem_needs rfl)), (List.forall_mem_cons.2 ⟨(hn 16 (mem_needs rfl)), (fun _ h => by cases h)⟩)⟩)⟩) _ rfl
          refine DoesG.off rfl ha rfl rfl rfl rfl ?_
          exact ⟨HasB.put hB 17 rfl rfl rfl rfl, hE, hr, r1, r2⟩
        · intro b a wI hI hb hn hc
          obtain ⟨hB, hE, hr, r1, r2⟩ := hI
          have ha : Has 40 [(16, .bool false), (23, undef)] a := hB.get [10, 17] (List.forall_mem_cons.2 ⟨(hn 10 (mem_needs rfl)), (List.forall_mem_cons.2 ⟨(hn 17 (mem_needs rfl)), (fun _ h => by cases h)⟩)⟩) _ rfl
          refine DoesG.off rfl ha rfl rfl rfl rfl ?_
          exact ⟨HasB.put hB 18 rfl rfl rfl rfl, hE, hr, r1, r2⟩
      · intro b a w4 hb hI
        obtain ⟨hB, hE, hr, r1, r2⟩ := hI
        have ha : Has 40 [(6, .int .i64 x1), (7, .slice p1 a0.length c1), (8, .int .i64 (a0.length : Int)), (9, .bool (decide (x1 < (a0.length : Int)))), (10, .bool (decide (x1 < (a0.length : Int)))), (11, undef), (12, undef), (13, undef), (14, undef), (15, .bool false), (16, .bool false), (17, undef), (18, undef), (19, undef), (20, undef), (21, undef), (22, undef), (23, undef), (24, undef), (0, .slice p1 a0.length c1), (1, .slice p2 a1.length c2), (5, .int .i64 x1)] a := hB.get [0, 1, 2, 3, 4, 5, 6, 7, 8, 9, 10, 11, 12, 13, 14, 15, 16, 17, 18] (List.forall_mem_cons.2 ⟨(hb 0 (by decide) (by decide)), (List.forall_mem_cons.2 ⟨(hb 1 (by decide) (by decide)), (List.forall_mem_cons.2 ⟨(hb 2 (by decide) (by decide)), (List.forall_mem_cons.2 ⟨(hb 3 (by decide) (by decide)), (List.forall_mem_cons.2 ⟨(hb 4 (by decide) (by decide)), (List.forall_mem_cons.2 ⟨(hb 5 (by decide) (by decide)), (List.forall_mem_cons.2 ⟨(hb 6 (by decide) (by decide)), (List.forall_mem_cons.2 ⟨(hb 7 (by decide) (by decide)), (List.forall_mem_cons.2 ⟨(hb 8 (by decide) (by decide)), (List.forall_mem_cons.2 ⟨(hb 9 (by decide) (by decide)), (List.forall_mem_cons.2 ⟨(hb 10 (by decide) (by decide)), (List.forall_mem_cons.2 ⟨(hb 11 (by decide) (by decide)), (List.forall_mem_cons.2 ⟨(hb 12 (by decide) (by decide)), (List.forall_mem_cons.2 ⟨(hb 13 (by decide) (by decide)), (List.forall_mem_cons.2 ⟨(hb 14 (by decide) (by decide)), (List.forall_mem_cons.2 ⟨(hb 15 (by decide) (by decide)), (List.forall_mem_cons.2 ⟨(hb 16 (by decide) (by decide)), (List.forall_mem_cons.2 ⟨(hb 17 (by decide) (by decide)), (List.forall_mem_cons.2 ⟨(hb 18 (by decide) (by decide)), (fun _ h => by cases h)⟩)⟩)⟩)⟩)⟩)⟩)⟩)⟩)⟩)⟩)⟩)⟩)⟩)⟩)⟩)⟩)⟩)⟩)⟩) _ rfl
        refine goOff ha rfl rfl rfl rfl rfl fun a ha => ?_
        refine go1 ha rfl (d_pickF ha rfl rfl rfl) fun a ha => ?_
        refine nil_ ?_
        refine hK6 _ _ ?_
        have ha := ha.to (l' := [(0, _), (1, _), (5, _), (26, _)]) rfl
        refine wcond_f ha rfl rfl ?_
        refine wp_exit ?_
        refine hK3 _ _ ?_
        have ha := ha.to (l' := [(0, _), (1, _), (5, _)]) rfl
        refine wp_seq_k (fun K17 hK17 => ?_)
        refine wp_seq_k (fun K18 hK18 => ?_)
        refine wreg ?_
        refine go1 ha rfl (d_move ha rfl) fun a ha => ?_
        refine go1 ha rfl (d_move ha rfl) fun a ha => ?_
        refine go1 ha rfl (d_lenSlice ha Try.underlying22 rfl) fun a ha => ?_
        refine go1 ha rfl (d_eqI ha rfl rfl) fun a ha => ?_
        refine go1 ha rfl (d_move ha rfl) fun a ha => ?_
        rcases ite_elim hF with ⟨hc10, hF⟩ | ⟨hc10, hF⟩
        · refine goOn1 ha rfl rfl rfl rfl (decide_eq_true hc10) (d_move ha rfl) fun a ha => ?_
          refine goOn1 ha rfl rfl rfl rfl (decide_eq_true hc10) (d_move ha rfl) fun a ha => ?_
          refine goOn1 ha rfl rfl rfl rfl (decide_eq_true hc10) (d_lenSlice ha Try.underlying22 rfl) fun a ha => ?_
          refine goOn1 ha rfl rfl rfl rfl (decide_eq_true hc10) (d_eqI ha rfl rfl) fun a ha => ?_
          refine go1 ha rfl (d_pick ha rfl (decide_eq_true hc10) rfl) fun a ha => ?_
          refine nil_ ?_
          refine hK18 _ _ ?_
          have ha := ha.to (l' := [(5, _), (38, _)]) rfl
          rcases ite_elim hF with ⟨hc11, hF⟩ | ⟨hc11, hF⟩
          · refine wcond_t ha rfl (decide_eq_true hc11) ?_
            refine wp_seq_k (fun K19 hK19 => ?_)
            refine wreg ?_
            refine go1 ha rfl (d_assign ha rfl) fun a ha => ?_
            refine nil_ ?_
            refine hK19 _ _ ?_
            have ha := ha.to (l' := [(4, _)]) rfl
            refine wp_ret ?_
            injection hF with hF
            subst hF
            refine fin1 ha Try.results12 rfl ?_
            exact ⟨rfl, hE⟩
          · refine wcond_f ha rfl (decide_eq_false hc11) ?_
            refine wp_skip ?_
            refine hK17 _ _ ?_
            have ha := ha.to (l' := [(5, _)]) rfl
            refine wp_seq_k (fun K20 hK20 => ?_)
            refine wreg ?_
            refine go1 ha rfl (d_move ha rfl) fun a ha => ?_
            refine go1 ha rfl (d_assign ha rfl) fun a ha => ?_
            refine nil_ ?_
            refine hK20 _ _ ?_
            have ha := ha.to (l' := [(4, _)]) rfl
            refine wp_ret ?_
            injection hF with hF
            subst hF
            refine fin1 ha Try.results12 rfl ?_
            exact ⟨rfl, hE⟩
        · refine goOff ha rfl rfl rfl rfl (decide_eq_false hc10) fun a ha => ?_
          refine goOff ha rfl rfl rfl rfl (decide_eq_false hc10) fun a ha => ?_
          refine goOff ha rfl rfl rfl rfl (decide_eq_false hc10) fun a ha => ?_
          refine goOff ha rfl rfl rfl rfl (decide_eq_false hc10) fun a ha => ?_
          refine go1 ha rfl (d_pickF ha rfl (decide_eq_false hc10) rfl) fun a ha => ?_
          refine nil_ ?_
          refine hK18 _ _ ?_
          have ha := ha.to (l' := [(5, _), (38, _)]) rfl
          refine wcond_f ha rfl rfl ?_
          refine wp_skip ?_
          refine hK17 _ _ ?_
          have ha := ha.to (l' := [(5, _)]) rfl
          refine wp_seq_k (fun K21 hK21 => ?_)
          refine wreg ?_
          refine go1 ha rfl (d_move ha rfl) fun a ha => ?_
          refine go1 ha rfl (d_assign ha rfl) fun a ha => ?_
          refine nil_ ?_
          refine hK21 _ _ ?_
          have ha := ha.to (l' := [(4, _)]) rfl
          refine wp_ret ?_
          injection hF with hF
          subst hF
          refine fin1 ha Try.results12 rfl ?_
          exact ⟨rfl, hE⟩

def warderref02_Text_l0 (k : Nat) (a0 : List Int) : Nat → ByteArray → Int → Option (ByteArray)
  | 0, _, _ => none
  | k1 + 1, x1, x2 =>
    (if x2 < (a0.length : Int) then (ck (0 ≤ x2 ∧ x2 < (a0.length : Int)) (if (a0.getD (x2).toNat (0 : Int)) < (10 : Int) then (ck (0 ≤ x2 ∧ x2 < (a0.length : Int)) (ck (x1.size + (strOf ([IntKind.u8.wrap ((48 : Int) + (a0.getD (x2).toNat (0 : Int)))] : List (Int))).size ≤ 140737488355328) (warderref02_Text_l0 k a0 k1 (x1 ++ (strOf ([IntKind.u8.wrap ((48 : Int) + (a0.getD (x2).toNat (0 : Int)))] : List (Int)))) (IntKind.i64.wrap (x2 + (1 : Int)))))) else (ck (0 ≤ x2 ∧ x2 < (a0.length : Int)) (if (a0.getD (x2).toNat (0 : Int)) < (16 : Int) then (ck (0 ≤ x2 ∧ x2 < (a0.length : Int)) (ck (x1.size + (strOf ([IntKind.u8.wrap ((IntKind.u8.wrap ((97 : Int) + (a0.getD (x2).toNat (0 : Int)))) - (10 : Int))] : List (Int))).size ≤ 140737488355328) (warderref02_Text_l0 k a0 k1 (x1 ++ (strOf ([IntKind.u8.wrap ((IntKind.u8.wrap ((97 : Int) + (a0.getD (x2).toNat (0 : Int)))) - (10 : Int))] : List (Int)))) (IntKind.i64.wrap (x2 + (1 : Int)))))) else (ck (x1.size + (strOf ([(63 : Int)] : List (Int))).size ≤ 140737488355328) (warderref02_Text_l0 k a0 k1 (x1 ++ (strOf ([(63 : Int)] : List (Int)))) (IntKind.i64.wrap (x2 + (1 : Int))))))))) else (some x1))

def warderref02_Text (k : Nat) (a0 : List Int) : Option (ByteArray) :=
  (warderref02_Text_l0 k a0 k (⟨#[]⟩ : ByteArray) (0 : Int))

set_option maxHeartbeats 4000000 in
set_option maxRecDepth 100000 in
theorem warderref02_Text_c (k : Nat) (a0 : List Int) (p1 : Option Addr) (c1 : Nat) (W : Nat → Prop) (w : World) (hW : ∀ k, W k → k < w.heap.size) (r1 : Raw (Av [] W) (Kd.int .u8) w.heap p1 c1 a0) (r : ByteArray) (hF : warderref02_Text k a0 = some r) :
    Calls Try.prog 14 [.slice p1 a0.length c1].toArray w (Ret fun v w' => v = .string r ∧ Ex w (Av [] No) [] w') := by
  unfold warderref02_Text at hF
  refine enter [(0, .slice p1 a0.length c1)] Try.func14 rfl Try.ntmps14 rfl rfl fun a ha => ?_
  have hE : Ex w (Av [] No) [] w := Ex.refl w _
  have hW0 : ∀ p, some p ∈ ([] : List (Option Addr)) → ¬ W p.block := fun _ h => by cases h
  refine wp_seq_k (fun K1 hK1 => ?_)
  refine wreg ?_
  refine go1 ha rfl (d_assign ha rfl) fun a ha => ?_
  refine nil_ ?_
  refine hK1 _ _ ?_
  have ha := ha.to (l' := [(0, _)]) rfl
  refine wp_seq_k (fun K2 hK2 => ?_)
  refine wreg ?_
  refine go1 ha rfl (d_assign ha rfl) fun a ha => ?_
  refine nil_ ?_
  refine hK2 _ _ ?_
  have ha := ha.to (l' := [(0, _), (3, _)]) rfl
  refine wp_seq_k (fun K3 hK3 => ?_)
  refine wp_seq_k (fun K4 hK4 => ?_)
  refine wreg ?_
  refine go1 ha rfl (d_assign ha rfl) fun a ha => ?_
  refine nil_ ?_
  refine hK4 _ _ ?_
  have ha := ha.to (l' := [(0, _), (3, _), (4, _)]) rfl
  refine wp_block ?_
  refine wloopJ (fun k' a w1 => ∃ (x1 : ByteArray) (x2 : Int), Has 39 [(0, .slice p1 a0.length c1), (3, .string x1), (4, .int .i64 x2)] a ∧ Ex w (Av [] No) [] w1 ∧ Raw (Av [] W) (Kd.int .u8) w1.heap p1 c1 a0 ∧ warderref02_Text_l0 k a0 k' x1 x2 = some r) k ⟨(⟨#[]⟩ : ByteArray), (0 : Int), ha.to rfl, hE, r1, hF⟩ ?_
  rintro k1 a w1 ⟨x1, x2, ha, hE, r1, hF⟩ K5 hK5
  cases k1 with
  | zero => cases hF
  | succ k1 =>
    rw [warderref02_Text_l0] at hF
    refine wp_seq_k (fun K6 hK6 => ?_)
    refine wp_seq_k (fun K7 hK7 => ?_)
    refine wreg ?_
    refine go1 ha rfl (d_move ha rfl) fun a ha => ?_
    refine go1 ha rfl (d_move ha rfl) fun a ha => ?_
    refine go1 ha rfl (d_lenSlice ha Try.underlying22 rfl) fun a ha => ?_
    refine go1 ha rfl (d_lt ha rfl rfl) fun a ha => ?_
    refine nil_ ?_
    refine hK7 _ _ ?_
    have ha := ha.to (l' := [(0, _), (3, _), (4, _), (9, _)]) rfl
    rcases ite_elim hF with ⟨hc1, hF⟩ | ⟨hc1, hF⟩
    · refine wcond_t ha rfl (decide_eq_true hc1) ?_
      refine wp_skip ?_
      refine hK6 _ _ ?_
      have ha := ha.to (l' := [(0, _), (3, _), (4, _)]) rfl
      refine wp_seq_k (fun K8 hK8 => ?_)
      refine wp_block ?_
      refine wp_seq_k (fun K9 hK9 => ?_)
      refine wreg ?_
      refine go1 ha rfl (d_assign ha rfl) fun a ha => ?_
      refine nil_ ?_
      refine hK9 _ _ ?_
      have ha := ha.to (l' := [(0, _), (3, _), (4, _), (5, _)]) rfl
      refine wp_seq_k (fun K10 hK10 => ?_)
      refine wp_seq_k (fun K11 hK11 => ?_)
      refine wreg ?_
      refine go1 ha rfl (d_move ha rfl) fun a ha => ?_
      refine go1 ha rfl (d_move ha rfl) fun a ha => ?_
      obtain ⟨hc2, hF⟩ := ck_elim hF
      refine goS ha rfl (d_index (kd := (Kd.int .u8)) ha rfl rfl Try.underlying22 Try.sizeOf5 r1 hc2 (0 : Int)) fun v a h ha => ?_
      obtain ⟨b1, q1, cs1, rfl, _, hk1, at1⟩ := h
      obtain rfl := hk1
      refine go1 ha rfl (d_load ha rfl (at1.cell 0 rfl) Try.isAgg5) fun a ha => ?_
      refine go1 ha rfl (d_lt ha rfl rfl) fun a ha => ?_
      refine nil_ ?_
      refine hK11 _ _ ?_
      have ha := ha.to (l' := [(0, _), (3, _), (4, _), (5, _), (16, _)]) rfl
      rcases ite_elim hF with ⟨hc3, hF⟩ | ⟨hc3, hF⟩
      · refine wcond_t ha rfl (decide_eq_true hc3) ?_
        refine wreg ?_
        refine go1 ha rfl (d_move ha rfl) fun a ha => ?_
        refine go1 ha rfl (d_move ha rfl) fun a ha => ?_
        obtain ⟨hc4, hF⟩ := ck_elim hF
        refine goS ha rfl (d_index (kd := (Kd.int .u8)) ha rfl rfl Try.underlying22 Try.sizeOf5 r1 hc4 (0 : Int)) fun v a h ha => ?_
        obtain ⟨b2, q2, cs2, rfl, _, hk2, at2⟩ := h
        obtain rfl := hk2
        refine go1 ha rfl (d_load ha rfl (at2.cell 0 rfl) Try.isAgg5) fun a ha => ?_
        refine go1 ha rfl (d_add ha rfl rfl) fun a ha => ?_
        refine go1 ha rfl (d_assign ha rfl) fun a ha => ?_
        refine nil_ ?_
        refine hK10 _ _ ?_
        have ha := ha.to (l' := [(0, _), (3, _), (4, _), (5, _)]) rfl
        refine wreg ?_
        refine go1 ha rfl (d_move ha rfl) fun a ha => ?_
        refine go1 ha rfl (d_move ha rfl) fun a ha => ?_
        refine goR ha rfl (d_buildSlice (B := W) (kd := (Kd.int .u8)) (xs := ([IntKind.u8.wrap ((48 : Int) + (a0.getD (x2).toNat (0 : Int)))] : List (Int))) (vs := [.int .u8 (IntKind.u8.wrap ((48 : Int) + (a0.getD (x2).toNat (0 : Int))))]) ha Try.underlying22 Try.sizeOf5 Try.zeroValue5 rfl (Els.cons (c := [.int .u8 (IntKind.u8.wrap ((48 : Int) + (a0.getD (x2).toNat (0 : Int))))]) (rfl) Els.nil) (by simp [Value.cells, Kd.int, Kd.scalar, Kd.bool, Kd.str, Kd.pair, Kd.sl]) rfl rfl (by decide) (by decide) hE) fun v w2 a h ha => ?_
        obtain ⟨p2, c2, rfl, hs, hE, hf, o1⟩ := h
        have r1 := hs.tr r1
        refine go1 ha rfl (d_b2s ha Try.underlying22 Try.underlying5 Try.underlying9 rfl o1.rawNo) fun a ha => ?_
        obtain ⟨hc5, hF⟩ := ck_elim hF
        refine go1 ha rfl (d_sadd ha rfl rfl (Nat.le_trans hc5 (by decide))) fun a ha => ?_
        refine go1 ha rfl (d_assign ha rfl) fun a ha => ?_
        refine nil_ ?_
        refine hK8 _ _ ?_
        have ha := ha.to (l' := [(0, _), (3, _), (4, _)]) rfl
        refine wreg ?_
        refine go1 ha rfl (d_move ha rfl) fun a ha => ?_
        refine go1 ha rfl (d_add ha rfl rfl) fun a ha => ?_
        refine go1 ha rfl (d_assign ha rfl) fun a ha => ?_
        refine nil_ ?_
        have hs : Step [p2] [] w2 w2 := Step.pick _ _ []
        have r1 := hs.tr r1
        have hE : Ex w (Av [] No) [] w2 := hE.pick [] (by decide)
        exact hK5 k1 _ _ (Nat.lt_succ_self _) ⟨(x1 ++ (strOf ([IntKind.u8.wrap ((48 : Int) + (a0.getD (x2).toNat (0 : Int)))] : List (Int)))), (IntKind.i64.wrap (x2 + (1 : Int))), ha.to rfl, hE, r1, hF⟩
      · refine wcond_f ha rfl (decide_eq_false hc3) ?_
        refine wp_seq_k (fun K12 hK12 => ?_)
        refine wreg ?_
        refine go1 ha rfl (d_move ha rfl) fun a ha => ?_
        refine go1 ha rfl (d_move ha rfl) fun a ha => ?_
        obtain ⟨hc6, hF⟩ := ck_elim hF
        refine goS ha rfl (d_index (kd := (Kd.int .u8)) ha rfl rfl Try.underlying22 Try.sizeOf5 r1 hc6 (0 : Int)) fun v a h ha => ?_
        obtain ⟨b3, q3, cs3, rfl, _, hk3, at3⟩ := h
        obtain rfl := hk3
        refine go1 ha rfl (d_load ha rfl (at3.cell 0 rfl) Try.isAgg5) fun a ha => ?_
        refine go1 ha rfl (d_lt ha rfl rfl) fun a ha => ?_
        refine nil_ ?_
        refine hK12 _ _ ?_
        have ha := ha.to (l' := [(0, _), (3, _), (4, _), (5, _), (26, _)]) rfl
        rcases ite_elim hF with ⟨hc7, hF⟩ | ⟨hc7, hF⟩
        · refine wcond_t ha rfl (decide_eq_true hc7) ?_
          refine wreg ?_
          refine go1 ha rfl (d_move ha rfl) fun a ha => ?_
          refine go1 ha rfl (d_move ha rfl) fun a ha => ?_
          obtain ⟨hc8, hF⟩ := ck_elim hF
          refine goS ha rfl (d_index (kd := (Kd.int .u8)) ha rfl rfl Try.underlying22 Try.sizeOf5 r1 hc8 (0 : Int)) fun v a h ha => ?_
          obtain ⟨b4, q4, cs4, rfl, _, hk4, at4⟩ := h
          obtain rfl := hk4
          refine go1 ha rfl (d_load ha rfl (at4.cell 0 rfl) Try.isAgg5) fun a ha => ?_
          refine go1 ha rfl (d_add ha rfl rfl) fun a ha => ?_
          refine go1 ha rfl (d_sub ha rfl rfl) fun a ha => ?_
          refine go1 ha rfl (d_assign ha rfl) fun a ha => ?_
          refine nil_ ?_
          refine hK10 _ _ ?_
          have ha := ha.to (l' := [(0, _), (3, _), (4, _), (5, _)]) rfl
          refine wreg ?_
          refine go1 ha rfl (d_move ha rfl) fun a ha => ?_
          refine go1 ha rfl (d_move ha rfl) fun a ha => ?_
          refine goR ha rfl (d_buildSlice (B := W) (kd := (Kd.int .u8)) (xs := ([IntKind.u8.wrap ((IntKind.u8.wrap ((97 : Int) + (a0.getD (x2).toNat (0 : Int)))) - (10 : Int))] : List (Int))) (vs := [.int .u8 (IntKind.u8.wrap ((IntKind.u8.wrap ((97 : Int) + (a0.getD (x2).toNat (0 : Int)))) - (10 : Int)))]) ha Try.underlying22 Try.sizeOf5 Try.zeroValue5 rfl (Els.cons (c := [.int .u8 (IntKind.u8.wrap ((IntKind.u8.wrap ((97 : Int) + (a0.getD (x2).toNat (0 : Int)))) - (10 : Int)))]) (rfl) Els.nil) (by simp [Value.cells, Kd.int, Kd.scalar, Kd.bool, Kd.str, Kd.pair, Kd.sl]) rfl rfl (by decide) (by decide) hE) fun v w3 a h ha => ?_
          obtain ⟨p3, c3, rfl, hs, hE, hf, o2⟩ := h
          have r1 := hs.tr r1
          refine go1 ha rfl (d_b2s ha Try.underlying22 Try.underlying5 Try.underlying9 rfl o2.rawNo) fun a ha => ?_
          obtain ⟨hc9, hF⟩ := ck_elim hF
          refine go1 ha rfl (d_sadd ha rfl rfl (Nat.le_trans hc9 (by decide))) fun a ha => ?_
          refine go1 ha rfl (d_assign ha rfl) fun a ha => ?_
          refine nil_ ?_
          refine hK8 _ _ ?_
          have ha := ha.to (l' := [(0, _), (3, _), (4, _)]) rfl
          refine wreg ?_
          refine go1 ha rfl (d_move ha rfl) fun a ha => ?_
          refine go1 ha rfl (d_add ha rfl rfl) fun a ha => ?_
          refine go1 ha rfl (d_assign ha rfl) fun a ha => ?_
          refine nil_ ?_
          have hs : Step [p3] [] w3 w3 := Step.pick _ _ []
          have r1 := hs.tr r1
          have hE : Ex w (Av [] No) [] w3 := hE.pick [] (by decide)
          exact hK5 k1 _ _ (Nat.lt_succ_self _) ⟨(x1 ++ (strOf ([IntKind.u8.wrap ((IntKind.u8.wrap ((97 : Int) + (a0.getD (x2).toNat (0 : Int)))) - (10 : Int))] : List (Int)))), (IntKind.i64.wrap (x2 + (1 : Int))), ha.to rfl, hE, r1, hF⟩
        · refine wcond_f ha rfl (decide_eq_false hc7) ?_
          refine wp_skip ?_
          refine hK10 _ _ ?_
          have ha := ha.to (l' := [(0, _), (3, _), (4, _), (5, _)]) rfl
          refine wreg ?_
          refine go1 ha rfl (d_move ha rfl) fun a ha => ?_
          refine go1 ha rfl (d_move ha rfl) fun a ha => ?_
          refine goR ha rfl (d_buildSlice (B := W) (kd := (Kd.int .u8)) (xs := ([(63 : Int)] : List (Int))) (vs := [.int .u8 (63 : Int)]) ha Try.underlying22 Try.sizeOf5 Try.zeroValue5 rfl (Els.cons (c := [.int .u8 (63 : Int)]) (rfl) Els.nil) (by simp [Value.cells, Kd.int, Kd.scalar, Kd.bool, Kd.str, Kd.pair, Kd.sl]) rfl rfl (by decide) (by decide) hE) fun v w4 a h ha => ?_
          obtain ⟨p4, c4, rfl, hs, hE, hf, o3⟩ := h
          have r1 := hs.tr r1
          refine go1 ha rfl (d_b2s ha Try.underlying22 Try.underlying5 Try.underlying9 rfl o3.rawNo) fun a ha => ?_
          obtain ⟨hc10, hF⟩ := ck_elim hF
          refine go1 ha rfl (d_sadd ha rfl rfl (Nat.le_trans hc10 (by decide))) fun a ha => ?_
          refine go1 ha rfl (d_assign ha rfl) fun a ha => ?_
          refine nil_ ?_
          refine hK8 _ _ ?_
          have ha := ha.to (l' := [(0, _), (3, _), (4, _)]) rfl
          refine wreg ?_
          refine go1 ha rfl (d_move ha rfl) fun a ha => ?_
          refine go1 ha rfl (d_add ha rfl rfl) fun a ha => ?_
          refine go1 ha rfl (d_assign ha rfl) fun a ha => ?_
          refine nil_ ?_
          have hs : Step [p4] [] w4 w4 := Step.pick _ _ []
          have r1 := hs.tr r1
          have hE : Ex w (Av [] No) [] w4 := hE.pick [] (by decide)
          exact hK5 k1 _ _ (Nat.lt_succ_self _) ⟨(x1 ++ (strOf ([(63 : Int)] : List (Int)))), (IntKind.i64.wrap (x2 + (1 : Int))), ha.to rfl, hE, r1, hF⟩
    · refine wcond_f ha rfl (decide_eq_false hc1) ?_
      refine wp_exit ?_
      refine hK3 _ _ ?_
      have ha := ha.to (l' := [(3, _)]) rfl
      refine wp_seq_k (fun K13 hK13 => ?_)
      refine wreg ?_
      refine go1 ha rfl (d_move ha rfl) fun a ha => ?_
      refine go1 ha rfl (d_assign ha rfl) fun a ha => ?_
      refine nil_ ?_
      refine hK13 _ _ ?_
      have ha := ha.to (l' := [(2, _)]) rfl
      refine wp_ret ?_
      injection hF with hF
      subst hF
      refine fin1 ha Try.results14 rfl ?_
      exact ⟨rfl, hE⟩

def warderlaw02_NibbleDiffs_j0 (k : Nat) (a0 : List Int) (a1 : List Int) : Option (Bool) :=
  ((nibble_Diff k a0 a1).bind fun t3 => ((warderref02_Diff k a0 a1).bind fun t4 => (if t3 = t4 then ((nibble_Diff k a1 a0).bind fun t5 => (if t5 = t3 then ((nibble_Diff k a0 a0).bind fun t6 => (if t6 = (-1 : Int) then ((nibble_Text k a0).bind fun t7 => ((warderref02_Text k a0).bind fun t8 => (if t7 = t8 then ((nibble_Text k a1).bind fun t9 => (if (t9.size : Int) = (a1.length : Int) then ((warderlaw02_known k ).bind fun t10 => (some t10)) else (some false))) else (some false)))) else (some false))) else (some false))) else (some false))))

def warderlaw02_NibbleDiffs (k : Nat) (a0 : List Int) (a1 : List Int) : Option (Bool) :=
  (if (500 : Int) < (a0.length : Int) then ((warderlaw02_known k ).bind fun t1 => (some t1)) else (if (500 : Int) < (a1.length : Int) then ((warderlaw02_known k ).bind fun t2 => (some t2)) else (warderlaw02_NibbleDiffs_j0 k a0 a1)))

set_option maxHeartbeats 4000000 in
set_option maxRecDepth 100000 in
theorem warderlaw02_NibbleDiffs_c (k : Nat) (a0 : List Int) (a1 : List Int) (p1 : Option Addr) (c1 : Nat) (p2 : Option Addr) (c2 : Nat) (W : Nat → Prop) (w : World) (hW : ∀ k, W k → k < w.heap.size) (r1 : Raw (Av [] W) (Kd.int .u8) w.heap p1 c1 a0) (r2 : Raw (Av [] W) (Kd.int .u8) w.heap p2 c2 a1) (r : Bool) (hF : warderlaw02_NibbleDiffs k a0 a1 = some r) :
    Calls Try.prog 3 [.slice p1 a0.length c1, .slice p2 a1.length c2].toArray w (Ret fun v w' => v = .bool r ∧ Ex w (Av [] No) [] w') := by
  unfold warderlaw02_NibbleDiffs at hF
  refine enter [(0, .slice p1 a0.length c1), (1, .slice p2 a1.length c2)] Try.func3 rfl Try.ntmps3 rfl rfl fun a ha => ?_
  have hE : Ex w (Av [] No) [] w := Ex.refl w _
  have hW0 : ∀ p, some p ∈ ([] : List (Option Addr)) → ¬ W p.block := fun _ h => by cases h
  refine wp_seq_k (fun K1 hK1 => ?_)
  refine wreg ?_
  refine go1 ha rfl (d_assign ha rfl) fun a ha => ?_
  refine nil_ ?_
  refine hK1 _ _ ?_
  have ha := ha.to (l' := [(0, _), (1, _)]) rfl
  refine wseqJ (fun a w3 => Has 54 [(0, .slice p1 a0.length c1), (1, .slice p2 a1.length c2)] a ∧ Ex w (Av [] No) [] w3 ∧ Raw (Av [] W) (Kd.int .u8) w3.heap p1 c1 a0 ∧ Raw (Av [] W) (Kd.int .u8) w3.heap p2 c2 a1 ∧ warderlaw02_NibbleDiffs_j0 k a0 a1 = some r) ?_ ?_
  · rintro a w3 ⟨ha, hE, r1, r2, hF⟩
    unfold warderlaw02_NibbleDiffs_j0 at hF
    refine wp_seq_k (fun K7 hK7 => ?_)
    refine wreg ?_
    refine go1 ha rfl (d_move ha rfl) fun a ha => ?_
    refine go1 ha rfl (d_move ha rfl) fun a ha => ?_
    obtain ⟨t3, ht3, hF⟩ := bind_elim hF
    refine goR ha rfl (d_call Try.call11 ha (vs := [.slice p1 a0.length c1, .slice p2 a1.length c2]) rfl (nibble_Diff_c k a0 a1 _ _ _ _ (Av [] W) _ (Ex.wlt (as0 := []) (rr := []) (ro := []) hE hW) (Raw.arg (as0 := []) (rr := []) (ro := []) r1 (fun _ h => h)) (Raw.arg (as0 := []) (rr := []) (ro := []) r2 (fun _ h => h)) _ ht3)) fun v w4 a h ha => ?_
    obtain ⟨rfl, hC⟩ := h
    have hs : Step [] [] w3 w4 := hC.callStep []
    have r1 := hs.tr r1
    have r2 := hs.tr r2
    have hE : Ex w (Av [] No) [] w4 := Ex.call (as0 := []) (rt := []) hE hC
    refine go1 ha rfl (d_assign ha rfl) fun a ha => ?_
    refine nil_ ?_
    refine hK7 _ _ ?_
    have ha := ha.to (l' := [(0, _), (1, _), (5, _)]) rfl
    refine wp_seq_k (fun K8 hK8 => ?_)
    refine wreg ?_
    refine go1 ha rfl (d_move ha rfl) fun a ha => ?_
    refine go1 ha rfl (d_move ha rfl) fun a ha => ?_
    refine go1 ha rfl (d_move ha rfl) fun a ha => ?_
    obtain ⟨t4, ht4, hF⟩ := bind_elim hF
    refine goR ha rfl (d_call Try.call12 ha (vs := [.slice p1 a0.length c1, .slice p2 a1.length c2]) rfl (warderref02_Diff_c k a0 a1 _ _ _ _ (Av [] W) _ (Ex.wlt (as0 := []) (rr := []) (ro := []) hE hW) (Raw.arg (as0 := []) (rr := []) (ro := []) r1 (fun _ h => h)) (Raw.arg (as0 := []) (rr := []) (ro := []) r2 (fun _ h => h)) _ ht4)) fun v w5 a h ha => ?_
    obtain ⟨rfl, hC⟩ := h
    have hs : Step [] [] w4 w5 := hC.callStep []
    have r1 := hs.tr r1
    have r2 := hs.tr r2
    have hE : Ex w (Av [] No) [] w5 := Ex.call (as0 := []) (rt := []) hE hC
    refine go1 ha rfl (d_eqI ha rfl rfl) fun a ha => ?_
    refine go1 ha rfl (d_move ha rfl) fun a ha => ?_
    rcases ite_elim hF with ⟨hc3, hF⟩ | ⟨hc3, hF⟩
    · refine goOn1 ha rfl rfl rfl rfl (decide_eq_true hc3) (d_move ha rfl) fun a ha => ?_
      refine goOn1 ha rfl rfl rfl rfl (decide_eq_true hc3) (d_move ha rfl) fun a ha => ?_
      obtain ⟨t5, ht5, hF⟩ := bind_elim hF
      refine goOnR ha rfl rfl rfl rfl (decide_eq_true hc3) (d_call Try.call11 ha (vs := [.slice p2 a1.length c2, .slice p1 a0.length c1]) rfl (nibble_Diff_c k a1 a0 _ _ _ _ (Av [] W) _ (Ex.wlt (as0 := []) (rr := []) (ro := []) hE hW) (Raw.arg (as0 := []) (rr := []) (ro := []) r2 (fun _ h => h)) (Raw.arg (as0 := []) (rr := []) (ro := []) r1 (fun _ h => h)) _ ht5)) fun v w6 a h ha => ?_
      obtain ⟨rfl, hC⟩ := h
      have hs : Step [] [] w5 w6 := hC.callStep []
      have r1 := hs.tr r1
      have r2 := hs.tr r2
      have hE : Ex w (Av [] No) [] w6 := Ex.call (as0 := []) (rt := []) hE hC
      refine goOn1 ha rfl rfl rfl rfl (decide_eq_true hc3) (d_move ha rfl) fun a ha => ?_
      refine goOn1 ha rfl rfl rfl rfl (decide_eq_true hc3) (d_eqI ha rfl rfl) fun a ha => ?_
      refine go1 ha rfl (d_pick ha rfl (decide_eq_true hc3) rfl) fun a ha => ?_
      refine go1 ha rfl (d_move ha rfl) fun a ha => ?_
      rcases ite_elim hF with ⟨hc4, hF⟩ | ⟨hc4, hF⟩
      · refine goOn1 ha rfl rfl rfl rfl (decide_eq_true hc4) (d_move ha rfl) fun a ha => ?_
        refine goOn1 ha rfl rfl rfl rfl (decide_eq_true hc4) (d_move ha rfl) fun a ha => ?_
        obtain ⟨t6, ht6, hF⟩ := bind_elim hF
        refine goOnR ha rfl rfl rfl rfl (decide_eq_true hc4) (d_call Try.call11 ha (vs := [.slice p1 a0.length c1, .slice p1 a0.length c1]) rfl (nibble_Diff_c k a0 a0 _ _ _ _ (Av [] W) _ (Ex.wlt (as0 := []) (rr := []) (ro := []) hE hW) (Raw.arg (as0 := []) (rr := []) (ro := []) r1 (fun _ h => h)) (Raw.arg (as0 := []) (rr := []) (ro := []) r1 (fun _ h => h)) _ ht6)) fun v w7 a h ha => ?_
        obtain ⟨rfl, hC⟩ := h
        have hs : Step [] [] w6 w7 := hC.callStep []
        have r1 := hs.tr r1
        have r2 := hs.tr r2
        have hE : Ex w (Av [] No) [] w7 := Ex.call (as0 := []) (rt := []) hE hC
        refine goOn1 ha rfl rfl rfl rfl (decide_eq_true hc4) (d_eqI ha rfl rfl) fun a ha => ?_
        refine go1 ha rfl (d_pick ha rfl (decide_eq_true hc4) rfl) fun a ha => ?_
        refine go1 ha rfl (d_move ha rfl) fun a ha => ?_
        rcases ite_elim hF with ⟨hc5, hF⟩ | ⟨hc5, hF⟩
        · refine goOn1 ha rfl rfl rfl rfl (decide_eq_true hc5) (d_move ha rfl) fun a ha => ?_
          obtain ⟨t7, ht7, hF⟩ := bind_elim hF
          refine goOnR ha rfl rfl rfl rfl (decide_eq_true hc5) (d_call Try.call13 ha (vs := [.slice p1 a0.length c1]) rfl (nibble_Text_c k a0 _ _ (Av [] W) _ (Ex.wlt (as0 := []) (rr := []) (ro := []) hE hW) (Raw.arg (as0 := []) (rr := []) (ro := []) r1 (fun _ h => h)) _ ht7)) fun v w8 a h ha => ?_
          obtain ⟨rfl, hC⟩ := h
          have hs : Step [] [] w7 w8 := hC.callStep []
          have r1 := hs.tr r1
          have r2 := hs.tr r2
          have hE : Ex w (Av [] No) [] w8 := Ex.call (as0 := []) (rt := []) hE hC
          refine goOn1 ha rfl rfl rfl rfl (decide_eq_true hc5) (d_move ha rfl) fun a ha => ?_
          obtain ⟨t8, ht8, hF⟩ := bind_elim hF
          refine goOnR ha rfl rfl rfl rfl (decide_eq_true hc5) (d_call Try.call14 ha (vs := [.slice p1 a0.length c1]) rfl (warderref02_Text_c k a0 _ _ (Av [] W) _ (Ex.wlt (as0 := []) (rr := []) (ro := []) hE hW) (Raw.arg (as0 := []) (rr := []) (ro := []) r1 (fun _ h => h)) _ ht8)) fun v w9 a h ha => ?_
          obtain ⟨rfl, hC⟩ := h
          have hs : Step [] [] w8 w9 := hC.callStep []
          have r1 := hs.tr r1
          have r2 := hs.tr r2
          have hE : Ex w (Av [] No) [] w9 := Ex.call (as0 := []) (rt := []) hE hC
          refine goOn1 ha rfl rfl rfl rfl (decide_eq_true hc5) (d_eqS ha rfl rfl) fun a ha => ?_
          refine go1 ha rfl (d_pick ha rfl (decide_eq_true hc5) rfl) fun a ha => ?_
          refine go1 ha rfl (d_move ha rfl) fun a ha => ?_
          rcases ite_elim hF with ⟨hc6, hF⟩ | ⟨hc6, hF⟩
          · refine goOn1 ha rfl rfl rfl rfl (decide_eq_true hc6) (d_move ha rfl) fun a ha => ?_
            obtain ⟨t9, ht9, hF⟩ := bind_elim hF
            refine goOnR ha rfl rfl rfl rfl (decide_eq_true hc6) (d_call Try.call13 ha (vs := [.slice p2 a1.length c2]) rfl (nibble_Text_c k a1 _ _ (Av [] W) _ (Ex.wlt (as0 := []) (rr := []) (ro := []) hE hW) (Raw.arg (as0 := []) (rr := []) (ro := []) r2 (fun _ h => h)) _ ht9)) fun v w10 a h ha => ?_
            obtain ⟨rfl, hC⟩ := h
            have hs : Step [] [] w9 w10 := hC.callStep []
            have r1 := hs.tr r1
            have r2 := hs.tr r2
            have hE : Ex w (Av [] No) [] w10 := Ex.call (as0 := []) (rt := []) hE hC
            refine goOn1 ha rfl rfl rfl rfl (decide_eq_true hc6) (d_lenString ha Try.underlying9 rfl) fun a ha => ?_
            refine goOn1 ha rfl rfl rfl rfl (decide_eq_true hc6) (d_move ha rfl) fun a ha => ?_
            refine goOn1 ha rfl rfl rfl rfl (decide_eq_true hc6) (d_lenSlice ha Try.underlying22 rfl) fun a ha => ?_
            refine goOn1 ha rfl rfl rfl rfl (decide_eq_true hc6) (d_eqI ha rfl rfl) fun a ha => ?_
            refine go1 ha rfl (d_pick ha rfl (decide_eq_true hc6) rfl) fun a ha => ?_
            refine go1 ha rfl (d_move ha rfl) fun a ha => ?_
            rcases ite_elim hF with ⟨hc7, hF⟩ | ⟨hc7, hF⟩
            · obtain ⟨t10, ht10, hF⟩ := bind_elim hF
              refine goOnR ha rfl rfl rfl rfl (decide_eq_true hc7) (d_call Try.call10 ha (vs := []) rfl (warderlaw02_known_c k   (Av [] W) _ (Ex.wlt (as0 := []) (rr := []) (ro := []) hE hW)  _ ht10)) fun v w11 a h ha => ?_
              obtain ⟨rfl, hC⟩ := h
              have hs : Step [] [] w10 w11 := hC.callStep []
              have r1 := hs.tr r1
              have r2 := hs.tr r2
              have hE : Ex w (Av [] No) [] w11 := Ex.call (as0 := []) (rt := []) hE hC
              refine go1 ha rfl (d_pick ha rfl (decide_eq_true hc7) rfl) fun a ha => ?_
              refine go1 ha rfl (d_assign ha rfl) fun a ha => ?_
              refine nil_ ?_
              refine hK8 _ _ ?_
              have ha := ha.to (l' := [(4, _)]) rfl
              refine wp_ret ?_
              injection hF with hF
              subst hF
              refine fin1 ha Try.results3 rfl ?_
              exact ⟨rfl, hE⟩
            · refine goOff ha rfl rfl rfl rfl (decide_eq_false hc7) fun a ha => ?_
              refine go1 ha rfl (d_pickF ha rfl (decide_eq_false hc7) rfl) fun a ha => ?_
              refine go1 ha rfl (d_assign ha rfl) fun a ha => ?_
              refine nil_ ?_
              refine hK8 _ _ ?_
              have ha := ha.to (l' := [(4, _)]) rfl
              refine wp_ret ?_
              injection hF with hF
              subst hF
              refine fin1 ha Try.results3 rfl ?_
              exact ⟨rfl, hE⟩
          · refine goOff ha rfl rfl rfl rfl (decide_eq_false hc6) fun a ha => ?_
            refine goOff ha rfl rfl rfl rfl (decide_eq_false hc6) fun a ha => ?_
            refine goOff ha rfl rfl rfl rfl (decide_eq_false hc6) fun a ha => ?_
            refine goOff ha rfl rfl rfl rfl (decide_eq_false hc6) fun a ha => ?_
            refine goOff ha rfl rfl rfl rfl (decide_eq_false hc6) fun a ha => ?_
            refine goOff ha rfl rfl rfl rfl (decide_eq_false hc6) fun a ha => ?_
            refine go1 ha rfl (d_pickF ha rfl (decide_eq_false hc6) rfl) fun a ha => ?_
            refine go1 ha rfl (d_move ha rfl) fun a ha => ?_
            refine goOff ha rfl rfl rfl rfl rfl fun a ha => ?_
            refine go1 ha rfl (d_pickF ha rfl rfl rfl) fun a ha => ?_
            refine go1 ha rfl (d_assign ha rfl) fun a ha => ?_
            refine nil_ ?_
            refine hK8 _ _ ?_
            have ha := ha.to (l' := [(4, _)]) rfl
            refine wp_ret ?_
            injection hF with hF
            subst hF
            refine fin1 ha Try.results3 rfl ?_
            exact ⟨rfl, hE⟩
        · refine goOff ha rfl rfl rfl rfl (decide_eq_false hc5) fun a ha => ?_
          refine goOff ha rfl rfl rfl rfl (decide_eq_false hc5) fun a ha => ?_
          refine goOff ha rfl rfl rfl rfl (decide_eq_false hc5) fun a ha => ?_
          refine goOff ha rfl rfl rfl rfl (decide_eq_false hc5) fun a ha => ?_
          refine goOff ha rfl rfl rfl rfl (decide_eq_false hc5) fun a ha => ?_
          refine go1 ha rfl (d_pickF ha rfl (decide_eq_false hc5) rfl) fun a ha => ?_
          refine go1 ha rfl (d_move ha rfl) fun a ha => ?_
          refine goOff ha rfl rfl rfl rfl rfl fun a ha => ?_
          refine goOff ha rfl rfl rfl rfl rfl fun a ha => ?_
          refine goOff ha rfl rfl rfl rfl rfl fun a ha => ?_
          refine goOff ha rfl rfl rfl rfl rfl fun a ha => ?_
          refine goOff ha rfl rfl rfl rfl rfl fun a ha => ?_
          refine goOff ha rfl rfl rfl rfl rfl fun a ha => ?_
          refine go1 ha rfl (d_pickF ha rfl rfl rfl) fun a ha => ?_
          refine go1 ha rfl (d_move ha rfl) fun a ha => ?_
          refine goOff ha rfl rfl rfl rfl rfl fun a ha => ?_
          refine go1 ha rfl (d_pickF ha rfl rfl rfl) fun a ha => ?_
          refine go1 ha rfl (d_assign ha rfl) fun a ha => ?_
          refine nil_ ?_
          refine hK8 _ _ ?_
          have ha := ha.to (l' := [(4, _)]) rfl
          refine wp_ret ?_
          injection hF with hF
          subst hF
          refine fin1 ha Try.results3 rfl ?_
          exact ⟨rfl, hE⟩
      · refine goOff ha rfl rfl rfl rfl (decide_eq_false hc4) fun a ha => ?_
        refine goOff ha rfl rfl rfl rfl (decide_eq_false hc4) fun a ha => ?_
        refine goOff ha rfl rfl rfl rfl (decide_eq_false hc4) fun a ha => ?_
        refine goOff ha rfl rfl rfl rfl (decide_eq_false hc4) fun a ha => ?_
        refine go1 ha rfl (d_pickF ha rfl (decide_eq_false hc4) rfl) fun a ha => ?_
        refine go1 ha rfl (d_move ha rfl) fun a ha => ?_
        refine goOff ha rfl rfl rfl rfl rfl fun a ha => ?_
        refine goOff ha rfl rfl rfl rfl rfl fun a ha => ?_
        refine goOff ha rfl rfl rfl rfl rfl fun a ha => ?_
        refine goOff ha rfl rfl rfl rfl rfl fun a ha => ?_
        refine goOff ha rfl rfl rfl rfl rfl fun a ha => ?_
        refine go1 ha rfl (d_pickF ha rfl rfl rfl) fun a ha => ?_
        refine go1 ha rfl (d_move ha rfl) fun a ha => ?_
        refine goOff ha rfl rfl rfl rfl rfl fun a ha => ?_
        refine goOff ha rfl rfl rfl rfl rfl fun a ha => ?_
        refine goOff ha rfl rfl rfl rfl rfl fun a ha => ?_
        refine goOff ha rfl rfl rfl rfl rfl fun a ha => ?_
        refine goOff ha rfl rfl rfl rfl rfl fun a ha => ?_
        refine goOff ha rfl rfl rfl rfl rfl fun a ha => ?_
        refine go1 ha rfl (d_pickF ha rfl rfl rfl) fun a ha => ?_
        refine go1 ha rfl (d_move ha rfl) fun a ha => ?_
        refine goOff ha rfl rfl rfl rfl rfl fun a ha => ?_
        refine go1 ha rfl (d_pickF ha rfl rfl rfl) fun a ha => ?_
        refine go1 ha rfl (d_assign ha rfl) fun a ha => ?_
        refine nil_ ?_
        refine hK8 _ _ ?_
        have ha := ha.to (l' := [(4, _)]) rfl
        refine wp_ret ?_
        injection hF with hF
        subst hF
        refine fin1 ha Try.results3 rfl ?_
        exact ⟨rfl, hE⟩
    · refine goOff ha rfl rfl rfl rfl (decide_eq_false hc3) fun a ha => ?_
      refine goOff ha rfl rfl rfl rfl (decide_eq_false hc3) fun a ha => ?_
      refine goOff ha rfl rfl rfl rfl (decide_eq_false hc3) fun a ha => ?_
      refine goOff ha rfl rfl rfl rfl (decide_eq_false hc3) fun a ha => ?_
      refine goOff ha rfl rfl rfl rfl (decide_eq_false hc3) fun a ha => ?_
      refine go1 ha rfl (d_pickF ha rfl (decide_eq_false hc3) rfl) fun a ha => ?_
      refine go1 ha rfl (d_move ha rfl) fun a ha => ?_
      refine goOff ha rfl rfl rfl rfl rfl fun a ha => ?_
      refine goOff ha rfl rfl rfl rfl rfl fun a ha => ?_
      refine goOff ha rfl rfl rfl rfl rfl fun a ha => ?_
      refine goOff ha rfl rfl rfl rfl rfl fun a ha => ?_
      refine go1 ha rfl (d_pickF ha rfl rfl rfl) fun a ha => ?_
      refine go1 ha rfl (d_move ha rfl) fun a ha => ?_
      refine goOff ha rfl rfl rfl rfl rfl fun a ha => ?_
      refine goOff ha rfl rfl rfl rfl rfl fun a ha => ?_
      refine goOff ha rfl rfl rfl rfl rfl fun a ha => ?_
      refine goOff ha rfl rfl rfl rfl rfl fun a ha => ?_
      refine goOff ha rfl rfl rfl rfl rfl fun a ha => ?_
      refine go1 ha rfl (d_pickF ha rfl rfl rfl) fun a ha => ?_
      refine go1 ha rfl (d_move ha rfl) fun a ha => ?_
      refine goOff ha rfl rfl rfl rfl rfl fun a ha => ?_
      refine goOff ha rfl rfl rfl rfl rfl fun a ha => ?_
      refine goOff ha rfl rfl rfl rfl rfl fun a ha => ?_
      refine goOff ha rfl rfl rfl rfl rfl fun a ha => ?_
      refine goOff ha rfl rfl rfl rfl rfl fun a ha => ?_
      refine goOff ha rfl rfl rfl rfl rfl fun a ha => ?_
      refine go1 ha rfl (d_pickF ha rfl rfl rfl) fun a ha => ?_
      refine go1 ha rfl (d_move ha rfl) fun a ha => ?_
      refine goOff ha rfl rfl rfl rfl rfl fun a ha => ?_
      refine go1 ha rfl (d_pickF ha rfl rfl rfl) fun a ha => ?_
      refine go1 ha rfl (d_assign ha rfl) fun a ha => ?_
      refine nil_ ?_
      refine hK8 _ _ ?_
      have ha := ha.to (l' := [(4, _)]) rfl
      refine wp_ret ?_
      injection hF with hF
      subst hF
      refine fin1 ha Try.results3 rfl ?_
      exact ⟨rfl, hE⟩
  · intro K3 hK3
    refine wp_seq_k (fun K4 hK4 => ?_)
    refine wreg ?_
    refine go1 ha rfl (d_move ha rfl) fun a ha => ?_
    refine go1 ha rfl (d_lenSlice ha Try.underlying22 rfl) fun a ha => ?_
    refine go1 ha rfl (d_gt ha rfl rfl) fun a ha => ?_
    refine go1 ha rfl (d_move ha rfl) fun a ha => ?_
    rcases ite_elim hF with ⟨hc1, hF⟩ | ⟨hc1, hF⟩
    · refine goOff ha rfl rfl rfl rfl (decide_eq_true hc1) fun a ha => ?_
      refine goOff ha rfl rfl rfl rfl (decide_eq_true hc1) fun a ha => ?_
      refine goOff ha rfl rfl rfl rfl (decide_eq_true hc1) fun a ha => ?_
      refine go1 ha rfl (d_pick ha rfl (decide_eq_true hc1) rfl) fun a ha => ?_
      refine nil_ ?_
      refine hK4 _ _ ?_
      have ha := ha.to (l' := [(0, _), (1, _), (13, _)]) rfl
      refine wcond_t ha rfl rfl ?_
      refine wp_seq_k (fun K5 hK5 => ?_)
      refine wreg ?_
      obtain ⟨t1, ht1, hF⟩ := bind_elim hF
      refine goR ha rfl (d_call Try.call10 ha (vs := []) rfl (warderlaw02_known_c k   (Av [] W) _ (Ex.wlt (as0 := []) (rr := []) (ro := []) hE hW)  _ ht1)) fun v w1 a h ha => ?_
      obtain ⟨rfl, hC⟩ := h
      have hs : Step [] [] w w1 := hC.callStep []
      have r1 := hs.tr r1
      have r2 := hs.tr r2
      have hE : Ex w (Av [] No) [] w1 := Ex.call (as0 := []) (rt := []) hE hC
      refine go1 ha rfl (d_assign ha rfl) fun a ha => ?_
      refine nil_ ?_
      refine hK5 _ _ ?_
      have ha := ha.to (l' := [(4, _)]) rfl
      refine wp_ret ?_
      injection hF with hF
      subst hF
      refine fin1 ha Try.results3 rfl ?_
      exact ⟨rfl, hE⟩
    · refine goOn1 ha rfl rfl rfl rfl (decide_eq_false hc1) (d_move ha rfl) fun a ha => ?_
      refine goOn1 ha rfl rfl rfl rfl (decide_eq_false hc1) (d_lenSlice ha Try.underlying22 rfl) fun a ha => ?_
      refine goOn1 ha rfl rfl rfl rfl (decide_eq_false hc1) (d_gt ha rfl rfl) fun a ha => ?_
      refine go1 ha rfl (d_pickF ha rfl (decide_eq_false hc1) rfl) fun a ha => ?_
      refine nil_ ?_
      refine hK4 _ _ ?_
      have ha := ha.to (l' := [(0, _), (1, _), (13, _)]) rfl
      rcases ite_elim hF with ⟨hc2, hF⟩ | ⟨hc2, hF⟩
      · refine wcond_t ha rfl (decide_eq_true hc2) ?_
        refine wp_seq_k (fun K6 hK6 => ?_)
        refine wreg ?_
        obtain ⟨t2, ht2, hF⟩ := bind_elim hF
        refine goR ha rfl (d_call Try.call10 ha (vs := []) rfl (warderlaw02_known_c k   (Av [] W) _ (Ex.wlt (as0 := []) (rr := []) (ro := []) hE hW)  _ ht2)) fun v w2 a h ha => ?_
        obtain ⟨rfl, hC⟩ := h
        have hs : Step [] [] w w2 := hC.callStep []
        have r1 := hs.tr r1
        have r2 := hs.tr r2
        have hE : Ex w (Av [] No) [] w2 := Ex.call (as0 := []) (rt := []) hE hC
        refine go1 ha rfl (d_assign ha rfl) fun a ha => ?_
        refine nil_ ?_
        refine hK6 _ _ ?_
        have ha := ha.to (l' := [(4, _)]) rfl
        refine wp_ret ?_
        injection hF with hF
        subst hF
        refine fin1 ha Try.results3 rfl ?_
        exact ⟨rfl, hE⟩
      · refine wcond_f ha rfl (decide_eq_false hc2) ?_
        refine wp_skip ?_
        exact hK3 _ _ ⟨ha.to rfl, hE, r1, r2, hF⟩

def nibble_May_1 (a0 : Int) : Option (Bool) :=
  (if a0 < (33 : Int) then (some true) else (if (126 : Int) < a0 then (some true) else (some (decide (a0 = (59 : Int))))))

set_option maxHeartbeats 4000000 in
set_option maxRecDepth 100000 in
theorem nibble_May_1_c (a0 : Int)  (W : Nat → Prop) (w : World) (hW : ∀ k, W k → k < w.heap.size) (r : Bool) (hF : nibble_May_1 a0 = some r) :
    Calls Try.prog 33 [.int .i32 a0].toArray w (Ret fun v w' => v = .bool r ∧ Ex w (Av [] No) [] w') := by
  unfold nibble_May_1 at hF
  refine enter [(0, .int .i32 a0)] Try.func33 rfl Try.ntmps33 rfl rfl fun a ha => ?_
  have hE : Ex w (Av [] No) [] w := Ex.refl w _
  have hW0 : ∀ p, some p ∈ ([] : List (Option Addr)) → ¬ W p.block := fun _ h => by cases h
  refine wp_seq_k (fun K1 hK1 => ?_)
  refine wreg ?_
  refine go1 ha rfl (d_assign ha rfl) fun a ha => ?_
  refine nil_ ?_
  refine hK1 _ _ ?_
  have ha := ha.to (l' := [(0, _)]) rfl
  refine wp_seq_k (fun K2 hK2 => ?_)
  refine wreg ?_
  refine go1 ha rfl (d_move ha rfl) fun a ha => ?_
  refine go1 ha rfl (d_lt ha rfl rfl) fun a ha => ?_
  refine go1 ha rfl (d_move ha rfl) fun a ha => ?_
  rcases ite_elim hF with ⟨hc1, hF⟩ | ⟨hc1, hF⟩
  · refine goOff ha rfl rfl rfl rfl (decide_eq_true hc1) fun a ha => ?_
    refine goOff ha rfl rfl rfl rfl (decide_eq_true hc1) fun a ha => ?_
    refine go1 ha rfl (d_pick ha rfl (decide_eq_true hc1) rfl) fun a ha => ?_
    refine go1 ha rfl (d_move ha rfl) fun a ha => ?_
    refine goOff ha rfl rfl rfl rfl rfl fun a ha => ?_
    refine goOff ha rfl rfl rfl rfl rfl fun a ha => ?_
    refine go1 ha rfl (d_pick ha rfl rfl rfl) fun a ha => ?_
    refine go1 ha rfl (d_assign ha rfl) fun a ha => ?_
    refine nil_ ?_
    refine hK2 _ _ ?_
    have ha := ha.to (l' := [(2, _)]) rfl
    refine wp_ret ?_
    injection hF with hF
    subst hF
    refine fin1 ha Try.results33 rfl ?_
    exact ⟨rfl, hE⟩
  · refine goOn1 ha rfl rfl rfl rfl (decide_eq_false hc1) (d_move ha rfl) fun a ha => ?_
    refine goOn1 ha rfl rfl rfl rfl (decide_eq_false hc1) (d_gt ha rfl rfl) fun a ha => ?_
    refine go1 ha rfl (d_pickF ha rfl (decide_eq_false hc1) rfl) fun a ha => ?_
    refine go1 ha rfl (d_move ha rfl) fun a ha => ?_
    rcases ite_elim hF with ⟨hc2, hF⟩ | ⟨hc2, hF⟩
    · refine goOff ha rfl rfl rfl rfl (decide_eq_true hc2) fun a ha => ?_
      refine goOff ha rfl rfl rfl rfl (decide_eq_true hc2) fun a ha => ?_
      refine go1 ha rfl (d_pick ha rfl (decide_eq_true hc2) rfl) fun a ha => ?_
      refine go1 ha rfl (d_assign ha rfl) fun a ha => ?_
      refine nil_ ?_
      refine hK2 _ _ ?_
      have ha := ha.to (l' := [(2, _)]) rfl
      refine wp_ret ?_
      injection hF with hF
      subst hF
      refine fin1 ha Try.results33 rfl ?_
      exact ⟨rfl, hE⟩
    · refine goOn1 ha rfl rfl rfl rfl (decide_eq_false hc2) (d_move ha rfl) fun a ha => ?_
      refine goOn1 ha rfl rfl rfl rfl (decide_eq_false hc2) (d_eqI ha rfl rfl) fun a ha => ?_
      refine go1 ha rfl (d_pickF ha rfl (decide_eq_false hc2) rfl) fun a ha => ?_
      refine go1 ha rfl (d_assign ha rfl) fun a ha => ?_
      refine nil_ ?_
      refine hK2 _ _ ?_
      have ha := ha.to (l' := [(2, _)]) rfl
      refine wp_ret ?_
      injection hF with hF
      subst hF
      refine fin1 ha Try.results33 rfl ?_
      exact ⟨rfl, hE⟩

def strings_indexFunc_l0 (k : Nat) (a0 : ByteArray) (a2 : Bool) : Nat → Nat → Option (Int)
  | 0, _ => none
  | k1 + 1, x2 =>
    (if x2 < a0.size then ((nibble_May_1 ((Utf8.decode a0 x2).1 : Int)).bind fun t1 => (bif t1 == a2 then (some (x2 : Int)) else (strings_indexFunc_l0 k a0 a2 k1 (x2 + (Utf8.decode a0 x2).2)))) else (some (-1 : Int)))

def strings_indexFunc (k : Nat) (a0 : ByteArray) (a2 : Bool) : Option (Int) :=
  (strings_indexFunc_l0 k a0 a2 k 0)

set_option maxHeartbeats 4000000 in
set_option maxRecDepth 100000 in
theorem strings_indexFunc_c (k : Nat) (a0 : ByteArray) (a2 : Bool)  (W : Nat → Prop) (w : World) (hW : ∀ k, W k → k < w.heap.size) (r : Int) (hF : strings_indexFunc k a0 a2 = some r) :
    Calls Try.prog 43 [.string a0, .func (.func 33) #[] #[], .bool a2].toArray w (Ret fun v w' => v = .int .i64 r ∧ Ex w (Av [] No) [] w') := by
  unfold strings_indexFunc at hF
  refine enter [(0, .string a0), (1, .func (.func 33) #[] #[]), (2, .bool a2)] Try.func43 rfl Try.ntmps43 rfl rfl fun a ha => ?_
  have hE : Ex w (Av [] No) [] w := Ex.refl w _
  have hW0 : ∀ p, some p ∈ ([] : List (Option Addr)) → ¬ W p.block := fun _ h => by cases h
  refine wp_seq_k (fun K1 hK1 => ?_)
  refine wreg ?_
  refine go1 ha rfl (d_assign ha rfl) fun a ha => ?_
  refine nil_ ?_
  refine hK1 _ _ ?_
  have ha := ha.to (l' := [(0, _), (1, _), (2, _)]) rfl
  refine wp_seq_k (fun K2 hK2 => ?_)
  refine wp_seq_k (fun K3 hK3 => ?_)
  refine wreg ?_
  refine go1 ha rfl (d_move ha rfl) fun a ha => ?_
  refine goR ha rfl (d_range ha Try.underlying9 rfl) fun v w1 a h ha => ?_
  obtain ⟨b1, rfl, hb, hl, x1, hf⟩ := h
  have hs := Step.addB [] hf hb
  have hE := hE.addB hf hb hl
  refine nil_ ?_
  refine hK3 _ _ ?_
  have ha := ha.to (l' := [(1, _), (2, _), (10, _)]) rfl
  refine wp_block ?_
  refine wloopJ (fun k' a w2 => ∃ (x2 : Nat), Has 21 [(1, .func (.func 33) #[] #[]), (2, .bool a2), (10, .pointer (some ⟨b1, 0, none⟩))] a ∧ Ex w (Av [] No) [some ⟨b1, 0, none⟩] w2 ∧ It w2 b1 a0 x2 ∧ strings_indexFunc_l0 k a0 a2 k' x2 = some r) k ⟨0, ha.to rfl, hE, x1, hF⟩ ?_
  rintro k1 a w2 ⟨x2, ha, hE, x1, hF⟩ K4 hK4
  cases k1 with
  | zero => cases hF
  | succ k1 =>
    rw [strings_indexFunc_l0] at hF
    refine wp_seq_k (fun K5 hK5 => ?_)
    refine wreg ?_
    rcases ite_elim hF with ⟨hc1, hF⟩ | ⟨hc1, hF⟩
    · refine goR ha rfl (d_next ha rfl x1 rfl (decide_eq_true hc1)) fun v w3 a h ha => ?_
      obtain ⟨rfl, x1, hf⟩ := h
      have hf := hf.blk1
      have hs := hE.stepAt 0 rfl hf
      have hE := hE.wroteAt 0 rfl hf
      refine go1 ha rfl (d_extract ha rfl rfl) fun a ha => ?_
      refine nil_ ?_
      refine hK5 _ _ ?_
      have ha := ha.to (l' := [(1, _), (2, _), (10, _), (11, _), (12, _)]) rfl
      refine wp_seq_k (fun K6 hK6 => ?_)
      refine wcond_t ha rfl rfl ?_
      refine wp_skip ?_
      refine hK6 _ _ ?_
      have ha := ha.to (l' := [(1, _), (2, _), (10, _), (11, _)]) rfl
      refine wp_block ?_
      refine wp_seq_k (fun K7 hK7 => ?_)
      refine wreg ?_
      refine go1 ha rfl (d_extract ha rfl rfl) fun a ha => ?_
      refine go1 ha rfl (d_extract ha rfl rfl) fun a ha => ?_
      refine go1 ha rfl (d_assign ha rfl) fun a ha => ?_
      refine go1 ha rfl (d_assign ha rfl) fun a ha => ?_
      refine nil_ ?_
      refine hK7 _ _ ?_
      have ha := ha.to (l' := [(1, _), (2, _), (7, _), (8, _), (10, _)]) rfl
      refine wp_seq_k (fun K8 hK8 => ?_)
      refine wreg ?_
      refine go1 ha rfl (d_move ha rfl) fun a ha => ?_
      refine go1 ha rfl (d_move ha rfl) fun a ha => ?_
      obtain ⟨t1, ht1, hF⟩ := bind_elim hF
      refine goR ha rfl (d_callV Try.call33 ha rfl (vs := [.int .i32 ((Utf8.decode a0 x2).1 : Int)]) rfl (nibble_May_1_c ((Utf8.decode a0 x2).1 : Int)  (Av [some ⟨b1, 0, none⟩] W) _ (Ex.wlt (as0 := []) (rr := []) (ro := [some ⟨b1, 0, none⟩]) hE hW)  _ ht1)) fun v w4 a h ha => ?_
      obtain ⟨rfl, hC⟩ := h
      have hs : Step [some ⟨b1, 0, none⟩] [some ⟨b1, 0, none⟩] w3 w4 := hC.callStep [some ⟨b1, 0, none⟩]
      have x1 := x1.keep hC.fr ((Ex.callOff (as0 := []) (rt := [some ⟨b1, 0, none⟩]) hE (u := some ⟨b1, 0, none⟩) (by simp)) _ rfl)
      have hE : Ex w (Av [] No) [some ⟨b1, 0, none⟩] w4 := Ex.call (as0 := []) (rt := [some ⟨b1, 0, none⟩]) hE hC
      refine go1 ha rfl (d_move ha rfl) fun a ha => ?_
      refine go1 ha rfl (d_eqB ha Try.underlying4 rfl rfl) fun a ha => ?_
      refine nil_ ?_
      refine hK8 _ _ ?_
      have ha := ha.to (l' := [(1, _), (2, _), (7, _), (10, _), (19, _)]) rfl
      rcases cond_elim hF with ⟨hc2, hF⟩ | ⟨hc2, hF⟩
      · refine wcond_t ha rfl hc2 ?_
        refine wp_seq_k (fun K9 hK9 => ?_)
        refine wreg ?_
        refine go1 ha rfl (d_move ha rfl) fun a ha => ?_
        refine go1 ha rfl (d_assign ha rfl) fun a ha => ?_
        refine nil_ ?_
        refine hK9 _ _ ?_
        have ha := ha.to (l' := [(6, _)]) rfl
        refine wp_ret ?_
        have hs : Step [some ⟨b1, 0, none⟩] [] w4 w4 := Step.pick _ _ []
        have hE : Ex w (Av [] No) [] w4 := hE.pick [] (by decide)
        injection hF with hF
        subst hF
        refine fin1 ha Try.results43 rfl ?_
        exact ⟨rfl, hE⟩
      · refine wcond_f ha rfl hc2 ?_
        refine wp_skip ?_
        exact hK4 k1 _ _ (Nat.lt_succ_self _) ⟨(x2 + (Utf8.decode a0 x2).2), ha.to rfl, hE, x1, hF⟩
    · refine go1 ha rfl (d_nextEnd ha rfl x1 rfl (decide_eq_false hc1)) fun a ha => ?_
      refine go1 ha rfl (d_extract ha rfl rfl) fun a ha => ?_
      refine nil_ ?_
      refine hK5 _ _ ?_
      have ha := ha.to (l' := [(1, _), (2, _), (10, _), (11, _), (12, _)]) rfl
      refine wp_seq_k (fun K10 hK10 => ?_)
      refine wcond_f ha rfl rfl ?_
      refine wp_exit ?_
      refine hK2 _ _ ?_
      have ha := ha.to (l' := []) rfl
      refine wp_seq_k (fun K11 hK11 => ?_)
      refine wreg ?_
      refine go1 ha rfl (d_assign ha rfl) fun a ha => ?_
      refine nil_ ?_
      refine hK11 _ _ ?_
      have ha := ha.to (l' := [(6, _)]) rfl
      refine wp_ret ?_
      have hs : Step [some ⟨b1, 0, none⟩] [] w2 w2 := Step.pick _ _ []
      have hE : Ex w (Av [] No) [] w2 := hE.pick [] (by decide)
      injection hF with hF
      subst hF
      refine fin1 ha Try.results43 rfl ?_
      exact ⟨rfl, hE⟩

def strings_IndexFunc (k : Nat) (a0 : ByteArray) : Option (Int) :=
  ((strings_indexFunc k a0 true).bind fun t1 => (some t1))

set_option maxHeartbeats 4000000 in
set_option maxRecDepth 100000 in
theorem strings_IndexFunc_c (k : Nat) (a0 : ByteArray)  (W : Nat → Prop) (w : World) (hW : ∀ k, W k → k < w.heap.size) (r : Int) (hF : strings_IndexFunc k a0 = some r) :
    Calls Try.prog 40 [.string a0, .func (.func 33) #[] #[]].toArray w (Ret fun v w' => v = .int .i64 r ∧ Ex w (Av [] No) [] w') := by
  unfold strings_IndexFunc at hF
  refine enter [(0, .string a0), (1, .func (.func 33) #[] #[])] Try.func40 rfl Try.ntmps40 rfl rfl fun a ha => ?_
  have hE : Ex w (Av [] No) [] w := Ex.refl w _
  have hW0 : ∀ p, some p ∈ ([] : List (Option Addr)) → ¬ W p.block := fun _ h => by cases h
  refine wp_seq_k (fun K1 hK1 => ?_)
  refine wreg ?_
  refine go1 ha rfl (d_assign ha rfl) fun a ha => ?_
  refine nil_ ?_
  refine hK1 _ _ ?_
  have ha := ha.to (l' := [(0, _), (1, _)]) rfl
  refine wp_seq_k (fun K2 hK2 => ?_)
  refine wreg ?_
  refine go1 ha rfl (d_move ha rfl) fun a ha => ?_
  refine go1 ha rfl (d_move ha rfl) fun a ha => ?_
  obtain ⟨t1, ht1, hF⟩ := bind_elim hF
  refine goR ha rfl (d_call Try.call43 ha (vs := [.string a0, .func (.func 33) #[] #[], .bool true]) rfl (strings_indexFunc_c k a0 true  (Av [] W) _ (Ex.wlt (as0 := []) (rr := []) (ro := []) hE hW)  _ ht1)) fun v w1 a h ha => ?_
  obtain ⟨rfl, hC⟩ := h
  have hs : Step [] [] w w1 := hC.callStep []
  have hE : Ex w (Av [] No) [] w1 := Ex.call (as0 := []) (rt := []) hE hC
  refine go1 ha rfl (d_assign ha rfl) fun a ha => ?_
  refine nil_ ?_
  refine hK2 _ _ ?_
  have ha := ha.to (l' := [(4, _)]) rfl
  refine wp_ret ?_
  injection hF with hF
  subst hF
  refine fin1 ha Try.results40 rfl ?_
  exact ⟨rfl, hE⟩

def strings_ContainsFunc (k : Nat) (a0 : ByteArray) : Option (Bool) :=
  ((strings_IndexFunc k a0).bind fun t1 => (some (decide ((0 : Int) ≤ t1))))

set_option maxHeartbeats 4000000 in
set_option maxRecDepth 100000 in
theorem strings_ContainsFunc_c (k : Nat) (a0 : ByteArray)  (W : Nat → Prop) (w : World) (hW : ∀ k, W k → k < w.heap.size) (r : Bool) (hF : strings_ContainsFunc k a0 = some r) :
    Calls Try.prog 34 [.string a0, .func (.func 33) #[] #[]].toArray w (Ret fun v w' => v = .bool r ∧ Ex w (Av [] No) [] w') := by
  unfold strings_ContainsFunc at hF
  refine enter [(0, .string a0), (1, .func (.func 33) #[] #[])] Try.func34 rfl Try.ntmps34 rfl rfl fun a ha => ?_
  have hE : Ex w (Av [] No) [] w := Ex.refl w _
  have hW0 : ∀ p, some p ∈ ([] : List (Option Addr)) → ¬ W p.block := fun _ h => by cases h
  refine wp_seq_k (fun K1 hK1 => ?_)
  refine wreg ?_
  refine go1 ha rfl (d_assign ha rfl) fun a ha => ?_
  refine nil_ ?_
  refine hK1 _ _ ?_
  have ha := ha.to (l' := [(0, _), (1, _)]) rfl
  refine wp_seq_k (fun K2 hK2 => ?_)
  refine wreg ?_
  refine go1 ha rfl (d_move ha rfl) fun a ha => ?_
  refine go1 ha rfl (d_move ha rfl) fun a ha => ?_
  obtain ⟨t1, ht1, hF⟩ := bind_elim hF
  refine goR ha rfl (d_call Try.call40 ha (vs := [.string a0, .func (.func 33) #[] #[]]) rfl (strings_IndexFunc_c k a0  (Av [] W) _ (Ex.wlt (as0 := []) (rr := []) (ro := []) hE hW)  _ ht1)) fun v w1 a h ha => ?_
  obtain ⟨rfl, hC⟩ := h
  have hs : Step [] [] w w1 := hC.callStep []
  have hE : Ex w (Av [] No) [] w1 := Ex.call (as0 := []) (rt := []) hE hC
  refine go1 ha rfl (d_ge ha rfl rfl) fun a ha => ?_
  refine go1 ha rfl (d_assign ha rfl) fun a ha => ?_
  refine nil_ ?_
  refine hK2 _ _ ?_
  have ha := ha.to (l' := [(4, _)]) rfl
  refine wp_ret ?_
  injection hF with hF
  subst hF
  refine fin1 ha Try.results34 rfl ?_
  exact ⟨rfl, hE⟩

def nibble_May (k : Nat) (a0_0 : Int) (a0_1 : ByteArray) : Option (Bool) :=
  (if (1 : Int) ≤ a0_0 then (if a0_0 ≤ (4 : Int) then (if (1 : Int) ≤ (a0_1.size : Int) then (if (a0_1.size : Int) ≤ (32 : Int) then ((strings_ContainsFunc k a0_1).bind fun t1 => (some (!t1))) else (some false)) else (some false)) else (some false)) else (some false))

set_option maxHeartbeats 4000000 in
set_option maxRecDepth 100000 in
theorem nibble_May_c (k : Nat) (a0_0 : Int) (a0_1 : ByteArray)  (W : Nat → Prop) (w : World) (hW : ∀ k, W k → k < w.heap.size) (r : Bool) (hF : nibble_May k a0_0 a0_1 = some r) :
    Calls Try.prog 16 [.agg #[.int .i64 a0_0, .string a0_1]].toArray w (Ret fun v w' => v = .bool r ∧ Ex w (Av [] No) [] w') := by
  unfold nibble_May at hF
  refine enter [(0, .agg #[.int .i64 a0_0, .string a0_1])] Try.func16 rfl Try.ntmps16 rfl rfl fun a ha => ?_
  have hE : Ex w (Av [] No) [] w := Ex.refl w _
  have hW0 : ∀ p, some p ∈ ([] : List (Option Addr)) → ¬ W p.block := fun _ h => by cases h
  refine wp_seq_k (fun K1 hK1 => ?_)
  refine wreg ?_
  refine goR ha rfl (d_box (cs := [.int .i64 a0_0, .string a0_1]) ha rfl rfl) fun v w1 a h ha => ?_
  obtain ⟨b1, rfl, hb, hl, x1, hf⟩ := h
  have hs := Step.addB [] hf hb
  have hE := hE.addB hf hb hl
  refine go1 ha rfl (d_assign ha rfl) fun a ha => ?_
  refine nil_ ?_
  refine hK1 _ _ ?_
  have ha := ha.to (l' := [(1, _)]) rfl
  refine wp_seq_k (fun K2 hK2 => ?_)
  refine wreg ?_
  refine go1 ha rfl (d_assign ha rfl) fun a ha => ?_
  refine nil_ ?_
  refine hK2 _ _ ?_
  have ha := ha.to (l' := [(1, _), (3, _)]) rfl
  refine wp_seq_k (fun K3 hK3 => ?_)
  refine wreg ?_
  refine go1 ha rfl (d_fieldAddr (o' := 0) ha rfl Try.underlying29 rfl Try.sizeOf27 rfl) fun a ha => ?_
  refine go1 ha rfl (d_load ha rfl (x1.at_.cell 0 rfl) Try.isAgg27) fun a ha => ?_
  refine go1 ha rfl (d_ge ha rfl rfl) fun a ha => ?_
  refine go1 ha rfl (d_move ha rfl) fun a ha => ?_
  rcases ite_elim hF with ⟨hc1, hF⟩ | ⟨hc1, hF⟩
  · refine goOn1 ha rfl rfl rfl rfl (decide_eq_true hc1) (d_fieldAddr (o' := 0) ha rfl Try.underlying29 rfl Try.sizeOf27 rfl) fun a ha => ?_
    refine goOn1 ha rfl rfl rfl rfl (decide_eq_true hc1) (d_load ha rfl (x1.at_.cell 0 rfl) Try.isAgg27) fun a ha => ?_
    refine goOn1 ha rfl rfl rfl rfl (decide_eq_true hc1) (d_le ha rfl rfl) fun a ha => ?_
    refine go1 ha rfl (d_pick ha rfl (decide_eq_true hc1) rfl) fun a ha => ?_
    refine go1 ha rfl (d_move ha rfl) fun a ha => ?_
    rcases ite_elim hF with ⟨hc2, hF⟩ | ⟨hc2, hF⟩
    · refine goOn1 ha rfl rfl rfl rfl (decide_eq_true hc2) (d_fieldAddr (o' := 1) ha rfl Try.underlying29 rfl Try.sizeOf9 rfl) fun a ha => ?_
      refine goOn1 ha rfl rfl rfl rfl (decide_eq_true hc2) (d_load ha rfl (x1.at_.cell 1 rfl) Try.isAgg9) fun a ha => ?_
      refine goOn1 ha rfl rfl rfl rfl (decide_eq_true hc2) (d_lenString ha Try.underlying9 rfl) fun a ha => ?_
      refine goOn1 ha rfl rfl rfl rfl (decide_eq_true hc2) (d_ge ha rfl rfl) fun a ha => ?_
      refine go1 ha rfl (d_pick ha rfl (decide_eq_true hc2) rfl) fun a ha => ?_
      refine go1 ha rfl (d_move ha rfl) fun a ha => ?_
      rcases ite_elim hF with ⟨hc3, hF⟩ | ⟨hc3, hF⟩
      · refine goOn1 ha rfl rfl rfl rfl (decide_eq_true hc3) (d_fieldAddr (o' := 1) ha rfl Try.underlying29 rfl Try.sizeOf9 rfl) fun a ha => ?_
        refine goOn1 ha rfl rfl rfl rfl (decide_eq_true hc3) (d_load ha rfl (x1.at_.cell 1 rfl) Try.isAgg9) fun a ha => ?_
        refine goOn1 ha rfl rfl rfl rfl (decide_eq_true hc3) (d_lenString ha Try.underlying9 rfl) fun a ha => ?_
        refine goOn1 ha rfl rfl rfl rfl (decide_eq_true hc3) (d_le ha rfl rfl) fun a ha => ?_
        refine go1 ha rfl (d_pick ha rfl (decide_eq_true hc3) rfl) fun a ha => ?_
        refine go1 ha rfl (d_move ha rfl) fun a ha => ?_
        rcases ite_elim hF with ⟨hc4, hF⟩ | ⟨hc4, hF⟩
        · refine goOn1 ha rfl rfl rfl rfl (decide_eq_true hc4) (d_fieldAddr (o' := 1) ha rfl Try.underlying29 rfl Try.sizeOf9 rfl) fun a ha => ?_
          refine goOn1 ha rfl rfl rfl rfl (decide_eq_true hc4) (d_load ha rfl (x1.at_.cell 1 rfl) Try.isAgg9) fun a ha => ?_
          refine goOn1 ha rfl rfl rfl rfl (decide_eq_true hc4) (d_move ha rfl) fun a ha => ?_
          obtain ⟨t1, ht1, hF⟩ := bind_elim hF
          refine goOnR ha rfl rfl rfl rfl (decide_eq_true hc4) (d_call Try.call34 ha (vs := [.string a0_1, .func (.func 33) #[] #[]]) rfl (strings_ContainsFunc_c k a0_1  (Av [some ⟨b1, 0, none⟩] W) _ (Ex.wlt (as0 := []) (rr := []) (ro := [some ⟨b1, 0, none⟩]) hE hW)  _ ht1)) fun v w2 a h ha => ?_
          obtain ⟨rfl, hC⟩ := h
          have hs : Step [some ⟨b1, 0, none⟩] [some ⟨b1, 0, none⟩] w1 w2 := hC.callStep [some ⟨b1, 0, none⟩]
          have x1 := x1.keep hC.fr ((Ex.callOff (as0 := []) (rt := [some ⟨b1, 0, none⟩]) hE (u := some ⟨b1, 0, none⟩) (by simp)) _ rfl)
          have hE : Ex w (Av [] No) [some ⟨b1, 0, none⟩] w2 := Ex.call (as0 := []) (rt := [some ⟨b1, 0, none⟩]) hE hC
          refine goOn1 ha rfl rfl rfl rfl (decide_eq_true hc4) (d_not ha rfl) fun a ha => ?_
          refine go1 ha rfl (d_pick ha rfl (decide_eq_true hc4) rfl) fun a ha => ?_
          refine go1 ha rfl (d_assign ha rfl) fun a ha => ?_
          refine nil_ ?_
          refine hK3 _ _ ?_
          have ha := ha.to (l' := [(2, _)]) rfl
          refine wp_ret ?_
          have hs : Step [some ⟨b1, 0, none⟩] [] w2 w2 := Step.pick _ _ []
          have hE : Ex w (Av [] No) [] w2 := hE.pick [] (by decide)
          injection hF with hF
          subst hF
          refine fin1 ha Try.results16 rfl ?_
          exact ⟨rfl, hE⟩
        · refine goOff ha rfl rfl rfl rfl (decide_eq_false hc4) fun a ha => ?_
          refine goOff ha rfl rfl rfl rfl (decide_eq_false hc4) fun a ha => ?_
          refine goOff ha rfl rfl rfl rfl (decide_eq_false hc4) fun a ha => ?_
          refine goOff ha rfl rfl rfl rfl (decide_eq_false hc4) fun a ha => ?_
          refine goOff ha rfl rfl rfl rfl (decide_eq_false hc4) fun a ha => ?_
          refine go1 ha rfl (d_pickF ha rfl (decide_eq_false hc4) rfl) fun a ha => ?_
          refine go1 ha rfl (d_assign ha rfl) fun a ha => ?_
          refine nil_ ?_
          refine hK3 _ _ ?_
          have ha := ha.to (l' := [(2, _)]) rfl
          refine wp_ret ?_
          have hs : Step [some ⟨b1, 0, none⟩] [] w1 w1 := Step.pick _ _ []
          have hE : Ex w (Av [] No) [] w1 := hE.pick [] (by decide)
          injection hF with hF
          subst hF
          refine fin1 ha Try.results16 rfl ?_
          exact ⟨rfl, hE⟩
      · refine goOff ha rfl rfl rfl rfl (decide_eq_false hc3) fun a ha => ?_
        refine goOff ha rfl rfl rfl rfl (decide_eq_false hc3) fun a ha => ?_
        refine goOff ha rfl rfl rfl rfl (decide_eq_false hc3) fun a ha => ?_
        refine goOff ha rfl rfl rfl rfl (decide_eq_false hc3) fun a ha => ?_
        refine go1 ha rfl (d_pickF ha rfl (decide_eq_false hc3) rfl) fun a ha => ?_
        refine go1 ha rfl (d_move ha rfl) fun a ha => ?_
        refine goOff ha rfl rfl rfl rfl rfl fun a ha => ?_
        refine goOff ha rfl rfl rfl rfl rfl fun a ha => ?_
        refine goOff ha rfl rfl rfl rfl rfl fun a ha => ?_
        refine goOff ha rfl rfl rfl rfl rfl fun a ha => ?_
        refine goOff ha rfl rfl rfl rfl rfl fun a ha => ?_
        refine go1 ha rfl (d_pickF ha rfl rfl rfl) fun a ha => ?_
        refine go1 ha rfl (d_assign ha rfl) fun a ha => ?_
        refine nil_ ?_
        refine hK3 _ _ ?_
        have ha := ha.to (l' := [(2, _)]) rfl
        refine wp_ret ?_
        have hs : Step [some ⟨b1, 0, none⟩] [] w1 w1 := Step.pick _ _ []
        have hE : Ex w (Av [] No) [] w1 := hE.pick [] (by decide)
        injection hF with hF
        subst hF
        refine fin1 ha Try.results16 rfl ?_
        exact ⟨rfl, hE⟩
    · refine goOff ha rfl rfl rfl rfl (decide_eq_false hc2) fun a ha => ?_
      refine goOff ha rfl rfl rfl rfl (decide_eq_false hc2) fun a ha => ?_
      refine goOff ha rfl rfl rfl rfl (decide_eq_false hc2) fun a ha => ?_
      refine goOff ha rfl rfl rfl rfl (decide_eq_false hc2) fun a ha => ?_
      refine go1 ha rfl (d_pickF ha rfl (decide_eq_false hc2) rfl) fun a ha => ?_
      refine go1 ha rfl (d_move ha rfl) fun a ha => ?_
      refine goOff ha rfl rfl rfl rfl rfl fun a ha => ?_
      refine goOff ha rfl rfl rfl rfl rfl fun a ha => ?_
      refine goOff ha rfl rfl rfl rfl rfl fun a ha => ?_
      refine goOff ha rfl rfl rfl rfl rfl fun a ha => ?_
      refine go1 ha rfl (d_pickF ha rfl rfl rfl) fun a ha => ?_
      refine go1 ha rfl (d_move ha rfl) fun a ha => ?_
      refine goOff ha rfl rfl rfl rfl rfl fun a ha => ?_
      refine goOff ha rfl rfl rfl rfl rfl fun a ha => ?_
      refine goOff ha rfl rfl rfl rfl rfl fun a ha => ?_
      refine goOff ha rfl rfl rfl rfl rfl fun a ha => ?_
      refine goOff ha rfl rfl rfl rfl rfl fun a ha => ?_
      refine go1 ha rfl (d_pickF ha rfl rfl rfl) fun a ha => ?_
      refine go1 ha rfl (d_assign ha rfl) fun a ha => ?_
      refine nil_ ?_
      refine hK3 _ _ ?_
      have ha := ha.to (l' := [(2, _)]) rfl
      refine wp_ret ?_
      have hs : Step [some ⟨b1, 0, none⟩] [] w1 w1 := Step.pick _ _ []
      have hE : Ex w (Av [] No) [] w1 := hE.pick [] (by decide)
      injection hF with hF
      subst hF
      refine fin1 ha Try.results16 rfl ?_
      exact ⟨rfl, hE⟩
  · refine goOff ha rfl rfl rfl rfl (decide_eq_false hc1) fun a ha => ?_
    refine goOff ha rfl rfl rfl rfl (decide_eq_false hc1) fun a ha => ?_
    refine goOff ha rfl rfl rfl rfl (decide_eq_false hc1) fun a ha => ?_
    refine go1 ha rfl (d_pickF ha rfl (decide_eq_false hc1) rfl) fun a ha => ?_
    refine go1 ha rfl (d_move ha rfl) fun a ha => ?_
    refine goOff ha rfl rfl rfl rfl rfl fun a ha => ?_
    refine goOff ha rfl rfl rfl rfl rfl fun a ha => ?_
    refine goOff ha rfl rfl rfl rfl rfl fun a ha => ?_
    refine goOff ha rfl rfl rfl rfl rfl fun a ha => ?_
    refine go1 ha rfl (d_pickF ha rfl rfl rfl) fun a ha => ?_
    refine go1 ha rfl (d_move ha rfl) fun a ha => ?_
    refine goOff ha rfl rfl rfl rfl rfl fun a ha => ?_
    refine goOff ha rfl rfl rfl rfl rfl fun a ha => ?_
    refine goOff ha rfl rfl rfl rfl rfl fun a ha => ?_
    refine goOff ha rfl rfl rfl rfl rfl fun a ha => ?_
    refine go1 ha rfl (d_pickF ha rfl rfl rfl) fun a ha => ?_
    refine go1 ha rfl (d_move ha rfl) fun a ha => ?_
    refine goOff ha rfl rfl rfl rfl rfl fun a ha => ?_
    refine goOff ha rfl rfl rfl rfl rfl fun a ha => ?_
    refine goOff ha rfl rfl rfl rfl rfl fun a ha => ?_
    refine goOff ha rfl rfl rfl rfl rfl fun a ha => ?_
    refine goOff ha rfl rfl rfl rfl rfl fun a ha => ?_
    refine go1 ha rfl (d_pickF ha rfl rfl rfl) fun a ha => ?_
    refine go1 ha rfl (d_assign ha rfl) fun a ha => ?_
    refine nil_ ?_
    refine hK3 _ _ ?_
    have ha := ha.to (l' := [(2, _)]) rfl
    refine wp_ret ?_
    have hs : Step [some ⟨b1, 0, none⟩] [] w1 w1 := Step.pick _ _ []
    have hE : Ex w (Av [] No) [] w1 := hE.pick [] (by decide)
    injection hF with hF
    subst hF
    refine fin1 ha Try.results16 rfl ?_
    exact ⟨rfl, hE⟩

def nibble_cut_uint16_l0 (k : Nat) (a1 : Int) : Nat → Int → (List Int) → Int → Option ((List Int))
  | 0, _, _, _ => none
  | k1 + 1, x1, x2, x3 =>
    (if x3 < ((List.replicate (a1).toNat (0 : Int)).length : Int) then (ck (0 ≤ IntKind.i64.wrap ((IntKind.i64.wrap (a1 - (1 : Int))) - x3) ∧ IntKind.i64.wrap ((IntKind.i64.wrap (a1 - (1 : Int))) - x3) < (x2.length : Int)) (nibble_cut_uint16_l0 k a1 k1 (shr .u16 x1 (4 : Int)) (x2.set (IntKind.i64.wrap ((IntKind.i64.wrap (a1 - (1 : Int))) - x3)).toNat (IntKind.u8.wrap (bits .and .u16 x1 (15 : Int)))) (IntKind.i64.wrap (x3 + (1 : Int))))) else (some x2))

def nibble_cut_uint16 (k : Nat) (a0 : Int) (a1 : Int) : Option ((List Int)) :=
  (ck (0 ≤ a1 ∧ a1 * 1 ≤ 140737488355328) (nibble_cut_uint16_l0 k a1 k a0 (List.replicate (a1).toNat (0 : Int)) (0 : Int)))

set_option maxHeartbeats 4000000 in
set_option maxRecDepth 100000 in
theorem nibble_cut_uint16_c (k : Nat) (a0 : Int) (a1 : Int)  (W : Nat → Prop) (w : World) (hW : ∀ k, W k → k < w.heap.size) (r : (List Int)) (hF : nibble_cut_uint16 k a0 a1 = some r) :
    Calls Try.prog 29 [.int .u16 a0, .int .i64 a1].toArray w (Ret fun v w' => ∃ (u1 : Option Addr) (d1 : Nat), v = .slice u1 r.length d1 ∧ Ex w (Av [] No) [u1] w' ∧ Ow (Av [u1] W) w' 5 (Kd.int .u8) u1 d1 r) := by
  unfold nibble_cut_uint16 at hF
  refine enter [(0, .int .u16 a0), (1, .int .i64 a1)] Try.func29 rfl Try.ntmps29 rfl rfl fun a ha => ?_
  have hE : Ex w (Av [] No) [] w := Ex.refl w _
  have hW0 : ∀ p, some p ∈ ([] : List (Option Addr)) → ¬ W p.block := fun _ h => by cases h
  refine wp_seq_k (fun K1 hK1 => ?_)
  refine wreg ?_
  refine go1 ha rfl (d_assign ha rfl) fun a ha => ?_
  refine nil_ ?_
  refine hK1 _ _ ?_
  have ha := ha.to (l' := [(0, _), (1, _)]) rfl
  refine wp_seq_k (fun K2 hK2 => ?_)
  refine wreg ?_
  refine go1 ha rfl (d_move ha rfl) fun a ha => ?_
  obtain ⟨hc1, hF⟩ := ck_elim hF
  refine goR ha rfl (d_make (B := W) (kd := (Kd.int .u8)) (zx := (0 : Int)) (zv := .int .u8 (0 : Int)) (bytes := 1) ha Try.underlying22 (by kernel_rfl) (by decide) (fun _ _ => rfl) rfl rfl hE hc1.1 hc1.2) fun v w1 a h ha => ?_
  obtain ⟨p1, c1, rfl, hs, hE, hf, o1⟩ := h
  refine go1 ha rfl (d_assign ha rfl) fun a ha => ?_
  refine nil_ ?_
  refine hK2 _ _ ?_
  have ha := ha.to (l' := [(0, _), (1, _), (5, _)]) rfl
  refine wp_seq_k (fun K3 hK3 => ?_)
  refine wp_seq_k (fun K4 hK4 => ?_)
  refine wreg ?_
  refine go1 ha rfl (d_move ha rfl) fun a ha => ?_
  refine go1 ha rfl (d_lenSlice ha Try.underlying22 rfl) fun a ha => ?_
  refine go1 ha rfl (d_move ha rfl) fun a ha => ?_
  refine nil_ ?_
  refine hK4 _ _ ?_
  have ha := ha.to (l' := [(0, _), (1, _), (5, _), (10, _), (11, _)]) rfl
  refine wp_block ?_
  refine wloopJ (fun k' a w2 => ∃ (x1 : Int) (x2 : List Int) (p2 : Option Addr) (c2 : Nat) (x3 : Int), Has 27 [(0, .int .u16 x1), (1, .int .i64 a1), (5, .slice p2 x2.length c2), (10, .int .i64 ((List.replicate (a1).toNat (0 : Int)).length : Int)), (11, .int .i64 x3)] a ∧ Ex w (Av [] No) [p2] w2 ∧ Ow (Av [p2] W) w2 5 (Kd.int .u8) p2 c2 x2 ∧ nibble_cut_uint16_l0 k a1 k' x1 x2 x3 = some r) k ⟨a0, (List.replicate (a1).toNat (0 : Int)), _, _, (0 : Int), ha.to rfl, hE, o1, hF⟩ ?_
  rintro k1 a w2 ⟨x1, x2, p2, c2, x3, ha, hE, o2, hF⟩ K5 hK5
  cases k1 with
  | zero => cases hF
  | succ k1 =>
    rw [nibble_cut_uint16_l0] at hF
    refine wp_seq_k (fun K6 hK6 => ?_)
    refine wreg ?_
    refine go1 ha rfl (d_lt ha rfl rfl) fun a ha => ?_
    refine nil_ ?_
    refine hK6 _ _ ?_
    have ha := ha.to (l' := [(0, _), (1, _), (5, _), (10, _), (11, _), (12, _)]) rfl
    refine wp_seq_k (fun K7 hK7 => ?_)
    rcases ite_elim hF with ⟨hc2, hF⟩ | ⟨hc2, hF⟩
    · refine wcond_t ha rfl (decide_eq_true hc2) ?_
      refine wp_skip ?_
      refine hK7 _ _ ?_
      have ha := ha.to (l' := [(0, _), (1, _), (5, _), (10, _), (11, _)]) rfl
      refine wp_seq_k (fun K8 hK8 => ?_)
      refine wp_block ?_
      refine wp_seq_k (fun K9 hK9 => ?_)
      refine wreg ?_
      refine go1 ha rfl (d_move ha rfl) fun a ha => ?_
      refine go1 ha rfl (d_assign ha rfl) fun a ha => ?_
      refine nil_ ?_
      refine hK9 _ _ ?_
      have ha := ha.to (l' := [(0, _), (1, _), (5, _), (6, _), (10, _), (11, _)]) rfl
      refine wp_seq_k (fun K10 hK10 => ?_)
      refine wreg ?_
      refine go1 ha rfl (d_move ha rfl) fun a ha => ?_
      refine go1 ha rfl (d_move ha rfl) fun a ha => ?_
      refine go1 ha rfl (d_sub ha rfl rfl) fun a ha => ?_
      refine go1 ha rfl (d_move ha rfl) fun a ha => ?_
      refine go1 ha rfl (d_sub ha rfl rfl) fun a ha => ?_
      refine go1 ha rfl (d_move ha rfl) fun a ha => ?_
      refine go1 ha rfl (d_and ha rfl rfl) fun a ha => ?_
      refine go1 ha rfl (d_cvt ha Try.underlying32 Try.underlying5 rfl) fun a ha => ?_
      obtain ⟨hc3, hF⟩ := ck_elim hF
      refine goS ha rfl (d_indexOw (kd := (Kd.int .u8)) ha rfl rfl Try.underlying22 Try.sizeOf5 o2 hc3) fun v a h ha => ?_
      obtain ⟨b1, e1, rfl⟩ := h
      have hq1 : (IntKind.i64.wrap ((IntKind.i64.wrap (a1 - (1 : Int))) - x3)).toNat < x2.length := by omega
      refine goR0 ha (d_storeOw (B := W) (kd := (Kd.int .u8)) (lf := []) (rt := []) (vs := [.int .u8 (IntKind.u8.wrap (bits .and .u16 x1 (15 : Int)))]) (yv := IntKind.u8.wrap (bits .and .u16 x1 (15 : Int))) (fun q => [q]) (fun _ => rfl) ha Try.sizeOf5 e1 rfl rfl rfl hE o2 hq1 (rfl)) fun v w3 a h ha => ?_
      obtain ⟨hs, hE1, hf, o2⟩ := h
      have hE := hE1
      have ha : Has 27 [(0, .int .u16 x1), (1, .int .i64 a1), (5, .slice p2 (x2.set (IntKind.i64.wrap ((IntKind.i64.wrap (a1 - (1 : Int))) - x3)).toNat (IntKind.u8.wrap (bits .and .u16 x1 (15 : Int)))).length c2), (6, .int .i64 x3), (10, .int .i64 ((List.replicate (a1).toNat (0 : Int)).length : Int)), (11, .int .i64 x3), (14, .slice p2 (x2.set (IntKind.i64.wrap ((IntKind.i64.wrap (a1 - (1 : Int))) - x3)).toNat (IntKind.u8.wrap (bits .and .u16 x1 (15 : Int)))).length c2), (15, .int .i64 a1), (16, .int .i64 (IntKind.i64.wrap (a1 - (1 : Int)))), (17, .int .i64 x3), (18, .int .i64 (IntKind.i64.wrap ((IntKind.i64.wrap (a1 - (1 : Int))) - x3))), (19, .int .u16 x1), (20, .int .u16 (bits .and .u16 x1 (15 : Int))), (21, .int .u8 (IntKind.u8.wrap (bits .and .u16 x1 (15 : Int))))] a := by simpa only [List.length_set] using ha.to (l' := [(0, _), (1, _), (5, _), (6, _), (10, _), (11, _), (14, _), (15, _), (16, _), (17, _), (18, _), (19, _), (20, _), (21, _)]) rfl
      refine nil_ ?_
      refine hK10 _ _ ?_
      have ha := ha.to (l' := [(0, _), (1, _), (5, _), (10, _), (11, _)]) rfl
      refine wreg ?_
      refine go1 ha rfl (d_move ha rfl) fun a ha => ?_
      refine go1 ha rfl (d_shr ha rfl rfl (by decide)) fun a ha => ?_
      refine go1 ha rfl (d_assign ha rfl) fun a ha => ?_
      refine nil_ ?_
      refine hK8 _ _ ?_
      have ha := ha.to (l' := [(0, _), (1, _), (5, _), (10, _), (11, _)]) rfl
      refine wreg ?_
      refine go1 ha rfl (d_add ha rfl rfl) fun a ha => ?_
      refine go1 ha rfl (d_move ha rfl) fun a ha => ?_
      refine nil_ ?_
      exact hK5 k1 _ _ (Nat.lt_succ_self _) ⟨(shr .u16 x1 (4 : Int)), (x2.set (IntKind.i64.wrap ((IntKind.i64.wrap (a1 - (1 : Int))) - x3)).toNat (IntKind.u8.wrap (bits .and .u16 x1 (15 : Int)))), _, _, (IntKind.i64.wrap (x3 + (1 : Int))), ha.to rfl, hE, o2, hF⟩
    · refine wcond_f ha rfl (decide_eq_false hc2) ?_
      refine wp_exit ?_
      refine hK3 _ _ ?_
      have ha := ha.to (l' := [(5, _)]) rfl
      refine wp_seq_k (fun K11 hK11 => ?_)
      refine wreg ?_
      refine go1 ha rfl (d_move ha rfl) fun a ha => ?_
      refine go1 ha rfl (d_assign ha rfl) fun a ha => ?_
      refine nil_ ?_
      refine hK11 _ _ ?_
      have ha := ha.to (l' := [(4, _)]) rfl
      refine wp_ret ?_
      injection hF with hF
      subst hF
      refine fin1 ha Try.results29 rfl ?_
      exact ⟨_, _, rfl, hE, o2⟩

def nibble_cut_int_l0 (k : Nat) (a1 : Int) : Nat → Int → (List Int) → Int → Option ((List Int))
  | 0, _, _, _ => none
  | k1 + 1, x1, x2, x3 =>
    (if x3 < ((List.replicate (a1).toNat (0 : Int)).length : Int) then (ck (0 ≤ IntKind.i64.wrap ((IntKind.i64.wrap (a1 - (1 : Int))) - x3) ∧ IntKind.i64.wrap ((IntKind.i64.wrap (a1 - (1 : Int))) - x3) < (x2.length : Int)) (nibble_cut_int_l0 k a1 k1 (shr .i64 x1 (4 : Int)) (x2.set (IntKind.i64.wrap ((IntKind.i64.wrap (a1 - (1 : Int))) - x3)).toNat (IntKind.u8.wrap (bits .and .i64 x1 (15 : Int)))) (IntKind.i64.wrap (x3 + (1 : Int))))) else (some x2))

def nibble_cut_int (k : Nat) (a0 : Int) (a1 : Int) : Option ((List Int)) :=
  (ck (0 ≤ a1 ∧ a1 * 1 ≤ 140737488355328) (nibble_cut_int_l0 k a1 k a0 (List.replicate (a1).toNat (0 : Int)) (0 : Int)))

set_option maxHeartbeats 4000000 in
set_option maxRecDepth 100000 in
theorem nibble_cut_int_c (k : Nat) (a0 : Int) (a1 : Int)  (W : Nat → Prop) (w : World) (hW : ∀ k, W k → k < w.heap.size) (r : (List Int)) (hF : nibble_cut_int k a0 a1 = some r) :
    Calls Try.prog 30 [.int .i64 a0, .int .i64 a1].toArray w (Ret fun v w' => ∃ (u1 : Option Addr) (d1 : Nat), v = .slice u1 r.length d1 ∧ Ex w (Av [] No) [u1] w' ∧ Ow (Av [u1] W) w' 5 (Kd.int .u8) u1 d1 r) := by
  unfold nibble_cut_int at hF
  refine enter [(0, .int .i64 a0), (1, .int .i64 a1)] Try.func30 rfl Try.ntmps30 rfl rfl fun a ha => ?_
  have hE : Ex w (Av [] No) [] w := Ex.refl w _
  have hW0 : ∀ p, some p ∈ ([] : List (Option Addr)) → ¬ W p.block := fun _ h => by cases h
  refine wp_seq_k (fun K1 hK1 => ?_)
  refine wreg ?_
  refine go1 ha rfl (d_assign ha rfl) fun a ha => ?_
  refine nil_ ?_
  refine hK1 _ _ ?_
  have ha := ha.to (l' := [(0, _), (1, _)]) rfl
  refine wp_seq_k (fun K2 hK2 => ?_)
  refine wreg ?_
  refine go1 ha rfl (d_move ha rfl) fun a ha => ?_
  obtain ⟨hc1, hF⟩ := ck_elim hF
  refine goR ha rfl (d_make (B := W) (kd := (Kd.int .u8)) (zx := (0 : Int)) (zv := .int .u8 (0 : Int)) (bytes := 1) ha Try.underlying22 (by kernel_rfl) (by decide) (fun _ _ => rfl) rfl rfl hE hc1.1 hc1.2) fun v w1 a h ha => ?_
  obtain ⟨p1, c1, rfl, hs, hE, hf, o1⟩ := h
  refine go1 ha rfl (d_assign ha rfl) fun a ha => ?_
  refine nil_ ?_
  refine hK2 _ _ ?_
  have ha := ha.to (l' := [(0, _), (1, _), (5, _)]) rfl
  refine wp_seq_k (fun K3 hK3 => ?_)
  refine wp_seq_k (fun K4 hK4 => ?_)
  refine wreg ?_
  refine go1 ha rfl (d_move ha rfl) fun a ha => ?_
  refine go1 ha rfl (d_lenSlice ha Try.underlying22 rfl) fun a ha => ?_
  refine go1 ha rfl (d_move ha rfl) fun a ha => ?_
  refine nil_ ?_
  refine hK4 _ _ ?_
  have ha := ha.to (l' := [(0, _), (1, _), (5, _), (10, _), (11, _)]) rfl
  refine wp_block ?_
  refine wloopJ (fun k' a w2 => ∃ (x1 : Int) (x2 : List Int) (p2 : Option Addr) (c2 : Nat) (x3 : Int), Has 27 [(0, .int .i64 x1), (1, .int .i64 a1), (5, .slice p2 x2.length c2), (10, .int .i64 ((List.replicate (a1).toNat (0 : Int)).length : Int)), (11, .int .i64 x3)] a ∧ Ex w (Av [] No) [p2] w2 ∧ Ow (Av [p2] W) w2 5 (Kd.int .u8) p2 c2 x2 ∧ nibble_cut_int_l0 k a1 k' x1 x2 x3 = some r) k ⟨a0, (List.replicate (a1).toNat (0 : Int)), _, _, (0 : Int), ha.to rfl, hE, o1, hF⟩ ?_
  rintro k1 a w2 ⟨x1, x2, p2, c2, x3, ha, hE, o2, hF⟩ K5 hK5
  cases k1 with
  | zero => cases hF
  | succ k1 =>
    rw [nibble_cut_int_l0] at hF
    refine wp_seq_k (fun K6 hK6 => ?_)
    refine wreg ?_
    refine go1 ha rfl (d_lt ha rfl rfl) fun a ha => ?_
    refine nil_ ?_
    refine hK6 _ _ ?_
    have ha := ha.to (l' := [(0, _), (1, _), (5, _), (10, _), (11, _), (12, _)]) rfl
    refine wp_seq_k (fun K7 hK7 => ?_)
    rcases ite_elim hF with ⟨hc2, hF⟩ | ⟨hc2, hF⟩
    · refine wcond_t ha rfl (decide_eq_true hc2) ?_
      refine wp_skip ?_
      refine hK7 _ _ ?_
      have ha := ha.to (l' := [(0, _), (1, _), (5, _), (10, _), (11, _)]) rfl
      refine wp_seq_k (fun K8 hK8 => ?_)
      refine wp_block ?_
      refine wp_seq_k (fun K9 hK9 => ?_)
      refine wreg ?_
      refine go1 ha rfl (d_move ha rfl) fun a ha => ?_
      refine go1 ha rfl (d_assign ha rfl) fun a ha => ?_
      refine nil_ ?_
      refine hK9 _ _ ?_
      have ha := ha.to (l' := [(0, _), (1, _), (5, _), (6, _), (10, _), (11, _)]) rfl
      refine wp_seq_k (fun K10 hK10 => ?_)
      refine wreg ?_
      refine go1 ha rfl (d_move ha rfl) fun a ha => ?_
      refine go1 ha rfl (d_move ha rfl) fun a ha => ?_
      refine go1 ha rfl (d_sub ha rfl rfl) fun a ha => ?_
      refine go1 ha rfl (d_move ha rfl) fun a ha => ?_
      refine go1 ha rfl (d_sub ha rfl rfl) fun a ha => ?_
      refine go1 ha rfl (d_move ha rfl) fun a ha => ?_
      refine go1 ha rfl (d_and ha rfl rfl) fun a ha => ?_
      refine go1 ha rfl (d_cvt ha Try.underlying3 Try.underlying5 rfl) fun a ha => ?_
      obtain ⟨hc3, hF⟩ := ck_elim hF
      refine goS ha rfl (d_indexOw (kd := (Kd.int .u8)) ha rfl rfl Try.underlying22 Try.sizeOf5 o2 hc3) fun v a h ha => ?_
      obtain ⟨b1, e1, rfl⟩ := h
      have hq1 : (IntKind.i64.wrap ((IntKind.i64.wrap (a1 - (1 : Int))) - x3)).toNat < x2.length := by omega
      refine goR0 ha (d_storeOw (B := W) (kd := (Kd.int .u8)) (lf := []) (rt := []) (vs := [.int .u8 (IntKind.u8.wrap (bits .and .i64 x1 (15 : Int)))]) (yv := IntKind.u8.wrap (bits .and .i64 x1 (15 : Int))) (fun q => [q]) (fun _ => rfl) ha Try.sizeOf5 e1 rfl rfl rfl hE o2 hq1 (rfl)) fun v w3 a h ha => ?_
      obtain ⟨hs, hE1, hf, o2⟩ := h
      have hE := hE1
      have ha : Has 27 [(0, .int .i64 x1), (1, .int .i64 a1), (5, .slice p2 (x2.set (IntKind.i64.wrap ((IntKind.i64.wrap (a1 - (1 : Int))) - x3)).toNat (IntKind.u8.wrap (bits .and .i64 x1 (15 : Int)))).length c2), (6, .int .i64 x3), (10, .int .i64 ((List.replicate (a1).toNat (0 : Int)).length : Int)), (11, .int .i64 x3), (14, .slice p2 (x2.set (IntKind.i64.wrap ((IntKind.i64.wrap (a1 - (1 : Int))) - x3)).toNat (IntKind.u8.wrap (bits .and .i64 x1 (15 : Int)))).length c2), (15, .int .i64 a1), (16, .int .i64 (IntKind.i64.wrap (a1 - (1 : Int)))), (17, .int .i64 x3), (18, .int .i64 (IntKind.i64.wrap ((IntKind.i64.wrap (a1 - (1 : Int))) - x3))), (19, .int .i64 x1), (20, .int .i64 (bits .and .i64 x1 (15 : Int))), (21, .int .u8 (IntKind.u8.wrap (bits .and .i64 x1 (15 : Int))))] a := by simpa only [List.length_set] using ha.to (l' := [(0, _), (1, _), (5, _), (6, _), (10, _), (11, _), (14, _), (15, _), (16, _), (17, _), (18, _), (19, _), (20, _), (21, _)]) rfl
      refine nil_ ?_
      refine hK10 _ _ ?_
      have ha := ha.to (l' := [(0, _), (1, _), (5, _), (10, _), (11, _)]) rfl
      refine wreg ?_
      refine go1 ha rfl (d_move ha rfl) fun a ha => ?_
      refine go1 ha rfl (d_shr ha rfl rfl (by decide)) fun a ha => ?_
      refine go1 ha rfl (d_assign ha rfl) fun a ha => ?_
      refine nil_ ?_
      refine hK8 _ _ ?_
      have ha := ha.to (l' := [(0, _), (1, _), (5, _), (10, _), (11, _)]) rfl
      refine wreg ?_
      refine go1 ha rfl (d_add ha rfl rfl) fun a ha => ?_
      refine go1 ha rfl (d_move ha rfl) fun a ha => ?_
      refine nil_ ?_
      exact hK5 k1 _ _ (Nat.lt_succ_self _) ⟨(shr .i64 x1 (4 : Int)), (x2.set (IntKind.i64.wrap ((IntKind.i64.wrap (a1 - (1 : Int))) - x3)).toNat (IntKind.u8.wrap (bits .and .i64 x1 (15 : Int)))), _, _, (IntKind.i64.wrap (x3 + (1 : Int))), ha.to rfl, hE, o2, hF⟩
    · refine wcond_f ha rfl (decide_eq_false hc2) ?_
      refine wp_exit ?_
      refine hK3 _ _ ?_
      have ha := ha.to (l' := [(5, _)]) rfl
      refine wp_seq_k (fun K11 hK11 => ?_)
      refine wreg ?_
      refine go1 ha rfl (d_move ha rfl) fun a ha => ?_
      refine go1 ha rfl (d_assign ha rfl) fun a ha => ?_
      refine nil_ ?_
      refine hK11 _ _ ?_
      have ha := ha.to (l' := [(4, _)]) rfl
      refine wp_ret ?_
      injection hF with hF
      subst hF
      refine fin1 ha Try.results30 rfl ?_
      exact ⟨_, _, rfl, hE, o2⟩

def nibble_cut_api_KeyType_l0 (k : Nat) (a1 : Int) : Nat → Int → (List Int) → Int → Option ((List Int))
  | 0, _, _, _ => none
  | k1 + 1, x1, x2, x3 =>
    (if x3 < ((List.replicate (a1).toNat (0 : Int)).length : Int) then (ck (0 ≤ IntKind.i64.wrap ((IntKind.i64.wrap (a1 - (1 : Int))) - x3) ∧ IntKind.i64.wrap ((IntKind.i64.wrap (a1 - (1 : Int))) - x3) < (x2.length : Int)) (nibble_cut_api_KeyType_l0 k a1 k1 (shr .i64 x1 (4 : Int)) (x2.set (IntKind.i64.wrap ((IntKind.i64.wrap (a1 - (1 : Int))) - x3)).toNat (IntKind.u8.wrap (bits .and .i64 x1 (15 : Int)))) (IntKind.i64.wrap (x3 + (1 : Int))))) else (some x2))

def nibble_cut_api_KeyType (k : Nat) (a0 : Int) (a1 : Int) : Option ((List Int)) :=
  (ck (0 ≤ a1 ∧ a1 * 1 ≤ 140737488355328) (nibble_cut_api_KeyType_l0 k a1 k a0 (List.replicate (a1).toNat (0 : Int)) (0 : Int)))

set_option maxHeartbeats 4000000 in
set_option maxRecDepth 100000 in
theorem nibble_cut_api_KeyType_c (k : Nat) (a0 : Int) (a1 : Int)  (W : Nat → Prop) (w : World) (hW : ∀ k, W k → k < w.heap.size) (r : (List Int)) (hF : nibble_cut_api_KeyType k a0 a1 = some r) :
    Calls Try.prog 31 [.int .i64 a0, .int .i64 a1].toArray w (Ret fun v w' => ∃ (u1 : Option Addr) (d1 : Nat), v = .slice u1 r.length d1 ∧ Ex w (Av [] No) [u1] w' ∧ Ow (Av [u1] W) w' 5 (Kd.int .u8) u1 d1 r) := by
  unfold nibble_cut_api_KeyType at hF
  refine enter [(0, .int .i64 a0), (1, .int .i64 a1)] Try.func31 rfl Try.ntmps31 rfl rfl fun a ha => ?_
  have hE : Ex w (Av [] No) [] w := Ex.refl w _
  have hW0 : ∀ p, some p ∈ ([] : List (Option Addr)) → ¬ W p.block := fun _ h => by cases h
  refine wp_seq_k (fun K1 hK1 => ?_)
  refine wreg ?_
  refine go1 ha rfl (d_assign ha rfl) fun a ha => ?_
  refine nil_ ?_
  refine hK1 _ _ ?_
  have ha := ha.to (l' := [(0, _), (1, _)]) rfl
  refine wp_seq_k (fun K2 hK2 => ?_)
  refine wreg ?_
  refine go1 ha rfl (d_move ha rfl) fun a ha => ?_
  obtain ⟨hc1, hF⟩ := ck_elim hF
  refine goR ha rfl (d_make (B := W) (kd := (Kd.int .u8)) (zx := (0 : Int)) (zv := .int .u8 (0 : Int)) (bytes := 1) ha Try.underlying22 (by kernel_rfl) (by decide) (fun _ _ => rfl) rfl rfl hE hc1.1 hc1.2) fun v w1 a h ha => ?_
  obtain ⟨p1, c1, rfl, hs, hE, hf, o1⟩ := h
  refine go1 ha rfl (d_assign ha rfl) fun a ha => ?_
  refine nil_ ?_
  refine hK2 _ _ ?_
  have ha := ha.to (l' := [(0, _), (1, _), (5, _)]) rfl
  refine wp_seq_k (fun K3 hK3 => ?_)
  refine wp_seq_k (fun K4 hK4 => ?_)
  refine wreg ?_
  refine go1 ha rfl (d_move ha rfl) fun a ha => ?_
  refine go1 ha rfl (d_lenSlice ha Try.underlying22 rfl) fun a ha => ?_
  refine go1 ha rfl (d_move ha rfl) fun a ha => ?_
  refine nil_ ?_
  refine hK4 _ _ ?_
  have ha := ha.to (l' := [(0, _), (1, _), (5, _), (10, _), (11, _)]) rfl
  refine wp_block ?_
  refine wloopJ (fun k' a w2 => ∃ (x1 : Int) (x2 : List Int) (p2 : Option Addr) (c2 : Nat) (x3 : Int), Has 27 [(0, .int .i64 x1), (1, .int .i64 a1), (5, .slice p2 x2.length c2), (10, .int .i64 ((List.replicate (a1).toNat (0 : Int)).length : Int)), (11, .int .i64 x3)] a ∧ Ex w (Av [] No) [p2] w2 ∧ Ow (Av [p2] W) w2 5 (Kd.int .u8) p2 c2 x2 ∧ nibble_cut_api_KeyType_l0 k a1 k' x1 x2 x3 = some r) k ⟨a0, (List.replicate (a1).toNat (0 : Int)), _, _, (0 : Int), ha.to rfl, hE, o1, hF⟩ ?_
  rintro k1 a w2 ⟨x1, x2, p2, c2, x3, ha, hE, o2, hF⟩ K5 hK5
  cases k1 with
  | zero => cases hF
  | succ k1 =>
    rw [nibble_cut_api_KeyType_l0] at hF
    refine wp_seq_k (fun K6 hK6 => ?_)
    refine wreg ?_
    refine go1 ha rfl (d_lt ha rfl rfl) fun a ha => ?_
    refine nil_ ?_
    refine hK6 _ _ ?_
    have ha := ha.to (l' := [(0, _), (1, _), (5, _), (10, _), (11, _), (12, _)]) rfl
    refine wp_seq_k (fun K7 hK7 => ?_)
    rcases ite_elim hF with ⟨hc2, hF⟩ | ⟨hc2, hF⟩
    · refine wcond_t ha rfl (decide_eq_true hc2) ?_
      refine wp_skip ?_
      refine hK7 _ _ ?_
      have ha := ha.to (l' := [(0, _), (1, _), (5, _), (10, _), (11, _)]) rfl
      refine wp_seq_k (fun K8 hK8 => ?_)
      refine wp_block ?_
      refine wp_seq_k (fun K9 hK9 => ?_)
      refine wreg ?_
      refine go1 ha rfl (d_move ha rfl) fun a ha => ?_
      refine go1 ha rfl (d_assign ha rfl) fun a ha => ?_
      refine nil_ ?_
      refine hK9 _ _ ?_
      have ha := ha.to (l' := [(0, _), (1, _), (5, _), (6, _), (10, _), (11, _)]) rfl
      refine wp_seq_k (fun K10 hK10 => ?_)
      refine wreg ?_
      refine go1 ha rfl (d_move ha rfl) fun a ha => ?_
      refine go1 ha rfl (d_move ha rfl) fun a ha => ?_
      refine go1 ha rfl (d_sub ha rfl rfl) fun a ha => ?_
      refine go1 ha rfl (d_move ha rfl) fun a ha => ?_
      refine go1 ha rfl (d_sub ha rfl rfl) fun a ha => ?_
      refine go1 ha rfl (d_move ha rfl) fun a ha => ?_
      refine go1 ha rfl (d_and ha rfl rfl) fun a ha => ?_
      refine go1 ha rfl (d_cvt ha Try.underlying27 Try.underlying5 rfl) fun a ha => ?_
      obtain ⟨hc3, hF⟩ := ck_elim hF
      refine goS ha rfl (d_indexOw (kd := (Kd.int .u8)) ha rfl rfl Try.underlying22 Try.sizeOf5 o2 hc3) fun v a h ha => ?_
      obtain ⟨b1, e1, rfl⟩ := h
      have hq1 : (IntKind.i64.wrap ((IntKind.i64.wrap (a1 - (1 : Int))) - x3)).toNat < x2.length := by omega
      refine goR0 ha (d_storeOw (B := W) (kd := (Kd.int .u8)) (lf := []) (rt := []) (vs := [.int .u8 (IntKind.u8.wrap (bits .and .i64 x1 (15 : Int)))]) (yv := IntKind.u8.wrap (bits .and .i64 x1 (15 : Int))) (fun q => [q]) (fun _ => rfl) ha Try.sizeOf5 e1 rfl rfl rfl hE o2 hq1 (rfl)) fun v w3 a h ha => ?_
      obtain ⟨hs, hE1, hf, o2⟩ := h
      have hE := hE1
      have ha : Has 27 [(0, .int .i64 x1), (1, .int .i64 a1), (5, .slice p2 (x2.set (IntKind.i64.wrap ((IntKind.i64.wrap (a1 - (1 : Int))) - x3)).toNat (IntKind.u8.wrap (bits .and .i64 x1 (15 : Int)))).length c2), (6, .int .i64 x3), (10, .int .i64 ((List.replicate (a1).toNat (0 : Int)).length : Int)), (11, .int .i64 x3), (14, .slice p2 (x2.set (IntKind.i64.wrap ((IntKind.i64.wrap (a1 - (1 : Int))) - x3)).toNat (IntKind.u8.wrap (bits .and .i64 x1 (15 : Int)))).length c2), (15, .int .i64 a1), (16, .int .i64 (IntKind.i64.wrap (a1 - (1 : Int)))), (17, .int .i64 x3), (18, .int .i64 (IntKind.i64.wrap ((IntKind.i64.wrap (a1 - (1 : Int))) - x3))), (19, .int .i64 x1), (20, .int .i64 (bits .and .i64 x1 (15 : Int))), (21, .int .u8 (IntKind.u8.wrap (bits .and .i64 x1 (15 : Int))))] a := by simpa only [List.length_set] using ha.to (l' := [(0, _), (1, _), (5, _), (6, _), (10, _), (11, _), (14, _), (15, _), (16, _), (17, _), (18, _), (19, _), (20, _), (21, _)]) rfl
      refine nil_ ?_
      refine hK10 _ _ ?_
      have ha := ha.to (l' := [(0, _), (1, _), (5, _), (10, _), (11, _)]) rfl
      refine wreg ?_
      refine go1 ha rfl (d_move ha rfl) fun a ha => ?_
      refine go1 ha rfl (d_shr ha rfl rfl (by decide)) fun a ha => ?_
      refine go1 ha rfl (d_assign ha rfl) fun a ha => ?_
      refine nil_ ?_
      refine hK8 _ _ ?_
      have ha := ha.to (l' := [(0, _), (1, _), (5, _), (10, _), (11, _)]) rfl
      refine wreg ?_
      refine go1 ha rfl (d_add ha rfl rfl) fun a ha => ?_
      refine go1 ha rfl (d_move ha rfl) fun a ha => ?_
      refine nil_ ?_
      exact hK5 k1 _ _ (Nat.lt_succ_self _) ⟨(shr .i64 x1 (4 : Int)), (x2.set (IntKind.i64.wrap ((IntKind.i64.wrap (a1 - (1 : Int))) - x3)).toNat (IntKind.u8.wrap (bits .and .i64 x1 (15 : Int)))), _, _, (IntKind.i64.wrap (x3 + (1 : Int))), ha.to rfl, hE, o2, hF⟩
    · refine wcond_f ha rfl (decide_eq_false hc2) ?_
      refine wp_exit ?_
      refine hK3 _ _ ?_
      have ha := ha.to (l' := [(5, _)]) rfl
      refine wp_seq_k (fun K11 hK11 => ?_)
      refine wreg ?_
      refine go1 ha rfl (d_move ha rfl) fun a ha => ?_
      refine go1 ha rfl (d_assign ha rfl) fun a ha => ?_
      refine nil_ ?_
      refine hK11 _ _ ?_
      have ha := ha.to (l' := [(4, _)]) rfl
      refine wp_ret ?_
      injection hF with hF
      subst hF
      refine fin1 ha Try.results31 rfl ?_
      exact ⟨_, _, rfl, hE, o2⟩

def slices_Grow_byte_byte_j0 (a1 : Int) : Option ((List Int)) :=
  (if (0 : Int) < (IntKind.i64.wrap (a1 - (IntKind.i64.wrap ((0 : Int) - (0 : Int))))) then (ck (0 ≤ (IntKind.i64.wrap (a1 - (IntKind.i64.wrap ((0 : Int) - (0 : Int))))) ∧ (([] : List (Int)).length + (IntKind.i64.wrap (a1 - (IntKind.i64.wrap ((0 : Int) - (0 : Int))))).toNat) * 1 ≤ 140737488355328) (ck (0 ≤ (0 : Int) ∧ (0 : Int) ≤ ((([] : List (Int)) ++ List.replicate (IntKind.i64.wrap (a1 - (IntKind.i64.wrap ((0 : Int) - (0 : Int))))).toNat (0 : Int)).length : Int)) (some ((([] : List (Int)) ++ List.replicate (IntKind.i64.wrap (a1 - (IntKind.i64.wrap ((0 : Int) - (0 : Int))))).toNat (0 : Int)).take ((0 : Int)).toNat)))) else (some ([] : List (Int))))

def slices_Grow_byte_byte (a1 : Int) : Option ((List Int)) :=
  (if a1 < (0 : Int) then none else (slices_Grow_byte_byte_j0 a1))

set_option maxHeartbeats 4000000 in
set_option maxRecDepth 100000 in
theorem slices_Grow_byte_byte_c (a1 : Int)  (W : Nat → Prop) (w : World) (hW : ∀ k, W k → k < w.heap.size) (r : (List Int)) (hF : slices_Grow_byte_byte a1 = some r) :
    Calls Try.prog 39 [.slice none 0 0, .int .i64 a1].toArray w (Ret fun v w' => ∃ (u1 : Option Addr) (d1 : Nat), v = .slice u1 r.length d1 ∧ Ex w (Av [] No) [u1] w' ∧ Ow (Av [u1] W) w' 5 (Kd.int .u8) u1 d1 r) := by
  unfold slices_Grow_byte_byte at hF
  refine enter [(0, .slice none 0 0), (1, .int .i64 a1)] Try.func39 rfl Try.ntmps39 rfl rfl fun a ha => ?_
  have hE : Ex w (Av [] No) [] w := Ex.refl w _
  have hW0 : ∀ p, some p ∈ ([] : List (Option Addr)) → ¬ W p.block := fun _ h => by cases h
  refine wp_seq_k (fun K1 hK1 => ?_)
  refine wreg ?_
  refine go1 ha rfl (d_assign ha rfl) fun a ha => ?_
  refine nil_ ?_
  refine hK1 _ _ ?_
  have ha := ha.to (l' := [(0, _), (1, _)]) rfl
  refine wseqJ (fun a w1 => Has 27 [(0, .slice none 0 0), (1, .int .i64 a1)] a ∧ Ex w (Av [] No) [] w1 ∧ slices_Grow_byte_byte_j0 a1 = some r) ?_ ?_
  · rintro a w1 ⟨ha, hE, hF⟩
    unfold slices_Grow_byte_byte_j0 at hF
    refine wp_seq_k (fun K5 hK5 => ?_)
    refine wp_seq_k (fun K6 hK6 => ?_)
    refine wreg ?_
    refine go1 ha rfl (d_move ha rfl) fun a ha => ?_
    refine go1 ha rfl (d_move ha rfl) fun a ha => ?_
    refine go1 ha rfl (d_capNil ha Try.underlying22 rfl) fun a ha => ?_
    refine go1 ha rfl (d_move ha rfl) fun a ha => ?_
    refine go1 ha rfl (d_lenSlice ha Try.underlying22 rfl) fun a ha => ?_
    refine go1 ha rfl (d_sub ha rfl rfl) fun a ha => ?_
    refine go1 ha rfl (d_sub ha rfl rfl) fun a ha => ?_
    refine go1 ha rfl (d_assign ha rfl) fun a ha => ?_
    refine nil_ ?_
    refine hK6 _ _ ?_
    have ha := ha.to (l' := [(0, _), (1, _)]) rfl
    refine wp_seq_k (fun K7 hK7 => ?_)
    refine wreg ?_
    refine go1 ha rfl (d_move ha rfl) fun a ha => ?_
    refine go1 ha rfl (d_gt ha rfl rfl) fun a ha => ?_
    refine nil_ ?_
    refine hK7 _ _ ?_
    have ha := ha.to (l' := [(0, _), (1, _), (16, _)]) rfl
    rcases ite_elim hF with ⟨hc2, hF⟩ | ⟨hc2, hF⟩
    · refine wcond_t ha rfl (decide_eq_true hc2) ?_
      refine wreg ?_
      refine go1 ha rfl (d_move ha rfl) fun a ha => ?_
      refine go1 ha rfl (d_move ha rfl) fun a ha => ?_
      refine go1 ha rfl (d_capNil ha Try.underlying22 rfl) fun a ha => ?_
      refine go1 ha rfl (d_sliceNil ha Try.underlying22 Try.sizeOf5 rfl rfl) fun a ha => ?_
      refine go1 ha rfl (d_move ha rfl) fun a ha => ?_
      obtain ⟨hc3, hF⟩ := ck_elim hF
      have hs := Step.add (a := none) [] (Fr.refl w1 No) (fun _ h => by cases h)
      have hE : Ex w (Av [] No) [none] w1 := hE.add (a := none) (Fr.refl w1 No) (fun _ h => by cases h)
      have o1 := Ow.nil (Av [none] W) w1 5 (Kd.int .u8)
      refine goR ha rfl (d_appendZ (B := W) (kd := (Kd.int .u8)) (zx := (0 : Int)) (zv := .int .u8 (0 : Int)) (bytes := 1) (lf := []) (rt := []) (fun q => [q]) (fun _ => rfl) ha Try.underlying22 (by kernel_rfl) rfl (by decide) (by decide) rfl Try.underlying3 (fun _ _ => rfl) rfl hc3.1 hE o1 hc3.2) fun v w2 a h ha => ?_
      obtain ⟨p1, c1, rfl, hs, hE1, hf, o1⟩ := h
      have hE := hE1
      refine go1 ha rfl (d_move ha rfl) fun a ha => ?_
      refine go1 ha rfl (d_lenSlice ha Try.underlying22 rfl) fun a ha => ?_
      obtain ⟨hc4, hF⟩ := ck_elim hF
      refine goS ha rfl (d_sliceOw (kd := (Kd.int .u8)) ha Try.underlying22 Try.sizeOf5 rfl rfl o1 hc4) fun v a h ha => ?_
      obtain ⟨rfl, o1⟩ := h
      refine go1 ha rfl (d_assign ha rfl) fun a ha => ?_
      refine nil_ ?_
      refine hK5 _ _ ?_
      have ha := ha.to (l' := [(0, _)]) rfl
      refine wp_seq_k (fun K8 hK8 => ?_)
      refine wreg ?_
      refine go1 ha rfl (d_move ha rfl) fun a ha => ?_
      refine go1 ha rfl (d_assign ha rfl) fun a ha => ?_
      refine nil_ ?_
      refine hK8 _ _ ?_
      have ha := ha.to (l' := [(4, _)]) rfl
      refine wp_ret ?_
      injection hF with hF
      subst hF
      refine fin1 ha Try.results39 rfl ?_
      exact ⟨_, _, rfl, hE, o1⟩
    · refine wcond_f ha rfl (decide_eq_false hc2) ?_
      refine wp_skip ?_
      refine hK5 _ _ ?_
      have ha := ha.to (l' := [(0, _)]) rfl
      refine wp_seq_k (fun K9 hK9 => ?_)
      refine wreg ?_
      refine go1 ha rfl (d_move ha rfl) fun a ha => ?_
      refine go1 ha rfl (d_assign ha rfl) fun a ha => ?_
      refine nil_ ?_
      refine hK9 _ _ ?_
      have ha := ha.to (l' := [(4, _)]) rfl
      refine wp_ret ?_
      have hs := Step.add (a := none) [] (Fr.refl w1 No) (fun _ h => by cases h)
      have hE : Ex w (Av [] No) [none] w1 := hE.add (a := none) (Fr.refl w1 No) (fun _ h => by cases h)
      have o2 := Ow.nil (Av [none] W) w1 5 (Kd.int .u8)
      injection hF with hF
      subst hF
      refine fin1 ha Try.results39 rfl ?_
      exact ⟨_, _, rfl, hE, o2⟩
  · intro K3 hK3
    refine wp_seq_k (fun K4 hK4 => ?_)
    refine wreg ?_
    refine go1 ha rfl (d_move ha rfl) fun a ha => ?_
    refine go1 ha rfl (d_lt ha rfl rfl) fun a ha => ?_
    refine nil_ ?_
    refine hK4 _ _ ?_
    have ha := ha.to (l' := [(0, _), (1, _), (6, _)]) rfl
    rcases ite_elim hF with ⟨hc1, hF⟩ | ⟨hc1, hF⟩
    · refine wcond_t ha rfl (decide_eq_true hc1) ?_
      refine wreg ?_
      cases hF
    · refine wcond_f ha rfl (decide_eq_false hc1) ?_
      refine wp_skip ?_
      exact hK3 _ _ ⟨ha.to rfl, hE, hF⟩

def slices_Concat_byte_byte_l1 (k : Nat) (a0 : List (List Int)) : Nat → (List Int) → Int → Option ((List Int))
  | 0, _, _ => none
  | k2 + 1, x3, x4 =>
    (if x4 < (a0.length : Int) then (ck (0 ≤ x4 ∧ x4 < (a0.length : Int)) (ck ((x3.length + (a0.getD (x4).toNat ([] : List (Int))).length) * 1 ≤ 140737488355328) (slices_Concat_byte_byte_l1 k a0 k2 (x3 ++ (a0.getD (x4).toNat ([] : List (Int)))) (IntKind.i64.wrap (x4 + (1 : Int)))))) else (some x3))

def slices_Concat_byte_byte_l0 (k : Nat) (a0 : List (List Int)) : Nat → Int → Int → Option ((List Int))
  | 0, _, _ => none
  | k1 + 1, x1, x2 =>
    (if x2 < (a0.length : Int) then (ck (0 ≤ x2 ∧ x2 < (a0.length : Int)) (if (IntKind.i64.wrap (x1 + ((a0.getD (x2).toNat ([] : List (Int))).length : Int))) < (0 : Int) then none else (slices_Concat_byte_byte_l0 k a0 k1 (IntKind.i64.wrap (x1 + ((a0.getD (x2).toNat ([] : List (Int))).length : Int))) (IntKind.i64.wrap (x2 + (1 : Int)))))) else ((slices_Grow_byte_byte x1).bind fun t1 => (slices_Concat_byte_byte_l1 k a0 k t1 (0 : Int))))

def slices_Concat_byte_byte (k : Nat) (a0 : List (List Int)) : Option ((List Int)) :=
  (slices_Concat_byte_byte_l0 k a0 k (0 : Int) (0 : Int))

set_option maxHeartbeats 4000000 in
set_option maxRecDepth 100000 in
theorem slices_Concat_byte_byte_c (k : Nat) (a0 : List (List Int)) (p1 : Option Addr) (c1 : Nat) (W : Nat → Prop) (w : World) (hW : ∀ k, W k → k < w.heap.size) (r1 : Raw (Av [] W) (Kd.sl (Kd.int .u8)) w.heap p1 c1 a0) (r : (List Int)) (hF : slices_Concat_byte_byte k a0 = some r) :
    Calls Try.prog 28 [.slice p1 a0.length c1].toArray w (Ret fun v w' => ∃ (u1 : Option Addr) (d1 : Nat), v = .slice u1 r.length d1 ∧ Ex w (Av [] No) [u1] w' ∧ Ow (Av [u1] W) w' 5 (Kd.int .u8) u1 d1 r) := by
  unfold slices_Concat_byte_byte at hF
  refine enter [(0, .slice p1 a0.length c1)] Try.func28 rfl Try.ntmps28 rfl rfl fun a ha => ?_
  have hE : Ex w (Av [] No) [] w := Ex.refl w _
  have hW0 : ∀ p, some p ∈ ([] : List (Option Addr)) → ¬ W p.block := fun _ h => by cases h
  refine wp_seq_k (fun K1 hK1 => ?_)
  refine wreg ?_
  refine go1 ha rfl (d_assign ha rfl) fun a ha => ?_
  refine nil_ ?_
  refine hK1 _ _ ?_
  have ha := ha.to (l' := [(0, _)]) rfl
  refine wp_seq_k (fun K2 hK2 => ?_)
  refine wreg ?_
  refine go1 ha rfl (d_assign ha rfl) fun a ha => ?_
  refine nil_ ?_
  refine hK2 _ _ ?_
  have ha := ha.to (l' := [(0, _), (3, _)]) rfl
  refine wp_seq_k (fun K3 hK3 => ?_)
  refine wp_seq_k (fun K4 hK4 => ?_)
  refine wreg ?_
  refine go1 ha rfl (d_move ha rfl) fun a ha => ?_
  refine go1 ha rfl (d_lenSlice ha Try.underlying62 rfl) fun a ha => ?_
  refine go1 ha rfl (d_move ha rfl) fun a ha => ?_
  refine nil_ ?_
  refine hK4 _ _ ?_
  have ha := ha.to (l' := [(0, _), (3, _), (9, _), (10, _), (11, _)]) rfl
  refine wp_block ?_
  refine wloopJ (fun k' a w1 => ∃ (x1 : Int) (x2 : Int), Has 36 [(0, .slice p1 a0.length c1), (3, .int .i64 x1), (9, .slice p1 a0.length c1), (10, .int .i64 (a0.length : Int)), (11, .int .i64 x2)] a ∧ Ex w (Av [] No) [] w1 ∧ Raw (Av [] W) (Kd.sl (Kd.int .u8)) w1.heap p1 c1 a0 ∧ slices_Concat_byte_byte_l0 k a0 k' x1 x2 = some r) k ⟨(0 : Int), (0 : Int), ha.to rfl, hE, r1, hF⟩ ?_
  rintro k1 a w1 ⟨x1, x2, ha, hE, r1, hF⟩ K5 hK5
  cases k1 with
  | zero => cases hF
  | succ k1 =>
    rw [slices_Concat_byte_byte_l0] at hF
    refine wp_seq_k (fun K6 hK6 => ?_)
    refine wreg ?_
    refine go1 ha rfl (d_lt ha rfl rfl) fun a ha => ?_
    refine nil_ ?_
    refine hK6 _ _ ?_
    have ha := ha.to (l' := [(0, _), (3, _), (9, _), (10, _), (11, _), (12, _)]) rfl
    refine wp_seq_k (fun K7 hK7 => ?_)
    rcases ite_elim hF with ⟨hc1, hF⟩ | ⟨hc1, hF⟩
    · refine wcond_t ha rfl (decide_eq_true hc1) ?_
      refine wp_skip ?_
      refine hK7 _ _ ?_
      have ha := ha.to (l' := [(0, _), (3, _), (9, _), (10, _), (11, _)]) rfl
      refine wp_seq_k (fun K8 hK8 => ?_)
      refine wp_block ?_
      refine wp_seq_k (fun K9 hK9 => ?_)
      refine wreg ?_
      obtain ⟨hc2, hF⟩ := ck_elim hF
      refine goS ha rfl (d_index (kd := (Kd.sl (Kd.int .u8))) ha rfl rfl Try.underlying62 Try.sizeOf22 r1 hc2 ([] : List (Int))) fun v a h ha => ?_
      obtain ⟨b1, q1, cs1, rfl, _, hk1, at1⟩ := h
      obtain ⟨p2, c2, rfl, r2⟩ := hk1
      refine go1 ha rfl (d_load ha rfl (at1.cell 0 rfl) Try.isAgg22) fun a ha => ?_
      refine go1 ha rfl (d_assign ha rfl) fun a ha => ?_
      refine nil_ ?_
      refine hK9 _ _ ?_
      have ha := ha.to (l' := [(0, _), (3, _), (5, _), (9, _), (10, _), (11, _)]) rfl
      refine wp_seq_k (fun K10 hK10 => ?_)
      refine wreg ?_
      refine go1 ha rfl (d_move ha rfl) fun a ha => ?_
      refine go1 ha rfl (d_move ha rfl) fun a ha => ?_
      refine go1 ha rfl (d_lenSlice ha Try.underlying22 rfl) fun a ha => ?_
      refine go1 ha rfl (d_add ha rfl rfl) fun a ha => ?_
      refine go1 ha rfl (d_assign ha rfl) fun a ha => ?_
      refine nil_ ?_
      refine hK10 _ _ ?_
      have ha := ha.to (l' := [(0, _), (3, _), (9, _), (10, _), (11, _)]) rfl
      refine wp_seq_k (fun K11 hK11 => ?_)
      refine wreg ?_
      refine go1 ha rfl (d_move ha rfl) fun a ha => ?_
      refine go1 ha rfl (d_lt ha rfl rfl) fun a ha => ?_
      refine nil_ ?_
      refine hK11 _ _ ?_
      have ha := ha.to (l' := [(0, _), (3, _), (9, _), (10, _), (11, _), (20, _)]) rfl
      rcases ite_elim hF with ⟨hc3, hF⟩ | ⟨hc3, hF⟩
      · refine wcond_t ha rfl (decide_eq_true hc3) ?_
        refine wreg ?_
        cases hF
      · refine wcond_f ha rfl (decide_eq_false hc3) ?_
        refine wp_skip ?_
        refine hK8 _ _ ?_
        have ha := ha.to (l' := [(0, _), (3, _), (9, _), (10, _), (11, _)]) rfl
        refine wreg ?_
        refine go1 ha rfl (d_add ha rfl rfl) fun a ha => ?_
        refine go1 ha rfl (d_move ha rfl) fun a ha => ?_
        refine nil_ ?_
        exact hK5 k1 _ _ (Nat.lt_succ_self _) ⟨(IntKind.i64.wrap (x1 + ((a0.getD (x2).toNat ([] : List (Int))).length : Int))), (IntKind.i64.wrap (x2 + (1 : Int))), ha.to rfl, hE, r1, hF⟩
    · refine wcond_f ha rfl (decide_eq_false hc1) ?_
      refine wp_exit ?_
      refine hK3 _ _ ?_
      have ha := ha.to (l' := [(0, _), (3, _)]) rfl
      refine wp_seq_k (fun K12 hK12 => ?_)
      refine wreg ?_
      refine go1 ha rfl (d_move ha rfl) fun a ha => ?_
      obtain ⟨t1, ht1, hF⟩ := bind_elim hF
      refine goR ha rfl (d_call Try.call39 ha (vs := [.slice none 0 0, .int .i64 x1]) rfl (slices_Grow_byte_byte_c x1  (Av [] W) _ (Ex.wlt (as0 := []) (rr := []) (ro := []) hE hW)  _ ht1)) fun v w2 a h ha => ?_
      obtain ⟨p3, c3, rfl, hC, o1⟩ := h
      have hs : Step [] [p3] w1 w2 := hC.callStep []
      have r1 := hs.tr r1
      have o1 : Ow (Av [p3] W) w2 5 (Kd.int .u8) p3 c3 t1 := o1.alone (Kd.Flat.int _)
      have hE : Ex w (Av [] No) [p3] w2 := Ex.call (as0 := []) (rt := []) hE hC
      refine go1 ha rfl (d_assign ha rfl) fun a ha => ?_
      refine nil_ ?_
      refine hK12 _ _ ?_
      have ha := ha.to (l' := [(0, _), (6, _)]) rfl
      refine wp_seq_k (fun K13 hK13 => ?_)
      refine wp_seq_k (fun K14 hK14 => ?_)
      refine wreg ?_
      refine go1 ha rfl (d_move ha rfl) fun a ha => ?_
      refine go1 ha rfl (d_lenSlice ha Try.underlying62 rfl) fun a ha => ?_
      refine go1 ha rfl (d_move ha rfl) fun a ha => ?_
      refine nil_ ?_
      refine hK14 _ _ ?_
      have ha := ha.to (l' := [(6, _), (25, _), (26, _), (27, _)]) rfl
      refine wp_block ?_
      refine wloopJ (fun k' a w3 => ∃ (x3 : List Int) (p4 : Option Addr) (c4 : Nat) (x4 : Int), Has 36 [(6, .slice p4 x3.length c4), (25, .slice p1 a0.length c1), (26, .int .i64 (a0.length : Int)), (27, .int .i64 x4)] a ∧ Ex w (Av [] No) [p4] w3 ∧ Raw (Av [p4] W) (Kd.sl (Kd.int .u8)) w3.heap p1 c1 a0 ∧ Ow (Av [p4] W) w3 5 (Kd.int .u8) p4 c4 x3 ∧ slices_Concat_byte_byte_l1 k a0 k' x3 x4 = some r) k ⟨t1, _, _, (0 : Int), ha.to rfl, hE, r1, o1, hF⟩ ?_
      rintro k2 a w3 ⟨x3, p4, c4, x4, ha, hE, r1, o2, hF⟩ K15 hK15
      cases k2 with
      | zero => cases hF
      | succ k2 =>
        rw [slices_Concat_byte_byte_l1] at hF
        refine wp_seq_k (fun K16 hK16 => ?_)
        refine wreg ?_
        refine go1 ha rfl (d_lt ha rfl rfl) fun a ha => ?_
        refine nil_ ?_
        refine hK16 _ _ ?_
        have ha := ha.to (l' := [(6, _), (25, _), (26, _), (27, _), (28, _)]) rfl
        refine wp_seq_k (fun K17 hK17 => ?_)
        rcases ite_elim hF with ⟨hc4, hF⟩ | ⟨hc4, hF⟩
        · refine wcond_t ha rfl (decide_eq_true hc4) ?_
          refine wp_skip ?_
          refine hK17 _ _ ?_
          have ha := ha.to (l' := [(6, _), (25, _), (26, _), (27, _)]) rfl
          refine wp_seq_k (fun K18 hK18 => ?_)
          refine wp_block ?_
          refine wp_seq_k (fun K19 hK19 => ?_)
          refine wreg ?_
          obtain ⟨hc5, hF⟩ := ck_elim hF
          refine goS ha rfl (d_index (kd := (Kd.sl (Kd.int .u8))) ha rfl rfl Try.underlying62 Try.sizeOf22 r1 hc5 ([] : List (Int))) fun v a h ha => ?_
          obtain ⟨b2, q2, cs2, rfl, _, hk2, at2⟩ := h
          obtain ⟨p5, c5, rfl, r3⟩ := hk2
          refine go1 ha rfl (d_load ha rfl (at2.cell 0 rfl) Try.isAgg22) fun a ha => ?_
          refine go1 ha rfl (d_assign ha rfl) fun a ha => ?_
          refine nil_ ?_
          refine hK19 _ _ ?_
          have ha := ha.to (l' := [(6, _), (8, _), (25, _), (26, _), (27, _)]) rfl
          refine wreg ?_
          refine go1 ha rfl (d_move ha rfl) fun a ha => ?_
          refine go1 ha rfl (d_move ha rfl) fun a ha => ?_
          obtain ⟨hc6, hF⟩ := ck_elim hF
          refine goR ha rfl (d_append (B := W) (kd := (Kd.int .u8)) (zv := .int .u8 (0 : Int)) (bytes := 1) (lf := []) (rt := []) (fun q => [q]) (fun _ => rfl) ha Try.underlying22 (by kernel_rfl) rfl (by decide) (by decide) rfl rfl hE o2 r3 (fun _ _ h => h) hc6) fun v w4 a h ha => ?_
          obtain ⟨p6, c6, rfl, hs, hE1, hf, o2⟩ := h
          have r1 := hs.tr r1
          have r3 := hs.tr r3
          have hE := hE1
          refine go1 ha rfl (d_assign ha rfl) fun a ha => ?_
          refine nil_ ?_
          refine hK18 _ _ ?_
          have ha := ha.to (l' := [(6, _), (25, _), (26, _), (27, _)]) rfl
          refine wreg ?_
          refine go1 ha rfl (d_add ha rfl rfl) fun a ha => ?_
          refine go1 ha rfl (d_move ha rfl) fun a ha => ?_
          refine nil_ ?_
          exact hK15 k2 _ _ (Nat.lt_succ_self _) ⟨(x3 ++ (a0.getD (x4).toNat ([] : List (Int)))), _, _, (IntKind.i64.wrap (x4 + (1 : Int))), ha.to rfl, hE, r1, o2, hF⟩
        · refine wcond_f ha rfl (decide_eq_false hc4) ?_
          refine wp_exit ?_
          refine hK13 _ _ ?_
          have ha := ha.to (l' := [(6, _)]) rfl
          refine wp_seq_k (fun K20 hK20 => ?_)
          refine wreg ?_
          refine go1 ha rfl (d_move ha rfl) fun a ha => ?_
          refine go1 ha rfl (d_assign ha rfl) fun a ha => ?_
          refine nil_ ?_
          refine hK20 _ _ ?_
          have ha := ha.to (l' := [(2, _)]) rfl
          refine wp_ret ?_
          injection hF with hF
          subst hF
          refine fin1 ha Try.results28 rfl ?_
          exact ⟨_, _, rfl, hE, o2⟩

def nibble_cut_byte_l0 (k : Nat) (a1 : Int) : Nat → Int → (List Int) → Int → Option ((List Int))
  | 0, _, _, _ => none
  | k1 + 1, x1, x2, x3 =>
    (if x3 < ((List.replicate (a1).toNat (0 : Int)).length : Int) then (ck (0 ≤ IntKind.i64.wrap ((IntKind.i64.wrap (a1 - (1 : Int))) - x3) ∧ IntKind.i64.wrap ((IntKind.i64.wrap (a1 - (1 : Int))) - x3) < (x2.length : Int)) (nibble_cut_byte_l0 k a1 k1 (shr .u8 x1 (4 : Int)) (x2.set (IntKind.i64.wrap ((IntKind.i64.wrap (a1 - (1 : Int))) - x3)).toNat (bits .and .u8 x1 (15 : Int))) (IntKind.i64.wrap (x3 + (1 : Int))))) else (some x2))

def nibble_cut_byte (k : Nat) (a0 : Int) (a1 : Int) : Option ((List Int)) :=
  (ck (0 ≤ a1 ∧ a1 * 1 ≤ 140737488355328) (nibble_cut_byte_l0 k a1 k a0 (List.replicate (a1).toNat (0 : Int)) (0 : Int)))

set_option maxHeartbeats 4000000 in
set_option maxRecDepth 100000 in
theorem nibble_cut_byte_c (k : Nat) (a0 : Int) (a1 : Int)  (W : Nat → Prop) (w : World) (hW : ∀ k, W k → k < w.heap.size) (r : (List Int)) (hF : nibble_cut_byte k a0 a1 = some r) :
    Calls Try.prog 32 [.int .u8 a0, .int .i64 a1].toArray w (Ret fun v w' => ∃ (u1 : Option Addr) (d1 : Nat), v = .slice u1 r.length d1 ∧ Ex w (Av [] No) [u1] w' ∧ Ow (Av [u1] W) w' 5 (Kd.int .u8) u1 d1 r) := by
  unfold nibble_cut_byte at hF
  refine enter [(0, .int .u8 a0), (1, .int .i64 a1)] Try.func32 rfl Try.ntmps32 rfl rfl fun a ha => ?_
  have hE : Ex w (Av [] No) [] w := Ex.refl w _
  have hW0 : ∀ p, some p ∈ ([] : List (Option Addr)) → ¬ W p.block := fun _ h => by cases h
  refine wp_seq_k (fun K1 hK1 => ?_)
  refine wreg ?_
  refine go1 ha rfl (d_assign ha rfl) fun a ha => ?_
  refine nil_ ?_
  refine hK1 _ _ ?_
  have ha := ha.to (l' := [(0, _), (1, _)]) rfl
  refine wp_seq_k (fun K2 hK2 => ?_)
  refine wreg ?_
  refine go1 ha rfl (d_move ha rfl) fun a ha => ?_
  obtain ⟨hc1, hF⟩ := ck_elim hF
  refine goR ha rfl (d_make (B := W) (kd := (Kd.int .u8)) (zx := (0 : Int)) (zv := .int .u8 (0 : Int)) (bytes := 1) ha Try.underlying22 (by kernel_rfl) (by decide) (fun _ _ => rfl) rfl rfl hE hc1.1 hc1.2) fun v w1 a h ha => ?_
  obtain ⟨p1, c1, rfl, hs, hE, hf, o1⟩ := h
  refine go1 ha rfl (d_assign ha rfl) fun a ha => ?_
  refine nil_ ?_
  refine hK2 _ _ ?_
  have ha := ha.to (l' := [(0, _), (1, _), (5, _)]) rfl
  refine wp_seq_k (fun K3 hK3 => ?_)
  refine wp_seq_k (fun K4 hK4 => ?_)
  refine wreg ?_
  refine go1 ha rfl (d_move ha rfl) fun a ha => ?_
  refine go1 ha rfl (d_lenSlice ha Try.underlying22 rfl) fun a ha => ?_
  refine go1 ha rfl (d_move ha rfl) fun a ha => ?_
  refine nil_ ?_
  refine hK4 _ _ ?_
  have ha := ha.to (l' := [(0, _), (1, _), (5, _), (10, _), (11, _)]) rfl
  refine wp_block ?_
  refine wloopJ (fun k' a w2 => ∃ (x1 : Int) (x2 : List Int) (p2 : Option Addr) (c2 : Nat) (x3 : Int), Has 26 [(0, .int .u8 x1), (1, .int .i64 a1), (5, .slice p2 x2.length c2), (10, .int .i64 ((List.replicate (a1).toNat (0 : Int)).length : Int)), (11, .int .i64 x3)] a ∧ Ex w (Av [] No) [p2] w2 ∧ Ow (Av [p2] W) w2 5 (Kd.int .u8) p2 c2 x2 ∧ nibble_cut_byte_l0 k a1 k' x1 x2 x3 = some r) k ⟨a0, (List.replicate (a1).toNat (0 : Int)), _, _, (0 : Int), ha.to rfl, hE, o1, hF⟩ ?_
  rintro k1 a w2 ⟨x1, x2, p2, c2, x3, ha, hE, o2, hF⟩ K5 hK5
  cases k1 with
  | zero => cases hF
  | succ k1 =>
    rw [nibble_cut_byte_l0] at hF
    refine wp_seq_k (fun K6 hK6 => ?_)
    refine wreg ?_
    refine go1 ha rfl (d_lt ha rfl rfl) fun a ha => ?_
    refine nil_ ?_
    refine hK6 _ _ ?_
    have ha := ha.to (l' := [(0, _), (1, _), (5, _), (10, _), (11, _), (12, _)]) rfl
    refine wp_seq_k (fun K7 hK7 => ?_)
    rcases ite_elim hF with ⟨hc2, hF⟩ | ⟨hc2, hF⟩
    · refine wcond_t ha rfl (decide_eq_true hc2) ?_
      refine wp_skip ?_
      refine hK7 _ _ ?_
      have ha := ha.to (l' := [(0, _), (1, _), (5, _), (10, _), (11, _)]) rfl
      refine wp_seq_k (fun K8 hK8 => ?_)
      refine wp_block ?_
      refine wp_seq_k (fun K9 hK9 => ?_)
      refine wreg ?_
      refine go1 ha rfl (d_move ha rfl) fun a ha => ?_
      refine go1 ha rfl (d_assign ha rfl) fun a ha => ?_
      refine nil_ ?_
      refine hK9 _ _ ?_
      have ha := ha.to (l' := [(0, _), (1, _), (5, _), (6, _), (10, _), (11, _)]) rfl
      refine wp_seq_k (fun K10 hK10 => ?_)
      refine wreg ?_
      refine go1 ha rfl (d_move ha rfl) fun a ha => ?_
      refine go1 ha rfl (d_move ha rfl) fun a ha => ?_
      refine go1 ha rfl (d_sub ha rfl rfl) fun a ha => ?_
      refine go1 ha rfl (d_move ha rfl) fun a ha => ?_
      refine go1 ha rfl (d_sub ha rfl rfl) fun a ha => ?_
      refine go1 ha rfl (d_move ha rfl) fun a ha => ?_
      refine go1 ha rfl (d_and ha rfl rfl) fun a ha => ?_
      obtain ⟨hc3, hF⟩ := ck_elim hF
      refine goS ha rfl (d_indexOw (kd := (Kd.int .u8)) ha rfl rfl Try.underlying22 Try.sizeOf5 o2 hc3) fun v a h ha => ?_
      obtain ⟨b1, e1, rfl⟩ := h
      have hq1 : (IntKind.i64.wrap ((IntKind.i64.wrap (a1 - (1 : Int))) - x3)).toNat < x2.length := by omega
      refine goR0 ha (d_storeOw (B := W) (kd := (Kd.int .u8)) (lf := []) (rt := []) (vs := [.int .u8 (bits .and .u8 x1 (15 : Int))]) (yv := bits .and .u8 x1 (15 : Int)) (fun q => [q]) (fun _ => rfl) ha Try.sizeOf5 e1 rfl rfl rfl hE o2 hq1 (rfl)) fun v w3 a h ha => ?_
      obtain ⟨hs, hE1, hf, o2⟩ := h
      have hE := hE1
      have ha : Has 26 [(0, .int .u8 x1), (1, .int .i64 a1), (5, .slice p2 (x2.set (IntKind.i64.wrap ((IntKind.i64.wrap (a1 - (1 : Int))) - x3)).toNat (bits .and .u8 x1 (15 : Int))).length c2), (6, .int .i64 x3), (10, .int .i64 ((List.replicate (a1).toNat (0 : Int)).length : Int)), (11, .int .i64 x3), (14, .slice p2 (x2.set (IntKind.i64.wrap ((IntKind.i64.wrap (a1 - (1 : Int))) - x3)).toNat (bits .and .u8 x1 (15 : Int))).length c2), (15, .int .i64 a1), (16, .int .i64 (IntKind.i64.wrap (a1 - (1 : Int)))), (17, .int .i64 x3), (18, .int .i64 (IntKind.i64.wrap ((IntKind.i64.wrap (a1 - (1 : Int))) - x3))), (19, .int .u8 x1), (20, .int .u8 (bits .and .u8 x1 (15 : Int)))] a := by simpa only [List.length_set] using ha.to (l' := [(0, _), (1, _), (5, _), (6, _), (10, _), (11, _), (14, _), (15, _), (16, _), (17, _), (18, _), (19, _), (20, _)]) rfl
      refine nil_ ?_
      refine hK10 _ _ ?_
      have ha := ha.to (l' := [(0, _), (1, _), (5, _), (10, _), (11, _)]) rfl
      refine wreg ?_
      refine go1 ha rfl (d_move ha rfl) fun a ha => ?_
      refine go1 ha rfl (d_shr ha rfl rfl (by decide)) fun a ha => ?_
      refine go1 ha rfl (d_assign ha rfl) fun a ha => ?_
      refine nil_ ?_
      refine hK8 _ _ ?_
      have ha := ha.to (l' := [(0, _), (1, _), (5, _), (10, _), (11, _)]) rfl
      refine wreg ?_
      refine go1 ha rfl (d_add ha rfl rfl) fun a ha => ?_
      refine go1 ha rfl (d_move ha rfl) fun a ha => ?_
      refine nil_ ?_
      exact hK5 k1 _ _ (Nat.lt_succ_self _) ⟨(shr .u8 x1 (4 : Int)), (x2.set (IntKind.i64.wrap ((IntKind.i64.wrap (a1 - (1 : Int))) - x3)).toNat (bits .and .u8 x1 (15 : Int))), _, _, (IntKind.i64.wrap (x3 + (1 : Int))), ha.to rfl, hE, o2, hF⟩
    · refine wcond_f ha rfl (decide_eq_false hc2) ?_
      refine wp_exit ?_
      refine hK3 _ _ ?_
      have ha := ha.to (l' := [(5, _)]) rfl
      refine wp_seq_k (fun K11 hK11 => ?_)
      refine wreg ?_
      refine go1 ha rfl (d_move ha rfl) fun a ha => ?_
      refine go1 ha rfl (d_assign ha rfl) fun a ha => ?_
      refine nil_ ?_
      refine hK11 _ _ ?_
      have ha := ha.to (l' := [(4, _)]) rfl
      refine wp_ret ?_
      injection hF with hF
      subst hF
      refine fin1 ha Try.results32 rfl ?_
      exact ⟨_, _, rfl, hE, o2⟩

def nibble_Of_l0 (k : Nat) (a0_1 : ByteArray) : Nat → (List Int) → Int → Option ((List Int))
  | 0, _, _ => none
  | k1 + 1, x2, x3 =>
    (if x3 < ((bytesOf a0_1).length : Int) then (ck (0 ≤ x3 ∧ x3 < ((bytesOf a0_1).length : Int)) ((nibble_cut_byte k ((bytesOf a0_1).getD (x3).toNat (0 : Int)) (2 : Int)).bind fun t7 => (ck ((x2.length + t7.length) * 1 ≤ 140737488355328) (nibble_Of_l0 k a0_1 k1 (x2 ++ t7) (IntKind.i64.wrap (x3 + (1 : Int))))))) else (some x2))

def nibble_Of (k : Nat) (a0_0 : Int) (a0_1 : ByteArray) : Option ((List Int)) :=
  ((nibble_May k a0_0 a0_1).bind fun t1 => (bif !t1 then (some ([] : List (Int))) else ((nibble_Hash k a0_0 a0_1).bind fun t2 => ((nibble_cut_uint16 k t2 (4 : Int)).bind fun t3 => ((nibble_cut_int k (a0_1.size : Int) (2 : Int)).bind fun t4 => ((nibble_cut_api_KeyType k a0_0 (1 : Int)).bind fun t5 => ((slices_Concat_byte_byte k ([t3, t4, t5] : List (List Int))).bind fun t6 => (ck (a0_1.size ≤ 140737488355328) (nibble_Of_l0 k a0_1 k t6 (0 : Int))))))))))
end Go.Proofs.Ytmljbiijlljhfaa
