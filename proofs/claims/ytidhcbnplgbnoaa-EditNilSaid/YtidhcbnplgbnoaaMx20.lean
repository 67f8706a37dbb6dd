/- Own work. A part of the proof of a law of this seat: a part -/
import Derived.Test.YtidhcbnplgbnoaaMx19
/- Conversions, lengths, the rest of the builtins, ranges over texts. -/
namespace Go.Mx
open Go Go.RowKit Go.Sx

section
variable {R : Type} {P : Program} {W : Nat → Prop} {S : List AO} {ρ : Nat → Geo} {w w' : World} {a : Act}
variable {d : Option Nat} {ty T' T2 : TypeId} {pos : String} {af : Array Edge} {g : Option (Nat × Bool)} {y z : Operand} {K : KV R} {r : R}
theorem appendZ_ok {u : AV} {n : Int} {k k' : IntKind} (h : Rel W S ρ w) (hd : a.defers = []) (hy : VR (cx W S ρ w) u (a.eval y)) (hz : a.eval z = .int k n) {e : TypeId} (he : elemOf P T' = some e) (hti : P.underlying T2 = some (.int k')) (hK : appendZ P e u n S K = some r) :
    Comes P W S ρ w ⟨d, .call { callee := .builtin .append, args := #[y, z], argTypes := #[T', T2] }, ty, pos, af, g⟩ a K r := by
  have ha := bnd_has (a := a) (Op1 y + Op1 z) hd
  have ey : Sx.ev (bnd a (Op1 y + Op1 z)) y = some (a.eval y) := bnd_ev (by omega)
  have ez : Sx.ev (bnd a (Op1 y + Op1 z)) z = some (a.eval z) := bnd_ev (by omega)
  unfold appendZ at hK
  obtain ⟨t, zx, i, zv, hK, h1, h2, h3, h4, h5, h6, h7, h8, h9⟩ := elK_ok hK
  have hinf : (P.info? e).map (fun i => (i.zero, i.size, i.bytes)) = some (some zv, (ckd t.kd (cx W S ρ w).A w.heap).sz, i.bytes) := by rw [h1]; simp only [Option.map_some, h2, h3]; rfl
  have main : ∀ {p : Option Addr} {c : Nat} {xs : List t.den}, a.eval y = .slice p xs.length c → Ow (Av [p] No) w e (ckd t.kd (cx W S ρ w).A w.heap) p c xs → 0 ≤ n → (xs.length + n.toNat) * P.bytesOf e ≤ limit →
      Does P ⟨d, .call { callee := .builtin .append, args := #[y, z], argTypes := #[T', T2] }, ty, pos, af, g⟩ a w (fun v w' => ∃ p' c', v = .slice p' (xs ++ List.replicate n.toNat zx).length c' ∧ Sx.Step [p] [p'] w w' ∧ Fr w w' (fun k => ∃ s, p = some s ∧ s.block = k) ∧ Ow (Av [p'] No) w' e (ckd t.kd (cx W S ρ w).A w.heap) p' c' (xs ++ List.replicate n.toNat zx)) := by
    intro p c xs e1 ho hn hl
    rw [h9] at hl
    exact (d_appendZ (fun q => [q]) (lf := []) (rt := []) (B := No) (fun _ => rfl) ha (elemOf_ok he) hinf h7 h5 h4 (by rw [ey, e1]) hti (fun _ _ => h8 _ _) (by rw [ez, hz]) hn (ex_one ho.lt) ho hl).mono (fun v w' ⟨p', c', k1, k2, _, k3, k4⟩ => ⟨p', c', k1, k2, k3, k4⟩)
  split at hK
  · obtain ⟨⟨hn, hl⟩, hK⟩ := ck_elim hK
    have e1 := vr_nils hy
    refine (main (p := none) (c := 0) (xs := []) e1 (ow_c (A := (cx W S ρ w).A) (Ow.nil _ _ _ _)) hn (by simpa using hl)).mono ?_
    rintro u' w' ⟨p', c', k1, k2, k3, k4⟩
    rw [List.nil_append] at k1 k4
    have hf : Fr w w' No := k3.mono (fun k _ ⟨s, hs, _⟩ => by cases hs)
    refine ⟨_, _, _, hK, Aft.push h hf (g := ⟨p', (List.replicate n.toNat zx).length, c', t.sz⟩) (fun _ p hp => ?_) (fun le => ⟨rfl, rfl, c_ow k4 (fun x cs hK => le.K (x := cx W S ρ w) hK)⟩), by rw [k1]; exact view_vr⟩
    rcases k2.new p (by simp [← hp]) with ⟨q', hq', _⟩ | h1
    · cases List.mem_singleton.1 hq'
    · exact h1
  · rename_i j _
    obtain ⟨cs, e1, hc, _⟩ := hy
    rw [CR] at hc
    split at hK
    · rename_i e' t' xs hi
      split at hK
      · rename_i ht
        subst ht
        cases hee : Nat.beq e' e with
        | false => rw [hee] at hK; cases hK
        | true =>
          rw [hee, cond_true] at hK
          have hee := Nat.eq_of_beq_eq_true hee
          subst hee
          obtain ⟨⟨hn, hl⟩, hK⟩ := ck_elim hK
          obtain ⟨g1, g2, g3⟩ := h.ob j _ hi
          rw [hc.2] at e1
          have e1 : a.eval y = .slice (ρ j).a xs.length (ρ j).c := by rw [← g1]; exact e1
          refine (main e1 (ow_c g3) hn hl).mono ?_
          rintro u' w' ⟨p', c', k1, k2, k3, k4⟩
          exact ⟨_, _, _, hK, Aft.grow h hi k3 k2 k4, by rw [k1]; rw [show (S.set j AO.gone).length = S.length by simp]; exact view_vr'⟩
      · cases hK
    · cases hK
  · cases hK
theorem s2b_at {e T1 T2 : TypeId} {s : ByteArray} (h1 : P.underlying T1 = some .string) (h2 : P.underlying T2 = some (.slice e)) (he : P.underlying e = some (.int .u8)) (hx : a.eval y = .string s) (hl : s.size ≤ 140737488355328) :
    Does P ⟨d, .convert T1 T2 y, ty, pos, af, g⟩ a w (fun v w' => ∃ c, v = .slice (some ⟨w.heap.size, 0, none⟩) (bytesOf s).length c ∧ Fr w w' No ∧ RowR ⟨Old w, w'.heap, fun _ => ⟨none, 0, 0, 0⟩, 0⟩ (Old w) (Kd.int .u8) (some ⟨w.heap.size, 0, none⟩) c (bytesOf s)) := by
  have hr := Lib.run_convert_string_bytes (P := P) w T1 T2 e s h1 h2 he
  refine (Does.val (v := .slice (some ⟨w.heap.size, 0, none⟩) s.size (grownCap w s.size 0 e)) (w' := Lib.bytesWorld w e s) ?_).mono ?_
  · simp [execOp, hx, hr]
  · rintro v w' ⟨rfl, rfl⟩
    refine ⟨grownCap w s.size 0 e, by rw [bytesOf_length], ⟨rfl, rfl, rfl, by rw [Lib.bytesWorld_size]; omega, fun k hk _ => Lib.bytesWorld_at_old w e s k hk⟩, ?_, ?_, (bytesOf s).map (Value.int .u8), els_map _, fun _ => ⟨w.heap.size, rfl, by simp [Old], _, e, _, Lib.bytesWorld_at_new w e s, fun j v hv => ?_⟩⟩
    · rw [bytesOf_length]; exact grownCap_ge w s.size 0 e
    · exact grownCap_le_maxLen w s.size 0 e (by simp only [maxLen]; omega)
    · rw [Nat.zero_add, Lib.bytesCells, Array.getElem?_append]
      have hj : j < s.size := by
        have := (List.getElem?_eq_some_iff.1 hv).1
        rwa [List.length_map, bytesOf_length] at this
      rw [if_pos (by rw [Array.size_map]; exact hj)]
      simp only [bytesOf, List.map_map, List.getElem?_map] at hv
      rw [Array.getElem?_map, ← Array.getElem?_toList]
      simpa using hv

theorem rd_u8 {u : Value} {xs : List Int} (hr : Rd W S ρ w u (.int .u8) xs) : ∃ q c, u = .slice q xs.length c ∧ Raw No (Kd.int .u8) w.heap q c xs := by
  obtain ⟨q, c, e, h1, h2, cells, he, hm⟩ := hr
  exact ⟨q, c, e, h1, h2, cells, he, hm⟩
theorem conv_ok {v : AV} (h : Rel W S ρ w) (hd : a.defers = []) (hy : VR (cx W S ρ w) v (a.eval y)) (hK : convA P T' T2 v S K = some r) : Comes P W S ρ w ⟨d, .convert T' T2 y, ty, pos, af, g⟩ a K r := by
  have ha := bnd_has (a := a) (Op1 y) hd
  have ey : Sx.ev (bnd a (Op1 y)) y = some (a.eval y) := bnd_ev (Nat.le_refl _)
  unfold convA at hK
  split at hK
  · rename_i t i h1 h2
    split at hK
    · rename_i bt v0 m j hi hj
      cases hc : !Nat.beq j.size 0 && Nat.blt 0 v0.sz with
      | false => rw [hc] at hK; cases hK
      | true =>
        rw [hc, cond_true] at hK
        rw [Bool.and_eq_true, Bool.not_eq_true', Nat.blt_eq] at hc
        obtain ⟨hq, b, hb, e⟩ := vr_ptr hy
        obtain ⟨b', cs, e1, hcr, hl, hx, _⟩ := h.ob i _ hi
        have hbb : b' = b := by
          have hb : (ρ i).a = _ := hb
          rw [e1] at hb
          exact congrArg Addr.block (Option.some.inj hb)
        subst hbb
        refine Comes.is h (d_toUnsafe ha h1 h2 (by rw [hj]; rfl) (fun e0 => by have e0 : j.size = 0 := e0; rw [e0] at hc; exact absurd hc.1 (by decide)) (by rw [ey, e]; rfl) hx (by rw [hl]; exact hc.2)) hK ?_
        rw [e] at hy
        exact hy
    · cases hK
  · rename_i u i h1 h2
    split at hK
    · rename_i bt v0 m hi
      cases hc : (P.info? u).isSome && liesAt P P.depth bt (v0.sz / P.cellsOf bt) 0 u 1 with
      | false => rw [hc] at hK; cases hK
      | true =>
        rw [hc, cond_true] at hK
        rw [Bool.and_eq_true] at hc
        obtain ⟨hq, b, hb, e⟩ := vr_ptr hy
        obtain ⟨b', cs, e1, hcr, hl, hx, _⟩ := h.ob i _ hi
        have hbb : b' = b := by
          have hb : (ρ i).a = _ := hb
          rw [e1] at hb
          exact congrArg Addr.block (Option.some.inj hb)
        subst hbb
        refine Comes.is h (d_fromUnsafe ha h1 h2 hc.1 (by rw [ey, e]; rfl) hx (by rw [hl]; exact hc.2)) hK ?_
        rw [e] at hy
        exact hy
    · cases hK
  · rename_i u k _ i h1 h2
    exact Comes.is h (d_cvt ha h1 h2 (by rw [ey, vr_int hy])) hK (vr_intI _ _)
  · rename_i u s h1 h2
    exact Comes.is h (d_cvtS ha h1 h2 (by rw [ey, vr_str hy])) hK (vr_strI _)
  · rename_i e s h1 h2
    split at hK
    · rename_i he
      obtain ⟨hl, hK⟩ := ck_elim hK
      refine (s2b_at h1 h2 he (vr_str hy) hl).mono ?_
      rintro u w' ⟨c, e1, hf, hr⟩
      refine ⟨_, _, _, hK, Aft.push h hf (g := ⟨some ⟨w.heap.size, 0, none⟩, (bytesOf s).length, c, 1⟩) (fun hh => by cases hh) (fun le => ⟨rfl, rfl, ?_⟩), by rw [e1]; exact view_vr⟩
      obtain ⟨g1, g2, cells, ge, gm⟩ := hr
      refine ⟨g1, g2, cells, ge, fun hne => ?_⟩
      obtain ⟨b, e2, hold, hL⟩ := gm hne
      have hnb : w.heap.size ≤ b := Nat.le_of_not_lt hold
      refine ⟨b, e2, ?_, hL⟩
      rintro (hW | hO)
      · have := h.wl b hW; omega
      · obtain ⟨i, o', q, hi, ho, hqa, hqb⟩ := hO
        rcases push_get hi with ⟨hl', gi⟩ | ⟨rfl, rfl⟩
        · rw [upd_other _ _ (Nat.ne_of_lt hl')] at hqa
          have := OwnB.lt h ⟨i, o', q, gi, ho, hqa, rfl⟩
          omega
        · cases ho
    · cases hK
  · rename_i e v' h1 h2 _
    split at hK
    · rename_i he
      split at hK
      · rename_i xs hxs
        obtain ⟨q, c, e1, hr⟩ := rd_u8 (sdatY_ok h hy hxs)
        exact Comes.is h (d_b2s ha h1 he h2 (by rw [ey, e1]) hr) hK (vr_strI _)
      · cases hK
    · cases hK
  · rename_i e e2 i h1 h2
    split at hK
    · rename_i e' x xs he hi
      cases hc : Nat.beq T' T2 && Nat.beq e' e with
      | false => rw [hc] at hK; cases hK
      | true =>
        rw [hc, cond_true] at hK
        rw [Bool.and_eq_true] at hc
        have hc1 := Nat.eq_of_beq_eq_true hc.1
        have hc2 := Nat.eq_of_beq_eq_true hc.2
        subst hc1
        subst hc2
        obtain ⟨g1, g2, g3⟩ := h.ob i _ hi
        obtain ⟨cs, e1, hcr, hcl⟩ := hy
        have hvr : VR (cx W S ρ w) (.view i) (a.eval y) := ⟨cs, e1, hcr, hcl⟩
        rw [CR] at hcr
        rw [hcr.2] at e1
        have e1 : a.eval y = .slice (ρ i).a (x :: xs).length (ρ i).c := by rw [← g1]; exact e1
        have hB : ∀ q, (ρ i).a = some q → ¬ (cx W (S.set i (.row e' (.int .u8) (x :: xs) .fz)) ρ w).A q.block := by
          rintro q hq (hW | ⟨j, o, p, hj, ho, haj, hbj⟩)
          · exact h.wd q.block ⟨i, _, q, hi, rfl, hq, rfl⟩ hW
          · rcases set_get hj with ⟨hne', hj⟩ | ⟨_, rfl, _⟩
            · exact h.dj j i o _ p q hne' hj hi ho rfl haj hq hbj
            · cases ho
        refine (d_cvtMark (kd := (T.int .u8).kd) (B := (cx W (S.set i (.row e' (.int .u8) (x :: xs) .fz)) ρ w).A) ha h1 he (by rw [ey, e1]) g3 (Kd.Flat.int _) (by simp) hB).mono ?_
        rintro u w' ⟨eu, hf, hr⟩
        have hA := Aft.put h hi (o' := .row e' (.int .u8) (x :: xs) .fz) (hf.mono fun k _ ⟨q, hq, hb⟩ => ⟨rfl, q, hq, hb⟩) (fun hh => by cases hh) (fun le => ⟨g1, g2, by
          obtain ⟨r1, r2, cells, r3, r4⟩ := hr
          refine ⟨r1, r2, cells, r3, fun hne => ?_⟩
          obtain ⟨b, o, C, TT, fr, k1, k2, k3, k4⟩ := r4 hne
          obtain ⟨b', hb'⟩ := row_a h hi hne
          rw [hb'] at k1
          have k1 := Option.some.inj k1
          obtain ⟨rfl, rfl, _⟩ : b' = b ∧ 0 = o ∧ True := ⟨congrArg Addr.block k1, congrArg Addr.off k1, trivial⟩
          exact ⟨b', hb', k2, C, TT, fr, k3, k4⟩⟩)
        refine ⟨_, _, _, hK, hA, ?_⟩
        rw [eu, ← e1]
        exact hvr.up hA.le
    · cases hK
  · cases hK
theorem len_ok {v : AV} (h : Rel W S ρ w) (hd : a.defers = []) (hy : VR (cx W S ρ w) v (a.eval y)) (hK : lenA P T' v S K = some r) : Comes P W S ρ w ⟨d, .call { callee := .builtin .len, args := #[y], argTypes := #[T'] }, ty, pos, af, g⟩ a K r := by
  have ha := bnd_has (a := a) (Op1 y) hd
  have ey : Sx.ev (bnd a (Op1 y)) y = some (a.eval y) := bnd_ev (Nat.le_refl _)
  unfold lenA at hK
  split at hK
  · rename_i hT
    split at hK
    · rename_i s
      exact Comes.is h (d_lenString ha hT (by rw [ey, vr_str hy])) hK (vr_intI _ _)
    · cases hK
  · rename_i n e hT
    cases hp : v.plain with
    | false => rw [hp] at hK; cases hK
    | true =>
      rw [hp, cond_true] at hK
      exact Comes.is h (d_lenArray ha hT ey) hK (vr_intI _ _)
  · rename_i e hT
    split at hK
    · rename_i n hn
      obtain ⟨q, c, e1⟩ := slen_ok h hy hn
      exact Comes.is h (d_lenSlice ha hT (by rw [ey, e1])) hK (vr_intI _ _)
    · cases hK
  · cases hK
theorem range_ok {v : AV} (h : Rel W S ρ w) (hd : a.defers = []) (hy : VR (cx W S ρ w) v (a.eval y)) (hK : (match P.underlying T', some v with
    | some .string, some (.dat .str t) => K (.ptr S.length []) (S ++ [.itr t 0 true])
    | _, _ => none) = some r) : Comes P W S ρ w ⟨d, .range T' y, ty, pos, af, g⟩ a K r := by
  have ha := bnd_has (a := a) (Op1 y) hd
  split at hK
  · rename_i t hT hv
    obtain rfl := Option.some.inj hv
    refine (d_range ha hT (by rw [bnd_ev (Nat.le_refl _), vr_str hy])).mono ?_
    rintro u w' ⟨b, e, hb, hl, hI, hf⟩
    exact ⟨_, _, _, hK, Aft.push h hf (g := ⟨some ⟨b, 0, none⟩, 0, 1, 0⟩) (fun _ p hp => by obtain rfl := Option.some.inj hp; exact hb) (fun le => ⟨b, rfl, hI, fun hh => by cases hh⟩), by rw [e]; exact box_vr⟩
  · cases hK
theorem next_ok {v : AV} (h : Rel W S ρ w) (hd : a.defers = []) (hy : VR (cx W S ρ w) v (a.eval y)) (hK : (match some v with
    | some (.ptr q []) => (match S[q]? with
      | some (.itr t p true) => cond (decide (p < t.size)) (K (.tup [.dat .bool true, .dat (.int .i64) p, .dat (.int .i32) (Utf8.decode t p).1]) (S.set q (.itr t (p + (Utf8.decode t p).2) true))) (K (.tup [.dat .bool false]) S)
      | _ => none)
    | _ => none) = some r) : Comes P W S ρ w ⟨d, .next y true, ty, pos, af, g⟩ a K r := by
  have ha := bnd_has (a := a) (Op1 y) hd
  split at hK
  · rename_i q hv
    obtain rfl := Option.some.inj hv
    obtain ⟨hq, b, hb, e⟩ := vr_ptr hy
    split at hK
    · rename_i t p hi
      obtain ⟨b', e1, hI, _⟩ := h.ob q _ hi
      have hbb : b' = b := by
        have hb : (ρ q).a = _ := hb
        rw [e1] at hb
        exact congrArg Addr.block (Option.some.inj hb)
      subst hbb
      have bc : ∀ {x : Cx} (b : Bool), CR x (.dat .bool b) [.bool b] := fun b => cr_dat.2 rfl
      have ic : ∀ {x : Cx} (k : IntKind) (i : Int), CR x (.dat (.int k) i) [.int k i] := fun k i => cr_dat.2 rfl
      cases hp : decide (p < t.size) with
      | true =>
        rw [hp, cond_true] at hK
        refine (d_next ha (by rw [bnd_ev (Nat.le_refl _), e]; rfl) hI hp rfl).mono ?_
        rintro u w' ⟨eu, hI', hf⟩
        refine ⟨_, _, _, hK, Aft.put h hi (hf.mono fun k _ hk => ⟨rfl, _, e1, hk.symm⟩) (fun _ => rfl) (fun le => ⟨b', e1, hI', fun hh => by cases hh⟩), ?_⟩
        refine ⟨[.bool true, .int .i64 p, .int .i32 (Utf8.decode t p).1], by rw [eu], ?_⟩
        rw [VRs]
        refine ⟨_, _, rfl, bc true, rfl, ?_⟩
        rw [VRs]
        refine ⟨_, _, rfl, ic _ _, rfl, ?_⟩
        rw [VRs]
        exact ⟨_, _, rfl, ic _ _, rfl, by rw [VRs]⟩
      | false =>
        rw [hp, cond_false] at hK
        refine Comes.is h (d_nextEnd ha (by rw [bnd_ev (Nat.le_refl _), e]; rfl) hI hp rfl) hK ?_
        refine ⟨[.bool false], rfl, ?_⟩
        rw [VRs]
        exact ⟨_, _, rfl, bc false, rfl, by rw [VRs]⟩
    · cases hK
  · cases hK
end
end Go.Mx
