/- Own work. A part of the proof of a law of this seat: the abstract machine and its soundness. -/
import Derived.Test.YtaejkhkbcnngpaaDoorMd
import Derived.Test.YtaejkhkbcnngpaaDoorMc
set_option linter.unusedVariables false
set_option linter.unusedSimpArgs false
set_option linter.unusedSectionVars false
namespace Go.Mx
open Go Go.RowKit Go.Sx
variable [Glb]
section
variable {R : Type} {P : Program} {W : Nat → Prop} {S : List AO} {ρ : Nat → Geo} {w w' : World} {a : Act}
variable {d : Option Nat} {ty T' T2 : TypeId} {pos : String} {af : Array Edge} {g : Option (Nat × Bool)} {y z : Operand} {K : KV R} {r : R}
theorem appendZ_ok {u : AV} {n : Int} {k k' : IntKind} (h : Rel W S ρ w) (hd : a.defers = []) (hy : VR (cx W S ρ w) u (a.eval y)) (hz : a.eval z = .int k n) {e : TypeId} (he : elemOf P T' = some e) (hti : P.underlying T2 = some (.int k')) (hK : appendZ P e u n S K = some r) :
    Comes P W S ρ w ⟨d, .call { callee := .builtin .append, args := #[y, z], argTypes := #[T', T2] }, ty, pos, af, g⟩ a K r := by
  have ha := bnd_has (a := a) (Op1 y + Op1 z) hd
  have ey : Sx.ev (bnd a (Op1 y + Op1 z)) y = some (a.eval y) := bnd_ev (by omega)
  have ez : Sx.ev (bnd a (Op1 y + Op1 z)) z = some (a.eval z) := bnd_ev (by omega)
  unfold appendZ at hK
  obtain ⟨t, zx, i, zv, hK, h1, h2, h3, h4, h5, h6, h7, h8, h9⟩ := elK_ok hK
  have hinf : (P.info? e).map (fun i => (i.zero, i.size, i.bytes)) = some (some zv, (ckd t.kd (cx W S ρ w).A w.heap).sz, i.bytes) := by rw [h1]; simp only [Option.map_some, h2, h3]; rfl
  have main : ∀ {p : Option Addr} {c : Nat} {xs : List t.den}, a.eval y = .slice p xs.length c → Ow (Av [p] No) w e (ckd t.kd (cx W S ρ w).A w.heap) p c xs → 0 ≤ n → (xs.length + n.toNat) * P.bytesOf e ≤ limit →
      Does P ⟨d, .call { callee := .builtin .append, args := #[y, z], argTypes := #[T', T2] }, ty, pos, af, g⟩ a w (fun v w' => ∃ p' c', v = .slice p' (xs ++ List.replicate n.toNat zx).length c' ∧ Sx.Step [p] [p'] w w' ∧ Fr w w' (fun k => ∃ s, p = some s ∧ s.block = k) ∧ Ow (Av [p'] No) w' e (ckd t.kd (cx W S ρ w).A w.heap) p' c' (xs ++ List.replicate n.toNat zx)) := by
    intro p c xs e1 ho hn hl
    rw [h9] at hl
    exact (d_appendZ (fun q => [q]) (lf := []) (rt := []) (B := No) (fun _ => rfl) ha (elemOf_ok he) hinf h7 h5 h4 (by rw [ey, e1]) hti (fun _ _ => h8 _ _) (by rw [ez, hz]) hn (ex_one ho.lt) ho hl).mono (fun v w' ⟨p', c', k1, k2, _, k3, k4⟩ => ⟨p', c', k1, k2, k3, k4⟩)
  split at hK
  · obtain ⟨⟨hn, hl⟩, hK⟩ := ck_elim hK
    have e1 := vr_nils hy
    refine (main (p := none) (c := 0) (xs := []) e1 (ow_c (A := (cx W S ρ w).A) (Ow.nil _ _ _ _)) hn (by simpa using hl)).mono ?_
    rintro u' w' ⟨p', c', k1, k2, k3, k4⟩
    rw [List.nil_append] at k1 k4
    have hf : Fr w w' No := k3.mono (fun k _ ⟨s, hs, _⟩ => by cases hs)
    refine ⟨_, _, _, hK, Aft.push h hf (g := ⟨p', (List.replicate n.toNat zx).length, c', t.sz⟩) (fun _ p hp => ?_) (fun le => ⟨rfl, rfl, c_ow k4 (fun x cs hK => le.K (x := cx W S ρ w) hK)⟩), by rw [k1]; exact view_vr⟩
    rcases k2.new p (by simp [← hp]) with ⟨q', hq', _⟩ | h1
    · cases List.mem_singleton.1 hq'
    · exact h1
  · rename_i j _
    obtain ⟨cs, e1, hc, _⟩ := hy
    rw [CR] at hc
    split at hK
    · rename_i e' t' xs hi
      split at hK
      · rename_i ht
        subst ht
        cases hee : Nat.beq e' e with
        | false => rw [hee] at hK; cases hK
        | true =>
          rw [hee, cond_true] at hK
          have hee := Nat.eq_of_beq_eq_true hee
          subst hee
          obtain ⟨⟨hn, hl⟩, hK⟩ := ck_elim hK
          obtain ⟨g1, g2, g3⟩ := h.ob j _ hi
          rw [hc.2] at e1
          have e1 : a.eval y = .slice (ρ j).a xs.length (ρ j).c := by rw [← g1]; exact e1
          refine (main e1 (ow_c g3) hn hl).mono ?_
          rintro u' w' ⟨p', c', k1, k2, k3, k4⟩
          exact ⟨_, _, _, hK, Aft.grow h hi k3 k2 k4, by rw [k1]; rw [show (S.set j AO.gone).length = S.length by simp]; exact view_vr'⟩
      · cases hK
    · cases hK
  · cases hK
theorem s2b_at {e T1 T2 : TypeId} {s : ByteArray} (h1 : P.underlying T1 = some .string) (h2 : P.underlying T2 = some (.slice e)) (he : P.underlying e = some (.int .u8)) (hx : a.eval y = .string s) (hl : s.size ≤ 140737488355328) :
    Does P ⟨d, .convert T1 T2 y, ty, pos, af, g⟩ a w (fun v w' => ∃ c, v = .slice (some ⟨w.heap.size, 0, none⟩) (bytesOf s).length c ∧ Fr w w' No ∧ RowR ⟨Old w, w'.heap, fun _ => ⟨none, 0, 0, 0⟩, 0⟩ (Old w) (Kd.int .u8) (some ⟨w.heap.size, 0, none⟩) c (bytesOf s)) := by
  have hr := Lib.run_convert_string_bytes (P := P) w T1 T2 e s h1 h2 he
  refine (Does.val (v := .slice (some ⟨w.heap.size, 0, none⟩) s.size (grownCap w s.size 0 e)) (w' := Lib.bytesWorld w e s) ?_).mono ?_
  · simp [execOp, hx, hr]
  · rintro v w' ⟨rfl, rfl⟩
    refine ⟨grownCap w s.size 0 e, by rw [bytesOf_length], ⟨rfl, rfl, rfl, by rw [Lib.bytesWorld_size]; omega, fun k hk _ => Lib.bytesWorld_at_old w e s k hk⟩, ?_, ?_, (bytesOf s).map (Value.int .u8), els_map _, fun _ => ⟨w.heap.size, rfl, by simp [Old], _, e, _, Lib.bytesWorld_at_new w e s, fun j v hv => ?_⟩⟩
    · rw [bytesOf_length]; exact grownCap_ge w s.size 0 e
    · exact grownCap_le_maxLen w s.size 0 e (by simp only [maxLen]; omega)
    · rw [Nat.zero_add, Lib.bytesCells, Array.getElem?_append]
      have hj : j < s.size := by
        have := (List.getElem?_eq_some_iff.1 hv).1
        rwa [List.length_map, bytesOf_length] at this
      rw [if_pos (by rw [Array.size_map]; exact hj)]
      simp only [bytesOf, List.map_map, List.getElem?_map] at hv
      rw [Array.getElem?_map, ← Array.getElem?_toList]
      simpa using hv
theorem rd_u8 {u : Value} {xs : List Int} (hr : Rd W S ρ w u (.int .u8) xs) : ∃ q c, u = .slice q xs.length c ∧ Raw No (Kd.int .u8) w.heap q c xs := by
  obtain ⟨q, c, e, h1, h2, cells, he, hm⟩ := hr
  exact ⟨q, c, e, h1, h2, cells, he, hm⟩
theorem conv_ok {v : AV} (h : Rel W S ρ w) (hd : a.defers = []) (hy : VR (cx W S ρ w) v (a.eval y)) (hK : convA P T' T2 v S K = some r) : Comes P W S ρ w ⟨d, .convert T' T2 y, ty, pos, af, g⟩ a K r := by
  have ha := bnd_has (a := a) (Op1 y) hd
  have ey : Sx.ev (bnd a (Op1 y)) y = some (a.eval y) := bnd_ev (Nat.le_refl _)
  unfold convA at hK
  split at hK
  · rename_i t i h1 h2
    split at hK
    · rename_i bt v0 m j hi hj
      cases hc : !Nat.beq j.size 0 && Nat.blt 0 v0.sz with
      | false => rw [hc] at hK; cases hK
      | true =>
        rw [hc, cond_true] at hK
        rw [Bool.and_eq_true, Bool.not_eq_true', Nat.blt_eq] at hc
        obtain ⟨hq, b, hb, e⟩ := vr_ptr hy
        obtain ⟨b', cs, e1, hcr, hl, hx, _⟩ := h.ob i _ hi
        have hbb : b' = b := by
          have hb : (ρ i).a = _ := hb
          rw [e1] at hb
          exact congrArg Addr.block (Option.some.inj hb)
        subst hbb
        refine Comes.is h (d_toUnsafe ha h1 h2 (by rw [hj]; rfl) (fun e0 => by have e0 : j.size = 0 := e0; rw [e0] at hc; exact absurd hc.1 (by decide)) (by rw [ey, e]; rfl) hx (by rw [hl]; exact hc.2)) hK ?_
        rw [e] at hy
        exact hy
    · cases hK
  · rename_i u i h1 h2
    split at hK
    · rename_i bt v0 m hi
      cases hc : (P.info? u).isSome && liesAt P P.depth bt (v0.sz / P.cellsOf bt) 0 u 1 with
      | false => rw [hc] at hK; cases hK
      | true =>
        rw [hc, cond_true] at hK
        rw [Bool.and_eq_true] at hc
        obtain ⟨hq, b, hb, e⟩ := vr_ptr hy
        obtain ⟨b', cs, e1, hcr, hl, hx, _⟩ := h.ob i _ hi
        have hbb : b' = b := by
          have hb : (ρ i).a = _ := hb
          rw [e1] at hb
          exact congrArg Addr.block (Option.some.inj hb)
        subst hbb
        refine Comes.is h (d_fromUnsafe ha h1 h2 hc.1 (by rw [ey, e]; rfl) hx (by rw [hl]; exact hc.2)) hK ?_
        rw [e] at hy
        exact hy
    · cases hK
  · rename_i u k _ i h1 h2
    exact Comes.is h (d_cvt ha h1 h2 (by rw [ey, vr_int hy])) hK (vr_intI _ _)
  · rename_i u s h1 h2
    exact Comes.is h (d_cvtS ha h1 h2 (by rw [ey, vr_str hy])) hK (vr_strI _)
  · rename_i u k i h1 h2
    have e := vr_int hy
    exact Comes.is h (Does.val (by simp [execOp, e, convert, run_underlying h1, run_underlying h2, Conv.intToFloat]; rfl)) hK (vr_fltI (.inl rfl))
  · rename_i u z h1 h2
    obtain ⟨b, e, hs⟩ := vr_flt hy
    exact Comes.is h (Does.val (by simp [execOp, e, convert, run_underlying h1, run_underlying h2, Conv.floatToFloat])) hK (vr_fltI hs)
  · rename_i e s h1 h2
    split at hK
    · rename_i he
      obtain ⟨hl, hK⟩ := ck_elim hK
      refine (s2b_at h1 h2 he (vr_str hy) hl).mono ?_
      rintro u w' ⟨c, e1, hf, hr⟩
      refine ⟨_, _, _, hK, Aft.push h hf (g := ⟨some ⟨w.heap.size, 0, none⟩, (bytesOf s).length, c, 1⟩) (fun hh => by cases hh) (fun le => ⟨rfl, rfl, ?_⟩), by rw [e1]; exact view_vr⟩
      obtain ⟨g1, g2, cells, ge, gm⟩ := hr
      refine ⟨g1, g2, cells, ge, fun hne => ?_⟩
      obtain ⟨b, e2, hold, hL⟩ := gm hne
      have hnb : w.heap.size ≤ b := Nat.le_of_not_lt hold
      refine ⟨b, e2, ?_, hL⟩
      rintro (hW | hO)
      · have := h.wl b hW; omega
      · obtain ⟨i, o', q, hi, ho, hqa, hqb⟩ := hO
        rcases push_get hi with ⟨hl', gi⟩ | ⟨rfl, rfl⟩
        · rw [upd_other _ _ (Nat.ne_of_lt hl')] at hqa
          have := OwnB.lt h ⟨i, o', q, gi, ho, hqa, rfl⟩
          omega
        · cases ho
    · cases hK
  · rename_i e v' h1 h2 _
    split at hK
    · rename_i he
      split at hK
      · rename_i xs hxs
        obtain ⟨q, c, e1, hr⟩ := rd_u8 (sdatY_ok h hy hxs)
        exact Comes.is h (d_b2s ha h1 he h2 (by rw [ey, e1]) hr) hK (vr_strI _)
      · cases hK
    · cases hK
  · rename_i e e2 i h1 h2
    split at hK
    · rename_i e' x xs he hi
      cases hc : Nat.beq T' T2 && Nat.beq e' e with
      | false => rw [hc] at hK; cases hK
      | true =>
        rw [hc, cond_true] at hK
        rw [Bool.and_eq_true] at hc
        have hc1 := Nat.eq_of_beq_eq_true hc.1
        have hc2 := Nat.eq_of_beq_eq_true hc.2
        subst hc1
        subst hc2
        obtain ⟨g1, g2, g3⟩ := h.ob i _ hi
        obtain ⟨cs, e1, hcr, hcl⟩ := hy
        have hvr : VR (cx W S ρ w) (.view i) (a.eval y) := ⟨cs, e1, hcr, hcl⟩
        rw [CR] at hcr
        rw [hcr.2] at e1
        have e1 : a.eval y = .slice (ρ i).a (x :: xs).length (ρ i).c := by rw [← g1]; exact e1
        have hB : ∀ q, (ρ i).a = some q → ¬ (cx W (S.set i (.row e' (.int .u8) (x :: xs) .fz)) ρ w).A q.block := by
          rintro q hq (hW | ⟨j, o, p, hj, ho, haj, hbj⟩)
          · exact h.wd q.block ⟨i, _, q, hi, rfl, hq, rfl⟩ hW
          · rcases set_get hj with ⟨hne', hj⟩ | ⟨_, rfl, _⟩
            · exact h.dj j i o _ p q hne' hj hi ho rfl haj hq hbj
            · cases ho
        refine (d_cvtMark (kd := (T.int .u8).kd) (B := (cx W (S.set i (.row e' (.int .u8) (x :: xs) .fz)) ρ w).A) ha h1 he (by rw [ey, e1]) g3 (Kd.Flat.int _) (by simp) hB).mono ?_
        rintro u w' ⟨eu, hf, hr⟩
        have hA := Aft.put h hi (o' := .row e' (.int .u8) (x :: xs) .fz) (hf.mono fun k _ ⟨q, hq, hb⟩ => ⟨rfl, q, hq, hb⟩) (fun hh => by cases hh) (fun le => ⟨g1, g2, by
          obtain ⟨r1, r2, cells, r3, r4⟩ := hr
          refine ⟨r1, r2, cells, r3, fun hne => ?_⟩
          obtain ⟨b, o, C, TT, fr, k1, k2, k3, k4⟩ := r4 hne
          obtain ⟨b', hb'⟩ := row_a h hi hne
          rw [hb'] at k1
          have k1 := Option.some.inj k1
          obtain ⟨rfl, rfl, _⟩ : b' = b ∧ 0 = o ∧ True := ⟨congrArg Addr.block k1, congrArg Addr.off k1, trivial⟩
          exact ⟨b', hb', k2, C, TT, fr, k3, k4⟩⟩)
        refine ⟨_, _, _, hK, hA, ?_⟩
        rw [eu, ← e1]
        exact hvr.up hA.le
    · cases hK
  · cases hK
theorem len_ok {v : AV} (h : Rel W S ρ w) (hd : a.defers = []) (hy : VR (cx W S ρ w) v (a.eval y)) (hK : lenA P T' v S K = some r) : Comes P W S ρ w ⟨d, .call { callee := .builtin .len, args := #[y], argTypes := #[T'] }, ty, pos, af, g⟩ a K r := by
  have ha := bnd_has (a := a) (Op1 y) hd
  have ey : Sx.ev (bnd a (Op1 y)) y = some (a.eval y) := bnd_ev (Nat.le_refl _)
  unfold lenA at hK
  split at hK
  · rename_i hT
    split at hK
    · rename_i s
      exact Comes.is h (d_lenString ha hT (by rw [ey, vr_str hy])) hK (vr_intI _ _)
    · cases hK
  · rename_i n e hT
    cases hp : v.plain with
    | false => rw [hp] at hK; cases hK
    | true =>
      rw [hp, cond_true] at hK
      exact Comes.is h (d_lenArray ha hT ey) hK (vr_intI _ _)
  · rename_i e hT
    split at hK
    · rename_i n hn
      obtain ⟨q, c, e1⟩ := slen_ok h hy hn
      exact Comes.is h (d_lenSlice ha hT (by rw [ey, e1])) hK (vr_intI _ _)
    · cases hK
  · rename_i k e hT
    exact lenMap_ok hT h hy hK
  · cases hK
theorem range_ok {v : AV} (h : Rel W S ρ w) (hd : a.defers = []) (hy : VR (cx W S ρ w) v (a.eval y)) (hK : (match P.underlying T', some v with
    | some .string, some (.dat .str t) => K (.ptr S.length []) (S ++ [.itr t 0 true])
    | _, _ => none) = some r) : Comes P W S ρ w ⟨d, .range T' y, ty, pos, af, g⟩ a K r := by
  have ha := bnd_has (a := a) (Op1 y) hd
  split at hK
  · rename_i t hT hv
    obtain rfl := Option.some.inj hv
    refine (d_range ha hT (by rw [bnd_ev (Nat.le_refl _), vr_str hy])).mono ?_
    rintro u w' ⟨b, e, hb, hl, hI, hf⟩
    exact ⟨_, _, _, hK, Aft.push h hf (g := ⟨some ⟨b, 0, none⟩, 0, 1, 0⟩) (fun _ p hp => by obtain rfl := Option.some.inj hp; exact hb) (fun le => ⟨b, rfl, hI, fun hh => by cases hh⟩), by rw [e]; exact box_vr⟩
  · cases hK
theorem next_ok {v : AV} (h : Rel W S ρ w) (hd : a.defers = []) (hy : VR (cx W S ρ w) v (a.eval y)) (hK : (match some v with
    | some (.ptr q []) => (match S[q]? with
      | some (.itr t p true) => cond (decide (p < t.size)) (K (.tup [.dat .bool true, .dat (.int .i64) p, .dat (.int .i32) (Utf8.decode t p).1]) (S.set q (.itr t (p + (Utf8.decode t p).2) true))) (K (.tup [.dat .bool false]) S)
      | _ => none)
    | _ => none) = some r) : Comes P W S ρ w ⟨d, .next y true, ty, pos, af, g⟩ a K r := by
  have ha := bnd_has (a := a) (Op1 y) hd
  split at hK
  · rename_i q hv
    obtain rfl := Option.some.inj hv
    obtain ⟨hq, b, hb, e⟩ := vr_ptr hy
    split at hK
    · rename_i t p hi
      obtain ⟨b', e1, hI, _⟩ := h.ob q _ hi
      have hbb : b' = b := by
        have hb : (ρ q).a = _ := hb
        rw [e1] at hb
        exact congrArg Addr.block (Option.some.inj hb)
      subst hbb
      have bc : ∀ {x : Cx} (b : Bool), CR x (.dat .bool b) [.bool b] := fun b => cr_dat.2 rfl
      have ic : ∀ {x : Cx} (k : IntKind) (i : Int), CR x (.dat (.int k) i) [.int k i] := fun k i => cr_dat.2 rfl
      cases hp : decide (p < t.size) with
      | true =>
        rw [hp, cond_true] at hK
        refine (d_next ha (by rw [bnd_ev (Nat.le_refl _), e]; rfl) hI hp rfl).mono ?_
        rintro u w' ⟨eu, hI', hf⟩
        refine ⟨_, _, _, hK, Aft.put h hi (hf.mono fun k _ hk => ⟨rfl, _, e1, hk.symm⟩) (fun _ => rfl) (fun le => ⟨b', e1, hI', fun hh => by cases hh⟩), ?_⟩
        refine ⟨[.bool true, .int .i64 p, .int .i32 (Utf8.decode t p).1], by rw [eu], ?_⟩
        rw [VRs]
        refine ⟨_, _, rfl, bc true, rfl, ?_⟩
        rw [VRs]
        refine ⟨_, _, rfl, ic _ _, rfl, ?_⟩
        rw [VRs]
        exact ⟨_, _, rfl, ic _ _, rfl, by rw [VRs]⟩
      | false =>
        rw [hp, cond_false] at hK
        refine Comes.is h (d_nextEnd ha (by rw [bnd_ev (Nat.le_refl _), e]; rfl) hI hp rfl) hK ?_
        refine ⟨[.bool false], rfl, ?_⟩
        rw [VRs]
        exact ⟨_, _, rfl, bc false, rfl, by rw [VRs]⟩
    · cases hK
  · cases hK
end
end Go.Mx
namespace Go.Mx
open Go Go.RowKit Go.Sx
variable [Glb]
def Inv (P : Program) (f : FuncId) (us : List Value) (w : World) (Q : Value → World → Prop) : Prop :=
  (∃ u w', (callFunc f us.toArray).run P w = .ok (.value u) w' ∧ Q u w') ∨ ((callFunc f us.toArray).run P w = .ok (.enter f us.toArray) w ∧ Calls P f us.toArray w (Ret Q))
theorem Inv.mono {P : Program} {f : FuncId} {us : List Value} {w : World} {Q Q' : Value → World → Prop} (h : Inv P f us w Q) (hq : ∀ u w', Q u w' → Q' u w') : Inv P f us w Q' := by
  rcases h with ⟨u, w', h1, h2⟩ | ⟨h1, h2⟩
  · exact .inl ⟨u, w', h1, hq _ _ h2⟩
  · refine .inr ⟨h1, h2.mono fun e w' he => ?_⟩
    cases e with
    | returned v => exact hq _ _ he
    | panicked c => exact he.elim
    | outgrown => exact he.elim
section
variable {P : Program} {w : World} {a : Act}
variable {d : Option Nat} {ty : TypeId} {pos : String} {af : Array Edge} {g : Option (Nat × Bool)}
theorem call_does {f : FuncId} {x : Operand} {xs : Array Operand} {Ts : Array TypeId} {l m : List Value} {Q : Value → World → Prop} (hx : a.eval x = .func (.func f) l.toArray m.toArray) (h : Inv P f (l ++ xs.toList.map a.eval ++ m) w Q) :
    Does P ⟨d, .call { callee := .value x, args := xs, argTypes := Ts }, ty, pos, af, g⟩ a w Q := by
  have hargs : l.toArray ++ xs.map a.eval ++ m.toArray = (l ++ xs.toList.map a.eval ++ m).toArray := by
    apply Array.ext'
    simp
  rcases h with ⟨u, w', h1, h2⟩ | ⟨h1, h2⟩
  · refine (Does.val (v := u) (w' := w') ?_).mono (fun v w'' ⟨e1, e2⟩ => by subst e1; subst e2; exact h2)
    rw [← hargs] at h1
    simp only [execOp, resolve, hx, Deferred.ofValue, invoke, Sem.run_bind, Sem.run_pure, Result.andThen_ok, h1]
  · refine Does.enter (f := f) (args := (l ++ xs.toList.map a.eval ++ m).toArray) (w' := w) ?_ h2
    rw [← hargs] at h1 ⊢
    simp only [execOp, resolve, hx, Deferred.ofValue, invoke, Sem.run_bind, Sem.run_pure, Result.andThen_ok, h1]
end
mutual
theorem CR.ren {x y : Cx} {f : Nat → Option Nat} (hA : ∀ k, y.A k → x.A k) (hh : y.h = x.h) (hf : ∀ i j, i < x.m → f i = some j → j < y.m ∧ y.g j = x.g i) : ∀ (v : AV) {v' : AV} {cs : List Value}, v.ren f = some v' → CR x v cs → CR y v' cs ∧ v'.isAgg = v.isAgg ∧ v'.sz = v.sz
  | .dat t d, v', cs, h, r => by
    obtain rfl := Option.some.inj h
    exact ⟨cr_dat.2 (by rw [hh]; exact t.kd.mono (cr_dat.1 r) (fun k _ hk => hA k hk)), rfl, rfl⟩
  | .pr a b, v', cs, h, r => by
    rw [AV.ren] at h
    split at h
    · rename_i a' ha
      split at h
      · rename_i b' hb
        obtain rfl := Option.some.inj h
        rw [CR] at r
        obtain ⟨c1, c2, e, h1, h2⟩ := r
        obtain ⟨k1, _, k3⟩ := CR.ren hA hh hf a ha h1
        obtain ⟨m1, _, m3⟩ := CR.ren hA hh hf b hb h2
        exact ⟨by rw [CR]; exact ⟨c1, c2, e, k1, m1⟩, rfl, by show a'.sz + b'.sz = a.sz + b.sz; rw [k3, m3]⟩
      · cases h
    · cases h
  | .one a, v', cs, h, r => by
    rw [AV.ren] at h
    split at h
    · rename_i a' ha
      obtain rfl := Option.some.inj h
      obtain ⟨k1, _, k3⟩ := CR.ren hA hh hf a ha (cr_oneI.1 r)
      exact ⟨cr_oneI.2 k1, rfl, k3⟩
    · cases h
  | .ptr i p, v', cs, h, r => by
    rw [AV.ren] at h
    split at h
    · rename_i j hj
      obtain rfl := Option.some.inj h
      rw [CR] at r
      obtain ⟨h1, b, h2, h3⟩ := r
      obtain ⟨g1, g2⟩ := hf i j h1 hj
      exact ⟨by rw [CR]; exact ⟨g1, b, by rw [g2]; exact h2, h3⟩, rfl, rfl⟩
    · cases h
  | .nilp, v', cs, h, r => by obtain rfl := Option.some.inj h; rw [CR] at r; exact ⟨by rw [CR]; exact r, rfl, rfl⟩
  | .rdp t d, v', cs, h, r => by
    obtain rfl := Option.some.inj h
    rw [CR] at r
    obtain ⟨b, o, c, e, h1, h2, h3⟩ := r
    exact ⟨by rw [CR]; exact ⟨b, o, c, e, fun h => h1 (hA b h), by rw [hh]; exact h2, by rw [hh]; exact t.kd.mono h3 (fun k _ hk => hA k hk)⟩, rfl, rfl⟩
  | .view i, v', cs, h, r => by
    rw [AV.ren] at h
    split at h
    · rename_i j hj
      obtain rfl := Option.some.inj h
      rw [CR] at r
      obtain ⟨g1, g2⟩ := hf i j r.1 hj
      exact ⟨by rw [CR, g2]; exact ⟨g1, r.2⟩, rfl, rfl⟩
    · cases h
  | .pre i n, v', cs, h, r => by
    rw [AV.ren] at h
    split at h
    · rename_i j hj
      obtain rfl := Option.some.inj h
      rw [CR] at r
      obtain ⟨g1, g2⟩ := hf i j r.1 hj
      exact ⟨by rw [CR, g2]; exact ⟨g1, r.2⟩, rfl, rfl⟩
    · cases h
  | .tgt i n, v', cs, h, r => by
    rw [AV.ren] at h
    split at h
    · rename_i j hj
      obtain rfl := Option.some.inj h
      rw [CR] at r
      obtain ⟨g1, g2⟩ := hf i j r.1 hj
      exact ⟨by rw [CR, g2]; exact ⟨g1, r.2⟩, rfl, rfl⟩
    · cases h
  | .win i o n, v', cs, h, r => by
    rw [AV.ren] at h
    split at h
    · rename_i j hj
      obtain rfl := Option.some.inj h
      rw [CR] at r
      obtain ⟨g1, g2⟩ := hf i j r.1 hj
      exact ⟨by rw [CR, g2]; exact ⟨g1, r.2⟩, rfl, rfl⟩
    · cases h
  | .nils, v', cs, h, r => by obtain rfl := Option.some.inj h; rw [CR] at r; exact ⟨by rw [CR]; exact r, rfl, rfl⟩
  | .cut t, v', cs, h, r => by obtain rfl := Option.some.inj h; rw [CR] at r; exact ⟨by rw [CR]; exact r, rfl, rfl⟩
  | .nilw t, v', cs, h, r => by obtain rfl := Option.some.inj h; rw [CR] at r; exact ⟨by rw [CR]; exact r, rfl, rfl⟩
  | .sln t d, v', cs, h, r => by
    obtain rfl := Option.some.inj h
    rw [CR] at r
    obtain ⟨p, c, e, h1⟩ := r
    exact ⟨by rw [CR]; exact ⟨p, c, e, by rw [hh]; exact h1.mono (fun k _ hk => hA k hk)⟩, rfl, rfl⟩
  | .mp i, v', cs, h, r => by
    rw [AV.ren] at h
    split at h
    · rename_i j hj
      obtain rfl := Option.some.inj h
      rw [CR] at r
      obtain ⟨g1, g2⟩ := hf i j r.1 hj
      exact ⟨by rw [CR, g2]; exact ⟨g1, r.2⟩, rfl, rfl⟩
    · cases h
  | .nilm, v', cs, h, r => by obtain rfl := Option.some.inj h; rw [CR] at r; exact ⟨by rw [CR]; exact r, rfl, rfl⟩
  | .fn g fs ks, v', cs, h, r => by
    rw [AV.ren] at h
    split at h
    · rename_i fs' hfs
      split at h
      · rename_i ks' hks
        obtain rfl := Option.some.inj h
        rw [CR] at r
        obtain ⟨l, m, e, h1, h2⟩ := r
        exact ⟨by rw [CR]; exact ⟨l, m, e, VRs.ren hA hh hf fs hfs h1, VRs.ren hA hh hf ks hks h2⟩, rfl, rfl⟩
      · cases h
    · cases h
  | .nilf, v', cs, h, r => by obtain rfl := Option.some.inj h; rw [CR] at r; exact ⟨by rw [CR]; exact r, rfl, rfl⟩
  | .iface t v, v', cs, h, r => by
    rw [AV.ren] at h
    split at h
    · rename_i u hu
      obtain rfl := Option.some.inj h
      rw [CR] at r
      obtain ⟨c, e, h1, h2⟩ := r
      obtain ⟨k1, k2, k3⟩ := CR.ren hA hh hf v hu h1
      exact ⟨by rw [CR]; exact ⟨c, by rw [k2]; exact e, k1, by rw [k3]; exact h2⟩, rfl, rfl⟩
    · cases h
  | .nilI, v', cs, h, r => by obtain rfl := Option.some.inj h; rw [CR] at r; exact ⟨by rw [CR]; exact r, rfl, rfl⟩
  | .tup l, v', cs, h, r => by rw [CR] at r; exact r.elim
  | .undef, v', cs, h, r => by rw [CR] at r; exact r.elim
theorem VRs.ren {x y : Cx} {f : Nat → Option Nat} (hA : ∀ k, y.A k → x.A k) (hh : y.h = x.h) (hf : ∀ i j, i < x.m → f i = some j → j < y.m ∧ y.g j = x.g i) : ∀ (l : List AV) {l' : List AV} {m : List Value}, AV.renL f l = some l' → VRs x l m → VRs y l' m
  | [], l', m, h, r => by obtain rfl := Option.some.inj h; rw [VRs] at r ⊢; exact r
  | v :: l, l', m, h, r => by
    rw [AV.renL] at h
    split at h
    · rename_i v' hv
      split at h
      · rename_i l'' hl
        obtain rfl := Option.some.inj h
        rw [VRs] at r
        obtain ⟨c, m', e, h1, h2, h3⟩ := r
        obtain ⟨k1, k2, k3⟩ := CR.ren hA hh hf v hv h1
        rw [VRs]
        exact ⟨c, m', by rw [k2]; exact e, k1, by rw [k3]; exact h2, VRs.ren hA hh hf l hl h3⟩
      · cases h
    · cases h
end
theorem VR.ren {x y : Cx} {f : Nat → Option Nat} (hA : ∀ k, y.A k → x.A k) (hh : y.h = x.h) (hf : ∀ i j, i < x.m → f i = some j → j < y.m ∧ y.g j = x.g i) {v v' : AV} {u : Value} (h : v.ren f = some v') (r : VR x v u) : VR y v' u := by
  have other : v.plain = true → VR y v' u := by
    intro hp
    obtain ⟨cs, hc, e⟩ := vr_cr r hp
    obtain ⟨k1, k2, k3⟩ := CR.ren hA hh hf v h hc
    rw [e, ← k2]
    exact cr_vr k1
  cases v with
  | tup l =>
    rw [AV.ren] at h
    split at h
    · rename_i l' hl
      obtain rfl := Option.some.inj h
      obtain ⟨m, e, hm⟩ := r
      exact ⟨m, e, VRs.ren hA hh hf l hl hm⟩
    · cases h
  | undef => obtain rfl := Option.some.inj h; exact r
  | _ => exact other rfl
theorem A2.ren {x y : Cx} {f : Nat → Option Nat} (hA : ∀ k, y.A k → x.A k) (hh : y.h = x.h) (hf : ∀ i j, i < x.m → f i = some j → j < y.m ∧ y.g j = x.g i) : ∀ {l l' : List AV} {us : List Value}, AV.renL f l = some l' → A2 (VR x) l us → A2 (VR y) l' us
  | [], l', us, h, r => by obtain rfl := Option.some.inj h; cases r; exact .nil
  | v :: l, l', us, h, r => by
    rw [AV.renL] at h
    split at h
    · rename_i v' hv
      split at h
      · rename_i l'' hl
        obtain rfl := Option.some.inj h
        cases r with
        | cons h1 h2 => exact .cons (VR.ren hA hh hf hv h1) (A2.ren hA hh hf hl h2)
      · cases h
    · cases h
end Go.Mx
namespace Go.Mx
open Go Go.RowKit Go.Sx
variable [Glb]
theorem own_mine (o : AO) : o.own = o.mine := by
  cases o with
  | row e t xs m => cases m <;> rfl
  | _ => rfl
theorem sure_or {o : AO} (h : o.sure = true) : o = .gone ∨ o.own = true ∨ ∃ e t xs, o = .row e t xs .fz := by
  cases o with
  | gone => exact .inl rfl
  | row e t xs m =>
    cases m with
    | own => exact .inr (.inl rfl)
    | ro => cases h
    | fz => exact .inr (.inr ⟨e, t, xs, rfl⟩)
  | box ty v w => exact .inr (.inl h)
  | itr s p w => exact .inr (.inl h)
  | map kt vt es w => exact .inr (.inl h)
def Pass (f : Nat → Option Nat) (o o1 : AO) : Prop := o1 = .gone ∨ o.ren f = some o1 ∨ o.lent.ren f = some o1
structure Prt (S : List AO) (ρ : Nat → Geo) (S1 : List AO) (ρ1 : Nat → Geo) (L : List Nat) (f : Nat → Option Nat) : Prop where
  nd : L.Nodup
  len : S1.length = L.length
  get : ∀ (j : Nat) (o1 : AO), S1[j]? = some o1 → ∃ (i : Nat) (o : AO), L[j]? = some i ∧ S[i]? = some o ∧ Pass f o o1
  geo : ∀ (j i : Nat), L[j]? = some i → ρ1 j = ρ i
  at_ : ∀ (i j : Nat), f i = some j → L[j]? = some i
theorem ren_own {f : Nat → Option Nat} {o o1 : AO} (h : o.ren f = some o1) : o1.own = o.own ∧ o1.sure = o.sure := by
  cases o with
  | gone => obtain rfl := Option.some.inj h; exact ⟨rfl, rfl⟩
  | box ty v w =>
    rw [AO.ren] at h
    split at h
    · obtain rfl := Option.some.inj h; exact ⟨rfl, rfl⟩
    · cases h
  | row e t xs m => obtain rfl := Option.some.inj h; cases m <;> exact ⟨rfl, rfl⟩
  | itr s p w => obtain rfl := Option.some.inj h; exact ⟨rfl, rfl⟩
  | map kt vt es w => obtain rfl := Option.some.inj h; exact ⟨rfl, rfl⟩
theorem lent_own (o : AO) : o.lent.own = false := by
  cases o with
  | row e t xs m => cases m <;> rfl
  | _ => rfl
theorem pass_own {f : Nat → Option Nat} {o o1 : AO} (h : Pass f o o1) (ho : o1.own = true) : o.ren f = some o1 ∧ o.own = true := by
  rcases h with rfl | h | h
  · cases ho
  · exact ⟨h, by rw [← (ren_own h).1]; exact ho⟩
  · rw [(ren_own h).1, lent_own] at ho; cases ho
theorem idx_nd : ∀ {L : List Nat}, L.Nodup → ∀ {i j k : Nat}, L[i]? = some k → L[j]? = some k → i = j
  | [], _, i, j, k, hi, _ => by simp at hi
  | x :: L, h, i, j, k, hi, hj => by
    rw [List.nodup_cons] at h
    cases i with
    | zero =>
      cases j with
      | zero => rfl
      | succ j =>
        obtain rfl : x = k := Option.some.inj hi
        exact absurd (List.mem_of_getElem? (l := L) (i := j) hj) h.1
    | succ i =>
      cases j with
      | zero =>
        obtain rfl : x = k := Option.some.inj hj
        exact absurd (List.mem_of_getElem? (l := L) (i := i) hi) h.1
      | succ j => rw [idx_nd h.2 (i := i) (j := j) hi hj]
section
variable {W : Nat → Prop} {S S1 S3 S' : List AO} {ρ ρ1 ρ3 ρ' : Nat → Geo} {w w' : World} {L : List Nat} {f : Nat → Option Nat}
theorem Prt.own (s : Prt S ρ S1 ρ1 L f) {k : Nat} (h : OwnB S1 ρ1 k) : ∃ (j i : Nat) (o1 o : AO) (p : Addr), S1[j]? = some o1 ∧ L[j]? = some i ∧ S[i]? = some o ∧ o.ren f = some o1 ∧ o.own = true ∧ o1.own = true ∧ (ρ i).a = some p ∧ p.block = k := by
  obtain ⟨j, o1, p, hj, ho, ha, hb⟩ := h
  obtain ⟨i, o, hL, hS, hp⟩ := s.get j o1 hj
  obtain ⟨h1, h2⟩ := pass_own hp ho
  exact ⟨j, i, o1, o, p, hj, hL, hS, h1, h2, ho, by rw [← s.geo j i hL]; exact ha, hb⟩
theorem Prt.ownS (s : Prt S ρ S1 ρ1 L f) {k : Nat} (h : OwnB S1 ρ1 k) : OwnB S ρ k := by
  obtain ⟨j, i, o1, o, p, _, _, hS, _, ho, _, ha, hb⟩ := s.own h
  exact ⟨i, o, p, hS, ho, ha, hb⟩
def Grd (W : Nat → Prop) (S : List AO) (ρ : Nat → Geo) (S1 : List AO) (ρ1 : Nat → Geo) (k : Nat) : Prop := W k ∨ (OwnB S ρ k ∧ ¬ OwnB S1 ρ1 k)
theorem Prt.A (s : Prt S ρ S1 ρ1 L f) (k : Nat) : (cx (Grd W S ρ S1 ρ1) S1 ρ1 w).A k ↔ (cx W S ρ w).A k := by
  constructor
  · rintro ((h | h) | h)
    · exact .inl h
    · exact .inr h.1
    · exact .inr (s.ownS h)
  · rintro (h | h)
    · exact .inl (.inl h)
    · by_cases h1 : OwnB S1 ρ1 k
      · exact .inr h1
      · exact .inl (.inr ⟨h, h1⟩)
theorem Prt.idx (s : Prt S ρ S1 ρ1 L f) : ∀ i j, i < (cx W S ρ w).m → f i = some j → j < (cx (Grd W S ρ S1 ρ1) S1 ρ1 w).m ∧ (cx (Grd W S ρ S1 ρ1) S1 ρ1 w).g j = (cx W S ρ w).g i := by
  intro i j _ hf
  have hL := s.at_ i j hf
  exact ⟨by show j < S1.length; rw [s.len]; exact (List.getElem?_eq_some_iff.1 hL).1, s.geo j i hL⟩
theorem Prt.rel (s : Prt S ρ S1 ρ1 L f) (h : Rel W S ρ w) : Rel (Grd W S ρ S1 ρ1) S1 ρ1 w := by
  have hA : ∀ k, (cx (Grd W S ρ S1 ρ1) S1 ρ1 w).A k → (cx W S ρ w).A k := fun k => (s.A k).1
  have cr : ∀ {v v' : AV} {cs : List Value}, v.ren f = some v' → CR (cx W S ρ w) v cs → CR (cx (Grd W S ρ S1 ρ1) S1 ρ1 w) v' cs := fun hv hc => (CR.ren hA rfl (s.idx (W := W) (w := w)) _ hv hc).1
  -- a block that is not written by the whole is not by the part
  have nO : ∀ b, ¬ OwnB S ρ b → ¬ OwnB S1 ρ1 b := fun b hn hk => hn (s.ownS hk)
  -- one that is lent is no other's
  have lO : ∀ {j i : Nat} {o o1 : AO} {q : Addr}, S1[j]? = some o1 → L[j]? = some i → S[i]? = some o → o.lent.ren f = some o1 → (ρ i).a = some q → o.own = true → ¬ OwnB S1 ρ1 q.block := by
    intro j i o o1 q hj hL hS hp hq ho hk
    obtain ⟨j', i', o1', o', p, hj', hL', hS', hr', ho', ho1', ha', hb'⟩ := s.own hk
    by_cases hij : i' = i
    · subst hij
      have hjj := idx_nd s.nd hL' hL
      subst hjj
      rw [hj] at hj'
      obtain rfl := Option.some.inj hj'
      rw [(ren_own hp).1, lent_own] at ho1'
      cases ho1'
    · exact h.dj i' i o' o p q hij hS' hS ho' ho ha' hq hb'
  have rowR : ∀ {α : Type} {d : Kd α} {a : Option Addr} {c : Nat} {xs : List α} {O O' : Nat → Prop}, RowR (cx W S ρ w) O d a c xs → (∀ b, a = some ⟨b, 0, none⟩ → ¬ O b → ¬ O' b) → RowR (cx (Grd W S ρ S1 ρ1) S1 ρ1 w) O' d a c xs := by
    rintro α d a c xs O O' ⟨h1, h2, cells, he, hl⟩ hO
    exact ⟨h1, h2, cells, he.imp (fun _ _ hK => d.mono hK (fun k _ hk => hA k hk)), fun hne => by
      obtain ⟨b, ha, hb, hL⟩ := hl hne
      exact ⟨b, ha, hO b ha hb, hL⟩⟩
  refine ⟨fun j o1 hj => ?_, ?_, ?_, ?_, h.gl.sub hA rfl⟩
  · obtain ⟨i, o, hL, hS, hp⟩ := s.get j o1 hj
    rw [s.geo j i hL]
    have r := h.ob i o hS
    rcases hp with rfl | hp | hp
    · trivial
    · cases o with
      | gone => obtain rfl := Option.some.inj hp; trivial
      | box ty v m =>
        rw [AO.ren] at hp
        split at hp
        · rename_i v' hv
          obtain rfl := Option.some.inj hp
          obtain ⟨b, cs, e, h1, h2, h3, h4⟩ := r
          obtain ⟨k1, _, k3⟩ := CR.ren hA rfl (s.idx (W := W) (w := w)) v hv h1
          exact ⟨b, cs, e, k1, by rw [k3]; exact h2, h3, fun hm => nO b (h4 hm)⟩
        · cases hp
      | row e t xs m =>
        obtain rfl := Option.some.inj hp
        cases m with
        | own => exact ⟨r.1, r.2.1, r.2.2.mono (fun k _ hk => hA k hk)⟩
        | ro => exact ⟨r.1, r.2.1, rowR r.2.2 (fun b _ => nO b)⟩
        | fz => exact ⟨r.1, r.2.1, rowR r.2.2 (fun b _ hb hk => hb (hA b hk))⟩
      | itr t p m =>
        obtain rfl := Option.some.inj hp
        obtain ⟨b, e, h1, h2⟩ := r
        exact ⟨b, e, h1, fun hm => nO b (h2 hm)⟩
      | map kt vt es m =>
        obtain rfl := Option.some.inj hp
        obtain ⟨b, e, h1, h2⟩ := r
        exact ⟨b, e, h1.sub hA rfl, fun hm => nO b (h2 hm)⟩
    · cases o with
      | gone => obtain rfl := Option.some.inj hp; trivial
      | box ty v m =>
        have hp0 := hp
        rw [AO.lent, AO.ren] at hp
        split at hp
        · rename_i v' hv
          obtain rfl := Option.some.inj hp
          obtain ⟨b, cs, e, h1, h2, h3, h4⟩ := r
          obtain ⟨k1, _, k3⟩ := CR.ren hA rfl (s.idx (W := W) (w := w)) v hv h1
          refine ⟨b, cs, e, k1, by rw [k3]; exact h2, h3, fun _ => ?_⟩
          cases m with
          | true => exact lO hj hL hS hp0 e rfl
          | false => exact nO b (h4 rfl)
        · cases hp
      | row e t xs m =>
        cases m with
        | own =>
          have hp0 := hp
          obtain rfl := Option.some.inj hp
          obtain ⟨g1, g2, g3, g4, cells, he, hl⟩ := row_lies h hS
          refine ⟨g1, g2, g3, g4, cells, he.imp (fun _ _ hK => t.kd.mono hK (fun k _ hk => hA k hk)), fun hne => ?_⟩
          obtain ⟨b, ha, hLi⟩ := hl hne
          exact ⟨b, ha, lO hj hL hS hp0 ha rfl, hLi⟩
        | ro => obtain rfl := Option.some.inj hp; exact ⟨r.1, r.2.1, rowR r.2.2 (fun b _ => nO b)⟩
        | fz => obtain rfl := Option.some.inj hp; exact ⟨r.1, r.2.1, rowR r.2.2 (fun b _ hb hk => hb (hA b hk))⟩
      | itr t p m =>
        have hp0 := hp
        obtain rfl := Option.some.inj hp
        obtain ⟨b, e, h1, h2⟩ := r
        refine ⟨b, e, h1, fun _ => ?_⟩
        cases m with
        | true => exact lO hj hL hS hp0 e rfl
        | false => exact nO b (h2 rfl)
      | map kt vt es m =>
        have hp0 := hp
        obtain rfl := Option.some.inj hp
        obtain ⟨b, e, h1, h2⟩ := r
        refine ⟨b, e, h1.sub hA rfl, fun _ => ?_⟩
        cases m with
        | true => exact lO hj hL hS hp0 e rfl
        | false => exact nO b (h2 rfl)
  · intro i j o o' p q hij hi hj h1 h2 a1 a2
    obtain ⟨i1, oi, hLi, hSi, hpi⟩ := s.get i o hi
    obtain ⟨j1, oj, hLj, hSj, hpj⟩ := s.get j o' hj
    rw [s.geo i i1 hLi] at a1
    rw [s.geo j j1 hLj] at a2
    exact h.dj i1 j1 oi oj p q (fun e => hij (idx_nd s.nd hLi (by rw [e]; exact hLj))) hSi hSj (pass_own hpi h1).2 (pass_own hpj h2).2 a1 a2
  · rintro k (hk | hk)
    · exact h.wl k hk
    · exact OwnB.lt h hk.1
  · rintro k hk (hW | hk')
    · exact h.wd k (s.ownS hk) hW
    · exact hk'.2 hk
theorem Prt.vr (s : Prt S ρ S1 ρ1 L f) {l l' : List AV} {us : List Value} (hl : AV.renL f l = some l') (h : A2 (VR (cx W S ρ w)) l us) : A2 (VR (cx (Grd W S ρ S1 ρ1) S1 ρ1 w)) l' us :=
  A2.ren (fun k => (s.A k).1) rfl (s.idx (W := W) (w := w)) hl h
end
end Go.Mx
namespace Go.Mx
open Go Go.RowKit Go.Sx
variable [Glb]
section
variable {W : Nat → Prop} {S S1 S3 S' : List AO} {ρ ρ1 ρ3 : Nat → Geo} {w w' : World} {L : List Nat} {f : Nat → Option Nat}
def bk (S : List AO) (L : List Nat) (j : Nat) : Nat := match L[j]? with | some i => i | none => S.length + (j - L.length)
def bkG (S : List AO) (L : List Nat) (ρ ρ3 : Nat → Geo) (i : Nat) : Geo := if i < S.length then ρ i else ρ3 (L.length + (i - S.length))
structure Src (S : List AO) (ρ : Nat → Geo) (S1 : List AO) (ρ1 : Nat → Geo) (S3 : List AO) (L : List Nat) (f' : Nat → Option Nat) (S' : List AO) : Prop where
  len : S.length ≤ S'.length
  at_ : ∀ (j : Nat), j < S3.length → bk S L j < S'.length
  ix : ∀ (i j : Nat), f' i = some j → j = bk S L i
  src : ∀ (i : Nat) (o' : AO), S'[i]? = some o' → o' = .gone ∨ (i < S.length ∧ S[i]? = some o' ∧ (o'.own = true → ∀ p, (ρ i).a = some p → ¬ OwnB S1 ρ1 p.block)) ∨ (∃ (j : Nat) (o3 : AO), S3[j]? = some o3 ∧ o3.ren f' = some o' ∧ o3.sure = true ∧ bk S L j = i)
theorem Prt.lt (s : Prt S ρ S1 ρ1 L f) {j i : Nat} (h : L[j]? = some i) : i < S.length := by
  have hj : j < S1.length := by rw [s.len]; exact (List.getElem?_eq_some_iff.1 h).1
  obtain ⟨i', o, h1, h2, _⟩ := s.get j _ (List.getElem?_eq_getElem hj)
  rw [h] at h1
  obtain rfl := Option.some.inj h1
  exact (List.getElem?_eq_some_iff.1 h2).1
theorem Prt.bk_inj (s : Prt S ρ S1 ρ1 L f) {j k : Nat} (h : bk S L j = bk S L k) : j = k := by
  unfold bk at h
  cases hj : L[j]? with
  | some i =>
    have hi := s.lt hj
    cases hk : L[k]? with
    | some i' => rw [hj, hk] at h; simp only at h; subst h; exact idx_nd s.nd hj hk
    | none => rw [hj, hk] at h; simp only at h; omega
  | none =>
    have h1 := List.getElem?_eq_none_iff.1 hj
    cases hk : L[k]? with
    | some i' => rw [hj, hk] at h; simp only at h; have := s.lt hk; omega
    | none =>
      have h2 := List.getElem?_eq_none_iff.1 hk
      rw [hj, hk] at h
      simp only at h
      omega
theorem Prt.bk_geo (s : Prt S ρ S1 ρ1 L f) {W' : Nat → Prop} (A : Aft W' S1 ρ1 w S3 ρ3 w') (j : Nat) : bkG S L ρ ρ3 (bk S L j) = ρ3 j := by
  unfold bk bkG
  cases hj : L[j]? with
  | some i =>
    have hi := s.lt hj
    simp only [if_pos hi]
    rw [A.ag j (by rw [s.len]; exact (List.getElem?_eq_some_iff.1 hj).1), s.geo j i hj]
  | none =>
    have h1 := List.getElem?_eq_none_iff.1 hj
    simp only
    rw [if_neg (by omega)]
    congr 1
    omega
theorem Prt.back (s : Prt S ρ S1 ρ1 L f) {f' : Nat → Option Nat} (h : Rel W S ρ w) (A : Aft (Grd W S ρ S1 ρ1) S1 ρ1 w S3 ρ3 w') (r : Src S ρ S1 ρ1 S3 L f' S') :
    Aft W S ρ w S' (bkG S L ρ ρ3) w' ∧ ∀ (v v' : AV) (u : Value), v.ren f' = some v' → VR (cx (Grd W S ρ S1 ρ1) S3 ρ3 w') v u → VR (cx W S' (bkG S L ρ ρ3) w') v' u := by
  -- what is written: what was left alone, or what came back
  have own : ∀ (i : Nat) (o : AO) (p : Addr), S'[i]? = some o → o.own = true → (bkG S L ρ ρ3 i).a = some p → (i < S.length ∧ S[i]? = some o ∧ (ρ i).a = some p ∧ ¬ OwnB S1 ρ1 p.block) ∨ (∃ (j : Nat) (o3 : AO), S3[j]? = some o3 ∧ o3.own = true ∧ (ρ3 j).a = some p ∧ bk S L j = i) := by
    intro i o p hi ho ha
    rcases r.src i o hi with rfl | ⟨hl, hS, hn⟩ | ⟨j, o3, h3, hr, hs, hb⟩
    · cases ho
    · have ha' : (ρ i).a = some p := by unfold bkG at ha; rw [if_pos hl] at ha; exact ha
      exact .inl ⟨hl, hS, ha', hn ho p ha'⟩
    · rw [← hb, s.bk_geo A] at ha
      exact .inr ⟨j, o3, h3, by rw [← (ren_own hr).1]; exact ho, ha, hb⟩
  have hA : ∀ k, (cx W S' (bkG S L ρ ρ3) w').A k → (cx (Grd W S ρ S1 ρ1) S3 ρ3 w').A k := by
    rintro k (hW | ⟨i, o, p, hi, ho, ha, hb⟩)
    · exact .inl (.inl hW)
    · rcases own i o p hi ho ha with ⟨hl, hS, ha', hn⟩ | ⟨j, o3, h3, ho3, ha3, _⟩
      · rw [hb] at hn
        exact .inl (.inr ⟨⟨i, o, p, hS, ho, ha', hb⟩, hn⟩)
      · exact .inr ⟨j, o3, p, h3, ho3, ha3, hb⟩
  have nw : ∀ k, OwnB S' (bkG S L ρ ρ3) k → OwnB S ρ k ∨ w.heap.size ≤ k := by
    rintro k ⟨i, o, p, hi, ho, ha, hb⟩
    rcases own i o p hi ho ha with ⟨hl, hS, ha', hn⟩ | ⟨j, o3, h3, ho3, ha3, _⟩
    · exact .inl ⟨i, o, p, hS, ho, ha', hb⟩
    · exact (A.nw k ⟨j, o3, p, h3, ho3, ha3, hb⟩).imp s.ownS id
  have ix : ∀ i j, i < (cx (Grd W S ρ S1 ρ1) S3 ρ3 w').m → f' i = some j → j < (cx W S' (bkG S L ρ ρ3) w').m ∧ (cx W S' (bkG S L ρ ρ3) w').g j = (cx (Grd W S ρ S1 ρ1) S3 ρ3 w').g i := by
    intro i j hi hf
    have e := r.ix i j hf
    subst e
    exact ⟨r.at_ i hi, s.bk_geo A i⟩
  refine ⟨Aft.of h A.fr (fun k hk => s.ownS hk) nw (fun i hi => if_pos hi) r.len ?_ ?_, fun v v' u hv hu => VR.ren hA rfl ix hv hu⟩
  · intro le i o hi
    rcases r.src i o hi with rfl | ⟨hl, hS, hn⟩ | ⟨j, o3, h3, hr, hs, hb⟩
    · exact .inr trivial
    · exact .inl ⟨hS, hn⟩
    · refine .inr ?_
      rw [← hb, s.bk_geo A]
      have ro := A.rel.ob j o3 h3
      rcases sure_or hs with rfl | ho | ⟨e, t, xs, rfl⟩
      · obtain rfl := Option.some.inj hr; trivial
      · cases o3 with
        | gone => cases ho
        | box ty v m =>
          obtain rfl : m = true := ho
          rw [AO.ren] at hr
          split at hr
          · rename_i v' hv
            obtain rfl := Option.some.inj hr
            obtain ⟨b, cs, e, h1, h2, h4, _⟩ := ro
            obtain ⟨k1, _, k3⟩ := CR.ren hA rfl ix v hv h1
            exact ⟨b, cs, e, k1, by rw [k3]; exact h2, h4, fun hm => by cases hm⟩
          · cases hr
        | row e t xs m =>
          cases m with
          | own => obtain rfl := Option.some.inj hr; exact ⟨ro.1, ro.2.1, ro.2.2.mono (fun k _ hk => hA k hk)⟩
          | ro => cases ho
          | fz => cases ho
        | itr t p m =>
          obtain rfl : m = true := ho
          obtain rfl := Option.some.inj hr
          obtain ⟨b, e, h1, _⟩ := ro
          exact ⟨b, e, h1, fun hm => by cases hm⟩
        | map kt vt es m =>
          obtain rfl : m = true := ho
          obtain rfl := Option.some.inj hr
          obtain ⟨b, e, h1, _⟩ := ro
          exact ⟨b, e, h1.sub hA rfl, fun hm => by cases hm⟩
      · obtain rfl := Option.some.inj hr
        obtain ⟨g1, g2, g3, g4, cells, he, hl⟩ := ro
        refine ⟨g1, g2, g3, g4, cells, he.imp (fun _ _ hK => t.kd.mono hK (fun k _ hk => hA k hk)), fun hne => ?_⟩
        obtain ⟨b, ha, hn, hL⟩ := hl hne
        exact ⟨b, ha, fun hk => hn (hA b hk), hL⟩
  · intro i j o o' p q hij hi hj h1 h2 a1 a2 hb
    rcases own i o p hi h1 a1 with ⟨l1, S1', b1, n1⟩ | ⟨j1, o1, g1, d1, b1, e1⟩
    · rcases own j o' q hj h2 a2 with ⟨l2, S2', b2, n2⟩ | ⟨j2, o2, g2, d2, b2, e2⟩
      · exact h.dj i j o o' p q hij S1' S2' h1 h2 b1 b2 hb
      · rcases A.nw q.block ⟨j2, o2, q, g2, d2, b2, rfl⟩ with hk | hk
        · rw [← hb] at hk; exact n1 hk
        · have := OwnB.lt h ⟨i, o, p, S1', h1, b1, rfl⟩; omega
    · rcases own j o' q hj h2 a2 with ⟨l2, S2', b2, n2⟩ | ⟨j2, o2, g2, d2, b2, e2⟩
      · rcases A.nw p.block ⟨j1, o1, p, g1, d1, b1, rfl⟩ with hk | hk
        · rw [hb] at hk; exact n2 hk
        · have := OwnB.lt h ⟨j, o', q, S2', h2, b2, rfl⟩; omega
      · exact A.rel.dj j1 j2 o1 o2 p q (fun e => hij (by rw [← e1, ← e2, e])) g1 g2 d1 d2 b1 b2 hb
end
end Go.Mx
namespace Go.Mx
open Go Go.RowKit Go.Sx
variable [Glb]
theorem nodupB_ok : ∀ {L : List Nat}, nodupB L = true → L.Nodup
  | [], _ => List.nodup_nil
  | i :: L, h => by
    rw [nodupB, Bool.and_eq_true, Bool.not_eq_true'] at h
    rw [List.nodup_cons]
    exact ⟨by have := h.1; simpa using this, nodupB_ok h.2⟩
theorem posn_ok {i : Nat} : ∀ {L : List Nat} {n j : Nat}, posn i L n = some j → n ≤ j ∧ L[j - n]? = some i
  | [], n, j, h => by cases h
  | k :: L, n, j, h => by
    rw [posn] at h
    cases hk : Nat.beq k i with
    | true =>
      rw [hk] at h
      obtain rfl := Option.some.inj h
      have := Nat.eq_of_beq_eq_true hk
      exact ⟨Nat.le_refl _, by rw [Nat.sub_self, this]; rfl⟩
    | false =>
      rw [hk] at h
      obtain ⟨h1, h2⟩ := posn_ok h
      refine ⟨by omega, ?_⟩
      rw [show j - n = (j - (n + 1)) + 1 by omega]
      exact h2
theorem renAll_ok {f : Nat → Option Nat} : ∀ {l l' : List AO}, renAll f l = some l' → l'.length = l.length ∧ ∀ (j : Nat) (o' : AO), l'[j]? = some o' → ∃ o, l[j]? = some o ∧ o.ren f = some o'
  | [], l', h => by obtain rfl := Option.some.inj h; exact ⟨rfl, fun j o' h => by simp at h⟩
  | o :: l, l', h => by
    rw [renAll] at h
    split at h
    · rename_i o1 ho
      split at h
      · rename_i l1 hl
        obtain rfl := Option.some.inj h
        obtain ⟨h1, h2⟩ := renAll_ok hl
        refine ⟨by simp [h1], fun j o' hj => ?_⟩
        cases j with
        | zero => obtain rfl : o1 = o' := Option.some.inj hj; exact ⟨o, rfl, ho⟩
        | succ j => exact h2 j o' hj
      · cases h
    · cases h
theorem passObs_ok {ob : List AO} {wr : List Nat} : ∀ {L : List Nat} {n : Nat} {l : List AO}, passObs ob wr L n = some l → l.length = L.length ∧ ∀ (j : Nat) (o' : AO), l[j]? = some o' → ∃ (i : Nat) (o : AO), L[j]? = some i ∧ ob[i]? = some o ∧ o' = cond (wr.contains (n + j)) o o.lent
  | [], n, l, h => by obtain rfl := Option.some.inj h; exact ⟨rfl, fun j o' h => by simp at h⟩
  | i :: L, n, l, h => by
    rw [passObs] at h
    split at h
    · rename_i o ho
      split at h
      · rename_i l1 hl
        obtain rfl := Option.some.inj h
        obtain ⟨h1, h2⟩ := passObs_ok hl
        refine ⟨by simp [h1], fun j o' hj => ?_⟩
        cases j with
        | zero => obtain rfl := Option.some.inj hj; exact ⟨i, o, rfl, ho, rfl⟩
        | succ j =>
          obtain ⟨i', o2, k1, k2, k3⟩ := h2 j o' hj
          exact ⟨i', o2, k1, k2, by rw [k3, show n + 1 + j = n + (j + 1) by omega]⟩
      · cases h
    · cases h
theorem newL_get : ∀ {l : List AO} {j : Nat} {o : AO}, (newL l)[j]? = some o → ∃ n, l[j]? = some n ∧ o = newO n
  | [], j, o, h => by simp [newL] at h
  | n :: l, j, o, h => by
    cases j with
    | zero => exact ⟨n, rfl, (Option.some.inj h).symm⟩
    | succ j => exact newL_get (l := l) (j := j) h
theorem newL_len : ∀ (l : List AO), (newL l).length = l.length
  | [] => rfl
  | _ :: l => by rw [newL, List.length_cons, newL_len l, List.length_cons]
theorem backObs_len {wr : List Nat} : ∀ (L : List Nat) (n : Nat) (new ob : List AO), L.length ≤ new.length → (backObs wr L n new ob).length = ob.length + (new.length - L.length)
  | [], n, new, ob, _ => by rw [backObs, List.length_append, newL_len]; simp
  | i :: L, n, [], ob, h => by simp at h
  | i :: L, n, o :: new, ob, h => by
    rw [backObs, backObs_len L (n + 1) new _ (by simpa using h)]
    cases wr.contains n with
    | false => rw [cond_false]; simp
    | true =>
      rw [cond_true]
      cases ob[i]? with
      | none => simp
      | some old => simp
theorem backObs_ok {wr : List Nat} : ∀ (L : List Nat) (n : Nat) (new ob : List AO), L.Nodup → L.length ≤ new.length → (∀ i ∈ L, i < ob.length) → ∀ (i : Nat) (o' : AO), (backObs wr L n new ob)[i]? = some o' →
    (i < ob.length ∧ ob[i]? = some o' ∧ ∀ j, L[j]? = some i → wr.contains (n + j) = false) ∨
    (∃ (j : Nat) (old o : AO), L[j]? = some i ∧ ob[i]? = some old ∧ new[j]? = some o ∧ o' = backO old o) ∨
    (∃ (j : Nat) (o : AO), L.length ≤ j ∧ new[j]? = some o ∧ i = ob.length + (j - L.length) ∧ o' = newO o)
  | [], n, new, ob, _, _, _, i, o', h => by
    rw [backObs] at h
    rcases Nat.lt_or_ge i ob.length with hl | hl
    · rw [List.getElem?_append, if_pos hl] at h
      exact .inl ⟨hl, h, fun j hj => by simp at hj⟩
    · rw [List.getElem?_append, if_neg (by omega)] at h
      obtain ⟨o, h1, h2⟩ := newL_get h
      exact .inr (.inr ⟨i - ob.length, o, Nat.zero_le _, h1, by simp; omega, h2⟩)
  | k :: L, n, [], ob, _, hl, _, i, o', h => by simp at hl
  | k :: L, n, o :: new, ob, hnd, hl, hlt, i, o', h => by
    rw [List.nodup_cons] at hnd
    rw [backObs] at h
    have hk := hlt k (by simp)
    obtain ⟨old, hold⟩ : ∃ old, ob[k]? = some old := ⟨_, List.getElem?_eq_getElem hk⟩
    rw [hold] at h
    cases hw : wr.contains n with
    | false =>
      rw [hw] at h
      rcases backObs_ok L (n + 1) new ob hnd.2 (by simpa using hl) (fun i hi => hlt i (by simp [hi])) i o' h with ⟨h1, h2, h3⟩ | ⟨j, old', o2, h1, h2, h3, h4⟩ | ⟨j, o2, h1, h2, h3, h4⟩
      · refine .inl ⟨h1, h2, fun j hj => ?_⟩
        cases j with
        | zero => exact hw
        | succ j => have := h3 j hj; rwa [show n + 1 + j = n + (j + 1) by omega] at this
      · exact .inr (.inl ⟨j + 1, old', o2, h1, h2, h3, h4⟩)
      · exact .inr (.inr ⟨j + 1, o2, by simpa using h1, h2, by rw [h3]; simp, h4⟩)
    | true =>
      rw [hw] at h
      rcases backObs_ok L (n + 1) new (ob.set k (backO old o)) hnd.2 (by simpa using hl) (fun i hi => by rw [List.length_set]; exact hlt i (by simp [hi])) i o' h with ⟨h1, h2, h3⟩ | ⟨j, old', o2, h1, h2, h3, h4⟩ | ⟨j, o2, h1, h2, h3, h4⟩
      · rcases set_get h2 with ⟨hne, h2⟩ | ⟨rfl, rfl, _⟩
        · refine .inl ⟨by rw [List.length_set] at h1; exact h1, h2, fun j hj => ?_⟩
          cases j with
          | zero => exact absurd (Option.some.inj hj).symm hne
          | succ j => have := h3 j hj; rwa [show n + 1 + j = n + (j + 1) by omega] at this
        · exact .inr (.inl ⟨0, old, o, rfl, hold, rfl, rfl⟩)
      · have hne : k ≠ i := fun e => hnd.1 (by rw [e]; exact List.mem_of_getElem? h1)
        rw [List.getElem?_set_ne hne] at h2
        exact .inr (.inl ⟨j + 1, old', o2, h1, h2, h3, h4⟩)
      · exact .inr (.inr ⟨j + 1, o2, by simpa using h1, h2, by rw [h3]; simp, h4⟩)
def CallOk (P : Program) (Γ : Sums) : Prop := ∀ {R : Type} (f : FuncId) (args : List AV) (ob : List AO) (K : KV R) (r : R), Γ.call f args ob K = some r → ∀ (W : Nat → Prop) (ρ : Nat → Geo) (w : World) (us : List Value), Rel W ob ρ w → A2 (VR (cx W ob ρ w)) args us →
  Inv P f us w (fun u w' => ∃ v ob' ρ', K v ob' = some r ∧ Aft W ob ρ w ob' ρ' w' ∧ VR (cx W ob' ρ' w') v u)
def PrimOk (P : Program) (Γ : Sums) : Prop := SumsNat Γ ∧ ∀ {R : Type} (f : FuncId) (p : Prim), Γ.prim f = some p → ∀ (args : List AV) (ob : List AO) (K : KV R) (r : R), primA P p args ob K = some r → ∀ (W : Nat → Prop) (ρ : Nat → Geo) (w : World) (us : List Value), Rel W ob ρ w → A2 (VR (cx W ob ρ w)) args us →
  Inv P f us w (fun u w' => ∃ v ob' ρ', K v ob' = some r ∧ Aft W ob ρ w ob' ρ' w' ∧ VR (cx W ob' ρ' w') v u)
theorem callA_ok {R : Type} {P : Program} {Γ : Sums} (hΓ : CallOk P Γ) {f : FuncId} {args : List AV} {S : List AO} {K : KV R} {r : R} (hK : callA Γ f args S K = some r) {W : Nat → Prop} {ρ : Nat → Geo} {w : World} {us : List Value} (h : Rel W S ρ w) (ha : A2 (VR (cx W S ρ w)) args us) :
    Inv P f us w (fun u w' => ∃ v ob' ρ', K v ob' = some r ∧ Aft W S ρ w ob' ρ' w' ∧ VR (cx W ob' ρ' w') v u) := by
  unfold callA at hK
  simp only at hK
  generalize hL : reachA S (AV.idsL args) = L at hK
  cases hn : nodupB L with
  | false => rw [hn] at hK; cases hK
  | true =>
    rw [hn, cond_true] at hK
    split at hK
    · rename_i args' hargs
      split at hK
      · rename_i ob1 hp
        split at hK
        · rename_i ob2 hr
          obtain ⟨p1, p2⟩ := passObs_ok hp
          obtain ⟨r1, r2⟩ := renAll_ok hr
          have get2 : ∀ (j : Nat) (o1 : AO), ob2[j]? = some o1 → ∃ (i : Nat) (o : AO), L[j]? = some i ∧ S[i]? = some o ∧ (cond ((Γ.wr f args').contains j) o o.lent).ren (fun i => posn i L 0) = some o1 := by
            intro j o1 hj
            obtain ⟨o', h1, h2⟩ := r2 j o1 hj
            obtain ⟨i, o, h3, h4, h5⟩ := p2 j o' h1
            rw [Nat.zero_add] at h5
            exact ⟨i, o, h3, h4, by rw [← h5]; exact h2⟩
          have prt : Prt S ρ ob2 (fun j => match L[j]? with | some i => ρ i | none => ρ 0) L (fun i => posn i L 0) := by
            refine ⟨nodupB_ok hn, by rw [r1, p1], fun j o1 hj => ?_, fun j i hj => by simp only [hj], fun i j hj => ?_⟩
            · obtain ⟨i, o, h3, h4, h5⟩ := get2 j o1 hj
              refine ⟨i, o, h3, h4, ?_⟩
              cases hc : (Γ.wr f args').contains j with
              | true => rw [hc] at h5; exact .inr (.inl h5)
              | false => rw [hc] at h5; exact .inr (.inr h5)
            · have := (posn_ok hj).2
              rwa [Nat.sub_zero] at this
          refine (hΓ f args' ob2 _ r hK _ _ w us (prt.rel h) (prt.vr hargs ha)).mono ?_
          rintro u w' ⟨v, ob3, ρ3, hk, A3, hv⟩
          split at hk
          · rename_i v' hv'
            split at hk
            · rename_i ob4 h4
              obtain ⟨q1, q2⟩ := renAll_ok h4
              have hlen : L.length ≤ ob4.length := by rw [q1, ← p1, ← r1]; exact A3.m
              have src : Src S ρ ob2 (fun j => match L[j]? with | some i => ρ i | none => ρ 0) ob3 L (fun j => match L[j]? with | some i => some i | none => some (S.length + (j - L.length))) (backObs (Γ.wr f args') L 0 ob4 S) := by
                have hbl := backObs_len (wr := Γ.wr f args') L 0 ob4 S hlen
                refine ⟨by rw [hbl]; omega, fun j hj => ?_, fun i j hj => ?_, fun i o' hi => ?_⟩
                · rw [hbl]
                  unfold bk
                  cases hLj : L[j]? with
                  | some i => have := prt.lt hLj; simp only; omega
                  | none =>
                    have := List.getElem?_eq_none_iff.1 hLj
                    simp only
                    omega
                · unfold bk
                  cases hLj : L[i]? with
                  | some k => rw [hLj] at hj; exact (Option.some.inj hj).symm
                  | none => rw [hLj] at hj; exact (Option.some.inj hj).symm
                · rcases backObs_ok L 0 ob4 S (nodupB_ok hn) hlen (fun i hi => by obtain ⟨j, hj⟩ := List.getElem?_of_mem hi; exact prt.lt hj) i o' hi with ⟨h1, h2, h3⟩ | ⟨j, old, o, h1, h2, h3, h5⟩ | ⟨j, o, h1, h2, h3, h5⟩
                  · refine .inr (.inl ⟨h1, h2, fun ho p hp hk' => ?_⟩)
                    obtain ⟨j', i', o1', o2', p', hj', hL', hS', hr', ho', ho1', ha', hb'⟩ := prt.own hk'
                    by_cases hii : i' = i
                    · subst hii
                      have := h3 j' hL'
                      rw [Nat.zero_add] at this
                      obtain ⟨i2, o2, g1, g2, g3⟩ := get2 j' o1' hj'
                      rw [this, cond_false] at g3
                      rw [(ren_own g3).1, lent_own] at ho1'
                      cases ho1'
                    · exact h.dj i' i o2' o' p' p hii hS' h2 ho' ho ha' hp hb'
                  · obtain ⟨o3, g1, g2⟩ := q2 j o h3
                    unfold backO at h5
                    cases hs : o.sure with
                    | true =>
                      rw [hs, cond_true] at h5
                      subst h5
                      refine .inr (.inr ⟨j, o3, g1, g2, by rw [← (ren_own g2).2]; exact hs, ?_⟩)
                      unfold bk
                      rw [h1]
                    | false =>
                      rw [hs, cond_false] at h5
                      cases hm : old.mine with
                      | true => rw [hm] at h5; exact .inl h5
                      | false =>
                        rw [hm, cond_false] at h5
                        subst h5
                        exact .inr (.inl ⟨prt.lt h1, h2, fun ho => by rw [own_mine, hm] at ho; cases ho⟩)
                  · obtain ⟨o3, g1, g2⟩ := q2 j o h2
                    unfold newO at h5
                    cases hs : o.sure with
                    | true =>
                      rw [hs, cond_true] at h5
                      subst h5
                      refine .inr (.inr ⟨j, o3, g1, g2, by rw [← (ren_own g2).2]; exact hs, ?_⟩)
                      unfold bk
                      rw [List.getElem?_eq_none_iff.2 h1]
                      exact h3.symm
                    | false => rw [hs] at h5; exact .inl h5
              obtain ⟨B1, B2⟩ := prt.back h A3 src
              exact ⟨v', _, _, hk, B1, B2 v v' u hv' hv⟩
            · cases hk
          · cases hk
        · cases hK
      · cases hK
    · cases hK
end Go.Mx
namespace Go.Mx
open Go Go.RowKit Go.Sx
variable [Glb]
theorem vrs_a2 {x : Cx} : ∀ {l : List AV} {us : List Value}, VRs x l us → A2 (VR x) l us
  | [], us, h => by rw [VRs] at h; subst h; exact .nil
  | v :: l, us, h => by
    rw [VRs] at h
    obtain ⟨c, us', e, h1, h2, h3⟩ := h
    subst e
    exact .cons (cr_vr h1) (vrs_a2 h3)
theorem a2_vrs {x : Cx} : ∀ {l : List AV} {us : List Value}, A2 (VR x) l us → l.all AV.plain = true → VRs x l us
  | [], us, h, _ => by cases h; rw [VRs]
  | v :: l, us, h, hp => by
    rw [List.all_cons, Bool.and_eq_true] at hp
    cases h with
    | cons h1 h2 =>
      obtain ⟨cs, hc, e⟩ := vr_cr h1 hp.1
      rw [VRs]
      exact ⟨cs, _, by rw [e], hc, cr_len hc, a2_vrs h2 hp.2⟩
theorem A2.append {α β : Type} {R : α → β → Prop} : ∀ {l : List α} {m : List β} {l' : List α} {m' : List β}, A2 R l m → A2 R l' m' → A2 R (l ++ l') (m ++ m')
  | [], _, _, _, .nil, h => h
  | _ :: _, _, _, _, .cons h1 h2, h => .cons h1 (A2.append h2 h)
theorem evs_cons {s : Slots} {l : List Operand} {v : AV} {vs : List AV} (h : Mx.evs s l = some (v :: vs)) : ∃ y r, l = y :: r ∧ Mx.ev s y = some v ∧ Mx.evs s r = some vs := by
  cases l with
  | nil => cases h
  | cons y r =>
    rw [Mx.evs] at h
    split at h
    · rename_i v' hv
      split at h
      · rename_i l' hl
        obtain ⟨rfl, rfl⟩ := List.cons.inj (Option.some.inj h)
        exact ⟨y, r, rfl, hv, hl⟩
      · cases h
    · cases h
theorem evs_nil {s : Slots} {l : List Operand} (h : Mx.evs s l = some []) : l = [] := by
  cases l with
  | nil => rfl
  | cons y r =>
    rw [Mx.evs] at h
    split at h
    · split at h <;> cases h
    · cases h
theorem arr_of {α : Type} {a : Array α} {l : List α} (h : a.toList = l) : a = l.toArray := by rw [← h]
section
variable {R : Type} {P : Program} {Γ : Sums} {W : Nat → Prop} {S : List AO} {ρ : Nat → Geo} {w : World} {a : Act}
variable {K : KV R} {r : R}
theorem run_cpx (A : Array TypeId) (t : TypeId) (b c : Nat) (w : World) : (Builtin.complex_ A t #[.float .f64 b, .float .f64 c]).run P w = .ok (.complex .f64 b c) w := rfl
theorem run_re (A : Array TypeId) (t : TypeId) (b c : Nat) (w : World) : (Builtin.real_ A t #[.complex .f64 b c]).run P w = .ok (.float .f64 b) w := rfl
theorem run_im (A : Array TypeId) (t : TypeId) (b c : Nat) (w : World) : (Builtin.imag_ A t #[.complex .f64 b c]).run P w = .ok (.float .f64 c) w := rfl
theorem builtin_ok {d : Option Nat} {ty : TypeId} {pos : String} {af : Array Edge} {g : Option (Nat × Bool)} {b : Builtin} {as : Array Operand} {Ts : Array TypeId} {s : Slots} {l : List AV} (h : Rel W S ρ w) (hd : a.defers = []) (hs : SlR (cx W S ρ w) s a) (hl : Mx.evs s as.toList = some l) (hK : builtinA P b Ts.toList l S K = some r) :
    Comes P W S ρ w ⟨d, .call { callee := .builtin b, args := as, argTypes := Ts }, ty, pos, af, g⟩ a K r := by
  unfold builtinA at hK
  split at hK
  · rename_i t x hT
    obtain ⟨y, r', e1, e2, e3⟩ := evs_cons hl
    have e3 := evs_nil e3
    subst e3
    rw [arr_of e1, arr_of hT]
    exact len_ok h hd (ev_ok h.gl hs e2) hK
  · rename_i t hT
    obtain ⟨y, r', e1, e2, e3⟩ := evs_cons hl
    have e3 := evs_nil e3
    subst e3
    rw [arr_of e1, arr_of hT]
    split at hK
    · rename_i e he
      have ha := bnd_has (a := a) (Op1 y) hd
      exact Comes.is h (d_capNil ha (elemOf_ok he) (by rw [bnd_ev (Nat.le_refl _), vr_nils (ev_ok h.gl hs e2)])) hK (vr_intI _ _)
    · cases hK
  · rename_i k i k' j
    obtain ⟨y, r', e1, e2, e3⟩ := evs_cons hl
    obtain ⟨z, r'', e4, e5, e6⟩ := evs_cons e3
    have e6 := evs_nil e6
    subst e6 e4
    rw [arr_of e1]
    split at hK
    · rename_i hk
      subst hk
      have ha := bnd_has (a := a) (Op1 y + Op1 z) hd
      exact Comes.is h (d_min ha (by rw [bnd_ev (by omega), vr_int (ev_ok h.gl hs e2)]) (by rw [bnd_ev (by omega), vr_int (ev_ok h.gl hs e5)])) hK (vr_intI _ _)
    · cases hK
  · rename_i k i k' j
    obtain ⟨y, r', e1, e2, e3⟩ := evs_cons hl
    obtain ⟨z, r'', e4, e5, e6⟩ := evs_cons e3
    have e6 := evs_nil e6
    subst e6 e4
    rw [arr_of e1]
    split at hK
    · rename_i hk
      subst hk
      have ha := bnd_has (a := a) (Op1 y + Op1 z) hd
      exact Comes.is h (d_max ha (by rw [bnd_ev (by omega), vr_int (ev_ok h.gl hs e2)]) (by rw [bnd_ev (by omega), vr_int (ev_ok h.gl hs e5)])) hK (vr_intI _ _)
    · cases hK
  · rename_i t t2 m k hT
    obtain ⟨o1, r', e1, e2, e3⟩ := evs_cons hl
    obtain ⟨o2, r'', e4, e5, e6⟩ := evs_cons e3
    have e6 := evs_nil e6
    subst e6 e4
    rw [arr_of e1, arr_of hT]
    exact mapDel_ok h hd (ev_ok h.gl hs e2) (ev_ok h.gl hs e5) hK
  · rename_i x y
    obtain ⟨o1, r', e1, e2, e3⟩ := evs_cons hl
    obtain ⟨o2, r'', e4, e5, e6⟩ := evs_cons e3
    have e6 := evs_nil e6
    subst e6 e4
    rw [arr_of e1]
    obtain ⟨b, e7, s1⟩ := vr_flt (ev_ok h.gl hs e2)
    obtain ⟨c, e8, s2⟩ := vr_flt (ev_ok h.gl hs e5)
    exact Comes.is h (Does.val (by simp [execOp, e7, e8, resolve, invoke, builtin, run_cpx])) hK (vr_cpxI s1 s2)
  · rename_i z
    obtain ⟨o1, r', e1, e2, e3⟩ := evs_cons hl
    have e3 := evs_nil e3
    subst e3
    rw [arr_of e1]
    obtain ⟨b, c, e7, s1, s2⟩ := vr_cpx (ev_ok h.gl hs e2)
    exact Comes.is h (Does.val (by simp [execOp, e7, resolve, invoke, builtin, run_re])) hK (vr_fltI s1)
  · rename_i z
    obtain ⟨o1, r', e1, e2, e3⟩ := evs_cons hl
    have e3 := evs_nil e3
    subst e3
    rw [arr_of e1]
    obtain ⟨b, c, e7, s1, s2⟩ := vr_cpx (ev_ok h.gl hs e2)
    exact Comes.is h (Does.val (by simp [execOp, e7, resolve, invoke, builtin, run_im])) hK (vr_fltI s2)
  · rename_i t t2 x y hT
    obtain ⟨o1, r', e1, e2, e3⟩ := evs_cons hl
    obtain ⟨o2, r'', e4, e5, e6⟩ := evs_cons e3
    have e6 := evs_nil e6
    subst e6 e4
    rw [arr_of e1, arr_of hT]
    split at hK
    · rename_i e he
      split at hK
      · rename_i k k' n hti
        exact appendZ_ok h hd (ev_ok h.gl hs e2) (vr_int (ev_ok h.gl hs e5)) he hti hK
      · cases ht : Nat.beq t t2 with
        | false => rw [ht] at hK; cases hK
        | true =>
          rw [ht, cond_true] at hK
          have ht := Nat.eq_of_beq_eq_true ht
          subst ht
          exact append_ok h hd (ev_ok h.gl hs e2) (ev_ok h.gl hs e5) he hK
      · cases hK
    · cases hK
  · cases hK
end
end Go.Mx
namespace Go.Mx
open Go Go.RowKit Go.Sx
variable [Glb]
section
variable {R : Type} {P : Program} {Γ : Sums} {W : Nat → Prop} {S : List AO} {ρ : Nat → Geo} {w : World} {a : Act}
variable {K : KV R} {r : R}
theorem makeFunc_ok {d : Option Nat} {ty : TypeId} {pos : String} {af : Array Edge} {g : Option (Nat × Bool)} {f : FuncId} {fs cs : Array Operand} {s : Slots} {l m : List AV} (h : Rel W S ρ w) (hs : SlR (cx W S ρ w) s a) (hl : Mx.evs s fs.toList = some l) (hm : Mx.evs s cs.toList = some m) (hK : cond (l.all AV.plain && m.all AV.plain) (K (.fn f l m) S) none = some r) :
    Comes P W S ρ w ⟨d, .makeFunc (.func f) fs cs, ty, pos, af, g⟩ a K r := by
  cases hp : (l.all AV.plain && m.all AV.plain) with
  | false => rw [hp] at hK; cases hK
  | true =>
    rw [hp, cond_true] at hK
    rw [Bool.and_eq_true] at hp
    have h1 := a2_vrs (evs_ok h.gl hs hl) hp.1
    have h2 := a2_vrs (evs_ok h.gl hs hm) hp.2
    refine Comes.is (u := .func (.func f) (fs.map a.eval) (cs.map a.eval)) h (Does.val (by simp [execOp, Instr.makeFunc])) hK ?_
    refine ⟨[.func (.func f) (fs.map a.eval) (cs.map a.eval)], rfl, ?_, rfl⟩
    rw [CR]
    exact ⟨_, _, by rw [← Array.toList_map, ← Array.toList_map], h1, h2⟩
theorem pick_ok {d : Option Nat} {ty : TypeId} {pos : String} {af : Array Edge} {g : Option (Nat × Bool)} {c y z : Operand} {t : Bool} {s : Slots} (h : Rel W S ρ w) (hd : a.defers = []) (hs : SlR (cx W S ρ w) s a) (hc : Mx.ev s c = some (.dat .bool t)) (hK : cond t (match Mx.ev s y with | some v => K v S | none => none) (match Mx.ev s z with | some v => K v S | none => none) = some r) :
    Comes P W S ρ w ⟨d, .pick c y z, ty, pos, af, g⟩ a K r := by
  have ha := bnd_has (a := a) (Op1 c + Op1 y + Op1 z) hd
  have hcv : Sx.ev (bnd a (Op1 c + Op1 y + Op1 z)) c = some (.bool t) := by rw [bnd_ev (by omega), vr_bool (ev_ok h.gl hs hc)]
  cases t with
  | true =>
    rw [cond_true] at hK
    split at hK
    · rename_i v hv
      exact Comes.is h (d_pick ha hcv rfl (bnd_ev (by omega))) hK (ev_ok h.gl hs hv)
    · cases hK
  | false =>
    rw [cond_false] at hK
    split at hK
    · rename_i v hv
      exact Comes.is h (d_pickF ha hcv rfl (bnd_ev (by omega))) hK (ev_ok h.gl hs hv)
    · cases hK
theorem fnV_ok {x : Cx} {v : AV} {u : Value} (h : VR x v u) : VR x (fnV v) u := by
  unfold fnV
  split
  · rename_i f
    obtain ⟨cs, hc, e⟩ := vr_dat h
    have hc : cs = [.func (.func f) #[] #[]] := hc
    subst hc
    exact ⟨[.func (.func f) #[] #[]], e, by rw [CR]; exact ⟨[], [], rfl, by rw [VRs], by rw [VRs]⟩, rfl⟩
  · exact h
theorem opA_ok (hΓ : CallOk P Γ) (hG : PrimOk P Γ) {o : Oper} {s : Slots} (hK : opA P Γ o s S K = some r) (h : Rel W S ρ w) (hd : a.defers = []) (hs : SlR (cx W S ρ w) s a) : Comes P W S ρ w o a K r := by
  obtain ⟨d, op, ty, pos, af, g⟩ := o
  unfold opA at hK
  simp only at hK
  split at hK
  · -- move
    split at hK
    · rename_i v hv
      exact Comes.is h (d_move (bnd_has _ hd) (bnd_ev (Nat.le_refl _))) hK (ev_ok h.gl hs hv)
    · cases hK
  · split at hK
    · rename_i v hv
      exact Comes.is h (d_assign (bnd_has _ hd) (bnd_ev (Nat.le_refl _))) hK (ev_ok h.gl hs hv)
    · cases hK
  · split at hK
    · rename_i t hc
      exact pick_ok h hd hs hc hK
    · cases hK
  · exact alloc_ok h hK
  · split at hK
    · rename_i v hv
      exact box_ok h hd (ev_ok h.gl hs hv) hK
    · cases hK
  · split at hK
    · rename_i l hl
      exact build_ok h (partsA_ok h.gl hs hl) hK
    · cases hK
  · split at hK
    · rename_i l hl
      exact buildSlice_ok h hd (partsA_ok h.gl hs hl) hK
    · cases hK
  · split at hK
    · rename_i v hv
      exact load_ok h hd (ev_ok h.gl hs hv) hK
    · cases hK
  · split at hK
    · rename_i v u hv hu
      exact store_ok h hd (ev_ok h.gl hs hv) (ev_ok h.gl hs hu) hK
    · cases hK
  · -- nilCheck
    split at hK
    · rename_i i p hv
      exact nilCheck_ok h hd (ev_ok h.gl hs hv) hK
    · rename_i t x hv
      exact nilCheck_ok h hd (ev_ok h.gl hs hv) hK
    · cases hK
  · split at hK
    · rename_i u v hu hv
      obtain ⟨hc, hK⟩ | ⟨_, hK⟩ := cond_elim hK
      · exact bin_ok h hd (ev_ok h.gl hs hu) (ev_ok h.gl hs hv) hc hK
      · cases hK
    · cases hK
  · split at hK
    · rename_i v hv
      exact un_ok h hd (ev_ok h.gl hs hv) hK
    · cases hK
  · split at hK
    · rename_i v hv
      exact conv_ok h hd (ev_ok h.gl hs hv) hK
    · cases hK
  · split at hK
    · rename_i l m hl hm
      exact makeFunc_ok h hs hl hm hK
    · cases hK
  · split at hK
    · rename_i k i k' j hn hm
      obtain ⟨e, hK2⟩ := ck_elim hK
      subst e
      exact make_ok h hd (vr_int (ev_ok h.gl hs hn)) (vr_int (ev_ok h.gl hs hm)) hK2
    · cases hK
  · split at hK
    · rename_i v l h' m hv h1 h2 h3
      exact slice_ok h hd (ev_ok h.gl hs hv) (optI_ok h.gl hs h1) (optI_ok h.gl hs h2) (optI_ok h.gl hs h3) hK
    · cases hK
  · rename_i S' x i
    cases hx : Mx.ev s x with
    | none => rw [hx] at hK; cases hK
    | some v => rw [hx] at hK; exact fieldAddr_ok h hd (ev_ok h.gl hs hx) hK
  · rename_i S' x i
    cases hx : Mx.ev s x with
    | none => rw [hx] at hK; cases hK
    | some v => rw [hx] at hK; exact field_ok h (ev_ok h.gl hs hx) hK
  · split at hK
    · rename_i v k j hv hj
      exact indexAddr_ok h hd (ev_ok h.gl hs hv) (vr_int (ev_ok h.gl hs hj)) hK
    · cases hK
  · split at hK
    · rename_i v k j hv hj
      exact index_ok h hd (ev_ok h.gl hs hv) (vr_int (ev_ok h.gl hs hj)) hK
    · cases hK
  · rename_i T' x
    cases hx : Mx.ev s x with
    | none => rw [hx] at hK; split at hK <;> first | (rename_i e; cases e) | cases hK
    | some v => rw [hx] at hK; exact range_ok h hd (ev_ok h.gl hs hx) hK
  · rename_i x
    cases hx : Mx.ev s x with
    | none => rw [hx] at hK; cases hK
    | some v => rw [hx] at hK; exact next_ok h hd (ev_ok h.gl hs hx) hK
  · rename_i x i
    cases hx : Mx.ev s x with
    | none => rw [hx] at hK; cases hK
    | some v => rw [hx] at hK; exact extract_ok h hd (ev_ok h.gl hs hx) hK
  · exact makeMap_ok h hK
  · split at hK
    · rename_i k n hv
      exact makeMapN_ok h (vr_int (ev_ok h.gl hs hv)) hK
    · cases hK
  · split at hK
    · rename_i m k hm hk
      exact lookup_ok h hd (ev_ok h.gl hs hm) (ev_ok h.gl hs hk) hK
    · cases hK
  · split at hK
    · rename_i m k v hm hk hv
      exact mapUpdate_ok h hd (ev_ok h.gl hs hm) (ev_ok h.gl hs hk) (ev_ok h.gl hs hv) hK
    · cases hK
  · split at hK
    · rename_i m k v hm hk hv
      exact insert_ok h hd (ev_ok h.gl hs hm) (ev_ok h.gl hs hk) (ev_ok h.gl hs hv) hK
    · cases hK
  · split at hK
    · rename_i v dsc hv hu
      exact makeIface_ok h (ev_ok h.gl hs hv) hu hK
    · cases hK
  · split at hK
    · rename_i u v dsc hv hu
      exact assert_ok h (ev_ok h.gl hs hv) hu hK
    · cases hK
  · -- calls
    rename_i c
    obtain ⟨callee, as, Ts⟩ := c
    simp only at hK
    split at hK
    · rename_i x
      split at hK
      · rename_i f fs cs l hx hl
        obtain ⟨v0, hx0, hx⟩ := Option.map_eq_some_iff.1 hx
        have hv := fnV_ok (ev_ok h.gl hs hx0)
        rw [hx] at hv
        obtain ⟨u, e, h1, _⟩ := hv
        rw [CR] at h1
        obtain ⟨m1, m2, e2, h3, h4⟩ := h1
        have hx' : a.eval x = .func (.func f) m1.toArray m2.toArray := by rw [e, e2]; rfl
        have hargs : A2 (VR (cx W S ρ w)) (fs ++ l ++ cs) (m1 ++ as.toList.map a.eval ++ m2) := ((vrs_a2 h3).append (evs_ok h.gl hs hl)).append (vrs_a2 h4)
        refine call_does hx' ?_
        split at hK
        · rename_i p hp
          exact hG.2 f p hp _ _ _ _ hK W ρ w _ h hargs
        · exact callA_ok hΓ hK h hargs
      · cases hK
    · rename_i b
      split at hK
      · rename_i l hl
        exact builtin_ok h hd hs hl hK
      · cases hK
    · cases hK
  · cases hK
end
end Go.Mx
namespace Go.Mx
open Go Go.RowKit Go.Sx
variable [Glb]
structure StB (W : Nat → Prop) (S0 : List AO) (ρ0 : Nat → Geo) (w0 : World) (N : Nat) (s : St) (ρ : Nat → Geo) (a : Act) (w : World) : Prop where
  aft : Aft W S0 ρ0 w0 s.ob ρ w
  sl : SlR (cx W s.ob ρ w) s.sl a
  df : a.defers = []
  sz : a.tmps.size = N
theorem tput_get {a : Act} {d t : Nat} {v : Value} (hd : d < a.tmps.size) : (a.put (some d) v).tmps.getD t undef = if d = t then v else a.tmps.getD t undef := by
  by_cases h : d = t
  · subst h; simp [Act.put, Array.getD, hd]
  · simp only [Act.put, Array.getD_eq_getD_getElem?, Array.getElem?_setIfInBounds_ne h, h, if_false]
theorem put_size {a : Act} {d : Option Nat} {v : Value} : (a.put d v).tmps.size = a.tmps.size := by
  cases d with
  | none => rfl
  | some d => simp [Act.put]
theorem put_df {a : Act} {d : Option Nat} {v : Value} : (a.put d v).defers = a.defers := by
  cases d with
  | none => rfl
  | some d => simp [Act.put]
theorem look_cons {d t : Nat} {v : AV} {s : Slots} : lookA t ((d, v) :: s) = if d = t then some v else lookA t s := by
  by_cases h : d = t
  · subst h; simp [lookA]
  · rw [if_neg h, lookA, beq_ne h]; rfl
theorem SlR.put {x : Cx} {s : Slots} {a : Act} {d : Option Nat} {v : AV} {u : Value} (h : SlR x s a) (hv : VR x v u) (hd : ∀ e, d = some e → e < a.tmps.size) : SlR x (putS d v s) (a.put d u) := by
  cases d with
  | none => exact h
  | some d =>
    intro t v' hl
    have hl : lookA t ((d, v) :: s) = some v' := hl
    rw [look_cons] at hl
    rw [tput_get (hd d rfl)]
    by_cases e : d = t
    · rw [if_pos e] at hl ⊢
      obtain rfl := Option.some.inj hl
      exact hv
    · rw [if_neg e] at hl ⊢
      exact h t v' hl
theorem SlR.again {x : Cx} {s : Slots} {a : Act} {d : Nat} {v : AV} (h : SlR x s a) (hd : lookA d s = some v) : SlR x ((d, v) :: s) a := by
  intro t v' hl
  rw [look_cons] at hl
  by_cases e : d = t
  · rw [if_pos e] at hl
    obtain rfl := Option.some.inj hl
    subst e
    exact h d v hd
  · rw [if_neg e] at hl
    exact h t v' hl
theorem wanted_none {o : Oper} {y : Nat → Option Bool} (h : o.guard = none) : Region.wanted o y = true := by
  simp only [Region.wanted, h]
theorem wanted_bool {o : Oper} {all : List Oper} {oj : Oper} {j d : Nat} {want b : Bool} {a : Act} (h : o.guard = some (j, want)) (hj : all[j]? = some oj) (hd : oj.dst = some d) (hv : a.tmps.getD d undef = .bool b) : Region.wanted o (yielded all.toArray a.tmps) = (b == want) := by
  simp only [Region.wanted, yielded, h, List.getElem?_toArray, hj, hd, Option.bind_some, yield_at hv]
  cases b <;> cases want <;> rfl
theorem wanted_undef {o : Oper} {all : List Oper} {oj : Oper} {j d : Nat} {want : Bool} {a : Act} (h : o.guard = some (j, want)) (hj : all[j]? = some oj) (hd : oj.dst = some d) (hv : a.tmps.getD d undef = undef) : Region.wanted o (yielded all.toArray a.tmps) = false := by
  simp only [Region.wanted, yielded, h, List.getElem?_toArray, hj, hd, Option.bind_some]
  rw [Array.getD_eq_getD_getElem?] at hv
  cases hx : a.tmps[d]? with
  | none => cases want <;> rfl
  | some v =>
    rw [hx] at hv
    have hv : v = undef := hv
    subst hv
    cases want <;> rfl
section
variable {P : Program} {ops : Array Oper} {Q : Exit → Act → World → Prop} {a : Act} {w : World} {rest : List Oper} {o : Oper}
theorem list_on {F : Value → World → Prop} (hw : Region.wanted o (yielded ops a.tmps) = true) (h : Does P o a w F) (k : ∀ v w', F v w' → wpList P ops Q rest (a.put o.dst v) w') : wpList P ops Q (o :: rest) a w := by
  unfold wpList
  rw [if_pos hw]
  exact .inl (h _ _ k)
theorem list_off (hw : Region.wanted o (yielded ops a.tmps) = false) (k : wpList P ops Q rest (a.put o.dst undef) w) : wpList P ops Q (o :: rest) a w := by
  unfold wpList
  rw [if_neg (by rw [hw]; simp)]
  exact k
end
def dstLt (N : Nat) (o : Oper) : Bool := match o.dst with | some d => Nat.blt d N | none => true
theorem dstLt_ok {N : Nat} {o : Oper} (h : dstLt N o = true) : ∀ e, o.dst = some e → e < N := by
  intro e he
  unfold dstLt at h
  rw [he] at h
  simpa [Nat.blt_eq] using h
section
variable {R : Type} {P : Program} {Γ : Sums} {W : Nat → Prop} {S0 : List AO} {ρ0 ρ : Nat → Geo} {w0 w : World} {a : Act} {N : Nat} {r : R}
theorem StB.go {s : St} {S' : List AO} {ρ' : Nat → Geo} {w' : World} {v : AV} {u : Value} {o : Oper} {sl : Slots} (h : StB W S0 ρ0 w0 N s ρ a w) (hsl : SlR (cx W s.ob ρ w) sl a) (ho : dstLt N o = true) (A : Aft W s.ob ρ w S' ρ' w') (hv : VR (cx W S' ρ' w') v u) :
    StB W S0 ρ0 w0 N ⟨putS o.dst v sl, S'⟩ ρ' (a.put o.dst u) w' :=
  ⟨h.aft.trans A, (hsl.up A.le).put hv (fun e he => by rw [h.sz]; exact dstLt_ok ho e he), by rw [put_df]; exact h.df, by rw [put_size]; exact h.sz⟩
theorem guard_cases {α : Type} {all : List Oper} {o : Oper} {s : Slots} {go no : Slots → Option α} {z : α}
    (hK : (match o.guard with
    | none => go s
    | some (j, want) => (match all[j]? with
      | some oj => (match oj.dst with
        | some d => (match lookA d s with
          | some .undef => no s
          | some (.dat .bool b) => cond b (cond want (go ((d, .dat .bool true) :: s)) (no ((d, .dat .bool true) :: s))) (cond want (no ((d, .dat .bool false) :: s)) (go ((d, .dat .bool false) :: s)))
          | _ => none)
        | none => none)
      | none => none)) = some z) :
    ∃ sl, (∀ t, lookA t sl = lookA t s) ∧ ((go sl = some z ∧ (o.guard = none ∨ ∃ d b, d ∈ guardT all o ∧ lookA d s = some (.dat .bool b) ∧ ∀ a : Act, a.tmps.getD d undef = .bool b → Region.wanted o (yielded all.toArray a.tmps) = true)) ∨
      (no sl = some z ∧ ∃ d v, d ∈ guardT all o ∧ lookA d s = some v ∧ (v = .undef ∨ ∃ b, v = .dat .bool b) ∧ ∀ (x : Cx) (a : Act), VR x v (a.tmps.getD d undef) → Region.wanted o (yielded all.toArray a.tmps) = false)) := by
  have again : ∀ {d : Nat} {v : AV}, lookA d s = some v → ∀ t, lookA t ((d, v) :: s) = lookA t s := by
    intro d v hd t
    rw [look_cons]
    by_cases e : d = t
    · rw [if_pos e, ← e, hd]
    · rw [if_neg e]
  split at hK
  · rename_i hg
    exact ⟨s, fun _ => rfl, .inl ⟨hK, .inl hg⟩⟩
  · rename_i j want hg
    split at hK
    · rename_i oj hj
      split at hK
      · rename_i d hd
        have hm : d ∈ guardT all o := by unfold guardT; simp [hg, hj, hd]
        split at hK
        · rename_i hl
          exact ⟨s, fun _ => rfl, .inr ⟨hK, d, .undef, hm, hl, .inl rfl, fun x a ha => wanted_undef hg hj hd ha⟩⟩
        · rename_i b hl
          cases b with
          | true =>
            rw [cond_true] at hK
            cases want with
            | true => exact ⟨_, again hl, .inl ⟨hK, .inr ⟨d, true, hm, hl, fun a ha => by rw [wanted_bool hg hj hd ha]; rfl⟩⟩⟩
            | false => exact ⟨_, again hl, .inr ⟨hK, d, _, hm, hl, .inr ⟨_, rfl⟩, fun x a ha => by rw [wanted_bool hg hj hd (vr_bool ha)]; rfl⟩⟩
          | false =>
            rw [cond_false] at hK
            cases want with
            | true => exact ⟨_, again hl, .inr ⟨hK, d, _, hm, hl, .inr ⟨_, rfl⟩, fun x a ha => by rw [wanted_bool hg hj hd (vr_bool ha)]; rfl⟩⟩
            | false => exact ⟨_, again hl, .inl ⟨hK, .inr ⟨d, false, hm, hl, fun a ha => by rw [wanted_bool hg hj hd ha]; rfl⟩⟩⟩
        · cases hK
      · cases hK
    · cases hK
theorem SlR.like {x : Cx} {s s' : Slots} (h : SlR x s a) (hl : ∀ t, lookA t s' = lookA t s) : SlR x s' a := fun t v hv => h t v (by rw [← hl]; exact hv)
theorem ops_lit (hΓ : CallOk P Γ) (hG : PrimOk P Γ) {all : List Oper} {Q : Exit → Act → World → Prop} {K : St → List Log → Option R} (hQ : ∀ s' l' ρ' a' w', K s' l' = some r → StB W S0 ρ0 w0 N s' ρ' a' w' → Q .normal a' w') :
    ∀ (rest : List Oper) (i : Nat) (s : St) (l : List Log) (ρ : Nat → Geo) (a : Act) (w : World), rest.all (dstLt N) = true → opsA P Γ all false rest i s l K = some r → StB W S0 ρ0 w0 N s ρ a w → wpList P all.toArray Q rest a w
  | [], i, s, l, ρ, a, w, _, hK, h => nil_ (hQ s l ρ a w hK h)
  | o :: rest, i, s, l, ρ, a, w, hd, hK, h => by
    rw [List.all_cons, Bool.and_eq_true] at hd
    unfold opsA at hK
    simp only [cond_false] at hK
    obtain ⟨sl, hsl, hc⟩ := guard_cases (go := fun sl => opA P Γ o sl s.ob fun v ob => opsA P Γ all false rest (i + 1) ⟨putS o.dst v sl, ob⟩ l K) (no := fun sl => opsA P Γ all false rest (i + 1) ⟨putS o.dst .undef sl, s.ob⟩ l K) hK
    have hs := h.sl.like hsl
    rcases hc with ⟨hK, hw⟩ | ⟨hK, d, v, _, hl, _, hw⟩
    · have hw : Region.wanted o (yielded all.toArray a.tmps) = true := by
        rcases hw with hg | ⟨d, b, _, hl, hw⟩
        · exact wanted_none hg
        · exact hw a (vr_bool (h.sl d _ hl))
      refine list_on hw (opA_ok hΓ hG hK h.aft.rel h.df hs) ?_
      rintro u w' ⟨v, S', ρ', hK', A, hv⟩
      exact ops_lit hΓ hG hQ rest (i + 1) _ l ρ' _ w' hd.2 hK' (h.go hs hd.1 A hv)
    · refine list_off (hw _ a (h.sl d v hl)) ?_
      exact ops_lit hΓ hG hQ rest (i + 1) _ l ρ _ w hd.2 hK (h.go hs hd.1 (Aft.refl h.aft.rel) rfl)
end
end Go.Mx
namespace Go.Mx
open Go Go.RowKit Go.Sx
variable [Glb]
theorem ren_comp {g h k : Nat → Option Nat} : ∀ (v : AV) {v' : AV}, v.ren g = some v' → (∀ x ∈ v.ids, ∀ y, g x = some y → h y = k x) → v'.ren h = v.ren k := by
  intro v
  induction v using AV.rec (motive_2 := fun l => ∀ {l' : List AV}, AV.renL g l = some l' → (∀ x ∈ AV.idsL l, ∀ y, g x = some y → h y = k x) → AV.renL h l' = AV.renL k l) with
  | pr a b ha hb =>
    intro v' e hx
    rw [AV.ids] at hx
    rw [AV.ren] at e
    split at e
    · rename_i a' ea
      split at e
      · rename_i b' eb
        obtain rfl := Option.some.inj e
        rw [AV.ren, AV.ren, ha ea (fun x hm => hx x (List.mem_append_left _ hm)), hb eb (fun x hm => hx x (List.mem_append_right _ hm))]
      · cases e
    · cases e
  | one a ha =>
    intro v' e hx
    rw [AV.ids] at hx
    rw [AV.ren] at e
    split at e
    · rename_i a' ea
      obtain rfl := Option.some.inj e
      rw [AV.ren, AV.ren, ha ea hx]
    · cases e
  | ptr i p =>
    intro v' e hx
    rw [AV.ren] at e
    split at e
    · rename_i j ej
      obtain rfl := Option.some.inj e
      rw [AV.ren, AV.ren, hx i (by simp [AV.ids]) j ej]
    · cases e
  | view i =>
    intro v' e hx
    rw [AV.ren] at e
    split at e
    · rename_i j ej
      obtain rfl := Option.some.inj e
      rw [AV.ren, AV.ren, hx i (by simp [AV.ids]) j ej]
    · cases e
  | pre i n =>
    intro v' e hx
    rw [AV.ren] at e
    split at e
    · rename_i j ej
      obtain rfl := Option.some.inj e
      rw [AV.ren, AV.ren, hx i (by simp [AV.ids]) j ej]
    · cases e
  | tgt i n =>
    intro v' e hx
    rw [AV.ren] at e
    split at e
    · rename_i j ej
      obtain rfl := Option.some.inj e
      rw [AV.ren, AV.ren, hx i (by simp [AV.ids]) j ej]
    · cases e
  | win i o n =>
    intro v' e hx
    rw [AV.ren] at e
    split at e
    · rename_i j ej
      obtain rfl := Option.some.inj e
      rw [AV.ren, AV.ren, hx i (by simp [AV.ids]) j ej]
    · cases e
  | mp i =>
    intro v' e hx
    rw [AV.ren] at e
    split at e
    · rename_i j ej
      obtain rfl := Option.some.inj e
      rw [AV.ren, AV.ren, hx i (by simp [AV.ids]) j ej]
    · cases e
  | fn f fs cs hf hc =>
    intro v' e hx
    rw [AV.ids] at hx
    rw [AV.ren] at e
    split at e
    · rename_i fs' ef
      split at e
      · rename_i cs' ec
        obtain rfl := Option.some.inj e
        rw [AV.ren, AV.ren, hf ef (fun x hm => hx x (List.mem_append_left _ hm)), hc ec (fun x hm => hx x (List.mem_append_right _ hm))]
      · cases e
    · cases e
  | iface t v hv =>
    intro v' e hx
    rw [AV.ids] at hx
    rw [AV.ren] at e
    split at e
    · rename_i a' ea
      obtain rfl := Option.some.inj e
      rw [AV.ren, AV.ren, hv ea hx]
    · cases e
  | tup l hl =>
    intro v' e hx
    rw [AV.ids] at hx
    rw [AV.ren] at e
    split at e
    · rename_i a' ea
      obtain rfl := Option.some.inj e
      rw [AV.ren, AV.ren, hl ea hx]
    · cases e
  | nil => rename_i l' e _; obtain rfl := Option.some.inj e; rfl
  | cons v l hv hl =>
    rename_i l' e hx
    rw [AV.idsL] at hx
    rw [AV.renL] at e
    split at e
    · rename_i v' ev
      split at e
      · rename_i l'' el
        obtain rfl := Option.some.inj e
        rw [AV.renL, AV.renL, hv ev (fun x hm => hx x (List.mem_append_left _ hm)), hl el (fun x hm => hx x (List.mem_append_right _ hm))]
      · cases e
    · cases e
  | _ => intro v' e _; obtain rfl := Option.some.inj e; rfl
theorem ren_some : ∀ (v : AV), v.ren some = some v := by
  intro v
  induction v using AV.rec (motive_2 := fun l => AV.renL some l = some l) with
  | pr a b ha hb => rw [AV.ren, ha, hb]
  | one a ha => rw [AV.ren, ha]
  | fn f fs cs hf hc => rw [AV.ren, hf, hc]
  | iface t v hv => rw [AV.ren, hv]
  | tup l hl => rw [AV.ren, hl]
  | cons v l hv hl => rw [AV.renL, hv, hl]
  | _ => rfl
theorem ren_all {g : Nat → Nat} : ∀ (v : AV), ∃ v', v.ren (fun x => some (g x)) = some v' := by
  intro v
  induction v using AV.rec (motive_2 := fun l => ∃ l', AV.renL (fun x => some (g x)) l = some l') with
  | pr a b ha hb => obtain ⟨_, ha⟩ := ha; obtain ⟨_, hb⟩ := hb; exact ⟨_, by rw [AV.ren, ha, hb]⟩
  | one a ha => obtain ⟨_, ha⟩ := ha; exact ⟨_, by rw [AV.ren, ha]⟩
  | fn f fs cs hf hc => obtain ⟨_, hf⟩ := hf; obtain ⟨_, hc⟩ := hc; exact ⟨_, by rw [AV.ren, hf, hc]⟩
  | iface t v hv => obtain ⟨_, hv⟩ := hv; exact ⟨_, by rw [AV.ren, hv]⟩
  | tup l hl => obtain ⟨_, hl⟩ := hl; exact ⟨_, by rw [AV.ren, hl]⟩
  | cons v l hv hl => obtain ⟨_, hv⟩ := hv; obtain ⟨_, hl⟩ := hl; exact ⟨_, by rw [AV.renL, hv, hl]⟩
  | _ => exact ⟨_, rfl⟩
theorem ren_eq {g h : Nat → Option Nat} (v : AV) (e : ∀ x ∈ v.ids, g x = h x) : v.ren g = v.ren h :=
  ren_comp v (ren_some v) (fun x hx y hy => by obtain rfl := Option.some.inj hy; exact e x hx)
theorem ren_back {g h : Nat → Option Nat} {v v' : AV} (hv : v.ren g = some v') (e : ∀ x ∈ v.ids, ∀ y, g x = some y → h y = some x) : v'.ren h = some v := by
  rw [ren_comp v hv e, ren_some]
theorem oren_eq {g h : Nat → Option Nat} (o : AO) (e : ∀ x ∈ o.ids, g x = h x) : o.ren g = o.ren h := by
  cases o with
  | box ty v w => rw [AO.ren, AO.ren, ren_eq v e]
  | _ => rfl
theorem oren_back {g h : Nat → Option Nat} {o o' : AO} (ho : o.ren g = some o') (e : ∀ x ∈ o.ids, ∀ y, g x = some y → h y = some x) : o'.ren h = some o := by
  cases o with
  | box ty v w =>
    rw [AO.ren] at ho
    split at ho
    · rename_i v' hv
      obtain rfl := Option.some.inj ho
      rw [AO.ren, ren_back hv e]
    · cases ho
  | _ => obtain rfl := Option.some.inj ho; rfl
theorem oren_lent {g : Nat → Option Nat} {o o' : AO} (ho : o.ren g = some o') : o.lent.ren g = some o'.lent := by
  cases o with
  | box ty v w =>
    rw [AO.ren] at ho
    split at ho
    · rename_i v' hv
      obtain rfl := Option.some.inj ho
      rw [AO.lent, AO.ren, hv]; rfl
    · cases ho
  | row e t xs m => obtain rfl := Option.some.inj ho; cases m <;> rfl
  | _ => obtain rfl := Option.some.inj ho; rfl
theorem oren_all {g : Nat → Nat} (o : AO) : ∃ o', o.ren (fun x => some (g x)) = some o' := by
  cases o with
  | box ty v w => obtain ⟨v', hv⟩ := ren_all (g := g) v; exact ⟨_, by rw [AO.ren, hv]⟩
  | _ => exact ⟨_, rfl⟩
theorem renAll_all {g : Nat → Nat} : ∀ (l : List AO), ∃ l', renAll (fun x => some (g x)) l = some l'
  | [] => ⟨[], rfl⟩
  | o :: l => by
    obtain ⟨o', ho⟩ := oren_all (g := g) o
    obtain ⟨l', hl⟩ := renAll_all (g := g) l
    exact ⟨o' :: l', by rw [renAll, ho, hl]⟩
theorem renAll_get {f : Nat → Option Nat} : ∀ {l l' : List AO}, renAll f l = some l' → ∀ (j : Nat) (o : AO), l[j]? = some o → ∃ o', l'[j]? = some o' ∧ o.ren f = some o'
  | [], l', h, j, o, hj => by simp at hj
  | o1 :: l, l', h, j, o, hj => by
    rw [renAll] at h
    split at h
    · rename_i o1' ho
      split at h
      · rename_i l1 hl
        obtain rfl := Option.some.inj h
        cases j with
        | zero => obtain rfl := Option.some.inj hj; exact ⟨o1', rfl, ho⟩
        | succ j => exact renAll_get hl j o hj
      · cases h
    · cases h
theorem ids_lt {x : Cx} : ∀ (v : AV) {cs : List Value}, CR x v cs → ∀ i ∈ v.ids, i < x.m := by
  intro v
  induction v using AV.rec (motive_2 := fun l => ∀ {m : List Value}, VRs x l m → ∀ i ∈ AV.idsL l, i < x.m) with
  | pr a b ha hb =>
    intro cs h i hi
    rw [CR] at h
    obtain ⟨c1, c2, _, h1, h2⟩ := h
    rw [AV.ids] at hi
    exact (List.mem_append.1 hi).elim (ha h1 i) (hb h2 i)
  | one a ha => intro cs h i hi; rw [CR] at h; exact ha h i hi
  | fn f fs ks hf hk =>
    intro cs h i hi
    rw [CR] at h
    obtain ⟨l, m, _, h1, h2⟩ := h
    rw [AV.ids] at hi
    exact (List.mem_append.1 hi).elim (hf h1 i) (hk h2 i)
  | iface t v hv =>
    intro cs h i hi
    rw [CR] at h
    obtain ⟨c, _, h1, _⟩ := h
    exact hv h1 i hi
  | cons v l hv hl =>
    rename_i m h i hi
    rw [VRs] at h
    obtain ⟨c, l', _, h1, _, h2⟩ := h
    rw [AV.idsL] at hi
    exact (List.mem_append.1 hi).elim (hv h1 i) (hl h2 i)
  | nil => rename_i m h i hi; cases hi
  | tup l _ => intro cs h; rw [CR] at h; exact h.elim
  | ptr j p => intro cs h i hi; rw [CR] at h; rw [AV.ids, List.mem_singleton] at hi; subst hi; exact h.1
  | view j => intro cs h i hi; rw [CR] at h; rw [AV.ids, List.mem_singleton] at hi; subst hi; exact h.1
  | pre j n => intro cs h i hi; rw [CR] at h; rw [AV.ids, List.mem_singleton] at hi; subst hi; exact h.1
  | tgt j n => intro cs h i hi; rw [CR] at h; rw [AV.ids, List.mem_singleton] at hi; subst hi; exact h.1
  | win j o n => intro cs h i hi; rw [CR] at h; rw [AV.ids, List.mem_singleton] at hi; subst hi; exact h.1
  | mp j => intro cs h i hi; rw [CR] at h; rw [AV.ids, List.mem_singleton] at hi; subst hi; exact h.1
  | _ => intro cs _ i hi; cases hi
theorem vids_lt {x : Cx} {v : AV} {u : Value} (h : VR x v u) : ∀ i ∈ v.ids, i < x.m := by
  have all : ∀ (l : List AV) (m : List Value), VRs x l m → ∀ i ∈ AV.idsL l, i < x.m := by
    intro l
    induction l with
    | nil => intro m _ i hi; cases hi
    | cons v l ih =>
      intro m h i hi
      rw [VRs] at h
      obtain ⟨c, l', _, h1, _, h2⟩ := h
      rw [AV.idsL] at hi
      exact (List.mem_append.1 hi).elim (ids_lt v h1 i) (ih l' h2 i)
  cases v with
  | tup l => obtain ⟨m, _, h1⟩ := h; exact all l m h1
  | undef => intro i hi; cases hi
  | _ => obtain ⟨c, _, h1, _⟩ := h; exact ids_lt _ h1
theorem oids_lt {W : Nat → Prop} {S : List AO} {ρ : Nat → Geo} {w : World} (h : Rel W S ρ w) {i : Nat} {o : AO} (hi : S[i]? = some o) : ∀ j ∈ o.ids, j < S.length := by
  have r := h.ob i o hi
  cases o with
  | box ty v m => obtain ⟨b, cs, _, h1, _⟩ := r; exact ids_lt v h1
  | _ => intro j hj; cases hj
theorem backObs_at {wr : List Nat} : ∀ (L : List Nat) (n : Nat) (new ob : List AO), L.Nodup → L.length ≤ new.length → (∀ i ∈ L, i < ob.length) →
    (∀ j c, L[j]? = some c → wr.contains (n + j) = true → ∃ old o, ob[c]? = some old ∧ new[j]? = some o ∧ (backObs wr L n new ob)[c]? = some (backO old o)) ∧
    (∀ c, c < ob.length → (∀ j, L[j]? = some c → wr.contains (n + j) = false) → (backObs wr L n new ob)[c]? = ob[c]?) ∧
    (∀ j, L.length ≤ j → (backObs wr L n new ob)[ob.length + (j - L.length)]? = (new[j]?).map newO)
  | [], n, new, ob, _, _, _ => by
    refine ⟨fun j c hj => by simp at hj, fun c hc _ => by rw [backObs, List.getElem?_append, if_pos hc], fun j _ => ?_⟩
    rw [backObs, List.getElem?_append, if_neg (by omega)]
    have : ∀ (l : List AO) (j : Nat), (newL l)[j]? = (l[j]?).map newO := by
      intro l
      induction l with
      | nil => intro j; simp [newL]
      | cons o l ih => intro j; cases j with
        | zero => rfl
        | succ j => exact ih j
    rw [this]
    simp
  | k :: L, n, [], ob, _, hl, _ => by simp at hl
  | k :: L, n, o :: new, ob, hnd, hl, hlt => by
    rw [List.nodup_cons] at hnd
    have hk := hlt k (by simp)
    obtain ⟨old, hold⟩ : ∃ old, ob[k]? = some old := ⟨_, List.getElem?_eq_getElem hk⟩
    have sl : ∀ ob' : List AO, (ob'.length = ob.length) → (∀ i ∈ L, i < ob'.length) := fun ob' e i hi => by rw [e]; exact hlt i (by simp [hi])
    cases hw : wr.contains n with
    | false =>
      have e : backObs wr (k :: L) n (o :: new) ob = backObs wr L (n + 1) new ob := by rw [backObs, hw]; rfl
      rw [e]
      obtain ⟨h1, h2, h3⟩ := backObs_at L (n + 1) new ob hnd.2 (by simpa using hl) (sl ob rfl)
      refine ⟨fun j c hj hc => ?_, fun c hc hj => h2 c hc (fun j hj' => by have := hj (j + 1) hj'; rwa [show n + (j + 1) = n + 1 + j by omega] at this), fun j hj => ?_⟩
      · cases j with
        | zero => rw [Nat.add_zero, hw] at hc; cases hc
        | succ j => exact h1 j c hj (by rwa [show n + (j + 1) = n + 1 + j by omega] at hc)
      · cases j with
        | zero => simp at hj
        | succ j => have := h3 j (by simpa using hj); simpa using this
    | true =>
      have e : backObs wr (k :: L) n (o :: new) ob = backObs wr L (n + 1) new (ob.set k (backO old o)) := by rw [backObs, hw, hold]; rfl
      rw [e]
      obtain ⟨h1, h2, h3⟩ := backObs_at L (n + 1) new (ob.set k (backO old o)) hnd.2 (by simpa using hl) (sl _ (by simp))
      have hkL : ∀ j, L[j]? ≠ some k := fun j hj => hnd.1 (List.mem_of_getElem? hj)
      refine ⟨fun j c hj hc => ?_, fun c hc hj => ?_, fun j hj => ?_⟩
      · cases j with
        | zero =>
          obtain rfl : k = c := Option.some.inj hj
          refine ⟨old, o, hold, rfl, ?_⟩
          rw [h2 k (by simpa using hk) (fun j hj => absurd hj (hkL j))]
          simp [hk]
        | succ j =>
          obtain ⟨old', o', g1, g2, g3⟩ := h1 j c hj (by rwa [show n + (j + 1) = n + 1 + j by omega] at hc)
          have hne : k ≠ c := fun e => hkL j (by rw [e]; exact hj)
          rw [List.getElem?_set_ne hne] at g1
          exact ⟨old', o', g1, g2, g3⟩
      · have hne : k ≠ c := fun e => by have := hj 0 (by rw [← e]; rfl); rw [Nat.add_zero, hw] at this; cases this
        rw [h2 c (by simpa using hc) (fun j hj' => by have := hj (j + 1) hj'; rwa [show n + (j + 1) = n + 1 + j by omega] at this), List.getElem?_set_ne hne]
      · cases j with
        | zero => simp at hj
        | succ j => have := h3 j (by simpa using hj); simpa using this
theorem back_part {W : Nat → Prop} {S S1 S3 S4 : List AO} {ρ ρ1 ρ3 : Nat → Geo} {w w' : World} {L : List Nat} {f f' : Nat → Option Nat} (prt : Prt S ρ S1 ρ1 L f) (h : Rel W S ρ w) (A3 : Aft (Grd W S ρ S1 ρ1) S1 ρ1 w S3 ρ3 w') (wr : List Nat)
    (hro : ∀ j o1, S1[j]? = some o1 → wr.contains j = false → o1.own = false) (hf' : ∀ i j, f' i = some j → j = bk S L i) (h4 : renAll f' S3 = some S4) :
    Aft W S ρ w (backObs wr L 0 S4 S) (bkG S L ρ ρ3) w' ∧ ∀ (v v' : AV) (u : Value), v.ren f' = some v' → VR (cx (Grd W S ρ S1 ρ1) S3 ρ3 w') v u → VR (cx W (backObs wr L 0 S4 S) (bkG S L ρ ρ3) w') v' u := by
  obtain ⟨q1, q2⟩ := renAll_ok h4
  have hlen : L.length ≤ S4.length := by rw [q1, ← prt.len]; exact A3.m
  refine prt.back h A3 ?_
  have hbl := backObs_len (wr := wr) L 0 S4 S hlen
  refine ⟨by rw [hbl]; omega, fun j hj => ?_, hf', fun i o' hi => ?_⟩
  · rw [hbl]
    unfold bk
    cases hLj : L[j]? with
    | some i => have := prt.lt hLj; simp only; omega
    | none =>
      have := List.getElem?_eq_none_iff.1 hLj
      simp only
      omega
  · rcases backObs_ok L 0 S4 S prt.nd hlen (fun i hi => by obtain ⟨j, hj⟩ := List.getElem?_of_mem hi; exact prt.lt hj) i o' hi with ⟨h1, h2, h3⟩ | ⟨j, old, o, h1, h2, h3, h5⟩ | ⟨j, o, h1, h2, h3, h5⟩
    · refine .inr (.inl ⟨h1, h2, fun ho p hp hk' => ?_⟩)
      obtain ⟨j', i', o1', o2', p', hj', hL', hS', hr', ho', ho1', ha', hb'⟩ := prt.own hk'
      by_cases hii : i' = i
      · subst hii
        have := h3 j' hL'
        rw [Nat.zero_add] at this
        rw [hro j' o1' hj' this] at ho1'
        cases ho1'
      · exact h.dj i' i o2' o' p' p hii hS' h2 ho' ho ha' hp hb'
    · obtain ⟨o3, g1, g2⟩ := q2 j o h3
      unfold backO at h5
      cases hs : o.sure with
      | true =>
        rw [hs, cond_true] at h5
        subst h5
        refine .inr (.inr ⟨j, o3, g1, g2, by rw [← (ren_own g2).2]; exact hs, ?_⟩)
        unfold bk
        rw [h1]
      | false =>
        rw [hs, cond_false] at h5
        cases hm : old.mine with
        | true => rw [hm] at h5; exact .inl h5
        | false =>
          rw [hm, cond_false] at h5
          subst h5
          exact .inr (.inl ⟨prt.lt h1, h2, fun ho => by rw [own_mine, hm] at ho; cases ho⟩)
    · obtain ⟨o3, g1, g2⟩ := q2 j o h2
      unfold newO at h5
      cases hs : o.sure with
      | true =>
        rw [hs, cond_true] at h5
        subst h5
        refine .inr (.inr ⟨j, o3, g1, g2, by rw [← (ren_own g2).2]; exact hs, ?_⟩)
        unfold bk
        rw [List.getElem?_eq_none_iff.2 h1]
        exact h3.symm
      | false => rw [hs] at h5; exact .inl h5
end Go.Mx
namespace Go.Mx
open Go Go.RowKit Go.Sx
variable [Glb]
theorem mergeO_len {ws : List Nat} : ∀ (S X : List AO) (i : Nat), S.length ≤ X.length → (mergeO ws S X i).length = X.length
  | [], X, i, _ => by unfold mergeO; rw [newL_len]
  | _ :: _, [], _, h => by simp at h
  | o :: S, n :: X, i, h => by rw [mergeO, List.length_cons, mergeO_len S X (i + 1) (by simpa using h), List.length_cons]
theorem newL_at : ∀ (l : List AO) (j : Nat), (newL l)[j]? = (l[j]?).map newO
  | [], j => by simp [newL]
  | o :: l, 0 => rfl
  | o :: l, j + 1 => newL_at l j
theorem mergeO_at {ws : List Nat} : ∀ (S X : List AO) (i x : Nat), S.length ≤ X.length → (mergeO ws S X i)[x]? = if x < S.length ∧ ws.contains (i + x) = false then S[x]? else (X[x]?).map newO
  | [], X, i, x, _ => by unfold mergeO; rw [newL_at]; simp
  | _ :: _, [], _, _, h => by simp at h
  | o :: S, n :: X, i, x, h => by
    rw [mergeO]
    cases x with
    | zero =>
      rw [Nat.add_zero]
      cases hc : ws.contains i with
      | true => simp
      | false => simp
    | succ x =>
      rw [List.getElem?_cons_succ, mergeO_at S X (i + 1) x (by simpa using h)]
      simp only [List.length_cons, Nat.add_lt_add_iff_right, List.getElem?_cons_succ, show i + (x + 1) = i + 1 + x by omega]
theorem idsM_mem {ws : List Nat} {n : Nat} : ∀ (X : List AO) (i x : Nat) (o : AO), X[x]? = some o → (ws.contains (i + x) = true ∨ n ≤ i + x) → ∀ id ∈ o.ids, id ∈ idsM ws n X i
  | [], _, _, _, h, _, _, _ => by simp at h
  | p :: X, i, x, o, h, hc, id, hid => by
    unfold idsM
    cases x with
    | zero =>
      obtain rfl := Option.some.inj h
      have : (ws.contains i || Nat.ble n i) = true := by
        rw [Bool.or_eq_true]
        exact hc.imp (fun h => by simpa using h) (fun h => Nat.ble_eq_true_of_le (by simpa using h))
      rw [this, cond_true]
      exact List.mem_append_left _ hid
    | succ x =>
      have := idsM_mem (ws := ws) (n := n) X (i + 1) x o h (by rwa [show i + 1 + x = i + (x + 1) by omega]) id hid
      cases (ws.contains i || Nat.ble n i) with
      | true => exact List.mem_append_right _ this
      | false => exact this
theorem mineL_ok {ob : List AO} : ∀ {l : List Nat} {x : Nat}, x ∈ mineL ob l → ∃ o, ob[x]? = some o ∧ o.mine = true
  | [], x, h => by cases h
  | i :: l, x, h => by
    unfold mineL at h
    split at h
    · rename_i o ho
      cases hm : o.mine with
      | true =>
        rw [hm, cond_true] at h
        rcases List.mem_cons.1 h with rfl | h
        · exact ⟨o, ho, hm⟩
        · exact mineL_ok h
      | false => rw [hm, cond_false] at h; exact mineL_ok h
    · exact mineL_ok h
theorem maskO_len {ts ws : List Nat} : ∀ (S : List AO) (i : Nat), (maskO ts ws S i).length = S.length
  | [], _ => rfl
  | o :: S, i => by rw [maskO, List.length_cons, maskO_len S (i + 1), List.length_cons]
theorem maskO_at {ts ws : List Nat} : ∀ (S : List AO) (i x : Nat) (o1 : AO), (maskO ts ws S i)[x]? = some o1 → ∃ o, S[x]? = some o ∧ ((ws.contains (i + x) = true ∧ o1 = o) ∨ (ws.contains (i + x) = false ∧ ((ts.contains (i + x) = true ∧ o1 = o.lent) ∨ o1 = .gone)))
  | [], _, x, o1, h => by simp [maskO] at h
  | o :: S, i, 0, o1, h => by
    obtain rfl := Option.some.inj h
    refine ⟨o, rfl, ?_⟩
    rw [Nat.add_zero]
    cases hw : ws.contains i with
    | true => exact .inl ⟨rfl, rfl⟩
    | false =>
      refine .inr ⟨rfl, ?_⟩
      cases ht : ts.contains i with
      | true => exact .inl ⟨rfl, rfl⟩
      | false => exact .inr rfl
  | o :: S, i, x + 1, o1, h => by
    have := maskO_at S (i + 1) x o1 h
    rwa [show i + 1 + x = i + (x + 1) by omega] at this
theorem pickR_ok : ∀ {l : List Nat} {s : Slots} {t : Nat} {v : AV}, lookA t (pickR l s) = some v → t ∈ l ∧ lookA t s = some v
  | [], s, t, v, h => by cases h
  | i :: l, s, t, v, h => by
    unfold pickR at h
    split at h
    · rename_i u hu
      rw [look_cons] at h
      by_cases e : i = t
      · rw [if_pos e] at h
        subst e
        exact ⟨by simp, by rw [hu]; exact h⟩
      · rw [if_neg e] at h
        obtain ⟨h1, h2⟩ := pickR_ok h
        exact ⟨by simp [h1], h2⟩
    · obtain ⟨h1, h2⟩ := pickR_ok h
      exact ⟨by simp [h1], h2⟩
structure Dat where
  s : St
  ran : Bool
  v : AV
  X : List AO
  g : Log
def On (all : List Oper) (o : Oper) (s : Slots) : Prop := o.guard = none ∨ ∃ d b, d ∈ guardT all o ∧ lookA d s = some (.dat .bool b) ∧ ∀ a : Act, a.tmps.getD d undef = .bool b → Region.wanted o (yielded all.toArray a.tmps) = true
def Off (all : List Oper) (o : Oper) (s : Slots) : Prop := ∃ d v, d ∈ guardT all o ∧ lookA d s = some v ∧ (v = .undef ∨ ∃ b, v = .dat .bool b) ∧ ∀ (x : Cx) (a : Act), VR x v (a.tmps.getD d undef) → Region.wanted o (yielded all.toArray a.tmps) = false
structure Ran (P : Program) (Γ : Sums) (all : List Oper) (D : Nat → Dat) (i : Nat) (o : Oper) (sl : Slots) : Prop where
  ran : (D i).ran = true
  on : On all o (D i).s.sl
  op : opA P Γ o (pickR (reads all o) sl) (maskO (D i).g.ts (D i).g.ws (D i).s.ob 0) (fun v ob => some (v, ob)) = some ((D i).v, (D i).X)
  ws : ∀ x ∈ (D i).g.ws, ∃ o, (D i).s.ob[x]? = some o ∧ o.mine = true
  len : (D i).s.ob.length ≤ (D i).X.length
  us : (D i).g.us = (D i).v.ids ++ idsM (D i).g.ws (D i).s.ob.length (D i).X 0
  lt : ∀ x ∈ (D i).g.us, x < (D i).X.length
  ob : (D (i + 1)).s.ob = mergeO (D i).g.ws (D i).s.ob (D i).X 0
  lo : (D i).g.lo = (D i).s.ob.length
  hi : (D i).g.hi = (D i).X.length
structure Not (all : List Oper) (D : Nat → Dat) (i : Nat) (o : Oper) : Prop where
  ran : (D i).ran = false
  off : Off all o (D i).s.sl
  v : (D i).v = .undef
  ob : (D (i + 1)).s.ob = (D i).s.ob
def RowOk (P : Program) (Γ : Sums) (all : List Oper) (D : Nat → Dat) (i : Nat) (o : Oper) : Prop :=
  ∃ sl, (∀ t, lookA t sl = lookA t (D i).s.sl) ∧ (∀ t, lookA t (D (i + 1)).s.sl = lookA t (putS o.dst (D i).v sl)) ∧ (D i).g.i = i ∧ (Ran P Γ all D i o sl ∨ Not all D i o)
theorem RowOk.congr {P : Program} {Γ : Sums} {all : List Oper} {D D' : Nat → Dat} {i : Nat} {o : Oper} (h : RowOk P Γ all D i o) (e1 : D' i = D i) (e2 : D' (i + 1) = D (i + 1)) : RowOk P Γ all D' i o := by
  obtain ⟨sl, h1, h2, h3, h4⟩ := h
  refine ⟨sl, by rw [e1]; exact h1, by rw [e1, e2]; exact h2, by rw [e1]; exact h3, ?_⟩
  rcases h4 with h | h
  · exact .inl ⟨by rw [e1]; exact h.ran, by rw [e1]; exact h.on, by rw [e1]; exact h.op, by rw [e1]; exact h.ws, by rw [e1]; exact h.len, by rw [e1]; exact h.us, by rw [e1]; exact h.lt, by rw [e1, e2]; exact h.ob, by rw [e1]; exact h.lo, by rw [e1]; exact h.hi⟩
  · exact .inr ⟨by rw [e1]; exact h.ran, by rw [e1]; exact h.off, by rw [e1]; exact h.v, by rw [e1, e2]; exact h.ob⟩
theorem ops_rows {R : Type} {P : Program} {Γ : Sums} (hN : SumsNat Γ) {all : List Oper} {r : R} {K : St → List Log → Option R} : ∀ (rest : List Oper) (i : Nat) (s : St) (l : List Log), (∀ j, rest[j]? = all[i + j]?) → opsA P Γ all true rest i s l K = some r →
    ∃ (D : Nat → Dat) (l' : List Log), (D i).s = s ∧ (∀ j o, i ≤ j → all[j]? = some o → RowOk P Γ all D j o) ∧ K (D (i + rest.length)).s l' = some r ∧ (∀ x ∈ l, x ∈ l') ∧ ∀ j, i ≤ j → j < i + rest.length → (D j).ran = true → (D j).g ∈ l'
  | [], i, s, l, he, h => by
    refine ⟨fun _ => ⟨s, false, .undef, [], ⟨0, [], [], 0, 0, []⟩⟩, l, rfl, fun j o hj ho => ?_, h, fun x hx => hx, fun j h1 h2 => by simp at h2; omega⟩
    have := he (j - i)
    rw [show i + (j - i) = j by omega, ho] at this
    simp at this
  | o :: rest, i, s, l, he, h => by
    have he0 : all[i]? = some o := by have := he 0; rw [Nat.add_zero] at this; rw [← this]; rfl
    have he' : ∀ j, rest[j]? = all[i + 1 + j]? := fun j => by have := he (j + 1); rw [show i + (j + 1) = i + 1 + j by omega] at this; rw [← this]; rfl
    unfold opsA at h
    simp only [cond_true] at h
    obtain ⟨sl, hsl, hc⟩ := guard_cases (go := fun sl => opA P Γ o (pickR (reads all o) sl) (maskO (touch o sl s.ob) (mineL s.ob (wrs Γ o sl s.ob)) s.ob 0) fun v ob => cond (Nat.ble s.ob.length ob.length && (v.ids ++ idsM (mineL s.ob (wrs Γ o sl s.ob)) s.ob.length ob 0).all fun x => Nat.blt x ob.length) (opsA P Γ all true rest (i + 1) ⟨putS o.dst v sl, mergeO (mineL s.ob (wrs Γ o sl s.ob)) s.ob ob 0⟩ (⟨i, touch o sl s.ob, mineL s.ob (wrs Γ o sl s.ob), s.ob.length, ob.length, v.ids ++ idsM (mineL s.ob (wrs Γ o sl s.ob)) s.ob.length ob 0⟩ :: l) K) none) (no := fun sl => opsA P Γ all true rest (i + 1) ⟨putS o.dst .undef sl, s.ob⟩ l K) h
    have hlen : i + (o :: rest).length = i + 1 + rest.length := by rw [List.length_cons]; omega
    rcases hc with ⟨h, hon⟩ | ⟨h, hoff⟩
    · obtain ⟨v, X, hop, h⟩ := bd_pair P hN h
      · obtain ⟨hb, h⟩ | ⟨_, h⟩ := cond_elim h
        · rw [Bool.and_eq_true] at hb
          obtain ⟨D, l', hD, hrows, hK, hl, hg⟩ := ops_rows hN rest (i + 1) _ _ he' h
          refine ⟨fun j => if j = i then ⟨s, true, v, X, ⟨i, touch o sl s.ob, mineL s.ob (wrs Γ o sl s.ob), s.ob.length, X.length, v.ids ++ idsM (mineL s.ob (wrs Γ o sl s.ob)) s.ob.length X 0⟩⟩ else D j, l', by simp, ?_, ?_, fun x hx => hl x (List.mem_cons_of_mem _ hx), ?_⟩
          · intro j p hj hp
            by_cases hji : j = i
            · subst hji
              rw [he0] at hp
              obtain rfl := Option.some.inj hp
              have e2 : ¬ j + 1 = j := by omega
              refine ⟨sl, by simpa using hsl, fun t => ?_, by simp, .inl ⟨by simp, by simp only [if_true]; exact hon, by simpa using hop, ?_, by simpa using Nat.le_of_ble_eq_true hb.1, by simp, ?_, ?_, by simp, by simp⟩⟩
              · simp only [if_neg e2, if_true, hD]
              · intro x hx
                simp only [if_true] at hx ⊢
                exact mineL_ok hx
              · intro x hx
                simp only [if_true] at hx ⊢
                have := List.all_eq_true.1 hb.2 x hx
                simpa [Nat.blt_eq] using this
              · simp only [if_neg e2, if_true, hD]
            · exact (hrows j p (by omega) hp).congr (if_neg hji) (if_neg (by omega))
          · rw [hlen]
            simp only [if_neg (show ¬ i + 1 + rest.length = i by omega)]
            exact hK
          · intro j h1 h2 h3
            by_cases hji : j = i
            · simp only [if_pos hji]
              exact hl _ (List.mem_cons_self ..)
            · simp only [if_neg hji] at h3 ⊢
              exact hg j (by omega) (by rw [hlen] at h2; exact h2) h3
        · cases h
    · obtain ⟨D, l', hD, hrows, hK, hl, hg⟩ := ops_rows hN rest (i + 1) _ _ he' h
      refine ⟨fun j => if j = i then ⟨s, false, .undef, [], ⟨i, [], [], 0, 0, []⟩⟩ else D j, l', by simp, ?_, ?_, hl, ?_⟩
      · intro j p hj hp
        by_cases hji : j = i
        · subst hji
          rw [he0] at hp
          obtain rfl := Option.some.inj hp
          have e2 : ¬ j + 1 = j := by omega
          refine ⟨sl, by simpa using hsl, fun t => ?_, by simp, .inr ⟨by simp, by simp only [if_true]; exact hoff, by simp, ?_⟩⟩
          · simp only [if_neg e2, if_true, hD]
          · simp only [if_neg e2, if_true, hD]
        · exact (hrows j p (by omega) hp).congr (if_neg hji) (if_neg (by omega))
      · rw [hlen]
        simp only [if_neg (show ¬ i + 1 + rest.length = i by omega)]
        exact hK
      · intro j h1 h2 h3
        by_cases hji : j = i
        · simp only [if_pos hji] at h3
          cases h3
        · simp only [if_neg hji] at h3 ⊢
          exact hg j (by omega) (by rw [hlen] at h2; exact h2) h3
end Go.Mx
namespace Go.Mx
open Go Go.RowKit Go.Sx
variable [Glb]
theorem reachT_lt : ∀ (r : List Oper) (T : List (List Nat)), (∀ i, ∀ j ∈ T.getD i [], j < i) → ∀ i, ∀ j ∈ (reachT r T).getD i [], j < i
  | [], T, h => h
  | o :: r, T, h => by
    unfold reachT
    refine reachT_lt r _ ?_
    intro i j hj
    rcases Nat.lt_trichotomy i T.length with hl | hl | hl
    · rw [List.getD_eq_getElem?_getD, List.getElem?_append, if_pos hl] at hj
      exact h i j (by rwa [List.getD_eq_getElem?_getD])
    · subst hl
      rw [List.getD_eq_getElem?_getD, List.getElem?_append, if_neg (by omega), Nat.sub_self] at hj
      simp only [List.getElem?_cons_zero, Option.getD_some, List.mem_filter, List.mem_range] at hj
      exact hj.1
    · rw [List.getD_eq_getElem?_getD, List.getElem?_eq_none (by simp; omega)] at hj
      simp at hj
theorem noClash_ok {T : List (List Nat)} : ∀ {l : List Log}, noClash T l = true → ∀ {a b : Log}, a ∈ l → b ∈ l → a.i ≠ b.i → apart T a b = true ∨ apart T b a = true
  | [], _, a, b, ha, _, _ => by cases ha
  | c :: l, h, a, b, ha, hb, hne => by
    rw [noClash, Bool.and_eq_true] at h
    rcases List.mem_cons.1 ha with e1 | ha'
    · rcases List.mem_cons.1 hb with e2 | hb'
      · exact absurd (by rw [e1, e2]) hne
      · rw [e1]; exact .inl (List.all_eq_true.1 h.1 b hb')
    · rcases List.mem_cons.1 hb with e2 | hb'
      · rw [e2]; exact .inr (List.all_eq_true.1 h.1 a ha')
      · exact noClash_ok h.2 ha' hb' hne
theorem apart_ok {T : List (List Nat)} {a b : Log} (h : apart T a b = true ∨ apart T b a = true) : b.i ∈ T.getD a.i [] ∨ a.i ∈ T.getD b.i [] ∨ (bears a b = true ∧ bears b a = true) := by
  unfold apart at h
  simp only [Bool.or_eq_true, Bool.and_eq_true, List.contains_iff_mem] at h
  rcases h with ((h | h) | h) | ((h | h) | h)
  · exact .inl h
  · exact .inr (.inl h)
  · exact .inr (.inr h)
  · exact .inr (.inl h)
  · exact .inl h
  · exact .inr (.inr ⟨h.2, h.1⟩)
theorem disj_ok {a b : List Nat} (h : disj a b = true) {x : Nat} (ha : x ∈ a) (hb : x ∈ b) : False := by
  have := List.all_eq_true.1 h x ha
  simp only [Bool.not_eq_true', Bool.eq_false_iff, ne_eq, List.contains_iff_mem] at this
  exact this hb
theorem outs_ok {a : Log} {l : List Nat} (h : outs a l = true) {x : Nat} (hx : x ∈ l) (h1 : a.lo ≤ x) (h2 : x < a.hi) : False := by
  unfold outs at h
  rw [Bool.or_eq_true] at h
  rcases h with h | h
  · have := Nat.eq_of_beq_eq_true h; omega
  · have := List.all_eq_true.1 h x hx
    rw [Bool.or_eq_true] at this
    rcases this with h | h
    · rw [Nat.blt_eq] at h; omega
    · have := Nat.le_of_ble_eq_true h; omega
theorem whoSets_some {t : Nat} : ∀ {l : List Oper} {i k : Nat}, whoSets t l i = some k → i ≤ k ∧ ∃ o, l[k - i]? = some o ∧ o.dst = some t
  | [], _, _, h => by cases h
  | o :: l, i, k, h => by
    have rc : whoSets t l (i + 1) = some k → i ≤ k ∧ ∃ o', (o :: l)[k - i]? = some o' ∧ o'.dst = some t := by
      intro h
      obtain ⟨h1, o', h2, h3⟩ := whoSets_some h
      exact ⟨by omega, o', by rw [show k - i = (k - (i + 1)) + 1 by omega]; exact h2, h3⟩
    unfold whoSets at h
    split at h
    · rename_i d hd
      cases hb : Nat.beq d t with
      | true =>
        rw [hb] at h
        obtain rfl := Option.some.inj h
        exact ⟨Nat.le_refl _, o, by rw [Nat.sub_self]; rfl, by rw [hd, Nat.eq_of_beq_eq_true hb]⟩
      | false => rw [hb] at h; exact rc h
    · exact rc h
theorem whoSets_none {t : Nat} : ∀ {l : List Oper} {i : Nat}, whoSets t l i = none → ∀ (k : Nat) (o : Oper), l[k]? = some o → o.dst ≠ some t
  | [], _, _, k, o, hk => by simp at hk
  | p :: l, i, h, k, o, hk => by
    unfold whoSets at h
    cases k with
    | zero =>
      obtain rfl := Option.some.inj hk
      intro e
      simp only [e, Nat.beq_refl, cond_true] at h
      cases h
    | succ k =>
      split at h
      · rename_i d hd
        cases hb : Nat.beq d t with
        | true => rw [hb] at h; cases h
        | false => rw [hb] at h; exact whoSets_none h k o hk
      · exact whoSets_none h k o hk
theorem dsts_mem {t : Nat} : ∀ {l : List Oper} {k : Nat} {o : Oper}, l[k]? = some o → o.dst = some t → t ∈ dsts l
  | [], k, o, h, _ => by simp at h
  | p :: l, k, o, h, hd => by
    unfold dsts
    cases k with
    | zero =>
      obtain rfl := Option.some.inj h
      rw [hd]
      exact List.mem_cons_self ..
    | succ k =>
      have := dsts_mem (l := l) h hd
      split
      · exact List.mem_cons_of_mem _ this
      · exact this
theorem dsts_uniq {t : Nat} : ∀ {l : List Oper}, (dsts l).Nodup → ∀ {i j : Nat} {o o' : Oper}, l[i]? = some o → l[j]? = some o' → o.dst = some t → o'.dst = some t → i = j
  | [], _, i, j, o, o', hi, _, _, _ => by simp at hi
  | p :: l, h, i, j, o, o', hi, hj, h1, h2 => by
    have hl : (dsts l).Nodup := by
      unfold dsts at h
      split at h
      · exact (List.nodup_cons.1 h).2
      · exact h
    cases i with
    | zero =>
      obtain rfl := Option.some.inj hi
      cases j with
      | zero => rfl
      | succ j =>
        have := dsts_mem (l := l) hj h2
        unfold dsts at h
        rw [h1] at h
        exact absurd this (List.nodup_cons.1 h).1
    | succ i =>
      cases j with
      | zero =>
        obtain rfl := Option.some.inj hj
        have := dsts_mem (l := l) hi h1
        unfold dsts at h
        rw [h2] at h
        exact absurd this (List.nodup_cons.1 h).1
      | succ j => rw [dsts_uniq hl (i := i) (j := j) hi hj h1 h2]
theorem rdOk_ok {all : List Oper} {T : List (List Nat)} : ∀ {l : List Oper} {n i : Nat} {o : Oper}, rdOk all T l n = true → l[i]? = some o → ∀ t ∈ reads all o, ∀ k, whoSets t all 0 = some k → k ∈ T.getD (n + i) [] ∨ n + i ∈ T.getD k [] ∨ k = n + i
  | [], _, i, o, _, h => by simp at h
  | p :: l, n, 0, o, hr, h => by
    obtain rfl := Option.some.inj h
    rw [rdOk, Bool.and_eq_true] at hr
    intro t ht k hk
    have := List.all_eq_true.1 hr.1 t ht
    rw [hk] at this
    simp only [Bool.or_eq_true, List.contains_iff_mem] at this
    rw [Nat.add_zero]
    rcases this with (h | h) | h
    · exact .inl h
    · exact .inr (.inl h)
    · exact .inr (.inr (Nat.eq_of_beq_eq_true h))
  | p :: l, n, i + 1, o, hr, h => by
    rw [rdOk, Bool.and_eq_true] at hr
    have := rdOk_ok (n := n + 1) (i := i) hr.2 h
    rwa [show n + 1 + i = n + (i + 1) by omega] at this
structure Txt (P : Program) (Γ : Sums) (all : List Oper) (D : Nat → Dat) : Prop where
  rows : ∀ j o, all[j]? = some o → RowOk P Γ all D j o
  reg : regOk all = true
  sep : ∀ i j, i < all.length → j < all.length → i ≠ j → (D i).ran = true → (D j).ran = true → i ∈ (reachT all []).getD j [] ∨ j ∈ (reachT all []).getD i [] ∨ bears (D i).g (D j).g = true
  ini : ∀ (x : Nat) (o : AO), (D 0).s.ob[x]? = some o → ∀ id ∈ o.ids, id < (D 0).s.ob.length
  inis : ∀ (t : Nat) (v : AV), lookA t (D 0).s.sl = some v → ∀ id ∈ v.ids, id < (D 0).s.ob.length
section
variable {P : Program} {Γ : Sums} {all : List Oper} {D : Nat → Dat}
abbrev nO (D : Nat → Dat) (i : Nat) : Nat := (D i).s.ob.length
def Wrt (D : Nat → Dat) (k x : Nat) : Prop := (D k).ran = true ∧ (x ∈ (D k).g.ws ∨ (nO D k ≤ x ∧ x < nO D (k + 1)))
def Rl (all : List Oper) (j i : Nat) : Prop := j ∈ (reachT all []).getD i []
theorem Rl.lt {j i : Nat} (h : Rl all j i) : j < i := reachT_lt all [] (fun i j h => by simp at h) i j h
theorem Txt.row (h : Txt P Γ all D) {i : Nat} (hi : i < all.length) : ∃ o, all[i]? = some o ∧ RowOk P Γ all D i o := ⟨_, List.getElem?_eq_getElem hi, h.rows i _ (List.getElem?_eq_getElem hi)⟩
theorem Txt.n1 (h : Txt P Γ all D) {i : Nat} (hi : i < all.length) : nO D i ≤ nO D (i + 1) ∧ ((D i).ran = true → nO D (i + 1) = (D i).X.length) ∧ ((D i).ran = false → (D (i + 1)).s.ob = (D i).s.ob) := by
  obtain ⟨o, _, sl, _, _, _, hr | hn⟩ := h.row hi
  · have e : nO D (i + 1) = (D i).X.length := by unfold nO; rw [hr.ob, mergeO_len _ _ _ hr.len]
    exact ⟨by rw [e]; exact hr.len, fun _ => e, fun hf => (by rw [hr.ran] at hf; cases hf)⟩
  · exact ⟨by unfold nO; rw [hn.ob]; exact Nat.le_refl _, fun hf => (by rw [hn.ran] at hf; cases hf), fun _ => hn.ob⟩
theorem Txt.mono (h : Txt P Γ all D) {i : Nat} : ∀ {j : Nat}, i ≤ j → j ≤ all.length → nO D i ≤ nO D j
  | 0, hij, _ => by rw [show i = 0 by omega]; exact Nat.le_refl _
  | j + 1, hij, hj => by
    rcases Nat.lt_or_ge j i with hl | hl
    · rw [show i = j + 1 by omega]; exact Nat.le_refl _
    · exact Nat.le_trans (h.mono hl (by omega)) (h.n1 (by omega)).1
theorem Txt.ran (h : Txt P Γ all D) {i : Nat} (hi : i < all.length) (hr : (D i).ran = true) : ∃ o sl, all[i]? = some o ∧ (∀ t, lookA t sl = lookA t (D i).s.sl) ∧ Ran P Γ all D i o sl := by
  obtain ⟨o, ho, sl, h1, _, _, h2 | h2⟩ := h.row hi
  · exact ⟨o, sl, ho, h1, h2⟩
  · rw [h2.ran] at hr; cases hr
theorem Txt.wlt (h : Txt P Γ all D) {k x : Nat} (hk : k < all.length) (hw : Wrt D k x) : x < nO D (k + 1) := by
  rcases hw.2 with h1 | h1
  · obtain ⟨o, sl, _, _, hr⟩ := h.ran hk hw.1
    obtain ⟨o', h2, _⟩ := hr.ws x h1
    exact Nat.lt_of_lt_of_le (List.getElem?_eq_some_iff.1 h2).1 (h.n1 hk).1
  · exact h1.2
theorem Txt.keep (h : Txt P Γ all D) {k x : Nat} (hk : k < all.length) (hw : ¬ Wrt D k x) (hx : x < nO D k) : (D (k + 1)).s.ob[x]? = (D k).s.ob[x]? := by
  cases hr : (D k).ran with
  | false => rw [(h.n1 hk).2.2 hr]
  | true =>
    obtain ⟨o, sl, _, _, hR⟩ := h.ran hk hr
    rw [hR.ob, mergeO_at _ _ _ _ hR.len, if_pos]
    refine ⟨hx, ?_⟩
    rw [Nat.zero_add, Bool.eq_false_iff, ne_eq, List.contains_iff_mem]
    exact fun hm => hw ⟨hr, .inl hm⟩
theorem Txt.keeps (h : Txt P Γ all D) {p x : Nat} (hx : x < nO D p) : ∀ {q : Nat}, p ≤ q → q ≤ all.length → (∀ k, p ≤ k → k < q → ¬ Wrt D k x) → (D q).s.ob[x]? = (D p).s.ob[x]?
  | 0, hpq, _, _ => by rw [show p = 0 by omega]
  | q + 1, hpq, hq, hw => by
    rcases Nat.lt_or_ge q p with hl | hl
    · rw [show p = q + 1 by omega]
    · rw [h.keep (by omega) (hw q hl (by omega)) (Nat.lt_of_lt_of_le hx (h.mono hl (by omega)))]
      exact h.keeps hx hl (by omega) (fun k h1 h2 => hw k h1 (by omega))
theorem Txt.wrote (h : Txt P Γ all D) {k x : Nat} (hk : k < all.length) (hw : Wrt D k x) : (D (k + 1)).s.ob[x]? = ((D k).X[x]?).map newO := by
  obtain ⟨o, sl, _, _, hR⟩ := h.ran hk hw.1
  rw [hR.ob, mergeO_at _ _ _ _ hR.len, if_neg]
  rintro ⟨h1, h2⟩
  rcases hw.2 with h3 | h3
  · rw [Nat.zero_add, Bool.eq_false_iff, ne_eq, List.contains_iff_mem] at h2
    exact h2 h3
  · have := h3.1
    unfold nO at this
    omega
theorem newO_ids {o : AO} {i : Nat} (h : i ∈ (newO o).ids) : i ∈ o.ids := by
  unfold newO at h
  cases hs : o.sure with
  | true => rw [hs] at h; exact h
  | false => rw [hs] at h; cases h
theorem Txt.usO (h : Txt P Γ all D) {k x : Nat} {o : AO} (hk : k < all.length) (hw : Wrt D k x) (ho : (D (k + 1)).s.ob[x]? = some o) : ∀ id ∈ o.ids, id ∈ (D k).g.us := by
  rw [h.wrote hk hw] at ho
  obtain ⟨p, sl, _, _, hR⟩ := h.ran hk hw.1
  cases hx : (D k).X[x]? with
  | none => rw [hx] at ho; cases ho
  | some o' =>
    rw [hx] at ho
    obtain rfl := Option.some.inj ho
    intro id hid
    rw [hR.us]
    refine List.mem_append_right _ (idsM_mem _ 0 x o' hx ?_ id (newO_ids hid))
    rw [Nat.zero_add]
    rcases hw.2 with h3 | h3
    · exact .inl (List.contains_iff_mem.2 h3)
    · exact .inr h3.1
theorem Txt.usV (h : Txt P Γ all D) {k : Nat} (hk : k < all.length) (hr : (D k).ran = true) : ∀ id ∈ (D k).v.ids, id ∈ (D k).g.us := by
  obtain ⟨p, sl, _, _, hR⟩ := h.ran hk hr
  intro id hid
  rw [hR.us]
  exact List.mem_append_left _ hid
theorem Txt.made (h : Txt P Γ all D) {id : Nat} : ∀ {q : Nat}, q ≤ all.length → id < nO D q → id < nO D 0 ∨ ∃ j, j < q ∧ (D j).ran = true ∧ nO D j ≤ id ∧ id < nO D (j + 1)
  | 0, _, hid => .inl hid
  | q + 1, hq, hid => by
    rcases Nat.lt_or_ge id (nO D q) with hl | hl
    · rcases h.made (by omega) hl with h1 | ⟨j, h1, h2⟩
      · exact .inl h1
      · exact .inr ⟨j, by omega, h2⟩
    · cases hr : (D q).ran with
      | false => unfold nO at hid hl; rw [(h.n1 (by omega)).2.2 hr] at hid; omega
      | true => exact .inr ⟨q, by omega, hr, hl, hid⟩
theorem Txt.us_lt (h : Txt P Γ all D) {k id : Nat} (hk : k < all.length) (hr : (D k).ran = true) (hid : id ∈ (D k).g.us) : id < nO D (k + 1) := by
  obtain ⟨p, sl, _, _, hR⟩ := h.ran hk hr
  rw [(h.n1 hk).2.1 hr]
  exact hR.lt id hid
theorem Txt.usCr (h : Txt P Γ all D) {k id : Nat} (hk : k < all.length) (hr : (D k).ran = true) (hid : id ∈ (D k).g.us) : id < nO D 0 ∨ ∃ j, (j = k ∨ Rl all j k) ∧ j < all.length ∧ (D j).ran = true ∧ nO D j ≤ id ∧ id < nO D (j + 1) := by
  rcases h.made (show k + 1 ≤ all.length by omega) (h.us_lt hk hr hid) with h1 | ⟨j, h1, h2, h3, h4⟩
  · exact .inl h1
  · refine .inr ⟨j, ?_, by omega, h2, h3, h4⟩
    by_cases hjk : j = k
    · exact .inl hjk
    · rcases h.sep j k (by omega) hk hjk h2 hr with h5 | h5 | h5
      · exact .inr h5
      · have := Rl.lt h5; omega
      · exfalso
        unfold bears at h5
        simp only [Bool.and_eq_true] at h5
        obtain ⟨p, sl, _, _, hR⟩ := h.ran (show j < all.length by omega) h2
        exact outs_ok h5.2 hid (by rw [hR.lo]; exact h3) (by rw [hR.hi, ← (h.n1 (by omega)).2.1 h2]; exact h4)
theorem Txt.clash (h : Txt P Γ all D) {k i x : Nat} (hk : k < all.length) (hi : i < all.length) (hr : (D i).ran = true) (hw : Wrt D k x) (hx : x ∈ (D i).g.ts ∨ x ∈ (D i).g.ws) (hne : k ≠ i) : Rl all k i ∨ Rl all i k := by
  rcases h.sep k i hk hi hne hw.1 hr with h1 | h1 | h1
  · exact .inl h1
  · exact .inr h1
  · exfalso
    unfold bears at h1
    simp only [Bool.and_eq_true] at h1
    obtain ⟨⟨⟨⟨h1, h2⟩, h3⟩, h4⟩, _⟩ := h1
    obtain ⟨p, sl, _, _, hR⟩ := h.ran hk hw.1
    rcases hw.2 with hw' | hw'
    · exact hx.elim (disj_ok h1 hw') (disj_ok h2 hw')
    · have e1 : (D k).g.lo ≤ x := by rw [hR.lo]; exact hw'.1
      have e2 : x < (D k).g.hi := by rw [hR.hi, ← (h.n1 hk).2.1 hw.1]; exact hw'.2
      exact hx.elim (fun hx => outs_ok h3 hx e1 e2) (fun hx => outs_ok h4 hx e1 e2)
theorem Txt.clashW (h : Txt P Γ all D) {k i x : Nat} (hk : k < all.length) (hi : i < all.length) (h1 : Wrt D k x) (h2 : Wrt D i x) (hne : k ≠ i) : Rl all k i ∨ Rl all i k := by
  rcases h2.2 with hx | hx
  · exact h.clash hk hi h2.1 h1 (.inr hx) hne
  · rcases h1.2 with hy | hy
    · exact (h.clash hi hk h1.1 h2 (.inr hy) (fun e => hne e.symm)).symm
    · exfalso
      rcases Nat.lt_or_gt_of_ne hne with hl | hl
      · have := h.mono (show k + 1 ≤ i by omega) (by omega); omega
      · have := h.mono (show i + 1 ≤ k by omega) (by omega); omega
theorem Txt.slot (h : Txt P Γ all D) : ∀ {i : Nat}, i ≤ all.length → ∀ {t : Nat} {v : AV}, lookA t (D i).s.sl = some v → (∃ (k : Nat) (o : Oper), k < i ∧ all[k]? = some o ∧ o.dst = some t ∧ v = (D k).v) ∨ ((∀ (k : Nat) (o : Oper), k < i → all[k]? = some o → o.dst ≠ some t) ∧ lookA t (D 0).s.sl = some v)
  | 0, _, t, v, hv => .inr ⟨fun k o hk => by omega, hv⟩
  | i + 1, hi, t, v, hv => by
    obtain ⟨o, ho, sl, h1, h2, _, _⟩ := h.row (show i < all.length by omega)
    rw [h2] at hv
    have old : ¬ o.dst = some t → lookA t (D i).s.sl = some v → (∃ (k : Nat) (o : Oper), k < i + 1 ∧ all[k]? = some o ∧ o.dst = some t ∧ v = (D k).v) ∨ ((∀ (k : Nat) (o : Oper), k < i + 1 → all[k]? = some o → o.dst ≠ some t) ∧ lookA t (D 0).s.sl = some v) := by
      intro hne hv
      rcases h.slot (by omega) hv with ⟨k, o', g1, g2⟩ | ⟨g1, g2⟩
      · exact .inl ⟨k, o', by omega, g2⟩
      · refine .inr ⟨fun k o' hk ho' => ?_, g2⟩
        by_cases hki : k = i
        · subst hki
          rw [ho] at ho'
          obtain rfl := Option.some.inj ho'
          exact hne
        · exact g1 k o' (by omega) ho'
    cases hd : o.dst with
    | none =>
      rw [hd] at hv
      have hv : lookA t sl = some v := hv
      exact old (by rw [hd]; simp) (by rw [← h1]; exact hv)
    | some d =>
      rw [hd] at hv
      have hv : lookA t ((d, (D i).v) :: sl) = some v := hv
      rw [look_cons] at hv
      by_cases e : d = t
      · rw [if_pos e] at hv
        exact .inl ⟨i, o, by omega, ho, by rw [hd, e], (Option.some.inj hv).symm⟩
      · rw [if_neg e] at hv
        exact old (by rw [hd]; simpa using e) (by rw [← h1]; exact hv)
end
end Go.Mx
namespace Go.Mx
open Go Go.RowKit Go.Sx
variable [Glb]
section
variable {P : Program} {Γ : Sums} {all : List Oper} {D : Nat → Dat} {b : Nat → Bool}
def Ob (all : List Oper) (D : Nat → Dat) (b : Nat → Bool) (x : Nat) (o : AO) : Prop :=
  (∃ k, k < all.length ∧ b k = true ∧ Wrt D k x ∧ (D (k + 1)).s.ob[x]? = some o ∧ ∀ k', k < k' → k' < all.length → b k' = true → ¬ Wrt D k' x) ∨
  ((∀ k, k < all.length → b k = true → ¬ Wrt D k x) ∧ ((x < nO D 0 ∧ (D 0).s.ob[x]? = some o) ∨ (nO D 0 ≤ x ∧ o = .gone)))
def Sl (all : List Oper) (D : Nat → Dat) (b : Nat → Bool) (t : Nat) (v : AV) : Prop :=
  (∃ (k : Nat) (o : Oper), all[k]? = some o ∧ o.dst = some t ∧ b k = true ∧ v = (D k).v) ∨ ((∀ (k : Nat) (o : Oper), all[k]? = some o → o.dst = some t → b k = false) ∧ lookA t (D 0).s.sl = some v)
def Cr (all : List Oper) (D : Nat → Dat) (b : Nat → Bool) (id : Nat) : Prop := id < nO D 0 ∨ ∃ j, j < all.length ∧ b j = true ∧ (D j).ran = true ∧ nO D j ≤ id ∧ id < nO D (j + 1)
def Cl (all : List Oper) (b : Nat → Bool) : Prop := ∀ (i : Nat) (o : Oper), all[i]? = some o → b i = true → ∀ q ∈ needs o, b q = true
theorem Cl.rel (hc : Cl all b) {i j : Nat} {o : Oper} (ho : all[i]? = some o) (hn : ∀ q ∈ needs o, b q = true) (h : Rl all j i) : b j = true :=
  reach_aux (S := fun j => b j = true) all hc all [] [] rfl rfl (fun i o _ hi => by simp at hi) i o ho hn j h
theorem Cl.done (hc : Cl all b) {i j : Nat} (hi : i < all.length) (hb : b i = true) (h : Rl all j i) : b j = true :=
  hc.rel (List.getElem?_eq_getElem hi) (hc i _ (List.getElem?_eq_getElem hi) hb) h
theorem Txt.obCr (h : Txt P Γ all D) (hc : Cl all b) {x : Nat} {o : AO} (ho : Ob all D b x o) : ∀ id ∈ o.ids, Cr all D b id := by
  intro id hid
  rcases ho with ⟨k, hk, hb, hw, he, _⟩ | ⟨_, ⟨hx, he⟩ | ⟨_, rfl⟩⟩
  · rcases h.usCr hk hw.1 (h.usO hk hw he id hid) with h1 | ⟨j, h1, h2, h3⟩
    · exact .inl h1
    · refine .inr ⟨j, h2, ?_, h3⟩
      rcases h1 with rfl | h1
      · exact hb
      · exact hc.done hk hb h1
  · exact .inl (h.ini x o he id hid)
  · cases hid
theorem Txt.slCr (h : Txt P Γ all D) (hc : Cl all b) {t : Nat} {v : AV} (hv : Sl all D b t v) : ∀ id ∈ v.ids, Cr all D b id := by
  intro id hid
  rcases hv with ⟨k, o, ho, _, hb, rfl⟩ | ⟨_, hl⟩
  · have hk := (List.getElem?_eq_some_iff.1 ho).1
    obtain ⟨o', _, sl, _, _, _, hr | hn⟩ := h.row hk
    · rcases h.usCr hk hr.ran (h.usV hk hr.ran id hid) with h1 | ⟨j, h1, h2, h3⟩
      · exact .inl h1
      · refine .inr ⟨j, h2, ?_, h3⟩
        rcases h1 with rfl | h1
        · exact hb
        · exact hc.done hk hb h1
    · rw [hn.v] at hid; cases hid
  · exact .inl (h.inis t v hl id hid)
theorem Txt.crLt (h : Txt P Γ all D) {id : Nat} (hc : Cr all D b id) : id < nO D all.length := by
  rcases hc with h1 | ⟨j, h1, _, _, _, h2⟩
  · exact Nat.lt_of_lt_of_le h1 (h.mono (Nat.zero_le _) (Nat.le_refl _))
  · exact Nat.lt_of_lt_of_le h2 (h.mono h1 (Nat.le_refl _))
theorem Txt.crOff (h : Txt P Γ all D) {i id : Nat} (hi : i < all.length) (hb : b i = false) (hc : Cr all D b id) : ¬ (nO D i ≤ id ∧ id < nO D (i + 1)) := by
  rintro ⟨h1, h2⟩
  rcases hc with h3 | ⟨j, h3, h4, _, h5, h6⟩
  · have := h.mono (Nat.zero_le i) (Nat.le_of_lt hi); omega
  · have hne : j ≠ i := fun e => by rw [e, hb] at h4; cases h4
    rcases Nat.lt_or_gt_of_ne hne with hl | hl
    · have := h.mono (show j + 1 ≤ i by omega) (by omega); omega
    · have := h.mono (show i + 1 ≤ j by omega) (by omega); omega
theorem Txt.idsO (h : Txt P Γ all D) : ∀ {i : Nat}, i ≤ all.length → ∀ {x : Nat} {o : AO}, (D i).s.ob[x]? = some o → ∀ id ∈ o.ids, id < nO D i
  | 0, _, x, o, ho => h.ini x o ho
  | i + 1, hi, x, o, ho => by
    intro id hid
    by_cases hw : Wrt D i x
    · exact h.us_lt (by omega) hw.1 (h.usO (by omega) hw ho id hid)
    · have hx : x < nO D i := by
        rcases Nat.lt_or_ge x (nO D i) with h1 | h1
        · exact h1
        · exfalso
          have hx := (List.getElem?_eq_some_iff.1 ho).1
          cases hr : (D i).ran with
          | false => rw [(h.n1 (by omega)).2.2 hr] at hx; unfold nO at h1; omega
          | true => exact hw ⟨hr, .inr ⟨h1, hx⟩⟩
      rw [h.keep (by omega) hw hx] at ho
      exact Nat.lt_of_lt_of_le (h.idsO (by omega) ho id hid) (h.n1 (by omega)).1
theorem Txt.idsV (h : Txt P Γ all D) {i : Nat} (hi : i ≤ all.length) {t : Nat} {v : AV} (hv : lookA t (D i).s.sl = some v) : ∀ id ∈ v.ids, id < nO D i := by
  intro id hid
  rcases h.slot hi hv with ⟨k, o, hk, ho, _, rfl⟩ | ⟨_, h2⟩
  · have hkl : k < all.length := by omega
    obtain ⟨o', _, sl, _, _, _, hr | hn⟩ := h.row hkl
    · exact Nat.lt_of_lt_of_le (h.us_lt hkl hr.ran (h.usV hkl hr.ran id hid)) (h.mono hk hi)
    · rw [hn.v] at hid; cases hid
  · exact Nat.lt_of_lt_of_le (h.inis t v h2 id hid) (h.mono (Nat.zero_le _) hi)
theorem Txt.readO (h : Txt P Γ all D) (hc : Cl all b) {i x : Nat} {o : Oper} {q : AO} (ho : all[i]? = some o) (hb : b i = false) (hn : ∀ j ∈ needs o, b j = true) (hr : (D i).ran = true) (hx : x ∈ (D i).g.ts ∨ x ∈ (D i).g.ws) (hl : x < nO D i) (hq : Ob all D b x q) : (D i).s.ob[x]? = some q := by
  have hi := (List.getElem?_eq_some_iff.1 ho).1
  -- whoever writes it, ahead, is done; nobody behind is
  have ahead : ∀ k, k < all.length → Wrt D k x → k < i → b k = true := by
    intro k hk hw hki
    rcases h.clash hk hi hr hw hx (by omega) with h1 | h1
    · exact hc.rel ho hn h1
    · have := Rl.lt h1; omega
  have behind : ∀ k, k < all.length → Wrt D k x → b k = true → k < i := by
    intro k hk hw hbk
    have hne : k ≠ i := fun e => by rw [e, hb] at hbk; cases hbk
    rcases h.clash hk hi hr hw hx hne with h1 | h1
    · exact Rl.lt h1
    · have := hc.done hk hbk h1
      rw [hb] at this; cases this
  rcases hq with ⟨k, hk, hbk, hw, he, hmax⟩ | ⟨hno, ⟨hx0, he⟩ | ⟨hx0, rfl⟩⟩
  · have hki := behind k hk hw hbk
    rw [h.keeps (p := k + 1) (q := i) (h.wlt hk hw) hki (by omega) (fun k' h1 h2 hw' => hmax k' (by omega) (by omega) (ahead k' (by omega) hw' h2) hw'), he]
  · rw [h.keeps (p := 0) (q := i) hx0 (Nat.zero_le _) (by omega) (fun k' h1 h2 hw' => hno k' (by omega) (ahead k' (by omega) hw' h2) hw'), he]
  · exfalso
    rcases h.made (show i ≤ all.length by omega) hl with h1 | ⟨j, h1, h2, h3, h4⟩
    · omega
    · have hw : Wrt D j x := ⟨h2, .inr ⟨h3, h4⟩⟩
      exact hno j (by omega) (ahead j (by omega) hw h1) hw
theorem Txt.parts (h : Txt P Γ all D) : okR all all.length = true ∧ (dsts all).Nodup ∧ rdOk all (reachT all []) all 0 = true := by
  have := h.reg
  unfold regOk at this
  rw [Bool.and_eq_true, Bool.and_eq_true] at this
  exact ⟨this.1.1, nodupB_ok this.1.2, this.2⟩
theorem Txt.readS (h : Txt P Γ all D) (hc : Cl all b) {i t : Nat} {o : Oper} {v : AV} (ho : all[i]? = some o) (hb : b i = false) (hn : ∀ j ∈ needs o, b j = true) (ht : t ∈ reads all o) (hv : lookA t (D i).s.sl = some v) : Sl all D b t v := by
  have hi := (List.getElem?_eq_some_iff.1 ho).1
  obtain ⟨_, hu, hrd⟩ := h.parts
  have who : ∀ (k : Nat) (o' : Oper), all[k]? = some o' → o'.dst = some t → Rl all k i ∨ Rl all i k ∨ k = i := by
    intro k o' hk hd
    cases hw : whoSets t all 0 with
    | none => exact absurd hd (whoSets_none hw k o' hk)
    | some k' =>
      obtain ⟨_, o2, h2, h3⟩ := whoSets_some hw
      have e : k' = k := dsts_uniq hu (i := k') (j := k) h2 hk h3 hd
      subst e
      have := rdOk_ok hrd ho t ht k' hw
      rw [Nat.zero_add] at this
      exact this
  rcases h.slot (Nat.le_of_lt hi) hv with ⟨k, o', hk, ho', hd, e⟩ | ⟨hno, hl⟩
  · refine .inl ⟨k, o', ho', hd, ?_, e⟩
    rcases who k o' ho' hd with h1 | h1 | h1
    · exact hc.rel ho hn h1
    · have := Rl.lt h1; omega
    · omega
  · refine .inr ⟨fun k o' ho' hd => ?_, hl⟩
    cases hbk : b k with
    | false => rfl
    | true =>
      exfalso
      have hk := (List.getElem?_eq_some_iff.1 ho').1
      rcases who k o' ho' hd with h1 | h1 | h1
      · exact hno k o' (Rl.lt h1) ho' hd
      · have := hc.done hk hbk h1
        rw [hb] at this; cases this
      · rw [h1, hb] at hbk; cases hbk
structure DrI (P : Program) (Γ : Sums) (all : List Oper) (D : Nat → Dat) (W : Nat → Prop) (ρ0 : Nat → Geo) (w0 : World) (N : Nat) (b : Nat → Bool) (C : List AO) (ρ : Nat → Geo) (L : Nat → Nat) (a : Act) (w : World) : Prop where
  aft : Aft W (D 0).s.ob ρ0 w0 C ρ w
  lt : ∀ x, x < nO D all.length → L x < C.length
  inj : ∀ x y, x < nO D all.length → y < nO D all.length → L x = L y → x = y
  ini : ∀ x, x < nO D 0 → L x = x
  obj : ∀ x, x < nO D all.length → ∃ o o', Ob all D b x o ∧ C[L x]? = some o' ∧ o.ren (fun x => some (L x)) = some o'
  slt : ∀ t v, Sl all D b t v → ∃ v', v.ren (fun x => some (L x)) = some v' ∧ VR (cx W C ρ w) v' (a.tmps.getD t undef)
  cl : Cl all b
  df : a.defers = []
  sz : a.tmps.size = N
def withB (b : Nat → Bool) (i : Nat) : Nat → Bool := fun j => b j || Nat.beq i j
theorem withB_t {i j : Nat} : withB b i j = true ↔ b j = true ∨ j = i := by
  unfold withB
  rw [Bool.or_eq_true]
  constructor
  · exact fun h => h.imp_right (fun h => (Nat.eq_of_beq_eq_true h).symm)
  · exact fun h => h.imp_right (fun h => by rw [h]; exact Nat.beq_refl i)
theorem Cl.with (hc : Cl all b) {i : Nat} {o : Oper} (ho : all[i]? = some o) (hn : ∀ j ∈ needs o, b j = true) : Cl all (withB b i) := by
  intro j p hp hj q hq
  rw [withB_t] at hj ⊢
  rcases hj with hj | rfl
  · exact .inl (hc j p hp hj q hq)
  · rw [ho] at hp
    obtain rfl := Option.some.inj hp
    exact .inl (hn q hq)
theorem Ob.with {i x : Nat} {o : AO} (h : Ob all D b x o) (hw : ¬ Wrt D i x) : Ob all D (withB b i) x o := by
  rcases h with ⟨k, hk, hb, h1, h2, h3⟩ | ⟨h1, h2⟩
  · refine .inl ⟨k, hk, withB_t.2 (.inl hb), h1, h2, fun k' g1 g2 g3 => ?_⟩
    rcases withB_t.1 g3 with g3 | rfl
    · exact h3 k' g1 g2 g3
    · exact hw
  · refine .inr ⟨fun k' g1 g2 => ?_, h2⟩
    rcases withB_t.1 g2 with g2 | rfl
    · exact h1 k' g1 g2
    · exact hw
theorem Sl.with (h : Txt P Γ all D) {i t : Nat} {o : Oper} {v : AV} (ho : all[i]? = some o) (hs : Sl all D (withB b i) t v) : (o.dst = some t ∧ v = (D i).v) ∨ (o.dst ≠ some t ∧ Sl all D b t v) := by
  rcases hs with ⟨k, p, hp, hd, hb, rfl⟩ | ⟨hno, hl⟩
  · by_cases hki : k = i
    · subst hki
      rw [ho] at hp
      obtain rfl := Option.some.inj hp
      exact .inl ⟨hd, rfl⟩
    · refine .inr ⟨fun e => hki (dsts_uniq h.parts.2.1 hp ho hd e), .inl ⟨k, p, hp, hd, ?_, rfl⟩⟩
      exact (withB_t.1 hb).elim id (fun e => absurd e hki)
  · refine .inr ⟨fun e => ?_, .inr ⟨fun k p hp hd => ?_, hl⟩⟩
    · have := hno i o ho e
      rw [withB_t.2 (.inr rfl)] at this; cases this
    · have := hno k p hp hd
      cases hb : b k with
      | false => rfl
      | true => rw [withB_t.2 (.inl hb)] at this; cases this
theorem put_other {a : Act} {d : Option Nat} {t : Nat} {u : Value} (h : d ≠ some t) : (a.put d u).tmps.getD t undef = a.tmps.getD t undef := by
  cases d with
  | none => rfl
  | some d =>
    have : ¬ d = t := fun e => h (by rw [e])
    simp only [Act.put, Array.getD_eq_getD_getElem?, Array.getElem?_setIfInBounds_ne this]
theorem newO_ren {g : Nat → Option Nat} {o o' : AO} (h : o.ren g = some o') : (newO o).ren g = some (newO o') := by
  unfold newO
  rw [(ren_own h).2]
  cases o.sure with
  | true => exact h
  | false => rfl
theorem part_of {W : Nat → Prop} {ρ0 : Nat → Geo} {w0 w : World} {N : Nat} {C M : List AO} {ρ : Nat → Geo} {L : Nat → Nat} {a : Act} (I : DrI P Γ all D W ρ0 w0 N b C ρ L a w) {n : Nat} (hn : n ≤ nO D all.length) (hM : M.length = n)
    (get : ∀ (j : Nat) (o1 : AO), M[j]? = some o1 → o1 = .gone ∨ ∃ o, (∀ id ∈ o.ids, id < n) ∧ Ob all D b j o ∧ (∀ q, Ob all D b j q → q = o) ∧ (o1 = o ∨ o1 = o.lent)) :
    ∃ f : Nat → Option Nat, (∀ x, x < n → f (L x) = some x) ∧ Prt C ρ M (fun j => ρ (L j)) ((List.range n).map L) f := by
  have at_ : ∀ j, ((List.range n).map L)[j]? = if j < n then some (L j) else none := by
    intro j
    by_cases h : j < n
    · simp [h]
    · simp [h]
  refine ⟨fun c => (List.range n).find? (fun x => Nat.beq (L x) c), ?_, ?_, ?_, ?_, ?_, ?_⟩
  · intro x hx
    show (List.range n).find? (fun y => Nat.beq (L y) (L x)) = some x
    cases hf : (List.range n).find? (fun y => Nat.beq (L y) (L x)) with
    | none =>
      have := List.find?_eq_none.1 hf x (List.mem_range.2 hx)
      rw [Nat.beq_refl] at this
      exact absurd rfl this
    | some y =>
      have h1 := Nat.eq_of_beq_eq_true (List.find?_some (p := fun z => Nat.beq (L z) (L x)) hf)
      have h2 := List.mem_range.1 (List.mem_of_find?_eq_some hf)
      rw [I.inj y x (by omega) (by omega) h1]
  · rw [List.Nodup, List.pairwise_map]
    refine List.Pairwise.imp_of_mem ?_ (List.nodup_range (n := n))
    intro x y hx hy hne e
    have hx := List.mem_range.1 hx
    have hy := List.mem_range.1 hy
    exact hne (I.inj x y (by omega) (by omega) e)
  · simp [hM]
  · intro j o1 hj
    have hjn : j < n := by rw [← hM]; exact (List.getElem?_eq_some_iff.1 hj).1
    obtain ⟨o, o', h1, h2, h3⟩ := I.obj j (by omega)
    refine ⟨L j, o', by rw [at_, if_pos hjn], h2, ?_⟩
    rcases get j o1 hj with rfl | ⟨p, k1, k2, k3, k4⟩
    · exact .inl rfl
    · have e := k3 o h1
      subst e
      have back : o'.ren (fun c => (List.range n).find? (fun x => Nat.beq (L x) c)) = some o := by
        refine oren_back h3 (fun x hx y hy => ?_)
        obtain rfl := Option.some.inj hy
        have hx := k1 x hx
        cases hf : (List.range n).find? (fun y => Nat.beq (L y) (L x)) with
        | none =>
          have := List.find?_eq_none.1 hf x (List.mem_range.2 hx)
          rw [Nat.beq_refl] at this
          exact absurd rfl this
        | some y =>
          have h1 := Nat.eq_of_beq_eq_true (List.find?_some (p := fun z => Nat.beq (L z) (L x)) hf)
          have h2 := List.mem_range.1 (List.mem_of_find?_eq_some hf)
          rw [I.inj y x (by omega) (by omega) h1]
      rcases k4 with rfl | rfl
      · exact .inr (.inl back)
      · exact .inr (.inr (oren_lent back))
  · intro j i hj
    rw [at_] at hj
    split at hj
    · obtain rfl := Option.some.inj hj; rfl
    · cases hj
  · intro i j hf
    have h1 := Nat.eq_of_beq_eq_true (List.find?_some (p := fun z => Nat.beq (L z) i) hf)
    have h2 := List.mem_range.1 (List.mem_of_find?_eq_some hf)
    rw [at_, if_pos h2, h1]
end
end Go.Mx
namespace Go.Mx
open Go Go.RowKit Go.Sx
variable [Glb]
section
variable {P : Program} {Γ : Sums} {all : List Oper} {D : Nat → Dat} {b : Nat → Bool}
variable {W : Nat → Prop} {ρ0 ρ : Nat → Geo} {w0 w : World} {N : Nat} {C : List AO} {L : Nat → Nat} {a : Act}
theorem DrI.skip (h : Txt P Γ all D) (I : DrI P Γ all D W ρ0 w0 N b C ρ L a w) {i : Nat} {o : Oper} (ho : all[i]? = some o) (hd : dstLt N o = true) (hn : ∀ j ∈ needs o, b j = true) (hN : Not all D i o) :
    DrI P Γ all D W ρ0 w0 N (withB b i) C ρ L (a.put o.dst undef) w := by
  refine ⟨I.aft, I.lt, I.inj, I.ini, fun x hx => ?_, fun t v hs => ?_, I.cl.with ho hn, by rw [put_df]; exact I.df, by rw [put_size]; exact I.sz⟩
  · obtain ⟨q, q', h1, h2⟩ := I.obj x hx
    exact ⟨q, q', h1.with (fun hw => by have := hw.1; rw [hN.ran] at this; cases this), h2⟩
  · rcases Sl.with h ho hs with ⟨e, rfl⟩ | ⟨hne, hs⟩
    · refine ⟨.undef, by rw [hN.v]; rfl, ?_⟩
      rw [e, tput_get (by rw [I.sz]; exact dstLt_ok hd t e), if_pos rfl]
      exact rfl
    · obtain ⟨v', h1, h2⟩ := I.slt t v hs
      exact ⟨v', h1, by rw [put_other hne]; exact h2⟩
theorem guard_reads {o : Oper} {d : Nat} (h : d ∈ guardT all o) : d ∈ reads all o := List.mem_append_left _ h
theorem DrI.does (hΓ : CallOk P Γ) (hG : PrimOk P Γ) (h : Txt P Γ all D) (I : DrI P Γ all D W ρ0 w0 N b C ρ L a w) {i : Nat} {o : Oper} {sl : Slots} (ho : all[i]? = some o) (hd : dstLt N o = true) (hb : b i = false) (hn : ∀ j ∈ needs o, b j = true) (hsl : ∀ t, lookA t sl = lookA t (D i).s.sl) (hR : Ran P Γ all D i o sl) :
    Does P o a w (fun u w' => ∃ C' ρ' L', DrI P Γ all D W ρ0 w0 N (withB b i) C' ρ' L' (a.put o.dst u) w') := by
  have hi := (List.getElem?_eq_some_iff.1 ho).1
  have hnN : nO D i ≤ nO D all.length := h.mono (Nat.le_of_lt hi) (Nat.le_refl _)
  have hn1 := h.n1 hi
  have hX : nO D (i + 1) = (D i).X.length := hn1.2.1 hR.ran
  have hnN1 : nO D (i + 1) ≤ nO D all.length := h.mono hi (Nat.le_refl _)
  -- what is found is as the text has it
  have find : ∀ (j : Nat) (q : AO), (j ∈ (D i).g.ts ∨ j ∈ (D i).g.ws) → j < nO D i → Ob all D b j q → (D i).s.ob[j]? = some q := fun j q hj hl hq => h.readO I.cl ho hb hn hR.ran hj hl hq
  obtain ⟨f, hf, prt⟩ := part_of I (n := nO D i) (M := maskO (D i).g.ts (D i).g.ws (D i).s.ob 0) hnN (maskO_len _ _) (fun j o1 hj => by
    obtain ⟨q, hq, hc⟩ := maskO_at _ _ _ _ hj
    rw [Nat.zero_add] at hc
    have hjl := (List.getElem?_eq_some_iff.1 hq).1
    have tell : (j ∈ (D i).g.ts ∨ j ∈ (D i).g.ws) → (o1 = q ∨ o1 = q.lent) → o1 = .gone ∨ ∃ o, (∀ id ∈ o.ids, id < nO D i) ∧ Ob all D b j o ∧ (∀ q, Ob all D b j q → q = o) ∧ (o1 = o ∨ o1 = o.lent) := by
      intro hm he
      obtain ⟨p, p', k1, _, _⟩ := I.obj j (Nat.lt_of_lt_of_le hjl hnN)
      have k2 := find j p hm hjl k1
      rw [hq] at k2
      obtain rfl := Option.some.inj k2
      exact .inr ⟨q, h.idsO (Nat.le_of_lt hi) hq, k1, fun q' hq' => by have := find j q' hm hjl hq'; rw [hq] at this; exact (Option.some.inj this).symm, he⟩
    rcases hc with ⟨h1, rfl⟩ | ⟨_, ⟨h1, rfl⟩ | h1⟩
    · exact tell (.inr (List.contains_iff_mem.1 h1)) (.inl rfl)
    · exact tell (.inl (List.contains_iff_mem.1 h1)) (.inr rfl)
    · exact .inl h1)
  have hLl : ((List.range (nO D i)).map L).length = nO D i := by simp
  have at_ : ∀ j, ((List.range (nO D i)).map L)[j]? = if j < nO D i then some (L j) else none := by
    intro j
    by_cases h : j < nO D i
    · simp [h]
    · simp [h]
  have hs : SlR (cx (Grd W C ρ (maskO (D i).g.ts (D i).g.ws (D i).s.ob 0) (fun j => ρ (L j))) (maskO (D i).g.ts (D i).g.ws (D i).s.ob 0) (fun j => ρ (L j)) w) (pickR (reads all o) sl) a := by
    intro t v hv
    obtain ⟨h1, h2⟩ := pickR_ok hv
    rw [hsl] at h2
    obtain ⟨v', h3, h4⟩ := I.slt t v (h.readS I.cl ho hb hn h1 h2)
    refine VR.ren (fun k => (prt.A k).1) rfl (prt.idx (W := W) (w := w)) (ren_back h3 (fun x hx y hy => ?_)) h4
    obtain rfl := Option.some.inj hy
    exact hf x (h.idsV (Nat.le_of_lt hi) h2 x hx)
  refine (opA_ok hΓ hG hR.op (prt.rel I.aft.rel) I.df hs).mono ?_
  rintro u w' ⟨v, X', ρ3, hk, A3, hv⟩
  obtain ⟨rfl, rfl⟩ : v = (D i).v ∧ X' = (D i).X := by
    have := Option.some.inj hk
    exact ⟨(Prod.mk.inj this).1, (Prod.mk.inj this).2⟩
  obtain ⟨S4, h4⟩ := renAll_all (g := fun j => bk C ((List.range (nO D i)).map L) j) (D i).X
  obtain ⟨q1, _⟩ := renAll_ok h4
  obtain ⟨B1, B2⟩ := back_part prt I.aft.rel A3 (D i).g.ws (fun j o1 hj hc => by
    obtain ⟨q, _, hc'⟩ := maskO_at _ _ _ _ hj
    rw [Nat.zero_add] at hc'
    rcases hc' with ⟨h1, _⟩ | ⟨_, ⟨_, rfl⟩ | rfl⟩
    · rw [hc] at h1; cases h1
    · exact lent_own q
    · rfl) (fun i j hj => (Option.some.inj hj).symm) h4
  have hlen4 : ((List.range (nO D i)).map L).length ≤ S4.length := by rw [hLl, q1, ← hX]; exact hn1.1
  have hlt : ∀ c ∈ (List.range (nO D i)).map L, c < C.length := fun c hc => by
    obtain ⟨x, hx, rfl⟩ := List.mem_map.1 hc
    have := List.mem_range.1 hx
    exact I.lt x (by omega)
  obtain ⟨K1, K2, K3⟩ := backObs_at (wr := (D i).g.ws) ((List.range (nO D i)).map L) 0 S4 C prt.nd hlen4 hlt
  have hCl := backObs_len (wr := (D i).g.ws) ((List.range (nO D i)).map L) 0 S4 C hlen4
  rw [hLl, q1, ← hX] at hCl
  -- where the text's things lie from here on
  have bkL : ∀ j, j < nO D (i + 1) → bk C ((List.range (nO D i)).map L) j = (if nO D i ≤ j ∧ j < nO D (i + 1) then C.length + (j - nO D i) else L j) := by
    intro j hj
    unfold bk
    rw [at_]
    by_cases h1 : j < nO D i
    · rw [if_pos h1, if_neg (by omega)]
    · rw [if_neg h1, if_pos (by omega), hLl]
  have same : ∀ {x : Nat}, ¬ (nO D i ≤ x ∧ x < nO D (i + 1)) → (if nO D i ≤ x ∧ x < nO D (i + 1) then C.length + (x - nO D i) else L x) = L x := fun h => if_neg h
  refine ⟨_, _, fun x => if nO D i ≤ x ∧ x < nO D (i + 1) then C.length + (x - nO D i) else L x, I.aft.trans B1, ?_, ?_, ?_, ?_, ?_, I.cl.with ho hn, by rw [put_df]; exact I.df, by rw [put_size]; exact I.sz⟩
  · intro x hx
    have := I.lt x hx
    split <;> omega
  · intro x y hx hy e
    have h1 := I.lt x hx
    have h2 := I.lt y hy
    by_cases hx' : nO D i ≤ x ∧ x < nO D (i + 1)
    · rw [if_pos hx'] at e
      by_cases hy' : nO D i ≤ y ∧ y < nO D (i + 1)
      · rw [if_pos hy'] at e; omega
      · rw [if_neg hy'] at e; omega
    · rw [if_neg hx'] at e
      by_cases hy' : nO D i ≤ y ∧ y < nO D (i + 1)
      · rw [if_pos hy'] at e; omega
      · rw [if_neg hy'] at e; exact I.inj x y hx hy e
  · intro x hx
    have := h.mono (Nat.zero_le i) (Nat.le_of_lt hi)
    rw [if_neg (by omega)]
    exact I.ini x hx
  · intro x hx
    by_cases hw : Wrt D i x
    · -- written, or made
      have hxl := h.wlt hi hw
      obtain ⟨p, hp⟩ : ∃ p, (D i).X[x]? = some p := ⟨_, List.getElem?_eq_getElem (by rw [← hX]; exact hxl)⟩
      obtain ⟨p4, g1, g2⟩ := renAll_get h4 x p hp
      have hob : (D (i + 1)).s.ob[x]? = some (newO p) := by rw [h.wrote hi hw, hp]; rfl
      have hus := h.usO hi hw hob
      have hren : (newO p).ren (fun x => some (if nO D i ≤ x ∧ x < nO D (i + 1) then C.length + (x - nO D i) else L x)) = some (newO p4) := by
        rw [← newO_ren g2]
        refine (oren_eq _ (fun y hy => ?_)).symm
        rw [bkL y (h.us_lt hi hR.ran (hus y hy))]
      refine ⟨newO p, newO p4, .inl ⟨i, hi, withB_t.2 (.inr rfl), hw, hob, fun k' k1 k2 k3 hw' => ?_⟩, ?_, hren⟩
      · have k3 := (withB_t.1 k3).elim id (fun e => by omega)
        rcases h.clashW k2 hi hw' hw (by omega) with k4 | k4
        · have := Rl.lt k4; omega
        · have := I.cl.done k2 k3 k4
          rw [hb] at this; cases this
      · by_cases hxn : x < nO D i
        · have hws : x ∈ (D i).g.ws := hw.2.elim id (fun e => by omega)
          rw [same (by omega)]
          obtain ⟨old, o4, e1, e2, e3⟩ := K1 x (L x) (by rw [at_, if_pos hxn]) (by rw [Nat.zero_add]; exact List.contains_iff_mem.2 hws)
          rw [g1] at e2
          obtain rfl := Option.some.inj e2
          rw [e3]
          obtain ⟨q, q', m1, m2, m3⟩ := I.obj x hx
          rw [m2] at e1
          obtain rfl := Option.some.inj e1
          have m4 := find x q (.inr hws) hxn m1
          obtain ⟨q2, m5, m6⟩ := hR.ws x hws
          rw [m4] at m5
          obtain rfl := Option.some.inj m5
          have hm : q'.mine = true := by rw [← own_mine, (ren_own m3).1, own_mine]; exact m6
          unfold backO newO
          rw [hm, cond_true]
        · rw [if_pos ⟨by omega, hxl⟩]
          have := K3 x (by rw [hLl]; omega)
          rw [hLl, g1] at this
          exact this
    · -- left as it was
      obtain ⟨q, q', m1, m2, m3⟩ := I.obj x hx
      have hnr : ¬ (nO D i ≤ x ∧ x < nO D (i + 1)) := fun e => hw ⟨hR.ran, .inr e⟩
      refine ⟨q, q', m1.with hw, ?_, ?_⟩
      · rw [same hnr, K2 (L x) (I.lt x hx) (fun j hj => ?_)]
        · exact m2
        · rw [at_] at hj
          split at hj
          · rename_i hjn
            have e := I.inj j x (by omega) hx (Option.some.inj hj)
            subst e
            rw [Nat.zero_add, Bool.eq_false_iff, ne_eq, List.contains_iff_mem]
            exact fun hm => hw ⟨hR.ran, .inl hm⟩
          · cases hj
      · rw [← m3]
        refine oren_eq _ (fun y hy => ?_)
        rw [same (h.crOff hi hb (h.obCr I.cl m1 y hy))]
  · intro t v hsv
    rcases Sl.with h ho hsv with ⟨e, rfl⟩ | ⟨hne, hsv⟩
    · obtain ⟨v', hv'⟩ := ren_all (g := fun j => bk C ((List.range (nO D i)).map L) j) (D i).v
      refine ⟨v', ?_, ?_⟩
      · rw [← hv']
        refine ren_eq _ (fun y hy => ?_)
        rw [bkL y (h.us_lt hi hR.ran (h.usV hi hR.ran y hy))]
      · rw [e, tput_get (by rw [I.sz]; exact dstLt_ok hd t e), if_pos rfl]
        exact B2 _ v' u hv' hv
    · obtain ⟨v', h1, h2⟩ := I.slt t v hsv
      refine ⟨v', ?_, by rw [put_other hne]; exact h2.up B1.le⟩
      rw [← h1]
      refine ren_eq _ (fun y hy => ?_)
      rw [same (h.crOff hi hb (h.slCr I.cl hsv y hy))]
end
end Go.Mx
