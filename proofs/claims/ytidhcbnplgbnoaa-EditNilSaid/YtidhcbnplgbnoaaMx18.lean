/- Own work. A part of the proof of a law of this seat: a part -/
import Derived.Test.YtidhcbnplgbnoaaMx17
/- Rows: made, appended to; text and bytes. -/
namespace Go.Mx
set_option linter.unusedVariables false
open Go Go.RowKit Go.Sx

section
variable {R : Type} {P : Program} {r : R}
theorem elK_ok {e : TypeId} {K : (t : T) → t.den → Option R} (h : elK P e K = some r) : ∃ t z i zv, K t z = some r ∧ P.info? e = some i ∧ i.zero = some zv ∧ i.size = t.kd.sz ∧ 0 < i.bytes ∧ 0 < t.kd.sz ∧ t.sz ≤ 1024 ∧ zv.cells.size = t.kd.sz ∧ (∀ A hp, t.kd.K A hp z zv.cells.toList) ∧ P.bytesOf e = i.bytes := by
  unfold elK at h
  split at h
  · rename_i v t hv ht
    split at h
    · rename_i z hz
      cases hc : zOk P e v && elOk P e t with
      | false => rw [hc] at h; cases h
      | true =>
        rw [hc, cond_true] at h
        rw [Bool.and_eq_true] at hc
        obtain ⟨h1, h2⟩ := hc
        unfold elOk at h2
        split at h2
        · rename_i i hi
          simp only [Bool.and_eq_true, decide_eq_true_eq, Nat.blt_eq] at h2
          obtain ⟨⟨⟨g1, g2⟩, g3⟩, g4⟩ := h2
          have g1 := Nat.eq_of_beq_eq_true g1
          have hK : ∀ A hp, ∃ zv, i.zero = some zv ∧ t.kd.K A hp z zv.cells.toList := by
            intro A hp
            obtain ⟨i', zv, k1, k2, k3⟩ := zOk_ok (x := ⟨A, hp, fun _ => ⟨none, 0, 0, 0⟩, 0⟩) h1
            rw [hi] at k1
            obtain rfl := Option.some.inj k1
            exact ⟨zv, k2, dec_ok t v _ hz k3⟩
          obtain ⟨zv, k1, k2⟩ := hK (fun _ => False) #[]
          have k3 : ∀ A hp, t.kd.K A hp z zv.cells.toList := by
            intro A hp
            obtain ⟨zv', m1, m2⟩ := hK A hp
            rw [k1] at m1
            obtain rfl := Option.some.inj m1
            exact m2
          refine ⟨t, z, i, zv, h, hi, k1, by rw [T.kd_sz]; exact g1, g2, by rw [T.kd_sz]; exact g3, g4, ?_, k3, ?_⟩
          · have := t.kd.len k2
            simpa using this
          · unfold Program.bytesOf
            rw [hi]
            rfl
        · cases h2
    · cases h
  · cases h
theorem elemOf_ok {T' e : TypeId} (h : elemOf P T' = some e) : P.underlying T' = some (.slice e) := by
  unfold elemOf at h
  split at h
  · rename_i hu; obtain rfl := Option.some.inj h; exact hu
  · cases h
end
section
variable {R : Type} {P : Program} {W : Nat → Prop} {S : List AO} {ρ : Nat → Geo} {w w' : World} {a : Act}
variable {d : Option Nat} {ty T' T2 : TypeId} {pos : String} {af : Array Edge} {g : Option (Nat × Bool)} {y z : Operand} {K : KV R} {r : R}
/-- A new row of one's own. -/
theorem Aft.row (h : Rel W S ρ w) {e : TypeId} {t : T} {xs : List t.den} {p : Option Addr} {c : Nat} (hf : Fr w w' No) (hn : ∀ q, p = some q → w.heap.size ≤ q.block) (ho : Ow (Av [p] (cx W S ρ w).A) w' e t.kd p c xs) :
    Aft W S ρ w (S ++ [.row e t xs .own]) (upd ρ S.length ⟨p, xs.length, c, t.sz⟩) w' := by
  refine Aft.push h hf (fun _ q hq => hn q hq) (fun _ => ⟨rfl, rfl, ho.mono ?_⟩)
  rintro k _ (hW | ⟨i, o, q, hi, hown, ha, rfl⟩)
  · exact .inl (.inl hW)
  · rcases push_get hi with ⟨hl, gi⟩ | ⟨rfl, rfl⟩
    · rw [upd_other _ _ (Nat.ne_of_lt hl)] at ha
      exact .inl (.inr ⟨i, o, q, gi, hown, ha, rfl⟩)
    · rw [upd_same] at ha
      exact .inr ⟨q, by simp [← ha], rfl⟩
theorem view_vr {S : List AO} {o : AO} {p : Option Addr} {n c s : Nat} : VR (cx W (S ++ [o]) (upd ρ S.length ⟨p, n, c, s⟩) w') (.view S.length) (.slice p n c) :=
  ⟨[.slice p n c], rfl, by rw [CR]; exact ⟨by show S.length < (S ++ [o]).length; simp, by show _ = [Value.slice (upd ρ S.length _ S.length).a _ _]; rw [upd_same]; show _ = [Value.slice p (upd ρ S.length ⟨p, n, c, s⟩ S.length).n (upd ρ S.length ⟨p, n, c, s⟩ S.length).c]; rw [upd_same]⟩, rfl⟩
theorem ex_new {as : List (Option Addr)} {p : Option Addr} (h : Ex w No (p :: as) w') : ∀ q, p = some q → w.heap.size ≤ q.block := fun q hq => (h.nw q (by simp [hq])).elim id (fun h => h.elim)
theorem make_ok {n : Int} {k k' : IntKind} (h : Rel W S ρ w) (hd : a.defers = []) (hy : a.eval y = .int k n) (hz : a.eval z = .int k' n) (hK : makeA P T' n S K = some r) : Comes P W S ρ w ⟨d, .makeSlice T' y z, ty, pos, af, g⟩ a K r := by
  unfold makeA at hK
  split at hK
  · rename_i e he
    obtain ⟨t, zx, i, zv, hK, h1, h2, h3, h4, h5, h6, h7, h8, h9⟩ := elK_ok hK
    obtain ⟨⟨hn, hl⟩, hK⟩ := ck_elim hK
    have ha := bnd_has (a := a) (Op1 y + Op1 z) hd
    rw [h9] at hl
    refine (d_make (B := (cx W S ρ w).A) (kd := t.kd) (zx := zx) (zv := zv) (bytes := i.bytes) ha (elemOf_ok he) (by rw [h1]; simp only [Option.map_some, h2, h3]) h4 h8 (by rw [bnd_ev (by omega), hy]) (by rw [bnd_ev (by omega), hz]) (Ex.refl w No) hn ?_).mono ?_
    · have hl : n.toNat * i.bytes ≤ 140737488355328 := hl
      have e : (n.toNat : Int) = n := Int.toNat_of_nonneg hn
      calc n * (i.bytes : Int) = ((n.toNat * i.bytes : Nat) : Int) := by rw [Int.natCast_mul, e]
        _ ≤ ((140737488355328 : Nat) : Int) := Int.ofNat_le.2 hl
    · rintro u w' ⟨p, c, e1, hs, hE, hf, ho⟩
      exact ⟨_, _, _, hK, Aft.row h hf (ex_new hE) ho, by rw [e1]; exact view_vr⟩
  · cases hK
theorem decs_ok {x : Cx} {t : T} : ∀ {vs : List AV} {xs : List t.den} {css : List (List Value)}, decs t vs = some xs → A2 (fun v cs => CR x v cs) vs css → Els (t.kd.K x.A x.h) xs css.flatten ∧ css.length = xs.length ∧ ∀ c ∈ css, c.length = t.sz
  | [], xs, css, h, hc => by
    obtain rfl := Option.some.inj h
    cases hc
    exact ⟨.nil, rfl, fun c hc => by cases hc⟩
  | v :: vs, xs, css, h, hc => by
    rw [decs] at h
    split at h
    · rename_i d hd
      split at h
      · rename_i l hl
        obtain rfl := Option.some.inj h
        cases hc with
        | cons h1 h2 =>
          have hk := dec_ok t v _ hd h1
          obtain ⟨g1, g2, g3⟩ := decs_ok hl h2
          refine ⟨.cons hk g1, by simp [g2], fun c hc => ?_⟩
          rcases List.mem_cons.1 hc with rfl | hc
          · exact kd_len hk
          · exact g3 c hc
      · cases h
    · cases h
theorem inRow_ok {x : Cx} : ∀ (i : Nat) (ps : List (Nat × Operand)) (vs : List (Nat × AV)), Parts x a ps vs → inRow i vs = true →
    ∃ (us : List Value) (css : List (List Value)), ps.map (fun p => (p.1, a.eval p.2)) = (us.zipIdx i).map (fun p => (p.2, p.1)) ∧ A2 (fun v cs => CR x v cs) (vs.map (·.2)) css ∧ us.flatMap (fun u => u.cells.toList) = css.flatten ∧ us.length = vs.length ∧ us.map (fun u => u.cells.size) = css.map (·.length)
  | i, [], vs, hp, h => by cases hp; exact ⟨[], [], rfl, .nil, rfl, rfl, rfl⟩
  | i, (j, o) :: ps, vs, hp, h => by
    cases hp with
    | cons h1 h2 =>
      rename_i q vs
      obtain ⟨j', v⟩ := q
      obtain ⟨rfl, hv⟩ := h1
      rw [inRow, Bool.and_eq_true, Bool.and_eq_true] at h
      obtain ⟨⟨k1, k2⟩, k3⟩ := h
      have k1 := Nat.eq_of_beq_eq_true k1
      subst k1
      obtain ⟨cs, hc, e⟩ := vr_cr hv k2
      obtain ⟨us, css, g1, g2, g3, g4, g5⟩ := inRow_ok (j' + 1) ps vs h2 k3
      have hf := cr_form hc
      have e : a.eval o = form v.isAgg cs := e
      refine ⟨a.eval o :: us, cs :: css, ?_, .cons hc g2, ?_, by simp [g4], ?_⟩
      · rw [List.map_cons, List.zipIdx_cons, List.map_cons, g1]
      · rw [List.flatMap_cons, List.flatten_cons, g3, e, hf]
      · rw [List.map_cons, List.map_cons, g5, e, hf]
        simp
theorem parts_ev {N : Nat} : ∀ {ps : List (Nat × Operand)} {us : List (Value × Nat)}, (∀ p ∈ ps, Op1 p.2 ≤ N) → ps.map (fun p => (p.1, a.eval p.2)) = us.map (fun p => (p.2, p.1)) → ps.map (fun p => (p.1, Sx.ev (bnd a N) p.2)) = us.map (fun p => (p.2, some p.1))
  | [], us, _, h => by
    cases us with
    | nil => rfl
    | cons _ _ => cases h
  | p :: ps, us, hN, h => by
    cases us with
    | nil => cases h
    | cons u us =>
      rw [List.map_cons, List.map_cons, List.cons.injEq] at h
      obtain ⟨h1, h2⟩ := h
      obtain ⟨e1, e2⟩ := Prod.mk.inj h1
      rw [List.map_cons, List.map_cons, parts_ev (fun q hq => hN q (by simp [hq])) h2, bnd_ev (hN p (by simp)), e1, e2]
theorem ops_top : ∀ (ps : List (Nat × Operand)), ∃ N, ∀ p ∈ ps, Op1 p.2 ≤ N
  | [] => ⟨0, fun p hp => by cases hp⟩
  | p :: ps => by
    obtain ⟨N, h⟩ := ops_top ps
    refine ⟨N + Op1 p.2, fun q hq => ?_⟩
    rcases List.mem_cons.1 hq with rfl | hq
    · omega
    · have := h q hq; omega
theorem parts_len {x : Cx} : ∀ {ps : List (Nat × Operand)} {vs : List (Nat × AV)}, Parts x a ps vs → ps.length = vs.length
  | _, _, .nil => rfl
  | _, _, .cons _ h => by simp [parts_len h]
theorem Aft.quiet {w' : World} (h : Rel W S ρ w) (hf : Fr w w' No) : Aft W S ρ w S ρ w' :=
  Aft.of (O1 := No) h hf (fun _ h => h.elim) (fun _ hk => .inl hk) (fun _ _ => rfl) (Nat.le_refl _) (fun _ i o hi => .inl ⟨hi, fun _ _ _ h => h.elim⟩) h.dj
theorem buildNone_ok {e : TypeId} {s : Nat} {t : T} (h : Rel W S ρ w) (hT : P.underlying T' = some (.slice e)) (hs : ∀ w, (sizeOf e).run P w = .ok s w) (hK : K (.cut t) S = some r) : Comes P W S ρ w ⟨d, .buildSlice T' 0 #[], ty, pos, af, g⟩ a K r := by
  refine (Does.val (v := .slice (some ⟨w.heap.size, 0, none⟩) 0 0) (w' := w.alloc (.cells ((Array.range 0).map fun _ => default) e)) ?_).mono ?_
  · simp [execOp, Instr.buildSlice, run_underlying hT, hs, Instr.fill, Go.newRow]
  · rintro u w' ⟨rfl, rfl⟩
    exact ⟨_, S, ρ, hK, Aft.quiet h (Fr.alloc _ _ _), ⟨[.slice (some ⟨w.heap.size, 0, none⟩) 0 0], rfl, by rw [CR]; exact ⟨_, rfl⟩, rfl⟩⟩
theorem buildSlice_ok {n : Nat} {ps : Array (Nat × Operand)} {vs : List (Nat × AV)} (h : Rel W S ρ w) (hd : a.defers = []) (hp : Parts (cx W S ρ w) a ps.toList vs) (hK : buildSliceA P T' n vs S K = some r) : Comes P W S ρ w ⟨d, .buildSlice T' n ps, ty, pos, af, g⟩ a K r := by
  unfold buildSliceA at hK
  split at hK
  · rename_i e he
    obtain ⟨t, zx, i, zv, hK, h1, h2, h3, h4, h5, h6, h7, h8, h9⟩ := elK_ok hK
    obtain ⟨h0, hK0⟩ | ⟨_, hK0⟩ := cond_elim hK
    · rw [Bool.and_eq_true] at h0
      have e1 := Nat.eq_of_beq_eq_true h0.1
      have e2 := Nat.eq_of_beq_eq_true h0.2
      have e3 : ps = #[] := by
        have := parts_len hp
        have : ps.toList = [] := List.length_eq_zero_iff.1 (by omega)
        simpa using this
      subst e1 e3
      exact buildNone_ok h (elemOf_ok he) (run_size (info_sz h1)) hK0
    replace hK := hK0
    cases hc : Nat.beq vs.length n && inRow 0 vs && decide (n ≤ 16384) with
    | false => rw [hc] at hK; cases hK
    | true =>
      rw [hc, cond_true] at hK
      simp only [Bool.and_eq_true, decide_eq_true_eq] at hc
      obtain ⟨⟨c1, c2⟩, c3⟩ := hc
      have c1 := Nat.eq_of_beq_eq_true c1
      obtain ⟨us, css, g1, g2, g3, g4, g5⟩ := inRow_ok 0 ps.toList vs hp c2
      cases hfz : frzL (vs.map (·.2)) S with
      | mk vs' S1 =>
        rw [hfz] at hK
        simp only at hK
        obtain ⟨A1, k1⟩ := frzL_ok _ h hfz g2
        split at hK
        · rename_i xs hxs
          obtain ⟨m1, m2, m3⟩ := decs_ok hxs k1
          obtain ⟨N, hN⟩ := ops_top ps.toList
          have ha := bnd_has (a := a) N hd
          have hlen : us.length = n := by omega
          have hcl : css.length = us.length := by have := congrArg List.length g5; simpa using this.symm
          have := d_buildSlice (d := d) (ty := ty) (pos := pos) (af := af) (g := g) (B := (cx W S1 ρ w).A) (as := []) (S0 := No) (w0 := w) (kd := t.kd) (xs := xs) (vs := us) (q := n) ha (elemOf_ok he) (fun w => by have := run_size (info_sz h1) w; rwa [h3] at this) (run_zero h1 h2)
            (parts_ev hN g1) (by rw [g3]; exact m1.imp (fun _ _ hk => t.kd.mono hk (fun k _ hv => by rcases hv with hv | ⟨q, hq, _⟩; exact hv; cases hq)))
            (fun v hv => by
              obtain ⟨j, hj⟩ := List.getElem?_of_mem hv
              have e1 : (us.map fun u => u.cells.size)[j]? = some v.cells.size := by rw [List.getElem?_map, hj]; rfl
              rw [g5, List.getElem?_map] at e1
              obtain ⟨c, hc, ec⟩ := Option.map_eq_some_iff.1 e1
              rw [← ec, T.kd_sz]
              exact m3 c (List.mem_of_getElem? hc))
            hlen (by omega) (by rw [T.kd_sz]; calc n * t.sz ≤ 16384 * 1024 := Nat.mul_le_mul c3 h6
              _ = 16777216 := rfl) (by omega) (Ex.refl w No)
          rw [Array.toArray_toList] at this
          refine this.mono ?_
          rintro u w' ⟨p, c, e1, hs, hE, hf, ho⟩
          exact ⟨_, _, _, hK, A1.trans (Aft.row A1.rel hf (ex_new hE) ho), by rw [e1]; exact view_vr⟩
        · cases hK
  · cases hK
end
end Go.Mx
