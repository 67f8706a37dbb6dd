/- Own work. A part of the proof of a law of this seat: the abstract machine and its soundness -/
import Derived.Test.YtfbgglpfakadhaaDoorMa
import Derived.Test.YtfbgglpfakadhaaDoorSb
/- Variables in memory: made, read, written. -/
namespace Go.Mx
open Go Go.RowKit Go.Sx
variable [Glb]
set_option linter.unusedSectionVars false

section
variable {x : Cx}
theorem eqV_ok {u v : Value} (h : eqV u v = true) : u = v := by
  unfold eqV at h
  split at h <;> simp_all [Nat.beq_eq]
theorem eqVL_ok : ∀ {l m : List Value}, eqVL l m = true → l = m
  | [], [], _ => rfl
  | a :: l, b :: m, h => by
    rw [eqVL, Bool.and_eq_true] at h
    rw [eqV_ok h.1, eqVL_ok h.2]
  | [], _ :: _, h => by cases h
  | _ :: _, [], h => by cases h
theorem encL_ok {α : Type} {e : α → Option (List Value)} {Q : α → List Value → Prop} (he : ∀ y l, e y = some l → Q y l) : ∀ {xs : List α} {cs : List Value}, encT.encL e xs = some cs → Els Q xs cs
  | [], cs, h => by obtain rfl := Option.some.inj h; exact .nil
  | y :: r, cs, h => by
    rw [encT.encL] at h
    split at h
    · rename_i l hl
      split at h
      · rename_i m hm
        obtain rfl := Option.some.inj h
        exact .cons (he y l hl) (encL_ok he hm)
      · cases h
    · cases h
theorem encT_ok {A : Nat → Prop} {hp : Array Obj} : ∀ (t : T) (d : t.den) (cs : List Value), encT t d = some cs → t.kd.K A hp d cs := by
  intro t
  induction t with
  | one t ih => exact ih
  | pair a b iha ihb =>
    intro d cs h
    rw [encT] at h
    split at h
    · rename_i l hl
      split at h
      · rename_i m hm
        obtain rfl := Option.some.inj h
        exact ⟨l, m, rfl, iha _ _ hl, ihb _ _ hm⟩
      · cases h
    · cases h
  | arr n t ih =>
    intro d cs h
    rw [encT] at h
    cases hn : Nat.beq d.length n with
    | false => rw [hn] at h; cases h
    | true =>
      rw [hn] at h
      exact ⟨Nat.eq_of_beq_eq_true hn, encL_ok ih h⟩
  | sl t _ =>
    intro d cs h
    cases d with
    | nil =>
      have h : some [Value.slice none 0 0] = some cs := h
      obtain rfl := Option.some.inj h
      exact ⟨none, 0, rfl, Raw.nil _ _ _ none 0 (Nat.zero_le _)⟩
    | cons _ _ => cases h
  | fn => intro d cs h; cases h
  | _ => intro d cs h; obtain rfl := Option.some.inj h; exact rfl
theorem encA_ok : ∀ (v : AV) (cs : List Value), encA v = some cs → CR x v cs := by
  intro v
  induction v using AV.rec (motive_2 := fun _ => True) with
  | dat t d => intro cs h; exact cr_dat.2 (encT_ok t d cs h)
  | pr a b ha hb =>
    intro cs h
    rw [encA] at h
    split at h
    · rename_i l hl
      split at h
      · rename_i m hm
        obtain rfl := Option.some.inj h
        rw [CR]
        exact ⟨l, m, rfl, ha l hl, hb m hm⟩
      · cases h
    · cases h
  | one a ha => intro cs h; exact cr_oneI.2 (ha cs h)
  | nilp => intro cs h; obtain rfl := Option.some.inj h; rw [CR]
  | nils => intro cs h; obtain rfl := Option.some.inj h; rw [CR]
  | nilm => intro cs h; obtain rfl := Option.some.inj h; rw [CR]
  | nilf => intro cs h; obtain rfl := Option.some.inj h; rw [CR]
  | nilI => intro cs h; obtain rfl := Option.some.inj h; rw [CR]
  | nil => trivial
  | cons _ _ _ _ => trivial
  | _ => intro cs h; cases h
/-! ### what a type tells -/
variable {P : Program} {R : Type} {r : R}
theorem zOk_ok {t : TypeId} {v : AV} (h : zOk P t v = true) : ∃ i z, P.info? t = some i ∧ i.zero = some z ∧ CR x v z.cells.toList := by
  unfold zOk at h
  split at h
  · rename_i i hi
    split at h
    · rename_i z cs hz he
      exact ⟨i, z, hi, hz, by rw [eqVL_ok h]; exact encA_ok v cs he⟩
    · cases h
  · cases h
theorem zerK_ok {t : TypeId} {K : AV → Option R} (h : zerK P t K = some r) : ∃ v i z, P.info? t = some i ∧ i.zero = some z ∧ CR x v z.cells.toList ∧ K v = some r := by
  unfold zerK at h
  split at h
  · rename_i v hv
    cases hz : zOk P t v with
    | false => rw [hz] at h; cases h
    | true =>
      rw [hz] at h
      obtain ⟨i, z, h1, h2, h3⟩ := zOk_ok (x := x) hz
      exact ⟨v, i, z, h1, h2, h3, h⟩
  · cases h
theorem run_zero {t : TypeId} {i : TypeInfo} {z : Value} (hi : P.info? t = some i) (hz : i.zero = some z) (w : World) : (zeroValue t).run P w = .ok z w := by
  simp [zeroValue, typeInfo, hi, hz]
theorem run_size {t : TypeId} {n : Nat} (h : szOk P t n = true) (w : World) : (sizeOf t).run P w = .ok n w := by
  unfold szOk at h
  split at h
  · rename_i i hi
    have := Nat.eq_of_beq_eq_true h
    subst this
    simp [sizeOf, typeInfo, hi]
  · cases h
theorem run_agg {t : TypeId} {b : Bool} (h : aggB P t = some b) (w : World) : (isAgg t).run P w = .ok b w := by
  unfold aggB at h
  cases hu : P.underlying t with
  | none => rw [hu] at h; cases h
  | some u =>
    rw [hu] at h
    simp only [isAgg, Sem.run_bind, run_underlying hu, Result.andThen_ok]
    cases u <;> (obtain rfl := Option.some.inj h; simp)
theorem loadOk_ok {t : TypeId} {u : AV} (h : loadOk P t u = true) : aggB P t = some u.isAgg ∧ (u.isAgg = true → szOk P t u.sz = true) := by
  unfold loadOk at h
  split at h
  · rename_i ha
    rw [Bool.and_eq_true] at h
    exact ⟨by rw [ha, h.1], fun _ => h.2⟩
  · rename_i ha
    have : u.isAgg = false := by simpa using h
    exact ⟨by rw [ha, this], fun h2 => by rw [this] at h2; cases h2⟩
  · cases h
end

section
variable {R : Type} {P : Program} {W : Nat → Prop} {S : List AO} {ρ : Nat → Geo} {w : World} {a : Act}
variable {d : Option Nat} {ty T' T2 : TypeId} {pos : String} {af : Array Edge} {g : Option (Nat × Bool)} {y z : Operand} {K : KV R} {r : R}
/-- A new variable. -/
theorem Aft.box (h : Rel W S ρ w) {w' : World} {b : Nat} {ty : TypeId} {v : AV} {cs : List Value} (hb : w.heap.size ≤ b) (hx : Bx w' b ty cs) (hf : Fr w w' No) (hc : CR (cx W S ρ w) v cs) :
    Aft W S ρ w (S ++ [.box ty v true]) (upd ρ S.length ⟨some ⟨b, 0, none⟩, 0, 1, 0⟩) w' :=
  Aft.push h hf (fun _ p hp => by obtain rfl := Option.some.inj hp; exact hb) (fun le => ⟨b, cs, rfl, hc.up le, cr_len hc, hx, fun h => by cases h⟩)
theorem box_vr {w' : World} {b : Nat} {o : AO} : VR (cx W (S ++ [o]) (upd ρ S.length ⟨some ⟨b, 0, none⟩, 0, 1, 0⟩) w') (.ptr S.length []) (.pointer (some ⟨b, 0, none⟩)) :=
  vr_ptrI (by show S.length < (S ++ [o]).length; simp) (by show (upd ρ S.length _ S.length).a = _; rw [upd_same])
theorem alloc_ok (h : Rel W S ρ w) (hK : zerK P T' (fun v => K (.ptr S.length []) (S ++ [.box T' v true])) = some r) : Comes P W S ρ w ⟨d, .alloc T', ty, pos, af, g⟩ a K r := by
  obtain ⟨v, i, z, h1, h2, h3, hK⟩ := zerK_ok (x := cx W S ρ w) hK
  refine (d_alloc (run_zero h1 h2) rfl).mono fun u w' ⟨b, hv, hb, hl, hx, hf⟩ => ⟨_, _, _, hK, Aft.box h hb hx hf h3, by rw [hv]; exact box_vr⟩
theorem box_ok {v : AV} (h : Rel W S ρ w) (hd : a.defers = []) (hy : VR (cx W S ρ w) v (a.eval y)) (hK : cond v.plain (K (.ptr S.length []) (S ++ [.box T' v true])) none = some r) : Comes P W S ρ w ⟨d, .box T' y, ty, pos, af, g⟩ a K r := by
  cases hp : v.plain with
  | false => rw [hp] at hK; cases hK
  | true =>
    rw [hp] at hK
    obtain ⟨cs, hc, e⟩ := vr_cr hy hp
    have ha := bnd_has (a := a) (Op1 y) hd
    refine (d_box ha (bnd_ev (Nat.le_refl _)) (cs := cs) (by rw [e]; exact cr_form hc)).mono fun u w' ⟨b, hv, hb, hl, hx, hf⟩ => ⟨_, _, _, hK, Aft.box h hb hx hf hc, by rw [hv]; exact box_vr⟩
theorem lies_at {b o : Nat} {cs : List Value} (h : Lies w.heap b o cs) : At w b o cs := by
  obtain ⟨C, T, fr, e, hc⟩ := h
  intro j v hj
  simp only [World.cell?, e]
  exact hc j v hj
theorem bx_lies {b : Nat} {ty : TypeId} {cs : List Value} (h : Bx w b ty cs) : Lies w.heap b 0 cs := ⟨_, _, _, h, fun j v hj => by rw [Nat.zero_add]; simpa using hj⟩
theorem lies_sub {hp : Array Obj} {b o m : Nat} {cs us : List Value} (h : Lies hp b o cs) (hs : ∀ j c, us[j]? = some c → cs[m + j]? = some c) : Lies hp b (o + m) us := by
  obtain ⟨C, T, fr, e, hc⟩ := h
  exact ⟨C, T, fr, e, fun j v hj => by have := hc _ _ (hs j v hj); rwa [← Nat.add_assoc] at this⟩
/-- What lies there is read. -/
theorem read_ok {u : AV} {us : List Value} {b o : Nat} (h : Rel W S ρ w) (hd : a.defers = []) (hy : a.eval y = .pointer (some ⟨b, o, none⟩)) (hl : Lies w.heap b o us) (hc : CR (cx W S ρ w) u us) (hK : cond (loadOk P T' u) (K u S) none = some r) :
    Comes P W S ρ w ⟨d, .load T' y, ty, pos, af, g⟩ a K r := by
  cases ho : loadOk P T' u with
  | false => rw [ho] at hK; cases hK
  | true =>
    rw [ho] at hK
    obtain ⟨h1, h2⟩ := loadOk_ok ho
    have ha := bnd_has (a := a) (Op1 y) hd
    have e1 : Sx.ev (bnd a (Op1 y)) y = some (.pointer (some ⟨b, o, none⟩)) := by rw [bnd_ev (Nat.le_refl _), hy]
    have hat := lies_at hl
    cases hg : u.isAgg with
    | true =>
      rw [hg] at h1
      refine Comes.is h (d_loadAgg ha e1 hat (run_agg h1) (run_size (h2 hg)) (cr_len hc)) hK ?_
      have := cr_vr hc
      rw [hg] at this
      exact this
    | false =>
      rw [hg] at h1
      have hl1 : us.length = 1 := by rw [cr_len hc]; exact agg_sz hc hg
      obtain ⟨c, rfl⟩ : ∃ c, us = [c] := List.length_eq_one_iff.1 hl1
      refine Comes.is h (d_load ha e1 (by have := hat 0 c rfl; rwa [Nat.add_zero] at this) (run_agg h1)) hK ?_
      have := cr_vr hc
      rw [hg] at this
      exact this
/-- the content of a row, as it lies -/
theorem row_lies {i : Nat} {e : TypeId} {t : T} {xs : List t.den} {m : Md} (h : Rel W S ρ w) (hi : S[i]? = some (.row e t xs m)) : (ρ i).n = xs.length ∧ (ρ i).s = t.sz ∧ xs.length ≤ (ρ i).c ∧ (ρ i).c ≤ maxLen ∧ ∃ cells, Els (t.kd.K (cx W S ρ w).A w.heap) xs cells ∧ (xs ≠ [] → ∃ b, (ρ i).a = some ⟨b, 0, none⟩ ∧ Lies w.heap b 0 cells) := by
  have r := h.ob i _ hi
  cases m with
  | own =>
    obtain ⟨h1, h2, h3⟩ := r
    refine ⟨h1, h2, ?_⟩
    · obtain ⟨cells, hr, he⟩ := h3
      rcases own_none hr with ⟨ha, hm, hcc⟩ | ⟨b, cur, ha, hg, hm, hcm, hs, ht⟩
      · have hx := List.length_eq_zero_iff.1 hm
        exact ⟨by rw [hm]; exact Nat.zero_le _, by rw [hcc]; exact Nat.zero_le _, cells, he, fun h => absurd hx h⟩
      · refine ⟨hm, hcm, cells, he, fun _ => ⟨b, ha, cur, e, (0, 0), hg, fun j v hj => ?_⟩⟩
        rw [Nat.zero_add]
        rw [← ht] at hj
        have hlt := (List.getElem?_eq_some_iff.1 hj).1
        rw [List.length_take] at hlt
        rw [List.getElem?_take, if_pos (by omega)] at hj
        simpa using hj
  | ro =>
    obtain ⟨h1, h2, h3, h4, cells, he, hl⟩ := r
    exact ⟨h1, h2, h3, h4, cells, he, fun hne => by obtain ⟨b, ha, _, hl⟩ := hl hne; exact ⟨b, ha, hl⟩⟩
  | fz =>
    obtain ⟨h1, h2, h3, h4, cells, he, hl⟩ := r
    exact ⟨h1, h2, h3, h4, cells, he, fun hne => by obtain ⟨b, ha, _, hl⟩ := hl hne; exact ⟨b, ha, hl⟩⟩
theorem load_ok {v : AV} (h : Rel W S ρ w) (hd : a.defers = []) (hy : VR (cx W S ρ w) v (a.eval y)) (hK : loadA P T' v S K = some r) : Comes P W S ρ w ⟨d, .load T' y, ty, pos, af, g⟩ a K r := by
  unfold loadA at hK
  split at hK
  · rename_i q p
    obtain ⟨hq, b, hb, e⟩ := vr_ptr hy
    split at hK
    · rename_i bt v m hi
      obtain ⟨b', cs, e1, hc, hl, hx, _⟩ := h.ob q _ hi
      have hbb : b' = b := by
        have hb : (ρ q).a = _ := hb
        rw [e1] at hb
        exact congrArg Addr.block (Option.some.inj hb)
      subst hbb
      obtain ⟨u, us, k1, k2, k3, k4⟩ := getK_ok p v cs hK hc hl
      refine read_ok h hd e ?_ k2 k1
      have := lies_sub (m := offs p) (bx_lies hx) k4
      rwa [Nat.zero_add] at this
    · rename_i e' t xs m hi
      obtain ⟨_, _, _, _, cells, he, hl⟩ := row_lies h hi
      split at hK
      · rename_i i s p
        cases hs : Nat.beq s t.sz with
        | false => rw [hs] at hK; cases hK
        | true =>
          rw [hs] at hK
          have hs := Nat.eq_of_beq_eq_true hs
          obtain ⟨x, hx, hK⟩ := bind_elim hK
          obtain ⟨hi', rfl⟩ := List.getElem?_eq_some_iff.1 hx
          obtain ⟨c, hKd, hg⟩ := he.get (fun _ _ h => kd_len h) i hi'
          obtain ⟨b', ha, hL⟩ := hl (by intro e; rw [e] at hi'; simp at hi')
          have hbb : b' = b := by
            have hb : (ρ q).a = _ := hb
            rw [ha] at hb
            exact congrArg Addr.block (Option.some.inj hb)
          subst hbb
          obtain ⟨u, us, k1, k2, k3, k4⟩ := getK_ok p _ c hK (cr_dat.2 hKd) (cr_len (cr_dat.2 hKd))
          refine read_ok h hd e ?_ k2 k1
          have := lies_sub (m := i * s + offs p) hL (us := us) (fun j v hj => by
            have := hg _ _ (k4 j v hj)
            rw [hs, Nat.add_assoc]
            exact this)
          rwa [Nat.zero_add] at this
      · cases hK
    · cases hK
  · rename_i e' d
    obtain ⟨b, o, c, e, _, hl, hK'⟩ := vr_rdp hy
    exact read_ok h hd e hl (cr_dat.2 hK') hK
  · cases hK
end
end Go.Mx

/- What is one's own is told as data: it is written no more. A slice's elements, written. -/
namespace Go.Mx
open Go Go.RowKit Go.Sx
variable [Glb]
set_option linter.unusedSectionVars false

section
variable {x : Cx}
theorem raw_sub {α : Type} {kd : Kd α} {a q : Option Addr} {c c' : Nat} {xs : List α} {o n : Nat} (r : RowR x x.A kd a c xs) (hn : o + n ≤ xs.length) (h1 : n ≤ c') (h2 : c' ≤ maxLen)
    (hq : n ≠ 0 → ∃ b, a = some ⟨b, 0, none⟩ ∧ q = some ⟨b, o * kd.sz, none⟩) : Raw x.A kd x.h q c' ((xs.drop o).take n) ∧ ((xs.drop o).take n).length = n := by
  have hl : ((xs.drop o).take n).length = n := by rw [List.length_take, List.length_drop]; omega
  refine ⟨?_, hl⟩
  obtain ⟨_, _, cells, he, hm⟩ := r
  refine ⟨by omega, h2, (cells.drop (o * kd.sz)).take (n * kd.sz), (he.drop (fun _ _ h => kd.len h) o).take (fun _ _ h => kd.len h) n, fun hne => ?_⟩
  have hn0 : n ≠ 0 := by intro e; subst e; rw [List.take_zero] at hne; exact hne rfl
  obtain ⟨b, ha, hb⟩ := hq hn0
  obtain ⟨b', ha', hA, C, T, fr, hg, hc⟩ := hm (by intro e; rw [e] at hl; simp at hl; omega)
  rw [ha] at ha'
  have := congrArg Addr.block (Option.some.inj ha')
  simp only at this
  subst this
  refine ⟨b, _, C, T, fr, hb, hA, hg, fun j v hj => ?_⟩
  have hlt := (List.getElem?_eq_some_iff.1 hj).1
  rw [List.length_take] at hlt
  rw [List.getElem?_take, if_pos (by omega), List.getElem?_drop] at hj
  have := hc _ _ hj
  rwa [Nat.zero_add] at this
end
section
variable {W : Nat → Prop} {S S' : List AO} {ρ : Nat → Geo} {w : World}
/-- One's own row is written no more. -/
theorem Aft.freeze (h : Rel W S ρ w) {i : Nat} {e : TypeId} {t : T} {xs : List t.den} (hi : S[i]? = some (.row e t xs .own)) : Aft W S ρ w (S.set i (.row e t xs .fz)) ρ w := by
  refine Aft.put h hi (Fr.refl _ _) (fun h => by cases h) (fun le => ?_)
  obtain ⟨h1, h2, h3, h4, cells, he, hl⟩ := row_lies h hi
  refine ⟨h1, h2, h3, h4, cells, he.imp (fun _ _ hK => le.K (x := cx W S ρ w) hK), fun hne => ?_⟩
  obtain ⟨b, ha, hL⟩ := hl hne
  refine ⟨b, ha, ?_, hL⟩
  rintro (hW | ⟨j, o, p, hj, ho, haj, hbj⟩)
  · exact h.wd b ⟨i, _, _, hi, rfl, ha, rfl⟩ hW
  · rcases set_get hj with ⟨hne', hj⟩ | ⟨_, rfl, _⟩
    · exact h.dj j i o _ p _ hne' hj hi ho rfl haj ha hbj
    · cases ho
/-- the data of a frozen row's piece -/
theorem fz_dat (h : Rel W S ρ w) {i : Nat} {e : TypeId} {t : T} {xs : List t.den} (hi : S[i]? = some (.row e t xs .fz)) {o n c' : Nat} {q : Option Addr} (hn : o + n ≤ (ρ i).n) (h1 : n ≤ c') (h2 : c' ≤ maxLen)
    (hq : n ≠ 0 → ∃ b, (ρ i).a = some ⟨b, 0, none⟩ ∧ q = some ⟨b, o * (ρ i).s, none⟩) : CR (cx W S ρ w) (.dat (.sl t) ((xs.drop o).take n)) [.slice q n c'] := by
  obtain ⟨g1, g2, r⟩ := h.ob i _ hi
  obtain ⟨k1, k2⟩ := raw_sub (x := cx W S ρ w) r (o := o) (n := n) (c' := c') (q := q) (by omega) h1 h2 (fun hn0 => by
    obtain ⟨b, e1, e2⟩ := hq hn0
    exact ⟨b, e1, by rw [e2, g2, T.kd_sz]⟩)
  refine (cr_dat (t := .sl t)).2 ⟨q, c', ?_, k1⟩
  show [Value.slice q n c'] = [Value.slice q ((xs.drop o).take n).length c']
  rw [k2]
theorem row_a (h : Rel W S ρ w) {i : Nat} {e : TypeId} {t : T} {xs : List t.den} {m : Md} (hi : S[i]? = some (.row e t xs m)) (hn : xs ≠ []) : ∃ b, (ρ i).a = some ⟨b, 0, none⟩ := by
  obtain ⟨_, _, _, _, _, _, hl⟩ := row_lies h hi
  obtain ⟨b, ha, _⟩ := hl hn
  exact ⟨b, ha⟩
theorem sl_all (h : Rel W S ρ w) {i : Nat} {e : TypeId} {t : T} {xs : List t.den} (hi : S[i]? = some (.row e t xs .fz)) {cs : List Value} (hc : CR (cx W S ρ w) (.view i) cs) : CR (cx W S ρ w) (.dat (.sl t) xs) cs := by
  rw [CR] at hc
  rw [hc.2]
  obtain ⟨g1, g2, g3, g4, _⟩ := row_lies h hi
  have := fz_dat h hi (o := 0) (n := xs.length) (c' := (ρ i).c) (q := (ρ i).a) (by omega) g3 g4 (fun hn => by
    obtain ⟨b, ha⟩ := row_a h hi (by intro e; rw [e] at hn; exact hn rfl)
    exact ⟨b, ha, by rw [Nat.zero_mul]; exact ha⟩)
  rw [List.drop_zero, List.take_length] at this
  show CR _ _ [.slice (ρ i).a (ρ i).n (ρ i).c]
  rw [g1]
  exact this
theorem sl_pre (h : Rel W S ρ w) {i n : Nat} {e : TypeId} {t : T} {xs : List t.den} (hi : S[i]? = some (.row e t xs .fz)) {cs : List Value} (hc : CR (cx W S ρ w) (.pre i n) cs) : CR (cx W S ρ w) (.dat (.sl t) (xs.take n)) cs := by
  rw [CR] at hc
  obtain ⟨_, hn, e⟩ := hc
  rw [e]
  obtain ⟨g1, g2, g3, g4, _⟩ := row_lies h hi
  have hn : n ≤ (ρ i).n := hn
  have := fz_dat h hi (o := 0) (n := n) (c' := (ρ i).c) (q := (ρ i).a) (by omega) (by omega) g4 (fun hn0 => by
    obtain ⟨b, ha⟩ := row_a h hi (by intro e; rw [e] at g1; simp at g1; omega)
    exact ⟨b, ha, by rw [Nat.zero_mul]; exact ha⟩)
  rw [List.drop_zero] at this
  exact this
theorem sl_tgt (h : Rel W S ρ w) {i n : Nat} {e : TypeId} {t : T} {xs : List t.den} (hi : S[i]? = some (.row e t xs .fz)) {cs : List Value} (hc : CR (cx W S ρ w) (.tgt i n) cs) : CR (cx W S ρ w) (.dat (.sl t) (xs.take n)) cs := by
  rw [CR] at hc
  obtain ⟨_, hn, e⟩ := hc
  rw [e]
  obtain ⟨g1, g2, g3, g4, _⟩ := row_lies h hi
  have hn : n ≤ (ρ i).n := hn
  have := fz_dat h hi (o := 0) (n := n) (c' := n) (q := (ρ i).a) (by omega) (Nat.le_refl _) (by omega) (fun hn0 => by
    obtain ⟨b, ha⟩ := row_a h hi (by intro e; rw [e] at g1; simp at g1; omega)
    exact ⟨b, ha, by rw [Nat.zero_mul]; exact ha⟩)
  rw [List.drop_zero] at this
  exact this
theorem sl_win (h : Rel W S ρ w) {i o n : Nat} {e : TypeId} {t : T} {xs : List t.den} (hi : S[i]? = some (.row e t xs .fz)) {cs : List Value} (hc : CR (cx W S ρ w) (.win i o n) cs) : CR (cx W S ρ w) (.dat (.sl t) ((xs.drop o).take n)) cs := by
  rw [CR] at hc
  obtain ⟨_, hn, q, c, h1, h2, h3, e⟩ := hc
  rw [e]
  exact fz_dat h hi hn h1 h2 h3
theorem frz_ok (h : Rel W S ρ w) {v v' : AV} {cs : List Value} (hf : frz S v = (v', S')) (hc : CR (cx W S ρ w) v cs) : Aft W S ρ w S' ρ w ∧ CR (cx W S' ρ w) v' cs ∧ ∀ j, j ∉ v.ids → S'[j]? = S[j]? := by
  have same : (v, S) = (v', S') → Aft W S ρ w S' ρ w ∧ CR (cx W S' ρ w) v' cs ∧ ∀ j, j ∉ v.ids → S'[j]? = S[j]? := by
    intro e
    obtain ⟨rfl, rfl⟩ := Prod.mk.inj e
    exact ⟨Aft.refl h, hc, fun _ _ => rfl⟩
  have turn : ∀ {i : Nat} {e : TypeId} {t : T} {xs : List t.den} {u : AV}, S[i]? = some (.row e t xs .own) → v.ids = [i] → (u, S.set i (.row e t xs .fz)) = (v', S') → (∀ S1, Rel W S1 ρ w → S1[i]? = some (.row e t xs .fz) → CR (cx W S1 ρ w) v cs → CR (cx W S1 ρ w) u cs) → Aft W S ρ w S' ρ w ∧ CR (cx W S' ρ w) v' cs ∧ ∀ j, j ∉ v.ids → S'[j]? = S[j]? := by
    intro i e t xs u hi hids he hu
    obtain ⟨rfl, rfl⟩ := Prod.mk.inj he
    have ht := Aft.freeze h hi
    refine ⟨ht, hu _ ht.rel (List.getElem?_set_self (List.getElem?_eq_some_iff.1 hi).1) (hc.up ht.le), fun j hj => ?_⟩
    rw [hids] at hj
    rw [List.getElem?_set_ne (fun e => hj (by simp [e]))]
  have told : ∀ {u : AV}, (u, S) = (v', S') → CR (cx W S ρ w) u cs → Aft W S ρ w S' ρ w ∧ CR (cx W S' ρ w) v' cs ∧ ∀ j, j ∉ v.ids → S'[j]? = S[j]? := by
    intro u he hu
    obtain ⟨rfl, rfl⟩ := Prod.mk.inj he
    exact ⟨Aft.refl h, hu, fun _ _ => rfl⟩
  unfold frz at hf
  split at hf
  · split at hf
    · rename_i hi; exact turn hi (by rw [AV.ids]) hf (fun S1 h1 h2 h3 => sl_all h1 h2 h3)
    · rename_i hi; exact told hf (sl_all h hi hc)
    · exact same hf
  · split at hf
    · rename_i hi; exact turn hi (by rw [AV.ids]) hf (fun S1 h1 h2 h3 => sl_pre h1 h2 h3)
    · rename_i hi; exact told hf (sl_pre h hi hc)
    · exact same hf
  · split at hf
    · rename_i hi; exact turn hi (by rw [AV.ids]) hf (fun S1 h1 h2 h3 => sl_tgt h1 h2 h3)
    · rename_i hi; exact told hf (sl_tgt h hi hc)
    · exact same hf
  · split at hf
    · rename_i hi; exact turn hi (by rw [AV.ids]) hf (fun S1 h1 h2 h3 => sl_win h1 h2 h3)
    · rename_i hi; exact told hf (sl_win h hi hc)
    · exact same hf
  · exact same hf
  · exact same hf
end
end Go.Mx

/- Stores. -/
namespace Go.Mx
open Go Go.RowKit Go.Sx
variable [Glb]
set_option linter.unusedSectionVars false

section
variable {W : Nat → Prop} {S S' : List AO} {ρ : Nat → Geo} {w : World}
theorem cr_mkpr' {x : Cx} {a b : AV} {cs : List Value} (h : CR x (.pr a b) cs) : CR x (frzP.mkpr' a b) cs := by
  unfold frzP.mkpr'
  split
  · exact h
  · exact cr_pr h
theorem frzP_ok : ∀ (v : AV) {S S' : List AO} {v' : AV} {cs : List Value}, Rel W S ρ w → frzP v S = (v', S') → CR (cx W S ρ w) v cs → Aft W S ρ w S' ρ w ∧ CR (cx W S' ρ w) v' cs ∧ ∀ j, j ∉ v.ids → S'[j]? = S[j]? := by
  intro v
  induction v using AV.rec (motive_2 := fun _ => True) with
  | pr a b iha ihb =>
    intro S S' v' cs h hf hc
    unfold frzP at hf
    obtain ⟨rfl, rfl⟩ := Prod.mk.inj hf
    rw [CR] at hc
    obtain ⟨c1, c2, e, h1, h2⟩ := hc
    obtain ⟨A1, k1, n1⟩ := iha h (S' := (frzP a S).2) rfl h1
    obtain ⟨A2, k2, n2⟩ := ihb A1.rel (S' := (frzP b (frzP a S).2).2) rfl (h2.up A1.le)
    refine ⟨A1.trans A2, cr_mkpr' (by rw [CR]; exact ⟨c1, c2, e, k1.up A2.le, k2⟩), fun j hj => ?_⟩
    rw [AV.ids, List.mem_append] at hj
    exact (n2 j (fun h => hj (.inr h))).trans (n1 j (fun h => hj (.inl h)))
  | one a iha =>
    intro S S' v' cs h hf hc
    unfold frzP at hf
    obtain ⟨rfl, rfl⟩ := Prod.mk.inj hf
    obtain ⟨A1, k1, n1⟩ := iha h (S' := (frzP a S).2) rfl (cr_oneI.1 hc)
    exact ⟨A1, cr_one k1, fun j hj => n1 j (by rw [AV.ids] at hj; exact hj)⟩
  | nil => trivial
  | cons _ _ _ _ => trivial
  | _ => intro S S' v' cs h hf hc; exact frz_ok h hf hc
theorem frz_agg : ∀ {u u' : AV} {S S1 : List AO}, frzP u S = (u', S1) → u.plain = true → u.isAgg = u'.isAgg := by
  intro u u' S S1 h hp
  have mk : ∀ a b : AV, (mkpr a b).isAgg = true := fun a b => by unfold mkpr; split <;> rfl
  have mk1 : ∀ a : AV, (mkone a).isAgg = true := fun a => by unfold mkone; split <;> rfl
  have leaf : frz S u = (u', S1) → u.isAgg = u'.isAgg := by
    intro h
    unfold frz at h
    split at h
    · split at h <;> (obtain ⟨rfl, _⟩ := Prod.mk.inj h; rfl)
    · split at h <;> (obtain ⟨rfl, _⟩ := Prod.mk.inj h; rfl)
    · split at h <;> (obtain ⟨rfl, _⟩ := Prod.mk.inj h; rfl)
    · split at h <;> (obtain ⟨rfl, _⟩ := Prod.mk.inj h; rfl)
    · obtain ⟨rfl, _⟩ := Prod.mk.inj h; rfl
    · obtain ⟨rfl, _⟩ := Prod.mk.inj h; rfl
  cases u with
  | pr a b =>
    unfold frzP at h
    obtain ⟨rfl, _⟩ := Prod.mk.inj h
    show true = _
    unfold frzP.mkpr'
    split
    · rfl
    · exact (mk _ _).symm
  | one a =>
    unfold frzP at h
    obtain ⟨rfl, _⟩ := Prod.mk.inj h
    exact (mk1 _).symm
  | _ => exact leaf h
theorem frzL_ok : ∀ (l : List AV) {S S' : List AO} {l' : List AV} {css : List (List Value)}, Rel W S ρ w → frzL l S = (l', S') → A2 (fun v cs => CR (cx W S ρ w) v cs) l css → Aft W S ρ w S' ρ w ∧ A2 (fun v cs => CR (cx W S' ρ w) v cs) l' css
  | [], S, S', l', css, h, hf, hc => by
    obtain ⟨rfl, rfl⟩ := Prod.mk.inj hf
    cases hc
    exact ⟨Aft.refl h, .nil⟩
  | v :: l, S, S', l', css, h, hf, hc => by
    unfold frzL at hf
    obtain ⟨rfl, rfl⟩ := Prod.mk.inj hf
    cases hc with
    | cons h1 h2 =>
      obtain ⟨A1, k1, _⟩ := frzP_ok v h (S' := (frzP v S).2) rfl h1
      have up : ∀ {l : List AV} {css : List (List Value)}, A2 (fun u cs => CR (cx W S ρ w) u cs) l css → A2 (fun u cs => CR (cx W (frzP v S).2 ρ w) u cs) l css := by
        intro l css hh
        induction hh with
        | nil => exact .nil
        | cons h1 _ ih => exact .cons (h1.up A1.le) ih
      obtain ⟨A2', k2⟩ := frzL_ok l A1.rel (S' := (frzL l (frzP v S).2).2) rfl (up h2)
      exact ⟨A1.trans A2', .cons (k1.up A2'.le) k2⟩
end

section
variable {R : Type} {P : Program} {W : Nat → Prop} {S : List AO} {ρ : Nat → Geo} {w : World} {a : Act}
variable {d : Option Nat} {ty T' T2 : TypeId} {pos : String} {af : Array Edge} {g : Option (Nat × Bool)} {y z : Operand} {K : KV R} {r : R}
theorem vr_undef {x : Cx} : VR x .undef undef := rfl
/-- The store itself: into a block that is known. -/
theorem store_at {b o : Nat} {TB : TypeId} {cs us : List Value} {v : AV} (hd : a.defers = []) (hy : a.eval y = .pointer (some ⟨b, o, none⟩)) (hb : Bx w b TB cs) {x : Cx} (hc : CR x v us) (hz : a.eval z = form v.isAgg us) (hs : szOk P T' v.sz = true) (ho : o + us.length ≤ cs.length) :
    Does P ⟨d, .store T' y z, ty, pos, af, g⟩ a w (fun u w' => u = undef ∧ Bx w' b TB (put cs o us) ∧ Fr w w' (fun k => k = b)) := by
  have ha := bnd_has (a := a) (Op1 y + Op1 z) hd
  have e1 : Sx.ev (bnd a (Op1 y + Op1 z)) y = some (.pointer (some ⟨b, o, none⟩)) := by rw [bnd_ev (by omega), hy]
  have e2 : Sx.ev (bnd a (Op1 y + Op1 z)) z = some (form v.isAgg us) := by rw [bnd_ev (by omega), hz]
  have hl := cr_len hc
  rw [← hl] at hs
  obtain ⟨w', h1, h2, h3⟩ := Sx.run_store (P := P) (T := T') (o := o) hb (cr_form hc) (cr_cell v hc) (run_size hs) rfl ho
  exact Does.unit (w' := w') (by simp [execOp, hy, hz, Instr.storeAt, Instr.sureAddr, h1]) |>.mono fun u w'' ⟨e1, e2⟩ => by subst e1; subst e2; exact ⟨rfl, h2, h3⟩
/-- one's own row's block, whole -/
theorem own_bx {A : Nat → Prop} {e : TypeId} {t : T} {p : Option Addr} {c : Nat} {xs : List t.den} (h : Ow A w e t.kd p c xs) (hne : xs ≠ []) : ∃ b cur, p = some ⟨b, 0, none⟩ ∧ Bx w b e cur ∧ xs.length ≤ c ∧ c ≤ maxLen ∧ cur.length = c * t.kd.sz ∧ Els (t.kd.K A w.heap) xs (cur.take (xs.length * t.kd.sz)) := by
  obtain ⟨cells, hr, he⟩ := h
  rcases own_none hr with ⟨_, hm, _⟩ | ⟨b, cur, ha, hg, hm, hcm, hs, ht⟩
  · exact absurd (List.length_eq_zero_iff.1 hm) hne
  · exact ⟨b, cur.toList, ha, by unfold Bx; rw [Array.toArray_toList]; exact hg, hm, hcm, by simpa using hs, by rw [ht]; exact he⟩
theorem bx_own {A : Nat → Prop} {e : TypeId} {t : T} {c : Nat} {xs : List t.den} {b : Nat} {cur : List Value} (hb : Bx w b e cur) (hm : xs.length ≤ c) (hcm : c ≤ maxLen) (hs : cur.length = c * t.kd.sz) (he : Els (t.kd.K A w.heap) xs (cur.take (xs.length * t.kd.sz))) : Ow A w e t.kd (some ⟨b, 0, none⟩) c xs :=
  ⟨_, ⟨he.length (fun _ _ h => t.kd.len h), .inr ⟨b, c, cur.toArray, rfl, Nat.zero_le _, hb, hm, hcm, by simpa using hs, by simp⟩⟩, he⟩
theorem store_ok {v u : AV} (h : Rel W S ρ w) (hd : a.defers = []) (hy : VR (cx W S ρ w) v (a.eval y)) (hz : VR (cx W S ρ w) u (a.eval z)) (hK : storeA P T' v u S K = some r) : Comes P W S ρ w ⟨d, .store T' y z, ty, pos, af, g⟩ a K r := by
  unfold storeA at hK
  split at hK
  · rename_i q p
    obtain ⟨hq, b, hb, e⟩ := vr_ptr hy
    split at hK
    · rename_i bt v0 hi
      obtain ⟨b', cs, e1, hc, hl, hx, _⟩ := h.ob q _ hi
      have hbb : b' = b := by
        have hb : (ρ q).a = _ := hb
        rw [e1] at hb
        exact congrArg Addr.block (Option.some.inj hb)
      subst hbb
      cases hs : szOk P T' u.sz && u.plain with
      | false => rw [hs] at hK; cases hK
      | true =>
        rw [hs] at hK
        rw [Bool.and_eq_true] at hs
        obtain ⟨us, hu, ez⟩ := vr_cr hz hs.2
        obtain ⟨y', k1, k2, k3⟩ := setK_ok p v0 cs u us hK hc hu
        refine (store_at hd e hx hu ez hs.1 k3).mono fun u' w' ⟨eu, hb', hf⟩ => ?_
        refine ⟨_, _, ρ, k1, Aft.put h hi (hf.mono fun k _ hk => ⟨rfl, _, e1, hk.symm⟩) (fun _ => rfl) (fun le => ⟨b', _, e1, k2.up le, cr_len k2, hb', fun h => by cases h⟩), by rw [eu]; exact vr_undef⟩
    · rename_i e' t xs hi
      split at hK
      · rename_i i s p
        cases hs : Nat.beq s t.sz && !u.ids.contains q with
        | false => rw [hs] at hK; cases hK
        | true =>
          rw [hs] at hK
          rw [Bool.and_eq_true] at hs
          have hsz := Nat.eq_of_beq_eq_true hs.1
          have hnq : q ∉ u.ids := by simpa using hs.2
          obtain ⟨x, hx, hK⟩ := bind_elim hK
          obtain ⟨hi', rfl⟩ := List.getElem?_eq_some_iff.1 hx
          have hne : xs ≠ [] := by intro e; rw [e] at hi'; simp at hi'
          cases hfz : frzP u S with
          | mk u' S1 =>
            rw [hfz] at hK
            have hK : cond (szOk P T' u'.sz && u'.plain) (setK (.dat t xs[i]) p u' fun y => match dec t y with
              | some z => K .undef (S1.set q (.row e' t (xs.set i z) .own))
              | none => none) none = some r := hK
            cases hs2 : szOk P T' u'.sz && u'.plain with
            | false => rw [hs2] at hK; cases hK
            | true =>
              rw [hs2] at hK
              rw [Bool.and_eq_true] at hs2
              have hup : u.plain = true := by
                cases u with
                | tup l => obtain ⟨rfl, _⟩ := Prod.mk.inj hfz; cases hs2.2
                | undef => obtain ⟨rfl, _⟩ := Prod.mk.inj hfz; cases hs2.2
                | _ => rfl
              obtain ⟨us, hu, ez⟩ := vr_cr hz hup
              obtain ⟨A1, hu', hn⟩ := frzP_ok u h hfz hu
              have hi1 : S1[q]? = some (.row e' t xs .own) := (hn q hnq).trans hi
              obtain ⟨g1, g2, g3⟩ := A1.rel.ob q _ hi1
              · obtain ⟨b', cur, ea, hbx, hm, hcm, hcs, he⟩ := own_bx g3 hne
                have hbb : b' = b := by
                  have hb : (ρ q).a = _ := hb
                  rw [ea] at hb
                  exact congrArg Addr.block (Option.some.inj hb)
                subst hbb
                obtain ⟨c, hKc, hg⟩ := he.get (fun _ _ h => kd_len h) i hi'
                obtain ⟨y', k1, k2, k3⟩ := setK_ok p _ c u' us hK (cr_dat.2 hKc) hu'
                split at k1
                · rename_i z' hz'
                  have hKz := dec_ok t y' _ hz' k2
                  have hcl : c.length = t.sz := kd_len hKc
                  have hlen : (cur.take (xs.length * t.kd.sz)).length = xs.length * t.sz := by rw [he.length (fun _ _ h => kd_len h)]
                  have hm2 : i * t.sz + t.sz ≤ xs.length * t.sz := by
                    calc i * t.sz + t.sz = (i + 1) * t.sz := by rw [Nat.add_mul, Nat.one_mul]
                      _ ≤ xs.length * t.sz := Nat.mul_le_mul_right _ hi'
                  have hcur : xs.length * t.sz ≤ cur.length := by rw [← hlen, List.length_take]; exact Nat.min_le_right _ _
                  have ez' : a.eval z = form u'.isAgg us := by
                    rw [ez]
                    have hsu : u.isAgg = u'.isAgg := frz_agg hfz hup
                    rw [hsu]
                  have ho : i * t.sz + offs p + us.length ≤ cur.length := by omega
                  have e2 : a.eval y = .pointer (some ⟨b', i * t.sz + offs p, none⟩) := by rw [e, ← hsz]; rfl
                  refine (store_at hd e2 hbx hu' ez' hs2.1 ho).mono fun u'' w' ⟨eu, hb', hf⟩ => ?_
                  refine ⟨_, _, ρ, k1, A1.trans (Aft.put A1.rel hi1 (hf.mono fun k _ hk => ⟨rfl, _, ea, hk.symm⟩) (fun _ => rfl) (fun le => ⟨by rw [List.length_set]; exact g1, g2, ?_⟩)), by rw [eu]; exact vr_undef⟩
                  rw [ea]
                  refine bx_own hb' (by rw [List.length_set]; exact hm) hcm (by rw [put_len ho]; exact hcs) ?_
                  rw [List.length_set]
                  have ht : (put cur (i * t.sz + offs p) us).take (xs.length * t.kd.sz) = put (cur.take (xs.length * t.kd.sz)) (i * t.sz + offs p) us := by
                    conv => lhs; rw [← List.take_append_drop (xs.length * t.kd.sz) cur]
                    rw [put_fst (by rw [hlen]; omega), List.take_append_of_le_length (by rw [put_len (by rw [hlen]; omega)]; rw [hlen, T.kd_sz]; exact Nat.le_refl _), List.take_of_length_le (by rw [put_len (by rw [hlen]; omega)]; rw [hlen, T.kd_sz]; exact Nat.le_refl _)]
                  rw [ht, put_mid hcl hg (by rw [hlen]; exact hm2) k3]
                  exact (he.set (fun _ _ h => kd_len h) i hi' hKz).imp (fun _ _ hK => le.K (x := cx W S1 ρ w) hK)
                · cases k1
      · cases hK
    · cases hK
  · cases hK
end
end Go.Mx

/- Addresses of parts; pieces of slices. -/
namespace Go.Mx
set_option linter.unusedVariables false
open Go Go.RowKit Go.Sx
variable [Glb]
set_option linter.unusedSectionVars false

section
variable {x : Cx}
theorem rdstep_ok : ∀ (p : List Step) (t : T) (d : t.den) {v : AV} {b o : Nat} {c : List Value}, rdstep (.rdp t d) p = some v → ¬ x.A b → Lies x.h b o c → t.kd.K x.A x.h d c → VR x v (.pointer (some ⟨b, o + offs p, none⟩)) := by
  intro p
  induction p with
  | nil =>
    intro t d v b o c h hA hl hK
    obtain rfl : AV.rdp t d = v := Option.some.inj h
    exact vr_rdpI hA hl hK
  | cons s p ih =>
    intro t d v b o c h hA hl hK
    unfold rdstep at h
    split at h
    · rename_i he; cases he
    · rename_i a b' z q he hv
      obtain ⟨rfl, rfl⟩ := List.cons.inj hv
      obtain ⟨rfl, hz⟩ := AV.rdp.inj he
      obtain rfl := eq_of_heq hz
      obtain ⟨c1, c2, e, h1, h2⟩ := hK
      exact ih _ _ h hA (by
        have := lies_sub (m := 0) hl (us := c1) (fun j u hj => by rw [e, Nat.zero_add, List.getElem?_append, if_pos (List.getElem?_eq_some_iff.1 hj).1]; exact hj)
        rwa [Nat.add_zero] at this) h1
    · rename_i a b' z k q he hv
      obtain ⟨rfl, rfl⟩ := List.cons.inj hv
      obtain ⟨rfl, hz⟩ := AV.rdp.inj he
      obtain rfl := eq_of_heq hz
      obtain ⟨c1, c2, e, h1, h2⟩ := hK
      cases hk : Nat.beq k a.sz with
      | false => rw [hk] at h; cases h
      | true =>
        rw [hk] at h
        have hk := Nat.eq_of_beq_eq_true hk
        have hl1 : c1.length = a.sz := kd_len h1
        have := ih _ _ h hA (lies_sub (m := k) hl (us := c2) (fun j u hj => by
          rw [e, List.getElem?_append, if_neg (by omega), show k + j - c1.length = j by omega]; exact hj)) h2
        rw [Nat.add_assoc] at this
        exact this
    · rename_i a z q he hv
      obtain ⟨rfl, rfl⟩ := List.cons.inj hv
      obtain ⟨rfl, hz⟩ := AV.rdp.inj he
      obtain rfl := eq_of_heq hz
      exact ih _ _ h hA hl hK
    · cases h
end
section
variable {R : Type} {P : Program} {W : Nat → Prop} {S : List AO} {ρ : Nat → Geo} {w : World} {a : Act}
variable {d : Option Nat} {ty T' T2 : TypeId} {pos : String} {af : Array Edge} {g : Option (Nat × Bool)} {y z : Operand} {K : KV R} {r : R}
theorem fldOk_ok {i : Nat} {st : List Step} (h : fldOk P T' i st = true) : ∃ fs f j, P.underlying T' = some (.struct fs) ∧ fs[i]? = some f ∧ offs st = f.offset ∧ P.info? f.type = some j ∧ ∃ s, j.size = s + 1 := by
  unfold fldOk at h
  split at h
  · rename_i fs hu
    split at h
    · rename_i f hf
      rw [Bool.and_eq_true] at h
      obtain ⟨h1, h2⟩ := h
      split at h2
      · rename_i j hj
        have h3 : 0 < j.size := by rwa [Nat.blt_eq] at h2
        exact ⟨fs, f, j, hu, hf, Nat.eq_of_beq_eq_true h1, hj, j.size - 1, by omega⟩
      · cases h2
    · cases h
  · cases h
theorem info_sz {e : TypeId} {j : TypeInfo} (h : P.info? e = some j) : szOk P e j.size = true := by
  unfold szOk
  rw [h]
  exact beq_self _
/-- &x.f, the address told -/
theorem field_at {i b o : Nat} {st : List Step} (hd : a.defers = []) (hy : a.eval y = .pointer (some ⟨b, o, none⟩)) (hf : fldOk P T' i st = true) : Does P ⟨d, .fieldAddr T' y i, ty, pos, af, g⟩ a w (Is (.pointer (some ⟨b, o + offs st, none⟩)) w) := by
  obtain ⟨fs, f, j, h1, h2, h3, h4, s, h5⟩ := fldOk_ok hf
  have ha := bnd_has (a := a) (Op1 y) hd
  have e1 : Sx.ev (bnd a (Op1 y)) y = some (.pointer (some ⟨b, o, none⟩)) := by rw [bnd_ev (Nat.le_refl _), hy]
  exact d_fieldAddr ha e1 h1 h2 (fun w => by have := run_size (info_sz h4) w; rwa [h5] at this) (by rw [h3])
theorem fieldAddr_ok {i : Nat} {v : AV} (h : Rel W S ρ w) (hd : a.defers = []) (hy : VR (cx W S ρ w) v (a.eval y)) (hK : (match some v, fldsteps P T' i with
    | some (.ptr q p), some st => cond (fldOk P T' i st) (K (.ptr q (p ++ st)) S) none
    | some (.rdp t x), some st => cond (fldOk P T' i st) (match rdstep (.rdp t x) st with | some v => K v S | none => none) none
    | _, _ => none) = some r) : Comes P W S ρ w ⟨d, .fieldAddr T' y i, ty, pos, af, g⟩ a K r := by
  split at hK
  · rename_i q p st hv hst
    obtain rfl := Option.some.inj hv
    cases hf : fldOk P T' i st with
    | false => rw [hf] at hK; cases hK
    | true =>
      rw [hf] at hK
      obtain ⟨hq, b, hb, e⟩ := vr_ptr hy
      exact Comes.is h (field_at hd e hf) hK (by rw [← offs_append]; exact vr_ptrI hq hb)
  · rename_i t x st hv hst
    obtain rfl := Option.some.inj hv
    cases hf : fldOk P T' i st with
    | false => rw [hf] at hK; cases hK
    | true =>
      rw [hf] at hK
      obtain ⟨b, o, c, e, hA, hl, hK'⟩ := vr_rdp hy
      cases hs : rdstep (.rdp t x) st with
      | none => rw [hs] at hK; cases hK
      | some u =>
        rw [hs] at hK
        exact Comes.is h (field_at hd e hf) hK (rdstep_ok st t x hs hA hl hK')
  · cases hK
theorem nilCheck_ok {v : AV} (h : Rel W S ρ w) (hd : a.defers = []) (hy : VR (cx W S ρ w) v (a.eval y)) (hK : (match some v with
    | some (.ptr i p) => K (.ptr i p) S
    | some (.rdp t x) => K (.rdp t x) S
    | _ => none) = some r) : Comes P W S ρ w ⟨d, .nilCheck y, ty, pos, af, g⟩ a K r := by
  have ha := bnd_has (a := a) (Op1 y) hd
  split at hK
  · rename_i hv
    obtain rfl := Option.some.inj hv
    obtain ⟨hq, b, hb, e⟩ := vr_ptr hy
    rw [e] at hy
    exact Comes.is h (d_nilCheck ha (by rw [bnd_ev (Nat.le_refl _), e])) hK hy
  · rename_i hv
    obtain rfl := Option.some.inj hv
    obtain ⟨b, o, c, e, _⟩ := vr_rdp hy
    rw [e] at hy
    exact Comes.is h (d_nilCheck ha (by rw [bnd_ev (Nat.le_refl _), e])) hK hy
  · cases hK
theorem vrs_get {x : Cx} : ∀ {l : List AV} {m : List Value} {i : Nat} {v : AV}, VRs x l m → l[i]? = some v → ∃ u, m[i]? = some u ∧ VR x v u
  | [], _, _, _, _, h => by simp at h
  | a :: l, m, i, v, hr, h => by
    rw [VRs] at hr
    obtain ⟨c, l', e, h1, h2, h3⟩ := hr
    cases i with
    | zero =>
      obtain rfl : a = v := Option.some.inj h
      exact ⟨_, by rw [e]; rfl, cr_vr h1⟩
    | succ i =>
      obtain ⟨u, k1, k2⟩ := vrs_get h3 (i := i) h
      exact ⟨u, by rw [e]; exact k1, k2⟩
theorem extract_ok {i : Nat} {v : AV} (h : Rel W S ρ w) (hd : a.defers = []) (hy : VR (cx W S ρ w) v (a.eval y)) (hK : (match some v with
    | some (.tup l) => (match l[i]? with | some v => K v S | none => none)
    | _ => none) = some r) : Comes P W S ρ w ⟨d, .extract y i, ty, pos, af, g⟩ a K r := by
  split at hK
  · rename_i l hv
    obtain rfl := Option.some.inj hv
    obtain ⟨m, e, hm⟩ := vr_tup hy
    split at hK
    · rename_i v hl
      obtain ⟨u, h1, h2⟩ := vrs_get hm hl
      have ha := bnd_has (a := a) (Op1 y) hd
      exact Comes.is h (d_extract ha (by rw [bnd_ev (Nat.le_refl _), e]) h1) hK h2
    · cases hK
  · cases hK

/-! ### slices -/
/-- a slice, and what is read there -/
theorem slOk_ok {t : T} (h : slOk P T' t = true) : ∃ e, P.underlying T' = some (.slice e) ∧ szOk P e t.sz = true := by
  unfold slOk at h
  split at h
  · rename_i e he; exact ⟨e, he, h⟩
  · cases h
theorem index_at {e : TypeId} {b o n c s : Nat} {k : IntKind} {i : Int} (hy : a.eval y = .slice (some ⟨b, o, none⟩) n c) (hz : a.eval z = .int k i) (hT : P.underlying T' = some (.slice e)) (hs : szOk P e s = true) (h0 : 0 ≤ i ∧ i < (n : Int)) :
    Does P ⟨d, .indexAddr T' y z, ty, pos, af, g⟩ a w (Is (.pointer (some ⟨b, o + i.toNat * s, none⟩)) w) :=
  Does.val (by simp [execOp, hy, hz, Instr.indexAt, asIntOf, run_underlying hT, h0, run_size hs, add_at])
theorem index_arr {e : TypeId} {b o n s : Nat} {k : IntKind} {i : Int} (hy : a.eval y = .pointer (some ⟨b, o, none⟩)) (hz : a.eval z = .int k i) (hT : P.underlying T' = some (.array n e)) (hs : szOk P e s = true) (h0 : 0 ≤ i ∧ i < (n : Int)) :
    Does P ⟨d, .indexAddr T' y z, ty, pos, af, g⟩ a w (Is (.pointer (some ⟨b, o + i.toNat * s, none⟩)) w) :=
  Does.val (by simp [execOp, hy, hz, Instr.indexAt, Instr.sureAddr, asIntOf, run_underlying hT, h0, run_size hs, add_at])
theorem raw_el {x : Cx} {t : T} {q : Option Addr} {c : Nat} {xs : List t.den} (r : Raw x.A t.kd x.h q c xs) {i : Nat} (hi : i < xs.length) : ∃ b o cs, q = some ⟨b, o, none⟩ ∧ ¬ x.A b ∧ Lies x.h b (o + i * t.sz) cs ∧ t.kd.K x.A x.h xs[i] cs := by
  obtain ⟨_, _, cells, he, hm⟩ := r
  obtain ⟨b, o, C, T, fr, ha, hA, hb, hc⟩ := hm (by intro e; rw [e] at hi; simp at hi)
  obtain ⟨cs, hK, hg⟩ := he.get (fun _ _ h => kd_len h) i hi
  exact ⟨b, o, cs, ha, hA, ⟨C, T, fr, hb, fun j v hj => by have := hc _ _ (hg j v hj); rwa [← Nat.add_assoc] at this⟩, hK⟩
theorem row_ptr (h : Rel W S ρ w) {q : Nat} {e : TypeId} {t : T} {xs : List t.den} {m : Md} (hi : S[q]? = some (.row e t xs m)) {n o : Nat} {p : Option Addr} (hn : o + n ≤ (ρ q).n) (hp : n ≠ 0 → ∃ b, (ρ q).a = some ⟨b, 0, none⟩ ∧ p = some ⟨b, o * (ρ q).s, none⟩) {c : Nat} {k : IntKind} {i : Int}
    (hy : a.eval y = .slice p n c) (hz : a.eval z = .int k i) (hk : slOk P T' t = true) (hq : q < S.length) (h0 : 0 ≤ i ∧ i < (n : Int)) (hK : K (.ptr q [.idx (o + i.toNat) t.sz]) S = some r) : Comes P W S ρ w ⟨d, .indexAddr T' y z, ty, pos, af, g⟩ a K r := by
  obtain ⟨e', h1, h2⟩ := slOk_ok hk
  obtain ⟨b, ha, hp⟩ := hp (by omega)
  rw [hp] at hy
  refine Comes.is h (index_at hy hz h1 h2 h0) hK ?_
  have hs : (ρ q).s = t.sz := (row_lies h hi).2.1
  have e3 : o * (ρ q).s + i.toNat * t.sz = offs [.idx (o + i.toNat) t.sz] := by
    rw [hs]
    show _ = (o + i.toNat) * t.sz + 0
    rw [Nat.add_zero, Nat.add_mul]
  rw [e3]
  exact vr_ptrI hq ha
theorem indexAddr_ok {v : AV} {k : IntKind} {i : Int} (h : Rel W S ρ w) (hd : a.defers = []) (hy : VR (cx W S ρ w) v (a.eval y)) (hz : a.eval z = .int k i) (hK : indexAddrA P T' v i S K = some r) : Comes P W S ρ w ⟨d, .indexAddr T' y z, ty, pos, af, g⟩ a K r := by
  unfold indexAddrA at hK
  split at hK
  · rename_i t xs
    cases hk : slOk P T' t with
    | false => rw [hk] at hK; cases hK
    | true =>
      rw [hk] at hK
      obtain ⟨h0, hK⟩ := ck_elim hK
      obtain ⟨z', hz', hK⟩ := bind_elim hK
      obtain ⟨hi, rfl⟩ := List.getElem?_eq_some_iff.1 hz'
      obtain ⟨cs, hr, e⟩ := vr_dat hy
      obtain ⟨q, c, e2, hr⟩ : ∃ q c, cs = [.slice q xs.length c] ∧ Raw (cx W S ρ w).A t.kd (cx W S ρ w).h q c xs := hr
      obtain ⟨b, o, cs', hq, hA, hl, hK'⟩ := raw_el hr hi
      rw [e2, hq] at e
      obtain ⟨e', h1, h2⟩ := slOk_ok hk
      exact Comes.is h (index_at e hz h1 h2 ⟨h0, by omega⟩) hK (vr_rdpI hA hl hK')
  · rename_i q
    obtain ⟨c, e, hc, _⟩ := hy
    rw [CR] at hc
    split at hK
    · rename_i e' t xs m hi
      cases hk : slOk P T' t with
      | false => rw [hk] at hK; cases hK
      | true =>
        rw [hk] at hK
        obtain ⟨h0, hK⟩ := ck_elim hK
        obtain ⟨g1, g2, g3, _⟩ := row_lies h hi
        rw [hc.2] at e
        refine row_ptr h hi (o := 0) (n := xs.length) (p := (ρ q).a) (by omega) (fun hn => ?_) (by rw [← g1]; exact e) hz hk hc.1 h0 (by rw [Nat.zero_add]; exact hK)
        obtain ⟨b, ha⟩ := row_a h hi (by intro e; rw [e] at hn; exact hn rfl)
        exact ⟨b, ha, by rw [Nat.zero_mul]; exact ha⟩
    · cases hK
  · rename_i q n
    obtain ⟨c, e, hc, _⟩ := hy
    rw [CR] at hc
    split at hK
    · rename_i e' t xs m hi
      cases hk : slOk P T' t with
      | false => rw [hk] at hK; cases hK
      | true =>
        rw [hk] at hK
        obtain ⟨h0, hK⟩ := ck_elim hK
        obtain ⟨g1, g2, g3, _⟩ := row_lies h hi
        obtain ⟨c1, c2, c3⟩ := hc
        rw [c3] at e
        have c2 : n ≤ (ρ q).n := c2
        refine row_ptr h hi (o := 0) (n := n) (p := (ρ q).a) (by omega) (fun hn => ?_) e hz hk c1 h0 (by rw [Nat.zero_add]; exact hK)
        obtain ⟨b, ha⟩ := row_a h hi (by intro e; rw [e] at g1; simp at g1; omega)
        exact ⟨b, ha, by rw [Nat.zero_mul]; exact ha⟩
    · cases hK
  · rename_i q n
    obtain ⟨c, e, hc, _⟩ := hy
    rw [CR] at hc
    split at hK
    · rename_i e' t xs m hi
      cases hk : slOk P T' t with
      | false => rw [hk] at hK; cases hK
      | true =>
        rw [hk] at hK
        obtain ⟨h0, hK⟩ := ck_elim hK
        obtain ⟨g1, g2, g3, _⟩ := row_lies h hi
        obtain ⟨c1, c2, c3⟩ := hc
        rw [c3] at e
        have c2 : n ≤ (ρ q).n := c2
        refine row_ptr h hi (o := 0) (n := n) (p := (ρ q).a) (by omega) (fun hn => ?_) e hz hk c1 h0 (by rw [Nat.zero_add]; exact hK)
        obtain ⟨b, ha⟩ := row_a h hi (by intro e; rw [e] at g1; simp at g1; omega)
        exact ⟨b, ha, by rw [Nat.zero_mul]; exact ha⟩
    · cases hK
  · rename_i q o n
    obtain ⟨c, e, hc, _⟩ := hy
    rw [CR] at hc
    split at hK
    · rename_i e' t xs m hi
      cases hk : slOk P T' t with
      | false => rw [hk] at hK; cases hK
      | true =>
        rw [hk] at hK
        obtain ⟨h0, hK⟩ := ck_elim hK
        obtain ⟨c1, c2, p, c', c3, c4, c5, c6⟩ := hc
        rw [c6] at e
        exact row_ptr h hi c2 c5 e hz hk c1 h0 hK
    · cases hK
  · rename_i q p
    obtain ⟨hq, b, hb, e⟩ := vr_ptr hy
    split at hK
    · rename_i n e' hu
      split at hK
      · rename_i j hj
        obtain ⟨h0, hK⟩ := ck_elim hK
        refine Comes.is h (index_arr e hz hu (info_sz hj) h0) hK ?_
        have : offs p + i.toNat * j.size = offs (p ++ [.idx i.toNat j.size]) := by rw [offs_append]; rfl
        rw [this]
        exact vr_ptrI hq hb
      · cases hK
    · cases hK
  · rename_i m t xs
    obtain ⟨b, o, c, e, hA, hl, hK'⟩ := vr_rdp hy
    split at hK
    · rename_i n e' hu
      cases hk : szOk P e' t.sz with
      | false => rw [hk] at hK; cases hK
      | true =>
        rw [hk] at hK
        obtain ⟨h0, hK⟩ := ck_elim hK
        obtain ⟨z', hz', hK⟩ := bind_elim hK
        obtain ⟨hi, rfl⟩ := List.getElem?_eq_some_iff.1 hz'
        have hK' : xs.length = m ∧ Els (t.kd.K (cx W S ρ w).A (cx W S ρ w).h) xs c := hK'
        obtain ⟨cs, hKc, hg⟩ := hK'.2.get (fun _ _ h => kd_len h) i.toNat hi
        exact Comes.is h (index_arr e hz hu hk h0) hK (vr_rdpI hA (lies_sub hl hg) hKc)
    · cases hK
  · cases hK
end
end Go.Mx

/- Pieces of slices; elements of values; lengths. -/
namespace Go.Mx
open Go Go.RowKit Go.Sx
variable [Glb]
set_option linter.unusedSectionVars false

section
variable {R : Type} {P : Program} {W : Nat → Prop} {S : List AO} {ρ : Nat → Geo} {w : World} {a : Act}
variable {d : Option Nat} {ty T' T2 : TypeId} {pos : String} {af : Array Edge} {g : Option (Nat × Bool)} {y z : Operand} {K : KV R} {r : R}
/-- what an operand that may be there comes to -/
def Opt (a : Act) (o : Option Operand) (i : Option Int) : Prop := match o, i with
  | none, none => True
  | some x, some i => ∃ k, a.eval x = .int k i
  | _, _ => False
theorem optI_ok {s : Slots} {o : Option Operand} {i : Option Int} (hg : GlR (cx W S ρ w)) (hs : SlR (cx W S ρ w) s a) (h : optI s o = some i) : Opt a o i := by
  unfold optI at h
  split at h
  · obtain rfl := Option.some.inj h; trivial
  · split at h
    · rename_i hv
      obtain rfl := Option.some.inj h
      exact ⟨_, vr_int (ev_ok hg hs hv)⟩
    · cases h
theorem opt_some {o : Option Operand} {i : Int} (h : Opt a o (some i)) : ∃ x k, o = some x ∧ a.eval x = .int k i := by
  cases o with
  | none => exact h.elim
  | some x => obtain ⟨k, e⟩ := h; exact ⟨x, k, rfl, e⟩
theorem opt_none {o : Option Operand} (h : Opt a o none) : o = none := by
  cases o with
  | none => rfl
  | some x => exact h.elim
theorem bounds_ok {lo hi mx : Option Operand} {l h m : Option Int} {n c : Nat} {Q : Nat → Nat → Option R} (hl : Opt a lo l) (hh : Opt a hi h) (hm : Opt a mx m) (hc : n ≤ c) (hK : sliceB l h m n Q = some r) :
    ∃ L H M, (Instr.sliceBounds true n c (lo.map a.eval) (hi.map a.eval) (mx.map a.eval)).run P w = .ok (L, H, M) w ∧ L ≤ H ∧ H ≤ n ∧ H ≤ M ∧ M ≤ c ∧ Q L H = some r ∧
      (l = none → L = 0) ∧ (∀ i, l = some i → L = i.toNat) ∧ (h = none → H = n) ∧ (∀ i, h = some i → H = i.toNat) ∧ (m = none → M = c) ∧ (∀ i, m = some i → M = i.toNat) ∧ (∀ i, h = some i → 0 ≤ i) ∧ (∀ i, m = some i → 0 ≤ i) := by
  unfold sliceB at hK
  match l, h, m, hl, hh, hm, hK with
  | some l, some h, none, hl, hh, hm, hK =>
    obtain ⟨lo, k1, rfl, e1⟩ := opt_some hl
    obtain ⟨hi, k2, rfl, e2⟩ := opt_some hh
    obtain rfl := opt_none hm
    obtain ⟨⟨h0, h1, h2⟩, hK⟩ := ck_elim hK
    have ej : (h.toNat : Int) = h := Int.toNat_of_nonneg (by omega)
    refine ⟨l.toNat, h.toNat, c, ?_, by omega, by omega, by omega, by omega, hK, nofun, fun i hi => by cases hi; rfl, nofun, fun i hi => by cases hi; rfl, fun _ => rfl, nofun, fun i hi => by cases hi; omega, nofun⟩
    simp [e1, e2, Instr.sliceBounds, run_sliceBound, ej, h0, h1, (by omega : 0 ≤ h), (by omega : h ≤ c)]
  | some l, some h, some m, hl, hh, hm, hK =>
    obtain ⟨lo, k1, rfl, e1⟩ := opt_some hl
    obtain ⟨hi, k2, rfl, e2⟩ := opt_some hh
    obtain ⟨mx, k3, rfl, e3⟩ := opt_some hm
    obtain ⟨⟨h0, h1, h2, h3⟩, hK⟩ := ck_elim hK
    have ej : (h.toNat : Int) = h := Int.toNat_of_nonneg (by omega)
    have em : (m.toNat : Int) = m := Int.toNat_of_nonneg (by omega)
    refine ⟨l.toNat, h.toNat, m.toNat, ?_, by omega, by omega, by omega, by omega, hK, nofun, fun i hi => by cases hi; rfl, nofun, fun i hi => by cases hi; rfl, nofun, fun i hi => by cases hi; rfl, fun i hi => by cases hi; omega, fun i hi => by cases hi; omega⟩
    simp [e1, e2, e3, Instr.sliceBounds, run_sliceBound, ej, em, h0, h1, h2, (by omega : 0 ≤ h), (by omega : 0 ≤ m), (by omega : m ≤ c)]
  | some l, none, none, hl, hh, hm, hK =>
    obtain ⟨lo, k1, rfl, e1⟩ := opt_some hl
    obtain rfl := opt_none hh
    obtain rfl := opt_none hm
    obtain ⟨⟨h0, h1⟩, hK⟩ := ck_elim hK
    refine ⟨l.toNat, n, c, ?_, by omega, Nat.le_refl _, hc, Nat.le_refl _, hK, nofun, fun i hi => by cases hi; rfl, fun _ => rfl, nofun, fun _ => rfl, nofun, nofun, nofun⟩
    simp [e1, Instr.sliceBounds, run_sliceBound, h0, h1]
  | none, some h, none, hl, hh, hm, hK =>
    obtain rfl := opt_none hl
    obtain ⟨hi, k2, rfl, e2⟩ := opt_some hh
    obtain rfl := opt_none hm
    obtain ⟨⟨h0, h1⟩, hK⟩ := ck_elim hK
    refine ⟨0, h.toNat, c, ?_, Nat.zero_le _, by omega, by omega, Nat.le_refl _, hK, fun _ => rfl, nofun, nofun, fun i hi => by cases hi; rfl, fun _ => rfl, nofun, fun i hi => by cases hi; omega, nofun⟩
    simp [e2, Instr.sliceBounds, run_sliceBound, h0, (by omega : h ≤ c)]
  | none, some h, some m, hl, hh, hm, hK =>
    obtain rfl := opt_none hl
    obtain ⟨hi, k2, rfl, e2⟩ := opt_some hh
    obtain ⟨mx, k3, rfl, e3⟩ := opt_some hm
    obtain ⟨⟨h0, h1, h2⟩, hK⟩ := ck_elim hK
    have em : (m.toNat : Int) = m := Int.toNat_of_nonneg (by omega)
    refine ⟨0, h.toNat, m.toNat, ?_, Nat.zero_le _, by omega, by omega, by omega, hK, fun _ => rfl, nofun, nofun, fun i hi => by cases hi; rfl, nofun, fun i hi => by cases hi; rfl, fun i hi => by cases hi; omega, fun i hi => by cases hi; omega⟩
    simp [e2, e3, Instr.sliceBounds, run_sliceBound, em, h0, h1, (by omega : 0 ≤ m), (by omega : m ≤ c)]
  | none, none, none, hl, hh, hm, hK =>
    obtain rfl := opt_none hl
    obtain rfl := opt_none hh
    obtain rfl := opt_none hm
    refine ⟨0, n, c, ?_, Nat.zero_le _, Nat.le_refl _, hc, Nat.le_refl _, hK, fun _ => rfl, nofun, fun _ => rfl, nofun, fun _ => rfl, nofun, nofun, nofun⟩
    simp [Instr.sliceBounds]
  | none, none, some _, _, _, _, hK => cases hK
  | some _, none, some _, _, _, _, hK => cases hK
/-- what a piece is -/
def piece (p : Option Addr) (L H M s : Nat) : Value := .slice (if M = L then p else p.map (·.add (L * s))) (H - L) (M - L)
theorem slice_at {e : TypeId} {p : Option Addr} {n c s L H M : Nat} {lo hi mx : Option Operand} (hy : a.eval y = .slice p n c) (hT : P.underlying T' = some (.slice e)) (hs : szOk P e s = true) (hb : (Instr.sliceBounds true n c (lo.map a.eval) (hi.map a.eval) (mx.map a.eval)).run P w = .ok (L, H, M) w) :
    Does P ⟨d, .slice T' y lo hi mx, ty, pos, af, g⟩ a w (Is (piece p L H M s) w) :=
  Does.val (by simp [execOp, hy, Instr.sliceAt, Instr.slice, run_underlying hT, hb, run_size hs, piece])
/-- a piece of a row: a window -/
theorem win_ok {i o n : Nat} {p : Option Addr} {c L H M : Nat} {t : T} {e : TypeId} {xs : List t.den} {m : Md} (h : Rel W S ρ w) (hi : S[i]? = some (.row e t xs m)) (hil : i < S.length) (hn : o + n ≤ (ρ i).n) (hp : n ≠ 0 → ∃ b, (ρ i).a = some ⟨b, 0, none⟩ ∧ p = some ⟨b, o * (ρ i).s, none⟩) (hc : c ≤ maxLen)
    (h1 : L ≤ H) (h2 : H ≤ n) (h3 : H ≤ M) (h4 : M ≤ c) : VR (cx W S ρ w) (.win i (o + L) (H - L)) (piece p L H M t.sz) := by
  refine ⟨[piece p L H M t.sz], rfl, ?_, rfl⟩
  rw [CR]
  refine ⟨hil, by show o + L + (H - L) ≤ (ρ i).n; omega, _, _, by omega, by omega, fun h0 => ?_, rfl⟩
  obtain ⟨b, e1, e2⟩ := hp (by omega)
  refine ⟨b, e1, ?_⟩
  rw [if_neg (by omega), e2]
  have hs : (ρ i).s = t.sz := (row_lies h hi).2.1
  show some (Addr.add ⟨b, o * (ρ i).s, none⟩ (L * t.sz)) = some ⟨b, (o + L) * (ρ i).s, none⟩
  rw [add_at, hs, Nat.add_mul]
theorem piece0 {p : Option Addr} {H M s : Nat} : piece p 0 H M s = .slice p H M := by
  have : (p.map fun q => q.add (0 * s)) = p := by
    cases p with
    | none => rfl
    | some q => rw [Nat.zero_mul]; rfl
  unfold piece
  rw [this]
  simp
theorem slice_ok {v : AV} {lo hi mx : Option Operand} {l h' m : Option Int} (h : Rel W S ρ w) (hd : a.defers = []) (hy : VR (cx W S ρ w) v (a.eval y)) (hl : Opt a lo l) (hh : Opt a hi h') (hm : Opt a mx m) (hK : sliceA P T' v l h' m S K = some r) : Comes P W S ρ w ⟨d, .slice T' y lo hi mx, ty, pos, af, g⟩ a K r := by
  unfold sliceA at hK
  split at hK
  · rename_i s
    have ey := vr_str hy
    split at hK
    · rename_i hT
      split at hK
      · obtain ⟨lo, k1, rfl, e1⟩ := opt_some hl
        obtain ⟨hi, k2, rfl, e2⟩ := opt_some hh
        obtain rfl := opt_none hm
        have ha := bnd_has (a := a) (Op1 y + Op1 lo + Op1 hi) hd
        obtain ⟨h0, hK⟩ := ck_elim hK
        exact Comes.is h (d_substr_lh ha hT (by rw [bnd_ev (by omega), ey]) (by rw [bnd_ev (by omega), e1]) (by rw [bnd_ev (by omega), e2]) h0) hK (vr_strI _)
      · obtain ⟨lo, k1, rfl, e1⟩ := opt_some hl
        obtain rfl := opt_none hh
        obtain rfl := opt_none hm
        have ha := bnd_has (a := a) (Op1 y + Op1 lo) hd
        obtain ⟨h0, hK⟩ := ck_elim hK
        exact Comes.is h (d_substr_l ha hT (by rw [bnd_ev (by omega), ey]) (by rw [bnd_ev (by omega), e1]) h0) hK (vr_strI _)
      · obtain rfl := opt_none hl
        obtain ⟨hi, k2, rfl, e2⟩ := opt_some hh
        obtain rfl := opt_none hm
        have ha := bnd_has (a := a) (Op1 y + Op1 hi) hd
        obtain ⟨h0, hK⟩ := ck_elim hK
        exact Comes.is h (d_substr_h ha hT (by rw [bnd_ev (by omega), ey]) (by rw [bnd_ev (by omega), e2]) h0) hK (vr_strI _)
      · cases hK
    · cases hK
  · have ey := vr_nils hy
    split at hK
    · rename_i e he
      split at hK
      · rename_i j hj
        have hT : P.underlying T' = some (.slice e) := by
          unfold elemOf at he
          split at he
          · rename_i hu; obtain rfl := Option.some.inj he; exact hu
          · cases he
        have fin3 : ∀ {m' : Option Int} {q : Option Int}, Opt a hi q → Opt a mx m' → lo = none → sliceB none q m' 0 (fun _ _ => K .nils S) = some r → Comes P W S ρ w ⟨d, .slice T' y lo hi mx, ty, pos, af, g⟩ a K r := by
          rintro m' q hq hm' rfl hb
          obtain ⟨L, H, M, hb, c1, c2, c3, c4, hK, c5, _⟩ := bounds_ok (P := P) (w := w) (lo := none) (hi := hi) (mx := mx) (l := none) (h := q) (m := m') (n := 0) (c := 0) trivial hq hm' (Nat.le_refl _) hb
          refine Comes.is h (slice_at ey hT (info_sz hj) hb) hK ?_
          have : piece none L H M j.size = .slice none 0 0 := by
            obtain rfl := c5 rfl
            rw [piece0, show H = 0 by omega, show M = 0 by omega]
          rw [this]
          exact ⟨[.slice none 0 0], rfl, by rw [CR], rfl⟩
        have fin : ∀ {hi' : Option Operand} {q : Option Int}, Opt a hi' q → sliceB none q none 0 (fun _ _ => K .nils S) = some r → (lo = none ∧ hi = hi' ∧ mx = none) → Comes P W S ρ w ⟨d, .slice T' y lo hi mx, ty, pos, af, g⟩ a K r := by
          rintro hi' q hq hb ⟨rfl, rfl, rfl⟩
          obtain ⟨L, H, M, hb, c1, c2, c3, c4, hK, c5, _⟩ := bounds_ok (P := P) (w := w) (lo := none) (hi := hi) (mx := none) (l := none) (h := q) (m := none) (n := 0) (c := 0) trivial hq trivial (Nat.le_refl _) hb
          refine Comes.is h (slice_at ey hT (info_sz hj) hb) hK ?_
          have : piece none L H M j.size = .slice none 0 0 := by
            obtain rfl := c5 rfl
            rw [piece0, show H = 0 by omega, show M = 0 by omega]
          rw [this]
          exact ⟨[.slice none 0 0], rfl, by rw [CR], rfl⟩
        split at hK
        · obtain rfl := opt_none hl
          obtain rfl := opt_none hm
          obtain ⟨h0, hK⟩ := ck_elim hK
          exact fin hh (by show ck _ _ = some r; rw [ck_pos (by omega)]; exact hK) ⟨rfl, rfl, rfl⟩
        · obtain rfl := opt_none hl
          obtain ⟨⟨h0, h0'⟩, hK⟩ := ck_elim hK
          exact fin3 hh hm rfl (by show ck _ _ = some r; rw [ck_pos (by omega)]; exact hK)
        · obtain rfl := opt_none hl
          obtain rfl := opt_none hh
          obtain rfl := opt_none hm
          exact fin (hi' := none) (q := none) trivial hK ⟨rfl, rfl, rfl⟩
        · cases hK
      · cases hK
    · cases hK
  · rename_i t xs
    cases hk : slOk P T' t with
    | false => rw [hk] at hK; cases hK
    | true =>
      rw [hk, cond_true] at hK
      obtain ⟨cs, hr, e⟩ := vr_dat hy
      obtain ⟨q, c, e2, hr⟩ : ∃ q c, cs = [.slice q xs.length c] ∧ Raw (cx W S ρ w).A t.kd (cx W S ρ w).h q c xs := hr
      rw [e2] at e
      obtain ⟨e', h1, h2⟩ := slOk_ok hk
      obtain ⟨L, H, M, hb, c1, c2, c3, c4, hK, c5, c6, c7, c8, c9, c10, _⟩ := bounds_ok (P := P) (w := w) hl hh hm hr.1 hK
      cases hnr : noRoom H m with
      | true =>
        rw [hnr, cond_true] at hK
        refine Comes.is h (slice_at e h1 h2 hb) hK ?_
        unfold noRoom at hnr
        cases m with
        | some m0 =>
          simp only at hnr
          rw [Bool.and_eq_true, decide_eq_true_iff] at hnr
          have hH := Nat.eq_of_beq_eq_true hnr.1
          have hM := c10 m0 rfl
          have hM : M = 0 := by rw [hM, hnr.2]; rfl
          subst hH hM
          have hL : L = 0 := by omega
          subst hL
          rw [piece0]
          exact ⟨[.slice q 0 0], rfl, by rw [CR]; exact ⟨q, rfl⟩, rfl⟩
        | none => cases hnr
      | false =>
      rw [hnr, cond_false] at hK
      refine Comes.is h (slice_at e h1 h2 hb) hK ?_
      have hcut : cutA l h' xs = (xs.take H).drop L := by
        unfold cutA
        match l, h', c5, c6, c7, c8 with
        | none, none, c5, _, c7, _ => rw [c5 rfl, c7 rfl, List.take_length]; rfl
        | some l, none, _, c6, c7, _ => rw [c6 l rfl, c7 rfl, List.take_length]
        | none, some h', c5, _, _, c8 => rw [c5 rfl, c8 h' rfl]; rfl
        | some l, some h', _, c6, _, c8 => rw [c6 l rfl, c8 h' rfl]
      rw [hcut]
      have hcr := hr.cut L H M c1 c2 c3 c4
      have hlen := cut_len (xs := xs) H L c2
      refine ⟨[piece q L H M t.sz], rfl, (cr_dat (t := .sl t)).2 ⟨_, _, ?_, hcr⟩, rfl⟩
      rw [hlen, T.kd_sz]
      rfl
  · rename_i i
    obtain ⟨cs, e, hc, _⟩ := hy
    rw [CR] at hc
    split at hK
    · rename_i e' t xs m' hi
      cases hk : slOk P T' t with
      | false => rw [hk] at hK; cases hK
      | true =>
        rw [hk, cond_true] at hK
        obtain ⟨g1, g2, g3, g4, _⟩ := row_lies h hi
        rw [hc.2] at e
        have e : a.eval y = .slice (ρ i).a xs.length (ρ i).c := by rw [← g1]; exact e
        obtain ⟨e1, h1, h2⟩ := slOk_ok hk
        obtain ⟨L, H, M, hb, c1, c2, c3, c4, hK, c5, c6, c7, c8, c9, c10, c11, c12⟩ := bounds_ok (P := P) (w := w) hl hh hm g3 hK
        have hp : xs.length ≠ 0 → ∃ b, (ρ i).a = some ⟨b, 0, none⟩ ∧ (ρ i).a = some ⟨b, 0 * (ρ i).s, none⟩ := fun hn => by
          obtain ⟨b, ha⟩ := row_a h hi (by intro e; rw [e] at hn; exact hn rfl)
          exact ⟨b, ha, by rw [Nat.zero_mul]; exact ha⟩
        have hw := win_ok h hi hc.1 (o := 0) (n := xs.length) (p := (ρ i).a) (by omega) hp g4 c1 c2 c3 c4
        rw [Nat.zero_add] at hw
        split at hK
        · refine Comes.is h (slice_at e h1 h2 hb) hK ?_
          obtain rfl := c5 rfl
          obtain rfl := c7 rfl
          obtain rfl := c9 rfl
          rw [piece0, ← g1]
          exact ⟨_, rfl, by rw [CR]; exact ⟨hc.1, rfl⟩, rfl⟩
        · refine Comes.is h (slice_at e h1 h2 hb) hK ?_
          obtain rfl := c5 rfl
          obtain rfl := c9 rfl
          rw [piece0]
          exact ⟨[.slice (ρ i).a H (ρ i).c], rfl, by rw [CR]; exact ⟨hc.1, by show H ≤ (ρ i).n; omega, rfl⟩, rfl⟩
        · obtain ⟨hhm, hK⟩ := ck_elim hK
          refine Comes.is h (slice_at e h1 h2 hb) hK ?_
          obtain rfl := c5 rfl
          have k1 := c8 _ rfl
          have k2 := c10 _ rfl
          obtain rfl : H = M := by rw [k1, k2, hhm]
          rw [piece0]
          exact ⟨[.slice (ρ i).a H H], rfl, by rw [CR]; exact ⟨hc.1, by show H ≤ (ρ i).n; omega, rfl⟩, rfl⟩
        · exact Comes.is h (slice_at e h1 h2 hb) hK hw
    · cases hK
  · rename_i i n
    obtain ⟨cs, e, hc, _⟩ := hy
    rw [CR] at hc
    split at hK
    · rename_i e' t xs m' hi
      cases hk : slOk P T' t with
      | false => rw [hk] at hK; cases hK
      | true =>
        rw [hk, cond_true] at hK
        obtain ⟨g1, g2, g3, g4, _⟩ := row_lies h hi
        obtain ⟨q1, q2, q3⟩ := hc
        rw [q3] at e
        have q2 : n ≤ (ρ i).n := q2
        have e : a.eval y = .slice (ρ i).a n (ρ i).c := e
        obtain ⟨e1, h1, h2⟩ := slOk_ok hk
        obtain ⟨L, H, M, hb, c1, c2, c3, c4, hK, c5, c6, c7, c8, c9, c10, c11, c12⟩ := bounds_ok (P := P) (w := w) (c := (ρ i).c) hl hh hm (by omega) hK
        have hp : n ≠ 0 → ∃ b, (ρ i).a = some ⟨b, 0, none⟩ ∧ (ρ i).a = some ⟨b, 0 * (ρ i).s, none⟩ := fun hn => by
          obtain ⟨b, ha⟩ := row_a h hi (by intro e; rw [e] at g1; simp at g1; omega)
          exact ⟨b, ha, by rw [Nat.zero_mul]; exact ha⟩
        have hw := win_ok h hi q1 (o := 0) (n := n) (p := (ρ i).a) (by omega) hp g4 c1 c2 c3 c4
        rw [Nat.zero_add] at hw
        split at hK
        · refine Comes.is h (slice_at e h1 h2 hb) hK ?_
          obtain rfl := c5 rfl
          obtain rfl := c9 rfl
          rw [piece0]
          exact ⟨[.slice (ρ i).a H (ρ i).c], rfl, by rw [CR]; exact ⟨q1, by show H ≤ (ρ i).n; omega, rfl⟩, rfl⟩
        · obtain ⟨hhm, hK⟩ := ck_elim hK
          refine Comes.is h (slice_at e h1 h2 hb) hK ?_
          obtain rfl := c5 rfl
          have k1 := c8 _ rfl
          have k2 := c10 _ rfl
          obtain rfl : H = M := by rw [k1, k2, hhm]
          rw [piece0]
          exact ⟨[.slice (ρ i).a H H], rfl, by rw [CR]; exact ⟨q1, by show H ≤ (ρ i).n; omega, rfl⟩, rfl⟩
        · exact Comes.is h (slice_at e h1 h2 hb) hK hw
    · cases hK
  · rename_i i n
    obtain ⟨cs, e, hc, _⟩ := hy
    rw [CR] at hc
    split at hK
    · rename_i e' t xs m' hi
      cases hk : slOk P T' t with
      | false => rw [hk] at hK; cases hK
      | true =>
        rw [hk, cond_true] at hK
        obtain ⟨g1, g2, g3, g4, _⟩ := row_lies h hi
        obtain ⟨q1, q2, q3⟩ := hc
        rw [q3] at e
        have q2 : n ≤ (ρ i).n := q2
        have e : a.eval y = .slice (ρ i).a n n := e
        obtain ⟨e1, h1, h2⟩ := slOk_ok hk
        obtain ⟨L, H, M, hb, c1, c2, c3, c4, hK, c5, c6, c7, c8, c9, c10, c11, c12⟩ := bounds_ok (P := P) (w := w) hl hh hm (Nat.le_refl n) hK
        have hp : n ≠ 0 → ∃ b, (ρ i).a = some ⟨b, 0, none⟩ ∧ (ρ i).a = some ⟨b, 0 * (ρ i).s, none⟩ := fun hn => by
          obtain ⟨b, ha⟩ := row_a h hi (by intro e; rw [e] at g1; simp at g1; omega)
          exact ⟨b, ha, by rw [Nat.zero_mul]; exact ha⟩
        have hw := win_ok h hi q1 (o := 0) (n := n) (p := (ρ i).a) (by omega) hp (by omega) c1 c2 c3 c4
        rw [Nat.zero_add] at hw
        split at hK
        · obtain ⟨hhm, hK⟩ := ck_elim hK
          refine Comes.is h (slice_at e h1 h2 hb) hK ?_
          obtain rfl := c5 rfl
          have k1 := c8 _ rfl
          have k2 := c10 _ rfl
          obtain rfl : H = M := by rw [k1, k2, hhm]
          rw [piece0]
          exact ⟨[.slice (ρ i).a H H], rfl, by rw [CR]; exact ⟨q1, by show H ≤ (ρ i).n; omega, rfl⟩, rfl⟩
        · exact Comes.is h (slice_at e h1 h2 hb) hK hw
    · cases hK
  · rename_i i o n
    obtain ⟨cs, e, hc, _⟩ := hy
    rw [CR] at hc
    split at hK
    · rename_i e' t xs m' hi
      cases hk : slOk P T' t with
      | false => rw [hk] at hK; cases hK
      | true =>
        rw [hk, cond_true] at hK
        obtain ⟨q1, q2, p, c', q3, q4, q5, q6⟩ := hc
        rw [q6] at e
        obtain ⟨e1, h1, h2⟩ := slOk_ok hk
        obtain ⟨L, H, M, hb, c1, c2, c3, c4, hK, _⟩ := bounds_ok (P := P) (w := w) hl hh hm q3 hK
        exact Comes.is h (slice_at e h1 h2 hb) hK (win_ok h hi q1 q2 q5 q4 c1 c2 c3 c4)
    · cases hK
  · cases hK
end
end Go.Mx

/- Elements and fields of values; lengths; operations that choose. -/
namespace Go.Mx
open Go Go.RowKit Go.Sx
variable [Glb]
set_option linter.unusedSectionVars false

section
variable {R : Type} {P : Program} {W : Nat → Prop} {S : List AO} {ρ : Nat → Geo} {w : World} {a : Act}
variable {d : Option Nat} {ty T' T2 : TypeId} {pos : String} {af : Array Edge} {g : Option (Nat × Bool)} {y z : Operand} {K : KV R} {r : R}
theorem part_run {x : Cx} {t : TypeId} {u : AV} {us cs : List Value} {o : Nat} (ho : loadOk P t u = true) (hc : CR x u us) (hs : ∀ j c, us[j]? = some c → cs[o + j]? = some c) (w : World) : (part t cs.toArray o).run P w = .ok (form u.isAgg us) w := by
  obtain ⟨h1, h2⟩ := loadOk_ok ho
  cases hg : u.isAgg with
  | true =>
    rw [hg] at h1
    have hl := cr_len hc
    have hsz := run_size (h2 hg) (P := P)
    simp only [part, Sem.run_bind, run_agg h1, Result.andThen_ok, if_true, hsz, Sem.run_pure]
    congr 2
    apply Array.ext'
    rw [Array.toList_extract]
    apply List.ext_getElem?
    intro k
    show (List.extract cs o (o + u.sz))[k]? = us[k]?
    rw [List.extract_eq_take_drop, List.getElem?_take, List.getElem?_drop]
    by_cases hk : k < u.sz
    · rw [if_pos (by omega)]
      rw [List.getElem?_eq_getElem (l := us) (by omega)]
      exact hs k _ (List.getElem?_eq_getElem (by omega))
    · rw [if_neg (by omega), List.getElem?_eq_none (by omega)]
  | false =>
    rw [hg] at h1
    have hl1 : us.length = 1 := by rw [cr_len hc]; exact agg_sz hc hg
    obtain ⟨c, rfl⟩ : ∃ c, us = [c] := List.length_eq_one_iff.1 hl1
    have := hs 0 c rfl
    rw [Nat.add_zero] at this
    simp [part, run_agg h1, this, form]
theorem index_ok {v : AV} {k : IntKind} {i : Int} (h : Rel W S ρ w) (hd : a.defers = []) (hy : VR (cx W S ρ w) v (a.eval y)) (hz : a.eval z = .int k i) (hK : indexA P T' v i S K = some r) : Comes P W S ρ w ⟨d, .index T' y z, ty, pos, af, g⟩ a K r := by
  unfold indexA at hK
  split at hK
  · rename_i s
    have ey := vr_str hy
    split at hK
    · rename_i hT
      obtain ⟨h0, hK⟩ := ck_elim hK
      obtain ⟨b, hb, hK⟩ := bind_elim hK
      have ha := bnd_has (a := a) (Op1 y + Op1 z) hd
      refine Comes.is h (d_strIndex ha hT (by rw [bnd_ev (by omega), ey]) (by rw [bnd_ev (by omega), hz]) h0) hK ?_
      rw [List.getD_eq_getElem?_getD, hb]
      exact vr_intI _ _
    · cases hK
  · rename_i m t xs
    split at hK
    · rename_i n e hu
      cases hk : szOk P e t.sz with
      | false => rw [hk] at hK; cases hK
      | true =>
        rw [hk] at hK
        obtain ⟨h0, hK⟩ := ck_elim hK
        obtain ⟨z', hz', hK⟩ := bind_elim hK
        obtain ⟨hi, rfl⟩ := List.getElem?_eq_some_iff.1 hz'
        cases ho : loadOk P e (.dat t xs[i.toNat]) with
        | false => rw [ho] at hK; cases hK
        | true =>
          rw [ho] at hK
          obtain ⟨cs, hr, ey⟩ := vr_dat hy
          have hr : xs.length = m ∧ Els (t.kd.K (cx W S ρ w).A (cx W S ρ w).h) xs cs := hr
          obtain ⟨c, hKc, hg⟩ := hr.2.get (fun _ _ h => kd_len h) i.toNat hi
          have hp := part_run (P := P) (o := i.toNat * t.sz) ho (cr_dat.2 hKc) hg w
          have ey : a.eval y = .agg cs.toArray := ey
          refine Comes.is h (Does.val ?_) hK (cr_vr (cr_dat.2 hKc))
          simp only [execOp, ey, hz, Instr.index, asIntOf, Sem.run_bind, Sem.run_pure, Result.andThen_ok, run_underlying hu, h0, and_self, if_true, run_size hk, hp]
    · cases hK
  · cases hK
theorem field_ok {i : Nat} {v : AV} (h : Rel W S ρ w) (hy : VR (cx W S ρ w) v (a.eval y)) (hK : (match some v, fldsteps P T' i with
    | some v, some st => cond (fldOk P T' i st && v.isAgg) (match fldTyp P T' i with
      | some ft => getK v st fun u => cond (loadOk P ft u) (K u S) none
      | none => none) none
    | _, _ => none) = some r) : Comes P W S ρ w ⟨d, .field T' y i, ty, pos, af, g⟩ a K r := by
  split at hK
  · rename_i v' st hv hst
    obtain rfl := Option.some.inj hv
    cases hf : fldOk P T' i st && v.isAgg with
    | false => rw [hf] at hK; cases hK
    | true =>
      rw [hf, cond_true] at hK
      rw [Bool.and_eq_true] at hf
      obtain ⟨fs, f, j, h1, h2, h3, h4, s, h5⟩ := fldOk_ok hf.1
      have hft : fldTyp P T' i = some f.type := by unfold fldTyp; rw [h1]; simp only [h2]
      rw [hft] at hK
      have hp : v.plain = true := by cases v <;> first | rfl | cases hf.2
      obtain ⟨cs, hc, ey⟩ := vr_cr hy hp
      obtain ⟨u, us, k1, k2, k3, k4⟩ := getK_ok st v cs hK hc (cr_len hc)
      cases ho : loadOk P f.type u with
      | false => rw [ho] at k1; cases k1
      | true =>
        rw [ho] at k1
        rw [h3] at k4
        have hpr := part_run (P := P) ho k2 k4 w
        rw [hf.2] at ey
        have ey : a.eval y = .agg cs.toArray := ey
        refine Comes.is h (Does.val ?_) k1 (cr_vr k2)
        simp [execOp, ey, Instr.field, run_underlying h1, h2, asAgg, hpr]
  · cases hK
theorem slen_ok {v : AV} {n : Nat} (h : Rel W S ρ w) (hy : VR (cx W S ρ w) v (a.eval y)) (hn : slen S v = some n) : ∃ q c, a.eval y = .slice q n c := by
  unfold slen at hn
  split at hn
  · obtain rfl := Option.some.inj hn
    obtain ⟨cs, hr, e⟩ := vr_dat hy
    obtain ⟨q, c, e2, _⟩ := hr
    exact ⟨q, c, by rw [e, e2]; rfl⟩
  · obtain rfl := Option.some.inj hn
    obtain ⟨cs, e, hc, _⟩ := hy
    rw [CR] at hc
    obtain ⟨p, c, e2, _⟩ := hc
    exact ⟨some p, c, by rw [e, e2]; rfl⟩
  · obtain rfl := Option.some.inj hn
    exact ⟨none, 0, vr_nils hy⟩
  · obtain rfl := Option.some.inj hn
    obtain ⟨cs, e, hc, _⟩ := hy
    rw [CR] at hc
    obtain ⟨q, e2⟩ := hc
    exact ⟨q, 0, by rw [e, e2]; rfl⟩
  · obtain rfl := Option.some.inj hn
    obtain ⟨cs, e, hc, _⟩ := hy
    rw [CR] at hc
    obtain ⟨q, _, e2⟩ := hc
    exact ⟨none, q, by rw [e, e2]; rfl⟩
  · split at hn
    · rename_i hi
      obtain rfl := Option.some.inj hn
      obtain ⟨cs, e, hc, _⟩ := hy
      rw [CR] at hc
      obtain ⟨g1, _⟩ := row_lies h hi
      exact ⟨_, _, by rw [e, hc.2, ← g1]; rfl⟩
    · cases hn
  · obtain rfl := Option.some.inj hn
    obtain ⟨cs, e, hc, _⟩ := hy
    rw [CR] at hc
    exact ⟨_, _, by rw [e, hc.2.2]; rfl⟩
  · obtain rfl := Option.some.inj hn
    obtain ⟨cs, e, hc, _⟩ := hy
    rw [CR] at hc
    exact ⟨_, _, by rw [e, hc.2.2]; rfl⟩
  · obtain rfl := Option.some.inj hn
    obtain ⟨cs, e, hc, _⟩ := hy
    rw [CR] at hc
    obtain ⟨_, _, q, c, _, _, _, e2⟩ := hc
    exact ⟨q, c, by rw [e, e2]; rfl⟩
  · cases hn
end
end Go.Mx

/- Operations on two values. -/
namespace Go.Mx
open Go Go.RowKit Go.Sx
variable [Glb]
set_option linter.unusedSectionVars false

section
variable {P : Program}
theorem EqV.iff {d : Nat} {t : TypeId} {x y : Value} {p q : Prop} (h : EqV P d t x y p) (e : p ↔ q) : EqV P d t x y q := ⟨fun w => by obtain ⟨r, h1, h2⟩ := h.run w; exact ⟨r, h1, h2.trans e⟩⟩
theorem EqF.iff {d : Nat} {xs ys : Array Value} {fs : List Field} {p q : Prop} (h : EqF P d xs ys fs p) (e : p ↔ q) : EqF P d xs ys fs q := ⟨fun w => by obtain ⟨r, h1, h2⟩ := h.run w; exact ⟨r, h1, h2.trans e⟩⟩
def EqE (P : Program) (E : TypeId → T → Bool) (d : Nat) : Prop := ∀ (i : TypeId) (t : T) (x y : t.den) (q : Bool) (A : Nat → Prop) (hp : Array Obj) (c1 c2 : List Value), E i t = true → eqv t x y = some q → t.kd.K A hp x c1 → t.kd.K A hp y c2 → EqV P d i (form t.aggB c1) (form t.aggB c2) (q = true)
theorem fldTy_ok {E : TypeId → T → Bool} {d : Nat} (hE : EqE P E d) {f : Field} {o : Nat} {t : T} (h : fldTy P E f o t = true) {x y : t.den} {q : Bool} {A : Nat → Prop} {hp : Array Obj} {c1 c2 X Y : List Value} (hq : eqv t x y = some q) (h1 : t.kd.K A hp x c1) (h2 : t.kd.K A hp y c2)
    (g1 : ∀ j v, c1[j]? = some v → X[o + j]? = some v) (g2 : ∀ j v, c2[j]? = some v → Y[o + j]? = some v) :
    f.name ≠ "_" ∧ Pt P f.type X.toArray f.offset (form t.aggB c1) ∧ Pt P f.type Y.toArray f.offset (form t.aggB c2) ∧ EqV P d f.type (form t.aggB c1) (form t.aggB c2) (q = true) := by
  unfold fldTy at h
  simp only [Bool.and_eq_true, bne_iff_ne, ne_eq] at h
  obtain ⟨⟨⟨⟨n1, n2⟩, n3⟩, n4⟩, n5⟩ := h
  have n2 := Nat.eq_of_beq_eq_true n2
  have hl : ∀ z : t.den, loadOk P f.type (.dat t z) = true := by
    intro z
    unfold loadOk
    split at n4
    · rename_i b hb
      rw [hb]
      have : b = t.aggB := by simpa using n4
      subst this
      split
      · rename_i hb'
        have hb' : t.aggB = true := by simpa using hb'
        have : szOk P f.type t.sz = true := n3
        show (t.aggB && szOk P f.type t.sz) = true
        rw [hb', this]; rfl
      · rename_i hb'
        have hb' : t.aggB = false := by simpa using hb'
        show (!t.aggB) = true
        rw [hb']; rfl
      · rename_i hb'; cases hb'
    · cases n4
  refine ⟨n1, fun w => ?_, fun w => ?_, hE _ _ _ _ _ _ _ _ _ n5 hq h1 h2⟩
  · rw [n2]; exact part_run (x := ⟨A, hp, fun _ => ⟨none, 0, 0, 0⟩, 0⟩) (hl x) (cr_dat.2 h1) g1 w
  · rw [n2]; exact part_run (x := ⟨A, hp, fun _ => ⟨none, 0, 0, 0⟩, 0⟩) (hl y) (cr_dat.2 h2) g2 w
theorem eqTyF_ok {E : TypeId → T → Bool} {d : Nat} (hE : EqE P E d) {A : Nat → Prop} {hp : Array Obj} {X Y : List Value} : ∀ (fs : List Field) (o : Nat) (t : T) (x y : t.den) (q : Bool) (c1 c2 : List Value), eqTyF P E fs o t = true → eqv t x y = some q → t.kd.K A hp x c1 → t.kd.K A hp y c2 →
    (∀ j v, c1[j]? = some v → X[o + j]? = some v) → (∀ j v, c2[j]? = some v → Y[o + j]? = some v) → EqF P d X.toArray Y.toArray fs (q = true)
  | [], o, t, x, y, q, c1, c2, h, _, _, _, _, _ => by cases t <;> cases h
  | [f], o, t, x, y, q, c1, c2, h, hq, h1, h2, g1, g2 => by
    have h : fldTy P E f o t = true := by cases t <;> exact h
    obtain ⟨k1, k2, k3, k4⟩ := fldTy_ok hE h hq h1 h2 g1 g2
    exact EqF.one k1 k2 k3 k4
  | f :: f2 :: r, o, .pair ta tb, x, y, q, c1, c2, h, hq, h1, h2, g1, g2 => by
    have h : (fldTy P E f o ta && eqTyF P E (f2 :: r) (o + ta.sz) tb) = true := h
    rw [Bool.and_eq_true] at h
    rw [eqv] at hq
    split at hq
    · rename_i p hp1
      split at hq
      · rename_i q' hq1
        obtain rfl := Option.some.inj hq
        obtain ⟨a1, b1, e1, ka1, kb1⟩ := h1
        obtain ⟨a2, b2, e2, ka2, kb2⟩ := h2
        have l1 : a1.length = ta.sz := kd_len ka1
        have l2 : a2.length = ta.sz := kd_len ka2
        obtain ⟨k1, k2, k3, k4⟩ := fldTy_ok hE h.1 hp1 ka1 ka2 (fun j v hj => g1 j v (by rw [e1, List.getElem?_append, if_pos (List.getElem?_eq_some_iff.1 hj).1]; exact hj)) (fun j v hj => g2 j v (by rw [e2, List.getElem?_append, if_pos (List.getElem?_eq_some_iff.1 hj).1]; exact hj))
        have k5 := eqTyF_ok hE (f2 :: r) (o + ta.sz) tb x.2 y.2 q' b1 b2 h.2 hq1 kb1 kb2
          (fun j v hj => by rw [Nat.add_assoc]; exact g1 _ v (by rw [e1, List.getElem?_append, if_neg (by omega), show ta.sz + j - a1.length = j by omega]; exact hj))
          (fun j v hj => by rw [Nat.add_assoc]; exact g2 _ v (by rw [e2, List.getElem?_append, if_neg (by omega), show ta.sz + j - a2.length = j by omega]; exact hj))
        exact Mx.EqF.iff (EqF.cons k1 k2 k3 k4 k5) (by rw [Bool.and_eq_true])
      · cases hq
    · cases hq
  | _ :: _ :: _, _, .int _, _, _, _, _, _, h, _, _, _, _, _ => by cases h
  | _ :: _ :: _, _, .bool, _, _, _, _, _, h, _, _, _, _, _ => by cases h
  | _ :: _ :: _, _, .str, _, _, _, _, _, h, _, _, _, _, _ => by cases h
  | _ :: _ :: _, _, .unit, _, _, _, _, _, h, _, _, _, _, _ => by cases h
  | _ :: _ :: _, _, .flt, _, _, _, _, _, h, _, _, _, _, _ => by cases h
  | _ :: _ :: _, _, .cpx, _, _, _, _, _, h, _, _, _, _, _ => by cases h
  | _ :: _ :: _, _, .fn, _, _, _, _, _, h, _, _, _, _, _ => by cases h
  | _ :: _ :: _, _, .one _, _, _, _, _, _, h, _, _, _, _, _ => by cases h
  | _ :: _ :: _, _, .arr _ _, _, _, _, _, _, h, _, _, _, _, _ => by cases h
  | _ :: _ :: _, _, .sl _, _, _, _, _, _, h, _, _, _, _, _ => by cases h
theorem eqL_ok {E : TypeId → T → Bool} {d : Nat} (hE : EqE P E d) {e : TypeId} {t : T} (hs : szOk P e t.sz = true) (hg : aggB P e = some t.aggB) (he : E e t = true) {A : Nat → Prop} {hp : Array Obj} {X Y : List Value} : ∀ (xs ys : List t.den) (o : Nat) (q : Bool) (c1 c2 : List Value), eqL (eqv t) xs ys = some q → Els (t.kd.K A hp) xs c1 → Els (t.kd.K A hp) ys c2 →
    (∀ j v, c1[j]? = some v → X[o * t.sz + j]? = some v) → (∀ j v, c2[j]? = some v → Y[o * t.sz + j]? = some v) → EqI P d e t.sz X.toArray Y.toArray (List.range' o xs.length) (q = true)
  | [], [], o, q, c1, c2, hq, _, _, _, _ => by
    obtain rfl := Option.some.inj hq
    exact ⟨fun w => by obtain ⟨r, h1, h2⟩ := (EqI.nil (P := P) (d := d) (e := e) (c := t.sz) (xs := X.toArray) (ys := Y.toArray)).run w; exact ⟨r, h1, h2.trans (by simp)⟩⟩
  | [], _ :: _, _, _, _, _, hq, _, _, _, _ => by cases hq
  | _ :: _, [], _, _, _, _, hq, _, _, _, _ => by cases hq
  | x :: xs, y :: ys, o, q, c1, c2, hq, h1, h2, g1, g2 => by
    rw [eqL] at hq
    split at hq
    · rename_i p hp1
      split at hq
      · rename_i q' hq1
        obtain rfl := Option.some.inj hq
        cases h1 with
        | @cons _ a1 _ b1 ka1 kb1 =>
        cases h2 with
        | @cons _ a2 _ b2 ka2 kb2 =>
        have l1 : a1.length = t.sz := kd_len ka1
        have l2 : a2.length = t.sz := kd_len ka2
        have hl : ∀ z : t.den, loadOk P e (.dat t z) = true := by
          intro z
          unfold loadOk
          rw [hg]
          cases hb : t.aggB with
          | true => show (t.aggB && szOk P e t.sz) = true; rw [hb, hs]; rfl
          | false => show (!t.aggB) = true; rw [hb]; rfl
        have k1 : Pt P e X.toArray (o * t.sz) (form t.aggB a1) := fun w => part_run (x := ⟨A, hp, fun _ => ⟨none, 0, 0, 0⟩, 0⟩) (hl x) (cr_dat.2 ka1) (fun j v hj => g1 j v (by rw [List.getElem?_append, if_pos (List.getElem?_eq_some_iff.1 hj).1]; exact hj)) w
        have k2 : Pt P e Y.toArray (o * t.sz) (form t.aggB a2) := fun w => part_run (x := ⟨A, hp, fun _ => ⟨none, 0, 0, 0⟩, 0⟩) (hl y) (cr_dat.2 ka2) (fun j v hj => g2 j v (by rw [List.getElem?_append, if_pos (List.getElem?_eq_some_iff.1 hj).1]; exact hj)) w
        have k5 := eqL_ok hE hs hg he xs ys (o + 1) q' b1 b2 hq1 kb1 kb2
          (fun j v hj => by rw [Nat.add_mul, Nat.one_mul, Nat.add_assoc]; exact g1 _ v (by rw [List.getElem?_append, if_neg (by omega), show t.sz + j - a1.length = j by omega]; exact hj))
          (fun j v hj => by rw [Nat.add_mul, Nat.one_mul, Nat.add_assoc]; exact g2 _ v (by rw [List.getElem?_append, if_neg (by omega), show t.sz + j - a2.length = j by omega]; exact hj))
        have k6 := EqI.cons k1 k2 (hE _ _ _ _ _ _ _ _ _ he hp1 ka1 ka2) k5
        exact ⟨fun w => by obtain ⟨r, h1, h2⟩ := k6.run w; exact ⟨r, h1, h2.trans (by rw [Bool.and_eq_true])⟩⟩
      · cases hq
    · cases hq
theorem eqTy_ok : ∀ (n k : Nat), EqE P (eqTy P n) (n + k)
  | 0, _ => fun i t x y q A hp c1 c2 h => by cases h
  | n + 1, k => by
    intro i t x y q A hp c1 c2 h hq h1 h2
    have hd : n + 1 + k = (n + k) + 1 := by omega
    rw [hd]
    unfold eqTy at h
    split at h
    · rename_i hu
      have h1 : c1 = [.int _ x] := h1
      have h2 : c2 = [.int _ y] := h2
      obtain rfl := Option.some.inj hq
      rw [h1, h2]
      exact Mx.EqV.iff (EqV.int hu) decide_eq_true_iff.symm
    · rename_i hu
      have h1 : c1 = [.bool x] := h1
      have h2 : c2 = [.bool y] := h2
      obtain rfl := Option.some.inj hq
      rw [h1, h2]
      exact Mx.EqV.iff (EqV.bool hu) beq_iff_eq.symm
    · rename_i hu
      have h1 : c1 = [.string x] := h1
      have h2 : c2 = [.string y] := h2
      obtain rfl := Option.some.inj hq
      rw [h1, h2]
      exact Mx.EqV.iff (EqV.str hu) decide_eq_true_iff.symm
    · rename_i fs t hu
      rw [Bool.and_eq_true, Bool.not_eq_true'] at h
      have hq : eqv t x y = some q := hq
      obtain ⟨hs, h⟩ := h
      split at h
      · rename_i f hf
        obtain ⟨k1, k2, k3, k4⟩ := fldTy_ok (P := P) (eqTy_ok n k) h hq h1 h2 (X := c1) (Y := c2) (fun j v hj => by rw [Nat.zero_add]; exact hj) (fun j v hj => by rw [Nat.zero_add]; exact hj)
        refine EqV.struct hu hs ?_
        rw [hf]
        exact EqF.one k1 k2 k3 k4
      · cases h
    · rename_i fs ta tb hu
      rw [Bool.and_eq_true, Bool.not_eq_true'] at h
      refine EqV.struct hu h.1 ?_
      exact eqTyF_ok (eqTy_ok n k) fs.toList 0 (.pair ta tb) x y q c1 c2 h.2 hq h1 h2 (fun j v hj => by rw [Nat.zero_add]; exact hj) (fun j v hj => by rw [Nat.zero_add]; exact hj)
    · rename_i m e m' t hu
      simp only [Bool.and_eq_true] at h
      obtain ⟨⟨⟨n1, n2⟩, n3⟩, n4⟩ := h
      have n1 := Nat.eq_of_beq_eq_true n1
      subst n1
      have hs : szOk P e t.sz = true := n2
      have hg : aggB P e = some t.aggB := by
        split at n3
        · rename_i b hb
          rw [hb]
          have : b = t.aggB := by simpa using n3
          rw [this]
        · cases n3
      have h1 : x.length = m ∧ Els (t.kd.K A hp) x c1 := h1
      have h2 : y.length = m ∧ Els (t.kd.K A hp) y c2 := h2
      have hq : eqL (eqv t) x y = some q := hq
      have k := eqL_ok (eqTy_ok n k) hs hg n4 x y 0 q c1 c2 hq h1.2 h2.2 (X := c1) (Y := c2) (fun j v hj => by rw [Nat.zero_mul, Nat.zero_add]; exact hj) (fun j v hj => by rw [Nat.zero_mul, Nat.zero_add]; exact hj)
      rw [h1.1, ← List.range_eq_range'] at k
      unfold szOk at hs
      split at hs
      · rename_i j hj
        have hs := Nat.eq_of_beq_eq_true hs
        refine EqV.arr (i := j) hu hj ?_
        rw [show P.cellsOf e = t.sz by simp [Program.cellsOf, hj, hs]]
        exact k
      · cases hs
    · cases h
end
section
variable {R : Type} {P : Program} {W : Nat → Prop} {S : List AO} {ρ : Nat → Geo} {w : World} {a : Act}
variable {d : Option Nat} {ty T' T2 : TypeId} {pos : String} {af : Array Edge} {g : Option (Nat × Bool)} {y z : Operand} {K : KV R} {r : R}
theorem nilP_ok {x : Cx} {v : AV} {u : Value} {q : Bool} (hv : VR x v u) (hn : nilP v = some q) : ∃ p, u = .pointer p ∧ p.isNone = q := by
  cases v with
  | ptr i p => obtain rfl := Option.some.inj hn; obtain ⟨_, b, _, e⟩ := vr_ptr hv; exact ⟨_, e, rfl⟩
  | rdp t z => obtain rfl := Option.some.inj hn; obtain ⟨b, o, c, e, _⟩ := vr_rdp hv; exact ⟨_, e, rfl⟩
  | nilp => obtain rfl := Option.some.inj hn; exact ⟨_, vr_nilp hv, rfl⟩
  | _ => cases hn
theorem nilS_ok {v : AV} {u : Value} {q : Bool} (h : Rel W S ρ w) (hv : VR (cx W S ρ w) v u) (hn : nilS S v = some q) : ∃ p n c, u = .slice p n c ∧ p.isNone = q := by
  cases v with
  | dat t z =>
    cases t with
    | sl t =>
      cases z with
      | nil => cases hn
      | cons y z =>
        obtain rfl := Option.some.inj hn
        obtain ⟨cs, hr, e⟩ := vr_dat hv
        obtain ⟨p, c, e2, hr⟩ : ∃ p c, cs = [.slice p (y :: z).length c] ∧ Raw (cx W S ρ w).A t.kd (cx W S ρ w).h p c (y :: z) := hr
        obtain ⟨_, _, _, _, hm⟩ := hr
        obtain ⟨b, o, _, _, _, e3, _⟩ := hm (by simp)
        rw [e2, e3] at e
        exact ⟨_, _, _, e, rfl⟩
    | _ => cases hn
  | view i =>
    obtain ⟨cs, e, hc, _⟩ := hv
    rw [CR] at hc
    rw [nilS] at hn
    split at hn
    · rename_i e' t y z m hi
      obtain rfl := Option.some.inj hn
      obtain ⟨b, ha⟩ := row_a h hi (by simp)
      have ha : ((cx W S ρ w).g i).a = some ⟨b, 0, none⟩ := ha
      rw [hc.2, ha] at e
      exact ⟨_, _, _, e, rfl⟩
    · cases hn
  | pre i n =>
    cases n with
    | zero => cases hn
    | succ n =>
      obtain ⟨cs, e, hc, _⟩ := hv
      rw [CR] at hc
      rw [nilS] at hn
      split at hn
      · rename_i e' t xs m hi
        obtain rfl := Option.some.inj hn
        obtain ⟨g1, _⟩ := row_lies h hi
        have hle : n + 1 ≤ (ρ i).n := hc.2.1
        obtain ⟨b, ha⟩ := row_a h hi (by intro e; rw [e] at g1; simp at g1; omega)
        have ha : ((cx W S ρ w).g i).a = some ⟨b, 0, none⟩ := ha
        rw [hc.2.2, ha] at e
        exact ⟨_, _, _, e, rfl⟩
      · cases hn
  | tgt i n =>
    cases n with
    | zero => cases hn
    | succ n =>
      obtain ⟨cs, e, hc, _⟩ := hv
      rw [CR] at hc
      rw [nilS] at hn
      split at hn
      · rename_i e' t xs m hi
        obtain rfl := Option.some.inj hn
        obtain ⟨g1, _⟩ := row_lies h hi
        have hle : n + 1 ≤ (ρ i).n := hc.2.1
        obtain ⟨b, ha⟩ := row_a h hi (by intro e; rw [e] at g1; simp at g1; omega)
        have ha : ((cx W S ρ w).g i).a = some ⟨b, 0, none⟩ := ha
        rw [hc.2.2, ha] at e
        exact ⟨_, _, _, e, rfl⟩
      · cases hn
  | win i o n =>
    cases n with
    | zero => cases hn
    | succ n =>
      obtain ⟨cs, e, hc, _⟩ := hv
      rw [CR] at hc
      obtain rfl := Option.some.inj hn
      obtain ⟨_, _, q, c, _, _, h1, e2⟩ := hc
      obtain ⟨b, _, h2⟩ := h1 (by omega)
      rw [e2, h2] at e
      exact ⟨_, _, _, e, rfl⟩
  | nils => obtain rfl := Option.some.inj hn; exact ⟨_, _, _, vr_nils hv, rfl⟩
  | nilw t => obtain rfl := Option.some.inj hn; obtain ⟨c, e, hc, _⟩ := hv; rw [CR] at hc; obtain ⟨q, _, e2⟩ := hc; exact ⟨none, _, _, by rw [e, e2]; rfl, rfl⟩
  | sln t z => obtain rfl := Option.some.inj hn; obtain ⟨c, e, hc, _⟩ := hv; rw [CR] at hc; obtain ⟨p, c', e2, _⟩ := hc; exact ⟨some p, _, _, by rw [e, e2]; rfl, rfl⟩
  | _ => cases hn
theorem nilF_ok {x : Cx} {v : AV} {u : Value} {q : Bool} (hv : VR x v u) (hn : nilF v = some q) : (u = .nilFunc ∧ q = true) ∨ (∃ f l m, u = .func f l m ∧ q = false) := by
  cases v with
  | dat t z =>
    cases t with
    | fn =>
      obtain rfl := Option.some.inj hn
      obtain ⟨cs, hc, e⟩ := vr_dat hv
      have hc : cs = [.func (.func z) #[] #[]] := hc
      subst hc
      exact .inr ⟨_, _, _, e, rfl⟩
    | _ => cases hn
  | nilf => obtain rfl := Option.some.inj hn; exact .inl ⟨vr_nilf hv, rfl⟩
  | fn f l m => obtain rfl := Option.some.inj hn; obtain ⟨c, e, hc, _⟩ := hv; rw [CR] at hc; obtain ⟨l', m', e2, _⟩ := hc; exact .inr ⟨_, _, _, by rw [e, e2]; rfl, rfl⟩
  | _ => cases hn
theorem eq_func {f : Fn} {l m : Array Value} {q1 q2 : Array TypeId} {q3 : Bool} (hT : P.underlying T' = some (.func q1 q2 q3)) (n : Nat) (w : World) : (Op.equalIn (n + 1) T' (.func f l m) .nilFunc).run P w = .ok false w := by
  simp [Op.equalIn, run_underlying hT]
theorem eq_nilf {q1 q2 : Array TypeId} {q3 : Bool} (hT : P.underlying T' = some (.func q1 q2 q3)) (n : Nat) (w : World) : (Op.equalIn (n + 1) T' .nilFunc .nilFunc).run P w = .ok true w := by
  simp [Op.equalIn, run_underlying hT]
theorem guard_func {op : BinOp} {f : Fn} {l m : Array Value} {v : Value} (w : World) : (eqGuard op T' y z (.func f l m) v).run P w = .ok () w := by cases op <;> rfl
theorem guard_nilf {op : BinOp} {v : Value} (w : World) : (eqGuard op T' y z .nilFunc v).run P w = .ok () w := by cases op <;> rfl
theorem vr_nilI {x : Cx} {u : Value} (h : VR x .nilI u) : u = .nilIface := by
  obtain ⟨c, e, h1, _⟩ := h
  rw [CR] at h1
  rw [e, h1]; rfl
theorem nilI_ok {x : Cx} {v : AV} {u : Value} {q : Bool} (hv : VR x v u) (hn : nilI v = some q) : (u = .nilIface ∧ q = true) ∨ (∃ t z, u = .iface t z ∧ q = false) := by
  cases v with
  | nilI => obtain rfl := Option.some.inj hn; exact .inl ⟨vr_nilI hv, rfl⟩
  | iface t v => obtain rfl := Option.some.inj hn; obtain ⟨c, e, hc, _⟩ := hv; rw [CR] at hc; obtain ⟨c', e2, _⟩ := hc; exact .inr ⟨_, _, by rw [e, e2]; rfl, rfl⟩
  | _ => cases hn
theorem eq_iface {t : TypeId} {v : Value} {q1 : Array (String × TypeId)} (hT : P.underlying T' = some (.interface q1)) (n : Nat) (w : World) : (Op.equalIn (n + 1) T' (.iface t v) .nilIface).run P w = .ok false w := by
  simp [Op.equalIn, run_underlying hT]
theorem eq_nilI {q1 : Array (String × TypeId)} (hT : P.underlying T' = some (.interface q1)) (n : Nat) (w : World) : (Op.equalIn (n + 1) T' .nilIface .nilIface).run P w = .ok true w := by
  simp [Op.equalIn, run_underlying hT]
theorem guard_iface {op : BinOp} {t : TypeId} {v : Value} (w : World) : (eqGuard op T' y z (.iface t v) .nilIface).run P w = .ok () w := by cases op <;> rfl
theorem guard_nilI {op : BinOp} {c : Value} (w : World) : (eqGuard op T' y (.const c) .nilIface .nilIface).run P w = .ok () w := by cases op <;> simp [eqGuard]
theorem vr_nilm' {x : Cx} {u : Value} (h : VR x .nilm u) : u = .map none := by
  obtain ⟨c, e, h1, _⟩ := h
  rw [CR] at h1
  rw [e, h1]; rfl
theorem nilM_ok {x : Cx} {v : AV} {u : Value} {q : Bool} (hv : VR x v u) (hn : nilM v = some q) : (u = .map none ∧ q = true) ∨ (∃ b, u = .map (some b) ∧ q = false) := by
  cases v with
  | nilm => obtain rfl := Option.some.inj hn; obtain ⟨c, e, hc, _⟩ := hv; rw [CR] at hc; exact .inl ⟨by rw [e, hc]; rfl, rfl⟩
  | mp i => obtain rfl := Option.some.inj hn; obtain ⟨c, e, hc, _⟩ := hv; rw [CR] at hc; obtain ⟨_, b, _, e2⟩ := hc; exact .inr ⟨b, by rw [e, e2]; rfl, rfl⟩
  | _ => cases hn
theorem eq_map {b : Nat} {q1 q2 : TypeId} (hT : P.underlying T' = some (.map q1 q2)) (n : Nat) (w : World) : (Op.equalIn (n + 1) T' (.map (some b)) (.map none)).run P w = .ok false w := by
  simp [Op.equalIn, run_underlying hT]
theorem eq_nilm {q1 q2 : TypeId} (hT : P.underlying T' = some (.map q1 q2)) (n : Nat) (w : World) : (Op.equalIn (n + 1) T' (.map none) (.map none)).run P w = .ok true w := by
  simp [Op.equalIn, run_underlying hT]
theorem guard_map {op : BinOp} {b : Option Nat} {v : Value} (w : World) : (eqGuard op T' y z (.map b) v).run P w = .ok () w := by cases op <;> rfl
theorem bin_ok {op : BinOp} {u v : AV} (h : Rel W S ρ w) (hd : a.defers = []) (hy : VR (cx W S ρ w) u (a.eval y)) (hz : VR (cx W S ρ w) v (a.eval z)) (hc : guardC u v z = true) (hK : bin P T' op u v S K = some r) : Comes P W S ρ w ⟨d, .binOp op T' y z T2, ty, pos, af, g⟩ a K r := by
  have ha := bnd_has (a := a) (Op1 y + Op1 z) hd
  have ey : Sx.ev (bnd a (Op1 y + Op1 z)) y = some (a.eval y) := bnd_ev (by omega)
  have ez : Sx.ev (bnd a (Op1 y + Op1 z)) z = some (a.eval z) := bnd_ev (by omega)
  unfold bin at hK
  split at hK
  · rename_i k i k' j
    have e1 := vr_int hy
    have e2 := vr_int hz
    split at hK
    · obtain ⟨h0, hK⟩ := ck_elim hK
      exact Comes.is h (d_shl ha (by rw [ey, e1]) (by rw [ez, e2]) h0) hK (vr_intI _ _)
    · obtain ⟨h0, hK⟩ := ck_elim hK
      exact Comes.is h (d_shr ha (by rw [ey, e1]) (by rw [ez, e2]) h0) hK (vr_intI _ _)
    · split at hK
      · rename_i hk
        subst hk
        exact arith_ok h hd e1 e2 hK
      · cases hK
  · have e1 := vr_str hy
    have e2 := vr_str hz
    split at hK
    · obtain ⟨h0, hK⟩ := ck_elim hK
      exact Comes.is h (d_sadd ha (by rw [ey, e1]) (by rw [ez, e2]) (Nat.le_trans h0 (by decide))) hK (vr_strI _)
    · exact Comes.is h (d_eqS ha (by rw [ey, e1]) (by rw [ez, e2])) hK (vr_boolI _)
    · exact Comes.is h (d_neS ha (by rw [ey, e1]) (by rw [ez, e2])) hK (vr_boolI _)
    · cases hK
  · have e1 := vr_bool hy
    have e2 := vr_bool hz
    split at hK
    · rename_i hu
      exact Comes.is h (d_eqB ha hu (by rw [ey, e1]) (by rw [ez, e2])) hK (vr_boolI _)
    · rename_i hu
      exact Comes.is h (d_neB ha hu (by rw [ey, e1]) (by rw [ez, e2])) hK (vr_boolI _)
    · cases hK
  · rename_i t x t' x' _ _ _
    split at hK
    · rename_i ht
      subst ht
      cases hc : t'.aggB && eqTy P 30 T' t' && !P.eqGuardType P.depth T' with
      | false => rw [hc] at hK; cases hK
      | true =>
        rw [hc, cond_true] at hK
        simp only [Bool.and_eq_true, Bool.not_eq_true'] at hc
        obtain ⟨⟨hg, ht⟩, hq⟩ := hc
        obtain ⟨c1, hc1, e1⟩ := vr_dat hy
        obtain ⟨c2, hc2, e2⟩ := vr_dat hz
        split at hK
        · rename_i q he
          have hE := eqTy_ok (P := P) 30 9970 T' t' x x' q _ _ c1 c2 ht he hc1 hc2
          have e1 : a.eval y = form t'.aggB c1 := e1
          have e2 : a.eval z = form t'.aggB c2 := e2
          rw [hg] at hE e1 e2
          split at hK
          · refine Comes.is h (d_eqAg ha (by rw [ey, e1]; rfl) (by rw [ez, e2]; rfl) hq hE) hK ?_
            cases q <;> exact vr_boolI _
          · refine Comes.is h (d_neAg ha (by rw [ey, e1]; rfl) (by rw [ez, e2]; rfl) hq hE) hK ?_
            cases q <;> exact vr_boolI _
          · cases hK
        · cases hK
    · cases hK
  · rename_i i p j q
    split at hK
    · rename_i b e hsp hu
      cases hb : Nat.beq i j && b && (P.info? e).isSome with
      | false => rw [hb] at hK; cases hK
      | true =>
        rw [hb, cond_true] at hK
        rw [Bool.and_eq_true, Bool.and_eq_true] at hb
        have hij := Nat.eq_of_beq_eq_true hb.1.1
        subst hij
        obtain ⟨_, b1, h1, e1⟩ := vr_ptr hy
        obtain ⟨_, b2, h2, e2⟩ := vr_ptr hz
        have hpq : p = [] ∧ q = [] := by
          unfold samep at hsp
          split at hsp
          · exact ⟨rfl, rfl⟩
          · cases hsp
        obtain ⟨rfl, rfl⟩ := hpq
        have hbb : b1 = b2 := by rw [h1] at h2; exact congrArg Addr.block (Option.some.inj h2)
        subst hbb
        split at hK
        · exact Comes.is h (d_ptrneSelf ha hu hb.2 (by rw [ey, e1]) (by rw [ez, e2])) hK (vr_boolI false)
        · cases hK
    · cases hK
  · split at hK
    · rename_i e q hu hn
      have e2 := vr_nilp hz
      obtain ⟨p, e1, hq⟩ := nilP_ok hy hn
      split at hK
      · exact Comes.is h (d_ptrnil_eq ha hu (by rw [ey, e1]) (by rw [ez, e2])) hK (by rw [hq]; exact vr_boolI _)
      · exact Comes.is h (d_ptrnil_ne ha hu (by rw [ey, e1]) (by rw [ez, e2])) hK (by rw [hq]; exact vr_boolI _)
      · cases hK
    · cases hK
  · split at hK
    · rename_i e q hu hn
      have e2 := vr_nils hz
      obtain ⟨p, n, c, e1, hq⟩ := nilS_ok h hy hn
      split at hK
      · exact Comes.is h (d_slnil_eq ha hu (by rw [ey, e1]) (by rw [ez, e2])) hK (by rw [hq]; exact vr_boolI _)
      · exact Comes.is h (d_slnil_ne ha hu (by rw [ey, e1]) (by rw [ez, e2])) hK (by rw [hq]; exact vr_boolI _)
      · cases hK
    · cases hK
  · split at hK
    · rename_i q1 q2 q3 q hu hn
      have e2 := vr_nilf hz
      rcases nilF_ok hy hn with ⟨e1, rfl⟩ | ⟨f, l, m, e1, rfl⟩
      · split at hK
        · exact Comes.is h (d_bin ha (by rw [ey, e1]) (by rw [ez, e2]) guard_nilf (by simp only [binOp, Op.equal, Op.maxDepth, Sem.run_bind, Sem.run_pure, eq_nilf hu 9999 w, Result.andThen_ok])) hK (vr_boolI true)
        · exact Comes.is h (d_bin ha (by rw [ey, e1]) (by rw [ez, e2]) guard_nilf (by simp only [binOp, Op.equal, Op.maxDepth, Sem.run_bind, Sem.run_pure, eq_nilf hu 9999 w, Result.andThen_ok])) hK (vr_boolI (!true))
        · cases hK
      · split at hK
        · exact Comes.is h (d_bin ha (by rw [ey, e1]) (by rw [ez, e2]) guard_func (by simp only [binOp, Op.equal, Op.maxDepth, Sem.run_bind, Sem.run_pure, eq_func hu 9999 w, Result.andThen_ok])) hK (vr_boolI false)
        · exact Comes.is h (d_bin ha (by rw [ey, e1]) (by rw [ez, e2]) guard_func (by simp only [binOp, Op.equal, Op.maxDepth, Sem.run_bind, Sem.run_pure, eq_func hu 9999 w, Result.andThen_ok])) hK (vr_boolI (!false))
        · cases hK
    · cases hK
  · split at hK
    · rename_i q1 q hu hn
      have e2 := vr_nilI hz
      rcases nilI_ok hy hn with ⟨e1, rfl⟩ | ⟨t, v, e1, rfl⟩
      · obtain ⟨c, rfl⟩ : ∃ c, z = .const c := by
          cases u with
          | nilI => cases z with
            | const c => exact ⟨c, rfl⟩
            | _ => cases hc
          | _ => cases hn
        split at hK
        · exact Comes.is h (d_bin ha (by rw [ey, e1]) (by rw [ez, e2]) guard_nilI (by simp only [binOp, Op.equal, Op.maxDepth, Sem.run_bind, Sem.run_pure, eq_nilI hu 9999 w, Result.andThen_ok])) hK (vr_boolI true)
        · exact Comes.is h (d_bin ha (by rw [ey, e1]) (by rw [ez, e2]) guard_nilI (by simp only [binOp, Op.equal, Op.maxDepth, Sem.run_bind, Sem.run_pure, eq_nilI hu 9999 w, Result.andThen_ok])) hK (vr_boolI (!true))
        · cases hK
      · split at hK
        · exact Comes.is h (d_bin ha (by rw [ey, e1]) (by rw [ez, e2]) guard_iface (by simp only [binOp, Op.equal, Op.maxDepth, Sem.run_bind, Sem.run_pure, eq_iface hu 9999 w, Result.andThen_ok])) hK (vr_boolI false)
        · exact Comes.is h (d_bin ha (by rw [ey, e1]) (by rw [ez, e2]) guard_iface (by simp only [binOp, Op.equal, Op.maxDepth, Sem.run_bind, Sem.run_pure, eq_iface hu 9999 w, Result.andThen_ok])) hK (vr_boolI (!false))
        · cases hK
    · cases hK
  · split at hK
    · rename_i q1 q2 q hu hn
      have e2 := vr_nilm' hz
      rcases nilM_ok hy hn with ⟨e1, rfl⟩ | ⟨b, e1, rfl⟩
      · split at hK
        · exact Comes.is h (d_bin ha (by rw [ey, e1]) (by rw [ez, e2]) guard_map (by simp only [binOp, Op.equal, Op.maxDepth, Sem.run_bind, Sem.run_pure, eq_nilm hu 9999 w, Result.andThen_ok])) hK (vr_boolI true)
        · exact Comes.is h (d_bin ha (by rw [ey, e1]) (by rw [ez, e2]) guard_map (by simp only [binOp, Op.equal, Op.maxDepth, Sem.run_bind, Sem.run_pure, eq_nilm hu 9999 w, Result.andThen_ok])) hK (vr_boolI (!true))
        · cases hK
      · split at hK
        · exact Comes.is h (d_bin ha (by rw [ey, e1]) (by rw [ez, e2]) guard_map (by simp only [binOp, Op.equal, Op.maxDepth, Sem.run_bind, Sem.run_pure, eq_map hu 9999 w, Result.andThen_ok])) hK (vr_boolI false)
        · exact Comes.is h (d_bin ha (by rw [ey, e1]) (by rw [ez, e2]) guard_map (by simp only [binOp, Op.equal, Op.maxDepth, Sem.run_bind, Sem.run_pure, eq_map hu 9999 w, Result.andThen_ok])) hK (vr_boolI (!false))
        · cases hK
    · cases hK
  · cases hK
end
end Go.Mx

/- Literals. -/
namespace Go.Mx
open Go Go.RowKit Go.Sx
variable [Glb]
set_option linter.unusedSectionVars false

section
variable {R : Type} {P : Program} {W : Nat → Prop} {S : List AO} {ρ : Nat → Geo} {w : World} {a : Act}
variable {d : Option Nat} {ty T' T2 : TypeId} {pos : String} {af : Array Edge} {g : Option (Nat × Bool)} {y z : Operand} {K : KV R} {r : R}
/-- the parts of a literal, evaluated -/
def Parts (x : Cx) (a : Act) (ps : List (Nat × Operand)) (vs : List (Nat × AV)) : Prop := A2 (fun p q => q.1 = p.1 ∧ VR x q.2 (a.eval p.2)) ps vs
theorem partsA_ok {x : Cx} (hg : GlR x) {s : Slots} (hs : SlR x s a) : ∀ {ps : List (Nat × Operand)} {vs : List (Nat × AV)}, partsA s ps = some vs → Parts x a ps vs
  | [], vs, h => by obtain rfl := Option.some.inj h; exact .nil
  | (i, o) :: ps, vs, h => by
    rw [partsA] at h
    split at h
    · rename_i v hv
      split at h
      · rename_i l hl
        obtain rfl := Option.some.inj h
        exact .cons ⟨rfl, ev_ok hg hs hv⟩ (partsA_ok hg hs hl)
      · cases h
    · cases h
theorem places_ok : ∀ {fs : List Field}, (fs.all fun f => (P.info? f.type).isSome) = true → ∃ pl, fs.mapM (fun (f : Field) => (P.info? f.type).map fun i => (f.offset, i.size)) = some pl ∧ ∀ (i : Nat) (f : Field) (j : TypeInfo), fs[i]? = some f → P.info? f.type = some j → pl[i]? = some (f.offset, j.size)
  | [], _ => ⟨[], rfl, fun i f j h => by simp at h⟩
  | f :: fs, h => by
    rw [List.all_cons, Bool.and_eq_true] at h
    obtain ⟨j, hj⟩ := Option.isSome_iff_exists.1 h.1
    obtain ⟨pl, h1, h2⟩ := places_ok h.2
    refine ⟨(f.offset, j.size) :: pl, by simp [List.mapM_cons, hj, h1], fun i f' j' hi hj' => ?_⟩
    cases i with
    | zero =>
      obtain rfl : f = f' := Option.some.inj hi
      rw [hj] at hj'
      obtain rfl := Option.some.inj hj'
      rfl
    | succ i => exact h2 i f' j' hi hj'
theorem fill_step {x : Cx} {place : Nat → Option (Nat × Nat)} {cells : List Value} {i off : Nat} {v : AV} {us : List Value} {rest : List (Nat × Value)} (hp : place i = some (off, us.length)) (hc : CR x v us) (hs : off + us.length ≤ cells.length) :
    Instr.fill place cells.toArray ((i, form v.isAgg us) :: rest) = Instr.fill place (put cells off us).toArray rest := by
  have hf := cr_form hc
  rw [fill_one place cells.toArray i _ rest hp (by rw [hf]; simp) (by simpa using hs), hf]
  rfl
theorem buildF_ok {x : Cx} {fs : List Field} {pl : List (Nat × Nat)} (hpl : ∀ (i : Nat) (f : Field) (j : TypeInfo), fs[i]? = some f → P.info? f.type = some j → pl[i]? = some (f.offset, j.size)) : ∀ (ps : List (Nat × Operand)) (vs : List (Nat × AV)) (z : AV) (cs : List Value) {K : AV → Option R}, Parts x a ps vs → buildF P T' fs vs z K = some r → CR x z cs →
    ∃ v us, K v = some r ∧ CR x v us ∧ Instr.fill (pl.toArray[·]?) cs.toArray (ps.map fun p => (p.1, a.eval p.2)) = some us.toArray
  | [], vs, z, cs, K, hp, h, hc => by
    cases hp
    unfold buildF at h
    exact ⟨z, cs, h, hc, rfl⟩
  | (i, o) :: ps, vs, z, cs, K, hp, h, hc => by
    cases hp with
    | cons h1 h2 =>
      rename_i q vs
      obtain ⟨i', v⟩ := q
      obtain ⟨rfl, hv⟩ := h1
      unfold buildF at h
      split at h
      · rename_i f st hf hst
        cases hk : Nat.beq (offs st) f.offset && szOk P f.type v.sz && v.plain with
        | false => rw [hk] at h; cases h
        | true =>
          rw [hk, cond_true] at h
          simp only [Bool.and_eq_true] at hk
          obtain ⟨⟨k1, k2⟩, k3⟩ := hk
          have k1 := Nat.eq_of_beq_eq_true k1
          obtain ⟨us, hu, eu⟩ := vr_cr hv k3
          obtain ⟨z', m1, m2, m3⟩ := setK_ok st z cs v us h hc hu
          have hsz : ∃ j, P.info? f.type = some j ∧ j.size = us.length := by
            unfold szOk at k2
            split at k2
            · rename_i j hj; exact ⟨j, hj, (Nat.eq_of_beq_eq_true k2).trans (cr_len hu).symm⟩
            · cases k2
          obtain ⟨j, hj, hjs⟩ := hsz
          have hpi := hpl i' f j hf hj
          obtain ⟨v', us', n1, n2, n3⟩ := buildF_ok hpl ps vs z' _ h2 m1 m2
          refine ⟨v', us', n1, n2, ?_⟩
          rw [List.map_cons]
          show Instr.fill _ _ ((i', a.eval o) :: _) = _
          have eu : a.eval o = form v.isAgg us := eu
          rw [eu, fill_step (off := offs st) (by rw [k1, ← hjs]; simpa using hpi) hu m3]
          exact n3
      · cases h
theorem buildE_ok {x : Cx} {e : TypeId} {s : Nat} : ∀ (ps : List (Nat × Operand)) (vs : List (Nat × AV)) (z : AV) (cs : List Value) {K : AV → Option R}, Parts x a ps vs → buildE P e s vs z K = some r → CR x z cs →
    ∃ v us, K v = some r ∧ CR x v us ∧ Instr.fill (fun i => some (i * s, s)) cs.toArray (ps.map fun p => (p.1, a.eval p.2)) = some us.toArray
  | [], vs, z, cs, K, hp, h, hc => by
    cases hp
    unfold buildE at h
    exact ⟨z, cs, h, hc, rfl⟩
  | (i, o) :: ps, vs, z, cs, K, hp, h, hc => by
    cases hp with
    | cons h1 h2 =>
      rename_i q vs
      obtain ⟨i', v⟩ := q
      obtain ⟨rfl, hv⟩ := h1
      unfold buildE at h
      cases hk : Nat.beq v.sz s && v.plain with
      | false => rw [hk] at h; cases h
      | true =>
        rw [hk, cond_true] at h
        simp only [Bool.and_eq_true] at hk
        obtain ⟨k1, k3⟩ := hk
        have k1 := Nat.eq_of_beq_eq_true k1
        obtain ⟨us, hu, eu⟩ := vr_cr hv k3
        obtain ⟨z', m1, m2, m3⟩ := setK_ok [.idx i' s] z cs v us h hc hu
        obtain ⟨v', us', n1, n2, n3⟩ := buildE_ok ps vs z' _ h2 m1 m2
        refine ⟨v', us', n1, n2, ?_⟩
        rw [List.map_cons]
        show Instr.fill _ _ ((i', a.eval o) :: _) = _
        have eu : a.eval o = form v.isAgg us := eu
        have hl := cr_len hu
        rw [eu, fill_step (off := i' * s) (by rw [hl, k1]) hu m3]
        exact n3
theorem build_ok {ps : Array (Nat × Operand)} {vs : List (Nat × AV)} (h : Rel W S ρ w) (hp : Parts (cx W S ρ w) a ps.toList vs) (hK : buildA P T' vs S K = some r) : Comes P W S ρ w ⟨d, .build T' ps, ty, pos, af, g⟩ a K r := by
  unfold buildA at hK
  obtain ⟨z, i, zv, h1, h2, h3, hK⟩ := zerK_ok (x := cx W S ρ w) hK
  have fin : ∀ {v : AV} {us : List Value}, K v S = some r → CR (cx W S ρ w) v us → v.isAgg = true → P.built T' (ps.toList.map fun p => (p.1, a.eval p.2)) = some us.toArray → Comes P W S ρ w ⟨d, .build T' ps, ty, pos, af, g⟩ a K r := by
    intro v us k1 k2 k3 k4
    have := run_build w T' (ps.map fun p => (p.1, a.eval p.2)) us.toArray (by simpa using k4)
    refine Comes.is h (Does.val (v := .agg us.toArray) (by simp only [execOp, this, Sem.run_bind, Sem.run_pure, Result.andThen_ok])) k1 ?_
    have := cr_vr k2
    rw [k3] at this
    exact this
  split at hK
  · rename_i fs hu
    cases ha : fs.toList.all fun f => (P.info? f.type).isSome with
    | false => rw [ha] at hK; cases hK
    | true =>
      rw [ha, cond_true] at hK
      obtain ⟨pl, p1, p2⟩ := places_ok ha
      obtain ⟨v, us, k1, k2, k3⟩ := buildF_ok p2 ps.toList vs z _ hp hK h3
      have hz : zv.cells = zv.cells.toList.toArray := (Array.toArray_toList (xs := zv.cells)).symm
      rw [← hz] at k3
      cases hg : v.isAgg with
      | false => rw [hg] at k1; cases k1
      | true => rw [hg] at k1; exact fin k1 k2 hg (by unfold Program.built; rw [h1, hu]; simp only [h2, p1]; exact k3)
  · rename_i n e hu
    split at hK
    · rename_i j hj
      obtain ⟨v, us, k1, k2, k3⟩ := buildE_ok ps.toList vs z _ hp hK h3
      have hz : zv.cells = zv.cells.toList.toArray := (Array.toArray_toList (xs := zv.cells)).symm
      rw [← hz] at k3
      cases hg : v.isAgg with
      | false => rw [hg] at k1; cases k1
      | true => rw [hg] at k1; exact fin k1 k2 hg (by unfold Program.built; rw [h1, hu]; simp only [h2, hj]; exact k3)
    · cases hK
  · cases hK
end
end Go.Mx
