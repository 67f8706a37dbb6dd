/- Own work. A part of the proof of a law of this seat: a part -/
import Derived.Test.YtidhcbnplgbnoaaMx9
/- Variables in memory: made, read, written. -/
namespace Go.Mx
open Go Go.RowKit Go.Sx

section
variable {x : Cx}
theorem eqV_ok {u v : Value} (h : eqV u v = true) : u = v := by
  unfold eqV at h
  split at h <;> simp_all [Nat.beq_eq]
theorem eqVL_ok : ∀ {l m : List Value}, eqVL l m = true → l = m
  | [], [], _ => rfl
  | a :: l, b :: m, h => by
    rw [eqVL, Bool.and_eq_true] at h
    rw [eqV_ok h.1, eqVL_ok h.2]
  | [], _ :: _, h => by cases h
  | _ :: _, [], h => by cases h
theorem encL_ok {α : Type} {e : α → Option (List Value)} {Q : α → List Value → Prop} (he : ∀ y l, e y = some l → Q y l) : ∀ {xs : List α} {cs : List Value}, encT.encL e xs = some cs → Els Q xs cs
  | [], cs, h => by obtain rfl := Option.some.inj h; exact .nil
  | y :: r, cs, h => by
    rw [encT.encL] at h
    split at h
    · rename_i l hl
      split at h
      · rename_i m hm
        obtain rfl := Option.some.inj h
        exact .cons (he y l hl) (encL_ok he hm)
      · cases h
    · cases h
theorem encT_ok {A : Nat → Prop} {hp : Array Obj} : ∀ (t : T) (d : t.den) (cs : List Value), encT t d = some cs → t.kd.K A hp d cs := by
  intro t
  induction t with
  | one t ih => exact ih
  | pair a b iha ihb =>
    intro d cs h
    rw [encT] at h
    split at h
    · rename_i l hl
      split at h
      · rename_i m hm
        obtain rfl := Option.some.inj h
        exact ⟨l, m, rfl, iha _ _ hl, ihb _ _ hm⟩
      · cases h
    · cases h
  | arr n t ih =>
    intro d cs h
    rw [encT] at h
    cases hn : Nat.beq d.length n with
    | false => rw [hn] at h; cases h
    | true =>
      rw [hn] at h
      exact ⟨Nat.eq_of_beq_eq_true hn, encL_ok ih h⟩
  | sl t _ =>
    intro d cs h
    cases d with
    | nil =>
      have h : some [Value.slice none 0 0] = some cs := h
      obtain rfl := Option.some.inj h
      exact ⟨none, 0, rfl, Raw.nil _ _ _ none 0 (Nat.zero_le _)⟩
    | cons _ _ => cases h
  | fn => intro d cs h; cases h
  | _ => intro d cs h; obtain rfl := Option.some.inj h; exact rfl
theorem encA_ok : ∀ (v : AV) (cs : List Value), encA v = some cs → CR x v cs := by
  intro v
  induction v using AV.rec (motive_2 := fun _ => True) with
  | dat t d => intro cs h; exact cr_dat.2 (encT_ok t d cs h)
  | pr a b ha hb =>
    intro cs h
    rw [encA] at h
    split at h
    · rename_i l hl
      split at h
      · rename_i m hm
        obtain rfl := Option.some.inj h
        rw [CR]
        exact ⟨l, m, rfl, ha l hl, hb m hm⟩
      · cases h
    · cases h
  | one a ha => intro cs h; exact cr_oneI.2 (ha cs h)
  | nilp => intro cs h; obtain rfl := Option.some.inj h; rw [CR]
  | nils => intro cs h; obtain rfl := Option.some.inj h; rw [CR]
  | nilm => intro cs h; obtain rfl := Option.some.inj h; rw [CR]
  | nilf => intro cs h; obtain rfl := Option.some.inj h; rw [CR]
  | nilI => intro cs h; obtain rfl := Option.some.inj h; rw [CR]
  | nil => trivial
  | cons _ _ _ _ => trivial
  | _ => intro cs h; cases h
/-! ### what a type tells -/
variable {P : Program} {R : Type} {r : R}
theorem zOk_ok {t : TypeId} {v : AV} (h : zOk P t v = true) : ∃ i z, P.info? t = some i ∧ i.zero = some z ∧ CR x v z.cells.toList := by
  unfold zOk at h
  split at h
  · rename_i i hi
    split at h
    · rename_i z cs hz he
      exact ⟨i, z, hi, hz, by rw [eqVL_ok h]; exact encA_ok v cs he⟩
    · cases h
  · cases h
theorem zerK_ok {t : TypeId} {K : AV → Option R} (h : zerK P t K = some r) : ∃ v i z, P.info? t = some i ∧ i.zero = some z ∧ CR x v z.cells.toList ∧ K v = some r := by
  unfold zerK at h
  split at h
  · rename_i v hv
    cases hz : zOk P t v with
    | false => rw [hz] at h; cases h
    | true =>
      rw [hz] at h
      obtain ⟨i, z, h1, h2, h3⟩ := zOk_ok (x := x) hz
      exact ⟨v, i, z, h1, h2, h3, h⟩
  · cases h
theorem run_zero {t : TypeId} {i : TypeInfo} {z : Value} (hi : P.info? t = some i) (hz : i.zero = some z) (w : World) : (zeroValue t).run P w = .ok z w := by
  simp [zeroValue, typeInfo, hi, hz]
theorem run_size {t : TypeId} {n : Nat} (h : szOk P t n = true) (w : World) : (sizeOf t).run P w = .ok n w := by
  unfold szOk at h
  split at h
  · rename_i i hi
    have := Nat.eq_of_beq_eq_true h
    subst this
    simp [sizeOf, typeInfo, hi]
  · cases h
theorem run_agg {t : TypeId} {b : Bool} (h : aggB P t = some b) (w : World) : (isAgg t).run P w = .ok b w := by
  unfold aggB at h
  cases hu : P.underlying t with
  | none => rw [hu] at h; cases h
  | some u =>
    rw [hu] at h
    simp only [isAgg, Sem.run_bind, run_underlying hu, Result.andThen_ok]
    cases u <;> (obtain rfl := Option.some.inj h; simp)
theorem loadOk_ok {t : TypeId} {u : AV} (h : loadOk P t u = true) : aggB P t = some u.isAgg ∧ (u.isAgg = true → szOk P t u.sz = true) := by
  unfold loadOk at h
  split at h
  · rename_i ha
    rw [Bool.and_eq_true] at h
    exact ⟨by rw [ha, h.1], fun _ => h.2⟩
  · rename_i ha
    have : u.isAgg = false := by simpa using h
    exact ⟨by rw [ha, this], fun h2 => by rw [this] at h2; cases h2⟩
  · cases h
end

section
variable {R : Type} {P : Program} {W : Nat → Prop} {S : List AO} {ρ : Nat → Geo} {w : World} {a : Act}
variable {d : Option Nat} {ty T' T2 : TypeId} {pos : String} {af : Array Edge} {g : Option (Nat × Bool)} {y z : Operand} {K : KV R} {r : R}
/-- A new variable. -/
theorem Aft.box (h : Rel W S ρ w) {w' : World} {b : Nat} {ty : TypeId} {v : AV} {cs : List Value} (hb : w.heap.size ≤ b) (hx : Bx w' b ty cs) (hf : Fr w w' No) (hc : CR (cx W S ρ w) v cs) :
    Aft W S ρ w (S ++ [.box ty v true]) (upd ρ S.length ⟨some ⟨b, 0, none⟩, 0, 1, 0⟩) w' :=
  Aft.push h hf (fun _ p hp => by obtain rfl := Option.some.inj hp; exact hb) (fun le => ⟨b, cs, rfl, hc.up le, cr_len hc, hx, fun h => by cases h⟩)
theorem box_vr {w' : World} {b : Nat} {o : AO} : VR (cx W (S ++ [o]) (upd ρ S.length ⟨some ⟨b, 0, none⟩, 0, 1, 0⟩) w') (.ptr S.length []) (.pointer (some ⟨b, 0, none⟩)) :=
  vr_ptrI (by show S.length < (S ++ [o]).length; simp) (by show (upd ρ S.length _ S.length).a = _; rw [upd_same])
theorem alloc_ok (h : Rel W S ρ w) (hK : zerK P T' (fun v => K (.ptr S.length []) (S ++ [.box T' v true])) = some r) : Comes P W S ρ w ⟨d, .alloc T', ty, pos, af, g⟩ a K r := by
  obtain ⟨v, i, z, h1, h2, h3, hK⟩ := zerK_ok (x := cx W S ρ w) hK
  refine (d_alloc (run_zero h1 h2) rfl).mono fun u w' ⟨b, hv, hb, hl, hx, hf⟩ => ⟨_, _, _, hK, Aft.box h hb hx hf h3, by rw [hv]; exact box_vr⟩
theorem box_ok {v : AV} (h : Rel W S ρ w) (hd : a.defers = []) (hy : VR (cx W S ρ w) v (a.eval y)) (hK : cond v.plain (K (.ptr S.length []) (S ++ [.box T' v true])) none = some r) : Comes P W S ρ w ⟨d, .box T' y, ty, pos, af, g⟩ a K r := by
  cases hp : v.plain with
  | false => rw [hp] at hK; cases hK
  | true =>
    rw [hp] at hK
    obtain ⟨cs, hc, e⟩ := vr_cr hy hp
    have ha := bnd_has (a := a) (Op1 y) hd
    refine (d_box ha (bnd_ev (Nat.le_refl _)) (cs := cs) (by rw [e]; exact cr_form hc)).mono fun u w' ⟨b, hv, hb, hl, hx, hf⟩ => ⟨_, _, _, hK, Aft.box h hb hx hf hc, by rw [hv]; exact box_vr⟩
theorem lies_at {b o : Nat} {cs : List Value} (h : Lies w.heap b o cs) : At w b o cs := by
  obtain ⟨C, T, fr, e, hc⟩ := h
  intro j v hj
  simp only [World.cell?, e]
  exact hc j v hj
theorem bx_lies {b : Nat} {ty : TypeId} {cs : List Value} (h : Bx w b ty cs) : Lies w.heap b 0 cs := ⟨_, _, _, h, fun j v hj => by rw [Nat.zero_add]; simpa using hj⟩
theorem lies_sub {hp : Array Obj} {b o m : Nat} {cs us : List Value} (h : Lies hp b o cs) (hs : ∀ j c, us[j]? = some c → cs[m + j]? = some c) : Lies hp b (o + m) us := by
  obtain ⟨C, T, fr, e, hc⟩ := h
  exact ⟨C, T, fr, e, fun j v hj => by have := hc _ _ (hs j v hj); rwa [← Nat.add_assoc] at this⟩
/-- What lies there is read. -/
theorem read_ok {u : AV} {us : List Value} {b o : Nat} (h : Rel W S ρ w) (hd : a.defers = []) (hy : a.eval y = .pointer (some ⟨b, o, none⟩)) (hl : Lies w.heap b o us) (hc : CR (cx W S ρ w) u us) (hK : cond (loadOk P T' u) (K u S) none = some r) :
    Comes P W S ρ w ⟨d, .load T' y, ty, pos, af, g⟩ a K r := by
  cases ho : loadOk P T' u with
  | false => rw [ho] at hK; cases hK
  | true =>
    rw [ho] at hK
    obtain ⟨h1, h2⟩ := loadOk_ok ho
    have ha := bnd_has (a := a) (Op1 y) hd
    have e1 : Sx.ev (bnd a (Op1 y)) y = some (.pointer (some ⟨b, o, none⟩)) := by rw [bnd_ev (Nat.le_refl _), hy]
    have hat := lies_at hl
    cases hg : u.isAgg with
    | true =>
      rw [hg] at h1
      refine Comes.is h (d_loadAgg ha e1 hat (run_agg h1) (run_size (h2 hg)) (cr_len hc)) hK ?_
      have := cr_vr hc
      rw [hg] at this
      exact this
    | false =>
      rw [hg] at h1
      have hl1 : us.length = 1 := by rw [cr_len hc]; exact agg_sz hc hg
      obtain ⟨c, rfl⟩ : ∃ c, us = [c] := List.length_eq_one_iff.1 hl1
      refine Comes.is h (d_load ha e1 (by have := hat 0 c rfl; rwa [Nat.add_zero] at this) (run_agg h1)) hK ?_
      have := cr_vr hc
      rw [hg] at this
      exact this
/-- the content of a row, as it lies -/
theorem row_lies {i : Nat} {e : TypeId} {t : T} {xs : List t.den} {m : Md} (h : Rel W S ρ w) (hi : S[i]? = some (.row e t xs m)) : (ρ i).n = xs.length ∧ (ρ i).s = t.sz ∧ xs.length ≤ (ρ i).c ∧ (ρ i).c ≤ maxLen ∧ ∃ cells, Els (t.kd.K (cx W S ρ w).A w.heap) xs cells ∧ (xs ≠ [] → ∃ b, (ρ i).a = some ⟨b, 0, none⟩ ∧ Lies w.heap b 0 cells) := by
  have r := h.ob i _ hi
  cases m with
  | own =>
    obtain ⟨h1, h2, h3⟩ := r
    refine ⟨h1, h2, ?_⟩
    · obtain ⟨cells, hr, he⟩ := h3
      rcases own_none hr with ⟨ha, hm, hcc⟩ | ⟨b, cur, ha, hg, hm, hcm, hs, ht⟩
      · have hx := List.length_eq_zero_iff.1 hm
        exact ⟨by rw [hm]; exact Nat.zero_le _, by rw [hcc]; exact Nat.zero_le _, cells, he, fun h => absurd hx h⟩
      · refine ⟨hm, hcm, cells, he, fun _ => ⟨b, ha, cur, e, (0, 0), hg, fun j v hj => ?_⟩⟩
        rw [Nat.zero_add]
        rw [← ht] at hj
        have hlt := (List.getElem?_eq_some_iff.1 hj).1
        rw [List.length_take] at hlt
        rw [List.getElem?_take, if_pos (by omega)] at hj
        simpa using hj
  | ro =>
    obtain ⟨h1, h2, h3, h4, cells, he, hl⟩ := r
    exact ⟨h1, h2, h3, h4, cells, he, fun hne => by obtain ⟨b, ha, _, hl⟩ := hl hne; exact ⟨b, ha, hl⟩⟩
  | fz =>
    obtain ⟨h1, h2, h3, h4, cells, he, hl⟩ := r
    exact ⟨h1, h2, h3, h4, cells, he, fun hne => by obtain ⟨b, ha, _, hl⟩ := hl hne; exact ⟨b, ha, hl⟩⟩
theorem load_ok {v : AV} (h : Rel W S ρ w) (hd : a.defers = []) (hy : VR (cx W S ρ w) v (a.eval y)) (hK : loadA P T' v S K = some r) : Comes P W S ρ w ⟨d, .load T' y, ty, pos, af, g⟩ a K r := by
  unfold loadA at hK
  split at hK
  · rename_i q p
    obtain ⟨hq, b, hb, e⟩ := vr_ptr hy
    split at hK
    · rename_i bt v m hi
      obtain ⟨b', cs, e1, hc, hl, hx, _⟩ := h.ob q _ hi
      have hbb : b' = b := by
        have hb : (ρ q).a = _ := hb
        rw [e1] at hb
        exact congrArg Addr.block (Option.some.inj hb)
      subst hbb
      obtain ⟨u, us, k1, k2, k3, k4⟩ := getK_ok p v cs hK hc hl
      refine read_ok h hd e ?_ k2 k1
      have := lies_sub (m := offs p) (bx_lies hx) k4
      rwa [Nat.zero_add] at this
    · rename_i e' t xs m hi
      obtain ⟨_, _, _, _, cells, he, hl⟩ := row_lies h hi
      split at hK
      · rename_i i s p
        cases hs : Nat.beq s t.sz with
        | false => rw [hs] at hK; cases hK
        | true =>
          rw [hs] at hK
          have hs := Nat.eq_of_beq_eq_true hs
          obtain ⟨x, hx, hK⟩ := bind_elim hK
          obtain ⟨hi', rfl⟩ := List.getElem?_eq_some_iff.1 hx
          obtain ⟨c, hKd, hg⟩ := he.get (fun _ _ h => kd_len h) i hi'
          obtain ⟨b', ha, hL⟩ := hl (by intro e; rw [e] at hi'; simp at hi')
          have hbb : b' = b := by
            have hb : (ρ q).a = _ := hb
            rw [ha] at hb
            exact congrArg Addr.block (Option.some.inj hb)
          subst hbb
          obtain ⟨u, us, k1, k2, k3, k4⟩ := getK_ok p _ c hK (cr_dat.2 hKd) (cr_len (cr_dat.2 hKd))
          refine read_ok h hd e ?_ k2 k1
          have := lies_sub (m := i * s + offs p) hL (us := us) (fun j v hj => by
            have := hg _ _ (k4 j v hj)
            rw [hs, Nat.add_assoc]
            exact this)
          rwa [Nat.zero_add] at this
      · cases hK
    · cases hK
  · rename_i e' d
    obtain ⟨b, o, c, e, _, hl, hK'⟩ := vr_rdp hy
    exact read_ok h hd e hl (cr_dat.2 hK') hK
  · cases hK
end
end Go.Mx
