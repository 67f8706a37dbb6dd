/- Own work. A part of the proof of a law of this seat: a part -/
import Derived.Test.YtidhcbnplgbnoaaMx14
/- Elements and fields of values; lengths; operations that choose. -/
namespace Go.Mx
open Go Go.RowKit Go.Sx

section
variable {R : Type} {P : Program} {W : Nat → Prop} {S : List AO} {ρ : Nat → Geo} {w : World} {a : Act}
variable {d : Option Nat} {ty T' T2 : TypeId} {pos : String} {af : Array Edge} {g : Option (Nat × Bool)} {y z : Operand} {K : KV R} {r : R}
theorem part_run {x : Cx} {t : TypeId} {u : AV} {us cs : List Value} {o : Nat} (ho : loadOk P t u = true) (hc : CR x u us) (hs : ∀ j c, us[j]? = some c → cs[o + j]? = some c) (w : World) : (part t cs.toArray o).run P w = .ok (form u.isAgg us) w := by
  obtain ⟨h1, h2⟩ := loadOk_ok ho
  cases hg : u.isAgg with
  | true =>
    rw [hg] at h1
    have hl := cr_len hc
    have hsz := run_size (h2 hg) (P := P)
    simp only [part, Sem.run_bind, run_agg h1, Result.andThen_ok, if_true, hsz, Sem.run_pure]
    congr 2
    apply Array.ext'
    rw [Array.toList_extract]
    apply List.ext_getElem?
    intro k
    show (List.extract cs o (o + u.sz))[k]? = us[k]?
    rw [List.extract_eq_take_drop, List.getElem?_take, List.getElem?_drop]
    by_cases hk : k < u.sz
    · rw [if_pos (by omega)]
      rw [List.getElem?_eq_getElem (l := us) (by omega)]
      exact hs k _ (List.getElem?_eq_getElem (by omega))
    · rw [if_neg (by omega), List.getElem?_eq_none (by omega)]
  | false =>
    rw [hg] at h1
    have hl1 : us.length = 1 := by rw [cr_len hc]; exact agg_sz hc hg
    obtain ⟨c, rfl⟩ : ∃ c, us = [c] := List.length_eq_one_iff.1 hl1
    have := hs 0 c rfl
    rw [Nat.add_zero] at this
    simp [part, run_agg h1, this, form]
theorem index_ok {v : AV} {k : IntKind} {i : Int} (h : Rel W S ρ w) (hd : a.defers = []) (hy : VR (cx W S ρ w) v (a.eval y)) (hz : a.eval z = .int k i) (hK : indexA P T' v i S K = some r) : Comes P W S ρ w ⟨d, .index T' y z, ty, pos, af, g⟩ a K r := by
  unfold indexA at hK
  split at hK
  · rename_i s
    have ey := vr_str hy
    split at hK
    · rename_i hT
      obtain ⟨h0, hK⟩ := ck_elim hK
      obtain ⟨b, hb, hK⟩ := bind_elim hK
      have ha := bnd_has (a := a) (Op1 y + Op1 z) hd
      refine Comes.is h (d_strIndex ha hT (by rw [bnd_ev (by omega), ey]) (by rw [bnd_ev (by omega), hz]) h0) hK ?_
      rw [List.getD_eq_getElem?_getD, hb]
      exact vr_intI _ _
    · cases hK
  · rename_i m t xs
    split at hK
    · rename_i n e hu
      cases hk : szOk P e t.sz with
      | false => rw [hk] at hK; cases hK
      | true =>
        rw [hk] at hK
        obtain ⟨h0, hK⟩ := ck_elim hK
        obtain ⟨z', hz', hK⟩ := bind_elim hK
        obtain ⟨hi, rfl⟩ := List.getElem?_eq_some_iff.1 hz'
        cases ho : loadOk P e (.dat t xs[i.toNat]) with
        | false => rw [ho] at hK; cases hK
        | true =>
          rw [ho] at hK
          obtain ⟨cs, hr, ey⟩ := vr_dat hy
          have hr : xs.length = m ∧ Els (t.kd.K (cx W S ρ w).A (cx W S ρ w).h) xs cs := hr
          obtain ⟨c, hKc, hg⟩ := hr.2.get (fun _ _ h => kd_len h) i.toNat hi
          have hp := part_run (P := P) (o := i.toNat * t.sz) ho (cr_dat.2 hKc) hg w
          have ey : a.eval y = .agg cs.toArray := ey
          refine Comes.is h (Does.val ?_) hK (cr_vr (cr_dat.2 hKc))
          simp only [execOp, ey, hz, Instr.index, asIntOf, Sem.run_bind, Sem.run_pure, Result.andThen_ok, run_underlying hu, h0, and_self, if_true, run_size hk, hp]
    · cases hK
  · cases hK
theorem field_ok {i : Nat} {v : AV} (h : Rel W S ρ w) (hy : VR (cx W S ρ w) v (a.eval y)) (hK : (match some v, fldsteps P T' i with
    | some v, some st => cond (fldOk P T' i st && v.isAgg) (match fldTyp P T' i with
      | some ft => getK v st fun u => cond (loadOk P ft u) (K u S) none
      | none => none) none
    | _, _ => none) = some r) : Comes P W S ρ w ⟨d, .field T' y i, ty, pos, af, g⟩ a K r := by
  split at hK
  · rename_i v' st hv hst
    obtain rfl := Option.some.inj hv
    cases hf : fldOk P T' i st && v.isAgg with
    | false => rw [hf] at hK; cases hK
    | true =>
      rw [hf, cond_true] at hK
      rw [Bool.and_eq_true] at hf
      obtain ⟨fs, f, j, h1, h2, h3, h4, s, h5⟩ := fldOk_ok hf.1
      have hft : fldTyp P T' i = some f.type := by unfold fldTyp; rw [h1]; simp only [h2]
      rw [hft] at hK
      have hp : v.plain = true := by cases v <;> first | rfl | cases hf.2
      obtain ⟨cs, hc, ey⟩ := vr_cr hy hp
      obtain ⟨u, us, k1, k2, k3, k4⟩ := getK_ok st v cs hK hc (cr_len hc)
      cases ho : loadOk P f.type u with
      | false => rw [ho] at k1; cases k1
      | true =>
        rw [ho] at k1
        rw [h3] at k4
        have hpr := part_run (P := P) ho k2 k4 w
        rw [hf.2] at ey
        have ey : a.eval y = .agg cs.toArray := ey
        refine Comes.is h (Does.val ?_) k1 (cr_vr k2)
        simp [execOp, ey, Instr.field, run_underlying h1, h2, asAgg, hpr]
  · cases hK
theorem slen_ok {v : AV} {n : Nat} (h : Rel W S ρ w) (hy : VR (cx W S ρ w) v (a.eval y)) (hn : slen S v = some n) : ∃ q c, a.eval y = .slice q n c := by
  unfold slen at hn
  split at hn
  · obtain rfl := Option.some.inj hn
    obtain ⟨cs, hr, e⟩ := vr_dat hy
    obtain ⟨q, c, e2, _⟩ := hr
    exact ⟨q, c, by rw [e, e2]; rfl⟩
  · obtain rfl := Option.some.inj hn
    obtain ⟨cs, e, hc, _⟩ := hy
    rw [CR] at hc
    obtain ⟨p, c, e2, _⟩ := hc
    exact ⟨some p, c, by rw [e, e2]; rfl⟩
  · obtain rfl := Option.some.inj hn
    exact ⟨none, 0, vr_nils hy⟩
  · obtain rfl := Option.some.inj hn
    obtain ⟨cs, e, hc, _⟩ := hy
    rw [CR] at hc
    obtain ⟨q, e2⟩ := hc
    exact ⟨q, 0, by rw [e, e2]; rfl⟩
  · split at hn
    · rename_i hi
      obtain rfl := Option.some.inj hn
      obtain ⟨cs, e, hc, _⟩ := hy
      rw [CR] at hc
      obtain ⟨g1, _⟩ := row_lies h hi
      exact ⟨_, _, by rw [e, hc.2, ← g1]; rfl⟩
    · cases hn
  · obtain rfl := Option.some.inj hn
    obtain ⟨cs, e, hc, _⟩ := hy
    rw [CR] at hc
    exact ⟨_, _, by rw [e, hc.2.2]; rfl⟩
  · obtain rfl := Option.some.inj hn
    obtain ⟨cs, e, hc, _⟩ := hy
    rw [CR] at hc
    exact ⟨_, _, by rw [e, hc.2.2]; rfl⟩
  · obtain rfl := Option.some.inj hn
    obtain ⟨cs, e, hc, _⟩ := hy
    rw [CR] at hc
    obtain ⟨_, _, q, c, _, _, _, e2⟩ := hc
    exact ⟨q, c, by rw [e, e2]; rfl⟩
  · cases hn
end
end Go.Mx
