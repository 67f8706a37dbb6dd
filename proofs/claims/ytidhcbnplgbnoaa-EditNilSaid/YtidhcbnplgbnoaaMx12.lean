/- Own work. A part of the proof of a law of this seat: a part -/
import Derived.Test.YtidhcbnplgbnoaaMx11
/- Stores. -/
namespace Go.Mx
open Go Go.RowKit Go.Sx

section
variable {W : Nat → Prop} {S S' : List AO} {ρ : Nat → Geo} {w : World}
theorem cr_mkpr' {x : Cx} {a b : AV} {cs : List Value} (h : CR x (.pr a b) cs) : CR x (frzP.mkpr' a b) cs := by
  unfold frzP.mkpr'
  split
  · exact h
  · exact cr_pr h
theorem frzP_ok : ∀ (v : AV) {S S' : List AO} {v' : AV} {cs : List Value}, Rel W S ρ w → frzP v S = (v', S') → CR (cx W S ρ w) v cs → Aft W S ρ w S' ρ w ∧ CR (cx W S' ρ w) v' cs ∧ ∀ j, j ∉ v.ids → S'[j]? = S[j]? := by
  intro v
  induction v using AV.rec (motive_2 := fun _ => True) with
  | pr a b iha ihb =>
    intro S S' v' cs h hf hc
    unfold frzP at hf
    obtain ⟨rfl, rfl⟩ := Prod.mk.inj hf
    rw [CR] at hc
    obtain ⟨c1, c2, e, h1, h2⟩ := hc
    obtain ⟨A1, k1, n1⟩ := iha h (S' := (frzP a S).2) rfl h1
    obtain ⟨A2, k2, n2⟩ := ihb A1.rel (S' := (frzP b (frzP a S).2).2) rfl (h2.up A1.le)
    refine ⟨A1.trans A2, cr_mkpr' (by rw [CR]; exact ⟨c1, c2, e, k1.up A2.le, k2⟩), fun j hj => ?_⟩
    rw [AV.ids, List.mem_append] at hj
    exact (n2 j (fun h => hj (.inr h))).trans (n1 j (fun h => hj (.inl h)))
  | one a iha =>
    intro S S' v' cs h hf hc
    unfold frzP at hf
    obtain ⟨rfl, rfl⟩ := Prod.mk.inj hf
    obtain ⟨A1, k1, n1⟩ := iha h (S' := (frzP a S).2) rfl (cr_oneI.1 hc)
    exact ⟨A1, cr_one k1, fun j hj => n1 j (by rw [AV.ids] at hj; exact hj)⟩
  | nil => trivial
  | cons _ _ _ _ => trivial
  | _ => intro S S' v' cs h hf hc; exact frz_ok h hf hc
theorem frz_agg : ∀ {u u' : AV} {S S1 : List AO}, frzP u S = (u', S1) → u.plain = true → u.isAgg = u'.isAgg := by
  intro u u' S S1 h hp
  have mk : ∀ a b : AV, (mkpr a b).isAgg = true := fun a b => by unfold mkpr; split <;> rfl
  have mk1 : ∀ a : AV, (mkone a).isAgg = true := fun a => by unfold mkone; split <;> rfl
  have leaf : frz S u = (u', S1) → u.isAgg = u'.isAgg := by
    intro h
    unfold frz at h
    split at h
    · split at h <;> (obtain ⟨rfl, _⟩ := Prod.mk.inj h; rfl)
    · split at h <;> (obtain ⟨rfl, _⟩ := Prod.mk.inj h; rfl)
    · split at h <;> (obtain ⟨rfl, _⟩ := Prod.mk.inj h; rfl)
    · split at h <;> (obtain ⟨rfl, _⟩ := Prod.mk.inj h; rfl)
    · obtain ⟨rfl, _⟩ := Prod.mk.inj h; rfl
    · obtain ⟨rfl, _⟩ := Prod.mk.inj h; rfl
  cases u with
  | pr a b =>
    unfold frzP at h
    obtain ⟨rfl, _⟩ := Prod.mk.inj h
    show true = _
    unfold frzP.mkpr'
    split
    · rfl
    · exact (mk _ _).symm
  | one a =>
    unfold frzP at h
    obtain ⟨rfl, _⟩ := Prod.mk.inj h
    exact (mk1 _).symm
  | _ => exact leaf h
theorem frzL_ok : ∀ (l : List AV) {S S' : List AO} {l' : List AV} {css : List (List Value)}, Rel W S ρ w → frzL l S = (l', S') → A2 (fun v cs => CR (cx W S ρ w) v cs) l css → Aft W S ρ w S' ρ w ∧ A2 (fun v cs => CR (cx W S' ρ w) v cs) l' css
  | [], S, S', l', css, h, hf, hc => by
    obtain ⟨rfl, rfl⟩ := Prod.mk.inj hf
    cases hc
    exact ⟨Aft.refl h, .nil⟩
  | v :: l, S, S', l', css, h, hf, hc => by
    unfold frzL at hf
    obtain ⟨rfl, rfl⟩ := Prod.mk.inj hf
    cases hc with
    | cons h1 h2 =>
      obtain ⟨A1, k1, _⟩ := frzP_ok v h (S' := (frzP v S).2) rfl h1
      have up : ∀ {l : List AV} {css : List (List Value)}, A2 (fun u cs => CR (cx W S ρ w) u cs) l css → A2 (fun u cs => CR (cx W (frzP v S).2 ρ w) u cs) l css := by
        intro l css hh
        induction hh with
        | nil => exact .nil
        | cons h1 _ ih => exact .cons (h1.up A1.le) ih
      obtain ⟨A2', k2⟩ := frzL_ok l A1.rel (S' := (frzL l (frzP v S).2).2) rfl (up h2)
      exact ⟨A1.trans A2', .cons (k1.up A2'.le) k2⟩
end

section
variable {R : Type} {P : Program} {W : Nat → Prop} {S : List AO} {ρ : Nat → Geo} {w : World} {a : Act}
variable {d : Option Nat} {ty T' T2 : TypeId} {pos : String} {af : Array Edge} {g : Option (Nat × Bool)} {y z : Operand} {K : KV R} {r : R}
theorem vr_undef {x : Cx} : VR x .undef undef := rfl
/-- The store itself: into a block that is known. -/
theorem store_at {b o : Nat} {TB : TypeId} {cs us : List Value} {v : AV} (hd : a.defers = []) (hy : a.eval y = .pointer (some ⟨b, o, none⟩)) (hb : Bx w b TB cs) {x : Cx} (hc : CR x v us) (hz : a.eval z = form v.isAgg us) (hs : szOk P T' v.sz = true) (ho : o + us.length ≤ cs.length) :
    Does P ⟨d, .store T' y z, ty, pos, af, g⟩ a w (fun u w' => u = undef ∧ Bx w' b TB (put cs o us) ∧ Fr w w' (fun k => k = b)) := by
  have ha := bnd_has (a := a) (Op1 y + Op1 z) hd
  have e1 : Sx.ev (bnd a (Op1 y + Op1 z)) y = some (.pointer (some ⟨b, o, none⟩)) := by rw [bnd_ev (by omega), hy]
  have e2 : Sx.ev (bnd a (Op1 y + Op1 z)) z = some (form v.isAgg us) := by rw [bnd_ev (by omega), hz]
  have hl := cr_len hc
  rw [← hl] at hs
  obtain ⟨w', h1, h2, h3⟩ := Sx.run_store (P := P) (T := T') (o := o) hb (cr_form hc) (cr_cell v hc) (run_size hs) rfl ho
  exact Does.unit (w' := w') (by simp [execOp, hy, hz, Instr.storeAt, Instr.sureAddr, h1]) |>.mono fun u w'' ⟨e1, e2⟩ => by subst e1; subst e2; exact ⟨rfl, h2, h3⟩
/-- one's own row's block, whole -/
theorem own_bx {A : Nat → Prop} {e : TypeId} {t : T} {p : Option Addr} {c : Nat} {xs : List t.den} (h : Ow A w e t.kd p c xs) (hne : xs ≠ []) : ∃ b cur, p = some ⟨b, 0, none⟩ ∧ Bx w b e cur ∧ xs.length ≤ c ∧ c ≤ maxLen ∧ cur.length = c * t.kd.sz ∧ Els (t.kd.K A w.heap) xs (cur.take (xs.length * t.kd.sz)) := by
  obtain ⟨cells, hr, he⟩ := h
  rcases own_none hr with ⟨_, hm, _⟩ | ⟨b, cur, ha, hg, hm, hcm, hs, ht⟩
  · exact absurd (List.length_eq_zero_iff.1 hm) hne
  · exact ⟨b, cur.toList, ha, by unfold Bx; rw [Array.toArray_toList]; exact hg, hm, hcm, by simpa using hs, by rw [ht]; exact he⟩
theorem bx_own {A : Nat → Prop} {e : TypeId} {t : T} {c : Nat} {xs : List t.den} {b : Nat} {cur : List Value} (hb : Bx w b e cur) (hm : xs.length ≤ c) (hcm : c ≤ maxLen) (hs : cur.length = c * t.kd.sz) (he : Els (t.kd.K A w.heap) xs (cur.take (xs.length * t.kd.sz))) : Ow A w e t.kd (some ⟨b, 0, none⟩) c xs :=
  ⟨_, ⟨he.length (fun _ _ h => t.kd.len h), .inr ⟨b, c, cur.toArray, rfl, Nat.zero_le _, hb, hm, hcm, by simpa using hs, by simp⟩⟩, he⟩
theorem store_ok {v u : AV} (h : Rel W S ρ w) (hd : a.defers = []) (hy : VR (cx W S ρ w) v (a.eval y)) (hz : VR (cx W S ρ w) u (a.eval z)) (hK : storeA P T' v u S K = some r) : Comes P W S ρ w ⟨d, .store T' y z, ty, pos, af, g⟩ a K r := by
  unfold storeA at hK
  split at hK
  · rename_i q p
    obtain ⟨hq, b, hb, e⟩ := vr_ptr hy
    split at hK
    · rename_i bt v0 hi
      obtain ⟨b', cs, e1, hc, hl, hx, _⟩ := h.ob q _ hi
      have hbb : b' = b := by
        have hb : (ρ q).a = _ := hb
        rw [e1] at hb
        exact congrArg Addr.block (Option.some.inj hb)
      subst hbb
      cases hs : szOk P T' u.sz && u.plain with
      | false => rw [hs] at hK; cases hK
      | true =>
        rw [hs] at hK
        rw [Bool.and_eq_true] at hs
        obtain ⟨us, hu, ez⟩ := vr_cr hz hs.2
        obtain ⟨y', k1, k2, k3⟩ := setK_ok p v0 cs u us hK hc hu
        refine (store_at hd e hx hu ez hs.1 k3).mono fun u' w' ⟨eu, hb', hf⟩ => ?_
        refine ⟨_, _, ρ, k1, Aft.put h hi (hf.mono fun k _ hk => ⟨rfl, _, e1, hk.symm⟩) (fun _ => rfl) (fun le => ⟨b', _, e1, k2.up le, cr_len k2, hb', fun h => by cases h⟩), by rw [eu]; exact vr_undef⟩
    · rename_i e' t xs hi
      split at hK
      · rename_i i s p
        cases hs : Nat.beq s t.sz && !u.ids.contains q with
        | false => rw [hs] at hK; cases hK
        | true =>
          rw [hs] at hK
          rw [Bool.and_eq_true] at hs
          have hsz := Nat.eq_of_beq_eq_true hs.1
          have hnq : q ∉ u.ids := by simpa using hs.2
          obtain ⟨x, hx, hK⟩ := bind_elim hK
          obtain ⟨hi', rfl⟩ := List.getElem?_eq_some_iff.1 hx
          have hne : xs ≠ [] := by intro e; rw [e] at hi'; simp at hi'
          cases hfz : frzP u S with
          | mk u' S1 =>
            rw [hfz] at hK
            have hK : cond (szOk P T' u'.sz && u'.plain) (setK (.dat t xs[i]) p u' fun y => match dec t y with
              | some z => K .undef (S1.set q (.row e' t (xs.set i z) .own))
              | none => none) none = some r := hK
            cases hs2 : szOk P T' u'.sz && u'.plain with
            | false => rw [hs2] at hK; cases hK
            | true =>
              rw [hs2] at hK
              rw [Bool.and_eq_true] at hs2
              have hup : u.plain = true := by
                cases u with
                | tup l => obtain ⟨rfl, _⟩ := Prod.mk.inj hfz; cases hs2.2
                | undef => obtain ⟨rfl, _⟩ := Prod.mk.inj hfz; cases hs2.2
                | _ => rfl
              obtain ⟨us, hu, ez⟩ := vr_cr hz hup
              obtain ⟨A1, hu', hn⟩ := frzP_ok u h hfz hu
              have hi1 : S1[q]? = some (.row e' t xs .own) := (hn q hnq).trans hi
              obtain ⟨g1, g2, g3⟩ := A1.rel.ob q _ hi1
              · obtain ⟨b', cur, ea, hbx, hm, hcm, hcs, he⟩ := own_bx g3 hne
                have hbb : b' = b := by
                  have hb : (ρ q).a = _ := hb
                  rw [ea] at hb
                  exact congrArg Addr.block (Option.some.inj hb)
                subst hbb
                obtain ⟨c, hKc, hg⟩ := he.get (fun _ _ h => kd_len h) i hi'
                obtain ⟨y', k1, k2, k3⟩ := setK_ok p _ c u' us hK (cr_dat.2 hKc) hu'
                split at k1
                · rename_i z' hz'
                  have hKz := dec_ok t y' _ hz' k2
                  have hcl : c.length = t.sz := kd_len hKc
                  have hlen : (cur.take (xs.length * t.kd.sz)).length = xs.length * t.sz := by rw [he.length (fun _ _ h => kd_len h)]
                  have hm2 : i * t.sz + t.sz ≤ xs.length * t.sz := by
                    calc i * t.sz + t.sz = (i + 1) * t.sz := by rw [Nat.add_mul, Nat.one_mul]
                      _ ≤ xs.length * t.sz := Nat.mul_le_mul_right _ hi'
                  have hcur : xs.length * t.sz ≤ cur.length := by rw [← hlen, List.length_take]; exact Nat.min_le_right _ _
                  have ez' : a.eval z = form u'.isAgg us := by
                    rw [ez]
                    have hsu : u.isAgg = u'.isAgg := frz_agg hfz hup
                    rw [hsu]
                  have ho : i * t.sz + offs p + us.length ≤ cur.length := by omega
                  have e2 : a.eval y = .pointer (some ⟨b', i * t.sz + offs p, none⟩) := by rw [e, ← hsz]; rfl
                  refine (store_at hd e2 hbx hu' ez' hs2.1 ho).mono fun u'' w' ⟨eu, hb', hf⟩ => ?_
                  refine ⟨_, _, ρ, k1, A1.trans (Aft.put A1.rel hi1 (hf.mono fun k _ hk => ⟨rfl, _, ea, hk.symm⟩) (fun _ => rfl) (fun le => ⟨by rw [List.length_set]; exact g1, g2, ?_⟩)), by rw [eu]; exact vr_undef⟩
                  rw [ea]
                  refine bx_own hb' (by rw [List.length_set]; exact hm) hcm (by rw [put_len ho]; exact hcs) ?_
                  rw [List.length_set]
                  have ht : (put cur (i * t.sz + offs p) us).take (xs.length * t.kd.sz) = put (cur.take (xs.length * t.kd.sz)) (i * t.sz + offs p) us := by
                    conv => lhs; rw [← List.take_append_drop (xs.length * t.kd.sz) cur]
                    rw [put_fst (by rw [hlen]; omega), List.take_append_of_le_length (by rw [put_len (by rw [hlen]; omega)]; rw [hlen, T.kd_sz]; exact Nat.le_refl _), List.take_of_length_le (by rw [put_len (by rw [hlen]; omega)]; rw [hlen, T.kd_sz]; exact Nat.le_refl _)]
                  rw [ht, put_mid hcl hg (by rw [hlen]; exact hm2) k3]
                  exact (he.set (fun _ _ h => kd_len h) i hi' hKz).imp (fun _ _ hK => le.K (x := cx W S1 ρ w) hK)
                · cases k1
      · cases hK
    · cases hK
  · cases hK
end
end Go.Mx
