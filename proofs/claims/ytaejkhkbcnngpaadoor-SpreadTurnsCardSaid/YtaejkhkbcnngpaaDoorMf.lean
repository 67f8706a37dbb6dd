/- Own work. A part of the proof of a law of this seat: the abstract machine and its soundness. -/
import Derived.Test.YtaejkhkbcnngpaaDoorMe
import Derived.Test.YtaejkhkbcnngpaaDoorMb
import Derived.Test.YtaejkhkbcnngpaaDoorMd
import Derived.Laws.Externs
set_option linter.unusedVariables false
set_option linter.unusedSimpArgs false
set_option linter.unusedSectionVars false
namespace Go.Mx
open Go Go.RowKit Go.Sx
variable [Glb]
theorem Rel.weak {W W' : Nat → Prop} {S : List AO} {ρ : Nat → Geo} {w : World} (h : Rel W' S ρ w) (hW : ∀ k, W k → W' k) : Rel W S ρ w := by
  have le : (cx W' S ρ w).Le (cx W S ρ w) := ⟨Nat.le_refl _, fun _ _ _ => rfl, fun k _ hv => hv.elim (fun h => .inl (hW k h)) .inr, fun _ _ => rfl, Nat.le_refl _⟩
  refine ⟨fun i o hi => ?_, h.dj, fun k hk => h.wl k (hW k hk), fun k hk hw => h.wd k hk (hW k hw), h.gl.up le⟩
  exact (h.ob i o hi).up (O1 := No) le rfl rfl (Fr.refl w No) (fun _ b _ hn => ⟨fun h => h.elim, hn⟩) (fun _ _ h => h.elim) (fun _ _ _ h => h.elim)
section
variable {P : Program} {Γ : Sums} {all : List Oper} {D : Nat → Dat} {b : Nat → Bool}
variable {W : Nat → Prop} {ρ0 ρ : Nat → Geo} {w0 w : World} {N : Nat} {C : List AO} {L : Nat → Nat} {a : Act}
theorem Txt.readEnd (h : Txt P Γ all D) (hall : ∀ j, j < all.length → b j = true) {x : Nat} {q : AO} (hl : x < nO D all.length) (hq : Ob all D b x q) : (D all.length).s.ob[x]? = some q := by
  rcases hq with ⟨k, hk, hbk, hw, he, hmax⟩ | ⟨hno, ⟨hx0, he⟩ | ⟨hx0, rfl⟩⟩
  · rw [h.keeps (p := k + 1) (q := all.length) (h.wlt hk hw) hk (Nat.le_refl _) (fun k' h1 h2 hw' => hmax k' (by omega) h2 (hall k' h2) hw'), he]
  · rw [h.keeps (p := 0) (q := all.length) hx0 (Nat.zero_le _) (Nat.le_refl _) (fun k' h1 h2 hw' => hno k' h2 (hall k' h2) hw'), he]
  · exfalso
    rcases h.made (Nat.le_refl all.length) hl with h1 | ⟨j, h1, h2, h3, h4⟩
    · omega
    · exact hno j h1 (hall j h1) ⟨h2, .inr ⟨h3, h4⟩⟩
theorem DrI.final (h : Txt P Γ all D) (I : DrI P Γ all D W ρ0 w0 N b C ρ L a w) (hall : ∀ j, j < all.length → b j = true) :
    ∃ ρ', Aft W (D 0).s.ob ρ0 w0 (D all.length).s.ob ρ' w ∧ SlR (cx W (D all.length).s.ob ρ' w) (D all.length).s.sl a := by
  obtain ⟨f, hf, prt⟩ := part_of I (n := nO D all.length) (M := (D all.length).s.ob) (Nat.le_refl _) rfl (fun j o1 hj => by
    have hjl := (List.getElem?_eq_some_iff.1 hj).1
    obtain ⟨p, p', k1, _, _⟩ := I.obj j hjl
    have k2 := h.readEnd hall hjl k1
    rw [hj] at k2
    obtain rfl := Option.some.inj k2
    exact .inr ⟨o1, h.idsO (Nat.le_refl _) hj, k1, fun q' hq' => by have := h.readEnd hall hjl hq'; rw [hj] at this; exact (Option.some.inj this).symm, .inl rfl⟩)
  have hA : ∀ k, (cx W (D all.length).s.ob (fun j => ρ (L j)) w).A k → (cx W C ρ w).A k := fun k hk => hk.elim .inl (fun hk => .inr (prt.ownS hk))
  have ix : ∀ i j, i < (cx W C ρ w).m → f i = some j → j < (cx W (D all.length).s.ob (fun j => ρ (L j)) w).m ∧ (cx W (D all.length).s.ob (fun j => ρ (L j)) w).g j = (cx W C ρ w).g i := fun i j h1 h2 => prt.idx (W := W) (w := w) i j h1 h2
  refine ⟨fun j => ρ (L j), ⟨(prt.rel I.aft.rel).weak (fun k hk => .inl hk), I.aft.fr, fun k hk => I.aft.nw k (prt.ownS hk), fun i hi => ?_, h.mono (Nat.zero_le _) (Nat.le_refl _)⟩, ?_⟩
  · simp only [I.ini i hi]
    exact I.aft.ag i hi
  · intro t v hv
    have hs : Sl all D b t v := by
      rcases h.slot (Nat.le_refl _) hv with ⟨k, o, hk, ho, hd, e⟩ | ⟨hno, hl⟩
      · exact .inl ⟨k, o, ho, hd, hall k hk, e⟩
      · exact .inr ⟨fun k o ho hd => absurd hd (hno k o (List.getElem?_eq_some_iff.1 ho).1 ho), hl⟩
    obtain ⟨v', h1, h2⟩ := I.slt t v hs
    refine VR.ren hA rfl ix (ren_back h1 (fun x hx y hy => ?_)) h2
    obtain rfl := Option.some.inj hy
    exact hf x (h.idsV (Nat.le_refl _) hv x hx)
theorem DrI.init (h : Txt P Γ all D) (hr : Rel W (D 0).s.ob ρ0 w) (hs : SlR (cx W (D 0).s.ob ρ0 w) (D 0).s.sl a) (hdf : a.defers = []) (hsz : a.tmps.size = N) :
    DrI P Γ all D W ρ0 w N (fun j => !Nat.blt j all.length) ((D 0).s.ob ++ List.replicate (nO D all.length - nO D 0) .gone) ρ0 (fun x => x) a w.drew := by
  have hn := h.mono (Nat.zero_le all.length) (Nat.le_refl _)
  have hlen : ((D 0).s.ob ++ List.replicate (nO D all.length - nO D 0) AO.gone).length = nO D all.length := by
    rw [List.length_append, List.length_replicate]
    unfold nO at hn ⊢
    omega
  have no : ∀ k, k < all.length → (!Nat.blt k all.length) = true → False := by
    intro k hk hb
    rw [Bool.not_eq_true', Bool.eq_false_iff, ne_eq, Nat.blt_eq] at hb
    exact hb hk
  have get : ∀ (x : Nat) (o : AO), ((D 0).s.ob ++ List.replicate (nO D all.length - nO D 0) AO.gone)[x]? = some o → (D 0).s.ob[x]? = some o ∨ o = .gone := by
    intro x o hx
    by_cases hl : x < (D 0).s.ob.length
    · rw [List.getElem?_append, if_pos hl] at hx; exact .inl hx
    · rw [List.getElem?_append, if_neg hl, List.getElem?_replicate] at hx
      split at hx
      · exact .inr (Option.some.inj hx).symm
      · cases hx
  have A : Aft W (D 0).s.ob ρ0 w ((D 0).s.ob ++ List.replicate (nO D all.length - nO D 0) .gone) ρ0 w.drew := by
    refine Aft.of (O1 := No) hr (Fr.refl w No).drew (fun _ h => h.elim) ?_ (fun _ _ => rfl) (by simp) ?_ ?_
    · rintro k ⟨i, o, p, hi, ho, ha, hb⟩
      rcases get i o hi with h1 | rfl
      · exact .inl ⟨i, o, p, h1, ho, ha, hb⟩
      · cases ho
    · intro le i o hi
      rcases get i o hi with h1 | rfl
      · exact .inl ⟨h1, fun _ _ _ h => h.elim⟩
      · exact .inr trivial
    · intro i j o o' p q hij hi hj h1 h2
      rcases get i o hi with g1 | rfl
      · rcases get j o' hj with g2 | rfl
        · exact hr.dj i j o o' p q hij g1 g2 h1 h2
        · cases h2
      · cases h1
  refine ⟨A, fun x hx => by rw [hlen]; exact hx, fun x y _ _ e => e, fun _ _ => rfl, fun x hx => ?_, fun t v hsv => ?_, fun i o ho hb => (no i (List.getElem?_eq_some_iff.1 ho).1 hb).elim, hdf, hsz⟩
  · by_cases hl : x < nO D 0
    · have e : (D 0).s.ob[x]? = some (D 0).s.ob[x] := List.getElem?_eq_getElem hl
      refine ⟨_, (D 0).s.ob[x], .inr ⟨fun k hk hb => (no k hk hb).elim, .inl ⟨hl, e⟩⟩, by rw [List.getElem?_append, if_pos hl]; exact e, ?_⟩
      cases (D 0).s.ob[x] with
      | box ty v m => rw [AO.ren]; rw [show v.ren (fun x => some x) = some v from ren_some v]
      | _ => rfl
    · refine ⟨.gone, .gone, .inr ⟨fun k hk hb => (no k hk hb).elim, .inr ⟨by omega, rfl⟩⟩, ?_, rfl⟩
      rw [List.getElem?_append, if_neg hl, List.getElem?_replicate, if_pos]
      unfold nO at hx hl ⊢
      omega
  · rcases hsv with ⟨k, o, ho, _, hb, _⟩ | ⟨_, hl⟩
    · exact (no k (List.getElem?_eq_some_iff.1 ho).1 hb).elim
    · exact ⟨v, ren_some v, (hs t v hl).up A.le⟩
theorem ops_drawn {R : Type} {r : R} (hmx : P.follows .mixedOrders = true) (hΓ : CallOk P Γ) (hG : PrimOk P Γ) (id : Nat) {S00 : List AO} {ρ00 : Nat → Geo} {w00 : World} {s : St} {K : St → Option R} {Q : Exit → Act → World → Prop} (hd : all.all (dstLt N) = true)
    (hK : opsA P Γ all true all 0 s [] (fun s l => cond (regOk all && noClash (reachT all []) l) (K s) none) = some r) (h0 : StB W S00 ρ00 w00 N s ρ a w) (hQ : ∀ s' ρ' a' w', K s' = some r → StB W S00 ρ00 w00 N s' ρ' a' w' → Q .normal a' w') :
    (Code.region id all.toArray true).wp P Q a w := by
  obtain ⟨D, l', hD, rows, hK, _, hlog⟩ := ops_rows hG.1 all 0 s [] (fun j => by rw [Nat.zero_add]) hK
  rw [Nat.zero_add] at hK
  obtain ⟨hc, hK⟩ | ⟨_, hK⟩ := cond_elim hK
  · rw [Bool.and_eq_true] at hc
    have gi : ∀ i, i < all.length → (D i).g.i = i := fun i hi => by
      obtain ⟨sl, _, _, e, _⟩ := rows i _ (Nat.zero_le _) (List.getElem?_eq_getElem hi)
      exact e
    have h : Txt P Γ all D := by
      refine ⟨fun j o ho => rows j o (Nat.zero_le _) ho, hc.1, fun i j hi hj hij hri hrj => ?_, fun x o hx => ?_, fun t v hv => ?_⟩
      · have := noClash_ok hc.2 (hlog i (Nat.zero_le _) (by omega) hri) (hlog j (Nat.zero_le _) (by omega) hrj) (by rw [gi i hi, gi j hj]; exact hij)
        rcases apart_ok this with h1 | h1 | h1
        · rw [gi i hi, gi j hj] at h1; exact .inr (.inl h1)
        · rw [gi i hi, gi j hj] at h1; exact .inl h1
        · exact .inr (.inr h1.1)
      · rw [hD] at hx ⊢
        exact oids_lt h0.aft.rel hx
      · rw [hD] at hv ⊢
        exact vids_lt (h0.sl t v hv)
    obtain ⟨hok, _, _⟩ := h.parts
    have hr : Rel W (D 0).s.ob ρ w := by rw [hD]; exact h0.aft.rel
    have hs : SlR (cx W (D 0).s.ob ρ w) (D 0).s.sl a := by rw [hD]; exact h0.sl
    refine drawn (os := all) id hmx all.length hok (Nat.ble_eq_true_of_le (Nat.le_refl _)) (fun b a w' => ∃ C ρ' L, DrI P Γ all D W ρ w N b C ρ' L a w') ⟨_, _, _, DrI.init h hr hs h0.df h0.sz⟩ ?_ ?_
    · rintro i o ho hi b a w ⟨C, ρ', L, I⟩ hb hn
      have hdo : dstLt N o = true := List.all_eq_true.1 hd o (List.mem_of_getElem? ho)
      have see : ∀ (d : Nat) (v : AV), d ∈ guardT all o → lookA d (D i).s.sl = some v → (v = .undef ∨ ∃ c, v = .dat .bool c) → VR (cx W C ρ' w) v (a.tmps.getD d undef) := by
        intro d v hd hv hc
        obtain ⟨v', h1, h2⟩ := I.slt d v (h.readS I.cl ho hb hn (guard_reads hd) hv)
        rcases hc with rfl | ⟨c, rfl⟩
        · obtain rfl := Option.some.inj h1; exact h2
        · obtain rfl := Option.some.inj h1; exact h2
      obtain ⟨sl, h1, _, _, hR | hN⟩ := h.rows i o ho
      · have hw : Region.wanted o (yielded all.toArray a.tmps) = true := by
          rcases hR.on with hg | ⟨d, c, hm, hl, hw⟩
          · exact wanted_none hg
          · exact hw a (vr_bool (see d _ hm hl (.inr ⟨c, rfl⟩)))
        unfold DoesG
        rw [if_pos hw]
        exact I.does hΓ hG h ho hdo hb hn h1 hR
      · obtain ⟨d, v, hm, hl, hv, hw⟩ := hN.off
        have hw := hw _ a (see d v hm hl hv)
        unfold DoesG
        rw [if_neg (by rw [hw]; simp)]
        exact ⟨C, ρ', L, I.skip h ho hdo hn hN⟩
    · rintro b a w hall ⟨C, ρ', L, I⟩
      obtain ⟨ρ2, A, hsl⟩ := I.final h (fun j hj => hall j hj hj)
      rw [List.drop_length]
      refine nil_ (hQ _ ρ2 a w hK ⟨?_, hsl, I.df, I.sz⟩)
      rw [hD] at A
      exact h0.aft.trans A
  · cases hK
end
end Go.Mx
namespace Go.Mx
open Go Go.RowKit Go.Sx
variable [Glb]
theorem visit_pre {ob : List AO} : ∀ (n : Nat) (l L : List Nat), ∃ R, visit ob n l L = L ++ R
  | 0, l, L => ⟨[], by cases l <;> simp [visit]⟩
  | n + 1, [], L => ⟨[], by simp [visit]⟩
  | n + 1, i :: r, L => by
    unfold visit
    cases L.contains i with
    | true => exact visit_pre n r L
    | false =>
      rw [cond_false]
      obtain ⟨R, h⟩ := visit_pre (ob := ob) n ((match ob[i]? with | some o => o.ids | none => []) ++ r) (L ++ [i])
      exact ⟨i :: R, h.trans (by rw [List.append_assoc]; rfl)⟩
theorem objs_ok {ob : List AO} : ∀ {L : List Nat} {l : List AO}, objs ob L = some l → l.length = L.length ∧ ∀ (j : Nat) (o : AO), l[j]? = some o → ∃ i, L[j]? = some i ∧ ob[i]? = some o
  | [], l, h => by obtain rfl := Option.some.inj h; exact ⟨rfl, fun j o h => by simp at h⟩
  | i :: L, l, h => by
    rw [objs] at h
    split at h
    · rename_i o ho
      split at h
      · rename_i l1 hl
        obtain rfl := Option.some.inj h
        obtain ⟨h1, h2⟩ := objs_ok hl
        refine ⟨by simp [h1], fun j o' hj => ?_⟩
        cases j with
        | zero => obtain rfl := Option.some.inj hj; exact ⟨i, rfl, ho⟩
        | succ j => exact h2 j o' hj
      · cases h
    · cases h
theorem pickS_ok {s : Slots} : ∀ {l : List Nat} {sl : Slots}, pickS l s = some sl → ∀ (t : Nat) (v : AV), lookA t sl = some v → lookA t s = some v
  | [], sl, h, t, v, hv => by obtain rfl := Option.some.inj h; cases hv
  | i :: l, sl, h, t, v, hv => by
    rw [pickS] at h
    split at h
    · rename_i u hu
      split at h
      · rename_i sl' hs
        obtain rfl := Option.some.inj h
        rw [look_cons] at hv
        by_cases e : i = t
        · rw [if_pos e] at hv
          obtain rfl := Option.some.inj hv
          rw [← e]; exact hu
        · rw [if_neg e] at hv
          exact pickS_ok hs t v hv
      · cases h
    · cases h
theorem renS_ok {f : Nat → Option Nat} : ∀ {s s' : Slots}, renS f s = some s' → ∀ (t : Nat) (v : AV), lookA t s' = some v → ∃ u, lookA t s = some u ∧ u.ren f = some v
  | [], s', h, t, v, hv => by obtain rfl := Option.some.inj h; cases hv
  | (i, u) :: s, s', h, t, v, hv => by
    rw [renS] at h
    split at h
    · rename_i u' hu
      split at h
      · rename_i s1 hs
        obtain rfl := Option.some.inj h
        rw [look_cons] at hv
        by_cases e : i = t
        · rw [if_pos e] at hv
          obtain rfl := Option.some.inj hv
          exact ⟨u, by rw [look_cons, if_pos e], hu⟩
        · rw [if_neg e] at hv
          obtain ⟨q, h1, h2⟩ := renS_ok hs t v hv
          exact ⟨q, by rw [look_cons, if_neg e]; exact h1, h2⟩
      · cases h
    · cases h
section
variable {R : Type} {P : Program} {Γ : Sums} {W : Nat → Prop} {S0 : List AO} {ρ0 ρ : Nat → Geo} {w0 w : World} {a : Act} {N : Nat} {r : R}
theorem tell_ok {live : List Nat} {s : St} {K : St → Option R} (hK : tellA S0.length live s K = some r) (h : StB W S0 ρ0 w0 N s ρ a w) : ∃ s' ρ', K s' = some r ∧ StB W S0 ρ0 w0 N s' ρ' a w := by
  unfold tellA at hK
  split at hK
  · rename_i sl hsl
    simp only at hK
    obtain ⟨R', hR⟩ := visit_pre (ob := s.ob) (4 * s.ob.length + 4 * (idsS sl).length + 16) (idsOb (s.ob.take S0.length) ++ idsS sl) (List.range S0.length)
    rw [hR] at hK
    generalize hL : List.range S0.length ++ R' = L at hK
    cases hn : nodupB L with
    | false => rw [hn] at hK; cases hK
    | true =>
      rw [hn, cond_true] at hK
      split at hK
      · rename_i sl' ob hs' hob
        split at hK
        · rename_i ob' hr
          obtain ⟨o1, o2⟩ := objs_ok hob
          obtain ⟨r1, r2⟩ := renAll_ok hr
          have pre : ∀ i, i < S0.length → L[i]? = some i := fun i hi => by
            rw [← hL, List.getElem?_append, if_pos (by simpa using hi)]
            simp [hi]
          have prt : Prt s.ob ρ ob' (fun j => match L[j]? with | some i => ρ i | none => ρ 0) L (fun i => posn i L 0) := by
            refine ⟨nodupB_ok hn, by rw [r1, o1], fun j q hj => ?_, fun j i hj => by simp only [hj], fun i j hj => ?_⟩
            · obtain ⟨q', h1, h2⟩ := r2 j q hj
              obtain ⟨i, h3, h4⟩ := o2 j q' h1
              exact ⟨i, q', h3, h4, .inr (.inl h2)⟩
            · have := (posn_ok hj).2
              rwa [Nat.sub_zero] at this
          have hlen : S0.length ≤ ob'.length := by rw [r1, o1, ← hL, List.length_append, List.length_range]; omega
          have hA : ∀ k, (cx W ob' (fun j => match L[j]? with | some i => ρ i | none => ρ 0) w).A k → (cx W s.ob ρ w).A k := fun k hk => hk.elim .inl (fun hk => .inr (prt.ownS hk))
          refine ⟨⟨sl', ob'⟩, _, hK, ⟨(prt.rel h.aft.rel).weak (fun k hk => .inl hk), h.aft.fr, fun k hk => h.aft.nw k (prt.ownS hk), fun i hi => ?_, hlen⟩, ?_, h.df, h.sz⟩
          · simp only [pre i hi]
            exact h.aft.ag i hi
          · intro t v hv
            obtain ⟨u, h1, h2⟩ := renS_ok hs' t v hv
            have h3 := pickS_ok hsl t u h1
            exact VR.ren hA rfl (fun i j h1 h2 => prt.idx (W := W) (w := w) i j h1 h2) h2 (h.sl t u h3)
        · cases hK
      · cases hK
  · cases hK
def LamAt (P : Program) (W : Nat → Prop) (S0 : List AO) (ρ0 : Nat → Geo) (w0 : World) (N : Nat) (r : R) (Λ : Nat → St → (Exit → St → Option R) → Option R) (n : Nat) (c : Code) : Prop :=
  ∀ (s : St) (K : Exit → St → Option R) (ρ : Nat → Geo) (a : Act) (w : World), Λ n s K = some r → StB W S0 ρ0 w0 N s ρ a w → c.wp P (fun e a' w' => ∃ s' ρ', K e s' = some r ∧ StB W S0 ρ0 w0 N s' ρ' a' w') a w
theorem nl_lt : ∀ {c : Code} {q : Nat} {l : Code}, loopAt c q = some l → q < nl c := by
  intro c
  induction c with
  | seq x y hx hy =>
    intro q l h
    rw [loopAt] at h
    rw [nl]
    cases hb : Nat.blt q (nl x) with
    | true => rw [Nat.blt_eq] at hb; omega
    | false => rw [hb] at h; have := hy h; omega
  | cond c x y hx hy =>
    intro q l h
    rw [loopAt] at h
    rw [nl]
    cases hb : Nat.blt q (nl x) with
    | true => rw [Nat.blt_eq] at hb; omega
    | false => rw [hb] at h; have := hy h; omega
  | block i x hx => intro q l h; rw [loopAt] at h; rw [nl]; exact hx h
  | loop x hx =>
    intro q l h
    rw [nl]
    cases q with
    | zero => omega
    | succ q => rw [loopAt] at h; have := hx h; omega
  | scope x hx =>
    intro q l h
    rw [nl]
    cases q with
    | zero => omega
    | succ q => rw [loopAt] at h; have := hx h; omega
  | _ => intro q l h; unfold loopAt at h; cases h
theorem loopAt_seq {x y : Code} {q : Nat} {l : Code} : (loopAt x q = some l → loopAt (.seq x y) q = some l) ∧ (loopAt y q = some l → loopAt (.seq x y) (nl x + q) = some l) := by
  refine ⟨fun h => ?_, fun h => ?_⟩
  · have := nl_lt h
    rw [loopAt, show Nat.blt q (nl x) = true by rw [Nat.blt_eq]; exact this]; exact h
  · rw [loopAt, show Nat.blt (nl x + q) (nl x) = false by rw [Bool.eq_false_iff, ne_eq, Nat.blt_eq]; omega, cond_false, Nat.add_sub_cancel_left]
    exact h
theorem loopAt_cond {c : Operand} {x y : Code} {q : Nat} {l : Code} : (loopAt x q = some l → loopAt (.cond c x y) q = some l) ∧ (loopAt y q = some l → loopAt (.cond c x y) (nl x + q) = some l) := by
  refine ⟨fun h => ?_, fun h => ?_⟩
  · have := nl_lt h
    rw [loopAt, show Nat.blt q (nl x) = true by rw [Nat.blt_eq]; exact this]; exact h
  · rw [loopAt, show Nat.blt (nl x + q) (nl x) = false by rw [Bool.eq_false_iff, ne_eq, Nat.blt_eq]; omega, cond_false, Nat.add_sub_cancel_left]
    exact h
theorem dst_all {N : Nat} {l : List Oper} (h : (l.all fun o => match o.dst with | some d => Nat.blt d N | none => true) = true) : l.all (dstLt N) = true := h
theorem runA_ok (hmx : P.follows .mixedOrders = true) (hΓ : CallOk P Γ) (hG : PrimOk P Γ) {Λ : Nat → St → (Exit → St → Option R) → Option R} :
    ∀ (c : Code) (n : Nat) (s : St) (K : Exit → St → Option R) (ρ : Nat → Geo) (a : Act) (w : World), dstC N c = true → (∀ q l, loopAt c q = some l → LamAt P W S0 ρ0 w0 N r Λ (n + q) l) → runA P Γ Λ n c s K = some r → StB W S0 ρ0 w0 N s ρ a w →
      c.wp P (fun e a' w' => ∃ s' ρ', K e s' = some r ∧ StB W S0 ρ0 w0 N s' ρ' a' w') a w := by
  intro c
  induction c with
  | skip => intro n s K ρ a w _ _ hK h; rw [runA] at hK; exact wp_skip ⟨s, ρ, hK, h⟩
  | label l => intro n s K ρ a w _ _ hK h; rw [runA] at hK; exact wp_label ⟨s, ρ, hK, h⟩
  | exit i => intro n s K ρ a w _ _ hK h; rw [runA] at hK; exact wp_exit ⟨s, ρ, hK, h⟩
  | goto l => intro n s K ρ a w _ _ hK h; rw [runA] at hK; exact wp_goto ⟨s, ρ, hK, h⟩
  | ret => intro n s K ρ a w _ _ hK h; rw [runA] at hK; exact wp_ret ⟨s, ρ, hK, h⟩
  | seq x y hx hy =>
    intro n s K ρ a w hd hΛ hK h
    rw [runA] at hK
    rw [dstC, Bool.and_eq_true] at hd
    refine wp_seq (wp_mono (hx n s _ ρ a w hd.1 (fun q l hl => hΛ q l (loopAt_seq.1 hl)) hK h) ?_)
    rintro e a' w' ⟨s', ρ', hK', h'⟩
    cases e with
    | normal => exact hy (n + nl x) s' K ρ' a' w' hd.2 (fun q l hl => by rw [Nat.add_assoc]; exact hΛ _ l (loopAt_seq.2 hl)) hK' h'
    | _ => exact ⟨s', ρ', hK', h'⟩
  | cond c x y hx hy =>
    intro n s K ρ a w hd hΛ hK h
    rw [dstC, Bool.and_eq_true] at hd
    have go : ∀ (b : Bool) (sx sy : Slots), a.eval c = .bool b → SlR (cx W s.ob ρ w) (cond b sx sy) a → cond b (runA P Γ Λ n x ⟨sx, s.ob⟩ K) (runA P Γ Λ (n + nl x) y ⟨sy, s.ob⟩ K) = some r → (Code.cond c x y).wp P (fun e a' w' => ∃ s' ρ', K e s' = some r ∧ StB W S0 ρ0 w0 N s' ρ' a' w') a w := by
      intro b sx sy hc hs hK
      cases b with
      | true => exact wp_cond_true hc (hx n ⟨sx, s.ob⟩ K ρ a w hd.1 (fun q l hl => hΛ q l (loopAt_cond.1 hl)) hK ⟨h.aft, hs, h.df, h.sz⟩)
      | false => exact wp_cond_false hc (hy (n + nl x) ⟨sy, s.ob⟩ K ρ a w hd.2 (fun q l hl => by rw [Nat.add_assoc]; exact hΛ _ l (loopAt_cond.2 hl)) hK ⟨h.aft, hs, h.df, h.sz⟩)
    unfold runA at hK
    split at hK
    · rename_i t
      split at hK
      · rename_i b hl
        have hv := vr_bool (h.sl t _ hl)
        refine go b _ _ hv ?_ hK
        cases b with
        | true => exact h.sl.again hl
        | false => exact h.sl.again hl
      · cases hK
    · rename_i c' _
      split at hK
      · rename_i b hl
        refine go b s.sl s.sl (vr_bool (ev_ok h.aft.rel.gl h.sl hl)) ?_ hK
        cases b <;> exact h.sl
      · cases hK
  | block i x hx =>
    intro n s K ρ a w hd hΛ hK h
    rw [runA] at hK
    rw [dstC] at hd
    refine wp_block (wp_mono (hx n s _ ρ a w hd (fun q l hl => hΛ q l (by rw [loopAt]; exact hl)) hK h) ?_)
    rintro e a' w' ⟨s', ρ', hK', h'⟩
    cases e with
    | exit j =>
      show if j = i then _ else _
      simp only at hK'
      by_cases e : j = i
      · rw [if_pos e]
        rw [e, Nat.beq_refl, cond_true] at hK'
        exact ⟨s', ρ', hK', h'⟩
      · rw [if_neg e]
        rw [beq_ne e, cond_false] at hK'
        exact ⟨s', ρ', hK', h'⟩
    | _ => exact ⟨s', ρ', hK', h'⟩
  | loop x hx =>
    intro n s K ρ a w hd hΛ hK h
    rw [runA] at hK
    exact hΛ 0 (.loop x) rfl s K ρ a w hK h
  | scope x hx =>
    intro n s K ρ a w hd hΛ hK h
    rw [runA] at hK
    exact hΛ 0 (.scope x) rfl s K ρ a w hK h
  | region id ops dr =>
    intro n s K ρ a w hd hΛ hK h
    rw [runA] at hK
    rw [dstC] at hd
    have e : ops = ops.toList.toArray := rfl
    cases dr with
    | false =>
      rw [e]
      refine wp_region_lit (ops_lit (W := W) (S0 := S0) (ρ0 := ρ0) (w0 := w0) (N := N) (r := r) hΓ hG ?_ ops.toList 0 s [] ρ a w (dst_all hd) hK h)
      intro s' l' ρ' a' w' hK' h'
      rw [Bool.not_false, Bool.true_or, cond_true] at hK'
      exact ⟨s', ρ', hK', h'⟩
    | true =>
      rw [e]
      simp only [Bool.not_true, Bool.false_or] at hK
      exact ops_drawn hmx hΓ hG id (K := K .normal) (dst_all hd) hK h (fun s' ρ' a' w' hK' h' => ⟨s', ρ', hK', h'⟩)
  | _ => intro n s K ρ a w _ _ hK _; unfold runA at hK; cases hK
theorem loop_ok {m : Nat} {live : List Nat} {c : Code} {body : St → (Exit → St → Option R) → Option R} (hm : m = S0.length)
    (hb : ∀ (s : St) (K : Exit → St → Option R) (ρ : Nat → Geo) (a : Act) (w : World), body s K = some r → StB W S0 ρ0 w0 N s ρ a w → c.wp P (fun e a' w' => ∃ s' ρ', K e s' = some r ∧ StB W S0 ρ0 w0 N s' ρ' a' w') a w) :
    ∀ (k : Nat) (s : St) (K : Exit → St → Option R) (ρ : Nat → Geo) (a : Act) (w : World), loopA m live body k s K = some r → StB W S0 ρ0 w0 N s ρ a w → Code.rounds P c (fun e a' w' => ∃ s' ρ', K e s' = some r ∧ StB W S0 ρ0 w0 N s' ρ' a' w') k a w
  | 0, s, K, ρ, a, w, hK, _ => by cases hK
  | k + 1, s, K, ρ, a, w, hK, h => by
    subst hm
    rw [loopA] at hK
    obtain ⟨s1, ρ1, hK1, h1⟩ := tell_ok hK h
    refine wp_mono (hb s1 _ ρ1 a w hK1 h1) ?_
    rintro e a' w' ⟨s', ρ', hK', h'⟩
    cases e with
    | normal => exact loop_ok rfl hb k s' K ρ' a' w' hK' h'
    | _ => exact ⟨s', ρ', hK', h'⟩
end
end Go.Mx
namespace Go.Mx
open Go Go.RowKit Go.Sx
variable [Glb]
section
variable {R : Type} {P : Program} {Γ : Sums} {W : Nat → Prop} {S0 : List AO} {ρ0 ρ : Nat → Geo} {w0 w : World} {a : Act} {N : Nat} {r : R}
theorem behind_none {l : Nat} : ∀ {c : Code} {n : Nat}, behind l c n = none → findLabel c l = none := by
  intro c
  induction c with
  | seq x y hx hy =>
    intro n h
    rw [behind] at h
    split at h
    · cases h
    · rename_i e
      rw [findLabel, hx e]
      exact hy h
  | label q =>
    intro n h
    rw [behind] at h
    cases hb : Nat.beq q l with
    | true => rw [hb] at h; cases h
    | false =>
      have : ¬ q = l := fun e => by rw [e, Nat.beq_refl] at hb; cases hb
      simp [findLabel, this]
  | _ => intro n _; rfl
theorem behind_some {l : Nat} : ∀ {c : Code} {n m : Nat} {c' : Code}, behind l c n = some (m, c') → findLabel c l = some c' ∧ (∀ q l', loopAt c' q = some l' → ∃ q0, loopAt c q0 = some l' ∧ n + q0 = m + q) ∧ (∀ N, dstC N c = true → dstC N c' = true) ∧ m + nl c' = n + nl c := by
  intro c
  induction c with
  | seq x y hx hy =>
    intro n m c' h
    rw [behind] at h
    split at h
    · rename_i m' d e
      obtain ⟨rfl, rfl⟩ := Prod.mk.inj (Option.some.inj h)
      obtain ⟨h1, h2, h3, h4⟩ := hx e
      refine ⟨by rw [findLabel, h1], fun q l' hq => ?_, fun N hN => ?_, by rw [nl, nl]; omega⟩
      · rw [loopAt] at hq
        cases hb : Nat.blt q (nl d) with
        | true =>
          rw [hb] at hq
          obtain ⟨q0, g1, g2⟩ := h2 q l' hq
          exact ⟨q0, loopAt_seq.1 g1, g2⟩
        | false =>
          rw [hb] at hq
          have : ¬ q < nl d := by rw [Bool.eq_false_iff, ne_eq, Nat.blt_eq] at hb; exact hb
          exact ⟨nl x + (q - nl d), loopAt_seq.2 hq, by omega⟩
      · rw [dstC, Bool.and_eq_true] at hN
        rw [dstC, Bool.and_eq_true]
        exact ⟨h3 N hN.1, hN.2⟩
    · rename_i e
      obtain ⟨h1, h2, h3, h4⟩ := hy h
      refine ⟨by rw [findLabel, behind_none e]; exact h1, fun q l' hq => ?_, fun N hN => ?_, by rw [nl]; omega⟩
      · obtain ⟨q0, g1, g2⟩ := h2 q l' hq
        exact ⟨nl x + q0, loopAt_seq.2 g1, by omega⟩
      · rw [dstC, Bool.and_eq_true] at hN
        exact h3 N hN.2
  | label q =>
    intro n m c' h
    rw [behind] at h
    cases hb : Nat.beq q l with
    | true =>
      rw [hb] at h
      obtain ⟨rfl, rfl⟩ := Prod.mk.inj (Option.some.inj h)
      have := Nat.eq_of_beq_eq_true hb
      exact ⟨by simp [findLabel, this], fun q l' hq => (by unfold loopAt at hq; cases hq), fun N _ => rfl, rfl⟩
    | false => rw [hb] at h; cases h
  | _ => intro n m c' h; unfold behind at h; cases h
def Good (P : Program) (W : Nat → Prop) (S0 : List AO) (ρ0 : Nat → Geo) (w0 : World) (N : Nat) (r : R) (run : St → (Exit → St → Option R) → Option R) (c : Code) : Prop :=
  ∀ (s : St) (K : Exit → St → Option R) (ρ : Nat → Geo) (a : Act) (w : World), run s K = some r → StB W S0 ρ0 w0 N s ρ a w → c.wp P (fun e a' w' => ∃ s' ρ', K e s' = some r ∧ StB W S0 ρ0 w0 N s' ρ' a' w') a w
theorem scope_ok {m : Nat} {lv : Nat → Option (List Nat)} {b : Code} {find : Nat → Option (Nat × Code)} {run : Nat → Code → St → (Exit → St → Option R) → Option R} (hm : m = S0.length)
    (hf : ∀ l n c, find l = some (n, c) → findLabel b l = some c ∧ Good P W S0 ρ0 w0 N r (run n c) c) (hno : ∀ l, find l = none → findLabel b l = none) :
    ∀ (k n : Nat) (c : Code), Good P W S0 ρ0 w0 N r (run n c) c → ∀ (s : St) (K : Exit → St → Option R) (ρ : Nat → Geo) (a : Act) (w : World), scopeA m lv find run k n c s K = some r → StB W S0 ρ0 w0 N s ρ a w →
      ∀ (fr : Frame) (ks : List Item) (cs : List Frame), ∃ e a' w', (∃ s' ρ', K e s' = some r ∧ StB W S0 ρ0 w0 N s' ρ' a' w') ∧ Arrives P (lone (fr.at a (.code c :: .inScope b :: ks)) cs w) fr ks cs e a' w'
  | 0, n, c, _, s, K, ρ, a, w, hK, _ => by cases hK
  | k + 1, n, c, hg, s, K, ρ, a, w, hK, h => by
    intro fr ks cs
    subst hm
    rw [scopeA] at hK
    obtain ⟨e, a₁, w₁, ⟨s', ρ', hK', h'⟩, harr⟩ := hg s _ ρ a w hK h fr (.inScope b :: ks) cs
    cases e with
    | normal => exact ⟨.normal, a₁, w₁, ⟨s', ρ', hK', h'⟩, Steps.trans harr (.one step_inScope)⟩
    | exit id => exact ⟨.exit id, a₁, w₁, ⟨s', ρ', hK', h'⟩, fun k' hk => harr k' (by simp [exitTo, hk])⟩
    | goto l =>
      simp only at hK'
      split at hK'
      · rename_i n' c' hfl
        obtain ⟨h1, h2⟩ := hf l n' c' hfl
        obtain ⟨s2, ρ2, hK2, h3⟩ := tell_ok hK' h'
        obtain ⟨e₂, a₂, w₂, hq₂, harr₂⟩ := scope_ok rfl hf hno k n' c' h2 s2 K ρ2 a₁ w₁ hK2 h3 fr ks cs
        exact ⟨e₂, a₂, w₂, hq₂, .of_steps (harr _ (by simp [gotoIn, h1])) harr₂⟩
      · rename_i hfl
        exact ⟨.goto l, a₁, w₁, ⟨s', ρ', hK', h'⟩, fun k' hk => harr k' (by simp [gotoIn, hno l hfl, hk])⟩
    | ret => exact ⟨_, a₁, w₁, ⟨s', ρ', hK', h'⟩, harr⟩
    | panic ch => exact ⟨_, a₁, w₁, ⟨s', ρ', hK', h'⟩, harr⟩
    | outgrown => exact ⟨_, a₁, w₁, ⟨s', ρ', hK', h'⟩, harr⟩
theorem wp_scope_of {b : Code} {Q : Exit → Act → World → Prop} (h : ∀ (fr : Frame) (ks : List Item) (cs : List Frame), ∃ e a' w', Q e a' w' ∧ Arrives P (lone (fr.at a (.code b :: .inScope b :: ks)) cs w) fr ks cs e a' w') : (Code.scope b).wp P Q a w := by
  intro fr ks cs
  obtain ⟨e, a', w', hq, harr⟩ := h fr ks cs
  exact ⟨e, a', w', hq, .of_steps (.one step_scope) harr⟩
theorem loopAt_sub : ∀ {c : Code} {n : Nat} {b : Code}, (loopAt c n = some (.loop b) ∨ loopAt c n = some (.scope b)) → (∀ q l, loopAt b q = some l → loopAt c (n + 1 + q) = some l) ∧ ∀ N, dstC N c = true → dstC N b = true := by
  intro c
  induction c with
  | seq x y hx hy =>
    intro n b h
    rw [loopAt] at h
    cases hb : Nat.blt n (nl x) with
    | true =>
      rw [hb] at h
      obtain ⟨h1, h2⟩ := hx h
      exact ⟨fun q l hl => loopAt_seq.1 (h1 q l hl), fun N hN => by rw [dstC, Bool.and_eq_true] at hN; exact h2 N hN.1⟩
    | false =>
      rw [hb] at h
      have hge : ¬ n < nl x := by rw [Bool.eq_false_iff, ne_eq, Nat.blt_eq] at hb; exact hb
      obtain ⟨h1, h2⟩ := hy h
      refine ⟨fun q l hl => ?_, fun N hN => by rw [dstC, Bool.and_eq_true] at hN; exact h2 N hN.2⟩
      have := (loopAt_seq (x := x)).2 (h1 q l hl)
      rwa [show nl x + (n - nl x + 1 + q) = n + 1 + q by omega] at this
  | cond c x y hx hy =>
    intro n b h
    rw [loopAt] at h
    cases hb : Nat.blt n (nl x) with
    | true =>
      rw [hb] at h
      obtain ⟨h1, h2⟩ := hx h
      exact ⟨fun q l hl => loopAt_cond.1 (h1 q l hl), fun N hN => by rw [dstC, Bool.and_eq_true] at hN; exact h2 N hN.1⟩
    | false =>
      rw [hb] at h
      have hge : ¬ n < nl x := by rw [Bool.eq_false_iff, ne_eq, Nat.blt_eq] at hb; exact hb
      obtain ⟨h1, h2⟩ := hy h
      refine ⟨fun q l hl => ?_, fun N hN => by rw [dstC, Bool.and_eq_true] at hN; exact h2 N hN.2⟩
      have := (loopAt_cond (c := c) (x := x)).2 (h1 q l hl)
      rwa [show nl x + (n - nl x + 1 + q) = n + 1 + q by omega] at this
  | block i x hx =>
    intro n b h
    rw [loopAt] at h
    obtain ⟨h1, h2⟩ := hx h
    exact ⟨fun q l hl => by rw [loopAt]; exact h1 q l hl, fun N hN => by rw [dstC] at hN; exact h2 N hN⟩
  | loop x hx =>
    intro n b h
    cases n with
    | zero =>
      rw [loopAt] at h
      rcases h with h | h
      · obtain rfl : x = b := by injection h with h; injection h
        exact ⟨fun q l hl => by rw [show 0 + 1 + q = q + 1 by omega, loopAt]; exact hl, fun N hN => by rw [dstC] at hN; exact hN⟩
      · injection h with h; cases h
    | succ n =>
      rw [loopAt] at h
      obtain ⟨h1, h2⟩ := hx h
      exact ⟨fun q l hl => by rw [show n + 1 + 1 + q = (n + 1 + q) + 1 by omega, loopAt]; exact h1 q l hl, fun N hN => by rw [dstC] at hN; exact h2 N hN⟩
  | scope x hx =>
    intro n b h
    cases n with
    | zero =>
      rw [loopAt] at h
      rcases h with h | h
      · injection h with h; cases h
      · obtain rfl : x = b := by injection h with h; injection h
        exact ⟨fun q l hl => by rw [show 0 + 1 + q = q + 1 by omega, loopAt]; exact hl, fun N hN => by rw [dstC] at hN; exact hN⟩
    | succ n =>
      rw [loopAt] at h
      obtain ⟨h1, h2⟩ := hx h
      exact ⟨fun q l hl => by rw [show n + 1 + 1 + q = (n + 1 + q) + 1 by omega, loopAt]; exact h1 q l hl, fun N hN => by rw [dstC] at hN; exact h2 N hN⟩
  | _ => intro n b h; unfold loopAt at h; rcases h with h | h <;> cases h
theorem lamA_ok (hmx : P.follows .mixedOrders = true) (hΓ : CallOk P Γ) (hG : PrimOk P Γ) {lv : Nat → Option (List Nat)} {c : Code} {k m : Nat} (hm : m = S0.length) (hd : dstC N c = true) : ∀ (d n : Nat) (l : Code), loopAt c n = some l → LamAt P W S0 ρ0 w0 N r (lamA P Γ lv k m c d) n l
  | 0, n, l, _ => fun s K ρ a w hK _ => by cases hK
  | d + 1, n, l, hl => by
    intro s K ρ a w hK h
    rw [lamA, hl] at hK
    split at hK
    · rename_i b e
      obtain rfl := Option.some.inj e
      obtain ⟨h1, h2⟩ := loopAt_sub (.inl hl)
      exact wp_loop_rounds k (loop_ok hm (fun s K ρ a w hK h => runA_ok hmx hΓ hG b (n + 1) s K ρ a w (h2 N hd) (fun q l' hl' => lamA_ok hmx hΓ hG hm hd d (n + 1 + q) l' (h1 q l' hl')) hK h) k s K ρ a w hK h)
    · rename_i b e
      obtain rfl := Option.some.inj e
      obtain ⟨h1, h2⟩ := loopAt_sub (.inr hl)
      have good : ∀ (n' : Nat) (c' : Code), dstC N c' = true → (∀ q l', loopAt c' q = some l' → ∃ q0, loopAt b q0 = some l' ∧ n + 1 + q0 = n' + q) → Good P W S0 ρ0 w0 N r (runA P Γ (fun q s K => lamA P Γ lv k m c d q s K) n' c') c' := by
        intro n' c' hd' hl' s K ρ a w hK h
        refine runA_ok hmx hΓ hG c' n' s K ρ a w hd' (fun q l' hq => ?_) hK h
        obtain ⟨q0, g1, g2⟩ := hl' q l' hq
        rw [← g2]
        exact lamA_ok hmx hΓ hG hm hd d (n + 1 + q0) l' (h1 q0 l' g1)
      refine wp_scope_of (scope_ok hm (fun l n' c' hf => ?_) (fun l hf => behind_none hf) k (n + 1) b (good (n + 1) b (h2 N hd) (fun q l' hq => ⟨q, hq, rfl⟩)) s K ρ a w hK h)
      obtain ⟨g1, g2, g3, _⟩ := behind_some hf
      exact ⟨g1, good n' c' (g3 N (h2 N hd)) g2⟩
    · cases hK
theorem bx_lies' {b : Nat} {T : TypeId} {cs : List Value} (h : Bx w b T cs) : Lies w.heap b 0 cs := bx_lies h
theorem resA_ok {s : St} (h : StB W S0 ρ0 w0 N s ρ a w) : ∀ {rs : List ResultVar} {K : List AV → Option R}, resA P s rs K = some r → ∃ l vs, K l = some r ∧ A2 (VR (cx W s.ob ρ w)) l vs ∧ l.length = rs.length ∧ ∀ f : ResultVar → Sem Value, (∀ u, f (.tmp u) = pure (a.tmps.getD u undef)) → (∀ p t, f (.cell p t) = (do loadVar t (← asAddr (a.tmps.getD p undef)))) → (rs.mapM f).run P w = .ok vs w
  | [], K, hK => ⟨[], [], hK, .nil, rfl, fun f _ _ => by simp⟩
  | .tmp t :: rs, K, hK => by
    rw [resA] at hK
    split at hK
    · rename_i v hv
      obtain ⟨l, vs, h1, h2, h3, h4⟩ := resA_ok h hK
      exact ⟨v :: l, a.tmps.getD t undef :: vs, h1, .cons (h.sl t v hv) h2, by simp [h3], fun f hf hc => by simp only [List.mapM_cons, hf, Sem.run_bind, Sem.run_pure, Result.andThen_ok, h4 f hf hc]⟩
    · cases hK
  | .cell p t :: rs, K, hK => by
    rw [resA] at hK
    split at hK
    · rename_i q hv
      split at hK
      · rename_i bt v m hi
        cases ho : loadOk P t v with
        | false => rw [ho] at hK; cases hK
        | true =>
          rw [ho, cond_true] at hK
          obtain ⟨l, vs, h1, h2, h3, h4⟩ := resA_ok h hK
          obtain ⟨hq, b, hb, e⟩ := vr_ptr (h.sl p _ hv)
          obtain ⟨b', cs, e1, hc, hl, hx, _⟩ := h.aft.rel.ob q _ hi
          have hbb : b' = b := by
            have hb : (ρ q).a = _ := hb
            rw [e1] at hb
            exact congrArg Addr.block (Option.some.inj hb)
          subst hbb
          obtain ⟨k1, k2⟩ := loadOk_ok ho
          have hat := lies_at (bx_lies hx)
          have hrun : ∃ u, (loadVar t ⟨b', 0, none⟩).run P w = .ok u w ∧ VR (cx W s.ob ρ w) v u := by
            cases hg : v.isAgg with
            | true =>
              rw [hg] at k1
              refine ⟨_, run_loadAgg hat (run_agg k1) (run_size (k2 hg)) (cr_len hc), ?_⟩
              have := cr_vr hc
              rw [hg] at this
              exact this
            | false =>
              rw [hg] at k1
              have hl1 : cs.length = 1 := by rw [cr_len hc]; exact agg_sz hc hg
              obtain ⟨c, rfl⟩ : ∃ c, cs = [c] := List.length_eq_one_iff.1 hl1
              refine ⟨c, run_load_cell (hat 0 c rfl) (run_agg k1), ?_⟩
              have := cr_vr hc
              rw [hg] at this
              exact this
          obtain ⟨u, hu, hvu⟩ := hrun
          refine ⟨v :: l, u :: vs, h1, .cons hvu h2, by simp [h3], fun f hf hc => ?_⟩
          have e0 : a.tmps.getD p undef = .pointer (some ⟨b', 0, none⟩) := e
          simp only [List.mapM_cons, hc, e0, asAddr, Sem.run_bind, Sem.run_pure, Result.andThen_ok, hu, h4 f hf hc]
      · cases hK
    · cases hK
end
end Go.Mx
namespace Go.Mx
open Go Go.RowKit Go.Sx
variable [Glb]
def noNG (P : Program) : Bool := P.funcs.toList.all fun fn => match fn.body with | some _ => fn.name != "runtime.NumGoroutine" | none => true
theorem run_enter {P : Program} {f : FuncId} {fn : Func} {c : Code} (hNG : noNG P = true) (hf : P.funcs[f]? = some fn) (hb : fn.body = some c) (us : Array Value) (w : World) : (callFunc f us).run P w = .ok (.enter f us) w := by
  have h := List.all_eq_true.1 hNG fn (by rw [← Array.getElem?_toList] at hf; exact List.mem_of_getElem? hf)
  rw [hb] at h
  have h : ¬ fn.name = "runtime.NumGoroutine" := by simpa using h
  simp [callFunc, hf, h, hb]
theorem a2_len {α β : Type} {R : α → β → Prop} : ∀ {l : List α} {m : List β}, A2 R l m → l.length = m.length
  | [], _, h => by cases h; rfl
  | _ :: _, _, h => by cases h with | cons _ h2 => simp [a2_len h2]
theorem a2_get {α β : Type} {R : α → β → Prop} : ∀ {l : List α} {m : List β}, A2 R l m → ∀ {i : Nat} {x : α}, l[i]? = some x → ∃ y, m[i]? = some y ∧ R x y
  | [], _, h, i, x, hx => by simp at hx
  | _ :: _, _, h, i, x, hx => by
    cases h with
    | cons h1 h2 =>
      cases i with
      | zero => obtain rfl := Option.some.inj hx; exact ⟨_, rfl, h1⟩
      | succ i => exact a2_get h2 hx
theorem zipS_look : ∀ (l : List AV) (n t : Nat) (v : AV), lookA t (zipS n l) = some v → n ≤ t ∧ l[t - n]? = some v
  | [], n, t, v, h => by cases h
  | u :: l, n, t, v, h => by
    rw [zipS, look_cons] at h
    by_cases e : n = t
    · rw [if_pos e] at h
      subst e
      rw [Nat.sub_self]
      exact ⟨Nat.le_refl _, h⟩
    · rw [if_neg e] at h
      obtain ⟨h1, h2⟩ := zipS_look l (n + 1) t v h
      exact ⟨by omega, by rw [show t - n = (t - (n + 1)) + 1 by omega]; exact h2⟩
def oneV : List Value → Value
  | [v] => v
  | vs => .tuple vs.toArray
theorem results_run {P : Program} {fn : Func} {tmps : Array Value} {rs : List ResultVar} {vs : List Value} {w : World} (hr : fn.results = rs.toArray) (h : ∀ f : ResultVar → Sem Value, (∀ u, f (.tmp u) = pure (tmps.getD u undef)) → (∀ p t, f (.cell p t) = (do loadVar t (← asAddr (tmps.getD p undef)))) → (rs.mapM f).run P w = .ok vs w) : (results fn tmps).run P w = .ok (oneV vs) w := by
  unfold results
  rw [hr, List.mapM_toArray]
  simp only [Sem.run_bind, Sem.run_map]
  rw [h _ (fun _ => rfl) (fun _ _ => rfl)]
  cases vs with
  | nil => simp [oneV]
  | cons v vs =>
    cases vs with
    | nil => simp [oneV]
    | cons v' vs => simp [oneV]
section
variable {R : Type} {P : Program} {Γ : Sums} {W : Nat → Prop} {S0 : List AO} {ρ0 ρ : Nat → Geo} {w0 w : World} {a : Act} {N : Nat} {r : R}
theorem retA_ok {fn : Func} {s : St} {K : KV R} (hK : retA P fn S0.length s K = some r) (h : StB W S0 ρ0 w0 N s ρ a w) : ∃ u v ob' ρ', (results fn a.tmps).run P w = .ok u w ∧ K v ob' = some r ∧ Aft W S0 ρ0 w0 ob' ρ' w ∧ VR (cx W ob' ρ' w) v u := by
  unfold retA at hK
  obtain ⟨l, vs, h1, h2, _, h4⟩ := resA_ok h hK
  have hrun := results_run (P := P) (fn := fn) (tmps := a.tmps) (rs := fn.results.toList) (vs := vs) (w := w) (by rw [Array.toArray_toList]) h4
  obtain ⟨ho, h1⟩ | ⟨_, h1⟩ := cond_elim h1
  · have hv : VR (cx W s.ob ρ w) (one1 l) (oneV vs) := by
      cases h2 with
      | nil => exact ⟨[], rfl, by rw [VRs]⟩
      | cons g1 g2 =>
        cases g2 with
        | nil => exact g1
        | cons g2 g3 => exact ⟨_, rfl, a2_vrs (.cons g1 (.cons g2 g3)) ho⟩
    have st : StB W S0 ρ0 w0 1 ⟨[(0, one1 l)], s.ob⟩ ρ { tmps := #[oneV vs], defers := [] } w := by
      refine ⟨h.aft, fun t v hl => ?_, rfl, rfl⟩
      rw [look_cons] at hl
      by_cases e : 0 = t
      · rw [if_pos e] at hl
        obtain rfl := Option.some.inj hl
        subst e
        exact hv
      · rw [if_neg e] at hl; cases hl
    obtain ⟨s', ρ', hK', h'⟩ := tell_ok h1 st
    split at hK'
    · rename_i t v hs
      obtain ⟨ht, hK'⟩ | ⟨_, hK'⟩ := cond_elim hK'
      · have ht := Nat.eq_of_beq_eq_true ht
        subst ht
        refine ⟨_, v, s'.ob, ρ', hrun, hK', h'.aft, h'.sl 0 v (by rw [hs, look_cons, if_pos rfl])⟩
      · cases hK'
    · cases hK'
  · cases h1
theorem funA_ok (hmx : P.follows .mixedOrders = true) (hΓ : CallOk P Γ) (hG : PrimOk P Γ) {f : FuncId} {fn : Func} {c : Code} (hf : P.funcs[f]? = some fn) (hb : fn.body = some c) {Λ : Nat → St → (Exit → St → Option R) → Option R} {args : List AV} {ob : List AO} {K : KV R} (hK : funA P Γ Λ fn args ob K = some r)
    {us : List Value} (hΛ : dstC fn.ntmps c = true → ∀ q l, loopAt c q = some l → LamAt P W ob ρ w fn.ntmps r Λ q l) (h : Rel W ob ρ w) (ha : A2 (VR (cx W ob ρ w)) args us) :
    Calls P f us.toArray w (Ret fun u w' => ∃ v ob' ρ', K v ob' = some r ∧ Aft W ob ρ w ob' ρ' w' ∧ VR (cx W ob' ρ' w') v u) := by
  unfold funA at hK
  rw [hb] at hK
  simp only at hK
  obtain ⟨hc, hK⟩ | ⟨_, hK⟩ := cond_elim hK
  · rw [Bool.and_eq_true] at hc
    have hlen := a2_len ha
    have hle := Nat.le_of_ble_eq_true hc.1
    have hsz : us.toArray.size ≤ fn.ntmps := by simp; omega
    refine calls_of_wp hf hb ?_
    have st : StB W ob ρ w fn.ntmps ⟨zipS 0 args, ob⟩ ρ { tmps := us.toArray ++ Array.replicate (fn.ntmps - us.toArray.size) undef, defers := [] } w := by
      refine ⟨Aft.refl h, fun t v hl => ?_, rfl, by simp at hsz ⊢; omega⟩
      obtain ⟨_, h1⟩ := zipS_look args 0 t v hl
      rw [Nat.sub_zero] at h1
      obtain ⟨u, h2, h3⟩ := a2_get ha h1
      have ht : t < us.length := (List.getElem?_eq_some_iff.1 h2).1
      have e : (us.toArray ++ Array.replicate (fn.ntmps - us.toArray.size) undef).getD t undef = u := by
        simp only [Array.getD_eq_getD_getElem?, Array.getElem?_append, List.size_toArray, ht, if_true, List.getElem?_toArray, h2, Option.getD_some]
      rw [e]
      exact h3
    refine wp_mono (runA_ok hmx hΓ hG c 0 _ _ ρ _ w hc.2 (fun q l hl => by rw [Nat.zero_add]; exact hΛ hc.2 q l hl) hK st) ?_
    rintro e a' w' ⟨s', ρ', hK', h'⟩
    cases e with
    | ret =>
      obtain ⟨u, v, ob', ρ2, h1, h2, h3, h4⟩ := retA_ok hK' h'
      exact ⟨h'.df, u, h1, v, ob', ρ2, h2, h3, h4⟩
    | normal =>
      simp only at hK'
      split at hK'
      · obtain ⟨u, v, ob', ρ2, h1, h2, h3, h4⟩ := retA_ok hK' h'
        exact ⟨h'.df, u, h1, v, ob', ρ2, h2, h3, h4⟩
      · cases hK'
    | _ => cases hK'
  · cases hK
end
def PrimsOk (P : Program) (F : FuncId → Option Prim) : Prop := ∀ {R : Type} (f : FuncId) (p : Prim), F f = some p → ∀ (args : List AV) (ob : List AO) (K : KV R) (r : R), primA P p args ob K = some r → ∀ (W : Nat → Prop) (ρ : Nat → Geo) (w : World) (us : List Value), Rel W ob ρ w → A2 (VR (cx W ob ρ w)) args us →
  Inv P f us w (fun u w' => ∃ v ob' ρ', K v ob' = some r ∧ Aft W ob ρ w ob' ρ' w' ∧ VR (cx W ob' ρ' w') v u)
theorem wide_ok {P : Program} {F : FuncId → Option Prim} {Wr : FuncId → List Nat} {k : Nat} (hmx : P.follows .mixedOrders = true) (hNG : noNG P = true) (hF : PrimsOk P F) : ∀ d, CallOk P (wideA P F Wr k d)
  | 0 => fun f args ob K r hK => by cases hK
  | d + 1 => by
    intro f args ob K r hK W ρ w us h ha
    have hK : (match P.funcs[f]? with
      | some fn => (match fn.body with
        | some c => funA P (wideA P F Wr k d) (lamA P (wideA P F Wr k d) (fun _ => none) k ob.length c 20) fn args ob K
        | none => none)
      | none => none) = some r := hK
    split at hK
    · rename_i fn hf
      split at hK
      · rename_i c hb
        have hΓ : CallOk P (wideA P F Wr k d) := wide_ok (Wr := Wr) (k := k) hmx hNG hF d
        have hG : PrimOk P (wideA P F Wr k d) := by
          cases d with
          | zero => exact ⟨wide_nat P F Wr k 0, fun f p hp => hF f p hp⟩
          | succ d => exact ⟨wide_nat P F Wr k (d + 1), fun f p hp => hF f p hp⟩
        refine .inr ⟨run_enter hNG hf hb _ _, funA_ok hmx hΓ hG hf hb hK (fun hd q l hl => lamA_ok hmx hΓ hG rfl hd 20 q l hl) h ha⟩
      · cases hK
    · cases hK
end Go.Mx
namespace Go.Mx
open Go Go.RowKit Go.Sx
variable [Glb]
def isTrue (v : AV) (_ : List AO) : Option Bool := match v with | .dat .bool b => some b | _ => none
theorem prims_none (P : Program) : PrimsOk P (fun _ => none) := fun f p hp => by cases hp
theorem rel_nil (w : World) (hg : GlR (cx (fun _ => False) [] (fun _ => ⟨none, 0, 0, 0⟩) w)) : Rel (fun _ => False) [] (fun _ => ⟨none, 0, 0, 0⟩) w :=
  ⟨fun i o hi => by simp at hi, fun i j o o' p q _ hi => by simp at hi, fun k hk => hk.elim, fun k hk => by obtain ⟨i, o, p, hi, _⟩ := hk; simp at hi, hg⟩
theorem gl_none (h : ∀ g, Glb.gl g = none) (x : Cx) : GlR x := fun g z hz => by rw [h g] at hz; cases hz
theorem closed {P : Program} {F : FuncId → Option Prim} {Wr : FuncId → List Nat} {k d : Nat} {f : FuncId} (hmx : P.follows .mixedOrders = true) (hNG : noNG P = true) (hF : PrimsOk P F) (hK : (wideA P F Wr k d).call f [] [] isTrue = some true) (w : World) (hg : GlR (cx (fun _ => False) [] (fun _ => ⟨none, 0, 0, 0⟩) w)) :
    Calls P f #[] w (Ret fun u w' => u = .bool true ∧ Fr w w' No) := by
  have body : ∃ fn c, P.funcs[f]? = some fn ∧ fn.body = some c := by
    cases d with
    | zero => cases hK
    | succ d =>
      have hK : (match P.funcs[f]? with
        | some fn => (match fn.body with
          | some c => funA P (wideA P F Wr k d) (lamA P (wideA P F Wr k d) (fun _ => none) k ([] : List AO).length c 20) fn [] [] isTrue
          | none => none)
        | none => none) = some true := hK
      split at hK
      · rename_i fn hf
        split at hK
        · rename_i c hb
          exact ⟨fn, c, hf, hb⟩
        · cases hK
      · cases hK
  obtain ⟨fn, c, hf, hb⟩ := body
  rcases wide_ok hmx hNG hF d f [] [] isTrue true hK (fun _ => False) (fun _ => ⟨none, 0, 0, 0⟩) w [] (rel_nil w hg) .nil with ⟨u, w', h1, _⟩ | ⟨_, h⟩
  · rw [run_enter hNG hf hb] at h1
    cases h1
  · refine h.mono fun e w' he => ?_
    cases e with
    | returned u =>
      obtain ⟨v, ob', ρ', h1, h2, h3⟩ := he
      unfold isTrue at h1
      split at h1
      · obtain rfl := Option.some.inj h1
        exact ⟨vr_bool h3, h2.fr.mono (fun k _ hk => by obtain ⟨i, o, p, hi, _⟩ := hk; simp at hi)⟩
      · cases h1
    | _ => exact he
end Go.Mx
namespace Go.Mx
open Go Go.RowKit Go.Sx
variable [Glb]
variable {R : Type}
def contR (P : Program) (Γ : Sums) (Λ : Nat → St → (Exit → St → Option R) → Option R) : Nat → Code → (Exit → St → Option R) → Nat → Exit → St → Option R
  | n, .seq x y, K, q => cond (Nat.blt q (n + nl x)) (contR P Γ Λ n x (fun e s => match e with
      | .normal => runA P Γ Λ (n + nl x) y s K
      | e => K e s) q) (contR P Γ Λ (n + nl x) y K q)
  | n, .cond _ x y, K, q => cond (Nat.blt q (n + nl x)) (contR P Γ Λ n x K q) (contR P Γ Λ (n + nl x) y K q)
  | n, .block i c, K, q => contR P Γ Λ n c (fun e s => match e with
      | .exit j => cond (Nat.beq j i) (K .normal s) (K (.exit j) s)
      | e => K e s) q
  | _, _, K, _ => K
def retK (P : Program) (fn : Func) (m : Nat) (K : KV R) : Exit → St → Option R := fun e s => match e with
  | .ret => retA P fn m s K
  | .normal => (match fn.results.toList with | [] => retA P fn m s K | _ => none)
  | _ => none
def codeOf (fn : Func) : Code := match fn.body with | some c => c | none => .skip
def bodyOf (fn : Func) (n : Nat) : Code := match loopAt (codeOf fn) n with | some (.loop b) => b | some (.scope b) => b | _ => .skip
def stepK (m : Nat) (live : List Nat) (L : St → (Exit → St → Option R) → Option R) (K : Exit → St → Option R) : Exit → St → Option R := fun e s => match e with
  | .normal => tellA m live s fun s => L s K
  | e => K e s
def loopB (m : Nat) (live : List Nat) (body : St → (Exit → St → Option R) → Option R) : Nat → St → (Exit → St → Option R) → Option R
  | 0, _, _ => none
  | k + 1, s, K => body s (stepK m live (loopB m live body k) K)
theorem tell_none (m : Nat) (live : List Nat) (s : St) : tellA (R := R) m live s (fun _ => none) = none := by
  have h := bd_tell (R := St) (S := R) (fun _ => none) m live s (fun s => some s)
  rw [show (fun s => ((fun s => some s) s : Option St).bind fun _ => (none : Option R)) = fun _ => none from rfl] at h
  rw [← h]; cases tellA m live s (fun s => some s) <;> rfl
theorem loopA_B (m : Nat) (live : List Nat) (body : St → (Exit → St → Option R) → Option R) : ∀ (k : Nat) (s : St) (K : Exit → St → Option R), loopA m live body k s K = (match k with | 0 => none | k => tellA m live s fun s => loopB m live body k s K)
  | 0, _, _ => rfl
  | 1, s, K => by
    unfold loopA
    show tellA m live s _ = tellA m live s _
    congr 1; funext s
    show body s _ = body s _
    congr 1; funext e s
    cases e <;> first | rfl | skip
    exact (tell_none m live _).symm
  | k + 2, s, K => by
    unfold loopA
    show tellA m live s _ = tellA m live s _
    congr 1; funext s
    show body s _ = body s _
    congr 1; funext e s
    cases e <;> first | rfl | exact loopA_B m live body (k + 1) _ K
end Go.Mx
namespace Go.Mx
open Go Go.RowKit Go.Sx
variable [Glb]
structure Summ where
  run : {R : Type} → List AV → List AO → KV R → Option R
def Summ.Nat (S : Summ) : Prop := ∀ {R R' : Type} (f : R → Option R') (as : List AV) (ob : List AO) (K : KV R), (S.run as ob K).bind f = S.run as ob (fun v o => (K v o).bind f)
def SumOk (P : Program) (f : FuncId) (S : Summ) : Prop := S.Nat ∧ ∀ {R : Type} (args : List AV) (ob : List AO) (K : KV R) (r : R), S.run args ob K = some r → ∀ (W : Nat → Prop) (ρ : Nat → Geo) (w : World) (us : List Value), Rel W ob ρ w → A2 (VR (cx W ob ρ w)) args us →
  Inv P f us w (fun u w' => ∃ v ob' ρ', K v ob' = some r ∧ Aft W ob ρ w ob' ρ' w' ∧ VR (cx W ob' ρ' w') v u)
def findS (f : FuncId) : List (FuncId × Summ) → Option Summ
  | [] => none
  | p :: r => cond (Nat.beq p.1 f) (some p.2) (findS f r)
def sums (Wr : FuncId → List Nat) (l : List (FuncId × Summ)) : Sums := ⟨fun _ => none, fun f args ob K => match findS f l with | some S => S.run args ob K | none => none, fun f _ => Wr f⟩
def AllOk (P : Program) : List (FuncId × Summ) → Prop
  | [] => True
  | p :: r => SumOk P p.1 p.2 ∧ AllOk P r
theorem findS_ok {P : Program} {f : FuncId} {S : Summ} : ∀ {l : List (FuncId × Summ)}, AllOk P l → findS f l = some S → SumOk P f S
  | [], _, h => by cases h
  | p :: r, a, h => by
    unfold findS at h
    cases hb : Nat.beq p.1 f with
    | true => rw [hb] at h; obtain rfl := Option.some.inj h; rw [← Nat.eq_of_beq_eq_true hb]; exact a.1
    | false => rw [hb] at h; exact findS_ok a.2 h
theorem sums_call {P : Program} {Wr : FuncId → List Nat} {l : List (FuncId × Summ)} (a : AllOk P l) : CallOk P (sums Wr l) := by
  intro R f args ob K r hK
  have hK : (match findS f l with | some S => S.run args ob K | none => none) = some r := hK
  split at hK
  · rename_i S hS
    exact (findS_ok a hS).2 args ob K r hK
  · cases hK
theorem sums_nat {P : Program} {Wr : FuncId → List Nat} {l : List (FuncId × Summ)} (a : AllOk P l) : SumsNat (sums Wr l) := by
  intro R S f g as ob K
  show (match findS g l with | some S => S.run as ob K | none => none).bind f = (match findS g l with | some S => S.run as ob (fun v o => (K v o).bind f) | none => none)
  split
  · rename_i S hS
    exact (findS_ok a hS).1 f as ob K
  · rfl
theorem sums_prim {P : Program} {Wr : FuncId → List Nat} {l : List (FuncId × Summ)} (a : AllOk P l) : PrimOk P (sums Wr l) := ⟨sums_nat a, fun f p h => by cases h⟩
def codeS (P : Program) (Γ : Sums) (lv : Nat → Option (List Nat)) (k : Nat) (fn : Func) : Summ := ⟨fun args ob K => funA P Γ (lamA P Γ lv k ob.length (codeOf fn) 20) fn args ob K⟩
theorem code_nat {P : Program} {Γ : Sums} (hΓ : SumsNat Γ) (lv : Nat → Option (List Nat)) (k : Nat) (fn : Func) : (codeS P Γ lv k fn).Nat := by
  intro R R' f as ob K
  exact bd_fun f P hΓ (Λ := fun n s K => lamA P Γ lv k ob.length (codeOf fn) 20 n s K) (bd_lam P hΓ lv k ob.length (codeOf fn) 20) fn as ob K
theorem code_ok {P : Program} {Γ : Sums} (hmx : P.follows .mixedOrders = true) (hNG : noNG P = true) (hΓ : CallOk P Γ) (hG : PrimOk P Γ) {f : FuncId} {fn : Func} (hf : P.funcs[f]? = some fn) (lv : Nat → Option (List Nat)) (k : Nat) : SumOk P f (codeS P Γ lv k fn) := by
  refine ⟨code_nat hG.1 lv k fn, ?_⟩
  intro R args ob K r hK W ρ w us h ha
  have hK : funA P Γ (lamA P Γ lv k ob.length (codeOf fn) 20) fn args ob K = some r := hK
  cases hb : fn.body with
  | none => unfold funA at hK; rw [hb] at hK; cases hK
  | some c =>
    have hc : codeOf fn = c := by unfold codeOf; rw [hb]
    rw [hc] at hK
    exact .inr ⟨run_enter hNG hf hb _ _, funA_ok hmx hΓ hG hf hb hK (fun hd q l hl => lamA_ok hmx hΓ hG rfl hd 20 q l hl) h ha⟩
theorem SumOk.le {P : Program} {f : FuncId} {S S' : Summ} (h : SumOk P f S) (hn : S'.Nat) (hl : ∀ {R : Type} (args : List AV) (ob : List AO) (K : KV R) (r : R), S'.run args ob K = some r → S.run args ob K = some r) : SumOk P f S' :=
  ⟨hn, fun args ob K r hK => h.2 args ob K r (hl args ob K r hK)⟩
section
variable {W : Nat → Prop} {S S' : List AO} {ρ : Nat → Geo} {w : World}
def coolOne (ty : TypeId) (t : T) (i : Nat) (ob : List AO) : List AO :=
  match ob[i]? with
  | some (.box ty' v m) => cond (Nat.beq ty' ty && !v.ids.contains i) (match frzP v ob with
    | (v', ob') => (match dec t v' with | some x => ob'.set i (.box ty' (.dat t x) m) | none => ob)) ob
  | _ => ob
def coolTys : List (TypeId × T) → Nat → List AO → List AO
  | [], _, ob => ob
  | p :: r, i, ob => coolTys r i (coolOne p.1 p.2 i ob)
def coolAll (l : List (TypeId × T)) : Nat → List AO → List AO
  | 0, ob => ob
  | n + 1, ob => coolTys l n (coolAll l n ob)
theorem coolOne_ok (ty : TypeId) (t : T) (i : Nat) (h : Rel W S ρ w) : Aft W S ρ w (coolOne ty t i S) ρ w := by
  unfold coolOne
  split
  · rename_i ty' v m hi
    cases hc : (Nat.beq ty' ty && !v.ids.contains i) with
    | false => exact Aft.refl h
    | true =>
      rw [cond_true]
      have hni : i ∉ v.ids := by
        rw [Bool.and_eq_true] at hc
        intro hm
        have := hc.2
        simp [hm] at this
      obtain ⟨b, cs, ha, hcr, hl, hbx, hm⟩ := h.ob i _ hi
      cases hf : frzP v S with
      | mk v' S1 =>
        obtain ⟨A1, hcr', hs⟩ := frzP_ok v h hf hcr
        dsimp only
        split
        · rename_i x hd
          refine A1.trans (Aft.put A1.rel (o := .box ty' v m) (by rw [hs i hni]; exact hi) (Fr.refl _ _) id ?_)
          intro le
          refine ⟨b, cs, ha, ?_, ?_, hbx, fun hmf => ?_⟩
          · have := dec_ok t v' cs hd hcr'
            exact (cr_dat.2 this).up le
          · exact kd_len (dec_ok t v' cs hd hcr')
          · intro hO
            refine hm hmf ?_
            obtain ⟨j, o, p, hj, ho, hp, hb⟩ := hO
            rcases set_get hj with ⟨_, hj⟩ | ⟨rfl, rfl, _⟩
            · rcases A1.nw b ⟨j, o, p, hj, ho, hp, hb⟩ with h1 | h1
              · exact h1
              · exfalso
                have hlt : b < w.heap.size := lies_lt (bx_lies hbx)
                omega
            · rw [hmf] at ho; cases ho
        · exact Aft.refl h
  · exact Aft.refl h
theorem coolTys_ok : ∀ (l : List (TypeId × T)) (i : Nat) {S : List AO}, Rel W S ρ w → Aft W S ρ w (coolTys l i S) ρ w
  | [], _, _, h => Aft.refl h
  | p :: r, i, _, h => (coolOne_ok p.1 p.2 i h).trans (coolTys_ok r i (coolOne_ok p.1 p.2 i h).rel)
theorem coolAll_ok (l : List (TypeId × T)) : ∀ (n : Nat) {S : List AO}, Rel W S ρ w → Aft W S ρ w (coolAll l n S) ρ w
  | 0, _, h => Aft.refl h
  | n + 1, _, h => (coolAll_ok l n h).trans (coolTys_ok l n (coolAll_ok l n h).rel)
end
def castV (t : T) (v : AV) : AV := match dec t v with | some x => .dat t x | none => v
theorem castV_ok {c : Cx} {t : T} {v : AV} {u : Value} (h : VR c v u) : VR c (castV t v) u := by
  unfold castV
  split
  · rename_i x hx
    obtain ⟨cs, h1, h2⟩ := vr_cr h (plain_dec hx)
    have hk := dec_ok t v cs hx h1
    refine ⟨cs, ?_, cr_dat.2 hk, kd_len hk⟩
    rw [h2, agg_dec hx]
    rfl
  · exact h
def castL : List T → List AV → List AV
  | t :: ts, v :: vs => castV t v :: castL ts vs
  | _, vs => vs
theorem castL_ok {c : Cx} : ∀ {ts : List T} {vs : List AV} {us : List Value}, A2 (VR c) vs us → A2 (VR c) (castL ts vs) us
  | [], _, _, h => h
  | _ :: _, _, _, .nil => .nil
  | _ :: _, _, _, .cons h1 h2 => .cons (castV_ok h1) (castL_ok h2)
def castR (ts : List T) (v : AV) : AV := match v with
  | .tup l => .tup (castL ts l)
  | v => (match ts with | [t] => castV t v | _ => v)
theorem castVs_ok {c : Cx} : ∀ {ts : List T} {vs : List AV} {us : List Value}, VRs c vs us → VRs c (castL ts vs) us
  | [], _, _, h => h
  | _ :: _, [], _, h => h
  | t :: ts, v :: vs, us, h => by
    rw [VRs] at h
    obtain ⟨cs, l', rfl, h1, h2, h3⟩ := h
    rw [castL, VRs]
    cases hd : dec t v with
    | none =>
      have : castV t v = v := by unfold castV; rw [hd]
      rw [this]
      exact ⟨cs, l', rfl, h1, h2, castVs_ok h3⟩
    | some x =>
      have : castV t v = .dat t x := by unfold castV; rw [hd]
      rw [this]
      have hk := dec_ok t v cs hd h1
      refine ⟨cs, l', ?_, cr_dat.2 hk, kd_len hk, castVs_ok h3⟩
      rw [agg_dec hd]
      rfl
theorem castR_ok {c : Cx} {ts : List T} {v : AV} {u : Value} (h : VR c v u) : VR c (castR ts v) u := by
  unfold castR
  split
  · obtain ⟨m, e, h1⟩ := h
    exact ⟨m, e, castVs_ok h1⟩
  · split
    · exact castV_ok h
    · exact h
def backS (ts : List T) (l : List (TypeId × T)) (S : Summ) : Summ := ⟨fun args ob K => S.run args ob fun v o => tellA ob.length [0] ⟨[(0, castR ts v)], coolAll l o.length o⟩ fun s => match s.sl with | [(t, v)] => cond (Nat.beq t 0) (K v s.ob) none | _ => none⟩
theorem back_nat {ts : List T} {l : List (TypeId × T)} {S : Summ} (h : S.Nat) : (backS ts l S).Nat := by
  intro R R' f as ob K
  show (S.run as ob _).bind f = S.run as ob _
  rw [h f as ob]
  congr 1; funext v o
  rw [bd_tell]; congr 1; funext s
  repeat' (first | rfl | split | (rw [bd_cond]; try (congr 1)))
theorem back_ok {P : Program} {f : FuncId} {ts : List T} {l : List (TypeId × T)} {S : Summ} (h : SumOk P f S) : SumOk P f (backS ts l S) := by
  refine ⟨back_nat h.1, ?_⟩
  intro R args ob K r hK W ρ w us hr ha
  refine (h.2 args ob _ r hK W ρ w us hr ha).mono ?_
  rintro u w' ⟨v, ob', ρ', h1, h2, h3⟩
  have A := h2.trans (coolAll_ok l ob'.length h2.rel)
  have hv := (castR_ok (ts := ts) h3).up (coolAll_ok l ob'.length h2.rel).le
  have st : StB W ob ρ w 1 ⟨[(0, castR ts v)], coolAll l ob'.length ob'⟩ ρ' { tmps := #[u], defers := [] } w' := by
    refine ⟨A, fun t v' hl => ?_, rfl, rfl⟩
    rw [look_cons] at hl
    by_cases e : 0 = t
    · rw [if_pos e] at hl
      obtain rfl := Option.some.inj hl
      subst e
      exact hv
    · rw [if_neg e] at hl; cases hl
  obtain ⟨s', ρ2, hK', h'⟩ := tell_ok h1 st
  split at hK'
  · rename_i t v' hs
    obtain ⟨ht, hK'⟩ | ⟨_, hK'⟩ := cond_elim hK'
    · have ht := Nat.eq_of_beq_eq_true ht
      subst ht
      exact ⟨v', s'.ob, ρ2, hK', h'.aft, h'.sl 0 v' (by rw [hs, look_cons, if_pos rfl])⟩
    · cases hK'
  · cases hK'
def argS (ts : List T) (S : Summ) : Summ := ⟨fun args ob K => S.run (castL ts args) ob K⟩
theorem arg_ok {P : Program} {f : FuncId} {ts : List T} {S : Summ} (h : SumOk P f S) : SumOk P f (argS ts S) := by
  refine ⟨fun g as ob K => h.1 g (castL ts as) ob K, ?_⟩
  intro R args ob K r hK W ρ w us hr ha
  exact h.2 (castL ts args) ob K r hK W ρ w us hr (castL_ok ha)
def inS (f : FuncId) (l : List (TypeId × T)) (S : Summ) : Summ := ⟨fun args ob K => callA (sums (fun _ => List.range 60) [(f, S)]) f args (coolAll l ob.length ob) K⟩
theorem a2_up {c c' : Cx} (h : c.Le c') : ∀ {vs : List AV} {us : List Value}, A2 (VR c) vs us → A2 (VR c') vs us
  | _, _, .nil => .nil
  | _, _, .cons h1 h2 => .cons (h1.up h) (a2_up h h2)
theorem in_ok {P : Program} {f : FuncId} {l : List (TypeId × T)} {S : Summ} (h : SumOk P f S) : SumOk P f (inS f l S) := by
  have al : AllOk P [(f, S)] := ⟨h, trivial⟩
  refine ⟨fun g as ob K => bd_call g (sums_nat al) f as _ K, ?_⟩
  intro R args ob K r hK W ρ w us hr ha
  have A := coolAll_ok l ob.length hr
  refine (callA_ok (sums_call al) hK A.rel (a2_up A.le ha)).mono ?_
  rintro u w' ⟨v, ob', ρ', h1, h2, h3⟩
  exact ⟨v, ob', ρ', h1, A.trans h2, h3⟩
def asD (t : T) (v : AV) : Option t.den := match v with | .dat t' x => if h : t' = t then some (h ▸ x) else none | _ => none
theorem asD_ok {t : T} {v : AV} {x : t.den} (h : asD t v = some x) : v = .dat t x := by
  unfold asD at h
  split at h
  · split at h
    · rename_i e; subst e; obtain rfl := Option.some.inj h; rfl
    · cases h
  · cases h
theorem no_or {c : Cx} {t : T} {u : Value} (h : VR c (.dat (.sl t) []) u) : VR c (.nilw t) u ∨ VR c (.sln t []) u := by
  obtain ⟨cs, hr, e⟩ := vr_dat h
  obtain ⟨p, k, e2, hr⟩ : ∃ p k, cs = [.slice p 0 k] ∧ Raw c.A t.kd c.h p k ([] : List t.den) := hr
  cases p with
  | none => exact .inl ⟨cs, e, by rw [CR]; exact ⟨k, hr.2.1, e2⟩, by rw [e2]; rfl⟩
  | some p => exact .inr ⟨cs, e, by rw [CR]; exact ⟨p, k, e2, hr⟩, by rw [e2]; rfl⟩
theorem vw_or {W : Nat → Prop} {S : List AO} {ρ : Nat → Geo} {w : World} {i : Nat} {e : TypeId} {t : T} {m : Md} {u : Value} (hr : Rel W S ρ w) (hi : S[i]? = some (.row e t [] m)) (h : VR (cx W S ρ w) (.view i) u) : VR (cx W S ρ w) (.nilw t) u ∨ VR (cx W S ρ w) (.sln t []) u := by
  obtain ⟨cs, e1, hc, hl⟩ := h
  rw [CR] at hc
  obtain ⟨g1, _, _, g4, _⟩ := row_lies hr hi
  have g1 : ((cx W S ρ w).g i).n = 0 := g1
  have e2 := hc.2
  rw [g1] at e2
  cases hp : ((cx W S ρ w).g i).a with
  | none => rw [hp] at e2; exact .inl ⟨cs, e1, by rw [CR]; exact ⟨_, g4, e2⟩, hl⟩
  | some p => rw [hp] at e2; exact .inr ⟨cs, e1, by rw [CR]; exact ⟨p, _, e2, Raw.nil _ _ _ (some p) _ g4⟩, hl⟩
theorem pre_or {W : Nat → Prop} {S : List AO} {ρ : Nat → Geo} {w : World} {i : Nat} {e : TypeId} {t : T} {xs : List t.den} {m : Md} {u : Value} (hr : Rel W S ρ w) (hi : S[i]? = some (.row e t xs m)) (h : VR (cx W S ρ w) (.pre i 0) u) : VR (cx W S ρ w) (.nilw t) u ∨ VR (cx W S ρ w) (.sln t []) u := by
  obtain ⟨cs, e1, hc, hl⟩ := h
  rw [CR] at hc
  obtain ⟨_, _, _, g4, _⟩ := row_lies hr hi
  have e2 := hc.2.2
  cases hp : ((cx W S ρ w).g i).a with
  | none => rw [hp] at e2; exact .inl ⟨cs, e1, by rw [CR]; exact ⟨_, g4, e2⟩, hl⟩
  | some p => rw [hp] at e2; exact .inr ⟨cs, e1, by rw [CR]; exact ⟨p, _, e2, Raw.nil _ _ _ (some p) _ g4⟩, hl⟩
theorem pre_le {W : Nat → Prop} {S : List AO} {ρ : Nat → Geo} {w : World} {i n : Nat} {e : TypeId} {t : T} {xs : List t.den} {m : Md} {u : Value} (hr : Rel W S ρ w) (hi : S[i]? = some (.row e t xs m)) (h : VR (cx W S ρ w) (.pre i n) u) : n ≤ xs.length := by
  obtain ⟨cs, e1, hc, hl⟩ := h
  rw [CR] at hc
  obtain ⟨g1, _⟩ := row_lies hr hi
  have hle : n ≤ (ρ i).n := hc.2.1
  omega
end Go.Mx
namespace Go.Mx
open Go Go.RowKit Go.Sx
variable [Glb]
structure Tl where
  lv : Nat → Option (List Nat)
  cl : List (TypeId × T)
def listK {A R : Type} (xs : List A) (n : Option R) (c : A → List A → Option R) : Option R := match xs with | [] => n | z :: zs => c z zs
def optK {A R : Type} (x : Option A) (n : Option R) (c : A → Option R) : Option R := match x with | none => n | some a => c a
theorem bd_opt {R R' A : Type} (f : R → Option R') (x : Option A) (n : Option R) (c : A → Option R) : (optK x n c).bind f = optK x (n.bind f) (fun a => (c a).bind f) := by cases x <;> rfl
theorem bd_list {R R' A : Type} (f : R → Option R') (xs : List A) (n : Option R) (c : A → List A → Option R) : (listK xs n c).bind f = listK xs (n.bind f) (fun z zs => (c z zs).bind f) := by cases xs <;> rfl
section
variable {R : Type}
def tellC (m : Nat) (lv : Tl) (q : Nat) (s : St) (K : St → Option R) : Option R := tellA m (liveA lv.lv q s) ⟨s.sl, coolAll lv.cl s.ob.length s.ob⟩ K
def scopeK (m : Nat) (lv : Tl) (L : Nat → St → (Exit → St → Option R) → Option R) (n : Nat) (b : Code) (K : Exit → St → Option R) : Exit → St → Option R := fun e s => match e with
  | .goto l => (match behind l b (n + 1) with
    | some _ => cond (Nat.blt n 64) (tellC m lv (2 * (l * 64 + n) + 1) s fun s => L (2 * (l * 64 + n) + 1) s K) none
    | none => K (.goto l) s)
  | e => K e s
def roundK (m : Nat) (lv : Tl) (L : Nat → St → (Exit → St → Option R) → Option R) (q : Nat) (K : Exit → St → Option R) : Exit → St → Option R := fun e s => match e with
  | .normal => tellC m lv q s fun s => L q s K
  | e => K e s
def lamX (P : Program) (Γ : Sums) (lv : Tl) (m : Nat) (c : Code) (L : Nat → St → (Exit → St → Option R) → Option R) : Nat → Nat → St → (Exit → St → Option R) → Option R
  | 0, _, _, _ => none
  | d + 1, n, s, K => (match loopAt c n with
    | some (.loop _) => tellC m lv (2 * n) s fun s => L (2 * n) s K
    | some (.scope b) => runA P Γ (fun q s K => lamX P Γ lv m c L d q s K) (n + 1) b s (scopeK m lv L n b K)
    | _ => none)
def stepX (P : Program) (Γ : Sums) (lv : Tl) (m : Nat) (c : Code) (L : Nat → St → (Exit → St → Option R) → Option R) (q : Nat) (s : St) (K : Exit → St → Option R) : Option R :=
  cond (Nat.beq (q % 2) 0)
    (match loopAt c (q / 2) with
      | some (.loop b) => runA P Γ (lamX P Γ lv m c L 20) (q / 2 + 1) b s (roundK m lv L q K)
      | _ => none)
    (match loopAt c (q / 2 % 64) with
      | some (.scope b) => (match behind (q / 2 / 64) b (q / 2 % 64 + 1) with
        | some (n', c') => runA P Γ (lamX P Γ lv m c L 20) n' c' s (scopeK m lv L (q / 2 % 64) b K)
        | none => none)
      | _ => none)
def LX (P : Program) (Γ : Sums) (lv : Tl) (m : Nat) (c : Code) : Nat → Nat → St → (Exit → St → Option R) → Option R
  | 0 => fun _ _ _ => none
  | k + 1 => fun q s K => stepX P Γ lv m c (LX P Γ lv m c k) q s K
end
section
variable {R : Type} {P : Program} {Γ : Sums} {W : Nat → Prop} {S0 : List AO} {ρ0 ρ : Nat → Geo} {w0 w : World} {a : Act} {N : Nat} {r : R}
theorem tellC_ok {lv : Tl} {q : Nat} {s : St} {K : St → Option R} (hK : tellC S0.length lv q s K = some r) (h : StB W S0 ρ0 w0 N s ρ a w) : ∃ s' ρ', K s' = some r ∧ StB W S0 ρ0 w0 N s' ρ' a w :=
  tell_ok hK ⟨h.aft.trans (coolAll_ok lv.cl s.ob.length h.aft.rel), h.sl.up (coolAll_ok lv.cl s.ob.length h.aft.rel).le, h.df, h.sz⟩
structure LOk (P : Program) (W : Nat → Prop) (S0 : List AO) (ρ0 : Nat → Geo) (w0 : World) (N : Nat) (r : R) (c : Code) (κ : Nat) (L : Nat → St → (Exit → St → Option R) → Option R) : Prop where
  loop : ∀ n b, loopAt c n = some (.loop b) → ∀ (s : St) (K : Exit → St → Option R) (ρ : Nat → Geo) (a : Act) (w : World), L (2 * n) s K = some r → StB W S0 ρ0 w0 N s ρ a w → Code.rounds P b (fun e a' w' => ∃ s' ρ', K e s' = some r ∧ StB W S0 ρ0 w0 N s' ρ' a' w') κ a w
  lab : ∀ n b l n' c', n < 64 → loopAt c n = some (.scope b) → behind l b (n + 1) = some (n', c') → ∀ (s : St) (K : Exit → St → Option R) (ρ : Nat → Geo) (a : Act) (w : World), L (2 * (l * 64 + n) + 1) s K = some r → StB W S0 ρ0 w0 N s ρ a w →
    ∀ (fr : Frame) (ks : List Item) (cs : List Frame), ∃ e a' w', (∃ s' ρ', K e s' = some r ∧ StB W S0 ρ0 w0 N s' ρ' a' w') ∧ Arrives P (lone (fr.at a (.code c' :: .inScope b :: ks)) cs w) fr ks cs e a' w'
theorem scopeK_ok {lv : Tl} {c : Code} {L : Nat → St → (Exit → St → Option R) → Option R} {κ : Nat} (hL : LOk P W S0 ρ0 w0 N r c κ L) {n : Nat} {b c' : Code} (hb : loopAt c n = some (.scope b)) {K : Exit → St → Option R}
    (hr : c'.wp P (fun e a' w' => ∃ s' ρ', scopeK S0.length lv L n b K e s' = some r ∧ StB W S0 ρ0 w0 N s' ρ' a' w') a w) :
    ∀ (fr : Frame) (ks : List Item) (cs : List Frame), ∃ e a' w', (∃ s' ρ', K e s' = some r ∧ StB W S0 ρ0 w0 N s' ρ' a' w') ∧ Arrives P (lone (fr.at a (.code c' :: .inScope b :: ks)) cs w) fr ks cs e a' w' := by
  intro fr ks cs
  obtain ⟨e, a₁, w₁, ⟨s', ρ', hK', h'⟩, harr⟩ := hr fr (.inScope b :: ks) cs
  cases e with
  | normal => exact ⟨.normal, a₁, w₁, ⟨s', ρ', hK', h'⟩, Steps.trans harr (.one step_inScope)⟩
  | exit id => exact ⟨.exit id, a₁, w₁, ⟨s', ρ', hK', h'⟩, fun k' hk => harr k' (by simp [exitTo, hk])⟩
  | goto l =>
    unfold scopeK at hK'
    simp only at hK'
    split at hK'
    · rename_i z hfl
      obtain ⟨n', c''⟩ := z
      obtain ⟨hn, hK'⟩ | ⟨_, hK'⟩ := cond_elim hK'
      · obtain ⟨s2, ρ2, hK2, h3⟩ := tellC_ok hK' h'
        obtain ⟨e₂, a₂, w₂, hq₂, harr₂⟩ := hL.lab n b l n' c'' (by rwa [Nat.blt_eq] at hn) hb hfl s2 K ρ2 a₁ w₁ hK2 h3 fr ks cs
        exact ⟨e₂, a₂, w₂, hq₂, .of_steps (harr _ (by simp [gotoIn, (behind_some hfl).1])) harr₂⟩
      · cases hK'
    · rename_i hfl
      exact ⟨.goto l, a₁, w₁, ⟨s', ρ', hK', h'⟩, fun k' hk => harr k' (by simp [gotoIn, behind_none hfl, hk])⟩
  | ret => exact ⟨_, a₁, w₁, ⟨s', ρ', hK', h'⟩, harr⟩
  | panic ch => exact ⟨_, a₁, w₁, ⟨s', ρ', hK', h'⟩, harr⟩
  | outgrown => exact ⟨_, a₁, w₁, ⟨s', ρ', hK', h'⟩, harr⟩
theorem lamX_ok (hmx : P.follows .mixedOrders = true) (hΓ : CallOk P Γ) (hG : PrimOk P Γ) {lv : Tl} {c : Code} (hd : dstC N c = true) {L : Nat → St → (Exit → St → Option R) → Option R} {κ : Nat} (hL : LOk P W S0 ρ0 w0 N r c κ L) : ∀ (d n : Nat) (l : Code), loopAt c n = some l → LamAt P W S0 ρ0 w0 N r (lamX P Γ lv S0.length c L d) n l
  | 0, n, l, _ => fun s K ρ a w hK _ => by cases hK
  | d + 1, n, l, hl => by
    intro s K ρ a w hK h
    rw [lamX, hl] at hK
    split at hK
    · rename_i b e
      obtain rfl := Option.some.inj e
      obtain ⟨s2, ρ2, hK2, h3⟩ := tellC_ok hK h
      exact wp_loop_rounds κ (hL.loop n b hl s2 K ρ2 a w hK2 h3)
    · rename_i b e
      obtain rfl := Option.some.inj e
      obtain ⟨h1, h2⟩ := loopAt_sub (.inr hl)
      exact wp_scope_of (scopeK_ok hL hl (runA_ok hmx hΓ hG b (n + 1) s _ ρ a w (h2 N hd) (fun q l' hl' => lamX_ok hmx hΓ hG hd hL d (n + 1 + q) l' (h1 q l' hl')) hK h))
    · cases hK
theorem stepX_ok (hmx : P.follows .mixedOrders = true) (hΓ : CallOk P Γ) (hG : PrimOk P Γ) {lv : Tl} {c : Code} (hd : dstC N c = true) {L : Nat → St → (Exit → St → Option R) → Option R} {κ : Nat} (hL : LOk P W S0 ρ0 w0 N r c κ L) : LOk P W S0 ρ0 w0 N r c (κ + 1) (stepX P Γ lv S0.length c L) where
  loop := fun n b hl s K ρ a w hK h => by
    unfold stepX at hK
    rw [show 2 * n % 2 = 0 by omega, show 2 * n / 2 = n by omega, hl] at hK
    obtain ⟨h1, h2⟩ := loopAt_sub (.inl hl)
    have hw := runA_ok hmx hΓ hG b (n + 1) s _ ρ a w (h2 N hd) (fun q l' hl' => lamX_ok hmx hΓ hG hd hL 20 (n + 1 + q) l' (h1 q l' hl')) hK h
    refine wp_mono hw ?_
    rintro e a' w' ⟨s', ρ', hK', h'⟩
    cases e with
    | normal =>
      obtain ⟨s2, ρ2, hK2, h3⟩ := tellC_ok (show tellC S0.length lv (2 * n) s' (fun s => L (2 * n) s K) = some r from hK') h'
      exact hL.loop n b hl s2 K ρ2 a' w' hK2 h3
    | _ => exact ⟨s', ρ', hK', h'⟩
  lab := fun n b l n' c' hn hl hf s K ρ a w hK h => by
    unfold stepX at hK
    rw [show (2 * (l * 64 + n) + 1) % 2 = 1 by omega, show (2 * (l * 64 + n) + 1) / 2 = l * 64 + n by omega, show (l * 64 + n) % 64 = n by omega, show (l * 64 + n) / 64 = l by omega, hl] at hK
    simp only [hf] at hK
    obtain ⟨_, h2⟩ := loopAt_sub (.inr hl)
    obtain ⟨h1, _⟩ := loopAt_sub (.inr hl)
    obtain ⟨g1, g2, g3, _⟩ := behind_some hf
    refine scopeK_ok hL hl (runA_ok hmx hΓ hG c' n' s _ ρ a w (g3 N (h2 N hd)) (fun q l' hl' => ?_) hK h)
    obtain ⟨q0, e1, e2⟩ := g2 q l' hl'
    rw [← e2]
    exact lamX_ok hmx hΓ hG hd hL 20 (n + 1 + q0) l' (h1 q0 l' e1)
theorem LX_ok (hmx : P.follows .mixedOrders = true) (hΓ : CallOk P Γ) (hG : PrimOk P Γ) {lv : Tl} {c : Code} (hd : dstC N c = true) : ∀ k, LOk P W S0 ρ0 w0 N r c k (LX P Γ lv S0.length c k)
  | 0 => ⟨(fun n b hl s K ρ a w hK _ => by cases hK), (fun n b l n' c' hn hl hf s K ρ a w hK _ => by cases hK)⟩
  | k + 1 => stepX_ok hmx hΓ hG hd (LX_ok hmx hΓ hG hd k)
end
section
variable {R S : Type} (f : R → Option S)
theorem bd_tellC (m : Nat) (lv : Tl) (q : Nat) (s : St) (K : St → Option R) : (tellC m lv q s K).bind f = tellC m lv q s (fun s => (K s).bind f) := bd_tell f m _ _ K
theorem bd_scopeK {m : Nat} {lv : Tl} {L : {R : Type} → Nat → St → (Exit → St → Option R) → Option R} (hL : LamNat L) (n : Nat) (b : Code) (K : Exit → St → Option R) (e : Exit) (s : St) : (scopeK m lv L n b K e s).bind f = scopeK m lv L n b (fun e s => (K e s).bind f) e s := by
  unfold scopeK
  cases e with
  | goto l =>
    dsimp only
    split
    · rw [bd_cond]; congr 1; rw [bd_tellC]; congr 1; funext s; exact hL f _ s K
    · rfl
  | _ => rfl
theorem bd_lamX (P : Program) {Γ : Sums} (hΓ : SumsNat Γ) (lv : Tl) (m : Nat) (c : Code) {L : {R : Type} → Nat → St → (Exit → St → Option R) → Option R} (hL : LamNat L) : ∀ d, LamNat (fun n s K => lamX P Γ lv m c L d n s K)
  | 0 => fun _ _ _ _ => rfl
  | d + 1 => by
    intro f n s K
    dsimp only
    unfold lamX
    split
    · rw [bd_tellC]; congr 1; funext s; exact hL f _ s K
    · rw [bd_run f P hΓ (Λ := fun q s K => lamX P Γ lv m c L d q s K) (bd_lamX P hΓ lv m c hL d)]
      congr 1; funext e s
      exact bd_scopeK f hL n _ K e s
    · rfl
theorem bd_LX (P : Program) {Γ : Sums} (hΓ : SumsNat Γ) (lv : Tl) (m : Nat) (c : Code) : ∀ k, LamNat (fun n s K => LX P Γ lv m c k n s K)
  | 0 => fun _ _ _ _ => rfl
  | k + 1 => by
    intro f q s K
    show (stepX P Γ lv m c (LX P Γ lv m c k) q s K).bind f = stepX P Γ lv m c (LX P Γ lv m c k) q s (fun e s => (K e s).bind f)
    have hL : LamNat (fun n s K => LX P Γ lv m c k n s K) := bd_LX P hΓ lv m c k
    unfold stepX
    rw [bd_cond]
    congr 1
    · split
      · rw [bd_run f P hΓ (Λ := fun q s K => lamX P Γ lv m c (LX P Γ lv m c k) 20 q s K) (bd_lamX P hΓ lv m c (L := fun q s K => LX P Γ lv m c k q s K) hL 20)]
        congr 1; funext e s
        unfold roundK
        cases e with
        | normal => dsimp only; rw [bd_tellC]; congr 1; funext s; exact hL f _ s K
        | _ => rfl
      · rfl
    · split
      · split
        · rw [bd_run f P hΓ (Λ := fun q s K => lamX P Γ lv m c (LX P Γ lv m c k) 20 q s K) (bd_lamX P hΓ lv m c (L := fun q s K => LX P Γ lv m c k q s K) hL 20)]
          congr 1; funext e s
          exact bd_scopeK f (L := fun q s K => LX P Γ lv m c k q s K) hL _ _ K e s
        · rfl
      · rfl
end
def runX {R : Type} (P : Program) (Γ : Sums) (lv : Tl) (fn : Func) (m : Nat) (L : Nat → St → (Exit → St → Option R) → Option R) (args : List AV) (ob : List AO) (K : KV R) : Option R := funA P Γ (lamX P Γ lv m (codeOf fn) L 20) fn args ob K
def codeX (P : Program) (Γ : Sums) (lv : Tl) (k : Nat) (fn : Func) : Summ := ⟨fun args ob K => runX P Γ lv fn ob.length (LX P Γ lv ob.length (codeOf fn) k) args ob K⟩
theorem codeX_ok {P : Program} {Γ : Sums} (hmx : P.follows .mixedOrders = true) (hNG : noNG P = true) (hΓ : CallOk P Γ) (hG : PrimOk P Γ) {f : FuncId} {fn : Func} (hf : P.funcs[f]? = some fn) (lv : Tl) (k : Nat) : SumOk P f (codeX P Γ lv k fn) := by
  refine ⟨?_, ?_⟩
  · intro R R' f as ob K
    exact bd_fun f P hG.1 (Λ := fun n s K => lamX P Γ lv ob.length (codeOf fn) (LX P Γ lv ob.length (codeOf fn) k) 20 n s K) (bd_lamX P hG.1 lv ob.length (codeOf fn) (L := fun q s K => LX P Γ lv ob.length (codeOf fn) k q s K) (bd_LX P hG.1 lv ob.length (codeOf fn) k) 20) fn as ob K
  · intro R args ob K r hK W ρ w us h ha
    have hK : funA P Γ (lamX P Γ lv ob.length (codeOf fn) (LX P Γ lv ob.length (codeOf fn) k) 20) fn args ob K = some r := hK
    cases hb : fn.body with
    | none => unfold funA at hK; rw [hb] at hK; cases hK
    | some c =>
      have hc : codeOf fn = c := by unfold codeOf; rw [hb]
      rw [hc] at hK
      exact .inr ⟨run_enter hNG hf hb _ _, funA_ok hmx hΓ hG hf hb hK (fun hd q l hl => lamX_ok hmx hΓ hG hd (LX_ok hmx hΓ hG hd k) 20 q l hl) h ha⟩
def wideS (P : Program) (Wr : FuncId → List Nat) (k d : Nat) (f : FuncId) : Summ := ⟨fun args ob K => (wideA P (fun _ => none) Wr k d).call f args ob K⟩
theorem wideS_ok {P : Program} (hmx : P.follows .mixedOrders = true) (hNG : noNG P = true) (Wr : FuncId → List Nat) (k d : Nat) (f : FuncId) : SumOk P f (wideS P Wr k d f) :=
  ⟨fun g as ob K => wide_nat P _ Wr k d g f as ob K, fun args ob K r hK => wide_ok hmx hNG (prims_none P) d f args ob K r hK⟩
def contX {R : Type} (P : Program) (Γ : Sums) (lv : Tl) (m : Nat) (c0 : Code) (L : Nat → St → (Exit → St → Option R) → Option R) : Nat → Code → (Exit → St → Option R) → Nat → Exit → St → Option R
  | n, .seq x y, K, q => cond (Nat.blt q (n + nl x)) (contX P Γ lv m c0 L n x (fun e s => match e with
      | .normal => runA P Γ (lamX P Γ lv m c0 L 20) (n + nl x) y s K
      | e => K e s) q) (contX P Γ lv m c0 L (n + nl x) y K q)
  | n, .cond _ x y, K, q => cond (Nat.blt q (n + nl x)) (contX P Γ lv m c0 L n x K q) (contX P Γ lv m c0 L (n + nl x) y K q)
  | n, .block i c, K, q => contX P Γ lv m c0 L n c (fun e s => match e with
      | .exit j => cond (Nat.beq j i) (K .normal s) (K (.exit j) s)
      | e => K e s) q
  | n, .scope b, K, q => cond (Nat.beq q n) K (contX P Γ lv m c0 L (n + 1) b (scopeK m lv L n b K) q)
  | _, _, K, _ => K
def endX {R : Type} (P : Program) (Γ : Sums) (lv : Tl) (fn : Func) (m : Nat) (L : Nat → St → (Exit → St → Option R) → Option R) (K : KV R) (q : Nat) : Exit → St → Option R := contX P Γ lv m (codeOf fn) L 0 (codeOf fn) (retK P fn m K) (cond (Nat.beq (q % 2) 0) (q / 2) (q / 2 % 64))
end Go.Mx
namespace Go.Mx
open Go Go.RowKit Go.Sx
variable [Glb]
theorem lawful {P : Program} {f : FuncId} {fn : Func} {c : Code} {S : Summ} (h : SumOk P f S) (hNG : noNG P = true) (hf : P.funcs[f]? = some fn) (hb : fn.body = some c) {args : List AV} {us : List Value} {w : World} (hK : S.run args [] isTrue = some true) (hg : GlR (cx (fun _ => False) [] (fun _ => ⟨none, 0, 0, 0⟩) w))
    (ha : A2 (VR (cx (fun _ => False) [] (fun _ => ⟨none, 0, 0, 0⟩) w)) args us) : Calls P f us.toArray w (Ret fun u w' => u = .bool true ∧ Fr w w' No) := by
  rcases h.2 args [] isTrue true hK (fun _ => False) (fun _ => ⟨none, 0, 0, 0⟩) w us (rel_nil w hg) ha with ⟨u, w', h1, _⟩ | ⟨_, h⟩
  · rw [run_enter hNG hf hb] at h1
    cases h1
  · refine h.mono fun e w' he => ?_
    cases e with
    | returned u =>
      obtain ⟨v, ob', ρ', h1, h2, h3⟩ := he
      unfold isTrue at h1
      split at h1
      · obtain rfl := Option.some.inj h1
        exact ⟨vr_bool h3, h2.fr.mono (fun k _ hk => by obtain ⟨i, o, p, hi, _⟩ := hk; simp at hi)⟩
      · cases h1
    | _ => exact he
theorem vr_arg {t : T} {d : t.den} {v : Value} {ρ : Nat → Geo} {w : World} {cs : List Value} (hK : t.kd.K No w.heap d cs) (hv : v = form t.aggB cs) : VR (cx (fun _ => False) [] ρ w) (.dat t d) v := by
  have hk : t.kd.K (cx (fun _ => False) [] ρ w).A (cx (fun _ => False) [] ρ w).h d cs := t.kd.mono hK (fun k _ hk => by
    rcases hk with hk | ⟨i, o, p, hi, _⟩
    · exact hk.elim
    · simp at hi)
  exact ⟨cs, hv, cr_dat.2 hk, kd_len hk⟩
end Go.Mx
namespace Go.Sx
open Go
theorem Dt.arrL {P : Program} {t : TypeId} {α : Type} {m : Nat} {kd : Kd α} {R : List α → Prop} (d : Dt P t (Kd.arr m kd) R) : Dt P t (Kd.arr m kd) (fun xs => xs.length = m ∧ R xs) :=
  ⟨d.sz, fun enc w sp fuel cs x h hw => by
    obtain ⟨y, hK, hR⟩ := d.op enc w sp fuel cs x h hw
    exact ⟨y, hK, hK.1, hR⟩⟩
end Go.Sx
namespace Go.Mx
open Go Go.RowKit Go.Sx
structure Dv (P : Program) {α : Type} (t : TypeId) (kd : Kd α) (f : DataW Unit → Option α) : Prop where
  sz : P.cellsOf t = kd.sz
  op : ∀ (w : World) (fuel : Nat) (cs : List Value) (x : DataW Unit × List MemPlace), DataW.trod (fun _ => ()) P w 0 (fun _ => true) false fuel t cs = some x → ∀ y, f x.1 = some y → kd.K No w.heap y cs
structure DvF (P : Program) {α : Type} (fs : List Field) (o : Nat) (kd : Kd α) (f : List (DataW Unit) → Option α) : Prop where
  op : ∀ (w : World) (n : Nat) (cs : List Value) (xs : List (DataW Unit × List MemPlace)), cs.length = o + kd.sz → xs.length = fs.length → (∀ (i : Nat) (g : Field), fs[i]? = some g → DataW.trod (fun _ => ()) P w 0 (fun _ => true) false n g.type ((cs.drop g.offset).take (P.cellsOf g.type)) = xs[i]?) → ∀ y, f (xs.map (·.1)) = some y → kd.K No w.heap y (cs.drop o)
def dInt : DataW Unit → Option Int
  | .lit (.int _ n) => some n
  | _ => none
def dBool : DataW Unit → Option Bool
  | .lit (.bool b) => some b
  | _ => none
def dStr : DataW Unit → Option ByteArray
  | .lit (.string l) => some ⟨l.toArray⟩
  | _ => none
def dOne {α : Type} (f : DataW Unit → Option α) : List (DataW Unit) → Option α
  | [d] => f d
  | _ => none
def dCons {α β : Type} (f : DataW Unit → Option α) (g : List (DataW Unit) → Option β) : List (DataW Unit) → Option (α × β)
  | d :: r => (match f d with | some x => (match g r with | some y => some (x, y) | none => none) | none => none)
  | _ => none
def dStruct {α : Type} (f : List (DataW Unit) → Option α) : DataW Unit → Option α
  | .agg ds => f ds
  | _ => none
def dList {α : Type} (f : DataW Unit → Option α) : List (DataW Unit) → Option (List α)
  | [] => some []
  | d :: r => (match f d with | some x => (match dList f r with | some y => some (x :: y) | none => none) | none => none)
def dArr {α : Type} (f : DataW Unit → Option α) : DataW Unit → Option (List α)
  | .agg ds => dList f ds
  | _ => none
section
variable {P : Program} {t e : TypeId} {α β : Type} {kd : Kd α} {k2 : Kd β} {f : DataW Unit → Option α}
theorem Dv.int {k : IntKind} (hu : P.underlying t = some (.int k)) (hc : P.cellsOf t = 1) : Dv P t (Kd.int k) dInt :=
  ⟨hc, fun w fuel cs x h y hy => by obtain ⟨n, rfl, rfl, _⟩ := DataW.trod_int hu h; obtain rfl := Option.some.inj hy; rfl⟩
theorem Dv.bool (hu : P.underlying t = some .bool) (hc : P.cellsOf t = 1) : Dv P t Kd.bool dBool :=
  ⟨hc, fun w fuel cs x h y hy => by obtain ⟨n, rfl, rfl⟩ := DataW.trod_bool hu h; obtain rfl := Option.some.inj hy; rfl⟩
theorem Dv.str (hu : P.underlying t = some .string) (hc : P.cellsOf t = 1) : Dv P t Kd.str dStr :=
  ⟨hc, fun w fuel cs x h y hy => by
    obtain ⟨n, rfl, rfl, _⟩ := DataW.trod_string hu h
    obtain rfl := Option.some.inj hy
    show [Value.string n] = [Value.string _]
    rw [Array.toArray_toList]⟩
theorem DvF.one {g : Field} {o : Nat} (ho : g.offset = o) (d : Dv P g.type kd f) : DvF P [g] o kd (dOne f) := ⟨fun w n cs xs hl hx h y hy => by
  obtain ⟨x, rfl⟩ := List.length_eq_one_iff.1 hx
  have h1 := h 0 g rfl
  rw [ho, d.sz, List.take_of_length_le (by rw [List.length_drop]; omega)] at h1
  exact d.op _ _ _ _ h1 y hy⟩
theorem DvF.cons {g : Field} {fs : List Field} {o : Nat} {f2 : List (DataW Unit) → Option β} (ho : g.offset = o) (d : Dv P g.type kd f) (r : DvF P fs (o + kd.sz) k2 f2) : DvF P (g :: fs) o (Kd.pair kd k2) (dCons f f2) := ⟨fun w n cs xs hl hx h y hy => by
  cases xs with
  | nil => cases hx
  | cons x xs =>
    have h1 := h 0 g rfl
    rw [ho, d.sz] at h1
    have hy : (match f x.1 with | some x => (match f2 (xs.map (·.1)) with | some y => some (x, y) | none => none) | none => none) = some y := hy
    split at hy
    · rename_i y1 e1
      split at hy
      · rename_i y2 e2
        obtain rfl := Option.some.inj hy
        have k1 := d.op _ _ _ _ h1 y1 e1
        have k3 := r.op w n cs xs (by rw [hl]; show o + (kd.sz + k2.sz) = o + kd.sz + k2.sz; omega) (by simpa using hx) (fun i g' hg => h (i + 1) g' hg) y2 e2
        refine ⟨_, _, ?_, k1, k3⟩
        rw [← List.drop_drop, List.take_append_drop]
      · cases hy
    · cases hy⟩
theorem Dv.struct {fs : Array Field} {ff : List (DataW Unit) → Option α} (hu : P.underlying t = some (.struct fs)) (hc : P.cellsOf t = kd.sz) (d : DvF P fs.toList 0 kd ff) : Dv P t kd (dStruct ff) :=
  ⟨hc, fun w fuel cs x h y hy => by
    obtain ⟨xs, n, _, rfl, hl, hx, hf⟩ := DataW.trod_struct hu h
    have := d.op w n cs xs (by rw [hl, hc, Nat.zero_add]) (by simpa using hx) (fun i g hg => hf i g (by rw [← Array.getElem?_toList]; exact hg)) y hy
    simpa using this⟩
theorem dList_get {f : DataW Unit → Option α} : ∀ {ds : List (DataW Unit)} {ys : List α}, dList f ds = some ys → ys.length = ds.length ∧ ∀ (i : Nat) (d : DataW Unit), ds[i]? = some d → ∃ y, ys[i]? = some y ∧ f d = some y
  | [], ys, h => by obtain rfl := Option.some.inj h; exact ⟨rfl, fun i d hd => by simp at hd⟩
  | d :: r, ys, h => by
    rw [dList] at h
    split at h
    · rename_i y e1
      split at h
      · rename_i zs e2
        obtain rfl := Option.some.inj h
        obtain ⟨h1, h2⟩ := dList_get e2
        refine ⟨by simp [h1], fun i d' hd => ?_⟩
        cases i with
        | zero => obtain rfl := Option.some.inj hd; exact ⟨y, rfl, e1⟩
        | succ i => exact h2 i d' hd
      · cases h
    · cases h
theorem els_at {K : α → List Value → Prop} : ∀ (m : Nat) (g : Nat → List Value) (ys : List α), ys.length = m → (∀ i y, ys[i]? = some y → K y (g i)) → Els K ys ((List.range m).flatMap g)
  | 0, g, ys, hl, _ => by obtain rfl := List.eq_nil_of_length_eq_zero hl; simpa using Els.nil
  | m + 1, g, [], hl, _ => by cases hl
  | m + 1, g, y :: ys, hl, h => by
    rw [List.range_succ_eq_map, List.flatMap_cons, List.flatMap_map]
    exact .cons (h 0 y rfl) (els_at m (fun i => g (i + 1)) ys (by simpa using hl) (fun i z hz => h (i + 1) z hz))
theorem pieces {s : Nat} : ∀ (m : Nat) (cs : List Value), cs.length = m * s → (List.range m).flatMap (fun i => (cs.drop (i * s)).take s) = cs
  | 0, cs, h => by simp at h; subst h; rfl
  | m + 1, cs, h => by
    rw [List.range_succ_eq_map, List.flatMap_cons, List.flatMap_map]
    have ih := pieces (s := s) m (cs.drop s) (by rw [List.length_drop, h, Nat.succ_mul]; omega)
    have : (fun i => (List.take s (List.drop ((i + 1) * s) cs))) = fun i => ((cs.drop s).drop (i * s)).take s := by
      funext i
      rw [List.drop_drop, Nat.succ_mul, Nat.add_comm]
    rw [this, ih, Nat.zero_mul, List.drop_zero, List.take_append_drop]
theorem Dv.arr {m : Nat} (hu : P.underlying t = some (.array m e)) (hc : P.cellsOf t = m * kd.sz) (d : Dv P e kd f) : Dv P t (Kd.arr m kd) (dArr f) :=
  ⟨hc, fun w fuel cs x h y hy => by
    obtain ⟨xs, n, _, rfl, hl, hx, hf⟩ := DataW.trod_array hu h
    obtain ⟨h1, h2⟩ := dList_get (show dList f (xs.map (·.1)) = some y from hy)
    have hlen : y.length = m := by rw [h1, List.length_map, hx]
    refine ⟨hlen, ?_⟩
    have := els_at (K := kd.K No w.heap) m (fun i => (cs.drop (i * kd.sz)).take kd.sz) y hlen (fun i z hz => by
      have him : i < m := by have := (List.getElem?_eq_some_iff.1 hz).1; omega
      have h3 := hf i him
      rw [List.getElem?_eq_getElem (by rw [hx]; exact him), d.sz] at h3
      obtain ⟨z', h4, h5⟩ := h2 i (xs[i]'(by rw [hx]; exact him)).1 (by rw [List.getElem?_map, List.getElem?_eq_getElem (by rw [hx]; exact him)]; rfl)
      rw [hz] at h4
      obtain rfl := Option.some.inj h4
      exact d.op _ _ _ _ h3 z h5)
    rwa [pieces m cs (by rw [hl, hc])] at this⟩
end
section
variable [Glb]
variable {P : Program} {w : World}
theorem laid_var {n : String} {d : DataW Unit} : ∀ {laid : List (String × DataW Unit)} {ps : List MemPlace}, DataW.LaidVars P w laid ps → (n, d) ∈ laid → ∃ g t cs fuel p, P.globalNamed n = some g ∧ (P.globals[g]?).map (·.type) = some t ∧ w.var? P n = some cs ∧ DataW.trod (fun _ => ()) P w 0 (fun _ => true) false fuel t cs.toList = some (d, p)
  | [], _, _, h => by cases h
  | (n', d') :: r, ps, hl, h => by
    obtain ⟨g, t, cs, fuel, p, q, h1, h2, h3, h4, h5, _⟩ := hl
    rcases List.mem_cons.1 h with e | h
    · cases e; exact ⟨g, t, cs, fuel, p, h1, h2, h3, h4⟩
    · exact laid_var h5 h
theorem gl_one {laid : List (String × DataW Unit)} {n : String} {d : DataW Unit} {g : Nat} {t : TypeId} {T' : T} {x : T'.den} {f : DataW Unit → Option T'.den} (hl : laidMet P laid w) (hm : (n, d) ∈ laid) (hg : P.globalNamed n = some g) (ht : (P.globals[g]?).map (·.type) = some t) (dv : Dv P t T'.kd f) (hf : f d = some x) {ρ : Nat → Geo} :
    VR (cx (fun _ => False) [] ρ w) (.rdp T' x) (.pointer (some ⟨g, 0, none⟩)) ∧ ¬ (cx (fun _ => False) [] ρ w).A g ∧ ∃ C T fr, (cx (fun _ => False) [] ρ w).h[g]? = some (.cells C T fr) ∧ C.size = T'.sz := by
  obtain ⟨ps, h1, _⟩ := hl
  obtain ⟨g', t', cs, fuel, p, e1, e2, e3, e4⟩ := laid_var h1 hm
  rw [hg] at e1
  obtain rfl := Option.some.inj e1
  rw [ht] at e2
  obtain rfl := Option.some.inj e2
  have hno : ∀ k, ¬ (cx (fun _ => False) [] ρ w).A k := fun k hk => hk.elim (fun h => h) (fun ⟨i, o, p, hi, _⟩ => by simp at hi)
  have hK : T'.kd.K (cx (fun _ => False) [] ρ w).A w.heap x cs.toList := T'.kd.mono (dv.op w fuel cs.toList _ e4 x hf) (fun k _ hk => hno k hk)
  unfold World.var? at e3
  rw [hg] at e3
  simp only [Option.bind_some] at e3
  split at e3
  · rename_i C T fr hb
    obtain rfl := Option.some.inj e3
    refine ⟨⟨[.pointer (some ⟨g, 0, none⟩)], rfl, ?_, rfl⟩, hno g, C, T, fr, hb, ?_⟩
    · rw [CR]
      exact ⟨g, 0, C.toList, rfl, hno g, ⟨C, T, fr, hb, fun j v hj => by rw [Nat.zero_add]; simpa using hj⟩, hK⟩
    · have := T'.kd.len hK
      rw [Go.Mx.T.kd_sz, Array.length_toList] at this
      exact this
  · cases e3
end
end Go.Mx
namespace Go.Mx
open Go Go.RowKit Go.Sx
variable [Glb]
def frzR (v : AV) (ob : List AO) : AV × List AO := match v with
  | .tup l => (match frzL l ob with | (l', ob') => (.tup l', ob'))
  | .undef => (.undef, ob)
  | v => frzP v ob
def frzS (S : Summ) : Summ := ⟨fun args ob K => S.run args ob fun v o => match frzR v o with | (v', o') => K v' o'⟩
section
variable {W : Nat → Prop} {S S' : List AO} {ρ : Nat → Geo} {w : World}
theorem plain_cr {x : Cx} {v : AV} {cs : List Value} (h : CR x v cs) : v.plain = true := by
  cases v with
  | tup l => rw [CR] at h; exact h.elim
  | undef => rw [CR] at h; exact h.elim
  | _ => rfl
theorem frzVs : ∀ {l l' : List AV} {m : List Value} {S S' : List AO}, Rel W S ρ w → VRs (cx W S ρ w) l m → frzL l S = (l', S') → Aft W S ρ w S' ρ w ∧ VRs (cx W S' ρ w) l' m
  | [], l', m, S, S', h, hv, hf => by
    obtain ⟨rfl, rfl⟩ := Prod.mk.inj hf
    exact ⟨Aft.refl h, hv⟩
  | v :: l, l', m, S, S', h, hv, hf => by
    rw [VRs] at hv
    obtain ⟨c, r, rfl, h1, h2, h3⟩ := hv
    cases hf1 : frzP v S with
    | mk v' S1 =>
    cases hf2 : frzL l S1 with
    | mk l1 S2 =>
    rw [frzL, hf1] at hf
    dsimp only at hf
    rw [hf2] at hf
    obtain ⟨rfl, rfl⟩ := Prod.mk.inj hf
    obtain ⟨A1, k1, _⟩ := frzP_ok v h hf1 h1
    have h3' : VRs (cx W S1 ρ w) l r := VRs.up A1.le l r h3
    obtain ⟨A2', k2⟩ := frzVs A1.rel h3' hf2
    refine ⟨A1.trans A2', ?_⟩
    rw [VRs]
    have k3 := CR.up A2'.le v' c k1
    exact ⟨c, r, by rw [frz_agg hf1 (plain_cr h1)], k3, by rw [cr_len k3], k2⟩
theorem frzR_ok {v v' : AV} {u : Value} (h : Rel W S ρ w) (hv : VR (cx W S ρ w) v u) (hf : frzR v S = (v', S')) : Aft W S ρ w S' ρ w ∧ VR (cx W S' ρ w) v' u := by
  have leaf : (∃ c, u = form v.isAgg c ∧ CR (cx W S ρ w) v c ∧ c.length = v.sz) → frzP v S = (v', S') → Aft W S ρ w S' ρ w ∧ VR (cx W S' ρ w) v' u := by
    rintro ⟨c, e, h1, h2⟩ hf
    obtain ⟨A1, k1, _⟩ := frzP_ok v h hf h1
    refine ⟨A1, ?_⟩
    have e' : u = form v'.isAgg c := by rw [e, frz_agg hf (plain_cr h1)]
    have hp := plain_cr k1
    cases v' with
    | tup l => cases hp
    | undef => cases hp
    | _ => exact ⟨c, e', k1, (cr_len k1)⟩
  unfold frzR at hf
  cases v with
  | tup l =>
    dsimp only at hf
    cases hf1 : frzL l S with
    | mk l1 S1 =>
    rw [hf1] at hf
    obtain ⟨rfl, rfl⟩ := Prod.mk.inj hf
    obtain ⟨m, e, h1⟩ := hv
    obtain ⟨A1, k1⟩ := frzVs h h1 hf1
    exact ⟨A1, m, e, k1⟩
  | undef =>
    obtain ⟨rfl, rfl⟩ := Prod.mk.inj hf
    exact ⟨Aft.refl h, hv⟩
  | _ => exact leaf hv hf
end
theorem frz_nat {S : Summ} (h : S.Nat) : (frzS S).Nat := by
  intro R R' f as ob K
  show (S.run as ob _).bind f = S.run as ob _
  rw [h f as ob]
theorem frzS_ok {P : Program} {f : FuncId} {S : Summ} (h : SumOk P f S) : SumOk P f (frzS S) := by
  refine ⟨frz_nat h.1, ?_⟩
  intro R args ob K r hK W ρ w us hr ha
  refine (h.2 args ob _ r hK W ρ w us hr ha).mono ?_
  rintro u w' ⟨v, ob', ρ', h1, h2, h3⟩
  cases hf : frzR v ob' with
  | mk v' ob2 =>
  rw [hf] at h1
  obtain ⟨A, k⟩ := frzR_ok h2.rel h3 hf
  exact ⟨v', ob2, ρ', h1, h2.trans A, k⟩
end Go.Mx
namespace Go.Mx
open Go Go.RowKit Go.Sx
variable [Glb]
def wideL (P : Program) (l : List (FuncId × Summ)) (Wr : FuncId → List Nat) (k : Nat) : Nat → Sums
  | 0 => sums Wr l
  | d + 1 => ⟨fun _ => none, fun f args ob K => match findS f l with
    | some S => S.run args ob K
    | none => (match P.funcs[f]? with
      | some fn => (codeS P (wideL P l Wr k d) (fun _ => none) k fn).run args ob K
      | none => none), fun f _ => Wr f⟩
theorem wideL_ok {P : Program} (hmx : P.follows .mixedOrders = true) (hNG : noNG P = true) {l : List (FuncId × Summ)} (a : AllOk P l) (Wr : FuncId → List Nat) (k : Nat) : ∀ d, CallOk P (wideL P l Wr k d) ∧ PrimOk P (wideL P l Wr k d)
  | 0 => ⟨sums_call a, sums_prim a⟩
  | d + 1 => by
    obtain ⟨h1, h2⟩ := wideL_ok hmx hNG a Wr k d
    refine ⟨?_, ?_, fun f p h => by cases h⟩
    · intro R f args ob K r hK
      have hK : (match findS f l with
        | some S => S.run args ob K
        | none => (match P.funcs[f]? with
          | some fn => (codeS P (wideL P l Wr k d) (fun _ => none) k fn).run args ob K
          | none => none)) = some r := hK
      split at hK
      · rename_i S hS
        exact (findS_ok a hS).2 args ob K r hK
      · split at hK
        · rename_i fn hf
          exact (code_ok hmx hNG h1 h2 hf (fun _ => none) k).2 args ob K r hK
        · cases hK
    · intro R S f g as ob K
      show (match findS g l with
        | some S => S.run as ob K
        | none => (match P.funcs[g]? with
          | some fn => (codeS P (wideL P l Wr k d) (fun _ => none) k fn).run as ob K
          | none => none)).bind f = (match findS g l with
        | some S => S.run as ob (fun v o => (K v o).bind f)
        | none => (match P.funcs[g]? with
          | some fn => (codeS P (wideL P l Wr k d) (fun _ => none) k fn).run as ob (fun v o => (K v o).bind f)
          | none => none))
      split
      · rename_i S hS
        exact (findS_ok a hS).1 f as ob K
      · split
        · rename_i fn hf
          exact code_nat h2.1 (fun _ => none) k fn f as ob K
        · rfl
def wideM (P : Program) (l : List (FuncId × Summ)) (Wr : FuncId → List Nat) (k d : Nat) (f : FuncId) : Summ := ⟨fun args ob K => (wideL P l Wr k d).call f args ob K⟩
theorem wideM_ok {P : Program} (hmx : P.follows .mixedOrders = true) (hNG : noNG P = true) {l : List (FuncId × Summ)} (a : AllOk P l) (Wr : FuncId → List Nat) (k d : Nat) (f : FuncId) : SumOk P f (wideM P l Wr k d f) := by
  obtain ⟨h1, h2⟩ := wideL_ok hmx hNG a Wr k d
  exact ⟨fun g as ob K => h2.1 g f as ob K, fun args ob K r hK => h1 f args ob K r hK⟩
end Go.Mx
namespace Go.Mx
open Go Go.RowKit Go.Sx
variable [Glb]
theorem A2.imp46 {α β : Type} {Q Q' : α → β → Prop} (f : ∀ x y, Q x y → Q' x y) : ∀ {l : List α} {m : List β}, A2 Q l m → A2 Q' l m
  | _, _, .nil => .nil
  | _, _, .cons h1 h2 => .cons (f _ _ h1) (A2.imp46 f h2)
def cloneS : Summ := ⟨fun args ob K => match args with
  | [.iface t (.mp i)] => (match ob[i]? with
    | some (.map kt vt es _) => K (.iface t (.mp ob.length)) (ob ++ [.map kt vt es true])
    | _ => none)
  | _ => none⟩
theorem cloneS_ok {P : Program} {f : FuncId} {fn : Func} (hf : P.funcs[f]? = some fn) (hname : (fn.name == "runtime.NumGoroutine") = false) (hb : fn.body.isNone = true) (hn : Extern.findNext fn = none) (he : Extern.find fn = some Extern.MapsClone.clone) : SumOk P f cloneS := by
  refine ⟨fun g as ob K => ?_, fun args ob K r hK W ρ w us hR hA => .inl ?_⟩
  · simp only [cloneS]
    split
    · split <;> rfl
    · rfl
  · simp only [cloneS] at hK
    split at hK
    · rename_i t i
      split at hK
      · rename_i kt vt es m hi
        cases hA with
        | cons hu ht =>
          cases ht
          obtain ⟨c, e, hc, hl⟩ := hu
          rw [CR] at hc
          obtain ⟨c', e1, h1, h2⟩ := hc
          have h1' := h1
          rw [CR] at h1
          obtain ⟨_, b, h3, h4⟩ := h1
          obtain ⟨b', arr, clk, e5, e6, e7, e8⟩ := mp_at hR hi (u := .map (some b)) ⟨[.map (some b)], rfl, by rw [CR]; exact ⟨‹_›, b, h3, rfl⟩, rfl⟩
          obtain rfl : b = b' := by injection e5 with e5; exact Option.some.inj e5
          rw [e, e1, h4]
          refine ⟨.iface t (.map (some w.heap.size)), w.alloc (.map arr clk), ?_, .iface t (.mp ob.length), ob ++ [.map kt vt es true], upd ρ ob.length ⟨some ⟨w.heap.size, 0, none⟩, 0, 1, 0⟩, hK, ?_, ?_⟩
          · show (callFunc f #[.iface t (.map (some b))]).run P w = _
            rw [run_callFunc_extern hf hname hb hn he]
            have e : Extern.MapsClone.clone #[.iface t (.map (some b))] = (getObj b >>= fun o => match o with
                | .map entries clock => (newObj (.map entries clock) >>= fun n => pure (.iface t (.map (some n))))
                | _ => stuck "maps.clone: a map expected") := rfl
            rw [e]
            simp [get_map e7, Result.andThen]
          · refine Aft.push hR (Fr.alloc _ _ _) (fun _ p hp => by obtain rfl := Option.some.inj hp; exact Nat.le_refl _) (fun le => ⟨_, rfl, ⟨arr, clk, heap_alloc_new w _, A2.imp46 (fun p en hp => ?_) e8⟩, fun hh => by cases hh⟩)
            obtain ⟨c1, c2, k1, k2, k3, k4⟩ := hp
            exact ⟨c1, c2, k1, cr_dat.1 (CR.up le (.dat kt p.1) c1 (cr_dat.2 k2)), k3, cr_dat.1 (CR.up le (.dat vt p.2) c2 (cr_dat.2 k4))⟩
          · refine ⟨[.iface t (.map (some w.heap.size))], rfl, ?_, rfl⟩
            rw [CR]
            obtain ⟨c2, q1, q2, q3⟩ := mp_vr (W := W) (S := ob) (ρ := ρ) (w' := w.alloc (.map arr clk)) (b := w.heap.size) (o := .map kt vt es true)
            have q2' := q2
            rw [CR] at q2
            obtain ⟨_, b2, _, q4⟩ := q2
            subst q4
            obtain rfl : w.heap.size = b2 := by injection q1 with q1; exact Option.some.inj q1
            exact ⟨_, rfl, q2', rfl⟩
      · cases hK
    · cases hK
end Go.Mx
namespace Go.Mx
open Go Go.RowKit Go.Sx
variable [Glb]
def flatT : T → Bool
  | .sl _ => false
  | .one t => flatT t
  | .pair a b => flatT a && flatT b
  | .arr _ t => flatT t
  | _ => true
theorem flatT_ok : ∀ {t : T}, flatT t = true → t.kd.Flat
  | .int k, _ => Kd.Flat.int k
  | .bool, _ => Kd.Flat.bool
  | .str, _ => Kd.Flat.str
  | .unit, _ => ⟨fun h => h⟩
  | .flt, _ => ⟨fun h => h⟩
  | .cpx, _ => ⟨fun h => h⟩
  | .fn, _ => ⟨fun h => h⟩
  | .one t, h => flatT_ok (t := t) h
  | .pair a b, h => by
    have h : (flatT a && flatT b) = true := h
    rw [Bool.and_eq_true] at h
    exact Kd.Flat.pair (flatT_ok h.1) (flatT_ok h.2)
  | .arr n t, h => Kd.Flat.arr n (flatT_ok (t := t) h)
  | .sl _, h => by cases h
def flatV : AV → Bool
  | .dat t _ => flatT t
  | .pr a b => flatV a && flatV b
  | .one a => flatV a
  | .rdp _ _ => false
  | .sln _ _ => false
  | .fn _ _ _ => false
  | .iface _ _ => false
  | .tup _ => false
  | .undef => false
  | _ => true
def flatR : AV → Bool
  | .tup l => l.all flatV
  | .undef => true
  | v => flatV v
theorem flat_cr {x y : Cx} (hg : y.g = x.g) (hm : y.m = x.m) : ∀ {v : AV} {cs : List Value}, flatV v = true → CR x v cs → CR y v cs := by
  intro v
  induction v using AV.rec (motive_2 := fun _ => True) with
  | dat t d =>
    intro cs h hc
    rw [CR] at hc ⊢
    exact (flatT_ok (t := t) h).eq hc
  | pr a b ha hb =>
    intro cs h hc
    have h : (flatV a && flatV b) = true := h
    rw [Bool.and_eq_true] at h
    rw [CR] at hc ⊢
    obtain ⟨c1, c2, e, h1, h2⟩ := hc
    exact ⟨c1, c2, e, ha h.1 h1, hb h.2 h2⟩
  | one a ha => intro cs h hc; rw [CR] at hc ⊢; exact ha h hc
  | nil => trivial
  | cons _ _ _ _ => trivial
  | rdp _ _ => intro cs h hc; cases h
  | sln _ _ => intro cs h hc; cases h
  | fn _ _ _ _ _ => intro cs h hc; cases h
  | iface _ _ _ => intro cs h hc; cases h
  | tup _ _ => intro cs h hc; cases h
  | undef => intro cs h hc; cases h
  | _ => intro cs h hc; rw [CR] at hc ⊢; first | exact hc | (rw [hg, hm]; exact hc)
theorem flat_vr {x y : Cx} (hg : y.g = x.g) (hm : y.m = x.m) {v : AV} {u : Value} (h : flatR v = true) (hv : VR x v u) : VR y v u := by
  have leaf : flatV v = true → (∃ c, u = form v.isAgg c ∧ CR x v c ∧ c.length = v.sz) → ∃ c, u = form v.isAgg c ∧ CR y v c ∧ c.length = v.sz := by
    rintro h ⟨c, e, h1, h2⟩
    exact ⟨c, e, flat_cr hg hm h h1, h2⟩
  cases v with
  | tup l =>
    obtain ⟨m, e, h1⟩ := hv
    refine ⟨m, e, ?_⟩
    have hh : l.all flatV = true := h
    clear leaf e h
    revert hh
    intro h
    induction l generalizing m with
    | nil => rw [VRs] at h1 ⊢; exact h1
    | cons v r ih =>
      rw [List.all_cons, Bool.and_eq_true] at h
      rw [VRs] at h1 ⊢
      obtain ⟨c, l', e, k1, k2, k3⟩ := h1
      exact ⟨c, l', e, flat_cr hg hm h.1 k1, k2, ih _ k3 h.2⟩
  | undef => exact hv
  | _ => exact leaf h hv
def pickO : AO → AO
  | .box ty v true => cond (flatV v) (.box ty v true) .gone
  | .row e t xs .own => cond (flatT t) (.row e t xs .own) .gone
  | .itr s p true => .itr s p true
  | .map k v es true => cond (flatT k && flatT v) (.map k v es true) .gone
  | _ => .gone
def thawO (a b n : AO) : AO := match a, b with
  | .row e t xs .own, .row _ _ _ .fz => .row e t xs .own
  | _, _ => pickO n
def thaw : List AO → List AO → List AO → List AO
  | [], _, ns => ns.map pickO
  | _ :: _, [], ns => ns.map pickO
  | _ :: _, _ :: _, [] => []
  | a :: as, b :: bs, n :: ns => thawO a b n :: thaw as bs ns
theorem thaw_len : ∀ (a b n : List AO), (thaw a b n).length = n.length
  | a :: as, b :: bs, n :: ns => by rw [thaw, List.length_cons, thaw_len, List.length_cons]
  | [], _, ns => List.length_map _
  | _ :: _, [], ns => List.length_map _
  | _ :: _, _ :: _, [] => rfl
theorem thaw_get : ∀ (a b n : List AO) (i : Nat) (o : AO), (thaw a b n)[i]? = some o → (∃ e t xs, a[i]? = some (.row e t xs .own) ∧ (∃ e' t' xs', b[i]? = some (.row e' t' xs' .fz)) ∧ o = .row e t xs .own) ∨ ∃ z, n[i]? = some z ∧ o = pickO z := by
  have base : ∀ (ns : List AO) (i : Nat) (o : AO), (ns.map pickO)[i]? = some o → ∃ z, ns[i]? = some z ∧ o = pickO z := by
    intro ns i o h
    rw [List.getElem?_map] at h
    cases hz : ns[i]? with
    | none => rw [hz] at h; cases h
    | some z => rw [hz] at h; exact ⟨z, rfl, (Option.some.inj h).symm⟩
  intro a
  induction a with
  | nil => intro b n i o h; rw [thaw] at h; exact .inr (base _ _ _ h)
  | cons x as ih =>
    intro b n i o h
    cases b with
    | nil => rw [thaw] at h; exact .inr (base _ _ _ h)
    | cons y bs =>
      cases n with
      | nil => rw [thaw] at h; exact .inr (base _ _ _ h)
      | cons z ns =>
        rw [thaw] at h
        cases i with
        | zero =>
          have h : thawO x y z = o := Option.some.inj h
          unfold thawO at h
          split at h
          · exact .inl ⟨_, _, _, rfl, ⟨_, _, _, rfl⟩, h.symm⟩
          · exact .inr ⟨z, rfl, h.symm⟩
        | succ i => exact ih bs ns i o h
theorem pick_own {z o : AO} (h : o = pickO z) (ho : o.own = true) : o = z := by
  subst h
  unfold pickO at ho ⊢
  split at ho
  · cases hf : flatV _ with
    | true => rfl
    | false => rw [hf] at ho; cases ho
  · cases hf : flatT _ with
    | true => rfl
    | false => rw [hf] at ho; cases ho
  · rfl
  · cases hf : (flatT _ && flatT _) with
    | true => rfl
    | false => rw [hf] at ho; cases ho
  · cases ho
theorem A2.imp47 {α β : Type} {Q Q' : α → β → Prop} (f : ∀ x y, Q x y → Q' x y) : ∀ {l : List α} {m : List β}, A2 Q l m → A2 Q' l m
  | _, _, .nil => .nil
  | _, _, .cons h1 h2 => .cons (f _ _ h1) (A2.imp47 f h2)
theorem pick_or {x y : Cx} {O O' : Nat → Prop} {w : World} {g : Geo} {z : AO} (hg : y.g = x.g) (hm : y.m = x.m) (h : OR x O w g z) : OR y O' w g (pickO z) := by
  unfold pickO
  split
  · cases hf : flatV _ with
    | false => trivial
    | true =>
      obtain ⟨b, cs, e, h1, h2, h3, h4⟩ := h
      exact ⟨b, cs, e, flat_cr hg hm hf h1, h2, h3, fun h => by cases h⟩
  · cases hf : flatT _ with
    | false => trivial
    | true =>
      obtain ⟨h1, h2, h3⟩ := h
      exact ⟨h1, h2, h3.flat (flatT_ok hf)⟩
  · obtain ⟨b, e, h1, h2⟩ := h
    exact ⟨b, e, h1, fun h => by cases h⟩
  · cases hf : (flatT _ && flatT _) with
    | false => trivial
    | true =>
      rw [Bool.and_eq_true] at hf
      obtain ⟨b, e, ⟨arr, clk, h1, h2⟩, h3⟩ := h
      refine ⟨b, e, ⟨arr, clk, h1, h2.imp47 ?_⟩, fun h => by cases h⟩
      rintro p en ⟨c1, c2, e1, k1, e2, k2⟩
      exact ⟨c1, c2, e1, (flatT_ok hf.1).eq k1, e2, (flatT_ok hf.2).eq k2⟩
  · trivial
section
variable {W : Nat → Prop} {S S' S'' : List AO} {ρ ρ'' : Nat → Geo} {w w' : World}
def Frozen (S S' : List AO) : Prop := ∀ j : Nat, S'[j]? = S[j]? ∨ ∃ e t xs, S[j]? = some (.row e t xs .own) ∧ S'[j]? = some (.row e t xs .fz)
theorem Frozen.own {j : Nat} {o : AO} (h : Frozen S S') (hj : S'[j]? = some o) (ho : o.own = true) : S[j]? = some o := by
  rcases h j with e | ⟨e, t, xs, h1, h2⟩
  · rw [← e]; exact hj
  · rw [h2] at hj
    obtain rfl := Option.some.inj hj
    cases ho
theorem Frozen.ownB {k : Nat} (h : Frozen S S') (hk : OwnB S' ρ k) : OwnB S ρ k := by
  obtain ⟨i, o, p, h1, h2, h3, h4⟩ := hk
  exact ⟨i, o, p, h.own h1 h2, h2, h3, h4⟩
theorem thaw_ok (h : Rel W S ρ w) (hS : Frozen S S') (hl : S'.length = S.length) (hA : Aft W S' ρ w S'' ρ'' w') : Aft W S ρ w (thaw S S' S'') ρ'' w' := by
  have hm : S.length ≤ S''.length := by rw [← hl]; exact hA.m
  have ag : ∀ i, i < S.length → ρ'' i = ρ i := fun i hi => hA.ag i (by rw [hl]; exact hi)
  -- a row that was lent lies in no block that was written
  have lent : ∀ {i : Nat} {e : TypeId} {t : T} {xs : List t.den} {e' : TypeId} {t' : T} {xs' : List t'.den} {p : Addr}, S[i]? = some (.row e t xs .own) → S'[i]? = some (.row e' t' xs' .fz) → (ρ i).a = some p → ¬ OwnB S' ρ p.block := by
    rintro i e t xs e' t' xs' p h1 h2 h3 ⟨j, o, q, k1, k2, k3, k4⟩
    refine h.dj j i o _ q p ?_ (hS.own k1 k2) h1 k2 rfl k3 h3 k4
    rintro rfl
    rw [h2] at k1
    obtain rfl := Option.some.inj k1
    cases k2
  refine Aft.of (O1 := OwnB S' ρ) h hA.fr (fun k hk => hS.ownB hk) ?_ ag (by rw [thaw_len]; exact hm) ?_ ?_
  · rintro k ⟨i, o, p, h1, h2, h3, h4⟩
    rcases thaw_get _ _ _ _ _ h1 with ⟨e, t, xs, k1, _, k3⟩ | ⟨z, k1, k2⟩
    · subst k3
      rw [ag i (List.getElem?_eq_some_iff.1 k1).1] at h3
      exact .inl ⟨i, _, p, k1, rfl, h3, h4⟩
    · have := pick_own k2 h2
      subst this
      rcases hA.nw k ⟨i, _, p, k1, h2, h3, h4⟩ with h | h
      · exact .inl (hS.ownB h)
      · exact .inr h
  · intro le i o hi
    rcases thaw_get _ _ _ _ _ hi with ⟨e, t, xs, k1, ⟨e', t', xs', k2⟩, k3⟩ | ⟨z, k1, k2⟩
    · subst k3
      exact .inl ⟨k1, fun _ p hp => lent k1 k2 hp⟩
    · subst k2
      refine .inr (pick_or (x := cx W S'' ρ'' w') rfl ?_ (hA.rel.ob i z k1))
      exact thaw_len _ _ _
  · intro i j o o' p q hij hi hj ho ho' hp hq
    have far : ∀ {i j : Nat} {e : TypeId} {t : T} {xs : List t.den} {e' : TypeId} {t' : T} {xs' : List t'.den} {z : AO} {p q : Addr}, S[i]? = some (.row e t xs .own) → S'[i]? = some (.row e' t' xs' .fz) → (ρ'' i).a = some p → S''[j]? = some z → z.own = true → (ρ'' j).a = some q → p.block ≠ q.block := by
      intro i j e t xs e' t' xs' z p q h1 h2 h3 h4 h5 h6 heq
      rw [ag i (List.getElem?_eq_some_iff.1 h1).1] at h3
      rcases hA.nw q.block ⟨j, z, q, h4, h5, h6, rfl⟩ with hb | hb
      · exact lent h1 h2 h3 (heq ▸ hb)
      · have := OwnB.lt h ⟨i, _, p, h1, rfl, h3, rfl⟩
        omega
    rcases thaw_get _ _ _ _ _ hi with ⟨e, t, xs, k1, ⟨_, _, _, k2⟩, k3⟩ | ⟨z, k1, k2⟩
    · rcases thaw_get _ _ _ _ _ hj with ⟨e2, t2, xs2, l1, _, l3⟩ | ⟨z2, l1, l2⟩
      · subst k3; subst l3
        rw [ag i (List.getElem?_eq_some_iff.1 k1).1] at hp
        rw [ag j (List.getElem?_eq_some_iff.1 l1).1] at hq
        exact h.dj i j _ _ p q hij k1 l1 rfl rfl hp hq
      · have e2 := pick_own l2 ho'
        subst e2
        exact far k1 k2 hp l1 ho' hq
    · have e1 := pick_own k2 ho
      subst e1
      rcases thaw_get _ _ _ _ _ hj with ⟨e2, t2, xs2, l1, ⟨_, _, _, l2⟩, l3⟩ | ⟨z2, l1, l2⟩
      · exact fun e => far l1 l2 hq k1 ho hp e.symm
      · have e2 := pick_own l2 ho'
        subst e2
        exact hA.rel.dj i j _ _ p q hij k1 l1 ho ho' hp hq
theorem frz_fro {v v' : AV} (hf : frz S v = (v', S')) : Frozen S S' ∧ S'.length = S.length := by
  have same : ∀ {u : AV}, (u, S) = (v', S') → Frozen S S' ∧ S'.length = S.length := by
    intro u e
    obtain ⟨_, rfl⟩ := Prod.mk.inj e
    exact ⟨fun _ => .inl rfl, rfl⟩
  have turn : ∀ {i : Nat} {e : TypeId} {t : T} {xs : List t.den} {u : AV}, S[i]? = some (.row e t xs .own) → (u, S.set i (.row e t xs .fz)) = (v', S') → Frozen S S' ∧ S'.length = S.length := by
    intro i e t xs u hi he
    obtain ⟨_, rfl⟩ := Prod.mk.inj he
    refine ⟨fun j => ?_, List.length_set⟩
    by_cases hij : i = j
    · subst hij
      exact .inr ⟨e, t, xs, hi, List.getElem?_set_self (List.getElem?_eq_some_iff.1 hi).1⟩
    · exact .inl (List.getElem?_set_ne hij)
  unfold frz at hf
  split at hf
  · split at hf
    · rename_i hi; exact turn hi hf
    · exact same hf
    · exact same hf
  · split at hf
    · rename_i hi; exact turn hi hf
    · exact same hf
    · exact same hf
  · split at hf
    · rename_i hi; exact turn hi hf
    · exact same hf
    · exact same hf
  · split at hf
    · rename_i hi; exact turn hi hf
    · exact same hf
    · exact same hf
  · exact same hf
  · exact same hf
theorem Frozen.trans {S1 : List AO} (h : Frozen S S1) (h' : Frozen S1 S') : Frozen S S' := by
  intro j
  rcases h' j with e | ⟨e, t, xs, k1, k2⟩
  · rw [e]; exact h j
  · exact .inr ⟨e, t, xs, h.own k1 rfl, k2⟩
theorem frzP_fro : ∀ (v : AV) {S S' : List AO} {v' : AV}, frzP v S = (v', S') → Frozen S S' ∧ S'.length = S.length := by
  intro v
  induction v using AV.rec (motive_2 := fun _ => True) with
  | pr a b iha ihb =>
    intro S S' v' hf
    unfold frzP at hf
    obtain ⟨rfl, rfl⟩ := Prod.mk.inj hf
    obtain ⟨f1, l1⟩ := iha (S := S) (S' := (frzP a S).2) rfl
    obtain ⟨f2, l2⟩ := ihb (S := (frzP a S).2) (S' := (frzP b (frzP a S).2).2) rfl
    exact ⟨f1.trans f2, l2.trans l1⟩
  | one a iha =>
    intro S S' v' hf
    unfold frzP at hf
    obtain ⟨rfl, rfl⟩ := Prod.mk.inj hf
    exact iha (S := S) (S' := (frzP a S).2) rfl
  | nil => trivial
  | cons _ _ _ _ => trivial
  | _ => intro S S' v' hf; exact frz_fro hf
theorem frzL_fro : ∀ (l : List AV) {S S' : List AO} {l' : List AV}, frzL l S = (l', S') → Frozen S S' ∧ S'.length = S.length
  | [], S, S', l', hf => by
    obtain ⟨_, rfl⟩ := Prod.mk.inj hf
    exact ⟨fun _ => .inl rfl, rfl⟩
  | v :: l, S, S', l', hf => by
    unfold frzL at hf
    obtain ⟨rfl, rfl⟩ := Prod.mk.inj hf
    obtain ⟨f1, l1⟩ := frzP_fro v (S := S) (S' := (frzP v S).2) rfl
    obtain ⟨f2, l2⟩ := frzL_fro l (S := (frzP v S).2) (S' := (frzL l (frzP v S).2).2) rfl
    exact ⟨f1.trans f2, l2.trans l1⟩
theorem frzV_ok {v v' : AV} {u : Value} (h : Rel W S ρ w) (hv : VR (cx W S ρ w) v u) (hf : frzP v S = (v', S')) : Aft W S ρ w S' ρ w ∧ VR (cx W S' ρ w) v' u := by
  have leaf : (∃ c, u = form v.isAgg c ∧ CR (cx W S ρ w) v c ∧ c.length = v.sz) → frzP v S = (v', S') → Aft W S ρ w S' ρ w ∧ VR (cx W S' ρ w) v' u := by
    rintro ⟨c, e, h1, h2⟩ hf
    obtain ⟨A1, k1, _⟩ := frzP_ok v h hf h1
    refine ⟨A1, ?_⟩
    have e' : u = form v'.isAgg c := by rw [e, frz_agg hf (plain_cr h1)]
    have hp := plain_cr k1
    cases v' with
    | tup l => cases hp
    | undef => cases hp
    | _ => exact ⟨c, e', k1, (cr_len k1)⟩
  cases v with
  | tup l =>
    obtain ⟨rfl, rfl⟩ := Prod.mk.inj hf
    exact ⟨Aft.refl h, hv⟩
  | undef =>
    obtain ⟨rfl, rfl⟩ := Prod.mk.inj hf
    exact ⟨Aft.refl h, hv⟩
  | _ => exact leaf hv hf
theorem frzA_ok : ∀ {l l' : List AV} {us : List Value} {S S' : List AO}, Rel W S ρ w → A2 (VR (cx W S ρ w)) l us → frzL l S = (l', S') → Aft W S ρ w S' ρ w ∧ A2 (VR (cx W S' ρ w)) l' us
  | [], l', us, S, S', h, ha, hf => by
    obtain ⟨rfl, rfl⟩ := Prod.mk.inj hf
    exact ⟨Aft.refl h, ha⟩
  | v :: l, l', us, S, S', h, ha, hf => by
    unfold frzL at hf
    obtain ⟨rfl, rfl⟩ := Prod.mk.inj hf
    cases ha with
    | cons h1 h2 =>
      obtain ⟨A1, k1⟩ := frzV_ok h h1 (S' := (frzP v S).2) rfl
      obtain ⟨A2', k2⟩ := frzA_ok A1.rel (a2_up A1.le h2) (S' := (frzL l (frzP v S).2).2) rfl
      exact ⟨A1.trans A2', .cons (k1.up A2'.le) k2⟩
end
def peekS (f : FuncId) (S : Summ) : Summ := ⟨fun args ob K => match frzL args ob with
  | (args', ob') => callA (sums (fun _ => List.range 60) [(f, S)]) f args' ob' fun v o => cond (flatR v) (K v (thaw ob ob' o)) none⟩
theorem peek_ok {P : Program} {f : FuncId} {S : Summ} (h : SumOk P f S) : SumOk P f (peekS f S) := by
  have al : AllOk P [(f, S)] := ⟨h, trivial⟩
  refine ⟨fun g as ob K => ?_, ?_⟩
  · show (callA (sums (fun _ => List.range 60) [(f, S)]) f (frzL as ob).1 (frzL as ob).2 (fun v o => cond (flatR v) (K v (thaw ob (frzL as ob).2 o)) none)).bind g = callA (sums (fun _ => List.range 60) [(f, S)]) f (frzL as ob).1 (frzL as ob).2 (fun v o => cond (flatR v) ((K v (thaw ob (frzL as ob).2 o)).bind g) none)
    rw [bd_call g (sums_nat al)]
    congr 1; funext v o
    rw [bd_cond]
    rfl
  · intro R args ob K r hK W ρ w us hr ha
    cases hf : frzL args ob with
    | mk args' ob' =>
    have hK : callA (sums (fun _ => List.range 60) [(f, S)]) f (frzL args ob).1 (frzL args ob).2 (fun v o => cond (flatR v) (K v (thaw ob (frzL args ob).2 o)) none) = some r := hK
    rw [hf] at hK
    dsimp only at hK
    obtain ⟨A1, k1⟩ := frzA_ok hr ha hf
    obtain ⟨f1, l1⟩ := frzL_fro args hf
    refine (callA_ok (sums_call al) hK A1.rel k1).mono ?_
    rintro u w' ⟨v, ob2, ρ', h1, h2, h3⟩
    obtain ⟨hfl, h1⟩ | ⟨_, h1⟩ := cond_elim h1
    · exact ⟨v, thaw ob ob' ob2, ρ', h1, thaw_ok hr f1 l1 h2, flat_vr (x := cx W ob2 ρ' w') (y := cx W (thaw ob ob' ob2) ρ' w') rfl (thaw_len _ _ _) hfl h3⟩
    · cases h1
def eitherS (c : List AV → List AO → Bool) (S S' : Summ) : Summ := ⟨fun args ob K => cond (c args ob) (S.run args ob K) (S'.run args ob K)⟩
theorem eitherS_ok {P : Program} {f : FuncId} {c : List AV → List AO → Bool} {S S' : Summ} (h : SumOk P f S) (h' : SumOk P f S') : SumOk P f (eitherS c S S') := by
  refine ⟨fun g as ob K => ?_, fun args ob K r hK W ρ w us hr ha => ?_⟩
  · show (cond (c as ob) (S.run as ob K) (S'.run as ob K)).bind g = _
    rw [bd_cond, h.1 g as ob K, h'.1 g as ob K]
    rfl
  · have hK : cond (c args ob) (S.run args ob K) (S'.run args ob K) = some r := hK
    obtain ⟨_, hK⟩ | ⟨_, hK⟩ := cond_elim hK
    · exact h.2 args ob K r hK W ρ w us hr ha
    · exact h'.2 args ob K r hK W ρ w us hr ha
end Go.Mx
namespace Go.Mx
open Go Go.RowKit Go.Sx
variable [Glb]
theorem codeX_at {R : Type} {P : Program} {Γ : Sums} {lv : Tl} {k m : Nat} {fn : Func} {args : List AV} {ob : List AO} {K : KV R} (h : ob.length = m) : (codeX P Γ lv k fn).run args ob K = runX P Γ lv fn m (LX P Γ lv m (codeOf fn) k) args ob K := by subst h; rfl
end Go.Mx
namespace Go.Mx
open Go Go.RowKit Go.Sx
variable [Glb]
def fsqrt (x : Nat) : Nat := orN (Ieee.double.sqrt x)
def bitsS : Summ := ⟨fun args ob K => match args with
  | [.dat .flt x] => ck (nanB x = false) (K (.dat (.int .u64) (x : Int)) ob)
  | _ => none⟩
def fromS : Summ := ⟨fun args ob K => match args with
  | [.dat (.int .u64) i] => K (.dat .flt i.toNat) ob
  | _ => none⟩
def sqrtS : Summ := ⟨fun args ob K => match args with
  | [.dat .flt x] => K (.dat .flt (fsqrt x)) ob
  | _ => none⟩
section
variable {P : Program} {f : FuncId} {fn : Func} (hf : P.funcs[f]? = some fn) (hname : (fn.name == "runtime.NumGoroutine") = false) (hb : fn.body.isNone = true) (hn : Extern.findNext fn = none)
include hf hname hb hn
theorem bitsS_ok (he : Extern.find fn = some Extern.MathFloatBits.float64bits) : SumOk P f bitsS := by
  refine ⟨fun g as ob K => ?_, fun args ob K r hK W ρ w us hR hA => .inl ?_⟩
  · simp only [bitsS]; split <;> simp only [bd_none, bd_ck]
  · simp only [bitsS] at hK
    split at hK
    · rename_i x
      obtain ⟨h0, hK⟩ := ck_elim hK
      cases hA with
      | cons hu ht =>
        cases ht
        obtain ⟨d, e, hs⟩ := vr_flt hu
        have hs : d = x := by
          rcases hs with h | h
          · exact h
          · rw [h0] at h; cases h.2
        subst hs
        subst e
        refine ⟨.int .u64 (d : Int), w, ?_, .dat (.int .u64) (d : Int), ob, ρ, hK, Aft.refl hR, vr_intI _ _⟩
        show (callFunc f #[.float .f64 d]).run P w = _
        rw [run_callFunc_extern hf hname hb hn he]
        rfl
    · cases hK
theorem fromS_ok (he : Extern.find fn = some Extern.MathFloatBits.float64frombits) : SumOk P f fromS := by
  refine ⟨fun g as ob K => ?_, fun args ob K r hK W ρ w us hR hA => .inl ?_⟩
  · simp only [fromS]; split <;> rfl
  · simp only [fromS] at hK
    split at hK
    · rename_i i
      cases hA with
      | cons hu ht =>
        cases ht
        obtain rfl := vr_int hu
        refine ⟨.float .f64 i.toNat, w, ?_, .dat .flt i.toNat, ob, ρ, hK, Aft.refl hR, vr_fltI (.inl rfl)⟩
        show (callFunc f #[.int .u64 i]).run P w = _
        rw [run_callFunc_extern hf hname hb hn he]
        rfl
    · cases hK
theorem sqrtS_ok (he : Extern.find fn = some Extern.MathSqrt.sqrt) : SumOk P f sqrtS := by
  refine ⟨fun g as ob K => ?_, fun args ob K r hK W ρ w us hR hA => .inl ?_⟩
  · simp only [sqrtS]; split <;> rfl
  · simp only [sqrtS] at hK
    split at hK
    · rename_i x
      cases hA with
      | cons hu ht =>
        cases ht
        obtain ⟨d, e, hs⟩ := vr_flt hu
        subst e
        have e2 : Ieee.double.sqrt d = Ieee.double.sqrt x := by
          rcases hs with h | ⟨h1, h2⟩
          · rw [h]
          · obtain ⟨s, q, e1⟩ := nanB_read h1
            obtain ⟨s', q', e2⟩ := nanB_read h2
            unfold Ieee.Format.sqrt
            rw [e1, e2]; rfl
        have hc := run_callFunc_extern (w := w) (args := #[.float .f64 d]) hf hname hb hn he
        unfold fsqrt at hK
        rw [← e2] at hK
        have hq : FloatKind.f64.format = Ieee.double := rfl
        cases hv : Ieee.double.sqrt d with
        | some v =>
          rw [hv] at hK
          refine ⟨.float .f64 v, w, ?_, .dat .flt v, ob, ρ, hK, Aft.refl hR, vr_fltI (.inl rfl)⟩
          show (callFunc f #[.float .f64 d]).run P w = _
          rw [hc]
          have e : Extern.MathSqrt.sqrt #[.float .f64 d] = (match Ieee.double.sqrt d with
            | some r => pure (.float .f64 r)
            | none => do pure (.float .f64 (← choose (.nanBits .f64 d d)))) := rfl
          rw [e, hv]; rfl
        | none =>
          rw [hv] at hK
          have hnan : nanB (Question.cut (.nanBits .f64 d d) (w.tape w.drawn (.nanBits .f64 d d))) = true := nan_drawn ..
          refine ⟨.float .f64 (Question.cut (.nanBits .f64 d d) (w.tape w.drawn (.nanBits .f64 d d))), w.drew, ?_, .dat .flt nanC, ob, ρ, hK, Aft.quietF hR (Fr.refl w No).drew, vr_fltI (.inr ⟨hnan, nan_nanC⟩)⟩
          show (callFunc f #[.float .f64 d]).run P w = _
          rw [hc]
          have e : Extern.MathSqrt.sqrt #[.float .f64 d] = (match Ieee.double.sqrt d with
            | some r => pure (.float .f64 r)
            | none => do pure (.float .f64 (← choose (.nanBits .f64 d d)))) := rfl
          rw [e, hv]
          simp [run_choose_drew, Question.forced]
    · cases hK
end
end Go.Mx
