/- Own work. A part of the proof of a law of this seat: a part -/
import Derived.Test.YtidhcbnplgbnoaaMx32
/- A region whose order is drawn: from its begin to its end. -/
namespace Go.Mx
open Go Go.RowKit Go.Sx

theorem Rel.weak {W W' : Nat → Prop} {S : List AO} {ρ : Nat → Geo} {w : World} (h : Rel W' S ρ w) (hW : ∀ k, W k → W' k) : Rel W S ρ w := by
  have le : (cx W' S ρ w).Le (cx W S ρ w) := ⟨Nat.le_refl _, fun _ _ _ => rfl, fun k _ hv => hv.elim (fun h => .inl (hW k h)) .inr, fun _ _ => rfl, Nat.le_refl _⟩
  refine ⟨fun i o hi => ?_, h.dj, fun k hk => h.wl k (hW k hk), fun k hk hw => h.wd k hk (hW k hw)⟩
  exact (h.ob i o hi).up (O1 := No) le rfl rfl (Fr.refl w No) (fun _ b _ hn => ⟨fun h => h.elim, hn⟩) (fun _ _ h => h.elim) (fun _ _ _ h => h.elim)
section
variable {P : Program} {Γ : Sums} {all : List Oper} {D : Nat → Dat} {b : Nat → Bool}
variable {W : Nat → Prop} {ρ0 ρ : Nat → Geo} {w0 w : World} {N : Nat} {C : List AO} {L : Nat → Nat} {a : Act}
theorem Txt.readEnd (h : Txt P Γ all D) (hall : ∀ j, j < all.length → b j = true) {x : Nat} {q : AO} (hl : x < nO D all.length) (hq : Ob all D b x q) : (D all.length).s.ob[x]? = some q := by
  rcases hq with ⟨k, hk, hbk, hw, he, hmax⟩ | ⟨hno, ⟨hx0, he⟩ | ⟨hx0, rfl⟩⟩
  · rw [h.keeps (p := k + 1) (q := all.length) (h.wlt hk hw) hk (Nat.le_refl _) (fun k' h1 h2 hw' => hmax k' (by omega) h2 (hall k' h2) hw'), he]
  · rw [h.keeps (p := 0) (q := all.length) hx0 (Nat.zero_le _) (Nat.le_refl _) (fun k' h1 h2 hw' => hno k' h2 (hall k' h2) hw'), he]
  · exfalso
    rcases h.made (Nat.le_refl all.length) hl with h1 | ⟨j, h1, h2, h3, h4⟩
    · omega
    · exact hno j h1 (hall j h1) ⟨h2, .inr ⟨h3, h4⟩⟩
/-- all are done -/
theorem DrI.final (h : Txt P Γ all D) (I : DrI P Γ all D W ρ0 w0 N b C ρ L a w) (hall : ∀ j, j < all.length → b j = true) :
    ∃ ρ', Aft W (D 0).s.ob ρ0 w0 (D all.length).s.ob ρ' w ∧ SlR (cx W (D all.length).s.ob ρ' w) (D all.length).s.sl a := by
  obtain ⟨f, hf, prt⟩ := part_of I (n := nO D all.length) (M := (D all.length).s.ob) (Nat.le_refl _) rfl (fun j o1 hj => by
    have hjl := (List.getElem?_eq_some_iff.1 hj).1
    obtain ⟨p, p', k1, _, _⟩ := I.obj j hjl
    have k2 := h.readEnd hall hjl k1
    rw [hj] at k2
    obtain rfl := Option.some.inj k2
    exact .inr ⟨o1, h.idsO (Nat.le_refl _) hj, k1, fun q' hq' => by have := h.readEnd hall hjl hq'; rw [hj] at this; exact (Option.some.inj this).symm, .inl rfl⟩)
  have hA : ∀ k, (cx W (D all.length).s.ob (fun j => ρ (L j)) w).A k → (cx W C ρ w).A k := fun k hk => hk.elim .inl (fun hk => .inr (prt.ownS hk))
  have ix : ∀ i j, i < (cx W C ρ w).m → f i = some j → j < (cx W (D all.length).s.ob (fun j => ρ (L j)) w).m ∧ (cx W (D all.length).s.ob (fun j => ρ (L j)) w).g j = (cx W C ρ w).g i := fun i j h1 h2 => prt.idx (W := W) (w := w) i j h1 h2
  refine ⟨fun j => ρ (L j), ⟨(prt.rel I.aft.rel).weak (fun k hk => .inl hk), I.aft.fr, fun k hk => I.aft.nw k (prt.ownS hk), fun i hi => ?_, h.mono (Nat.zero_le _) (Nat.le_refl _)⟩, ?_⟩
  · simp only [I.ini i hi]
    exact I.aft.ag i hi
  · intro t v hv
    have hs : Sl all D b t v := by
      rcases h.slot (Nat.le_refl _) hv with ⟨k, o, hk, ho, hd, e⟩ | ⟨hno, hl⟩
      · exact .inl ⟨k, o, ho, hd, hall k hk, e⟩
      · exact .inr ⟨fun k o ho hd => absurd hd (hno k o (List.getElem?_eq_some_iff.1 ho).1 ho), hl⟩
    obtain ⟨v', h1, h2⟩ := I.slt t v hs
    refine VR.ren hA rfl ix (ren_back h1 (fun x hx y hy => ?_)) h2
    obtain rfl := Option.some.inj hy
    exact hf x (h.idsV (Nat.le_refl _) hv x hx)
/-- none is done -/
theorem DrI.init (h : Txt P Γ all D) (hr : Rel W (D 0).s.ob ρ0 w) (hs : SlR (cx W (D 0).s.ob ρ0 w) (D 0).s.sl a) (hdf : a.defers = []) (hsz : a.tmps.size = N) :
    DrI P Γ all D W ρ0 w N (fun j => !Nat.blt j all.length) ((D 0).s.ob ++ List.replicate (nO D all.length - nO D 0) .gone) ρ0 (fun x => x) a w.drew := by
  have hn := h.mono (Nat.zero_le all.length) (Nat.le_refl _)
  have hlen : ((D 0).s.ob ++ List.replicate (nO D all.length - nO D 0) AO.gone).length = nO D all.length := by
    rw [List.length_append, List.length_replicate]
    unfold nO at hn ⊢
    omega
  have no : ∀ k, k < all.length → (!Nat.blt k all.length) = true → False := by
    intro k hk hb
    rw [Bool.not_eq_true', Bool.eq_false_iff, ne_eq, Nat.blt_eq] at hb
    exact hb hk
  have get : ∀ (x : Nat) (o : AO), ((D 0).s.ob ++ List.replicate (nO D all.length - nO D 0) AO.gone)[x]? = some o → (D 0).s.ob[x]? = some o ∨ o = .gone := by
    intro x o hx
    by_cases hl : x < (D 0).s.ob.length
    · rw [List.getElem?_append, if_pos hl] at hx; exact .inl hx
    · rw [List.getElem?_append, if_neg hl, List.getElem?_replicate] at hx
      split at hx
      · exact .inr (Option.some.inj hx).symm
      · cases hx
  have A : Aft W (D 0).s.ob ρ0 w ((D 0).s.ob ++ List.replicate (nO D all.length - nO D 0) .gone) ρ0 w.drew := by
    refine Aft.of (O1 := No) hr (Fr.refl w No).drew (fun _ h => h.elim) ?_ (fun _ _ => rfl) (by simp) ?_ ?_
    · rintro k ⟨i, o, p, hi, ho, ha, hb⟩
      rcases get i o hi with h1 | rfl
      · exact .inl ⟨i, o, p, h1, ho, ha, hb⟩
      · cases ho
    · intro le i o hi
      rcases get i o hi with h1 | rfl
      · exact .inl ⟨h1, fun _ _ _ h => h.elim⟩
      · exact .inr trivial
    · intro i j o o' p q hij hi hj h1 h2
      rcases get i o hi with g1 | rfl
      · rcases get j o' hj with g2 | rfl
        · exact hr.dj i j o o' p q hij g1 g2 h1 h2
        · cases h2
      · cases h1
  refine ⟨A, fun x hx => by rw [hlen]; exact hx, fun x y _ _ e => e, fun _ _ => rfl, fun x hx => ?_, fun t v hsv => ?_, fun i o ho hb => (no i (List.getElem?_eq_some_iff.1 ho).1 hb).elim, hdf, hsz⟩
  · by_cases hl : x < nO D 0
    · have e : (D 0).s.ob[x]? = some (D 0).s.ob[x] := List.getElem?_eq_getElem hl
      refine ⟨_, (D 0).s.ob[x], .inr ⟨fun k hk hb => (no k hk hb).elim, .inl ⟨hl, e⟩⟩, by rw [List.getElem?_append, if_pos hl]; exact e, ?_⟩
      cases (D 0).s.ob[x] with
      | box ty v m => rw [AO.ren]; rw [show v.ren (fun x => some x) = some v from ren_some v]
      | _ => rfl
    · refine ⟨.gone, .gone, .inr ⟨fun k hk hb => (no k hk hb).elim, .inr ⟨by omega, rfl⟩⟩, ?_, rfl⟩
      rw [List.getElem?_append, if_neg hl, List.getElem?_replicate, if_pos]
      unfold nO at hx hl ⊢
      omega
  · rcases hsv with ⟨k, o, ho, _, hb, _⟩ | ⟨_, hl⟩
    · exact (no k (List.getElem?_eq_some_iff.1 ho).1 hb).elim
    · exact ⟨v, ren_some v, (hs t v hl).up A.le⟩
theorem ops_drawn {R : Type} {r : R} (hmx : P.follows .mixedOrders = true) (hΓ : CallOk P Γ) (hG : PrimOk P Γ) (id : Nat) {S00 : List AO} {ρ00 : Nat → Geo} {w00 : World} {s : St} {K : St → Option R} {Q : Exit → Act → World → Prop} (hd : all.all (dstLt N) = true)
    (hK : opsA P Γ all true all 0 s [] (fun s l => cond (regOk all && noClash (reachT all []) l) (K s) none) = some r) (h0 : StB W S00 ρ00 w00 N s ρ a w) (hQ : ∀ s' ρ' a' w', K s' = some r → StB W S00 ρ00 w00 N s' ρ' a' w' → Q .normal a' w') :
    (Code.region id all.toArray true).wp P Q a w := by
  obtain ⟨D, l', hD, rows, hK, _, hlog⟩ := ops_rows all 0 s [] (fun j => by rw [Nat.zero_add]) hK
  rw [Nat.zero_add] at hK
  obtain ⟨hc, hK⟩ | ⟨_, hK⟩ := cond_elim hK
  · rw [Bool.and_eq_true] at hc
    have gi : ∀ i, i < all.length → (D i).g.i = i := fun i hi => by
      obtain ⟨sl, _, _, e, _⟩ := rows i _ (Nat.zero_le _) (List.getElem?_eq_getElem hi)
      exact e
    have h : Txt P Γ all D := by
      refine ⟨fun j o ho => rows j o (Nat.zero_le _) ho, hc.1, fun i j hi hj hij hri hrj => ?_, fun x o hx => ?_, fun t v hv => ?_⟩
      · have := noClash_ok hc.2 (hlog i (Nat.zero_le _) (by omega) hri) (hlog j (Nat.zero_le _) (by omega) hrj) (by rw [gi i hi, gi j hj]; exact hij)
        rcases apart_ok this with h1 | h1 | h1
        · rw [gi i hi, gi j hj] at h1; exact .inr (.inl h1)
        · rw [gi i hi, gi j hj] at h1; exact .inl h1
        · exact .inr (.inr h1.1)
      · rw [hD] at hx ⊢
        exact oids_lt h0.aft.rel hx
      · rw [hD] at hv ⊢
        exact vids_lt (h0.sl t v hv)
    obtain ⟨hok, _, _⟩ := h.parts
    have hr : Rel W (D 0).s.ob ρ w := by rw [hD]; exact h0.aft.rel
    have hs : SlR (cx W (D 0).s.ob ρ w) (D 0).s.sl a := by rw [hD]; exact h0.sl
    refine drawn (os := all) id hmx all.length hok (Nat.ble_eq_true_of_le (Nat.le_refl _)) (fun b a w' => ∃ C ρ' L, DrI P Γ all D W ρ w N b C ρ' L a w') ⟨_, _, _, DrI.init h hr hs h0.df h0.sz⟩ ?_ ?_
    · rintro i o ho hi b a w ⟨C, ρ', L, I⟩ hb hn
      have hdo : dstLt N o = true := List.all_eq_true.1 hd o (List.mem_of_getElem? ho)
      have see : ∀ (d : Nat) (v : AV), d ∈ guardT all o → lookA d (D i).s.sl = some v → (v = .undef ∨ ∃ c, v = .dat .bool c) → VR (cx W C ρ' w) v (a.tmps.getD d undef) := by
        intro d v hd hv hc
        obtain ⟨v', h1, h2⟩ := I.slt d v (h.readS I.cl ho hb hn (guard_reads hd) hv)
        rcases hc with rfl | ⟨c, rfl⟩
        · obtain rfl := Option.some.inj h1; exact h2
        · obtain rfl := Option.some.inj h1; exact h2
      obtain ⟨sl, h1, _, _, hR | hN⟩ := h.rows i o ho
      · have hw : Region.wanted o (yielded all.toArray a.tmps) = true := by
          rcases hR.on with hg | ⟨d, c, hm, hl, hw⟩
          · exact wanted_none hg
          · exact hw a (vr_bool (see d _ hm hl (.inr ⟨c, rfl⟩)))
        unfold DoesG
        rw [if_pos hw]
        exact I.does hΓ hG h ho hdo hb hn h1 hR
      · obtain ⟨d, v, hm, hl, hv, hw⟩ := hN.off
        have hw := hw _ a (see d v hm hl hv)
        unfold DoesG
        rw [if_neg (by rw [hw]; simp)]
        exact ⟨C, ρ', L, I.skip h ho hdo hn hN⟩
    · rintro b a w hall ⟨C, ρ', L, I⟩
      obtain ⟨ρ2, A, hsl⟩ := I.final h (fun j hj => hall j hj hj)
      rw [List.drop_length]
      refine nil_ (hQ _ ρ2 a w hK ⟨?_, hsl, I.df, I.sz⟩)
      rw [hD] at A
      exact h0.aft.trans A
  · cases hK
end
end Go.Mx
