/- Own work. A part of the proof of a law of this seat: a part -/
import Derived.Test.YtidhcbnplgbnoaaMx31
/- A region whose order is drawn: one operation more. -/
namespace Go.Mx
open Go Go.RowKit Go.Sx

section
variable {P : Program} {Γ : Sums} {all : List Oper} {D : Nat → Dat} {b : Nat → Bool}
variable {W : Nat → Prop} {ρ0 ρ : Nat → Geo} {w0 w : World} {N : Nat} {C : List AO} {L : Nat → Nat} {a : Act}
/-- one that is not wanted -/
theorem DrI.skip (h : Txt P Γ all D) (I : DrI P Γ all D W ρ0 w0 N b C ρ L a w) {i : Nat} {o : Oper} (ho : all[i]? = some o) (hd : dstLt N o = true) (hn : ∀ j ∈ needs o, b j = true) (hN : Not all D i o) :
    DrI P Γ all D W ρ0 w0 N (withB b i) C ρ L (a.put o.dst undef) w := by
  refine ⟨I.aft, I.lt, I.inj, I.ini, fun x hx => ?_, fun t v hs => ?_, I.cl.with ho hn, by rw [put_df]; exact I.df, by rw [put_size]; exact I.sz⟩
  · obtain ⟨q, q', h1, h2⟩ := I.obj x hx
    exact ⟨q, q', h1.with (fun hw => by have := hw.1; rw [hN.ran] at this; cases this), h2⟩
  · rcases Sl.with h ho hs with ⟨e, rfl⟩ | ⟨hne, hs⟩
    · refine ⟨.undef, by rw [hN.v]; rfl, ?_⟩
      rw [e, tput_get (by rw [I.sz]; exact dstLt_ok hd t e), if_pos rfl]
      exact rfl
    · obtain ⟨v', h1, h2⟩ := I.slt t v hs
      exact ⟨v', h1, by rw [put_other hne]; exact h2⟩
theorem guard_reads {o : Oper} {d : Nat} (h : d ∈ guardT all o) : d ∈ reads all o := List.mem_append_left _ h
/-- one that is done -/
theorem DrI.does (hΓ : CallOk P Γ) (hG : PrimOk P Γ) (h : Txt P Γ all D) (I : DrI P Γ all D W ρ0 w0 N b C ρ L a w) {i : Nat} {o : Oper} {sl : Slots} (ho : all[i]? = some o) (hd : dstLt N o = true) (hb : b i = false) (hn : ∀ j ∈ needs o, b j = true) (hsl : ∀ t, lookA t sl = lookA t (D i).s.sl) (hR : Ran P Γ all D i o sl) :
    Does P o a w (fun u w' => ∃ C' ρ' L', DrI P Γ all D W ρ0 w0 N (withB b i) C' ρ' L' (a.put o.dst u) w') := by
  have hi := (List.getElem?_eq_some_iff.1 ho).1
  have hnN : nO D i ≤ nO D all.length := h.mono (Nat.le_of_lt hi) (Nat.le_refl _)
  have hn1 := h.n1 hi
  have hX : nO D (i + 1) = (D i).X.length := hn1.2.1 hR.ran
  have hnN1 : nO D (i + 1) ≤ nO D all.length := h.mono hi (Nat.le_refl _)
  -- what is found is as the text has it
  have find : ∀ (j : Nat) (q : AO), (j ∈ (D i).g.ts ∨ j ∈ (D i).g.ws) → j < nO D i → Ob all D b j q → (D i).s.ob[j]? = some q := fun j q hj hl hq => h.readO I.cl ho hb hn hR.ran hj hl hq
  obtain ⟨f, hf, prt⟩ := part_of I (n := nO D i) (M := maskO (D i).g.ts (D i).g.ws (D i).s.ob 0) hnN (maskO_len _ _) (fun j o1 hj => by
    obtain ⟨q, hq, hc⟩ := maskO_at _ _ _ _ hj
    rw [Nat.zero_add] at hc
    have hjl := (List.getElem?_eq_some_iff.1 hq).1
    have tell : (j ∈ (D i).g.ts ∨ j ∈ (D i).g.ws) → (o1 = q ∨ o1 = q.lent) → o1 = .gone ∨ ∃ o, (∀ id ∈ o.ids, id < nO D i) ∧ Ob all D b j o ∧ (∀ q, Ob all D b j q → q = o) ∧ (o1 = o ∨ o1 = o.lent) := by
      intro hm he
      obtain ⟨p, p', k1, _, _⟩ := I.obj j (Nat.lt_of_lt_of_le hjl hnN)
      have k2 := find j p hm hjl k1
      rw [hq] at k2
      obtain rfl := Option.some.inj k2
      exact .inr ⟨q, h.idsO (Nat.le_of_lt hi) hq, k1, fun q' hq' => by have := find j q' hm hjl hq'; rw [hq] at this; exact (Option.some.inj this).symm, he⟩
    rcases hc with ⟨h1, rfl⟩ | ⟨_, ⟨h1, rfl⟩ | h1⟩
    · exact tell (.inr (List.contains_iff_mem.1 h1)) (.inl rfl)
    · exact tell (.inl (List.contains_iff_mem.1 h1)) (.inr rfl)
    · exact .inl h1)
  have hLl : ((List.range (nO D i)).map L).length = nO D i := by simp
  have at_ : ∀ j, ((List.range (nO D i)).map L)[j]? = if j < nO D i then some (L j) else none := by
    intro j
    by_cases h : j < nO D i
    · simp [h]
    · simp [h]
  have hs : SlR (cx (Grd W C ρ (maskO (D i).g.ts (D i).g.ws (D i).s.ob 0) (fun j => ρ (L j))) (maskO (D i).g.ts (D i).g.ws (D i).s.ob 0) (fun j => ρ (L j)) w) (pickR (reads all o) sl) a := by
    intro t v hv
    obtain ⟨h1, h2⟩ := pickR_ok hv
    rw [hsl] at h2
    obtain ⟨v', h3, h4⟩ := I.slt t v (h.readS I.cl ho hb hn h1 h2)
    refine VR.ren (fun k => (prt.A k).1) rfl (prt.idx (W := W) (w := w)) (ren_back h3 (fun x hx y hy => ?_)) h4
    obtain rfl := Option.some.inj hy
    exact hf x (h.idsV (Nat.le_of_lt hi) h2 x hx)
  refine (opA_ok hΓ hG hR.op (prt.rel I.aft.rel) I.df hs).mono ?_
  rintro u w' ⟨v, X', ρ3, hk, A3, hv⟩
  obtain ⟨rfl, rfl⟩ : v = (D i).v ∧ X' = (D i).X := by
    have := Option.some.inj hk
    exact ⟨(Prod.mk.inj this).1, (Prod.mk.inj this).2⟩
  obtain ⟨S4, h4⟩ := renAll_all (g := fun j => bk C ((List.range (nO D i)).map L) j) (D i).X
  obtain ⟨q1, _⟩ := renAll_ok h4
  obtain ⟨B1, B2⟩ := back_part prt I.aft.rel A3 (D i).g.ws (fun j o1 hj hc => by
    obtain ⟨q, _, hc'⟩ := maskO_at _ _ _ _ hj
    rw [Nat.zero_add] at hc'
    rcases hc' with ⟨h1, _⟩ | ⟨_, ⟨_, rfl⟩ | rfl⟩
    · rw [hc] at h1; cases h1
    · exact lent_own q
    · rfl) (fun i j hj => (Option.some.inj hj).symm) h4
  have hlen4 : ((List.range (nO D i)).map L).length ≤ S4.length := by rw [hLl, q1, ← hX]; exact hn1.1
  have hlt : ∀ c ∈ (List.range (nO D i)).map L, c < C.length := fun c hc => by
    obtain ⟨x, hx, rfl⟩ := List.mem_map.1 hc
    have := List.mem_range.1 hx
    exact I.lt x (by omega)
  obtain ⟨K1, K2, K3⟩ := backObs_at (wr := (D i).g.ws) ((List.range (nO D i)).map L) 0 S4 C prt.nd hlen4 hlt
  have hCl := backObs_len (wr := (D i).g.ws) ((List.range (nO D i)).map L) 0 S4 C hlen4
  rw [hLl, q1, ← hX] at hCl
  -- where the text's things lie from here on
  have bkL : ∀ j, j < nO D (i + 1) → bk C ((List.range (nO D i)).map L) j = (if nO D i ≤ j ∧ j < nO D (i + 1) then C.length + (j - nO D i) else L j) := by
    intro j hj
    unfold bk
    rw [at_]
    by_cases h1 : j < nO D i
    · rw [if_pos h1, if_neg (by omega)]
    · rw [if_neg h1, if_pos (by omega), hLl]
  have same : ∀ {x : Nat}, ¬ (nO D i ≤ x ∧ x < nO D (i + 1)) → (if nO D i ≤ x ∧ x < nO D (i + 1) then C.length + (x - nO D i) else L x) = L x := fun h => if_neg h
  refine ⟨_, _, fun x => if nO D i ≤ x ∧ x < nO D (i + 1) then C.length + (x - nO D i) else L x, I.aft.trans B1, ?_, ?_, ?_, ?_, ?_, I.cl.with ho hn, by rw [put_df]; exact I.df, by rw [put_size]; exact I.sz⟩
  · intro x hx
    have := I.lt x hx
    split <;> omega
  · intro x y hx hy e
    have h1 := I.lt x hx
    have h2 := I.lt y hy
    by_cases hx' : nO D i ≤ x ∧ x < nO D (i + 1)
    · rw [if_pos hx'] at e
      by_cases hy' : nO D i ≤ y ∧ y < nO D (i + 1)
      · rw [if_pos hy'] at e; omega
      · rw [if_neg hy'] at e; omega
    · rw [if_neg hx'] at e
      by_cases hy' : nO D i ≤ y ∧ y < nO D (i + 1)
      · rw [if_pos hy'] at e; omega
      · rw [if_neg hy'] at e; exact I.inj x y hx hy e
  · intro x hx
    have := h.mono (Nat.zero_le i) (Nat.le_of_lt hi)
    rw [if_neg (by omega)]
    exact I.ini x hx
  · intro x hx
    by_cases hw : Wrt D i x
    · -- written, or made
      have hxl := h.wlt hi hw
      obtain ⟨p, hp⟩ : ∃ p, (D i).X[x]? = some p := ⟨_, List.getElem?_eq_getElem (by rw [← hX]; exact hxl)⟩
      obtain ⟨p4, g1, g2⟩ := renAll_get h4 x p hp
      have hob : (D (i + 1)).s.ob[x]? = some (newO p) := by rw [h.wrote hi hw, hp]; rfl
      have hus := h.usO hi hw hob
      have hren : (newO p).ren (fun x => some (if nO D i ≤ x ∧ x < nO D (i + 1) then C.length + (x - nO D i) else L x)) = some (newO p4) := by
        rw [← newO_ren g2]
        refine (oren_eq _ (fun y hy => ?_)).symm
        rw [bkL y (h.us_lt hi hR.ran (hus y hy))]
      refine ⟨newO p, newO p4, .inl ⟨i, hi, withB_t.2 (.inr rfl), hw, hob, fun k' k1 k2 k3 hw' => ?_⟩, ?_, hren⟩
      · have k3 := (withB_t.1 k3).elim id (fun e => by omega)
        rcases h.clashW k2 hi hw' hw (by omega) with k4 | k4
        · have := Rl.lt k4; omega
        · have := I.cl.done k2 k3 k4
          rw [hb] at this; cases this
      · by_cases hxn : x < nO D i
        · have hws : x ∈ (D i).g.ws := hw.2.elim id (fun e => by omega)
          rw [same (by omega)]
          obtain ⟨old, o4, e1, e2, e3⟩ := K1 x (L x) (by rw [at_, if_pos hxn]) (by rw [Nat.zero_add]; exact List.contains_iff_mem.2 hws)
          rw [g1] at e2
          obtain rfl := Option.some.inj e2
          rw [e3]
          obtain ⟨q, q', m1, m2, m3⟩ := I.obj x hx
          rw [m2] at e1
          obtain rfl := Option.some.inj e1
          have m4 := find x q (.inr hws) hxn m1
          obtain ⟨q2, m5, m6⟩ := hR.ws x hws
          rw [m4] at m5
          obtain rfl := Option.some.inj m5
          have hm : q'.mine = true := by rw [← own_mine, (ren_own m3).1, own_mine]; exact m6
          unfold backO newO
          rw [hm, cond_true]
        · rw [if_pos ⟨by omega, hxl⟩]
          have := K3 x (by rw [hLl]; omega)
          rw [hLl, g1] at this
          exact this
    · -- left as it was
      obtain ⟨q, q', m1, m2, m3⟩ := I.obj x hx
      have hnr : ¬ (nO D i ≤ x ∧ x < nO D (i + 1)) := fun e => hw ⟨hR.ran, .inr e⟩
      refine ⟨q, q', m1.with hw, ?_, ?_⟩
      · rw [same hnr, K2 (L x) (I.lt x hx) (fun j hj => ?_)]
        · exact m2
        · rw [at_] at hj
          split at hj
          · rename_i hjn
            have e := I.inj j x (by omega) hx (Option.some.inj hj)
            subst e
            rw [Nat.zero_add, Bool.eq_false_iff, ne_eq, List.contains_iff_mem]
            exact fun hm => hw ⟨hR.ran, .inl hm⟩
          · cases hj
      · rw [← m3]
        refine oren_eq _ (fun y hy => ?_)
        rw [same (h.crOff hi hb (h.obCr I.cl m1 y hy))]
  · intro t v hsv
    rcases Sl.with h ho hsv with ⟨e, rfl⟩ | ⟨hne, hsv⟩
    · obtain ⟨v', hv'⟩ := ren_all (g := fun j => bk C ((List.range (nO D i)).map L) j) (D i).v
      refine ⟨v', ?_, ?_⟩
      · rw [← hv']
        refine ren_eq _ (fun y hy => ?_)
        rw [bkL y (h.us_lt hi hR.ran (h.usV hi hR.ran y hy))]
      · rw [e, tput_get (by rw [I.sz]; exact dstLt_ok hd t e), if_pos rfl]
        exact B2 _ v' u hv' hv
    · obtain ⟨v', h1, h2⟩ := I.slt t v hsv
      refine ⟨v', ?_, by rw [put_other hne]; exact h2.up B1.le⟩
      rw [← h1]
      refine ren_eq _ (fun y hy => ?_)
      rw [same (h.crOff hi hb (h.slCr I.cl hsv y hy))]
end
end Go.Mx
