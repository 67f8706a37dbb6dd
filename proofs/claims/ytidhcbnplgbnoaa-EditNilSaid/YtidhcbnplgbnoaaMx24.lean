/- Own work. A part of the proof of a law of this seat: a part -/
import Derived.Test.YtidhcbnplgbnoaaMx23
/- Calls. -/
namespace Go.Mx
open Go Go.RowKit Go.Sx

theorem nodupB_ok : ∀ {L : List Nat}, nodupB L = true → L.Nodup
  | [], _ => List.nodup_nil
  | i :: L, h => by
    rw [nodupB, Bool.and_eq_true, Bool.not_eq_true'] at h
    rw [List.nodup_cons]
    exact ⟨by have := h.1; simpa using this, nodupB_ok h.2⟩
theorem posn_ok {i : Nat} : ∀ {L : List Nat} {n j : Nat}, posn i L n = some j → n ≤ j ∧ L[j - n]? = some i
  | [], n, j, h => by cases h
  | k :: L, n, j, h => by
    rw [posn] at h
    cases hk : Nat.beq k i with
    | true =>
      rw [hk] at h
      obtain rfl := Option.some.inj h
      have := Nat.eq_of_beq_eq_true hk
      exact ⟨Nat.le_refl _, by rw [Nat.sub_self, this]; rfl⟩
    | false =>
      rw [hk] at h
      obtain ⟨h1, h2⟩ := posn_ok h
      refine ⟨by omega, ?_⟩
      rw [show j - n = (j - (n + 1)) + 1 by omega]
      exact h2
theorem renAll_ok {f : Nat → Option Nat} : ∀ {l l' : List AO}, renAll f l = some l' → l'.length = l.length ∧ ∀ (j : Nat) (o' : AO), l'[j]? = some o' → ∃ o, l[j]? = some o ∧ o.ren f = some o'
  | [], l', h => by obtain rfl := Option.some.inj h; exact ⟨rfl, fun j o' h => by simp at h⟩
  | o :: l, l', h => by
    rw [renAll] at h
    split at h
    · rename_i o1 ho
      split at h
      · rename_i l1 hl
        obtain rfl := Option.some.inj h
        obtain ⟨h1, h2⟩ := renAll_ok hl
        refine ⟨by simp [h1], fun j o' hj => ?_⟩
        cases j with
        | zero => obtain rfl : o1 = o' := Option.some.inj hj; exact ⟨o, rfl, ho⟩
        | succ j => exact h2 j o' hj
      · cases h
    · cases h
theorem passObs_ok {ob : List AO} {wr : List Nat} : ∀ {L : List Nat} {n : Nat} {l : List AO}, passObs ob wr L n = some l → l.length = L.length ∧ ∀ (j : Nat) (o' : AO), l[j]? = some o' → ∃ (i : Nat) (o : AO), L[j]? = some i ∧ ob[i]? = some o ∧ o' = cond (wr.contains (n + j)) o o.lent
  | [], n, l, h => by obtain rfl := Option.some.inj h; exact ⟨rfl, fun j o' h => by simp at h⟩
  | i :: L, n, l, h => by
    rw [passObs] at h
    split at h
    · rename_i o ho
      split at h
      · rename_i l1 hl
        obtain rfl := Option.some.inj h
        obtain ⟨h1, h2⟩ := passObs_ok hl
        refine ⟨by simp [h1], fun j o' hj => ?_⟩
        cases j with
        | zero => obtain rfl := Option.some.inj hj; exact ⟨i, o, rfl, ho, rfl⟩
        | succ j =>
          obtain ⟨i', o2, k1, k2, k3⟩ := h2 j o' hj
          exact ⟨i', o2, k1, k2, by rw [k3, show n + 1 + j = n + (j + 1) by omega]⟩
      · cases h
    · cases h
theorem newL_get : ∀ {l : List AO} {j : Nat} {o : AO}, (newL l)[j]? = some o → ∃ n, l[j]? = some n ∧ o = newO n
  | [], j, o, h => by simp [newL] at h
  | n :: l, j, o, h => by
    cases j with
    | zero => exact ⟨n, rfl, (Option.some.inj h).symm⟩
    | succ j => exact newL_get (l := l) (j := j) h
theorem newL_len : ∀ (l : List AO), (newL l).length = l.length
  | [] => rfl
  | _ :: l => by rw [newL, List.length_cons, newL_len l, List.length_cons]
theorem backObs_len {wr : List Nat} : ∀ (L : List Nat) (n : Nat) (new ob : List AO), L.length ≤ new.length → (backObs wr L n new ob).length = ob.length + (new.length - L.length)
  | [], n, new, ob, _ => by rw [backObs, List.length_append, newL_len]; simp
  | i :: L, n, [], ob, h => by simp at h
  | i :: L, n, o :: new, ob, h => by
    rw [backObs, backObs_len L (n + 1) new _ (by simpa using h)]
    cases wr.contains n with
    | false => rw [cond_false]; simp
    | true =>
      rw [cond_true]
      cases ob[i]? with
      | none => simp
      | some old => simp
theorem backObs_ok {wr : List Nat} : ∀ (L : List Nat) (n : Nat) (new ob : List AO), L.Nodup → L.length ≤ new.length → (∀ i ∈ L, i < ob.length) → ∀ (i : Nat) (o' : AO), (backObs wr L n new ob)[i]? = some o' →
    (i < ob.length ∧ ob[i]? = some o' ∧ ∀ j, L[j]? = some i → wr.contains (n + j) = false) ∨
    (∃ (j : Nat) (old o : AO), L[j]? = some i ∧ ob[i]? = some old ∧ new[j]? = some o ∧ o' = backO old o) ∨
    (∃ (j : Nat) (o : AO), L.length ≤ j ∧ new[j]? = some o ∧ i = ob.length + (j - L.length) ∧ o' = newO o)
  | [], n, new, ob, _, _, _, i, o', h => by
    rw [backObs] at h
    rcases Nat.lt_or_ge i ob.length with hl | hl
    · rw [List.getElem?_append, if_pos hl] at h
      exact .inl ⟨hl, h, fun j hj => by simp at hj⟩
    · rw [List.getElem?_append, if_neg (by omega)] at h
      obtain ⟨o, h1, h2⟩ := newL_get h
      exact .inr (.inr ⟨i - ob.length, o, Nat.zero_le _, h1, by simp; omega, h2⟩)
  | k :: L, n, [], ob, _, hl, _, i, o', h => by simp at hl
  | k :: L, n, o :: new, ob, hnd, hl, hlt, i, o', h => by
    rw [List.nodup_cons] at hnd
    rw [backObs] at h
    have hk := hlt k (by simp)
    obtain ⟨old, hold⟩ : ∃ old, ob[k]? = some old := ⟨_, List.getElem?_eq_getElem hk⟩
    rw [hold] at h
    cases hw : wr.contains n with
    | false =>
      rw [hw] at h
      rcases backObs_ok L (n + 1) new ob hnd.2 (by simpa using hl) (fun i hi => hlt i (by simp [hi])) i o' h with ⟨h1, h2, h3⟩ | ⟨j, old', o2, h1, h2, h3, h4⟩ | ⟨j, o2, h1, h2, h3, h4⟩
      · refine .inl ⟨h1, h2, fun j hj => ?_⟩
        cases j with
        | zero => exact hw
        | succ j => have := h3 j hj; rwa [show n + 1 + j = n + (j + 1) by omega] at this
      · exact .inr (.inl ⟨j + 1, old', o2, h1, h2, h3, h4⟩)
      · exact .inr (.inr ⟨j + 1, o2, by simpa using h1, h2, by rw [h3]; simp, h4⟩)
    | true =>
      rw [hw] at h
      rcases backObs_ok L (n + 1) new (ob.set k (backO old o)) hnd.2 (by simpa using hl) (fun i hi => by rw [List.length_set]; exact hlt i (by simp [hi])) i o' h with ⟨h1, h2, h3⟩ | ⟨j, old', o2, h1, h2, h3, h4⟩ | ⟨j, o2, h1, h2, h3, h4⟩
      · rcases set_get h2 with ⟨hne, h2⟩ | ⟨rfl, rfl, _⟩
        · refine .inl ⟨by rw [List.length_set] at h1; exact h1, h2, fun j hj => ?_⟩
          cases j with
          | zero => exact absurd (Option.some.inj hj).symm hne
          | succ j => have := h3 j hj; rwa [show n + 1 + j = n + (j + 1) by omega] at this
        · exact .inr (.inl ⟨0, old, o, rfl, hold, rfl, rfl⟩)
      · have hne : k ≠ i := fun e => hnd.1 (by rw [e]; exact List.mem_of_getElem? h1)
        rw [List.getElem?_set_ne hne] at h2
        exact .inr (.inl ⟨j + 1, old', o2, h1, h2, h3, h4⟩)
      · exact .inr (.inr ⟨j + 1, o2, by simpa using h1, h2, by rw [h3]; simp, h4⟩)
/-- a summary of calls that holds of the program -/
def CallOk (P : Program) (Γ : Sums) : Prop := ∀ {R : Type} (f : FuncId) (args : List AV) (ob : List AO) (K : KV R) (r : R), Γ.call f args ob K = some r → ∀ (W : Nat → Prop) (ρ : Nat → Geo) (w : World) (us : List Value), Rel W ob ρ w → A2 (VR (cx W ob ρ w)) args us →
  Inv P f us w (fun u w' => ∃ v ob' ρ', K v ob' = some r ∧ Aft W ob ρ w ob' ρ' w' ∧ VR (cx W ob' ρ' w') v u)
def PrimOk (P : Program) (Γ : Sums) : Prop := ∀ {R : Type} (f : FuncId) (p : Prim), Γ.prim f = some p → ∀ (args : List AV) (ob : List AO) (K : KV R) (r : R), primA P p args ob K = some r → ∀ (W : Nat → Prop) (ρ : Nat → Geo) (w : World) (us : List Value), Rel W ob ρ w → A2 (VR (cx W ob ρ w)) args us →
  Inv P f us w (fun u w' => ∃ v ob' ρ', K v ob' = some r ∧ Aft W ob ρ w ob' ρ' w' ∧ VR (cx W ob' ρ' w') v u)
theorem callA_ok {R : Type} {P : Program} {Γ : Sums} (hΓ : CallOk P Γ) {f : FuncId} {args : List AV} {S : List AO} {K : KV R} {r : R} (hK : callA Γ f args S K = some r) {W : Nat → Prop} {ρ : Nat → Geo} {w : World} {us : List Value} (h : Rel W S ρ w) (ha : A2 (VR (cx W S ρ w)) args us) :
    Inv P f us w (fun u w' => ∃ v ob' ρ', K v ob' = some r ∧ Aft W S ρ w ob' ρ' w' ∧ VR (cx W ob' ρ' w') v u) := by
  unfold callA at hK
  simp only at hK
  generalize hL : reachA S (AV.idsL args) = L at hK
  cases hn : nodupB L with
  | false => rw [hn] at hK; cases hK
  | true =>
    rw [hn, cond_true] at hK
    split at hK
    · rename_i args' hargs
      split at hK
      · rename_i ob1 hp
        split at hK
        · rename_i ob2 hr
          obtain ⟨p1, p2⟩ := passObs_ok hp
          obtain ⟨r1, r2⟩ := renAll_ok hr
          have get2 : ∀ (j : Nat) (o1 : AO), ob2[j]? = some o1 → ∃ (i : Nat) (o : AO), L[j]? = some i ∧ S[i]? = some o ∧ (cond ((Γ.wr f args').contains j) o o.lent).ren (fun i => posn i L 0) = some o1 := by
            intro j o1 hj
            obtain ⟨o', h1, h2⟩ := r2 j o1 hj
            obtain ⟨i, o, h3, h4, h5⟩ := p2 j o' h1
            rw [Nat.zero_add] at h5
            exact ⟨i, o, h3, h4, by rw [← h5]; exact h2⟩
          have prt : Prt S ρ ob2 (fun j => match L[j]? with | some i => ρ i | none => ρ 0) L (fun i => posn i L 0) := by
            refine ⟨nodupB_ok hn, by rw [r1, p1], fun j o1 hj => ?_, fun j i hj => by simp only [hj], fun i j hj => ?_⟩
            · obtain ⟨i, o, h3, h4, h5⟩ := get2 j o1 hj
              refine ⟨i, o, h3, h4, ?_⟩
              cases hc : (Γ.wr f args').contains j with
              | true => rw [hc] at h5; exact .inr (.inl h5)
              | false => rw [hc] at h5; exact .inr (.inr h5)
            · have := (posn_ok hj).2
              rwa [Nat.sub_zero] at this
          refine (hΓ f args' ob2 _ r hK _ _ w us (prt.rel h) (prt.vr hargs ha)).mono ?_
          rintro u w' ⟨v, ob3, ρ3, hk, A3, hv⟩
          split at hk
          · rename_i v' hv'
            split at hk
            · rename_i ob4 h4
              obtain ⟨q1, q2⟩ := renAll_ok h4
              have hlen : L.length ≤ ob4.length := by rw [q1, ← p1, ← r1]; exact A3.m
              have src : Src S ρ ob2 (fun j => match L[j]? with | some i => ρ i | none => ρ 0) ob3 L (fun j => match L[j]? with | some i => some i | none => some (S.length + (j - L.length))) (backObs (Γ.wr f args') L 0 ob4 S) := by
                have hbl := backObs_len (wr := Γ.wr f args') L 0 ob4 S hlen
                refine ⟨by rw [hbl]; omega, fun j hj => ?_, fun i j hj => ?_, fun i o' hi => ?_⟩
                · rw [hbl]
                  unfold bk
                  cases hLj : L[j]? with
                  | some i => have := prt.lt hLj; simp only; omega
                  | none =>
                    have := List.getElem?_eq_none_iff.1 hLj
                    simp only
                    omega
                · unfold bk
                  cases hLj : L[i]? with
                  | some k => rw [hLj] at hj; exact (Option.some.inj hj).symm
                  | none => rw [hLj] at hj; exact (Option.some.inj hj).symm
                · rcases backObs_ok L 0 ob4 S (nodupB_ok hn) hlen (fun i hi => by obtain ⟨j, hj⟩ := List.getElem?_of_mem hi; exact prt.lt hj) i o' hi with ⟨h1, h2, h3⟩ | ⟨j, old, o, h1, h2, h3, h5⟩ | ⟨j, o, h1, h2, h3, h5⟩
                  · refine .inr (.inl ⟨h1, h2, fun ho p hp hk' => ?_⟩)
                    obtain ⟨j', i', o1', o2', p', hj', hL', hS', hr', ho', ho1', ha', hb'⟩ := prt.own hk'
                    by_cases hii : i' = i
                    · subst hii
                      have := h3 j' hL'
                      rw [Nat.zero_add] at this
                      obtain ⟨i2, o2, g1, g2, g3⟩ := get2 j' o1' hj'
                      rw [this, cond_false] at g3
                      rw [(ren_own g3).1, lent_own] at ho1'
                      cases ho1'
                    · exact h.dj i' i o2' o' p' p hii hS' h2 ho' ho ha' hp hb'
                  · obtain ⟨o3, g1, g2⟩ := q2 j o h3
                    unfold backO at h5
                    cases hs : o.sure with
                    | true =>
                      rw [hs, cond_true] at h5
                      subst h5
                      refine .inr (.inr ⟨j, o3, g1, g2, by rw [← (ren_own g2).2]; exact hs, ?_⟩)
                      unfold bk
                      rw [h1]
                    | false =>
                      rw [hs, cond_false] at h5
                      cases hm : old.mine with
                      | true => rw [hm] at h5; exact .inl h5
                      | false =>
                        rw [hm, cond_false] at h5
                        subst h5
                        exact .inr (.inl ⟨prt.lt h1, h2, fun ho => by rw [own_mine, hm] at ho; cases ho⟩)
                  · obtain ⟨o3, g1, g2⟩ := q2 j o h2
                    unfold newO at h5
                    cases hs : o.sure with
                    | true =>
                      rw [hs, cond_true] at h5
                      subst h5
                      refine .inr (.inr ⟨j, o3, g1, g2, by rw [← (ren_own g2).2]; exact hs, ?_⟩)
                      unfold bk
                      rw [List.getElem?_eq_none_iff.2 h1]
                      exact h3.symm
                    | false => rw [hs] at h5; exact .inl h5
              obtain ⟨B1, B2⟩ := prt.back h A3 src
              exact ⟨v', _, _, hk, B1, B2 v v' u hv' hv⟩
            · cases hk
          · cases hk
        · cases hK
      · cases hK
    · cases hK
end Go.Mx
