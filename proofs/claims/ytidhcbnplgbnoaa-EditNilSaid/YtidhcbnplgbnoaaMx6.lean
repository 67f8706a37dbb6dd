/- Own work. A part of the proof of a law of this seat: a part -/
import Derived.Test.YtidhcbnplgbnoaaMx5
/- How a state goes on: a new object, one that is written, one that is put elsewhere, one that is told as read. -/
namespace Go.Mx
open Go Go.RowKit Go.Sx

section
variable {W : Nat → Prop} {S S' S'' : List AO} {ρ ρ' ρ'' : Nat → Geo} {w w' w'' : World} {O1 : Nat → Prop}
theorem Aft.of (h : Rel W S ρ w) (hf : Fr w w' O1) (hO : ∀ k, O1 k → OwnB S ρ k) (nw : ∀ k, OwnB S' ρ' k → OwnB S ρ k ∨ w.heap.size ≤ k) (ag : ∀ i, i < S.length → ρ' i = ρ i) (m : S.length ≤ S'.length)
    (ch : (cx W S ρ w).Le (cx W S' ρ' w') → ∀ i o, S'[i]? = some o → (S[i]? = some o ∧ (o.own = true → ∀ p, (ρ i).a = some p → ¬ O1 p.block)) ∨ OR (cx W S' ρ' w') (OwnB S' ρ') w' (ρ' i) o)
    (dj : ∀ i j o o' p q, i ≠ j → S'[i]? = some o → S'[j]? = some o' → o.own = true → o'.own = true → (ρ' i).a = some p → (ρ' j).a = some q → p.block ≠ q.block) : Aft W S ρ w S' ρ' w' := by
  have le : (cx W S ρ w).Le (cx W S' ρ' w') := ⟨hf.size, fun k hk hn => hf.blk k hk (fun hk => hn (.inr (hO k hk))), fun k hk hv => hv.elim .inl (fun hO => (nw k hO).elim .inr (fun h2 => absurd h2 (Nat.not_le_of_lt hk))), ag, m⟩
  have hn : ∀ b, b < w.heap.size → ¬ OwnB S ρ b → ¬ O1 b ∧ ¬ OwnB S' ρ' b := fun b hb hn => ⟨fun h1 => hn (hO b h1), fun h1 => (nw b h1).elim hn (fun h2 => absurd h2 (Nat.not_le_of_lt hb))⟩
  refine ⟨⟨fun i o hi => ?_, dj, fun k hk => Nat.lt_of_lt_of_le (h.wl k hk) hf.size, fun k hk hW => ?_⟩, hf.mono (fun k _ hk => hO k hk), nw, ag, m⟩
  · rcases ch le i o hi with ⟨h1, h2⟩ | h1
    · have hlt := (List.getElem?_eq_some_iff.1 h1).1
      rw [ag i hlt]
      exact (h.ob i o h1).up le rfl rfl hf (fun _ => hn) (fun k _ hk => .inr (hO k hk)) h2
    · exact h1
  · rcases nw k hk with h1 | h1
    · exact h.wd k h1 hW
    · exact absurd (h.wl k hW) (Nat.not_lt_of_le h1)
def upd (ρ : Nat → Geo) (i : Nat) (g : Geo) : Nat → Geo := fun j => if j = i then g else ρ j
theorem upd_same (ρ : Nat → Geo) (i : Nat) (g : Geo) : upd ρ i g i = g := if_pos rfl
theorem upd_other (ρ : Nat → Geo) {i j : Nat} (g : Geo) (h : j ≠ i) : upd ρ i g j = ρ j := if_neg h
theorem push_get {o : AO} {i : Nat} {o' : AO} (h : (S ++ [o])[i]? = some o') : (i < S.length ∧ S[i]? = some o') ∨ (i = S.length ∧ o' = o) := by
  rcases Nat.lt_trichotomy i S.length with hl | hl | hl
  · rw [List.getElem?_append, if_pos hl] at h; exact .inl ⟨hl, h⟩
  · subst hl
    rw [List.getElem?_append, if_neg (Nat.lt_irrefl _), Nat.sub_self] at h
    exact .inr ⟨rfl, (Option.some.inj h).symm⟩
  · rw [List.getElem?_eq_none (by simp; omega)] at h; cases h
/-- A new object. -/
theorem Aft.push (h : Rel W S ρ w) {o : AO} {g : Geo} (hf : Fr w w' No) (hnew : o.own = true → ∀ p, g.a = some p → w.heap.size ≤ p.block)
    (hor : (cx W S ρ w).Le (cx W (S ++ [o]) (upd ρ S.length g) w') → OR (cx W (S ++ [o]) (upd ρ S.length g) w') (OwnB (S ++ [o]) (upd ρ S.length g)) w' g o) : Aft W S ρ w (S ++ [o]) (upd ρ S.length g) w' := by
  have old : ∀ i, i < S.length → upd ρ S.length g i = ρ i := fun i hi => upd_other ρ g (Nat.ne_of_lt hi)
  refine Aft.of h (O1 := No) hf (fun _ hk => hk.elim) ?_ old (by simp) ?_ ?_
  · rintro k ⟨i, o', p, hi, ho, ha, rfl⟩
    rcases push_get hi with ⟨hl, hi⟩ | ⟨rfl, rfl⟩
    · rw [old i hl] at ha
      exact .inl ⟨i, o', p, hi, ho, ha, rfl⟩
    · rw [upd_same] at ha
      exact .inr (hnew ho p ha)
  · intro le i o' hi
    rcases push_get hi with ⟨hl, hi⟩ | ⟨rfl, rfl⟩
    · exact .inl ⟨hi, fun _ _ _ hk => hk.elim⟩
    · rw [upd_same]; exact .inr (hor le)
  · intro i j o1 o2 p q hij hi hj h1 h2 a1 a2 hb
    rcases push_get hi with ⟨hl, gi⟩ | ⟨rfl, rfl⟩
    · rw [old i hl] at a1
      rcases push_get hj with ⟨hl2, gj⟩ | ⟨rfl, rfl⟩
      · rw [old j hl2] at a2
        exact h.dj i j o1 o2 p q hij gi gj h1 h2 a1 a2 hb
      · rw [upd_same] at a2
        have l1 := OwnB.lt h ⟨i, o1, p, gi, h1, a1, rfl⟩
        have l2 := hnew h2 q a2
        omega
    · rw [upd_same] at a1
      have l1 := hnew h1 p a1
      rcases push_get hj with ⟨hl2, hj⟩ | ⟨rfl, rfl⟩
      · rw [old j hl2] at a2
        have l2 := OwnB.lt h ⟨j, o2, q, hj, h2, a2, rfl⟩
        omega
      · exact hij rfl
theorem set_get {i j : Nat} {o o' : AO} (h : (S.set i o)[j]? = some o') : (j ≠ i ∧ S[j]? = some o') ∨ (j = i ∧ o' = o ∧ i < S.length) := by
  by_cases hij : j = i
  · subst hij
    rw [List.getElem?_set_self'] at h
    cases hs : S[j]? with
    | none => rw [hs] at h; cases h
    | some z =>
      rw [hs] at h
      have := (List.getElem?_eq_some_iff.1 hs).1
      exact .inr ⟨rfl, (Option.some.inj h).symm, this⟩
  · rw [List.getElem?_set_ne (fun e => hij e.symm)] at h
    exact .inl ⟨hij, h⟩
/-- One that is written: it lies where it lay. -/
theorem Aft.put (h : Rel W S ρ w) {i : Nat} {o o' : AO} (hi : S[i]? = some o) (hf : Fr w w' (fun k => o.own = true ∧ ∃ p, (ρ i).a = some p ∧ p.block = k)) (hown : o'.own = true → o.own = true)
    (hor : (cx W S ρ w).Le (cx W (S.set i o') ρ w') → OR (cx W (S.set i o') ρ w') (OwnB (S.set i o') ρ) w' (ρ i) o') : Aft W S ρ w (S.set i o') ρ w' := by
  refine Aft.of h hf ?_ ?_ (fun _ _ => rfl) (by simp) ?_ ?_
  · rintro k ⟨h1, p, h3, h4⟩
    exact ⟨i, o, p, hi, h1, h3, h4⟩
  · rintro k ⟨j, o1, p, hj, ho, ha, rfl⟩
    rcases set_get hj with ⟨_, hj⟩ | ⟨rfl, rfl, _⟩
    · exact .inl ⟨j, o1, p, hj, ho, ha, rfl⟩
    · exact .inl ⟨_, o, p, hi, hown ho, ha, rfl⟩
  · intro le j o1 hj
    rcases set_get hj with ⟨hne, hj⟩ | ⟨rfl, rfl, _⟩
    · exact .inl ⟨hj, fun h1 p hp ⟨h2, q, hq, hb⟩ => h.dj j i o1 o p q hne hj hi h1 h2 hp hq hb.symm⟩
    · exact .inr (hor le)
  · intro j k o1 o2 p q hjk hj hk h1 h2 a1 a2
    rcases set_get hj with ⟨_, gj⟩ | ⟨rfl, rfl, _⟩
    · rcases set_get hk with ⟨_, gk⟩ | ⟨rfl, rfl, _⟩
      · exact h.dj j k o1 o2 p q hjk gj gk h1 h2 a1 a2
      · exact h.dj j _ o1 o p q hjk gj hi h1 (hown h2) a1 a2
    · rcases set_get hk with ⟨_, gk⟩ | ⟨rfl, rfl, _⟩
      · exact h.dj _ k o o2 p q hjk hi gk (hown h1) h2 a1 a2
      · exact absurd rfl hjk
/-- One that is put elsewhere, or there: under another name from here on. -/
theorem Aft.move (h : Rel W S ρ w) {i : Nat} {o o' : AO} {g : Geo} (hi : S[i]? = some o) (hown : o.own = true) (hf : Fr w w' (fun k => ∃ p, (ρ i).a = some p ∧ p.block = k))
    (hnew : o'.own = true → ∀ p, g.a = some p → (∃ q, (ρ i).a = some q ∧ q.block = p.block) ∨ w.heap.size ≤ p.block)
    (hor : (cx W S ρ w).Le (cx W (S.set i .gone ++ [o']) (upd ρ S.length g) w') → OR (cx W (S.set i .gone ++ [o']) (upd ρ S.length g) w') (OwnB (S.set i .gone ++ [o']) (upd ρ S.length g)) w' g o') : Aft W S ρ w (S.set i .gone ++ [o']) (upd ρ S.length g) w' := by
  have old : ∀ i, i < S.length → upd ρ S.length g i = ρ i := fun i hi => upd_other ρ g (Nat.ne_of_lt hi)
  have hl : (S.set i .gone).length = S.length := by simp
  have get : ∀ j o1, (S.set i .gone ++ [o'])[j]? = some o1 → o1.own = true → (j < S.length ∧ j ≠ i ∧ S[j]? = some o1) ∨ (j = S.length ∧ o1 = o') := by
    intro j o1 hj ho
    rcases push_get hj with ⟨h1, h2⟩ | ⟨h1, h2⟩
    · rcases set_get h2 with ⟨h3, h4⟩ | ⟨_, rfl, _⟩
      · exact .inl ⟨by omega, h3, h4⟩
      · cases ho
    · exact .inr ⟨by omega, h2⟩
  refine Aft.of h hf ?_ ?_ old (by simp) ?_ ?_
  · rintro k ⟨p, h3, h4⟩
    exact ⟨i, o, p, hi, hown, h3, h4⟩
  · rintro k ⟨j, o1, p, hj, ho, ha, rfl⟩
    rcases get j o1 hj ho with ⟨h1, _, h3⟩ | ⟨rfl, rfl⟩
    · rw [old j h1] at ha
      exact .inl ⟨j, o1, p, h3, ho, ha, rfl⟩
    · rw [upd_same] at ha
      rcases hnew ho p ha with ⟨q, hq, hb⟩ | h1
      · exact .inl ⟨i, o, q, hi, hown, hq, hb⟩
      · exact .inr h1
  · intro le j o1 hj
    rcases push_get hj with ⟨h1, h2⟩ | ⟨h1, rfl⟩
    · rcases set_get h2 with ⟨h3, h4⟩ | ⟨_, rfl, _⟩
      · exact .inl ⟨h4, fun h5 p hp ⟨q, hq, hb⟩ => h.dj j i o1 o p q h3 h4 hi h5 hown hp hq hb.symm⟩
      · exact .inr trivial
    · rw [hl] at h1
      subst h1
      rw [upd_same]
      exact .inr (hor le)
  · intro j k o1 o2 p q hjk hj hk h1 h2 a1 a2 hb
    rcases get j o1 hj h1 with ⟨l1, n1, g1⟩ | ⟨rfl, rfl⟩
    · rw [old j l1] at a1
      rcases get k o2 hk h2 with ⟨l2, n2, g2⟩ | ⟨rfl, rfl⟩
      · rw [old k l2] at a2
        exact h.dj j k o1 o2 p q hjk g1 g2 h1 h2 a1 a2 hb
      · rw [upd_same] at a2
        rcases hnew h2 q a2 with ⟨q', hq, hb'⟩ | h3
        · exact h.dj j i o1 o p q' n1 g1 hi h1 hown a1 hq (by omega)
        · have := OwnB.lt h ⟨j, o1, p, g1, h1, a1, rfl⟩
          omega
    · rw [upd_same] at a1
      rcases get k o2 hk h2 with ⟨l2, n2, g2⟩ | ⟨rfl, rfl⟩
      · rw [old k l2] at a2
        rcases hnew h1 p a1 with ⟨q', hq, hb'⟩ | h3
        · exact h.dj k i o2 o q q' n2 g2 hi h2 hown a2 hq (by omega)
        · have := OwnB.lt h ⟨k, o2, q, g2, h2, a2, rfl⟩
          omega
      · exact hjk rfl
end
end Go.Mx
