/- Own work. A part of the proof of a law of this seat: a part -/
import Derived.Test.YtidhcbnplgbnoaaMx21
/- A part of a state is handed on; what comes back. -/
namespace Go.Mx
open Go Go.RowKit Go.Sx

theorem own_mine (o : AO) : o.own = o.mine := by
  cases o with
  | row e t xs m => cases m <;> rfl
  | _ => rfl
theorem sure_or {o : AO} (h : o.sure = true) : o = .gone ∨ o.own = true ∨ ∃ e t xs, o = .row e t xs .fz := by
  cases o with
  | gone => exact .inl rfl
  | row e t xs m =>
    cases m with
    | own => exact .inr (.inl rfl)
    | ro => cases h
    | fz => exact .inr (.inr ⟨e, t, xs, rfl⟩)
  | box ty v w => exact .inr (.inl h)
  | itr s p w => exact .inr (.inl h)
/-- in which form an object is handed on: not at all, as it is, to be read alone -/
def Pass (f : Nat → Option Nat) (o o1 : AO) : Prop := o1 = .gone ∨ o.ren f = some o1 ∨ o.lent.ren f = some o1
structure Prt (S : List AO) (ρ : Nat → Geo) (S1 : List AO) (ρ1 : Nat → Geo) (L : List Nat) (f : Nat → Option Nat) : Prop where
  nd : L.Nodup
  len : S1.length = L.length
  get : ∀ (j : Nat) (o1 : AO), S1[j]? = some o1 → ∃ (i : Nat) (o : AO), L[j]? = some i ∧ S[i]? = some o ∧ Pass f o o1
  geo : ∀ (j i : Nat), L[j]? = some i → ρ1 j = ρ i
  at_ : ∀ (i j : Nat), f i = some j → L[j]? = some i
theorem ren_own {f : Nat → Option Nat} {o o1 : AO} (h : o.ren f = some o1) : o1.own = o.own ∧ o1.sure = o.sure := by
  cases o with
  | gone => obtain rfl := Option.some.inj h; exact ⟨rfl, rfl⟩
  | box ty v w =>
    rw [AO.ren] at h
    split at h
    · obtain rfl := Option.some.inj h; exact ⟨rfl, rfl⟩
    · cases h
  | row e t xs m => obtain rfl := Option.some.inj h; cases m <;> exact ⟨rfl, rfl⟩
  | itr s p w => obtain rfl := Option.some.inj h; exact ⟨rfl, rfl⟩
theorem lent_own (o : AO) : o.lent.own = false := by
  cases o with
  | row e t xs m => cases m <;> rfl
  | _ => rfl
theorem pass_own {f : Nat → Option Nat} {o o1 : AO} (h : Pass f o o1) (ho : o1.own = true) : o.ren f = some o1 ∧ o.own = true := by
  rcases h with rfl | h | h
  · cases ho
  · exact ⟨h, by rw [← (ren_own h).1]; exact ho⟩
  · rw [(ren_own h).1, lent_own] at ho; cases ho
theorem idx_nd : ∀ {L : List Nat}, L.Nodup → ∀ {i j k : Nat}, L[i]? = some k → L[j]? = some k → i = j
  | [], _, i, j, k, hi, _ => by simp at hi
  | x :: L, h, i, j, k, hi, hj => by
    rw [List.nodup_cons] at h
    cases i with
    | zero =>
      cases j with
      | zero => rfl
      | succ j =>
        obtain rfl : x = k := Option.some.inj hi
        exact absurd (List.mem_of_getElem? (l := L) (i := j) hj) h.1
    | succ i =>
      cases j with
      | zero =>
        obtain rfl : x = k := Option.some.inj hj
        exact absurd (List.mem_of_getElem? (l := L) (i := i) hi) h.1
      | succ j => rw [idx_nd h.2 (i := i) (j := j) hi hj]
section
variable {W : Nat → Prop} {S S1 S3 S' : List AO} {ρ ρ1 ρ3 ρ' : Nat → Geo} {w w' : World} {L : List Nat} {f : Nat → Option Nat}
theorem Prt.own (s : Prt S ρ S1 ρ1 L f) {k : Nat} (h : OwnB S1 ρ1 k) : ∃ (j i : Nat) (o1 o : AO) (p : Addr), S1[j]? = some o1 ∧ L[j]? = some i ∧ S[i]? = some o ∧ o.ren f = some o1 ∧ o.own = true ∧ o1.own = true ∧ (ρ i).a = some p ∧ p.block = k := by
  obtain ⟨j, o1, p, hj, ho, ha, hb⟩ := h
  obtain ⟨i, o, hL, hS, hp⟩ := s.get j o1 hj
  obtain ⟨h1, h2⟩ := pass_own hp ho
  exact ⟨j, i, o1, o, p, hj, hL, hS, h1, h2, ho, by rw [← s.geo j i hL]; exact ha, hb⟩
theorem Prt.ownS (s : Prt S ρ S1 ρ1 L f) {k : Nat} (h : OwnB S1 ρ1 k) : OwnB S ρ k := by
  obtain ⟨j, i, o1, o, p, _, _, hS, _, ho, _, ha, hb⟩ := s.own h
  exact ⟨i, o, p, hS, ho, ha, hb⟩
/-- what is guarded for the one who is handed a part -/
def Grd (W : Nat → Prop) (S : List AO) (ρ : Nat → Geo) (S1 : List AO) (ρ1 : Nat → Geo) (k : Nat) : Prop := W k ∨ (OwnB S ρ k ∧ ¬ OwnB S1 ρ1 k)
theorem Prt.A (s : Prt S ρ S1 ρ1 L f) (k : Nat) : (cx (Grd W S ρ S1 ρ1) S1 ρ1 w).A k ↔ (cx W S ρ w).A k := by
  constructor
  · rintro ((h | h) | h)
    · exact .inl h
    · exact .inr h.1
    · exact .inr (s.ownS h)
  · rintro (h | h)
    · exact .inl (.inl h)
    · by_cases h1 : OwnB S1 ρ1 k
      · exact .inr h1
      · exact .inl (.inr ⟨h, h1⟩)
theorem Prt.idx (s : Prt S ρ S1 ρ1 L f) : ∀ i j, i < (cx W S ρ w).m → f i = some j → j < (cx (Grd W S ρ S1 ρ1) S1 ρ1 w).m ∧ (cx (Grd W S ρ S1 ρ1) S1 ρ1 w).g j = (cx W S ρ w).g i := by
  intro i j _ hf
  have hL := s.at_ i j hf
  exact ⟨by show j < S1.length; rw [s.len]; exact (List.getElem?_eq_some_iff.1 hL).1, s.geo j i hL⟩
theorem Prt.rel (s : Prt S ρ S1 ρ1 L f) (h : Rel W S ρ w) : Rel (Grd W S ρ S1 ρ1) S1 ρ1 w := by
  have hA : ∀ k, (cx (Grd W S ρ S1 ρ1) S1 ρ1 w).A k → (cx W S ρ w).A k := fun k => (s.A k).1
  have cr : ∀ {v v' : AV} {cs : List Value}, v.ren f = some v' → CR (cx W S ρ w) v cs → CR (cx (Grd W S ρ S1 ρ1) S1 ρ1 w) v' cs := fun hv hc => (CR.ren hA rfl (s.idx (W := W) (w := w)) _ hv hc).1
  -- a block that is not written by the whole is not by the part
  have nO : ∀ b, ¬ OwnB S ρ b → ¬ OwnB S1 ρ1 b := fun b hn hk => hn (s.ownS hk)
  -- one that is lent is no other's
  have lO : ∀ {j i : Nat} {o o1 : AO} {q : Addr}, S1[j]? = some o1 → L[j]? = some i → S[i]? = some o → o.lent.ren f = some o1 → (ρ i).a = some q → o.own = true → ¬ OwnB S1 ρ1 q.block := by
    intro j i o o1 q hj hL hS hp hq ho hk
    obtain ⟨j', i', o1', o', p, hj', hL', hS', hr', ho', ho1', ha', hb'⟩ := s.own hk
    by_cases hij : i' = i
    · subst hij
      have hjj := idx_nd s.nd hL' hL
      subst hjj
      rw [hj] at hj'
      obtain rfl := Option.some.inj hj'
      rw [(ren_own hp).1, lent_own] at ho1'
      cases ho1'
    · exact h.dj i' i o' o p q hij hS' hS ho' ho ha' hq hb'
  have rowR : ∀ {α : Type} {d : Kd α} {a : Option Addr} {c : Nat} {xs : List α} {O O' : Nat → Prop}, RowR (cx W S ρ w) O d a c xs → (∀ b, a = some ⟨b, 0, none⟩ → ¬ O b → ¬ O' b) → RowR (cx (Grd W S ρ S1 ρ1) S1 ρ1 w) O' d a c xs := by
    rintro α d a c xs O O' ⟨h1, h2, cells, he, hl⟩ hO
    exact ⟨h1, h2, cells, he.imp (fun _ _ hK => d.mono hK (fun k _ hk => hA k hk)), fun hne => by
      obtain ⟨b, ha, hb, hL⟩ := hl hne
      exact ⟨b, ha, hO b ha hb, hL⟩⟩
  refine ⟨fun j o1 hj => ?_, ?_, ?_, ?_⟩
  · obtain ⟨i, o, hL, hS, hp⟩ := s.get j o1 hj
    rw [s.geo j i hL]
    have r := h.ob i o hS
    rcases hp with rfl | hp | hp
    · trivial
    · cases o with
      | gone => obtain rfl := Option.some.inj hp; trivial
      | box ty v m =>
        rw [AO.ren] at hp
        split at hp
        · rename_i v' hv
          obtain rfl := Option.some.inj hp
          obtain ⟨b, cs, e, h1, h2, h3, h4⟩ := r
          obtain ⟨k1, _, k3⟩ := CR.ren hA rfl (s.idx (W := W) (w := w)) v hv h1
          exact ⟨b, cs, e, k1, by rw [k3]; exact h2, h3, fun hm => nO b (h4 hm)⟩
        · cases hp
      | row e t xs m =>
        obtain rfl := Option.some.inj hp
        cases m with
        | own => exact ⟨r.1, r.2.1, r.2.2.mono (fun k _ hk => hA k hk)⟩
        | ro => exact ⟨r.1, r.2.1, rowR r.2.2 (fun b _ => nO b)⟩
        | fz => exact ⟨r.1, r.2.1, rowR r.2.2 (fun b _ hb hk => hb (hA b hk))⟩
      | itr t p m =>
        obtain rfl := Option.some.inj hp
        obtain ⟨b, e, h1, h2⟩ := r
        exact ⟨b, e, h1, fun hm => nO b (h2 hm)⟩
    · cases o with
      | gone => obtain rfl := Option.some.inj hp; trivial
      | box ty v m =>
        have hp0 := hp
        rw [AO.lent, AO.ren] at hp
        split at hp
        · rename_i v' hv
          obtain rfl := Option.some.inj hp
          obtain ⟨b, cs, e, h1, h2, h3, h4⟩ := r
          obtain ⟨k1, _, k3⟩ := CR.ren hA rfl (s.idx (W := W) (w := w)) v hv h1
          refine ⟨b, cs, e, k1, by rw [k3]; exact h2, h3, fun _ => ?_⟩
          cases m with
          | true => exact lO hj hL hS hp0 e rfl
          | false => exact nO b (h4 rfl)
        · cases hp
      | row e t xs m =>
        cases m with
        | own =>
          have hp0 := hp
          obtain rfl := Option.some.inj hp
          obtain ⟨g1, g2, g3, g4, cells, he, hl⟩ := row_lies h hS
          refine ⟨g1, g2, g3, g4, cells, he.imp (fun _ _ hK => t.kd.mono hK (fun k _ hk => hA k hk)), fun hne => ?_⟩
          obtain ⟨b, ha, hLi⟩ := hl hne
          exact ⟨b, ha, lO hj hL hS hp0 ha rfl, hLi⟩
        | ro => obtain rfl := Option.some.inj hp; exact ⟨r.1, r.2.1, rowR r.2.2 (fun b _ => nO b)⟩
        | fz => obtain rfl := Option.some.inj hp; exact ⟨r.1, r.2.1, rowR r.2.2 (fun b _ hb hk => hb (hA b hk))⟩
      | itr t p m =>
        have hp0 := hp
        obtain rfl := Option.some.inj hp
        obtain ⟨b, e, h1, h2⟩ := r
        refine ⟨b, e, h1, fun _ => ?_⟩
        cases m with
        | true => exact lO hj hL hS hp0 e rfl
        | false => exact nO b (h2 rfl)
  · intro i j o o' p q hij hi hj h1 h2 a1 a2
    obtain ⟨i1, oi, hLi, hSi, hpi⟩ := s.get i o hi
    obtain ⟨j1, oj, hLj, hSj, hpj⟩ := s.get j o' hj
    rw [s.geo i i1 hLi] at a1
    rw [s.geo j j1 hLj] at a2
    exact h.dj i1 j1 oi oj p q (fun e => hij (idx_nd s.nd hLi (by rw [e]; exact hLj))) hSi hSj (pass_own hpi h1).2 (pass_own hpj h2).2 a1 a2
  · rintro k (hk | hk)
    · exact h.wl k hk
    · exact OwnB.lt h hk.1
  · rintro k hk (hW | hk')
    · exact h.wd k (s.ownS hk) hW
    · exact hk'.2 hk
theorem Prt.vr (s : Prt S ρ S1 ρ1 L f) {l l' : List AV} {us : List Value} (hl : AV.renL f l = some l') (h : A2 (VR (cx W S ρ w)) l us) : A2 (VR (cx (Grd W S ρ S1 ρ1) S1 ρ1 w)) l' us :=
  A2.ren (fun k => (s.A k).1) rfl (s.idx (W := W) (w := w)) hl h
end
end Go.Mx
