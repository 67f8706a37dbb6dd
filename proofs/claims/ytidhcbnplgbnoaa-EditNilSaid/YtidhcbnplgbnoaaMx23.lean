/- Own work. A part of the proof of a law of this seat: a part -/
import Derived.Test.YtidhcbnplgbnoaaMx22
/- What comes back of a part that was handed on. -/
namespace Go.Mx
open Go Go.RowKit Go.Sx

section
variable {W : Nat → Prop} {S S1 S3 S' : List AO} {ρ ρ1 ρ3 : Nat → Geo} {w w' : World} {L : List Nat} {f : Nat → Option Nat}
/-- where what comes back lies: the j-th of the part -/
def bk (S : List AO) (L : List Nat) (j : Nat) : Nat := match L[j]? with | some i => i | none => S.length + (j - L.length)
def bkG (S : List AO) (L : List Nat) (ρ ρ3 : Nat → Geo) (i : Nat) : Geo := if i < S.length then ρ i else ρ3 (L.length + (i - S.length))
/-- out of what the whole is made, when the part came back -/
structure Src (S : List AO) (ρ : Nat → Geo) (S1 : List AO) (ρ1 : Nat → Geo) (S3 : List AO) (L : List Nat) (f' : Nat → Option Nat) (S' : List AO) : Prop where
  len : S.length ≤ S'.length
  at_ : ∀ (j : Nat), j < S3.length → bk S L j < S'.length
  ix : ∀ (i j : Nat), f' i = some j → j = bk S L i
  src : ∀ (i : Nat) (o' : AO), S'[i]? = some o' → o' = .gone ∨ (i < S.length ∧ S[i]? = some o' ∧ (o'.own = true → ∀ p, (ρ i).a = some p → ¬ OwnB S1 ρ1 p.block)) ∨ (∃ (j : Nat) (o3 : AO), S3[j]? = some o3 ∧ o3.ren f' = some o' ∧ o3.sure = true ∧ bk S L j = i)
theorem Prt.lt (s : Prt S ρ S1 ρ1 L f) {j i : Nat} (h : L[j]? = some i) : i < S.length := by
  have hj : j < S1.length := by rw [s.len]; exact (List.getElem?_eq_some_iff.1 h).1
  obtain ⟨i', o, h1, h2, _⟩ := s.get j _ (List.getElem?_eq_getElem hj)
  rw [h] at h1
  obtain rfl := Option.some.inj h1
  exact (List.getElem?_eq_some_iff.1 h2).1
theorem Prt.bk_inj (s : Prt S ρ S1 ρ1 L f) {j k : Nat} (h : bk S L j = bk S L k) : j = k := by
  unfold bk at h
  cases hj : L[j]? with
  | some i =>
    have hi := s.lt hj
    cases hk : L[k]? with
    | some i' => rw [hj, hk] at h; simp only at h; subst h; exact idx_nd s.nd hj hk
    | none => rw [hj, hk] at h; simp only at h; omega
  | none =>
    have h1 := List.getElem?_eq_none_iff.1 hj
    cases hk : L[k]? with
    | some i' => rw [hj, hk] at h; simp only at h; have := s.lt hk; omega
    | none =>
      have h2 := List.getElem?_eq_none_iff.1 hk
      rw [hj, hk] at h
      simp only at h
      omega
theorem Prt.bk_geo (s : Prt S ρ S1 ρ1 L f) {W' : Nat → Prop} (A : Aft W' S1 ρ1 w S3 ρ3 w') (j : Nat) : bkG S L ρ ρ3 (bk S L j) = ρ3 j := by
  unfold bk bkG
  cases hj : L[j]? with
  | some i =>
    have hi := s.lt hj
    simp only [if_pos hi]
    rw [A.ag j (by rw [s.len]; exact (List.getElem?_eq_some_iff.1 hj).1), s.geo j i hj]
  | none =>
    have h1 := List.getElem?_eq_none_iff.1 hj
    simp only
    rw [if_neg (by omega)]
    congr 1
    omega
theorem Prt.back (s : Prt S ρ S1 ρ1 L f) {f' : Nat → Option Nat} (h : Rel W S ρ w) (A : Aft (Grd W S ρ S1 ρ1) S1 ρ1 w S3 ρ3 w') (r : Src S ρ S1 ρ1 S3 L f' S') :
    Aft W S ρ w S' (bkG S L ρ ρ3) w' ∧ ∀ (v v' : AV) (u : Value), v.ren f' = some v' → VR (cx (Grd W S ρ S1 ρ1) S3 ρ3 w') v u → VR (cx W S' (bkG S L ρ ρ3) w') v' u := by
  -- what is written: what was left alone, or what came back
  have own : ∀ (i : Nat) (o : AO) (p : Addr), S'[i]? = some o → o.own = true → (bkG S L ρ ρ3 i).a = some p → (i < S.length ∧ S[i]? = some o ∧ (ρ i).a = some p ∧ ¬ OwnB S1 ρ1 p.block) ∨ (∃ (j : Nat) (o3 : AO), S3[j]? = some o3 ∧ o3.own = true ∧ (ρ3 j).a = some p ∧ bk S L j = i) := by
    intro i o p hi ho ha
    rcases r.src i o hi with rfl | ⟨hl, hS, hn⟩ | ⟨j, o3, h3, hr, hs, hb⟩
    · cases ho
    · have ha' : (ρ i).a = some p := by unfold bkG at ha; rw [if_pos hl] at ha; exact ha
      exact .inl ⟨hl, hS, ha', hn ho p ha'⟩
    · rw [← hb, s.bk_geo A] at ha
      exact .inr ⟨j, o3, h3, by rw [← (ren_own hr).1]; exact ho, ha, hb⟩
  have hA : ∀ k, (cx W S' (bkG S L ρ ρ3) w').A k → (cx (Grd W S ρ S1 ρ1) S3 ρ3 w').A k := by
    rintro k (hW | ⟨i, o, p, hi, ho, ha, hb⟩)
    · exact .inl (.inl hW)
    · rcases own i o p hi ho ha with ⟨hl, hS, ha', hn⟩ | ⟨j, o3, h3, ho3, ha3, _⟩
      · rw [hb] at hn
        exact .inl (.inr ⟨⟨i, o, p, hS, ho, ha', hb⟩, hn⟩)
      · exact .inr ⟨j, o3, p, h3, ho3, ha3, hb⟩
  have nw : ∀ k, OwnB S' (bkG S L ρ ρ3) k → OwnB S ρ k ∨ w.heap.size ≤ k := by
    rintro k ⟨i, o, p, hi, ho, ha, hb⟩
    rcases own i o p hi ho ha with ⟨hl, hS, ha', hn⟩ | ⟨j, o3, h3, ho3, ha3, _⟩
    · exact .inl ⟨i, o, p, hS, ho, ha', hb⟩
    · exact (A.nw k ⟨j, o3, p, h3, ho3, ha3, hb⟩).imp s.ownS id
  have ix : ∀ i j, i < (cx (Grd W S ρ S1 ρ1) S3 ρ3 w').m → f' i = some j → j < (cx W S' (bkG S L ρ ρ3) w').m ∧ (cx W S' (bkG S L ρ ρ3) w').g j = (cx (Grd W S ρ S1 ρ1) S3 ρ3 w').g i := by
    intro i j hi hf
    have e := r.ix i j hf
    subst e
    exact ⟨r.at_ i hi, s.bk_geo A i⟩
  refine ⟨Aft.of h A.fr (fun k hk => s.ownS hk) nw (fun i hi => if_pos hi) r.len ?_ ?_, fun v v' u hv hu => VR.ren hA rfl ix hv hu⟩
  · intro le i o hi
    rcases r.src i o hi with rfl | ⟨hl, hS, hn⟩ | ⟨j, o3, h3, hr, hs, hb⟩
    · exact .inr trivial
    · exact .inl ⟨hS, hn⟩
    · refine .inr ?_
      rw [← hb, s.bk_geo A]
      have ro := A.rel.ob j o3 h3
      rcases sure_or hs with rfl | ho | ⟨e, t, xs, rfl⟩
      · obtain rfl := Option.some.inj hr; trivial
      · cases o3 with
        | gone => cases ho
        | box ty v m =>
          obtain rfl : m = true := ho
          rw [AO.ren] at hr
          split at hr
          · rename_i v' hv
            obtain rfl := Option.some.inj hr
            obtain ⟨b, cs, e, h1, h2, h4, _⟩ := ro
            obtain ⟨k1, _, k3⟩ := CR.ren hA rfl ix v hv h1
            exact ⟨b, cs, e, k1, by rw [k3]; exact h2, h4, fun hm => by cases hm⟩
          · cases hr
        | row e t xs m =>
          cases m with
          | own => obtain rfl := Option.some.inj hr; exact ⟨ro.1, ro.2.1, ro.2.2.mono (fun k _ hk => hA k hk)⟩
          | ro => cases ho
          | fz => cases ho
        | itr t p m =>
          obtain rfl : m = true := ho
          obtain rfl := Option.some.inj hr
          obtain ⟨b, e, h1, _⟩ := ro
          exact ⟨b, e, h1, fun hm => by cases hm⟩
      · obtain rfl := Option.some.inj hr
        obtain ⟨g1, g2, g3, g4, cells, he, hl⟩ := ro
        refine ⟨g1, g2, g3, g4, cells, he.imp (fun _ _ hK => t.kd.mono hK (fun k _ hk => hA k hk)), fun hne => ?_⟩
        obtain ⟨b, ha, hn, hL⟩ := hl hne
        exact ⟨b, ha, fun hk => hn (hA b hk), hL⟩
  · intro i j o o' p q hij hi hj h1 h2 a1 a2 hb
    rcases own i o p hi h1 a1 with ⟨l1, S1', b1, n1⟩ | ⟨j1, o1, g1, d1, b1, e1⟩
    · rcases own j o' q hj h2 a2 with ⟨l2, S2', b2, n2⟩ | ⟨j2, o2, g2, d2, b2, e2⟩
      · exact h.dj i j o o' p q hij S1' S2' h1 h2 b1 b2 hb
      · rcases A.nw q.block ⟨j2, o2, q, g2, d2, b2, rfl⟩ with hk | hk
        · rw [← hb] at hk; exact n1 hk
        · have := OwnB.lt h ⟨i, o, p, S1', h1, b1, rfl⟩; omega
    · rcases own j o' q hj h2 a2 with ⟨l2, S2', b2, n2⟩ | ⟨j2, o2, g2, d2, b2, e2⟩
      · rcases A.nw p.block ⟨j1, o1, p, g1, d1, b1, rfl⟩ with hk | hk
        · rw [hb] at hk; exact n2 hk
        · have := OwnB.lt h ⟨j, o', q, S2', h2, b2, rfl⟩; omega
      · exact A.rel.dj j1 j2 o1 o2 p q (fun e => hij (by rw [← e1, ← e2, e])) g1 g2 d1 d2 b1 b2 hb
end
end Go.Mx
