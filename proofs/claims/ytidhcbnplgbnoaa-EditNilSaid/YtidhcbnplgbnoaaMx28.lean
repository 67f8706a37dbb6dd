/- Own work. A part of the proof of a law of this seat: a part -/
import Derived.Test.YtidhcbnplgbnoaaMx27
/- Renaming, there and back; what comes back of a part, place by place. -/
namespace Go.Mx
open Go Go.RowKit Go.Sx

theorem ren_comp {g h k : Nat → Option Nat} : ∀ (v : AV) {v' : AV}, v.ren g = some v' → (∀ x ∈ v.ids, ∀ y, g x = some y → h y = k x) → v'.ren h = v.ren k := by
  intro v
  induction v using AV.rec (motive_2 := fun l => ∀ {l' : List AV}, AV.renL g l = some l' → (∀ x ∈ AV.idsL l, ∀ y, g x = some y → h y = k x) → AV.renL h l' = AV.renL k l) with
  | pr a b ha hb =>
    intro v' e hx
    rw [AV.ids] at hx
    rw [AV.ren] at e
    split at e
    · rename_i a' ea
      split at e
      · rename_i b' eb
        obtain rfl := Option.some.inj e
        rw [AV.ren, AV.ren, ha ea (fun x hm => hx x (List.mem_append_left _ hm)), hb eb (fun x hm => hx x (List.mem_append_right _ hm))]
      · cases e
    · cases e
  | one a ha =>
    intro v' e hx
    rw [AV.ids] at hx
    rw [AV.ren] at e
    split at e
    · rename_i a' ea
      obtain rfl := Option.some.inj e
      rw [AV.ren, AV.ren, ha ea hx]
    · cases e
  | ptr i p =>
    intro v' e hx
    rw [AV.ren] at e
    split at e
    · rename_i j ej
      obtain rfl := Option.some.inj e
      rw [AV.ren, AV.ren, hx i (by simp [AV.ids]) j ej]
    · cases e
  | view i =>
    intro v' e hx
    rw [AV.ren] at e
    split at e
    · rename_i j ej
      obtain rfl := Option.some.inj e
      rw [AV.ren, AV.ren, hx i (by simp [AV.ids]) j ej]
    · cases e
  | pre i n =>
    intro v' e hx
    rw [AV.ren] at e
    split at e
    · rename_i j ej
      obtain rfl := Option.some.inj e
      rw [AV.ren, AV.ren, hx i (by simp [AV.ids]) j ej]
    · cases e
  | tgt i n =>
    intro v' e hx
    rw [AV.ren] at e
    split at e
    · rename_i j ej
      obtain rfl := Option.some.inj e
      rw [AV.ren, AV.ren, hx i (by simp [AV.ids]) j ej]
    · cases e
  | win i o n =>
    intro v' e hx
    rw [AV.ren] at e
    split at e
    · rename_i j ej
      obtain rfl := Option.some.inj e
      rw [AV.ren, AV.ren, hx i (by simp [AV.ids]) j ej]
    · cases e
  | mp i =>
    intro v' e hx
    rw [AV.ren] at e
    split at e
    · rename_i j ej
      obtain rfl := Option.some.inj e
      rw [AV.ren, AV.ren, hx i (by simp [AV.ids]) j ej]
    · cases e
  | fn f fs cs hf hc =>
    intro v' e hx
    rw [AV.ids] at hx
    rw [AV.ren] at e
    split at e
    · rename_i fs' ef
      split at e
      · rename_i cs' ec
        obtain rfl := Option.some.inj e
        rw [AV.ren, AV.ren, hf ef (fun x hm => hx x (List.mem_append_left _ hm)), hc ec (fun x hm => hx x (List.mem_append_right _ hm))]
      · cases e
    · cases e
  | iface t v hv =>
    intro v' e hx
    rw [AV.ids] at hx
    rw [AV.ren] at e
    split at e
    · rename_i a' ea
      obtain rfl := Option.some.inj e
      rw [AV.ren, AV.ren, hv ea hx]
    · cases e
  | tup l hl =>
    intro v' e hx
    rw [AV.ids] at hx
    rw [AV.ren] at e
    split at e
    · rename_i a' ea
      obtain rfl := Option.some.inj e
      rw [AV.ren, AV.ren, hl ea hx]
    · cases e
  | nil => rename_i l' e _; obtain rfl := Option.some.inj e; rfl
  | cons v l hv hl =>
    rename_i l' e hx
    rw [AV.idsL] at hx
    rw [AV.renL] at e
    split at e
    · rename_i v' ev
      split at e
      · rename_i l'' el
        obtain rfl := Option.some.inj e
        rw [AV.renL, AV.renL, hv ev (fun x hm => hx x (List.mem_append_left _ hm)), hl el (fun x hm => hx x (List.mem_append_right _ hm))]
      · cases e
    · cases e
  | _ => intro v' e _; obtain rfl := Option.some.inj e; rfl
theorem ren_some : ∀ (v : AV), v.ren some = some v := by
  intro v
  induction v using AV.rec (motive_2 := fun l => AV.renL some l = some l) with
  | pr a b ha hb => rw [AV.ren, ha, hb]
  | one a ha => rw [AV.ren, ha]
  | fn f fs cs hf hc => rw [AV.ren, hf, hc]
  | iface t v hv => rw [AV.ren, hv]
  | tup l hl => rw [AV.ren, hl]
  | cons v l hv hl => rw [AV.renL, hv, hl]
  | _ => rfl
theorem ren_all {g : Nat → Nat} : ∀ (v : AV), ∃ v', v.ren (fun x => some (g x)) = some v' := by
  intro v
  induction v using AV.rec (motive_2 := fun l => ∃ l', AV.renL (fun x => some (g x)) l = some l') with
  | pr a b ha hb => obtain ⟨_, ha⟩ := ha; obtain ⟨_, hb⟩ := hb; exact ⟨_, by rw [AV.ren, ha, hb]⟩
  | one a ha => obtain ⟨_, ha⟩ := ha; exact ⟨_, by rw [AV.ren, ha]⟩
  | fn f fs cs hf hc => obtain ⟨_, hf⟩ := hf; obtain ⟨_, hc⟩ := hc; exact ⟨_, by rw [AV.ren, hf, hc]⟩
  | iface t v hv => obtain ⟨_, hv⟩ := hv; exact ⟨_, by rw [AV.ren, hv]⟩
  | tup l hl => obtain ⟨_, hl⟩ := hl; exact ⟨_, by rw [AV.ren, hl]⟩
  | cons v l hv hl => obtain ⟨_, hv⟩ := hv; obtain ⟨_, hl⟩ := hl; exact ⟨_, by rw [AV.renL, hv, hl]⟩
  | _ => exact ⟨_, rfl⟩
theorem ren_eq {g h : Nat → Option Nat} (v : AV) (e : ∀ x ∈ v.ids, g x = h x) : v.ren g = v.ren h :=
  ren_comp v (ren_some v) (fun x hx y hy => by obtain rfl := Option.some.inj hy; exact e x hx)
/-- there and back -/
theorem ren_back {g h : Nat → Option Nat} {v v' : AV} (hv : v.ren g = some v') (e : ∀ x ∈ v.ids, ∀ y, g x = some y → h y = some x) : v'.ren h = some v := by
  rw [ren_comp v hv e, ren_some]
theorem oren_eq {g h : Nat → Option Nat} (o : AO) (e : ∀ x ∈ o.ids, g x = h x) : o.ren g = o.ren h := by
  cases o with
  | box ty v w => rw [AO.ren, AO.ren, ren_eq v e]
  | _ => rfl
theorem oren_back {g h : Nat → Option Nat} {o o' : AO} (ho : o.ren g = some o') (e : ∀ x ∈ o.ids, ∀ y, g x = some y → h y = some x) : o'.ren h = some o := by
  cases o with
  | box ty v w =>
    rw [AO.ren] at ho
    split at ho
    · rename_i v' hv
      obtain rfl := Option.some.inj ho
      rw [AO.ren, ren_back hv e]
    · cases ho
  | _ => obtain rfl := Option.some.inj ho; rfl
theorem oren_lent {g : Nat → Option Nat} {o o' : AO} (ho : o.ren g = some o') : o.lent.ren g = some o'.lent := by
  cases o with
  | box ty v w =>
    rw [AO.ren] at ho
    split at ho
    · rename_i v' hv
      obtain rfl := Option.some.inj ho
      rw [AO.lent, AO.ren, hv]; rfl
    · cases ho
  | row e t xs m => obtain rfl := Option.some.inj ho; cases m <;> rfl
  | _ => obtain rfl := Option.some.inj ho; rfl
theorem oren_all {g : Nat → Nat} (o : AO) : ∃ o', o.ren (fun x => some (g x)) = some o' := by
  cases o with
  | box ty v w => obtain ⟨v', hv⟩ := ren_all (g := g) v; exact ⟨_, by rw [AO.ren, hv]⟩
  | _ => exact ⟨_, rfl⟩
theorem renAll_all {g : Nat → Nat} : ∀ (l : List AO), ∃ l', renAll (fun x => some (g x)) l = some l'
  | [] => ⟨[], rfl⟩
  | o :: l => by
    obtain ⟨o', ho⟩ := oren_all (g := g) o
    obtain ⟨l', hl⟩ := renAll_all (g := g) l
    exact ⟨o' :: l', by rw [renAll, ho, hl]⟩
theorem renAll_get {f : Nat → Option Nat} : ∀ {l l' : List AO}, renAll f l = some l' → ∀ (j : Nat) (o : AO), l[j]? = some o → ∃ o', l'[j]? = some o' ∧ o.ren f = some o'
  | [], l', h, j, o, hj => by simp at hj
  | o1 :: l, l', h, j, o, hj => by
    rw [renAll] at h
    split at h
    · rename_i o1' ho
      split at h
      · rename_i l1 hl
        obtain rfl := Option.some.inj h
        cases j with
        | zero => obtain rfl := Option.some.inj hj; exact ⟨o1', rfl, ho⟩
        | succ j => exact renAll_get hl j o hj
      · cases h
    · cases h
/-- the names in a value are names -/
theorem ids_lt {x : Cx} : ∀ (v : AV) {cs : List Value}, CR x v cs → ∀ i ∈ v.ids, i < x.m := by
  intro v
  induction v using AV.rec (motive_2 := fun l => ∀ {m : List Value}, VRs x l m → ∀ i ∈ AV.idsL l, i < x.m) with
  | pr a b ha hb =>
    intro cs h i hi
    rw [CR] at h
    obtain ⟨c1, c2, _, h1, h2⟩ := h
    rw [AV.ids] at hi
    exact (List.mem_append.1 hi).elim (ha h1 i) (hb h2 i)
  | one a ha => intro cs h i hi; rw [CR] at h; exact ha h i hi
  | fn f fs ks hf hk =>
    intro cs h i hi
    rw [CR] at h
    obtain ⟨l, m, _, h1, h2⟩ := h
    rw [AV.ids] at hi
    exact (List.mem_append.1 hi).elim (hf h1 i) (hk h2 i)
  | iface t v hv =>
    intro cs h i hi
    rw [CR] at h
    obtain ⟨c, _, h1, _⟩ := h
    exact hv h1 i hi
  | cons v l hv hl =>
    rename_i m h i hi
    rw [VRs] at h
    obtain ⟨c, l', _, h1, _, h2⟩ := h
    rw [AV.idsL] at hi
    exact (List.mem_append.1 hi).elim (hv h1 i) (hl h2 i)
  | nil => rename_i m h i hi; cases hi
  | tup l _ => intro cs h; rw [CR] at h; exact h.elim
  | ptr j p => intro cs h i hi; rw [CR] at h; rw [AV.ids, List.mem_singleton] at hi; subst hi; exact h.1
  | view j => intro cs h i hi; rw [CR] at h; rw [AV.ids, List.mem_singleton] at hi; subst hi; exact h.1
  | pre j n => intro cs h i hi; rw [CR] at h; rw [AV.ids, List.mem_singleton] at hi; subst hi; exact h.1
  | tgt j n => intro cs h i hi; rw [CR] at h; rw [AV.ids, List.mem_singleton] at hi; subst hi; exact h.1
  | win j o n => intro cs h i hi; rw [CR] at h; rw [AV.ids, List.mem_singleton] at hi; subst hi; exact h.1
  | mp j => intro cs h i hi; rw [CR] at h; rw [AV.ids, List.mem_singleton] at hi; subst hi; exact h.1
  | _ => intro cs _ i hi; cases hi
theorem vids_lt {x : Cx} {v : AV} {u : Value} (h : VR x v u) : ∀ i ∈ v.ids, i < x.m := by
  have all : ∀ (l : List AV) (m : List Value), VRs x l m → ∀ i ∈ AV.idsL l, i < x.m := by
    intro l
    induction l with
    | nil => intro m _ i hi; cases hi
    | cons v l ih =>
      intro m h i hi
      rw [VRs] at h
      obtain ⟨c, l', _, h1, _, h2⟩ := h
      rw [AV.idsL] at hi
      exact (List.mem_append.1 hi).elim (ids_lt v h1 i) (ih l' h2 i)
  cases v with
  | tup l => obtain ⟨m, _, h1⟩ := h; exact all l m h1
  | undef => intro i hi; cases hi
  | _ => obtain ⟨c, _, h1, _⟩ := h; exact ids_lt _ h1
theorem oids_lt {W : Nat → Prop} {S : List AO} {ρ : Nat → Geo} {w : World} (h : Rel W S ρ w) {i : Nat} {o : AO} (hi : S[i]? = some o) : ∀ j ∈ o.ids, j < S.length := by
  have r := h.ob i o hi
  cases o with
  | box ty v m => obtain ⟨b, cs, _, h1, _⟩ := r; exact ids_lt v h1
  | _ => intro j hj; cases hj

theorem backObs_at {wr : List Nat} : ∀ (L : List Nat) (n : Nat) (new ob : List AO), L.Nodup → L.length ≤ new.length → (∀ i ∈ L, i < ob.length) →
    (∀ j c, L[j]? = some c → wr.contains (n + j) = true → ∃ old o, ob[c]? = some old ∧ new[j]? = some o ∧ (backObs wr L n new ob)[c]? = some (backO old o)) ∧
    (∀ c, c < ob.length → (∀ j, L[j]? = some c → wr.contains (n + j) = false) → (backObs wr L n new ob)[c]? = ob[c]?) ∧
    (∀ j, L.length ≤ j → (backObs wr L n new ob)[ob.length + (j - L.length)]? = (new[j]?).map newO)
  | [], n, new, ob, _, _, _ => by
    refine ⟨fun j c hj => by simp at hj, fun c hc _ => by rw [backObs, List.getElem?_append, if_pos hc], fun j _ => ?_⟩
    rw [backObs, List.getElem?_append, if_neg (by omega)]
    have : ∀ (l : List AO) (j : Nat), (newL l)[j]? = (l[j]?).map newO := by
      intro l
      induction l with
      | nil => intro j; simp [newL]
      | cons o l ih => intro j; cases j with
        | zero => rfl
        | succ j => exact ih j
    rw [this]
    simp
  | k :: L, n, [], ob, _, hl, _ => by simp at hl
  | k :: L, n, o :: new, ob, hnd, hl, hlt => by
    rw [List.nodup_cons] at hnd
    have hk := hlt k (by simp)
    obtain ⟨old, hold⟩ : ∃ old, ob[k]? = some old := ⟨_, List.getElem?_eq_getElem hk⟩
    have sl : ∀ ob' : List AO, (ob'.length = ob.length) → (∀ i ∈ L, i < ob'.length) := fun ob' e i hi => by rw [e]; exact hlt i (by simp [hi])
    cases hw : wr.contains n with
    | false =>
      have e : backObs wr (k :: L) n (o :: new) ob = backObs wr L (n + 1) new ob := by rw [backObs, hw]; rfl
      rw [e]
      obtain ⟨h1, h2, h3⟩ := backObs_at L (n + 1) new ob hnd.2 (by simpa using hl) (sl ob rfl)
      refine ⟨fun j c hj hc => ?_, fun c hc hj => h2 c hc (fun j hj' => by have := hj (j + 1) hj'; rwa [show n + (j + 1) = n + 1 + j by omega] at this), fun j hj => ?_⟩
      · cases j with
        | zero => rw [Nat.add_zero, hw] at hc; cases hc
        | succ j => exact h1 j c hj (by rwa [show n + (j + 1) = n + 1 + j by omega] at hc)
      · cases j with
        | zero => simp at hj
        | succ j => have := h3 j (by simpa using hj); simpa using this
    | true =>
      have e : backObs wr (k :: L) n (o :: new) ob = backObs wr L (n + 1) new (ob.set k (backO old o)) := by rw [backObs, hw, hold]; rfl
      rw [e]
      obtain ⟨h1, h2, h3⟩ := backObs_at L (n + 1) new (ob.set k (backO old o)) hnd.2 (by simpa using hl) (sl _ (by simp))
      have hkL : ∀ j, L[j]? ≠ some k := fun j hj => hnd.1 (List.mem_of_getElem? hj)
      refine ⟨fun j c hj hc => ?_, fun c hc hj => ?_, fun j hj => ?_⟩
      · cases j with
        | zero =>
          obtain rfl : k = c := Option.some.inj hj
          refine ⟨old, o, hold, rfl, ?_⟩
          rw [h2 k (by simpa using hk) (fun j hj => absurd hj (hkL j))]
          simp [hk]
        | succ j =>
          obtain ⟨old', o', g1, g2, g3⟩ := h1 j c hj (by rwa [show n + (j + 1) = n + 1 + j by omega] at hc)
          have hne : k ≠ c := fun e => hkL j (by rw [e]; exact hj)
          rw [List.getElem?_set_ne hne] at g1
          exact ⟨old', o', g1, g2, g3⟩
      · have hne : k ≠ c := fun e => by have := hj 0 (by rw [← e]; rfl); rw [Nat.add_zero, hw] at this; cases this
        rw [h2 c (by simpa using hc) (fun j hj' => by have := hj (j + 1) hj'; rwa [show n + (j + 1) = n + 1 + j by omega] at this), List.getElem?_set_ne hne]
      · cases j with
        | zero => simp at hj
        | succ j => have := h3 j (by simpa using hj); simpa using this
/-- what comes back of a part of which only wr may be written -/
theorem back_part {W : Nat → Prop} {S S1 S3 S4 : List AO} {ρ ρ1 ρ3 : Nat → Geo} {w w' : World} {L : List Nat} {f f' : Nat → Option Nat} (prt : Prt S ρ S1 ρ1 L f) (h : Rel W S ρ w) (A3 : Aft (Grd W S ρ S1 ρ1) S1 ρ1 w S3 ρ3 w') (wr : List Nat)
    (hro : ∀ j o1, S1[j]? = some o1 → wr.contains j = false → o1.own = false) (hf' : ∀ i j, f' i = some j → j = bk S L i) (h4 : renAll f' S3 = some S4) :
    Aft W S ρ w (backObs wr L 0 S4 S) (bkG S L ρ ρ3) w' ∧ ∀ (v v' : AV) (u : Value), v.ren f' = some v' → VR (cx (Grd W S ρ S1 ρ1) S3 ρ3 w') v u → VR (cx W (backObs wr L 0 S4 S) (bkG S L ρ ρ3) w') v' u := by
  obtain ⟨q1, q2⟩ := renAll_ok h4
  have hlen : L.length ≤ S4.length := by rw [q1, ← prt.len]; exact A3.m
  refine prt.back h A3 ?_
  have hbl := backObs_len (wr := wr) L 0 S4 S hlen
  refine ⟨by rw [hbl]; omega, fun j hj => ?_, hf', fun i o' hi => ?_⟩
  · rw [hbl]
    unfold bk
    cases hLj : L[j]? with
    | some i => have := prt.lt hLj; simp only; omega
    | none =>
      have := List.getElem?_eq_none_iff.1 hLj
      simp only
      omega
  · rcases backObs_ok L 0 S4 S prt.nd hlen (fun i hi => by obtain ⟨j, hj⟩ := List.getElem?_of_mem hi; exact prt.lt hj) i o' hi with ⟨h1, h2, h3⟩ | ⟨j, old, o, h1, h2, h3, h5⟩ | ⟨j, o, h1, h2, h3, h5⟩
    · refine .inr (.inl ⟨h1, h2, fun ho p hp hk' => ?_⟩)
      obtain ⟨j', i', o1', o2', p', hj', hL', hS', hr', ho', ho1', ha', hb'⟩ := prt.own hk'
      by_cases hii : i' = i
      · subst hii
        have := h3 j' hL'
        rw [Nat.zero_add] at this
        rw [hro j' o1' hj' this] at ho1'
        cases ho1'
      · exact h.dj i' i o2' o' p' p hii hS' h2 ho' ho ha' hp hb'
    · obtain ⟨o3, g1, g2⟩ := q2 j o h3
      unfold backO at h5
      cases hs : o.sure with
      | true =>
        rw [hs, cond_true] at h5
        subst h5
        refine .inr (.inr ⟨j, o3, g1, g2, by rw [← (ren_own g2).2]; exact hs, ?_⟩)
        unfold bk
        rw [h1]
      | false =>
        rw [hs, cond_false] at h5
        cases hm : old.mine with
        | true => rw [hm] at h5; exact .inl h5
        | false =>
          rw [hm, cond_false] at h5
          subst h5
          exact .inr (.inl ⟨prt.lt h1, h2, fun ho => by rw [own_mine, hm] at ho; cases ho⟩)
    · obtain ⟨o3, g1, g2⟩ := q2 j o h2
      unfold newO at h5
      cases hs : o.sure with
      | true =>
        rw [hs, cond_true] at h5
        subst h5
        refine .inr (.inr ⟨j, o3, g1, g2, by rw [← (ren_own g2).2]; exact hs, ?_⟩)
        unfold bk
        rw [List.getElem?_eq_none_iff.2 h1]
        exact h3.symm
      | false => rw [hs] at h5; exact .inl h5
end Go.Mx
