/- Own work. A part of the proof of a law of this seat: a part -/
import Derived.Test.YtidhcbnplgbnoaaMx7
/- Parts of values: read, written. -/
namespace Go.Mx
open Go Go.RowKit Go.Sx

section
variable {x : Cx} {R : Type} {r : R}
theorem cr_dat {t : T} {d : t.den} {cs : List Value} : CR x (.dat t d) cs ↔ t.kd.K x.A x.h d cs := by rw [CR]
theorem cr_oneI {a : AV} {cs : List Value} : CR x (.one a) cs ↔ CR x a cs := by rw [CR]
theorem cr_pr {a b : AV} {cs : List Value} (h : CR x (.pr a b) cs) : CR x (mkpr a b) cs := by
  cases a with
  | dat t1 d1 =>
    cases b with
    | dat t2 d2 =>
      rw [CR] at h
      obtain ⟨c1, c2, e, h1, h2⟩ := h
      exact (cr_dat (t := .pair t1 t2)).2 ⟨c1, c2, e, cr_dat.1 h1, cr_dat.1 h2⟩
    | _ => exact h
  | _ => exact h
theorem cr_one {a : AV} {cs : List Value} (h : CR x a cs) : CR x (mkone a) cs := by
  cases a with
  | dat t d =>
    exact (cr_dat (t := .one t)).2 (cr_dat.1 h)
  | _ => exact cr_oneI.2 h
theorem sz_pr (a b : AV) : (mkpr a b).sz = a.sz + b.sz := by
  unfold mkpr; split <;> rfl
theorem sz_one (a : AV) : (mkone a).sz = a.sz := by
  unfold mkone; split <;> rfl
theorem cr_pair {a b : T} {d : (T.pair a b).den} {cs : List Value} (h : CR x (.dat (.pair a b) d) cs) : CR x (.pr (.dat a d.1) (.dat b d.2)) cs := by
  obtain ⟨c1, c2, e, h1, h2⟩ := cr_dat.1 h
  rw [CR]
  exact ⟨c1, c2, e, cr_dat.2 h1, cr_dat.2 h2⟩
theorem dec_dat (t t' : T) (y : t'.den) : dec t (.dat t' y) = if h : t' = t then some (h ▸ y) else none := by cases t <;> rfl
theorem dec_datok {t t' : T} {y : t'.den} {d : t.den} {cs : List Value} (h : dec t (.dat t' y) = some d) (hc : CR x (.dat t' y) cs) : t.kd.K x.A x.h d cs := by
  rw [dec_dat] at h
  split at h
  · rename_i e
    subst e
    obtain rfl := Option.some.inj h
    rw [CR] at hc
    exact hc
  · cases h
theorem dec_ok : ∀ (t : T) (v : AV) (cs : List Value) {d : t.den}, dec t v = some d → CR x v cs → t.kd.K x.A x.h d cs := by
  intro t
  induction t with
  | sl t _ =>
    intro v cs d h hc
    cases v with
    | dat t' y => exact dec_datok h hc
    | nils =>
      obtain rfl : [] = d := Option.some.inj h
      rw [CR] at hc
      exact ⟨none, 0, by rw [hc]; rfl, Raw.nil _ _ _ none 0 (Nat.zero_le _)⟩
    | cut t' =>
      obtain rfl : [] = d := Option.some.inj h
      rw [CR] at hc
      obtain ⟨q, hc⟩ := hc
      exact ⟨q, 0, by rw [hc]; rfl, Raw.nil _ _ _ q 0 (Nat.zero_le _)⟩
    | fn f fs ks => cases fs <;> cases ks <;> cases h
    | _ => cases h
  | pair a b iha ihb =>
    intro v cs d h hc
    cases v with
    | dat t' y => exact dec_datok h hc
    | pr u v =>
      rw [CR] at hc
      obtain ⟨c1, c2, e, h1, h2⟩ := hc
      rw [dec] at h
      split at h
      · rename_i y hy
        split at h
        · rename_i z hz
          obtain rfl : (y, z) = d := Option.some.inj h
          exact ⟨c1, c2, e, iha u c1 hy h1, ihb v c2 hz h2⟩
        · cases h
      · cases h
    | fn f fs ks => cases fs <;> cases ks <;> cases h
    | _ => cases h
  | one a iha =>
    intro v cs d h hc
    cases v with
    | dat t' y => exact dec_datok h hc
    | one u =>
      rw [CR] at hc
      rw [dec] at h
      exact iha u cs h hc
    | fn f fs ks => cases fs <;> cases ks <;> cases h
    | _ => cases h
  | fn =>
    intro v cs d h hc
    cases v with
    | dat t' y => exact dec_datok h hc
    | fn f fs ks =>
      match fs, ks, h, hc with
      | [], [], h, hc =>
        obtain rfl : f = d := Option.some.inj h
        rw [CR] at hc
        obtain ⟨l, m, e, h1, h2⟩ := hc
        rw [VRs] at h1 h2
        rw [e, h1, h2]
        exact rfl
      | _ :: _, _, h, _ => cases h
      | [], _ :: _, h, _ => cases h
    | _ => cases h
  | _ =>
    intro v cs d h hc
    cases v with
    | dat t' y => exact dec_datok h hc
    | fn f fs ks => cases fs <;> cases ks <;> cases h
    | _ => cases h
theorem getK_ok : ∀ (p : List Step) (v : AV) (cs : List Value) {K : AV → Option R}, getK v p K = some r → CR x v cs → cs.length = v.sz →
    ∃ u us, K u = some r ∧ CR x u us ∧ us.length = u.sz ∧ ∀ j c, us[j]? = some c → cs[offs p + j]? = some c := by
  intro p
  induction p with
  | nil =>
    intro v cs K h hc hl
    have h : K v = some r := by cases v <;> exact h
    exact ⟨v, cs, h, hc, hl, fun j c hj => by rw [offs, Nat.zero_add]; exact hj⟩
  | cons s p ih =>
    intro v cs K h hc hl
    unfold getK at h
    split at h
    · rename_i he; cases he
    · rename_i he
      obtain ⟨rfl, rfl⟩ := List.cons.inj he
      have hp := cr_pair hc
      rw [CR] at hp
      obtain ⟨c1, c2, e, h1, h2⟩ := hp
      obtain ⟨u, us, k1, k2, k3, k4⟩ := ih _ _ h h1 (cr_len h1)
      refine ⟨u, us, k1, k2, k3, fun j c hj => ?_⟩
      have := k4 j c hj
      show cs[offs p + j]? = some c
      rw [e, List.getElem?_append, if_pos (List.getElem?_eq_some_iff.1 this).1]
      exact this
    · rename_i a b d k q he
      obtain ⟨rfl, rfl⟩ := List.cons.inj he
      have hp := cr_pair hc
      rw [CR] at hp
      obtain ⟨c1, c2, e, h1, h2⟩ := hp
      have l1 : c1.length = a.sz := by rw [CR] at h1; exact kd_len h1
      have l2 : c2.length = b.sz := by rw [CR] at h2; exact kd_len h2
      cases hk : Nat.beq k a.sz with
      | false => rw [hk] at h; cases h
      | true =>
        rw [hk] at h
        have hk := Nat.eq_of_beq_eq_true hk
        obtain ⟨u, us, k1, k2, k3, k4⟩ := ih _ _ h h2 l2
        refine ⟨u, us, k1, k2, k3, fun j c hj => ?_⟩
        have := k4 j c hj
        rw [offs, e, List.getElem?_append, if_neg (by omega), show k + offs p + j - c1.length = offs p + j by omega]
        exact this
    · rename_i he
      obtain ⟨rfl, rfl⟩ := List.cons.inj he
      rw [CR] at hc
      obtain ⟨u, us, k1, k2, k3, k4⟩ := ih _ _ h (by rw [CR]; exact hc) hl
      exact ⟨u, us, k1, k2, k3, k4⟩
    · rename_i n t xs i s' q he
      obtain ⟨rfl, rfl⟩ := List.cons.inj he
      cases hk : Nat.beq s' t.sz with
      | false => rw [hk] at h; cases h
      | true =>
        rw [hk] at h
        have hk := Nat.eq_of_beq_eq_true hk
        obtain ⟨y, hy, h⟩ := bind_elim h
        rw [CR] at hc
        have hc : xs.length = n ∧ Els (t.kd.K x.A x.h) xs cs := hc
        obtain ⟨hi, rfl⟩ := List.getElem?_eq_some_iff.1 hy
        obtain ⟨c, hK, hg⟩ := hc.2.get (fun _ _ h => kd_len h) i hi
        obtain ⟨u, us, k1, k2, k3, k4⟩ := ih _ _ h (by rw [CR]; exact hK) (kd_len hK)
        refine ⟨u, us, k1, k2, k3, fun j c hj => ?_⟩
        have := hg _ _ (k4 j c hj)
        rw [offs, hk, Nat.add_assoc]
        exact this
    · rename_i he
      obtain ⟨rfl, rfl⟩ := List.cons.inj he
      rw [CR] at hc
      obtain ⟨c1, c2, e, h1, h2⟩ := hc
      obtain ⟨u, us, k1, k2, k3, k4⟩ := ih _ _ h h1 (cr_len h1)
      refine ⟨u, us, k1, k2, k3, fun j c hj => ?_⟩
      have := k4 j c hj
      show cs[offs p + j]? = some c
      rw [e, List.getElem?_append, if_pos (List.getElem?_eq_some_iff.1 this).1]
      exact this
    · rename_i a b k q he
      obtain ⟨rfl, rfl⟩ := List.cons.inj he
      rw [CR] at hc
      obtain ⟨c1, c2, e, h1, h2⟩ := hc
      cases hk : Nat.beq k a.sz with
      | false => rw [hk] at h; cases h
      | true =>
        rw [hk] at h
        have hk := Nat.eq_of_beq_eq_true hk
        have l1 := cr_len h1
        obtain ⟨u, us, k1, k2, k3, k4⟩ := ih _ _ h h2 (cr_len h2)
        refine ⟨u, us, k1, k2, k3, fun j c hj => ?_⟩
        have := k4 j c hj
        rw [offs, e, List.getElem?_append, if_neg (by omega), show k + offs p + j - c1.length = offs p + j by omega]
        exact this
    · rename_i he
      obtain ⟨rfl, rfl⟩ := List.cons.inj he
      rw [CR] at hc
      obtain ⟨u, us, k1, k2, k3, k4⟩ := ih _ _ h hc hl
      exact ⟨u, us, k1, k2, k3, k4⟩
    · cases h
end
end Go.Mx
