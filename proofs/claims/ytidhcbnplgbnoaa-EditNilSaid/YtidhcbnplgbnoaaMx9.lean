/- Own work. A part of the proof of a law of this seat: a part -/
import Derived.Test.YtidhcbnplgbnoaaMx8
/- Parts of values, written; single cells. -/
namespace Go.Mx
open Go Go.RowKit Go.Sx

section
variable {x : Cx} {R : Type} {r : R}
theorem put_get {cs us : List Value} {o k : Nat} (h : o + us.length ≤ cs.length) : (put cs o us)[k]? = if k < o then cs[k]? else if k < o + us.length then us[k - o]? else cs[k]? := by
  unfold put
  have hl : (cs.take o).length = o := by rw [List.length_take]; omega
  rw [List.append_assoc, List.getElem?_append, hl]
  by_cases h1 : k < o
  · rw [if_pos h1, if_pos h1, List.getElem?_take, if_pos h1]
  · rw [if_neg h1, if_neg h1, List.getElem?_append]
    by_cases h2 : k < o + us.length
    · rw [if_pos h2, if_pos (by omega)]
    · rw [if_neg h2, if_neg (by omega), List.getElem?_drop]
      congr 1
      omega
theorem put_len {cs us : List Value} {o : Nat} (h : o + us.length ≤ cs.length) : (put cs o us).length = cs.length := by
  unfold put
  simp only [List.length_append, List.length_take, List.length_drop]
  omega
theorem put_all {cs us : List Value} (h : us.length = cs.length) : put cs 0 us = us := by
  unfold put
  rw [List.take_zero, List.nil_append, List.drop_of_length_le (by omega), List.append_nil]
theorem put_fst {c1 c2 us : List Value} {o : Nat} (h : o + us.length ≤ c1.length) : put (c1 ++ c2) o us = put c1 o us ++ c2 := by
  apply List.ext_getElem?
  intro k
  rw [put_get (by rw [List.length_append]; omega), List.getElem?_append (l₁ := put c1 o us), put_len h, put_get h, List.getElem?_append]
  repeat' split
  all_goals first | rfl | omega
theorem put_snd {c1 c2 us : List Value} {o m : Nat} (hm : m = c1.length + o) (h : o + us.length ≤ c2.length) : put (c1 ++ c2) m us = c1 ++ put c2 o us := by
  subst hm
  apply List.ext_getElem?
  intro k
  rw [put_get (by rw [List.length_append]; omega), List.getElem?_append (l₂ := put c2 o us), put_get h, List.getElem?_append]
  repeat' split
  all_goals first | rfl | omega | (congr 1; omega)
theorem put_mid {cs c us : List Value} {o m s : Nat} (hc : c.length = s) (hg : ∀ i v, c[i]? = some v → cs[m + i]? = some v) (hm : m + s ≤ cs.length) (h : o + us.length ≤ c.length) : put cs (m + o) us = cs.take m ++ put c o us ++ cs.drop (m + s) := by
  apply List.ext_getElem?
  intro k
  have hl : (cs.take m).length = m := by rw [List.length_take]; omega
  rw [put_get (by omega), List.append_assoc, List.getElem?_append, hl, List.getElem?_append, put_len h, put_get h]
  by_cases h1 : k < m
  · rw [if_pos (by omega), if_pos h1, List.getElem?_take, if_pos h1]
  · rw [if_neg h1]
    have hk : ∀ i, i < s → c[i]? = cs[m + i]? := fun i hi => by
      rw [List.getElem?_eq_getElem (by omega)]
      exact (hg i _ (List.getElem?_eq_getElem (by omega))).symm
    by_cases h2 : k < m + o
    · rw [if_pos h2, if_pos (by omega), if_pos (by omega), hk _ (by omega)]
      congr 1
      omega
    · rw [if_neg h2]
      by_cases h3 : k < m + o + us.length
      · rw [if_pos h3, if_pos (by omega), if_neg (by omega), if_pos (by omega)]
        congr 1
        omega
      · rw [if_neg h3]
        by_cases h4 : k < m + s
        · rw [if_pos (by omega), if_neg (by omega), if_neg (by omega), hk _ (by omega)]
          congr 1
          omega
        · rw [if_neg (by omega), List.getElem?_drop]
          congr 1
          omega
theorem setK_ok : ∀ (p : List Step) (v : AV) (cs : List Value) (u : AV) (us : List Value) {K : AV → Option R}, setK v p u K = some r → CR x v cs → CR x u us →
    ∃ y, K y = some r ∧ CR x y (put cs (offs p) us) ∧ offs p + us.length ≤ cs.length := by
  intro p
  induction p with
  | nil =>
    intro v cs u us K h hc hu
    have h : cond (Nat.beq v.sz u.sz) (K u) none = some r := by cases v <;> exact h
    cases hb : Nat.beq v.sz u.sz with
    | false => rw [hb] at h; cases h
    | true =>
      rw [hb] at h
      have hb := Nat.eq_of_beq_eq_true hb
      have l1 := cr_len hc
      have l2 := cr_len hu
      exact ⟨u, h, by rw [offs, put_all (by omega)]; exact hu, by rw [offs]; omega⟩
  | cons s p ih =>
    intro v cs u us K h hc hu
    unfold setK at h
    split at h
    · rename_i he; cases he
    · rename_i he
      obtain ⟨rfl, rfl⟩ := List.cons.inj he
      have hp := cr_pair hc
      rw [CR] at hp
      obtain ⟨c1, c2, e, h1, h2⟩ := hp
      obtain ⟨y, k1, k2, k3⟩ := ih _ _ _ _ h h1 hu
      refine ⟨_, k1, ?_, ?_⟩
      · show CR x _ (put cs (offs p) us)
        rw [e, put_fst k3]
        exact cr_pr (by rw [CR]; exact ⟨_, _, rfl, k2, h2⟩)
      · show offs p + us.length ≤ cs.length
        rw [e, List.length_append]; omega
    · rename_i a b d k q he
      obtain ⟨rfl, rfl⟩ := List.cons.inj he
      have hp := cr_pair hc
      rw [CR] at hp
      obtain ⟨c1, c2, e, h1, h2⟩ := hp
      have l1 : c1.length = a.sz := cr_len h1
      cases hk : Nat.beq k a.sz with
      | false => rw [hk] at h; cases h
      | true =>
        rw [hk] at h
        have hk := Nat.eq_of_beq_eq_true hk
        obtain ⟨y, k1, k2, k3⟩ := ih _ _ _ _ h h2 hu
        refine ⟨_, k1, ?_, ?_⟩
        · show CR x _ (put cs (k + offs p) us)
          rw [e, put_snd (o := offs p) (by omega) k3]
          exact cr_pr (by rw [CR]; exact ⟨_, _, rfl, h1, k2⟩)
        · show k + offs p + us.length ≤ cs.length
          rw [e, List.length_append]; omega
    · rename_i he
      obtain ⟨rfl, rfl⟩ := List.cons.inj he
      obtain ⟨y, k1, k2, k3⟩ := ih _ _ _ _ h (cr_dat.2 (cr_dat.1 hc)) hu
      exact ⟨_, k1, cr_one k2, k3⟩
    · rename_i n t xs i s' q he
      obtain ⟨rfl, rfl⟩ := List.cons.inj he
      cases hk : Nat.beq s' t.sz with
      | false => rw [hk] at h; cases h
      | true =>
        rw [hk] at h
        have hk := Nat.eq_of_beq_eq_true hk
        obtain ⟨z, hz, h⟩ := bind_elim h
        have hc : xs.length = n ∧ Els (t.kd.K x.A x.h) xs cs := cr_dat.1 hc
        obtain ⟨hi, rfl⟩ := List.getElem?_eq_some_iff.1 hz
        obtain ⟨c, hK, hg⟩ := hc.2.get (fun _ _ h => kd_len h) i hi
        obtain ⟨y, k1, k2, k3⟩ := ih _ _ _ _ h (cr_dat.2 hK) hu
        split at k1
        · rename_i d hd
          have hd := dec_ok t y _ hd k2
          have hcl : c.length = t.sz := kd_len hK
          have hlen := hc.2.length (fun _ _ h => kd_len h)
          have hm : i * t.sz + t.sz ≤ cs.length := by
            rw [hlen]
            calc i * t.sz + t.sz = (i + 1) * t.sz := by rw [Nat.add_mul, Nat.one_mul]
              _ ≤ xs.length * t.sz := Nat.mul_le_mul_right _ hi
          refine ⟨_, k1, ?_, ?_⟩
          · show CR x _ (put cs (i * s' + offs p) us)
            rw [hk, put_mid hcl hg hm k3]
            refine (cr_dat (t := .arr n t)).2 ⟨by rw [List.length_set]; exact hc.1, ?_⟩
            exact hc.2.set (fun _ _ h => kd_len h) i hi hd
          · show i * s' + offs p + us.length ≤ cs.length
            rw [hk]; omega
        · cases k1
    · rename_i he
      obtain ⟨rfl, rfl⟩ := List.cons.inj he
      rw [CR] at hc
      obtain ⟨c1, c2, e, h1, h2⟩ := hc
      obtain ⟨y, k1, k2, k3⟩ := ih _ _ _ _ h h1 hu
      refine ⟨_, k1, ?_, ?_⟩
      · show CR x _ (put cs (offs p) us)
        rw [e, put_fst k3]
        exact cr_pr (by rw [CR]; exact ⟨_, _, rfl, k2, h2⟩)
      · show offs p + us.length ≤ cs.length
        rw [e, List.length_append]; omega
    · rename_i a b k q he
      obtain ⟨rfl, rfl⟩ := List.cons.inj he
      rw [CR] at hc
      obtain ⟨c1, c2, e, h1, h2⟩ := hc
      have l1 : c1.length = a.sz := cr_len h1
      cases hk : Nat.beq k a.sz with
      | false => rw [hk] at h; cases h
      | true =>
        rw [hk] at h
        have hk := Nat.eq_of_beq_eq_true hk
        obtain ⟨y, k1, k2, k3⟩ := ih _ _ _ _ h h2 hu
        refine ⟨_, k1, ?_, ?_⟩
        · show CR x _ (put cs (k + offs p) us)
          rw [e, put_snd (o := offs p) (by omega) k3]
          exact cr_pr (by rw [CR]; exact ⟨_, _, rfl, h1, k2⟩)
        · show k + offs p + us.length ≤ cs.length
          rw [e, List.length_append]; omega
    · rename_i he
      obtain ⟨rfl, rfl⟩ := List.cons.inj he
      obtain ⟨y, k1, k2, k3⟩ := ih _ _ _ _ h (cr_oneI.1 hc) hu
      exact ⟨_, k1, cr_one k2, k3⟩
    · cases h
theorem form_one (g : Bool) {c : List Value} (h : ∀ u ∈ c, u.oneCell' = true) (hl : g = false → c.length = 1) : (form g c).cells = c.toArray := by
  cases g with
  | true => rfl
  | false =>
    match c, hl rfl, h with
    | [u], _, h =>
      have := h u (by simp)
      show u.cells = #[u]
      cases u <;> first | rfl | cases this
/-- what is in a cell is no aggregate -/
theorem cr_cell : ∀ (v : AV) {cs : List Value}, CR x v cs → ∀ u ∈ cs, u.oneCell' = true := by
  intro v
  induction v using AV.rec (motive_2 := fun _ => True) with
  | dat t d => intro cs h; exact t.kd.one (cr_dat.1 h)
  | pr a b ha hb =>
    intro cs h u hu
    rw [CR] at h
    obtain ⟨c1, c2, e, h1, h2⟩ := h
    rw [e, List.mem_append] at hu
    exact hu.elim (ha h1 u) (hb h2 u)
  | one a ha => intro cs h; exact ha (cr_oneI.1 h)
  | ptr i p => intro cs h u hu; rw [CR] at h; obtain ⟨_, b, _, e⟩ := h; rw [e] at hu; rw [List.mem_singleton.1 hu]; rfl
  | nilp => intro cs h u hu; rw [CR] at h; rw [h] at hu; rw [List.mem_singleton.1 hu]; rfl
  | rdp t d => intro cs h u hu; rw [CR] at h; obtain ⟨b, o, c, e, _⟩ := h; rw [e] at hu; rw [List.mem_singleton.1 hu]; rfl
  | view i => intro cs h u hu; rw [CR] at h; rw [h.2] at hu; rw [List.mem_singleton.1 hu]; rfl
  | pre i n => intro cs h u hu; rw [CR] at h; rw [h.2.2] at hu; rw [List.mem_singleton.1 hu]; rfl
  | tgt i n => intro cs h u hu; rw [CR] at h; rw [h.2.2] at hu; rw [List.mem_singleton.1 hu]; rfl
  | win i o n => intro cs h u hu; rw [CR] at h; obtain ⟨_, _, q, c, _, _, _, e⟩ := h; rw [e] at hu; rw [List.mem_singleton.1 hu]; rfl
  | nils => intro cs h u hu; rw [CR] at h; rw [h] at hu; rw [List.mem_singleton.1 hu]; rfl
  | cut t => intro cs h u hu; rw [CR] at h; obtain ⟨q, e⟩ := h; rw [e] at hu; rw [List.mem_singleton.1 hu]; rfl
  | sln t d => intro cs h u hu; rw [CR] at h; obtain ⟨p, c, e, _⟩ := h; rw [e] at hu; rw [List.mem_singleton.1 hu]; rfl
  | mp i => intro cs h u hu; rw [CR] at h; obtain ⟨_, b, _, e⟩ := h; rw [e] at hu; rw [List.mem_singleton.1 hu]; rfl
  | nilm => intro cs h u hu; rw [CR] at h; rw [h] at hu; rw [List.mem_singleton.1 hu]; rfl
  | fn f fs ks _ _ => intro cs h u hu; rw [CR] at h; obtain ⟨l, m, e, _⟩ := h; rw [e] at hu; rw [List.mem_singleton.1 hu]; rfl
  | nilf => intro cs h u hu; rw [CR] at h; rw [h] at hu; rw [List.mem_singleton.1 hu]; rfl
  | iface t v _ => intro cs h u hu; rw [CR] at h; obtain ⟨c, e, _⟩ := h; rw [e] at hu; rw [List.mem_singleton.1 hu]; rfl
  | nilI => intro cs h u hu; rw [CR] at h; rw [h] at hu; rw [List.mem_singleton.1 hu]; rfl
  | tup l _ => intro cs h; rw [CR] at h; exact h.elim
  | undef => intro cs h; rw [CR] at h; exact h.elim
  | nil => trivial
  | cons _ _ _ _ => trivial
theorem agg_sz : ∀ {v : AV} {cs : List Value}, CR x v cs → v.isAgg = false → v.sz = 1 := by
  intro v cs h hg
  cases v with
  | dat t d => cases t <;> first | rfl | cases hg
  | pr a b => cases hg
  | one a => cases hg
  | _ => rfl
theorem cr_form {v : AV} {cs : List Value} (h : CR x v cs) : (form v.isAgg cs).cells = cs.toArray := form_one _ (cr_cell v h) (fun hg => by rw [cr_len h]; exact agg_sz h hg)
theorem vr_cr {v : AV} {u : Value} (h : VR x v u) (hp : v.plain = true) : ∃ cs, CR x v cs ∧ u = form v.isAgg cs := by
  cases v with
  | tup l => cases hp
  | undef => cases hp
  | _ => obtain ⟨c, e, h1, _⟩ := h; exact ⟨c, h1, e⟩
theorem cr_vr {v : AV} {cs : List Value} (h : CR x v cs) : VR x v (form v.isAgg cs) := by
  cases v with
  | tup l => rw [CR] at h; exact h.elim
  | undef => rw [CR] at h; exact h.elim
  | _ => exact ⟨cs, rfl, h, cr_len h⟩
end
end Go.Mx
