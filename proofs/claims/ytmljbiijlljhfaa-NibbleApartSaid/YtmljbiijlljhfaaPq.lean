/- Own work. The plain law of NibbleApart: no program in sight. -/
import Derived.Test.YtmljbiijlljhfaaPo
/- The plain law of NibbleApart. -/
open Go Go.RowKit Go.Sx
namespace Go.Proofs.Ytmljbiijlljhfaa
/-- m is where a and b part. -/
def Part (a b : List Int) (m : Nat) : Prop := m ≤ a.length ∧ m ≤ b.length ∧ (∀ j, j < m → a.getD j 0 = b.getD j 0) ∧ (m < a.length → m < b.length → a.getD m 0 ≠ b.getD m 0)
theorem Part.uniq {a b : List Int} {m n : Nat} (h : Part a b m) (h' : Part a b n) : m = n := by
  obtain ⟨h1, h2, h3, h4⟩ := h
  obtain ⟨g1, g2, g3, g4⟩ := h'
  rcases Nat.lt_trichotomy m n with hl | hl | hl
  · exact absurd (g3 m hl) (h4 (by omega) (by omega))
  · exact hl
  · exact absurd (h3 n hl) (g4 (by omega) (by omega))
theorem Part.symm {a b : List Int} {m : Nat} (h : Part a b m) : Part b a m := ⟨h.2.1, h.1, fun j hj => (h.2.2.1 j hj).symm, fun h1 h2 => (h.2.2.2 h2 h1).symm⟩
def answer (a b : List Int) (m : Nat) : Int := if m = a.length ∧ m = b.length then -1 else (m : Int)

theorem diff_l0 (k : Nat) (a b : List Int) (ha : a.length ≤ 100000) (_ : b.length ≤ 100000) : ∀ (n i k1 : Nat), a.length - i = n → i ≤ a.length → i ≤ b.length → n < k1 → (∀ j, j < i → a.getD j 0 = b.getD j 0) →
    ∃ m, Part a b m ∧ nibble_Diff_l0 k a b k1 (i : Int) = some (answer a b m) := by
  intro n
  induction n with
  | zero =>
    intro i k1 hn hi hi2 hk hall
    obtain ⟨k1, rfl⟩ : ∃ q, k1 = q + 1 := ⟨k1 - 1, by omega⟩
    have hia : i = a.length := by omega
    subst hia
    refine ⟨a.length, ⟨by omega, hi2, hall, fun h => by omega⟩, ?_⟩
    have hm : (if (b.length : Int) < (a.length : Int) then (b.length : Int) else (a.length : Int)) = a.length := if_neg (by omega)
    unfold nibble_Diff_l0 answer
    rw [hm, if_neg (by omega)]
    by_cases he : a.length = b.length
    · rw [if_pos (by omega), if_pos ⟨rfl, he⟩]
    · rw [if_neg (by omega), if_neg (fun h => he h.2)]
  | succ n ih =>
    intro i k1 hn hi hi2 hk hall
    obtain ⟨k1, rfl⟩ : ∃ q, k1 = q + 1 := ⟨k1 - 1, by omega⟩
    simp only [nibble_Diff_l0]
    by_cases hlt : i < b.length
    · rw [if_pos (by split <;> omega), ck_pos (by omega), ck_pos (by omega)]
      simp only [Int.toNat_natCast]
      by_cases he : a.getD i 0 = b.getD i 0
      · rw [if_pos he, wrapS (by omega)]
        have := ih (i + 1) k1 (by omega) (by omega) (by omega) (by omega) (fun j hj => by
          rcases Nat.lt_or_ge j i with h | h
          · exact hall j h
          · have : j = i := by omega
            rw [this]; exact he)
        simpa using this
      · rw [if_neg he]
        refine ⟨i, ⟨hi, hi2, hall, fun _ _ => he⟩, ?_⟩
        unfold answer
        rw [if_neg (by omega)]
    · have hib : i = b.length := by omega
      subst hib
      refine ⟨b.length, ⟨hi, by omega, hall, fun _ h => by omega⟩, ?_⟩
      have hm : (if (b.length : Int) < (a.length : Int) then (b.length : Int) else (a.length : Int)) = b.length := if_pos (by omega)
      rw [hm, if_neg (by omega), if_neg (by omega)]
      unfold answer
      rw [if_neg (by omega)]
theorem diff_ok (k : Nat) (hk : 1000 < k) (a b : List Int) (ha : a.length ≤ 500) (hb : b.length ≤ 500) : ∃ m, Part a b m ∧ nibble_Diff k a b = some (answer a b m) :=
  diff_l0 k a b (by omega) (by omega) a.length 0 k (by omega) (by omega) (by omega) (by omega) (fun j hj => by omega)

theorem rdiff_l0 (k : Nat) (a b : List Int) (ha : a.length ≤ 100000) (_ : b.length ≤ 100000) : ∀ (n i k1 : Nat), a.length - i = n → i ≤ a.length → i ≤ b.length → n < k1 → (∀ j, j < i → a.getD j 0 = b.getD j 0) →
    ∃ m, Part a b m ∧ warderref02_Diff_l0 k a b k1 (i : Int) = some (answer a b m) := by
  intro n
  have tail : ∀ i : Nat, (if (i : Int) = (a.length : Int) then (if (i : Int) = (b.length : Int) then (some (-1 : Int)) else (some (i : Int))) else (some (i : Int))) = some (answer a b i) := by
    intro i
    unfold answer
    by_cases h1 : i = a.length
    · by_cases h2 : i = b.length
      · rw [if_pos (by omega), if_pos (by omega), if_pos ⟨h1, h2⟩]
      · rw [if_pos (by omega), if_neg (by omega), if_neg (fun h => h2 h.2)]
    · rw [if_neg (by omega), if_neg (fun h => h1 h.1)]
  induction n with
  | zero =>
    intro i k1 hn hi hi2 hk hall
    obtain ⟨k1, rfl⟩ : ∃ q, k1 = q + 1 := ⟨k1 - 1, by omega⟩
    refine ⟨i, ⟨by omega, hi2, hall, fun h => by omega⟩, ?_⟩
    simp only [warderref02_Diff_l0]
    rw [if_neg (by omega), tail]
  | succ n ih =>
    intro i k1 hn hi hi2 hk hall
    obtain ⟨k1, rfl⟩ : ∃ q, k1 = q + 1 := ⟨k1 - 1, by omega⟩
    simp only [warderref02_Diff_l0]
    rw [if_pos (by omega)]
    by_cases hlt : i < b.length
    · rw [if_pos (by omega), ck_pos (by omega), ck_pos (by omega)]
      simp only [Int.toNat_natCast]
      by_cases he : a.getD i 0 = b.getD i 0
      · rw [if_pos he, wrapS (by omega)]
        have := ih (i + 1) k1 (by omega) (by omega) (by omega) (by omega) (fun j hj => by
          rcases Nat.lt_or_ge j i with h | h
          · exact hall j h
          · have : j = i := by omega
            rw [this]; exact he)
        simpa using this
      · rw [if_neg he, tail]
        exact ⟨i, ⟨hi, hi2, hall, fun _ _ => he⟩, rfl⟩
    · rw [if_neg (by omega), tail]
      exact ⟨i, ⟨hi, hi2, hall, fun _ h => absurd h hlt⟩, rfl⟩
theorem rdiff_ok (k : Nat) (hk : 1000 < k) (a b : List Int) (ha : a.length ≤ 500) (hb : b.length ≤ 500) : ∃ m, Part a b m ∧ warderref02_Diff k a b = some (answer a b m) :=
  rdiff_l0 k a b (by omega) (by omega) a.length 0 k (by omega) (by omega) (by omega) (by omega) (fun j hj => by omega)


theorem Part.eq {a b : List Int} (h : Part a b a.length) (hl : a.length = b.length) : a = b := by
  refine List.ext_getElem hl (fun i h1 h2 => ?_)
  have := h.2.2.1 i h1
  rw [List.getD_eq_getElem?_getD, List.getD_eq_getElem?_getD, List.getElem?_eq_getElem h1, List.getElem?_eq_getElem h2] at this
  exact this
theorem ahead_part : ∀ (m : Nat) (a b : List Int), Part a b m → ahead a b = decide (m < b.length ∧ (a.length ≤ m ∨ a.getD m 0 < b.getD m 0))
  | 0, [], [], _ => by simp [ahead]
  | 0, [], _ :: _, _ => by simp [ahead]
  | 0, _ :: _, [], _ => by simp [ahead]
  | 0, x :: a, y :: b, h => by
    have hne := h.2.2.2 (by simp) (by simp)
    simp only [List.getD_cons_zero] at hne
    simp [ahead, hne]
  | m + 1, [], _, h => by have := h.1; simp at this
  | m + 1, _ :: _, [], h => by have := h.2.1; simp at this
  | m + 1, x :: a, y :: b, h => by
    obtain ⟨h1, h2, h3, h4⟩ := h
    simp only [List.length_cons] at h1 h2 h4
    have h0 := h3 0 (by omega)
    simp only [List.getD_cons_zero] at h0
    have hp : Part a b m := ⟨by omega, by omega, fun j hj => by
      have := h3 (j + 1) (by omega)
      simpa using this, fun g1 g2 => by
      have := h4 (by omega) (by omega)
      simpa using this⟩
    have := ahead_part m a b hp
    simp only [ahead, h0, Int.lt_irrefl, decide_false, decide_true, Bool.true_and, Bool.false_or, this, List.length_cons, List.getD_cons_succ]
    congr 1
    simp only [Nat.add_lt_add_iff_right, Nat.add_le_add_iff_right]
theorem rless_ok (k : Nat) (hk : 10000 < k) (t : Int) (s : ByteArray) (t' : Int) (s' : ByteArray) : warderref02_Less k t s t' s' = some (ahead (ofv t s) (ofv t' s')) := by
  have hl := ofv_short t s
  have hl' := ofv_short t' s'
  obtain ⟨m, p, e⟩ := rdiff_ok k (by omega) (ofv t s) (ofv t' s') (by omega) (by omega)
  unfold warderref02_Less
  rw [rof_ok k hk, Option.bind_some, rof_ok k hk, Option.bind_some, e, Option.bind_some, ahead_part m _ _ p]
  unfold answer
  have h1 := p.1
  have h2 := p.2.1
  by_cases h : m = (ofv t s).length ∧ m = (ofv t' s').length
  · rw [if_pos h, if_pos (by decide)]
    rw [decide_eq_false (by omega)]
  rw [if_neg h, if_neg (by omega)]
  by_cases h3 : ((ofv t' s').length : Int) ≤ m
  · rw [if_pos h3, decide_eq_false (by omega)]
  rw [if_neg h3]
  unfold warderref02_Less_j0
  by_cases h4 : ((ofv t s).length : Int) ≤ m
  · rw [if_pos h4, decide_eq_true (by omega)]
  rw [if_neg h4]
  refine (ck_pos (by omega)).trans ?_
  refine (ck_pos (by omega)).trans ?_
  rw [Int.toNat_natCast]
  congr 1
  refine Bool.eq_iff_iff.2 (decide_eq_true_iff.trans (Iff.trans ?_ decide_eq_true_iff.symm))
  constructor
  · intro h; exact ⟨by omega, .inr h⟩
  · rintro ⟨_, h | h⟩
    · omega
    · exact h
/-! an index is told by its nibbles -/
theorem nibs_inj : ∀ {l m : List Int}, nibs l = nibs m → l = m
  | [], [], _ => rfl
  | [], _ :: _, h => by have := congrArg List.length h; simp [nibs_length] at this
  | _ :: _, [], h => by have := congrArg List.length h; simp [nibs_length] at this
  | x :: l, y :: m, h => by
    simp only [nibs, List.flatMap_cons, List.cons_append, List.nil_append, List.cons.injEq] at h
    obtain ⟨h1, h2, h3⟩ := h
    rw [nibs_inj (l := l) (m := m) h3, show x = y by omega]
theorem bytesOf_inj {s r : ByteArray} (h : bytesOf s = bytesOf r) : s = r := by
  have h1 : s.data.toList = r.data.toList := by
    unfold bytesOf at h
    generalize s.data.toList = a at h ⊢
    generalize r.data.toList = b at h ⊢
    induction a generalizing b with
    | nil => cases b with
      | nil => rfl
      | cons _ _ => simp at h
    | cons x a ih =>
      cases b with
      | nil => simp at h
      | cons y b =>
        simp only [List.map_cons, List.cons.injEq] at h
        rw [ih b h.2, UInt8.toNat_inj.1 (by omega : x.toNat = y.toNat)]
  exact ByteArray.ext (Array.toList_inj.1 h1)
theorem ofv_parts {t : Int} {s : ByteArray} (h : may t s = true) : ofv t s = [(hashv t s : Int) / 4096, (hashv t s : Int) / 256 % 16, (hashv t s : Int) / 16 % 16, (hashv t s : Int) % 16, (s.size : Int) / 16, (s.size : Int) % 16, t] ++ nibs (bytesOf s) := by
  unfold ofv
  rw [h]
  rfl
theorem ofv_inj {t t' : Int} {s s' : ByteArray} (h : may t s = true) (h' : may t' s' = true) (he : ofv t s = ofv t' s') : t = t' ∧ s = s' := by
  rw [ofv_parts h, ofv_parts h'] at he
  simp only [List.cons_append, List.nil_append, List.cons.injEq] at he
  exact ⟨he.2.2.2.2.2.2.1, bytesOf_inj (nibs_inj he.2.2.2.2.2.2.2)⟩
theorem nibs_range {l : List Int} (hl : ∀ x ∈ l, 0 ≤ x ∧ x < 256) : ∀ x ∈ nibs l, 0 ≤ x ∧ x < 256 := by
  intro x hx
  obtain ⟨c, hc, hx⟩ := List.mem_flatMap.1 hx
  have := hl c hc
  simp only [List.mem_cons, List.not_mem_nil, or_false] at hx
  rcases hx with rfl | rfl <;> omega
theorem ofv_range (t : Int) (s : ByteArray) : ∀ x ∈ ofv t s, 0 ≤ x ∧ x < 256 := by
  intro x hx
  cases hm : may t s with
  | false => unfold ofv at hx; rw [hm] at hx; cases hx
  | true =>
    obtain ⟨h1, h2, _, h4, _⟩ := may_parts hm
    have hh := hashv_lt t s
    rw [ofv_parts hm, List.mem_append] at hx
    rcases hx with hx | hx
    · simp only [List.mem_cons, List.not_mem_nil, or_false] at hx
      rcases hx with rfl | rfl | rfl | rfl | rfl | rfl | rfl <;> omega
    · exact nibs_range (bytesOf_range s) x hx
/-- Where all of one's nibbles begin another one's, they are the same. -/
theorem ofv_prefix {t t' : Int} {s s' : ByteArray} (h : may t s = true) (h' : may t' s' = true) (hp : ∀ j, j < (ofv t s).length → (ofv t s).getD j 0 = (ofv t' s').getD j 0) : (ofv t s).length = (ofv t' s').length := by
  have l1 := ofv_length t s
  have l2 := ofv_length t' s'
  rw [h] at l1
  rw [h'] at l2
  simp only [cond_true] at l1 l2
  have h4 := hp 4 (by omega)
  have h5 := hp 5 (by omega)
  rw [ofv_parts h, ofv_parts h'] at h4 h5
  simp at h4 h5
  omega
theorem is_ok (k : Nat) {t t' : Int} {s s' : ByteArray} (h : may t s = true) (h' : may t' s' = true) (hne : ofv t s ≠ ofv t' s') : warderref02_Is (ofv t s) (ofv t' s') = some false := by
  unfold warderref02_Is
  by_cases hl : ((ofv t s).length : Int) ≤ (ofv t' s').length
  · rw [if_pos hl]
    refine (ck_pos (by omega)).trans ?_
    rw [Int.toNat_natCast]
    congr 1
    refine decide_eq_false (fun he => hne ?_)
    have he2 := (strOf_inj (fun x hx => ofv_range t' s' x (List.mem_of_mem_take hx)) (ofv_range t s)).1 he
    have hp : ∀ j, j < (ofv t s).length → (ofv t s).getD j 0 = (ofv t' s').getD j 0 := by
      intro j hj
      rw [← he2, List.getD_eq_getElem?_getD, List.getD_eq_getElem?_getD, List.getElem?_take, if_pos hj]
    have hlen := ofv_prefix h h' hp
    rw [← he2, hlen, List.take_length]
  · rw [if_neg hl]
theorem NibbleApart_true (x : Int × ByteArray) (_ : (Lit.int .i64 x.1).wf = true ∧ x.2.size ≤ 140737488351232) (y : Int × ByteArray) (_ : (Lit.int .i64 y.1).wf = true ∧ y.2.size ≤ 140737488351232) : ∃ k, warderlaw02_NibbleApart k x.1 x.2 y.1 y.2 = some true := by
  obtain ⟨t, s⟩ := x
  obtain ⟨t', s'⟩ := y
  refine ⟨20000, ?_⟩
  simp only
  unfold warderlaw02_NibbleApart
  rw [known_ok]
  split
  · rfl
  split
  · rfl
  have hl := ofv_short t s
  have hl' := ofv_short t' s'
  obtain ⟨m, p, e⟩ := diff_ok 20000 (by decide) (ofv t s) (ofv t' s') (by omega) (by omega)
  have a1 := ahead_part m _ _ p
  have a2 := ahead_part m _ _ p.symm
  unfold warderlaw02_NibbleApart_j0
  rw [less_ok _ (by decide), less_ok _ (by decide), rless_ok _ (by decide), rless_ok _ (by decide)]
  simp only [Option.bind_some, BEq.rfl, Bool.not_true, cond_false]
  have both : warderlaw02_NibbleApart_j1 20000 t s t' s' (ahead (ofv t s) (ofv t' s')) (ahead (ofv t' s') (ofv t s)) = some true := by
    unfold warderlaw02_NibbleApart_j1
    rw [rmay_ok _ (by decide), rmay_ok _ (by decide), known_ok, Option.bind_some]
    cases hm : may t s with
    | false => rfl
    | true =>
      simp only [Bool.not_true, cond_false, Option.bind_some]
      cases hm' : may t' s' with
      | false => rfl
      | true =>
        simp only [Bool.not_true, cond_false]
        unfold warderlaw02_NibbleApart_j2
        rw [of_ok _ (by decide), of_ok _ (by decide), Option.bind_some, Option.bind_some, e, Option.bind_some]
        by_cases hxy : t = t' ∧ s = s'
        · obtain ⟨rfl, rfl⟩ := hxy
          have hmm : m = (ofv t s).length := p.uniq ⟨Nat.le_refl _, Nat.le_refl _, fun _ _ => rfl, fun h => by omega⟩
          have ha : answer (ofv t s) (ofv t s) m = -1 := by unfold answer; rw [if_pos ⟨hmm, hmm⟩]
          rw [ha, ahead_irr]
          simp only [and_self, decide_true, BEq.rfl]
          unfold warderlaw02_NibbleApart_j3
          rw [if_pos ⟨rfl, rfl⟩, known_ok]
          rfl
        · have hne : ofv t s ≠ ofv t' s' := fun h => hxy (ofv_inj hm hm' h)
          have hm1 : m < (ofv t s).length := by
            rcases Nat.lt_or_ge m (ofv t s).length with h | h
            · exact h
            · exfalso
              have hma : m = (ofv t s).length := by have := p.1; omega
              subst hma
              exact hne (Part.eq p (ofv_prefix hm hm' p.2.2.1))
          have hm2 : m < (ofv t' s').length := by
            rcases Nat.lt_or_ge m (ofv t' s').length with h | h
            · exact h
            · exfalso
              have hma : m = (ofv t' s').length := by have := p.2.1; omega
              subst hma
              exact hne (Part.eq p.symm (ofv_prefix hm' hm p.symm.2.2.1)).symm
          have hd := p.2.2.2 hm1 hm2
          have ha : answer (ofv t s) (ofv t' s') m = m := by unfold answer; rw [if_neg (by omega)]
          rw [ha, decide_eq_false hxy, decide_eq_false (show ¬ ((m : Int) < 0) by omega)]
          have j3 : warderlaw02_NibbleApart_j3 20000 t s t' s' (ahead (ofv t s) (ofv t' s')) (ofv t s) m (ofv t' s') = some true := by
            unfold warderlaw02_NibbleApart_j3
            rw [if_neg hxy, is_ok 0 hm hm' hne, Option.bind_some, cond_false, is_ok 0 hm' hm hne.symm, Option.bind_some, cond_false, if_neg (by omega), if_neg (by omega)]
            refine (ck_pos (by omega)).trans ?_
            refine (ck_pos (by omega)).trans ?_
            rw [Int.toNat_natCast, known_ok, a1]
            have : decide ((ofv t s).getD m 0 < (ofv t' s').getD m 0) = decide (m < (ofv t' s').length ∧ ((ofv t s).length ≤ m ∨ (ofv t s).getD m 0 < (ofv t' s').getD m 0)) := by
              refine Bool.eq_iff_iff.2 (decide_eq_true_iff.trans (Iff.trans ?_ decide_eq_true_iff.symm))
              constructor
              · intro h; exact ⟨hm2, .inr h⟩
              · rintro ⟨_, h | h⟩
                · omega
                · exact h
            rw [this]
            simp
          have tri : ahead (ofv t s) (ofv t' s') = true ∨ ahead (ofv t' s') (ofv t s) = true := by
            rw [a1, a2]
            rcases Int.lt_trichotomy ((ofv t s).getD m 0) ((ofv t' s').getD m 0) with h | h | h
            · exact .inl (decide_eq_true ⟨hm2, .inr h⟩)
            · exact absurd h hd
            · exact .inr (decide_eq_true ⟨hm1, .inr h⟩)
          cases h3 : ahead (ofv t s) (ofv t' s') with
          | true => rw [h3] at j3; simp only [BEq.rfl, Bool.not_true, cond_false, cond_true]; exact j3
          | false =>
            rw [h3] at j3 tri
            have h4 : ahead (ofv t' s') (ofv t s) = true := by simpa using tri
            rw [h4]
            simp only [BEq.rfl, Bool.not_true, cond_false]
            exact j3
  cases h3 : ahead (ofv t s) (ofv t' s') with
  | false => rw [h3] at both; exact both
  | true =>
    cases h4 : ahead (ofv t' s') (ofv t s) with
    | true =>
      have := ahead_trans h3 h4
      rw [ahead_irr] at this
      cases this
    | false => rw [h3, h4] at both; exact both
end Go.Proofs.Ytmljbiijlljhfaa
