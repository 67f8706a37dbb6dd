/- Own work. A part of the proof of a law of this seat: a part -/
import Derived.Test.YtidhcbnplgbnoaaMx29
/- A region whose order is drawn: what is known of its operations by the text alone. -/
namespace Go.Mx
open Go Go.RowKit Go.Sx

theorem reachT_lt : ∀ (r : List Oper) (T : List (List Nat)), (∀ i, ∀ j ∈ T.getD i [], j < i) → ∀ i, ∀ j ∈ (reachT r T).getD i [], j < i
  | [], T, h => h
  | o :: r, T, h => by
    unfold reachT
    refine reachT_lt r _ ?_
    intro i j hj
    rcases Nat.lt_trichotomy i T.length with hl | hl | hl
    · rw [List.getD_eq_getElem?_getD, List.getElem?_append, if_pos hl] at hj
      exact h i j (by rwa [List.getD_eq_getElem?_getD])
    · subst hl
      rw [List.getD_eq_getElem?_getD, List.getElem?_append, if_neg (by omega), Nat.sub_self] at hj
      simp only [List.getElem?_cons_zero, Option.getD_some, List.mem_filter, List.mem_range] at hj
      exact hj.1
    · rw [List.getD_eq_getElem?_getD, List.getElem?_eq_none (by simp; omega)] at hj
      simp at hj
theorem noClash_ok {T : List (List Nat)} : ∀ {l : List Log}, noClash T l = true → ∀ {a b : Log}, a ∈ l → b ∈ l → a.i ≠ b.i → apart T a b = true ∨ apart T b a = true
  | [], _, a, b, ha, _, _ => by cases ha
  | c :: l, h, a, b, ha, hb, hne => by
    rw [noClash, Bool.and_eq_true] at h
    rcases List.mem_cons.1 ha with e1 | ha'
    · rcases List.mem_cons.1 hb with e2 | hb'
      · exact absurd (by rw [e1, e2]) hne
      · rw [e1]; exact .inl (List.all_eq_true.1 h.1 b hb')
    · rcases List.mem_cons.1 hb with e2 | hb'
      · rw [e2]; exact .inr (List.all_eq_true.1 h.1 a ha')
      · exact noClash_ok h.2 ha' hb' hne
theorem apart_ok {T : List (List Nat)} {a b : Log} (h : apart T a b = true ∨ apart T b a = true) : b.i ∈ T.getD a.i [] ∨ a.i ∈ T.getD b.i [] ∨ (bears a b = true ∧ bears b a = true) := by
  unfold apart at h
  simp only [Bool.or_eq_true, Bool.and_eq_true, List.contains_iff_mem] at h
  rcases h with ((h | h) | h) | ((h | h) | h)
  · exact .inl h
  · exact .inr (.inl h)
  · exact .inr (.inr h)
  · exact .inr (.inl h)
  · exact .inl h
  · exact .inr (.inr ⟨h.2, h.1⟩)
theorem disj_ok {a b : List Nat} (h : disj a b = true) {x : Nat} (ha : x ∈ a) (hb : x ∈ b) : False := by
  have := List.all_eq_true.1 h x ha
  simp only [Bool.not_eq_true', Bool.eq_false_iff, ne_eq, List.contains_iff_mem] at this
  exact this hb
theorem outs_ok {a : Log} {l : List Nat} (h : outs a l = true) {x : Nat} (hx : x ∈ l) (h1 : a.lo ≤ x) (h2 : x < a.hi) : False := by
  unfold outs at h
  rw [Bool.or_eq_true] at h
  rcases h with h | h
  · have := Nat.eq_of_beq_eq_true h; omega
  · have := List.all_eq_true.1 h x hx
    rw [Bool.or_eq_true] at this
    rcases this with h | h
    · rw [Nat.blt_eq] at h; omega
    · have := Nat.le_of_ble_eq_true h; omega
theorem whoSets_some {t : Nat} : ∀ {l : List Oper} {i k : Nat}, whoSets t l i = some k → i ≤ k ∧ ∃ o, l[k - i]? = some o ∧ o.dst = some t
  | [], _, _, h => by cases h
  | o :: l, i, k, h => by
    have rc : whoSets t l (i + 1) = some k → i ≤ k ∧ ∃ o', (o :: l)[k - i]? = some o' ∧ o'.dst = some t := by
      intro h
      obtain ⟨h1, o', h2, h3⟩ := whoSets_some h
      exact ⟨by omega, o', by rw [show k - i = (k - (i + 1)) + 1 by omega]; exact h2, h3⟩
    unfold whoSets at h
    split at h
    · rename_i d hd
      cases hb : Nat.beq d t with
      | true =>
        rw [hb] at h
        obtain rfl := Option.some.inj h
        exact ⟨Nat.le_refl _, o, by rw [Nat.sub_self]; rfl, by rw [hd, Nat.eq_of_beq_eq_true hb]⟩
      | false => rw [hb] at h; exact rc h
    · exact rc h
theorem whoSets_none {t : Nat} : ∀ {l : List Oper} {i : Nat}, whoSets t l i = none → ∀ (k : Nat) (o : Oper), l[k]? = some o → o.dst ≠ some t
  | [], _, _, k, o, hk => by simp at hk
  | p :: l, i, h, k, o, hk => by
    unfold whoSets at h
    cases k with
    | zero =>
      obtain rfl := Option.some.inj hk
      intro e
      simp only [e, Nat.beq_refl, cond_true] at h
      cases h
    | succ k =>
      split at h
      · rename_i d hd
        cases hb : Nat.beq d t with
        | true => rw [hb] at h; cases h
        | false => rw [hb] at h; exact whoSets_none h k o hk
      · exact whoSets_none h k o hk
theorem dsts_mem {t : Nat} : ∀ {l : List Oper} {k : Nat} {o : Oper}, l[k]? = some o → o.dst = some t → t ∈ dsts l
  | [], k, o, h, _ => by simp at h
  | p :: l, k, o, h, hd => by
    unfold dsts
    cases k with
    | zero =>
      obtain rfl := Option.some.inj h
      rw [hd]
      exact List.mem_cons_self ..
    | succ k =>
      have := dsts_mem (l := l) h hd
      split
      · exact List.mem_cons_of_mem _ this
      · exact this
theorem dsts_uniq {t : Nat} : ∀ {l : List Oper}, (dsts l).Nodup → ∀ {i j : Nat} {o o' : Oper}, l[i]? = some o → l[j]? = some o' → o.dst = some t → o'.dst = some t → i = j
  | [], _, i, j, o, o', hi, _, _, _ => by simp at hi
  | p :: l, h, i, j, o, o', hi, hj, h1, h2 => by
    have hl : (dsts l).Nodup := by
      unfold dsts at h
      split at h
      · exact (List.nodup_cons.1 h).2
      · exact h
    cases i with
    | zero =>
      obtain rfl := Option.some.inj hi
      cases j with
      | zero => rfl
      | succ j =>
        have := dsts_mem (l := l) hj h2
        unfold dsts at h
        rw [h1] at h
        exact absurd this (List.nodup_cons.1 h).1
    | succ i =>
      cases j with
      | zero =>
        obtain rfl := Option.some.inj hj
        have := dsts_mem (l := l) hi h1
        unfold dsts at h
        rw [h2] at h
        exact absurd this (List.nodup_cons.1 h).1
      | succ j => rw [dsts_uniq hl (i := i) (j := j) hi hj h1 h2]
theorem rdOk_ok {all : List Oper} {T : List (List Nat)} : ∀ {l : List Oper} {n i : Nat} {o : Oper}, rdOk all T l n = true → l[i]? = some o → ∀ t ∈ reads all o, ∀ k, whoSets t all 0 = some k → k ∈ T.getD (n + i) [] ∨ n + i ∈ T.getD k [] ∨ k = n + i
  | [], _, i, o, _, h => by simp at h
  | p :: l, n, 0, o, hr, h => by
    obtain rfl := Option.some.inj h
    rw [rdOk, Bool.and_eq_true] at hr
    intro t ht k hk
    have := List.all_eq_true.1 hr.1 t ht
    rw [hk] at this
    simp only [Bool.or_eq_true, List.contains_iff_mem] at this
    rw [Nat.add_zero]
    rcases this with (h | h) | h
    · exact .inl h
    · exact .inr (.inl h)
    · exact .inr (.inr (Nat.eq_of_beq_eq_true h))
  | p :: l, n, i + 1, o, hr, h => by
    rw [rdOk, Bool.and_eq_true] at hr
    have := rdOk_ok (n := n + 1) (i := i) hr.2 h
    rwa [show n + 1 + i = n + (i + 1) by omega] at this

structure Txt (P : Program) (Γ : Sums) (all : List Oper) (D : Nat → Dat) : Prop where
  rows : ∀ j o, all[j]? = some o → RowOk P Γ all D j o
  reg : regOk all = true
  sep : ∀ i j, i < all.length → j < all.length → i ≠ j → (D i).ran = true → (D j).ran = true → i ∈ (reachT all []).getD j [] ∨ j ∈ (reachT all []).getD i [] ∨ bears (D i).g (D j).g = true
  ini : ∀ (x : Nat) (o : AO), (D 0).s.ob[x]? = some o → ∀ id ∈ o.ids, id < (D 0).s.ob.length
  inis : ∀ (t : Nat) (v : AV), lookA t (D 0).s.sl = some v → ∀ id ∈ v.ids, id < (D 0).s.ob.length
section
variable {P : Program} {Γ : Sums} {all : List Oper} {D : Nat → Dat}
abbrev nO (D : Nat → Dat) (i : Nat) : Nat := (D i).s.ob.length
/-- the k-th writes, or makes, x -/
def Wrt (D : Nat → Dat) (k x : Nat) : Prop := (D k).ran = true ∧ (x ∈ (D k).g.ws ∨ (nO D k ≤ x ∧ x < nO D (k + 1)))
def Rl (all : List Oper) (j i : Nat) : Prop := j ∈ (reachT all []).getD i []
theorem Rl.lt {j i : Nat} (h : Rl all j i) : j < i := reachT_lt all [] (fun i j h => by simp at h) i j h
theorem Txt.row (h : Txt P Γ all D) {i : Nat} (hi : i < all.length) : ∃ o, all[i]? = some o ∧ RowOk P Γ all D i o := ⟨_, List.getElem?_eq_getElem hi, h.rows i _ (List.getElem?_eq_getElem hi)⟩
theorem Txt.n1 (h : Txt P Γ all D) {i : Nat} (hi : i < all.length) : nO D i ≤ nO D (i + 1) ∧ ((D i).ran = true → nO D (i + 1) = (D i).X.length) ∧ ((D i).ran = false → (D (i + 1)).s.ob = (D i).s.ob) := by
  obtain ⟨o, _, sl, _, _, _, hr | hn⟩ := h.row hi
  · have e : nO D (i + 1) = (D i).X.length := by unfold nO; rw [hr.ob, mergeO_len _ _ _ hr.len]
    exact ⟨by rw [e]; exact hr.len, fun _ => e, fun hf => (by rw [hr.ran] at hf; cases hf)⟩
  · exact ⟨by unfold nO; rw [hn.ob]; exact Nat.le_refl _, fun hf => (by rw [hn.ran] at hf; cases hf), fun _ => hn.ob⟩
theorem Txt.mono (h : Txt P Γ all D) {i : Nat} : ∀ {j : Nat}, i ≤ j → j ≤ all.length → nO D i ≤ nO D j
  | 0, hij, _ => by rw [show i = 0 by omega]; exact Nat.le_refl _
  | j + 1, hij, hj => by
    rcases Nat.lt_or_ge j i with hl | hl
    · rw [show i = j + 1 by omega]; exact Nat.le_refl _
    · exact Nat.le_trans (h.mono hl (by omega)) (h.n1 (by omega)).1
/-- what an operation that was done was -/
theorem Txt.ran (h : Txt P Γ all D) {i : Nat} (hi : i < all.length) (hr : (D i).ran = true) : ∃ o sl, all[i]? = some o ∧ (∀ t, lookA t sl = lookA t (D i).s.sl) ∧ Ran P Γ all D i o sl := by
  obtain ⟨o, ho, sl, h1, _, _, h2 | h2⟩ := h.row hi
  · exact ⟨o, sl, ho, h1, h2⟩
  · rw [h2.ran] at hr; cases hr
theorem Txt.wlt (h : Txt P Γ all D) {k x : Nat} (hk : k < all.length) (hw : Wrt D k x) : x < nO D (k + 1) := by
  rcases hw.2 with h1 | h1
  · obtain ⟨o, sl, _, _, hr⟩ := h.ran hk hw.1
    obtain ⟨o', h2, _⟩ := hr.ws x h1
    exact Nat.lt_of_lt_of_le (List.getElem?_eq_some_iff.1 h2).1 (h.n1 hk).1
  · exact h1.2
theorem Txt.keep (h : Txt P Γ all D) {k x : Nat} (hk : k < all.length) (hw : ¬ Wrt D k x) (hx : x < nO D k) : (D (k + 1)).s.ob[x]? = (D k).s.ob[x]? := by
  cases hr : (D k).ran with
  | false => rw [(h.n1 hk).2.2 hr]
  | true =>
    obtain ⟨o, sl, _, _, hR⟩ := h.ran hk hr
    rw [hR.ob, mergeO_at _ _ _ _ hR.len, if_pos]
    refine ⟨hx, ?_⟩
    rw [Nat.zero_add, Bool.eq_false_iff, ne_eq, List.contains_iff_mem]
    exact fun hm => hw ⟨hr, .inl hm⟩
theorem Txt.keeps (h : Txt P Γ all D) {p x : Nat} (hx : x < nO D p) : ∀ {q : Nat}, p ≤ q → q ≤ all.length → (∀ k, p ≤ k → k < q → ¬ Wrt D k x) → (D q).s.ob[x]? = (D p).s.ob[x]?
  | 0, hpq, _, _ => by rw [show p = 0 by omega]
  | q + 1, hpq, hq, hw => by
    rcases Nat.lt_or_ge q p with hl | hl
    · rw [show p = q + 1 by omega]
    · rw [h.keep (by omega) (hw q hl (by omega)) (Nat.lt_of_lt_of_le hx (h.mono hl (by omega)))]
      exact h.keeps hx hl (by omega) (fun k h1 h2 => hw k h1 (by omega))
theorem Txt.wrote (h : Txt P Γ all D) {k x : Nat} (hk : k < all.length) (hw : Wrt D k x) : (D (k + 1)).s.ob[x]? = ((D k).X[x]?).map newO := by
  obtain ⟨o, sl, _, _, hR⟩ := h.ran hk hw.1
  rw [hR.ob, mergeO_at _ _ _ _ hR.len, if_neg]
  rintro ⟨h1, h2⟩
  rcases hw.2 with h3 | h3
  · rw [Nat.zero_add, Bool.eq_false_iff, ne_eq, List.contains_iff_mem] at h2
    exact h2 h3
  · have := h3.1
    unfold nO at this
    omega
theorem newO_ids {o : AO} {i : Nat} (h : i ∈ (newO o).ids) : i ∈ o.ids := by
  unfold newO at h
  cases hs : o.sure with
  | true => rw [hs] at h; exact h
  | false => rw [hs] at h; cases h
theorem Txt.usO (h : Txt P Γ all D) {k x : Nat} {o : AO} (hk : k < all.length) (hw : Wrt D k x) (ho : (D (k + 1)).s.ob[x]? = some o) : ∀ id ∈ o.ids, id ∈ (D k).g.us := by
  rw [h.wrote hk hw] at ho
  obtain ⟨p, sl, _, _, hR⟩ := h.ran hk hw.1
  cases hx : (D k).X[x]? with
  | none => rw [hx] at ho; cases ho
  | some o' =>
    rw [hx] at ho
    obtain rfl := Option.some.inj ho
    intro id hid
    rw [hR.us]
    refine List.mem_append_right _ (idsM_mem _ 0 x o' hx ?_ id (newO_ids hid))
    rw [Nat.zero_add]
    rcases hw.2 with h3 | h3
    · exact .inl (List.contains_iff_mem.2 h3)
    · exact .inr h3.1
theorem Txt.usV (h : Txt P Γ all D) {k : Nat} (hk : k < all.length) (hr : (D k).ran = true) : ∀ id ∈ (D k).v.ids, id ∈ (D k).g.us := by
  obtain ⟨p, sl, _, _, hR⟩ := h.ran hk hr
  intro id hid
  rw [hR.us]
  exact List.mem_append_left _ hid
/-- who made it -/
theorem Txt.made (h : Txt P Γ all D) {id : Nat} : ∀ {q : Nat}, q ≤ all.length → id < nO D q → id < nO D 0 ∨ ∃ j, j < q ∧ (D j).ran = true ∧ nO D j ≤ id ∧ id < nO D (j + 1)
  | 0, _, hid => .inl hid
  | q + 1, hq, hid => by
    rcases Nat.lt_or_ge id (nO D q) with hl | hl
    · rcases h.made (by omega) hl with h1 | ⟨j, h1, h2⟩
      · exact .inl h1
      · exact .inr ⟨j, by omega, h2⟩
    · cases hr : (D q).ran with
      | false => unfold nO at hid hl; rw [(h.n1 (by omega)).2.2 hr] at hid; omega
      | true => exact .inr ⟨q, by omega, hr, hl, hid⟩
theorem Txt.us_lt (h : Txt P Γ all D) {k id : Nat} (hk : k < all.length) (hr : (D k).ran = true) (hid : id ∈ (D k).g.us) : id < nO D (k + 1) := by
  obtain ⟨p, sl, _, _, hR⟩ := h.ran hk hr
  rw [(h.n1 hk).2.1 hr]
  exact hR.lt id hid
theorem Txt.usCr (h : Txt P Γ all D) {k id : Nat} (hk : k < all.length) (hr : (D k).ran = true) (hid : id ∈ (D k).g.us) : id < nO D 0 ∨ ∃ j, (j = k ∨ Rl all j k) ∧ j < all.length ∧ (D j).ran = true ∧ nO D j ≤ id ∧ id < nO D (j + 1) := by
  rcases h.made (show k + 1 ≤ all.length by omega) (h.us_lt hk hr hid) with h1 | ⟨j, h1, h2, h3, h4⟩
  · exact .inl h1
  · refine .inr ⟨j, ?_, by omega, h2, h3, h4⟩
    by_cases hjk : j = k
    · exact .inl hjk
    · rcases h.sep j k (by omega) hk hjk h2 hr with h5 | h5 | h5
      · exact .inr h5
      · have := Rl.lt h5; omega
      · exfalso
        unfold bears at h5
        simp only [Bool.and_eq_true] at h5
        obtain ⟨p, sl, _, _, hR⟩ := h.ran (show j < all.length by omega) h2
        exact outs_ok h5.2 hid (by rw [hR.lo]; exact h3) (by rw [hR.hi, ← (h.n1 (by omega)).2.1 h2]; exact h4)
theorem Txt.clash (h : Txt P Γ all D) {k i x : Nat} (hk : k < all.length) (hi : i < all.length) (hr : (D i).ran = true) (hw : Wrt D k x) (hx : x ∈ (D i).g.ts ∨ x ∈ (D i).g.ws) (hne : k ≠ i) : Rl all k i ∨ Rl all i k := by
  rcases h.sep k i hk hi hne hw.1 hr with h1 | h1 | h1
  · exact .inl h1
  · exact .inr h1
  · exfalso
    unfold bears at h1
    simp only [Bool.and_eq_true] at h1
    obtain ⟨⟨⟨⟨h1, h2⟩, h3⟩, h4⟩, _⟩ := h1
    obtain ⟨p, sl, _, _, hR⟩ := h.ran hk hw.1
    rcases hw.2 with hw' | hw'
    · exact hx.elim (disj_ok h1 hw') (disj_ok h2 hw')
    · have e1 : (D k).g.lo ≤ x := by rw [hR.lo]; exact hw'.1
      have e2 : x < (D k).g.hi := by rw [hR.hi, ← (h.n1 hk).2.1 hw.1]; exact hw'.2
      exact hx.elim (fun hx => outs_ok h3 hx e1 e2) (fun hx => outs_ok h4 hx e1 e2)
/-- two that write the same -/
theorem Txt.clashW (h : Txt P Γ all D) {k i x : Nat} (hk : k < all.length) (hi : i < all.length) (h1 : Wrt D k x) (h2 : Wrt D i x) (hne : k ≠ i) : Rl all k i ∨ Rl all i k := by
  rcases h2.2 with hx | hx
  · exact h.clash hk hi h2.1 h1 (.inr hx) hne
  · rcases h1.2 with hy | hy
    · exact (h.clash hi hk h1.1 h2 (.inr hy) (fun e => hne e.symm)).symm
    · exfalso
      rcases Nat.lt_or_gt_of_ne hne with hl | hl
      · have := h.mono (show k + 1 ≤ i by omega) (by omega); omega
      · have := h.mono (show i + 1 ≤ k by omega) (by omega); omega
/-- what a slot holds ahead of the i-th -/
theorem Txt.slot (h : Txt P Γ all D) : ∀ {i : Nat}, i ≤ all.length → ∀ {t : Nat} {v : AV}, lookA t (D i).s.sl = some v → (∃ (k : Nat) (o : Oper), k < i ∧ all[k]? = some o ∧ o.dst = some t ∧ v = (D k).v) ∨ ((∀ (k : Nat) (o : Oper), k < i → all[k]? = some o → o.dst ≠ some t) ∧ lookA t (D 0).s.sl = some v)
  | 0, _, t, v, hv => .inr ⟨fun k o hk => by omega, hv⟩
  | i + 1, hi, t, v, hv => by
    obtain ⟨o, ho, sl, h1, h2, _, _⟩ := h.row (show i < all.length by omega)
    rw [h2] at hv
    have old : ¬ o.dst = some t → lookA t (D i).s.sl = some v → (∃ (k : Nat) (o : Oper), k < i + 1 ∧ all[k]? = some o ∧ o.dst = some t ∧ v = (D k).v) ∨ ((∀ (k : Nat) (o : Oper), k < i + 1 → all[k]? = some o → o.dst ≠ some t) ∧ lookA t (D 0).s.sl = some v) := by
      intro hne hv
      rcases h.slot (by omega) hv with ⟨k, o', g1, g2⟩ | ⟨g1, g2⟩
      · exact .inl ⟨k, o', by omega, g2⟩
      · refine .inr ⟨fun k o' hk ho' => ?_, g2⟩
        by_cases hki : k = i
        · subst hki
          rw [ho] at ho'
          obtain rfl := Option.some.inj ho'
          exact hne
        · exact g1 k o' (by omega) ho'
    cases hd : o.dst with
    | none =>
      rw [hd] at hv
      have hv : lookA t sl = some v := hv
      exact old (by rw [hd]; simp) (by rw [← h1]; exact hv)
    | some d =>
      rw [hd] at hv
      have hv : lookA t ((d, (D i).v) :: sl) = some v := hv
      rw [look_cons] at hv
      by_cases e : d = t
      · rw [if_pos e] at hv
        exact .inl ⟨i, o, by omega, ho, by rw [hd, e], (Option.some.inj hv).symm⟩
      · rw [if_neg e] at hv
        exact old (by rw [hd]; simpa using e) (by rw [← h1]; exact hv)
end
end Go.Mx
