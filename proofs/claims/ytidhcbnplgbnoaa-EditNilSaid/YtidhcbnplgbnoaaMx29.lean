/- Own work. A part of the proof of a law of this seat: a part -/
import Derived.Test.YtidhcbnplgbnoaaMx28
/- A region whose order is drawn: what its operations do, told in the text's order. -/
namespace Go.Mx
open Go Go.RowKit Go.Sx

theorem mergeO_len {ws : List Nat} : ∀ (S X : List AO) (i : Nat), S.length ≤ X.length → (mergeO ws S X i).length = X.length
  | [], X, i, _ => by unfold mergeO; rw [newL_len]
  | _ :: _, [], _, h => by simp at h
  | o :: S, n :: X, i, h => by rw [mergeO, List.length_cons, mergeO_len S X (i + 1) (by simpa using h), List.length_cons]
theorem newL_at : ∀ (l : List AO) (j : Nat), (newL l)[j]? = (l[j]?).map newO
  | [], j => by simp [newL]
  | o :: l, 0 => rfl
  | o :: l, j + 1 => newL_at l j
theorem mergeO_at {ws : List Nat} : ∀ (S X : List AO) (i x : Nat), S.length ≤ X.length → (mergeO ws S X i)[x]? = if x < S.length ∧ ws.contains (i + x) = false then S[x]? else (X[x]?).map newO
  | [], X, i, x, _ => by unfold mergeO; rw [newL_at]; simp
  | _ :: _, [], _, _, h => by simp at h
  | o :: S, n :: X, i, x, h => by
    rw [mergeO]
    cases x with
    | zero =>
      rw [Nat.add_zero]
      cases hc : ws.contains i with
      | true => simp
      | false => simp
    | succ x =>
      rw [List.getElem?_cons_succ, mergeO_at S X (i + 1) x (by simpa using h)]
      simp only [List.length_cons, Nat.add_lt_add_iff_right, List.getElem?_cons_succ, show i + (x + 1) = i + 1 + x by omega]
theorem idsM_mem {ws : List Nat} {n : Nat} : ∀ (X : List AO) (i x : Nat) (o : AO), X[x]? = some o → (ws.contains (i + x) = true ∨ n ≤ i + x) → ∀ id ∈ o.ids, id ∈ idsM ws n X i
  | [], _, _, _, h, _, _, _ => by simp at h
  | p :: X, i, x, o, h, hc, id, hid => by
    unfold idsM
    cases x with
    | zero =>
      obtain rfl := Option.some.inj h
      have : (ws.contains i || Nat.ble n i) = true := by
        rw [Bool.or_eq_true]
        exact hc.imp (fun h => by simpa using h) (fun h => Nat.ble_eq_true_of_le (by simpa using h))
      rw [this, cond_true]
      exact List.mem_append_left _ hid
    | succ x =>
      have := idsM_mem (ws := ws) (n := n) X (i + 1) x o h (by rwa [show i + 1 + x = i + (x + 1) by omega]) id hid
      cases (ws.contains i || Nat.ble n i) with
      | true => exact List.mem_append_right _ this
      | false => exact this
theorem mineL_ok {ob : List AO} : ∀ {l : List Nat} {x : Nat}, x ∈ mineL ob l → ∃ o, ob[x]? = some o ∧ o.mine = true
  | [], x, h => by cases h
  | i :: l, x, h => by
    unfold mineL at h
    split at h
    · rename_i o ho
      cases hm : o.mine with
      | true =>
        rw [hm, cond_true] at h
        rcases List.mem_cons.1 h with rfl | h
        · exact ⟨o, ho, hm⟩
        · exact mineL_ok h
      | false => rw [hm, cond_false] at h; exact mineL_ok h
    · exact mineL_ok h
theorem maskO_len {ts ws : List Nat} : ∀ (S : List AO) (i : Nat), (maskO ts ws S i).length = S.length
  | [], _ => rfl
  | o :: S, i => by rw [maskO, List.length_cons, maskO_len S (i + 1), List.length_cons]
theorem maskO_at {ts ws : List Nat} : ∀ (S : List AO) (i x : Nat) (o1 : AO), (maskO ts ws S i)[x]? = some o1 → ∃ o, S[x]? = some o ∧ ((ws.contains (i + x) = true ∧ o1 = o) ∨ (ws.contains (i + x) = false ∧ ((ts.contains (i + x) = true ∧ o1 = o.lent) ∨ o1 = .gone)))
  | [], _, x, o1, h => by simp [maskO] at h
  | o :: S, i, 0, o1, h => by
    obtain rfl := Option.some.inj h
    refine ⟨o, rfl, ?_⟩
    rw [Nat.add_zero]
    cases hw : ws.contains i with
    | true => exact .inl ⟨rfl, rfl⟩
    | false =>
      refine .inr ⟨rfl, ?_⟩
      cases ht : ts.contains i with
      | true => exact .inl ⟨rfl, rfl⟩
      | false => exact .inr rfl
  | o :: S, i, x + 1, o1, h => by
    have := maskO_at S (i + 1) x o1 h
    rwa [show i + 1 + x = i + (x + 1) by omega] at this
theorem pickR_ok : ∀ {l : List Nat} {s : Slots} {t : Nat} {v : AV}, lookA t (pickR l s) = some v → t ∈ l ∧ lookA t s = some v
  | [], s, t, v, h => by cases h
  | i :: l, s, t, v, h => by
    unfold pickR at h
    split at h
    · rename_i u hu
      rw [look_cons] at h
      by_cases e : i = t
      · rw [if_pos e] at h
        subst e
        exact ⟨by simp, by rw [hu]; exact h⟩
      · rw [if_neg e] at h
        obtain ⟨h1, h2⟩ := pickR_ok h
        exact ⟨by simp [h1], h2⟩
    · obtain ⟨h1, h2⟩ := pickR_ok h
      exact ⟨by simp [h1], h2⟩

/-! ### the operations, one by one, told -/
structure Dat where
  s : St
  ran : Bool
  v : AV
  X : List AO
  g : Log
def On (all : List Oper) (o : Oper) (s : Slots) : Prop := o.guard = none ∨ ∃ d b, d ∈ guardT all o ∧ lookA d s = some (.dat .bool b) ∧ ∀ a : Act, a.tmps.getD d undef = .bool b → Region.wanted o (yielded all.toArray a.tmps) = true
def Off (all : List Oper) (o : Oper) (s : Slots) : Prop := ∃ d v, d ∈ guardT all o ∧ lookA d s = some v ∧ (v = .undef ∨ ∃ b, v = .dat .bool b) ∧ ∀ (x : Cx) (a : Act), VR x v (a.tmps.getD d undef) → Region.wanted o (yielded all.toArray a.tmps) = false
structure Ran (P : Program) (Γ : Sums) (all : List Oper) (D : Nat → Dat) (i : Nat) (o : Oper) (sl : Slots) : Prop where
  ran : (D i).ran = true
  on : On all o (D i).s.sl
  op : opA P Γ o (pickR (reads all o) sl) (maskO (D i).g.ts (D i).g.ws (D i).s.ob 0) (fun v ob => some (v, ob)) = some ((D i).v, (D i).X)
  ws : ∀ x ∈ (D i).g.ws, ∃ o, (D i).s.ob[x]? = some o ∧ o.mine = true
  len : (D i).s.ob.length ≤ (D i).X.length
  us : (D i).g.us = (D i).v.ids ++ idsM (D i).g.ws (D i).s.ob.length (D i).X 0
  lt : ∀ x ∈ (D i).g.us, x < (D i).X.length
  ob : (D (i + 1)).s.ob = mergeO (D i).g.ws (D i).s.ob (D i).X 0
  lo : (D i).g.lo = (D i).s.ob.length
  hi : (D i).g.hi = (D i).X.length
structure Not (all : List Oper) (D : Nat → Dat) (i : Nat) (o : Oper) : Prop where
  ran : (D i).ran = false
  off : Off all o (D i).s.sl
  v : (D i).v = .undef
  ob : (D (i + 1)).s.ob = (D i).s.ob
def RowOk (P : Program) (Γ : Sums) (all : List Oper) (D : Nat → Dat) (i : Nat) (o : Oper) : Prop :=
  ∃ sl, (∀ t, lookA t sl = lookA t (D i).s.sl) ∧ (∀ t, lookA t (D (i + 1)).s.sl = lookA t (putS o.dst (D i).v sl)) ∧ (D i).g.i = i ∧ (Ran P Γ all D i o sl ∨ Not all D i o)
theorem RowOk.congr {P : Program} {Γ : Sums} {all : List Oper} {D D' : Nat → Dat} {i : Nat} {o : Oper} (h : RowOk P Γ all D i o) (e1 : D' i = D i) (e2 : D' (i + 1) = D (i + 1)) : RowOk P Γ all D' i o := by
  obtain ⟨sl, h1, h2, h3, h4⟩ := h
  refine ⟨sl, by rw [e1]; exact h1, by rw [e1, e2]; exact h2, by rw [e1]; exact h3, ?_⟩
  rcases h4 with h | h
  · exact .inl ⟨by rw [e1]; exact h.ran, by rw [e1]; exact h.on, by rw [e1]; exact h.op, by rw [e1]; exact h.ws, by rw [e1]; exact h.len, by rw [e1]; exact h.us, by rw [e1]; exact h.lt, by rw [e1, e2]; exact h.ob, by rw [e1]; exact h.lo, by rw [e1]; exact h.hi⟩
  · exact .inr ⟨by rw [e1]; exact h.ran, by rw [e1]; exact h.off, by rw [e1]; exact h.v, by rw [e1, e2]; exact h.ob⟩
theorem ops_rows {R : Type} {P : Program} {Γ : Sums} {all : List Oper} {r : R} {K : St → List Log → Option R} : ∀ (rest : List Oper) (i : Nat) (s : St) (l : List Log), (∀ j, rest[j]? = all[i + j]?) → opsA P Γ all true rest i s l K = some r →
    ∃ (D : Nat → Dat) (l' : List Log), (D i).s = s ∧ (∀ j o, i ≤ j → all[j]? = some o → RowOk P Γ all D j o) ∧ K (D (i + rest.length)).s l' = some r ∧ (∀ x ∈ l, x ∈ l') ∧ ∀ j, i ≤ j → j < i + rest.length → (D j).ran = true → (D j).g ∈ l'
  | [], i, s, l, he, h => by
    refine ⟨fun _ => ⟨s, false, .undef, [], ⟨0, [], [], 0, 0, []⟩⟩, l, rfl, fun j o hj ho => ?_, h, fun x hx => hx, fun j h1 h2 => by simp at h2; omega⟩
    have := he (j - i)
    rw [show i + (j - i) = j by omega, ho] at this
    simp at this
  | o :: rest, i, s, l, he, h => by
    have he0 : all[i]? = some o := by have := he 0; rw [Nat.add_zero] at this; rw [← this]; rfl
    have he' : ∀ j, rest[j]? = all[i + 1 + j]? := fun j => by have := he (j + 1); rw [show i + (j + 1) = i + 1 + j by omega] at this; rw [← this]; rfl
    unfold opsA at h
    simp only [cond_true] at h
    obtain ⟨sl, hsl, hc⟩ := guard_cases (go := fun sl => (match opA (R := AV × List AO) P Γ o (pickR (reads all o) sl) (maskO (touch o sl s.ob) (mineL s.ob (wrs Γ o sl s.ob)) s.ob 0) (fun v ob => some (v, ob)) with
            | some (v, ob) => cond (Nat.ble s.ob.length ob.length && (v.ids ++ idsM (mineL s.ob (wrs Γ o sl s.ob)) s.ob.length ob 0).all fun x => Nat.blt x ob.length) (opsA P Γ all true rest (i + 1) ⟨putS o.dst v sl, mergeO (mineL s.ob (wrs Γ o sl s.ob)) s.ob ob 0⟩ (⟨i, touch o sl s.ob, mineL s.ob (wrs Γ o sl s.ob), s.ob.length, ob.length, v.ids ++ idsM (mineL s.ob (wrs Γ o sl s.ob)) s.ob.length ob 0⟩ :: l) K) none
            | none => none)) (no := fun sl => opsA P Γ all true rest (i + 1) ⟨putS o.dst .undef sl, s.ob⟩ l K) h
    have hlen : i + (o :: rest).length = i + 1 + rest.length := by rw [List.length_cons]; omega
    rcases hc with ⟨h, hon⟩ | ⟨h, hoff⟩
    · split at h
      · rename_i v X hop
        obtain ⟨hb, h⟩ | ⟨_, h⟩ := cond_elim h
        · rw [Bool.and_eq_true] at hb
          obtain ⟨D, l', hD, hrows, hK, hl, hg⟩ := ops_rows rest (i + 1) _ _ he' h
          refine ⟨fun j => if j = i then ⟨s, true, v, X, ⟨i, touch o sl s.ob, mineL s.ob (wrs Γ o sl s.ob), s.ob.length, X.length, v.ids ++ idsM (mineL s.ob (wrs Γ o sl s.ob)) s.ob.length X 0⟩⟩ else D j, l', by simp, ?_, ?_, fun x hx => hl x (List.mem_cons_of_mem _ hx), ?_⟩
          · intro j p hj hp
            by_cases hji : j = i
            · subst hji
              rw [he0] at hp
              obtain rfl := Option.some.inj hp
              have e2 : ¬ j + 1 = j := by omega
              refine ⟨sl, by simpa using hsl, fun t => ?_, by simp, .inl ⟨by simp, by simp only [if_true]; exact hon, by simpa using hop, ?_, by simpa using Nat.le_of_ble_eq_true hb.1, by simp, ?_, ?_, by simp, by simp⟩⟩
              · simp only [if_neg e2, if_true, hD]
              · intro x hx
                simp only [if_true] at hx ⊢
                exact mineL_ok hx
              · intro x hx
                simp only [if_true] at hx ⊢
                have := List.all_eq_true.1 hb.2 x hx
                simpa [Nat.blt_eq] using this
              · simp only [if_neg e2, if_true, hD]
            · exact (hrows j p (by omega) hp).congr (if_neg hji) (if_neg (by omega))
          · rw [hlen]
            simp only [if_neg (show ¬ i + 1 + rest.length = i by omega)]
            exact hK
          · intro j h1 h2 h3
            by_cases hji : j = i
            · simp only [if_pos hji]
              exact hl _ (List.mem_cons_self ..)
            · simp only [if_neg hji] at h3 ⊢
              exact hg j (by omega) (by rw [hlen] at h2; exact h2) h3
        · cases h
      · cases h
    · obtain ⟨D, l', hD, hrows, hK, hl, hg⟩ := ops_rows rest (i + 1) _ _ he' h
      refine ⟨fun j => if j = i then ⟨s, false, .undef, [], ⟨i, [], [], 0, 0, []⟩⟩ else D j, l', by simp, ?_, ?_, hl, ?_⟩
      · intro j p hj hp
        by_cases hji : j = i
        · subst hji
          rw [he0] at hp
          obtain rfl := Option.some.inj hp
          have e2 : ¬ j + 1 = j := by omega
          refine ⟨sl, by simpa using hsl, fun t => ?_, by simp, .inr ⟨by simp, by simp only [if_true]; exact hoff, by simp, ?_⟩⟩
          · simp only [if_neg e2, if_true, hD]
          · simp only [if_neg e2, if_true, hD]
        · exact (hrows j p (by omega) hp).congr (if_neg hji) (if_neg (by omega))
      · rw [hlen]
        simp only [if_neg (show ¬ i + 1 + rest.length = i by omega)]
        exact hK
      · intro j h1 h2 h3
        by_cases hji : j = i
        · simp only [if_pos hji] at h3
          cases h3
        · simp only [if_neg hji] at h3 ⊢
          exact hg j (by omega) (by rw [hlen] at h2; exact h2) h3
end Go.Mx
