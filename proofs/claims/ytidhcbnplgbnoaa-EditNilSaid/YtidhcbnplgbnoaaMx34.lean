/- Own work. A part of the proof of a law of this seat: a part -/
import Derived.Test.YtidhcbnplgbnoaaMx33
import Derived.Test.YtidhcbnplgbnoaaMx3
/- Code: what the machine runs is what the program does. -/
namespace Go.Mx
open Go Go.RowKit Go.Sx

theorem visit_pre {ob : List AO} : ∀ (n : Nat) (l L : List Nat), ∃ R, visit ob n l L = L ++ R
  | 0, l, L => ⟨[], by cases l <;> simp [visit]⟩
  | n + 1, [], L => ⟨[], by simp [visit]⟩
  | n + 1, i :: r, L => by
    unfold visit
    cases L.contains i with
    | true => exact visit_pre n r L
    | false =>
      rw [cond_false]
      obtain ⟨R, h⟩ := visit_pre (ob := ob) n ((match ob[i]? with | some o => o.ids | none => []) ++ r) (L ++ [i])
      exact ⟨i :: R, h.trans (by rw [List.append_assoc]; rfl)⟩
theorem objs_ok {ob : List AO} : ∀ {L : List Nat} {l : List AO}, objs ob L = some l → l.length = L.length ∧ ∀ (j : Nat) (o : AO), l[j]? = some o → ∃ i, L[j]? = some i ∧ ob[i]? = some o
  | [], l, h => by obtain rfl := Option.some.inj h; exact ⟨rfl, fun j o h => by simp at h⟩
  | i :: L, l, h => by
    rw [objs] at h
    split at h
    · rename_i o ho
      split at h
      · rename_i l1 hl
        obtain rfl := Option.some.inj h
        obtain ⟨h1, h2⟩ := objs_ok hl
        refine ⟨by simp [h1], fun j o' hj => ?_⟩
        cases j with
        | zero => obtain rfl := Option.some.inj hj; exact ⟨i, rfl, ho⟩
        | succ j => exact h2 j o' hj
      · cases h
    · cases h
theorem pickS_ok {s : Slots} : ∀ {l : List Nat} {sl : Slots}, pickS l s = some sl → ∀ (t : Nat) (v : AV), lookA t sl = some v → lookA t s = some v
  | [], sl, h, t, v, hv => by obtain rfl := Option.some.inj h; cases hv
  | i :: l, sl, h, t, v, hv => by
    rw [pickS] at h
    split at h
    · rename_i u hu
      split at h
      · rename_i sl' hs
        obtain rfl := Option.some.inj h
        rw [look_cons] at hv
        by_cases e : i = t
        · rw [if_pos e] at hv
          obtain rfl := Option.some.inj hv
          rw [← e]; exact hu
        · rw [if_neg e] at hv
          exact pickS_ok hs t v hv
      · cases h
    · cases h
theorem renS_ok {f : Nat → Option Nat} : ∀ {s s' : Slots}, renS f s = some s' → ∀ (t : Nat) (v : AV), lookA t s' = some v → ∃ u, lookA t s = some u ∧ u.ren f = some v
  | [], s', h, t, v, hv => by obtain rfl := Option.some.inj h; cases hv
  | (i, u) :: s, s', h, t, v, hv => by
    rw [renS] at h
    split at h
    · rename_i u' hu
      split at h
      · rename_i s1 hs
        obtain rfl := Option.some.inj h
        rw [look_cons] at hv
        by_cases e : i = t
        · rw [if_pos e] at hv
          obtain rfl := Option.some.inj hv
          exact ⟨u, by rw [look_cons, if_pos e], hu⟩
        · rw [if_neg e] at hv
          obtain ⟨q, h1, h2⟩ := renS_ok hs t v hv
          exact ⟨q, by rw [look_cons, if_neg e]; exact h1, h2⟩
      · cases h
    · cases h
section
variable {R : Type} {P : Program} {Γ : Sums} {W : Nat → Prop} {S0 : List AO} {ρ0 ρ : Nat → Geo} {w0 w : World} {a : Act} {N : Nat} {r : R}
theorem tell_ok {live : List Nat} {s : St} {K : St → Option R} (hK : tellA S0.length live s K = some r) (h : StB W S0 ρ0 w0 N s ρ a w) : ∃ s' ρ', K s' = some r ∧ StB W S0 ρ0 w0 N s' ρ' a w := by
  unfold tellA at hK
  split at hK
  · rename_i sl hsl
    simp only at hK
    obtain ⟨R', hR⟩ := visit_pre (ob := s.ob) (4 * s.ob.length + 4 * (idsS sl).length + 16) (idsOb (s.ob.take S0.length) ++ idsS sl) (List.range S0.length)
    rw [hR] at hK
    generalize hL : List.range S0.length ++ R' = L at hK
    cases hn : nodupB L with
    | false => rw [hn] at hK; cases hK
    | true =>
      rw [hn, cond_true] at hK
      split at hK
      · rename_i sl' ob hs' hob
        split at hK
        · rename_i ob' hr
          obtain ⟨o1, o2⟩ := objs_ok hob
          obtain ⟨r1, r2⟩ := renAll_ok hr
          have pre : ∀ i, i < S0.length → L[i]? = some i := fun i hi => by
            rw [← hL, List.getElem?_append, if_pos (by simpa using hi)]
            simp [hi]
          have prt : Prt s.ob ρ ob' (fun j => match L[j]? with | some i => ρ i | none => ρ 0) L (fun i => posn i L 0) := by
            refine ⟨nodupB_ok hn, by rw [r1, o1], fun j q hj => ?_, fun j i hj => by simp only [hj], fun i j hj => ?_⟩
            · obtain ⟨q', h1, h2⟩ := r2 j q hj
              obtain ⟨i, h3, h4⟩ := o2 j q' h1
              exact ⟨i, q', h3, h4, .inr (.inl h2)⟩
            · have := (posn_ok hj).2
              rwa [Nat.sub_zero] at this
          have hlen : S0.length ≤ ob'.length := by rw [r1, o1, ← hL, List.length_append, List.length_range]; omega
          have hA : ∀ k, (cx W ob' (fun j => match L[j]? with | some i => ρ i | none => ρ 0) w).A k → (cx W s.ob ρ w).A k := fun k hk => hk.elim .inl (fun hk => .inr (prt.ownS hk))
          refine ⟨⟨sl', ob'⟩, _, hK, ⟨(prt.rel h.aft.rel).weak (fun k hk => .inl hk), h.aft.fr, fun k hk => h.aft.nw k (prt.ownS hk), fun i hi => ?_, hlen⟩, ?_, h.df, h.sz⟩
          · simp only [pre i hi]
            exact h.aft.ag i hi
          · intro t v hv
            obtain ⟨u, h1, h2⟩ := renS_ok hs' t v hv
            have h3 := pickS_ok hsl t u h1
            exact VR.ren hA rfl (fun i j h1 h2 => prt.idx (W := W) (w := w) i j h1 h2) h2 (h.sl t u h3)
        · cases hK
      · cases hK
  · cases hK

/-- a loop, a scope: what its sum says is what it does -/
def LamAt (P : Program) (W : Nat → Prop) (S0 : List AO) (ρ0 : Nat → Geo) (w0 : World) (N : Nat) (r : R) (Λ : Nat → St → (Exit → St → Option R) → Option R) (n : Nat) (c : Code) : Prop :=
  ∀ (s : St) (K : Exit → St → Option R) (ρ : Nat → Geo) (a : Act) (w : World), Λ n s K = some r → StB W S0 ρ0 w0 N s ρ a w → c.wp P (fun e a' w' => ∃ s' ρ', K e s' = some r ∧ StB W S0 ρ0 w0 N s' ρ' a' w') a w
theorem nl_lt : ∀ {c : Code} {q : Nat} {l : Code}, loopAt c q = some l → q < nl c := by
  intro c
  induction c with
  | seq x y hx hy =>
    intro q l h
    rw [loopAt] at h
    rw [nl]
    cases hb : Nat.blt q (nl x) with
    | true => rw [Nat.blt_eq] at hb; omega
    | false => rw [hb] at h; have := hy h; omega
  | cond c x y hx hy =>
    intro q l h
    rw [loopAt] at h
    rw [nl]
    cases hb : Nat.blt q (nl x) with
    | true => rw [Nat.blt_eq] at hb; omega
    | false => rw [hb] at h; have := hy h; omega
  | block i x hx => intro q l h; rw [loopAt] at h; rw [nl]; exact hx h
  | loop x hx =>
    intro q l h
    rw [nl]
    cases q with
    | zero => omega
    | succ q => rw [loopAt] at h; have := hx h; omega
  | scope x hx =>
    intro q l h
    rw [nl]
    cases q with
    | zero => omega
    | succ q => rw [loopAt] at h; have := hx h; omega
  | _ => intro q l h; unfold loopAt at h; cases h
theorem loopAt_seq {x y : Code} {q : Nat} {l : Code} : (loopAt x q = some l → loopAt (.seq x y) q = some l) ∧ (loopAt y q = some l → loopAt (.seq x y) (nl x + q) = some l) := by
  refine ⟨fun h => ?_, fun h => ?_⟩
  · have := nl_lt h
    rw [loopAt, show Nat.blt q (nl x) = true by rw [Nat.blt_eq]; exact this]; exact h
  · rw [loopAt, show Nat.blt (nl x + q) (nl x) = false by rw [Bool.eq_false_iff, ne_eq, Nat.blt_eq]; omega, cond_false, Nat.add_sub_cancel_left]
    exact h
theorem loopAt_cond {c : Operand} {x y : Code} {q : Nat} {l : Code} : (loopAt x q = some l → loopAt (.cond c x y) q = some l) ∧ (loopAt y q = some l → loopAt (.cond c x y) (nl x + q) = some l) := by
  refine ⟨fun h => ?_, fun h => ?_⟩
  · have := nl_lt h
    rw [loopAt, show Nat.blt q (nl x) = true by rw [Nat.blt_eq]; exact this]; exact h
  · rw [loopAt, show Nat.blt (nl x + q) (nl x) = false by rw [Bool.eq_false_iff, ne_eq, Nat.blt_eq]; omega, cond_false, Nat.add_sub_cancel_left]
    exact h
theorem dst_all {N : Nat} {l : List Oper} (h : (l.all fun o => match o.dst with | some d => Nat.blt d N | none => true) = true) : l.all (dstLt N) = true := h
theorem runA_ok (hmx : P.follows .mixedOrders = true) (hΓ : CallOk P Γ) (hG : PrimOk P Γ) {Λ : Nat → St → (Exit → St → Option R) → Option R} :
    ∀ (c : Code) (n : Nat) (s : St) (K : Exit → St → Option R) (ρ : Nat → Geo) (a : Act) (w : World), dstC N c = true → (∀ q l, loopAt c q = some l → LamAt P W S0 ρ0 w0 N r Λ (n + q) l) → runA P Γ Λ n c s K = some r → StB W S0 ρ0 w0 N s ρ a w →
      c.wp P (fun e a' w' => ∃ s' ρ', K e s' = some r ∧ StB W S0 ρ0 w0 N s' ρ' a' w') a w := by
  intro c
  induction c with
  | skip => intro n s K ρ a w _ _ hK h; rw [runA] at hK; exact wp_skip ⟨s, ρ, hK, h⟩
  | label l => intro n s K ρ a w _ _ hK h; rw [runA] at hK; exact wp_label ⟨s, ρ, hK, h⟩
  | exit i => intro n s K ρ a w _ _ hK h; rw [runA] at hK; exact wp_exit ⟨s, ρ, hK, h⟩
  | goto l => intro n s K ρ a w _ _ hK h; rw [runA] at hK; exact wp_goto ⟨s, ρ, hK, h⟩
  | ret => intro n s K ρ a w _ _ hK h; rw [runA] at hK; exact wp_ret ⟨s, ρ, hK, h⟩
  | seq x y hx hy =>
    intro n s K ρ a w hd hΛ hK h
    rw [runA] at hK
    rw [dstC, Bool.and_eq_true] at hd
    refine wp_seq (wp_mono (hx n s _ ρ a w hd.1 (fun q l hl => hΛ q l (loopAt_seq.1 hl)) hK h) ?_)
    rintro e a' w' ⟨s', ρ', hK', h'⟩
    cases e with
    | normal => exact hy (n + nl x) s' K ρ' a' w' hd.2 (fun q l hl => by rw [Nat.add_assoc]; exact hΛ _ l (loopAt_seq.2 hl)) hK' h'
    | _ => exact ⟨s', ρ', hK', h'⟩
  | cond c x y hx hy =>
    intro n s K ρ a w hd hΛ hK h
    rw [dstC, Bool.and_eq_true] at hd
    have go : ∀ (b : Bool) (sx sy : Slots), a.eval c = .bool b → SlR (cx W s.ob ρ w) (cond b sx sy) a → cond b (runA P Γ Λ n x ⟨sx, s.ob⟩ K) (runA P Γ Λ (n + nl x) y ⟨sy, s.ob⟩ K) = some r → (Code.cond c x y).wp P (fun e a' w' => ∃ s' ρ', K e s' = some r ∧ StB W S0 ρ0 w0 N s' ρ' a' w') a w := by
      intro b sx sy hc hs hK
      cases b with
      | true => exact wp_cond_true hc (hx n ⟨sx, s.ob⟩ K ρ a w hd.1 (fun q l hl => hΛ q l (loopAt_cond.1 hl)) hK ⟨h.aft, hs, h.df, h.sz⟩)
      | false => exact wp_cond_false hc (hy (n + nl x) ⟨sy, s.ob⟩ K ρ a w hd.2 (fun q l hl => by rw [Nat.add_assoc]; exact hΛ _ l (loopAt_cond.2 hl)) hK ⟨h.aft, hs, h.df, h.sz⟩)
    unfold runA at hK
    split at hK
    · rename_i t
      split at hK
      · rename_i b hl
        have hv := vr_bool (h.sl t _ hl)
        refine go b _ _ hv ?_ hK
        cases b with
        | true => exact h.sl.again hl
        | false => exact h.sl.again hl
      · cases hK
    · rename_i c' _
      split at hK
      · rename_i b hl
        refine go b s.sl s.sl (vr_bool (ev_ok h.sl hl)) ?_ hK
        cases b <;> exact h.sl
      · cases hK
  | block i x hx =>
    intro n s K ρ a w hd hΛ hK h
    rw [runA] at hK
    rw [dstC] at hd
    refine wp_block (wp_mono (hx n s _ ρ a w hd (fun q l hl => hΛ q l (by rw [loopAt]; exact hl)) hK h) ?_)
    rintro e a' w' ⟨s', ρ', hK', h'⟩
    cases e with
    | exit j =>
      show if j = i then _ else _
      simp only at hK'
      by_cases e : j = i
      · rw [if_pos e]
        rw [e, Nat.beq_refl, cond_true] at hK'
        exact ⟨s', ρ', hK', h'⟩
      · rw [if_neg e]
        rw [beq_ne e, cond_false] at hK'
        exact ⟨s', ρ', hK', h'⟩
    | _ => exact ⟨s', ρ', hK', h'⟩
  | loop x hx =>
    intro n s K ρ a w hd hΛ hK h
    rw [runA] at hK
    exact hΛ 0 (.loop x) rfl s K ρ a w hK h
  | scope x hx =>
    intro n s K ρ a w hd hΛ hK h
    rw [runA] at hK
    exact hΛ 0 (.scope x) rfl s K ρ a w hK h
  | region id ops dr =>
    intro n s K ρ a w hd hΛ hK h
    rw [runA] at hK
    rw [dstC] at hd
    have e : ops = ops.toList.toArray := rfl
    cases dr with
    | false =>
      rw [e]
      refine wp_region_lit (ops_lit (W := W) (S0 := S0) (ρ0 := ρ0) (w0 := w0) (N := N) (r := r) hΓ hG ?_ ops.toList 0 s [] ρ a w (dst_all hd) hK h)
      intro s' l' ρ' a' w' hK' h'
      rw [Bool.not_false, Bool.true_or, cond_true] at hK'
      exact ⟨s', ρ', hK', h'⟩
    | true =>
      rw [e]
      simp only [Bool.not_true, Bool.false_or] at hK
      exact ops_drawn hmx hΓ hG id (K := K .normal) (dst_all hd) hK h (fun s' ρ' a' w' hK' h' => ⟨s', ρ', hK', h'⟩)
  | _ => intro n s K ρ a w _ _ hK _; unfold runA at hK; cases hK
theorem loop_ok {m : Nat} {live : List Nat} {c : Code} {body : St → (Exit → St → Option R) → Option R} (hm : m = S0.length)
    (hb : ∀ (s : St) (K : Exit → St → Option R) (ρ : Nat → Geo) (a : Act) (w : World), body s K = some r → StB W S0 ρ0 w0 N s ρ a w → c.wp P (fun e a' w' => ∃ s' ρ', K e s' = some r ∧ StB W S0 ρ0 w0 N s' ρ' a' w') a w) :
    ∀ (k : Nat) (s : St) (K : Exit → St → Option R) (ρ : Nat → Geo) (a : Act) (w : World), loopA m live body k s K = some r → StB W S0 ρ0 w0 N s ρ a w → Code.rounds P c (fun e a' w' => ∃ s' ρ', K e s' = some r ∧ StB W S0 ρ0 w0 N s' ρ' a' w') k a w
  | 0, s, K, ρ, a, w, hK, _ => by cases hK
  | k + 1, s, K, ρ, a, w, hK, h => by
    subst hm
    rw [loopA] at hK
    obtain ⟨s1, ρ1, hK1, h1⟩ := tell_ok hK h
    refine wp_mono (hb s1 _ ρ1 a w hK1 h1) ?_
    rintro e a' w' ⟨s', ρ', hK', h'⟩
    cases e with
    | normal => exact loop_ok rfl hb k s' K ρ' a' w' hK' h'
    | _ => exact ⟨s', ρ', hK', h'⟩
end
end Go.Mx
