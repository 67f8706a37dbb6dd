/- Own work. A part of the proof of a law of this seat: a part -/
import Derived.Test.YtidhcbnplgbnoaaMx34
/- A call's begin and end; functions by their own code. -/
namespace Go.Mx
open Go Go.RowKit Go.Sx

section
variable {R : Type} {P : Program} {Γ : Sums} {W : Nat → Prop} {S0 : List AO} {ρ0 ρ : Nat → Geo} {w0 w : World} {a : Act} {N : Nat} {r : R}
/-! ### scopes -/
theorem behind_none {l : Nat} : ∀ {c : Code} {n : Nat}, behind l c n = none → findLabel c l = none := by
  intro c
  induction c with
  | seq x y hx hy =>
    intro n h
    rw [behind] at h
    split at h
    · cases h
    · rename_i e
      rw [findLabel, hx e]
      exact hy h
  | label q =>
    intro n h
    rw [behind] at h
    cases hb : Nat.beq q l with
    | true => rw [hb] at h; cases h
    | false =>
      have : ¬ q = l := fun e => by rw [e, Nat.beq_refl] at hb; cases hb
      simp [findLabel, this]
  | _ => intro n _; rfl
theorem behind_some {l : Nat} : ∀ {c : Code} {n m : Nat} {c' : Code}, behind l c n = some (m, c') → findLabel c l = some c' ∧ (∀ q l', loopAt c' q = some l' → ∃ q0, loopAt c q0 = some l' ∧ n + q0 = m + q) ∧ (∀ N, dstC N c = true → dstC N c' = true) ∧ m + nl c' = n + nl c := by
  intro c
  induction c with
  | seq x y hx hy =>
    intro n m c' h
    rw [behind] at h
    split at h
    · rename_i m' d e
      obtain ⟨rfl, rfl⟩ := Prod.mk.inj (Option.some.inj h)
      obtain ⟨h1, h2, h3, h4⟩ := hx e
      refine ⟨by rw [findLabel, h1], fun q l' hq => ?_, fun N hN => ?_, by rw [nl, nl]; omega⟩
      · rw [loopAt] at hq
        cases hb : Nat.blt q (nl d) with
        | true =>
          rw [hb] at hq
          obtain ⟨q0, g1, g2⟩ := h2 q l' hq
          exact ⟨q0, loopAt_seq.1 g1, g2⟩
        | false =>
          rw [hb] at hq
          have : ¬ q < nl d := by rw [Bool.eq_false_iff, ne_eq, Nat.blt_eq] at hb; exact hb
          exact ⟨nl x + (q - nl d), loopAt_seq.2 hq, by omega⟩
      · rw [dstC, Bool.and_eq_true] at hN
        rw [dstC, Bool.and_eq_true]
        exact ⟨h3 N hN.1, hN.2⟩
    · rename_i e
      obtain ⟨h1, h2, h3, h4⟩ := hy h
      refine ⟨by rw [findLabel, behind_none e]; exact h1, fun q l' hq => ?_, fun N hN => ?_, by rw [nl]; omega⟩
      · obtain ⟨q0, g1, g2⟩ := h2 q l' hq
        exact ⟨nl x + q0, loopAt_seq.2 g1, by omega⟩
      · rw [dstC, Bool.and_eq_true] at hN
        exact h3 N hN.2
  | label q =>
    intro n m c' h
    rw [behind] at h
    cases hb : Nat.beq q l with
    | true =>
      rw [hb] at h
      obtain ⟨rfl, rfl⟩ := Prod.mk.inj (Option.some.inj h)
      have := Nat.eq_of_beq_eq_true hb
      exact ⟨by simp [findLabel, this], fun q l' hq => (by unfold loopAt at hq; cases hq), fun N _ => rfl, rfl⟩
    | false => rw [hb] at h; cases h
  | _ => intro n m c' h; unfold behind at h; cases h
/-- a piece of code runs as it is told -/
def Good (P : Program) (W : Nat → Prop) (S0 : List AO) (ρ0 : Nat → Geo) (w0 : World) (N : Nat) (r : R) (run : St → (Exit → St → Option R) → Option R) (c : Code) : Prop :=
  ∀ (s : St) (K : Exit → St → Option R) (ρ : Nat → Geo) (a : Act) (w : World), run s K = some r → StB W S0 ρ0 w0 N s ρ a w → c.wp P (fun e a' w' => ∃ s' ρ', K e s' = some r ∧ StB W S0 ρ0 w0 N s' ρ' a' w') a w
theorem scope_ok {m : Nat} {live : List Nat} {b : Code} {find : Nat → Option (Nat × Code)} {run : Nat → Code → St → (Exit → St → Option R) → Option R} (hm : m = S0.length)
    (hf : ∀ l n c, find l = some (n, c) → findLabel b l = some c ∧ Good P W S0 ρ0 w0 N r (run n c) c) (hno : ∀ l, find l = none → findLabel b l = none) :
    ∀ (k n : Nat) (c : Code), Good P W S0 ρ0 w0 N r (run n c) c → ∀ (s : St) (K : Exit → St → Option R) (ρ : Nat → Geo) (a : Act) (w : World), scopeA m live find run k n c s K = some r → StB W S0 ρ0 w0 N s ρ a w →
      ∀ (fr : Frame) (ks : List Item) (cs : List Frame), ∃ e a' w', (∃ s' ρ', K e s' = some r ∧ StB W S0 ρ0 w0 N s' ρ' a' w') ∧ Arrives P (lone (fr.at a (.code c :: .inScope b :: ks)) cs w) fr ks cs e a' w'
  | 0, n, c, _, s, K, ρ, a, w, hK, _ => by cases hK
  | k + 1, n, c, hg, s, K, ρ, a, w, hK, h => by
    intro fr ks cs
    subst hm
    rw [scopeA] at hK
    obtain ⟨e, a₁, w₁, ⟨s', ρ', hK', h'⟩, harr⟩ := hg s _ ρ a w hK h fr (.inScope b :: ks) cs
    cases e with
    | normal => exact ⟨.normal, a₁, w₁, ⟨s', ρ', hK', h'⟩, Steps.trans harr (.one step_inScope)⟩
    | exit id => exact ⟨.exit id, a₁, w₁, ⟨s', ρ', hK', h'⟩, fun k' hk => harr k' (by simp [exitTo, hk])⟩
    | goto l =>
      simp only at hK'
      split at hK'
      · rename_i n' c' hfl
        obtain ⟨h1, h2⟩ := hf l n' c' hfl
        obtain ⟨s2, ρ2, hK2, h3⟩ := tell_ok hK' h'
        obtain ⟨e₂, a₂, w₂, hq₂, harr₂⟩ := scope_ok rfl hf hno k n' c' h2 s2 K ρ2 a₁ w₁ hK2 h3 fr ks cs
        exact ⟨e₂, a₂, w₂, hq₂, .of_steps (harr _ (by simp [gotoIn, h1])) harr₂⟩
      · rename_i hfl
        exact ⟨.goto l, a₁, w₁, ⟨s', ρ', hK', h'⟩, fun k' hk => harr k' (by simp [gotoIn, hno l hfl, hk])⟩
    | ret => exact ⟨_, a₁, w₁, ⟨s', ρ', hK', h'⟩, harr⟩
    | panic ch => exact ⟨_, a₁, w₁, ⟨s', ρ', hK', h'⟩, harr⟩
    | outgrown => exact ⟨_, a₁, w₁, ⟨s', ρ', hK', h'⟩, harr⟩
theorem wp_scope_of {b : Code} {Q : Exit → Act → World → Prop} (h : ∀ (fr : Frame) (ks : List Item) (cs : List Frame), ∃ e a' w', Q e a' w' ∧ Arrives P (lone (fr.at a (.code b :: .inScope b :: ks)) cs w) fr ks cs e a' w') : (Code.scope b).wp P Q a w := by
  intro fr ks cs
  obtain ⟨e, a', w', hq, harr⟩ := h fr ks cs
  exact ⟨e, a', w', hq, .of_steps (.one step_scope) harr⟩

/-! ### loops and scopes by their own code -/
theorem loopAt_sub : ∀ {c : Code} {n : Nat} {b : Code}, (loopAt c n = some (.loop b) ∨ loopAt c n = some (.scope b)) → (∀ q l, loopAt b q = some l → loopAt c (n + 1 + q) = some l) ∧ ∀ N, dstC N c = true → dstC N b = true := by
  intro c
  induction c with
  | seq x y hx hy =>
    intro n b h
    rw [loopAt] at h
    cases hb : Nat.blt n (nl x) with
    | true =>
      rw [hb] at h
      obtain ⟨h1, h2⟩ := hx h
      exact ⟨fun q l hl => loopAt_seq.1 (h1 q l hl), fun N hN => by rw [dstC, Bool.and_eq_true] at hN; exact h2 N hN.1⟩
    | false =>
      rw [hb] at h
      have hge : ¬ n < nl x := by rw [Bool.eq_false_iff, ne_eq, Nat.blt_eq] at hb; exact hb
      obtain ⟨h1, h2⟩ := hy h
      refine ⟨fun q l hl => ?_, fun N hN => by rw [dstC, Bool.and_eq_true] at hN; exact h2 N hN.2⟩
      have := (loopAt_seq (x := x)).2 (h1 q l hl)
      rwa [show nl x + (n - nl x + 1 + q) = n + 1 + q by omega] at this
  | cond c x y hx hy =>
    intro n b h
    rw [loopAt] at h
    cases hb : Nat.blt n (nl x) with
    | true =>
      rw [hb] at h
      obtain ⟨h1, h2⟩ := hx h
      exact ⟨fun q l hl => loopAt_cond.1 (h1 q l hl), fun N hN => by rw [dstC, Bool.and_eq_true] at hN; exact h2 N hN.1⟩
    | false =>
      rw [hb] at h
      have hge : ¬ n < nl x := by rw [Bool.eq_false_iff, ne_eq, Nat.blt_eq] at hb; exact hb
      obtain ⟨h1, h2⟩ := hy h
      refine ⟨fun q l hl => ?_, fun N hN => by rw [dstC, Bool.and_eq_true] at hN; exact h2 N hN.2⟩
      have := (loopAt_cond (c := c) (x := x)).2 (h1 q l hl)
      rwa [show nl x + (n - nl x + 1 + q) = n + 1 + q by omega] at this
  | block i x hx =>
    intro n b h
    rw [loopAt] at h
    obtain ⟨h1, h2⟩ := hx h
    exact ⟨fun q l hl => by rw [loopAt]; exact h1 q l hl, fun N hN => by rw [dstC] at hN; exact h2 N hN⟩
  | loop x hx =>
    intro n b h
    cases n with
    | zero =>
      rw [loopAt] at h
      rcases h with h | h
      · obtain rfl : x = b := by injection h with h; injection h
        exact ⟨fun q l hl => by rw [show 0 + 1 + q = q + 1 by omega, loopAt]; exact hl, fun N hN => by rw [dstC] at hN; exact hN⟩
      · injection h with h; cases h
    | succ n =>
      rw [loopAt] at h
      obtain ⟨h1, h2⟩ := hx h
      exact ⟨fun q l hl => by rw [show n + 1 + 1 + q = (n + 1 + q) + 1 by omega, loopAt]; exact h1 q l hl, fun N hN => by rw [dstC] at hN; exact h2 N hN⟩
  | scope x hx =>
    intro n b h
    cases n with
    | zero =>
      rw [loopAt] at h
      rcases h with h | h
      · injection h with h; cases h
      · obtain rfl : x = b := by injection h with h; injection h
        exact ⟨fun q l hl => by rw [show 0 + 1 + q = q + 1 by omega, loopAt]; exact hl, fun N hN => by rw [dstC] at hN; exact hN⟩
    | succ n =>
      rw [loopAt] at h
      obtain ⟨h1, h2⟩ := hx h
      exact ⟨fun q l hl => by rw [show n + 1 + 1 + q = (n + 1 + q) + 1 by omega, loopAt]; exact h1 q l hl, fun N hN => by rw [dstC] at hN; exact h2 N hN⟩
  | _ => intro n b h; unfold loopAt at h; rcases h with h | h <;> cases h
theorem lamA_ok (hmx : P.follows .mixedOrders = true) (hΓ : CallOk P Γ) (hG : PrimOk P Γ) {c : Code} {k m : Nat} (hm : m = S0.length) (hd : dstC N c = true) : ∀ (d n : Nat) (l : Code), loopAt c n = some l → LamAt P W S0 ρ0 w0 N r (lamA P Γ k m c d) n l
  | 0, n, l, _ => fun s K ρ a w hK _ => by cases hK
  | d + 1, n, l, hl => by
    intro s K ρ a w hK h
    rw [lamA, hl] at hK
    split at hK
    · rename_i b e
      obtain rfl := Option.some.inj e
      obtain ⟨h1, h2⟩ := loopAt_sub (.inl hl)
      exact wp_loop_rounds k (loop_ok hm (fun s K ρ a w hK h => runA_ok hmx hΓ hG b (n + 1) s K ρ a w (h2 N hd) (fun q l' hl' => lamA_ok hmx hΓ hG hm hd d (n + 1 + q) l' (h1 q l' hl')) hK h) k s K ρ a w hK h)
    · rename_i b e
      obtain rfl := Option.some.inj e
      obtain ⟨h1, h2⟩ := loopAt_sub (.inr hl)
      have good : ∀ (n' : Nat) (c' : Code), dstC N c' = true → (∀ q l', loopAt c' q = some l' → ∃ q0, loopAt b q0 = some l' ∧ n + 1 + q0 = n' + q) → Good P W S0 ρ0 w0 N r (runA P Γ (fun q s K => lamA P Γ k m c d q s K) n' c') c' := by
        intro n' c' hd' hl' s K ρ a w hK h
        refine runA_ok hmx hΓ hG c' n' s K ρ a w hd' (fun q l' hq => ?_) hK h
        obtain ⟨q0, g1, g2⟩ := hl' q l' hq
        rw [← g2]
        exact lamA_ok hmx hΓ hG hm hd d (n + 1 + q0) l' (h1 q0 l' g1)
      refine wp_scope_of (scope_ok hm (fun l n' c' hf => ?_) (fun l hf => behind_none hf) k (n + 1) b (good (n + 1) b (h2 N hd) (fun q l' hq => ⟨q, hq, rfl⟩)) s K ρ a w hK h)
      obtain ⟨g1, g2, g3, _⟩ := behind_some hf
      exact ⟨g1, good n' c' (g3 N (h2 N hd)) g2⟩
    · cases hK

/-! ### results -/
theorem bx_lies' {b : Nat} {T : TypeId} {cs : List Value} (h : Bx w b T cs) : Lies w.heap b 0 cs := bx_lies h
theorem resA_ok {s : St} (h : StB W S0 ρ0 w0 N s ρ a w) : ∀ {rs : List ResultVar} {K : List AV → Option R}, resA P s rs K = some r → ∃ l vs, K l = some r ∧ A2 (VR (cx W s.ob ρ w)) l vs ∧ l.length = rs.length ∧ ∀ f : ResultVar → Sem Value, (∀ u, f (.tmp u) = pure (a.tmps.getD u undef)) → (∀ p t, f (.cell p t) = (do loadVar t (← asAddr (a.tmps.getD p undef)))) → (rs.mapM f).run P w = .ok vs w
  | [], K, hK => ⟨[], [], hK, .nil, rfl, fun f _ _ => by simp⟩
  | .tmp t :: rs, K, hK => by
    rw [resA] at hK
    split at hK
    · rename_i v hv
      obtain ⟨l, vs, h1, h2, h3, h4⟩ := resA_ok h hK
      exact ⟨v :: l, a.tmps.getD t undef :: vs, h1, .cons (h.sl t v hv) h2, by simp [h3], fun f hf hc => by simp only [List.mapM_cons, hf, Sem.run_bind, Sem.run_pure, Result.andThen_ok, h4 f hf hc]⟩
    · cases hK
  | .cell p t :: rs, K, hK => by
    rw [resA] at hK
    split at hK
    · rename_i q hv
      split at hK
      · rename_i bt v m hi
        cases ho : loadOk P t v with
        | false => rw [ho] at hK; cases hK
        | true =>
          rw [ho, cond_true] at hK
          obtain ⟨l, vs, h1, h2, h3, h4⟩ := resA_ok h hK
          obtain ⟨hq, b, hb, e⟩ := vr_ptr (h.sl p _ hv)
          obtain ⟨b', cs, e1, hc, hl, hx, _⟩ := h.aft.rel.ob q _ hi
          have hbb : b' = b := by
            have hb : (ρ q).a = _ := hb
            rw [e1] at hb
            exact congrArg Addr.block (Option.some.inj hb)
          subst hbb
          obtain ⟨k1, k2⟩ := loadOk_ok ho
          have hat := lies_at (bx_lies hx)
          have hrun : ∃ u, (loadVar t ⟨b', 0, none⟩).run P w = .ok u w ∧ VR (cx W s.ob ρ w) v u := by
            cases hg : v.isAgg with
            | true =>
              rw [hg] at k1
              refine ⟨_, run_loadAgg hat (run_agg k1) (run_size (k2 hg)) (cr_len hc), ?_⟩
              have := cr_vr hc
              rw [hg] at this
              exact this
            | false =>
              rw [hg] at k1
              have hl1 : cs.length = 1 := by rw [cr_len hc]; exact agg_sz hc hg
              obtain ⟨c, rfl⟩ : ∃ c, cs = [c] := List.length_eq_one_iff.1 hl1
              refine ⟨c, run_load_cell (hat 0 c rfl) (run_agg k1), ?_⟩
              have := cr_vr hc
              rw [hg] at this
              exact this
          obtain ⟨u, hu, hvu⟩ := hrun
          refine ⟨v :: l, u :: vs, h1, .cons hvu h2, by simp [h3], fun f hf hc => ?_⟩
          have e0 : a.tmps.getD p undef = .pointer (some ⟨b', 0, none⟩) := e
          simp only [List.mapM_cons, hc, e0, asAddr, Sem.run_bind, Sem.run_pure, Result.andThen_ok, hu, h4 f hf hc]
      · cases hK
    · cases hK
end
end Go.Mx
