/- Own work. A part of the proof of a law of this seat: a part -/
import Derived.Test.YtidhcbnplgbnoaaMx35
/- Calls by the functions' own code. -/
namespace Go.Mx
open Go Go.RowKit Go.Sx

/-- no function with code of its own is the one that the machine sets apart -/
def noNG (P : Program) : Bool := P.funcs.toList.all fun fn => match fn.body with | some _ => fn.name != "runtime.NumGoroutine" | none => true
theorem run_enter {P : Program} {f : FuncId} {fn : Func} {c : Code} (hNG : noNG P = true) (hf : P.funcs[f]? = some fn) (hb : fn.body = some c) (us : Array Value) (w : World) : (callFunc f us).run P w = .ok (.enter f us) w := by
  have h := List.all_eq_true.1 hNG fn (by rw [← Array.getElem?_toList] at hf; exact List.mem_of_getElem? hf)
  rw [hb] at h
  have h : ¬ fn.name = "runtime.NumGoroutine" := by simpa using h
  simp [callFunc, hf, h, hb]
theorem a2_len {α β : Type} {R : α → β → Prop} : ∀ {l : List α} {m : List β}, A2 R l m → l.length = m.length
  | [], _, h => by cases h; rfl
  | _ :: _, _, h => by cases h with | cons _ h2 => simp [a2_len h2]
theorem a2_get {α β : Type} {R : α → β → Prop} : ∀ {l : List α} {m : List β}, A2 R l m → ∀ {i : Nat} {x : α}, l[i]? = some x → ∃ y, m[i]? = some y ∧ R x y
  | [], _, h, i, x, hx => by simp at hx
  | _ :: _, _, h, i, x, hx => by
    cases h with
    | cons h1 h2 =>
      cases i with
      | zero => obtain rfl := Option.some.inj hx; exact ⟨_, rfl, h1⟩
      | succ i => exact a2_get h2 hx
theorem zipS_look : ∀ (l : List AV) (n t : Nat) (v : AV), lookA t (zipS n l) = some v → n ≤ t ∧ l[t - n]? = some v
  | [], n, t, v, h => by cases h
  | u :: l, n, t, v, h => by
    rw [zipS, look_cons] at h
    by_cases e : n = t
    · rw [if_pos e] at h
      subst e
      rw [Nat.sub_self]
      exact ⟨Nat.le_refl _, h⟩
    · rw [if_neg e] at h
      obtain ⟨h1, h2⟩ := zipS_look l (n + 1) t v h
      exact ⟨by omega, by rw [show t - n = (t - (n + 1)) + 1 by omega]; exact h2⟩
def oneV : List Value → Value
  | [v] => v
  | vs => .tuple vs.toArray
theorem results_run {P : Program} {fn : Func} {tmps : Array Value} {rs : List ResultVar} {vs : List Value} {w : World} (hr : fn.results = rs.toArray) (h : ∀ f : ResultVar → Sem Value, (∀ u, f (.tmp u) = pure (tmps.getD u undef)) → (∀ p t, f (.cell p t) = (do loadVar t (← asAddr (tmps.getD p undef)))) → (rs.mapM f).run P w = .ok vs w) : (results fn tmps).run P w = .ok (oneV vs) w := by
  unfold results
  rw [hr, List.mapM_toArray]
  simp only [Sem.run_bind, Sem.run_map]
  rw [h _ (fun _ => rfl) (fun _ _ => rfl)]
  cases vs with
  | nil => simp [oneV]
  | cons v vs =>
    cases vs with
    | nil => simp [oneV]
    | cons v' vs => simp [oneV]
section
variable {R : Type} {P : Program} {Γ : Sums} {W : Nat → Prop} {S0 : List AO} {ρ0 ρ : Nat → Geo} {w0 w : World} {a : Act} {N : Nat} {r : R}
theorem retA_ok {fn : Func} {s : St} {K : KV R} (hK : retA P fn S0.length s K = some r) (h : StB W S0 ρ0 w0 N s ρ a w) : ∃ u v ob' ρ', (results fn a.tmps).run P w = .ok u w ∧ K v ob' = some r ∧ Aft W S0 ρ0 w0 ob' ρ' w ∧ VR (cx W ob' ρ' w) v u := by
  unfold retA at hK
  obtain ⟨l, vs, h1, h2, _, h4⟩ := resA_ok h hK
  have hrun := results_run (P := P) (fn := fn) (tmps := a.tmps) (rs := fn.results.toList) (vs := vs) (w := w) (by rw [Array.toArray_toList]) h4
  obtain ⟨ho, h1⟩ | ⟨_, h1⟩ := cond_elim h1
  · have hv : VR (cx W s.ob ρ w) (one1 l) (oneV vs) := by
      cases h2 with
      | nil => exact ⟨[], rfl, by rw [VRs]⟩
      | cons g1 g2 =>
        cases g2 with
        | nil => exact g1
        | cons g2 g3 => exact ⟨_, rfl, a2_vrs (.cons g1 (.cons g2 g3)) ho⟩
    have st : StB W S0 ρ0 w0 1 ⟨[(0, one1 l)], s.ob⟩ ρ { tmps := #[oneV vs], defers := [] } w := by
      refine ⟨h.aft, fun t v hl => ?_, rfl, rfl⟩
      rw [look_cons] at hl
      by_cases e : 0 = t
      · rw [if_pos e] at hl
        obtain rfl := Option.some.inj hl
        subst e
        exact hv
      · rw [if_neg e] at hl; cases hl
    obtain ⟨s', ρ', hK', h'⟩ := tell_ok h1 st
    split at hK'
    · rename_i t v hs
      obtain ⟨ht, hK'⟩ | ⟨_, hK'⟩ := cond_elim hK'
      · have ht := Nat.eq_of_beq_eq_true ht
        subst ht
        refine ⟨_, v, s'.ob, ρ', hrun, hK', h'.aft, h'.sl 0 v (by rw [hs, look_cons, if_pos rfl])⟩
      · cases hK'
    · cases hK'
  · cases h1
theorem funA_ok (hmx : P.follows .mixedOrders = true) (hΓ : CallOk P Γ) (hG : PrimOk P Γ) {f : FuncId} {fn : Func} {c : Code} (hf : P.funcs[f]? = some fn) (hb : fn.body = some c) {Λ : Nat → St → (Exit → St → Option R) → Option R} {args : List AV} {ob : List AO} {K : KV R} (hK : funA P Γ Λ fn args ob K = some r)
    {us : List Value} (hΛ : dstC fn.ntmps c = true → ∀ q l, loopAt c q = some l → LamAt P W ob ρ w fn.ntmps r Λ q l) (h : Rel W ob ρ w) (ha : A2 (VR (cx W ob ρ w)) args us) :
    Calls P f us.toArray w (Ret fun u w' => ∃ v ob' ρ', K v ob' = some r ∧ Aft W ob ρ w ob' ρ' w' ∧ VR (cx W ob' ρ' w') v u) := by
  unfold funA at hK
  rw [hb] at hK
  simp only at hK
  obtain ⟨hc, hK⟩ | ⟨_, hK⟩ := cond_elim hK
  · rw [Bool.and_eq_true] at hc
    have hlen := a2_len ha
    have hle := Nat.le_of_ble_eq_true hc.1
    have hsz : us.toArray.size ≤ fn.ntmps := by simp; omega
    refine calls_of_wp hf hb ?_
    have st : StB W ob ρ w fn.ntmps ⟨zipS 0 args, ob⟩ ρ { tmps := us.toArray ++ Array.replicate (fn.ntmps - us.toArray.size) undef, defers := [] } w := by
      refine ⟨Aft.refl h, fun t v hl => ?_, rfl, by simp at hsz ⊢; omega⟩
      obtain ⟨_, h1⟩ := zipS_look args 0 t v hl
      rw [Nat.sub_zero] at h1
      obtain ⟨u, h2, h3⟩ := a2_get ha h1
      have ht : t < us.length := (List.getElem?_eq_some_iff.1 h2).1
      have e : (us.toArray ++ Array.replicate (fn.ntmps - us.toArray.size) undef).getD t undef = u := by
        simp only [Array.getD_eq_getD_getElem?, Array.getElem?_append, List.size_toArray, ht, if_true, List.getElem?_toArray, h2, Option.getD_some]
      rw [e]
      exact h3
    refine wp_mono (runA_ok hmx hΓ hG c 0 _ _ ρ _ w hc.2 (fun q l hl => by rw [Nat.zero_add]; exact hΛ hc.2 q l hl) hK st) ?_
    rintro e a' w' ⟨s', ρ', hK', h'⟩
    cases e with
    | ret =>
      obtain ⟨u, v, ob', ρ2, h1, h2, h3, h4⟩ := retA_ok hK' h'
      exact ⟨h'.df, u, h1, v, ob', ρ2, h2, h3, h4⟩
    | normal =>
      simp only at hK'
      split at hK'
      · obtain ⟨u, v, ob', ρ2, h1, h2, h3, h4⟩ := retA_ok hK' h'
        exact ⟨h'.df, u, h1, v, ob', ρ2, h2, h3, h4⟩
      · cases hK'
    | _ => cases hK'
  · cases hK
end
/-- what is told of the primitives -/
def PrimsOk (P : Program) (F : FuncId → Option Prim) : Prop := ∀ {R : Type} (f : FuncId) (p : Prim), F f = some p → ∀ (args : List AV) (ob : List AO) (K : KV R) (r : R), primA P p args ob K = some r → ∀ (W : Nat → Prop) (ρ : Nat → Geo) (w : World) (us : List Value), Rel W ob ρ w → A2 (VR (cx W ob ρ w)) args us →
  Inv P f us w (fun u w' => ∃ v ob' ρ', K v ob' = some r ∧ Aft W ob ρ w ob' ρ' w' ∧ VR (cx W ob' ρ' w') v u)
theorem wide_ok {P : Program} {F : FuncId → Option Prim} {Wr : FuncId → List Nat} {k : Nat} (hmx : P.follows .mixedOrders = true) (hNG : noNG P = true) (hF : PrimsOk P F) : ∀ d, CallOk P (wideA P F Wr k d)
  | 0 => fun f args ob K r hK => by cases hK
  | d + 1 => by
    intro f args ob K r hK W ρ w us h ha
    have hK : (match P.funcs[f]? with
      | some fn => (match fn.body with
        | some c => funA P (wideA P F Wr k d) (lamA P (wideA P F Wr k d) k ob.length c 20) fn args ob K
        | none => none)
      | none => none) = some r := hK
    split at hK
    · rename_i fn hf
      split at hK
      · rename_i c hb
        have hΓ : CallOk P (wideA P F Wr k d) := wide_ok (Wr := Wr) (k := k) hmx hNG hF d
        have hG : PrimOk P (wideA P F Wr k d) := by
          cases d with
          | zero => exact fun f p hp => hF f p hp
          | succ d => exact fun f p hp => hF f p hp
        refine .inr ⟨run_enter hNG hf hb _ _, funA_ok hmx hΓ hG hf hb hK (fun hd q l hl => lamA_ok hmx hΓ hG rfl hd 20 q l hl) h ha⟩
      · cases hK
    · cases hK
end Go.Mx
