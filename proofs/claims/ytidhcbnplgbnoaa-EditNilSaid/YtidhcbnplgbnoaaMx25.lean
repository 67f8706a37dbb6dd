/- Own work. A part of the proof of a law of this seat: a part -/
import Derived.Test.YtidhcbnplgbnoaaMx24
/- One operation. -/
namespace Go.Mx
open Go Go.RowKit Go.Sx

theorem vrs_a2 {x : Cx} : ∀ {l : List AV} {us : List Value}, VRs x l us → A2 (VR x) l us
  | [], us, h => by rw [VRs] at h; subst h; exact .nil
  | v :: l, us, h => by
    rw [VRs] at h
    obtain ⟨c, us', e, h1, h2, h3⟩ := h
    subst e
    exact .cons (cr_vr h1) (vrs_a2 h3)
theorem a2_vrs {x : Cx} : ∀ {l : List AV} {us : List Value}, A2 (VR x) l us → l.all AV.plain = true → VRs x l us
  | [], us, h, _ => by cases h; rw [VRs]
  | v :: l, us, h, hp => by
    rw [List.all_cons, Bool.and_eq_true] at hp
    cases h with
    | cons h1 h2 =>
      obtain ⟨cs, hc, e⟩ := vr_cr h1 hp.1
      rw [VRs]
      exact ⟨cs, _, by rw [e], hc, cr_len hc, a2_vrs h2 hp.2⟩
theorem A2.append {α β : Type} {R : α → β → Prop} : ∀ {l : List α} {m : List β} {l' : List α} {m' : List β}, A2 R l m → A2 R l' m' → A2 R (l ++ l') (m ++ m')
  | [], _, _, _, .nil, h => h
  | _ :: _, _, _, _, .cons h1 h2, h => .cons h1 (A2.append h2 h)
theorem evs_cons {s : Slots} {l : List Operand} {v : AV} {vs : List AV} (h : Mx.evs s l = some (v :: vs)) : ∃ y r, l = y :: r ∧ Mx.ev s y = some v ∧ Mx.evs s r = some vs := by
  cases l with
  | nil => cases h
  | cons y r =>
    rw [Mx.evs] at h
    split at h
    · rename_i v' hv
      split at h
      · rename_i l' hl
        obtain ⟨rfl, rfl⟩ := List.cons.inj (Option.some.inj h)
        exact ⟨y, r, rfl, hv, hl⟩
      · cases h
    · cases h
theorem evs_nil {s : Slots} {l : List Operand} (h : Mx.evs s l = some []) : l = [] := by
  cases l with
  | nil => rfl
  | cons y r =>
    rw [Mx.evs] at h
    split at h
    · split at h <;> cases h
    · cases h
theorem arr_of {α : Type} {a : Array α} {l : List α} (h : a.toList = l) : a = l.toArray := by rw [← h]
section
variable {R : Type} {P : Program} {Γ : Sums} {W : Nat → Prop} {S : List AO} {ρ : Nat → Geo} {w : World} {a : Act}
variable {K : KV R} {r : R}
theorem builtin_ok {d : Option Nat} {ty : TypeId} {pos : String} {af : Array Edge} {g : Option (Nat × Bool)} {b : Builtin} {as : Array Operand} {Ts : Array TypeId} {s : Slots} {l : List AV} (h : Rel W S ρ w) (hd : a.defers = []) (hs : SlR (cx W S ρ w) s a) (hl : Mx.evs s as.toList = some l) (hK : builtinA P b Ts.toList l S K = some r) :
    Comes P W S ρ w ⟨d, .call { callee := .builtin b, args := as, argTypes := Ts }, ty, pos, af, g⟩ a K r := by
  unfold builtinA at hK
  split at hK
  · rename_i t x hT
    obtain ⟨y, r', e1, e2, e3⟩ := evs_cons hl
    have e3 := evs_nil e3
    subst e3
    rw [arr_of e1, arr_of hT]
    exact len_ok h hd (ev_ok hs e2) hK
  · rename_i t hT
    obtain ⟨y, r', e1, e2, e3⟩ := evs_cons hl
    have e3 := evs_nil e3
    subst e3
    rw [arr_of e1, arr_of hT]
    split at hK
    · rename_i e he
      have ha := bnd_has (a := a) (Op1 y) hd
      exact Comes.is h (d_capNil ha (elemOf_ok he) (by rw [bnd_ev (Nat.le_refl _), vr_nils (ev_ok hs e2)])) hK (vr_intI _ _)
    · cases hK
  · rename_i k i k' j
    obtain ⟨y, r', e1, e2, e3⟩ := evs_cons hl
    obtain ⟨z, r'', e4, e5, e6⟩ := evs_cons e3
    have e6 := evs_nil e6
    subst e6 e4
    rw [arr_of e1]
    split at hK
    · rename_i hk
      subst hk
      have ha := bnd_has (a := a) (Op1 y + Op1 z) hd
      exact Comes.is h (d_min ha (by rw [bnd_ev (by omega), vr_int (ev_ok hs e2)]) (by rw [bnd_ev (by omega), vr_int (ev_ok hs e5)])) hK (vr_intI _ _)
    · cases hK
  · rename_i k i k' j
    obtain ⟨y, r', e1, e2, e3⟩ := evs_cons hl
    obtain ⟨z, r'', e4, e5, e6⟩ := evs_cons e3
    have e6 := evs_nil e6
    subst e6 e4
    rw [arr_of e1]
    split at hK
    · rename_i hk
      subst hk
      have ha := bnd_has (a := a) (Op1 y + Op1 z) hd
      exact Comes.is h (d_max ha (by rw [bnd_ev (by omega), vr_int (ev_ok hs e2)]) (by rw [bnd_ev (by omega), vr_int (ev_ok hs e5)])) hK (vr_intI _ _)
    · cases hK
  · rename_i t t2 x y hT
    obtain ⟨o1, r', e1, e2, e3⟩ := evs_cons hl
    obtain ⟨o2, r'', e4, e5, e6⟩ := evs_cons e3
    have e6 := evs_nil e6
    subst e6 e4
    rw [arr_of e1, arr_of hT]
    split at hK
    · rename_i e he
      split at hK
      · rename_i k k' n hti
        exact appendZ_ok h hd (ev_ok hs e2) (vr_int (ev_ok hs e5)) he hti hK
      · cases ht : Nat.beq t t2 with
        | false => rw [ht] at hK; cases hK
        | true =>
          rw [ht, cond_true] at hK
          have ht := Nat.eq_of_beq_eq_true ht
          subst ht
          exact append_ok h hd (ev_ok hs e2) (ev_ok hs e5) he hK
      · cases hK
    · cases hK
  · cases hK
end
end Go.Mx
