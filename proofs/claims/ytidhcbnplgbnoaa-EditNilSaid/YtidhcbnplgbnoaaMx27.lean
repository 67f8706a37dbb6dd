/- Own work. A part of the proof of a law of this seat: a part -/
import Derived.Test.YtidhcbnplgbnoaaMx26
/- A state within a call; a region whose operations are done as they stand. -/
namespace Go.Mx
open Go Go.RowKit Go.Sx

/-- A state, seen from where the call began. -/
structure StB (W : Nat → Prop) (S0 : List AO) (ρ0 : Nat → Geo) (w0 : World) (N : Nat) (s : St) (ρ : Nat → Geo) (a : Act) (w : World) : Prop where
  aft : Aft W S0 ρ0 w0 s.ob ρ w
  sl : SlR (cx W s.ob ρ w) s.sl a
  df : a.defers = []
  sz : a.tmps.size = N
theorem tput_get {a : Act} {d t : Nat} {v : Value} (hd : d < a.tmps.size) : (a.put (some d) v).tmps.getD t undef = if d = t then v else a.tmps.getD t undef := by
  by_cases h : d = t
  · subst h; simp [Act.put, Array.getD, hd]
  · simp only [Act.put, Array.getD_eq_getD_getElem?, Array.getElem?_setIfInBounds_ne h, h, if_false]
theorem put_size {a : Act} {d : Option Nat} {v : Value} : (a.put d v).tmps.size = a.tmps.size := by
  cases d with
  | none => rfl
  | some d => simp [Act.put]
theorem put_df {a : Act} {d : Option Nat} {v : Value} : (a.put d v).defers = a.defers := by
  cases d with
  | none => rfl
  | some d => simp [Act.put]
theorem look_cons {d t : Nat} {v : AV} {s : Slots} : lookA t ((d, v) :: s) = if d = t then some v else lookA t s := by
  by_cases h : d = t
  · subst h; simp [lookA]
  · rw [if_neg h, lookA, beq_ne h]; rfl
theorem SlR.put {x : Cx} {s : Slots} {a : Act} {d : Option Nat} {v : AV} {u : Value} (h : SlR x s a) (hv : VR x v u) (hd : ∀ e, d = some e → e < a.tmps.size) : SlR x (putS d v s) (a.put d u) := by
  cases d with
  | none => exact h
  | some d =>
    intro t v' hl
    have hl : lookA t ((d, v) :: s) = some v' := hl
    rw [look_cons] at hl
    rw [tput_get (hd d rfl)]
    by_cases e : d = t
    · rw [if_pos e] at hl ⊢
      obtain rfl := Option.some.inj hl
      exact hv
    · rw [if_neg e] at hl ⊢
      exact h t v' hl
theorem SlR.again {x : Cx} {s : Slots} {a : Act} {d : Nat} {v : AV} (h : SlR x s a) (hd : lookA d s = some v) : SlR x ((d, v) :: s) a := by
  intro t v' hl
  rw [look_cons] at hl
  by_cases e : d = t
  · rw [if_pos e] at hl
    obtain rfl := Option.some.inj hl
    subst e
    exact h d v hd
  · rw [if_neg e] at hl
    exact h t v' hl
/-- an operation's guard -/
theorem wanted_none {o : Oper} {y : Nat → Option Bool} (h : o.guard = none) : Region.wanted o y = true := by
  simp only [Region.wanted, h]
theorem wanted_bool {o : Oper} {all : List Oper} {oj : Oper} {j d : Nat} {want b : Bool} {a : Act} (h : o.guard = some (j, want)) (hj : all[j]? = some oj) (hd : oj.dst = some d) (hv : a.tmps.getD d undef = .bool b) : Region.wanted o (yielded all.toArray a.tmps) = (b == want) := by
  simp only [Region.wanted, yielded, h, List.getElem?_toArray, hj, hd, Option.bind_some, yield_at hv]
  cases b <;> cases want <;> rfl
theorem wanted_undef {o : Oper} {all : List Oper} {oj : Oper} {j d : Nat} {want : Bool} {a : Act} (h : o.guard = some (j, want)) (hj : all[j]? = some oj) (hd : oj.dst = some d) (hv : a.tmps.getD d undef = undef) : Region.wanted o (yielded all.toArray a.tmps) = false := by
  simp only [Region.wanted, yielded, h, List.getElem?_toArray, hj, hd, Option.bind_some]
  rw [Array.getD_eq_getD_getElem?] at hv
  cases hx : a.tmps[d]? with
  | none => cases want <;> rfl
  | some v =>
    rw [hx] at hv
    have hv : v = undef := hv
    subst hv
    cases want <;> rfl
section
variable {P : Program} {ops : Array Oper} {Q : Exit → Act → World → Prop} {a : Act} {w : World} {rest : List Oper} {o : Oper}
theorem list_on {F : Value → World → Prop} (hw : Region.wanted o (yielded ops a.tmps) = true) (h : Does P o a w F) (k : ∀ v w', F v w' → wpList P ops Q rest (a.put o.dst v) w') : wpList P ops Q (o :: rest) a w := by
  unfold wpList
  rw [if_pos hw]
  exact .inl (h _ _ k)
theorem list_off (hw : Region.wanted o (yielded ops a.tmps) = false) (k : wpList P ops Q rest (a.put o.dst undef) w) : wpList P ops Q (o :: rest) a w := by
  unfold wpList
  rw [if_neg (by rw [hw]; simp)]
  exact k
end
def dstLt (N : Nat) (o : Oper) : Bool := match o.dst with | some d => Nat.blt d N | none => true
theorem dstLt_ok {N : Nat} {o : Oper} (h : dstLt N o = true) : ∀ e, o.dst = some e → e < N := by
  intro e he
  unfold dstLt at h
  rw [he] at h
  simpa [Nat.blt_eq] using h
section
variable {R : Type} {P : Program} {Γ : Sums} {W : Nat → Prop} {S0 : List AO} {ρ0 ρ : Nat → Geo} {w0 w : World} {a : Act} {N : Nat} {r : R}
theorem StB.go {s : St} {S' : List AO} {ρ' : Nat → Geo} {w' : World} {v : AV} {u : Value} {o : Oper} {sl : Slots} (h : StB W S0 ρ0 w0 N s ρ a w) (hsl : SlR (cx W s.ob ρ w) sl a) (ho : dstLt N o = true) (A : Aft W s.ob ρ w S' ρ' w') (hv : VR (cx W S' ρ' w') v u) :
    StB W S0 ρ0 w0 N ⟨putS o.dst v sl, S'⟩ ρ' (a.put o.dst u) w' :=
  ⟨h.aft.trans A, (hsl.up A.le).put hv (fun e he => by rw [h.sz]; exact dstLt_ok ho e he), by rw [put_df]; exact h.df, by rw [put_size]; exact h.sz⟩
/-- the guard, and what is known of it -/
theorem guard_cases {α : Type} {all : List Oper} {o : Oper} {s : Slots} {go no : Slots → Option α} {z : α}
    (hK : (match o.guard with
    | none => go s
    | some (j, want) => (match all[j]? with
      | some oj => (match oj.dst with
        | some d => (match lookA d s with
          | some .undef => no s
          | some (.dat .bool b) => cond b (cond want (go ((d, .dat .bool true) :: s)) (no ((d, .dat .bool true) :: s))) (cond want (no ((d, .dat .bool false) :: s)) (go ((d, .dat .bool false) :: s)))
          | _ => none)
        | none => none)
      | none => none)) = some z) :
    ∃ sl, (∀ t, lookA t sl = lookA t s) ∧ ((go sl = some z ∧ (o.guard = none ∨ ∃ d b, d ∈ guardT all o ∧ lookA d s = some (.dat .bool b) ∧ ∀ a : Act, a.tmps.getD d undef = .bool b → Region.wanted o (yielded all.toArray a.tmps) = true)) ∨
      (no sl = some z ∧ ∃ d v, d ∈ guardT all o ∧ lookA d s = some v ∧ (v = .undef ∨ ∃ b, v = .dat .bool b) ∧ ∀ (x : Cx) (a : Act), VR x v (a.tmps.getD d undef) → Region.wanted o (yielded all.toArray a.tmps) = false)) := by
  have again : ∀ {d : Nat} {v : AV}, lookA d s = some v → ∀ t, lookA t ((d, v) :: s) = lookA t s := by
    intro d v hd t
    rw [look_cons]
    by_cases e : d = t
    · rw [if_pos e, ← e, hd]
    · rw [if_neg e]
  split at hK
  · rename_i hg
    exact ⟨s, fun _ => rfl, .inl ⟨hK, .inl hg⟩⟩
  · rename_i j want hg
    split at hK
    · rename_i oj hj
      split at hK
      · rename_i d hd
        have hm : d ∈ guardT all o := by unfold guardT; simp [hg, hj, hd]
        split at hK
        · rename_i hl
          exact ⟨s, fun _ => rfl, .inr ⟨hK, d, .undef, hm, hl, .inl rfl, fun x a ha => wanted_undef hg hj hd ha⟩⟩
        · rename_i b hl
          cases b with
          | true =>
            rw [cond_true] at hK
            cases want with
            | true => exact ⟨_, again hl, .inl ⟨hK, .inr ⟨d, true, hm, hl, fun a ha => by rw [wanted_bool hg hj hd ha]; rfl⟩⟩⟩
            | false => exact ⟨_, again hl, .inr ⟨hK, d, _, hm, hl, .inr ⟨_, rfl⟩, fun x a ha => by rw [wanted_bool hg hj hd (vr_bool ha)]; rfl⟩⟩
          | false =>
            rw [cond_false] at hK
            cases want with
            | true => exact ⟨_, again hl, .inr ⟨hK, d, _, hm, hl, .inr ⟨_, rfl⟩, fun x a ha => by rw [wanted_bool hg hj hd (vr_bool ha)]; rfl⟩⟩
            | false => exact ⟨_, again hl, .inl ⟨hK, .inr ⟨d, false, hm, hl, fun a ha => by rw [wanted_bool hg hj hd ha]; rfl⟩⟩⟩
        · cases hK
      · cases hK
    · cases hK
theorem SlR.like {x : Cx} {s s' : Slots} (h : SlR x s a) (hl : ∀ t, lookA t s' = lookA t s) : SlR x s' a := fun t v hv => h t v (by rw [← hl]; exact hv)
theorem ops_lit (hΓ : CallOk P Γ) (hG : PrimOk P Γ) {all : List Oper} {Q : Exit → Act → World → Prop} {K : St → List Log → Option R} (hQ : ∀ s' l' ρ' a' w', K s' l' = some r → StB W S0 ρ0 w0 N s' ρ' a' w' → Q .normal a' w') :
    ∀ (rest : List Oper) (i : Nat) (s : St) (l : List Log) (ρ : Nat → Geo) (a : Act) (w : World), rest.all (dstLt N) = true → opsA P Γ all false rest i s l K = some r → StB W S0 ρ0 w0 N s ρ a w → wpList P all.toArray Q rest a w
  | [], i, s, l, ρ, a, w, _, hK, h => nil_ (hQ s l ρ a w hK h)
  | o :: rest, i, s, l, ρ, a, w, hd, hK, h => by
    rw [List.all_cons, Bool.and_eq_true] at hd
    unfold opsA at hK
    simp only [cond_false] at hK
    obtain ⟨sl, hsl, hc⟩ := guard_cases (go := fun sl => opA P Γ o sl s.ob fun v ob => opsA P Γ all false rest (i + 1) ⟨putS o.dst v sl, ob⟩ l K) (no := fun sl => opsA P Γ all false rest (i + 1) ⟨putS o.dst .undef sl, s.ob⟩ l K) hK
    have hs := h.sl.like hsl
    rcases hc with ⟨hK, hw⟩ | ⟨hK, d, v, _, hl, _, hw⟩
    · have hw : Region.wanted o (yielded all.toArray a.tmps) = true := by
        rcases hw with hg | ⟨d, b, _, hl, hw⟩
        · exact wanted_none hg
        · exact hw a (vr_bool (h.sl d _ hl))
      refine list_on hw (opA_ok hΓ hG hK h.aft.rel h.df hs) ?_
      rintro u w' ⟨v, S', ρ', hK', A, hv⟩
      exact ops_lit hΓ hG hQ rest (i + 1) _ l ρ' _ w' hd.2 hK' (h.go hs hd.1 A hv)
    · refine list_off (hw _ a (h.sl d v hl)) ?_
      exact ops_lit hΓ hG hQ rest (i + 1) _ l ρ _ w hd.2 hK (h.go hs hd.1 (Aft.refl h.aft.rel) rfl)
end
end Go.Mx
