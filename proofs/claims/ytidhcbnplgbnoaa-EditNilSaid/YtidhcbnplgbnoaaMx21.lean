/- Own work. A part of the proof of a law of this seat: a part -/
import Derived.Test.YtidhcbnplgbnoaaMx20
/- One operation, all in all: a call hands on what its values reach. -/
namespace Go.Mx
open Go Go.RowKit Go.Sx

/-- What a call of a function comes to: at once, or by its body. -/
def Inv (P : Program) (f : FuncId) (us : List Value) (w : World) (Q : Value → World → Prop) : Prop :=
  (∃ u w', (callFunc f us.toArray).run P w = .ok (.value u) w' ∧ Q u w') ∨ ((callFunc f us.toArray).run P w = .ok (.enter f us.toArray) w ∧ Calls P f us.toArray w (Ret Q))
theorem Inv.mono {P : Program} {f : FuncId} {us : List Value} {w : World} {Q Q' : Value → World → Prop} (h : Inv P f us w Q) (hq : ∀ u w', Q u w' → Q' u w') : Inv P f us w Q' := by
  rcases h with ⟨u, w', h1, h2⟩ | ⟨h1, h2⟩
  · exact .inl ⟨u, w', h1, hq _ _ h2⟩
  · refine .inr ⟨h1, h2.mono fun e w' he => ?_⟩
    cases e with
    | returned v => exact hq _ _ he
    | panicked c => exact he.elim
    | outgrown => exact he.elim
section
variable {P : Program} {w : World} {a : Act}
variable {d : Option Nat} {ty : TypeId} {pos : String} {af : Array Edge} {g : Option (Nat × Bool)}
theorem call_does {f : FuncId} {x : Operand} {xs : Array Operand} {Ts : Array TypeId} {l m : List Value} {Q : Value → World → Prop} (hx : a.eval x = .func (.func f) l.toArray m.toArray) (h : Inv P f (l ++ xs.toList.map a.eval ++ m) w Q) :
    Does P ⟨d, .call { callee := .value x, args := xs, argTypes := Ts }, ty, pos, af, g⟩ a w Q := by
  have hargs : l.toArray ++ xs.map a.eval ++ m.toArray = (l ++ xs.toList.map a.eval ++ m).toArray := by
    apply Array.ext'
    simp
  rcases h with ⟨u, w', h1, h2⟩ | ⟨h1, h2⟩
  · refine (Does.val (v := u) (w' := w') ?_).mono (fun v w'' ⟨e1, e2⟩ => by subst e1; subst e2; exact h2)
    rw [← hargs] at h1
    simp only [execOp, resolve, hx, Deferred.ofValue, invoke, Sem.run_bind, Sem.run_pure, Result.andThen_ok, h1]
  · refine Does.enter (f := f) (args := (l ++ xs.toList.map a.eval ++ m).toArray) (w' := w) ?_ h2
    rw [← hargs] at h1 ⊢
    simp only [execOp, resolve, hx, Deferred.ofValue, invoke, Sem.run_bind, Sem.run_pure, Result.andThen_ok, h1]
end

/-! ### a part of a state, under other names -/
mutual
theorem CR.ren {x y : Cx} {f : Nat → Option Nat} (hA : ∀ k, y.A k → x.A k) (hh : y.h = x.h) (hf : ∀ i j, i < x.m → f i = some j → j < y.m ∧ y.g j = x.g i) : ∀ (v : AV) {v' : AV} {cs : List Value}, v.ren f = some v' → CR x v cs → CR y v' cs ∧ v'.isAgg = v.isAgg ∧ v'.sz = v.sz
  | .dat t d, v', cs, h, r => by
    obtain rfl := Option.some.inj h
    exact ⟨cr_dat.2 (by rw [hh]; exact t.kd.mono (cr_dat.1 r) (fun k _ hk => hA k hk)), rfl, rfl⟩
  | .pr a b, v', cs, h, r => by
    rw [AV.ren] at h
    split at h
    · rename_i a' ha
      split at h
      · rename_i b' hb
        obtain rfl := Option.some.inj h
        rw [CR] at r
        obtain ⟨c1, c2, e, h1, h2⟩ := r
        obtain ⟨k1, _, k3⟩ := CR.ren hA hh hf a ha h1
        obtain ⟨m1, _, m3⟩ := CR.ren hA hh hf b hb h2
        exact ⟨by rw [CR]; exact ⟨c1, c2, e, k1, m1⟩, rfl, by show a'.sz + b'.sz = a.sz + b.sz; rw [k3, m3]⟩
      · cases h
    · cases h
  | .one a, v', cs, h, r => by
    rw [AV.ren] at h
    split at h
    · rename_i a' ha
      obtain rfl := Option.some.inj h
      obtain ⟨k1, _, k3⟩ := CR.ren hA hh hf a ha (cr_oneI.1 r)
      exact ⟨cr_oneI.2 k1, rfl, k3⟩
    · cases h
  | .ptr i p, v', cs, h, r => by
    rw [AV.ren] at h
    split at h
    · rename_i j hj
      obtain rfl := Option.some.inj h
      rw [CR] at r
      obtain ⟨h1, b, h2, h3⟩ := r
      obtain ⟨g1, g2⟩ := hf i j h1 hj
      exact ⟨by rw [CR]; exact ⟨g1, b, by rw [g2]; exact h2, h3⟩, rfl, rfl⟩
    · cases h
  | .nilp, v', cs, h, r => by obtain rfl := Option.some.inj h; rw [CR] at r; exact ⟨by rw [CR]; exact r, rfl, rfl⟩
  | .rdp t d, v', cs, h, r => by
    obtain rfl := Option.some.inj h
    rw [CR] at r
    obtain ⟨b, o, c, e, h1, h2, h3⟩ := r
    exact ⟨by rw [CR]; exact ⟨b, o, c, e, fun h => h1 (hA b h), by rw [hh]; exact h2, by rw [hh]; exact t.kd.mono h3 (fun k _ hk => hA k hk)⟩, rfl, rfl⟩
  | .view i, v', cs, h, r => by
    rw [AV.ren] at h
    split at h
    · rename_i j hj
      obtain rfl := Option.some.inj h
      rw [CR] at r
      obtain ⟨g1, g2⟩ := hf i j r.1 hj
      exact ⟨by rw [CR, g2]; exact ⟨g1, r.2⟩, rfl, rfl⟩
    · cases h
  | .pre i n, v', cs, h, r => by
    rw [AV.ren] at h
    split at h
    · rename_i j hj
      obtain rfl := Option.some.inj h
      rw [CR] at r
      obtain ⟨g1, g2⟩ := hf i j r.1 hj
      exact ⟨by rw [CR, g2]; exact ⟨g1, r.2⟩, rfl, rfl⟩
    · cases h
  | .tgt i n, v', cs, h, r => by
    rw [AV.ren] at h
    split at h
    · rename_i j hj
      obtain rfl := Option.some.inj h
      rw [CR] at r
      obtain ⟨g1, g2⟩ := hf i j r.1 hj
      exact ⟨by rw [CR, g2]; exact ⟨g1, r.2⟩, rfl, rfl⟩
    · cases h
  | .win i o n, v', cs, h, r => by
    rw [AV.ren] at h
    split at h
    · rename_i j hj
      obtain rfl := Option.some.inj h
      rw [CR] at r
      obtain ⟨g1, g2⟩ := hf i j r.1 hj
      exact ⟨by rw [CR, g2]; exact ⟨g1, r.2⟩, rfl, rfl⟩
    · cases h
  | .nils, v', cs, h, r => by obtain rfl := Option.some.inj h; rw [CR] at r; exact ⟨by rw [CR]; exact r, rfl, rfl⟩
  | .cut t, v', cs, h, r => by obtain rfl := Option.some.inj h; rw [CR] at r; exact ⟨by rw [CR]; exact r, rfl, rfl⟩
  | .sln t d, v', cs, h, r => by
    obtain rfl := Option.some.inj h
    rw [CR] at r
    obtain ⟨p, c, e, h1⟩ := r
    exact ⟨by rw [CR]; exact ⟨p, c, e, by rw [hh]; exact h1.mono (fun k _ hk => hA k hk)⟩, rfl, rfl⟩
  | .mp i, v', cs, h, r => by
    rw [AV.ren] at h
    split at h
    · rename_i j hj
      obtain rfl := Option.some.inj h
      rw [CR] at r
      obtain ⟨g1, g2⟩ := hf i j r.1 hj
      exact ⟨by rw [CR, g2]; exact ⟨g1, r.2⟩, rfl, rfl⟩
    · cases h
  | .nilm, v', cs, h, r => by obtain rfl := Option.some.inj h; rw [CR] at r; exact ⟨by rw [CR]; exact r, rfl, rfl⟩
  | .fn g fs ks, v', cs, h, r => by
    rw [AV.ren] at h
    split at h
    · rename_i fs' hfs
      split at h
      · rename_i ks' hks
        obtain rfl := Option.some.inj h
        rw [CR] at r
        obtain ⟨l, m, e, h1, h2⟩ := r
        exact ⟨by rw [CR]; exact ⟨l, m, e, VRs.ren hA hh hf fs hfs h1, VRs.ren hA hh hf ks hks h2⟩, rfl, rfl⟩
      · cases h
    · cases h
  | .nilf, v', cs, h, r => by obtain rfl := Option.some.inj h; rw [CR] at r; exact ⟨by rw [CR]; exact r, rfl, rfl⟩
  | .iface t v, v', cs, h, r => by
    rw [AV.ren] at h
    split at h
    · rename_i u hu
      obtain rfl := Option.some.inj h
      rw [CR] at r
      obtain ⟨c, e, h1, h2⟩ := r
      obtain ⟨k1, k2, k3⟩ := CR.ren hA hh hf v hu h1
      exact ⟨by rw [CR]; exact ⟨c, by rw [k2]; exact e, k1, by rw [k3]; exact h2⟩, rfl, rfl⟩
    · cases h
  | .nilI, v', cs, h, r => by obtain rfl := Option.some.inj h; rw [CR] at r; exact ⟨by rw [CR]; exact r, rfl, rfl⟩
  | .tup l, v', cs, h, r => by rw [CR] at r; exact r.elim
  | .undef, v', cs, h, r => by rw [CR] at r; exact r.elim
theorem VRs.ren {x y : Cx} {f : Nat → Option Nat} (hA : ∀ k, y.A k → x.A k) (hh : y.h = x.h) (hf : ∀ i j, i < x.m → f i = some j → j < y.m ∧ y.g j = x.g i) : ∀ (l : List AV) {l' : List AV} {m : List Value}, AV.renL f l = some l' → VRs x l m → VRs y l' m
  | [], l', m, h, r => by obtain rfl := Option.some.inj h; rw [VRs] at r ⊢; exact r
  | v :: l, l', m, h, r => by
    rw [AV.renL] at h
    split at h
    · rename_i v' hv
      split at h
      · rename_i l'' hl
        obtain rfl := Option.some.inj h
        rw [VRs] at r
        obtain ⟨c, m', e, h1, h2, h3⟩ := r
        obtain ⟨k1, k2, k3⟩ := CR.ren hA hh hf v hv h1
        rw [VRs]
        exact ⟨c, m', by rw [k2]; exact e, k1, by rw [k3]; exact h2, VRs.ren hA hh hf l hl h3⟩
      · cases h
    · cases h
end
theorem VR.ren {x y : Cx} {f : Nat → Option Nat} (hA : ∀ k, y.A k → x.A k) (hh : y.h = x.h) (hf : ∀ i j, i < x.m → f i = some j → j < y.m ∧ y.g j = x.g i) {v v' : AV} {u : Value} (h : v.ren f = some v') (r : VR x v u) : VR y v' u := by
  have other : v.plain = true → VR y v' u := by
    intro hp
    obtain ⟨cs, hc, e⟩ := vr_cr r hp
    obtain ⟨k1, k2, k3⟩ := CR.ren hA hh hf v h hc
    rw [e, ← k2]
    exact cr_vr k1
  cases v with
  | tup l =>
    rw [AV.ren] at h
    split at h
    · rename_i l' hl
      obtain rfl := Option.some.inj h
      obtain ⟨m, e, hm⟩ := r
      exact ⟨m, e, VRs.ren hA hh hf l hl hm⟩
    · cases h
  | undef => obtain rfl := Option.some.inj h; exact r
  | _ => exact other rfl
theorem A2.ren {x y : Cx} {f : Nat → Option Nat} (hA : ∀ k, y.A k → x.A k) (hh : y.h = x.h) (hf : ∀ i j, i < x.m → f i = some j → j < y.m ∧ y.g j = x.g i) : ∀ {l l' : List AV} {us : List Value}, AV.renL f l = some l' → A2 (VR x) l us → A2 (VR y) l' us
  | [], l', us, h, r => by obtain rfl := Option.some.inj h; cases r; exact .nil
  | v :: l, l', us, h, r => by
    rw [AV.renL] at h
    split at h
    · rename_i v' hv
      split at h
      · rename_i l'' hl
        obtain rfl := Option.some.inj h
        cases r with
        | cons h1 h2 => exact .cons (VR.ren hA hh hf hv h1) (A2.ren hA hh hf hl h2)
      · cases h
    · cases h
end Go.Mx
