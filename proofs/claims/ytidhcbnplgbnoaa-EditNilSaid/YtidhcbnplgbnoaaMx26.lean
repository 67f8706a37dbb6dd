/- Own work. A part of the proof of a law of this seat: a part -/
import Derived.Test.YtidhcbnplgbnoaaMx25
/- One operation, all in all. -/
namespace Go.Mx
open Go Go.RowKit Go.Sx

section
variable {R : Type} {P : Program} {Γ : Sums} {W : Nat → Prop} {S : List AO} {ρ : Nat → Geo} {w : World} {a : Act}
variable {K : KV R} {r : R}
theorem makeFunc_ok {d : Option Nat} {ty : TypeId} {pos : String} {af : Array Edge} {g : Option (Nat × Bool)} {f : FuncId} {fs cs : Array Operand} {s : Slots} {l m : List AV} (h : Rel W S ρ w) (hs : SlR (cx W S ρ w) s a) (hl : Mx.evs s fs.toList = some l) (hm : Mx.evs s cs.toList = some m) (hK : cond (l.all AV.plain && m.all AV.plain) (K (.fn f l m) S) none = some r) :
    Comes P W S ρ w ⟨d, .makeFunc (.func f) fs cs, ty, pos, af, g⟩ a K r := by
  cases hp : (l.all AV.plain && m.all AV.plain) with
  | false => rw [hp] at hK; cases hK
  | true =>
    rw [hp, cond_true] at hK
    rw [Bool.and_eq_true] at hp
    have h1 := a2_vrs (evs_ok hs hl) hp.1
    have h2 := a2_vrs (evs_ok hs hm) hp.2
    refine Comes.is (u := .func (.func f) (fs.map a.eval) (cs.map a.eval)) h (Does.val (by simp [execOp, Instr.makeFunc])) hK ?_
    refine ⟨[.func (.func f) (fs.map a.eval) (cs.map a.eval)], rfl, ?_, rfl⟩
    rw [CR]
    exact ⟨_, _, by rw [← Array.toList_map, ← Array.toList_map], h1, h2⟩
theorem pick_ok {d : Option Nat} {ty : TypeId} {pos : String} {af : Array Edge} {g : Option (Nat × Bool)} {c y z : Operand} {t : Bool} {s : Slots} (h : Rel W S ρ w) (hd : a.defers = []) (hs : SlR (cx W S ρ w) s a) (hc : Mx.ev s c = some (.dat .bool t)) (hK : cond t (match Mx.ev s y with | some v => K v S | none => none) (match Mx.ev s z with | some v => K v S | none => none) = some r) :
    Comes P W S ρ w ⟨d, .pick c y z, ty, pos, af, g⟩ a K r := by
  have ha := bnd_has (a := a) (Op1 c + Op1 y + Op1 z) hd
  have hcv : Sx.ev (bnd a (Op1 c + Op1 y + Op1 z)) c = some (.bool t) := by rw [bnd_ev (by omega), vr_bool (ev_ok hs hc)]
  cases t with
  | true =>
    rw [cond_true] at hK
    split at hK
    · rename_i v hv
      exact Comes.is h (d_pick ha hcv rfl (bnd_ev (by omega))) hK (ev_ok hs hv)
    · cases hK
  | false =>
    rw [cond_false] at hK
    split at hK
    · rename_i v hv
      exact Comes.is h (d_pickF ha hcv rfl (bnd_ev (by omega))) hK (ev_ok hs hv)
    · cases hK
theorem opA_ok (hΓ : CallOk P Γ) (hG : PrimOk P Γ) {o : Oper} {s : Slots} (hK : opA P Γ o s S K = some r) (h : Rel W S ρ w) (hd : a.defers = []) (hs : SlR (cx W S ρ w) s a) : Comes P W S ρ w o a K r := by
  obtain ⟨d, op, ty, pos, af, g⟩ := o
  unfold opA at hK
  simp only at hK
  split at hK
  · -- move
    split at hK
    · rename_i v hv
      exact Comes.is h (d_move (bnd_has _ hd) (bnd_ev (Nat.le_refl _))) hK (ev_ok hs hv)
    · cases hK
  · split at hK
    · rename_i v hv
      exact Comes.is h (d_assign (bnd_has _ hd) (bnd_ev (Nat.le_refl _))) hK (ev_ok hs hv)
    · cases hK
  · split at hK
    · rename_i t hc
      exact pick_ok h hd hs hc hK
    · cases hK
  · exact alloc_ok h hK
  · split at hK
    · rename_i v hv
      exact box_ok h hd (ev_ok hs hv) hK
    · cases hK
  · split at hK
    · rename_i l hl
      exact build_ok h (partsA_ok hs hl) hK
    · cases hK
  · split at hK
    · rename_i l hl
      exact buildSlice_ok h hd (partsA_ok hs hl) hK
    · cases hK
  · split at hK
    · rename_i v hv
      exact load_ok h hd (ev_ok hs hv) hK
    · cases hK
  · split at hK
    · rename_i v u hv hu
      exact store_ok h hd (ev_ok hs hv) (ev_ok hs hu) hK
    · cases hK
  · -- nilCheck
    split at hK
    · rename_i i p hv
      exact nilCheck_ok h hd (ev_ok hs hv) hK
    · rename_i t x hv
      exact nilCheck_ok h hd (ev_ok hs hv) hK
    · cases hK
  · split at hK
    · rename_i u v hu hv
      exact bin_ok h hd (ev_ok hs hu) (ev_ok hs hv) hK
    · cases hK
  · split at hK
    · rename_i v hv
      exact un_ok h hd (ev_ok hs hv) hK
    · cases hK
  · split at hK
    · rename_i v hv
      exact conv_ok h hd (ev_ok hs hv) hK
    · cases hK
  · split at hK
    · rename_i l m hl hm
      exact makeFunc_ok h hs hl hm hK
    · cases hK
  · split at hK
    · rename_i k i k' j hn hm
      obtain ⟨e, hK2⟩ := ck_elim hK
      subst e
      exact make_ok h hd (vr_int (ev_ok hs hn)) (vr_int (ev_ok hs hm)) hK2
    · cases hK
  · split at hK
    · rename_i v l h' m hv h1 h2 h3
      exact slice_ok h hd (ev_ok hs hv) (optI_ok hs h1) (optI_ok hs h2) (optI_ok hs h3) hK
    · cases hK
  · rename_i S' x i
    cases hx : Mx.ev s x with
    | none => rw [hx] at hK; cases hK
    | some v => rw [hx] at hK; exact fieldAddr_ok h hd (ev_ok hs hx) hK
  · rename_i S' x i
    cases hx : Mx.ev s x with
    | none => rw [hx] at hK; cases hK
    | some v => rw [hx] at hK; exact field_ok h (ev_ok hs hx) hK
  · split at hK
    · rename_i v k j hv hj
      exact indexAddr_ok h hd (ev_ok hs hv) (vr_int (ev_ok hs hj)) hK
    · cases hK
  · split at hK
    · rename_i v k j hv hj
      exact index_ok h hd (ev_ok hs hv) (vr_int (ev_ok hs hj)) hK
    · cases hK
  · rename_i T' x
    cases hx : Mx.ev s x with
    | none => rw [hx] at hK; split at hK <;> first | (rename_i e; cases e) | cases hK
    | some v => rw [hx] at hK; exact range_ok h hd (ev_ok hs hx) hK
  · rename_i x
    cases hx : Mx.ev s x with
    | none => rw [hx] at hK; cases hK
    | some v => rw [hx] at hK; exact next_ok h hd (ev_ok hs hx) hK
  · rename_i x i
    cases hx : Mx.ev s x with
    | none => rw [hx] at hK; cases hK
    | some v => rw [hx] at hK; exact extract_ok h hd (ev_ok hs hx) hK
  · -- calls
    rename_i c
    obtain ⟨callee, as, Ts⟩ := c
    simp only at hK
    split at hK
    · rename_i x
      split at hK
      · rename_i f fs cs l hx hl
        have hv := ev_ok hs hx
        obtain ⟨u, e, h1, _⟩ := hv
        rw [CR] at h1
        obtain ⟨m1, m2, e2, h3, h4⟩ := h1
        have hx' : a.eval x = .func (.func f) m1.toArray m2.toArray := by rw [e, e2]; rfl
        have hargs : A2 (VR (cx W S ρ w)) (fs ++ l ++ cs) (m1 ++ as.toList.map a.eval ++ m2) := ((vrs_a2 h3).append (evs_ok hs hl)).append (vrs_a2 h4)
        refine call_does hx' ?_
        split at hK
        · rename_i p hp
          exact hG f p hp _ _ _ _ hK W ρ w _ h hargs
        · exact callA_ok hΓ hK h hargs
      · cases hK
    · rename_i b
      split at hK
      · rename_i l hl
        exact builtin_ok h hd hs hl hK
      · cases hK
    · cases hK
  · cases hK
end
end Go.Mx
