/- Own work. A part of the proof of a law of this seat: a part -/
import Derived.Test.YtidhcbnplgbnoaaMx15
import Derived.Test.YtidhcbnplgbnoaaSxB
/- Operations on two values. -/
namespace Go.Mx
open Go Go.RowKit Go.Sx

section
variable {P : Program}
theorem EqV.iff {d : Nat} {t : TypeId} {x y : Value} {p q : Prop} (h : EqV P d t x y p) (e : p ↔ q) : EqV P d t x y q := ⟨fun w => by obtain ⟨r, h1, h2⟩ := h.run w; exact ⟨r, h1, h2.trans e⟩⟩
theorem EqF.iff {d : Nat} {xs ys : Array Value} {fs : List Field} {p q : Prop} (h : EqF P d xs ys fs p) (e : p ↔ q) : EqF P d xs ys fs q := ⟨fun w => by obtain ⟨r, h1, h2⟩ := h.run w; exact ⟨r, h1, h2.trans e⟩⟩
def EqE (P : Program) (E : TypeId → T → Bool) (d : Nat) : Prop := ∀ (i : TypeId) (t : T) (x y : t.den) (q : Bool) (A : Nat → Prop) (hp : Array Obj) (c1 c2 : List Value), E i t = true → eqv t x y = some q → t.kd.K A hp x c1 → t.kd.K A hp y c2 → EqV P d i (form t.aggB c1) (form t.aggB c2) (q = true)
theorem fldTy_ok {E : TypeId → T → Bool} {d : Nat} (hE : EqE P E d) {f : Field} {o : Nat} {t : T} (h : fldTy P E f o t = true) {x y : t.den} {q : Bool} {A : Nat → Prop} {hp : Array Obj} {c1 c2 X Y : List Value} (hq : eqv t x y = some q) (h1 : t.kd.K A hp x c1) (h2 : t.kd.K A hp y c2)
    (g1 : ∀ j v, c1[j]? = some v → X[o + j]? = some v) (g2 : ∀ j v, c2[j]? = some v → Y[o + j]? = some v) :
    f.name ≠ "_" ∧ Pt P f.type X.toArray f.offset (form t.aggB c1) ∧ Pt P f.type Y.toArray f.offset (form t.aggB c2) ∧ EqV P d f.type (form t.aggB c1) (form t.aggB c2) (q = true) := by
  unfold fldTy at h
  simp only [Bool.and_eq_true, bne_iff_ne, ne_eq] at h
  obtain ⟨⟨⟨⟨n1, n2⟩, n3⟩, n4⟩, n5⟩ := h
  have n2 := Nat.eq_of_beq_eq_true n2
  have hl : ∀ z : t.den, loadOk P f.type (.dat t z) = true := by
    intro z
    unfold loadOk
    split at n4
    · rename_i b hb
      rw [hb]
      have : b = t.aggB := by simpa using n4
      subst this
      split
      · rename_i hb'
        have hb' : t.aggB = true := by simpa using hb'
        have : szOk P f.type t.sz = true := n3
        show (t.aggB && szOk P f.type t.sz) = true
        rw [hb', this]; rfl
      · rename_i hb'
        have hb' : t.aggB = false := by simpa using hb'
        show (!t.aggB) = true
        rw [hb']; rfl
      · rename_i hb'; cases hb'
    · cases n4
  refine ⟨n1, fun w => ?_, fun w => ?_, hE _ _ _ _ _ _ _ _ _ n5 hq h1 h2⟩
  · rw [n2]; exact part_run (x := ⟨A, hp, fun _ => ⟨none, 0, 0, 0⟩, 0⟩) (hl x) (cr_dat.2 h1) g1 w
  · rw [n2]; exact part_run (x := ⟨A, hp, fun _ => ⟨none, 0, 0, 0⟩, 0⟩) (hl y) (cr_dat.2 h2) g2 w
theorem eqTyF_ok {E : TypeId → T → Bool} {d : Nat} (hE : EqE P E d) {A : Nat → Prop} {hp : Array Obj} {X Y : List Value} : ∀ (fs : List Field) (o : Nat) (t : T) (x y : t.den) (q : Bool) (c1 c2 : List Value), eqTyF P E fs o t = true → eqv t x y = some q → t.kd.K A hp x c1 → t.kd.K A hp y c2 →
    (∀ j v, c1[j]? = some v → X[o + j]? = some v) → (∀ j v, c2[j]? = some v → Y[o + j]? = some v) → EqF P d X.toArray Y.toArray fs (q = true)
  | [], o, t, x, y, q, c1, c2, h, _, _, _, _, _ => by cases t <;> cases h
  | [f], o, t, x, y, q, c1, c2, h, hq, h1, h2, g1, g2 => by
    have h : fldTy P E f o t = true := by cases t <;> exact h
    obtain ⟨k1, k2, k3, k4⟩ := fldTy_ok hE h hq h1 h2 g1 g2
    exact EqF.one k1 k2 k3 k4
  | f :: f2 :: r, o, .pair ta tb, x, y, q, c1, c2, h, hq, h1, h2, g1, g2 => by
    have h : (fldTy P E f o ta && eqTyF P E (f2 :: r) (o + ta.sz) tb) = true := h
    rw [Bool.and_eq_true] at h
    rw [eqv] at hq
    split at hq
    · rename_i p hp1
      split at hq
      · rename_i q' hq1
        obtain rfl := Option.some.inj hq
        obtain ⟨a1, b1, e1, ka1, kb1⟩ := h1
        obtain ⟨a2, b2, e2, ka2, kb2⟩ := h2
        have l1 : a1.length = ta.sz := kd_len ka1
        have l2 : a2.length = ta.sz := kd_len ka2
        obtain ⟨k1, k2, k3, k4⟩ := fldTy_ok hE h.1 hp1 ka1 ka2 (fun j v hj => g1 j v (by rw [e1, List.getElem?_append, if_pos (List.getElem?_eq_some_iff.1 hj).1]; exact hj)) (fun j v hj => g2 j v (by rw [e2, List.getElem?_append, if_pos (List.getElem?_eq_some_iff.1 hj).1]; exact hj))
        have k5 := eqTyF_ok hE (f2 :: r) (o + ta.sz) tb x.2 y.2 q' b1 b2 h.2 hq1 kb1 kb2
          (fun j v hj => by rw [Nat.add_assoc]; exact g1 _ v (by rw [e1, List.getElem?_append, if_neg (by omega), show ta.sz + j - a1.length = j by omega]; exact hj))
          (fun j v hj => by rw [Nat.add_assoc]; exact g2 _ v (by rw [e2, List.getElem?_append, if_neg (by omega), show ta.sz + j - a2.length = j by omega]; exact hj))
        exact Mx.EqF.iff (EqF.cons k1 k2 k3 k4 k5) (by rw [Bool.and_eq_true])
      · cases hq
    · cases hq
  | _ :: _ :: _, _, .int _, _, _, _, _, _, h, _, _, _, _, _ => by cases h
  | _ :: _ :: _, _, .bool, _, _, _, _, _, h, _, _, _, _, _ => by cases h
  | _ :: _ :: _, _, .str, _, _, _, _, _, h, _, _, _, _, _ => by cases h
  | _ :: _ :: _, _, .unit, _, _, _, _, _, h, _, _, _, _, _ => by cases h
  | _ :: _ :: _, _, .flt, _, _, _, _, _, h, _, _, _, _, _ => by cases h
  | _ :: _ :: _, _, .cpx, _, _, _, _, _, h, _, _, _, _, _ => by cases h
  | _ :: _ :: _, _, .fn, _, _, _, _, _, h, _, _, _, _, _ => by cases h
  | _ :: _ :: _, _, .one _, _, _, _, _, _, h, _, _, _, _, _ => by cases h
  | _ :: _ :: _, _, .arr _ _, _, _, _, _, _, h, _, _, _, _, _ => by cases h
  | _ :: _ :: _, _, .sl _, _, _, _, _, _, h, _, _, _, _, _ => by cases h
theorem eqTy_ok : ∀ (n k : Nat), EqE P (eqTy P n) (n + k)
  | 0, _ => fun i t x y q A hp c1 c2 h => by cases h
  | n + 1, k => by
    intro i t x y q A hp c1 c2 h hq h1 h2
    have hd : n + 1 + k = (n + k) + 1 := by omega
    rw [hd]
    unfold eqTy at h
    split at h
    · rename_i hu
      have h1 : c1 = [.int _ x] := h1
      have h2 : c2 = [.int _ y] := h2
      obtain rfl := Option.some.inj hq
      rw [h1, h2]
      exact Mx.EqV.iff (EqV.int hu) decide_eq_true_iff.symm
    · rename_i hu
      have h1 : c1 = [.bool x] := h1
      have h2 : c2 = [.bool y] := h2
      obtain rfl := Option.some.inj hq
      rw [h1, h2]
      exact Mx.EqV.iff (EqV.bool hu) beq_iff_eq.symm
    · rename_i hu
      have h1 : c1 = [.string x] := h1
      have h2 : c2 = [.string y] := h2
      obtain rfl := Option.some.inj hq
      rw [h1, h2]
      exact Mx.EqV.iff (EqV.str hu) decide_eq_true_iff.symm
    · rename_i fs t hu
      rw [Bool.and_eq_true, Bool.not_eq_true'] at h
      have hq : eqv t x y = some q := hq
      obtain ⟨hs, h⟩ := h
      split at h
      · rename_i f hf
        obtain ⟨k1, k2, k3, k4⟩ := fldTy_ok (P := P) (eqTy_ok n k) h hq h1 h2 (X := c1) (Y := c2) (fun j v hj => by rw [Nat.zero_add]; exact hj) (fun j v hj => by rw [Nat.zero_add]; exact hj)
        refine EqV.struct hu hs ?_
        rw [hf]
        exact EqF.one k1 k2 k3 k4
      · cases h
    · rename_i fs ta tb hu
      rw [Bool.and_eq_true, Bool.not_eq_true'] at h
      refine EqV.struct hu h.1 ?_
      exact eqTyF_ok (eqTy_ok n k) fs.toList 0 (.pair ta tb) x y q c1 c2 h.2 hq h1 h2 (fun j v hj => by rw [Nat.zero_add]; exact hj) (fun j v hj => by rw [Nat.zero_add]; exact hj)
    · cases h
end
section
variable {R : Type} {P : Program} {W : Nat → Prop} {S : List AO} {ρ : Nat → Geo} {w : World} {a : Act}
variable {d : Option Nat} {ty T' T2 : TypeId} {pos : String} {af : Array Edge} {g : Option (Nat × Bool)} {y z : Operand} {K : KV R} {r : R}
theorem nilP_ok {x : Cx} {v : AV} {u : Value} {q : Bool} (hv : VR x v u) (hn : nilP v = some q) : ∃ p, u = .pointer p ∧ p.isNone = q := by
  cases v with
  | ptr i p => obtain rfl := Option.some.inj hn; obtain ⟨_, b, _, e⟩ := vr_ptr hv; exact ⟨_, e, rfl⟩
  | rdp t z => obtain rfl := Option.some.inj hn; obtain ⟨b, o, c, e, _⟩ := vr_rdp hv; exact ⟨_, e, rfl⟩
  | nilp => obtain rfl := Option.some.inj hn; exact ⟨_, vr_nilp hv, rfl⟩
  | _ => cases hn
theorem nilS_ok {v : AV} {u : Value} {q : Bool} (h : Rel W S ρ w) (hv : VR (cx W S ρ w) v u) (hn : nilS S v = some q) : ∃ p n c, u = .slice p n c ∧ p.isNone = q := by
  cases v with
  | dat t z =>
    cases t with
    | sl t =>
      cases z with
      | nil => cases hn
      | cons y z =>
        obtain rfl := Option.some.inj hn
        obtain ⟨cs, hr, e⟩ := vr_dat hv
        obtain ⟨p, c, e2, hr⟩ : ∃ p c, cs = [.slice p (y :: z).length c] ∧ Raw (cx W S ρ w).A t.kd (cx W S ρ w).h p c (y :: z) := hr
        obtain ⟨_, _, _, _, hm⟩ := hr
        obtain ⟨b, o, _, _, _, e3, _⟩ := hm (by simp)
        rw [e2, e3] at e
        exact ⟨_, _, _, e, rfl⟩
    | _ => cases hn
  | view i =>
    obtain ⟨cs, e, hc, _⟩ := hv
    rw [CR] at hc
    rw [nilS] at hn
    split at hn
    · rename_i e' t y z m hi
      obtain rfl := Option.some.inj hn
      obtain ⟨b, ha⟩ := row_a h hi (by simp)
      have ha : ((cx W S ρ w).g i).a = some ⟨b, 0, none⟩ := ha
      rw [hc.2, ha] at e
      exact ⟨_, _, _, e, rfl⟩
    · cases hn
  | nils => obtain rfl := Option.some.inj hn; exact ⟨_, _, _, vr_nils hv, rfl⟩
  | sln t z => obtain rfl := Option.some.inj hn; obtain ⟨c, e, hc, _⟩ := hv; rw [CR] at hc; obtain ⟨p, c', e2, _⟩ := hc; exact ⟨some p, _, _, by rw [e, e2]; rfl, rfl⟩
  | _ => cases hn
theorem nilF_ok {x : Cx} {v : AV} {u : Value} {q : Bool} (hv : VR x v u) (hn : nilF v = some q) : (u = .nilFunc ∧ q = true) ∨ (∃ f l m, u = .func f l m ∧ q = false) := by
  cases v with
  | nilf => obtain rfl := Option.some.inj hn; exact .inl ⟨vr_nilf hv, rfl⟩
  | fn f l m => obtain rfl := Option.some.inj hn; obtain ⟨c, e, hc, _⟩ := hv; rw [CR] at hc; obtain ⟨l', m', e2, _⟩ := hc; exact .inr ⟨_, _, _, by rw [e, e2]; rfl, rfl⟩
  | _ => cases hn
theorem eq_func {f : Fn} {l m : Array Value} {q1 q2 : Array TypeId} {q3 : Bool} (hT : P.underlying T' = some (.func q1 q2 q3)) (n : Nat) (w : World) : (Op.equalIn (n + 1) T' (.func f l m) .nilFunc).run P w = .ok false w := by
  simp [Op.equalIn, run_underlying hT]
theorem eq_nilf {q1 q2 : Array TypeId} {q3 : Bool} (hT : P.underlying T' = some (.func q1 q2 q3)) (n : Nat) (w : World) : (Op.equalIn (n + 1) T' .nilFunc .nilFunc).run P w = .ok true w := by
  simp [Op.equalIn, run_underlying hT]
theorem guard_func {op : BinOp} {f : Fn} {l m : Array Value} {v : Value} (w : World) : (eqGuard op T' y z (.func f l m) v).run P w = .ok () w := by cases op <;> rfl
theorem guard_nilf {op : BinOp} {v : Value} (w : World) : (eqGuard op T' y z .nilFunc v).run P w = .ok () w := by cases op <;> rfl
theorem bin_ok {op : BinOp} {u v : AV} (h : Rel W S ρ w) (hd : a.defers = []) (hy : VR (cx W S ρ w) u (a.eval y)) (hz : VR (cx W S ρ w) v (a.eval z)) (hK : bin P T' op u v S K = some r) : Comes P W S ρ w ⟨d, .binOp op T' y z T2, ty, pos, af, g⟩ a K r := by
  have ha := bnd_has (a := a) (Op1 y + Op1 z) hd
  have ey : Sx.ev (bnd a (Op1 y + Op1 z)) y = some (a.eval y) := bnd_ev (by omega)
  have ez : Sx.ev (bnd a (Op1 y + Op1 z)) z = some (a.eval z) := bnd_ev (by omega)
  unfold bin at hK
  split at hK
  · rename_i k i k' j
    have e1 := vr_int hy
    have e2 := vr_int hz
    split at hK
    · obtain ⟨h0, hK⟩ := ck_elim hK
      exact Comes.is h (d_shl ha (by rw [ey, e1]) (by rw [ez, e2]) h0) hK (vr_intI _ _)
    · obtain ⟨h0, hK⟩ := ck_elim hK
      exact Comes.is h (d_shr ha (by rw [ey, e1]) (by rw [ez, e2]) h0) hK (vr_intI _ _)
    · split at hK
      · rename_i hk
        subst hk
        exact arith_ok h hd e1 e2 hK
      · cases hK
  · have e1 := vr_str hy
    have e2 := vr_str hz
    split at hK
    · obtain ⟨h0, hK⟩ := ck_elim hK
      exact Comes.is h (d_sadd ha (by rw [ey, e1]) (by rw [ez, e2]) (Nat.le_trans h0 (by decide))) hK (vr_strI _)
    · exact Comes.is h (d_eqS ha (by rw [ey, e1]) (by rw [ez, e2])) hK (vr_boolI _)
    · exact Comes.is h (d_neS ha (by rw [ey, e1]) (by rw [ez, e2])) hK (vr_boolI _)
    · cases hK
  · have e1 := vr_bool hy
    have e2 := vr_bool hz
    split at hK
    · rename_i hu
      exact Comes.is h (d_eqB ha hu (by rw [ey, e1]) (by rw [ez, e2])) hK (vr_boolI _)
    · rename_i hu
      exact Comes.is h (d_neB ha hu (by rw [ey, e1]) (by rw [ez, e2])) hK (vr_boolI _)
    · cases hK
  · rename_i t x t' x' _ _ _
    split at hK
    · rename_i ht
      subst ht
      cases hc : t'.aggB && eqTy P 30 T' t' && !P.eqGuardType P.depth T' with
      | false => rw [hc] at hK; cases hK
      | true =>
        rw [hc, cond_true] at hK
        simp only [Bool.and_eq_true, Bool.not_eq_true'] at hc
        obtain ⟨⟨hg, ht⟩, hq⟩ := hc
        obtain ⟨c1, hc1, e1⟩ := vr_dat hy
        obtain ⟨c2, hc2, e2⟩ := vr_dat hz
        split at hK
        · rename_i q he
          have hE := eqTy_ok (P := P) 30 9970 T' t' x x' q _ _ c1 c2 ht he hc1 hc2
          have e1 : a.eval y = form t'.aggB c1 := e1
          have e2 : a.eval z = form t'.aggB c2 := e2
          rw [hg] at hE e1 e2
          split at hK
          · refine Comes.is h (d_eqAg ha (by rw [ey, e1]; rfl) (by rw [ez, e2]; rfl) hq hE) hK ?_
            cases q <;> exact vr_boolI _
          · refine Comes.is h (d_neAg ha (by rw [ey, e1]; rfl) (by rw [ez, e2]; rfl) hq hE) hK ?_
            cases q <;> exact vr_boolI _
          · cases hK
        · cases hK
    · cases hK
  · rename_i i p j q
    split at hK
    · rename_i b e hsp hu
      cases hb : Nat.beq i j && b && (P.info? e).isSome with
      | false => rw [hb] at hK; cases hK
      | true =>
        rw [hb, cond_true] at hK
        rw [Bool.and_eq_true, Bool.and_eq_true] at hb
        have hij := Nat.eq_of_beq_eq_true hb.1.1
        subst hij
        obtain ⟨_, b1, h1, e1⟩ := vr_ptr hy
        obtain ⟨_, b2, h2, e2⟩ := vr_ptr hz
        have hpq : p = [] ∧ q = [] := by
          unfold samep at hsp
          split at hsp
          · exact ⟨rfl, rfl⟩
          · cases hsp
        obtain ⟨rfl, rfl⟩ := hpq
        have hbb : b1 = b2 := by rw [h1] at h2; exact congrArg Addr.block (Option.some.inj h2)
        subst hbb
        split at hK
        · exact Comes.is h (d_ptrneSelf ha hu hb.2 (by rw [ey, e1]) (by rw [ez, e2])) hK (vr_boolI false)
        · cases hK
    · cases hK
  · split at hK
    · rename_i e q hu hn
      have e2 := vr_nilp hz
      obtain ⟨p, e1, hq⟩ := nilP_ok hy hn
      split at hK
      · exact Comes.is h (d_ptrnil_eq ha hu (by rw [ey, e1]) (by rw [ez, e2])) hK (by rw [hq]; exact vr_boolI _)
      · exact Comes.is h (d_ptrnil_ne ha hu (by rw [ey, e1]) (by rw [ez, e2])) hK (by rw [hq]; exact vr_boolI _)
      · cases hK
    · cases hK
  · split at hK
    · rename_i e q hu hn
      have e2 := vr_nils hz
      obtain ⟨p, n, c, e1, hq⟩ := nilS_ok h hy hn
      split at hK
      · exact Comes.is h (d_slnil_eq ha hu (by rw [ey, e1]) (by rw [ez, e2])) hK (by rw [hq]; exact vr_boolI _)
      · exact Comes.is h (d_slnil_ne ha hu (by rw [ey, e1]) (by rw [ez, e2])) hK (by rw [hq]; exact vr_boolI _)
      · cases hK
    · cases hK
  · split at hK
    · rename_i q1 q2 q3 q hu hn
      have e2 := vr_nilf hz
      rcases nilF_ok hy hn with ⟨e1, rfl⟩ | ⟨f, l, m, e1, rfl⟩
      · split at hK
        · exact Comes.is h (d_bin ha (by rw [ey, e1]) (by rw [ez, e2]) guard_nilf (by simp only [binOp, Op.equal, Op.maxDepth, Sem.run_bind, Sem.run_pure, eq_nilf hu 9999 w, Result.andThen_ok])) hK (vr_boolI true)
        · exact Comes.is h (d_bin ha (by rw [ey, e1]) (by rw [ez, e2]) guard_nilf (by simp only [binOp, Op.equal, Op.maxDepth, Sem.run_bind, Sem.run_pure, eq_nilf hu 9999 w, Result.andThen_ok])) hK (vr_boolI (!true))
        · cases hK
      · split at hK
        · exact Comes.is h (d_bin ha (by rw [ey, e1]) (by rw [ez, e2]) guard_func (by simp only [binOp, Op.equal, Op.maxDepth, Sem.run_bind, Sem.run_pure, eq_func hu 9999 w, Result.andThen_ok])) hK (vr_boolI false)
        · exact Comes.is h (d_bin ha (by rw [ey, e1]) (by rw [ez, e2]) guard_func (by simp only [binOp, Op.equal, Op.maxDepth, Sem.run_bind, Sem.run_pure, eq_func hu 9999 w, Result.andThen_ok])) hK (vr_boolI (!false))
        · cases hK
    · cases hK
  · cases hK
end
end Go.Mx
