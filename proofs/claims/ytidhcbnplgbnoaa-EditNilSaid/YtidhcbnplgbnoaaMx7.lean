/- Own work. A part of the proof of a law of this seat: a part -/
import Derived.Test.YtidhcbnplgbnoaaMx6
/- Operands; operations that compute. -/
namespace Go.Mx
open Go Go.RowKit Go.Sx

section
variable {x : Cx}
theorem vr_int {k : IntKind} {i : Int} {u : Value} (h : VR x (.dat (.int k) i) u) : u = .int k i := by
  obtain ⟨c, e, h1, _⟩ := h
  rw [CR] at h1
  have h1 : c = [.int k i] := h1
  rw [e, h1]; rfl
theorem vr_bool {b : Bool} {u : Value} (h : VR x (.dat .bool b) u) : u = .bool b := by
  obtain ⟨c, e, h1, _⟩ := h
  rw [CR] at h1
  have h1 : c = [.bool b] := h1
  rw [e, h1]; rfl
theorem vr_str {s : ByteArray} {u : Value} (h : VR x (.dat .str s) u) : u = .string s := by
  obtain ⟨c, e, h1, _⟩ := h
  rw [CR] at h1
  have h1 : c = [.string s] := h1
  rw [e, h1]; rfl
theorem vr_intI (k : IntKind) (i : Int) : VR x (.dat (.int k) i) (.int k i) := ⟨[.int k i], rfl, by rw [CR]; exact rfl, rfl⟩
theorem vr_boolI (b : Bool) : VR x (.dat .bool b) (.bool b) := ⟨[.bool b], rfl, by rw [CR]; exact rfl, rfl⟩
theorem vr_strI (s : ByteArray) : VR x (.dat .str s) (.string s) := ⟨[.string s], rfl, by rw [CR]; exact rfl, rfl⟩
theorem vr_nilp {u : Value} (h : VR x .nilp u) : u = .pointer none := by
  obtain ⟨c, e, h1, _⟩ := h
  rw [CR] at h1
  rw [e, h1]; rfl
theorem vr_nils {u : Value} (h : VR x .nils u) : u = .slice none 0 0 := by
  obtain ⟨c, e, h1, _⟩ := h
  rw [CR] at h1
  rw [e, h1]; rfl
theorem vr_nilf {u : Value} (h : VR x .nilf u) : u = .nilFunc := by
  obtain ⟨c, e, h1, _⟩ := h
  rw [CR] at h1
  rw [e, h1]; rfl
theorem vr_ptr {i : Nat} {p : List Step} {u : Value} (h : VR x (.ptr i p) u) : i < x.m ∧ ∃ b, (x.g i).a = some ⟨b, 0, none⟩ ∧ u = .pointer (some ⟨b, offs p, none⟩) := by
  obtain ⟨c, e, h1, _⟩ := h
  rw [CR] at h1
  obtain ⟨h2, b, h3, h4⟩ := h1
  exact ⟨h2, b, h3, by rw [e, h4]; rfl⟩
theorem vr_ptrI {i : Nat} {p : List Step} {b : Nat} (h : i < x.m) (ha : (x.g i).a = some ⟨b, 0, none⟩) : VR x (.ptr i p) (.pointer (some ⟨b, offs p, none⟩)) := ⟨[.pointer (some ⟨b, offs p, none⟩)], rfl, by rw [CR]; exact ⟨h, b, ha, rfl⟩, rfl⟩
theorem vr_rdp {t : T} {d : t.den} {u : Value} (h : VR x (.rdp t d) u) : ∃ b o c, u = .pointer (some ⟨b, o, none⟩) ∧ ¬ x.A b ∧ Lies x.h b o c ∧ t.kd.K x.A x.h d c := by
  obtain ⟨c, e, h1, _⟩ := h
  rw [CR] at h1
  obtain ⟨b, o, c', h2, h3⟩ := h1
  exact ⟨b, o, c', by rw [e, h2]; rfl, h3⟩
theorem vr_rdpI {t : T} {d : t.den} {b o : Nat} {c : List Value} (h1 : ¬ x.A b) (h2 : Lies x.h b o c) (h3 : t.kd.K x.A x.h d c) : VR x (.rdp t d) (.pointer (some ⟨b, o, none⟩)) := ⟨[.pointer (some ⟨b, o, none⟩)], rfl, by rw [CR]; exact ⟨b, o, c, rfl, h1, h2, h3⟩, rfl⟩
theorem vr_tup {l : List AV} {u : Value} (h : VR x (.tup l) u) : ∃ m, u = .tuple m.toArray ∧ VRs x l m := h
theorem kd_len {t : T} {A : Nat → Prop} {h : Array Obj} {d : t.den} {cs : List Value} (r : t.kd.K A h d cs) : cs.length = t.sz := by rw [← T.kd_sz]; exact t.kd.len r
/-- data -/
theorem vr_datI {t : T} {d : t.den} {cs : List Value} (h : t.kd.K x.A x.h d cs) : VR x (.dat t d) (form (AV.isAgg (.dat t d)) cs) := ⟨cs, rfl, by rw [CR]; exact h, kd_len h⟩
theorem vr_dat {t : T} {d : t.den} {u : Value} (h : VR x (.dat t d) u) : ∃ cs, t.kd.K x.A x.h d cs ∧ u = form (AV.isAgg (.dat t d)) cs := by
  obtain ⟨c, e, h1, _⟩ := h
  rw [CR] at h1
  exact ⟨c, h1, e⟩
end

/-! ### operands -/
inductive A2 {α β : Type} (R : α → β → Prop) : List α → List β → Prop where
  | nil : A2 R [] []
  | cons {x : α} {y : β} {xs : List α} {ys : List β} : R x y → A2 R xs ys → A2 R (x :: xs) (y :: ys)
def SlR (x : Cx) (s : Slots) (a : Act) : Prop := ∀ t v, lookA t s = some v → VR x v (a.tmps.getD t undef)
theorem SlR.up {x y : Cx} {s : Slots} {a : Act} (h : SlR x s a) (le : x.Le y) : SlR y s a := fun t v hv => (h t v hv).up le
theorem ofConst_ok {x : Cx} {u : Value} {v : AV} (h : ofConst u = some v) : VR x v u := by
  unfold ofConst at h
  split at h <;> first | (obtain rfl := Option.some.inj h) | cases h
  · exact vr_boolI _
  · exact vr_intI _ _
  · exact vr_strI _
  · exact ⟨_, rfl, by rw [CR]; exact rfl, rfl⟩
  · exact ⟨[.complex .f64 _ _], rfl, by rw [CR]; exact rfl, rfl⟩
  · exact ⟨[.pointer none], rfl, by rw [CR], rfl⟩
  · exact ⟨[.slice none 0 0], rfl, by rw [CR], rfl⟩
  · exact ⟨[.map none], rfl, by rw [CR], rfl⟩
  · exact ⟨[.nilFunc], rfl, by rw [CR], rfl⟩
  · exact ⟨[.nilIface], rfl, by rw [CR], rfl⟩
theorem ev_ok {x : Cx} {s : Slots} {a : Act} (hs : SlR x s a) {o : Operand} {v : AV} (h : ev s o = some v) : VR x v (a.eval o) := by
  cases o with
  | tmp t => exact hs t v h
  | const u => exact ofConst_ok h
  | func f =>
    obtain rfl := Option.some.inj h
    exact ⟨[.func (.func f) #[] #[]], rfl, by rw [CR]; exact ⟨[], [], rfl, by rw [VRs], by rw [VRs]⟩, rfl⟩
  | global g => cases h
theorem evs_ok {x : Cx} {s : Slots} {a : Act} (hs : SlR x s a) : ∀ {l : List Operand} {vs : List AV}, Mx.evs s l = some vs → A2 (VR x) vs (l.map a.eval)
  | [], vs, h => by obtain rfl := Option.some.inj h; exact .nil
  | o :: l, vs, h => by
    rw [Mx.evs] at h
    split at h
    · rename_i v hv
      split at h
      · rename_i r hr
        obtain rfl := Option.some.inj h
        exact .cons (ev_ok hs hv) (evs_ok hs hr)
      · cases h
    · cases h
/-- an act is known by all that stands in it -/
def bnd (a : Act) (N : Nat) : List (Nat × Value) := (List.range N).map fun t => (t, a.tmps.getD t undef)
theorem look_map {f : Nat → Value} {t : Nat} : ∀ {l : List Nat} {u : Value}, Sx.look t (l.map fun i => (i, f i)) = some u → u = f t
  | [], u, h => by cases h
  | i :: l, u, h => by
    simp only [List.map_cons, Sx.look] at h
    cases hc : Nat.beq i t with
    | true => rw [hc] at h; have := Nat.eq_of_beq_eq_true hc; subst this; exact (Option.some.inj h).symm
    | false => rw [hc] at h; exact look_map h
theorem look_mem {f : Nat → Value} {t : Nat} : ∀ {l : List Nat}, t ∈ l → Sx.look t (l.map fun i => (i, f i)) = some (f t)
  | [], h => by cases h
  | i :: l, h => by
    simp only [List.map_cons, Sx.look]
    cases hc : Nat.beq i t with
    | true => have := Nat.eq_of_beq_eq_true hc; subst this; rfl
    | false =>
      rcases List.mem_cons.1 h with e | h
      · subst e; rw [beq_self] at hc; cases hc
      · exact look_mem h
theorem bnd_has {a : Act} (N : Nat) (hd : a.defers = []) : Has a.tmps.size (bnd a N) a := ⟨rfl, hd, fun _ _ h => (look_map h).symm⟩
def Op1 : Operand → Nat
  | .tmp t => t + 1
  | _ => 0
theorem bnd_ev {a : Act} {N : Nat} {o : Operand} (h : Op1 o ≤ N) : Sx.ev (bnd a N) o = some (a.eval o) := by
  cases o with
  | tmp t => exact look_mem (List.mem_range.2 h)
  | _ => rfl

/-! ### what an operation comes to -/
section
variable {R : Type} {P : Program} {W : Nat → Prop} {S : List AO} {ρ : Nat → Geo} {w : World} {a : Act}
/-- The operation, done, comes to one of those with which K goes on to r. -/
def Comes (P : Program) (W : Nat → Prop) (S : List AO) (ρ : Nat → Geo) (w : World) (o : Oper) (a : Act) (K : KV R) (r : R) : Prop :=
  Does P o a w fun u w' => ∃ v S' ρ', K v S' = some r ∧ Aft W S ρ w S' ρ' w' ∧ VR (cx W S' ρ' w') v u
theorem Comes.is {o : Oper} {K : KV R} {r : R} {u : Value} {v : AV} (h : Rel W S ρ w) (hd : Does P o a w (Is u w)) (hK : K v S = some r) (hv : VR (cx W S ρ w) v u) : Comes P W S ρ w o a K r :=
  hd.mono fun u' w' ⟨e1, e2⟩ => by subst e1; subst e2; exact ⟨v, S, ρ, hK, Aft.refl h, hv⟩
theorem Comes.at {o : Oper} {K : KV R} {r : R} {φ : Value → Prop} {v : AV} (h : Rel W S ρ w) (hd : Does P o a w (fun u w' => w' = w ∧ φ u)) (hK : K v S = some r) (hv : ∀ u, φ u → VR (cx W S ρ w) v u) : Comes P W S ρ w o a K r :=
  hd.mono fun u' w' ⟨e1, e2⟩ => by subst e1; exact ⟨v, S, ρ, hK, Aft.refl h, hv _ e2⟩

variable {d : Option Nat} {ty T' T2 : TypeId} {pos : String} {af : Array Edge} {g : Option (Nat × Bool)} {y z : Operand} {K : KV R} {r : R}
/-- whole numbers -/
theorem arith_ok {op : BinOp} {k : IntKind} {i j : Int} (h : Rel W S ρ w) (hd : a.defers = []) (hy : a.eval y = .int k i) (hz : a.eval z = .int k j) (hK : arith op k i j S K = some r) : Comes P W S ρ w ⟨d, .binOp op T' y z T2, ty, pos, af, g⟩ a K r := by
  have ha := bnd_has (a := a) (Op1 y + Op1 z) hd
  have e1 : Sx.ev (bnd a (Op1 y + Op1 z)) y = some (.int k i) := by rw [bnd_ev (by omega), hy]
  have e2 : Sx.ev (bnd a (Op1 y + Op1 z)) z = some (.int k j) := by rw [bnd_ev (by omega), hz]
  unfold arith at hK
  split at hK
  · exact Comes.is h (d_add ha e1 e2) hK (vr_intI _ _)
  · exact Comes.is h (d_sub ha e1 e2) hK (vr_intI _ _)
  · exact Comes.is h (d_mul ha e1 e2) hK (vr_intI _ _)
  · obtain ⟨hj, hK⟩ := ck_elim hK
    exact Comes.is h (d_quo ha e1 e2 hj) hK (vr_intI _ _)
  · obtain ⟨hj, hK⟩ := ck_elim hK
    exact Comes.is h (d_rem ha e1 e2 hj) hK (vr_intI _ _)
  · exact Comes.is h (d_and ha e1 e2) hK (vr_intI _ _)
  · exact Comes.is h (d_or ha e1 e2) hK (vr_intI _ _)
  · exact Comes.is h (d_xor ha e1 e2) hK (vr_intI _ _)
  · exact Comes.is h (d_andNot ha e1 e2) hK (vr_intI _ _)
  · exact Comes.is h (d_eqI ha e1 e2) hK (vr_boolI _)
  · exact Comes.is h (d_neI ha e1 e2) hK (vr_boolI _)
  · exact Comes.is h (d_lt ha e1 e2) hK (vr_boolI _)
  · exact Comes.is h (d_le ha e1 e2) hK (vr_boolI _)
  · exact Comes.is h (d_gt ha e1 e2) hK (vr_boolI _)
  · exact Comes.is h (d_ge ha e1 e2) hK (vr_boolI _)
  · cases hK
theorem un_ok {op : UnOp} {v : AV} (h : Rel W S ρ w) (hd : a.defers = []) (hy : VR (cx W S ρ w) v (a.eval y)) (hK : un op v S K = some r) : Comes P W S ρ w ⟨d, .unOp op T' y, ty, pos, af, g⟩ a K r := by
  have ha := bnd_has (a := a) (Op1 y) hd
  have e1 : Sx.ev (bnd a (Op1 y)) y = some (a.eval y) := bnd_ev (Nat.le_refl _)
  unfold un at hK
  split at hK
  · rw [vr_bool hy] at e1
    exact Comes.is h (d_not ha e1) hK (vr_boolI _)
  · rw [vr_int hy] at e1
    exact Comes.is h (d_neg ha e1) hK (vr_intI _ _)
  · cases hK
end
end Go.Mx
