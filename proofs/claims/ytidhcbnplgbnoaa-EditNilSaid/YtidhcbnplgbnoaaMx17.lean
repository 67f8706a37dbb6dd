/- Own work. A part of the proof of a law of this seat: a part -/
import Derived.Test.YtidhcbnplgbnoaaMx16
/- Literals. -/
namespace Go.Mx
open Go Go.RowKit Go.Sx

section
variable {R : Type} {P : Program} {W : Nat → Prop} {S : List AO} {ρ : Nat → Geo} {w : World} {a : Act}
variable {d : Option Nat} {ty T' T2 : TypeId} {pos : String} {af : Array Edge} {g : Option (Nat × Bool)} {y z : Operand} {K : KV R} {r : R}
/-- the parts of a literal, evaluated -/
def Parts (x : Cx) (a : Act) (ps : List (Nat × Operand)) (vs : List (Nat × AV)) : Prop := A2 (fun p q => q.1 = p.1 ∧ VR x q.2 (a.eval p.2)) ps vs
theorem partsA_ok {x : Cx} {s : Slots} (hs : SlR x s a) : ∀ {ps : List (Nat × Operand)} {vs : List (Nat × AV)}, partsA s ps = some vs → Parts x a ps vs
  | [], vs, h => by obtain rfl := Option.some.inj h; exact .nil
  | (i, o) :: ps, vs, h => by
    rw [partsA] at h
    split at h
    · rename_i v hv
      split at h
      · rename_i l hl
        obtain rfl := Option.some.inj h
        exact .cons ⟨rfl, ev_ok hs hv⟩ (partsA_ok hs hl)
      · cases h
    · cases h
theorem places_ok : ∀ {fs : List Field}, (fs.all fun f => (P.info? f.type).isSome) = true → ∃ pl, fs.mapM (fun (f : Field) => (P.info? f.type).map fun i => (f.offset, i.size)) = some pl ∧ ∀ (i : Nat) (f : Field) (j : TypeInfo), fs[i]? = some f → P.info? f.type = some j → pl[i]? = some (f.offset, j.size)
  | [], _ => ⟨[], rfl, fun i f j h => by simp at h⟩
  | f :: fs, h => by
    rw [List.all_cons, Bool.and_eq_true] at h
    obtain ⟨j, hj⟩ := Option.isSome_iff_exists.1 h.1
    obtain ⟨pl, h1, h2⟩ := places_ok h.2
    refine ⟨(f.offset, j.size) :: pl, by simp [List.mapM_cons, hj, h1], fun i f' j' hi hj' => ?_⟩
    cases i with
    | zero =>
      obtain rfl : f = f' := Option.some.inj hi
      rw [hj] at hj'
      obtain rfl := Option.some.inj hj'
      rfl
    | succ i => exact h2 i f' j' hi hj'
theorem fill_step {x : Cx} {place : Nat → Option (Nat × Nat)} {cells : List Value} {i off : Nat} {v : AV} {us : List Value} {rest : List (Nat × Value)} (hp : place i = some (off, us.length)) (hc : CR x v us) (hs : off + us.length ≤ cells.length) :
    Instr.fill place cells.toArray ((i, form v.isAgg us) :: rest) = Instr.fill place (put cells off us).toArray rest := by
  have hf := cr_form hc
  rw [fill_one place cells.toArray i _ rest hp (by rw [hf]; simp) (by simpa using hs), hf]
  rfl
theorem buildF_ok {x : Cx} {fs : List Field} {pl : List (Nat × Nat)} (hpl : ∀ (i : Nat) (f : Field) (j : TypeInfo), fs[i]? = some f → P.info? f.type = some j → pl[i]? = some (f.offset, j.size)) : ∀ (ps : List (Nat × Operand)) (vs : List (Nat × AV)) (z : AV) (cs : List Value) {K : AV → Option R}, Parts x a ps vs → buildF P T' fs vs z K = some r → CR x z cs →
    ∃ v us, K v = some r ∧ CR x v us ∧ Instr.fill (pl.toArray[·]?) cs.toArray (ps.map fun p => (p.1, a.eval p.2)) = some us.toArray
  | [], vs, z, cs, K, hp, h, hc => by
    cases hp
    unfold buildF at h
    exact ⟨z, cs, h, hc, rfl⟩
  | (i, o) :: ps, vs, z, cs, K, hp, h, hc => by
    cases hp with
    | cons h1 h2 =>
      rename_i q vs
      obtain ⟨i', v⟩ := q
      obtain ⟨rfl, hv⟩ := h1
      unfold buildF at h
      split at h
      · rename_i f st hf hst
        cases hk : Nat.beq (offs st) f.offset && szOk P f.type v.sz && v.plain with
        | false => rw [hk] at h; cases h
        | true =>
          rw [hk, cond_true] at h
          simp only [Bool.and_eq_true] at hk
          obtain ⟨⟨k1, k2⟩, k3⟩ := hk
          have k1 := Nat.eq_of_beq_eq_true k1
          obtain ⟨us, hu, eu⟩ := vr_cr hv k3
          obtain ⟨z', m1, m2, m3⟩ := setK_ok st z cs v us h hc hu
          have hsz : ∃ j, P.info? f.type = some j ∧ j.size = us.length := by
            unfold szOk at k2
            split at k2
            · rename_i j hj; exact ⟨j, hj, (Nat.eq_of_beq_eq_true k2).trans (cr_len hu).symm⟩
            · cases k2
          obtain ⟨j, hj, hjs⟩ := hsz
          have hpi := hpl i' f j hf hj
          obtain ⟨v', us', n1, n2, n3⟩ := buildF_ok hpl ps vs z' _ h2 m1 m2
          refine ⟨v', us', n1, n2, ?_⟩
          rw [List.map_cons]
          show Instr.fill _ _ ((i', a.eval o) :: _) = _
          have eu : a.eval o = form v.isAgg us := eu
          rw [eu, fill_step (off := offs st) (by rw [k1, ← hjs]; simpa using hpi) hu m3]
          exact n3
      · cases h
theorem buildE_ok {x : Cx} {e : TypeId} {s : Nat} : ∀ (ps : List (Nat × Operand)) (vs : List (Nat × AV)) (z : AV) (cs : List Value) {K : AV → Option R}, Parts x a ps vs → buildE P e s vs z K = some r → CR x z cs →
    ∃ v us, K v = some r ∧ CR x v us ∧ Instr.fill (fun i => some (i * s, s)) cs.toArray (ps.map fun p => (p.1, a.eval p.2)) = some us.toArray
  | [], vs, z, cs, K, hp, h, hc => by
    cases hp
    unfold buildE at h
    exact ⟨z, cs, h, hc, rfl⟩
  | (i, o) :: ps, vs, z, cs, K, hp, h, hc => by
    cases hp with
    | cons h1 h2 =>
      rename_i q vs
      obtain ⟨i', v⟩ := q
      obtain ⟨rfl, hv⟩ := h1
      unfold buildE at h
      cases hk : Nat.beq v.sz s && v.plain with
      | false => rw [hk] at h; cases h
      | true =>
        rw [hk, cond_true] at h
        simp only [Bool.and_eq_true] at hk
        obtain ⟨k1, k3⟩ := hk
        have k1 := Nat.eq_of_beq_eq_true k1
        obtain ⟨us, hu, eu⟩ := vr_cr hv k3
        obtain ⟨z', m1, m2, m3⟩ := setK_ok [.idx i' s] z cs v us h hc hu
        obtain ⟨v', us', n1, n2, n3⟩ := buildE_ok ps vs z' _ h2 m1 m2
        refine ⟨v', us', n1, n2, ?_⟩
        rw [List.map_cons]
        show Instr.fill _ _ ((i', a.eval o) :: _) = _
        have eu : a.eval o = form v.isAgg us := eu
        have hl := cr_len hu
        rw [eu, fill_step (off := i' * s) (by rw [hl, k1]) hu m3]
        exact n3
theorem build_ok {ps : Array (Nat × Operand)} {vs : List (Nat × AV)} (h : Rel W S ρ w) (hp : Parts (cx W S ρ w) a ps.toList vs) (hK : buildA P T' vs S K = some r) : Comes P W S ρ w ⟨d, .build T' ps, ty, pos, af, g⟩ a K r := by
  unfold buildA at hK
  obtain ⟨z, i, zv, h1, h2, h3, hK⟩ := zerK_ok (x := cx W S ρ w) hK
  have fin : ∀ {v : AV} {us : List Value}, K v S = some r → CR (cx W S ρ w) v us → v.isAgg = true → P.built T' (ps.toList.map fun p => (p.1, a.eval p.2)) = some us.toArray → Comes P W S ρ w ⟨d, .build T' ps, ty, pos, af, g⟩ a K r := by
    intro v us k1 k2 k3 k4
    have := run_build w T' (ps.map fun p => (p.1, a.eval p.2)) us.toArray (by simpa using k4)
    refine Comes.is h (Does.val (v := .agg us.toArray) (by simp only [execOp, this, Sem.run_bind, Sem.run_pure, Result.andThen_ok])) k1 ?_
    have := cr_vr k2
    rw [k3] at this
    exact this
  split at hK
  · rename_i fs hu
    cases ha : fs.toList.all fun f => (P.info? f.type).isSome with
    | false => rw [ha] at hK; cases hK
    | true =>
      rw [ha, cond_true] at hK
      obtain ⟨pl, p1, p2⟩ := places_ok ha
      obtain ⟨v, us, k1, k2, k3⟩ := buildF_ok p2 ps.toList vs z _ hp hK h3
      have hz : zv.cells = zv.cells.toList.toArray := (Array.toArray_toList (xs := zv.cells)).symm
      rw [← hz] at k3
      cases hg : v.isAgg with
      | false => rw [hg] at k1; cases k1
      | true => rw [hg] at k1; exact fin k1 k2 hg (by unfold Program.built; rw [h1, hu]; simp only [h2, p1]; exact k3)
  · rename_i n e hu
    split at hK
    · rename_i j hj
      obtain ⟨v, us, k1, k2, k3⟩ := buildE_ok ps.toList vs z _ hp hK h3
      have hz : zv.cells = zv.cells.toList.toArray := (Array.toArray_toList (xs := zv.cells)).symm
      rw [← hz] at k3
      cases hg : v.isAgg with
      | false => rw [hg] at k1; cases k1
      | true => rw [hg] at k1; exact fin k1 k2 hg (by unfold Program.built; rw [h1, hu]; simp only [h2, hj]; exact k3)
    · cases hK
  · cases hK
end
end Go.Mx
