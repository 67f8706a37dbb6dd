/- Own work. A part of the proof of a law of this seat: a part -/
import Derived.Test.YtidhcbnplgbnoaaMx12
/- Addresses of parts; pieces of slices. -/
namespace Go.Mx
set_option linter.unusedVariables false
open Go Go.RowKit Go.Sx

section
variable {x : Cx}
theorem rdstep_ok : ∀ (p : List Step) (t : T) (d : t.den) {v : AV} {b o : Nat} {c : List Value}, rdstep (.rdp t d) p = some v → ¬ x.A b → Lies x.h b o c → t.kd.K x.A x.h d c → VR x v (.pointer (some ⟨b, o + offs p, none⟩)) := by
  intro p
  induction p with
  | nil =>
    intro t d v b o c h hA hl hK
    obtain rfl : AV.rdp t d = v := Option.some.inj h
    exact vr_rdpI hA hl hK
  | cons s p ih =>
    intro t d v b o c h hA hl hK
    unfold rdstep at h
    split at h
    · rename_i he; cases he
    · rename_i a b' z q he hv
      obtain ⟨rfl, rfl⟩ := List.cons.inj hv
      obtain ⟨rfl, hz⟩ := AV.rdp.inj he
      obtain rfl := eq_of_heq hz
      obtain ⟨c1, c2, e, h1, h2⟩ := hK
      exact ih _ _ h hA (by
        have := lies_sub (m := 0) hl (us := c1) (fun j u hj => by rw [e, Nat.zero_add, List.getElem?_append, if_pos (List.getElem?_eq_some_iff.1 hj).1]; exact hj)
        rwa [Nat.add_zero] at this) h1
    · rename_i a b' z k q he hv
      obtain ⟨rfl, rfl⟩ := List.cons.inj hv
      obtain ⟨rfl, hz⟩ := AV.rdp.inj he
      obtain rfl := eq_of_heq hz
      obtain ⟨c1, c2, e, h1, h2⟩ := hK
      cases hk : Nat.beq k a.sz with
      | false => rw [hk] at h; cases h
      | true =>
        rw [hk] at h
        have hk := Nat.eq_of_beq_eq_true hk
        have hl1 : c1.length = a.sz := kd_len h1
        have := ih _ _ h hA (lies_sub (m := k) hl (us := c2) (fun j u hj => by
          rw [e, List.getElem?_append, if_neg (by omega), show k + j - c1.length = j by omega]; exact hj)) h2
        rw [Nat.add_assoc] at this
        exact this
    · rename_i a z q he hv
      obtain ⟨rfl, rfl⟩ := List.cons.inj hv
      obtain ⟨rfl, hz⟩ := AV.rdp.inj he
      obtain rfl := eq_of_heq hz
      exact ih _ _ h hA hl hK
    · cases h
end
section
variable {R : Type} {P : Program} {W : Nat → Prop} {S : List AO} {ρ : Nat → Geo} {w : World} {a : Act}
variable {d : Option Nat} {ty T' T2 : TypeId} {pos : String} {af : Array Edge} {g : Option (Nat × Bool)} {y z : Operand} {K : KV R} {r : R}
theorem fldOk_ok {i : Nat} {st : List Step} (h : fldOk P T' i st = true) : ∃ fs f j, P.underlying T' = some (.struct fs) ∧ fs[i]? = some f ∧ offs st = f.offset ∧ P.info? f.type = some j ∧ ∃ s, j.size = s + 1 := by
  unfold fldOk at h
  split at h
  · rename_i fs hu
    split at h
    · rename_i f hf
      rw [Bool.and_eq_true] at h
      obtain ⟨h1, h2⟩ := h
      split at h2
      · rename_i j hj
        have h3 : 0 < j.size := by rwa [Nat.blt_eq] at h2
        exact ⟨fs, f, j, hu, hf, Nat.eq_of_beq_eq_true h1, hj, j.size - 1, by omega⟩
      · cases h2
    · cases h
  · cases h
theorem info_sz {e : TypeId} {j : TypeInfo} (h : P.info? e = some j) : szOk P e j.size = true := by
  unfold szOk
  rw [h]
  exact beq_self _
/-- &x.f, the address told -/
theorem field_at {i b o : Nat} {st : List Step} (hd : a.defers = []) (hy : a.eval y = .pointer (some ⟨b, o, none⟩)) (hf : fldOk P T' i st = true) : Does P ⟨d, .fieldAddr T' y i, ty, pos, af, g⟩ a w (Is (.pointer (some ⟨b, o + offs st, none⟩)) w) := by
  obtain ⟨fs, f, j, h1, h2, h3, h4, s, h5⟩ := fldOk_ok hf
  have ha := bnd_has (a := a) (Op1 y) hd
  have e1 : Sx.ev (bnd a (Op1 y)) y = some (.pointer (some ⟨b, o, none⟩)) := by rw [bnd_ev (Nat.le_refl _), hy]
  exact d_fieldAddr ha e1 h1 h2 (fun w => by have := run_size (info_sz h4) w; rwa [h5] at this) (by rw [h3])
theorem fieldAddr_ok {i : Nat} {v : AV} (h : Rel W S ρ w) (hd : a.defers = []) (hy : VR (cx W S ρ w) v (a.eval y)) (hK : (match some v, fldsteps P T' i with
    | some (.ptr q p), some st => cond (fldOk P T' i st) (K (.ptr q (p ++ st)) S) none
    | some (.rdp t x), some st => cond (fldOk P T' i st) (match rdstep (.rdp t x) st with | some v => K v S | none => none) none
    | _, _ => none) = some r) : Comes P W S ρ w ⟨d, .fieldAddr T' y i, ty, pos, af, g⟩ a K r := by
  split at hK
  · rename_i q p st hv hst
    obtain rfl := Option.some.inj hv
    cases hf : fldOk P T' i st with
    | false => rw [hf] at hK; cases hK
    | true =>
      rw [hf] at hK
      obtain ⟨hq, b, hb, e⟩ := vr_ptr hy
      exact Comes.is h (field_at hd e hf) hK (by rw [← offs_append]; exact vr_ptrI hq hb)
  · rename_i t x st hv hst
    obtain rfl := Option.some.inj hv
    cases hf : fldOk P T' i st with
    | false => rw [hf] at hK; cases hK
    | true =>
      rw [hf] at hK
      obtain ⟨b, o, c, e, hA, hl, hK'⟩ := vr_rdp hy
      cases hs : rdstep (.rdp t x) st with
      | none => rw [hs] at hK; cases hK
      | some u =>
        rw [hs] at hK
        exact Comes.is h (field_at hd e hf) hK (rdstep_ok st t x hs hA hl hK')
  · cases hK
theorem nilCheck_ok {v : AV} (h : Rel W S ρ w) (hd : a.defers = []) (hy : VR (cx W S ρ w) v (a.eval y)) (hK : (match some v with
    | some (.ptr i p) => K (.ptr i p) S
    | some (.rdp t x) => K (.rdp t x) S
    | _ => none) = some r) : Comes P W S ρ w ⟨d, .nilCheck y, ty, pos, af, g⟩ a K r := by
  have ha := bnd_has (a := a) (Op1 y) hd
  split at hK
  · rename_i hv
    obtain rfl := Option.some.inj hv
    obtain ⟨hq, b, hb, e⟩ := vr_ptr hy
    rw [e] at hy
    exact Comes.is h (d_nilCheck ha (by rw [bnd_ev (Nat.le_refl _), e])) hK hy
  · rename_i hv
    obtain rfl := Option.some.inj hv
    obtain ⟨b, o, c, e, _⟩ := vr_rdp hy
    rw [e] at hy
    exact Comes.is h (d_nilCheck ha (by rw [bnd_ev (Nat.le_refl _), e])) hK hy
  · cases hK
theorem vrs_get {x : Cx} : ∀ {l : List AV} {m : List Value} {i : Nat} {v : AV}, VRs x l m → l[i]? = some v → ∃ u, m[i]? = some u ∧ VR x v u
  | [], _, _, _, _, h => by simp at h
  | a :: l, m, i, v, hr, h => by
    rw [VRs] at hr
    obtain ⟨c, l', e, h1, h2, h3⟩ := hr
    cases i with
    | zero =>
      obtain rfl : a = v := Option.some.inj h
      exact ⟨_, by rw [e]; rfl, cr_vr h1⟩
    | succ i =>
      obtain ⟨u, k1, k2⟩ := vrs_get h3 (i := i) h
      exact ⟨u, by rw [e]; exact k1, k2⟩
theorem extract_ok {i : Nat} {v : AV} (h : Rel W S ρ w) (hd : a.defers = []) (hy : VR (cx W S ρ w) v (a.eval y)) (hK : (match some v with
    | some (.tup l) => (match l[i]? with | some v => K v S | none => none)
    | _ => none) = some r) : Comes P W S ρ w ⟨d, .extract y i, ty, pos, af, g⟩ a K r := by
  split at hK
  · rename_i l hv
    obtain rfl := Option.some.inj hv
    obtain ⟨m, e, hm⟩ := vr_tup hy
    split at hK
    · rename_i v hl
      obtain ⟨u, h1, h2⟩ := vrs_get hm hl
      have ha := bnd_has (a := a) (Op1 y) hd
      exact Comes.is h (d_extract ha (by rw [bnd_ev (Nat.le_refl _), e]) h1) hK h2
    · cases hK
  · cases hK

/-! ### slices -/
/-- a slice, and what is read there -/
theorem slOk_ok {t : T} (h : slOk P T' t = true) : ∃ e, P.underlying T' = some (.slice e) ∧ szOk P e t.sz = true := by
  unfold slOk at h
  split at h
  · rename_i e he; exact ⟨e, he, h⟩
  · cases h
theorem index_at {e : TypeId} {b o n c s : Nat} {k : IntKind} {i : Int} (hy : a.eval y = .slice (some ⟨b, o, none⟩) n c) (hz : a.eval z = .int k i) (hT : P.underlying T' = some (.slice e)) (hs : szOk P e s = true) (h0 : 0 ≤ i ∧ i < (n : Int)) :
    Does P ⟨d, .indexAddr T' y z, ty, pos, af, g⟩ a w (Is (.pointer (some ⟨b, o + i.toNat * s, none⟩)) w) :=
  Does.val (by simp [execOp, hy, hz, Instr.indexAt, asIntOf, run_underlying hT, h0, run_size hs, add_at])
theorem index_arr {e : TypeId} {b o n s : Nat} {k : IntKind} {i : Int} (hy : a.eval y = .pointer (some ⟨b, o, none⟩)) (hz : a.eval z = .int k i) (hT : P.underlying T' = some (.array n e)) (hs : szOk P e s = true) (h0 : 0 ≤ i ∧ i < (n : Int)) :
    Does P ⟨d, .indexAddr T' y z, ty, pos, af, g⟩ a w (Is (.pointer (some ⟨b, o + i.toNat * s, none⟩)) w) :=
  Does.val (by simp [execOp, hy, hz, Instr.indexAt, Instr.sureAddr, asIntOf, run_underlying hT, h0, run_size hs, add_at])
theorem raw_el {x : Cx} {t : T} {q : Option Addr} {c : Nat} {xs : List t.den} (r : Raw x.A t.kd x.h q c xs) {i : Nat} (hi : i < xs.length) : ∃ b o cs, q = some ⟨b, o, none⟩ ∧ ¬ x.A b ∧ Lies x.h b (o + i * t.sz) cs ∧ t.kd.K x.A x.h xs[i] cs := by
  obtain ⟨_, _, cells, he, hm⟩ := r
  obtain ⟨b, o, C, T, fr, ha, hA, hb, hc⟩ := hm (by intro e; rw [e] at hi; simp at hi)
  obtain ⟨cs, hK, hg⟩ := he.get (fun _ _ h => kd_len h) i hi
  exact ⟨b, o, cs, ha, hA, ⟨C, T, fr, hb, fun j v hj => by have := hc _ _ (hg j v hj); rwa [← Nat.add_assoc] at this⟩, hK⟩
theorem row_ptr (h : Rel W S ρ w) {q : Nat} {e : TypeId} {t : T} {xs : List t.den} {m : Md} (hi : S[q]? = some (.row e t xs m)) {n o : Nat} {p : Option Addr} (hn : o + n ≤ (ρ q).n) (hp : n ≠ 0 → ∃ b, (ρ q).a = some ⟨b, 0, none⟩ ∧ p = some ⟨b, o * (ρ q).s, none⟩) {c : Nat} {k : IntKind} {i : Int}
    (hy : a.eval y = .slice p n c) (hz : a.eval z = .int k i) (hk : slOk P T' t = true) (hq : q < S.length) (h0 : 0 ≤ i ∧ i < (n : Int)) (hK : K (.ptr q [.idx (o + i.toNat) t.sz]) S = some r) : Comes P W S ρ w ⟨d, .indexAddr T' y z, ty, pos, af, g⟩ a K r := by
  obtain ⟨e', h1, h2⟩ := slOk_ok hk
  obtain ⟨b, ha, hp⟩ := hp (by omega)
  rw [hp] at hy
  refine Comes.is h (index_at hy hz h1 h2 h0) hK ?_
  have hs : (ρ q).s = t.sz := (row_lies h hi).2.1
  have e3 : o * (ρ q).s + i.toNat * t.sz = offs [.idx (o + i.toNat) t.sz] := by
    rw [hs]
    show _ = (o + i.toNat) * t.sz + 0
    rw [Nat.add_zero, Nat.add_mul]
  rw [e3]
  exact vr_ptrI hq ha
theorem indexAddr_ok {v : AV} {k : IntKind} {i : Int} (h : Rel W S ρ w) (hd : a.defers = []) (hy : VR (cx W S ρ w) v (a.eval y)) (hz : a.eval z = .int k i) (hK : indexAddrA P T' v i S K = some r) : Comes P W S ρ w ⟨d, .indexAddr T' y z, ty, pos, af, g⟩ a K r := by
  unfold indexAddrA at hK
  split at hK
  · rename_i t xs
    cases hk : slOk P T' t with
    | false => rw [hk] at hK; cases hK
    | true =>
      rw [hk] at hK
      obtain ⟨h0, hK⟩ := ck_elim hK
      obtain ⟨z', hz', hK⟩ := bind_elim hK
      obtain ⟨hi, rfl⟩ := List.getElem?_eq_some_iff.1 hz'
      obtain ⟨cs, hr, e⟩ := vr_dat hy
      obtain ⟨q, c, e2, hr⟩ : ∃ q c, cs = [.slice q xs.length c] ∧ Raw (cx W S ρ w).A t.kd (cx W S ρ w).h q c xs := hr
      obtain ⟨b, o, cs', hq, hA, hl, hK'⟩ := raw_el hr hi
      rw [e2, hq] at e
      obtain ⟨e', h1, h2⟩ := slOk_ok hk
      exact Comes.is h (index_at e hz h1 h2 ⟨h0, by omega⟩) hK (vr_rdpI hA hl hK')
  · rename_i q
    obtain ⟨c, e, hc, _⟩ := hy
    rw [CR] at hc
    split at hK
    · rename_i e' t xs m hi
      cases hk : slOk P T' t with
      | false => rw [hk] at hK; cases hK
      | true =>
        rw [hk] at hK
        obtain ⟨h0, hK⟩ := ck_elim hK
        obtain ⟨g1, g2, g3, _⟩ := row_lies h hi
        rw [hc.2] at e
        refine row_ptr h hi (o := 0) (n := xs.length) (p := (ρ q).a) (by omega) (fun hn => ?_) (by rw [← g1]; exact e) hz hk hc.1 h0 (by rw [Nat.zero_add]; exact hK)
        obtain ⟨b, ha⟩ := row_a h hi (by intro e; rw [e] at hn; exact hn rfl)
        exact ⟨b, ha, by rw [Nat.zero_mul]; exact ha⟩
    · cases hK
  · rename_i q n
    obtain ⟨c, e, hc, _⟩ := hy
    rw [CR] at hc
    split at hK
    · rename_i e' t xs m hi
      cases hk : slOk P T' t with
      | false => rw [hk] at hK; cases hK
      | true =>
        rw [hk] at hK
        obtain ⟨h0, hK⟩ := ck_elim hK
        obtain ⟨g1, g2, g3, _⟩ := row_lies h hi
        obtain ⟨c1, c2, c3⟩ := hc
        rw [c3] at e
        have c2 : n ≤ (ρ q).n := c2
        refine row_ptr h hi (o := 0) (n := n) (p := (ρ q).a) (by omega) (fun hn => ?_) e hz hk c1 h0 (by rw [Nat.zero_add]; exact hK)
        obtain ⟨b, ha⟩ := row_a h hi (by intro e; rw [e] at g1; simp at g1; omega)
        exact ⟨b, ha, by rw [Nat.zero_mul]; exact ha⟩
    · cases hK
  · rename_i q n
    obtain ⟨c, e, hc, _⟩ := hy
    rw [CR] at hc
    split at hK
    · rename_i e' t xs m hi
      cases hk : slOk P T' t with
      | false => rw [hk] at hK; cases hK
      | true =>
        rw [hk] at hK
        obtain ⟨h0, hK⟩ := ck_elim hK
        obtain ⟨g1, g2, g3, _⟩ := row_lies h hi
        obtain ⟨c1, c2, c3⟩ := hc
        rw [c3] at e
        have c2 : n ≤ (ρ q).n := c2
        refine row_ptr h hi (o := 0) (n := n) (p := (ρ q).a) (by omega) (fun hn => ?_) e hz hk c1 h0 (by rw [Nat.zero_add]; exact hK)
        obtain ⟨b, ha⟩ := row_a h hi (by intro e; rw [e] at g1; simp at g1; omega)
        exact ⟨b, ha, by rw [Nat.zero_mul]; exact ha⟩
    · cases hK
  · rename_i q o n
    obtain ⟨c, e, hc, _⟩ := hy
    rw [CR] at hc
    split at hK
    · rename_i e' t xs m hi
      cases hk : slOk P T' t with
      | false => rw [hk] at hK; cases hK
      | true =>
        rw [hk] at hK
        obtain ⟨h0, hK⟩ := ck_elim hK
        obtain ⟨c1, c2, p, c', c3, c4, c5, c6⟩ := hc
        rw [c6] at e
        exact row_ptr h hi c2 c5 e hz hk c1 h0 hK
    · cases hK
  · rename_i q p
    obtain ⟨hq, b, hb, e⟩ := vr_ptr hy
    split at hK
    · rename_i n e' hu
      split at hK
      · rename_i j hj
        obtain ⟨h0, hK⟩ := ck_elim hK
        refine Comes.is h (index_arr e hz hu (info_sz hj) h0) hK ?_
        have : offs p + i.toNat * j.size = offs (p ++ [.idx i.toNat j.size]) := by rw [offs_append]; rfl
        rw [this]
        exact vr_ptrI hq hb
      · cases hK
    · cases hK
  · rename_i m t xs
    obtain ⟨b, o, c, e, hA, hl, hK'⟩ := vr_rdp hy
    split at hK
    · rename_i n e' hu
      cases hk : szOk P e' t.sz with
      | false => rw [hk] at hK; cases hK
      | true =>
        rw [hk] at hK
        obtain ⟨h0, hK⟩ := ck_elim hK
        obtain ⟨z', hz', hK⟩ := bind_elim hK
        obtain ⟨hi, rfl⟩ := List.getElem?_eq_some_iff.1 hz'
        have hK' : xs.length = m ∧ Els (t.kd.K (cx W S ρ w).A (cx W S ρ w).h) xs c := hK'
        obtain ⟨cs, hKc, hg⟩ := hK'.2.get (fun _ _ h => kd_len h) i.toNat hi
        exact Comes.is h (index_arr e hz hu hk h0) hK (vr_rdpI hA (lies_sub hl hg) hKc)
    · cases hK
  · cases hK
end
end Go.Mx
