/- Own work. A part of the proof of a law of this seat: a part -/
import Derived.Test.YtidhcbnplgbnoaaMx13
/- Pieces of slices; elements of values; lengths. -/
namespace Go.Mx
open Go Go.RowKit Go.Sx

section
variable {R : Type} {P : Program} {W : Nat → Prop} {S : List AO} {ρ : Nat → Geo} {w : World} {a : Act}
variable {d : Option Nat} {ty T' T2 : TypeId} {pos : String} {af : Array Edge} {g : Option (Nat × Bool)} {y z : Operand} {K : KV R} {r : R}
/-- what an operand that may be there comes to -/
def Opt (a : Act) (o : Option Operand) (i : Option Int) : Prop := match o, i with
  | none, none => True
  | some x, some i => ∃ k, a.eval x = .int k i
  | _, _ => False
theorem optI_ok {s : Slots} {o : Option Operand} {i : Option Int} (hs : SlR (cx W S ρ w) s a) (h : optI s o = some i) : Opt a o i := by
  unfold optI at h
  split at h
  · obtain rfl := Option.some.inj h; trivial
  · split at h
    · rename_i hv
      obtain rfl := Option.some.inj h
      exact ⟨_, vr_int (ev_ok hs hv)⟩
    · cases h
theorem opt_some {o : Option Operand} {i : Int} (h : Opt a o (some i)) : ∃ x k, o = some x ∧ a.eval x = .int k i := by
  cases o with
  | none => exact h.elim
  | some x => obtain ⟨k, e⟩ := h; exact ⟨x, k, rfl, e⟩
theorem opt_none {o : Option Operand} (h : Opt a o none) : o = none := by
  cases o with
  | none => rfl
  | some x => exact h.elim
theorem bounds_ok {lo hi mx : Option Operand} {l h m : Option Int} {n c : Nat} {Q : Nat → Nat → Option R} (hl : Opt a lo l) (hh : Opt a hi h) (hm : Opt a mx m) (hc : n ≤ c) (hK : sliceB l h m n Q = some r) :
    ∃ L H M, (Instr.sliceBounds true n c (lo.map a.eval) (hi.map a.eval) (mx.map a.eval)).run P w = .ok (L, H, M) w ∧ L ≤ H ∧ H ≤ n ∧ H ≤ M ∧ M ≤ c ∧ Q L H = some r ∧
      (l = none → L = 0) ∧ (∀ i, l = some i → L = i.toNat) ∧ (h = none → H = n) ∧ (∀ i, h = some i → H = i.toNat) ∧ (m = none → M = c) ∧ (∀ i, m = some i → M = i.toNat) ∧ (∀ i, h = some i → 0 ≤ i) ∧ (∀ i, m = some i → 0 ≤ i) := by
  unfold sliceB at hK
  match l, h, m, hl, hh, hm, hK with
  | some l, some h, none, hl, hh, hm, hK =>
    obtain ⟨lo, k1, rfl, e1⟩ := opt_some hl
    obtain ⟨hi, k2, rfl, e2⟩ := opt_some hh
    obtain rfl := opt_none hm
    obtain ⟨⟨h0, h1, h2⟩, hK⟩ := ck_elim hK
    have ej : (h.toNat : Int) = h := Int.toNat_of_nonneg (by omega)
    refine ⟨l.toNat, h.toNat, c, ?_, by omega, by omega, by omega, by omega, hK, nofun, fun i hi => by cases hi; rfl, nofun, fun i hi => by cases hi; rfl, fun _ => rfl, nofun, fun i hi => by cases hi; omega, nofun⟩
    simp [e1, e2, Instr.sliceBounds, run_sliceBound, ej, h0, h1, (by omega : 0 ≤ h), (by omega : h ≤ c)]
  | some l, some h, some m, hl, hh, hm, hK =>
    obtain ⟨lo, k1, rfl, e1⟩ := opt_some hl
    obtain ⟨hi, k2, rfl, e2⟩ := opt_some hh
    obtain ⟨mx, k3, rfl, e3⟩ := opt_some hm
    obtain ⟨⟨h0, h1, h2, h3⟩, hK⟩ := ck_elim hK
    have ej : (h.toNat : Int) = h := Int.toNat_of_nonneg (by omega)
    have em : (m.toNat : Int) = m := Int.toNat_of_nonneg (by omega)
    refine ⟨l.toNat, h.toNat, m.toNat, ?_, by omega, by omega, by omega, by omega, hK, nofun, fun i hi => by cases hi; rfl, nofun, fun i hi => by cases hi; rfl, nofun, fun i hi => by cases hi; rfl, fun i hi => by cases hi; omega, fun i hi => by cases hi; omega⟩
    simp [e1, e2, e3, Instr.sliceBounds, run_sliceBound, ej, em, h0, h1, h2, (by omega : 0 ≤ h), (by omega : 0 ≤ m), (by omega : m ≤ c)]
  | some l, none, none, hl, hh, hm, hK =>
    obtain ⟨lo, k1, rfl, e1⟩ := opt_some hl
    obtain rfl := opt_none hh
    obtain rfl := opt_none hm
    obtain ⟨⟨h0, h1⟩, hK⟩ := ck_elim hK
    refine ⟨l.toNat, n, c, ?_, by omega, Nat.le_refl _, hc, Nat.le_refl _, hK, nofun, fun i hi => by cases hi; rfl, fun _ => rfl, nofun, fun _ => rfl, nofun, nofun, nofun⟩
    simp [e1, Instr.sliceBounds, run_sliceBound, h0, h1]
  | none, some h, none, hl, hh, hm, hK =>
    obtain rfl := opt_none hl
    obtain ⟨hi, k2, rfl, e2⟩ := opt_some hh
    obtain rfl := opt_none hm
    obtain ⟨⟨h0, h1⟩, hK⟩ := ck_elim hK
    refine ⟨0, h.toNat, c, ?_, Nat.zero_le _, by omega, by omega, Nat.le_refl _, hK, fun _ => rfl, nofun, nofun, fun i hi => by cases hi; rfl, fun _ => rfl, nofun, fun i hi => by cases hi; omega, nofun⟩
    simp [e2, Instr.sliceBounds, run_sliceBound, h0, (by omega : h ≤ c)]
  | none, some h, some m, hl, hh, hm, hK =>
    obtain rfl := opt_none hl
    obtain ⟨hi, k2, rfl, e2⟩ := opt_some hh
    obtain ⟨mx, k3, rfl, e3⟩ := opt_some hm
    obtain ⟨⟨h0, h1, h2⟩, hK⟩ := ck_elim hK
    have em : (m.toNat : Int) = m := Int.toNat_of_nonneg (by omega)
    refine ⟨0, h.toNat, m.toNat, ?_, Nat.zero_le _, by omega, by omega, by omega, hK, fun _ => rfl, nofun, nofun, fun i hi => by cases hi; rfl, nofun, fun i hi => by cases hi; rfl, fun i hi => by cases hi; omega, fun i hi => by cases hi; omega⟩
    simp [e2, e3, Instr.sliceBounds, run_sliceBound, em, h0, h1, (by omega : 0 ≤ m), (by omega : m ≤ c)]
  | none, none, none, hl, hh, hm, hK =>
    obtain rfl := opt_none hl
    obtain rfl := opt_none hh
    obtain rfl := opt_none hm
    refine ⟨0, n, c, ?_, Nat.zero_le _, Nat.le_refl _, hc, Nat.le_refl _, hK, fun _ => rfl, nofun, fun _ => rfl, nofun, fun _ => rfl, nofun, nofun, nofun⟩
    simp [Instr.sliceBounds]
  | none, none, some _, _, _, _, hK => cases hK
  | some _, none, some _, _, _, _, hK => cases hK
/-- what a piece is -/
def piece (p : Option Addr) (L H M s : Nat) : Value := .slice (if M = L then p else p.map (·.add (L * s))) (H - L) (M - L)
theorem slice_at {e : TypeId} {p : Option Addr} {n c s L H M : Nat} {lo hi mx : Option Operand} (hy : a.eval y = .slice p n c) (hT : P.underlying T' = some (.slice e)) (hs : szOk P e s = true) (hb : (Instr.sliceBounds true n c (lo.map a.eval) (hi.map a.eval) (mx.map a.eval)).run P w = .ok (L, H, M) w) :
    Does P ⟨d, .slice T' y lo hi mx, ty, pos, af, g⟩ a w (Is (piece p L H M s) w) :=
  Does.val (by simp [execOp, hy, Instr.sliceAt, Instr.slice, run_underlying hT, hb, run_size hs, piece])
/-- a piece of a row: a window -/
theorem win_ok {i o n : Nat} {p : Option Addr} {c L H M : Nat} {t : T} {e : TypeId} {xs : List t.den} {m : Md} (h : Rel W S ρ w) (hi : S[i]? = some (.row e t xs m)) (hil : i < S.length) (hn : o + n ≤ (ρ i).n) (hp : n ≠ 0 → ∃ b, (ρ i).a = some ⟨b, 0, none⟩ ∧ p = some ⟨b, o * (ρ i).s, none⟩) (hc : c ≤ maxLen)
    (h1 : L ≤ H) (h2 : H ≤ n) (h3 : H ≤ M) (h4 : M ≤ c) : VR (cx W S ρ w) (.win i (o + L) (H - L)) (piece p L H M t.sz) := by
  refine ⟨[piece p L H M t.sz], rfl, ?_, rfl⟩
  rw [CR]
  refine ⟨hil, by show o + L + (H - L) ≤ (ρ i).n; omega, _, _, by omega, by omega, fun h0 => ?_, rfl⟩
  obtain ⟨b, e1, e2⟩ := hp (by omega)
  refine ⟨b, e1, ?_⟩
  rw [if_neg (by omega), e2]
  have hs : (ρ i).s = t.sz := (row_lies h hi).2.1
  show some (Addr.add ⟨b, o * (ρ i).s, none⟩ (L * t.sz)) = some ⟨b, (o + L) * (ρ i).s, none⟩
  rw [add_at, hs, Nat.add_mul]
theorem piece0 {p : Option Addr} {H M s : Nat} : piece p 0 H M s = .slice p H M := by
  have : (p.map fun q => q.add (0 * s)) = p := by
    cases p with
    | none => rfl
    | some q => rw [Nat.zero_mul]; rfl
  unfold piece
  rw [this]
  simp
theorem slice_ok {v : AV} {lo hi mx : Option Operand} {l h' m : Option Int} (h : Rel W S ρ w) (hd : a.defers = []) (hy : VR (cx W S ρ w) v (a.eval y)) (hl : Opt a lo l) (hh : Opt a hi h') (hm : Opt a mx m) (hK : sliceA P T' v l h' m S K = some r) : Comes P W S ρ w ⟨d, .slice T' y lo hi mx, ty, pos, af, g⟩ a K r := by
  unfold sliceA at hK
  split at hK
  · rename_i s
    have ey := vr_str hy
    split at hK
    · rename_i hT
      split at hK
      · obtain ⟨lo, k1, rfl, e1⟩ := opt_some hl
        obtain ⟨hi, k2, rfl, e2⟩ := opt_some hh
        obtain rfl := opt_none hm
        have ha := bnd_has (a := a) (Op1 y + Op1 lo + Op1 hi) hd
        obtain ⟨h0, hK⟩ := ck_elim hK
        exact Comes.is h (d_substr_lh ha hT (by rw [bnd_ev (by omega), ey]) (by rw [bnd_ev (by omega), e1]) (by rw [bnd_ev (by omega), e2]) h0) hK (vr_strI _)
      · obtain ⟨lo, k1, rfl, e1⟩ := opt_some hl
        obtain rfl := opt_none hh
        obtain rfl := opt_none hm
        have ha := bnd_has (a := a) (Op1 y + Op1 lo) hd
        obtain ⟨h0, hK⟩ := ck_elim hK
        exact Comes.is h (d_substr_l ha hT (by rw [bnd_ev (by omega), ey]) (by rw [bnd_ev (by omega), e1]) h0) hK (vr_strI _)
      · obtain rfl := opt_none hl
        obtain ⟨hi, k2, rfl, e2⟩ := opt_some hh
        obtain rfl := opt_none hm
        have ha := bnd_has (a := a) (Op1 y + Op1 hi) hd
        obtain ⟨h0, hK⟩ := ck_elim hK
        exact Comes.is h (d_substr_h ha hT (by rw [bnd_ev (by omega), ey]) (by rw [bnd_ev (by omega), e2]) h0) hK (vr_strI _)
      · cases hK
    · cases hK
  · have ey := vr_nils hy
    split at hK
    · rename_i e he
      split at hK
      · rename_i j hj
        have hT : P.underlying T' = some (.slice e) := by
          unfold elemOf at he
          split at he
          · rename_i hu; obtain rfl := Option.some.inj he; exact hu
          · cases he
        have fin3 : ∀ {m' : Option Int} {q : Option Int}, Opt a hi q → Opt a mx m' → lo = none → sliceB none q m' 0 (fun _ _ => K .nils S) = some r → Comes P W S ρ w ⟨d, .slice T' y lo hi mx, ty, pos, af, g⟩ a K r := by
          rintro m' q hq hm' rfl hb
          obtain ⟨L, H, M, hb, c1, c2, c3, c4, hK, c5, _⟩ := bounds_ok (P := P) (w := w) (lo := none) (hi := hi) (mx := mx) (l := none) (h := q) (m := m') (n := 0) (c := 0) trivial hq hm' (Nat.le_refl _) hb
          refine Comes.is h (slice_at ey hT (info_sz hj) hb) hK ?_
          have : piece none L H M j.size = .slice none 0 0 := by
            obtain rfl := c5 rfl
            rw [piece0, show H = 0 by omega, show M = 0 by omega]
          rw [this]
          exact ⟨[.slice none 0 0], rfl, by rw [CR], rfl⟩
        have fin : ∀ {hi' : Option Operand} {q : Option Int}, Opt a hi' q → sliceB none q none 0 (fun _ _ => K .nils S) = some r → (lo = none ∧ hi = hi' ∧ mx = none) → Comes P W S ρ w ⟨d, .slice T' y lo hi mx, ty, pos, af, g⟩ a K r := by
          rintro hi' q hq hb ⟨rfl, rfl, rfl⟩
          obtain ⟨L, H, M, hb, c1, c2, c3, c4, hK, c5, _⟩ := bounds_ok (P := P) (w := w) (lo := none) (hi := hi) (mx := none) (l := none) (h := q) (m := none) (n := 0) (c := 0) trivial hq trivial (Nat.le_refl _) hb
          refine Comes.is h (slice_at ey hT (info_sz hj) hb) hK ?_
          have : piece none L H M j.size = .slice none 0 0 := by
            obtain rfl := c5 rfl
            rw [piece0, show H = 0 by omega, show M = 0 by omega]
          rw [this]
          exact ⟨[.slice none 0 0], rfl, by rw [CR], rfl⟩
        split at hK
        · obtain rfl := opt_none hl
          obtain rfl := opt_none hm
          obtain ⟨h0, hK⟩ := ck_elim hK
          exact fin hh (by show ck _ _ = some r; rw [ck_pos (by omega)]; exact hK) ⟨rfl, rfl, rfl⟩
        · obtain rfl := opt_none hl
          obtain ⟨⟨h0, h0'⟩, hK⟩ := ck_elim hK
          exact fin3 hh hm rfl (by show ck _ _ = some r; rw [ck_pos (by omega)]; exact hK)
        · obtain rfl := opt_none hl
          obtain rfl := opt_none hh
          obtain rfl := opt_none hm
          exact fin (hi' := none) (q := none) trivial hK ⟨rfl, rfl, rfl⟩
        · cases hK
      · cases hK
    · cases hK
  · rename_i t xs
    cases hk : slOk P T' t with
    | false => rw [hk] at hK; cases hK
    | true =>
      rw [hk, cond_true] at hK
      obtain ⟨cs, hr, e⟩ := vr_dat hy
      obtain ⟨q, c, e2, hr⟩ : ∃ q c, cs = [.slice q xs.length c] ∧ Raw (cx W S ρ w).A t.kd (cx W S ρ w).h q c xs := hr
      rw [e2] at e
      obtain ⟨e', h1, h2⟩ := slOk_ok hk
      obtain ⟨L, H, M, hb, c1, c2, c3, c4, hK, c5, c6, c7, c8, c9, c10, _⟩ := bounds_ok (P := P) (w := w) hl hh hm hr.1 hK
      cases hnr : noRoom H m with
      | true =>
        rw [hnr, cond_true] at hK
        refine Comes.is h (slice_at e h1 h2 hb) hK ?_
        unfold noRoom at hnr
        cases m with
        | some m0 =>
          simp only at hnr
          rw [Bool.and_eq_true, decide_eq_true_iff] at hnr
          have hH := Nat.eq_of_beq_eq_true hnr.1
          have hM := c10 m0 rfl
          have hM : M = 0 := by rw [hM, hnr.2]; rfl
          subst hH hM
          have hL : L = 0 := by omega
          subst hL
          rw [piece0]
          exact ⟨[.slice q 0 0], rfl, by rw [CR]; exact ⟨q, rfl⟩, rfl⟩
        | none => cases hnr
      | false =>
      rw [hnr, cond_false] at hK
      refine Comes.is h (slice_at e h1 h2 hb) hK ?_
      have hcut : cutA l h' xs = (xs.take H).drop L := by
        unfold cutA
        match l, h', c5, c6, c7, c8 with
        | none, none, c5, _, c7, _ => rw [c5 rfl, c7 rfl, List.take_length]; rfl
        | some l, none, _, c6, c7, _ => rw [c6 l rfl, c7 rfl, List.take_length]
        | none, some h', c5, _, _, c8 => rw [c5 rfl, c8 h' rfl]; rfl
        | some l, some h', _, c6, _, c8 => rw [c6 l rfl, c8 h' rfl]
      rw [hcut]
      have hcr := hr.cut L H M c1 c2 c3 c4
      have hlen := cut_len (xs := xs) H L c2
      refine ⟨[piece q L H M t.sz], rfl, (cr_dat (t := .sl t)).2 ⟨_, _, ?_, hcr⟩, rfl⟩
      rw [hlen, T.kd_sz]
      rfl
  · rename_i i
    obtain ⟨cs, e, hc, _⟩ := hy
    rw [CR] at hc
    split at hK
    · rename_i e' t xs m' hi
      cases hk : slOk P T' t with
      | false => rw [hk] at hK; cases hK
      | true =>
        rw [hk, cond_true] at hK
        obtain ⟨g1, g2, g3, g4, _⟩ := row_lies h hi
        rw [hc.2] at e
        have e : a.eval y = .slice (ρ i).a xs.length (ρ i).c := by rw [← g1]; exact e
        obtain ⟨e1, h1, h2⟩ := slOk_ok hk
        obtain ⟨L, H, M, hb, c1, c2, c3, c4, hK, c5, c6, c7, c8, c9, c10, c11, c12⟩ := bounds_ok (P := P) (w := w) hl hh hm g3 hK
        have hp : xs.length ≠ 0 → ∃ b, (ρ i).a = some ⟨b, 0, none⟩ ∧ (ρ i).a = some ⟨b, 0 * (ρ i).s, none⟩ := fun hn => by
          obtain ⟨b, ha⟩ := row_a h hi (by intro e; rw [e] at hn; exact hn rfl)
          exact ⟨b, ha, by rw [Nat.zero_mul]; exact ha⟩
        have hw := win_ok h hi hc.1 (o := 0) (n := xs.length) (p := (ρ i).a) (by omega) hp g4 c1 c2 c3 c4
        rw [Nat.zero_add] at hw
        split at hK
        · refine Comes.is h (slice_at e h1 h2 hb) hK ?_
          obtain rfl := c5 rfl
          obtain rfl := c7 rfl
          obtain rfl := c9 rfl
          rw [piece0, ← g1]
          exact ⟨_, rfl, by rw [CR]; exact ⟨hc.1, rfl⟩, rfl⟩
        · refine Comes.is h (slice_at e h1 h2 hb) hK ?_
          obtain rfl := c5 rfl
          obtain rfl := c9 rfl
          rw [piece0]
          exact ⟨[.slice (ρ i).a H (ρ i).c], rfl, by rw [CR]; exact ⟨hc.1, by show H ≤ (ρ i).n; omega, rfl⟩, rfl⟩
        · obtain ⟨hhm, hK⟩ := ck_elim hK
          refine Comes.is h (slice_at e h1 h2 hb) hK ?_
          obtain rfl := c5 rfl
          have k1 := c8 _ rfl
          have k2 := c10 _ rfl
          obtain rfl : H = M := by rw [k1, k2, hhm]
          rw [piece0]
          exact ⟨[.slice (ρ i).a H H], rfl, by rw [CR]; exact ⟨hc.1, by show H ≤ (ρ i).n; omega, rfl⟩, rfl⟩
        · exact Comes.is h (slice_at e h1 h2 hb) hK hw
    · cases hK
  · rename_i i n
    obtain ⟨cs, e, hc, _⟩ := hy
    rw [CR] at hc
    split at hK
    · rename_i e' t xs m' hi
      cases hk : slOk P T' t with
      | false => rw [hk] at hK; cases hK
      | true =>
        rw [hk, cond_true] at hK
        obtain ⟨g1, g2, g3, g4, _⟩ := row_lies h hi
        obtain ⟨q1, q2, q3⟩ := hc
        rw [q3] at e
        have q2 : n ≤ (ρ i).n := q2
        have e : a.eval y = .slice (ρ i).a n (ρ i).c := e
        obtain ⟨e1, h1, h2⟩ := slOk_ok hk
        obtain ⟨L, H, M, hb, c1, c2, c3, c4, hK, c5, c6, c7, c8, c9, c10, c11, c12⟩ := bounds_ok (P := P) (w := w) (c := (ρ i).c) hl hh hm (by omega) hK
        have hp : n ≠ 0 → ∃ b, (ρ i).a = some ⟨b, 0, none⟩ ∧ (ρ i).a = some ⟨b, 0 * (ρ i).s, none⟩ := fun hn => by
          obtain ⟨b, ha⟩ := row_a h hi (by intro e; rw [e] at g1; simp at g1; omega)
          exact ⟨b, ha, by rw [Nat.zero_mul]; exact ha⟩
        have hw := win_ok h hi q1 (o := 0) (n := n) (p := (ρ i).a) (by omega) hp g4 c1 c2 c3 c4
        rw [Nat.zero_add] at hw
        split at hK
        · refine Comes.is h (slice_at e h1 h2 hb) hK ?_
          obtain rfl := c5 rfl
          obtain rfl := c9 rfl
          rw [piece0]
          exact ⟨[.slice (ρ i).a H (ρ i).c], rfl, by rw [CR]; exact ⟨q1, by show H ≤ (ρ i).n; omega, rfl⟩, rfl⟩
        · obtain ⟨hhm, hK⟩ := ck_elim hK
          refine Comes.is h (slice_at e h1 h2 hb) hK ?_
          obtain rfl := c5 rfl
          have k1 := c8 _ rfl
          have k2 := c10 _ rfl
          obtain rfl : H = M := by rw [k1, k2, hhm]
          rw [piece0]
          exact ⟨[.slice (ρ i).a H H], rfl, by rw [CR]; exact ⟨q1, by show H ≤ (ρ i).n; omega, rfl⟩, rfl⟩
        · exact Comes.is h (slice_at e h1 h2 hb) hK hw
    · cases hK
  · rename_i i n
    obtain ⟨cs, e, hc, _⟩ := hy
    rw [CR] at hc
    split at hK
    · rename_i e' t xs m' hi
      cases hk : slOk P T' t with
      | false => rw [hk] at hK; cases hK
      | true =>
        rw [hk, cond_true] at hK
        obtain ⟨g1, g2, g3, g4, _⟩ := row_lies h hi
        obtain ⟨q1, q2, q3⟩ := hc
        rw [q3] at e
        have q2 : n ≤ (ρ i).n := q2
        have e : a.eval y = .slice (ρ i).a n n := e
        obtain ⟨e1, h1, h2⟩ := slOk_ok hk
        obtain ⟨L, H, M, hb, c1, c2, c3, c4, hK, c5, c6, c7, c8, c9, c10, c11, c12⟩ := bounds_ok (P := P) (w := w) hl hh hm (Nat.le_refl n) hK
        have hp : n ≠ 0 → ∃ b, (ρ i).a = some ⟨b, 0, none⟩ ∧ (ρ i).a = some ⟨b, 0 * (ρ i).s, none⟩ := fun hn => by
          obtain ⟨b, ha⟩ := row_a h hi (by intro e; rw [e] at g1; simp at g1; omega)
          exact ⟨b, ha, by rw [Nat.zero_mul]; exact ha⟩
        have hw := win_ok h hi q1 (o := 0) (n := n) (p := (ρ i).a) (by omega) hp (by omega) c1 c2 c3 c4
        rw [Nat.zero_add] at hw
        split at hK
        · obtain ⟨hhm, hK⟩ := ck_elim hK
          refine Comes.is h (slice_at e h1 h2 hb) hK ?_
          obtain rfl := c5 rfl
          have k1 := c8 _ rfl
          have k2 := c10 _ rfl
          obtain rfl : H = M := by rw [k1, k2, hhm]
          rw [piece0]
          exact ⟨[.slice (ρ i).a H H], rfl, by rw [CR]; exact ⟨q1, by show H ≤ (ρ i).n; omega, rfl⟩, rfl⟩
        · exact Comes.is h (slice_at e h1 h2 hb) hK hw
    · cases hK
  · rename_i i o n
    obtain ⟨cs, e, hc, _⟩ := hy
    rw [CR] at hc
    split at hK
    · rename_i e' t xs m' hi
      cases hk : slOk P T' t with
      | false => rw [hk] at hK; cases hK
      | true =>
        rw [hk, cond_true] at hK
        obtain ⟨q1, q2, p, c', q3, q4, q5, q6⟩ := hc
        rw [q6] at e
        obtain ⟨e1, h1, h2⟩ := slOk_ok hk
        obtain ⟨L, H, M, hb, c1, c2, c3, c4, hK, _⟩ := bounds_ok (P := P) (w := w) hl hh hm q3 hK
        exact Comes.is h (slice_at e h1 h2 hb) hK (win_ok h hi q1 q2 q5 q4 c1 c2 c3 c4)
    · cases hK
  · cases hK
end
end Go.Mx
