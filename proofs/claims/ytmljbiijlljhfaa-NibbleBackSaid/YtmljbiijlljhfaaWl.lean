/- Own work. A part of the proof of a law of this seat: this seat's functions, by the machine, and the plain law -/
import Derived.Test.YtmljbiijlljhfaaWk
set_option linter.unusedSimpArgs false
set_option linter.unusedVariables false
namespace Go.Mx
open Go Go.RowKit Go.Sx Go.Proofs
set_option maxRecDepth 100000
section
variable {R : Type} (K : KV R) (l : List Int) (hl : l.length < 10000)
/-! ### the document's -/
def low (r : List Int) : Bool := r.all fun x => decide (x ≤ 15)
def finR (t : Int) (b : List Int) : Option XV := if mayV (t, strOf b) = true ∧ strOf (ofV (t, strOf b)) = strOf l then some (t, strOf b) else none
theorem fin_r (t : Int) (b : List Int) : (bif !mayV (t, strOf b) then K errV [] else ck (mayV (t, strOf b) = true) (bif !decide (strOf (ofV (t, strOf b)) = strOf l) then K errV [] else K (okV (t, strOf b)) [])) = optK (finR l t b) (K errV []) fun x => K (okV x) [] := by
  unfold finR
  cases hm : mayV (t, strOf b) with
  | false => rw [if_neg (by simp)]; rfl
  | true =>
    rw [Bool.not_true, cond_false, ck_pos rfl]
    by_cases h : strOf (ofV (t, strOf b)) = strOf l
    · rw [decide_eq_true h, if_pos ⟨rfl, h⟩]; rfl
    · rw [decide_eq_false h, if_neg (fun e => h e.2)]; rfl
include hl in
theorem rread_loop (hb : Bytes l) (L0 : Nat → St → (Exit → St → Option R) → Option R) (n : Nat) (hn : 7 + 2 * n = l.length) : ∀ (m i k : Nat) (b : List Int), i + m = n → b.length + m < 10000 → m < k →
    LX Try.prog G22 lv21 0 (codeOf Try.f22) k 0 ⟨[(0, .dat BL l), (2, .ptr 0 []), (4, .dat I64 (n : Int)), (5, .view 1), (6, .dat I64 (i : Int))], [.box 29 (.dat XT (0, ⟨#[]⟩)) true, .row 5 U8 b .own]⟩ (endX Try.prog G22 lv21 Try.f22 0 L0 K 0)
      = if low (l.drop (7 + 2 * i)) = true then optK (finR l (l.getD 6 0) (b ++ bytesP (l.drop (7 + 2 * i)))) (K errV []) (fun x => K (okV x) []) else K errV [] := by
  have g : ∀ j, j < l.length → 0 ≤ l.getD j 0 ∧ l.getD j 0 < 256 := fun j hj => hb _ (by rw [List.getD_eq_getElem?_getD, List.getElem?_eq_getElem hj]; exact List.getElem_mem _)
  intro m
  induction m with
  | zero =>
    intro i k b hi hb' hk
    obtain ⟨k, rfl⟩ : ∃ q, k = q + 1 := ⟨k - 1, by omega⟩
    refine (rrd_v _ L0 K l b n i).trans ?_
    have h6 := g 6 (by omega)
    rw [show decide ((i : Int) < (n : Int)) = false from decide_eq_false (by omega), cond_false, List.drop_of_length_le (by omega), if_pos (by rfl), bytesP, List.append_nil, show l[6]? = some (l.getD 6 0) from getq (i := 6) (j := 6) rfl (by omega)]
    · simp only [Option.bind_some]
      rw [wrapS (by omega)]
      exact fin_r K l _ b
    · intro _ _ _ h; cases h
  | succ m ih =>
    intro i k b hi hb' hk
    obtain ⟨k, rfl⟩ : ∃ q, k = q + 1 := ⟨k - 1, by omega⟩
    refine (rrd_v _ L0 K l b n i).trans ?_
    have h7 := g (7 + 2 * i) (by omega)
    have h8 := g (8 + 2 * i) (by omega)
    rw [show decide ((i : Int) < (n : Int)) = true from decide_eq_true (by omega), cond_true, wrapS (x := 2 * (i : Int)) (by omega), wrapS (x := 7 + 2 * (i : Int)) (by omega), wrapS (x := 8 + 2 * (i : Int)) (by omega), ck_pos (by omega), getq (i := 7 + 2 * (i : Int)) (j := 7 + 2 * i) (by omega) (by omega)]
    rw [Option.bind_some]
    rw [drop2 (show 7 + 2 * i + 1 < l.length by omega), show 7 + 2 * i + 1 = 8 + 2 * i by omega, show 7 + 2 * i + 2 = 7 + 2 * (i + 1) by omega]
    by_cases c1 : 15 < l.getD (7 + 2 * i) 0
    · rw [decide_eq_true c1, cond_true, if_neg (by unfold low; rw [List.all_cons, decide_eq_false (by omega)]; simp)]
      rfl
    rw [decide_eq_false c1, cond_false, ck_pos (by omega), getq (i := 8 + 2 * (i : Int)) (j := 8 + 2 * i) (by omega) (by omega)]
    rw [Option.bind_some]
    by_cases c2 : 15 < l.getD (8 + 2 * i) 0
    · rw [decide_eq_true c2, cond_true, if_neg (by unfold low; rw [List.all_cons, List.all_cons, decide_eq_false (show ¬ l.getD (8 + 2 * i) 0 ≤ 15 by omega)]; simp)]
      rfl
    rw [decide_eq_false c2, cond_false, ck_pos (by omega), Option.bind_some, ck_pos (by omega), Option.bind_some, ck_pos (by unfold limit; omega), wrapS (x := (i : Int) + 1) (by omega)]
    have e := ih (i + 1) k (b ++ [IntKind.u8.wrap (IntKind.u8.wrap (16 * l.getD (7 + 2 * i) 0) + l.getD (8 + 2 * i) 0)]) (by omega) (by simp; omega) (by omega)
    rw [show ((i + 1 : Nat) : Int) = (i : Int) + 1 by omega] at e
    refine e.trans ?_
    have el : low (l.getD (7 + 2 * i) 0 :: l.getD (8 + 2 * i) 0 :: l.drop (7 + 2 * (i + 1))) = low (l.drop (7 + 2 * (i + 1))) := by
      unfold low
      rw [List.all_cons, List.all_cons, decide_eq_true (show l.getD (7 + 2 * i) 0 ≤ 15 by omega), decide_eq_true (show l.getD (8 + 2 * i) 0 ≤ 15 by omega)]
      simp
    rw [el, bytesP, or_nib (by omega) (by omega), List.append_assoc, wrapB (x := 16 * l.getD (7 + 2 * i) 0) (by omega), wrapB (by omega)]
    rfl
include hl in
theorem rread_run (hb : Bytes l) (k : Nat) (hk : 9000 < k) : (codeX Try.prog G22 lv21 (k + 1) Try.f22).run [.dat BL l] [] K = optK (readP l) (K errV []) fun x => K (okV x) [] := by
  have g : ∀ j, j < l.length → 0 ≤ l.getD j 0 ∧ l.getD j 0 < 256 := fun j hj => hb _ (by rw [List.getD_eq_getElem?_getD, List.getElem?_eq_getElem hj]; exact List.getElem_mem _)
  refine (rrd_0 _ K l).trans ?_
  by_cases h1 : l.length < 7
  · rw [show decide ((l.length : Int) < 7) = true from decide_eq_true (by omega), cond_true]
    unfold readP
    rw [if_neg (by omega)]; rfl
  have h4 := g 4 (by omega)
  have h5 := g 5 (by omega)
  rw [show decide ((l.length : Int) < 7) = false from decide_eq_false (by omega), cond_false, show l[4]? = some (l.getD 4 0) from getq (i := 4) (j := 4) rfl (by omega)]
  rw [Option.bind_some]
  rw [show l[5]? = some (l.getD 5 0) from getq (i := 5) (j := 5) rfl (by omega)]
  rw [Option.bind_some]
  rw [wrapS (x := l.getD 4 0) (by omega), wrapS (x := l.getD 5 0) (by omega), wrapS (x := 16 * l.getD 4 0) (by omega), wrapS (x := 16 * l.getD 4 0 + l.getD 5 0) (by omega), wrapS (x := 2 * (16 * l.getD 4 0 + l.getD 5 0)) (by omega), wrapS (x := 7 + 2 * (16 * l.getD 4 0 + l.getD 5 0)) (by omega)]
  -- what is read is read so by both
  have agree : ∀ x, readP l = some x → (l.length : Int) = 7 + 2 * (16 * l.getD 4 0 + l.getD 5 0) ∧ low (l.drop 7) = true := by
    intro x hx
    obtain ⟨m1, m2, m3, m4⟩ := read_some hx
    obtain ⟨_, _, r3, r4⟩ := may_range m1
    have e4 : l.getD 4 0 = (x.2.size : Int) / 16 := by rw [← m2]; rfl
    have e5 : l.getD 5 0 = (x.2.size : Int) % 16 := by rw [← m2]; rfl
    have el : l.length = 7 + 2 * x.2.size := by rw [← m2]; exact ofV_len x
    refine ⟨by rw [e4, e5]; omega, ?_⟩
    have ed : l.drop 7 = flat (bytesOf x.2) := by rw [← m2]; exact ofV_drop x
    rw [ed]
    unfold low
    rw [List.all_eq_true]
    intro y hy
    exact decide_eq_true (flat_nib (bytesOf_range x.2) y hy).2
  by_cases h2 : (l.length : Int) = 7 + 2 * (16 * l.getD 4 0 + l.getD 5 0)
  · rw [decide_eq_true h2, Bool.not_true, cond_false]
    obtain ⟨n, hn⟩ : ∃ n : Nat, 16 * l.getD 4 0 + l.getD 5 0 = n := ⟨(16 * l.getD 4 0 + l.getD 5 0).toNat, by omega⟩
    rw [hn] at h2 ⊢
    have hlen : 7 + 2 * n = l.length := by omega
    have er : finR l (l.getD 6 0) (bytesP (l.drop 7)) = readP l := by
      unfold readP finR xP
      by_cases hm : mayV (l.getD 6 0, strOf (bytesP (l.drop 7))) = true
      · by_cases ho : ofV (l.getD 6 0, strOf (bytesP (l.drop 7))) = l
        · rw [if_pos ⟨hm, by rw [ho]⟩, if_pos ⟨by omega, by omega, hm, ho⟩]
        · rw [if_neg (fun e => ho ((strOf_inj (ofV_bytes hm) hb).1 e.2)), if_neg (fun e => ho e.2.2.2)]
      · rw [if_neg (fun e => hm e.1), if_neg (fun e => hm e.2.2.1)]
    have fin : (if low (l.drop 7) = true then optK (finR l (l.getD 6 0) (bytesP (l.drop 7))) (K errV []) (fun x => K (okV x) []) else K errV []) = optK (readP l) (K errV []) fun x => K (okV x) [] := by
      rw [er]
      by_cases hlow : low (l.drop 7) = true
      · rw [if_pos hlow]
      · rw [if_neg hlow]
        cases hx : readP l with
        | none => rfl
        | some x => exact absurd (agree x hx).2 hlow
    refine Eq.trans ?_ fin
    refine (rrd_n (LX Try.prog G22 lv21 0 (codeOf Try.f22) k) (LX Try.prog G22 lv21 0 (codeOf Try.f22) (k + 1)) K l n 0).trans ?_
    by_cases h0 : n = 0
    · have h6 := g 6 (by omega)
      have ed : l.drop 7 = [] := List.drop_of_length_le (by omega)
      have e0 : bytesP [] = [] := by simp [bytesP]
      rw [show decide ((0 : Int) < (n : Int)) = false from decide_eq_false (by omega), cond_false, ed, if_pos (show low [] = true from rfl), e0, show l[6]? = some (l.getD 6 0) from getq (i := 6) (j := 6) rfl (by omega)]
      rw [Option.bind_some]
      rw [wrapS (x := l.getD 6 0) (by omega)]
      exact fin_r K l _ []
    · have h7 := g 7 (by omega)
      have h8 := g 8 (by omega)
      have c7 : IntKind.i64.wrap (7 + IntKind.i64.wrap (2 * (0 : Int))) = 7 := rfl
      have c8 : IntKind.i64.wrap (8 + IntKind.i64.wrap (2 * (0 : Int))) = 8 := rfl
      have q7 : l[Int.toNat 7]? = some (l.getD 7 0) := getq (i := 7) (j := 7) rfl (by omega)
      have q8 : l[Int.toNat 8]? = some (l.getD 8 0) := getq (i := 8) (j := 8) rfl (by omega)
      rw [show decide ((0 : Int) < (n : Int)) = true from decide_eq_true (by omega), cond_true, c7, c8, ck_pos (by omega), q7, Option.bind_some, drop2 (show 7 + 1 < l.length by omega), show (7 : Nat) + 1 = 8 from rfl, show (7 : Nat) + 2 = 9 from rfl]
      show (bif decide (15 < l.getD 7 0) then _ else _) = (if low (l.getD 7 0 :: l.getD 8 0 :: l.drop 9) = true then _ else _)
      by_cases g1 : 15 < l.getD 7 0
      · rw [decide_eq_true g1, cond_true, if_neg (by unfold low; rw [List.all_cons, decide_eq_false (by omega)]; simp)]
        rfl
      rw [decide_eq_false g1, cond_false, ck_pos (by omega), q8, Option.bind_some]
      by_cases g2 : 15 < l.getD 8 0
      · rw [decide_eq_true g2, cond_true, if_neg (by unfold low; rw [List.all_cons, List.all_cons, decide_eq_false (show ¬ l.getD 8 0 ≤ 15 by omega)]; simp)]
        rfl
      rw [decide_eq_false g2, cond_false, ck_pos (by omega), Option.bind_some, ck_pos (by omega), Option.bind_some]
      have e := rread_loop K l hl hb (LX Try.prog G22 lv21 0 (codeOf Try.f22) (k + 1)) n (by omega) (n - 1) 1 k [IntKind.u8.wrap (IntKind.u8.wrap (16 * l.getD 7 0) + l.getD 8 0)] (by omega) (by simp; omega) (by omega)
      refine Eq.trans e ?_
      have el : low (l.getD 7 0 :: l.getD 8 0 :: l.drop 9) = low (l.drop 9) := by
        unfold low
        rw [List.all_cons, List.all_cons, decide_eq_true (show l.getD 7 0 ≤ 15 by omega), decide_eq_true (show l.getD 8 0 ≤ 15 by omega)]
        simp
      rw [el, bytesP, or_nib (by omega) (by omega), wrapB (x := 16 * l.getD 7 0) (by omega), wrapB (by omega)]
      rfl
  · rw [decide_eq_false h2, Bool.not_false, cond_true]
    cases hx : readP l with
    | none => rfl
    | some x => exact absurd (agree x hx).1 h2
end
theorem F21_ok : SumOk Try.prog 21 F21 := by
  refine (codeX_ok (k := 9999 + 1) (lv := lv21) mixed noNG_prog (sums_call (Wr := all) all21) (sums_prim all21) (fn := Try.f21) rfl).le ?_ ?_
  · intro R R' f args ob K
    unfold F21; dsimp only
    split <;> simp only [bd_none, bd_ck, bd_opt]
  · intro R args ob K r h
    unfold F21 at h; dsimp only at h
    split at h
    · rename_i l
      obtain ⟨⟨hl, hb⟩, h2⟩ := ck_elim h
      exact (read_run K l hl hb 9999 (by omega)).trans h2
    · rename_i n l
      obtain ⟨hn, h2⟩ := ck_elim h
      refine (rd_p _ K l n).trans (Eq.trans ?_ h2)
      by_cases h1 : (n : Int) < 7
      · rw [decide_eq_true h1]; rfl
      · rw [decide_eq_false h1, show Int.tmod (n : Int) 2 = 0 by rw [Int.tmod_eq_emod_of_nonneg (by omega)]; omega]
        rfl
    · cases h
theorem F22_ok : SumOk Try.prog 22 F22 := by
  refine (codeX_ok (k := 9999 + 1) (lv := lv21) mixed noNG_prog (sums_call (Wr := all) all22) (sums_prim all22) (fn := Try.f22) rfl).le ?_ ?_
  · intro R R' f args ob K
    unfold F22; dsimp only
    split <;> simp only [bd_none, bd_ck, bd_opt]
  · intro R args ob K r h
    unfold F22 at h; dsimp only at h
    split at h
    · rename_i l
      obtain ⟨⟨hl, hb⟩, h2⟩ := ck_elim h
      exact (rread_run K l hl hb 9999 (by omega)).trans h2
    · cases h
theorem all5 : AllOk Try.prog [(21, F21), (22, F22), (15, Fof), (10, F10), (17, Fmay)] := ⟨F21_ok, F22_ok, F15_ok, F10_ok, F17_ok, trivial⟩
theorem NibbleReads_ok : SumOk Try.prog 5 (codeX Try.prog G5 lvN 0 Try.f5) := codeX_ok mixed noNG_prog (sums_call all5) (sums_prim all5) rfl lvN 0
theorem NibbleBack_ok : SumOk Try.prog 6 (codeX Try.prog G5 lvN 0 Try.f6) := codeX_ok mixed noNG_prog (sums_call all5) (sums_prim all5) rfl lvN 0
theorem NibbleReads_law (l : List Int) (h : l.length ≤ 140737488351232 ∧ ∀ x ∈ l, (Lit.int .u8 x).wf = true) : (codeX Try.prog G5 lvN 0 Try.f5).run [.dat BL l] [] isTrue = some true := by
  have hb : Bytes l := fun x hx => wf8 (h.2 x hx)
  refine (nr_0 isTrue l).trans ?_
  by_cases h1 : (2000 : Int) < (l.length : Int)
  · rw [decide_eq_true h1]; rfl
  rw [decide_eq_false h1, cond_false, ck_pos (by unfold limit; omega), ck_pos ⟨by omega, hb⟩, ck_pos ⟨by omega, hb⟩, decide_eq_true (rfl : strOf l = strOf l)]
  cases hx : readP l with
  | none => rfl
  | some x =>
    obtain ⟨m1, m2, m3, m4⟩ := read_some hx
    show ck _ _ = some true
    rw [ck_pos ⟨by omega, hb⟩]
    show (bif decide (x.1 = x.1) && decide (x.2 = x.2) then _ else _) = _
    rw [decide_eq_true rfl, decide_eq_true rfl, Bool.and_self, cond_true, cond_true, ck_pos m1, m2, decide_eq_true rfl]
    rfl
end Go.Mx
