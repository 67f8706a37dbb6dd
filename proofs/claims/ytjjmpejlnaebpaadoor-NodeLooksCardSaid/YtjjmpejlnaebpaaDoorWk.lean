/- Own work. A part of the proof of a law of this seat: this seat's functions, by the machine, and the plain law -/
import Derived.Test.YtjjmpejlnaebpaaDoorMe
import Derived.Test.YtjjmpejlnaebpaaDoorWj
namespace Go.Mx
set_option linter.unusedVariables false
open Go Go.RowKit Go.Sx Go.Proofs
set_option maxRecDepth 100000
/-! ### plain facts -/
theorem cntL_gat : ∀ (l : List LV) (m : Int), l.all mayL = true → cntL l m = m + (gat (fun x => x.2.1) 1 l).length + (gat (fun x => x.2.2) 2 l).length
  | [], m, _ => by simp [cntL, gat]
  | x :: r, m, h => by
    rw [List.all_cons, Bool.and_eq_true] at h
    rw [cntL, gat, gat, cntL_gat r _ h.2]
    have hx := h.1
    unfold mayL at hx
    by_cases h0 : x.1 = 0
    · rw [decide_eq_true h0, decide_eq_false (show ¬ x.1 = 1 by omega), decide_eq_false (show ¬ x.1 = 2 by omega)]; rfl
    · rw [decide_eq_false h0] at hx ⊢
      by_cases h1 : x.1 = 1
      · rw [decide_eq_true h1, decide_eq_false (show ¬ x.1 = 2 by omega)]
        simp only [cond_false, cond_true, List.length_cons]; omega
      · rw [decide_eq_false h1] at hx
        have h2 : x.1 = 2 := by
          simp only [cond_false, Bool.and_eq_true, decide_eq_true_eq] at hx
          exact hx.1
        rw [decide_eq_true h2, decide_eq_false (show ¬ x.1 = 1 by omega)]
        simp only [cond_false, cond_true, List.length_cons]; omega
theorem cntL_ge : ∀ (l : List LV) (m : Int), m ≤ cntL l m
  | [], m => Int.le_refl _
  | x :: r, m => by
    rw [cntL]
    cases decide (x.1 = 0)
    · have := cntL_ge r (m + 1); simp only [cond_false]; omega
    · exact cntL_ge r m
theorem firL_none : ∀ (l : List LV) (m : Int), (firL l).2 = false → cntL l m = m
  | [], m, _ => rfl
  | x :: r, m, h => by
    rw [firL] at h
    rw [cntL]
    cases hd : decide (x.1 = 0) with
    | false => rw [hd] at h; cases h
    | true => rw [hd] at h; exact firL_none r m h
/-- the link is found -/
def fndL (l : LV) : List LV → Bool → Bool
  | [], f => f
  | x :: r, f => fndL l r (bif f then true else bif !decide (x.1 = 0) then decide (x = l) else false)
theorem fndL_true (l : LV) : ∀ r, fndL l r true = true
  | [] => rfl
  | _ :: r => fndL_true l r
theorem firL_fnd : ∀ (l : List LV), (firL l).2 = true → fndL (firL l).1 l false = true
  | [], h => by cases h
  | x :: r, h => by
    rw [firL] at h ⊢
    cases hd : decide (x.1 = 0) with
    | false =>
      rw [fndL, hd]
      simp only [cond_false, Bool.not_false, cond_true, decide_true]
      exact fndL_true _ r
    | true =>
      rw [hd] at h
      rw [fndL, hd]
      exact firL_fnd r h
theorem only_is (n : NV) : (onlyV n).2 = decide (cntL n.2 0 = 1) := by
  unfold onlyV
  cases hd : decide (cntL n.2 0 = 1) with
  | false => rfl
  | true =>
    show (firL n.2).2 = true
    cases hf : (firL n.2).2 with
    | true => rfl
    | false =>
      have := firL_none n.2 0 hf
      have h1 := of_decide_eq_true hd
      omega
theorem only_no {n : NV} (h : (onlyV n).2 = false) : (onlyV n).1 = (0, 0, 0, 0) := by
  rw [only_is] at h
  unfold onlyV
  rw [h]; rfl
theorem only_fnd {n : NV} (h : (onlyV n).2 = true) : fndL (onlyV n).1 n.2 false = true := by
  have h0 := h
  rw [only_is] at h
  unfold onlyV at h0 ⊢
  rw [h] at h0 ⊢
  exact firL_fnd _ h0
/-! ### the loops -/
theorem getI {A : Type} {l : List A} {i : Nat} (d : A) (h : i < l.length) : l[(i : Int).toNat]? = some (l.getD i d) := by
  rw [Int.toNat_natCast, List.getElem?_eq_getElem h, List.getD_eq_getElem?_getD, List.getElem?_eq_getElem h]; rfl
noncomputable abbrev LF (kf : Nat) := LX (R := Bool) Tryd.prog G7 lv7 0 (codeOf Tryd.f7) kf
theorem lkB {kf : Nat} (hkf : 40 ≤ kf) (K : KV Bool) (b : List (Int × Int)) (hb : b.length ≤ 16) : ∀ (n i k : Nat), i + n = b.length → n < k →
    LX Tryd.prog G7 lv7 0 (codeOf Tryd.f7) k 4 ⟨[(9, .dat HL b), (11, .dat HL b), (13, .dat I64 (i : Int))], []⟩ (endX Tryd.prog G7 lv7 Tryd.f7 0 (LF kf) K 4) = K (.dat .bool true) [] := by
  intro n
  induction n with
  | zero =>
    intro i k hn hk
    obtain ⟨k, rfl⟩ : ∃ q, k = q + 1 := ⟨k - 1, by omega⟩
    refine (look_b _ (LF kf) K b b i).trans ?_
    rw [decide_eq_false (show ¬ (i : Int) < b.length by omega), cond_false]
  | succ n ih =>
    intro i k hn hk
    obtain ⟨k, rfl⟩ : ∃ q, k = q + 1 := ⟨k - 1, by omega⟩
    refine (look_b _ (LF kf) K b b i).trans ?_
    have e := ih (i + 1) k (by omega) (by omega)
    rw [show ((i + 1 : Nat) : Int) = (i : Int) + 1 by omega] at e
    rw [decide_eq_true (show (i : Int) < b.length by omega), cond_true, ck_pos (by omega), getI (0, 0) (by omega), Option.bind_some, ck_pos (by omega), Option.bind_some, decide_eq_true (Eq.refl _), decide_eq_true (Eq.refl _), wrapS (by omega)]
    exact e
theorem lkA {kf : Nat} (hkf : 40 ≤ kf) (K : KV Bool) (a : List Int) (ha : a.length ≤ 16) (b : List (Int × Int)) (hb : b.length ≤ 16) : ∀ (n i k : Nat), i + n = a.length → n < k →
    LX Tryd.prog G7 lv7 0 (codeOf Tryd.f7) k 2 ⟨[(8, .dat SL a), (9, .dat HL b), (10, .dat SL a), (11, .dat HL b), (12, .dat I64 (i : Int))], []⟩ (endX Tryd.prog G7 lv7 Tryd.f7 0 (LF kf) K 2) = K (.dat .bool true) [] := by
  intro n
  induction n with
  | zero =>
    intro i k hn hk
    obtain ⟨k, rfl⟩ : ∃ q, k = q + 1 := ⟨k - 1, by omega⟩
    refine (look_a _ (LF kf) K a a b b i).trans ?_
    rw [decide_eq_false (show ¬ (i : Int) < a.length by omega), cond_false]
    exact lkB hkf K b hb b.length 0 kf (by omega) (by omega)
  | succ n ih =>
    intro i k hn hk
    obtain ⟨k, rfl⟩ : ∃ q, k = q + 1 := ⟨k - 1, by omega⟩
    refine (look_a _ (LF kf) K a a b b i).trans ?_
    have e := ih (i + 1) k (by omega) (by omega)
    rw [show ((i + 1 : Nat) : Int) = (i : Int) + 1 by omega] at e
    rw [decide_eq_true (show (i : Int) < a.length by omega), cond_true, ck_pos (by omega), getI 0 (by omega), Option.bind_some, ck_pos (by omega), Option.bind_some, decide_eq_true (Eq.refl _), wrapS (by omega)]
    exact e
theorem lkN {kf : Nat} (hkf : 40 ≤ kf) (K : KV Bool) (n : NV) (hl : n.2.length = 16) : ∀ (m i k : Nat) (f : Bool), i + m = 16 → m < k → fndL (onlyV n).1 (n.2.drop i) f = fndL (onlyV n).1 n.2 false →
    LX Tryd.prog G7 lv7 0 (codeOf Tryd.f7) k 0 ⟨[(1, .ptr 0 []), (3, .dat I64 (cntL n.2 0)), (4, .ptr 1 []), (5, .dat .bool (onlyV n).2), (6, .dat .bool f), (7, .dat I64 (i : Int))], [.box 31 (.dat NT n) true, .box 28 (.dat LT (onlyV n).1) true]⟩ (endX Tryd.prog G7 lv7 Tryd.f7 0 (LF kf) K 0) = K (.dat .bool true) [] := by
  intro m
  have l1 : (gat (fun x => x.2.1) 1 n.2).length ≤ 16 := by have := gat_len (fun x : LV => x.2.1) 1 n.2; omega
  have l2 : (gat (fun x => x.2.2) 2 n.2).length ≤ 16 := by have := gat_len (fun x : LV => x.2.2) 2 n.2; omega
  have fin := lkA hkf K (gat (fun x => x.2.1) 1 n.2) l1 (gat (fun x => x.2.2) 2 n.2) l2 (gat (fun x => x.2.1) 1 n.2).length 0 kf (by omega) (by omega)
  induction m with
  | zero =>
    intro i k f hn hk hf
    obtain ⟨k, rfl⟩ : ∃ q, k = q + 1 := ⟨k - 1, by omega⟩
    refine (look_s _ (LF kf) K n _ _ i _ f).trans ?_
    rw [List.drop_of_length_le (by omega)] at hf
    have hf : f = fndL (onlyV n).1 n.2 false := hf
    rw [decide_eq_false (show ¬ (i : Int) < 16 by omega), cond_false]
    have tail : ck (List.length n.2 = 16) (bif mayN n then bif !decide (IntKind.i64.wrap (((gat (fun x => x.2.1) 1 n.2).length : Int) + ((gat (fun x => x.2.2) 2 n.2).length : Int)) = cntL n.2 0) then K (AV.dat T.bool false) [] else LF kf 2 (St.mk [(8, AV.dat SL (gat (fun x => x.2.1) 1 n.2)), (9, AV.dat HL (gat (fun x => x.2.2) 2 n.2)), (10, AV.dat SL (gat (fun x => x.2.1) 1 n.2)), (11, AV.dat HL (gat (fun x => x.2.2) 2 n.2)), (12, AV.dat I64 0)] []) (endX Tryd.prog G7 lv7 Tryd.f7 0 (LF kf) K 2) else LF kf 2 (St.mk [(8, AV.dat SL (gat (fun x => x.2.1) 1 n.2)), (9, AV.dat HL (gat (fun x => x.2.2) 2 n.2)), (10, AV.dat SL (gat (fun x => x.2.1) 1 n.2)), (11, AV.dat HL (gat (fun x => x.2.2) 2 n.2)), (12, AV.dat I64 0)] []) (endX Tryd.prog G7 lv7 Tryd.f7 0 (LF kf) K 2)) = K (.dat .bool true) [] := by
      rw [ck_pos hl]
      cases hm : mayN n with
      | false => exact fin
      | true =>
        have hall : n.2.all mayL = true := by unfold mayN at hm; rw [Bool.and_eq_true] at hm; exact hm.1
        rw [wrapS (by omega), cntL_gat n.2 0 hall, decide_eq_true (by omega)]
        exact fin
    cases hb : (onlyV n).2 with
    | false =>
      rw [cond_false]
      simp only [ck_pos hl]
      simp only [decide_true, Bool.not_true, cond_false]
      exact (ck_pos hl).symm.trans tail
    | true =>
      have := only_fnd hb
      rw [this] at hf
      subst hf
      rw [cond_true, Bool.not_true, cond_false]
      simp only [ck_pos hl]
      simp only [decide_true, Bool.not_true, cond_false]
      exact (ck_pos hl).symm.trans tail
  | succ m ih =>
    intro i k f hn hk hf
    obtain ⟨k, rfl⟩ : ∃ q, k = q + 1 := ⟨k - 1, by omega⟩
    refine (look_s _ (LF kf) K n _ _ i _ f).trans ?_
    rw [dropL (show i < n.2.length by omega), fndL] at hf
    have e := ih (i + 1) k _ (by omega) (by omega) hf
    rw [show ((i + 1 : Nat) : Int) = (i : Int) + 1 by omega] at e
    rw [decide_eq_true (show (i : Int) < 16 by omega), cond_true, wrapS (by omega)]
    cases f with
    | true => exact e
    | false =>
      rw [cond_false, ck_pos (by omega), getL (j := i) rfl (by omega), Option.bind_some]
      simp only [ck_pos (show 0 ≤ (i : Int) ∧ (i : Int) < 16 by omega), Option.bind_some, eqB_lv]
      cases hd : decide ((n.2.getD i (0, 0, 0, 0)).1 = 0) <;> rw [hd] at e <;> exact e
theorem look_run {kf : Nat} (hkf : 40 ≤ kf) (K : KV Bool) (n : NV) (hl : n.2.length = 16) : (codeX Tryd.prog G7 lv7 kf Tryd.f7).run [.dat NT n] [] K = K (.dat .bool true) [] := by
  refine (look_0 _ K n).trans ?_
  have e := lkN hkf K n hl 16 0 kf false (by omega) (by omega) (by rw [List.drop_zero])
  simp only [ck_pos hl]
  simp only [decide_true, Bool.not_true, cond_false]
  have h1 : (!((onlyV n).2 == decide (cntL n.2 0 = 1))) = false := by rw [only_is]; simp
  have h1' : ((!(onlyV n).2) == decide (cntL n.2 0 = 1)) = false := by rw [only_is]; cases decide (cntL n.2 0 = 1) <;> rfl
  first | rw [h1, cond_false] | rw [h1', cond_false]
  cases hb : (onlyV n).2 with
  | true => rw [hb] at e; rw [Bool.not_true, cond_false]; exact e
  | false =>
    rw [Bool.not_false, cond_true, only_no hb]
    rw [hb, only_no hb] at e
    simp only [decide_true, Bool.and_true, Bool.not_true, cond_false]
    exact e
theorem NodeLooks_ok : SumOk Tryd.prog 7 (codeX Tryd.prog G7 lv7 40 Tryd.f7) := codeX_ok mixed noNG_prog (sums_call all7) (sums_prim all7) rfl lv7 40
theorem NodeLooks_law (n : NV) (hn : (Lit.int .i64 n.1).wf = true ∧ n.2.length = 16 ∧ ∀ x ∈ n.2, (Lit.int .i64 x.1).wf = true ∧ (Lit.int .i64 x.2.1).wf = true ∧ (Lit.int .i64 x.2.2.1).wf = true ∧ (Lit.int .u64 x.2.2.2).wf = true) : (codeX Tryd.prog G7 lv7 40 Tryd.f7).run [.dat NT n] [] isTrue = some true := look_run (Nat.le_refl 40) isTrue n hn.2.1
end Go.Mx
