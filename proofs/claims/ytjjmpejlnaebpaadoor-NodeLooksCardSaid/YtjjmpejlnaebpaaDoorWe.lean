/- Own work. A part of the proof of a law of this seat: this seat's functions, by the machine, and the plain law -/
import Derived.Test.YtjjmpejlnaebpaaDoorMe
import Derived.Test.YtjjmpejlnaebpaaDoorWd
namespace Go.Mx
set_option linter.unusedVariables false
open Go Go.RowKit Go.Sx Go.Proofs
set_option maxRecDepth 100000
theorem getL {b : List LV} {i : Int} {j : Nat} (h : i = j) (hj : j < b.length) : b[i.toNat]? = some (b.getD j (0, 0, 0, 0)) := by
  subst h
  rw [Int.toNat_natCast, List.getElem?_eq_getElem hj, List.getD_eq_getElem?_getD, List.getElem?_eq_getElem hj]; rfl
theorem dropL {l : List LV} {i : Nat} (h : i < l.length) : l.drop i = l.getD i (0, 0, 0, 0) :: l.drop (i + 1) := by
  rw [List.drop_eq_getElem_cons h, List.getD_eq_getElem?_getD, List.getElem?_eq_getElem h]
  rfl
theorem cnt_loop {R : Type} (L0 : Nat → St → (Exit → St → Option R) → Option R) (K : KV R) (ks : List LV) (hl : ks.length = 16) : ∀ (n i k m : Nat), i + n = 16 → n < k → m ≤ i →
    LX Tryd.prog (sums all []) lv24 0 (codeOf Tryd.f24) k 0 ⟨[(2, .dat I64 (m : Int)), (6, .dat AT ks), (7, .dat I64 (i : Int))], []⟩ (endX Tryd.prog (sums all []) lv24 Tryd.f24 0 L0 K 0) = K (.dat I64 (cntL (ks.drop i) m)) [] := by
  intro n
  induction n with
  | zero =>
    intro i k m hn hk hm
    obtain ⟨k, rfl⟩ : ∃ q, k = q + 1 := ⟨k - 1, by omega⟩
    refine (cnt_s _ L0 K ks m i).trans ?_
    rw [decide_eq_false (show ¬ (i : Int) < 16 by omega), cond_false, List.drop_of_length_le (by omega), cntL]
  | succ n ih =>
    intro i k m hn hk hm
    obtain ⟨k, rfl⟩ : ∃ q, k = q + 1 := ⟨k - 1, by omega⟩
    refine (cnt_s _ L0 K ks m i).trans ?_
    rw [decide_eq_true (show (i : Int) < 16 by omega), cond_true, ck_pos (by omega), getL (j := i) rfl (by omega), Option.bind_some, dropL (show i < ks.length by omega), cntL]
    have e := fun m' hm' => ih (i + 1) k m' (by omega) (by omega) hm'
    rw [show ((i + 1 : Nat) : Int) = (i : Int) + 1 by omega] at e
    by_cases h : (ks.getD i (0, 0, 0, 0)).1 = 0
    · rw [decide_eq_true h, cond_true, Bool.not_true, cond_false, wrapS (by omega)]
      exact e m (by omega)
    · rw [decide_eq_false h, cond_false, Bool.not_false, cond_true, wrapS (by omega), wrapS (by omega)]
      exact e (m + 1) (by omega)
theorem rcnt_loop {R : Type} (L0 : Nat → St → (Exit → St → Option R) → Option R) (K : KV R) (nd : NV) (hl : nd.2.length = 16) : ∀ (n i k m : Nat), i + n = 16 → n < k → m ≤ i →
    LX Tryd.prog (sums all []) lv22 0 (codeOf Tryd.f22) k 0 ⟨[(1, .ptr 0 []), (3, .dat I64 (m : Int)), (4, .dat I64 (i : Int))], [.box 31 (.dat NT nd) true]⟩ (endX Tryd.prog (sums all []) lv22 Tryd.f22 0 L0 K 0) = K (.dat I64 (cntL (nd.2.drop i) m)) [] := by
  intro n
  induction n with
  | zero =>
    intro i k m hn hk hm
    obtain ⟨k, rfl⟩ : ∃ q, k = q + 1 := ⟨k - 1, by omega⟩
    refine (rcnt_s _ L0 K nd m i).trans ?_
    rw [decide_eq_false (show ¬ (i : Int) < 16 by omega), cond_false, List.drop_of_length_le (by omega), cntL]
  | succ n ih =>
    intro i k m hn hk hm
    obtain ⟨k, rfl⟩ : ∃ q, k = q + 1 := ⟨k - 1, by omega⟩
    refine (rcnt_s _ L0 K nd m i).trans ?_
    rw [decide_eq_true (show (i : Int) < 16 by omega), cond_true, ck_pos (by omega), getL (j := i) rfl (by omega), Option.bind_some, dropL (show i < nd.2.length by omega), cntL]
    have e := fun m' hm' => ih (i + 1) k m' (by omega) (by omega) hm'
    rw [show ((i + 1 : Nat) : Int) = (i : Int) + 1 by omega] at e
    by_cases h : (nd.2.getD i (0, 0, 0, 0)).1 = 0
    · rw [decide_eq_true h, cond_true, Bool.not_true, cond_false, wrapS (by omega)]
      exact e m (by omega)
    · rw [decide_eq_false h, cond_false, Bool.not_false, cond_true, wrapS (by omega), wrapS (by omega)]
      exact e (m + 1) (by omega)
theorem F24_ok : SumOk Tryd.prog 24 F24 := by
  refine (codeX_ok (k := 17) (lv := lv24) mixed noNG_prog (sums_call (Wr := all) (l := []) trivial) (sums_prim trivial) (fn := Tryd.f24) rfl).le (fun f args ob K => by unfold F24; dsimp only; split <;> simp only [bd_none, bd_ck]) ?_
  intro R args ob K r h
  unfold F24 at h; dsimp only at h
  split at h
  · rename_i n
    obtain ⟨hl, h2⟩ := ck_elim h
    exact ((cnt_0 _ K n).trans (cnt_loop _ K n.2 hl 16 0 17 0 (by omega) (by omega) (by omega))).trans h2
  · cases h
theorem F22_ok : SumOk Tryd.prog 22 F24 := by
  refine (codeX_ok (k := 17) (lv := lv22) mixed noNG_prog (sums_call (Wr := all) (l := []) trivial) (sums_prim trivial) (fn := Tryd.f22) rfl).le (fun f args ob K => by unfold F24; dsimp only; split <;> simp only [bd_none, bd_ck]) ?_
  intro R args ob K r h
  unfold F24 at h; dsimp only at h
  split at h
  · rename_i n
    obtain ⟨hl, h2⟩ := ck_elim h
    exact ((rcnt_0 _ K n).trans (rcnt_loop _ K n hl 16 0 17 0 (by omega) (by omega) (by omega))).trans h2
  · cases h
theorem may_loop {R : Type} (L0 : Nat → St → (Exit → St → Option R) → Option R) (K : KV R) (nd : NV) (hl : nd.2.length = 16) : ∀ (n i k : Nat), i + n = 16 → n < k →
    LX Tryd.prog H12 lv12 0 (codeOf Tryd.f12) k 0 ⟨[(1, .ptr 0 []), (6, .dat AT nd.2), (7, .dat I64 (i : Int))], [.box 31 (.dat NT nd) true]⟩ (endX Tryd.prog H12 lv12 Tryd.f12 0 L0 K 0) = K (.dat .bool ((nd.2.drop i).all mayL && (decide (0 ≤ nd.1) && (decide (nd.1 < 71) && decide (2 ≤ cntL nd.2 0))))) [] := by
  intro n
  induction n with
  | zero =>
    intro i k hn hk
    obtain ⟨k, rfl⟩ : ∃ q, k = q + 1 := ⟨k - 1, by omega⟩
    refine (may_s _ L0 K nd nd.2 i).trans ?_
    rw [decide_eq_false (show ¬ (i : Int) < 16 by omega), cond_false, List.drop_of_length_le (by omega), List.all_nil, Bool.true_and, ck_pos hl]
    cases decide (0 ≤ nd.1) <;> cases decide (nd.1 < 71) <;> rfl
  | succ n ih =>
    intro i k hn hk
    obtain ⟨k, rfl⟩ : ∃ q, k = q + 1 := ⟨k - 1, by omega⟩
    refine (may_s _ L0 K nd nd.2 i).trans ?_
    rw [decide_eq_true (show (i : Int) < 16 by omega), cond_true, ck_pos (by omega), getL (j := i) rfl (by omega), Option.bind_some, dropL (show i < nd.2.length by omega), List.all_cons]
    have e := ih (i + 1) k (by omega) (by omega)
    rw [show ((i + 1 : Nat) : Int) = (i : Int) + 1 by omega] at e
    cases mayL (nd.2.getD i (0, 0, 0, 0))
    · rfl
    · rw [Bool.not_true, cond_false, wrapS (by omega), Bool.true_and]
      exact e
theorem rmay_loop {R : Type} (L0 : Nat → St → (Exit → St → Option R) → Option R) (K : KV R) (nd : NV) (hl : nd.2.length = 16) : ∀ (n i k : Nat), i + n = 16 → n < k →
    LX Tryd.prog H13 lv13 0 (codeOf Tryd.f13) k 0 ⟨[(1, .ptr 0 []), (3, .dat I64 (i : Int))], [.box 31 (.dat NT nd) true]⟩ (endX Tryd.prog H13 lv13 Tryd.f13 0 L0 K 0) = K (.dat .bool ((nd.2.drop i).all mayL && (decide (0 ≤ nd.1) && (decide (nd.1 < 71) && decide (2 ≤ cntL nd.2 0))))) [] := by
  intro n
  induction n with
  | zero =>
    intro i k hn hk
    obtain ⟨k, rfl⟩ : ∃ q, k = q + 1 := ⟨k - 1, by omega⟩
    refine (rmay_s _ L0 K nd i).trans ?_
    rw [decide_eq_false (show ¬ (i : Int) < 16 by omega), cond_false, List.drop_of_length_le (by omega), List.all_nil, Bool.true_and, ck_pos hl, show decide (nd.1 ≤ 70) = decide (nd.1 < 71) from Bool.eq_iff_iff.2 (by simp only [decide_eq_true_iff]; omega)]
    cases decide (0 ≤ nd.1) <;> cases decide (nd.1 < 71) <;> rfl
  | succ n ih =>
    intro i k hn hk
    obtain ⟨k, rfl⟩ : ∃ q, k = q + 1 := ⟨k - 1, by omega⟩
    refine (rmay_s _ L0 K nd i).trans ?_
    rw [decide_eq_true (show (i : Int) < 16 by omega), cond_true, ck_pos (by omega), getL (j := i) rfl (by omega), Option.bind_some, dropL (show i < nd.2.length by omega), List.all_cons]
    have e := ih (i + 1) k (by omega) (by omega)
    rw [show ((i + 1 : Nat) : Int) = (i : Int) + 1 by omega] at e
    cases mayL (nd.2.getD i (0, 0, 0, 0))
    · rfl
    · rw [Bool.not_true, cond_false, wrapS (by omega), Bool.true_and]
      exact e
theorem allH12 : AllOk Tryd.prog [(10, F10), (24, F24)] := ⟨F10_ok, F24_ok, trivial⟩
theorem allH13 : AllOk Tryd.prog [(11, F10), (22, F24)] := ⟨F11_ok, F22_ok, trivial⟩
theorem F12_ok : SumOk Tryd.prog 12 F12 := by
  refine (codeX_ok (k := 17) (lv := lv12) mixed noNG_prog (sums_call (Wr := all) allH12) (sums_prim allH12) (fn := Tryd.f12) rfl).le (fun f args ob K => by unfold F12; dsimp only; split <;> simp only [bd_none, bd_ck]) ?_
  intro R args ob K r h
  unfold F12 at h; dsimp only at h
  split at h
  · rename_i n
    obtain ⟨hl, h2⟩ := ck_elim h
    exact ((may_0 _ K n).trans (may_loop _ K n hl 16 0 17 (by omega) (by omega))).trans h2
  · cases h
theorem F13_ok : SumOk Tryd.prog 13 F12 := by
  refine (codeX_ok (k := 17) (lv := lv13) mixed noNG_prog (sums_call (Wr := all) allH13) (sums_prim allH13) (fn := Tryd.f13) rfl).le (fun f args ob K => by unfold F12; dsimp only; split <;> simp only [bd_none, bd_ck]) ?_
  intro R args ob K r h
  unfold F12 at h; dsimp only at h
  split at h
  · rename_i n
    obtain ⟨hl, h2⟩ := ck_elim h
    exact ((rmay_0 _ K n).trans (rmay_loop _ K n hl 16 0 17 (by omega) (by omega))).trans h2
  · cases h
theorem C14_ok : SumOk Tryd.prog 14 C14 := codeX_ok mixed noNG_prog (sums_call (Wr := all) (l := []) trivial) (sums_prim trivial) rfl lvN 0
theorem C15_ok : SumOk Tryd.prog 15 C15 := codeX_ok mixed noNG_prog (sums_call (Wr := all) (l := []) trivial) (sums_prim trivial) rfl lvN 0
theorem allH3 : AllOk Tryd.prog [(10, F10), (11, F10), (12, F12), (13, F12), (14, C14), (15, C15), (16, F16)] := ⟨F10_ok, F11_ok, F12_ok, F13_ok, C14_ok, C15_ok, F16_ok, trivial⟩
theorem law3_run {R : Type} (K : KV R) (l : LV) (n : NV) (s : Int) (h : Int × Int) (hl : n.2.length = 16) : (codeX Tryd.prog H3 lvN 0 Tryd.f3).run [.dat LT l, .dat NT n, .dat I64 s, .dat HT h] [] K = K (.dat .bool true) [] := by
  refine (law3_0 K l n s h).trans ?_
  rw [beq_self_eq_true, beq_self_eq_true, ck_pos hl, ck_pos hl, decide_eq_true (Eq.refl s), decide_eq_true (Eq.refl h.1), decide_eq_true (Eq.refl h.2)]
  rfl
theorem NodeMay_ok : SumOk Tryd.prog 3 (codeX Tryd.prog H3 lvN 0 Tryd.f3) := codeX_ok mixed noNG_prog (sums_call allH3) (sums_prim allH3) rfl lvN 0
end Go.Mx
