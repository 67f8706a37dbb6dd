/- Own work. A part of the proof of a law of this seat: this seat's functions, by the machine, and the plain law -/
import Derived.Test.YtidhcbnplgbnoaaMe
import Derived.Test.YtidhcbnplgbnoaaWc
namespace Go.Mx
set_option linter.unusedVariables false
set_option linter.unusedSimpArgs false
open Go Go.RowKit Go.Sx Go.Proofs
set_option maxRecDepth 100000
set_option maxHeartbeats 4000000
def ST0 (reserve : Int) (g : Bool) (i : Int) (key : List Int) (h : Int × Int) (xs : List SV) : St := ⟨[(1, .dat I64 reserve), (3, .ptr 0 []), (5, .ptr 1 []), (7, .ptr 2 []), (9, .dat .bool g), (10, .dat I64 i)], [.box 22 (.dat BL key) true, .box 25 (.dat HT h) true, boxB, .row 89 ST xs .own]⟩
theorem stop_run {R : Type} (L L0 : Nat → St → (Exit → St → Option R) → Option R) (K : KV R) (key : List Int) (reserve : Int) (h : Int × Int) (xs : List SV) (g : Bool) (i : Int) (hi : ¬ i < (key.length : Int)) (hA : (0 : Int) = (0 : Int) ∧ xs ≠ [] ∧ List.length key < (100000 : Nat)) (hB : (0 : Int) = (0 : Int) ∧ xs ≠ [] ∧ ∀ (s : T.den (T.pair (T.int IntKind.i64) (T.arr (16 : Nat) (T.pair (T.int IntKind.i64) (T.pair (T.int IntKind.i64) (T.pair (T.int IntKind.i64) (T.int IntKind.u64)))))) × T.den (T.pair (T.int IntKind.u64) T.bool)), s ∈ xs → Prod.snd (Prod.snd s) = false) (hm : mayE key reserve = bif g then 0 else 2) :
    stepX Try.prog G3 lv3 0 (codeOf Try.f3) L 0 (ST0 reserve g i key h xs) (endX Try.prog G3 lv3 Try.f3 0 L0 K 0) = K (.dat .bool true) [] := by
  refine (law_s L L0 K key reserve h xs g i).trans ?_
  rw [decide_eq_false hi, cond_false, hm]
  cases g
  · simp only [↓ck_pos hA, ↓ck_pos hB, cond_true, cond_false]; rfl
  · simp only [↓ck_pos hA, ↓ck_pos hB, cond_true, cond_false]; rfl
def gEnd : Bool → List Int → Bool
  | g, [] => g
  | g, x :: r => gEnd (bif g then decide (x < 16) else false) r
theorem gEnd_eq : ∀ (b : List Int) (g : Bool), gEnd g b = (g && !bigV b)
  | [], g => by cases g <;> rfl
  | x :: r, g => by
    rw [gEnd, gEnd_eq r]
    unfold bigV
    rw [List.any_cons]
    by_cases h : 15 < x
    · rw [decide_eq_true h, decide_eq_false (show ¬ x < 16 by omega)]; cases g <;> rfl
    · rw [decide_eq_false h, decide_eq_true (show x < 16 by omega)]; cases g <;> simp
theorem law_loop {R : Type} (L0 : Nat → St → (Exit → St → Option R) → Option R) (K : KV R) (key : List Int) (reserve : Int) (h : Int × Int) (xs : List SV) (hk : key.length < 100000) (hx : xs ≠ []) (hs : ∀ s ∈ xs, s.2.2 = false) : ∀ (n i k : Nat) (g : Bool), i + n = key.length → n < k → gEnd g (key.drop i) = goodV key reserve →
    LX Try.prog G3 lv3 0 (codeOf Try.f3) k 0 (ST0 reserve g i key h xs) (endX Try.prog G3 lv3 Try.f3 0 L0 K 0) = K (.dat .bool true) [] := by
  intro n
  induction n with
  | zero =>
    intro i k g hn hkk hg
    obtain ⟨k, rfl⟩ : ∃ q, k = q + 1 := ⟨k - 1, by omega⟩
    rw [List.drop_of_length_le (by omega), gEnd] at hg
    refine stop_run _ L0 K key reserve h xs g i (by omega) ⟨rfl, hx, hk⟩ ⟨rfl, hx, hs⟩ ?_
    unfold mayE; rw [hg]
  | succ n ih =>
    intro i k g hn hkk hg
    obtain ⟨k, rfl⟩ : ∃ q, k = q + 1 := ⟨k - 1, by omega⟩
    refine (law_s _ L0 K key reserve h xs g i).trans ?_
    rw [drop_at (show i < key.length by omega), gEnd] at hg
    rw [show decide ((i : Int) < (key.length : Int)) = true from decide_eq_true (by omega), cond_true]
    have e := fun g' hh => ih (i + 1) k g' (by omega) (by omega) hh
    rw [show ((i + 1 : Nat) : Int) = (i : Int) + 1 by omega] at e
    cases g
    · rw [cond_false, wrapS (by omega)]
      exact e false hg
    · rw [cond_true, ck_pos (by omega), getq (j := i) rfl (by omega), Option.bind_some, wrapS (by omega)]
      exact e _ hg
theorem EditWrong_ok : SumOk Try.prog 3 (codeX Try.prog G3 lv3 100001 Try.f3) := codeX_ok mixed noNG_prog (sums_call all3) (sums_prim all3) rfl lv3 100001
theorem law_run {R : Type} (K : KV R) (key : List Int) (reserve : Int) (h : Int × Int) :
    runX Try.prog G3 lv3 Try.f3 0 (LX Try.prog G3 lv3 0 (codeOf Try.f3) 100001) [.dat BL key, .dat I64 reserve, .dat HT h] [] K = K (.dat .bool true) [] := by
  refine (law_0 _ K key reserve h).trans ?_
  by_cases h0 : (300 : Int) < (key.length : Int)
  · rw [decide_eq_true h0]; rfl
  rw [decide_eq_false h0, cond_false]
  have hk : key.length < 100000 := by omega
  have go := fun g hg => law_loop (LX Try.prog G3 lv3 0 (codeOf Try.f3) 100001) K key reserve h [(zeroN, 1, false), (zeroN, 1, false), (zeroN, 1, false), (zeroN, 1, false)] hk (by simp) (by simp) key.length 0 100001 g (by omega) (by omega) hg
  rw [List.drop_zero] at go
  unfold goodV at go
  by_cases h1 : (1 : Int) ≤ (key.length : Int)
  · rw [decide_eq_true h1, cond_true]
    rw [decide_eq_true (show 1 ≤ key.length by omega), Bool.true_and] at go
    by_cases h2 : (key.length : Int) ≤ 71
    · rw [decide_eq_true h2, cond_true]
      rw [decide_eq_true (show key.length ≤ 71 by omega), Bool.true_and] at go
      exact go _ (gEnd_eq _ _)
    · rw [decide_eq_false h2, cond_false]
      rw [decide_eq_false (show ¬ key.length ≤ 71 by omega), Bool.false_and] at go
      exact go false ((gEnd_eq _ _).trans rfl)
  · rw [decide_eq_false h1, cond_false]
    rw [decide_eq_false (show ¬ 1 ≤ key.length by omega), Bool.false_and] at go
    exact go false ((gEnd_eq _ _).trans rfl)
theorem EditWrong_law (key : List Int) (_ : key.length ≤ 140737488351232 ∧ ∀ x ∈ key, (Lit.int .u8 x).wf = true) (reserve : Int) (_ : (Lit.int .i64 reserve).wf = true) (h : Int × Int) (_ : (Lit.int .i64 h.1).wf = true ∧ (Lit.int .u64 h.2).wf = true) : (codeX Try.prog G3 lv3 100001 Try.f3).run [.dat BL key, .dat I64 reserve, .dat HT h] [] isTrue = some true :=
  law_run isTrue key reserve h
end Go.Mx
