/- Own work. A part of the proof of a law of this seat: this seat's functions, by the machine, and the plain law -/
import Derived.Test.YtfbgglpfakadhaaDoorWl
/- SeenBreaks: the law. -/
namespace Go.Mx
open Go Go.RowKit Go.Sx Go.Proofs
set_option linter.unusedVariables false
set_option linter.unusedSimpArgs false
set_option maxRecDepth 100000
def ob1 : List SV → Bool → List AO
  | [], b => [.box 54 (.pr .nils (.pr .nilm (.dat .bool b))) true]
  | z :: zs, b => [.box 54 (.pr (.view 1) (.pr (.mp 2) (.dat .bool b))) true, .row 36 ST (z :: zs) .own, .map ThT I64 (ats 0 (z :: zs)) true]
theorem eqS_refl (x : SV) : eqS x x = true := by simp [eqS]
theorem sameL_refl : ∀ l : List SV, sameL l l = true
  | [] => rfl
  | x :: r => by rw [sameL, eqS_refl, cond_true, sameL_refl r]
theorem cut_was (was r : List SV) : cutA none (some ((was.length : Nat) : Int)) (was ++ r) = was := by
  simp [cutA]
theorem step_pre (xs : List SV) (b : Bool) (x : SV) : ∃ r, (stepM (xs, b) x).1 = xs ++ r := by
  unfold stepM
  cases mayB x with
  | false => exact ⟨[], by simp⟩
  | true =>
    rw [cond_true]
    cases decide (findV x 0 (xs, b).1 < 0) with
    | true => exact ⟨[x], rfl⟩
    | false => exact ⟨[], by simp⟩
theorem breaks_loop {R : Type} (L0 : Nat → St → (Exit → St → Option R) → Option R) (K : KV R) (more was : List SV) (hm : more.length ≤ 60) : ∀ (j k i : Nat) (xs : List SV) (b : Bool), i + j = more.length → j < k → xs.length ≤ 900 + i → (∃ r, xs = was ++ r) →
    LX Tryd.prog G3 lv3 0 (codeOf Tryd.f3) k 0 ⟨[(1, .dat (.sl ST) more), (5, .ptr 0 []), (8, .dat .bool b), (9, .dat (.sl ST) was), (10, .dat I64 (i : Int))], ob1 xs b⟩ (endX Tryd.prog G3 lv3 Tryd.f3 0 L0 K 0) = K (.dat .bool true) [] := by
  intro j
  induction j with
  | zero =>
    intro k i xs b hi hk hx hw
    obtain ⟨k, rfl⟩ : ∃ q, k = q + 1 := ⟨k - 1, by omega⟩
    obtain ⟨r, hr⟩ := hw
    have hc : cutA none (some ((was.length : Nat) : Int)) xs = was := by rw [hr]; exact cut_was was r
    have hlen : was.length ≤ xs.length := by rw [hr, List.length_append]; omega
    cases xs with
    | nil =>
      refine (breaks_e _ L0 K more was b b i).trans ?_
      have h0 : was.length = 0 := by have : ([] : List SV).length = 0 := rfl; omega
      rw [show decide ((i : Int) < (more.length : Nat)) = false from decide_eq_false (by omega), cond_false, hc, decide_eq_true (show ((was.length : Nat) : Int) ≤ 0 by omega), cond_true, ck_pos (by omega), ck_pos (by omega), decide_eq_true rfl, cond_true, sameL_refl, cond_true]
    | cons z zs =>
      refine (breaks_n _ L0 K more was b b i z zs).trans ?_
      rw [show decide ((i : Int) < (more.length : Nat)) = false from decide_eq_false (by omega), cond_false, hc, decide_eq_true (show ((was.length : Nat) : Int) ≤ (((z :: zs).length : Nat) : Int) by omega), cond_true, ck_pos (by omega), ck_pos (by omega), ck_pos (by omega), decide_eq_true rfl, cond_true, sameL_refl, cond_true]
  | succ j ih =>
    intro k i xs b hi hk hx hw
    obtain ⟨k, rfl⟩ : ∃ q, k = q + 1 := ⟨k - 1, by omega⟩
    have hi' : i < more.length := by omega
    obtain ⟨r, hr⟩ := hw
    obtain ⟨r2, hr2⟩ := step_pre xs b more[i]
    have e := ih k (i + 1) (stepM (xs, b) more[i]).1 (stepM (xs, b) more[i]).2 (by omega) (by omega) (by have := stepM_len (xs, b) more[i]; have : (xs, b).1.length = xs.length := rfl; omega) ⟨r ++ r2, by rw [hr2, hr, List.append_assoc]⟩
    rw [show ((i + 1 : Nat) : Int) = (i : Int) + 1 by omega] at e
    refine Eq.trans ?_ e
    clear e
    cases xs with
    | nil =>
      refine (breaks_e _ L0 K more was b b i).trans ?_
      rw [show decide ((i : Int) < (more.length : Nat)) = true from decide_eq_true (by omega), cond_true, Int.toNat_natCast, List.getElem?_eq_getElem hi', wrapS (x := (i : Int) + 1) (by omega)]
      simp only [Option.bind_some, ck_pos (show (0 : Int) ≤ (i : Int) by omega)]
      unfold stepM
      cases b <;> cases mayB more[i] <;> rfl
    | cons z zs =>
      refine (breaks_n _ L0 K more was b b i z zs).trans ?_
      have h1 : (z :: zs).length ≤ 1000 := by omega
      rw [show decide ((i : Int) < (more.length : Nat)) = true from decide_eq_true (by omega), cond_true, Int.toNat_natCast, List.getElem?_eq_getElem hi', wrapS (x := (i : Int) + 1) (by omega)]
      simp only [Option.bind_some, ck_pos (show (0 : Int) ≤ (i : Int) by omega), ck_pos (show (z :: zs).length ≤ 1000 ∧ True from ⟨h1, trivial⟩)]
      unfold stepM
      cases mayB more[i] with
      | false => cases b <;> rfl
      | true =>
        cases hd : decide (findV more[i] 0 (z :: zs) < 0) with
        | true => simp only [hd, cond_true]; cases b <;> rfl
        | false => simp only [hd, cond_true, cond_false]; cases b with
          | true => rfl
          | false => rfl
end Go.Mx
