/- Own work. A part of the proof of a law of this seat: this seat's functions, by the machine, and the plain law -/
import Derived.Test.YtfbgglpfakadhaaDoorWq
import Derived.Test.YtfbgglpfakadhaaDoorWn
/- SeenStill and SeenNotes: the laws hold. -/
namespace Go.Mx
open Go Go.RowKit Go.Sx Go.Proofs
set_option linter.unusedVariables false
set_option linter.unusedSimpArgs false
set_option maxRecDepth 100000
theorem key_eq {A : Type} (E : Bool) (x y : A) : cond ((true && E) == E) x y = x := by cases E <;> rfl
theorem key_not {A : Type} (E : Bool) (x y : A) : cond ((!E && true) == !E) x y = x := by cases E <;> rfl
theorem still_run {R : Type} (K : KV R) (l now : List SV) (hl : ∀ x ∈ l, 0 ≤ x.2.2.2.2.2.1) : (codeX Tryd.prog G4 lvN 0 Tryd.f5).run [.dat (.sl ST) l, .dat (.sl ST) now] [] K = K (.dat .bool true) [] := by
  refine (still_00 K l now).trans ?_
  by_cases h1 : (100 : Int) < (l.length : Int)
  · rw [decide_eq_true h1, cond_true]
  by_cases h2 : (100 : Int) < (now.length : Int)
  · rw [decide_eq_false h1, decide_eq_true h2, cond_true, cond_false]
  rw [decide_eq_false h1, decide_eq_false h2, cond_false, cond_false]
  refine (ck_pos ⟨by omega, hl⟩).trans ?_
  have hn := noted_len l ([], false)
  have hn : (notedM l).1.length ≤ 0 + l.length := hn
  generalize notedM l = s at hn
  obtain ⟨xs, b⟩ := s
  have hn : xs.length ≤ 0 + l.length := hn
  cases xs with
  | nil =>
    cases b with
    | true => exact Eq.trans (b := ck ((true : Bool) = true) _) rfl (ck_pos rfl)
    | false =>
      refine Eq.trans (b := cond ((true && eqM [] now) == eqM [] now) _ _) rfl ?_
      exact (key_eq _ _ _).trans (ck_pos rfl)
  | cons z zs =>
    have hz : (z :: zs).length ≤ 1000 := by omega
    have hm : eqM (z :: zs) (z :: zs) = true := by unfold eqM; rw [decide_eq_true rfl, cond_true, sameL_refl]
    refine (ck_pos hz).trans ?_
    cases b with
    | true =>
      refine (ck_pos hz).trans ((ck_pos hz).trans ?_)
      exact ck_pos ⟨hz, rfl, rfl, rfl⟩
    | false =>
      refine (ck_pos hz).trans ?_
      refine Eq.trans (b := cond ((true && eqM (z :: zs) now) == eqM (z :: zs) now) _ _) rfl ?_
      refine (key_eq _ _ _).trans ((ck_pos hz).trans ((ck_pos hz).trans ?_))
      rw [hm]
      exact ck_pos ⟨hz, rfl, rfl, rfl⟩
theorem notes_loop {R : Type} (L0 : Nat → St → (Exit → St → Option R) → Option R) (K : KV R) (l : List SV) (x : SV) (hl : ∀ x ∈ l, 0 ≤ x.2.2.2.2.2.1) (hx : 0 ≤ x.2.2.2.2.2.1) (h1 : l.length ≤ 100) : ∀ (j k i : Nat), i + j = l.length + 1 → j < k →
    LX Tryd.prog G4 lv4 0 (codeOf Tryd.f4) k 0 ⟨[(0, .dat (.sl ST) l), (3, .ptr 0 []), (5, .dat I64 (i : Int))], [.box 36 (.dat ST x) true]⟩ (endX Tryd.prog G4 lv4 Tryd.f4 0 L0 K 0) = K (.dat .bool true) [] := by
  intro j
  induction j with
  | zero =>
    intro k i hi hk
    obtain ⟨k, rfl⟩ : ∃ q, k = q + 1 := ⟨k - 1, by omega⟩
    refine (notes_s _ L0 K l x i).trans ?_
    rw [show decide ((i : Int) ≤ (l.length : Nat)) = false from decide_eq_false (by omega), cond_false, may_eq x hx]
    cases rmayB x <;> rfl
  | succ j ih =>
    intro k i hi hk
    obtain ⟨k, rfl⟩ : ∃ q, k = q + 1 := ⟨k - 1, by omega⟩
    refine (notes_s _ L0 K l x i).trans ?_
    have e := ih k (i + 1) (by omega) (by omega)
    rw [show ((i + 1 : Nat) : Int) = (i : Int) + 1 by omega] at e
    rw [show decide ((i : Int) ≤ (l.length : Nat)) = true from decide_eq_true (by omega), cond_true, wrapS (x := (i : Int) + 1) (by omega)]
    refine (ck_pos ⟨by omega, by omega⟩).trans ?_
    have hsub : ∀ y ∈ cutA none (some (i : Int)) l, y ∈ l := by
      intro y hy
      unfold cutA at hy
      exact List.mem_of_mem_take (i := i) (by simpa using hy)
    have hlen : (cutA none (some (i : Int)) l).length ≤ 100 := by unfold cutA; simp; omega
    generalize cutA none (some (i : Int)) l = c at hsub hlen
    refine (ck_pos ⟨by omega, fun y hy => hl y (hsub y hy)⟩).trans ?_
    have hn := noted_len c ([], false)
    have hn : (notedM c).1.length ≤ 0 + c.length := hn
    generalize notedM c = s at hn
    obtain ⟨xs, b⟩ := s
    have hn : xs.length ≤ 0 + c.length := hn
    cases xs with
    | nil => exact (ck_pos rfl).trans e
    | cons z zs =>
      have hz : (z :: zs).length ≤ 1000 := by omega
      refine (ck_pos ⟨hz, rfl, rfl, rfl⟩).trans ((ck_pos ⟨hz, rfl⟩).trans ?_)
      by_cases hf : findV x 0 (z :: zs) < 0
      · rw [decide_eq_true hf, cond_true, ck_pos hz, decide_eq_false (show ¬ (0 : Int) ≤ findV x 0 (z :: zs) by omega)]
        exact e
      · obtain ⟨g1, g2, g3⟩ := find_at x (z :: zs) hf
        rw [decide_eq_false hf, cond_false, ck_pos hz, decide_eq_true g1]
        refine Eq.trans (b := ck _ _) rfl ((ck_pos ⟨g1, g2⟩).trans ?_)
        rw [g3]
        refine Eq.trans (b := cond (!eqS _ _) _ _) rfl ?_
        rw [eqS_refl]
        exact e
end Go.Mx
