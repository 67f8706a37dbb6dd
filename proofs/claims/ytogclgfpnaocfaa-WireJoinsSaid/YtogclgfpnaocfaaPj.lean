/- Own work. A part of the proof of a law of this seat: The plain law: no program in sight. -/
import Derived.Test.YtogclgfpnaocfaaPw
/- The plain law of WireJoins. -/
open Go Go.RowKit Go.Sx
namespace Go.Proofs.Ytogclgfpnaocfaa
theorem joins_l3 (a : List (List Int)) : ∀ (n i k4 : Nat), a.length - i = n → i ≤ a.length → a.length ≤ 1000 → n < k4 → warderlaw01_WireJoins_l3 100000 a k4 a i = some true := by
  intro n
  induction n with
  | zero =>
    intro i k4 hn hi hl hk
    obtain ⟨k4, rfl⟩ : ∃ q, k4 = q + 1 := ⟨k4 - 1, by omega⟩
    unfold warderlaw01_WireJoins_l3
    rw [if_neg (by omega), known_true]
    rfl
  | succ n ih =>
    intro i k4 hn hi hl hk
    obtain ⟨k4, rfl⟩ : ∃ q, k4 = q + 1 := ⟨k4 - 1, by omega⟩
    unfold warderlaw01_WireJoins_l3
    rw [if_pos (by omega)]
    refine (ck_pos (by omega)).trans ?_
    refine (ck_pos (by omega)).trans ?_
    rw [if_pos rfl, wrapS (by omega)]
    have := ih (i + 1) k4 (by omega) (by omega) hl (by omega)
    simpa using this
theorem joins_l2 (a : List (List Int)) (hl : a.length ≤ 1000) : ∀ (n : Nat) (x : List Int) (i k3 : Nat), x.length ≤ 1000000 → x.length - i = n → i ≤ x.length → n < k3 → warderlaw01_WireJoins_l2 100000 a k3 a x i = some true := by
  intro n
  induction n with
  | zero =>
    intro x i k3 hx hn hi hk
    obtain ⟨k3, rfl⟩ : ∃ q, k3 = q + 1 := ⟨k3 - 1, by omega⟩
    unfold warderlaw01_WireJoins_l2
    rw [if_neg (by omega)]
    exact joins_l3 a _ 0 100000 rfl (by omega) hl (by omega)
  | succ n ih =>
    intro x i k3 hx hn hi hk
    obtain ⟨k3, rfl⟩ : ∃ q, k3 = q + 1 := ⟨k3 - 1, by omega⟩
    unfold warderlaw01_WireJoins_l2
    rw [if_pos (by omega)]
    refine (ck_pos (by omega)).trans ?_
    refine (ck_pos (by omega)).trans ?_
    rw [wrapS (by omega)]
    have := ih (x.set (i : Int).toNat (IntKind.u8.wrap (x.getD (i : Int).toNat 0 + 1))) (i + 1) k3 (by rw [List.length_set]; exact hx) (by rw [List.length_set]; omega) (by rw [List.length_set]; omega) (by omega)
    simpa using this
theorem take_succ_getD' {xs : List (List Int)} {i : Nat} (h : i < xs.length) : xs.take (i + 1) = xs.take i ++ [xs.getD i []] := by
  rw [List.take_succ_eq_append_getElem h, List.getD_eq_getElem?_getD, List.getElem?_eq_getElem h]
  rfl
theorem joins_l1 (a : List (List Int)) (hl : a.length ≤ 101) (hf : a.flatten.length ≤ 20000) : ∀ (n i k2 : Nat), a.length - i = n → i ≤ a.length → n < k2 → warderlaw01_WireJoins_l1 100000 a k2 (a.take i) (a.take i).flatten i = some true := by
  intro n
  induction n with
  | zero =>
    intro i k2 hn hi hk
    obtain ⟨k2, rfl⟩ : ∃ q, k2 = q + 1 := ⟨k2 - 1, by omega⟩
    have : i = a.length := by omega
    subst this
    unfold warderlaw01_WireJoins_l1
    rw [if_neg (by omega), List.take_length, join_ok 100000 a (by omega) (by omega) (by omega), Option.bind_some, if_pos rfl]
    exact joins_l2 a (by omega) _ a.flatten 0 100000 (by omega) rfl (by omega) (by omega)
  | succ n ih =>
    intro i k2 hn hi hk
    obtain ⟨k2, rfl⟩ : ∃ q, k2 = q + 1 := ⟨k2 - 1, by omega⟩
    have hlt : i < a.length := by omega
    have h1 := flat_take hlt
    have h2 := flat_le a (i + 1)
    rw [h1, List.length_append] at h2
    unfold warderlaw01_WireJoins_l1
    rw [if_pos (by omega)]
    refine (ck_pos (by omega)).trans ?_
    rw [Int.toNat_natCast]
    refine (ck_pos (by simp only [List.length_nil]; omega)).trans ?_
    refine (ck_pos (by simp only [List.length_take, List.length_cons, List.length_nil]; omega)).trans ?_
    refine (ck_pos (by omega)).trans ?_
    refine (ck_pos (by omega)).trans ?_
    rw [List.nil_append, ← take_succ_getD' hlt, ← h1, wrapS (by omega)]
    have := ih (i + 1) k2 (by omega) (by omega) (by omega)
    simpa using this
theorem joins_l0 (a : List (List Int)) : ∀ (n i k1 : Nat), 102 - i = n → i ≤ a.length → n < k1 → i ≤ 101 → (a.take i).flatten.length ≤ 20000 → (∀ x ∈ a, x.length ≤ 140737488351232) → warderlaw01_WireJoins_l0 100000 a k1 (a.take i).flatten.length i = some true := by
  intro n
  induction n with
  | zero => intro i k1 hn hi hk hc; omega
  | succ n ih =>
    intro i k1 hn hi hk hc hf hm
    obtain ⟨k1, rfl⟩ : ∃ q, k1 = q + 1 := ⟨k1 - 1, by omega⟩
    by_cases hlt : i < a.length
    · have h1 := flat_take hlt
      have hx : (a.getD i []).length ≤ 140737488351232 := by
        rw [List.getD_eq_getElem?_getD, List.getElem?_eq_getElem hlt]
        exact hm _ (List.getElem_mem hlt)
      unfold warderlaw01_WireJoins_l0
      rw [if_pos (by omega)]
      refine (ck_pos (by omega)).trans ?_
      by_cases h100 : (100 : Int) < i
      · rw [if_pos h100, known_true]; rfl
      have hsum : IntKind.i64.wrap (((a.take i).flatten.length : Int) + ((a.getD i []).length : Int)) = ((a.take (i + 1)).flatten.length : Int) := by
        rw [h1, List.length_append, wrapS (by omega)]
        omega
      rw [if_neg h100, Int.toNat_natCast, hsum]
      by_cases hw : (20000 : Int) < ((a.take (i + 1)).flatten.length : Int)
      · rw [if_pos hw, known_true]; rfl
      rw [if_neg hw, wrapS (by omega)]
      have := ih (i + 1) k1 (by omega) (by omega) (by omega) (by omega) (by omega) hm
      simpa using this
    · have : i = a.length := by omega
      subst this
      rw [List.take_length] at hf
      unfold warderlaw01_WireJoins_l0
      rw [if_neg (by omega)]
      exact joins_l1 a hc hf _ 0 100000 rfl (by omega) (by omega)
theorem WireJoins_true (a : List (List Int)) (ha : a.length ≤ 140737488351232 ∧ ∀ x ∈ a, x.length ≤ 140737488351232 ∧ ∀ y ∈ x, (Lit.int .u8 y).wf = true) : ∃ k, warderlaw01_WireJoins k a = some true := by
  refine ⟨100000, ?_⟩
  have := joins_l0 a 102 0 100000 rfl (by omega) (by omega) (by omega) (by simp) (fun x hx => (ha.2 x hx).1)
  unfold warderlaw01_WireJoins
  simpa using this
end Go.Proofs.Ytogclgfpnaocfaa
