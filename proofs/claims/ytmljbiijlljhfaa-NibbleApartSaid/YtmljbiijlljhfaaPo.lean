/- Own work. A part of the proof of a law of this seat: The plain law: no program in sight. -/
import Derived.Test.YtmljbiijlljhfaaPc
/- The plain laws of NibbleOf and NibbleOrders. -/
open Go Go.RowKit Go.Sx
namespace Go.Proofs.Ytmljbiijlljhfaa
theorem NibbleOf_true (x : Int × ByteArray) (hx : (Lit.int .i64 x.1).wf = true ∧ x.2.size ≤ 140737488351232) : ∃ k, warderlaw02_NibbleOf k x.1 x.2 = some true := by
  obtain ⟨t, s⟩ := x
  refine ⟨20000, ?_⟩
  unfold warderlaw02_NibbleOf
  simp only
  by_cases h1 : (2000 : Int) < s.size
  · rw [if_pos h1, known_ok]; rfl
  rw [if_neg h1, of_ok _ (by decide), Option.bind_some, may_ok _ (by decide), Option.bind_some, rmay_ok _ (by decide), Option.bind_some]
  have hh := hashv_lt t s
  rw [hash_ok _ (by decide) t s (by omega), Option.bind_some, rhash_ok _ (by decide) t s (by omega), Option.bind_some, rof_ok _ (by decide), Option.bind_some, Option.bind_some, known_ok]
  rw [if_pos (wrapS (by omega)), if_pos rfl]
  have hl := ofv_length t s
  cases hm : may t s with
  | false =>
    rw [hm] at hl
    simp only [cond_false] at hl
    rw [hl]
    rfl
  | true =>
    rw [hm] at hl
    simp only [cond_true] at hl
    obtain ⟨_, _, _, h4, _⟩ := may_parts hm
    rw [hl, if_pos (by omega), decide_eq_true (by omega)]
    rfl

/-! lists held against each other -/
/-- a stands ahead of b -/
def ahead : List Int → List Int → Bool
  | [], [] => false
  | [], _ :: _ => true
  | _ :: _, [] => false
  | a :: r, b :: s => decide (a < b) || (decide (a = b) && ahead r s)
theorem ahead_irr (a : List Int) : ahead a a = false := by
  induction a with
  | nil => rfl
  | cons x a ih => simp [ahead, ih]
theorem ahead_trans : ∀ {a b c : List Int}, ahead a b = true → ahead b c = true → ahead a c = true
  | [], [], _, h, _ => by cases h
  | [], _ :: _, [], _, h => by cases h
  | [], _ :: _, _ :: _, _, _ => rfl
  | _ :: _, [], _, h, _ => by cases h
  | _ :: _, _ :: _, [], _, h => by cases h
  | x :: a, y :: b, z :: c, h1, h2 => by
    simp only [ahead, Bool.or_eq_true, Bool.and_eq_true, decide_eq_true_eq] at h1 h2 ⊢
    rcases h1 with h1 | ⟨rfl, h1⟩
    · rcases h2 with h2 | ⟨rfl, h2⟩
      · exact .inl (by omega)
      · exact .inl h1
    · rcases h2 with h2 | ⟨rfl, h2⟩
      · exact .inl h2
      · exact .inr ⟨rfl, ahead_trans h1 h2⟩
theorem cmp_ok (a b : Int) : cmp_Compare_byte a b = some (if a < b then -1 else if b < a then 1 else 0) := by
  unfold cmp_Compare_byte cmp_isNaN_byte
  simp only [decide_true, Bool.not_true, Option.bind_some, cond_false]
  split
  · rfl
  · split <;> rfl
theorem compare_l0 (k : Nat) (a b : List Int) (ha : a.length ≤ 1000) : ∀ (n i k1 : Nat), a.length - i = n → i ≤ a.length → n < k1 → (i ≤ b.length) → ∃ r : Int, slices_Compare_byte_byte_l0 k a b k1 i = some r ∧ (r < 0 ↔ ahead (a.drop i) (b.drop i) = true) := by
  intro n
  induction n with
  | zero =>
    intro i k1 hn hi hk hb
    obtain ⟨k1, rfl⟩ : ∃ q, k1 = q + 1 := ⟨k1 - 1, by omega⟩
    unfold slices_Compare_byte_byte_l0
    rw [if_neg (by omega), List.drop_of_length_le (show a.length ≤ i by omega)]
    by_cases h : (a.length : Int) < b.length
    · rw [if_pos h, drop_at (show i < b.length by omega)]
      exact ⟨-1, rfl, by simp [ahead]⟩
    · rw [if_neg h, List.drop_of_length_le (show b.length ≤ i by omega)]
      exact ⟨0, rfl, by simp [ahead]⟩
  | succ n ih =>
    intro i k1 hn hi hk hb
    obtain ⟨k1, rfl⟩ : ∃ q, k1 = q + 1 := ⟨k1 - 1, by omega⟩
    unfold slices_Compare_byte_byte_l0
    rw [if_pos (by omega)]
    rw [drop_at (show i < a.length by omega)]
    suffices h : ∃ r : Int, (if (b.length : Int) ≤ i then some 1 else ck (0 ≤ (i : Int) ∧ (i : Int) < b.length) ((cmp_Compare_byte (a.getD (i : Int).toNat 0) (b.getD (i : Int).toNat 0)).bind fun t1 => if t1 = 0 then slices_Compare_byte_byte_l0 k a b k1 (IntKind.i64.wrap ((i : Int) + 1)) else some t1)) = some r ∧ (r < 0 ↔ ahead (a.getD i 0 :: a.drop (i + 1)) (b.drop i) = true) by
      obtain ⟨r, h1, h2⟩ := h
      exact ⟨r, (ck_pos (by omega)).trans h1, h2⟩
    by_cases hb2 : (b.length : Int) ≤ i
    · rw [if_pos hb2, List.drop_of_length_le (show b.length ≤ i by omega)]
      exact ⟨1, rfl, by simp [ahead]⟩
    rw [if_neg hb2, drop_at (show i < b.length by omega), Int.toNat_natCast, cmp_ok, Option.bind_some]
    suffices h : ∃ r : Int, (if (if a.getD i 0 < b.getD i 0 then (-1 : Int) else if b.getD i 0 < a.getD i 0 then 1 else 0) = 0 then slices_Compare_byte_byte_l0 k a b k1 (IntKind.i64.wrap ((i : Int) + 1)) else some (if a.getD i 0 < b.getD i 0 then (-1 : Int) else if b.getD i 0 < a.getD i 0 then 1 else 0)) = some r ∧ (r < 0 ↔ ahead (a.getD i 0 :: a.drop (i + 1)) (b.getD i 0 :: b.drop (i + 1)) = true) by
      obtain ⟨r, h1, h2⟩ := h
      exact ⟨r, (ck_pos (by omega)).trans h1, h2⟩
    simp only [ahead, Bool.or_eq_true, Bool.and_eq_true, decide_eq_true_eq]
    by_cases h1 : a.getD i 0 < b.getD i 0
    · rw [if_pos h1, if_neg (by decide)]
      exact ⟨-1, rfl, fun _ => .inl h1, fun _ => by decide⟩
    rw [if_neg h1]
    by_cases h2 : b.getD i 0 < a.getD i 0
    · rw [if_pos h2, if_neg (by decide)]
      exact ⟨1, rfl, by constructor
                        · intro h; omega
                        · rintro (h | ⟨h, _⟩) <;> omega⟩
    rw [if_neg h2, if_pos rfl, wrapS (by omega)]
    obtain ⟨r, h3, h4⟩ := ih (i + 1) k1 (by omega) (by omega) (by omega) (by omega)
    refine ⟨r, by simpa using h3, h4.trans ⟨fun h => .inr ⟨by omega, h⟩, ?_⟩⟩
    rintro (h | ⟨_, h⟩)
    · exact absurd h h1
    · exact h
theorem ofv_short (t : Int) (s : ByteArray) : (ofv t s).length ≤ 71 := by
  rw [ofv_length]
  cases hm : may t s with
  | false => simp
  | true => obtain ⟨_, _, _, h4, _⟩ := may_parts hm; simp only [cond_true]; omega
theorem less_ok (k : Nat) (hk : 10000 < k) (t : Int) (s : ByteArray) (t' : Int) (s' : ByteArray) : nibble_Less k t s t' s' = some (ahead (ofv t s) (ofv t' s')) := by
  unfold nibble_Less
  have hl := ofv_short t s
  rw [of_ok k hk, Option.bind_some, of_ok k hk, Option.bind_some]
  obtain ⟨r, h1, h2⟩ := compare_l0 k (ofv t s) (ofv t' s') (by omega) _ 0 k rfl (by omega) (by omega) (by omega)
  unfold slices_Compare_byte_byte
  rw [show ((0 : Int)) = ((0 : Nat) : Int) from rfl, h1, Option.bind_some]
  simp only [List.drop_zero] at h2
  congr 1
  exact Bool.eq_iff_iff.2 (decide_eq_true_iff.trans h2)
theorem NibbleOrders_true (x : Int × ByteArray) (_ : (Lit.int .i64 x.1).wf = true ∧ x.2.size ≤ 140737488351232) (y : Int × ByteArray) (_ : (Lit.int .i64 y.1).wf = true ∧ y.2.size ≤ 140737488351232) (z : Int × ByteArray) (_ : (Lit.int .i64 z.1).wf = true ∧ z.2.size ≤ 140737488351232) : ∃ k, warderlaw02_NibbleOrders k x.1 x.2 y.1 y.2 z.1 z.2 = some true := by
  refine ⟨20000, ?_⟩
  unfold warderlaw02_NibbleOrders
  rw [known_ok]
  split
  · rfl
  split
  · rfl
  split
  · rfl
  unfold warderlaw02_NibbleOrders_j0
  rw [less_ok _ (by decide), less_ok _ (by decide), less_ok _ (by decide), less_ok _ (by decide), known_ok]
  simp only [Option.bind_some, ahead_irr, cond_false]
  cases h1 : ahead (ofv x.1 x.2) (ofv y.1 y.2) with
  | false => rfl
  | true =>
    cases h2 : ahead (ofv y.1 y.2) (ofv z.1 z.2) with
    | false => rfl
    | true => rw [ahead_trans h1 h2]; rfl
end Go.Proofs.Ytmljbiijlljhfaa
