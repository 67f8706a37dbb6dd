/- Own work. A part of the proof of a law of this seat: The plain law: no program in sight. -/
import Derived.Test.YtogclgfpnaocfaaWp1
import Derived.Test.YtogclgfpnaocfaaSxP
/- The plain laws of WirePuts and WireJoins: what the parts come to. -/
open Go Go.RowKit Go.Sx
namespace Go.Proofs.Ytogclgfpnaocfaa
theorem known_true : warderlaw01_known 100000 = some true := by kernel_rfl

/-! numbers' bytes, the lowest one first -/
def le (a : Int) (s : Nat) : List Int := (List.range s).map fun i => a / 256 ^ i % 256
theorem le_length (a : Int) (s : Nat) : (le a s).length = s := by simp [le]
theorem le_succ (a : Int) (s : Nat) : le a (s + 1) = le a s ++ [a / 256 ^ s % 256] := by simp [le, List.range_succ]
theorem le_range (a : Int) (s : Nat) : ∀ x ∈ le a s, 0 ≤ x ∧ x < 256 := by
  intro x hx
  obtain ⟨i, _, rfl⟩ := List.mem_map.1 hx
  exact ⟨Int.emod_nonneg _ (by decide), Int.emod_lt_of_pos _ (by decide)⟩
theorem shr_at (a : Int) (i : Nat) (h : i ≤ 8) : shr .u64 a (8 * (i : Int)) = a / 256 ^ i := by
  unfold shr
  have h1 : min (8 * (i : Int)).toNat IntKind.u64.bits = 8 * i := by simp only [IntKind.bits]; omega
  rw [h1, Int.pow_mul]
  rfl
theorem put_l1 (k : Nat) (a : Int) (s : Nat) (hs : s ≤ 8) : ∀ (n i k1 : Nat), s - i = n → i ≤ s → n < k1 → wire_Put_l1 k a s k1 (le a i ++ List.replicate (s - i) 0) i = some (le a s, 0) := by
  intro n
  induction n with
  | zero =>
    intro i k1 hn hi hk
    obtain ⟨k1, rfl⟩ : ∃ q, k1 = q + 1 := ⟨k1 - 1, by omega⟩
    have : i = s := by omega
    subst this
    unfold wire_Put_l1
    rw [if_neg (by rw [List.length_replicate]; omega)]
    simp
  | succ n ih =>
    intro i k1 hn hi hk
    obtain ⟨k1, rfl⟩ : ∃ q, k1 = q + 1 := ⟨k1 - 1, by omega⟩
    unfold wire_Put_l1
    rw [if_pos (by rw [List.length_replicate]; omega)]
    refine (ck_pos (by rw [wrapS (by omega)]; omega)).trans ?_
    refine (ck_pos (by rw [List.length_append, le_length, List.length_replicate]; omega)).trans ?_
    rw [wrapS (x := 8 * (i : Int)) (by omega), wrapS (by omega), shr_at a i (by omega), Int.toNat_natCast, IntKind.wrap_u8]
    have h1 : (le a i ++ List.replicate (s - i) 0).set i (a / 256 ^ i % 256) = le a (i + 1) ++ List.replicate (s - (i + 1)) 0 := by
      rw [List.set_append_right _ _ (by rw [le_length]; exact Nat.le_refl _), le_length, Nat.sub_self, le_succ, hn, show s - (i + 1) = n by omega, List.replicate_succ]
      simp
    rw [h1]
    have := ih (i + 1) k1 (by omega) (by omega) (by omega)
    simpa using this
theorem rput_l1 (k : Nat) (a : Int) (ha : 0 ≤ a ∧ a < 18446744073709551616) (s : Nat) (hs : s ≤ 8) : ∀ (n i k1 : Nat), s - i = n → i ≤ s → n < k1 →
    warderref01_Put_l1 k s k1 (a / 256 ^ i) (le a i) i = some (if 0 < a / 256 ^ s then ([], 2) else (le a s, 0)) := by
  intro n
  have hq : ∀ i : Nat, 0 ≤ a / 256 ^ i ∧ a / 256 ^ i < 18446744073709551616 := by
    intro i
    have hp : (0 : Int) < 256 ^ i := Int.pow_pos (by decide)
    exact ⟨Int.ediv_nonneg ha.1 (Int.le_of_lt hp), Int.lt_of_le_of_lt (Int.ediv_le_self _ ha.1) ha.2⟩
  induction n with
  | zero =>
    intro i k1 hn hi hk
    obtain ⟨k1, rfl⟩ : ∃ q, k1 = q + 1 := ⟨k1 - 1, by omega⟩
    have : i = s := by omega
    subst this
    unfold warderref01_Put_l1
    rw [if_neg (by omega)]
    split <;> rfl
  | succ n ih =>
    intro i k1 hn hi hk
    obtain ⟨k1, rfl⟩ : ∃ q, k1 = q + 1 := ⟨k1 - 1, by omega⟩
    unfold warderref01_Put_l1
    have h0 := hq i
    rw [if_pos (by omega)]
    refine (ck_pos (by rw [le_length]; simp only [List.length_cons, List.length_nil]; omega)).trans ?_
    have h1 : IntKind.u8.wrap ((a / 256 ^ i).tmod 256) = a / 256 ^ i % 256 := by rw [IntKind.wrap_u8, Int.tmod_eq_emod_of_nonneg h0.1]; omega
    have h2 : IntKind.u64.wrap ((a / 256 ^ i).tdiv 256) = a / 256 ^ (i + 1) := by
      rw [IntKind.wrap_u64, Int.tdiv_eq_ediv_of_nonneg h0.1, Int.pow_succ, ← Int.ediv_ediv_of_nonneg (Int.le_of_lt (Int.pow_pos (by decide)))]
      omega
    rw [h1, h2, wrapS (by omega), ← le_succ]
    have := ih (i + 1) k1 (by omega) (by omega) (by omega)
    simpa using this
/-- what a number's bytes are, or that there are none -/
def putv (a s : Int) : List Int × Int := if s < 1 ∨ 8 < s then ([], 2) else if 0 < a / 256 ^ s.toNat then ([], 2) else (le a s.toNat, 0)
theorem put_ok (k : Nat) (hk : 8 < k) (a : Int) (ha : 0 ≤ a ∧ a < 18446744073709551616) (s : Int) : wire_Put k a s = some (putv a s) := by
  unfold wire_Put putv
  by_cases h1 : s < 1
  · rw [if_pos h1, if_pos (.inl h1)]
  by_cases h2 : 8 < s
  · rw [if_neg h1, if_pos h2, if_pos (.inr h2)]
  have hor : ¬ (s < 1 ∨ 8 < s) := by omega
  rw [if_neg h1, if_neg h2, if_neg hor]
  obtain ⟨m, rfl⟩ := Int.eq_ofNat_of_zero_le (show 0 ≤ s by omega)
  have hj : wire_Put_j0 k a m = some (le a m, 0) := by
    unfold wire_Put_j0
    refine (ck_pos (by omega)).trans ?_
    have := put_l1 k a m (by omega) m 0 k (by omega) (by omega) (by omega)
    simpa [le] using this
  rw [hj]
  simp only [Int.toNat_natCast]
  by_cases h3 : (m : Int) < 8
  · rw [if_pos h3]
    refine (ck_pos (by rw [wrapS (by omega)]; omega)).trans ?_
    rw [wrapS (by omega), shr_at a m (by omega)]
    split <;> rfl
  · rw [if_neg h3]
    have h8 : m = 8 := by omega
    subst h8
    rw [if_neg]
    have : (256 : Int) ^ 8 = 18446744073709551616 := by decide
    rw [this]
    omega
theorem rput_ok (k : Nat) (hk : 8 < k) (a : Int) (ha : 0 ≤ a ∧ a < 18446744073709551616) (s : Int) : warderref01_Put k a s = some (putv a s) := by
  unfold warderref01_Put putv
  by_cases h1 : s < 1
  · rw [if_pos h1, if_pos (.inl h1)]
  by_cases h2 : 8 < s
  · rw [if_neg h1, if_pos h2, if_pos (.inr h2)]
  have hor : ¬ (s < 1 ∨ 8 < s) := by omega
  rw [if_neg h1, if_neg h2, if_neg hor]
  obtain ⟨m, rfl⟩ := Int.eq_ofNat_of_zero_le (show 0 ≤ s by omega)
  unfold warderref01_Put_j0
  have := rput_l1 k a ha m (by omega) m 0 k (by omega) (by omega) (by omega)
  simpa [le] using this

/-! lists one behind the other -/
theorem grow_ok (n : Int) (h : 0 ≤ n ∧ n ≤ 1000000) : slices_Grow_byte_byte n = some [] := by
  unfold slices_Grow_byte_byte
  rw [if_neg (by omega)]
  unfold slices_Grow_byte_byte_j0
  have h0 : IntKind.i64.wrap (n - IntKind.i64.wrap (0 - 0)) = n := by rw [wrapS (x := 0 - 0) (by decide), wrapS (by omega)]; omega
  simp only [h0]
  by_cases h1 : 0 < n
  · rw [if_pos h1]
    refine (ck_pos (by simp; omega)).trans ?_
    refine (ck_pos (by simp; omega)).trans ?_
    simp
  · rw [if_neg h1]
theorem flat_take {xs : List (List Int)} {i : Nat} (h : i < xs.length) : (xs.take (i + 1)).flatten = (xs.take i).flatten ++ xs.getD i [] := by
  rw [List.take_succ_eq_append_getElem h, List.flatten_append, List.getD_eq_getElem?_getD, List.getElem?_eq_getElem h]
  simp
theorem flat_le (xs : List (List Int)) (i : Nat) : (xs.take i).flatten.length ≤ xs.flatten.length := by
  rw [← List.take_append_drop i xs, List.flatten_append, List.length_append]
  simp only [List.take_append_drop]
  have : (List.take i (List.take i xs ++ List.drop i xs)) = List.take i xs := by rw [List.take_append_drop]
  omega
theorem concat_l1 (k : Nat) (xs : List (List Int)) (hx : xs.length ≤ 1000) (hl : xs.flatten.length ≤ 1000000) : ∀ (n i k2 : Nat), xs.length - i = n → i ≤ xs.length → n < k2 →
    slices_Concat_byte_byte_l1 k xs k2 (xs.take i).flatten i = some xs.flatten := by
  intro n
  induction n with
  | zero =>
    intro i k2 hn hi hk
    obtain ⟨k2, rfl⟩ : ∃ q, k2 = q + 1 := ⟨k2 - 1, by omega⟩
    have : i = xs.length := by omega
    subst this
    unfold slices_Concat_byte_byte_l1
    rw [if_neg (by omega), List.take_length]
  | succ n ih =>
    intro i k2 hn hi hk
    obtain ⟨k2, rfl⟩ : ∃ q, k2 = q + 1 := ⟨k2 - 1, by omega⟩
    have hlt : i < xs.length := by omega
    have hf := flat_take hlt
    have hle := flat_le xs (i + 1)
    rw [hf, List.length_append] at hle
    unfold slices_Concat_byte_byte_l1
    rw [if_pos (by omega)]
    refine (ck_pos (by omega)).trans ?_
    rw [Int.toNat_natCast]
    refine (ck_pos (by omega)).trans ?_
    rw [← hf, wrapS (by omega)]
    have := ih (i + 1) k2 (by omega) (by omega) (by omega)
    simpa using this
theorem concat_l0 (k : Nat) (xs : List (List Int)) (hx : xs.length ≤ 1000) (hl : xs.flatten.length ≤ 1000000) (hk0 : xs.length < k) : ∀ (n i k2 : Nat), xs.length - i = n → i ≤ xs.length → n < k2 →
    slices_Concat_byte_byte_l0 k xs k2 (xs.take i).flatten.length i = some xs.flatten := by
  intro n
  induction n with
  | zero =>
    intro i k2 hn hi hk
    obtain ⟨k2, rfl⟩ : ∃ q, k2 = q + 1 := ⟨k2 - 1, by omega⟩
    have : i = xs.length := by omega
    subst this
    unfold slices_Concat_byte_byte_l0
    rw [if_neg (by omega), List.take_length, grow_ok _ (by omega), Option.bind_some]
    have := concat_l1 k xs hx hl xs.length 0 k (by omega) (by omega) hk0
    simpa using this
  | succ n ih =>
    intro i k2 hn hi hk
    obtain ⟨k2, rfl⟩ : ∃ q, k2 = q + 1 := ⟨k2 - 1, by omega⟩
    have hlt : i < xs.length := by omega
    have hf := flat_take hlt
    have hle := flat_le xs (i + 1)
    have hlen : (xs.take (i + 1)).flatten.length = (xs.take i).flatten.length + (xs.getD i []).length := by rw [hf, List.length_append]
    unfold slices_Concat_byte_byte_l0
    rw [if_pos (by omega)]
    refine (ck_pos (by omega)).trans ?_
    rw [Int.toNat_natCast, wrapS (x := ((xs.take i).flatten.length : Int) + ((xs.getD i []).length : Int)) (by omega), if_neg (by omega), wrapS (by omega)]
    have := ih (i + 1) k2 (by omega) (by omega) (by omega)
    rw [hlen] at this
    simpa using this
theorem join_ok (k : Nat) (xs : List (List Int)) (hx : xs.length ≤ 1000) (hl : xs.flatten.length ≤ 1000000) (hk : xs.length < k) : wire_Join k xs = some xs.flatten := by
  have := concat_l0 k xs hx hl hk xs.length 0 k (by omega) (by omega) hk
  unfold wire_Join slices_Concat_byte_byte
  simp only [List.take_zero, List.flatten_nil, List.length_nil] at this
  have h2 : slices_Concat_byte_byte_l0 k xs k 0 0 = some xs.flatten := this
  rw [h2]
  rfl
end Go.Proofs.Ytogclgfpnaocfaa
