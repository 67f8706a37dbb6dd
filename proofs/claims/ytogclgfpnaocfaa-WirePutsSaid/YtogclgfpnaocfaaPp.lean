/- Own work. A part of the proof of a law of this seat: The plain law: no program in sight. -/
import Derived.Test.YtogclgfpnaocfaaPw
/- The plain law of WirePuts. -/
open Go Go.RowKit Go.Sx
namespace Go.Proofs.Ytogclgfpnaocfaa
def wholev (n : Int) : List Int × Int := if n < -2147483648 ∨ 2147483647 < n then ([], 2) else putv (if n < 0 then n + 4294967296 else n) 4
theorem whole_ok (k : Nat) (hk : 8 < k) (n : Int) : wire_Whole k n = some (wholev n) := by
  unfold wire_Whole wholev
  by_cases h1 : n < -2147483648
  · rw [if_pos h1, if_pos (.inl h1)]
  by_cases h2 : 2147483647 < n
  · rw [if_neg h1, if_pos h2, if_pos (.inr h2)]
  have hor : ¬ (n < -2147483648 ∨ 2147483647 < n) := by omega
  rw [if_neg h1, if_neg h2, if_neg hor]
  unfold wire_Whole_j0
  have hw : IntKind.u64.wrap (IntKind.u32.wrap (IntKind.i32.wrap n)) = if n < 0 then n + 4294967296 else n := by
    rw [IntKind.wrap_u64, IntKind.wrap_i32, show IntKind.u32.wrap ((n + 2147483648) % 4294967296 - 2147483648) = ((n + 2147483648) % 4294967296 - 2147483648) % 4294967296 by simp [IntKind.wrap, IntKind.bits, IntKind.signed]]
    split <;> omega
  rw [hw, put_ok k hk _ (by split <;> omega)]
  rfl
theorem rwhole_ok (k : Nat) (hk : 8 < k) (n : Int) : warderref01_Whole k n = some (wholev n) := by
  unfold warderref01_Whole wholev
  by_cases h1 : n < -2147483648
  · rw [if_pos h1, if_pos (.inl h1)]
  by_cases h2 : 2147483647 < n
  · rw [if_neg h1, if_pos h2, if_pos (.inr h2)]
  have hor : ¬ (n < -2147483648 ∨ 2147483647 < n) := by omega
  rw [if_neg h1, if_neg h2, if_neg hor]
  unfold warderref01_Whole_j0
  by_cases h3 : n < 0
  · rw [if_pos h3, if_pos h3, wrapS (by omega)]
    unfold warderref01_Whole_j1
    rw [show IntKind.u64.wrap (n + 4294967296) = n + 4294967296 by rw [IntKind.wrap_u64]; omega, rput_ok k hk _ (by omega)]
    rfl
  · rw [if_neg h3, if_neg h3]
    unfold warderref01_Whole_j1
    rw [show IntKind.u64.wrap n = n by rw [IntKind.wrap_u64]; omega, rput_ok k hk _ (by omega)]
    rfl
/-- what a blob is, or by which error there is none -/
def blobv (b : List Int) (s : Int) : List Int × Int := if s = 1 ∨ s = 2 then (if (256 : Int) ^ s.toNat ≤ b.length then ([], 17) else (le b.length s.toNat ++ b, 0)) else ([], 2)
theorem low_ok (m : Nat) (s : Nat) (h : (m : Int) < 256 ^ s) : ¬ 0 < (m : Int) / 256 ^ s := by
  rw [Int.ediv_eq_zero_of_lt (by omega) h]
  omega
theorem put_low (b : List Int) (s : Nat) (h1 : 1 ≤ s) (h2 : s ≤ 8) (h : (b.length : Int) < 256 ^ s) : putv b.length s = (le b.length s, 0) := by
  unfold putv
  have hor : ¬ ((s : Int) < 1 ∨ 8 < (s : Int)) := by omega
  rw [if_neg hor, Int.toNat_natCast, if_neg (low_ok _ _ h)]
theorem put_high (b : List Int) (s : Nat) (h1 : 1 ≤ s) (h2 : s ≤ 8) (h : (256 : Int) ^ s ≤ b.length) : putv b.length s = ([], 2) := by
  unfold putv
  have hor : ¬ ((s : Int) < 1 ∨ 8 < (s : Int)) := by omega
  have hp : (0 : Int) < 256 ^ s := Int.pow_pos (by decide)
  have hd : 0 < (b.length : Int) / 256 ^ s := Int.lt_of_lt_of_le (by decide) (Int.le_ediv_of_mul_le hp (by omega) : (1 : Int) ≤ _)
  rw [if_neg hor, Int.toNat_natCast, if_pos hd]
theorem blob_ok (k : Nat) (hk : 8 < k) (b : List Int) (hb : b.length ≤ 70000) (s : Int) : wire_Blob k b s = some (blobv b s) := by
  have main : ∀ m : Nat, m = 1 ∨ m = 2 → wire_Blob_j0 k b m false = some (if (256 : Int) ^ m ≤ b.length then ([], 17) else (le b.length m ++ b, 0)) := by
    intro m hm
    unfold wire_Blob_j0
    refine (ck_pos (by rw [wrapS (by omega)]; omega)).trans ?_
    have hsh : shl .i64 1 (IntKind.i64.wrap (8 * (m : Int))) = 256 ^ m := by
      rcases hm with rfl | rfl <;> decide
    rw [hsh, show IntKind.u64.wrap (b.length : Int) = b.length by rw [IntKind.wrap_u64]; omega]
    by_cases h : (256 : Int) ^ m ≤ b.length
    · rw [if_pos h, if_pos h]
    · rw [if_neg h, if_neg h, put_ok k hk _ (by omega), Option.bind_some, put_low b m (by omega) (by omega) (by omega), join_ok k _ (by simp) (by simp [le_length]; omega) (by simp; omega)]
      simp
  unfold wire_Blob blobv
  by_cases h1 : s = 1
  · subst h1
    rw [if_pos rfl, if_pos (.inl rfl)]
    exact main 1 (.inl rfl)
  · rw [if_neg h1]
    by_cases h2 : s = 2
    · subst h2
      rw [if_pos (.inr rfl)]
      have := main 2 (.inr rfl)
      simpa using this
    · rw [if_neg (by omega)]
      unfold wire_Blob_j0
      simp [h2]
theorem rblob_ok (k : Nat) (hk : 8 < k) (b : List Int) (hb : b.length ≤ 70000) (s : Int) : warderref01_Blob k b s = some (blobv b s) := by
  have main : ∀ m : Nat, m = 1 ∨ m = 2 → warderref01_Blob_j0 k b m = some (if (256 : Int) ^ m ≤ b.length then ([], 17) else (le b.length m ++ b, 0)) := by
    intro m hm
    unfold warderref01_Blob_j0
    rw [show IntKind.u64.wrap (b.length : Int) = b.length by rw [IntKind.wrap_u64]; omega, rput_ok k hk _ (by omega), Option.bind_some]
    by_cases h : (256 : Int) ^ m ≤ b.length
    · rw [put_high b m (by omega) (by omega) h, if_pos h]
      rfl
    · rw [put_low b m (by omega) (by omega) (by omega), if_neg h]
      simp only [if_true]
      exact ck_pos (by rw [le_length]; omega)
  unfold warderref01_Blob blobv
  by_cases h1 : s = 1
  · subst h1
    rw [if_pos rfl, if_pos (.inl rfl)]
    exact main 1 (.inl rfl)
  · rw [if_neg h1]
    by_cases h2 : s = 2
    · subst h2
      rw [if_pos rfl, if_pos (.inr rfl)]
      exact main 2 (.inr rfl)
    · rw [if_neg h2, if_neg (by omega)]
theorem blobv_length (b : List Int) (hb : b.length ≤ 70000) (s : Int) : (blobv b s).1.length ≤ 80000 := by
  unfold blobv
  split
  · split
    · simp
    · rename_i h _
      rcases h with rfl | rfl <;> simp [le_length] <;> omega
  · simp
theorem puts_l3 (k : Nat) (hk : warderlaw01_known k = some true) (a : List Int) : ∀ (n : Nat) (x : List Int) (i k1 : Nat), x.length ≤ 80000 → x.length - i = n → i ≤ x.length → n < k1 → warderlaw01_WirePuts_l3 k a k1 x a i = some true := by
  intro n
  induction n with
  | zero =>
    intro x i k1 hx hn hi hk1
    obtain ⟨k1, rfl⟩ : ∃ q, k1 = q + 1 := ⟨k1 - 1, by omega⟩
    unfold warderlaw01_WirePuts_l3
    rw [if_neg (by omega), if_pos rfl, hk]
    rfl
  | succ n ih =>
    intro x i k1 hx hn hi hk1
    obtain ⟨k1, rfl⟩ : ∃ q, k1 = q + 1 := ⟨k1 - 1, by omega⟩
    unfold warderlaw01_WirePuts_l3
    rw [if_pos (by omega)]
    refine (ck_pos (by omega)).trans ?_
    refine (ck_pos (by omega)).trans ?_
    rw [wrapS (by omega)]
    have := ih (x.set (i : Int).toNat (IntKind.u8.wrap (x.getD (i : Int).toNat 0 + 1))) (i + 1) k1 (by rw [List.length_set]; exact hx) (by rw [List.length_set]; omega) (by rw [List.length_set]; omega) (by omega)
    simpa using this
theorem WirePuts_true (n : Int) (hn : (Lit.int .u64 n).wf = true) (s : Int) (_ : (Lit.int .i64 s).wf = true) (m : Int) (_ : (Lit.int .i64 m).wf = true) (b : List Int) (hb : b.length ≤ maxLen ∧ ∀ x ∈ b, (Lit.int .u8 x).wf = true) : ∃ k, warderlaw01_WirePuts k n s m b = some true := by
  refine ⟨100000, ?_⟩
  unfold warderlaw01_WirePuts
  by_cases h1 : (70000 : Int) < b.length
  · rw [if_pos h1, known_true]; rfl
  have hl : b.length ≤ 70000 := by omega
  rw [if_neg h1, put_ok _ (by decide) n (wfU64 hn), Option.bind_some, rput_ok _ (by decide) n (wfU64 hn), Option.bind_some, if_pos rfl, if_pos rfl]
  unfold warderlaw01_WirePuts_j0
  rw [whole_ok _ (by decide), Option.bind_some, rwhole_ok _ (by decide), Option.bind_some, if_pos rfl, if_pos rfl]
  unfold warderlaw01_WirePuts_j1
  refine (ck_pos (by simp; omega)).trans ?_
  rw [List.nil_append, blob_ok _ (by decide) b hl, Option.bind_some, rblob_ok _ (by decide) b hl, Option.bind_some, if_pos rfl, if_pos rfl]
  unfold warderlaw01_WirePuts_j2
  have hlen := blobv_length b hl s
  exact puts_l3 100000 known_true b _ _ 0 100000 hlen rfl (by omega) (by omega)
end Go.Proofs.Ytogclgfpnaocfaa
