/- Own work. A part of the proof of a law of this seat: The plain law: no program in sight. -/
import Derived.Test.YtmljbiijlljhfaaPa
/- Plain facts of nibbles: an index' hash. -/
open Go Go.RowKit Go.Sx
namespace Go.Proofs.Ytmljbiijlljhfaa
def step (h c : Int) : Int := IntKind.u64.wrap (bits .xor .u64 h (IntKind.u64.wrap c) * 1099511628211)
theorem drop_at {l : List Int} {i : Nat} (h : i < l.length) : l.drop i = l.getD i 0 :: l.drop (i + 1) := by
  rw [List.drop_eq_getElem_cons h, List.getD_eq_getElem?_getD, List.getElem?_eq_getElem h]
  rfl
theorem mix_l0 (k : Nat) (l : List Int) (hl : l.length ≤ 10000) : ∀ (n i k1 : Nat) (h : Int), l.length - i = n → i ≤ l.length → n < k1 → nibble_mix_l0 k l k1 h i = some ((l.drop i).foldl step h) := by
  intro n
  induction n with
  | zero =>
    intro i k1 h hn hi hk
    obtain ⟨k1, rfl⟩ : ∃ q, k1 = q + 1 := ⟨k1 - 1, by omega⟩
    unfold nibble_mix_l0
    rw [if_neg (by omega), List.drop_of_length_le (by omega)]
    rfl
  | succ n ih =>
    intro i k1 h hn hi hk
    obtain ⟨k1, rfl⟩ : ∃ q, k1 = q + 1 := ⟨k1 - 1, by omega⟩
    unfold nibble_mix_l0
    rw [if_pos (by omega)]
    refine (ck_pos (by omega)).trans ?_
    rw [drop_at (show i < l.length by omega), List.foldl_cons, Int.toNat_natCast, wrapS (by omega)]
    have := ih (i + 1) k1 (step h (l.getD i 0)) (by omega) (by omega) (by omega)
    simpa [step] using this
theorem mix_ok (k : Nat) (hk : 10000 < k) (h : Int) (l : List Int) (hl : l.length ≤ 10000) : nibble_mix k h l = some (l.foldl step h) :=
  mix_l0 k l hl l.length 0 k h (by omega) (by omega) (by omega)
theorem step_range (h c : Int) : 0 ≤ step h c ∧ step h c < 18446744073709551616 := by
  unfold step
  rw [IntKind.wrap_u64]
  omega
theorem fold_range (l : List Int) (h : Int) (hh : 0 ≤ h ∧ h < 18446744073709551616) : 0 ≤ l.foldl step h ∧ l.foldl step h < 18446744073709551616 := by
  induction l generalizing h with
  | nil => exact hh
  | cons c l ih => exact ih _ (step_range h c)
/-- the sixteen bits' parts, mixed -/
def fx : Nat → Nat → Nat
  | 0, _ => 0
  | j + 1, m => (m % 65536) ^^^ fx j (m / 65536)
theorem fx_zero (j : Nat) : fx j 0 = 0 := by
  induction j with
  | zero => rfl
  | succ j ih => simp [fx, ih]
theorem fx_lt (j m : Nat) : fx j m < 65536 := by
  induction j generalizing m with
  | zero => simp [fx]
  | succ j ih => exact Nat.xor_lt_two_pow (n := 16) (Nat.mod_lt _ (by decide)) (ih _)
theorem fx_four (m : Nat) : (m / 2 ^ 48 ^^^ m / 2 ^ 32 ^^^ m / 2 ^ 16 ^^^ m) % 65536 = fx 4 m := by
  have e : (65536 : Nat) = 2 ^ 16 := by decide
  simp only [fx, e, Nat.xor_mod_two_pow, Nat.div_div_eq_div_mul, ← Nat.pow_add]
  simp only [Nat.xor_zero]
  rw [Nat.xor_comm _ (m % 2 ^ 16), Nat.xor_comm (m / 2 ^ 48 % 2 ^ 16 ^^^ m / 2 ^ 32 % 2 ^ 16) (m / 2 ^ 16 % 2 ^ 16), Nat.xor_comm (m / 2 ^ 48 % 2 ^ 16) (m / 2 ^ 32 % 2 ^ 16)]
theorem rhash_l1 (k : Nat) : ∀ (j k2 m n : Nat), m < 65536 ^ j → m < 18446744073709551616 → n < 65536 → j < k2 → warderref02_Hash_l1 k k2 m n = some (IntKind.i64.wrap ((n ^^^ fx j m : Nat) : Int)) := by
  intro j
  induction j with
  | zero =>
    intro k2 m n hm _ hn hk
    obtain ⟨k2, rfl⟩ : ∃ q, k2 = q + 1 := ⟨k2 - 1, by omega⟩
    have : m = 0 := by simpa using hm
    subst this
    unfold warderref02_Hash_l1
    rw [if_neg (by omega)]
    simp [fx]
  | succ j ih =>
    intro k2 m n hm hm2 hn hk
    obtain ⟨k2, rfl⟩ : ∃ q, k2 = q + 1 := ⟨k2 - 1, by omega⟩
    unfold warderref02_Hash_l1
    by_cases h0 : m = 0
    · subst h0
      rw [if_neg (by omega), fx_zero]
      simp
    · rw [if_pos (by omega)]
      have h1 : IntKind.u64.wrap ((m : Int).tdiv 65536) = ((m / 65536 : Nat) : Int) := by
        rw [Int.tdiv_eq_ediv_of_nonneg (by omega), IntKind.wrap_u64]
        omega
      have h2 : (m : Int).tmod 65536 = ((m % 65536 : Nat) : Int) := by
        rw [Int.tmod_eq_emod_of_nonneg (by omega)]
        omega
      have h3 : m % 65536 < 2 ^ 64 := Nat.lt_of_lt_of_le (Nat.mod_lt _ (by decide)) (by decide)
      rw [h1, h2, bits_xor_nat (k := .u64) (n := 64) rfl rfl (by omega) h3]
      rw [ih k2 (m / 65536) (n ^^^ m % 65536) (by rw [Nat.pow_succ] at hm; exact Nat.div_lt_of_lt_mul (by rw [Nat.mul_comm]; exact hm)) (by omega) (Nat.xor_lt_two_pow (n := 16) hn (Nat.mod_lt _ (by decide))) (by omega)]
      simp only [fx, Nat.xor_assoc]
theorem rhash_l0 (k : Nat) (hk0 : 10 < k) (s : ByteArray) (hs : s.size ≤ 10000) : ∀ (n i k1 : Nat) (h : Int), s.size - i = n → i ≤ s.size → n < k1 → 0 ≤ h ∧ h < 18446744073709551616 →
    warderref02_Hash_l0 k s k1 h i = some (fx 4 (((bytesOf s).drop i).foldl step h).toNat : Int) := by
  intro n
  induction n with
  | zero =>
    intro i k1 h hn hi hk hh
    obtain ⟨k1, rfl⟩ : ∃ q, k1 = q + 1 := ⟨k1 - 1, by omega⟩
    unfold warderref02_Hash_l0
    rw [if_neg (by omega), List.drop_of_length_le (by rw [bytesOf_len]; omega), List.foldl_nil]
    obtain ⟨m, rfl⟩ := Int.eq_ofNat_of_zero_le hh.1
    have := rhash_l1 k 4 k m 0 (by omega) (by omega) (by decide) (by omega)
    have hf := fx_lt 4 m
    rw [Nat.zero_xor, wrapS (by omega)] at this
    simpa using this
  | succ n ih =>
    intro i k1 h hn hi hk hh
    obtain ⟨k1, rfl⟩ : ∃ q, k1 = q + 1 := ⟨k1 - 1, by omega⟩
    unfold warderref02_Hash_l0
    rw [if_pos (by omega)]
    refine (ck_pos (by omega)).trans ?_
    rw [drop_at (show i < (bytesOf s).length by rw [bytesOf_len]; omega), List.foldl_cons, Int.toNat_natCast, wrapS (by omega)]
    have := ih (i + 1) k1 (step h ((bytesOf s).getD i 0)) (by omega) (by omega) (by omega) (step_range _ _)
    simpa [step] using this
def hashv (t : Int) (s : ByteArray) : Nat := fx 4 ((IntKind.u8.wrap t :: bytesOf s).foldl step 14695981039346656037).toNat
theorem hashv_lt (t : Int) (s : ByteArray) : hashv t s < 65536 := fx_lt _ _
theorem hash_ok (k : Nat) (hk : 10000 < k) (t : Int) (s : ByteArray) (hs : s.size ≤ 10000) : nibble_Hash k t s = some (hashv t s : Int) := by
  unfold nibble_Hash
  rw [mix_ok k hk _ _ (by simp), Option.bind_some]
  refine (ck_pos (by omega)).trans ?_
  rw [mix_ok k hk _ _ (by rw [bytesOf_len]; exact hs), Option.bind_some]
  have hr := fold_range (bytesOf s) ([IntKind.u8.wrap t].foldl step 14695981039346656037) (by simp only [List.foldl_cons, List.foldl_nil]; exact step_range _ _)
  obtain ⟨m, hm⟩ := Int.eq_ofNat_of_zero_le hr.1
  have hv : hashv t s = fx 4 m := by
    unfold hashv
    rw [List.foldl_cons]
    simp only [List.foldl_cons, List.foldl_nil] at hm
    rw [hm, Int.toNat_natCast]
  rw [hm, hv, ← fx_four]
  have hml : m < 2 ^ 64 := by rw [hm] at hr; have := hr.2; omega
  have sh : ∀ j : Nat, j ≤ 64 → shr .u64 (m : Int) (j : Int) = ((m / 2 ^ j : Nat) : Int) := by
    intro j hj
    unfold shr
    rw [Int.toNat_natCast, show min j IntKind.u64.bits = j by simp only [IntKind.bits]; omega]
    simp
  have lt : ∀ j : Nat, m / 2 ^ j < 2 ^ 64 := fun j => Nat.lt_of_le_of_lt (Nat.div_le_self _ _) hml
  rw [show (48 : Int) = ((48 : Nat) : Int) from rfl, show (32 : Int) = ((32 : Nat) : Int) from rfl, show (16 : Int) = ((16 : Nat) : Int) from rfl, sh 48 (by decide), sh 32 (by decide), sh 16 (by decide)]
  rw [bits_xor_nat (k := .u64) (n := 64) rfl rfl (lt 48) (lt 32), bits_xor_nat (k := .u64) (n := 64) rfl rfl (Nat.xor_lt_two_pow (lt 48) (lt 32)) (lt 16), bits_xor_nat (k := .u64) (n := 64) rfl rfl (Nat.xor_lt_two_pow (Nat.xor_lt_two_pow (lt 48) (lt 32)) (lt 16)) hml]
  rw [IntKind.wrap_u16]
  rfl
theorem rhash_ok (k : Nat) (hk : 10000 < k) (t : Int) (s : ByteArray) (hs : s.size ≤ 10000) : warderref02_Hash k t s = some (hashv t s : Int) := by
  unfold warderref02_Hash
  have hst : IntKind.u64.wrap (bits .xor .u64 14695981039346656037 ((IntKind.u64.wrap t).tmod 256) * 1099511628211) = step 14695981039346656037 (IntKind.u8.wrap t) := by
    unfold step
    have : (IntKind.u64.wrap t).tmod 256 = IntKind.u64.wrap (IntKind.u8.wrap t) := by
      rw [IntKind.wrap_u64, IntKind.wrap_u8, IntKind.wrap_u64, Int.tmod_eq_emod_of_nonneg (by omega)]
      omega
    rw [this]
  rw [hst]
  have := rhash_l0 k (by omega) s hs s.size 0 k (step 14695981039346656037 (IntKind.u8.wrap t)) (by omega) (by omega) (by omega) (step_range _ _)
  unfold hashv
  simpa using this
end Go.Proofs.Ytmljbiijlljhfaa
