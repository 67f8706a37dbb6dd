/- Own work. A part of the proof of a law of this seat: this seat's functions, by the machine, and the plain law -/
import Derived.Test.YtkmabfamdonfoaaDoorMe
import Derived.Test.YtkmabfamdonfoaaDoorWn
import Derived.Test.YtkmabfamdonfoaaDoorWi
set_option linter.unusedSimpArgs false
set_option linter.unusedVariables false
namespace Go.Mx
open Go Go.RowKit Go.Sx Go.Proofs
set_option maxRecDepth 100000

/-! ### plain: what is put is read so -/
theorem byteAt_n (n i : Nat) (hn : n < 18446744073709551616) (hi : i ≤ 7) : byteAt n i = ((n / 256 ^ i % 256 : Nat) : Int) := by
  unfold byteAt shr
  rw [wrapS (by omega), show (8 * (i : Int)).toNat = 8 * i by omega, show min (8 * i) IntKind.u64.bits = 8 * i by simp only [IntKind.bits]; omega, IntKind.wrap_u8]
  rw [show ((2 : Int) ^ (8 * i)) = ((256 ^ i : Nat) : Int) by rw [Int.pow_mul]; simp, ← Int.natCast_ediv]
  omega
theorem pB_cons (n m : Nat) (hn : n < 18446744073709551616) (hm : m ≤ 7) : pB n (m + 1) = ((n % 256 : Nat) : Int) :: pB ((n / 256 : Nat) : Int) m := by
  unfold pB
  rw [List.range_succ_eq_map, List.map_cons, List.map_map]
  rw [byteAt_n n 0 hn (by omega), Nat.pow_zero, Nat.div_one]
  congr 1
  apply List.map_congr_left
  intro i hi
  have := List.mem_range.1 hi
  show byteAt n (i + 1) = byteAt ((n / 256 : Nat) : Int) i
  rw [byteAt_n n (i + 1) hn (by omega), byteAt_n (n / 256) i (by omega) (by omega), Nat.pow_succ, Nat.mul_comm, Nat.div_div_eq_div_mul]
theorem leN_pB : ∀ (m n : Nat), n < 18446744073709551616 → m ≤ 8 → leN (pB n m) = n % 256 ^ m ∧ Bytes (pB n m)
  | 0, n, _, _ => by
    have : pB n 0 = [] := rfl
    rw [this, Nat.pow_zero, Nat.mod_one]
    exact ⟨rfl, fun x hx => by simp at hx⟩
  | m + 1, n, hn, hm => by
    obtain ⟨h1, h2⟩ := leN_pB m (n / 256) (by omega) (by omega)
    rw [pB_cons n m hn (by omega)]
    refine ⟨?_, fun x hx => ?_⟩
    · rw [leN, h1, Int.toNat_natCast, Nat.pow_succ, Nat.mul_comm (256 ^ m), Nat.mod_mul]
    · rcases List.mem_cons.1 hx with rfl | hx
      · omega
      · exact h2 x hx
/-- a number, read where it was put -/
theorem num_back {n m : Nat} (hn : n < 256 ^ m) (hn2 : n < 18446744073709551616) (h1 : 1 ≤ m) (h8 : m ≤ 8) (r : List Int) : numV ((pB n m ++ r, true, false) : RV) (m : Int) = n ∧ numS ((pB n m ++ r, true, false) : RV) (m : Int) = (r, true, false) := by
  have hs : sizeOk (m : Int) = m := by unfold sizeOk; rw [if_neg (by omega)]
  obtain ⟨e1, e2⟩ := leN_pB m n hn2 h8
  have hl := pB_len (n : Int) m
  have ht : takeV ((pB n m ++ r, true, false) : RV) (m : Int) = pB n m := by
    unfold takeV
    rw [if_neg (by simp), if_neg (by simp [hl]; omega), Int.toNat_natCast]
    exact List.take_left' hl
  have hd : takeS ((pB n m ++ r, true, false) : RV) (m : Int) = (r, true, false) := by
    unfold takeS
    rw [if_neg (by simp), if_neg (by simp [hl]; omega), Int.toNat_natCast]
    rw [List.drop_left' hl]
  unfold numV numS
  rw [hs, ht, hd, num_le e2 (by omega), e1, Nat.mod_eq_of_lt hn]
  exact ⟨rfl, rfl⟩
/-- a part that may be -/
theorem pBad_ok {n : Nat} {s : Int} (hn : n < 18446744073709551616) (h : pBad n s = false) : ∃ m : Nat, s = m ∧ 1 ≤ m ∧ m ≤ 8 ∧ n < 256 ^ m := by
  unfold pBad at h
  simp only [Bool.or_eq_false_iff, decide_eq_false_iff_not, Bool.and_eq_false_iff] at h
  obtain ⟨h1, h2, h3⟩ := h
  obtain ⟨m, rfl⟩ : ∃ m : Nat, s = m := ⟨s.toNat, by omega⟩
  refine ⟨m, rfl, by omega, by omega, ?_⟩
  by_cases h8 : m = 8
  · subst h8; exact hn
  · have h3 : ¬ 0 < shr .u64 (n : Int) (IntKind.i64.wrap (8 * (m : Int))) := h3.resolve_left (by omega)
    unfold shr at h3
    rw [wrapS (by omega), show (8 * (m : Int)).toNat = 8 * m by omega, show min (8 * m) IntKind.u64.bits = 8 * m by simp only [IntKind.bits]; omega, show ((2 : Int) ^ (8 * m)) = ((256 ^ m : Nat) : Int) by rw [Int.pow_mul]; simp, ← Int.natCast_ediv] at h3
    have h4 : n / 256 ^ m = 0 := Nat.eq_zero_of_not_pos (fun hp => h3 (by exact_mod_cast hp))
    rcases Nat.div_eq_zero_iff.1 h4 with h5 | h5
    · exact absurd h5 (Nat.pos_iff_ne_zero.1 (Nat.pow_pos (by omega)))
    · exact h5
theorem wholeN_nat {n : Int} : wholeN n = ((n % 4294967296).toNat : Int) := by
  unfold wholeN
  rw [IntKind.wrap_i32, show IntKind.u32.wrap ((n + 2147483648) % 4294967296 - 2147483648) = ((n + 2147483648) % 4294967296 - 2147483648) % 4294967296 by simp [IntKind.wrap, IntKind.bits, IntKind.signed], IntKind.wrap_u64]
  omega
theorem blE_ok {b : List Int} {n : Int} (h : blE b n = 0) : (n = 1 ∨ n = 2) ∧ (b.length : Int) < 256 ^ n.toNat := by
  unfold blE at h
  by_cases hn : n = 1 ∨ n = 2
  · have hz : (!decide (n = 1) && !decide (n = 2)) = false := by rcases hn with rfl | rfl <;> rfl
    obtain ⟨e1, e2⟩ := shl8 hn
    rw [hz, cond_false, e1, e2] at h
    refine ⟨hn, ?_⟩
    by_cases c : (256 : Int) ^ n.toNat ≤ (b.length : Int)
    · rw [decide_eq_true c] at h; cases h
    · omega
  · rw [show (!decide (n = 1) && !decide (n = 2)) = true by simp; omega] at h; cases h
end Go.Mx
