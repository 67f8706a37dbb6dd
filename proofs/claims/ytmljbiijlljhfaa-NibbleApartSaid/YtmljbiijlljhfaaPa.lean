/- Own work. A part of the proof of a law of this seat: The plain law: no program in sight. -/
import Derived.Test.YtmljbiijlljhfaaWf4
import Derived.Test.YtmljbiijlljhfaaSxQ
import Derived.Laws.RangeAny
/- Plain facts of nibbles: what the parts come to, and the document's. -/
open Go Go.RowKit Go.Sx
namespace Go.Proofs.Ytmljbiijlljhfaa
theorem known_ok : warderlaw02_known 20000 = some true := by kernel_rfl

/-! may an index be? -/
/-- a byte, or a rune, that may not be -/
def odd (b : Int) : Bool := decide (b < 33) || decide (126 < b) || decide (b = 59)
theorem may1_ok (b : Int) : nibble_May_1 b = some (odd b) := by
  unfold nibble_May_1 odd
  by_cases h1 : b < 33
  · rw [if_pos h1]; simp [h1]
  · rw [if_neg h1]
    by_cases h2 : 126 < b
    · rw [if_pos h2]; simp [h2]
    · rw [if_neg h2]; simp [h1, h2]
theorem idx_l0 (k : Nat) (s : ByteArray) (hs : s.size ≤ 1000) : ∀ (n p k1 : Nat), s.size - p = n → n < k1 → ∃ r : Int, strings_indexFunc_l0 k s true k1 p = some r ∧ (0 ≤ r ↔ ((bytesOf s).drop p).any odd = true) := by
  intro n
  induction n using Nat.strongRecOn with
  | _ n ih =>
    intro p k1 hn hk
    obtain ⟨k1, rfl⟩ : ∃ q, k1 = q + 1 := ⟨k1 - 1, by omega⟩
    unfold strings_indexFunc_l0
    by_cases hp : p < s.size
    · have hb := bytesOf_at hp
      have hd : (bytesOf s).drop p = ((s[p]'hp).toNat : Int) :: (bytesOf s).drop (p + 1) := by
        have hl : p < (bytesOf s).length := by rw [bytesOf_len]; exact hp
        rw [List.drop_eq_getElem_cons hl, ← hb, List.getD_eq_getElem?_getD, List.getElem?_eq_getElem hl]
        rfl
      rw [if_pos hp, may1_ok, Option.bind_some]
      by_cases h128 : (s[p]'hp).toNat < 128
      · rw [decode_ascii s p hp h128]
        simp only
        by_cases ho : odd ((s[p]'hp).toNat : Int) = true
        · rw [ho]
          refine ⟨p, rfl, ?_⟩
          rw [hd, List.any_cons, ho]
          simp
        · have ho' : odd ((s[p]'hp).toNat : Int) = false := by simpa using ho
          rw [ho']
          obtain ⟨r, h1, h2⟩ := ih (s.size - (p + 1)) (by omega) (p + 1) k1 rfl (by omega)
          refine ⟨r, h1, ?_⟩
          rw [h2, hd, List.any_cons, ho', Bool.false_or]
      · obtain ⟨h1, _⟩ := decode_high s p hp (by omega)
        have ho : odd ((Utf8.decode s p).1 : Int) = true := by unfold odd; simp; omega
        have hob : odd ((s[p]'hp).toNat : Int) = true := by unfold odd; simp; omega
        rw [ho]
        refine ⟨p, rfl, ?_⟩
        rw [hd, List.any_cons, hob]
        simp
    · rw [if_neg hp]
      refine ⟨-1, rfl, ?_⟩
      rw [List.drop_of_length_le (by rw [bytesOf_len]; omega)]
      simp
def may (t : Int) (s : ByteArray) : Bool := decide (1 ≤ t) && decide (t ≤ 4) && decide (1 ≤ s.size) && decide (s.size ≤ 32) && !(bytesOf s).any odd
theorem may_ok (k : Nat) (hk : 1000 < k) (t : Int) (s : ByteArray) : nibble_May k t s = some (may t s) := by
  unfold nibble_May may
  by_cases h1 : 1 ≤ t
  · by_cases h2 : t ≤ 4
    · by_cases h3 : 1 ≤ s.size
      · by_cases h4 : s.size ≤ 32
        · rw [if_pos h1, if_pos h2, if_pos (by omega), if_pos (by omega)]
          obtain ⟨r, e1, e2⟩ := idx_l0 k s (by omega) s.size 0 k rfl (by omega)
          rw [List.drop_zero] at e2
          unfold strings_ContainsFunc strings_IndexFunc strings_indexFunc
          rw [e1]
          simp only [Option.bind_some]
          simp only [h1, h2, h3, h4, decide_true, Bool.true_and]
          congr 2
          exact Bool.eq_iff_iff.2 (decide_eq_true_iff.trans e2)
        · rw [if_pos h1, if_pos h2, if_pos (by omega), if_neg (by omega)]; simp [h4]
      · rw [if_pos h1, if_pos h2, if_neg (by omega)]; simp [h3]
    · rw [if_pos h1, if_neg h2]; simp [h2]
  · rw [if_neg h1]; simp [h1]
theorem rmay_l1 (k : Nat) (s : ByteArray) (hs : s.size ≤ 1000) : ∀ (n p k1 : Nat), s.size - p = n → n < k1 → p ≤ s.size → warderref02_May_l1 k s k1 p = some (!((bytesOf s).drop p).any odd) := by
  intro n
  induction n with
  | zero =>
    intro p k1 hn hk hp
    obtain ⟨k1, rfl⟩ : ∃ q, k1 = q + 1 := ⟨k1 - 1, by omega⟩
    unfold warderref02_May_l1
    rw [if_neg (by omega), List.drop_of_length_le (by rw [bytesOf_len]; omega)]
    rfl
  | succ n ih =>
    intro p k1 hn hk hp
    obtain ⟨k1, rfl⟩ : ∃ q, k1 = q + 1 := ⟨k1 - 1, by omega⟩
    have hlt : p < (bytesOf s).length := by rw [bytesOf_len]; omega
    have hd : (bytesOf s).drop p = (bytesOf s).getD p 0 :: (bytesOf s).drop (p + 1) := by
      rw [List.drop_eq_getElem_cons hlt, List.getD_eq_getElem?_getD, List.getElem?_eq_getElem hlt]
      rfl
    unfold warderref02_May_l1
    rw [if_pos (by omega)]
    refine (ck_pos (by omega)).trans ?_
    rw [hd, List.any_cons, Int.toNat_natCast]
    by_cases h1 : (bytesOf s).getD p 0 < 33
    · rw [if_pos h1]
      have : odd ((bytesOf s).getD p 0) = true := by unfold odd; simp only [h1, decide_true, Bool.true_or]
      rw [this]; rfl
    rw [if_neg h1]
    refine (ck_pos (by omega)).trans ?_
    by_cases h2 : 126 < (bytesOf s).getD p 0
    · rw [if_pos h2]
      have : odd ((bytesOf s).getD p 0) = true := by unfold odd; simp only [h2, decide_true, Bool.true_or, Bool.or_true]
      rw [this]; rfl
    rw [if_neg h2]
    refine (ck_pos (by omega)).trans ?_
    by_cases h3 : (bytesOf s).getD p 0 = 59
    · rw [if_pos h3]
      have : odd ((bytesOf s).getD p 0) = true := by unfold odd; simp only [h3, decide_true, Bool.or_true]
      rw [this]; rfl
    rw [if_neg h3, wrapS (by omega)]
    have ho : odd ((bytesOf s).getD p 0) = false := by unfold odd; simp only [h1, h2, h3, decide_false, Bool.or_false]
    rw [ho, Bool.false_or]
    have := ih (p + 1) k1 (by omega) (by omega) (by omega)
    simpa using this
theorem rmay_ok (k : Nat) (hk : 1000 < k) (t : Int) (s : ByteArray) : warderref02_May k t s = some (may t s) := by
  unfold warderref02_May may
  by_cases h1 : t < 1
  · rw [if_pos h1]; simp [show ¬ 1 ≤ t by omega]
  by_cases h2 : 4 < t
  · rw [if_neg h1, if_pos h2]; simp [show ¬ t ≤ 4 by omega]
  by_cases h3 : (s.size : Int) < 1
  · rw [if_neg h1, if_neg h2, if_pos h3]; simp [show ¬ 1 ≤ s.size by omega]
  by_cases h4 : (32 : Int) < s.size
  · rw [if_neg h1, if_neg h2, if_neg h3, if_pos h4]; simp [show ¬ s.size ≤ 32 by omega]
  rw [if_neg h1, if_neg h2, if_neg h3, if_neg h4]
  unfold warderref02_May_j0
  have := rmay_l1 k s (by omega) s.size 0 k rfl (by omega) (by omega)
  rw [List.drop_zero] at this
  rw [show ((0 : Int)) = ((0 : Nat) : Int) from rfl, this]
  simp [show 1 ≤ t by omega, show t ≤ 4 by omega, show 1 ≤ s.size by omega, show s.size ≤ 32 by omega]
end Go.Proofs.Ytmljbiijlljhfaa
