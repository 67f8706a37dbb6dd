/- Own work. A part of the proof of a law of this seat: this seat's functions, by the machine, and the plain law -/
import Derived.Test.YtkmabfamdonfoaaDoorSb
import Derived.Laws.Bits64
namespace Go.Sx
open Go Go.RowKit

/-! ### plain facts: bits, texts' bytes -/
theorem bits_xor_nat {k : IntKind} {n : Nat} (hk : k.bits = n) (hs : k.signed = false) {x y : Nat} (hx : x < 2 ^ n) (hy : y < 2 ^ n) : bits .xor k (x : Int) (y : Int) = ((x ^^^ y : Nat) : Int) := by
  subst hk
  have hxy := Nat.xor_lt_two_pow hx hy
  have e1 : ((x : Int) % ((2 ^ k.bits : Nat) : Int)).toNat = x := by rw [← Int.natCast_emod, Int.toNat_natCast, Nat.mod_eq_of_lt hx]
  have e2 : ((y : Int) % ((2 ^ k.bits : Nat) : Int)).toNat = y := by rw [← Int.natCast_emod, Int.toNat_natCast, Nat.mod_eq_of_lt hy]
  simp only [bits, BitVec.toNat_xor, BitVec.toNat_ofInt, e1, e2]
  unfold IntKind.wrap
  simp only [hs]
  have h3 : (((x ^^^ y : Nat) : Int) % ((2 ^ k.bits : Nat) : Int)) = ((x ^^^ y : Nat) : Int) := by rw [← Int.natCast_emod, Nat.mod_eq_of_lt hxy]
  simpa using h3
theorem bits_and15 {k : IntKind} (hk : 8 ≤ k.bits) {x : Int} (hx : 0 ≤ x ∧ x < 2 ^ k.bits) : bits .and k x 15 = x % 16 := by
  obtain ⟨m, rfl⟩ := Int.eq_ofNat_of_zero_le hx.1
  have hm : m < 2 ^ k.bits := by exact_mod_cast hx.2
  have h15 : 15 < 2 ^ k.bits := Nat.lt_of_lt_of_le (by decide : 15 < 2 ^ 8) (Nat.pow_le_pow_right (by decide) hk)
  have e1 : ((m : Int) % ((2 ^ k.bits : Nat) : Int)).toNat = m := by rw [← Int.natCast_emod, Int.toNat_natCast, Nat.mod_eq_of_lt hm]
  have e2 : ((15 : Int) % ((2 ^ k.bits : Nat) : Int)).toNat = 15 := by rw [show (15 : Int) = ((15 : Nat) : Int) from rfl, ← Int.natCast_emod, Int.toNat_natCast, Nat.mod_eq_of_lt h15]
  have e3 : m &&& 15 = m % 16 := Nat.and_two_pow_sub_one_eq_mod m 4
  simp only [bits, BitVec.toNat_and, BitVec.toNat_ofInt, e1, e2, e3]
  have h16 : m % 16 < 16 := Nat.mod_lt _ (by decide)
  unfold IntKind.wrap
  cases k <;> simp [IntKind.bits, IntKind.signed] <;> omega
theorem bytesOf_at {s : ByteArray} {p : Nat} (h : p < s.size) : (bytesOf s).getD p 0 = ((s[p]'h).toNat : Int) := by
  have hl : p < s.data.toList.length := by rw [Array.length_toList]; exact h
  rw [List.getD_eq_getElem?_getD, bytesOf, List.getElem?_map, List.getElem?_eq_getElem hl]
  rfl
theorem bytesOf_range (s : ByteArray) : ∀ x ∈ bytesOf s, 0 ≤ x ∧ x < 256 := by
  intro x hx
  obtain ⟨u, _, rfl⟩ := List.mem_map.1 hx
  have := u.toNat_lt
  omega
theorem bytesOf_len (s : ByteArray) : (bytesOf s).length = s.size := bytesOf_length s
end Go.Sx
