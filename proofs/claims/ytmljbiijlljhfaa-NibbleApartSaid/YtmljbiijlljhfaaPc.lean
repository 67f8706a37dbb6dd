/- Own work. A part of the proof of a law of this seat: The plain law: no program in sight. -/
import Derived.Test.YtmljbiijlljhfaaPb
/- Plain facts of nibbles: an index' nibbles. -/
open Go Go.RowKit Go.Sx
namespace Go.Proofs.Ytmljbiijlljhfaa
theorem shr4 (k : IntKind) (hk : 8 ≤ k.bits) (x : Int) : shr k x 4 = x / 16 := by
  unfold shr
  rw [show min (4 : Int).toNat k.bits = 4 by have : (4 : Int).toNat = 4 := rfl; omega]
  rfl
theorem cut_byte2 (k : Nat) (n : Int) (hn : 0 ≤ n ∧ n < 256) : nibble_cut_byte (k + 3) n 2 = some [n / 16, n % 16] := by
  have h1 : bits .and .u8 n 15 = n % 16 := bits_and15 (by decide) (by simpa [IntKind.bits] using hn)
  have h2 : bits .and .u8 (n / 16) 15 = n / 16 := by rw [bits_and15 (by decide) (by simp only [IntKind.bits]; omega)]; omega
  have hs : ∀ x, shr .u8 x 4 = x / 16 := shr4 .u8 (by decide)
  simp [nibble_cut_byte, nibble_cut_byte_l0, ck, IntKind.wrap_i64, hs, h1, h2]
theorem cut_len2 (k : Nat) (n : Int) (hn : 0 ≤ n ∧ n < 256) : nibble_cut_int (k + 3) n 2 = some [n / 16, n % 16] := by
  have h1 : bits .and .i64 n 15 = n % 16 := bits_and15 (by decide) (by simp only [IntKind.bits]; omega)
  have h2 : bits .and .i64 (n / 16) 15 = n / 16 := by rw [bits_and15 (by decide) (by simp only [IntKind.bits]; omega)]; omega
  have h3 : n % 16 % 256 = n % 16 := by omega
  have h4 : n / 16 % 256 = n / 16 := by omega
  have hs : ∀ x, shr .i64 x 4 = x / 16 := shr4 .i64 (by decide)
  simp [nibble_cut_int, nibble_cut_int_l0, ck, IntKind.wrap_i64, IntKind.wrap_u8, hs, h1, h2, h3, h4]
theorem cut_type1 (k : Nat) (n : Int) (hn : 0 ≤ n ∧ n < 16) : nibble_cut_api_KeyType (k + 3) n 1 = some [n] := by
  have h1 : bits .and .i64 n 15 = n := by rw [bits_and15 (by decide) (by simp only [IntKind.bits]; omega)]; omega
  have h3 : n % 256 = n := by omega
  have hs : ∀ x, shr .i64 x 4 = x / 16 := shr4 .i64 (by decide)
  simp [nibble_cut_api_KeyType, nibble_cut_api_KeyType_l0, ck, IntKind.wrap_i64, IntKind.wrap_u8, hs, h1, h3]
theorem cut_hash4 (k : Nat) (n : Int) (hn : 0 ≤ n ∧ n < 65536) : nibble_cut_uint16 (k + 5) n 4 = some [n / 4096, n / 256 % 16, n / 16 % 16, n % 16] := by
  have h0 : bits .and .u16 n 15 = n % 16 := bits_and15 (by decide) (by simp only [IntKind.bits]; omega)
  have h1 : bits .and .u16 (n / 16) 15 = n / 16 % 16 := bits_and15 (by decide) (by simp only [IntKind.bits]; omega)
  have h2 : bits .and .u16 (n / 16 / 16) 15 = n / 16 / 16 % 16 := bits_and15 (by decide) (by simp only [IntKind.bits]; omega)
  have h3 : bits .and .u16 (n / 16 / 16 / 16) 15 = n / 16 / 16 / 16 % 16 := bits_and15 (by decide) (by simp only [IntKind.bits]; omega)
  have e0 : n % 16 % 256 = n % 16 := by omega
  have e1 : n / 16 % 16 % 256 = n / 16 % 16 := by omega
  have e2 : n / 16 / 16 % 16 % 256 = n / 256 % 16 := by omega
  have e3 : n / 16 / 16 / 16 % 16 % 256 = n / 4096 := by omega
  have hs : ∀ x, shr .u16 x 4 = x / 16 := shr4 .u16 (by decide)
  simp [nibble_cut_uint16, nibble_cut_uint16_l0, ck, IntKind.wrap_i64, IntKind.wrap_u8, hs, h0, h1, h2, h3, e0, e1, e2, e3]

/-! lists one behind the other -/
theorem grow_ok (n : Int) (h : 0 ≤ n ∧ n ≤ 1000000) : slices_Grow_byte_byte n = some [] := by
  unfold slices_Grow_byte_byte
  rw [if_neg (by omega)]
  unfold slices_Grow_byte_byte_j0
  have h0 : IntKind.i64.wrap (n - IntKind.i64.wrap (0 - 0)) = n := by rw [wrapS (x := 0 - 0) (by decide), wrapS (by omega)]; omega
  simp only [h0]
  by_cases h1 : 0 < n
  · rw [if_pos h1]
    refine (ck_pos (by simp; omega)).trans ?_
    refine (ck_pos (by simp; omega)).trans ?_
    simp
  · rw [if_neg h1]
theorem concat3 (k : Nat) (x y z : List Int) (hx : x.length ≤ 1000) (hy : y.length ≤ 1000) (hz : z.length ≤ 1000) : slices_Concat_byte_byte (k + 5) [x, y, z] = some (x ++ y ++ z) := by
  have w : ∀ m : Int, 0 ≤ m ∧ m < 1000000 → IntKind.i64.wrap m = m := fun m hm => wrapS (by omega)
  have e1 : IntKind.i64.wrap (x.length : Int) = x.length := w _ (by omega)
  have e2 : IntKind.i64.wrap ((x.length : Int) + (y.length : Int)) = (x.length : Int) + (y.length : Int) := w _ (by omega)
  have e3 : IntKind.i64.wrap ((x.length : Int) + (y.length : Int) + (z.length : Int)) = (x.length : Int) + (y.length : Int) + (z.length : Int) := w _ (by omega)
  have c1 : IntKind.i64.wrap 1 = 1 := by decide
  have c2 : IntKind.i64.wrap 2 = 2 := by decide
  have c3 : IntKind.i64.wrap 3 = 3 := by decide
  have n1 : ¬ (x.length : Int) < 0 := by omega
  have n2 : ¬ (x.length : Int) + (y.length : Int) < 0 := by omega
  have n3 : ¬ (x.length : Int) + (y.length : Int) + (z.length : Int) < 0 := by omega
  have g := grow_ok ((x.length : Int) + (y.length : Int) + (z.length : Int)) (by omega)
  have l1 : x.length ≤ 140737488355328 := by omega
  have l2 : x.length + y.length ≤ 140737488355328 := by omega
  have l3 : x.length + (y.length + z.length) ≤ 140737488355328 := by omega
  have l4 : x.length + y.length + z.length ≤ 140737488355328 := by omega
  simp [slices_Concat_byte_byte, slices_Concat_byte_byte_l0, slices_Concat_byte_byte_l1, ck, e1, e2, e3, c1, c2, c3, n1, n2, n3, g, l1, l2, l3, l4]
/-- a description's nibbles -/
def nibs (l : List Int) : List Int := l.flatMap fun c => [c / 16, c % 16]
theorem nibs_length (l : List Int) : (nibs l).length = 2 * l.length := by
  induction l with
  | nil => rfl
  | cons c l ih => simp only [nibs, List.flatMap_cons, List.length_append] at ih ⊢; rw [ih]; simp; omega
theorem nibs_append (l m : List Int) : nibs (l ++ m) = nibs l ++ nibs m := by simp [nibs]
theorem of_l0 (k : Nat) (hk0 : 10 < k) (s : ByteArray) (hs : s.size ≤ 1000) : ∀ (n i k1 : Nat) (x : List Int), s.size - i = n → i ≤ s.size → n < k1 → x.length ≤ 10000 + 2 * i → nibble_Of_l0 k s k1 x i = some (x ++ nibs ((bytesOf s).drop i)) := by
  intro n
  have hb := bytesOf_len s
  induction n with
  | zero =>
    intro i k1 x hn hi hk hx
    obtain ⟨k1, rfl⟩ : ∃ q, k1 = q + 1 := ⟨k1 - 1, by omega⟩
    unfold nibble_Of_l0
    rw [if_neg (by omega), List.drop_of_length_le (by omega)]
    simp [nibs]
  | succ n ih =>
    intro i k1 x hn hi hk hx
    obtain ⟨k1, rfl⟩ : ∃ q, k1 = q + 1 := ⟨k1 - 1, by omega⟩
    obtain ⟨k', rfl⟩ : ∃ q, k = q + 3 := ⟨k - 3, by omega⟩
    have hlt : i < (bytesOf s).length := by omega
    have hr := bytesOf_range s _ (getD_mem hlt 0)
    unfold nibble_Of_l0
    rw [if_pos (by omega)]
    refine (ck_pos (by omega)).trans ?_
    rw [Int.toNat_natCast, cut_byte2 k' _ hr, Option.bind_some]
    refine (ck_pos (by simp only [List.length_cons, List.length_nil]; omega)).trans ?_
    rw [wrapS (by omega), drop_at hlt]
    have := ih (i + 1) k1 (x ++ [(bytesOf s).getD i 0 / 16, (bytesOf s).getD i 0 % 16]) (by omega) (by omega) (by omega) (by simp only [List.length_append, List.length_cons, List.length_nil]; omega)
    rw [show ((i : Int) + 1) = ((i + 1 : Nat) : Int) by omega, this]
    simp [nibs]
/-- an index' nibbles -/
def ofv (t : Int) (s : ByteArray) : List Int := bif may t s then [(hashv t s : Int) / 4096, (hashv t s : Int) / 256 % 16, (hashv t s : Int) / 16 % 16, (hashv t s : Int) % 16, (s.size : Int) / 16, (s.size : Int) % 16, t] ++ nibs (bytesOf s) else []
theorem may_parts {t : Int} {s : ByteArray} (h : may t s = true) : 1 ≤ t ∧ t ≤ 4 ∧ 1 ≤ s.size ∧ s.size ≤ 32 ∧ (bytesOf s).any odd = false := by
  unfold may at h
  simp only [Bool.and_eq_true, decide_eq_true_eq, Bool.not_eq_true'] at h
  exact ⟨h.1.1.1.1, h.1.1.1.2, h.1.1.2, h.1.2, h.2⟩
theorem of_ok (k : Nat) (hk : 10000 < k) (t : Int) (s : ByteArray) : nibble_Of k t s = some (ofv t s) := by
  unfold nibble_Of ofv
  rw [may_ok k (by omega), Option.bind_some]
  cases hm : may t s with
  | false => rfl
  | true =>
    obtain ⟨h1, h2, h3, h4, _⟩ := may_parts hm
    have hh := hashv_lt t s
    obtain ⟨k', rfl⟩ : ∃ q, k = q + 5 := ⟨k - 5, by omega⟩
    simp only [Bool.not_true, cond_false, cond_true]
    rw [hash_ok _ hk t s (by omega), Option.bind_some, cut_hash4 k' _ (by omega), Option.bind_some, cut_len2 (k' + 2) _ (by omega), Option.bind_some, cut_type1 (k' + 2) _ (by omega), Option.bind_some, concat3 k' _ _ _ (by simp) (by simp) (by simp), Option.bind_some]
    refine (ck_pos (by omega)).trans ?_
    have := of_l0 (k' + 5) (by omega) s (by omega) s.size 0 (k' + 5) ([(hashv t s : Int) / 4096, (hashv t s : Int) / 256 % 16, (hashv t s : Int) / 16 % 16, (hashv t s : Int) % 16] ++ [(s.size : Int) / 16, (s.size : Int) % 16] ++ [t]) (by omega) (by omega) (by omega) (by simp)
    simpa using this
theorem rof_l0 (k : Nat) (s : ByteArray) (hs : s.size ≤ 1000) : ∀ (n i k1 : Nat) (x : List Int), s.size - i = n → i ≤ s.size → n < k1 → x.length ≤ 10000 + 2 * i → warderref02_Of_l0 k s k1 x i = some (x ++ nibs ((bytesOf s).drop i)) := by
  intro n
  have hb := bytesOf_len s
  induction n with
  | zero =>
    intro i k1 x hn hi hk hx
    obtain ⟨k1, rfl⟩ : ∃ q, k1 = q + 1 := ⟨k1 - 1, by omega⟩
    unfold warderref02_Of_l0
    rw [if_neg (by omega), List.drop_of_length_le (by omega)]
    simp [nibs]
  | succ n ih =>
    intro i k1 x hn hi hk hx
    obtain ⟨k1, rfl⟩ : ∃ q, k1 = q + 1 := ⟨k1 - 1, by omega⟩
    have hlt : i < (bytesOf s).length := by omega
    have hr := bytesOf_range s _ (getD_mem hlt 0)
    unfold warderref02_Of_l0
    rw [if_pos (by omega)]
    refine (ck_pos (by omega)).trans ?_
    refine (ck_pos (by omega)).trans ?_
    refine (ck_pos (by simp only [List.length_cons, List.length_nil]; omega)).trans ?_
    have e1 : IntKind.u8.wrap (((bytesOf s).getD i 0).tdiv 16) = (bytesOf s).getD i 0 / 16 := by rw [Int.tdiv_eq_ediv_of_nonneg hr.1, IntKind.wrap_u8]; omega
    have e2 : ((bytesOf s).getD i 0).tmod 16 = (bytesOf s).getD i 0 % 16 := Int.tmod_eq_emod_of_nonneg hr.1
    rw [Int.toNat_natCast, e1, e2, wrapS (by omega), drop_at hlt]
    have := ih (i + 1) k1 (x ++ [(bytesOf s).getD i 0 / 16, (bytesOf s).getD i 0 % 16]) (by omega) (by omega) (by omega) (by simp only [List.length_append, List.length_cons, List.length_nil]; omega)
    rw [show ((i : Int) + 1) = ((i + 1 : Nat) : Int) by omega, this]
    simp [nibs]
theorem rof_ok (k : Nat) (hk : 10000 < k) (t : Int) (s : ByteArray) : warderref02_Of k t s = some (ofv t s) := by
  unfold warderref02_Of ofv
  rw [rmay_ok k (by omega), Option.bind_some]
  cases hm : may t s with
  | false => rfl
  | true =>
    obtain ⟨h1, h2, h3, h4, _⟩ := may_parts hm
    have hh := hashv_lt t s
    simp only [Bool.not_true, cond_false, cond_true]
    rw [rhash_ok _ hk t s (by omega), Option.bind_some]
    have q : ∀ d : Int, 0 < d → (hashv t s : Int).tdiv d = (hashv t s : Int) / d := fun d _ => Int.tdiv_eq_ediv_of_nonneg (by omega)
    have e1 : IntKind.u8.wrap (IntKind.i64.wrap ((hashv t s : Int).tdiv 4096)) = (hashv t s : Int) / 4096 := by rw [q _ (by decide), wrapS (by omega), wrapB (by omega)]
    have e2 : IntKind.u8.wrap ((IntKind.i64.wrap ((hashv t s : Int).tdiv 256)).tmod 16) = (hashv t s : Int) / 256 % 16 := by rw [q _ (by decide), wrapS (by omega), Int.tmod_eq_emod_of_nonneg (by omega), wrapB (by omega)]
    have e3 : IntKind.u8.wrap ((IntKind.i64.wrap ((hashv t s : Int).tdiv 16)).tmod 16) = (hashv t s : Int) / 16 % 16 := by rw [q _ (by decide), wrapS (by omega), Int.tmod_eq_emod_of_nonneg (by omega), wrapB (by omega)]
    have e4 : IntKind.u8.wrap ((hashv t s : Int).tmod 16) = (hashv t s : Int) % 16 := by rw [Int.tmod_eq_emod_of_nonneg (by omega), wrapB (by omega)]
    have e5 : IntKind.u8.wrap (IntKind.i64.wrap ((s.size : Int).tdiv 16)) = (s.size : Int) / 16 := by rw [Int.tdiv_eq_ediv_of_nonneg (by omega), wrapS (by omega), wrapB (by omega)]
    have e6 : IntKind.u8.wrap ((s.size : Int).tmod 16) = (s.size : Int) % 16 := by rw [Int.tmod_eq_emod_of_nonneg (by omega), wrapB (by omega)]
    have e7 : IntKind.u8.wrap t = t := wrapB (by omega)
    rw [e1, e2, e3, e4, e5, e6, e7]
    have := rof_l0 k s (by omega) s.size 0 k [(hashv t s : Int) / 4096, (hashv t s : Int) / 256 % 16, (hashv t s : Int) / 16 % 16, (hashv t s : Int) % 16, (s.size : Int) / 16, (s.size : Int) % 16, t] (by omega) (by omega) (by omega) (by simp)
    simpa using this
theorem ofv_length (t : Int) (s : ByteArray) : (ofv t s).length = bif may t s then 7 + 2 * s.size else 0 := by
  unfold ofv
  cases may t s with
  | false => rfl
  | true => simp [nibs_length, bytesOf_len]; omega
end Go.Proofs.Ytmljbiijlljhfaa
