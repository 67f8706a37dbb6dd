/- Own work. A part of the proof of a law of this seat: The plain law: no program in sight. -/
import Derived.Test.YtmljbiijlljhfaaWd
import Derived.Test.YtmljbiijlljhfaaSxP
/- The plain law of NibbleDiffs: no program in sight. -/
open Go Go.RowKit Go.Sx
namespace Go.Proofs.Ytmljbiijlljhfaa
theorem known_true : warderlaw02_known 2000 = some true := by kernel_rfl

/-- m is where a and b part. -/
def Part (a b : List Int) (m : Nat) : Prop := m ≤ a.length ∧ m ≤ b.length ∧ (∀ j, j < m → a.getD j 0 = b.getD j 0) ∧ (m < a.length → m < b.length → a.getD m 0 ≠ b.getD m 0)
theorem Part.uniq {a b : List Int} {m n : Nat} (h : Part a b m) (h' : Part a b n) : m = n := by
  obtain ⟨h1, h2, h3, h4⟩ := h
  obtain ⟨g1, g2, g3, g4⟩ := h'
  rcases Nat.lt_trichotomy m n with hl | hl | hl
  · exact absurd (g3 m hl) (h4 (by omega) (by omega))
  · exact hl
  · exact absurd (h3 n hl) (g4 (by omega) (by omega))
theorem Part.symm {a b : List Int} {m : Nat} (h : Part a b m) : Part b a m := ⟨h.2.1, h.1, fun j hj => (h.2.2.1 j hj).symm, fun h1 h2 => (h.2.2.2 h2 h1).symm⟩
def answer (a b : List Int) (m : Nat) : Int := if m = a.length ∧ m = b.length then -1 else (m : Int)

theorem diff_l0 (k : Nat) (a b : List Int) (ha : a.length ≤ 100000) (_ : b.length ≤ 100000) : ∀ (n i k1 : Nat), a.length - i = n → i ≤ a.length → i ≤ b.length → n < k1 → (∀ j, j < i → a.getD j 0 = b.getD j 0) →
    ∃ m, Part a b m ∧ nibble_Diff_l0 k a b k1 (i : Int) = some (answer a b m) := by
  intro n
  induction n with
  | zero =>
    intro i k1 hn hi hi2 hk hall
    obtain ⟨k1, rfl⟩ : ∃ q, k1 = q + 1 := ⟨k1 - 1, by omega⟩
    have hia : i = a.length := by omega
    subst hia
    refine ⟨a.length, ⟨by omega, hi2, hall, fun h => by omega⟩, ?_⟩
    have hm : (if (b.length : Int) < (a.length : Int) then (b.length : Int) else (a.length : Int)) = a.length := if_neg (by omega)
    unfold nibble_Diff_l0 answer
    rw [hm, if_neg (by omega)]
    by_cases he : a.length = b.length
    · rw [if_pos (by omega), if_pos ⟨rfl, he⟩]
    · rw [if_neg (by omega), if_neg (fun h => he h.2)]
  | succ n ih =>
    intro i k1 hn hi hi2 hk hall
    obtain ⟨k1, rfl⟩ : ∃ q, k1 = q + 1 := ⟨k1 - 1, by omega⟩
    simp only [nibble_Diff_l0]
    by_cases hlt : i < b.length
    · rw [if_pos (by split <;> omega), ck_pos (by omega), ck_pos (by omega)]
      simp only [Int.toNat_natCast]
      by_cases he : a.getD i 0 = b.getD i 0
      · rw [if_pos he, wrapS (by omega)]
        have := ih (i + 1) k1 (by omega) (by omega) (by omega) (by omega) (fun j hj => by
          rcases Nat.lt_or_ge j i with h | h
          · exact hall j h
          · have : j = i := by omega
            rw [this]; exact he)
        simpa using this
      · rw [if_neg he]
        refine ⟨i, ⟨hi, hi2, hall, fun _ _ => he⟩, ?_⟩
        unfold answer
        rw [if_neg (by omega)]
    · have hib : i = b.length := by omega
      subst hib
      refine ⟨b.length, ⟨hi, by omega, hall, fun _ h => by omega⟩, ?_⟩
      have hm : (if (b.length : Int) < (a.length : Int) then (b.length : Int) else (a.length : Int)) = b.length := if_pos (by omega)
      rw [hm, if_neg (by omega), if_neg (by omega)]
      unfold answer
      rw [if_neg (by omega)]
theorem diff_ok (a b : List Int) (ha : a.length ≤ 500) (hb : b.length ≤ 500) : ∃ m, Part a b m ∧ nibble_Diff 2000 a b = some (answer a b m) :=
  diff_l0 2000 a b (by omega) (by omega) a.length 0 2000 (by omega) (by omega) (by omega) (by omega) (fun j hj => by omega)

theorem rdiff_l0 (k : Nat) (a b : List Int) (ha : a.length ≤ 100000) (_ : b.length ≤ 100000) : ∀ (n i k1 : Nat), a.length - i = n → i ≤ a.length → i ≤ b.length → n < k1 → (∀ j, j < i → a.getD j 0 = b.getD j 0) →
    ∃ m, Part a b m ∧ warderref02_Diff_l0 k a b k1 (i : Int) = some (answer a b m) := by
  intro n
  have tail : ∀ i : Nat, (if (i : Int) = (a.length : Int) then (if (i : Int) = (b.length : Int) then (some (-1 : Int)) else (some (i : Int))) else (some (i : Int))) = some (answer a b i) := by
    intro i
    unfold answer
    by_cases h1 : i = a.length
    · by_cases h2 : i = b.length
      · rw [if_pos (by omega), if_pos (by omega), if_pos ⟨h1, h2⟩]
      · rw [if_pos (by omega), if_neg (by omega), if_neg (fun h => h2 h.2)]
    · rw [if_neg (by omega), if_neg (fun h => h1 h.1)]
  induction n with
  | zero =>
    intro i k1 hn hi hi2 hk hall
    obtain ⟨k1, rfl⟩ : ∃ q, k1 = q + 1 := ⟨k1 - 1, by omega⟩
    refine ⟨i, ⟨by omega, hi2, hall, fun h => by omega⟩, ?_⟩
    simp only [warderref02_Diff_l0]
    rw [if_neg (by omega), tail]
  | succ n ih =>
    intro i k1 hn hi hi2 hk hall
    obtain ⟨k1, rfl⟩ : ∃ q, k1 = q + 1 := ⟨k1 - 1, by omega⟩
    simp only [warderref02_Diff_l0]
    rw [if_pos (by omega)]
    by_cases hlt : i < b.length
    · rw [if_pos (by omega), ck_pos (by omega), ck_pos (by omega)]
      simp only [Int.toNat_natCast]
      by_cases he : a.getD i 0 = b.getD i 0
      · rw [if_pos he, wrapS (by omega)]
        have := ih (i + 1) k1 (by omega) (by omega) (by omega) (by omega) (fun j hj => by
          rcases Nat.lt_or_ge j i with h | h
          · exact hall j h
          · have : j = i := by omega
            rw [this]; exact he)
        simpa using this
      · rw [if_neg he, tail]
        exact ⟨i, ⟨hi, hi2, hall, fun _ _ => he⟩, rfl⟩
    · rw [if_neg (by omega), tail]
      exact ⟨i, ⟨hi, hi2, hall, fun _ h => absurd h hlt⟩, rfl⟩
theorem rdiff_ok (a b : List Int) (ha : a.length ≤ 500) (hb : b.length ≤ 500) : ∃ m, Part a b m ∧ warderref02_Diff 2000 a b = some (answer a b m) :=
  rdiff_l0 2000 a b (by omega) (by omega) a.length 0 2000 (by omega) (by omega) (by omega) (by omega) (fun j hj => by omega)

/-- a nibble's digit -/
def tx (v : Int) : Int := if v < 10 then 48 + v else if v < 16 then 87 + v else 63
theorem digits_at : ∀ n, n < 16 → (bytesOf (⟨#[48, 49, 50, 51, 52, 53, 54, 55, 56, 57, 97, 98, 99, 100, 101, 102]⟩ : ByteArray)).getD n 0 = tx (n : Int) := by decide
theorem tx_range {v : Int} (h : 0 ≤ v ∧ v < 256) : 0 ≤ tx v ∧ tx v < 256 := by unfold tx; split <;> (try split) <;> omega
theorem write_ok (xs : List Int) (c : Int) (h : xs.length ≤ 100000) : strings_Builder_WriteByte xs c = some ((), ((), xs ++ [c])) := by
  simp only [strings_Builder_WriteByte, strings_Builder_copyCheck, Option.bind_some]
  rw [ck_pos (by simp; omega)]
theorem text_l0 (k : Nat) (a : List Int) (ha : a.length ≤ 500) (hw : ∀ x ∈ a, 0 ≤ x ∧ x < 256) : ∀ (n i k1 : Nat), a.length - i = n → i ≤ a.length → n < k1 →
    nibble_Text_l0 k a k1 ((a.take i).map tx) (i : Int) = some (strOf (a.map tx)) := by
  intro n
  induction n with
  | zero =>
    intro i k1 hn hi hk
    obtain ⟨k1, rfl⟩ : ∃ q, k1 = q + 1 := ⟨k1 - 1, by omega⟩
    have hia : i = a.length := by omega
    subst hia
    simp only [nibble_Text_l0]
    rw [if_neg (by omega), List.take_length, ck_pos]
    intro x hx
    obtain ⟨y, hy, rfl⟩ := List.mem_map.1 hx
    exact tx_range (hw y hy)
  | succ n ih =>
    intro i k1 hn hi hk
    obtain ⟨k1, rfl⟩ : ∃ q, k1 = q + 1 := ⟨k1 - 1, by omega⟩
    have hlt : i < a.length := by omega
    have hv := hw _ (getD_mem hlt 0)
    have hnext : (a.take i).map tx ++ [tx (a.getD i 0)] = (a.take (i + 1)).map tx := by rw [take_succ_getD hlt, List.map_append]; rfl
    have hlen : ((a.take i).map tx).length ≤ 100000 := by rw [List.length_map, List.length_take]; omega
    simp only [nibble_Text_l0]
    rw [if_pos (by omega), ck_pos (by omega)]
    simp only [Int.toNat_natCast]
    rw [wrapS (by omega), wrapS (by omega)]
    have step := ih (i + 1) k1 (by omega) (by omega) (by omega)
    by_cases h16 : a.getD i 0 < 16
    · have hsz : ((⟨#[48, 49, 50, 51, 52, 53, 54, 55, 56, 57, 97, 98, 99, 100, 101, 102]⟩ : ByteArray).size : Int) = 16 := by decide
      rw [if_pos h16, ck_pos (by rw [hsz]; omega)]
      have hd := digits_at (a.getD i 0).toNat (by omega)
      rw [Int.toNat_of_nonneg hv.1] at hd
      rw [hd, write_ok _ _ hlen, Option.bind_some, hnext]
      simpa using step
    · have ht : tx (a.getD i 0) = 63 := by unfold tx; rw [if_neg (by omega), if_neg h16]
      rw [if_neg h16, ← ht, write_ok _ _ hlen, Option.bind_some, hnext]
      simpa using step
theorem text_ok (a : List Int) (ha : a.length ≤ 500) (hw : ∀ x ∈ a, 0 ≤ x ∧ x < 256) : nibble_Text 2000 a = some (strOf (a.map tx)) := by
  have := text_l0 2000 a ha hw a.length 0 2000 (by omega) (by omega) (by omega)
  simpa [nibble_Text] using this
theorem rtext_l0 (k : Nat) (a : List Int) (ha : a.length ≤ 500) (hw : ∀ x ∈ a, 0 ≤ x ∧ x < 256) : ∀ (n i k1 : Nat), a.length - i = n → i ≤ a.length → n < k1 →
    warderref02_Text_l0 k a k1 (strOf ((a.take i).map tx)) (i : Int) = some (strOf (a.map tx)) := by
  intro n
  induction n with
  | zero =>
    intro i k1 hn hi hk
    obtain ⟨k1, rfl⟩ : ∃ q, k1 = q + 1 := ⟨k1 - 1, by omega⟩
    have hia : i = a.length := by omega
    subst hia
    simp only [warderref02_Text_l0]
    rw [if_neg (by omega), List.take_length]
  | succ n ih =>
    intro i k1 hn hi hk
    obtain ⟨k1, rfl⟩ : ∃ q, k1 = q + 1 := ⟨k1 - 1, by omega⟩
    have hlt : i < a.length := by omega
    have hv := hw _ (getD_mem hlt 0)
    have hnext : (a.take i).map tx ++ [tx (a.getD i 0)] = (a.take (i + 1)).map tx := by rw [take_succ_getD hlt, List.map_append]; rfl
    have hlen : ((a.take i).map tx).length ≤ 100000 := by rw [List.length_map, List.length_take]; omega
    have hsz : ∀ c : Int, (strOf ((a.take i).map tx)).size + (strOf [c]).size ≤ 140737488355328 := by intro c; rw [strOf_size, strOf_size]; simp only [List.length_cons, List.length_nil]; omega
    simp only [warderref02_Text_l0]
    rw [if_pos (by omega), ck_pos (by omega)]
    simp only [Int.toNat_natCast]
    rw [wrapS (by omega)]
    have step := ih (i + 1) k1 (by omega) (by omega) (by omega)
    rw [← hnext, ← strOf_append] at step
    by_cases h10 : a.getD i 0 < 10
    · have ht : tx (a.getD i 0) = 48 + a.getD i 0 := by unfold tx; rw [if_pos h10]
      rw [if_pos h10, ck_pos (by omega), wrapB (by omega)]
      refine (ck_pos (hsz _)).trans ?_
      rw [← ht]
      simpa using step
    · rw [if_neg h10, ck_pos (by omega)]
      by_cases h16 : a.getD i 0 < 16
      · have ht : tx (a.getD i 0) = 97 + a.getD i 0 - 10 := by unfold tx; rw [if_neg h10, if_pos h16]; omega
        rw [if_pos h16, ck_pos (by omega), wrapB (x := 97 + a.getD i 0) (by omega), wrapB (by omega)]
        refine (ck_pos (hsz _)).trans ?_
        rw [← ht]
        simpa using step
      · have ht : tx (a.getD i 0) = 63 := by unfold tx; rw [if_neg h10, if_neg h16]
        rw [if_neg h16, ck_pos (hsz 63), ← ht]
        simpa using step
theorem rtext_ok (a : List Int) (ha : a.length ≤ 500) (hw : ∀ x ∈ a, 0 ≤ x ∧ x < 256) : warderref02_Text 2000 a = some (strOf (a.map tx)) := by
  have := rtext_l0 2000 a ha hw a.length 0 2000 (by omega) (by omega) (by omega)
  simpa [warderref02_Text, strOf_nil] using this

theorem NibbleDiffs_true (a : List Int) (ha : a.length ≤ maxLen ∧ ∀ x ∈ a, (Lit.int .u8 x).wf = true) (b : List Int) (hb : b.length ≤ maxLen ∧ ∀ x ∈ b, (Lit.int .u8 x).wf = true) : ∃ k, warderlaw02_NibbleDiffs k a b = some true := by
  refine ⟨2000, ?_⟩
  have hwa : ∀ x ∈ a, 0 ≤ x ∧ x < 256 := fun x hx => wf8 (ha.2 x hx)
  have hwb : ∀ x ∈ b, 0 ≤ x ∧ x < 256 := fun x hx => wf8 (hb.2 x hx)
  unfold warderlaw02_NibbleDiffs
  by_cases h1 : (500 : Int) < a.length
  · rw [if_pos h1, known_true]; rfl
  rw [if_neg h1]
  by_cases h2 : (500 : Int) < b.length
  · rw [if_pos h2, known_true]; rfl
  rw [if_neg h2]
  have la : a.length ≤ 500 := by omega
  have lb : b.length ≤ 500 := by omega
  obtain ⟨m1, p1, e1⟩ := diff_ok a b la lb
  obtain ⟨m2, p2, e2⟩ := rdiff_ok a b la lb
  obtain ⟨m3, p3, e3⟩ := diff_ok b a lb la
  obtain ⟨m4, p4, e4⟩ := diff_ok a a la la
  have h12 : m2 = m1 := p2.uniq p1
  have h13 : m3 = m1 := p3.symm.uniq p1
  have h14 : m4 = a.length := p4.uniq ⟨Nat.le_refl _, Nat.le_refl _, fun _ _ => rfl, fun h => by omega⟩
  subst h12 h13 h14
  unfold warderlaw02_NibbleDiffs_j0
  rw [e1, e2, e3, e4, text_ok a la hwa, rtext_ok a la hwa, text_ok b lb hwb, known_true]
  simp only [Option.bind_some, if_true]
  have hs : answer b a m3 = answer a b m3 := by
    unfold answer
    by_cases h : m3 = b.length ∧ m3 = a.length
    · rw [if_pos h, if_pos ⟨h.2, h.1⟩]
    · rw [if_neg h, if_neg (fun g => h ⟨g.2, g.1⟩)]
  have hr : answer a a a.length = -1 := by unfold answer; rw [if_pos ⟨rfl, rfl⟩]
  rw [if_pos hs, if_pos hr, if_pos (by rw [strOf_size, List.length_map])]
end Go.Proofs.Ytmljbiijlljhfaa
