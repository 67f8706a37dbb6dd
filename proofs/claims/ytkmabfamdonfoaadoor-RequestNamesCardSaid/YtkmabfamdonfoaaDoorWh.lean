/- Own work. A part of the proof of a law of this seat: this seat's functions, by the machine, and the plain law -/
import Derived.Test.YtkmabfamdonfoaaDoorMe
import Derived.Test.YtkmabfamdonfoaaDoorWd
set_option linter.unusedSimpArgs false
set_option linter.unusedVariables false
namespace Go.Mx
open Go Go.RowKit Go.Sx

/-! ### plain: what both readers come to -/
def leN : List Int → Nat
  | [] => 0
  | x :: r => x.toNat + 256 * leN r
abbrev Bytes (b : List Int) : Prop := ∀ x ∈ b, 0 ≤ x ∧ x < 256
theorem leN_lt : ∀ {b : List Int}, Bytes b → leN b < 256 ^ b.length
  | [], _ => by decide
  | x :: r, h => by
    have h1 := h x (by simp)
    have h2 := leN_lt (b := r) (fun y hy => h y (by simp [hy]))
    rw [leN, List.length_cons, Nat.pow_succ]
    omega
theorem or_byte {n x : Nat} (hn : n < 72057594037927936) (hx : x < 256) : bits .or .u64 (shl .u64 n 8) (IntKind.u64.wrap x) = ((n * 256 + x : Nat) : Int) := by
  have e1 : shl .u64 n 8 = ((n * 256 : Nat) : Int) := by
    unfold shl
    rw [show (8 : Int).toNat = 8 from rfl, show min 8 IntKind.u64.bits = 8 from rfl, IntKind.wrap_u64]
    omega
  have e2 : IntKind.u64.wrap (x : Int) = (x : Int) := by rw [IntKind.wrap_u64]; omega
  rw [e1, e2, bits_or_u64_nat _ _ (by omega) (by omega)]
  congr 1
  have := Nat.two_pow_add_eq_or_of_lt (i := 8) (b := x) (by omega) n
  rw [show n * 256 = 2 ^ 8 * n by omega]
  exact this.symm
def numL : List Int → Int
  | [] => 0
  | x :: r => bits .or .u64 (shl .u64 (numL r) 8) (IntKind.u64.wrap x)
def foldN (n : Int) : List Int → Int
  | [] => n
  | x :: r => bits .or .u64 (shl .u64 (foldN n r) 8) (IntKind.u64.wrap x)
theorem foldN_snoc (n : Int) (x : Int) : ∀ r : List Int, foldN n (r ++ [x]) = foldN (bits .or .u64 (shl .u64 n 8) (IntKind.u64.wrap x)) r
  | [] => rfl
  | y :: r => by show bits _ _ (shl _ (foldN n (r ++ [x])) 8) _ = _; rw [foldN_snoc n x r]; rfl
theorem numF_fold (b : List Int) : ∀ (j : Nat) (n : Int), j ≤ b.length → numF b j n = foldN n (b.take j)
  | 0, n, _ => by rw [List.take_zero]; rfl
  | j + 1, n, h => by
    have hj : j < b.length := by omega
    rw [numF, numF_fold b j _ (by omega), List.take_succ_eq_append_getElem hj, foldN_snoc, List.getD_eq_getElem?_getD, List.getElem?_eq_getElem hj]; rfl
theorem fold_le : ∀ {b : List Int}, Bytes b → b.length ≤ 8 → foldN 0 b = (leN b : Int)
  | [], _, _ => rfl
  | x :: r, h, hl => by
    have h1 := h x (by simp)
    have hr : Bytes r := fun y hy => h y (by simp [hy])
    rw [List.length_cons] at hl
    have h2 := leN_lt hr
    have h3 : 256 ^ r.length ≤ 256 ^ 7 := Nat.pow_le_pow_right (by omega) (by omega)
    rw [foldN, fold_le hr (by omega), leN]
    obtain ⟨m, rfl⟩ : ∃ m : Nat, x = m := ⟨x.toNat, by omega⟩
    rw [or_byte (by omega) (by omega), Int.toNat_natCast]
    omega
theorem num_le {b : List Int} (h : Bytes b) (hl : b.length ≤ 8) : numF b b.length 0 = (leN b : Int) := by
  rw [numF_fold b b.length 0 (Nat.le_refl _), List.take_length, fold_le h hl]
theorem gF_le : ∀ {b : List Int} {n f : Nat}, Bytes b → n < f → f * 256 ^ b.length ≤ 18446744073709551616 → gF b n f = ((n + f * leN b : Nat) : Int)
  | [], n, f, _, _, _ => by rw [gF, leN]; omega
  | x :: r, n, f, h, hn, hf => by
    have h1 := h x (by simp)
    have hr : Bytes r := fun y hy => h y (by simp [hy])
    obtain ⟨m, rfl⟩ : ∃ m : Nat, x = m := ⟨x.toNat, by omega⟩
    rw [List.length_cons, Nat.pow_succ] at hf
    have hp : 1 ≤ 256 ^ r.length := Nat.one_le_pow _ _ (by omega)
    have hf2 : f * 256 ≤ 18446744073709551616 := Nat.le_trans (by rw [Nat.mul_comm (256 ^ r.length), ← Nat.mul_assoc]; exact Nat.le_mul_of_pos_right _ hp) hf
    have hfm : f * m ≤ f * 255 := Nat.mul_le_mul_left f (by omega)
    have e1 : IntKind.u64.wrap (m : Int) = m := by rw [IntKind.wrap_u64]; omega
    have e2 : IntKind.u64.wrap ((f : Int) * m) = ((f * m : Nat) : Int) := by rw [IntKind.wrap_u64, ← Int.natCast_mul]; omega
    have e3 : IntKind.u64.wrap ((n : Int) + ((f * m : Nat) : Int)) = ((n + f * m : Nat) : Int) := by rw [IntKind.wrap_u64]; omega
    rw [gF, e1, e2, e3, leN, Int.toNat_natCast]
    cases r with
    | nil => rw [gF, leN, Nat.mul_zero, Nat.add_zero]
    | cons y r =>
      have hb : f * 256 < 18446744073709551616 := by
        rw [List.length_cons, Nat.pow_succ] at hf
        have hq : 1 ≤ 256 ^ r.length := Nat.one_le_pow _ _ (by omega)
        have : f * 256 * 256 ≤ 18446744073709551616 := Nat.le_trans (by
          rw [show f * (256 ^ r.length * 256 * 256) = f * 256 * 256 * 256 ^ r.length by rw [Nat.mul_comm (256 ^ r.length * 256), ← Nat.mul_assoc, Nat.mul_comm (256 ^ r.length), ← Nat.mul_assoc]]
          exact Nat.le_mul_of_pos_right _ hq) hf
        omega
      have e4 : IntKind.u64.wrap ((f : Int) * 256) = ((f * 256 : Nat) : Int) := by rw [IntKind.wrap_u64]; omega
      rw [e4, gF_le hr (by omega) (by rw [Nat.mul_assoc, Nat.mul_comm 256]; exact hf)]
      rw [Nat.mul_add, show f * 256 * leN (y :: r) = f * (256 * leN (y :: r)) by rw [Nat.mul_assoc]]
      omega
/-- Both stand at the same place. -/
structure Sim (x : RV) (y : QV) : Prop where
  made : x.2.1 = true
  bad : x.2.2 = y.2
  rest : x.1 = y.1
  bytes : Bytes x.1
  len : x.1.length < 100000
  none : x.2.2 = true → x.1 = []
theorem bytes_take {b : List Int} (h : Bytes b) (n : Nat) : Bytes (b.take n) := fun x hx => h x (List.mem_of_mem_take hx)
theorem bytes_drop {b : List Int} (h : Bytes b) (n : Nat) : Bytes (b.drop n) := fun x hx => h x (List.mem_of_mem_drop hx)
theorem sim_num {x : RV} {y : QV} (h : Sim x y) (n : Int) : numV x n = rnumV y n ∧ Sim (numS x n) (rnumS y n) ∧ 0 ≤ rnumV y n ∧ (n ≤ 4 → rnumV y n < 4294967296) := by
  obtain ⟨xs, made, bad⟩ := x
  obtain ⟨ys, bad'⟩ := y
  obtain ⟨h1, h2, h3, h4, h5, h6⟩ := h
  dsimp only at h1 h2 h3 h4 h5 h6
  subst h1 h2 h3
  unfold numV numS rnumV rnumS rBad takeV takeS sizeOk
  dsimp only
  cases bad with
  | true =>
    obtain rfl := h6 rfl
    simp only [Bool.not_true, Bool.false_or, if_true, Bool.or_true, List.length_nil]
    exact ⟨rfl, ⟨rfl, rfl, rfl, h4, by simp, fun _ => rfl⟩, Int.le_refl 0, fun _ => by decide⟩
  | false =>
    simp only [Bool.not_true, Bool.false_or, Bool.or_false, Bool.false_eq_true, if_false]
    have none : Sim (([], true, true) : RV) (([], true) : QV) := ⟨rfl, rfl, rfl, fun x hx => by simp at hx, by simp, fun _ => rfl⟩
    by_cases c1 : n < 1 ∨ 8 < n
    · have hb : (decide (n < 1) || decide (8 < n) || decide ((xs.length : Int) < n)) = true := by simp only [Bool.or_eq_true, decide_eq_true_eq]; exact .inl c1
      rw [if_pos c1, if_pos hb, if_pos hb]
      simp only [show ((-1 : Int) < 0 ∨ (xs.length : Int) < -1) = True by simp, if_true, List.length_nil]
      exact ⟨rfl, none, Int.le_refl 0, fun _ => by decide⟩
    · rw [if_neg c1]
      by_cases c2 : (xs.length : Int) < n
      · have hb : (decide (n < 1) || decide (8 < n) || decide ((xs.length : Int) < n)) = true := by simp only [Bool.or_eq_true, decide_eq_true_eq]; exact .inr c2
        have hc : n < 0 ∨ (xs.length : Int) < n := .inr c2
        rw [if_pos hb, if_pos hb]
        simp only [if_pos hc, List.length_nil]
        exact ⟨rfl, none, Int.le_refl 0, fun _ => by decide⟩
      · have hb : ¬ (decide (n < 1) || decide (8 < n) || decide ((xs.length : Int) < n)) = true := by
          simp only [Bool.or_eq_true, decide_eq_true_eq]; omega
        have hc : ¬ (n < 0 ∨ (xs.length : Int) < n) := by omega
        rw [if_neg hb, if_neg hb]
        simp only [if_neg hc]
        have hB := bytes_take h4 n.toNat
        have hlen : (xs.take n.toNat).length = n.toNat := by rw [List.length_take]; omega
        have e1 := num_le hB (by omega)
        have hg := gF_le (n := 0) (f := 1) hB (by omega) (by
          rw [hlen, Nat.one_mul]
          exact Nat.le_trans (Nat.pow_le_pow_right (by omega) (show n.toNat ≤ 8 by omega)) (by decide))
        have hg : gF (xs.take n.toNat) 0 1 = (leN (xs.take n.toNat) : Int) := by simpa using hg
        rw [e1, hg]
        refine ⟨rfl, ⟨rfl, rfl, rfl, bytes_drop h4 _, by simp; omega, fun hh => by cases hh⟩, by omega, fun h4' => ?_⟩
        have hlt := leN_lt hB
        rw [hlen] at hlt
        have : 256 ^ n.toNat ≤ 256 ^ 4 := Nat.pow_le_pow_right (by omega) (by omega)
        omega
theorem sim_whole {x : RV} {y : QV} (h : Sim x y) : wholeV (numV x 4) = rwholeV (rnumV y 4) := by
  obtain ⟨e, _, h1, h2⟩ := sim_num h 4
  rw [e]
  have h2 := h2 (by decide)
  generalize rnumV y 4 = n at *
  unfold wholeV rwholeV
  rw [show IntKind.u32.wrap n = n by simp [IntKind.wrap, IntKind.bits, IntKind.signed]; omega, IntKind.wrap_i32, wrapS (x := n) (by omega)]
  by_cases hn : 2147483647 < n
  · rw [decide_eq_true hn, cond_true, wrapS (by omega), wrapS (by omega)]; omega
  · rw [decide_eq_false hn, cond_false, wrapS (by omega)]; omega
theorem sim_take {x : RV} {y : QV} (h : Sim x y) {n : Int} (hn : 0 ≤ n) : (if (decide ((y.1.length : Int) < n) || y.2) = true then takeV x n = [] ∧ Sim (takeS x n) ([], true) else takeV x n = y.1.take n.toNat ∧ Sim (takeS x n) (y.1.drop n.toNat, y.2)) := by
  obtain ⟨xs, made, bad⟩ := x
  obtain ⟨ys, bad'⟩ := y
  obtain ⟨h1, h2, h3, h4, h5, h6⟩ := h
  dsimp only at h1 h2 h3 h4 h5 h6
  subst h1 h2 h3
  unfold takeV takeS
  dsimp only
  cases bad with
  | true =>
    obtain rfl := h6 rfl
    rw [if_pos (by simp)]
    simp only [Bool.not_true, Bool.false_or, if_true]
    exact ⟨trivial, ⟨rfl, rfl, rfl, h4, by simp, fun _ => rfl⟩⟩
  | false =>
    simp only [Bool.not_true, Bool.false_or, Bool.or_false, Bool.false_eq_true, if_false]
    by_cases c : (xs.length : Int) < n
    · rw [if_pos (by simpa using c), if_pos (.inr c), if_pos (.inr c)]
      exact ⟨rfl, ⟨rfl, rfl, rfl, fun x hx => by simp at hx, by simp, fun _ => rfl⟩⟩
    · rw [if_neg (by simpa using c), if_neg (by omega), if_neg (by omega)]
      exact ⟨rfl, ⟨rfl, rfl, rfl, bytes_drop h4 _, by simp; omega, fun hh => by cases hh⟩⟩
theorem sim_blob {x : RV} {y : QV} (h : Sim x y) (n : Int) : (¬ (n = 1 ∨ n = 2) ∨ 0 ≤ rblobN y n) ∧ Sim (blobS x n) (rblobS y n) ∧ blobV x n = if rbBad y n = true then [] else rblobV y n := by
  by_cases hn : n = 1 ∨ n = 2
  · have eb : bSize n = n := by unfold bSize; rw [if_neg (by omega)]
    obtain ⟨e, hs, h1, h2⟩ := sim_num h n
    have h2 := h2 (by omega)
    have eN : rblobN y n = rnumV y n := by unfold rblobN; rw [wrapS (by omega)]
    have hz : (!decide (n = 1) && !decide (n = 2)) = false := by rcases hn with rfl | rfl <;> rfl
    have ht := sim_take hs (n := rnumV y n) h1
    unfold blobV blobS rblobS rbBad rblobV
    rw [eb, e, wrapS (by omega), eN, hz, Bool.false_or]
    refine ⟨.inr h1, ?_⟩
    by_cases c : (decide (((rnumS y n).1.length : Int) < rnumV y n) || (rnumS y n).2) = true
    · rw [if_pos c] at ht ⊢
      rw [if_pos c]
      exact ⟨ht.2, ht.1⟩
    · rw [if_neg c] at ht ⊢
      rw [if_neg c]
      exact ⟨ht.2, ht.1⟩
  · have eb : bSize n = -1 := by unfold bSize; rw [if_pos (by omega)]
    obtain ⟨e, hs, _, _⟩ := sim_num h (-1)
    have ev : rnumV y (-1) = 0 := by unfold rnumV rBad; rfl
    have es : rnumS y (-1) = ([], true) := by unfold rnumS rBad; rfl
    have hz : rbBad y n = true := by
      unfold rbBad
      rw [show (!decide (n = 1) && !decide (n = 2)) = true by simp; omega]; rfl
    rw [es] at hs
    have ht := sim_take hs (n := 0) (Int.le_refl 0)
    rw [if_pos (by simp)] at ht
    unfold blobV blobS rblobS
    rw [eb, e, ev, hz, if_pos rfl, if_pos rfl]
    exact ⟨.inl hn, ht.2, ht.1⟩
end Go.Mx
