/- Own work. A part of the proof of a law of this seat: this seat's functions, by the machine, and the plain law -/
import Derived.Test.YtkmabfamdonfoaaDoorMe
import Derived.Test.YtkmabfamdonfoaaDoorWo
namespace Go.Mx
set_option linter.unusedVariables false
open Go Go.RowKit Go.Sx Go.Proofs
set_option maxRecDepth 100000
theorem chn_all : ∀ n : Fin 19, chn (nameV (n.val : Int)) nm 0 = (n.val : Int) := by decide +kernel
theorem chn_out {o : Int} (h : o < 0 ∨ 19 ≤ o) : chn (nameV o) nm 0 = 0 := by
  have : nameV o = ⟨#[]⟩ := by
    unfold nameV
    by_cases h1 : o < 0
    · rw [decide_eq_true h1]; rfl
    · rw [decide_eq_false h1, decide_eq_true (show 19 ≤ o by omega)]; rfl
  rw [this]; rfl
theorem chn_in {o : Int} (h : 0 ≤ o ∧ o ≤ 18) : chn (nameV o) nm 0 = o := by
  have := chn_all ⟨o.toNat, by omega⟩
  dsimp only at this
  rwa [show ((o.toNat : Nat) : Int) = o by omega] at this
theorem chn_or (s : ByteArray) : ∀ (l : List ByteArray) (i : Int), chn s l i = 0 ∨ ∃ m : Nat, l[m]? = some s ∧ chn s l i = i + m
  | [], i => .inl rfl
  | x :: r, i => by
    rw [chn]
    by_cases h : x = s
    · rw [decide_eq_true h]; exact .inr ⟨0, by rw [h]; rfl, by simp⟩
    · rw [decide_eq_false h]
      rcases chn_or s r (i + 1) with h1 | ⟨m, h1, h2⟩
      · exact .inl h1
      · exact .inr ⟨m + 1, h1, by rw [cond_false, h2]; omega⟩
theorem chn_no {s : ByteArray} (h : ∀ j : Nat, 1 ≤ j → j ≤ 18 → nameV (j : Int) ≠ s) : chn s nm 0 = 0 := by
  rcases chn_or s nm 0 with h1 | ⟨m, h1, h2⟩
  · exact h1
  · rw [h2]
    have hm : m < 19 := (List.getElem?_eq_some_iff.1 h1).1
    by_cases h0 : m = 0
    · omega
    · exfalso
      refine h m (by omega) (by omega) ?_
      have := nm_get (o := (m : Int)) (by omega) (by omega)
      rw [Int.toNat_natCast, h1] at this
      unfold nameV
      rw [decide_eq_false (show ¬ (m : Int) < 0 by omega), decide_eq_false (show ¬ (19 : Int) ≤ m by omega), Int.toNat_natCast]
      exact (Option.some.inj this).symm
theorem ln_loop {R : Type} (L0 : Nat → St → (Exit → St → Option R) → Option R) (K : KV R) (s : ByteArray) : ∀ (n i k : Nat), i + n = 19 → n < k → 1 ≤ i → (∀ j : Nat, 1 ≤ j → j < i → nameV (j : Int) ≠ s) →
    LX Tryd.prog G5 lv5 0 (codeOf Tryd.f5) k 0 ⟨[(1, .dat .str s), (8, .dat I64 (chn s nm 0)), (9, .dat I64 (ofnE (chn s nm 0))), (10, .dat I64 (i : Int))], []⟩ (endX Tryd.prog G5 lv5 Tryd.f5 0 L0 K 0) = K (.dat .bool true) [] := by
  intro n
  induction n with
  | zero =>
    intro i k hn hk h1 hs
    obtain ⟨k, rfl⟩ : ∃ q, k = q + 1 := ⟨k - 1, by omega⟩
    refine (ln_s _ L0 K s _ _ i).trans ?_
    rw [decide_eq_false (show ¬ (i : Int) ≤ 18 by omega), cond_false, chn_no (fun j h2 h3 => hs j h2 (by omega))]
    rfl
  | succ n ih =>
    intro i k hn hk h1 hs
    obtain ⟨k, rfl⟩ : ∃ q, k = q + 1 := ⟨k - 1, by omega⟩
    refine (ln_s _ L0 K s _ _ i).trans ?_
    rw [decide_eq_true (show (i : Int) ≤ 18 by omega), cond_true]
    by_cases he : nameV (i : Int) = s
    · have hc : chn s nm 0 = i := by rw [← he]; exact chn_in (by omega)
      have hf : ofnE (chn s nm 0) = 0 := by rw [hc]; unfold ofnE; rw [decide_eq_false (show ¬ (i : Int) = 0 by omega)]; rfl
      rw [decide_eq_true he, hf, hc, decide_eq_true (Eq.refl (i : Int))]; rfl
    · rw [decide_eq_false he, cond_false, wrapS (by omega)]
      have e := ih (i + 1) k (by omega) (by omega) (by omega) (fun j h2 h3 => by
        by_cases hj : j = i
        · rw [hj]; exact he
        · exact hs j h2 (by omega))
      rw [show ((i + 1 : Nat) : Int) = (i : Int) + 1 by omega] at e
      exact e
theorem ln_run {R : Type} {kf : Nat} (hkf : 30 ≤ kf) (K : KV R) (o : Int) (s : ByteArray) : (codeX Tryd.prog G5 lv5 kf Tryd.f5).run [.dat I64 o, .dat .str s] [] K = K (.dat .bool true) [] := by
  refine (ln_0 _ K o s).trans ?_
  by_cases hl : 100 < (s.size : Int)
  · rw [decide_eq_true hl]; rfl
  have fin := ln_loop (LX Tryd.prog G5 lv5 0 (codeOf Tryd.f5) kf) K s 18 1 kf (by omega) (by omega) (by omega) (fun j h1 h2 => by omega)
  rw [decide_eq_false hl, cond_false, decide_eq_true (Eq.refl (nameV o)), Bool.not_true, cond_false]
  have ha : (!(alV o == alV o)) = false := by simp
  have ha' : ((!alV o) == alV o) = false := by cases alV o <;> rfl
  first | rw [ha, cond_false] | rw [ha', cond_false]
  by_cases h1 : 1 ≤ o
  · rw [decide_eq_true h1, cond_true]
    by_cases h2 : o ≤ 18
    · have hc := chn_in (o := o) (by omega)
      have hf : ofnE (chn (nameV o) nm 0) = 0 := by rw [hc]; unfold ofnE; rw [decide_eq_false (show ¬ o = 0 by omega)]; rfl
      rw [hf, hc, decide_eq_true h2, decide_eq_true (Eq.refl o)]
      exact fin
    · have hc := chn_out (o := o) (by omega)
      rw [hc, decide_eq_false h2]
      exact fin
  · rw [decide_eq_false h1, cond_false]
    have hc : chn (nameV o) nm 0 = 0 := by
      by_cases h0 : o = 0
      · rw [chn_in (by omega), h0]
      · exact chn_out (by omega)
    rw [hc]
    exact fin
theorem RequestNames_ok : SumOk Tryd.prog 5 (codeX Tryd.prog G5 lv5 30 Tryd.f5) := codeX_ok mixed noNG_prog (sums_call all5) (sums_prim all5) rfl lv5 30
theorem RequestNames_law (o : Int) (_ : (Lit.int .i64 o).wf = true) (s : ByteArray) (_ : s.size ≤ 140737488351232) : (codeX Tryd.prog G5 lv5 30 Tryd.f5).run [.dat I64 o, .dat .str s] [] isTrue = some true := ln_run (Nat.le_refl 30) isTrue o s
end Go.Mx
