/- Own work. A part of the proof of a law of this seat: this seat's functions, by the machine, and the plain law -/
import Derived.Test.YtmljbiijlljhfaaWi
set_option linter.unusedSimpArgs false
set_option linter.unusedVariables false
namespace Go.Mx
open Go Go.RowKit Go.Sx Go.Proofs
set_option maxRecDepth 100000
theorem drop2 {l : List Int} {i : Nat} (h : i + 1 < l.length) : l.drop i = l.getD i 0 :: l.getD (i + 1) 0 :: l.drop (i + 2) := by
  rw [drop_at (show i < l.length by omega), drop_at h]
section
variable {R : Type} (K : KV R) (l : List Int) (hl : l.length < 10000)
def finP (t : Int) (b : List Int) : Option XV := if mayV (t, strOf b) = true ∧ ofV (t, strOf b) = l then some (t, strOf b) else none
theorem fin_p (t : Int) (b : List Int) : (bif !mayV (t, strOf b) then K errV [.row 5 U8 l .own] else ck (mayV (t, strOf b) = true) (ck (List.length (ofV (t, strOf b)) < 100000) (bif !decide (ofV (t, strOf b) = l) then K errV [.row 5 U8 l .own] else K (okV (t, strOf b)) [.row 5 U8 l .own]))) = optK (finP l t b) (K errV [.row 5 U8 l .own]) fun x => K (okV x) [.row 5 U8 l .own] := by
  unfold finP
  cases hm : mayV (t, strOf b) with
  | false => rw [if_neg (by simp)]; rfl
  | true =>
    obtain ⟨_, _, h3, h4⟩ := may_range hm
    rw [Bool.not_true, cond_false, ck_pos rfl, ck_pos (by rw [ofV_len]; omega)]
    by_cases h : ofV (t, strOf b) = l
    · rw [decide_eq_true h, if_pos ⟨rfl, h⟩]; rfl
    · rw [decide_eq_false h, if_neg (fun e => h e.2)]; rfl
include hl in
theorem read_loop (L0 : Nat → St → (Exit → St → Option R) → Option R) (t : Int) : ∀ (m i k : Nat) (b : List Int), i + 2 * m = l.length → b.length + m < 10000 → m < k →
    LX Try.prog G21 lv21 1 (codeOf Try.f21) k 0 ⟨[(0, .view 0), (2, .ptr 1 []), (4, .ptr 2 []), (5, .view 3), (6, .dat I64 (i : Int))], [.row 5 U8 l .own, .box 29 (.dat XT (0, ⟨#[]⟩)) true, .box 29 (.dat XT (t, ⟨#[]⟩)) true, .row 5 U8 b .own]⟩ (endX Try.prog G21 lv21 Try.f21 1 L0 K 0)
      = optK (finP l t (b ++ bytesP (l.drop i))) (K errV [.row 5 U8 l .own]) fun x => K (okV x) [.row 5 U8 l .own] := by
  intro m
  induction m with
  | zero =>
    intro i k b hi hb hk
    obtain ⟨k, rfl⟩ : ∃ q, k = q + 1 := ⟨k - 1, by omega⟩
    refine (rd_v _ L0 K l (t, ⟨#[]⟩) b i).trans ?_
    rw [show decide ((i : Int) < (l.length : Int)) = false from decide_eq_false (by omega), cond_false, List.drop_of_length_le (by omega), bytesP, List.append_nil]
    · exact fin_p K l t b
    · intro _ _ _ h; cases h
  | succ m ih =>
    intro i k b hi hb hk
    obtain ⟨k, rfl⟩ : ∃ q, k = q + 1 := ⟨k - 1, by omega⟩
    refine (rd_v _ L0 K l (t, ⟨#[]⟩) b i).trans ?_
    rw [show decide ((i : Int) < (l.length : Int)) = true from decide_eq_true (by omega), cond_true, ck_pos (by omega), getq (j := i) rfl (by omega)]
    simp only [Option.bind_some]
    rw [wrapS (x := (i : Int) + 1) (by omega), wrapS (x := (i : Int) + 2) (by omega), ck_pos (by omega), getq (i := (i : Int) + 1) (j := i + 1) (by omega) (by omega)]
    simp only [Option.bind_some]
    rw [ck_pos (by unfold limit; omega), drop2 (show i + 1 < l.length by omega), bytesP]
    have e := ih (i + 2) k (b ++ [bits .or .u8 (shl .u8 (l.getD i 0) 4) (l.getD (i + 1) 0)]) (by omega) (by simp; omega) (by omega)
    rw [show ((i + 2 : Nat) : Int) = (i : Int) + 2 by omega, List.append_assoc] at e
    exact e
end
end Go.Mx
