/- Own work. A part of the proof of a law of this seat: this seat's functions, by the machine, and the plain law -/
import Derived.Test.YtmljbiijlljhfaaWj
set_option linter.unusedSimpArgs false
set_option linter.unusedVariables false
namespace Go.Mx
open Go Go.RowKit Go.Sx Go.Proofs
set_option maxRecDepth 100000
section
variable {R : Type} (K : KV R) (l : List Int) (hl : l.length < 10000)
theorem optK_if {A : Type} {c : Prop} [Decidable c] (x : A) (n : Option R) (f : A → Option R) : optK (if c then some x else none) n f = if c then f x else n := by split <;> rfl
include hl in
theorem read_run (hb : Bytes l) (k : Nat) (hk : 9000 < k) : (codeX Try.prog G21 lv21 (k + 1) Try.f21).run [.view 0] [.row 5 U8 l .own] K = optK (readP l) (K errV [.row 5 U8 l .own]) fun x => K (okV x) [.row 5 U8 l .own] := by
  refine (rd_0 _ K l).trans ?_
  by_cases h1 : l.length < 7
  · rw [show decide ((l.length : Int) < 7) = true from decide_eq_true (by omega), cond_true]
    unfold readP
    rw [if_neg (by omega)]; rfl
  rw [show decide ((l.length : Int) < 7) = false from decide_eq_false (by omega), cond_false]
  have et : Int.tmod (l.length : Int) 2 = (l.length : Int) % 2 := Int.tmod_eq_emod_of_nonneg (by omega)
  rw [et]
  by_cases h2 : l.length % 2 = 0
  · rw [show decide ((l.length : Int) % 2 = 0) = true from decide_eq_true (by omega), cond_true]
    unfold readP
    rw [if_neg (by omega)]; rfl
  rw [show decide ((l.length : Int) % 2 = 0) = false from decide_eq_false (by omega), cond_false, ck_pos (by omega), show l[6]? = some (l.getD 6 0) from getq (i := 6) (j := 6) rfl (by omega)]
  rw [Option.bind_some]
  have h6 : 0 ≤ l.getD 6 0 ∧ l.getD 6 0 < 256 := hb _ (by rw [List.getD_eq_getElem?_getD, List.getElem?_eq_getElem (show 6 < l.length by omega)]; exact List.getElem_mem _)
  rw [wrapS (by omega)]
  have er : readP l = finP l (l.getD 6 0) (bytesP (l.drop 7)) := by
    unfold readP finP xP
    by_cases hc : mayV (l.getD 6 0, strOf (bytesP (l.drop 7))) = true ∧ ofV (l.getD 6 0, strOf (bytesP (l.drop 7))) = l
    · rw [if_pos hc, if_pos ⟨by omega, by omega, hc.1, hc.2⟩]
    · rw [if_neg hc, if_neg (fun e => hc e.2.2)]
  rw [er]
  refine (rd_n (LX Try.prog G21 lv21 1 (codeOf Try.f21) k) (LX Try.prog G21 lv21 1 (codeOf Try.f21) (k + 1)) K l (l.getD 6 0, ⟨#[]⟩) 7).trans ?_
  by_cases h7 : l.length = 7
  · rw [show decide ((7 : Int) < (l.length : Int)) = false from decide_eq_false (by omega), cond_false, List.drop_of_length_le (by omega)]
    have hm : mayV (l.getD 6 0, strOf []) = false := by
      unfold mayV
      have : (strOf ([] : List Int)).size = 0 := rfl
      rw [show decide (1 ≤ ((l.getD 6 0, strOf []) : XV).2.size) = false from rfl]
      simp
    have e0 : bytesP [] = [] := by simp [bytesP]
    show (bif !mayV (l.getD 6 0, strOf []) then K errV [.row 5 U8 l .own] else _) = _
    unfold finP
    rw [e0, hm, if_neg (by simp), Bool.not_false, cond_true]
    rfl
  · rw [show decide ((7 : Int) < (l.length : Int)) = true from decide_eq_true (by omega), cond_true, ck_pos (by omega), getq (i := 7) (j := 7) rfl (by omega)]
    rw [Option.bind_some]
    rw [wrapS (x := (7 : Int) + 1) (by omega), wrapS (x := (7 : Int) + 2) (by omega), ck_pos (by omega), getq (i := (7 : Int) + 1) (j := 8) (by omega) (by omega)]
    rw [Option.bind_some]
    rw [drop2 (show 7 + 1 < l.length by omega), bytesP]
    exact read_loop K l hl _ _ ((l.length - 9) / 2) 9 k [bits .or .u8 (shl .u8 (l.getD 7 0) 4) (l.getD 8 0)] (by omega) (by simp; omega) (by omega)
end
end Go.Mx
