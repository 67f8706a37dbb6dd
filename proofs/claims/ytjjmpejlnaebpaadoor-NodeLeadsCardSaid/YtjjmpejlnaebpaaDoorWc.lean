/- Own work. A part of the proof of a law of this seat: this seat's functions, by the machine, and the plain law -/
import Derived.Test.YtjjmpejlnaebpaaDoorMe
import Derived.Test.YtjjmpejlnaebpaaDoorWb
namespace Go.Mx
set_option linter.unusedVariables false
open Go Go.RowKit Go.Sx Go.Proofs
set_option maxRecDepth 100000
theorem leads_run {R : Type} (K : KV R) (key : List Int) (d : Int) : (codeX Tryd.prog G6 lvN 0 Tryd.f6).run [.dat BL key, .dat I64 d] [] K = K (.dat .bool true) [] := by
  refine (leads_0 K key d).trans ?_
  by_cases h0 : (1000 : Int) < (key.length : Int)
  · rw [decide_eq_true h0]; rfl
  rw [decide_eq_false h0, cond_false]
  by_cases h1 : d < 0
  · rw [decide_eq_false (show ¬ 0 ≤ d by omega), cond_false, decide_eq_true h1]; rfl
  rw [decide_eq_true (show 0 ≤ d by omega), cond_true]
  by_cases h2 : (key.length : Int) ≤ d
  · rw [decide_eq_false (show ¬ d < (key.length : Int) by omega), cond_false, decide_eq_false h1, decide_eq_true h2]; rfl
  obtain ⟨x, hx⟩ : ∃ x, key[d.toNat]? = some x := ⟨_, List.getElem?_eq_getElem (show d.toNat < key.length by omega)⟩
  rw [decide_eq_true (show d < (key.length : Int) by omega), cond_true, ck_pos (show (0 : Int) ≤ d by omega), hx, Option.bind_some, decide_eq_false h1, decide_eq_false h2]
  simp only [ck_pos (show (0 : Int) ≤ d by omega), Option.bind_some, cond_false]
  by_cases h3 : x < 16
  · rw [decide_eq_true h3, cond_true, decide_eq_false (show ¬ 15 < x by omega), cond_false]; rfl
  · rw [decide_eq_false h3, cond_false, decide_eq_true (show 15 < x by omega), cond_true]
theorem NodeLeads_ok : SumOk Tryd.prog 6 (codeX Tryd.prog G6 lvN 0 Tryd.f6) := codeX_ok mixed noNG_prog (sums_call all6) (sums_prim all6) rfl lvN 0
theorem NodeLeads_law (key : List Int) (_ : key.length ≤ 140737488351232 ∧ ∀ x ∈ key, (Lit.int .u8 x).wf = true) (d : Int) (_ : (Lit.int .i64 d).wf = true) : (codeX Tryd.prog G6 lvN 0 Tryd.f6).run [.dat BL key, .dat I64 d] [] isTrue = some true := leads_run isTrue key d
end Go.Mx
