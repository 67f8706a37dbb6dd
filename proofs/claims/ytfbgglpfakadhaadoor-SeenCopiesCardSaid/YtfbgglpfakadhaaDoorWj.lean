/- Own work. A part of the proof of a law of this seat: this seat's functions, by the machine, and the plain law -/
import Derived.Test.YtfbgglpfakadhaaDoorWi
/- Of; Still. -/
namespace Go.Mx
open Go Go.RowKit Go.Sx Go.Proofs
set_option linter.unusedVariables false
set_option linter.unusedSimpArgs false
set_option maxRecDepth 100000
def zS : SV := (0, 0, 0, false, 0, 0, 0)
def F17 : Summ := ⟨fun args ob K => match args, ob with
  | [.ptr 0 [], .dat (.pair (.int .i64) (.pair (.int .i64) (.pair (.int .i64) (.pair .bool (.pair (.int .i64) (.pair (.int .u64) (.int .i64))))))) x], [.box 54 (.pr .nils (.pr .nilm (.dat .bool b))) true] => K (.tup [.dat ST zS, .dat .bool false]) [.box 54 (.pr .nils (.pr .nilm (.dat .bool b))) true]
  | [.ptr 0 [], .dat (.pair (.int .i64) (.pair (.int .i64) (.pair (.int .i64) (.pair .bool (.pair (.int .i64) (.pair (.int .u64) (.int .i64))))))) x], [.box 54 (.pr (.view 1) (.pr (.mp 2) (.dat .bool b))) true, .row 36 (.pair (.int .i64) (.pair (.int .i64) (.pair (.int .i64) (.pair .bool (.pair (.int .i64) (.pair (.int .u64) (.int .i64))))))) (z :: zs) .own, .map (.pair (.int .i64) (.pair (.int .i64) (.int .i64))) (.int .i64) es true] => ck ((z :: zs).length ≤ 1000 ∧ @Eq (List ((Int × Int × Int) × Int)) es (ats 0 (z :: zs))) (cond (decide (findV x 0 (z :: zs) < 0)) (K (.tup [.dat ST zS, .dat .bool false]) [.box 54 (.pr (.view 1) (.pr (.mp 2) (.dat .bool b))) true, .row 36 ST (z :: zs) .own, .map ThT I64 (ats 0 (z :: zs)) true]) (K (.tup [.dat ST ((z :: zs).getD (findV x 0 (z :: zs)).toNat x), .dat .bool true]) [.box 54 (.pr (.view 1) (.pr (.mp 2) (.dat .bool b))) true, .row 36 ST (z :: zs) .own, .map ThT I64 (ats 0 (z :: zs)) true]))
  | _, _ => none⟩
theorem F17_ok : SumOk Tryd.prog 17 F17 := by
  refine (W_ok 17).le ?_ ?_
  · intro R R' f args ob K
    unfold F17; dsimp only
    split <;> simp only [bd_ck, bd_cond, bd_none]
  · intro R args ob K r h
    unfold F17 at h; dsimp only at h
    split at h
    · rename_i x b
      exact (of_0 K x b).trans h
    · rename_i x b z zs es
      obtain ⟨⟨hl, he⟩, h2⟩ := ck_elim h
      clear h
      have he : es = ats 0 (z :: zs) := he
      subst he
      refine (of_1 K x z b zs _).trans (Eq.trans ?_ h2)
      have e1 : hasM ThT (Prod.fst x, Prod.fst (Prod.snd x), Prod.fst (Prod.snd (Prod.snd x))) (ats 0 (z :: zs)) = !decide (findV x 0 (z :: zs) < 0) := hasM_ats x (z :: zs) 0
      rw [e1, Bool.not_not]
      by_cases hf : findV x 0 (z :: zs) < 0
      · rw [decide_eq_true hf, cond_true, cond_true]
        rfl
      · obtain ⟨g1, g2, g3⟩ := find_at x (z :: zs) hf
        have e2 : getM ThT (Prod.fst x, Prod.fst (Prod.snd x), Prod.fst (Prod.snd (Prod.snd x))) (0 : Int) (ats 0 (z :: zs)) = findV x 0 (z :: zs) := getM_ats x 0 (z :: zs) 0 g1
        rw [decide_eq_false hf, cond_false, cond_false, e2, ck_pos ⟨g1, g2⟩, g3]
        rfl
    · cases h
end Go.Mx
