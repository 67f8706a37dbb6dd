/- Own work. A part of the proof of a law of this seat: this seat's functions, by the machine, and the plain law -/
import Derived.Test.YtmljbiijlljhfaaWl
set_option linter.unusedSimpArgs false
set_option linter.unusedVariables false
namespace Go.Mx
open Go Go.RowKit Go.Sx Go.Proofs
set_option maxRecDepth 100000
theorem read_even {l : List Int} (h : l.length % 2 = 0) : readP l = none := by
  unfold readP
  rw [if_neg (by omega)]
theorem set_ne {l : List Int} {i : Nat} (h : i < l.length) {v : Int} (hv : v ≠ l.getD i 0) : l.set i v ≠ l := by
  intro e
  apply hv
  have : (l.set i v).getD i 0 = v := by
    rw [List.getD_eq_getElem?_getD, List.getElem?_set_self h]; rfl
  rw [e] at this
  exact this.symm
theorem NibbleBack_law (x : XV) (hx : (Lit.int .i64 x.1).wf = true ∧ x.2.size ≤ 140737488351232) (at' : Int) (_ : (Lit.int .i64 at').wf = true) (by' : Int) (hby : (Lit.int .u8 by').wf = true) : (codeX Try.prog G5 lvN 0 Try.f6).run [.dat XT x, .dat I64 at', .dat U8 by'] [] isTrue = some true := by
  have hby := wf8 hby
  refine (nb_0 isTrue x at' by').trans ?_
  by_cases h1 : (2000 : Int) < (x.2.size : Int)
  · rw [decide_eq_true h1]; rfl
  rw [decide_eq_false h1, cond_false]
  cases hm : mayV x with
  | false => rfl
  | true =>
    have hlen := ofV_len x
    have hbs := ofV_bytes hm
    obtain ⟨_, _, r3, r4⟩ := may_range hm
    rw [Bool.not_true, cond_false, ck_pos rfl, ck_pos ⟨by omega, hbs⟩, read_of hm]
    show (bif !(decide (x.1 = x.1) && decide (x.2 = x.2)) then _ else _) = _
    rw [decide_eq_true rfl, decide_eq_true rfl, Bool.and_self, Bool.not_true, cond_false, wrapS (x := ((ofV x).length : Int) - 1) (by omega), ck_pos (by omega), ck_pos (by omega), ck_pos (by unfold limit; omega), ck_pos (by unfold limit; omega)]
    have hb2 : Bytes (ofV x ++ [0]) := fun y hy => by
      rcases List.mem_append.1 hy with hy | hy
      · exact hbs y hy
      · rw [List.mem_singleton.1 hy]; decide
    rw [ck_pos ⟨by rw [List.length_append]; show (ofV x).length + 1 < 10000; omega, hb2⟩, read_even (by rw [List.length_append]; show ((ofV x).length + 1) % 2 = 0; omega)]
    show ck _ _ = _
    have ew : IntKind.u64.wrap ((ofV x).length : Int) = ((ofV x).length : Int) := by rw [IntKind.wrap_u64]; omega
    rw [ew]
    have hn : 0 ≤ IntKind.u64.wrap at' := by rw [IntKind.wrap_u64]; omega
    have hm0 := Int.tmod_nonneg ((ofV x).length : Int) hn
    have hm1 := Int.tmod_lt_of_pos (IntKind.u64.wrap at') (show (0 : Int) < ((ofV x).length : Int) by omega)
    generalize Int.tmod (IntKind.u64.wrap at') ((ofV x).length : Int) = n at hm0 hm1 ⊢
    obtain ⟨i, rfl⟩ : ∃ i : Nat, n = i := ⟨n.toNat, by omega⟩
    rw [wrapS (x := (i : Int)) (by omega), ck_pos (by omega), ck_pos (by omega), getq (j := i) rfl (by omega), Option.bind_some, ck_pos (by omega), Option.bind_some, Int.toNat_natCast]
    have hg : 0 ≤ (ofV x).getD i 0 ∧ (ofV x).getD i 0 < 256 := hbs _ (by rw [List.getD_eq_getElem?_getD, List.getElem?_eq_getElem (show i < (ofV x).length by omega)]; exact List.getElem_mem _)
    have hw : 0 ≤ IntKind.u8.wrap ((ofV x).getD i 0 + by') ∧ IntKind.u8.wrap ((ofV x).getD i 0 + by') < 256 := by rw [IntKind.wrap_u8]; omega
    have hb3 : Bytes ((ofV x).set i (IntKind.u8.wrap ((ofV x).getD i 0 + by'))) := fun y hy => by
      rcases List.mem_or_eq_of_mem_set hy with hy | rfl
      · exact hbs y hy
      · exact hw
    rw [ck_pos ⟨by rw [List.length_set]; omega, hb3⟩]
    by_cases h0 : by' = 0
    · subst h0
      have hset : (ofV x).set i (IntKind.u8.wrap ((ofV x).getD i 0 + 0)) = ofV x := by
        rw [Int.add_zero, wrapB hg, List.getD_eq_getElem?_getD, List.getElem?_eq_getElem (show i < (ofV x).length by omega)]
        exact List.set_getElem_self _
      rw [hset, read_of hm]
      unfold optK
      simp only [decide_true, Bool.and_self, cond_true]
      rfl
    · have hne : (ofV x).set i (IntKind.u8.wrap ((ofV x).getD i 0 + by')) ≠ ofV x := set_ne (by omega) (by rw [IntKind.wrap_u8]; omega)
      cases hr : readP ((ofV x).set i (IntKind.u8.wrap ((ofV x).getD i 0 + by'))) with
      | none =>
        show (bif decide (by' = 0) then _ else (bif !decide (by' = 0) then _ else _)) = _
        rw [decide_eq_false h0]
        rfl
      | some z =>
        obtain ⟨_, m2, _, _⟩ := read_some hr
        have hz : ¬ z = x := fun e => hne (by rw [← m2, e])
        show (bif decide (by' = 0) then _ else (bif !decide (by' = 0) then (bif !(decide (z.1 = x.1) && decide (z.2 = x.2)) then _ else _) else _)) = _
        have : (decide (z.1 = x.1) && decide (z.2 = x.2)) = false := by
          rw [Bool.and_eq_false_iff]
          by_cases c : z.1 = x.1
          · right; exact decide_eq_false (fun e => hz (Prod.ext c e))
          · left; exact decide_eq_false c
        rw [decide_eq_false h0, this]
        rfl
end Go.Mx
