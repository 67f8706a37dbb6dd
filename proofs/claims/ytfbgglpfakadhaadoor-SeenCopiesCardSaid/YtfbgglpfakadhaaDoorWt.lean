/- Own work. A part of the proof of a law of this seat: this seat's functions, by the machine, and the plain law -/
import Derived.Test.YtfbgglpfakadhaaDoorWs
/- Copies, and whether two sets are the same: summaries. -/
namespace Go.Mx
open Go Go.RowKit Go.Sx Go.Proofs
set_option linter.unusedVariables false
set_option linter.unusedSimpArgs false
set_option maxRecDepth 100000
def F22 : Summ := ⟨fun args ob K => match args, ob with
  | [.ptr 0 []], [.box 54 (.pr .nils (.pr .nilm (.dat .bool b))) true] => K (.ptr 1 []) [.box 54 (.pr .nils (.pr .nilm (.dat .bool b))) true, .box 54 (.pr .nils (.pr .nilm (.dat .bool b))) true]
  | [.ptr 0 []], [.box 54 (.pr (.view 1) (.pr (.mp 2) (.dat .bool b))) true, .row 36 (.pair (.int .i64) (.pair (.int .i64) (.pair (.int .i64) (.pair .bool (.pair (.int .i64) (.pair (.int .u64) (.int .i64))))))) (z :: zs) .own, .map (.pair (.int .i64) (.pair (.int .i64) (.int .i64))) (.int .i64) es true] => ck ((z :: zs).length ≤ 1000) (K (.ptr 3 []) [.box 54 (.pr (.view 1) (.pr (.mp 2) (.dat .bool b))) true, .row 36 ST (z :: zs) .own, .map ThT I64 es true, .box 54 (.pr (.view 4) (.pr (.mp 5) (.dat .bool b))) true, .row 36 ST (z :: zs) .own, .map ThT I64 es true])
  | _, _ => none⟩
theorem F22_ok : SumOk Tryd.prog 22 F22 := by
  refine (W22_ok 22).le ?_ ?_
  · intro R R' f args ob K
    unfold F22; dsimp only
    split <;> simp only [bd_ck, bd_none]
  · intro R args ob K r h
    unfold F22 at h; dsimp only at h
    split at h
    · rename_i b
      exact (copy_0 K b).trans h
    · rename_i b z zs es
      obtain ⟨hl, h2⟩ := ck_elim h
      clear h
      refine (copy_1 K b z zs es).trans (Eq.trans ?_ h2)
      rw [ck_pos (by unfold limit; omega)]
    · cases h
def F23 : Summ := ⟨fun args ob K => match args, ob with
  | [.ptr 0 []], [.box 43 (.pr .nils (.dat .bool b)) true] => K (.ptr 1 []) [.box 43 (.pr .nils (.dat .bool b)) true, .box 43 (.pr (.view 2) (.dat .bool b)) true, .row 36 ST [] .own]
  | [.ptr 0 []], [.box 43 (.pr (.view 1) (.dat .bool b)) true, .row 36 (.pair (.int .i64) (.pair (.int .i64) (.pair (.int .i64) (.pair .bool (.pair (.int .i64) (.pair (.int .u64) (.int .i64))))))) (z :: zs) .own] => ck ((z :: zs).length ≤ 1000) (K (.ptr 2 []) [.box 43 (.pr (.view 1) (.dat .bool b)) true, .row 36 ST (z :: zs) .own, .box 43 (.pr (.view 3) (.dat .bool b)) true, .row 36 ST (z :: zs) .own])
  | _, _ => none⟩
theorem F23_ok : SumOk Tryd.prog 23 F23 := by
  refine (W_ok 23).le ?_ ?_
  · intro R R' f args ob K
    unfold F23; dsimp only
    split <;> simp only [bd_ck, bd_none]
  · intro R args ob K r h
    unfold F23 at h; dsimp only at h
    split at h
    · rename_i b
      exact (rcopy_0 K b).trans h
    · rename_i b z zs
      obtain ⟨hl, h2⟩ := ck_elim h
      clear h
      refine (rcopy_1 K b z zs).trans (Eq.trans ?_ h2)
      rw [ck_pos (by unfold limit; omega)]
    · cases h
theorem al24 : AllOk Tryd.prog [(12, F12), (13, F13), (37, argS [.sl ST, .sl ST] F37), (15, peekS 15 (argS [.sl ST, .sl ST] F15))] := ⟨F12_ok, F13_ok, arg_ok F37_ok, peek_ok (arg_ok F15_ok), trivial⟩
def F24 : Summ := ⟨fun args ob K => match args, ob with
  | [.ptr 0 [], .ptr 1 []], [.box 54 (.pr .nils (.pr .nilm (.dat .bool b))) true, .box 54 (.pr .nils (.pr .nilm (.dat .bool c))) true] => K (.dat .bool (b == c && eqM [] [])) [.box 54 (.pr .nils (.pr .nilm (.dat .bool b))) true, .box 54 (.pr .nils (.pr .nilm (.dat .bool c))) true]
  | [.ptr 0 [], .ptr 1 []], [.box 54 (.pr .nils (.pr .nilm (.dat .bool b))) true, .box 54 (.pr (.view 2) (.pr (.mp 3) (.dat .bool c))) true, .row 36 (.pair (.int .i64) (.pair (.int .i64) (.pair (.int .i64) (.pair .bool (.pair (.int .i64) (.pair (.int .u64) (.int .i64))))))) (y :: ys) .own, .map (.pair (.int .i64) (.pair (.int .i64) (.int .i64))) (.int .i64) fs true] => ck ((y :: ys).length ≤ 1000) (K (.dat .bool (b == c && eqM [] (y :: ys))) [.box 54 (.pr .nils (.pr .nilm (.dat .bool b))) true, .box 54 (.pr (.view 2) (.pr (.mp 3) (.dat .bool c))) true, .row 36 ST (y :: ys) .own, .map ThT I64 fs true])
  | [.ptr 0 [], .ptr 3 []], [.box 54 (.pr (.view 1) (.pr (.mp 2) (.dat .bool b))) true, .row 36 (.pair (.int .i64) (.pair (.int .i64) (.pair (.int .i64) (.pair .bool (.pair (.int .i64) (.pair (.int .u64) (.int .i64))))))) (z :: zs) .own, .map (.pair (.int .i64) (.pair (.int .i64) (.int .i64))) (.int .i64) es true, .box 54 (.pr .nils (.pr .nilm (.dat .bool c))) true] => ck ((z :: zs).length ≤ 1000) (K (.dat .bool (b == c && eqM (z :: zs) [])) [.box 54 (.pr (.view 1) (.pr (.mp 2) (.dat .bool b))) true, .row 36 ST (z :: zs) .own, .map ThT I64 es true, .box 54 (.pr .nils (.pr .nilm (.dat .bool c))) true])
  | [.ptr 0 [], .ptr 3 []], [.box 54 (.pr (.view 1) (.pr (.mp 2) (.dat .bool b))) true, .row 36 (.pair (.int .i64) (.pair (.int .i64) (.pair (.int .i64) (.pair .bool (.pair (.int .i64) (.pair (.int .u64) (.int .i64))))))) (z :: zs) .own, .map (.pair (.int .i64) (.pair (.int .i64) (.int .i64))) (.int .i64) es true, .box 54 (.pr (.view 4) (.pr (.mp 5) (.dat .bool c))) true, .row 36 (.pair (.int .i64) (.pair (.int .i64) (.pair (.int .i64) (.pair .bool (.pair (.int .i64) (.pair (.int .u64) (.int .i64))))))) (y :: ys) .own, .map (.pair (.int .i64) (.pair (.int .i64) (.int .i64))) (.int .i64) fs true] => ck ((z :: zs).length ≤ 1000 ∧ (y :: ys).length ≤ 1000) (K (.dat .bool (b == c && eqM (z :: zs) (y :: ys))) [.box 54 (.pr (.view 1) (.pr (.mp 2) (.dat .bool b))) true, .row 36 ST (z :: zs) .own, .map ThT I64 es true, .box 54 (.pr (.view 4) (.pr (.mp 5) (.dat .bool c))) true, .row 36 ST (y :: ys) .own, .map ThT I64 fs true])
  | _, _ => none⟩
theorem F24_ok : SumOk Tryd.prog 24 F24 := by
  refine (codeX_ok (Γ := G24) (k := 0) (lv := lvN) mixed noNG_prog (sums_call (Wr := all) al24) (sums_prim al24) (fn := Tryd.f24) rfl).le ?_ ?_
  · intro R R' f args ob K
    unfold F24; dsimp only
    split <;> simp only [bd_ck, bd_none]
  · intro R args ob K r h
    unfold F24 at h; dsimp only at h
    split at h
    · rename_i b c
      have h2 := h
      refine (sam_00 K b c).trans (Eq.trans ?_ h2)
      unfold eqM
      cases (b == c) <;> rfl
    · rename_i b c y ys fs
      obtain ⟨hl, h2⟩ := ck_elim h
      clear h
      refine (sam_01 K b c y ys fs).trans (Eq.trans ?_ h2)
      rw [ck_pos hl]
      unfold eqM
      cases (b == c) <;> rfl
    · rename_i b z zs es c
      obtain ⟨hl, h2⟩ := ck_elim h
      clear h
      refine (sam_10 K b c z zs es).trans (Eq.trans ?_ h2)
      rw [ck_pos hl, ck_pos hl]
      unfold eqM
      cases (b == c) <;> rfl
    · rename_i b z zs es c y ys fs
      obtain ⟨⟨hl, hy⟩, h2⟩ := ck_elim h
      clear h
      refine (sam_11 K b c z y zs ys es fs).trans (Eq.trans ?_ h2)
      rw [ck_pos hl, ck_pos hy, ck_pos hl]
      unfold eqM
      cases (b == c) <;> rfl
    · cases h
def F26 : Summ := ⟨fun args ob K => match args, ob with
  | [.ptr 0 [], .ptr 1 []], [.box 43 (.pr .nils (.dat .bool b)) true, .box 43 (.pr (.view 2) (.dat .bool c)) true, .row 36 (.pair (.int .i64) (.pair (.int .i64) (.pair (.int .i64) (.pair .bool (.pair (.int .i64) (.pair (.int .u64) (.int .i64))))))) [] .own] => K (.dat .bool (b == c && eqM [] [])) [.box 43 (.pr .nils (.dat .bool b)) true, .box 43 (.pr (.view 2) (.dat .bool c)) true, .row 36 ST [] .own]
  | [.ptr 0 [], .ptr 1 []], [.box 43 (.pr .nils (.dat .bool b)) true, .box 43 (.pr (.view 2) (.dat .bool c)) true, .row 36 (.pair (.int .i64) (.pair (.int .i64) (.pair (.int .i64) (.pair .bool (.pair (.int .i64) (.pair (.int .u64) (.int .i64))))))) (y :: ys) .own] => K (.dat .bool (b == c && eqM [] (y :: ys))) [.box 43 (.pr .nils (.dat .bool b)) true, .box 43 (.pr (.view 2) (.dat .bool c)) true, .row 36 ST (y :: ys) .own]
  | [.ptr 0 [], .ptr 2 []], [.box 43 (.pr (.view 1) (.dat .bool b)) true, .row 36 (.pair (.int .i64) (.pair (.int .i64) (.pair (.int .i64) (.pair .bool (.pair (.int .i64) (.pair (.int .u64) (.int .i64))))))) (z :: zs) .own, .box 43 (.pr (.view 3) (.dat .bool c)) true, .row 36 (.pair (.int .i64) (.pair (.int .i64) (.pair (.int .i64) (.pair .bool (.pair (.int .i64) (.pair (.int .u64) (.int .i64))))))) [] .own] => ck ((z :: zs).length ≤ 1000) (K (.dat .bool (b == c && eqM (z :: zs) [])) [.box 43 (.pr (.view 1) (.dat .bool b)) true, .row 36 ST (z :: zs) .own, .box 43 (.pr (.view 3) (.dat .bool c)) true, .row 36 ST [] .own])
  | [.ptr 0 [], .ptr 2 []], [.box 43 (.pr (.view 1) (.dat .bool b)) true, .row 36 (.pair (.int .i64) (.pair (.int .i64) (.pair (.int .i64) (.pair .bool (.pair (.int .i64) (.pair (.int .u64) (.int .i64))))))) (z :: zs) .own, .box 43 (.pr (.view 3) (.dat .bool c)) true, .row 36 (.pair (.int .i64) (.pair (.int .i64) (.pair (.int .i64) (.pair .bool (.pair (.int .i64) (.pair (.int .u64) (.int .i64))))))) (y :: ys) .own] => ck ((z :: zs).length ≤ 1000) (K (.dat .bool (b == c && eqM (z :: zs) (y :: ys))) [.box 43 (.pr (.view 1) (.dat .bool b)) true, .row 36 ST (z :: zs) .own, .box 43 (.pr (.view 3) (.dat .bool c)) true, .row 36 ST (y :: ys) .own])
  | _, _ => none⟩
theorem F26_ok : SumOk Tryd.prog 26 F26 := by
  refine (codeX_ok (Γ := G24) (k := 0) (lv := lvN) mixed noNG_prog (sums_call (Wr := all) al24) (sums_prim al24) (fn := Tryd.f26) rfl).le ?_ ?_
  · intro R R' f args ob K
    unfold F26; dsimp only
    split <;> simp only [bd_ck, bd_none]
  · intro R args ob K r h
    unfold F26 at h; dsimp only at h
    split at h
    · rename_i b c
      have h2 := h
      refine (ram_00e K b c).trans (Eq.trans ?_ h2)
      unfold eqM
      cases (b == c) <;> rfl
    · rename_i b c y ys
      have h2 := h
      refine (ram_01 K b c y ys).trans (Eq.trans ?_ h2)
      unfold eqM
      cases (b == c) <;> rfl
    · rename_i b z zs c
      obtain ⟨hl, h2⟩ := ck_elim h
      clear h
      refine (ram_10e K b c z zs).trans (Eq.trans ?_ h2)
      rw [ck_pos hl]
      unfold eqM
      cases (b == c) <;> rfl
    · rename_i b z zs c y ys
      obtain ⟨hl, h2⟩ := ck_elim h
      clear h
      refine (ram_11 K b c z y zs ys).trans (Eq.trans ?_ h2)
      rw [ck_pos hl]
      unfold eqM
      cases (b == c) <;> rfl
    · cases h
def F25e : Summ := ⟨fun args ob K => match args, ob with
  | [.ptr 0 [], .dat (.pair (.int .i64) (.pair (.int .i64) (.pair (.int .i64) (.pair .bool (.pair (.int .i64) (.pair (.int .u64) (.int .i64))))))) x], [.box 43 (.pr (.view 1) (.dat .bool b)) true, .row 36 (.pair (.int .i64) (.pair (.int .i64) (.pair (.int .i64) (.pair .bool (.pair (.int .i64) (.pair (.int .u64) (.int .i64))))))) [] .own] => cond (rmayB x) (K (.dat I64 0) [.box 43 (.pr (.view 2) (.dat .bool b)) true, .row 36 ST [] .own, .row 36 ST [x] .own]) (K (.dat I64 2) [.box 43 (.pr (.view 1) (.dat .bool b)) true, .row 36 ST [] .own])
  | _, _ => none⟩
theorem F25e_ok : SumOk Tryd.prog 25 F25e := by
  refine (codeX_ok (Γ := G25e) (k := 0) (lv := lvN) mixed noNG_prog (sums_call (Wr := all) (l := [(20, F20), (18, W 18)]) ⟨F20_ok, W_ok 18, trivial⟩) (sums_prim ⟨F20_ok, W_ok 18, trivial⟩) (fn := Tryd.f25) rfl).le ?_ ?_
  · intro R R' f args ob K
    unfold F25e; dsimp only
    split <;> simp only [bd_cond, bd_none]
  · intro R args ob K r h
    unfold F25e at h; dsimp only at h
    split at h
    · rename_i x b
      refine (rnote_e K x b).trans (Eq.trans ?_ h)
      cases rmayB x <;> rfl
    · cases h
def c25 : List AV → List AO → Bool := fun _ ob => match ob with | [.box _ _ _, .row _ _ [] _] => true | _ => false
def F25p : Summ := eitherS c25 F25e F25
theorem F25p_ok : SumOk Tryd.prog 25 F25p := eitherS_ok F25e_ok F25_ok
theorem same_rune {R : Type} (k : Nat) (K : KV R) (c : Bool) : (codeX Tryd.prog G16 lv16 (k + 1) Tryd.f16).run [.ptr 0 [], .ptr 1 []] [.box 54 (.pr .nils (.pr .nilm (.dat .bool c))) true, .box 43 (.pr (.view 2) (.dat .bool c)) true, .row 36 ST [] .own] K = K (.dat .bool true) [.box 54 (.pr .nils (.pr .nilm (.dat .bool c))) true, .box 43 (.pr (.view 2) (.dat .bool c)) true, .row 36 ST [] .own] := by
  refine (codeX_at (m := 3) rfl).trans ?_
  refine (sm_e (LX Tryd.prog G16 lv16 3 (codeOf Tryd.f16) (k + 1)) K c).trans ?_
  have e : LX Tryd.prog G16 lv16 3 (codeOf Tryd.f16) (k + 1) 0 ⟨[(0, .ptr 0 []), (1, .ptr 1 []), (5, .nils), (6, .dat I64 0)], [.box 54 (.pr .nils (.pr .nilm (.dat .bool c))) true, .box 43 (.pr (.view 2) (.dat .bool c)) true, .row 36 ST [] .own]⟩ (endX Tryd.prog G16 lv16 Tryd.f16 3 (LX Tryd.prog G16 lv16 3 (codeOf Tryd.f16) (k + 1)) K 0) = K (.dat .bool true) [.box 54 (.pr .nils (.pr .nilm (.dat .bool c))) true, .box 43 (.pr (.view 2) (.dat .bool c)) true, .row 36 ST [] .own] := sms_e (LX Tryd.prog G16 lv16 3 (codeOf Tryd.f16) k) (LX Tryd.prog G16 lv16 3 (codeOf Tryd.f16) (k + 1)) K c 0
  rw [e]
  cases c <;> rfl
def F16e : Summ := ⟨fun args ob K => match args, ob with
  | [.ptr 0 [], .ptr 1 []], [.box 54 (.pr .nils (.pr .nilm (.dat .bool b))) true, .box 43 (.pr (.view 2) (.dat .bool c)) true, .row 36 (.pair (.int .i64) (.pair (.int .i64) (.pair (.int .i64) (.pair .bool (.pair (.int .i64) (.pair (.int .u64) (.int .i64))))))) [] .own] => ck (@Eq Bool c b) (K (.dat .bool true) [.box 54 (.pr .nils (.pr .nilm (.dat .bool b))) true, .box 43 (.pr (.view 2) (.dat .bool b)) true, .row 36 ST [] .own])
  | _, _ => none⟩
theorem al16 : AllOk Tryd.prog [(12, F12), (13, W 13), (15, peekS 15 (argS [.sl ST, .sl ST] F15)), (21, peekS 21 (argS [.unit, .sl ST] F21)), (27, F27)] := ⟨F12_ok, W_ok 13, peek_ok (arg_ok F15_ok), peek_ok (arg_ok F21_ok), F27_ok, trivial⟩
theorem F16e_ok : SumOk Tryd.prog 16 F16e := by
  refine (codeX_ok (Γ := G16) (k := 10) (lv := lv16) mixed noNG_prog (sums_call (Wr := all) al16) (sums_prim al16) (fn := Tryd.f16) rfl).le ?_ ?_
  · intro R R' f args ob K
    unfold F16e; dsimp only
    split <;> simp only [bd_ck, bd_none]
  · intro R args ob K r h
    unfold F16e at h; dsimp only at h
    split at h
    · rename_i b c
      obtain ⟨hc, h2⟩ := ck_elim h
      clear h
      have hc : c = b := hc
      subst hc
      exact (same_rune 9 K c).trans h2
    · cases h
def c16 : List AV → List AO → Bool := fun _ ob => match ob with | [.box _ _ _, .box _ _ _, .row _ _ [] _] => true | _ => false
def F16p : Summ := eitherS c16 F16e F16
theorem F16p_ok : SumOk Tryd.prog 16 F16p := eitherS_ok F16e_ok F16_ok
end Go.Mx
