/- Own work. A part of the proof of a law of this seat: this seat's functions, by the machine, and the plain law -/
import Derived.Test.YtfbgglpfakadhaaDoorWo
import Derived.Test.YtfbgglpfakadhaaDoorWm
/- same: both look the same, and stay so. -/
namespace Go.Mx
open Go Go.RowKit Go.Sx Go.Proofs
set_option linter.unusedVariables false
set_option linter.unusedSimpArgs false
set_option maxRecDepth 100000
def sameLs (a b : List SV) : Prop := a = b
instance decSV : DecidableEq SV := @instDecidableEqProd _ _ _ (@instDecidableEqProd _ _ _ (@instDecidableEqProd _ _ _ (@instDecidableEqProd _ _ _ (@instDecidableEqProd _ _ _ (@instDecidableEqProd _ _ _ _)))))
instance (a b : List SV) : Decidable (sameLs a b) := @instDecidableEqList _ decSV a b
def F16 : Summ := ⟨fun args ob K => match args, ob with
  | [.ptr 0 [], .ptr 1 []], [.box 54 (.pr .nils (.pr .nilm (.dat .bool b))) true, .box 43 (.pr .nils (.dat .bool c)) true] => ck (@Eq Bool c b) (K (.dat .bool true) [.box 54 (.pr .nils (.pr .nilm (.dat .bool b))) true, .box 43 (.pr .nils (.dat .bool b)) true])
  | [.ptr 0 [], .ptr 3 []], [.box 54 (.pr (.view 1) (.pr (.mp 2) (.dat .bool b))) true, .row 36 (.pair (.int .i64) (.pair (.int .i64) (.pair (.int .i64) (.pair .bool (.pair (.int .i64) (.pair (.int .u64) (.int .i64))))))) (z :: zs) .own, .map (.pair (.int .i64) (.pair (.int .i64) (.int .i64))) (.int .i64) es true, .box 43 (.pr (.view 4) (.dat .bool c)) true, .row 36 (.pair (.int .i64) (.pair (.int .i64) (.pair (.int .i64) (.pair .bool (.pair (.int .i64) (.pair (.int .u64) (.int .i64))))))) (y :: ys) .own] =>
    ck ((z :: zs).length ≤ 1000 ∧ @Eq Bool c b ∧ @Eq (List ((Int × Int × Int) × Int)) es (ats 0 (z :: zs)) ∧ sameLs (y :: ys) (z :: zs)) (K (.dat .bool true) [.box 54 (.pr (.view 1) (.pr (.mp 2) (.dat .bool b))) true, .row 36 ST (z :: zs) .own, .map ThT I64 (ats 0 (z :: zs)) true, .box 43 (.pr (.view 4) (.dat .bool b)) true, .row 36 ST (z :: zs) .own])
  | _, _ => none⟩
def ob5 (b : Bool) (z : SV) (zs : List SV) : List AO := [.box 54 (.pr (.view 1) (.pr (.mp 2) (.dat .bool b))) true, .row 36 ST (z :: zs) .own, .map ThT I64 (ats 0 (z :: zs)) true, .box 43 (.pr (.view 4) (.dat .bool b)) true, .row 36 ST (z :: zs) .own]
theorem samr_loop {R : Type} (L0 : Nat → St → (Exit → St → Option R) → Option R) (K : KV R) (b : Bool) (z : SV) (zs : List SV) (h1 : (z :: zs).length ≤ 1000) : ∀ (j k i : Nat) (cs : List SV), i + j = cs.length → cs.length ≤ 1000 → j < k →
    LX Tryd.prog G16 lv16 5 (codeOf Tryd.f16) k 0 ⟨[(0, .ptr 0 []), (1, .ptr 3 []), (5, .view 5), (6, .dat I64 (i : Int))], ob5 b z zs ++ [.row 36 ST cs .own]⟩ (endX Tryd.prog G16 lv16 Tryd.f16 5 L0 K 0) = K (.dat .bool true) (ob5 b z zs) := by
  intro j
  induction j with
  | zero =>
    intro k i cs hi hc hk
    obtain ⟨k, rfl⟩ : ∃ q, k = q + 1 := ⟨k - 1, by omega⟩
    refine (sms_1 _ L0 K b i z zs cs).trans ?_
    rw [show decide ((i : Int) < (cs.length : Nat)) = false from decide_eq_false (by omega), cond_false, ck_pos (by unfold limit; omega), ck_pos h1, decide_eq_true rfl, cond_true, sameL_refl]
    rfl
  | succ j ih =>
    intro k i cs hi hc hk
    obtain ⟨k, rfl⟩ : ∃ q, k = q + 1 := ⟨k - 1, by omega⟩
    refine (sms_1 _ L0 K b i z zs cs).trans ?_
    have hi' : i < cs.length := by omega
    rw [show decide ((i : Int) < (cs.length : Nat)) = true from decide_eq_true (by omega), cond_true, Int.toNat_natCast, List.getElem?_eq_getElem hi', wrapS (x := (i : Int) + 1) (by omega)]
    simp only [Option.bind_some, ck_pos (show (0 : Int) ≤ (i : Int) ∧ (i : Int) < ((cs.length : Nat) : Int) by omega)]
    generalize hx : List.set cs i _ = cs'
    have hl : cs'.length = cs.length := by rw [← hx, List.length_set]
    have e := ih k (i + 1) cs' (by omega) (by omega) (by omega)
    rw [show ((i + 1 : Nat) : Int) = (i : Int) + 1 by omega] at e
    exact e
theorem codeX_at {R : Type} {P : Program} {Γ : Sums} {lv : Tl} {k m : Nat} {fn : Func} {args : List AV} {ob : List AO} {K : KV R} (h : ob.length = m) : (codeX P Γ lv k fn).run args ob K = runX P Γ lv fn m (LX P Γ lv m (codeOf fn) k) args ob K := by subst h; rfl
theorem same_run0 {R : Type} (k : Nat) (K : KV R) (c : Bool) : (codeX Tryd.prog G16 lv16 (k + 1) Tryd.f16).run [.ptr 0 [], .ptr 1 []] [.box 54 (.pr .nils (.pr .nilm (.dat .bool c))) true, .box 43 (.pr .nils (.dat .bool c)) true] K = K (.dat .bool true) [.box 54 (.pr .nils (.pr .nilm (.dat .bool c))) true, .box 43 (.pr .nils (.dat .bool c)) true] := by
  refine (codeX_at (m := 2) rfl).trans ?_
  refine (sm_0 (LX Tryd.prog G16 lv16 2 (codeOf Tryd.f16) (k + 1)) K c).trans ?_
  have e : LX Tryd.prog G16 lv16 2 (codeOf Tryd.f16) (k + 1) 0 (St.mk [((0 : Nat), AV.ptr (0 : Nat) []), ((1 : Nat), AV.ptr (1 : Nat) []), ((5 : Nat), AV.nils), ((6 : Nat), AV.dat (T.int IntKind.i64) (0 : Int))] [AO.box (54 : Nat) (AV.pr AV.nils (AV.pr AV.nilm (AV.dat T.bool c))) true, AO.box (43 : Nat) (AV.pr AV.nils (AV.dat T.bool c)) true]) (endX Tryd.prog G16 lv16 Tryd.f16 (2 : Nat) (LX Tryd.prog G16 lv16 2 (codeOf Tryd.f16) (k + 1)) K (0 : Nat)) = K (.dat .bool true) [.box 54 (.pr .nils (.pr .nilm (.dat .bool c))) true, .box 43 (.pr .nils (.dat .bool c)) true] := sms_0 (LX Tryd.prog G16 lv16 2 (codeOf Tryd.f16) k) (LX Tryd.prog G16 lv16 2 (codeOf Tryd.f16) (k + 1)) K c 0
  rw [e]
  cases c <;> rfl
theorem same_run1 {R : Type} (k : Nat) (hk : 1005 ≤ k) (K : KV R) (c : Bool) (z : SV) (zs : List SV) (hl : (z :: zs).length ≤ 1000) : (codeX Tryd.prog G16 lv16 k Tryd.f16).run [.ptr 0 [], .ptr 3 []] (ob5 c z zs) K = K (.dat .bool true) (ob5 c z zs) := by
  refine (codeX_at (m := 5) rfl).trans ?_
  refine (sm_1 (LX Tryd.prog G16 lv16 5 (codeOf Tryd.f16) k) K c z zs).trans ?_
  have e := samr_loop (LX Tryd.prog G16 lv16 5 (codeOf Tryd.f16) k) K c z zs hl (z :: zs).length k 0 (z :: zs) (by omega) hl (by omega)
  have hm : eqM (z :: zs) (z :: zs) = true := by unfold eqM; rw [decide_eq_true rfl, cond_true, sameL_refl]
  rw [ck_pos (by unfold limit; omega), ck_pos hl, decide_eq_true rfl, cond_true, sameL_refl, ck_pos hl, decide_eq_true rfl, ck_pos hl, hm]
  cases c <;> exact e
theorem F16_ok : SumOk Tryd.prog 16 F16 := by
  refine (codeX_ok (Γ := G16) (k := 1010) (lv := lv16) mixed noNG_prog (sums_call (Wr := all) (l := [(12, F12), (13, W 13), (15, peekS 15 (argS [.sl ST, .sl ST] F15)), (21, peekS 21 (argS [.unit, .sl ST] F21)), (27, F27)]) ⟨F12_ok, W_ok 13, peek_ok (arg_ok F15_ok), peek_ok (arg_ok F21_ok), F27_ok, trivial⟩) (sums_prim ⟨F12_ok, W_ok 13, peek_ok (arg_ok F15_ok), peek_ok (arg_ok F21_ok), F27_ok, trivial⟩) (fn := Tryd.f16) rfl).le ?_ ?_
  · intro R R' f args ob K
    unfold F16; dsimp only
    split <;> simp only [bd_ck, bd_none]
  · intro R args ob K r h
    unfold F16 at h; dsimp only at h
    split at h
    · rename_i b c
      obtain ⟨hc, h2⟩ := ck_elim h
      clear h
      have hc : c = b := hc
      subst hc
      exact (same_run0 1009 K c).trans h2
    · rename_i b z zs es c y ys
      obtain ⟨⟨hl, hc, he, hy⟩, h2⟩ := ck_elim h
      clear h
      have hc : c = b := hc
      have he : es = ats 0 (z :: zs) := he
      have hy : (y :: ys) = (z :: zs) := hy
      subst hc; subst he
      rw [hy]
      exact (same_run1 1010 (by omega) K c z zs hl).trans h2
    · cases h
end Go.Mx
