/- Own work. A part of the proof of a law of this seat: this seat's functions, by the machine, and the plain law -/
import Derived.Test.YtfbgglpfakadhaaDoorWj
/- Still. -/
namespace Go.Mx
open Go Go.RowKit Go.Sx Go.Proofs
set_option linter.unusedVariables false
set_option linter.unusedSimpArgs false
set_option maxRecDepth 100000
noncomputable def G21 : Sums := sums all [(12, F12), (13, F13), (37, F37)]
theorem still_0 {R : Type} (K : KV R) (b : Bool) (now : List SV) : (codeX Tryd.prog G21 lvN 0 Tryd.f21).run [.ptr 0 [], .dat (.sl ST) now] [.box 54 (.pr .nils (.pr .nilm (.dat .bool b))) true] K = bif !b then K (AV.dat T.bool (bif decide ((0 : Nat) = List.length now) then sameL [] now else false)) [AO.box (54 : Nat) (AV.pr AV.nils (AV.pr AV.nilm (AV.dat T.bool b))) true] else K (AV.dat T.bool false) [AO.box (54 : Nat) (AV.pr AV.nils (AV.pr AV.nilm (AV.dat T.bool b))) true] := by kernel_rfl
theorem still_1 {R : Type} (K : KV R) (b : Bool) (z : SV) (zs : List SV) (es : List (ThT.den × Int)) (now : List SV) : (codeX Tryd.prog G21 lvN 0 Tryd.f21).run [.ptr 0 [], .dat (.sl ST) now] [.box 54 (.pr (.view 1) (.pr (.mp 2) (.dat .bool b))) true, .row 36 ST (z :: zs) .own, .map ThT I64 es true] K = bif !b then ck (List.length (z :: zs) ≤ (1000 : Nat)) (ck (List.length (z :: zs) ≤ (1000 : Nat)) (K (AV.dat T.bool (bif decide (List.length (z :: zs) = List.length now) then sameL (z :: zs) now else false)) [AO.box (54 : Nat) (AV.pr (AV.view (1 : Nat)) (AV.pr (AV.mp (2 : Nat)) (AV.dat T.bool b))) true, AO.row (36 : Nat) (T.pair (T.int IntKind.i64) (T.pair (T.int IntKind.i64) (T.pair (T.int IntKind.i64) (T.pair T.bool (T.pair (T.int IntKind.i64) (T.pair (T.int IntKind.u64) (T.int IntKind.i64))))))) (z :: zs) Md.own, AO.map (T.pair (T.int IntKind.i64) (T.pair (T.int IntKind.i64) (T.int IntKind.i64))) (T.int IntKind.i64) es true])) else K (AV.dat T.bool false) [AO.box (54 : Nat) (AV.pr (AV.view (1 : Nat)) (AV.pr (AV.mp (2 : Nat)) (AV.dat T.bool b))) true, AO.row (36 : Nat) (T.pair (T.int IntKind.i64) (T.pair (T.int IntKind.i64) (T.pair (T.int IntKind.i64) (T.pair T.bool (T.pair (T.int IntKind.i64) (T.pair (T.int IntKind.u64) (T.int IntKind.i64))))))) (z :: zs) Md.own, AO.map (T.pair (T.int IntKind.i64) (T.pair (T.int IntKind.i64) (T.int IntKind.i64))) (T.int IntKind.i64) es true] := by kernel_rfl
def eqM (a b : List SV) : Bool := bif decide (a.length = b.length) then sameL a b else false
def F21 : Summ := ⟨fun args ob K => match args, ob with
  | [.ptr 0 [], .dat (.sl (.pair (.int .i64) (.pair (.int .i64) (.pair (.int .i64) (.pair .bool (.pair (.int .i64) (.pair (.int .u64) (.int .i64)))))))) now], [.box 54 (.pr .nils (.pr .nilm (.dat .bool b))) true] => K (.dat .bool (!b && eqM [] now)) [.box 54 (.pr .nils (.pr .nilm (.dat .bool b))) true]
  | [.ptr 0 [], .dat (.sl (.pair (.int .i64) (.pair (.int .i64) (.pair (.int .i64) (.pair .bool (.pair (.int .i64) (.pair (.int .u64) (.int .i64)))))))) now], [.box 54 (.pr (.view 1) (.pr (.mp 2) (.dat .bool b))) true, .row 36 (.pair (.int .i64) (.pair (.int .i64) (.pair (.int .i64) (.pair .bool (.pair (.int .i64) (.pair (.int .u64) (.int .i64))))))) (z :: zs) .own, .map (.pair (.int .i64) (.pair (.int .i64) (.int .i64))) (.int .i64) es true] => ck ((z :: zs).length ≤ 1000) (K (.dat .bool (!b && eqM (z :: zs) now)) [.box 54 (.pr (.view 1) (.pr (.mp 2) (.dat .bool b))) true, .row 36 ST (z :: zs) .own, .map ThT I64 es true])
  | _, _ => none⟩
theorem F21_ok : SumOk Tryd.prog 21 F21 := by
  refine (codeX_ok (Γ := G21) (k := 0) (lv := lvN) mixed noNG_prog (sums_call (Wr := all) (l := [(12, F12), (13, F13), (37, F37)]) ⟨F12_ok, F13_ok, F37_ok, trivial⟩) (sums_prim ⟨F12_ok, F13_ok, F37_ok, trivial⟩) (fn := Tryd.f21) rfl).le ?_ ?_
  · intro R R' f args ob K
    unfold F21; dsimp only
    split <;> simp only [bd_ck, bd_none]
  · intro R args ob K r h
    unfold F21 at h; dsimp only at h
    split at h
    · rename_i now b
      refine (still_0 K b now).trans (Eq.trans ?_ h)
      unfold eqM
      cases b <;> rfl
    · rename_i now b z zs es
      obtain ⟨hl, h2⟩ := ck_elim h
      clear h
      refine (still_1 K b z zs es now).trans (Eq.trans ?_ h2)
      unfold eqM
      cases b with
      | true => rfl
      | false =>
        rw [Bool.not_false, cond_true, ck_pos hl, ck_pos hl]
        rfl
    · cases h
end Go.Mx
