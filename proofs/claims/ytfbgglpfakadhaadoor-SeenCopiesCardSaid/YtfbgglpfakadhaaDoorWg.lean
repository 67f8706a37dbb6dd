/- Own work. A part of the proof of a law of this seat: this seat's functions, by the machine, and the plain law -/
import Derived.Test.YtfbgglpfakadhaaDoorWf
import Derived.Test.YtfbgglpfakadhaaDoorMe
/- Note, here and in the document; All, Len. -/
namespace Go.Mx
open Go Go.RowKit Go.Sx Go.Proofs
set_option linter.unusedVariables false
set_option linter.unusedSimpArgs false
set_option maxRecDepth 100000
noncomputable def W14 (f : FuncId) : Summ := wideM Tryd.prog [(19, F19)] all 300 30 f
noncomputable def G25 : Sums := sums all [(20, F20), (18, F18)]
theorem note_0 {R : Type} (K : KV R) (x : SV) (b : Bool) : (W14 14).run [.ptr 0 [], .dat ST x] [.box 54 (.pr .nils (.pr .nilm (.dat .bool b))) true] K = bif !mayB x then K (AV.dat (T.int IntKind.i64) (2 : Int)) [AO.box (54 : Nat) (AV.pr AV.nils (AV.pr AV.nilm (AV.dat T.bool b))) true] else K (AV.dat (T.int IntKind.i64) (0 : Int)) [AO.box (54 : Nat) (AV.pr (AV.view (1 : Nat)) (AV.pr (AV.mp (2 : Nat)) (AV.dat T.bool b))) true, AO.row (36 : Nat) (T.pair (T.int IntKind.i64) (T.pair (T.int IntKind.i64) (T.pair (T.int IntKind.i64) (T.pair T.bool (T.pair (T.int IntKind.i64) (T.pair (T.int IntKind.u64) (T.int IntKind.i64))))))) [x] Md.own, AO.map (T.pair (T.int IntKind.i64) (T.pair (T.int IntKind.i64) (T.int IntKind.i64))) (T.int IntKind.i64) (setM (T.pair (T.int IntKind.i64) (T.pair (T.int IntKind.i64) (T.int IntKind.i64))) (Prod.fst x, Prod.fst (Prod.snd x), Prod.fst (Prod.snd (Prod.snd x))) (0 : Int) []) true] := by kernel_rfl
theorem note_1 {R : Type} (K : KV R) (x : SV) (b : Bool) (z : SV) (zs : List SV) (es : List (ThT.den × Int)) : (W14 14).run [.ptr 0 [], .dat ST x] [.box 54 (.pr (.view 1) (.pr (.mp 2) (.dat .bool b))) true, .row 36 ST (z :: zs) .own, .map ThT I64 es true] K = bif !mayB x then K (AV.dat (T.int IntKind.i64) (2 : Int)) [AO.box (54 : Nat) (AV.pr (AV.view (1 : Nat)) (AV.pr (AV.mp (2 : Nat)) (AV.dat T.bool b))) true, AO.row (36 : Nat) (T.pair (T.int IntKind.i64) (T.pair (T.int IntKind.i64) (T.pair (T.int IntKind.i64) (T.pair T.bool (T.pair (T.int IntKind.i64) (T.pair (T.int IntKind.u64) (T.int IntKind.i64))))))) (z :: zs) Md.own, AO.map (T.pair (T.int IntKind.i64) (T.pair (T.int IntKind.i64) (T.int IntKind.i64))) (T.int IntKind.i64) es true] else bif !hasM ThT (Prod.fst x, Prod.fst (Prod.snd x), Prod.fst (Prod.snd (Prod.snd x))) es then ck ((List.length (z :: zs) + (1 : Nat)) * (56 : Nat) ≤ limit) (K (AV.dat (T.int IntKind.i64) (0 : Int)) [AO.box (54 : Nat) (AV.pr (AV.view (3 : Nat)) (AV.pr (AV.mp (2 : Nat)) (AV.dat T.bool b))) true, AO.gone, AO.map (T.pair (T.int IntKind.i64) (T.pair (T.int IntKind.i64) (T.int IntKind.i64))) (T.int IntKind.i64) (setM ThT (Prod.fst x, Prod.fst (Prod.snd x), Prod.fst (Prod.snd (Prod.snd x))) (↑(List.length (z :: zs)) : Int) es) true, AO.row (36 : Nat) (T.pair (T.int IntKind.i64) (T.pair (T.int IntKind.i64) (T.pair (T.int IntKind.i64) (T.pair T.bool (T.pair (T.int IntKind.i64) (T.pair (T.int IntKind.u64) (T.int IntKind.i64))))))) (z :: zs ++ [x]) Md.own]) else ck ((0 : Int) ≤ getM ThT (Prod.fst x, Prod.fst (Prod.snd x), Prod.fst (Prod.snd (Prod.snd x))) (0 : Int) es ∧ getM ThT (Prod.fst x, Prod.fst (Prod.snd x), Prod.fst (Prod.snd (Prod.snd x))) (0 : Int) es < (↑(List.length (z :: zs)) : Int)) (Option.bind (z :: zs)[Int.toNat (getM ThT (Prod.fst x, Prod.fst (Prod.snd x), Prod.fst (Prod.snd (Prod.snd x))) (0 : Int) es)]? fun x_1 ↦ bif b then K (AV.dat (T.int IntKind.i64) (0 : Int)) [AO.box (54 : Nat) (AV.pr (AV.view (1 : Nat)) (AV.pr (AV.mp (2 : Nat)) (AV.dat T.bool true))) true, AO.row (36 : Nat) (T.pair (T.int IntKind.i64) (T.pair (T.int IntKind.i64) (T.pair (T.int IntKind.i64) (T.pair T.bool (T.pair (T.int IntKind.i64) (T.pair (T.int IntKind.u64) (T.int IntKind.i64))))))) (z :: zs) Md.own, AO.map (T.pair (T.int IntKind.i64) (T.pair (T.int IntKind.i64) (T.int IntKind.i64))) (T.int IntKind.i64) es true] else K (AV.dat (T.int IntKind.i64) (0 : Int)) [AO.box (54 : Nat) (AV.pr (AV.view (1 : Nat)) (AV.pr (AV.mp (2 : Nat)) (AV.dat T.bool !(decide (Prod.fst x_1 = Prod.fst x) && (decide (Prod.fst (Prod.snd x_1) = Prod.fst (Prod.snd x)) && (decide (Prod.fst (Prod.snd (Prod.snd x_1)) = Prod.fst (Prod.snd (Prod.snd x))) && (Prod.fst (Prod.snd (Prod.snd (Prod.snd x_1))) == Prod.fst (Prod.snd (Prod.snd (Prod.snd x))) && (decide (Prod.fst (Prod.snd (Prod.snd (Prod.snd (Prod.snd x_1)))) = Prod.fst (Prod.snd (Prod.snd (Prod.snd (Prod.snd x))))) && (decide (Prod.fst (Prod.snd (Prod.snd (Prod.snd (Prod.snd (Prod.snd x_1))))) = Prod.fst (Prod.snd (Prod.snd (Prod.snd (Prod.snd (Prod.snd x)))))) && decide (Prod.snd (Prod.snd (Prod.snd (Prod.snd (Prod.snd (Prod.snd x_1))))) = Prod.snd (Prod.snd (Prod.snd (Prod.snd (Prod.snd (Prod.snd x))))))))))))))) true, AO.row (36 : Nat) (T.pair (T.int IntKind.i64) (T.pair (T.int IntKind.i64) (T.pair (T.int IntKind.i64) (T.pair T.bool (T.pair (T.int IntKind.i64) (T.pair (T.int IntKind.u64) (T.int IntKind.i64))))))) (z :: zs) Md.own, AO.map (T.pair (T.int IntKind.i64) (T.pair (T.int IntKind.i64) (T.int IntKind.i64))) (T.int IntKind.i64) es true]) := by kernel_rfl
theorem rnote_0 {R : Type} (K : KV R) (x : SV) (b : Bool) : (codeX Tryd.prog G25 lvN 0 Tryd.f25).run [.ptr 0 [], .dat ST x] [.box 43 (.pr .nils (.dat .bool b)) true] K = bif !rmayB x then K (AV.dat (T.int IntKind.i64) (2 : Int)) [AO.box (43 : Nat) (AV.pr AV.nils (AV.dat T.bool b)) true] else K (AV.dat (T.int IntKind.i64) (0 : Int)) [AO.box (43 : Nat) (AV.pr (AV.view (1 : Nat)) (AV.dat T.bool b)) true, AO.row (36 : Nat) (T.pair (T.int IntKind.i64) (T.pair (T.int IntKind.i64) (T.pair (T.int IntKind.i64) (T.pair T.bool (T.pair (T.int IntKind.i64) (T.pair (T.int IntKind.u64) (T.int IntKind.i64))))))) ([] ++ [x]) Md.own] := by kernel_rfl
theorem rnote_1 {R : Type} (K : KV R) (x : SV) (b : Bool) (z : SV) (zs : List SV) : (codeX Tryd.prog G25 lvN 0 Tryd.f25).run [.ptr 0 [], .dat ST x] [.box 43 (.pr (.view 1) (.dat .bool b)) true, .row 36 ST (z :: zs) .own] K = bif !rmayB x then K (AV.dat (T.int IntKind.i64) (2 : Int)) [AO.box (43 : Nat) (AV.pr (AV.view (1 : Nat)) (AV.dat T.bool b)) true, AO.row (36 : Nat) (T.pair (T.int IntKind.i64) (T.pair (T.int IntKind.i64) (T.pair (T.int IntKind.i64) (T.pair T.bool (T.pair (T.int IntKind.i64) (T.pair (T.int IntKind.u64) (T.int IntKind.i64))))))) (z :: zs) Md.own] else ck (List.length (z :: zs) ≤ (1000 : Nat)) (bif decide (findV x (0 : Nat) (z :: zs) < (0 : Int)) then ck (List.length (z :: zs) * (56 : Nat) ≤ limit) (ck ((List.length (z :: zs) + (1 : Nat)) * (56 : Nat) ≤ limit) (K (AV.dat (T.int IntKind.i64) (0 : Int)) [AO.box (43 : Nat) (AV.pr (AV.view (2 : Nat)) (AV.dat T.bool b)) true, AO.row (36 : Nat) (T.pair (T.int IntKind.i64) (T.pair (T.int IntKind.i64) (T.pair (T.int IntKind.i64) (T.pair T.bool (T.pair (T.int IntKind.i64) (T.pair (T.int IntKind.u64) (T.int IntKind.i64))))))) (z :: zs) Md.own, AO.row (36 : Nat) (T.pair (T.int IntKind.i64) (T.pair (T.int IntKind.i64) (T.pair (T.int IntKind.i64) (T.pair T.bool (T.pair (T.int IntKind.i64) (T.pair (T.int IntKind.u64) (T.int IntKind.i64))))))) (z :: zs ++ [x]) Md.own])) else ck ((0 : Int) ≤ findV x (0 : Nat) (z :: zs) ∧ findV x (0 : Nat) (z :: zs) < (↑(List.length (z :: zs)) : Int)) (Option.bind (z :: zs)[Int.toNat (findV x (0 : Nat) (z :: zs))]? fun x_1 ↦ bif !(decide (Prod.fst x_1 = Prod.fst x) && (decide (Prod.fst (Prod.snd x_1) = Prod.fst (Prod.snd x)) && (decide (Prod.fst (Prod.snd (Prod.snd x_1)) = Prod.fst (Prod.snd (Prod.snd x))) && (Prod.fst (Prod.snd (Prod.snd (Prod.snd x_1))) == Prod.fst (Prod.snd (Prod.snd (Prod.snd x))) && (decide (Prod.fst (Prod.snd (Prod.snd (Prod.snd (Prod.snd x_1)))) = Prod.fst (Prod.snd (Prod.snd (Prod.snd (Prod.snd x))))) && (decide (Prod.fst (Prod.snd (Prod.snd (Prod.snd (Prod.snd (Prod.snd x_1))))) = Prod.fst (Prod.snd (Prod.snd (Prod.snd (Prod.snd (Prod.snd x)))))) && decide (Prod.snd (Prod.snd (Prod.snd (Prod.snd (Prod.snd (Prod.snd x_1))))) = Prod.snd (Prod.snd (Prod.snd (Prod.snd (Prod.snd (Prod.snd x)))))))))))) then K (AV.dat (T.int IntKind.i64) (0 : Int)) [AO.box (43 : Nat) (AV.pr (AV.view (1 : Nat)) (AV.dat T.bool true)) true, AO.row (36 : Nat) (T.pair (T.int IntKind.i64) (T.pair (T.int IntKind.i64) (T.pair (T.int IntKind.i64) (T.pair T.bool (T.pair (T.int IntKind.i64) (T.pair (T.int IntKind.u64) (T.int IntKind.i64))))))) (z :: zs) Md.own] else K (AV.dat (T.int IntKind.i64) (0 : Int)) [AO.box (43 : Nat) (AV.pr (AV.view (1 : Nat)) (AV.dat T.bool b)) true, AO.row (36 : Nat) (T.pair (T.int IntKind.i64) (T.pair (T.int IntKind.i64) (T.pair (T.int IntKind.i64) (T.pair T.bool (T.pair (T.int IntKind.i64) (T.pair (T.int IntKind.u64) (T.int IntKind.i64))))))) (z :: zs) Md.own])) := by kernel_rfl
theorem len_0 {R : Type} (K : KV R) (b : Bool) : (W 27).run [.ptr 0 []] [.box 54 (.pr .nils (.pr .nilm (.dat .bool b))) true] K = K (AV.dat (T.int IntKind.i64) (0 : Int)) [AO.box (54 : Nat) (AV.pr AV.nils (AV.pr AV.nilm (AV.dat T.bool b))) true] := by kernel_rfl
theorem len_1 {R : Type} (K : KV R) (b : Bool) (z : SV) (zs : List SV) (es : List (ThT.den × Int)) : (W 27).run [.ptr 0 []] [.box 54 (.pr (.view 1) (.pr (.mp 2) (.dat .bool b))) true, .row 36 ST (z :: zs) .own, .map ThT I64 es true] K = ck (List.length (z :: zs) * (56 : Nat) ≤ limit) (K (AV.dat (T.int IntKind.i64) (↑(List.length (z :: zs)) : Int)) [AO.box (54 : Nat) (AV.pr (AV.view (1 : Nat)) (AV.pr (AV.mp (2 : Nat)) (AV.dat T.bool b))) true, AO.row (36 : Nat) (T.pair (T.int IntKind.i64) (T.pair (T.int IntKind.i64) (T.pair (T.int IntKind.i64) (T.pair T.bool (T.pair (T.int IntKind.i64) (T.pair (T.int IntKind.u64) (T.int IntKind.i64))))))) (z :: zs) Md.own, AO.map (T.pair (T.int IntKind.i64) (T.pair (T.int IntKind.i64) (T.int IntKind.i64))) (T.int IntKind.i64) es true]) := by kernel_rfl
theorem all_0 {R : Type} (K : KV R) (b : Bool) : (backS [.sl ST] [] (frzS (W 13))).run [.ptr 0 []] [.box 54 (.pr .nils (.pr .nilm (.dat .bool b))) true] K = K (AV.dat (T.sl (T.pair (T.int IntKind.i64) (T.pair (T.int IntKind.i64) (T.pair (T.int IntKind.i64) (T.pair T.bool (T.pair (T.int IntKind.i64) (T.pair (T.int IntKind.u64) (T.int IntKind.i64)))))))) []) [AO.box (54 : Nat) (AV.pr AV.nils (AV.pr AV.nilm (AV.dat T.bool b))) true] := by kernel_rfl
theorem all_1 {R : Type} (K : KV R) (b : Bool) (z : SV) (zs : List SV) (es : List (ThT.den × Int)) : (backS [.sl ST] [] (frzS (W 13))).run [.ptr 0 []] [.box 54 (.pr (.view 1) (.pr (.mp 2) (.dat .bool b))) true, .row 36 ST (z :: zs) .own, .map ThT I64 es true] K = ck (List.length (z :: zs) * (56 : Nat) ≤ limit) (K (AV.dat (T.sl (T.pair (T.int IntKind.i64) (T.pair (T.int IntKind.i64) (T.pair (T.int IntKind.i64) (T.pair T.bool (T.pair (T.int IntKind.i64) (T.pair (T.int IntKind.u64) (T.int IntKind.i64)))))))) (z :: zs)) [AO.box (54 : Nat) (AV.pr (AV.view (1 : Nat)) (AV.pr (AV.mp (2 : Nat)) (AV.dat T.bool b))) true, AO.row (36 : Nat) (T.pair (T.int IntKind.i64) (T.pair (T.int IntKind.i64) (T.pair (T.int IntKind.i64) (T.pair T.bool (T.pair (T.int IntKind.i64) (T.pair (T.int IntKind.u64) (T.int IntKind.i64))))))) (z :: zs) Md.own, AO.map (T.pair (T.int IntKind.i64) (T.pair (T.int IntKind.i64) (T.int IntKind.i64))) (T.int IntKind.i64) es true]) := by kernel_rfl
def keyS (x : SV) : Int × Int × Int := (x.1, x.2.1, x.2.2.1)
def ats : Nat → List SV → List ((Int × Int × Int) × Int)
  | _, [] => []
  | n, y :: r => (keyS y, (n : Int)) :: ats (n + 1) r
def brk (b : Bool) (l : List SV) (x : SV) : Bool := b || !(eqS (l.getD (findV x 0 l).toNat x) x)
theorem eqB_key (x y : SV) : eqB ThT (keyS x) (keyS y) = keyE y x := by
  show (decide (x.1 = y.1) && (decide (x.2.1 = y.2.1) && decide (x.2.2.1 = y.2.2.1))) = keyE y x
  unfold keyE
  rw [show decide (x.1 = y.1) = decide (y.1 = x.1) from decide_eq_decide.2 eq_comm, show decide (x.2.1 = y.2.1) = decide (y.2.1 = x.2.1) from decide_eq_decide.2 eq_comm, show decide (x.2.2.1 = y.2.2.1) = decide (y.2.2.1 = x.2.2.1) from decide_eq_decide.2 eq_comm]
theorem findV_or (x : SV) : ∀ (l : List SV) (n : Nat), findV x n l = -1 ∨ ((n : Int) ≤ findV x n l ∧ findV x n l < (n + l.length : Int))
  | [], n => .inl rfl
  | y :: r, n => by
    rw [findV]
    cases keyE y x with
    | true => right; rw [cond_true, List.length_cons]; omega
    | false =>
      rw [cond_false, List.length_cons]
      rcases findV_or x r (n + 1) with h | h
      · exact .inl h
      · right; omega
theorem hasM_ats (x : SV) : ∀ (l : List SV) (n : Nat), hasM ThT (keyS x) (ats n l) = !decide (findV x n l < 0)
  | [], n => rfl
  | y :: r, n => by
    show (cond (eqB ThT (keyS x) (keyS y)) true (hasM ThT (keyS x) (ats (n + 1) r))) = _
    rw [eqB_key, findV, hasM_ats x r (n + 1)]
    cases keyE y x with
    | true => rw [cond_true, cond_true, decide_eq_false (by omega)]; rfl
    | false => rfl
theorem getM_ats (x : SV) (d : Int) : ∀ (l : List SV) (n : Nat), 0 ≤ findV x n l → getM ThT (keyS x) d (ats n l) = findV x n l
  | [], n, h => by rw [findV] at h; omega
  | y :: r, n, h => by
    show (cond (eqB ThT (keyS x) (keyS y)) (n : Int) (getM ThT (keyS x) d (ats (n + 1) r))) = _
    rw [eqB_key, findV]
    rw [findV] at h
    cases hk : keyE y x with
    | true => rfl
    | false => rw [hk] at h; exact getM_ats x d r (n + 1) h
theorem setM_ats (x : SV) : ∀ (l : List SV) (n : Nat), findV x n l < 0 → setM ThT (keyS x) ((n + l.length : Nat) : Int) (ats n l) = ats n (l ++ [x])
  | [], n, h => rfl
  | y :: r, n, h => by
    show (cond (eqB ThT (keyS x) (keyS y)) _ _) = _
    rw [eqB_key]
    rw [findV] at h
    cases hk : keyE y x with
    | true => rw [hk] at h; rw [cond_true] at h; omega
    | false =>
      rw [hk] at h
      have e := setM_ats x r (n + 1) h
      rw [cond_false]
      show _ :: setM ThT (keyS x) _ (ats (n + 1) r) = (keyS y, (n : Int)) :: ats (n + 1) (r ++ [x])
      rw [← e, List.length_cons, show n + (r.length + 1) = n + 1 + r.length by omega]
def F14 : Summ := ⟨fun args ob K => match args, ob with
  | [.ptr 0 [], .dat (.pair (.int .i64) (.pair (.int .i64) (.pair (.int .i64) (.pair .bool (.pair (.int .i64) (.pair (.int .u64) (.int .i64))))))) x], [.box 54 (.pr .nils (.pr .nilm (.dat .bool b))) true] => cond (mayB x) (K (.dat I64 0) [.box 54 (.pr (.view 1) (.pr (.mp 2) (.dat .bool b))) true, .row 36 ST [x] .own, .map ThT I64 (ats 0 [x]) true]) (K (.dat I64 2) [.box 54 (.pr .nils (.pr .nilm (.dat .bool b))) true])
  | [.ptr 0 [], .dat (.pair (.int .i64) (.pair (.int .i64) (.pair (.int .i64) (.pair .bool (.pair (.int .i64) (.pair (.int .u64) (.int .i64))))))) x], [.box 54 (.pr (.view 1) (.pr (.mp 2) (.dat .bool b))) true, .row 36 (.pair (.int .i64) (.pair (.int .i64) (.pair (.int .i64) (.pair .bool (.pair (.int .i64) (.pair (.int .u64) (.int .i64))))))) (z :: zs) .own, .map (.pair (.int .i64) (.pair (.int .i64) (.int .i64))) (.int .i64) es true] => ck ((z :: zs).length ≤ 1000 ∧ @Eq (List ((Int × Int × Int) × Int)) es (ats 0 (z :: zs))) (cond (mayB x) (cond (decide (findV x 0 (z :: zs) < 0)) (K (.dat I64 0) [.box 54 (.pr (.view 3) (.pr (.mp 2) (.dat .bool b))) true, .gone, .map ThT I64 (ats 0 (z :: zs ++ [x])) true, .row 36 ST (z :: zs ++ [x]) .own]) (K (.dat I64 0) [.box 54 (.pr (.view 1) (.pr (.mp 2) (.dat .bool (brk b (z :: zs) x)))) true, .row 36 ST (z :: zs) .own, .map ThT I64 (ats 0 (z :: zs)) true])) (K (.dat I64 2) [.box 54 (.pr (.view 1) (.pr (.mp 2) (.dat .bool b))) true, .row 36 ST (z :: zs) .own, .map ThT I64 (ats 0 (z :: zs)) true]))
  | _, _ => none⟩
def F25 : Summ := ⟨fun args ob K => match args, ob with
  | [.ptr 0 [], .dat (.pair (.int .i64) (.pair (.int .i64) (.pair (.int .i64) (.pair .bool (.pair (.int .i64) (.pair (.int .u64) (.int .i64))))))) x], [.box 43 (.pr .nils (.dat .bool b)) true] => cond (rmayB x) (K (.dat I64 0) [.box 43 (.pr (.view 1) (.dat .bool b)) true, .row 36 ST [x] .own]) (K (.dat I64 2) [.box 43 (.pr .nils (.dat .bool b)) true])
  | [.ptr 0 [], .dat (.pair (.int .i64) (.pair (.int .i64) (.pair (.int .i64) (.pair .bool (.pair (.int .i64) (.pair (.int .u64) (.int .i64))))))) x], [.box 43 (.pr (.view 1) (.dat .bool b)) true, .row 36 (.pair (.int .i64) (.pair (.int .i64) (.pair (.int .i64) (.pair .bool (.pair (.int .i64) (.pair (.int .u64) (.int .i64))))))) (z :: zs) .own] => ck ((z :: zs).length ≤ 1000) (cond (rmayB x) (cond (decide (findV x 0 (z :: zs) < 0)) (K (.dat I64 0) [.box 43 (.pr (.view 2) (.dat .bool b)) true, .row 36 ST (z :: zs) .own, .row 36 ST (z :: zs ++ [x]) .own]) (K (.dat I64 0) [.box 43 (.pr (.view 1) (.dat .bool (brk b (z :: zs) x))) true, .row 36 ST (z :: zs) .own])) (K (.dat I64 2) [.box 43 (.pr (.view 1) (.dat .bool b)) true, .row 36 ST (z :: zs) .own]))
  | _, _ => none⟩
theorem find_at (x : SV) (l : List SV) (h : ¬ findV x 0 l < 0) : 0 ≤ findV x 0 l ∧ findV x 0 l < (l.length : Int) ∧ l[(findV x 0 l).toNat]? = some (l.getD (findV x 0 l).toNat x) := by
  rcases findV_or x l 0 with e | ⟨h1, h2⟩
  · omega
  · refine ⟨by omega, by omega, ?_⟩
    rw [List.getD_eq_getElem?_getD, List.getElem?_eq_getElem (show (findV x 0 l).toNat < l.length by omega)]
    rfl
theorem F14_ok : SumOk Tryd.prog 14 F14 := by
  refine (wideM_ok mixed noNG_prog (l := [(19, F19)]) ⟨F19_ok, trivial⟩ all 300 30 14).le ?_ ?_
  · intro R R' f args ob K
    unfold F14; dsimp only
    split <;> simp only [bd_ck, bd_cond, bd_none]
  · intro R args ob K r h
    unfold F14 at h; dsimp only at h
    split at h
    · rename_i x b
      refine (note_0 K x b).trans (Eq.trans ?_ h)
      cases mayB x <;> rfl
    · rename_i x b z zs es
      obtain ⟨⟨hl, he⟩, h2⟩ := ck_elim h
      clear h
      have he : es = ats 0 (z :: zs) := he
      subst he
      refine (note_1 K x b z zs _).trans (Eq.trans ?_ h2)
      have e1 : hasM ThT (Prod.fst x, Prod.fst (Prod.snd x), Prod.fst (Prod.snd (Prod.snd x))) (ats 0 (z :: zs)) = !decide (findV x 0 (z :: zs) < 0) := hasM_ats x (z :: zs) 0
      rw [e1, Bool.not_not]
      cases mayB x with
      | false => rfl
      | true =>
        rw [Bool.not_true, cond_false, cond_true]
        by_cases hf : findV x 0 (z :: zs) < 0
        · rw [decide_eq_true hf, cond_true, cond_true, ck_pos (by unfold limit; omega)]
          have e2 := setM_ats x (z :: zs) 0 hf
          rw [Nat.zero_add] at e2
          exact congrArg (fun q => K (.dat I64 0) [.box 54 (.pr (.view 3) (.pr (.mp 2) (.dat .bool b))) true, .gone, .map ThT I64 q true, .row 36 ST (z :: zs ++ [x]) .own]) e2
        · obtain ⟨g1, g2, g3⟩ := find_at x (z :: zs) hf
          have e2 : getM ThT (Prod.fst x, Prod.fst (Prod.snd x), Prod.fst (Prod.snd (Prod.snd x))) (0 : Int) (ats 0 (z :: zs)) = findV x 0 (z :: zs) := getM_ats x 0 (z :: zs) 0 g1
          rw [decide_eq_false hf, cond_false, cond_false, e2, ck_pos ⟨g1, g2⟩, g3]
          simp only [Option.bind_some]
          unfold brk
          cases b <;> rfl
    · cases h
theorem F25_ok : SumOk Tryd.prog 25 F25 := by
  refine (codeX_ok (Γ := G25) (k := 0) (lv := lvN) mixed noNG_prog (sums_call (Wr := all) (l := [(20, F20), (18, F18)]) ⟨F20_ok, F18_ok, trivial⟩) (sums_prim ⟨F20_ok, F18_ok, trivial⟩) (fn := Tryd.f25) rfl).le ?_ ?_
  · intro R R' f args ob K
    unfold F25; dsimp only
    split <;> simp only [bd_ck, bd_cond, bd_none]
  · intro R args ob K r h
    unfold F25 at h; dsimp only at h
    split at h
    · rename_i x b
      refine (rnote_0 K x b).trans (Eq.trans ?_ h)
      cases rmayB x <;> rfl
    · rename_i x b z zs
      obtain ⟨hl, h⟩ := ck_elim h
      refine (rnote_1 K x b z zs).trans (Eq.trans ?_ h)
      cases rmayB x with
      | false => rfl
      | true =>
        rw [Bool.not_true, cond_false, cond_true, ck_pos hl]
        by_cases hf : findV x 0 (z :: zs) < 0
        · rw [decide_eq_true hf, cond_true, cond_true, ck_pos (by unfold limit; omega), ck_pos (by unfold limit; omega)]
        · obtain ⟨g1, g2, g3⟩ := find_at x (z :: zs) hf
          rw [decide_eq_false hf, cond_false, cond_false, ck_pos ⟨g1, g2⟩, g3]
          simp only [Option.bind_some]
          unfold brk eqS
          generalize (decide (((z :: zs).getD (findV x 0 (z :: zs)).toNat x).1 = x.1) && _) = c
          cases c <;> cases b <;> rfl
    · cases h
end Go.Mx
