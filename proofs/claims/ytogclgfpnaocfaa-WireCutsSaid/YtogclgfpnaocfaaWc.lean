/- Own work. A part of the proof of a law of this seat: this seat's functions, by the machine, and the plain law -/
import Derived.Test.YtogclgfpnaocfaaMe
import Derived.Test.YtogclgfpnaocfaaWb
namespace Go.Mx
set_option linter.unusedVariables false
set_option linter.unusedSimpArgs false
open Go Go.RowKit Go.Sx Go.Proofs
set_option maxRecDepth 100000
theorem rnum_0 {R : Type} (K : KV R) (L : Nat → St → (Exit → St → Option R) → Option R) (y : QV) (n : Int) : runX Try.prog G18 lv19 Try.f19 1 L [.ptr 0 [], .dat (.int .i64) n] [.box 43 (.dat QT y) true] K = bif decide (n < 1) then K (AV.dat (T.int IntKind.u64) 0) [AO.box 43 (AV.pr AV.nils (AV.dat T.bool true)) true] else bif decide (8 < n) then K (AV.dat (T.int IntKind.u64) 0) [AO.box 43 (AV.pr AV.nils (AV.dat T.bool true)) true] else bif decide ((↑(List.length (Prod.fst y)) : Int) < n) then K (AV.dat (T.int IntKind.u64) 0) [AO.box 43 (AV.pr AV.nils (AV.dat T.bool true)) true] else bif Prod.snd y then K (AV.dat (T.int IntKind.u64) 0) [AO.box 43 (AV.pr AV.nils (AV.dat T.bool (Prod.snd y))) true] else L 0 (St.mk [(0, AV.ptr 0 []), (1, AV.dat (T.int IntKind.i64) n), (5, AV.dat (T.int IntKind.u64) 0), (6, AV.dat (T.int IntKind.u64) 1), (7, AV.dat (T.int IntKind.i64) 0)] [AO.box 43 (AV.dat (T.pair (T.sl (T.int IntKind.u8)) T.bool) y) true]) (endX Try.prog G18 lv19 Try.f19 1 L K 0) := by kernel_rfl
theorem rnum_s {R : Type} (L L0 : Nat → St → (Exit → St → Option R) → Option R) (K : KV R) (y : QV) (size n f i : Int) : stepX Try.prog G18 lv19 1 (codeOf Try.f19) L 0 ⟨[(0, .ptr 0 []), (1, .dat (.int .i64) size), (5, .dat (.int .u64) n), (6, .dat (.int .u64) f), (7, .dat (.int .i64) i)], [.box 43 (.dat QT y) true]⟩ (endX Try.prog G18 lv19 Try.f19 1 L0 K 0) = bif decide (i < size) then ck (0 ≤ i) (Option.bind (Prod.fst y)[Int.toNat i]? fun x ↦ L 0 (St.mk [(0, AV.ptr 0 []), (1, AV.dat (T.int IntKind.i64) size), (5, AV.dat (T.int IntKind.u64) (IntKind.wrap IntKind.u64 (n + IntKind.wrap IntKind.u64 (f * IntKind.wrap IntKind.u64 x)))), (6, AV.dat (T.int IntKind.u64) (IntKind.wrap IntKind.u64 (f * 256))), (7, AV.dat (T.int IntKind.i64) (IntKind.wrap IntKind.i64 (i + 1)))] [AO.box 43 (AV.dat (T.pair (T.sl (T.int IntKind.u8)) T.bool) y) true]) (endX Try.prog G18 lv19 Try.f19 1 L0 K 0)) else ck (0 ≤ size ∧ size ≤ (↑(List.length (Prod.fst y)) : Int)) (K (AV.dat (T.int IntKind.u64) n) [AO.box 43 (AV.dat (T.pair (T.sl (T.int IntKind.u8)) T.bool) (cutA (some size) none (Prod.fst y), Prod.snd y)) true]) := by kernel_rfl
theorem F29_ok : SumOk Try.prog 29 F29 := by
  refine (codeX_ok (k := 0) (lv := lvN) mixed noNG_prog (sums_call (Wr := all) (l := [(30, F30)]) ⟨F30_ok, trivial⟩) (sums_prim ⟨F30_ok, trivial⟩) (fn := Try.f29) rfl).le ?_ ?_
  · intro R R' f args ob K
    unfold F29; dsimp only
    split <;> simp only [bd_bind, bd_none]
  · intro R args ob K r h
    unfold F29 at h; dsimp only at h
    split at h
    · obtain ⟨x, hx, h2⟩ := Option.bind_eq_some_iff.1 h
      obtain rfl := asD_ok hx
      refine (left_0 K x).trans (Eq.trans ?_ h2)
      unfold leftV
      cases (!x.2.1 || x.2.2) <;> rfl
    · cases h
theorem F28_ok : SumOk Try.prog 28 F28 := by
  refine (codeX_ok (k := 0) (lv := lvN) mixed noNG_prog (sums_call (Wr := all) (l := [(30, F30)]) ⟨F30_ok, trivial⟩) (sums_prim ⟨F30_ok, trivial⟩) (fn := Try.f28) rfl).le ?_ ?_
  · intro R R' f args ob K
    unfold F28; dsimp only
    split <;> simp only [bd_bind, bd_none]
  · intro R args ob K r h
    unfold F28 at h; dsimp only at h
    split at h
    · obtain ⟨⟨xs, made, bad⟩, hx, h2⟩ := Option.bind_eq_some_iff.1 h
      obtain rfl := asD_ok hx
      refine (end_0 K (xs, made, bad)).trans (Eq.trans ?_ h2)
      unfold endV
      dsimp only
      generalize decide (0 < ((xs.length : Nat) : Int)) = q
      cases made <;> cases bad <;> cases q <;> rfl
    · cases h
theorem F34_ok : SumOk Try.prog 34 F34 := by
  refine (codeX_ok (k := 0) (lv := lvN) mixed noNG_prog (sums_call (Wr := all) (l := [(30, F30)]) ⟨F30_ok, trivial⟩) (sums_prim ⟨F30_ok, trivial⟩) (fn := Try.f34) rfl).le ?_ ?_
  · intro R R' f args ob K
    unfold F34; dsimp only
    split <;> simp only [bd_bind, bd_none]
  · intro R args ob K r h
    unfold F34 at h; dsimp only at h
    split at h
    · obtain ⟨⟨xs, bad⟩, hx, h2⟩ := Option.bind_eq_some_iff.1 h
      obtain rfl := asD_ok hx
      refine (rend_0 K (xs, bad)).trans (Eq.trans ?_ h2)
      unfold rendV
      dsimp only
      generalize decide (0 < ((xs.length : Nat) : Int)) = q
      cases bad <;> cases q <;> rfl
    · cases h
def G24 : Sums := sums all [(30, F30), (29, F29), (28, F28), (34, F34)]
theorem same_0 {R : Type} (K : KV R) (x : RV) (y : QV) : (codeX Try.prog G24 lvN 0 Try.f24).run [.ptr 0 [], .ptr 1 []] [.box 59 (.dat RT x) true, .box 43 (.dat QT y) true] K = bif (!Prod.fst (Prod.snd x) || Prod.snd (Prod.snd x)) == Prod.snd y then bif decide (leftV x = (↑(List.length (Prod.fst y)) : Int)) then K (AV.dat T.bool (decide (endV x = rendV y))) [AO.box 59 (AV.dat (T.pair (T.sl (T.int IntKind.u8)) (T.pair T.bool T.bool)) x) true, AO.box 43 (AV.dat (T.pair (T.sl (T.int IntKind.u8)) T.bool) y) true] else K (AV.dat T.bool false) [AO.box 59 (AV.dat (T.pair (T.sl (T.int IntKind.u8)) (T.pair T.bool T.bool)) x) true, AO.box 43 (AV.dat (T.pair (T.sl (T.int IntKind.u8)) T.bool) y) true] else K (AV.dat T.bool false) [AO.box 59 (AV.dat (T.pair (T.sl (T.int IntKind.u8)) (T.pair T.bool T.bool)) x) true, AO.box 43 (AV.dat (T.pair (T.sl (T.int IntKind.u8)) T.bool) y) true] := by kernel_rfl
/-! ### the document's reader -/
def gF : List Int → Int → Int → Int
  | [], n, _ => n
  | x :: r, n, f => gF r (IntKind.u64.wrap (n + IntKind.u64.wrap (f * IntKind.u64.wrap x))) (IntKind.u64.wrap (f * 256))
def rBad (y : QV) (n : Int) : Bool := decide (n < 1) || decide (8 < n) || decide ((y.1.length : Int) < n) || y.2
def rnumV (y : QV) (n : Int) : Int := if rBad y n = true then 0 else gF (y.1.take n.toNat) 0 1
def rnumS (y : QV) (n : Int) : QV := if rBad y n = true then ([], true) else (y.1.drop n.toNat, y.2)
theorem rnum_loop {R : Type} (L0 : Nat → St → (Exit → St → Option R) → Option R) (K : KV R) (y : QV) (m : Nat) (hm : m ≤ y.1.length) (hb : m < 4611686018427387904) : ∀ (j : Nat) (k : Nat) (n f : Int) (i : Nat), i + j = m → j < k →
    LX Try.prog G18 lv19 1 (codeOf Try.f19) k 0 ⟨[(0, .ptr 0 []), (1, .dat (.int .i64) (m : Int)), (5, .dat (.int .u64) n), (6, .dat (.int .u64) f), (7, .dat (.int .i64) (i : Int))], [.box 43 (.dat QT y) true]⟩ (endX Try.prog G18 lv19 Try.f19 1 L0 K 0) = K (.dat (.int .u64) (gF ((y.1.drop i).take j) n f)) [.box 43 (.dat QT (y.1.drop m, y.2)) true] := by
  intro j
  induction j with
  | zero =>
    intro k n f i hi hk
    obtain ⟨k, rfl⟩ : ∃ q, k = q + 1 := ⟨k - 1, by omega⟩
    refine (rnum_s _ L0 K y m n f i).trans ?_
    rw [show decide ((i : Int) < m) = false from decide_eq_false (by omega), cond_false, ck_pos (by omega)]
    show K _ [.box 43 (.dat QT (y.1.drop (Int.toNat (m : Int)), y.2)) true] = _
    rw [Int.toNat_natCast]
    rfl
  | succ j ih =>
    intro k n f i hi hk
    obtain ⟨k, rfl⟩ : ∃ q, k = q + 1 := ⟨k - 1, by omega⟩
    refine (rnum_s _ L0 K y m n f i).trans ?_
    rw [show decide ((i : Int) < m) = true from decide_eq_true (by omega), cond_true, ck_pos (by omega), getq (j := i) (by omega) (by omega), wrapS (by omega)]
    have e := ih k (IntKind.u64.wrap (n + IntKind.u64.wrap (f * IntKind.u64.wrap (y.1.getD i 0)))) (IntKind.u64.wrap (f * 256)) (i + 1) (by omega) (by omega)
    rw [show ((i + 1 : Nat) : Int) = (i : Int) + 1 by omega] at e
    refine e.trans ?_
    have hlt : i < y.1.length := by omega
    rw [List.drop_eq_getElem_cons hlt, List.take_succ_cons]
    rw [gF, List.getD_eq_getElem?_getD, List.getElem?_eq_getElem hlt]; rfl
def F19 : Summ := ⟨fun args ob K => match args, ob with
  | [.ptr 0 [], .dat (.int .i64) n], [.box 43 v true] => (asD QT v).bind fun y => K (.dat (.int .u64) (rnumV y n)) [.box 43 (.dat QT (rnumS y n)) true]
  | _, _ => none⟩
theorem rnum_run {R : Type} (K : KV R) (y : QV) (n : Int) : (backS [] cl (codeX Try.prog G18 lv19 20 Try.f19)).run [.ptr 0 [], .dat (.int .i64) n] [.box 43 (.dat QT y) true] K = K (.dat (.int .u64) (rnumV y n)) [.box 43 (.dat QT (rnumS y n)) true] := by
  refine (rnum_0 _ _ y n).trans ?_
  unfold rnumV rnumS
  by_cases h1 : n < 1
  · have hb : rBad y n = true := by unfold rBad; simp [h1]
    rw [if_pos hb, if_pos hb, show decide (n < 1) = true from decide_eq_true h1]; rfl
  by_cases h2 : 8 < n
  · have hb : rBad y n = true := by unfold rBad; simp [h2]
    rw [if_pos hb, if_pos hb, show decide (n < 1) = false from decide_eq_false h1, show decide (8 < n) = true from decide_eq_true h2]; rfl
  by_cases h3 : (y.1.length : Int) < n
  · have hb : rBad y n = true := by unfold rBad; simp [h3]
    rw [if_pos hb, if_pos hb, show decide (n < 1) = false from decide_eq_false h1, show decide (8 < n) = false from decide_eq_false h2, show decide ((y.1.length : Int) < n) = true from decide_eq_true h3]; rfl
  cases h4 : y.2 with
  | true =>
    have hb : rBad y n = true := by unfold rBad; simp [h4]
    rw [if_pos hb, if_pos hb, show decide (n < 1) = false from decide_eq_false h1, show decide (8 < n) = false from decide_eq_false h2, show decide ((y.1.length : Int) < n) = false from decide_eq_false h3]
    rfl
  | false =>
    have hb : ¬ rBad y n = true := by unfold rBad; simp [h1, h2, h3, h4]
    rw [if_neg hb, if_neg hb, show decide (n < 1) = false from decide_eq_false h1, show decide (8 < n) = false from decide_eq_false h2, show decide ((y.1.length : Int) < n) = false from decide_eq_false h3, cond_false, cond_false, cond_false, cond_false]
    obtain ⟨m, rfl⟩ : ∃ m : Nat, n = m := ⟨n.toNat, by omega⟩
    refine (rnum_loop _ _ y m (by omega) (by omega) m 20 0 1 0 (by omega) (by omega)).trans ?_
    rw [List.drop_zero, Int.toNat_natCast, h4]
    rfl
theorem F19_ok : SumOk Try.prog 19 F19 := by
  refine (back_ok (ts := []) (l := cl) (codeX_ok (k := 20) (lv := lv19) mixed noNG_prog (sums_call (Wr := all) (l := [(33, inS 33 cl F33)]) ⟨in_ok F33_ok, trivial⟩) (sums_prim ⟨in_ok F33_ok, trivial⟩) (fn := Try.f19) rfl)).le ?_ ?_
  · intro R R' f args ob K
    unfold F19; dsimp only
    split <;> simp only [bd_bind, bd_none]
  · intro R args ob K r h
    unfold F19 at h; dsimp only at h
    split at h
    · obtain ⟨x, hx, h2⟩ := Option.bind_eq_some_iff.1 h
      obtain rfl := asD_ok hx
      exact (rnum_run K x _).trans h2
    · cases h
def sameV (x : RV) (y : QV) : Bool := bif (!x.2.1 || x.2.2) == y.2 then bif decide (leftV x = (y.1.length : Int)) then decide (endV x = rendV y) else false else false
def F24 : Summ := ⟨fun args ob K => match args, ob with
  | [.ptr 0 [], .ptr 1 []], [.box 59 v true, .box 43 u true] => (asD RT v).bind fun x => (asD QT u).bind fun y => K (.dat .bool (sameV x y)) [.box 59 (.dat RT x) true, .box 43 (.dat QT y) true]
  | _, _ => none⟩
theorem F24_ok : SumOk Try.prog 24 F24 := by
  refine (codeX_ok (k := 0) (lv := lvN) mixed noNG_prog (sums_call (Wr := all) (l := [(30, F30), (29, F29), (28, F28), (34, F34)]) ⟨F30_ok, F29_ok, F28_ok, F34_ok, trivial⟩) (sums_prim ⟨F30_ok, F29_ok, F28_ok, F34_ok, trivial⟩) (fn := Try.f24) rfl).le ?_ ?_
  · intro R R' f args ob K
    unfold F24; dsimp only
    split <;> simp only [bd_bind, bd_none]
  · intro R args ob K r h
    unfold F24 at h; dsimp only at h
    split at h
    · obtain ⟨x, hx, h2⟩ := Option.bind_eq_some_iff.1 h
      obtain rfl := asD_ok hx
      obtain ⟨y, hy, h3⟩ := Option.bind_eq_some_iff.1 h2
      obtain rfl := asD_ok hy
      refine (same_0 K x y).trans (Eq.trans ?_ h3)
      unfold sameV
      cases ((!x.2.1 || x.2.2) == y.2) <;> cases decide (leftV x = (y.1.length : Int)) <;> rfl
    · cases h
def G21 : Sums := sums all [(19, inS 19 cl F19)]
theorem rwhole_0 {R : Type} (K : KV R) (y : QV) : (codeX Try.prog G21 lvN 0 Try.f21).run [.ptr 0 []] [.box 43 (.dat QT y) true] K = bif decide (2147483647 < IntKind.wrap IntKind.i64 (rnumV y 4)) then K (AV.dat (T.int IntKind.i64) (IntKind.wrap IntKind.i64 (IntKind.wrap IntKind.i64 (rnumV y 4) - 4294967296))) [AO.box 43 (AV.dat (T.pair (T.sl (T.int IntKind.u8)) T.bool) (rnumS y 4)) true] else K (AV.dat (T.int IntKind.i64) (IntKind.wrap IntKind.i64 (rnumV y 4))) [AO.box 43 (AV.dat (T.pair (T.sl (T.int IntKind.u8)) T.bool) (rnumS y 4)) true] := by kernel_rfl
theorem rblob_0 {R : Type} (K : KV R) (y : QV) (n : Int) : (backS [BL] cl (codeX Try.prog G21 lvN 0 Try.f23)).run [.ptr 0 [], .dat (.int .i64) n] [.box 43 (.dat QT y) true] K = bif !decide (n = 1) then bif !decide (n = 2) then K (AV.dat (T.sl (T.int IntKind.u8)) []) [AO.box 43 (AV.dat (T.pair (T.sl (T.int IntKind.u8)) T.bool) ([], Prod.snd (rnumS y 0))) true] else bif decide ((↑(List.length (Prod.fst (rnumS y n))) : Int) < IntKind.wrap IntKind.i64 (rnumV y n)) then K (AV.dat (T.sl (T.int IntKind.u8)) []) [AO.box 43 (AV.dat (T.pair (T.sl (T.int IntKind.u8)) T.bool) ([], true)) true] else bif Prod.snd (rnumS y n) then K (AV.dat (T.sl (T.int IntKind.u8)) []) [AO.box 43 (AV.dat (T.pair (T.sl (T.int IntKind.u8)) T.bool) ([], Prod.snd (rnumS y n))) true] else ck (0 ≤ IntKind.wrap IntKind.i64 (rnumV y n) ∧ IntKind.wrap IntKind.i64 (rnumV y n) ≤ (↑(List.length (Prod.fst (rnumS y n))) : Int)) (ck (List.length (cutA none (some (IntKind.wrap IntKind.i64 (rnumV y n))) (Prod.fst (rnumS y n))) * 1 ≤ limit) (ck (0 ≤ IntKind.wrap IntKind.i64 (rnumV y n) ∧ IntKind.wrap IntKind.i64 (rnumV y n) ≤ (↑(List.length (Prod.fst (rnumS y n))) : Int)) (K (AV.view 1) [AO.box 43 (AV.dat (T.pair (T.sl (T.int IntKind.u8)) T.bool) (cutA (some (IntKind.wrap IntKind.i64 (rnumV y n))) none (Prod.fst (rnumS y n)), Prod.snd (rnumS y n))) true, AO.row 5 (T.int IntKind.u8) (cutA none (some (IntKind.wrap IntKind.i64 (rnumV y n))) (Prod.fst (rnumS y n))) Md.own]))) else bif decide ((↑(List.length (Prod.fst (rnumS y n))) : Int) < IntKind.wrap IntKind.i64 (rnumV y n)) then K (AV.dat (T.sl (T.int IntKind.u8)) []) [AO.box 43 (AV.dat (T.pair (T.sl (T.int IntKind.u8)) T.bool) ([], true)) true] else bif Prod.snd (rnumS y n) then K (AV.dat (T.sl (T.int IntKind.u8)) []) [AO.box 43 (AV.dat (T.pair (T.sl (T.int IntKind.u8)) T.bool) ([], Prod.snd (rnumS y n))) true] else ck (0 ≤ IntKind.wrap IntKind.i64 (rnumV y n) ∧ IntKind.wrap IntKind.i64 (rnumV y n) ≤ (↑(List.length (Prod.fst (rnumS y n))) : Int)) (ck (List.length (cutA none (some (IntKind.wrap IntKind.i64 (rnumV y n))) (Prod.fst (rnumS y n))) * 1 ≤ limit) (ck (0 ≤ IntKind.wrap IntKind.i64 (rnumV y n) ∧ IntKind.wrap IntKind.i64 (rnumV y n) ≤ (↑(List.length (Prod.fst (rnumS y n))) : Int)) (K (AV.view 1) [AO.box 43 (AV.dat (T.pair (T.sl (T.int IntKind.u8)) T.bool) (cutA (some (IntKind.wrap IntKind.i64 (rnumV y n))) none (Prod.fst (rnumS y n)), Prod.snd (rnumS y n))) true, AO.row 5 (T.int IntKind.u8) (cutA none (some (IntKind.wrap IntKind.i64 (rnumV y n))) (Prod.fst (rnumS y n))) Md.own]))) := by kernel_rfl
def wrt : FuncId → List Nat := fun f => match f with | 3 => List.range 30 | 4 => List.range 30 | 5 => List.range 30 | 6 => List.range 30 | 7 => List.range 30 | 14 => List.range 30 | 16 => List.range 30 | 18 => List.range 30 | 19 => List.range 30 | 20 => List.range 30 | 21 => List.range 30 | 22 => List.range 30 | 23 => List.range 30 | 26 => List.range 30 | 27 => List.range 30 | 33 => List.range 30 | 35 => List.range 30 | _ => []
noncomputable def W (f : FuncId) : Summ := wideS Try.prog wrt 300 30 f
noncomputable def G9 : Sums := sums all [(10, W 10), (12, W 12), (14, W 14), (17, F17), (22, inS 22 cl F22), (29, F29), (18, inS 18 cl F18), (30, F30), (28, F28)]
theorem known_0 {R : Type} (K : KV R) : (codeX Try.prog G9 lvN 0 Try.f9).run [] [] K = K (AV.dat T.bool true) [] := by kernel_rfl
def F9 : Summ := ⟨fun args ob K => match args, ob with
  | [], [] => K (.dat .bool true) []
  | _, _ => none⟩
theorem W_ok (f : FuncId) : SumOk Try.prog f (W f) := wideS_ok mixed noNG_prog wrt 300 30 f
theorem all9 : AllOk Try.prog [(10, W 10), (12, W 12), (14, W 14), (17, F17), (22, inS 22 cl F22), (29, F29), (18, inS 18 cl F18), (30, F30), (28, F28)] := ⟨W_ok 10, W_ok 12, W_ok 14, F17_ok, in_ok F22_ok, F29_ok, in_ok F18_ok, F30_ok, F28_ok, trivial⟩
theorem F9_ok : SumOk Try.prog 9 F9 := by
  refine (codeX_ok (k := 0) (lv := lvN) mixed noNG_prog (sums_call (Wr := all) all9) (sums_prim all9) (fn := Try.f9) rfl).le ?_ ?_
  · intro R R' f args ob K
    unfold F9; dsimp only
    split <;> simp only [bd_none]
  · intro R args ob K r h
    unfold F9 at h; dsimp only at h
    split at h
    · exact (known_0 K).trans h
    · cases h
def rwholeV (n : Int) : Int := bif decide (2147483647 < IntKind.i64.wrap n) then IntKind.i64.wrap (IntKind.i64.wrap n - 4294967296) else IntKind.i64.wrap n
def F21 : Summ := ⟨fun args ob K => match args, ob with
  | [.ptr 0 []], [.box 43 v true] => (asD QT v).bind fun y => K (.dat (.int .i64) (rwholeV (rnumV y 4))) [.box 43 (.dat QT (rnumS y 4)) true]
  | _, _ => none⟩
theorem F21_ok : SumOk Try.prog 21 F21 := by
  refine (codeX_ok (k := 0) (lv := lvN) mixed noNG_prog (sums_call (Wr := all) (l := [(19, inS 19 cl F19)]) ⟨in_ok F19_ok, trivial⟩) (sums_prim ⟨in_ok F19_ok, trivial⟩) (fn := Try.f21) rfl).le ?_ ?_
  · intro R R' f args ob K
    unfold F21; dsimp only
    split <;> simp only [bd_bind, bd_none]
  · intro R args ob K r h
    unfold F21 at h; dsimp only at h
    split at h
    · obtain ⟨y, hx, h2⟩ := Option.bind_eq_some_iff.1 h
      obtain rfl := asD_ok hx
      refine (rwhole_0 K y).trans (Eq.trans ?_ h2)
      unfold rwholeV
      cases decide (2147483647 < IntKind.i64.wrap (rnumV y 4)) <;> rfl
    · cases h
def rblobN (y : QV) (n : Int) : Int := IntKind.i64.wrap (rnumV y n)
def rbBad (y : QV) (n : Int) : Bool := (!decide (n = 1) && !decide (n = 2)) || decide (((rnumS y n).1.length : Int) < rblobN y n) || (rnumS y n).2
def rblobV (y : QV) (n : Int) : List Int := (rnumS y n).1.take (rblobN y n).toNat
def rblobS (y : QV) (n : Int) : QV := if rbBad y n = true then ([], true) else ((rnumS y n).1.drop (rblobN y n).toNat, (rnumS y n).2)
def F23 : Summ := ⟨fun args ob K => match args, ob with
  | [.ptr 0 [], .dat (.int .i64) n], [.box 43 v true] => (asD QT v).bind fun y => ck (y.1.length < 100000 ∧ (¬ (n = 1 ∨ n = 2) ∨ 0 ≤ rblobN y n)) (cond (rbBad y n) (K (.dat BL []) [.box 43 (.dat QT (rblobS y n)) true]) (K (.view 1) [.box 43 (.dat QT (rblobS y n)) true, .row 5 (.int .u8) (rblobV y n) .own]))
  | _, _ => none⟩
theorem rnumS_len (y : QV) (n : Int) : (rnumS y n).1.length ≤ y.1.length := by
  unfold rnumS; split
  all_goals first | (simp; done) | (simp; omega)
theorem rblob_run {R : Type} (K : KV R) (y : QV) (n : Int) (hl : y.1.length < 100000 ∧ (¬ (n = 1 ∨ n = 2) ∨ 0 ≤ rblobN y n)) : (backS [BL] cl (codeX Try.prog G21 lvN 0 Try.f23)).run [.ptr 0 [], .dat (.int .i64) n] [.box 43 (.dat QT y) true] K = cond (rbBad y n) (K (.dat BL []) [.box 43 (.dat QT (rblobS y n)) true]) (K (.view 1) [.box 43 (.dat QT (rblobS y n)) true, .row 5 (.int .u8) (rblobV y n) .own]) := by
  refine (rblob_0 K y n).trans ?_
  have hle := rnumS_len y n
  have fin : (!decide (n = 1) && !decide (n = 2)) = false → (bif decide ((↑(List.length (Prod.fst (rnumS y n))) : Int) < IntKind.wrap IntKind.i64 (rnumV y n)) then K (AV.dat (T.sl (T.int IntKind.u8)) []) [AO.box 43 (AV.dat (T.pair (T.sl (T.int IntKind.u8)) T.bool) ([], true)) true] else bif Prod.snd (rnumS y n) then K (AV.dat (T.sl (T.int IntKind.u8)) []) [AO.box 43 (AV.dat (T.pair (T.sl (T.int IntKind.u8)) T.bool) ([], Prod.snd (rnumS y n))) true] else ck (0 ≤ IntKind.wrap IntKind.i64 (rnumV y n) ∧ IntKind.wrap IntKind.i64 (rnumV y n) ≤ (↑(List.length (Prod.fst (rnumS y n))) : Int)) (ck (List.length (cutA none (some (IntKind.wrap IntKind.i64 (rnumV y n))) (Prod.fst (rnumS y n))) * 1 ≤ limit) (ck (0 ≤ IntKind.wrap IntKind.i64 (rnumV y n) ∧ IntKind.wrap IntKind.i64 (rnumV y n) ≤ (↑(List.length (Prod.fst (rnumS y n))) : Int)) (K (AV.view 1) [AO.box 43 (AV.dat (T.pair (T.sl (T.int IntKind.u8)) T.bool) (cutA (some (IntKind.wrap IntKind.i64 (rnumV y n))) none (Prod.fst (rnumS y n)), Prod.snd (rnumS y n))) true, AO.row 5 (T.int IntKind.u8) (cutA none (some (IntKind.wrap IntKind.i64 (rnumV y n))) (Prod.fst (rnumS y n))) Md.own])))) = cond (rbBad y n) (K (.dat BL []) [.box 43 (.dat QT (rblobS y n)) true]) (K (.view 1) [.box 43 (.dat QT (rblobS y n)) true, .row 5 (.int .u8) (rblobV y n) .own]) := by
    intro hs
    have hpos : 0 ≤ rblobN y n := by
      rcases hl.2 with h | h
      · exfalso; apply h
        by_cases c : n = 1
        · exact .inl c
        · right; simpa [c] using hs
      · exact h
    show (bif decide (_ < rblobN y n) then _ else bif _ then _ else ck (0 ≤ rblobN y n ∧ rblobN y n ≤ _) _) = _
    unfold rblobS rbBad
    rw [hs]
    by_cases h3 : ((rnumS y n).1.length : Int) < rblobN y n
    · rw [show decide (((rnumS y n).1.length : Int) < rblobN y n) = true from decide_eq_true h3]; rfl
    · rw [show decide (((rnumS y n).1.length : Int) < rblobN y n) = false from decide_eq_false h3]
      cases h4 : (rnumS y n).2 with
      | true => rfl
      | false =>
        simp only [cond_false, Bool.or_false, Bool.false_eq_true, if_false]
        rw [ck_pos (by omega), ck_pos, ck_pos (by unfold rblobN at hpos h3; omega)]
        · rfl
        · show ((rnumS y n).1.take (rblobN y n).toNat).length * 1 ≤ limit
          rw [List.length_take]; unfold limit; omega
  by_cases h1 : n = 1
  · rw [show (!decide (n = 1)) = false by simp [h1], cond_false]
    exact fin (by simp [h1])
  · by_cases h2 : n = 2
    · rw [show (!decide (n = 1)) = true by simp [h1], cond_true, show (!decide (n = 2)) = false by simp [h2], cond_false]
      exact fin (by simp [h2])
    · rw [show (!decide (n = 1)) = true by simp [h1], cond_true, show (!decide (n = 2)) = true by simp [h2], cond_true]
      have hb : rbBad y n = true := by unfold rbBad; simp [h1, h2]
      unfold rblobS
      rw [hb]; rfl
theorem F23_ok : SumOk Try.prog 23 F23 := by
  refine (back_ok (ts := [BL]) (l := cl) (codeX_ok (k := 0) (lv := lvN) mixed noNG_prog (sums_call (Wr := all) (l := [(19, inS 19 cl F19)]) ⟨in_ok F19_ok, trivial⟩) (sums_prim ⟨in_ok F19_ok, trivial⟩) (fn := Try.f23) rfl)).le ?_ ?_
  · intro R R' f args ob K
    unfold F23; dsimp only
    split <;> simp only [bd_bind, bd_none, bd_ck, bd_cond]
  · intro R args ob K r h
    unfold F23 at h; dsimp only at h
    split at h
    · obtain ⟨y, hx, h2⟩ := Option.bind_eq_some_iff.1 h
      obtain rfl := asD_ok hx
      obtain ⟨hl, h3⟩ := ck_elim h2
      exact (rblob_run K y _ hl).trans h3
    · cases h
end Go.Mx
