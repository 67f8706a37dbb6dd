/- Own work. A part of the proof of a law of this seat: this seat's functions, by the machine, and the plain law -/
import Derived.Test.YtkmabfamdonfoaaDoorMe
import Derived.Test.YtkmabfamdonfoaaDoorWc
namespace Go.Mx
set_option linter.unusedVariables false
set_option linter.unusedSimpArgs false
open Go Go.RowKit Go.Sx Go.Proofs
set_option maxRecDepth 100000
theorem rnum_0 {R : Type} (K : KV R) (L : Nat → St → (Exit → St → Option R) → Option R) (y : QV) (n : Int) : runX Tryd.prog G18 lv19 Tryd.f36 1 L [.ptr 0 [], .dat (.int .i64) n] [.box 75 (.dat QT y) true] K = bif decide (n < (1 : Int)) then K (AV.dat (T.int IntKind.u64) (0 : Int)) [AO.box (75 : Nat) (AV.pr AV.nils (AV.dat T.bool true)) true] else bif decide ((8 : Int) < n) then K (AV.dat (T.int IntKind.u64) (0 : Int)) [AO.box (75 : Nat) (AV.pr AV.nils (AV.dat T.bool true)) true] else bif decide ((↑(List.length (Prod.fst y)) : Int) < n) then K (AV.dat (T.int IntKind.u64) (0 : Int)) [AO.box (75 : Nat) (AV.pr AV.nils (AV.dat T.bool true)) true] else bif Prod.snd y then K (AV.dat (T.int IntKind.u64) (0 : Int)) [AO.box (75 : Nat) (AV.pr AV.nils (AV.dat T.bool (Prod.snd y))) true] else L (0 : Nat) (St.mk [((0 : Nat), AV.ptr (0 : Nat) []), ((1 : Nat), AV.dat (T.int IntKind.i64) n), ((5 : Nat), AV.dat (T.int IntKind.u64) (0 : Int)), ((6 : Nat), AV.dat (T.int IntKind.u64) (1 : Int)), ((7 : Nat), AV.dat (T.int IntKind.i64) (0 : Int))] [AO.box (75 : Nat) (AV.dat (T.pair (T.sl (T.int IntKind.u8)) T.bool) y) true]) (endX Tryd.prog G18 lv19 Tryd.f36 (1 : Nat) L K (0 : Nat)) := by kernel_rfl
theorem rnum_s {R : Type} (L L0 : Nat → St → (Exit → St → Option R) → Option R) (K : KV R) (y : QV) (size n f i : Int) : stepX Tryd.prog G18 lv19 1 (codeOf Tryd.f36) L 0 ⟨[(0, .ptr 0 []), (1, .dat (.int .i64) size), (5, .dat (.int .u64) n), (6, .dat (.int .u64) f), (7, .dat (.int .i64) i)], [.box 75 (.dat QT y) true]⟩ (endX Tryd.prog G18 lv19 Tryd.f36 1 L0 K 0) = bif decide (i < size) then ck ((0 : Int) ≤ i) (Option.bind (Prod.fst y)[Int.toNat i]? fun x ↦ L (0 : Nat) (St.mk [((0 : Nat), AV.ptr (0 : Nat) []), ((1 : Nat), AV.dat (T.int IntKind.i64) size), ((5 : Nat), AV.dat (T.int IntKind.u64) (IntKind.wrap IntKind.u64 (n + IntKind.wrap IntKind.u64 (f * IntKind.wrap IntKind.u64 x)))), ((6 : Nat), AV.dat (T.int IntKind.u64) (IntKind.wrap IntKind.u64 (f * (256 : Int)))), ((7 : Nat), AV.dat (T.int IntKind.i64) (IntKind.wrap IntKind.i64 (i + (1 : Int))))] [AO.box (75 : Nat) (AV.dat (T.pair (T.sl (T.int IntKind.u8)) T.bool) y) true]) (endX Tryd.prog G18 lv19 Tryd.f36 (1 : Nat) L0 K (0 : Nat))) else ck ((0 : Int) ≤ size ∧ size ≤ (↑(List.length (Prod.fst y)) : Int)) (K (AV.dat (T.int IntKind.u64) n) [AO.box (75 : Nat) (AV.dat (T.pair (T.sl (T.int IntKind.u8)) T.bool) (cutA (some size) none (Prod.fst y), Prod.snd y)) true]) := by kernel_rfl
theorem F28_ok : SumOk Tryd.prog 35 F28 := by
  refine (codeX_ok (k := 0) (lv := lvN) mixed noNG_prog (sums_call (Wr := all) (l := [(59, F30)]) ⟨F30_ok, trivial⟩) (sums_prim ⟨F30_ok, trivial⟩) (fn := Tryd.f35) rfl).le ?_ ?_
  · intro R R' f args ob K
    unfold F28; dsimp only
    split <;> simp only [bd_bind, bd_none]
  · intro R args ob K r h
    unfold F28 at h; dsimp only at h
    split at h
    · obtain ⟨⟨xs, made, bad⟩, hx, h2⟩ := Option.bind_eq_some_iff.1 h
      obtain rfl := asD_ok hx
      refine (end_0 K (xs, made, bad)).trans (Eq.trans ?_ h2)
      unfold endV
      dsimp only
      generalize decide (0 < ((xs.length : Nat) : Int)) = q
      cases made <;> cases bad <;> cases q <;> rfl
    · cases h
theorem F34_ok : SumOk Tryd.prog 39 F34 := by
  refine (codeX_ok (k := 0) (lv := lvN) mixed noNG_prog (sums_call (Wr := all) (l := [(59, F30)]) ⟨F30_ok, trivial⟩) (sums_prim ⟨F30_ok, trivial⟩) (fn := Tryd.f39) rfl).le ?_ ?_
  · intro R R' f args ob K
    unfold F34; dsimp only
    split <;> simp only [bd_bind, bd_none]
  · intro R args ob K r h
    unfold F34 at h; dsimp only at h
    split at h
    · obtain ⟨⟨xs, bad⟩, hx, h2⟩ := Option.bind_eq_some_iff.1 h
      obtain rfl := asD_ok hx
      refine (rend_0 K (xs, bad)).trans (Eq.trans ?_ h2)
      unfold rendV
      dsimp only
      generalize decide (0 < ((xs.length : Nat) : Int)) = q
      cases bad <;> cases q <;> rfl
    · cases h
/-! ### the document's reader -/
def gF : List Int → Int → Int → Int
  | [], n, _ => n
  | x :: r, n, f => gF r (IntKind.u64.wrap (n + IntKind.u64.wrap (f * IntKind.u64.wrap x))) (IntKind.u64.wrap (f * 256))
def rBad (y : QV) (n : Int) : Bool := decide (n < 1) || decide (8 < n) || decide ((y.1.length : Int) < n) || y.2
def rnumV (y : QV) (n : Int) : Int := if rBad y n = true then 0 else gF (y.1.take n.toNat) 0 1
def rnumS (y : QV) (n : Int) : QV := if rBad y n = true then ([], true) else (y.1.drop n.toNat, y.2)
theorem rnum_loop {R : Type} (L0 : Nat → St → (Exit → St → Option R) → Option R) (K : KV R) (y : QV) (m : Nat) (hm : m ≤ y.1.length) (hb : m < 4611686018427387904) : ∀ (j : Nat) (k : Nat) (n f : Int) (i : Nat), i + j = m → j < k →
    LX Tryd.prog G18 lv19 1 (codeOf Tryd.f36) k 0 ⟨[(0, .ptr 0 []), (1, .dat (.int .i64) (m : Int)), (5, .dat (.int .u64) n), (6, .dat (.int .u64) f), (7, .dat (.int .i64) (i : Int))], [.box 75 (.dat QT y) true]⟩ (endX Tryd.prog G18 lv19 Tryd.f36 1 L0 K 0) = K (.dat (.int .u64) (gF ((y.1.drop i).take j) n f)) [.box 75 (.dat QT (y.1.drop m, y.2)) true] := by
  intro j
  induction j with
  | zero =>
    intro k n f i hi hk
    obtain ⟨k, rfl⟩ : ∃ q, k = q + 1 := ⟨k - 1, by omega⟩
    refine (rnum_s _ L0 K y m n f i).trans ?_
    rw [show decide ((i : Int) < m) = false from decide_eq_false (by omega), cond_false, ck_pos (by omega)]
    show K _ [.box 75 (.dat QT (y.1.drop (Int.toNat (m : Int)), y.2)) true] = _
    rw [Int.toNat_natCast]
    rfl
  | succ j ih =>
    intro k n f i hi hk
    obtain ⟨k, rfl⟩ : ∃ q, k = q + 1 := ⟨k - 1, by omega⟩
    refine (rnum_s _ L0 K y m n f i).trans ?_
    rw [show decide ((i : Int) < m) = true from decide_eq_true (by omega), cond_true, ck_pos (by omega), getq (j := i) (by omega) (by omega), wrapS (by omega)]
    have e := ih k (IntKind.u64.wrap (n + IntKind.u64.wrap (f * IntKind.u64.wrap (y.1.getD i 0)))) (IntKind.u64.wrap (f * 256)) (i + 1) (by omega) (by omega)
    rw [show ((i + 1 : Nat) : Int) = (i : Int) + 1 by omega] at e
    refine e.trans ?_
    have hlt : i < y.1.length := by omega
    rw [List.drop_eq_getElem_cons hlt, List.take_succ_cons]
    rw [gF, List.getD_eq_getElem?_getD, List.getElem?_eq_getElem hlt]; rfl
def F19 : Summ := ⟨fun args ob K => match args, ob with
  | [.ptr 0 [], .dat (.int .i64) n], [.box 75 v true] => (asD QT v).bind fun y => K (.dat (.int .u64) (rnumV y n)) [.box 75 (.dat QT (rnumS y n)) true]
  | _, _ => none⟩
theorem rnum_run {R : Type} (K : KV R) (y : QV) (n : Int) : (backS [] cl (codeX Tryd.prog G18 lv19 20 Tryd.f36)).run [.ptr 0 [], .dat (.int .i64) n] [.box 75 (.dat QT y) true] K = K (.dat (.int .u64) (rnumV y n)) [.box 75 (.dat QT (rnumS y n)) true] := by
  refine (rnum_0 _ _ y n).trans ?_
  unfold rnumV rnumS
  by_cases h1 : n < 1
  · have hb : rBad y n = true := by unfold rBad; simp [h1]
    rw [if_pos hb, if_pos hb, show decide (n < 1) = true from decide_eq_true h1]; rfl
  by_cases h2 : 8 < n
  · have hb : rBad y n = true := by unfold rBad; simp [h2]
    rw [if_pos hb, if_pos hb, show decide (n < 1) = false from decide_eq_false h1, show decide (8 < n) = true from decide_eq_true h2]; rfl
  by_cases h3 : (y.1.length : Int) < n
  · have hb : rBad y n = true := by unfold rBad; simp [h3]
    rw [if_pos hb, if_pos hb, show decide (n < 1) = false from decide_eq_false h1, show decide (8 < n) = false from decide_eq_false h2, show decide ((y.1.length : Int) < n) = true from decide_eq_true h3]; rfl
  cases h4 : y.2 with
  | true =>
    have hb : rBad y n = true := by unfold rBad; simp [h4]
    rw [if_pos hb, if_pos hb, show decide (n < 1) = false from decide_eq_false h1, show decide (8 < n) = false from decide_eq_false h2, show decide ((y.1.length : Int) < n) = false from decide_eq_false h3]
    rfl
  | false =>
    have hb : ¬ rBad y n = true := by unfold rBad; simp [h1, h2, h3, h4]
    rw [if_neg hb, if_neg hb, show decide (n < 1) = false from decide_eq_false h1, show decide (8 < n) = false from decide_eq_false h2, show decide ((y.1.length : Int) < n) = false from decide_eq_false h3, cond_false, cond_false, cond_false, cond_false]
    obtain ⟨m, rfl⟩ : ∃ m : Nat, n = m := ⟨n.toNat, by omega⟩
    refine (rnum_loop _ _ y m (by omega) (by omega) m 20 0 1 0 (by omega) (by omega)).trans ?_
    rw [List.drop_zero, Int.toNat_natCast, h4]
    rfl
theorem F19_ok : SumOk Tryd.prog 36 F19 := by
  refine (back_ok (ts := []) (l := cl) (codeX_ok (k := 20) (lv := lv19) mixed noNG_prog (sums_call (Wr := all) (l := [(66, inS 66 cl F33)]) ⟨in_ok F33_ok, trivial⟩) (sums_prim ⟨in_ok F33_ok, trivial⟩) (fn := Tryd.f36) rfl)).le ?_ ?_
  · intro R R' f args ob K
    unfold F19; dsimp only
    split <;> simp only [bd_bind, bd_none]
  · intro R args ob K r h
    unfold F19 at h; dsimp only at h
    split at h
    · obtain ⟨x, hx, h2⟩ := Option.bind_eq_some_iff.1 h
      obtain rfl := asD_ok hx
      exact (rnum_run K x _).trans h2
    · cases h
def G21 : Sums := sums all [(36, inS 36 cl F19)]
theorem rwhole_0 {R : Type} (K : KV R) (y : QV) : (codeX Tryd.prog G21 lvN 0 Tryd.f37).run [.ptr 0 []] [.box 75 (.dat QT y) true] K = bif decide ((2147483647 : Int) < IntKind.wrap IntKind.i64 (rnumV y (4 : Int))) then K (AV.dat (T.int IntKind.i64) (IntKind.wrap IntKind.i64 (IntKind.wrap IntKind.i64 (rnumV y (4 : Int)) - (4294967296 : Int)))) [AO.box (75 : Nat) (AV.dat (T.pair (T.sl (T.int IntKind.u8)) T.bool) (rnumS y (4 : Int))) true] else K (AV.dat (T.int IntKind.i64) (IntKind.wrap IntKind.i64 (rnumV y (4 : Int)))) [AO.box (75 : Nat) (AV.dat (T.pair (T.sl (T.int IntKind.u8)) T.bool) (rnumS y (4 : Int))) true] := by kernel_rfl
theorem rblob_0 {R : Type} (K : KV R) (y : QV) (n : Int) : (backS [BL] cl (codeX Tryd.prog G21 lvN 0 Tryd.f38)).run [.ptr 0 [], .dat (.int .i64) n] [.box 75 (.dat QT y) true] K = bif !decide (n = (1 : Int)) then bif !decide (n = (2 : Int)) then K (AV.dat (T.sl (T.int IntKind.u8)) []) [AO.box (75 : Nat) (AV.dat (T.pair (T.sl (T.int IntKind.u8)) T.bool) ([], Prod.snd (rnumS y (0 : Int)))) true] else bif decide ((↑(List.length (Prod.fst (rnumS y n))) : Int) < IntKind.wrap IntKind.i64 (rnumV y n)) then K (AV.dat (T.sl (T.int IntKind.u8)) []) [AO.box (75 : Nat) (AV.dat (T.pair (T.sl (T.int IntKind.u8)) T.bool) ([], true)) true] else bif Prod.snd (rnumS y n) then K (AV.dat (T.sl (T.int IntKind.u8)) []) [AO.box (75 : Nat) (AV.dat (T.pair (T.sl (T.int IntKind.u8)) T.bool) ([], Prod.snd (rnumS y n))) true] else ck ((0 : Int) ≤ IntKind.wrap IntKind.i64 (rnumV y n) ∧ IntKind.wrap IntKind.i64 (rnumV y n) ≤ (↑(List.length (Prod.fst (rnumS y n))) : Int)) (ck (List.length (cutA none (some (IntKind.wrap IntKind.i64 (rnumV y n))) (Prod.fst (rnumS y n))) * (1 : Nat) ≤ limit) (ck ((0 : Int) ≤ IntKind.wrap IntKind.i64 (rnumV y n) ∧ IntKind.wrap IntKind.i64 (rnumV y n) ≤ (↑(List.length (Prod.fst (rnumS y n))) : Int)) (K (AV.view (1 : Nat)) [AO.box (75 : Nat) (AV.dat (T.pair (T.sl (T.int IntKind.u8)) T.bool) (cutA (some (IntKind.wrap IntKind.i64 (rnumV y n))) none (Prod.fst (rnumS y n)), Prod.snd (rnumS y n))) true, AO.row (5 : Nat) (T.int IntKind.u8) (cutA none (some (IntKind.wrap IntKind.i64 (rnumV y n))) (Prod.fst (rnumS y n))) Md.own]))) else bif decide ((↑(List.length (Prod.fst (rnumS y n))) : Int) < IntKind.wrap IntKind.i64 (rnumV y n)) then K (AV.dat (T.sl (T.int IntKind.u8)) []) [AO.box (75 : Nat) (AV.dat (T.pair (T.sl (T.int IntKind.u8)) T.bool) ([], true)) true] else bif Prod.snd (rnumS y n) then K (AV.dat (T.sl (T.int IntKind.u8)) []) [AO.box (75 : Nat) (AV.dat (T.pair (T.sl (T.int IntKind.u8)) T.bool) ([], Prod.snd (rnumS y n))) true] else ck ((0 : Int) ≤ IntKind.wrap IntKind.i64 (rnumV y n) ∧ IntKind.wrap IntKind.i64 (rnumV y n) ≤ (↑(List.length (Prod.fst (rnumS y n))) : Int)) (ck (List.length (cutA none (some (IntKind.wrap IntKind.i64 (rnumV y n))) (Prod.fst (rnumS y n))) * (1 : Nat) ≤ limit) (ck ((0 : Int) ≤ IntKind.wrap IntKind.i64 (rnumV y n) ∧ IntKind.wrap IntKind.i64 (rnumV y n) ≤ (↑(List.length (Prod.fst (rnumS y n))) : Int)) (K (AV.view (1 : Nat)) [AO.box (75 : Nat) (AV.dat (T.pair (T.sl (T.int IntKind.u8)) T.bool) (cutA (some (IntKind.wrap IntKind.i64 (rnumV y n))) none (Prod.fst (rnumS y n)), Prod.snd (rnumS y n))) true, AO.row (5 : Nat) (T.int IntKind.u8) (cutA none (some (IntKind.wrap IntKind.i64 (rnumV y n))) (Prod.fst (rnumS y n))) Md.own]))) := by kernel_rfl
def rwholeV (n : Int) : Int := bif decide (2147483647 < IntKind.i64.wrap n) then IntKind.i64.wrap (IntKind.i64.wrap n - 4294967296) else IntKind.i64.wrap n
def F21 : Summ := ⟨fun args ob K => match args, ob with
  | [.ptr 0 []], [.box 75 v true] => (asD QT v).bind fun y => K (.dat (.int .i64) (rwholeV (rnumV y 4))) [.box 75 (.dat QT (rnumS y 4)) true]
  | _, _ => none⟩
theorem F21_ok : SumOk Tryd.prog 37 F21 := by
  refine (codeX_ok (k := 0) (lv := lvN) mixed noNG_prog (sums_call (Wr := all) (l := [(36, inS 36 cl F19)]) ⟨in_ok F19_ok, trivial⟩) (sums_prim ⟨in_ok F19_ok, trivial⟩) (fn := Tryd.f37) rfl).le ?_ ?_
  · intro R R' f args ob K
    unfold F21; dsimp only
    split <;> simp only [bd_bind, bd_none]
  · intro R args ob K r h
    unfold F21 at h; dsimp only at h
    split at h
    · obtain ⟨y, hx, h2⟩ := Option.bind_eq_some_iff.1 h
      obtain rfl := asD_ok hx
      refine (rwhole_0 K y).trans (Eq.trans ?_ h2)
      unfold rwholeV
      cases decide (2147483647 < IntKind.i64.wrap (rnumV y 4)) <;> rfl
    · cases h
def rblobN (y : QV) (n : Int) : Int := IntKind.i64.wrap (rnumV y n)
def rbBad (y : QV) (n : Int) : Bool := (!decide (n = 1) && !decide (n = 2)) || decide (((rnumS y n).1.length : Int) < rblobN y n) || (rnumS y n).2
def rblobV (y : QV) (n : Int) : List Int := (rnumS y n).1.take (rblobN y n).toNat
def rblobS (y : QV) (n : Int) : QV := if rbBad y n = true then ([], true) else ((rnumS y n).1.drop (rblobN y n).toNat, (rnumS y n).2)
def F23 : Summ := ⟨fun args ob K => match args, ob with
  | [.ptr 0 [], .dat (.int .i64) n], [.box 75 v true] => (asD QT v).bind fun y => ck (y.1.length < 100000 ∧ (¬ (n = 1 ∨ n = 2) ∨ 0 ≤ rblobN y n)) (cond (rbBad y n) (K (.dat BL []) [.box 75 (.dat QT (rblobS y n)) true]) (K (.view 1) [.box 75 (.dat QT (rblobS y n)) true, .row 5 (.int .u8) (rblobV y n) .own]))
  | _, _ => none⟩
theorem rnumS_len (y : QV) (n : Int) : (rnumS y n).1.length ≤ y.1.length := by
  unfold rnumS; split
  all_goals first | (simp; done) | (simp; omega)
theorem rblob_run {R : Type} (K : KV R) (y : QV) (n : Int) (hl : y.1.length < 100000 ∧ (¬ (n = 1 ∨ n = 2) ∨ 0 ≤ rblobN y n)) : (backS [BL] cl (codeX Tryd.prog G21 lvN 0 Tryd.f38)).run [.ptr 0 [], .dat (.int .i64) n] [.box 75 (.dat QT y) true] K = cond (rbBad y n) (K (.dat BL []) [.box 75 (.dat QT (rblobS y n)) true]) (K (.view 1) [.box 75 (.dat QT (rblobS y n)) true, .row 5 (.int .u8) (rblobV y n) .own]) := by
  refine (rblob_0 K y n).trans ?_
  have hle := rnumS_len y n
  have fin : (!decide (n = 1) && !decide (n = 2)) = false → (bif decide ((↑(List.length (Prod.fst (rnumS y n))) : Int) < IntKind.wrap IntKind.i64 (rnumV y n)) then K (AV.dat (T.sl (T.int IntKind.u8)) []) [AO.box 75 (AV.dat (T.pair (T.sl (T.int IntKind.u8)) T.bool) ([], true)) true] else bif Prod.snd (rnumS y n) then K (AV.dat (T.sl (T.int IntKind.u8)) []) [AO.box 75 (AV.dat (T.pair (T.sl (T.int IntKind.u8)) T.bool) ([], Prod.snd (rnumS y n))) true] else ck (0 ≤ IntKind.wrap IntKind.i64 (rnumV y n) ∧ IntKind.wrap IntKind.i64 (rnumV y n) ≤ (↑(List.length (Prod.fst (rnumS y n))) : Int)) (ck (List.length (cutA none (some (IntKind.wrap IntKind.i64 (rnumV y n))) (Prod.fst (rnumS y n))) * 1 ≤ limit) (ck (0 ≤ IntKind.wrap IntKind.i64 (rnumV y n) ∧ IntKind.wrap IntKind.i64 (rnumV y n) ≤ (↑(List.length (Prod.fst (rnumS y n))) : Int)) (K (AV.view 1) [AO.box 75 (AV.dat (T.pair (T.sl (T.int IntKind.u8)) T.bool) (cutA (some (IntKind.wrap IntKind.i64 (rnumV y n))) none (Prod.fst (rnumS y n)), Prod.snd (rnumS y n))) true, AO.row 5 (T.int IntKind.u8) (cutA none (some (IntKind.wrap IntKind.i64 (rnumV y n))) (Prod.fst (rnumS y n))) Md.own])))) = cond (rbBad y n) (K (.dat BL []) [.box 75 (.dat QT (rblobS y n)) true]) (K (.view 1) [.box 75 (.dat QT (rblobS y n)) true, .row 5 (.int .u8) (rblobV y n) .own]) := by
    intro hs
    have hpos : 0 ≤ rblobN y n := by
      rcases hl.2 with h | h
      · exfalso; apply h
        by_cases c : n = 1
        · exact .inl c
        · right; simpa [c] using hs
      · exact h
    show (bif decide (_ < rblobN y n) then _ else bif _ then _ else ck (0 ≤ rblobN y n ∧ rblobN y n ≤ _) _) = _
    unfold rblobS rbBad
    rw [hs]
    by_cases h3 : ((rnumS y n).1.length : Int) < rblobN y n
    · rw [show decide (((rnumS y n).1.length : Int) < rblobN y n) = true from decide_eq_true h3]; rfl
    · rw [show decide (((rnumS y n).1.length : Int) < rblobN y n) = false from decide_eq_false h3]
      cases h4 : (rnumS y n).2 with
      | true => rfl
      | false =>
        simp only [cond_false, Bool.or_false, Bool.false_eq_true, if_false]
        rw [ck_pos (by omega), ck_pos, ck_pos (by unfold rblobN at hpos h3; omega)]
        · rfl
        · show ((rnumS y n).1.take (rblobN y n).toNat).length * 1 ≤ limit
          rw [List.length_take]; unfold limit; omega
  by_cases h1 : n = 1
  · rw [show (!decide (n = 1)) = false by simp [h1], cond_false]
    exact fin (by simp [h1])
  · by_cases h2 : n = 2
    · rw [show (!decide (n = 1)) = true by simp [h1], cond_true, show (!decide (n = 2)) = false by simp [h2], cond_false]
      exact fin (by simp [h2])
    · rw [show (!decide (n = 1)) = true by simp [h1], cond_true, show (!decide (n = 2)) = true by simp [h2], cond_true]
      have hb : rbBad y n = true := by unfold rbBad; simp [h1, h2]
      unfold rblobS
      rw [hb]; rfl
theorem F23_ok : SumOk Tryd.prog 38 F23 := by
  refine (back_ok (ts := [BL]) (l := cl) (codeX_ok (k := 0) (lv := lvN) mixed noNG_prog (sums_call (Wr := all) (l := [(36, inS 36 cl F19)]) ⟨in_ok F19_ok, trivial⟩) (sums_prim ⟨in_ok F19_ok, trivial⟩) (fn := Tryd.f38) rfl)).le ?_ ?_
  · intro R R' f args ob K
    unfold F23; dsimp only
    split <;> simp only [bd_bind, bd_none, bd_ck, bd_cond]
  · intro R args ob K r h
    unfold F23 at h; dsimp only at h
    split at h
    · obtain ⟨y, hx, h2⟩ := Option.bind_eq_some_iff.1 h
      obtain rfl := asD_ok hx
      obtain ⟨hl, h3⟩ := ck_elim h2
      exact (rblob_run K y _ hl).trans h3
    · cases h
end Go.Mx
