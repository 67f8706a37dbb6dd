/- Own work. A part of the proof of a law of this seat: this seat's functions, by the machine, and the plain law. -/
import Derived.Test.YtkmabfamdonfoaaDoorMf
import Derived.Test.YtkmabfamdonfoaaDoorProg
import Derived.Test.YtkmabfamdonfoaaDoorRows
set_option linter.unusedVariables false
set_option linter.unusedSimpArgs false
set_option linter.unusedSectionVars false
namespace Go.Mx
open Go Go.RowKit Go.Sx Go.Proofs
set_option maxRecDepth 100000
abbrev U8 := T.int .u8
abbrev U64 := T.int .u64
abbrev I64 := T.int .i64
abbrev BL := T.sl (T.int .u8)
abbrev RowT := T.pair .str (T.pair I64 (T.pair I64 I64))
def rowsV : List RowT.den := [(⟨#[]⟩, 0, 0, 0), (⟨#[117, 115, 101, 114]⟩, 1, 128, 3), (⟨#[108, 111, 103, 111, 110]⟩, 1, 64, 2), (⟨#[98, 105, 103]⟩, 1, 256, 3), (⟨#[107, 101, 121, 114, 105, 110, 103]⟩, 0, 0, 5)]
instance gI : Glb := ⟨fun g => match g with | 0 => some ⟨.arr 5 RowT, rowsV⟩ | _ => none⟩
def all : FuncId → List Nat := fun _ => List.range 60
noncomputable def W (f : FuncId) : Summ := wideS Tryd.prog all 300 30 f
theorem mixed : Tryd.prog.follows .mixedOrders = true := by kernel_rfl
theorem noNG_prog : noNG Tryd.prog = true := by kernel_rfl
theorem W_ok (f : FuncId) : SumOk Tryd.prog f (W f) := wideS_ok mixed noNG_prog all 300 30 f
theorem known_0 {R : Type} (K : KV R) : (W 9).run [] [] K = K (AV.dat T.bool true) [] := by kernel_rfl
end Go.Mx
namespace Go.Mx
open Go Go.RowKit Go.Sx Go.Proofs Go.Proofs.YtkmabfamdonfoaaDoor
set_option maxRecDepth 100000
theorem gl_ok {w : World} (h : laidMet Tryd.prog [("warder/types.rows", Rows.laid_warder_types_rows)] w) : GlR (cx (fun _ => False) [] (fun _ => ⟨none, 0, 0, 0⟩) w) := by
  intro g z hz
  by_cases e0 : g = 0
  · subst e0
    obtain rfl := Option.some.inj (show some (⟨.arr 5 RowT, rowsV⟩ : (t : T) × t.den) = some z from hz)
    exact gl_one h (n := "warder/types.rows") (d := Rows.laid_warder_types_rows) (by simp) (by kernel_rfl) (t := 122) (T' := (⟨.arr 5 RowT, rowsV⟩ : (t : T) × t.den).1) (x := (⟨.arr 5 RowT, rowsV⟩ : (t : T) × t.den).2) (by kernel_rfl) (Dv.arr Tryd.underlying122 (by kernel_rfl) (Dv.struct Tryd.underlying112 (by kernel_rfl) (DvF.cons rfl (Dv.str Tryd.underlying9 (by kernel_rfl)) (DvF.cons rfl (Dv.int Tryd.underlying3 (by kernel_rfl)) (DvF.cons rfl (Dv.int Tryd.underlying3 (by kernel_rfl)) (DvF.one rfl (Dv.int Tryd.underlying3 (by kernel_rfl)))))))) (by kernel_rfl)
  exfalso
  have : (Glb.gl g : Option ((t : T) × t.den)) = none := by
    show gI.gl g = none
    unfold gI
    dsimp only
    split
    · exact absurd rfl e0
    · rfl
  rw [this] at hz; cases hz
end Go.Mx
namespace Go.Mx
open Go Go.RowKit Go.Sx Go.Proofs
set_option maxRecDepth 100000
abbrev RT := T.pair BL (T.pair .bool .bool)
abbrev QT := T.pair BL .bool
def cl : List (TypeId × T) := [(107, RT), (75, QT), (74, QT)]
def lvN : Tl := ⟨fun _ => none, cl⟩
def lv18 : Tl := ⟨fun q => match q with | 1 => some [4, 5, 6] | _ => none, cl⟩
def lv19 : Tl := ⟨fun q => match q with | 0 => some [0, 1, 5, 6, 7] | _ => none, cl⟩
abbrev RV := List Int × Bool × Bool
abbrev QV := List Int × Bool
def F30 : Summ := ⟨fun args ob K => match args, ob with
  | [.ptr 0 []], [.box 107 v w] => (asD RT v).bind fun x => K (.dat .bool (!x.2.1 || x.2.2)) [.box 107 v w]
  | _, _ => none⟩
def takeV (x : RV) (n : Int) : List Int := if (!x.2.1 || x.2.2) = true then [] else if n < 0 ∨ (x.1.length : Int) < n then [] else x.1.take n.toNat
def takeS (x : RV) (n : Int) : RV := if (!x.2.1 || x.2.2) = true then x else if n < 0 ∨ (x.1.length : Int) < n then ([], x.2.1, true) else (x.1.drop n.toNat, x.2)
def F33 : Summ := ⟨fun args ob K => match args, ob with
  | [.ptr 0 [], .dat (.int .i64) n], [.box 107 v true] => (asD RT v).bind fun x => K (.dat BL (takeV x n)) [.box 107 (.dat RT (takeS x n)) true]
  | _, _ => none⟩
def G33 : Sums := sums all [(59, F30)]
theorem failed_0 {R : Type} (K : KV R) (x : RV) (w : Bool) : (codeX Tryd.prog (sums all []) lvN 0 Tryd.f59).run [.ptr 0 []] [.box 107 (.dat RT x) w] K = bif !x.2.1 then K (AV.dat T.bool true) [AO.box 107 (AV.dat RT x) w] else K (AV.dat T.bool x.2.2) [AO.box 107 (AV.dat RT x) w] := by kernel_rfl
theorem take_0 {R : Type} (K : KV R) (x : RV) (n : Int) : (backS [BL] cl (codeX Tryd.prog G33 lvN 0 Tryd.f66)).run [.ptr 0 [], .dat (.int .i64) n] [.box 107 (.dat RT x) true] K = bif !x.2.1 || x.2.2 then K (AV.dat BL []) [AO.box 107 (AV.dat RT x) true] else bif decide (n < (0 : Int)) then K (AV.dat BL []) [AO.box 107 (AV.dat RT ([], x.2.1, true)) true] else bif decide ((↑(List.length x.1) : Int) < n) then K (AV.dat BL []) [AO.box 107 (AV.dat RT ([], x.2.1, true)) true] else ck ((0 : Int) ≤ n ∧ n ≤ n ∧ n ≤ (↑(List.length x.1) : Int)) (bif noRoom (Int.toNat n) (some n) then ck ((0 : Int) ≤ n ∧ n ≤ (↑(List.length x.1) : Int)) (K (AV.dat BL []) [AO.box 107 (AV.dat RT (cutA (some n) none x.1, x.2)) true]) else ck ((0 : Int) ≤ n ∧ n ≤ (↑(List.length x.1) : Int)) (K (AV.dat BL (cutA none (some n) x.1)) [AO.box 107 (AV.dat RT (cutA (some n) none x.1, x.2)) true])) := by kernel_rfl
def G18 : Sums := sums all [(66, inS 66 cl F33)]
theorem num_0 {R : Type} (L : Nat → St → (Exit → St → Option R) → Option R) (K : KV R) (x : RV) (n : Int) : runX Tryd.prog G18 lv18 Tryd.f32 1 L [.ptr 0 [], .dat (.int .i64) n] [.box 107 (.dat RT x) true] K = bif decide (n < (1 : Int)) then bif decide (IntKind.wrap IntKind.i64 ((↑(List.length (takeV x (-1 : Int))) : Int) - (1 : Int)) < (0 : Int)) then K (AV.dat (T.int IntKind.u64) (0 : Int)) [AO.box 107 (AV.dat RT (takeS x (-1 : Int))) true] else ck ((0 : Int) ≤ IntKind.wrap IntKind.i64 ((↑(List.length (takeV x (-1 : Int))) : Int) - (1 : Int))) (Option.bind (takeV x (-1 : Int))[Int.toNat (IntKind.wrap IntKind.i64 ((↑(List.length (takeV x (-1 : Int))) : Int) - (1 : Int)))]? fun x_1 ↦ L (1 : Nat) (St.mk [(4, AV.dat (T.int IntKind.u64) (bits BinOp.or IntKind.u64 (0 : Int) (IntKind.wrap IntKind.u64 x_1))), (5, AV.dat BL (takeV x (-1 : Int))), (6, AV.dat I64 (IntKind.wrap IntKind.i64 (IntKind.wrap IntKind.i64 ((↑(List.length (takeV x (-1 : Int))) : Int) - (1 : Int)) - (1 : Int))))] [AO.box 107 (AV.dat RT (takeS x (-1 : Int))) true]) (endX Tryd.prog G18 lv18 Tryd.f32 (1 : Nat) L K (1 : Nat))) else bif decide ((8 : Int) < n) then bif decide (IntKind.wrap IntKind.i64 ((↑(List.length (takeV x (-1 : Int))) : Int) - (1 : Int)) < (0 : Int)) then K (AV.dat (T.int IntKind.u64) (0 : Int)) [AO.box 107 (AV.dat RT (takeS x (-1 : Int))) true] else ck ((0 : Int) ≤ IntKind.wrap IntKind.i64 ((↑(List.length (takeV x (-1 : Int))) : Int) - (1 : Int))) (Option.bind (takeV x (-1 : Int))[Int.toNat (IntKind.wrap IntKind.i64 ((↑(List.length (takeV x (-1 : Int))) : Int) - (1 : Int)))]? fun x_1 ↦ L (1 : Nat) (St.mk [(4, AV.dat (T.int IntKind.u64) (bits BinOp.or IntKind.u64 (0 : Int) (IntKind.wrap IntKind.u64 x_1))), (5, AV.dat BL (takeV x (-1 : Int))), (6, AV.dat I64 (IntKind.wrap IntKind.i64 (IntKind.wrap IntKind.i64 ((↑(List.length (takeV x (-1 : Int))) : Int) - (1 : Int)) - (1 : Int))))] [AO.box 107 (AV.dat RT (takeS x (-1 : Int))) true]) (endX Tryd.prog G18 lv18 Tryd.f32 (1 : Nat) L K (1 : Nat))) else bif decide (IntKind.wrap IntKind.i64 ((↑(List.length (takeV x n)) : Int) - (1 : Int)) < (0 : Int)) then K (AV.dat (T.int IntKind.u64) (0 : Int)) [AO.box 107 (AV.dat RT (takeS x n)) true] else ck ((0 : Int) ≤ IntKind.wrap IntKind.i64 ((↑(List.length (takeV x n)) : Int) - (1 : Int))) (Option.bind (takeV x n)[Int.toNat (IntKind.wrap IntKind.i64 ((↑(List.length (takeV x n)) : Int) - (1 : Int)))]? fun x_1 ↦ L (1 : Nat) (St.mk [(4, AV.dat (T.int IntKind.u64) (bits BinOp.or IntKind.u64 (0 : Int) (IntKind.wrap IntKind.u64 x_1))), (5, AV.dat BL (takeV x n)), (6, AV.dat I64 (IntKind.wrap IntKind.i64 (IntKind.wrap IntKind.i64 ((↑(List.length (takeV x n)) : Int) - (1 : Int)) - (1 : Int))))] [AO.box 107 (AV.dat RT (takeS x n)) true]) (endX Tryd.prog G18 lv18 Tryd.f32 (1 : Nat) L K (1 : Nat))) := by kernel_rfl
theorem num_s {R : Type} (L L0 : Nat → St → (Exit → St → Option R) → Option R) (K : KV R) (x : RV) (n : Int) (b : List Int) (i : Int) : stepX Tryd.prog G18 lv18 1 (codeOf Tryd.f32) L 1 ⟨[(4, .dat (.int .u64) n), (5, .dat BL b), (6, .dat (.int .i64) i)], [.box 107 (.dat RT x) true]⟩ (endX Tryd.prog G18 lv18 Tryd.f32 1 L0 K 1) = bif decide (i < (0 : Int)) then K (AV.dat (T.int IntKind.u64) n) [AO.box 107 (AV.dat RT x) true] else ck ((0 : Int) ≤ i) (Option.bind b[Int.toNat i]? fun x_1 ↦ L (1 : Nat) (St.mk [(4, AV.dat (T.int IntKind.u64) (bits BinOp.or IntKind.u64 (shl IntKind.u64 n (8 : Int)) (IntKind.wrap IntKind.u64 x_1))), (5, AV.dat BL b), (6, AV.dat I64 (IntKind.wrap IntKind.i64 (i - (1 : Int))))] [AO.box 107 (AV.dat RT x) true]) (endX Tryd.prog G18 lv18 Tryd.f32 (1 : Nat) L0 K (1 : Nat))) := by kernel_rfl
theorem F30_ok : SumOk Tryd.prog 59 F30 := by
  refine (codeX_ok (k := 0) (lv := lvN) mixed noNG_prog (sums_call (Wr := all) (l := []) trivial) (sums_prim trivial) (fn := Tryd.f59) rfl).le ?_ ?_
  · intro R R' f args ob K
    unfold F30; dsimp only
    split <;> simp only [bd_bind, bd_none]
  · intro R args ob K r h
    unfold F30 at h; dsimp only at h
    split at h
    · obtain ⟨x, hx, h2⟩ := Option.bind_eq_some_iff.1 h
      obtain rfl := asD_ok hx
      refine (failed_0 K x _).trans (Eq.trans ?_ h2)
      cases x.2.1 <;> rfl
    · cases h
theorem take_run {R : Type} (K : KV R) (x : RV) (n : Int) : (backS [BL] cl (codeX Tryd.prog G33 lvN 0 Tryd.f66)).run [.ptr 0 [], .dat (.int .i64) n] [.box 107 (.dat RT x) true] K = K (.dat BL (takeV x n)) [.box 107 (.dat RT (takeS x n)) true] := by
  obtain ⟨xs, made, bad⟩ := x
  refine (take_0 K (xs, made, bad) n).trans ?_
  unfold takeV takeS
  dsimp only
  by_cases hb : (!made || bad) = true
  · simp only [hb, cond_true, if_true]
  · have hb' : (!made || bad) = false := by simpa using hb
    simp only [hb', cond_false, Bool.false_eq_true, if_false]
    by_cases h1 : n < 0
    · simp only [h1, decide_true, cond_true, true_or, if_true]
    · by_cases h2 : (xs.length : Int) < n
      · simp only [h1, h2, decide_true, decide_false, cond_true, cond_false, or_true, if_true]
      · simp only [h1, h2, decide_false, cond_false, or_false, if_false]
        rw [ck_pos (by omega), ck_pos (by omega), ck_pos (by omega)]
        cases hn : noRoom n.toNat (some n) with
        | false => rfl
        | true =>
          have : n = 0 := by unfold noRoom at hn; simp at hn; exact hn.2
          subst this
          rfl
theorem F33_ok : SumOk Tryd.prog 66 F33 := by
  refine (back_ok (ts := [BL]) (l := cl) (codeX_ok (k := 0) (lv := lvN) mixed noNG_prog (sums_call (Wr := all) (l := [(59, F30)]) ⟨F30_ok, trivial⟩) (sums_prim ⟨F30_ok, trivial⟩) (fn := Tryd.f66) rfl)).le ?_ ?_
  · intro R R' f args ob K
    unfold F33; dsimp only
    split <;> simp only [bd_bind, bd_none]
  · intro R args ob K r h
    unfold F33 at h; dsimp only at h
    split at h
    · obtain ⟨x, hx, h2⟩ := Option.bind_eq_some_iff.1 h
      obtain rfl := asD_ok hx
      exact (take_run K x _).trans h2
    · cases h
def numF (b : List Int) : Nat → Int → Int
  | 0, n => n
  | j + 1, n => numF b j (bits .or .u64 (shl .u64 n 8) (IntKind.u64.wrap (b.getD j 0)))
theorem getq {b : List Int} {i : Int} {j : Nat} (h : i = j) (hj : j < b.length) : b[i.toNat]? = some (b.getD j 0) := by
  subst h
  rw [Int.toNat_natCast, List.getElem?_eq_getElem hj, List.getD_eq_getElem?_getD, List.getElem?_eq_getElem hj]; rfl
theorem num_loop {R : Type} (L0 : Nat → St → (Exit → St → Option R) → Option R) (K : KV R) (x : RV) (b : List Int) (hb : b.length < 4611686018427387904) : ∀ (j : Nat) (k : Nat) (n i : Int), j ≤ b.length → j < k → i = (j : Int) - 1 →
    LX Tryd.prog G18 lv18 1 (codeOf Tryd.f32) k 1 ⟨[(4, .dat (.int .u64) n), (5, .dat BL b), (6, .dat (.int .i64) i)], [.box 107 (.dat RT x) true]⟩ (endX Tryd.prog G18 lv18 Tryd.f32 1 L0 K 1) = K (.dat (.int .u64) (numF b j n)) [.box 107 (.dat RT x) true] := by
  intro j
  induction j with
  | zero =>
    intro k n i hj hk hi
    obtain ⟨k, rfl⟩ : ∃ q, k = q + 1 := ⟨k - 1, by omega⟩
    refine (num_s _ L0 K x n b i).trans ?_
    rw [show decide (i < 0) = true from decide_eq_true (by omega), cond_true]
    rfl
  | succ j ih =>
    intro k n i hj hk hi
    obtain ⟨k, rfl⟩ : ∃ q, k = q + 1 := ⟨k - 1, by omega⟩
    refine (num_s _ L0 K x n b i).trans ?_
    rw [show decide (i < 0) = false from decide_eq_false (by omega), cond_false, ck_pos (by omega), getq (j := j) (by omega) (by omega), wrapS (by omega)]
    exact ih k _ _ (by omega) (by omega) (by omega)
def sizeOk (n : Int) : Int := if n < 1 ∨ 8 < n then -1 else n
def numV (x : RV) (n : Int) : Int := numF (takeV x (sizeOk n)) (takeV x (sizeOk n)).length 0
def numS (x : RV) (n : Int) : RV := takeS x (sizeOk n)
def F18 : Summ := ⟨fun args ob K => match args, ob with
  | [.ptr 0 [], .dat (.int .i64) n], [.box 107 v true] => (asD RT v).bind fun x => ck (x.1.length < 100000) (K (.dat (.int .u64) (numV x n)) [.box 107 (.dat RT (numS x n)) true])
  | _, _ => none⟩
theorem takeV_len (x : RV) (n : Int) : (takeV x n).length ≤ x.1.length := by
  unfold takeV; repeat' split
  all_goals first | (simp; done) | (simp; omega)
theorem first {R : Type} (x : RV) (n : Int) (hx : x.1.length < 100000) (K : KV R) :
    (bif decide (IntKind.wrap IntKind.i64 ((↑(List.length (takeV x n)) : Int) - 1) < 0) then K (AV.dat (T.int IntKind.u64) 0) [AO.box 107 (AV.dat (T.pair (T.sl (T.int IntKind.u8)) (T.pair T.bool T.bool)) (takeS x n)) true] else ck (0 ≤ IntKind.wrap IntKind.i64 ((↑(List.length (takeV x n)) : Int) - 1)) (Option.bind (takeV x n)[Int.toNat (IntKind.wrap IntKind.i64 ((↑(List.length (takeV x n)) : Int) - 1))]? fun x_1 ↦ LX Tryd.prog G18 lv18 1 (codeOf Tryd.f32) 100001 1 (St.mk [(4, AV.dat (T.int IntKind.u64) (bits BinOp.or IntKind.u64 0 (IntKind.wrap IntKind.u64 x_1))), (5, AV.dat (T.sl (T.int IntKind.u8)) (takeV x n)), (6, AV.dat (T.int IntKind.i64) (IntKind.wrap IntKind.i64 (IntKind.wrap IntKind.i64 ((↑(List.length (takeV x n)) : Int) - 1) - 1)))] [AO.box 107 (AV.dat (T.pair (T.sl (T.int IntKind.u8)) (T.pair T.bool T.bool)) (takeS x n)) true]) (endX Tryd.prog G18 lv18 Tryd.f32 1 (LX Tryd.prog G18 lv18 1 (codeOf Tryd.f32) 100001) K 1)))
      = K (.dat (.int .u64) (numF (takeV x n) (takeV x n).length 0)) [.box 107 (.dat RT (takeS x n)) true] := by
  have hl := takeV_len x n
  rw [wrapS (x := (↑(List.length (takeV x n)) : Int) - 1) (by omega)]
  generalize takeV x n = b at *
  cases hb : b.length with
  | zero => rfl
  | succ m =>
    rw [show decide (((m + 1 : Nat) : Int) - 1 < 0) = false from decide_eq_false (by omega), cond_false, ck_pos (by omega), getq (j := m) (by omega) (by omega), wrapS (by omega)]
    exact num_loop _ K _ b (by omega) m 100001 _ _ (by omega) (by omega) (by omega)
theorem num_run {R : Type} (K : KV R) (x : RV) (n : Int) (hlen : x.1.length < 100000) : (codeX Tryd.prog G18 lv18 100001 Tryd.f32).run [.ptr 0 [], .dat (.int .i64) n] [.box 107 (.dat RT x) true] K = K (.dat (.int .u64) (numV x n)) [.box 107 (.dat RT (numS x n)) true] := by
  refine (num_0 _ K x n).trans ?_
  unfold numV numS sizeOk
  by_cases h1 : n < 1
  · rw [if_pos (Or.inl h1), show decide (n < 1) = true from decide_eq_true (by omega), cond_true]
    exact first x (-1) hlen K
  · by_cases h2 : 8 < n
    · rw [if_pos (Or.inr h2), show decide (n < 1) = false from decide_eq_false (by omega), cond_false, show decide (8 < n) = true from decide_eq_true (by omega), cond_true]
      exact first x (-1) hlen K
    · rw [if_neg (by omega), show decide (n < 1) = false from decide_eq_false (by omega), cond_false, show decide (8 < n) = false from decide_eq_false (by omega), cond_false]
      exact first x n hlen K
theorem F18_ok : SumOk Tryd.prog 32 F18 := by
  refine (codeX_ok (k := 100001) (lv := lv18) mixed noNG_prog (sums_call (Wr := all) (l := [(66, inS 66 cl F33)]) ⟨in_ok F33_ok, trivial⟩) (sums_prim ⟨in_ok F33_ok, trivial⟩) (fn := Tryd.f32) rfl).le ?_ ?_
  · intro R R' f args ob K
    unfold F18; dsimp only
    split <;> simp only [bd_bind, bd_ck, bd_none]
  · intro R args ob K r h
    unfold F18 at h; dsimp only at h
    split at h
    · obtain ⟨x, hx, h2⟩ := Option.bind_eq_some_iff.1 h
      obtain rfl := asD_ok hx
      obtain ⟨hlen, h3⟩ := ck_elim h2
      exact (num_run K x _ hlen).trans h3
    · cases h
end Go.Mx
namespace Go.Mx
open Go Go.RowKit Go.Sx Go.Proofs
set_option maxRecDepth 100000
theorem clone_n {R : Type} (K : KV R) : (backS [BL] cl (codeX Tryd.prog (sums all []) lvN 0 Tryd.f65)).run [.nilw (.int .u8)] [] K = K (AV.dat BL []) [] := by kernel_rfl
theorem clone_s {R : Type} (K : KV R) : (backS [BL] cl (codeX Tryd.prog (sums all []) lvN 0 Tryd.f65)).run [.sln (.int .u8) []] [] K = K (AV.dat BL []) [] := by kernel_rfl
theorem clone_c {R : Type} (K : KV R) (z : Int) (zs : List Int) : (backS [BL] cl (codeX Tryd.prog (sums all []) lvN 0 Tryd.f65)).run [.dat BL (z :: zs)] [] K = ck (List.length (z :: zs) * (1 : Nat) ≤ limit) (K (AV.view 0) [AO.row 5 U8 (z :: zs) Md.own]) := by kernel_rfl
theorem clone_vn {R : Type} (K : KV R) (b : List Int) (m : Md) : (backS [BL] cl (codeX Tryd.prog (sums all []) lvN 0 Tryd.f65)).run [.nilw (.int .u8)] [.row 5 (.int .u8) b m] K = K (AV.dat BL []) [AO.row 5 U8 b m] := by kernel_rfl
theorem clone_vs {R : Type} (K : KV R) (b : List Int) (m : Md) : (backS [BL] cl (codeX Tryd.prog (sums all []) lvN 0 Tryd.f65)).run [.sln (.int .u8) []] [.row 5 (.int .u8) b m] K = K (AV.dat BL []) [AO.row 5 U8 b m] := by kernel_rfl
theorem clone_vc {R : Type} (K : KV R) (z : Int) (zs : List Int) (m : Md) : (backS [BL] cl (codeX Tryd.prog (sums all []) lvN 0 Tryd.f65)).run [.view 0] [.row 5 (.int .u8) (z :: zs) m] K = ck (List.length (z :: zs) * (1 : Nat) ≤ limit) (K (AV.view 1) [AO.row 5 U8 (z :: zs) m, AO.row 5 U8 (z :: zs) Md.own]) := by kernel_rfl
theorem clone_pc {R : Type} (K : KV R) (b : List Int) (n : Nat) : (backS [BL] cl (codeX Tryd.prog (sums all []) lvN 0 Tryd.f65)).run [.pre 0 (n + 1)] [.row 5 (.int .u8) b .own] K = listK (List.take (n + (1 : Nat)) b) (K (AV.dat BL []) [AO.row 5 U8 b Md.own]) fun z zs ↦ ck (List.length (z :: zs) * (1 : Nat) ≤ limit) (K (AV.view 1) [AO.row 5 U8 b Md.own, AO.row 5 U8 (z :: zs) Md.own]) := by kernel_rfl
def F32 : Summ := ⟨fun args ob K => match args, ob with
  | [.dat (.sl (.int .u8)) b], [] => listK b (K (.dat BL []) []) fun z zs => ck (zs.length < 1000000) (K (.view 0) [.row 5 (.int .u8) (z :: zs) .own])
  | [.view 0], [.row 5 (.int .u8) b m] => listK b (K (.dat BL []) [.row 5 (.int .u8) [] m]) fun z zs => ck (zs.length < 1000000) (K (.view 1) [.row 5 (.int .u8) (z :: zs) m, .row 5 (.int .u8) (z :: zs) .own])
  | [.pre 0 n], [.row 5 (.int .u8) b .own] => listK (b.take n) (K (.dat BL []) [.row 5 (.int .u8) b .own]) fun z zs => ck (zs.length < 1000000) (K (.view 1) [.row 5 (.int .u8) b .own, .row 5 (.int .u8) (z :: zs) .own])
  | _, _ => none⟩
theorem base32 : SumOk Tryd.prog 65 (backS [BL] cl (codeX Tryd.prog (sums all []) lvN 0 Tryd.f65)) := back_ok (codeX_ok (k := 0) (lv := lvN) mixed noNG_prog (sums_call (Wr := all) (l := []) trivial) (sums_prim trivial) (fn := Tryd.f65) rfl)
theorem lim {n : Nat} (h : n < 1000000) : (n + 1) * 1 ≤ limit := by unfold limit; omega
theorem F32_ok : SumOk Tryd.prog 65 F32 := by
  refine ⟨?_, ?_⟩
  · intro R R' f args ob K
    unfold F32; dsimp only
    split <;> simp only [bd_list, bd_ck, bd_none]
  · intro R args ob K r h W ρ w us hr ha
    unfold F32 at h; dsimp only at h
    split at h
    · rename_i b
      cases ha with
      | cons h1 h2 =>
        cases h2
        cases b with
        | nil =>
          rcases no_or h1 with h3 | h3
          · exact base32.2 _ _ K r ((clone_n K).trans h) W ρ w _ hr (.cons h3 .nil)
          · exact base32.2 _ _ K r ((clone_s K).trans h) W ρ w _ hr (.cons h3 .nil)
        | cons z zs =>
          obtain ⟨hl, h⟩ := ck_elim (show ck (zs.length < 1000000) _ = some r from h)
          refine base32.2 _ _ K r ((clone_c K z zs).trans ?_) W ρ w _ hr (.cons h1 .nil)
          rw [ck_pos (by rw [List.length_cons]; exact lim hl)]; exact h
    · rename_i b m
      cases ha with
      | cons h1 h2 =>
        cases h2
        cases b with
        | nil =>
          rcases vw_or hr (i := 0) rfl h1 with h3 | h3
          · exact base32.2 _ _ K r ((clone_vn K [] m).trans h) W ρ w _ hr (.cons h3 .nil)
          · exact base32.2 _ _ K r ((clone_vs K [] m).trans h) W ρ w _ hr (.cons h3 .nil)
        | cons z zs =>
          obtain ⟨hl, h⟩ := ck_elim (show ck (zs.length < 1000000) _ = some r from h)
          refine base32.2 _ _ K r ((clone_vc K z zs m).trans ?_) W ρ w _ hr (.cons h1 .nil)
          rw [ck_pos (by rw [List.length_cons]; exact lim hl)]; exact h
    · rename_i n b
      cases ha with
      | cons h1 h2 =>
        cases h2
        cases n with
        | zero =>
          rcases pre_or hr (i := 0) rfl h1 with h3 | h3
          · exact base32.2 _ _ K r ((clone_vn K b .own).trans h) W ρ w _ hr (.cons h3 .nil)
          · exact base32.2 _ _ K r ((clone_vs K b .own).trans h) W ρ w _ hr (.cons h3 .nil)
        | succ n =>
          refine base32.2 _ _ K r ((clone_pc K b n).trans ?_) W ρ w _ hr (.cons h1 .nil)
          cases hb : b.take (n + 1) with
          | nil => rw [hb] at h; exact h
          | cons z zs =>
            rw [hb] at h
            obtain ⟨hl, h⟩ := ck_elim (show ck (zs.length < 1000000) _ = some r from h)
            show ck _ _ = some r
            rw [ck_pos (by rw [List.length_cons]; exact lim hl)]; exact h
    · cases h
def G17 : Sums := sums all [(65, F32)]
theorem new_0 {R : Type} (K : KV R) (b : List Int) : (backS [BL] cl (codeX Tryd.prog G17 lvN 0 Tryd.f31)).run [.view 0] [.row 5 (.int .u8) b .own] K = listK b (K (AV.ptr 1 []) [AO.row 5 U8 [] Md.own, AO.box 107 (AV.dat RT ([], true, false)) true]) fun z zs ↦ ck (List.length zs < (1000000 : Nat)) (K (AV.ptr 1 []) [AO.row 5 U8 (z :: zs) Md.own, AO.box 107 (AV.dat RT (z :: zs, true, false)) true]) := by kernel_rfl
theorem new_2 {R : Type} (K : KV R) (b : List Int) (n : Nat) : (backS [BL] cl (codeX Tryd.prog G17 lvN 0 Tryd.f31)).run [.pre 0 n] [.row 5 (.int .u8) b .own] K = listK (List.take n b) (K (AV.ptr 1 []) [AO.row 5 U8 b Md.own, AO.box 107 (AV.dat RT ([], true, false)) true]) fun z zs ↦ ck (List.length zs < (1000000 : Nat)) (K (AV.ptr 1 []) [AO.row 5 U8 b Md.own, AO.box 107 (AV.dat RT (z :: zs, true, false)) true]) := by kernel_rfl
theorem new_1 {R : Type} (K : KV R) (b : List Int) : (backS [BL] cl (codeX Tryd.prog G17 lvN 0 Tryd.f31)).run [.dat BL b] [] K = listK b (K (AV.ptr 0 []) [AO.box 107 (AV.dat RT ([], true, false)) true]) fun z zs ↦ ck (List.length zs < (1000000 : Nat)) (K (AV.ptr 0 []) [AO.box 107 (AV.dat RT (z :: zs, true, false)) true]) := by kernel_rfl
def G20 : Sums := sums all [(32, inS 32 cl F18)]
theorem whole_0 {R : Type} (K : KV R) (x : RV) : (codeX Tryd.prog G20 lvN 0 Tryd.f33).run [.ptr 0 []] [.box 107 (.dat RT x) true] K = ck (List.length x.1 < (100000 : Nat)) (K (AV.dat I64 (IntKind.wrap IntKind.i64 (IntKind.wrap IntKind.i32 (IntKind.wrap IntKind.u32 (numV x (4 : Int)))))) [AO.box 107 (AV.dat RT (numS x (4 : Int))) true]) := by kernel_rfl
def G22 : Sums := sums all [(32, inS 32 cl F18), (66, inS 66 cl F33), (65, F32)]
theorem blob_0 {R : Type} (K : KV R) (x : RV) (n : Int) : (backS [] cl (codeX Tryd.prog G22 lvN 0 Tryd.f34)).run [.ptr 0 [], .dat (.int .i64) n] [.box 107 (.dat RT x) true] K = bif !decide (n = (1 : Int)) then bif !decide (n = (2 : Int)) then ck (List.length x.1 < (100000 : Nat)) (listK (takeV (numS x (-1 : Int)) (IntKind.wrap IntKind.i64 (numV x (-1 : Int)))) (K (AV.dat BL []) [AO.box 107 (AV.dat RT (takeS (numS x (-1 : Int)) (IntKind.wrap IntKind.i64 (numV x (-1 : Int))))) true]) fun z zs ↦ ck (List.length zs < (1000000 : Nat)) (K (AV.view 1) [AO.box 107 (AV.dat RT (takeS (numS x (-1 : Int)) (IntKind.wrap IntKind.i64 (numV x (-1 : Int))))) true, AO.row 5 U8 (z :: zs) Md.own])) else ck (List.length x.1 < (100000 : Nat)) (listK (takeV (numS x n) (IntKind.wrap IntKind.i64 (numV x n))) (K (AV.dat BL []) [AO.box 107 (AV.dat RT (takeS (numS x n) (IntKind.wrap IntKind.i64 (numV x n)))) true]) fun z zs ↦ ck (List.length zs < (1000000 : Nat)) (K (AV.view 1) [AO.box 107 (AV.dat RT (takeS (numS x n) (IntKind.wrap IntKind.i64 (numV x n)))) true, AO.row 5 U8 (z :: zs) Md.own])) else ck (List.length x.1 < (100000 : Nat)) (listK (takeV (numS x n) (IntKind.wrap IntKind.i64 (numV x n))) (K (AV.dat BL []) [AO.box 107 (AV.dat RT (takeS (numS x n) (IntKind.wrap IntKind.i64 (numV x n)))) true]) fun z zs ↦ ck (List.length zs < (1000000 : Nat)) (K (AV.view 1) [AO.box 107 (AV.dat RT (takeS (numS x n) (IntKind.wrap IntKind.i64 (numV x n)))) true, AO.row 5 U8 (z :: zs) Md.own])) := by kernel_rfl
def G30 : Sums := sums all [(59, F30)]
theorem end_0 {R : Type} (K : KV R) (x : RV) : (codeX Tryd.prog G30 lvN 0 Tryd.f35).run [.ptr 0 []] [.box 107 (.dat RT x) true] K = bif !x.2.1 then K (AV.dat I64 (1 : Int)) [AO.box 107 (AV.dat RT x) true] else bif x.2.2 then K (AV.dat I64 (16 : Int)) [AO.box 107 (AV.dat RT x) true] else bif decide ((0 : Int) < (↑(List.length x.1) : Int)) then K (AV.dat I64 (16 : Int)) [AO.box 107 (AV.dat RT x) true] else K (AV.dat I64 (0 : Int)) [AO.box 107 (AV.dat RT x) true] := by kernel_rfl
theorem rend_0 {R : Type} (K : KV R) (y : QV) : (codeX Tryd.prog G30 lvN 0 Tryd.f39).run [.ptr 0 []] [.box 75 (.dat QT y) true] K = bif y.2 then K (AV.dat I64 (16 : Int)) [AO.box 75 (AV.dat (T.pair BL T.bool) y) true] else bif decide ((0 : Int) < (↑(List.length y.1) : Int)) then K (AV.dat I64 (16 : Int)) [AO.box 75 (AV.dat (T.pair BL T.bool) y) true] else K (AV.dat I64 (0 : Int)) [AO.box 75 (AV.dat (T.pair BL T.bool) y) true] := by kernel_rfl
def newV (b : List Int) : RV := (b, true, false)
def F17 : Summ := ⟨fun args ob K => match args, ob with
  | [.dat (.sl (.int .u8)) b], [] => ck (b.length < 1000000) (K (.ptr 0 []) [.box 107 (.dat RT (newV b)) true])
  | [.view 0], [.row 5 (.int .u8) b .own] => ck (b.length < 1000000) (K (.ptr 1 []) [.row 5 (.int .u8) b .own, .box 107 (.dat RT (newV b)) true])
  | [.pre 0 n], [.row 5 (.int .u8) b .own] => ck (b.length < 1000000) (K (.ptr 1 []) [.row 5 (.int .u8) b .own, .box 107 (.dat RT (newV (b.take n))) true])
  | _, _ => none⟩
theorem F17_ok : SumOk Tryd.prog 31 F17 := by
  refine (back_ok (ts := [BL]) (l := cl) (codeX_ok (k := 0) (lv := lvN) mixed noNG_prog (sums_call (Wr := all) (l := [(65, F32)]) ⟨F32_ok, trivial⟩) (sums_prim ⟨F32_ok, trivial⟩) (fn := Tryd.f31) rfl)).le ?_ ?_
  · intro R R' f args ob K
    unfold F17; dsimp only
    split <;> simp only [bd_ck, bd_none]
  · intro R args ob K r h
    unfold F17 at h; dsimp only at h
    split at h
    · rename_i b
      obtain ⟨hl, h⟩ := ck_elim h
      refine (new_1 K b).trans ?_
      cases b with
      | nil => exact h
      | cons z zs => show ck _ _ = some r; rw [ck_pos (by rw [List.length_cons] at hl; omega)]; exact h
    · rename_i b
      obtain ⟨hl, h⟩ := ck_elim h
      refine (new_0 K b).trans ?_
      cases b with
      | nil => exact h
      | cons z zs => show ck _ _ = some r; rw [ck_pos (by rw [List.length_cons] at hl; omega)]; exact h
    · rename_i n b
      obtain ⟨hl, h⟩ := ck_elim h
      refine (new_2 K b n).trans ?_
      have hl2 : (b.take n).length ≤ b.length := by rw [List.length_take]; omega
      cases hb : b.take n with
      | nil => rw [hb] at h; exact h
      | cons z zs => rw [hb] at h hl2; show ck _ _ = some r; rw [ck_pos (by rw [List.length_cons] at hl2; omega)]; exact h
    · cases h
def wholeV (n : Int) : Int := IntKind.i64.wrap (IntKind.i32.wrap (IntKind.u32.wrap n))
def F20 : Summ := ⟨fun args ob K => match args, ob with
  | [.ptr 0 []], [.box 107 v true] => (asD RT v).bind fun x => ck (x.1.length < 100000) (K (.dat (.int .i64) (wholeV (numV x 4))) [.box 107 (.dat RT (numS x 4)) true])
  | _, _ => none⟩
theorem F20_ok : SumOk Tryd.prog 33 F20 := by
  refine (codeX_ok (k := 0) (lv := lvN) mixed noNG_prog (sums_call (Wr := all) (l := [(32, inS 32 cl F18)]) ⟨in_ok F18_ok, trivial⟩) (sums_prim ⟨in_ok F18_ok, trivial⟩) (fn := Tryd.f33) rfl).le ?_ ?_
  · intro R R' f args ob K
    unfold F20; dsimp only
    split <;> simp only [bd_bind, bd_ck, bd_none]
  · intro R args ob K r h
    unfold F20 at h; dsimp only at h
    split at h
    · obtain ⟨x, hx, h2⟩ := Option.bind_eq_some_iff.1 h
      obtain rfl := asD_ok hx
      exact (whole_0 K x).trans h2
    · cases h
def bSize (n : Int) : Int := if n ≠ 1 ∧ n ≠ 2 then -1 else n
def blobV (x : RV) (n : Int) : List Int := takeV (numS x (bSize n)) (IntKind.i64.wrap (numV x (bSize n)))
def blobS (x : RV) (n : Int) : RV := takeS (numS x (bSize n)) (IntKind.i64.wrap (numV x (bSize n)))
def F22 : Summ := ⟨fun args ob K => match args, ob with
  | [.ptr 0 [], .dat (.int .i64) n], [.box 107 v true] => (asD RT v).bind fun x => ck (x.1.length < 100000) (listK (blobV x n) (K (.dat BL []) [.box 107 (.dat RT (blobS x n)) true]) fun z zs => K (.view 1) [.box 107 (.dat RT (blobS x n)) true, .row 5 (.int .u8) (z :: zs) .own])
  | _, _ => none⟩
theorem takeS_len (x : RV) (n : Int) : (takeS x n).1.length ≤ x.1.length := by
  unfold takeS; repeat' split
  all_goals first | (simp; done) | (simp; omega)
theorem blobV_len (x : RV) (n : Int) : (blobV x n).length ≤ x.1.length := Nat.le_trans (takeV_len _ _) (takeS_len _ _)
theorem blob_run {R : Type} (K : KV R) (x : RV) (n : Int) (hl : x.1.length < 100000) : (backS [] cl (codeX Tryd.prog G22 lvN 0 Tryd.f34)).run [.ptr 0 [], .dat (.int .i64) n] [.box 107 (.dat RT x) true] K = listK (blobV x n) (K (.dat BL []) [.box 107 (.dat RT (blobS x n)) true]) fun z zs => K (.view 1) [.box 107 (.dat RT (blobS x n)) true, .row 5 (.int .u8) (z :: zs) .own] := by
  refine (blob_0 K x n).trans ?_
  have hb := blobV_len x n
  have fin : (ck (List.length (Prod.fst x) < 100000) (listK (blobV x n) (K (AV.dat (T.sl (T.int IntKind.u8)) []) [AO.box 107 (AV.dat RT (blobS x n)) true]) fun z zs ↦ ck (List.length zs < 1000000) (K (AV.view 1) [AO.box 107 (AV.dat RT (blobS x n)) true, AO.row 5 (T.int IntKind.u8) (z :: zs) Md.own]))) = listK (blobV x n) (K (.dat BL []) [.box 107 (.dat RT (blobS x n)) true]) fun z zs => K (.view 1) [.box 107 (.dat RT (blobS x n)) true, .row 5 (.int .u8) (z :: zs) .own] := by
    rw [ck_pos hl]
    cases hy : blobV x n with
    | nil => rfl
    | cons z zs =>
      rw [hy, List.length_cons] at hb
      show ck _ _ = K _ _
      rw [ck_pos (by omega)]
  by_cases h1 : n = 1
  · have e : bSize n = n := by unfold bSize; rw [if_neg (by omega)]
    rw [show (!decide (n = 1)) = false by simp [h1], cond_false]
    unfold blobV blobS at fin ⊢
    rw [e] at fin ⊢
    exact fin
  · by_cases h2 : n = 2
    · have e : bSize n = n := by unfold bSize; rw [if_neg (by omega)]
      rw [show (!decide (n = 1)) = true by simp [h1], cond_true, show (!decide (n = 2)) = false by simp [h2], cond_false]
      unfold blobV blobS at fin ⊢
      rw [e] at fin ⊢
      exact fin
    · have e : bSize n = -1 := by unfold bSize; rw [if_pos ⟨h1, h2⟩]
      rw [show (!decide (n = 1)) = true by simp [h1], cond_true, show (!decide (n = 2)) = true by simp [h2], cond_true]
      unfold blobV blobS at fin ⊢
      rw [e] at fin ⊢
      exact fin
theorem F22_ok : SumOk Tryd.prog 34 F22 := by
  refine (back_ok (ts := []) (l := cl) (codeX_ok (k := 0) (lv := lvN) mixed noNG_prog (sums_call (Wr := all) (l := [(32, inS 32 cl F18), (66, inS 66 cl F33), (65, F32)]) ⟨in_ok F18_ok, in_ok F33_ok, F32_ok, trivial⟩) (sums_prim ⟨in_ok F18_ok, in_ok F33_ok, F32_ok, trivial⟩) (fn := Tryd.f34) rfl)).le ?_ ?_
  · intro R R' f args ob K
    unfold F22; dsimp only
    split <;> simp only [bd_bind, bd_ck, bd_none, bd_list]
  · intro R args ob K r h
    unfold F22 at h; dsimp only at h
    split at h
    · obtain ⟨x, hx, h2⟩ := Option.bind_eq_some_iff.1 h
      obtain rfl := asD_ok hx
      obtain ⟨hl, h3⟩ := ck_elim h2
      exact (blob_run K x _ hl).trans h3
    · cases h
def endV (x : RV) : Int := bif !x.2.1 then 1 else bif x.2.2 then 16 else bif decide (0 < (x.1.length : Int)) then 16 else 0
def rendV (y : QV) : Int := bif y.2 then 16 else bif decide (0 < (y.1.length : Int)) then 16 else 0
def F28 : Summ := ⟨fun args ob K => match args, ob with
  | [.ptr 0 []], [.box 107 v true] => (asD RT v).bind fun x => K (.dat (.int .i64) (endV x)) [.box 107 v true]
  | _, _ => none⟩
def F34 : Summ := ⟨fun args ob K => match args, ob with
  | [.ptr 0 []], [.box 75 v true] => (asD QT v).bind fun x => K (.dat (.int .i64) (rendV x)) [.box 75 v true]
  | _, _ => none⟩
end Go.Mx
namespace Go.Mx
open Go Go.RowKit Go.Sx Go.Proofs
set_option maxRecDepth 100000
theorem rnum_0 {R : Type} (K : KV R) (L : Nat → St → (Exit → St → Option R) → Option R) (y : QV) (n : Int) : runX Tryd.prog G18 lv19 Tryd.f36 1 L [.ptr 0 [], .dat (.int .i64) n] [.box 75 (.dat QT y) true] K = bif decide (n < (1 : Int)) then K (AV.dat (T.int IntKind.u64) (0 : Int)) [AO.box 75 (AV.pr AV.nils (AV.dat T.bool true)) true] else bif decide ((8 : Int) < n) then K (AV.dat (T.int IntKind.u64) (0 : Int)) [AO.box 75 (AV.pr AV.nils (AV.dat T.bool true)) true] else bif decide ((↑(List.length y.1) : Int) < n) then K (AV.dat (T.int IntKind.u64) (0 : Int)) [AO.box 75 (AV.pr AV.nils (AV.dat T.bool true)) true] else bif y.2 then K (AV.dat (T.int IntKind.u64) (0 : Int)) [AO.box 75 (AV.pr AV.nils (AV.dat T.bool y.2)) true] else L (0 : Nat) (St.mk [(0, AV.ptr 0 []), (1, AV.dat I64 n), (5, AV.dat (T.int IntKind.u64) (0 : Int)), (6, AV.dat (T.int IntKind.u64) (1 : Int)), (7, AV.dat I64 (0 : Int))] [AO.box 75 (AV.dat (T.pair BL T.bool) y) true]) (endX Tryd.prog G18 lv19 Tryd.f36 (1 : Nat) L K (0 : Nat)) := by kernel_rfl
theorem rnum_s {R : Type} (L L0 : Nat → St → (Exit → St → Option R) → Option R) (K : KV R) (y : QV) (size n f i : Int) : stepX Tryd.prog G18 lv19 1 (codeOf Tryd.f36) L 0 ⟨[(0, .ptr 0 []), (1, .dat (.int .i64) size), (5, .dat (.int .u64) n), (6, .dat (.int .u64) f), (7, .dat (.int .i64) i)], [.box 75 (.dat QT y) true]⟩ (endX Tryd.prog G18 lv19 Tryd.f36 1 L0 K 0) = bif decide (i < size) then ck ((0 : Int) ≤ i) (Option.bind y.1[Int.toNat i]? fun x ↦ L (0 : Nat) (St.mk [(0, AV.ptr 0 []), (1, AV.dat I64 size), (5, AV.dat (T.int IntKind.u64) (IntKind.wrap IntKind.u64 (n + IntKind.wrap IntKind.u64 (f * IntKind.wrap IntKind.u64 x)))), (6, AV.dat (T.int IntKind.u64) (IntKind.wrap IntKind.u64 (f * (256 : Int)))), (7, AV.dat I64 (IntKind.wrap IntKind.i64 (i + (1 : Int))))] [AO.box 75 (AV.dat (T.pair BL T.bool) y) true]) (endX Tryd.prog G18 lv19 Tryd.f36 (1 : Nat) L0 K (0 : Nat))) else ck ((0 : Int) ≤ size ∧ size ≤ (↑(List.length y.1) : Int)) (K (AV.dat (T.int IntKind.u64) n) [AO.box 75 (AV.dat (T.pair BL T.bool) (cutA (some size) none y.1, y.2)) true]) := by kernel_rfl
theorem F28_ok : SumOk Tryd.prog 35 F28 := by
  refine (codeX_ok (k := 0) (lv := lvN) mixed noNG_prog (sums_call (Wr := all) (l := [(59, F30)]) ⟨F30_ok, trivial⟩) (sums_prim ⟨F30_ok, trivial⟩) (fn := Tryd.f35) rfl).le ?_ ?_
  · intro R R' f args ob K
    unfold F28; dsimp only
    split <;> simp only [bd_bind, bd_none]
  · intro R args ob K r h
    unfold F28 at h; dsimp only at h
    split at h
    · obtain ⟨⟨xs, made, bad⟩, hx, h2⟩ := Option.bind_eq_some_iff.1 h
      obtain rfl := asD_ok hx
      refine (end_0 K (xs, made, bad)).trans (Eq.trans ?_ h2)
      unfold endV
      dsimp only
      generalize decide (0 < ((xs.length : Nat) : Int)) = q
      cases made <;> cases bad <;> cases q <;> rfl
    · cases h
theorem F34_ok : SumOk Tryd.prog 39 F34 := by
  refine (codeX_ok (k := 0) (lv := lvN) mixed noNG_prog (sums_call (Wr := all) (l := [(59, F30)]) ⟨F30_ok, trivial⟩) (sums_prim ⟨F30_ok, trivial⟩) (fn := Tryd.f39) rfl).le ?_ ?_
  · intro R R' f args ob K
    unfold F34; dsimp only
    split <;> simp only [bd_bind, bd_none]
  · intro R args ob K r h
    unfold F34 at h; dsimp only at h
    split at h
    · obtain ⟨⟨xs, bad⟩, hx, h2⟩ := Option.bind_eq_some_iff.1 h
      obtain rfl := asD_ok hx
      refine (rend_0 K (xs, bad)).trans (Eq.trans ?_ h2)
      unfold rendV
      dsimp only
      generalize decide (0 < ((xs.length : Nat) : Int)) = q
      cases bad <;> cases q <;> rfl
    · cases h
def gF : List Int → Int → Int → Int
  | [], n, _ => n
  | x :: r, n, f => gF r (IntKind.u64.wrap (n + IntKind.u64.wrap (f * IntKind.u64.wrap x))) (IntKind.u64.wrap (f * 256))
def rBad (y : QV) (n : Int) : Bool := decide (n < 1) || decide (8 < n) || decide ((y.1.length : Int) < n) || y.2
def rnumV (y : QV) (n : Int) : Int := if rBad y n = true then 0 else gF (y.1.take n.toNat) 0 1
def rnumS (y : QV) (n : Int) : QV := if rBad y n = true then ([], true) else (y.1.drop n.toNat, y.2)
theorem rnum_loop {R : Type} (L0 : Nat → St → (Exit → St → Option R) → Option R) (K : KV R) (y : QV) (m : Nat) (hm : m ≤ y.1.length) (hb : m < 4611686018427387904) : ∀ (j : Nat) (k : Nat) (n f : Int) (i : Nat), i + j = m → j < k →
    LX Tryd.prog G18 lv19 1 (codeOf Tryd.f36) k 0 ⟨[(0, .ptr 0 []), (1, .dat (.int .i64) (m : Int)), (5, .dat (.int .u64) n), (6, .dat (.int .u64) f), (7, .dat (.int .i64) (i : Int))], [.box 75 (.dat QT y) true]⟩ (endX Tryd.prog G18 lv19 Tryd.f36 1 L0 K 0) = K (.dat (.int .u64) (gF ((y.1.drop i).take j) n f)) [.box 75 (.dat QT (y.1.drop m, y.2)) true] := by
  intro j
  induction j with
  | zero =>
    intro k n f i hi hk
    obtain ⟨k, rfl⟩ : ∃ q, k = q + 1 := ⟨k - 1, by omega⟩
    refine (rnum_s _ L0 K y m n f i).trans ?_
    rw [show decide ((i : Int) < m) = false from decide_eq_false (by omega), cond_false, ck_pos (by omega)]
    show K _ [.box 75 (.dat QT (y.1.drop (Int.toNat (m : Int)), y.2)) true] = _
    rw [Int.toNat_natCast]
    rfl
  | succ j ih =>
    intro k n f i hi hk
    obtain ⟨k, rfl⟩ : ∃ q, k = q + 1 := ⟨k - 1, by omega⟩
    refine (rnum_s _ L0 K y m n f i).trans ?_
    rw [show decide ((i : Int) < m) = true from decide_eq_true (by omega), cond_true, ck_pos (by omega), getq (j := i) (by omega) (by omega), wrapS (by omega)]
    have e := ih k (IntKind.u64.wrap (n + IntKind.u64.wrap (f * IntKind.u64.wrap (y.1.getD i 0)))) (IntKind.u64.wrap (f * 256)) (i + 1) (by omega) (by omega)
    rw [show ((i + 1 : Nat) : Int) = (i : Int) + 1 by omega] at e
    refine e.trans ?_
    have hlt : i < y.1.length := by omega
    rw [List.drop_eq_getElem_cons hlt, List.take_succ_cons]
    rw [gF, List.getD_eq_getElem?_getD, List.getElem?_eq_getElem hlt]; rfl
def F19 : Summ := ⟨fun args ob K => match args, ob with
  | [.ptr 0 [], .dat (.int .i64) n], [.box 75 v true] => (asD QT v).bind fun y => K (.dat (.int .u64) (rnumV y n)) [.box 75 (.dat QT (rnumS y n)) true]
  | _, _ => none⟩
theorem rnum_run {R : Type} (K : KV R) (y : QV) (n : Int) : (backS [] cl (codeX Tryd.prog G18 lv19 20 Tryd.f36)).run [.ptr 0 [], .dat (.int .i64) n] [.box 75 (.dat QT y) true] K = K (.dat (.int .u64) (rnumV y n)) [.box 75 (.dat QT (rnumS y n)) true] := by
  refine (rnum_0 _ _ y n).trans ?_
  unfold rnumV rnumS
  by_cases h1 : n < 1
  · have hb : rBad y n = true := by unfold rBad; simp [h1]
    rw [if_pos hb, if_pos hb, show decide (n < 1) = true from decide_eq_true h1]; rfl
  by_cases h2 : 8 < n
  · have hb : rBad y n = true := by unfold rBad; simp [h2]
    rw [if_pos hb, if_pos hb, show decide (n < 1) = false from decide_eq_false h1, show decide (8 < n) = true from decide_eq_true h2]; rfl
  by_cases h3 : (y.1.length : Int) < n
  · have hb : rBad y n = true := by unfold rBad; simp [h3]
    rw [if_pos hb, if_pos hb, show decide (n < 1) = false from decide_eq_false h1, show decide (8 < n) = false from decide_eq_false h2, show decide ((y.1.length : Int) < n) = true from decide_eq_true h3]; rfl
  cases h4 : y.2 with
  | true =>
    have hb : rBad y n = true := by unfold rBad; simp [h4]
    rw [if_pos hb, if_pos hb, show decide (n < 1) = false from decide_eq_false h1, show decide (8 < n) = false from decide_eq_false h2, show decide ((y.1.length : Int) < n) = false from decide_eq_false h3]
    rfl
  | false =>
    have hb : ¬ rBad y n = true := by unfold rBad; simp [h1, h2, h3, h4]
    rw [if_neg hb, if_neg hb, show decide (n < 1) = false from decide_eq_false h1, show decide (8 < n) = false from decide_eq_false h2, show decide ((y.1.length : Int) < n) = false from decide_eq_false h3, cond_false, cond_false, cond_false, cond_false]
    obtain ⟨m, rfl⟩ : ∃ m : Nat, n = m := ⟨n.toNat, by omega⟩
    refine (rnum_loop _ _ y m (by omega) (by omega) m 20 0 1 0 (by omega) (by omega)).trans ?_
    rw [List.drop_zero, Int.toNat_natCast, h4]
    rfl
theorem F19_ok : SumOk Tryd.prog 36 F19 := by
  refine (back_ok (ts := []) (l := cl) (codeX_ok (k := 20) (lv := lv19) mixed noNG_prog (sums_call (Wr := all) (l := [(66, inS 66 cl F33)]) ⟨in_ok F33_ok, trivial⟩) (sums_prim ⟨in_ok F33_ok, trivial⟩) (fn := Tryd.f36) rfl)).le ?_ ?_
  · intro R R' f args ob K
    unfold F19; dsimp only
    split <;> simp only [bd_bind, bd_none]
  · intro R args ob K r h
    unfold F19 at h; dsimp only at h
    split at h
    · obtain ⟨x, hx, h2⟩ := Option.bind_eq_some_iff.1 h
      obtain rfl := asD_ok hx
      exact (rnum_run K x _).trans h2
    · cases h
def G21 : Sums := sums all [(36, inS 36 cl F19)]
theorem rwhole_0 {R : Type} (K : KV R) (y : QV) : (codeX Tryd.prog G21 lvN 0 Tryd.f37).run [.ptr 0 []] [.box 75 (.dat QT y) true] K = bif decide ((2147483647 : Int) < IntKind.wrap IntKind.i64 (rnumV y (4 : Int))) then K (AV.dat I64 (IntKind.wrap IntKind.i64 (IntKind.wrap IntKind.i64 (rnumV y (4 : Int)) - (4294967296 : Int)))) [AO.box 75 (AV.dat (T.pair BL T.bool) (rnumS y (4 : Int))) true] else K (AV.dat I64 (IntKind.wrap IntKind.i64 (rnumV y (4 : Int)))) [AO.box 75 (AV.dat (T.pair BL T.bool) (rnumS y (4 : Int))) true] := by kernel_rfl
theorem rblob_0 {R : Type} (K : KV R) (y : QV) (n : Int) : (backS [BL] cl (codeX Tryd.prog G21 lvN 0 Tryd.f38)).run [.ptr 0 [], .dat (.int .i64) n] [.box 75 (.dat QT y) true] K = bif !decide (n = (1 : Int)) then bif !decide (n = (2 : Int)) then K (AV.dat BL []) [AO.box 75 (AV.dat (T.pair BL T.bool) ([], (rnumS y (0 : Int)).2)) true] else bif decide ((↑(List.length ((rnumS y n).1)) : Int) < IntKind.wrap IntKind.i64 (rnumV y n)) then K (AV.dat BL []) [AO.box 75 (AV.dat (T.pair BL T.bool) ([], true)) true] else bif (rnumS y n).2 then K (AV.dat BL []) [AO.box 75 (AV.dat (T.pair BL T.bool) ([], (rnumS y n).2)) true] else ck ((0 : Int) ≤ IntKind.wrap IntKind.i64 (rnumV y n) ∧ IntKind.wrap IntKind.i64 (rnumV y n) ≤ (↑(List.length ((rnumS y n).1)) : Int)) (ck (List.length (cutA none (some (IntKind.wrap IntKind.i64 (rnumV y n))) ((rnumS y n).1)) * (1 : Nat) ≤ limit) (ck ((0 : Int) ≤ IntKind.wrap IntKind.i64 (rnumV y n) ∧ IntKind.wrap IntKind.i64 (rnumV y n) ≤ (↑(List.length ((rnumS y n).1)) : Int)) (K (AV.view 1) [AO.box 75 (AV.dat (T.pair BL T.bool) (cutA (some (IntKind.wrap IntKind.i64 (rnumV y n))) none ((rnumS y n).1), (rnumS y n).2)) true, AO.row 5 U8 (cutA none (some (IntKind.wrap IntKind.i64 (rnumV y n))) ((rnumS y n).1)) Md.own]))) else bif decide ((↑(List.length ((rnumS y n).1)) : Int) < IntKind.wrap IntKind.i64 (rnumV y n)) then K (AV.dat BL []) [AO.box 75 (AV.dat (T.pair BL T.bool) ([], true)) true] else bif (rnumS y n).2 then K (AV.dat BL []) [AO.box 75 (AV.dat (T.pair BL T.bool) ([], (rnumS y n).2)) true] else ck ((0 : Int) ≤ IntKind.wrap IntKind.i64 (rnumV y n) ∧ IntKind.wrap IntKind.i64 (rnumV y n) ≤ (↑(List.length ((rnumS y n).1)) : Int)) (ck (List.length (cutA none (some (IntKind.wrap IntKind.i64 (rnumV y n))) ((rnumS y n).1)) * (1 : Nat) ≤ limit) (ck ((0 : Int) ≤ IntKind.wrap IntKind.i64 (rnumV y n) ∧ IntKind.wrap IntKind.i64 (rnumV y n) ≤ (↑(List.length ((rnumS y n).1)) : Int)) (K (AV.view 1) [AO.box 75 (AV.dat (T.pair BL T.bool) (cutA (some (IntKind.wrap IntKind.i64 (rnumV y n))) none ((rnumS y n).1), (rnumS y n).2)) true, AO.row 5 U8 (cutA none (some (IntKind.wrap IntKind.i64 (rnumV y n))) ((rnumS y n).1)) Md.own]))) := by kernel_rfl
def rwholeV (n : Int) : Int := bif decide (2147483647 < IntKind.i64.wrap n) then IntKind.i64.wrap (IntKind.i64.wrap n - 4294967296) else IntKind.i64.wrap n
def F21 : Summ := ⟨fun args ob K => match args, ob with
  | [.ptr 0 []], [.box 75 v true] => (asD QT v).bind fun y => K (.dat (.int .i64) (rwholeV (rnumV y 4))) [.box 75 (.dat QT (rnumS y 4)) true]
  | _, _ => none⟩
theorem F21_ok : SumOk Tryd.prog 37 F21 := by
  refine (codeX_ok (k := 0) (lv := lvN) mixed noNG_prog (sums_call (Wr := all) (l := [(36, inS 36 cl F19)]) ⟨in_ok F19_ok, trivial⟩) (sums_prim ⟨in_ok F19_ok, trivial⟩) (fn := Tryd.f37) rfl).le ?_ ?_
  · intro R R' f args ob K
    unfold F21; dsimp only
    split <;> simp only [bd_bind, bd_none]
  · intro R args ob K r h
    unfold F21 at h; dsimp only at h
    split at h
    · obtain ⟨y, hx, h2⟩ := Option.bind_eq_some_iff.1 h
      obtain rfl := asD_ok hx
      refine (rwhole_0 K y).trans (Eq.trans ?_ h2)
      unfold rwholeV
      cases decide (2147483647 < IntKind.i64.wrap (rnumV y 4)) <;> rfl
    · cases h
def rblobN (y : QV) (n : Int) : Int := IntKind.i64.wrap (rnumV y n)
def rbBad (y : QV) (n : Int) : Bool := (!decide (n = 1) && !decide (n = 2)) || decide (((rnumS y n).1.length : Int) < rblobN y n) || (rnumS y n).2
def rblobV (y : QV) (n : Int) : List Int := (rnumS y n).1.take (rblobN y n).toNat
def rblobS (y : QV) (n : Int) : QV := if rbBad y n = true then ([], true) else ((rnumS y n).1.drop (rblobN y n).toNat, (rnumS y n).2)
def F23 : Summ := ⟨fun args ob K => match args, ob with
  | [.ptr 0 [], .dat (.int .i64) n], [.box 75 v true] => (asD QT v).bind fun y => ck (y.1.length < 100000 ∧ (¬ (n = 1 ∨ n = 2) ∨ 0 ≤ rblobN y n)) (cond (rbBad y n) (K (.dat BL []) [.box 75 (.dat QT (rblobS y n)) true]) (K (.view 1) [.box 75 (.dat QT (rblobS y n)) true, .row 5 (.int .u8) (rblobV y n) .own]))
  | _, _ => none⟩
theorem rnumS_len (y : QV) (n : Int) : (rnumS y n).1.length ≤ y.1.length := by
  unfold rnumS; split
  all_goals first | (simp; done) | (simp; omega)
theorem rblob_run {R : Type} (K : KV R) (y : QV) (n : Int) (hl : y.1.length < 100000 ∧ (¬ (n = 1 ∨ n = 2) ∨ 0 ≤ rblobN y n)) : (backS [BL] cl (codeX Tryd.prog G21 lvN 0 Tryd.f38)).run [.ptr 0 [], .dat (.int .i64) n] [.box 75 (.dat QT y) true] K = cond (rbBad y n) (K (.dat BL []) [.box 75 (.dat QT (rblobS y n)) true]) (K (.view 1) [.box 75 (.dat QT (rblobS y n)) true, .row 5 (.int .u8) (rblobV y n) .own]) := by
  refine (rblob_0 K y n).trans ?_
  have hle := rnumS_len y n
  have fin : (!decide (n = 1) && !decide (n = 2)) = false → (bif decide ((↑(List.length (Prod.fst (rnumS y n))) : Int) < IntKind.wrap IntKind.i64 (rnumV y n)) then K (AV.dat (T.sl (T.int IntKind.u8)) []) [AO.box 75 (AV.dat (T.pair (T.sl (T.int IntKind.u8)) T.bool) ([], true)) true] else bif Prod.snd (rnumS y n) then K (AV.dat (T.sl (T.int IntKind.u8)) []) [AO.box 75 (AV.dat (T.pair (T.sl (T.int IntKind.u8)) T.bool) ([], Prod.snd (rnumS y n))) true] else ck (0 ≤ IntKind.wrap IntKind.i64 (rnumV y n) ∧ IntKind.wrap IntKind.i64 (rnumV y n) ≤ (↑(List.length (Prod.fst (rnumS y n))) : Int)) (ck (List.length (cutA none (some (IntKind.wrap IntKind.i64 (rnumV y n))) (Prod.fst (rnumS y n))) * 1 ≤ limit) (ck (0 ≤ IntKind.wrap IntKind.i64 (rnumV y n) ∧ IntKind.wrap IntKind.i64 (rnumV y n) ≤ (↑(List.length (Prod.fst (rnumS y n))) : Int)) (K (AV.view 1) [AO.box 75 (AV.dat (T.pair (T.sl (T.int IntKind.u8)) T.bool) (cutA (some (IntKind.wrap IntKind.i64 (rnumV y n))) none (Prod.fst (rnumS y n)), Prod.snd (rnumS y n))) true, AO.row 5 (T.int IntKind.u8) (cutA none (some (IntKind.wrap IntKind.i64 (rnumV y n))) (Prod.fst (rnumS y n))) Md.own])))) = cond (rbBad y n) (K (.dat BL []) [.box 75 (.dat QT (rblobS y n)) true]) (K (.view 1) [.box 75 (.dat QT (rblobS y n)) true, .row 5 (.int .u8) (rblobV y n) .own]) := by
    intro hs
    have hpos : 0 ≤ rblobN y n := by
      rcases hl.2 with h | h
      · exfalso; apply h
        by_cases c : n = 1
        · exact .inl c
        · right; simpa [c] using hs
      · exact h
    show (bif decide (_ < rblobN y n) then _ else bif _ then _ else ck (0 ≤ rblobN y n ∧ rblobN y n ≤ _) _) = _
    unfold rblobS rbBad
    rw [hs]
    by_cases h3 : ((rnumS y n).1.length : Int) < rblobN y n
    · rw [show decide (((rnumS y n).1.length : Int) < rblobN y n) = true from decide_eq_true h3]; rfl
    · rw [show decide (((rnumS y n).1.length : Int) < rblobN y n) = false from decide_eq_false h3]
      cases h4 : (rnumS y n).2 with
      | true => rfl
      | false =>
        simp only [cond_false, Bool.or_false, Bool.false_eq_true, if_false]
        rw [ck_pos (by omega), ck_pos, ck_pos (by unfold rblobN at hpos h3; omega)]
        · rfl
        · show ((rnumS y n).1.take (rblobN y n).toNat).length * 1 ≤ limit
          rw [List.length_take]; unfold limit; omega
  by_cases h1 : n = 1
  · rw [show (!decide (n = 1)) = false by simp [h1], cond_false]
    exact fin (by simp [h1])
  · by_cases h2 : n = 2
    · rw [show (!decide (n = 1)) = true by simp [h1], cond_true, show (!decide (n = 2)) = false by simp [h2], cond_false]
      exact fin (by simp [h2])
    · rw [show (!decide (n = 1)) = true by simp [h1], cond_true, show (!decide (n = 2)) = true by simp [h2], cond_true]
      have hb : rbBad y n = true := by unfold rbBad; simp [h1, h2]
      unfold rblobS
      rw [hb]; rfl
theorem F23_ok : SumOk Tryd.prog 38 F23 := by
  refine (back_ok (ts := [BL]) (l := cl) (codeX_ok (k := 0) (lv := lvN) mixed noNG_prog (sums_call (Wr := all) (l := [(36, inS 36 cl F19)]) ⟨in_ok F19_ok, trivial⟩) (sums_prim ⟨in_ok F19_ok, trivial⟩) (fn := Tryd.f38) rfl)).le ?_ ?_
  · intro R R' f args ob K
    unfold F23; dsimp only
    split <;> simp only [bd_bind, bd_none, bd_ck, bd_cond]
  · intro R args ob K r h
    unfold F23 at h; dsimp only at h
    split at h
    · obtain ⟨y, hx, h2⟩ := Option.bind_eq_some_iff.1 h
      obtain rfl := asD_ok hx
      obtain ⟨hl, h3⟩ := ck_elim h2
      exact (rblob_run K y _ hl).trans h3
    · cases h
end Go.Mx
namespace Go.Mx
open Go Go.RowKit Go.Sx Go.Proofs
set_option maxRecDepth 100000
def lv10 : Tl := ⟨fun q => match q with | 0 => some [0, 6, 28, 29] | _ => none, cl⟩
def G0 : Sums := sums all []
theorem put_0 {R : Type} (L : Nat → St → (Exit → St → Option R) → Option R) (K : KV R) (n size : Int) : runX Tryd.prog G0 lv10 Tryd.f61 0 L [.dat (.int .u64) n, .dat (.int .i64) size] [] K = bif decide (size < (1 : Int)) then K (AV.tup [AV.nils, AV.dat I64 (2 : Int)]) [] else bif decide ((8 : Int) < size) then K (AV.tup [AV.nils, AV.dat I64 (2 : Int)]) [] else bif decide (size < (8 : Int)) then ck ((0 : Int) ≤ IntKind.wrap IntKind.i64 ((8 : Int) * size)) (bif decide ((0 : Int) < shr IntKind.u64 n (IntKind.wrap IntKind.i64 ((8 : Int) * size))) then K (AV.tup [AV.nils, AV.dat I64 (2 : Int)]) [] else ck (size = size) (ck ((0 : Int) ≤ size ∧ Int.toNat size * (1 : Nat) ≤ limit) (L (0 : Nat) (St.mk [(0, AV.dat (T.int IntKind.u64) n), (6, AV.view 0), (28, AV.dat I64 (↑(List.length (List.replicate (Int.toNat size) (0 : Int))) : Int)), (29, AV.dat I64 (0 : Int))] [AO.row 5 U8 (List.replicate (Int.toNat size) (0 : Int)) Md.own]) (endX Tryd.prog G0 lv10 Tryd.f61 (0 : Nat) L K (0 : Nat))))) else ck (size = size) (ck ((0 : Int) ≤ size ∧ Int.toNat size * (1 : Nat) ≤ limit) (L (0 : Nat) (St.mk [(0, AV.dat (T.int IntKind.u64) n), (6, AV.view 0), (28, AV.dat I64 (↑(List.length (List.replicate (Int.toNat size) (0 : Int))) : Int)), (29, AV.dat I64 (0 : Int))] [AO.row 5 U8 (List.replicate (Int.toNat size) (0 : Int)) Md.own]) (endX Tryd.prog G0 lv10 Tryd.f61 (0 : Nat) L K (0 : Nat)))) := by kernel_rfl
theorem put_s {R : Type} (L L0 : Nat → St → (Exit → St → Option R) → Option R) (K : KV R) (n : Int) (o : List Int) (m i : Int) : stepX Tryd.prog G0 lv10 0 (codeOf Tryd.f61) L 0 ⟨[(0, .dat (.int .u64) n), (6, .view 0), (28, .dat I64 m), (29, .dat I64 i)], [.row 5 U8 o .own]⟩ (endX Tryd.prog G0 lv10 Tryd.f61 0 L0 K 0) = bif decide (i < m) then ck ((0 : Int) ≤ IntKind.wrap IntKind.i64 ((8 : Int) * i)) (ck ((0 : Int) ≤ i ∧ i < (↑(List.length o) : Int)) (Option.bind o[Int.toNat i]? fun x ↦ L (0 : Nat) (St.mk [(0, AV.dat (T.int IntKind.u64) n), (6, AV.view 0), (28, AV.dat I64 m), (29, AV.dat I64 (IntKind.wrap IntKind.i64 (i + (1 : Int))))] [AO.row 5 U8 (List.set o (Int.toNat i) (IntKind.wrap IntKind.u8 (shr IntKind.u64 n (IntKind.wrap IntKind.i64 ((8 : Int) * i))))) Md.own]) (endX Tryd.prog G0 lv10 Tryd.f61 (0 : Nat) L0 K (0 : Nat)))) else K (AV.tup [AV.view 0, AV.dat I64 (0 : Int)]) [AO.row 5 U8 o Md.own] := by kernel_rfl
theorem join_0 {R : Type} (K : KV R) (a b : List Int) : (W 28).run [.dat (.sl BL) [a, b]] [] K = bif decide (IntKind.wrap IntKind.i64 ((0 : Int) + (↑(List.length a) : Int)) < (0 : Int)) then none else bif decide (IntKind.wrap IntKind.i64 (IntKind.wrap IntKind.i64 ((0 : Int) + (↑(List.length a) : Int)) + (↑(List.length b) : Int)) < (0 : Int)) then none else bif decide (IntKind.wrap IntKind.i64 (IntKind.wrap IntKind.i64 ((0 : Int) + (↑(List.length a) : Int)) + (↑(List.length b) : Int)) < (0 : Int)) then none else bif decide ((0 : Int) < IntKind.wrap IntKind.i64 (IntKind.wrap IntKind.i64 (IntKind.wrap IntKind.i64 ((0 : Int) + (↑(List.length a) : Int)) + (↑(List.length b) : Int)) - (0 : Int))) then ck ((0 : Int) ≤ IntKind.wrap IntKind.i64 (IntKind.wrap IntKind.i64 (IntKind.wrap IntKind.i64 ((0 : Int) + (↑(List.length a) : Int)) + (↑(List.length b) : Int)) - (0 : Int)) ∧ Int.toNat (IntKind.wrap IntKind.i64 (IntKind.wrap IntKind.i64 (IntKind.wrap IntKind.i64 ((0 : Int) + (↑(List.length a) : Int)) + (↑(List.length b) : Int)) - (0 : Int))) * (1 : Nat) ≤ limit) (ck (((0 : Nat) + List.length a) * (1 : Nat) ≤ limit) (ck ((List.length (List.take (0 : Nat) (List.replicate (Int.toNat (IntKind.wrap IntKind.i64 (IntKind.wrap IntKind.i64 (IntKind.wrap IntKind.i64 ((0 : Int) + (↑(List.length a) : Int)) + (↑(List.length b) : Int)) - (0 : Int)))) (0 : Int)) ++ a) + List.length b) * (1 : Nat) ≤ limit) (K (AV.view 0) [AO.row 5 U8 (List.take (0 : Nat) (List.replicate (Int.toNat (IntKind.wrap IntKind.i64 (IntKind.wrap IntKind.i64 (IntKind.wrap IntKind.i64 ((0 : Int) + (↑(List.length a) : Int)) + (↑(List.length b) : Int)) - (0 : Int)))) (0 : Int)) ++ a ++ b) Md.own]))) else ck (List.length a * (1 : Nat) ≤ limit) (ck ((List.length a + List.length b) * (1 : Nat) ≤ limit) (K (AV.view 0) [AO.row 5 U8 (a ++ b) Md.own])) := by kernel_rfl
theorem join_1 {R : Type} (K : KV R) (a b : List Int) : (W 28).run [.view 0] [.row 26 BL [a, b] .own] K = bif decide (IntKind.wrap IntKind.i64 ((0 : Int) + (↑(List.length a) : Int)) < (0 : Int)) then none else bif decide (IntKind.wrap IntKind.i64 (IntKind.wrap IntKind.i64 ((0 : Int) + (↑(List.length a) : Int)) + (↑(List.length b) : Int)) < (0 : Int)) then none else bif decide (IntKind.wrap IntKind.i64 (IntKind.wrap IntKind.i64 ((0 : Int) + (↑(List.length a) : Int)) + (↑(List.length b) : Int)) < (0 : Int)) then none else bif decide ((0 : Int) < IntKind.wrap IntKind.i64 (IntKind.wrap IntKind.i64 (IntKind.wrap IntKind.i64 ((0 : Int) + (↑(List.length a) : Int)) + (↑(List.length b) : Int)) - (0 : Int))) then ck ((0 : Int) ≤ IntKind.wrap IntKind.i64 (IntKind.wrap IntKind.i64 (IntKind.wrap IntKind.i64 ((0 : Int) + (↑(List.length a) : Int)) + (↑(List.length b) : Int)) - (0 : Int)) ∧ Int.toNat (IntKind.wrap IntKind.i64 (IntKind.wrap IntKind.i64 (IntKind.wrap IntKind.i64 ((0 : Int) + (↑(List.length a) : Int)) + (↑(List.length b) : Int)) - (0 : Int))) * (1 : Nat) ≤ limit) (ck (((0 : Nat) + List.length a) * (1 : Nat) ≤ limit) (ck ((List.length (List.take (0 : Nat) (List.replicate (Int.toNat (IntKind.wrap IntKind.i64 (IntKind.wrap IntKind.i64 (IntKind.wrap IntKind.i64 ((0 : Int) + (↑(List.length a) : Int)) + (↑(List.length b) : Int)) - (0 : Int)))) (0 : Int)) ++ a) + List.length b) * (1 : Nat) ≤ limit) (K (AV.view 1) [AO.row 26 BL [a, b] Md.own, AO.row 5 U8 (List.take (0 : Nat) (List.replicate (Int.toNat (IntKind.wrap IntKind.i64 (IntKind.wrap IntKind.i64 (IntKind.wrap IntKind.i64 ((0 : Int) + (↑(List.length a) : Int)) + (↑(List.length b) : Int)) - (0 : Int)))) (0 : Int)) ++ a ++ b) Md.own]))) else ck (List.length a * (1 : Nat) ≤ limit) (ck ((List.length a + List.length b) * (1 : Nat) ≤ limit) (K (AV.view 1) [AO.row 26 BL [a, b] Md.own, AO.row 5 U8 (a ++ b) Md.own])) := by kernel_rfl
end Go.Mx
namespace Go.Mx
open Go Go.RowKit Go.Sx Go.Proofs
set_option maxRecDepth 100000
def F16 : Summ := ⟨fun args ob K => match args, ob with
  | [.view 0], [.row 26 (.sl (.int .u8)) [a, b] .own] => ck (a.length + b.length < 1000000) (K (.view 1) [.row 26 BL [a, b] .own, .row 5 (.int .u8) (a ++ b) .own])
  | _, _ => none⟩
theorem F16_ok : SumOk Tryd.prog 28 F16 := by
  refine (W_ok 28).le ?_ ?_
  · intro R R' f args ob K
    unfold F16; dsimp only
    split <;> simp only [bd_ck, bd_none]
  · intro R args ob K r h
    unfold F16 at h; dsimp only at h
    split at h
    · rename_i a b
      obtain ⟨hl, h⟩ := ck_elim h
      refine (join_1 K a b).trans (Eq.trans ?_ h)
      have e1 : IntKind.i64.wrap ((0 : Int) + (a.length : Int)) = (a.length : Int) := by rw [wrapS (by omega)]; omega
      have e2 : IntKind.i64.wrap ((a.length : Int) + (b.length : Int)) = (a.length : Int) + (b.length : Int) := wrapS (by omega)
      rw [e1, e2, wrapS (x := (a.length : Int) + (b.length : Int) - 0) (by omega)]
      rw [show decide ((a.length : Int) < 0) = false from decide_eq_false (by omega), cond_false, show decide ((a.length : Int) + (b.length : Int) < 0) = false from decide_eq_false (by omega), cond_false, cond_false]
      by_cases hp : 0 < (a.length : Int) + (b.length : Int) - 0
      · rw [show decide (0 < (a.length : Int) + (b.length : Int) - 0) = true from decide_eq_true hp, cond_true, ck_pos (by unfold limit; omega), ck_pos (by unfold limit; omega), ck_pos (by unfold limit; simp; omega)]
        rfl
      · rw [show decide (0 < (a.length : Int) + (b.length : Int) - 0) = false from decide_eq_false hp, cond_false, ck_pos (by unfold limit; omega), ck_pos (by unfold limit; omega)]
    · cases h
def byteAt (n : Int) (i : Nat) : Int := IntKind.u8.wrap (shr .u64 n (IntKind.i64.wrap (8 * (i : Int))))
def pB (n : Int) (m : Nat) : List Int := (List.range m).map (byteAt n)
theorem put_loop {R : Type} (L0 : Nat → St → (Exit → St → Option R) → Option R) (K : KV R) (n : Int) (m : Nat) (hm : m ≤ 8) : ∀ (j k i : Nat) (o : List Int), i + j = m → o.length = m → o.take i = (List.range i).map (byteAt n) → j < k →
    LX Tryd.prog G0 lv10 0 (codeOf Tryd.f61) k 0 ⟨[(0, .dat (.int .u64) n), (6, .view 0), (28, .dat I64 (m : Int)), (29, .dat I64 (i : Int))], [.row 5 U8 o .own]⟩ (endX Tryd.prog G0 lv10 Tryd.f61 0 L0 K 0) = K (.tup [.view 0, .dat I64 0]) [.row 5 U8 (pB n m) .own] := by
  intro j
  induction j with
  | zero =>
    intro k i o hi ho ht hk
    obtain ⟨k, rfl⟩ : ∃ q, k = q + 1 := ⟨k - 1, by omega⟩
    refine (put_s _ L0 K n o m i).trans ?_
    rw [show decide ((i : Int) < m) = false from decide_eq_false (by omega), cond_false]
    have : o = pB n m := by
      unfold pB
      rw [← show i = m by omega, ← ht, List.take_of_length_le (by omega)]
    rw [this]
  | succ j ih =>
    intro k i o hi ho ht hk
    obtain ⟨k, rfl⟩ : ∃ q, k = q + 1 := ⟨k - 1, by omega⟩
    refine (put_s _ L0 K n o m i).trans ?_
    rw [show decide ((i : Int) < m) = true from decide_eq_true (by omega), cond_true, ck_pos (by rw [wrapS (by omega)]; omega), ck_pos (by omega), getq (j := i) rfl (by omega)]
    simp only [Option.bind_some]
    rw [wrapS (x := (i : Int) + 1) (by omega)]
    have e := ih k (i + 1) (o.set (Int.toNat i) (byteAt n i)) (by omega) (by rw [List.length_set]; exact ho) (by
      rw [Int.toNat_natCast, List.range_succ, List.map_append, ← ht, List.take_add_one, List.take_set_of_le (Nat.le_refl _), List.getElem?_set_self (by omega)]
      rfl) (by omega)
    rw [show ((i + 1 : Nat) : Int) = (i : Int) + 1 by omega] at e
    exact e
def pBad (n size : Int) : Bool := decide (size < 1) || (decide (8 < size) || (decide (size < 8) && decide (0 < shr .u64 n (IntKind.i64.wrap (8 * size)))))
def F10 : Summ := ⟨fun args ob K => match args, ob with
  | [.dat (.int .u64) n, .dat (.int .i64) size], [] => cond (pBad n size) (K (.tup [.nils, .dat I64 2]) []) (K (.tup [.view 0, .dat I64 0]) [.row 5 (.int .u8) (pB n size.toNat) .own])
  | _, _ => none⟩
theorem put_run {R : Type} (K : KV R) (n size : Int) : (codeX Tryd.prog G0 lv10 20 Tryd.f61).run [.dat (.int .u64) n, .dat (.int .i64) size] [] K = cond (pBad n size) (K (.tup [.nils, .dat I64 2]) []) (K (.tup [.view 0, .dat I64 0]) [.row 5 (.int .u8) (pB n size.toNat) .own]) := by
  refine (put_0 _ K n size).trans ?_
  unfold pBad
  by_cases h1 : size < 1
  · rw [decide_eq_true h1]; rfl
  by_cases h2 : 8 < size
  · rw [decide_eq_true h2, decide_eq_false h1]; rfl
  rw [decide_eq_false h1, decide_eq_false h2, cond_false, cond_false, Bool.false_or, Bool.false_or]
  have fin : (ck (size = size) (ck ((0 : Int) ≤ size ∧ Int.toNat size * (1 : Nat) ≤ limit) (LX Tryd.prog G0 lv10 0 (codeOf Tryd.f61) 20 (0 : Nat) (St.mk [((0 : Nat), AV.dat (T.int IntKind.u64) n), ((6 : Nat), AV.view (0 : Nat)), ((28 : Nat), AV.dat (T.int IntKind.i64) (↑(List.length (List.replicate (Int.toNat size) (0 : Int))) : Int)), ((29 : Nat), AV.dat (T.int IntKind.i64) (0 : Int))] [AO.row (5 : Nat) (T.int IntKind.u8) (List.replicate (Int.toNat size) (0 : Int)) Md.own]) (endX Tryd.prog G0 lv10 Tryd.f61 (0 : Nat) (LX Tryd.prog G0 lv10 0 (codeOf Tryd.f61) 20) K (0 : Nat))))) = K (.tup [.view 0, .dat I64 0]) [.row 5 (.int .u8) (pB n size.toNat) .own] := by
    rw [ck_pos rfl, ck_pos (by unfold limit; omega), List.length_replicate]
    exact put_loop _ K n size.toNat (by omega) size.toNat 20 0 _ (by omega) (by simp) rfl (by omega)
  by_cases h3 : size < 8
  · rw [decide_eq_true h3, cond_true, ck_pos (by rw [wrapS (by omega)]; omega), Bool.true_and]
    cases decide (0 < shr .u64 n (IntKind.i64.wrap (8 * size))) with
    | true => rfl
    | false => rw [cond_false, cond_false]; exact fin
  · rw [decide_eq_false h3, cond_false, Bool.false_and, cond_false]
    exact fin
theorem F10_ok : SumOk Tryd.prog 61 F10 := by
  refine (codeX_ok (k := 20) (lv := lv10) mixed noNG_prog (sums_call (Wr := all) (l := []) trivial) (sums_prim trivial) (fn := Tryd.f61) rfl).le ?_ ?_
  · intro R R' f args ob K
    unfold F10; dsimp only
    split <;> simp only [bd_cond, bd_none]
  · intro R args ob K r h
    unfold F10 at h; dsimp only at h
    split at h
    · exact (put_run K _ _).trans h
    · cases h
noncomputable def G12 : Sums := sums all [(61, F10), (28, F16)]
theorem wh_0 {R : Type} (K : KV R) (n : Int) : (codeX Tryd.prog G12 lvN 0 Tryd.f26).run [.dat I64 n] [] K = bif decide (n < (-2147483648 : Int)) then K (AV.tup [AV.nils, AV.dat (T.int IntKind.i64) (2 : Int)]) [] else bif decide ((2147483647 : Int) < n) then K (AV.tup [AV.nils, AV.dat (T.int IntKind.i64) (2 : Int)]) [] else bif pBad (IntKind.wrap IntKind.u64 (IntKind.wrap IntKind.u32 (IntKind.wrap IntKind.i32 n))) (4 : Int) then K (AV.tup [AV.nils, AV.dat (T.int IntKind.i64) (2 : Int)]) [] else K (AV.tup [AV.view (0 : Nat), AV.dat (T.int IntKind.i64) (0 : Int)]) [AO.row (5 : Nat) (T.int IntKind.u8) (pB (IntKind.wrap IntKind.u64 (IntKind.wrap IntKind.u32 (IntKind.wrap IntKind.i32 n))) (4 : Nat)) Md.own] := by kernel_rfl
theorem bl_0 {R : Type} (K : KV R) (b : List Int) (n : Int) : (codeX Tryd.prog G12 lvN 0 Tryd.f27).run [.dat BL b, .dat I64 n] [] K = bif !decide (n = (1 : Int)) then bif !decide (n = (2 : Int)) then K (AV.tup [AV.nils, AV.dat (T.int IntKind.i64) (2 : Int)]) [] else ck ((0 : Int) ≤ IntKind.wrap IntKind.i64 ((8 : Int) * n)) (bif decide (shl IntKind.i64 (1 : Int) (IntKind.wrap IntKind.i64 ((8 : Int) * n)) ≤ (↑(List.length b) : Int)) then K (AV.tup [AV.nils, AV.dat (T.int IntKind.i64) (17 : Int)]) [] else bif pBad (IntKind.wrap IntKind.u64 (↑(List.length b) : Int)) n then ck ((0 : Nat) + List.length b < (1000000 : Nat)) (K (AV.tup [AV.view (0 : Nat), AV.dat (T.int IntKind.i64) (0 : Int)]) [AO.row (5 : Nat) (T.int IntKind.u8) ([] ++ b) Md.own]) else ck (List.length (pB (IntKind.wrap IntKind.u64 (↑(List.length b) : Int)) (Int.toNat n)) + List.length b < (1000000 : Nat)) (K (AV.tup [AV.view (0 : Nat), AV.dat (T.int IntKind.i64) (0 : Int)]) [AO.row (5 : Nat) (T.int IntKind.u8) (pB (IntKind.wrap IntKind.u64 (↑(List.length b) : Int)) (Int.toNat n) ++ b) Md.own])) else ck ((0 : Int) ≤ IntKind.wrap IntKind.i64 ((8 : Int) * n)) (bif decide (shl IntKind.i64 (1 : Int) (IntKind.wrap IntKind.i64 ((8 : Int) * n)) ≤ (↑(List.length b) : Int)) then K (AV.tup [AV.nils, AV.dat (T.int IntKind.i64) (17 : Int)]) [] else bif pBad (IntKind.wrap IntKind.u64 (↑(List.length b) : Int)) n then ck ((0 : Nat) + List.length b < (1000000 : Nat)) (K (AV.tup [AV.view (0 : Nat), AV.dat (T.int IntKind.i64) (0 : Int)]) [AO.row (5 : Nat) (T.int IntKind.u8) ([] ++ b) Md.own]) else ck (List.length (pB (IntKind.wrap IntKind.u64 (↑(List.length b) : Int)) (Int.toNat n)) + List.length b < (1000000 : Nat)) (K (AV.tup [AV.view (0 : Nat), AV.dat (T.int IntKind.i64) (0 : Int)]) [AO.row (5 : Nat) (T.int IntKind.u8) (pB (IntKind.wrap IntKind.u64 (↑(List.length b) : Int)) (Int.toNat n) ++ b) Md.own])) := by kernel_rfl
end Go.Mx
namespace Go.Mx
open Go Go.RowKit Go.Sx Go.Proofs
set_option maxRecDepth 100000
def wholeN (n : Int) : Int := IntKind.u64.wrap (IntKind.u32.wrap (IntKind.i32.wrap n))
def whBad (n : Int) : Bool := decide (n < -2147483648) || (decide (2147483647 < n) || pBad (wholeN n) 4)
def F12 : Summ := ⟨fun args ob K => match args, ob with
  | [.dat (.int .i64) n], [] => cond (whBad n) (K (.tup [.nils, .dat I64 2]) []) (K (.tup [.view 0, .dat I64 0]) [.row 5 (.int .u8) (pB (wholeN n) 4) .own])
  | _, _ => none⟩
theorem all12 : AllOk Tryd.prog [(61, F10), (28, F16)] := ⟨F10_ok, F16_ok, trivial⟩
theorem F12_ok : SumOk Tryd.prog 26 F12 := by
  refine (codeX_ok (k := 0) (lv := lvN) mixed noNG_prog (sums_call (Wr := all) all12) (sums_prim all12) (fn := Tryd.f26) rfl).le ?_ ?_
  · intro R R' f args ob K
    unfold F12; dsimp only
    split <;> simp only [bd_cond, bd_none]
  · intro R args ob K r h
    unfold F12 at h; dsimp only at h
    split at h
    · rename_i n
      refine (wh_0 K n).trans (Eq.trans ?_ h)
      unfold whBad
      show (bif decide (n < -2147483648) then _ else bif decide (2147483647 < n) then _ else bif pBad (wholeN n) 4 then _ else _) = _
      cases decide (n < -2147483648) <;> cases decide (2147483647 < n) <;> cases pBad (wholeN n) 4 <;> rfl
    · cases h
def blE (b : List Int) (n : Int) : Int := bif !decide (n = 1) && !decide (n = 2) then 2 else bif decide (shl .i64 1 (IntKind.i64.wrap (8 * n)) ≤ (b.length : Int)) then 17 else 0
def F14 : Summ := ⟨fun args ob K => match args, ob with
  | [.dat (.sl (.int .u8)) b, .dat (.int .i64) n], [] => ck (b.length < 500000) (cond (decide (blE b n = 0)) (K (.tup [.view 0, .dat I64 0]) [.row 5 (.int .u8) (pB (b.length : Int) n.toNat ++ b) .own]) (K (.tup [.nils, .dat I64 (blE b n)]) []))
  | _, _ => none⟩
theorem shl8 {n : Int} (h : n = 1 ∨ n = 2) : IntKind.i64.wrap (8 * n) = 8 * n ∧ shl .i64 1 (8 * n) = 256 ^ n.toNat := by
  rcases h with rfl | rfl <;> decide +kernel
theorem pBad_no {m : Nat} {n : Int} (h : n = 1 ∨ n = 2) (hm : (m : Int) < 256 ^ n.toNat) : pBad m n = false := by
  unfold pBad
  rcases h with rfl | rfl
  · have : shr .u64 (m : Int) (IntKind.i64.wrap (8 * 1)) = (m : Int) / 256 := rfl
    rw [this, show decide ((0 : Int) < (m : Int) / 256) = false from decide_eq_false (by have : (256 : Int) ^ (1 : Int).toNat = 256 := rfl; omega)]; rfl
  · have : shr .u64 (m : Int) (IntKind.i64.wrap (8 * 2)) = (m : Int) / 65536 := rfl
    rw [this, show decide ((0 : Int) < (m : Int) / 65536) = false from decide_eq_false (by have : (256 : Int) ^ (2 : Int).toNat = 65536 := rfl; omega)]; rfl
theorem blob_put {R : Type} (K : KV R) (b : List Int) (n : Int) (hl : b.length < 500000) : (codeX Tryd.prog G12 lvN 0 Tryd.f27).run [.dat BL b, .dat I64 n] [] K = cond (decide (blE b n = 0)) (K (.tup [.view 0, .dat I64 0]) [.row 5 (.int .u8) (pB (b.length : Int) n.toNat ++ b) .own]) (K (.tup [.nils, .dat I64 (blE b n)]) []) := by
  refine (bl_0 K b n).trans ?_
  have hw : IntKind.u64.wrap (b.length : Int) = (b.length : Int) := by rw [IntKind.wrap_u64]; omega
  by_cases hn : n = 1 ∨ n = 2
  · obtain ⟨e1, e2⟩ := shl8 hn
    have hz : (!decide (n = 1) && !decide (n = 2)) = false := by rcases hn with rfl | rfl <;> rfl
    unfold blE
    rw [hz, cond_false, hw, e1, e2]
    have fin : (ck (0 ≤ 8 * n) (bif decide ((256 : Int) ^ n.toNat ≤ (↑(List.length b) : Int)) then K (AV.tup [AV.nils, AV.dat (T.int IntKind.i64) 17]) [] else bif pBad (↑(List.length b) : Int) n then ck (0 + List.length b < 1000000) (K (AV.tup [AV.view 0, AV.dat (T.int IntKind.i64) 0]) [AO.row 5 (T.int IntKind.u8) ([] ++ b) Md.own]) else ck (List.length (pB (↑(List.length b) : Int) (Int.toNat n)) + List.length b < 1000000) (K (AV.tup [AV.view 0, AV.dat (T.int IntKind.i64) 0]) [AO.row 5 (T.int IntKind.u8) (pB (↑(List.length b) : Int) (Int.toNat n) ++ b) Md.own]))) = cond (decide ((bif decide ((256 : Int) ^ n.toNat ≤ (b.length : Int)) then (17 : Int) else 0) = 0)) (K (.tup [.view 0, .dat I64 0]) [.row 5 (.int .u8) (pB (b.length : Int) n.toNat ++ b) .own]) (K (.tup [.nils, .dat I64 (bif decide ((256 : Int) ^ n.toNat ≤ (b.length : Int)) then 17 else 0)]) []) := by
      rw [ck_pos (by omega)]
      by_cases hc : (256 : Int) ^ n.toNat ≤ (b.length : Int)
      · rw [decide_eq_true hc]; rfl
      · rw [decide_eq_false hc, pBad_no hn (by omega), cond_false, cond_false, ck_pos (by unfold pB; rw [List.length_map, List.length_range]; omega)]
        rfl
    by_cases h1 : n = 1
    · rw [show (!decide (n = 1)) = false by simp [h1], cond_false]; exact fin
    · have h2 : n = 2 := by omega
      rw [show (!decide (n = 1)) = true by simp [h1], cond_true, show (!decide (n = 2)) = false by simp [h2], cond_false]; exact fin
  · unfold blE
    rw [show (!decide (n = 1)) = true by simp; omega, cond_true, show (!decide (n = 2)) = true by simp; omega, cond_true]
    rfl
theorem F14_ok : SumOk Tryd.prog 27 F14 := by
  refine (codeX_ok (k := 0) (lv := lvN) mixed noNG_prog (sums_call (Wr := all) all12) (sums_prim all12) (fn := Tryd.f27) rfl).le ?_ ?_
  · intro R R' f args ob K
    unfold F14; dsimp only
    split <;> simp only [bd_cond, bd_none, bd_ck]
  · intro R args ob K r h
    unfold F14 at h; dsimp only at h
    split at h
    · obtain ⟨hl, h⟩ := ck_elim h
      exact (blob_put K _ _ hl).trans h
    · cases h
end Go.Mx
namespace Go.Mx
open Go Go.RowKit Go.Sx Go.Proofs
set_option maxRecDepth 100000
abbrev RsT := T.pair I64 (T.pair I64 T.str)
abbrev RsV := Int × Int × ByteArray
theorem bl_v {R : Type} (K : KV R) (b : List Int) (n : Int) : (codeX Tryd.prog G12 lvN 0 Tryd.f27).run [.view 0, .dat I64 n] [.row 5 U8 b .fz] K = bif !decide (n = (1 : Int)) then bif !decide (n = (2 : Int)) then K (AV.tup [AV.nils, AV.dat I64 (2 : Int)]) [AO.row 5 U8 b Md.fz] else ck ((0 : Int) ≤ IntKind.wrap IntKind.i64 ((8 : Int) * n)) (bif decide (shl IntKind.i64 (1 : Int) (IntKind.wrap IntKind.i64 ((8 : Int) * n)) ≤ (↑(List.length b) : Int)) then K (AV.tup [AV.nils, AV.dat I64 (17 : Int)]) [AO.row 5 U8 b Md.fz] else bif pBad (IntKind.wrap IntKind.u64 (↑(List.length b) : Int)) n then ck ((0 : Nat) + List.length b < (1000000 : Nat)) (K (AV.tup [AV.view 1, AV.dat I64 (0 : Int)]) [AO.row 5 U8 b Md.fz, AO.row 5 U8 ([] ++ b) Md.own]) else ck (List.length (pB (IntKind.wrap IntKind.u64 (↑(List.length b) : Int)) (Int.toNat n)) + List.length b < (1000000 : Nat)) (K (AV.tup [AV.view 1, AV.dat I64 (0 : Int)]) [AO.row 5 U8 b Md.fz, AO.row 5 U8 (pB (IntKind.wrap IntKind.u64 (↑(List.length b) : Int)) (Int.toNat n) ++ b) Md.own])) else ck ((0 : Int) ≤ IntKind.wrap IntKind.i64 ((8 : Int) * n)) (bif decide (shl IntKind.i64 (1 : Int) (IntKind.wrap IntKind.i64 ((8 : Int) * n)) ≤ (↑(List.length b) : Int)) then K (AV.tup [AV.nils, AV.dat I64 (17 : Int)]) [AO.row 5 U8 b Md.fz] else bif pBad (IntKind.wrap IntKind.u64 (↑(List.length b) : Int)) n then ck ((0 : Nat) + List.length b < (1000000 : Nat)) (K (AV.tup [AV.view 1, AV.dat I64 (0 : Int)]) [AO.row 5 U8 b Md.fz, AO.row 5 U8 ([] ++ b) Md.own]) else ck (List.length (pB (IntKind.wrap IntKind.u64 (↑(List.length b) : Int)) (Int.toNat n)) + List.length b < (1000000 : Nat)) (K (AV.tup [AV.view 1, AV.dat I64 (0 : Int)]) [AO.row 5 U8 b Md.fz, AO.row 5 U8 (pB (IntKind.wrap IntKind.u64 (↑(List.length b) : Int)) (Int.toNat n) ++ b) Md.own])) := by kernel_rfl
theorem join_3 {R : Type} (K : KV R) (a b c : List Int) : (W 28).run [.view 0] [.row 26 BL [a, b, c] .own] K = bif decide (IntKind.wrap IntKind.i64 ((0 : Int) + (↑(List.length a) : Int)) < (0 : Int)) then none else bif decide (IntKind.wrap IntKind.i64 (IntKind.wrap IntKind.i64 ((0 : Int) + (↑(List.length a) : Int)) + (↑(List.length b) : Int)) < (0 : Int)) then none else bif decide (IntKind.wrap IntKind.i64 (IntKind.wrap IntKind.i64 (IntKind.wrap IntKind.i64 ((0 : Int) + (↑(List.length a) : Int)) + (↑(List.length b) : Int)) + (↑(List.length c) : Int)) < (0 : Int)) then none else bif decide (IntKind.wrap IntKind.i64 (IntKind.wrap IntKind.i64 (IntKind.wrap IntKind.i64 ((0 : Int) + (↑(List.length a) : Int)) + (↑(List.length b) : Int)) + (↑(List.length c) : Int)) < (0 : Int)) then none else bif decide ((0 : Int) < IntKind.wrap IntKind.i64 (IntKind.wrap IntKind.i64 (IntKind.wrap IntKind.i64 (IntKind.wrap IntKind.i64 ((0 : Int) + (↑(List.length a) : Int)) + (↑(List.length b) : Int)) + (↑(List.length c) : Int)) - (0 : Int))) then ck ((0 : Int) ≤ IntKind.wrap IntKind.i64 (IntKind.wrap IntKind.i64 (IntKind.wrap IntKind.i64 (IntKind.wrap IntKind.i64 ((0 : Int) + (↑(List.length a) : Int)) + (↑(List.length b) : Int)) + (↑(List.length c) : Int)) - (0 : Int)) ∧ Int.toNat (IntKind.wrap IntKind.i64 (IntKind.wrap IntKind.i64 (IntKind.wrap IntKind.i64 (IntKind.wrap IntKind.i64 ((0 : Int) + (↑(List.length a) : Int)) + (↑(List.length b) : Int)) + (↑(List.length c) : Int)) - (0 : Int))) * (1 : Nat) ≤ limit) (ck (((0 : Nat) + List.length a) * (1 : Nat) ≤ limit) (ck ((List.length (List.take (0 : Nat) (List.replicate (Int.toNat (IntKind.wrap IntKind.i64 (IntKind.wrap IntKind.i64 (IntKind.wrap IntKind.i64 (IntKind.wrap IntKind.i64 ((0 : Int) + (↑(List.length a) : Int)) + (↑(List.length b) : Int)) + (↑(List.length c) : Int)) - (0 : Int)))) (0 : Int)) ++ a) + List.length b) * (1 : Nat) ≤ limit) (ck ((List.length (List.take (0 : Nat) (List.replicate (Int.toNat (IntKind.wrap IntKind.i64 (IntKind.wrap IntKind.i64 (IntKind.wrap IntKind.i64 (IntKind.wrap IntKind.i64 ((0 : Int) + (↑(List.length a) : Int)) + (↑(List.length b) : Int)) + (↑(List.length c) : Int)) - (0 : Int)))) (0 : Int)) ++ a ++ b) + List.length c) * (1 : Nat) ≤ limit) (K (AV.view 1) [AO.row 26 BL [a, b, c] Md.own, AO.row 5 U8 (List.take (0 : Nat) (List.replicate (Int.toNat (IntKind.wrap IntKind.i64 (IntKind.wrap IntKind.i64 (IntKind.wrap IntKind.i64 (IntKind.wrap IntKind.i64 ((0 : Int) + (↑(List.length a) : Int)) + (↑(List.length b) : Int)) + (↑(List.length c) : Int)) - (0 : Int)))) (0 : Int)) ++ a ++ b ++ c) Md.own])))) else ck (List.length a * (1 : Nat) ≤ limit) (ck ((List.length a + List.length b) * (1 : Nat) ≤ limit) (ck ((List.length (a ++ b) + List.length c) * (1 : Nat) ≤ limit) (K (AV.view 1) [AO.row 26 BL [a, b, c] Md.own, AO.row 5 U8 (a ++ b ++ c) Md.own]))) := by kernel_rfl
def lv63 : Tl := ⟨fun q => match q with | 0 => some [0, 1, 6, 7] | _ => none, []⟩
theorem rput_0 {R : Type} (L : Nat → St → (Exit → St → Option R) → Option R) (K : KV R) (n size : Int) : runX Tryd.prog G0 lv63 Tryd.f63 0 L [.dat (.int .u64) n, .dat (.int .i64) size] [] K = bif decide (size < (1 : Int)) then K (AV.tup [AV.nils, AV.dat I64 (2 : Int)]) [] else bif decide ((8 : Int) < size) then K (AV.tup [AV.nils, AV.dat I64 (2 : Int)]) [] else L (0 : Nat) (St.mk [(0, AV.dat (T.int IntKind.u64) n), (1, AV.dat I64 size), (6, AV.nils), (7, AV.dat I64 (0 : Int))] []) (endX Tryd.prog G0 lv63 Tryd.f63 (0 : Nat) L K (0 : Nat)) := by kernel_rfl
theorem rput_n {R : Type} (L L0 : Nat → St → (Exit → St → Option R) → Option R) (K : KV R) (n size i : Int) : stepX Tryd.prog G0 lv63 0 (codeOf Tryd.f63) L 0 ⟨[(0, .dat (.int .u64) n), (1, .dat I64 size), (6, .nils), (7, .dat I64 i)], []⟩ (endX Tryd.prog G0 lv63 Tryd.f63 0 L0 K 0) = bif decide (i < size) then L (0 : Nat) (St.mk [(0, AV.dat (T.int IntKind.u64) (IntKind.wrap IntKind.u64 (Int.tdiv n (256 : Int)))), (1, AV.dat I64 size), (6, AV.view 0), (7, AV.dat I64 (IntKind.wrap IntKind.i64 (i + (1 : Int))))] [AO.row 5 U8 [IntKind.wrap IntKind.u8 (Int.tmod n (256 : Int))] Md.own]) (endX Tryd.prog G0 lv63 Tryd.f63 (0 : Nat) L0 K (0 : Nat)) else bif decide ((0 : Int) < n) then K (AV.tup [AV.nils, AV.dat I64 (2 : Int)]) [] else K (AV.tup [AV.nils, AV.dat I64 (0 : Int)]) [] := by kernel_rfl
theorem rput_s {R : Type} (L L0 : Nat → St → (Exit → St → Option R) → Option R) (K : KV R) (n size i : Int) (o : List Int) : stepX Tryd.prog G0 lv63 0 (codeOf Tryd.f63) L 0 ⟨[(0, .dat (.int .u64) n), (1, .dat I64 size), (6, .view 0), (7, .dat I64 i)], [.row 5 U8 o .own]⟩ (endX Tryd.prog G0 lv63 Tryd.f63 0 L0 K 0) = bif decide (i < size) then ck ((List.length o + (1 : Nat)) * (1 : Nat) ≤ limit) (L (0 : Nat) (St.mk [(0, AV.dat (T.int IntKind.u64) (IntKind.wrap IntKind.u64 (Int.tdiv n (256 : Int)))), (1, AV.dat I64 size), (6, AV.view 0), (7, AV.dat I64 (IntKind.wrap IntKind.i64 (i + (1 : Int))))] [AO.row 5 U8 (o ++ [IntKind.wrap IntKind.u8 (Int.tmod n (256 : Int))]) Md.own]) (endX Tryd.prog G0 lv63 Tryd.f63 (0 : Nat) L0 K (0 : Nat))) else bif decide ((0 : Int) < n) then K (AV.tup [AV.nils, AV.dat I64 (2 : Int)]) [] else K (AV.tup [AV.view 0, AV.dat I64 (0 : Int)]) [AO.row 5 U8 o Md.own] := by kernel_rfl
end Go.Mx
namespace Go.Mx
open Go Go.RowKit Go.Sx Go.Proofs
set_option maxRecDepth 100000
theorem shr8 {n : Int} {i : Nat} (hi : i ≤ 8) : shr .u64 n (IntKind.i64.wrap (8 * (i : Int))) = n / 256 ^ i := by
  rw [wrapS (by omega)]
  unfold shr
  have e : min (8 * (i : Int)).toNat IntKind.u64.bits = 8 * i := by
    show min (8 * (i : Int)).toNat 64 = 8 * i
    omega
  rw [e, Int.pow_mul]
  rfl
theorem byteAt_eq {n : Int} {i : Nat} (hi : i ≤ 8) : byteAt n i = n / 256 ^ i % 256 := by
  unfold byteAt
  rw [shr8 hi, IntKind.wrap_u8]
theorem div_step {n : Int} (hn : 0 ≤ n ∧ n < 18446744073709551616) (i : Nat) : 0 ≤ n / 256 ^ i ∧ n / 256 ^ i < 18446744073709551616 ∧ IntKind.u64.wrap (Int.tdiv (n / 256 ^ i) 256) = n / 256 ^ (i + 1) := by
  have h0 : (0 : Int) < 256 ^ i := Int.pow_pos (by decide)
  have h1 : 0 ≤ n / 256 ^ i := Int.ediv_nonneg hn.1 (by omega)
  have h2 : n / 256 ^ i ≤ n := Int.ediv_le_self _ hn.1
  refine ⟨h1, by omega, ?_⟩
  rw [Int.tdiv_eq_ediv_of_nonneg h1, Int.ediv_ediv_of_nonneg (by omega), ← Int.pow_succ, IntKind.wrap_u64, show i.succ = i + 1 from rfl]
  have h3 : 0 ≤ n / 256 ^ (i + 1) := Int.ediv_nonneg hn.1 (by have : (0 : Int) < 256 ^ (i + 1) := Int.pow_pos (by decide); omega)
  have h4 : n / 256 ^ (i + 1) ≤ n := Int.ediv_le_self _ hn.1
  omega
theorem pB_succ (n : Int) (i : Nat) : pB n (i + 1) = pB n i ++ [byteAt n i] := by
  unfold pB
  rw [List.range_succ, List.map_append]; rfl
theorem pB_len (n : Int) (i : Nat) : (pB n i).length = i := by unfold pB; simp
theorem mod8 {n : Int} (hn : 0 ≤ n ∧ n < 18446744073709551616) {i : Nat} (hi : i ≤ 8) : IntKind.u8.wrap (Int.tmod (n / 256 ^ i) 256) = byteAt n i := by
  rw [byteAt_eq hi, Int.tmod_eq_emod_of_nonneg (div_step hn i).1, IntKind.wrap_u8]
  omega
theorem pBad_eq {n size : Int} (hn : 0 ≤ n ∧ n < 18446744073709551616) (h1 : 1 ≤ size) (h8 : size ≤ 8) : pBad n size = decide (0 < n / 256 ^ size.toNat) := by
  unfold pBad
  rw [decide_eq_false (show ¬ size < 1 by omega), decide_eq_false (show ¬ 8 < size by omega), Bool.false_or, Bool.false_or]
  have e : shr .u64 n (IntKind.i64.wrap (8 * size)) = n / 256 ^ size.toNat := by
    have := shr8 (n := n) (i := size.toNat) (by omega)
    rwa [show ((size.toNat : Nat) : Int) = size by omega] at this
  rw [e]
  by_cases h : size < 8
  · rw [decide_eq_true h, Bool.true_and]
  · rw [decide_eq_false h, Bool.false_and, show size = 8 by omega]
    have : n / (256 : Int) ^ (8 : Int).toNat = 0 := Int.ediv_eq_zero_of_lt hn.1 (by have : (256 : Int) ^ (8 : Int).toNat = 18446744073709551616 := by decide +kernel
                                                                                    omega)
    rw [this]; rfl
def itD (n : Int) : Nat → Int
  | 0 => n
  | i + 1 => IntKind.u64.wrap (Int.tdiv (itD n i) 256)
def rB (n : Int) (m : Nat) : List Int := (List.range m).map fun i => IntKind.u8.wrap (Int.tmod (itD n i) 256)
def rPbad (n size : Int) : Bool := decide (size < 1) || (decide (8 < size) || decide (0 < itD n size.toNat))
theorem rB_succ (n : Int) (i : Nat) : rB n (i + 1) = rB n i ++ [IntKind.u8.wrap (Int.tmod (itD n i) 256)] := by
  unfold rB
  rw [List.range_succ, List.map_append]; rfl
theorem rB_len (n : Int) (i : Nat) : (rB n i).length = i := by unfold rB; simp
theorem itD_eq {n : Int} (hn : 0 ≤ n ∧ n < 18446744073709551616) : ∀ i, itD n i = n / 256 ^ i
  | 0 => by rw [Int.pow_zero, Int.ediv_one]; rfl
  | i + 1 => by rw [itD, itD_eq hn i, (div_step hn i).2.2]
theorem rB_eq {n : Int} (hn : 0 ≤ n ∧ n < 18446744073709551616) : ∀ {m : Nat}, m ≤ 8 → rB n m = pB n m
  | 0, _ => rfl
  | m + 1, h => by rw [rB_succ, pB_succ, rB_eq hn (by omega), itD_eq hn, mod8 hn (by omega)]
theorem rPbad_eq {n size : Int} (hn : 0 ≤ n ∧ n < 18446744073709551616) : rPbad n size = pBad n size := by
  by_cases h1 : size < 1
  · unfold rPbad pBad; rw [decide_eq_true h1]; rfl
  by_cases h8 : 8 < size
  · unfold rPbad pBad; rw [decide_eq_true h8, decide_eq_false h1]; rfl
  rw [pBad_eq hn (by omega) (by omega)]
  unfold rPbad
  rw [decide_eq_false h1, decide_eq_false h8, itD_eq hn]; rfl
theorem rput_loop {R : Type} (L0 : Nat → St → (Exit → St → Option R) → Option R) (K : KV R) (n : Int) (m : Nat) (hm : m ≤ 8) : ∀ (j k i : Nat), 1 ≤ i → i + j = m → j < k →
    LX Tryd.prog G0 lv63 0 (codeOf Tryd.f63) k 0 ⟨[(0, .dat (.int .u64) (itD n i)), (1, .dat I64 (m : Int)), (6, .view 0), (7, .dat I64 (i : Int))], [.row 5 U8 (rB n i) .own]⟩ (endX Tryd.prog G0 lv63 Tryd.f63 0 L0 K 0) = bif decide (0 < itD n m) then K (.tup [.nils, .dat I64 2]) [] else K (.tup [.view 0, .dat I64 0]) [.row 5 U8 (rB n m) .own] := by
  intro j
  induction j with
  | zero =>
    intro k i h1 hi hk
    obtain ⟨k, rfl⟩ : ∃ q, k = q + 1 := ⟨k - 1, by omega⟩
    refine (rput_s _ L0 K _ m i _).trans ?_
    obtain rfl : i = m := by omega
    rw [decide_eq_false (show ¬ (i : Int) < i by omega), cond_false]
  | succ j ih =>
    intro k i h1 hi hk
    obtain ⟨k, rfl⟩ : ∃ q, k = q + 1 := ⟨k - 1, by omega⟩
    refine (rput_s _ L0 K _ m i _).trans ?_
    rw [decide_eq_true (show (i : Int) < m by omega), cond_true, ck_pos (by rw [rB_len]; unfold limit; omega), ← rB_succ, wrapS (by omega)]
    have e := ih k (i + 1) (by omega) (by omega) (by omega)
    rw [show ((i + 1 : Nat) : Int) = (i : Int) + 1 by omega] at e
    exact e
def F63 : Summ := ⟨fun args ob K => match args, ob with
  | [.dat (.int .u64) n, .dat (.int .i64) size], [] => cond (rPbad n size) (K (.tup [.nils, .dat I64 2]) []) (K (.tup [.view 0, .dat I64 0]) [.row 5 (.int .u8) (rB n size.toNat) .own])
  | _, _ => none⟩
theorem rput_run {R : Type} (K : KV R) (n size : Int) : (codeX Tryd.prog G0 lv63 20 Tryd.f63).run [.dat (.int .u64) n, .dat (.int .i64) size] [] K = cond (rPbad n size) (K (.tup [.nils, .dat I64 2]) []) (K (.tup [.view 0, .dat I64 0]) [.row 5 (.int .u8) (rB n size.toNat) .own]) := by
  refine (rput_0 _ K n size).trans ?_
  unfold rPbad
  by_cases h1 : size < 1
  · rw [decide_eq_true h1]; rfl
  by_cases h8 : 8 < size
  · rw [decide_eq_false h1, decide_eq_true h8]; rfl
  rw [decide_eq_false h1, decide_eq_false h8, cond_false, cond_false]
  refine (rput_n _ _ K n size 0).trans ?_
  rw [decide_eq_true (show 0 < size by omega), cond_true]
  have e := rput_loop (LX Tryd.prog G0 lv63 0 (codeOf Tryd.f63) 20) K n size.toNat (by omega) (size.toNat - 1) 19 1 (by omega) (by omega) (by omega)
  rw [show ((size.toNat : Nat) : Int) = size by omega] at e
  exact e
theorem F63_ok : SumOk Tryd.prog 63 F63 := by
  refine (codeX_ok (k := 20) (lv := lv63) mixed noNG_prog (sums_call (Wr := all) (l := []) trivial) (sums_prim trivial) (fn := Tryd.f63) rfl).le (fun f args ob K => by unfold F63; dsimp only; split <;> simp only [bd_none, bd_cond]) ?_
  intro R args ob K r h
  unfold F63 at h; dsimp only at h
  split at h
  · exact (rput_run K _ _).trans h
  · cases h
def G29 : Sums := sums all [(63, F63)]
theorem rwh_0 {R : Type} (K : KV R) (n : Int) : (codeX Tryd.prog G29 lvN 0 Tryd.f29).run [.dat I64 n] [] K = bif decide (n < (-2147483648 : Int)) then K (AV.tup [AV.nils, AV.dat I64 (2 : Int)]) [] else bif decide ((2147483647 : Int) < n) then K (AV.tup [AV.nils, AV.dat I64 (2 : Int)]) [] else bif decide (n < (0 : Int)) then bif rPbad (IntKind.wrap IntKind.u64 (IntKind.wrap IntKind.i64 (n + (4294967296 : Int)))) (4 : Int) then K (AV.tup [AV.nils, AV.dat I64 (2 : Int)]) [] else K (AV.tup [AV.view 0, AV.dat I64 (0 : Int)]) [AO.row 5 U8 (rB (IntKind.wrap IntKind.u64 (IntKind.wrap IntKind.i64 (n + (4294967296 : Int)))) (4 : Nat)) Md.own] else bif rPbad (IntKind.wrap IntKind.u64 n) (4 : Int) then K (AV.tup [AV.nils, AV.dat I64 (2 : Int)]) [] else K (AV.tup [AV.view 0, AV.dat I64 (0 : Int)]) [AO.row 5 U8 (rB (IntKind.wrap IntKind.u64 n) (4 : Nat)) Md.own] := by kernel_rfl
theorem rbl_v {R : Type} (K : KV R) (b : List Int) (n : Int) : (codeX Tryd.prog G29 lvN 0 Tryd.f64).run [.view 0, .dat I64 n] [.row 5 U8 b .fz] K = bif !decide (n = (1 : Int)) then bif !decide (n = (2 : Int)) then K (AV.tup [AV.nils, AV.dat I64 (2 : Int)]) [AO.row 5 U8 b Md.fz] else bif rPbad (IntKind.wrap IntKind.u64 (↑(List.length b) : Int)) n then K (AV.tup [AV.nils, AV.dat I64 (17 : Int)]) [AO.row 5 U8 b Md.fz] else ck ((List.length (rB (IntKind.wrap IntKind.u64 (↑(List.length b) : Int)) (Int.toNat n)) + List.length b) * (1 : Nat) ≤ limit) (K (AV.tup [AV.view 1, AV.dat I64 (0 : Int)]) [AO.row 5 U8 b Md.fz, AO.row 5 U8 (rB (IntKind.wrap IntKind.u64 (↑(List.length b) : Int)) (Int.toNat n) ++ b) Md.own]) else bif rPbad (IntKind.wrap IntKind.u64 (↑(List.length b) : Int)) n then K (AV.tup [AV.nils, AV.dat I64 (17 : Int)]) [AO.row 5 U8 b Md.fz] else ck ((List.length (rB (IntKind.wrap IntKind.u64 (↑(List.length b) : Int)) (Int.toNat n)) + List.length b) * (1 : Nat) ≤ limit) (K (AV.tup [AV.view 1, AV.dat I64 (0 : Int)]) [AO.row 5 U8 b Md.fz, AO.row 5 U8 (rB (IntKind.wrap IntKind.u64 (↑(List.length b) : Int)) (Int.toNat n) ++ b) Md.own]) := by kernel_rfl
end Go.Mx
namespace Go.Mx
open Go Go.RowKit Go.Sx Go.Proofs
set_option maxRecDepth 100000
def F27v : Summ := ⟨fun args ob K => match args, ob with
  | [.view 0, .dat (.int .i64) n], [.row 5 (.int .u8) b .fz] => ck (b.length < 500000) (cond (decide (blE b n = 0)) (K (.tup [.view 1, .dat I64 0]) [.row 5 (.int .u8) b .fz, .row 5 (.int .u8) (pB (b.length : Int) n.toNat ++ b) .own]) (K (.tup [.nils, .dat I64 (blE b n)]) [.row 5 (.int .u8) b .fz]))
  | _, _ => none⟩
def F28j : Summ := ⟨fun args ob K => match args, ob with
  | [.view 0], [.row 26 (.sl (.int .u8)) [a, b, c] .own] => ck (a.length + b.length + c.length < 1000000) (K (.view 1) [.row 26 BL [a, b, c] .own, .row 5 (.int .u8) (a ++ b ++ c) .own])
  | _, _ => none⟩
def F64v : Summ := ⟨fun args ob K => match args, ob with
  | [.view 0, .dat (.int .i64) n], [.row 5 (.int .u8) b .fz] => ck (b.length < 500000) (cond (decide (blE b n = 0)) (K (.tup [.view 1, .dat I64 0]) [.row 5 (.int .u8) b .fz, .row 5 (.int .u8) (pB (b.length : Int) n.toNat ++ b) .own]) (K (.tup [.nils, .dat I64 (blE b n)]) [.row 5 (.int .u8) b .fz]))
  | _, _ => none⟩
theorem blob_putv {R : Type} (K : KV R) (b : List Int) (n : Int) (hl : b.length < 500000) : (codeX Tryd.prog G12 lvN 0 Tryd.f27).run [.view 0, .dat I64 n] [.row 5 U8 b .fz] K = cond (decide (blE b n = 0)) (K (.tup [.view 1, .dat I64 0]) [.row 5 (.int .u8) b .fz, .row 5 (.int .u8) (pB (b.length : Int) n.toNat ++ b) .own]) (K (.tup [.nils, .dat I64 (blE b n)]) [.row 5 (.int .u8) b .fz]) := by
  refine (bl_v K b n).trans ?_
  have hw : IntKind.u64.wrap (b.length : Int) = (b.length : Int) := by rw [IntKind.wrap_u64]; omega
  by_cases hn : n = 1 ∨ n = 2
  · obtain ⟨e1, e2⟩ := shl8 hn
    have hz : (!decide (n = 1) && !decide (n = 2)) = false := by rcases hn with rfl | rfl <;> rfl
    unfold blE
    rw [hz, cond_false, hw, e1, e2]
    have key : ∀ X : Option R, (X = K (.tup [.view 1, .dat I64 0]) [.row 5 (.int .u8) b .fz, .row 5 (.int .u8) (pB (b.length : Int) n.toNat ++ b) .own]) → (ck (0 ≤ 8 * n) (bif decide ((256 : Int) ^ n.toNat ≤ (↑(List.length b) : Int)) then K (AV.tup [AV.nils, AV.dat (T.int IntKind.i64) 17]) [AO.row 5 (T.int IntKind.u8) b Md.fz] else bif pBad (↑(List.length b) : Int) n then ck (0 + List.length b < 1000000) (K (AV.tup [AV.view 1, AV.dat (T.int IntKind.i64) 0]) [AO.row 5 (T.int IntKind.u8) b Md.fz, AO.row 5 (T.int IntKind.u8) ([] ++ b) Md.own]) else X)) = cond (decide ((bif decide ((256 : Int) ^ n.toNat ≤ (↑(List.length b) : Int)) then (17 : Int) else 0) = 0)) (K (.tup [.view 1, .dat I64 0]) [.row 5 (.int .u8) b .fz, .row 5 (.int .u8) (pB (b.length : Int) n.toNat ++ b) .own]) (K (.tup [.nils, .dat I64 (bif decide ((256 : Int) ^ n.toNat ≤ (↑(List.length b) : Int)) then (17 : Int) else 0)]) [.row 5 (.int .u8) b .fz]) := by
      intro X hX
      rw [ck_pos (by omega)]
      by_cases hc : (256 : Int) ^ n.toNat ≤ (b.length : Int)
      · rw [decide_eq_true hc]; rfl
      · rw [decide_eq_false hc, pBad_no hn (by omega), cond_false, cond_false, hX]; rfl
    have hx : (ck (List.length (pB (↑(List.length b) : Int) (Int.toNat n)) + List.length b < 1000000) (K (AV.tup [AV.view 1, AV.dat (T.int IntKind.i64) 0]) [AO.row 5 (T.int IntKind.u8) b Md.fz, AO.row 5 (T.int IntKind.u8) (pB (↑(List.length b) : Int) (Int.toNat n) ++ b) Md.own])) = K (.tup [.view 1, .dat I64 0]) [.row 5 (.int .u8) b .fz, .row 5 (.int .u8) (pB (b.length : Int) n.toNat ++ b) .own] := ck_pos (by rw [pB_len]; omega)
    by_cases h1 : n = 1
    · rw [show (!decide (n = 1)) = false by simp [h1], cond_false]; exact key _ hx
    · have h2 : n = 2 := by omega
      rw [show (!decide (n = 1)) = true by simp [h1], cond_true, show (!decide (n = 2)) = false by simp [h2], cond_false]; exact key _ hx
  · unfold blE
    rw [show (!decide (n = 1)) = true by simp; omega, cond_true, show (!decide (n = 2)) = true by simp; omega, cond_true]
    rfl
theorem rblob_putv {R : Type} (K : KV R) (b : List Int) (n : Int) (hl : b.length < 500000) : (codeX Tryd.prog G29 lvN 0 Tryd.f64).run [.view 0, .dat I64 n] [.row 5 U8 b .fz] K = cond (decide (blE b n = 0)) (K (.tup [.view 1, .dat I64 0]) [.row 5 (.int .u8) b .fz, .row 5 (.int .u8) (pB (b.length : Int) n.toNat ++ b) .own]) (K (.tup [.nils, .dat I64 (blE b n)]) [.row 5 (.int .u8) b .fz]) := by
  refine (rbl_v K b n).trans ?_
  have hr : 0 ≤ (b.length : Int) ∧ (b.length : Int) < 18446744073709551616 := by omega
  have hw : IntKind.u64.wrap (b.length : Int) = (b.length : Int) := by rw [IntKind.wrap_u64]; omega
  by_cases hn : n = 1 ∨ n = 2
  · obtain ⟨e1, e2⟩ := shl8 hn
    have hz : (!decide (n = 1) && !decide (n = 2)) = false := by rcases hn with rfl | rfl <;> rfl
    have hp : pBad (b.length : Int) n = decide ((256 : Int) ^ n.toNat ≤ (b.length : Int)) := by
      by_cases hc : (256 : Int) ^ n.toNat ≤ (b.length : Int)
      · rw [decide_eq_true hc, pBad_eq hr (by omega) (by omega)]
        refine decide_eq_true ?_
        have : (256 : Int) ^ n.toNat = 256 ∨ (256 : Int) ^ n.toNat = 65536 := by rcases hn with rfl | rfl <;> decide
        rcases this with e | e <;> rw [e] at hc ⊢ <;> omega
      · rw [decide_eq_false hc, pBad_no hn (by omega)]
    unfold blE
    rw [hz, cond_false, hw, e1, e2, rPbad_eq hr, hp, rB_eq hr (by omega), ck_pos (by rw [pB_len]; unfold limit; omega)]
    by_cases h1 : n = 1
    · rw [show (!decide (n = 1)) = false by simp [h1], cond_false]
      cases decide ((256 : Int) ^ n.toNat ≤ (b.length : Int)) <;> rfl
    · have h2 : n = 2 := by omega
      rw [show (!decide (n = 1)) = true by simp [h1], cond_true, show (!decide (n = 2)) = false by simp [h2], cond_false]
      cases decide ((256 : Int) ^ n.toNat ≤ (b.length : Int)) <;> rfl
  · unfold blE
    rw [show (!decide (n = 1)) = true by simp; omega, cond_true, show (!decide (n = 2)) = true by simp; omega, cond_true]
    rfl
theorem F27v_ok : SumOk Tryd.prog 27 F27v := by
  refine (codeX_ok (k := 0) (lv := lvN) mixed noNG_prog (sums_call (Wr := all) all12) (sums_prim all12) (fn := Tryd.f27) rfl).le (fun f args ob K => by unfold F27v; dsimp only; split <;> simp only [bd_none, bd_cond, bd_ck]) ?_
  intro R args ob K r h
  unfold F27v at h; dsimp only at h
  split at h
  · obtain ⟨hl, h⟩ := ck_elim h
    exact (blob_putv K _ _ hl).trans h
  · cases h
theorem all29 : AllOk Tryd.prog [(63, F63)] := ⟨F63_ok, trivial⟩
theorem F64v_ok : SumOk Tryd.prog 64 F64v := by
  refine (codeX_ok (k := 0) (lv := lvN) mixed noNG_prog (sums_call (Wr := all) all29) (sums_prim all29) (fn := Tryd.f64) rfl).le (fun f args ob K => by unfold F64v; dsimp only; split <;> simp only [bd_none, bd_cond, bd_ck]) ?_
  intro R args ob K r h
  unfold F64v at h; dsimp only at h
  split at h
  · obtain ⟨hl, h⟩ := ck_elim h
    exact (rblob_putv K _ _ hl).trans h
  · cases h
theorem F28j_ok : SumOk Tryd.prog 28 F28j := by
  refine (W_ok 28).le (fun f args ob K => by unfold F28j; dsimp only; split <;> simp only [bd_none, bd_ck]) ?_
  intro R args ob K r h
  unfold F28j at h; dsimp only at h
  split at h
  · rename_i a b c
    obtain ⟨hl, h⟩ := ck_elim h
    refine (join_3 K a b c).trans (Eq.trans ?_ h)
    have e1 : IntKind.i64.wrap ((0 : Int) + (a.length : Int)) = (a.length : Int) := by rw [wrapS (by omega)]; omega
    have e2 : IntKind.i64.wrap ((a.length : Int) + (b.length : Int)) = (a.length : Int) + (b.length : Int) := wrapS (by omega)
    have e3 : IntKind.i64.wrap ((a.length : Int) + (b.length : Int) + (c.length : Int)) = (a.length : Int) + (b.length : Int) + (c.length : Int) := wrapS (by omega)
    rw [e1, e2, e3, wrapS (x := (a.length : Int) + (b.length : Int) + (c.length : Int) - 0) (by omega)]
    rw [decide_eq_false (show ¬ (a.length : Int) < 0 by omega), cond_false, decide_eq_false (show ¬ (a.length : Int) + (b.length : Int) < 0 by omega), cond_false, decide_eq_false (show ¬ (a.length : Int) + (b.length : Int) + (c.length : Int) < 0 by omega), cond_false, cond_false]
    by_cases hp : 0 < (a.length : Int) + (b.length : Int) + (c.length : Int) - 0
    · rw [decide_eq_true hp, cond_true, ck_pos (by unfold limit; omega), ck_pos (by unfold limit; omega), ck_pos (by unfold limit; rw [List.take_zero, List.nil_append]; omega), ck_pos (by unfold limit; rw [List.take_zero, List.nil_append, List.length_append]; omega)]
      rw [List.take_zero, List.nil_append]
    · rw [decide_eq_false hp, cond_false, ck_pos (by unfold limit; omega), ck_pos (by unfold limit; omega), ck_pos (by unfold limit; rw [List.length_append]; omega)]
  · cases h
noncomputable def G10 : Sums := sums all [(26, F12), (27, F27v), (28, F28j)]
theorem rs_0 {R : Type} (K : KV R) (x : RsV) : (codeX Tryd.prog G10 lvN 0 Tryd.f10).run [.dat RsT x] [] K = bif whBad x.2.1 then ck (ByteArray.size x.2.2 ≤ limit) (ck (List.length (bytesOf x.2.2) < (500000 : Nat)) (bif decide (blE (bytesOf x.2.2) (2 : Int) = (0 : Int)) then bif decide (x.1 < (0 : Int)) then K (AV.tup [AV.nils, AV.dat I64 (2 : Int)]) [] else bif decide ((18 : Int) < x.1) then K (AV.tup [AV.nils, AV.dat I64 (2 : Int)]) [] else K (AV.tup [AV.nils, AV.dat I64 (2 : Int)]) [] else bif decide (x.1 < (0 : Int)) then K (AV.tup [AV.nils, AV.dat I64 (2 : Int)]) [] else bif decide ((18 : Int) < x.1) then K (AV.tup [AV.nils, AV.dat I64 (2 : Int)]) [] else K (AV.tup [AV.nils, AV.dat I64 (2 : Int)]) [])) else ck (ByteArray.size x.2.2 ≤ limit) (ck (List.length (bytesOf x.2.2) < (500000 : Nat)) (bif decide (blE (bytesOf x.2.2) (2 : Int) = (0 : Int)) then bif decide (x.1 < (0 : Int)) then K (AV.tup [AV.nils, AV.dat I64 (2 : Int)]) [] else bif decide ((18 : Int) < x.1) then K (AV.tup [AV.nils, AV.dat I64 (2 : Int)]) [] else ck ((1 : Nat) + (4 : Nat) + List.length (pB (↑(List.length (bytesOf x.2.2)) : Int) (2 : Nat) ++ bytesOf x.2.2) < (1000000 : Nat)) (K (AV.tup [AV.view 0, AV.dat I64 (0 : Int)]) [AO.row 5 U8 ([IntKind.wrap IntKind.u8 x.1] ++ pB (wholeN x.2.1) (4 : Nat) ++ (pB (↑(List.length (bytesOf x.2.2)) : Int) (2 : Nat) ++ bytesOf x.2.2)) Md.own]) else bif decide (x.1 < (0 : Int)) then K (AV.tup [AV.nils, AV.dat I64 (2 : Int)]) [] else bif decide ((18 : Int) < x.1) then K (AV.tup [AV.nils, AV.dat I64 (2 : Int)]) [] else bif !decide (blE (bytesOf x.2.2) (2 : Int) = (0 : Int)) then K (AV.tup [AV.nils, AV.dat I64 (2 : Int)]) [] else K (AV.tup [AV.view 0, AV.dat I64 (0 : Int)]) [AO.row 5 U8 ([IntKind.wrap IntKind.u8 x.1] ++ pB (wholeN x.2.1) (4 : Nat) ++ []) Md.own])) := by kernel_rfl
noncomputable def G30b : Sums := sums all [(64, F64v)]
theorem rb_0 {R : Type} (K : KV R) (s : ByteArray) (n : Int) : (codeX Tryd.prog G30b lvN 0 Tryd.f30).run [.dat .str s, .dat I64 n] [] K = ck (ByteArray.size s ≤ limit) (ck (List.length (bytesOf s) < (500000 : Nat)) (bif decide (blE (bytesOf s) n = (0 : Int)) then K (AV.view 0) [AO.row 5 U8 (pB (↑(List.length (bytesOf s)) : Int) (Int.toNat n) ++ bytesOf s) Md.own] else K AV.nils [])) := by kernel_rfl
end Go.Mx
namespace Go.Mx
open Go Go.RowKit Go.Sx
def leN : List Int → Nat
  | [] => 0
  | x :: r => x.toNat + 256 * leN r
abbrev Bytes (b : List Int) : Prop := ∀ x ∈ b, 0 ≤ x ∧ x < 256
theorem leN_lt : ∀ {b : List Int}, Bytes b → leN b < 256 ^ b.length
  | [], _ => by decide
  | x :: r, h => by
    have h1 := h x (by simp)
    have h2 := leN_lt (b := r) (fun y hy => h y (by simp [hy]))
    rw [leN, List.length_cons, Nat.pow_succ]
    omega
theorem or_byte {n x : Nat} (hn : n < 72057594037927936) (hx : x < 256) : bits .or .u64 (shl .u64 n 8) (IntKind.u64.wrap x) = ((n * 256 + x : Nat) : Int) := by
  have e1 : shl .u64 n 8 = ((n * 256 : Nat) : Int) := by
    unfold shl
    rw [show (8 : Int).toNat = 8 from rfl, show min 8 IntKind.u64.bits = 8 from rfl, IntKind.wrap_u64]
    omega
  have e2 : IntKind.u64.wrap (x : Int) = (x : Int) := by rw [IntKind.wrap_u64]; omega
  rw [e1, e2, bits_or_u64_nat _ _ (by omega) (by omega)]
  congr 1
  have := Nat.two_pow_add_eq_or_of_lt (i := 8) (b := x) (by omega) n
  rw [show n * 256 = 2 ^ 8 * n by omega]
  exact this.symm
def numL : List Int → Int
  | [] => 0
  | x :: r => bits .or .u64 (shl .u64 (numL r) 8) (IntKind.u64.wrap x)
def foldN (n : Int) : List Int → Int
  | [] => n
  | x :: r => bits .or .u64 (shl .u64 (foldN n r) 8) (IntKind.u64.wrap x)
theorem foldN_snoc (n : Int) (x : Int) : ∀ r : List Int, foldN n (r ++ [x]) = foldN (bits .or .u64 (shl .u64 n 8) (IntKind.u64.wrap x)) r
  | [] => rfl
  | y :: r => by show bits _ _ (shl _ (foldN n (r ++ [x])) 8) _ = _; rw [foldN_snoc n x r]; rfl
theorem numF_fold (b : List Int) : ∀ (j : Nat) (n : Int), j ≤ b.length → numF b j n = foldN n (b.take j)
  | 0, n, _ => by rw [List.take_zero]; rfl
  | j + 1, n, h => by
    have hj : j < b.length := by omega
    rw [numF, numF_fold b j _ (by omega), List.take_succ_eq_append_getElem hj, foldN_snoc, List.getD_eq_getElem?_getD, List.getElem?_eq_getElem hj]; rfl
theorem fold_le : ∀ {b : List Int}, Bytes b → b.length ≤ 8 → foldN 0 b = (leN b : Int)
  | [], _, _ => rfl
  | x :: r, h, hl => by
    have h1 := h x (by simp)
    have hr : Bytes r := fun y hy => h y (by simp [hy])
    rw [List.length_cons] at hl
    have h2 := leN_lt hr
    have h3 : 256 ^ r.length ≤ 256 ^ 7 := Nat.pow_le_pow_right (by omega) (by omega)
    rw [foldN, fold_le hr (by omega), leN]
    obtain ⟨m, rfl⟩ : ∃ m : Nat, x = m := ⟨x.toNat, by omega⟩
    rw [or_byte (by omega) (by omega), Int.toNat_natCast]
    omega
theorem num_le {b : List Int} (h : Bytes b) (hl : b.length ≤ 8) : numF b b.length 0 = (leN b : Int) := by
  rw [numF_fold b b.length 0 (Nat.le_refl _), List.take_length, fold_le h hl]
theorem gF_le : ∀ {b : List Int} {n f : Nat}, Bytes b → n < f → f * 256 ^ b.length ≤ 18446744073709551616 → gF b n f = ((n + f * leN b : Nat) : Int)
  | [], n, f, _, _, _ => by rw [gF, leN]; omega
  | x :: r, n, f, h, hn, hf => by
    have h1 := h x (by simp)
    have hr : Bytes r := fun y hy => h y (by simp [hy])
    obtain ⟨m, rfl⟩ : ∃ m : Nat, x = m := ⟨x.toNat, by omega⟩
    rw [List.length_cons, Nat.pow_succ] at hf
    have hp : 1 ≤ 256 ^ r.length := Nat.one_le_pow _ _ (by omega)
    have hf2 : f * 256 ≤ 18446744073709551616 := Nat.le_trans (by rw [Nat.mul_comm (256 ^ r.length), ← Nat.mul_assoc]; exact Nat.le_mul_of_pos_right _ hp) hf
    have hfm : f * m ≤ f * 255 := Nat.mul_le_mul_left f (by omega)
    have e1 : IntKind.u64.wrap (m : Int) = m := by rw [IntKind.wrap_u64]; omega
    have e2 : IntKind.u64.wrap ((f : Int) * m) = ((f * m : Nat) : Int) := by rw [IntKind.wrap_u64, ← Int.natCast_mul]; omega
    have e3 : IntKind.u64.wrap ((n : Int) + ((f * m : Nat) : Int)) = ((n + f * m : Nat) : Int) := by rw [IntKind.wrap_u64]; omega
    rw [gF, e1, e2, e3, leN, Int.toNat_natCast]
    cases r with
    | nil => rw [gF, leN, Nat.mul_zero, Nat.add_zero]
    | cons y r =>
      have hb : f * 256 < 18446744073709551616 := by
        rw [List.length_cons, Nat.pow_succ] at hf
        have hq : 1 ≤ 256 ^ r.length := Nat.one_le_pow _ _ (by omega)
        have : f * 256 * 256 ≤ 18446744073709551616 := Nat.le_trans (by
          rw [show f * (256 ^ r.length * 256 * 256) = f * 256 * 256 * 256 ^ r.length by rw [Nat.mul_comm (256 ^ r.length * 256), ← Nat.mul_assoc, Nat.mul_comm (256 ^ r.length), ← Nat.mul_assoc]]
          exact Nat.le_mul_of_pos_right _ hq) hf
        omega
      have e4 : IntKind.u64.wrap ((f : Int) * 256) = ((f * 256 : Nat) : Int) := by rw [IntKind.wrap_u64]; omega
      rw [e4, gF_le hr (by omega) (by rw [Nat.mul_assoc, Nat.mul_comm 256]; exact hf)]
      rw [Nat.mul_add, show f * 256 * leN (y :: r) = f * (256 * leN (y :: r)) by rw [Nat.mul_assoc]]
      omega
structure Sim (x : RV) (y : QV) : Prop where
  made : x.2.1 = true
  bad : x.2.2 = y.2
  rest : x.1 = y.1
  bytes : Bytes x.1
  len : x.1.length < 100000
  none : x.2.2 = true → x.1 = []
theorem bytes_take {b : List Int} (h : Bytes b) (n : Nat) : Bytes (b.take n) := fun x hx => h x (List.mem_of_mem_take hx)
theorem bytes_drop {b : List Int} (h : Bytes b) (n : Nat) : Bytes (b.drop n) := fun x hx => h x (List.mem_of_mem_drop hx)
theorem sim_num {x : RV} {y : QV} (h : Sim x y) (n : Int) : numV x n = rnumV y n ∧ Sim (numS x n) (rnumS y n) ∧ 0 ≤ rnumV y n ∧ (n ≤ 4 → rnumV y n < 4294967296) := by
  obtain ⟨xs, made, bad⟩ := x
  obtain ⟨ys, bad'⟩ := y
  obtain ⟨h1, h2, h3, h4, h5, h6⟩ := h
  dsimp only at h1 h2 h3 h4 h5 h6
  subst h1 h2 h3
  unfold numV numS rnumV rnumS rBad takeV takeS sizeOk
  dsimp only
  cases bad with
  | true =>
    obtain rfl := h6 rfl
    simp only [Bool.not_true, Bool.false_or, if_true, Bool.or_true, List.length_nil]
    exact ⟨rfl, ⟨rfl, rfl, rfl, h4, by simp, fun _ => rfl⟩, Int.le_refl 0, fun _ => by decide⟩
  | false =>
    simp only [Bool.not_true, Bool.false_or, Bool.or_false, Bool.false_eq_true, if_false]
    have none : Sim (([], true, true) : RV) (([], true) : QV) := ⟨rfl, rfl, rfl, fun x hx => by simp at hx, by simp, fun _ => rfl⟩
    by_cases c1 : n < 1 ∨ 8 < n
    · have hb : (decide (n < 1) || decide (8 < n) || decide ((xs.length : Int) < n)) = true := by simp only [Bool.or_eq_true, decide_eq_true_eq]; exact .inl c1
      rw [if_pos c1, if_pos hb, if_pos hb]
      simp only [show ((-1 : Int) < 0 ∨ (xs.length : Int) < -1) = True by simp, if_true, List.length_nil]
      exact ⟨rfl, none, Int.le_refl 0, fun _ => by decide⟩
    · rw [if_neg c1]
      by_cases c2 : (xs.length : Int) < n
      · have hb : (decide (n < 1) || decide (8 < n) || decide ((xs.length : Int) < n)) = true := by simp only [Bool.or_eq_true, decide_eq_true_eq]; exact .inr c2
        have hc : n < 0 ∨ (xs.length : Int) < n := .inr c2
        rw [if_pos hb, if_pos hb]
        simp only [if_pos hc, List.length_nil]
        exact ⟨rfl, none, Int.le_refl 0, fun _ => by decide⟩
      · have hb : ¬ (decide (n < 1) || decide (8 < n) || decide ((xs.length : Int) < n)) = true := by
          simp only [Bool.or_eq_true, decide_eq_true_eq]; omega
        have hc : ¬ (n < 0 ∨ (xs.length : Int) < n) := by omega
        rw [if_neg hb, if_neg hb]
        simp only [if_neg hc]
        have hB := bytes_take h4 n.toNat
        have hlen : (xs.take n.toNat).length = n.toNat := by rw [List.length_take]; omega
        have e1 := num_le hB (by omega)
        have hg := gF_le (n := 0) (f := 1) hB (by omega) (by
          rw [hlen, Nat.one_mul]
          exact Nat.le_trans (Nat.pow_le_pow_right (by omega) (show n.toNat ≤ 8 by omega)) (by decide))
        have hg : gF (xs.take n.toNat) 0 1 = (leN (xs.take n.toNat) : Int) := by simpa using hg
        rw [e1, hg]
        refine ⟨rfl, ⟨rfl, rfl, rfl, bytes_drop h4 _, by simp; omega, fun hh => by cases hh⟩, by omega, fun h4' => ?_⟩
        have hlt := leN_lt hB
        rw [hlen] at hlt
        have : 256 ^ n.toNat ≤ 256 ^ 4 := Nat.pow_le_pow_right (by omega) (by omega)
        omega
theorem sim_whole {x : RV} {y : QV} (h : Sim x y) : wholeV (numV x 4) = rwholeV (rnumV y 4) := by
  obtain ⟨e, _, h1, h2⟩ := sim_num h 4
  rw [e]
  have h2 := h2 (by decide)
  generalize rnumV y 4 = n at *
  unfold wholeV rwholeV
  rw [show IntKind.u32.wrap n = n by simp [IntKind.wrap, IntKind.bits, IntKind.signed]; omega, IntKind.wrap_i32, wrapS (x := n) (by omega)]
  by_cases hn : 2147483647 < n
  · rw [decide_eq_true hn, cond_true, wrapS (by omega), wrapS (by omega)]; omega
  · rw [decide_eq_false hn, cond_false, wrapS (by omega)]; omega
theorem sim_take {x : RV} {y : QV} (h : Sim x y) {n : Int} (hn : 0 ≤ n) : (if (decide ((y.1.length : Int) < n) || y.2) = true then takeV x n = [] ∧ Sim (takeS x n) ([], true) else takeV x n = y.1.take n.toNat ∧ Sim (takeS x n) (y.1.drop n.toNat, y.2)) := by
  obtain ⟨xs, made, bad⟩ := x
  obtain ⟨ys, bad'⟩ := y
  obtain ⟨h1, h2, h3, h4, h5, h6⟩ := h
  dsimp only at h1 h2 h3 h4 h5 h6
  subst h1 h2 h3
  unfold takeV takeS
  dsimp only
  cases bad with
  | true =>
    obtain rfl := h6 rfl
    rw [if_pos (by simp)]
    simp only [Bool.not_true, Bool.false_or, if_true]
    exact ⟨trivial, ⟨rfl, rfl, rfl, h4, by simp, fun _ => rfl⟩⟩
  | false =>
    simp only [Bool.not_true, Bool.false_or, Bool.or_false, Bool.false_eq_true, if_false]
    by_cases c : (xs.length : Int) < n
    · rw [if_pos (by simpa using c), if_pos (.inr c), if_pos (.inr c)]
      exact ⟨rfl, ⟨rfl, rfl, rfl, fun x hx => by simp at hx, by simp, fun _ => rfl⟩⟩
    · rw [if_neg (by simpa using c), if_neg (by omega), if_neg (by omega)]
      exact ⟨rfl, ⟨rfl, rfl, rfl, bytes_drop h4 _, by simp; omega, fun hh => by cases hh⟩⟩
theorem sim_blob {x : RV} {y : QV} (h : Sim x y) (n : Int) : (¬ (n = 1 ∨ n = 2) ∨ 0 ≤ rblobN y n) ∧ Sim (blobS x n) (rblobS y n) ∧ blobV x n = if rbBad y n = true then [] else rblobV y n := by
  by_cases hn : n = 1 ∨ n = 2
  · have eb : bSize n = n := by unfold bSize; rw [if_neg (by omega)]
    obtain ⟨e, hs, h1, h2⟩ := sim_num h n
    have h2 := h2 (by omega)
    have eN : rblobN y n = rnumV y n := by unfold rblobN; rw [wrapS (by omega)]
    have hz : (!decide (n = 1) && !decide (n = 2)) = false := by rcases hn with rfl | rfl <;> rfl
    have ht := sim_take hs (n := rnumV y n) h1
    unfold blobV blobS rblobS rbBad rblobV
    rw [eb, e, wrapS (by omega), eN, hz, Bool.false_or]
    refine ⟨.inr h1, ?_⟩
    by_cases c : (decide (((rnumS y n).1.length : Int) < rnumV y n) || (rnumS y n).2) = true
    · rw [if_pos c] at ht ⊢
      rw [if_pos c]
      exact ⟨ht.2, ht.1⟩
    · rw [if_neg c] at ht ⊢
      rw [if_neg c]
      exact ⟨ht.2, ht.1⟩
  · have eb : bSize n = -1 := by unfold bSize; rw [if_pos (by omega)]
    obtain ⟨e, hs, _, _⟩ := sim_num h (-1)
    have ev : rnumV y (-1) = 0 := by unfold rnumV rBad; rfl
    have es : rnumS y (-1) = ([], true) := by unfold rnumS rBad; rfl
    have hz : rbBad y n = true := by
      unfold rbBad
      rw [show (!decide (n = 1) && !decide (n = 2)) = true by simp; omega]; rfl
    rw [es] at hs
    have ht := sim_take hs (n := 0) (Int.le_refl 0)
    rw [if_pos (by simp)] at ht
    unfold blobV blobS rblobS
    rw [eb, e, ev, hz, if_pos rfl, if_pos rfl]
    exact ⟨.inl hn, ht.2, ht.1⟩
end Go.Mx
namespace Go.Mx
open Go Go.RowKit Go.Sx Go.Proofs
set_option maxRecDepth 100000
def F30b : Summ := ⟨fun args ob K => match args, ob with
  | [.dat .str s, .dat (.int .i64) n], [] => ck (s.size < 500000) (cond (decide (blE (bytesOf s) n = 0)) (K (.view 0) [.row 5 (.int .u8) (pB (s.size : Int) n.toNat ++ bytesOf s) .own]) (K .nils []))
  | _, _ => none⟩
noncomputable def G11 : Sums := sums all [(29, F12), (30, F30b)]
theorem rr_0 {R : Type} (K : KV R) (x : RsV) : (codeX Tryd.prog G11 lvN 0 Tryd.f11).run [.dat RsT x] [] K = bif decide (x.1 < (0 : Int)) then K (AV.tup [AV.nils, AV.dat I64 (2 : Int)]) [] else bif decide ((18 : Int) < x.1) then K (AV.tup [AV.nils, AV.dat I64 (2 : Int)]) [] else bif decide (x.2.1 < (-2147483648 : Int)) then K (AV.tup [AV.nils, AV.dat I64 (2 : Int)]) [] else bif decide ((2147483647 : Int) < x.2.1) then K (AV.tup [AV.nils, AV.dat I64 (2 : Int)]) [] else bif decide ((65535 : Int) < (↑(ByteArray.size x.2.2) : Int)) then K (AV.tup [AV.nils, AV.dat I64 (2 : Int)]) [] else bif whBad x.2.1 then ck (ByteArray.size x.2.2 < (500000 : Nat)) (bif decide (blE (bytesOf x.2.2) (2 : Int) = (0 : Int)) then ck (((1 : Nat) + List.length (pB (↑(ByteArray.size x.2.2) : Int) (2 : Nat) ++ bytesOf x.2.2)) * (1 : Nat) ≤ limit) (K (AV.tup [AV.view 0, AV.dat I64 (0 : Int)]) [AO.row 5 U8 ([IntKind.wrap IntKind.u8 x.1] ++ [] ++ (pB (↑(ByteArray.size x.2.2) : Int) (2 : Nat) ++ bytesOf x.2.2)) Md.own]) else K (AV.tup [AV.view 0, AV.dat I64 (0 : Int)]) [AO.row 5 U8 ([IntKind.wrap IntKind.u8 x.1] ++ [] ++ []) Md.own]) else ck (ByteArray.size x.2.2 < (500000 : Nat)) (bif decide (blE (bytesOf x.2.2) (2 : Int) = (0 : Int)) then ck (((5 : Nat) + List.length (pB (↑(ByteArray.size x.2.2) : Int) (2 : Nat) ++ bytesOf x.2.2)) * (1 : Nat) ≤ limit) (K (AV.tup [AV.view 0, AV.dat I64 (0 : Int)]) [AO.row 5 U8 ([IntKind.wrap IntKind.u8 x.1] ++ pB (wholeN x.2.1) (4 : Nat) ++ (pB (↑(ByteArray.size x.2.2) : Int) (2 : Nat) ++ bytesOf x.2.2)) Md.own]) else K (AV.tup [AV.view 0, AV.dat I64 (0 : Int)]) [AO.row 5 U8 ([IntKind.wrap IntKind.u8 x.1] ++ pB (wholeN x.2.1) (4 : Nat) ++ []) Md.own]) := by kernel_rfl
def G12r : Sums := sums all [(31, F17), (32, inS 32 cl F18), (33, inS 33 cl F20), (34, inS 34 cl F22), (35, inS 35 cl F28)]
theorem of_d {R : Type} (K : KV R) (b : List Int) : (codeX Tryd.prog G12r lvN 0 Tryd.f12).run [.dat BL b] [] K = ck (List.length b < (1000000 : Nat)) (ck (List.length ((newV b).1) < (100000 : Nat)) (ck (List.length ((numS (newV b) (1 : Int)).1) < (100000 : Nat)) (ck (List.length ((numS (numS (newV b) (1 : Int)) (4 : Int)).1) < (100000 : Nat)) (listK (blobV (numS (numS (newV b) (1 : Int)) (4 : Int)) (2 : Int)) (bif !decide (endV (blobS (numS (numS (newV b) (1 : Int)) (4 : Int)) (2 : Int)) = (0 : Int)) then K (AV.tup [AV.dat (T.pair I64 (T.pair I64 T.str)) ((0 : Int), (0 : Int), ByteArray.mk #[]), AV.dat I64 (2 : Int)]) [] else bif decide ((18 : Int) < IntKind.wrap IntKind.i64 (numV (newV b) (1 : Int))) then K (AV.tup [AV.dat (T.pair I64 (T.pair I64 T.str)) ((0 : Int), (0 : Int), ByteArray.mk #[]), AV.dat I64 (2 : Int)]) [] else K (AV.tup [AV.dat (T.pair I64 (T.pair I64 T.str)) (IntKind.wrap IntKind.i64 (numV (newV b) (1 : Int)), wholeV (numV (numS (newV b) (1 : Int)) (4 : Int)), strOf []), AV.dat I64 (0 : Int)]) []) fun z zs ↦ bif !decide (endV (blobS (numS (numS (newV b) (1 : Int)) (4 : Int)) (2 : Int)) = (0 : Int)) then K (AV.tup [AV.dat (T.pair I64 (T.pair I64 T.str)) ((0 : Int), (0 : Int), ByteArray.mk #[]), AV.dat I64 (2 : Int)]) [] else bif decide ((18 : Int) < IntKind.wrap IntKind.i64 (numV (newV b) (1 : Int))) then K (AV.tup [AV.dat (T.pair I64 (T.pair I64 T.str)) ((0 : Int), (0 : Int), ByteArray.mk #[]), AV.dat I64 (2 : Int)]) [] else K (AV.tup [AV.dat (T.pair I64 (T.pair I64 T.str)) (IntKind.wrap IntKind.i64 (numV (newV b) (1 : Int)), wholeV (numV (numS (newV b) (1 : Int)) (4 : Int)), strOf (z :: zs)), AV.dat I64 (0 : Int)]) [])))) := by kernel_rfl
theorem of_v {R : Type} (K : KV R) (b : List Int) : (codeX Tryd.prog G12r lvN 0 Tryd.f12).run [.view 0] [.row 5 U8 b .own] K = ck (List.length b < (1000000 : Nat)) (ck (List.length ((newV b).1) < (100000 : Nat)) (ck (List.length ((numS (newV b) (1 : Int)).1) < (100000 : Nat)) (ck (List.length ((numS (numS (newV b) (1 : Int)) (4 : Int)).1) < (100000 : Nat)) (listK (blobV (numS (numS (newV b) (1 : Int)) (4 : Int)) (2 : Int)) (bif !decide (endV (blobS (numS (numS (newV b) (1 : Int)) (4 : Int)) (2 : Int)) = (0 : Int)) then K (AV.tup [AV.dat (T.pair I64 (T.pair I64 T.str)) ((0 : Int), (0 : Int), ByteArray.mk #[]), AV.dat I64 (2 : Int)]) [AO.row 5 U8 b Md.own] else bif decide ((18 : Int) < IntKind.wrap IntKind.i64 (numV (newV b) (1 : Int))) then K (AV.tup [AV.dat (T.pair I64 (T.pair I64 T.str)) ((0 : Int), (0 : Int), ByteArray.mk #[]), AV.dat I64 (2 : Int)]) [AO.row 5 U8 b Md.own] else K (AV.tup [AV.dat (T.pair I64 (T.pair I64 T.str)) (IntKind.wrap IntKind.i64 (numV (newV b) (1 : Int)), wholeV (numV (numS (newV b) (1 : Int)) (4 : Int)), strOf []), AV.dat I64 (0 : Int)]) [AO.row 5 U8 b Md.own]) fun z zs ↦ bif !decide (endV (blobS (numS (numS (newV b) (1 : Int)) (4 : Int)) (2 : Int)) = (0 : Int)) then K (AV.tup [AV.dat (T.pair I64 (T.pair I64 T.str)) ((0 : Int), (0 : Int), ByteArray.mk #[]), AV.dat I64 (2 : Int)]) [AO.row 5 U8 b Md.own] else bif decide ((18 : Int) < IntKind.wrap IntKind.i64 (numV (newV b) (1 : Int))) then K (AV.tup [AV.dat (T.pair I64 (T.pair I64 T.str)) ((0 : Int), (0 : Int), ByteArray.mk #[]), AV.dat I64 (2 : Int)]) [AO.row 5 U8 b Md.own] else K (AV.tup [AV.dat (T.pair I64 (T.pair I64 T.str)) (IntKind.wrap IntKind.i64 (numV (newV b) (1 : Int)), wholeV (numV (numS (newV b) (1 : Int)) (4 : Int)), strOf (z :: zs)), AV.dat I64 (0 : Int)]) [AO.row 5 U8 b Md.own])))) := by kernel_rfl
def G13r : Sums := sums all [(36, inS 36 cl F19), (37, inS 37 cl F21), (38, inS 38 cl F23), (39, inS 39 cl F34)]
theorem rof_d {R : Type} (K : KV R) (b : List Int) : (codeX Tryd.prog G13r lvN 0 Tryd.f13).run [.dat BL b] [] K = ck (List.length b * (1 : Nat) ≤ limit) (ck (List.length ((rnumS (rnumS (b, false) (1 : Int)) (4 : Int)).1) < (100000 : Nat) ∧ (¬((2 : Int) = (1 : Int) ∨ (2 : Int) = (2 : Int)) ∨ (0 : Int) ≤ rblobN (rnumS (rnumS (b, false) (1 : Int)) (4 : Int)) (2 : Int))) (bif rbBad (rnumS (rnumS (b, false) (1 : Int)) (4 : Int)) (2 : Int) then bif !decide (rendV (rblobS (rnumS (rnumS (b, false) (1 : Int)) (4 : Int)) (2 : Int)) = (0 : Int)) then K (AV.tup [AV.dat (T.pair I64 (T.pair I64 T.str)) ((0 : Int), (0 : Int), ByteArray.mk #[]), AV.dat I64 (2 : Int)]) [] else bif decide ((18 : Int) < IntKind.wrap IntKind.i64 (rnumV (b, false) (1 : Int))) then K (AV.tup [AV.dat (T.pair I64 (T.pair I64 T.str)) ((0 : Int), (0 : Int), ByteArray.mk #[]), AV.dat I64 (2 : Int)]) [] else K (AV.tup [AV.dat (T.pair I64 (T.pair I64 T.str)) (IntKind.wrap IntKind.i64 (rnumV (b, false) (1 : Int)), rwholeV (rnumV (rnumS (b, false) (1 : Int)) (4 : Int)), strOf []), AV.dat I64 (0 : Int)]) [] else bif !decide (rendV (rblobS (rnumS (rnumS (b, false) (1 : Int)) (4 : Int)) (2 : Int)) = (0 : Int)) then K (AV.tup [AV.dat (T.pair I64 (T.pair I64 T.str)) ((0 : Int), (0 : Int), ByteArray.mk #[]), AV.dat I64 (2 : Int)]) [] else bif decide ((18 : Int) < IntKind.wrap IntKind.i64 (rnumV (b, false) (1 : Int))) then K (AV.tup [AV.dat (T.pair I64 (T.pair I64 T.str)) ((0 : Int), (0 : Int), ByteArray.mk #[]), AV.dat I64 (2 : Int)]) [] else K (AV.tup [AV.dat (T.pair I64 (T.pair I64 T.str)) (IntKind.wrap IntKind.i64 (rnumV (b, false) (1 : Int)), rwholeV (rnumV (rnumS (b, false) (1 : Int)) (4 : Int)), strOf (rblobV (rnumS (rnumS (b, false) (1 : Int)) (4 : Int)) (2 : Int))), AV.dat I64 (0 : Int)]) [])) := by kernel_rfl
end Go.Mx
namespace Go.Mx
open Go Go.RowKit Go.Sx Go.Proofs
set_option maxRecDepth 100000
def F9k : Summ := ⟨fun args ob K => match args, ob with
  | [], [] => K (.dat .bool true) []
  | _, _ => none⟩
theorem F9k_ok : SumOk Tryd.prog 9 F9k := by
  refine (W_ok 9).le (fun f args ob K => by unfold F9k; dsimp only; split <;> simp only [bd_none]) ?_
  intro R args ob K r h
  unfold F9k at h; dsimp only at h
  split at h
  · exact (known_0 K).trans h
  · cases h
theorem whole_neg {n : Int} (h : -2147483648 ≤ n ∧ n ≤ 2147483647) : wholeN n = IntKind.u64.wrap (if n < 0 then IntKind.i64.wrap (n + 4294967296) else n) ∧ 0 ≤ wholeN n ∧ wholeN n < 4294967296 := by
  have e : wholeN n = n % 4294967296 := by
    unfold wholeN
    rw [IntKind.wrap_i32, IntKind.wrap_u32, IntKind.wrap_u64]; omega
  refine ⟨?_, by omega, by omega⟩
  rw [e]
  split
  · rw [wrapS (by omega), IntKind.wrap_u64]; omega
  · rw [IntKind.wrap_u64]; omega
theorem whBad_eq {n : Int} : whBad n = (decide (n < -2147483648) || decide (2147483647 < n)) := by
  unfold whBad
  by_cases h1 : n < -2147483648
  · rw [decide_eq_true h1]; rfl
  by_cases h2 : 2147483647 < n
  · rw [decide_eq_true h2]; rfl
  rw [decide_eq_false h1, decide_eq_false h2, Bool.false_or, Bool.false_or]
  obtain ⟨_, h3, h4⟩ := whole_neg (n := n) (by omega)
  rw [pBad_eq (by omega) (by omega) (by omega)]
  have : wholeN n / (256 : Int) ^ (4 : Int).toNat = 0 := Int.ediv_eq_zero_of_lt h3 (by rw [show (256 : Int) ^ (4 : Int).toNat = 4294967296 by decide +kernel]; exact h4)
  rw [this]; rfl
theorem rwh_run {R : Type} (K : KV R) (n : Int) : (codeX Tryd.prog G29 lvN 0 Tryd.f29).run [.dat I64 n] [] K = cond (whBad n) (K (.tup [.nils, .dat I64 2]) []) (K (.tup [.view 0, .dat I64 0]) [.row 5 (.int .u8) (pB (wholeN n) 4) .own]) := by
  refine (rwh_0 K n).trans ?_
  rw [whBad_eq]
  by_cases h1 : n < -2147483648
  · rw [decide_eq_true h1]; rfl
  by_cases h2 : 2147483647 < n
  · rw [decide_eq_false h1, decide_eq_true h2]; rfl
  rw [decide_eq_false h1, decide_eq_false h2]
  obtain ⟨h0, h3, h4⟩ := whole_neg (n := n) (by omega)
  have hb := whBad_eq (n := n)
  unfold whBad at hb
  rw [decide_eq_false h1, decide_eq_false h2, Bool.false_or, Bool.false_or, Bool.false_or] at hb
  have hr : 0 ≤ wholeN n ∧ wholeN n < 18446744073709551616 := by omega
  by_cases h5 : n < 0
  · rw [if_pos h5] at h0
    rw [decide_eq_true h5, ← h0, rPbad_eq hr, hb]
    show K _ [.row 5 U8 (rB (wholeN n) 4) .own] = _
    rw [rB_eq hr (by omega)]; rfl
  · rw [if_neg h5] at h0
    rw [decide_eq_false h5, ← h0, rPbad_eq hr, hb]
    show K _ [.row 5 U8 (rB (wholeN n) 4) .own] = _
    rw [rB_eq hr (by omega)]; rfl
theorem F29_ok : SumOk Tryd.prog 29 F12 := by
  refine (codeX_ok (k := 0) (lv := lvN) mixed noNG_prog (sums_call (Wr := all) all29) (sums_prim all29) (fn := Tryd.f29) rfl).le (fun f args ob K => by unfold F12; dsimp only; split <;> simp only [bd_none, bd_cond]) ?_
  intro R args ob K r h
  unfold F12 at h; dsimp only at h
  split at h
  · exact (rwh_run K _).trans h
  · cases h
theorem all30b : AllOk Tryd.prog [(64, F64v)] := ⟨F64v_ok, trivial⟩
theorem F30b_ok : SumOk Tryd.prog 30 F30b := by
  refine (codeX_ok (k := 0) (lv := lvN) mixed noNG_prog (sums_call (Wr := all) all30b) (sums_prim all30b) (fn := Tryd.f30) rfl).le (fun f args ob K => by unfold F30b; dsimp only; split <;> simp only [bd_none, bd_cond, bd_ck]) ?_
  intro R args ob K r h
  unfold F30b at h; dsimp only at h
  split at h
  · obtain ⟨hl, h⟩ := ck_elim h
    refine (rb_0 K _ _).trans ?_
    rw [ck_pos (by unfold limit; omega), ck_pos (by rw [bytesOf_length]; exact hl), bytesOf_length]
    exact h
  · cases h
def rsBad (x : RsV) : Bool := decide (x.1 < 0) || (decide (18 < x.1) || (decide (x.2.1 < -2147483648) || (decide (2147483647 < x.2.1) || decide (65535 < (x.2.2.size : Int)))))
def rsB (x : RsV) : List Int := [IntKind.u8.wrap x.1] ++ pB (wholeN x.2.1) 4 ++ (pB (x.2.2.size : Int) 2 ++ bytesOf x.2.2)
def F10r : Summ := ⟨fun args ob K => match args, ob with
  | [.dat (.pair (.int .i64) (.pair (.int .i64) .str)) x], [] => ck (ByteArray.size x.2.2 < 400000) (cond (rsBad x) (K (.tup [.nils, .dat I64 2]) []) (K (.tup [.view 0, .dat I64 0]) [.row 5 (.int .u8) (rsB x) .own]))
  | _, _ => none⟩
theorem blE2 {s : ByteArray} : blE (bytesOf s) 2 = bif decide (65535 < (s.size : Int)) then 17 else 0 := by
  unfold blE
  have e1 : shl .i64 1 (IntKind.i64.wrap (8 * 2)) = 65536 := by decide +kernel
  rw [e1, bytesOf_length]
  show (bif decide ((65536 : Int) ≤ (s.size : Int)) then (17 : Int) else 0) = _
  rw [show decide ((65536 : Int) ≤ (s.size : Int)) = decide (65535 < (s.size : Int)) from by rw [Bool.eq_iff_iff, decide_eq_true_iff, decide_eq_true_iff]; omega]
theorem rs_run {R : Type} (K : KV R) (x : RsV) (hl : x.2.2.size < 400000) : (codeX Tryd.prog G10 lvN 0 Tryd.f10).run [.dat RsT x] [] K = cond (rsBad x) (K (.tup [.nils, .dat I64 2]) []) (K (.tup [.view 0, .dat I64 0]) [.row 5 (.int .u8) (rsB x) .own]) := by
  refine (rs_0 K x).trans ?_
  obtain ⟨c, v, s⟩ := x
  dsimp only at hl ⊢
  simp only [ck_pos (show s.size ≤ limit by unfold limit; omega), ck_pos (show (bytesOf s).length < 500000 by rw [bytesOf_length]; omega)]
  rw [blE2, whBad_eq]
  unfold rsBad rsB
  dsimp only
  by_cases h1 : v < -2147483648
  · rw [decide_eq_true h1]
    cases decide (65535 < (s.size : Int)) <;> cases decide (c < 0) <;> cases decide (18 < c) <;> rfl
  by_cases h2 : 2147483647 < v
  · rw [decide_eq_false h1, decide_eq_true h2]
    cases decide (65535 < (s.size : Int)) <;> cases decide (c < 0) <;> cases decide (18 < c) <;> rfl
  rw [decide_eq_false h1, decide_eq_false h2, Bool.false_or, cond_false]
  by_cases h3 : 65535 < (s.size : Int)
  · rw [decide_eq_true h3]
    cases decide (c < 0) <;> cases decide (18 < c) <;> rfl
  rw [decide_eq_false h3, ck_pos (by rw [List.length_append, pB_len, bytesOf_length]; omega), bytesOf_length]
  cases decide (c < 0) <;> cases decide (18 < c) <;> rfl
theorem all10 : AllOk Tryd.prog [(26, F12), (27, F27v), (28, F28j)] := ⟨F12_ok, F27v_ok, F28j_ok, trivial⟩
theorem F10r_ok : SumOk Tryd.prog 10 F10r := by
  refine (codeX_ok (k := 0) (lv := lvN) mixed noNG_prog (sums_call (Wr := all) all10) (sums_prim all10) (fn := Tryd.f10) rfl).le (fun f args ob K => by unfold F10r; dsimp only; split <;> simp only [bd_none, bd_cond, bd_ck]) ?_
  intro R args ob K r h
  unfold F10r at h; dsimp only at h
  split at h
  · obtain ⟨hl, h⟩ := ck_elim h
    exact (rs_run K _ hl).trans h
  · cases h
theorem rr_run {R : Type} (K : KV R) (x : RsV) (hl : x.2.2.size < 400000) : (codeX Tryd.prog G11 lvN 0 Tryd.f11).run [.dat RsT x] [] K = cond (rsBad x) (K (.tup [.nils, .dat I64 2]) []) (K (.tup [.view 0, .dat I64 0]) [.row 5 (.int .u8) (rsB x) .own]) := by
  refine (rr_0 K x).trans ?_
  obtain ⟨c, v, s⟩ := x
  dsimp only at hl ⊢
  rw [blE2, whBad_eq]
  unfold rsBad rsB
  dsimp only
  by_cases h3 : 65535 < (s.size : Int)
  · rw [decide_eq_true h3]
    cases decide (c < 0) <;> cases decide (18 < c) <;> cases decide (v < -2147483648) <;> cases decide (2147483647 < v) <;> rfl
  have hk : (5 + List.length (pB (s.size : Int) 2 ++ bytesOf s)) * 1 ≤ limit := by rw [List.length_append, pB_len, bytesOf_length]; unfold limit; omega
  simp only [decide_eq_false h3, ck_pos (show s.size < 500000 by omega), ck_pos hk]
  cases decide (c < 0) <;> cases decide (18 < c) <;> cases decide (v < -2147483648) <;> cases decide (2147483647 < v) <;> rfl
theorem all11 : AllOk Tryd.prog [(29, F12), (30, F30b)] := ⟨F29_ok, F30b_ok, trivial⟩
theorem F11r_ok : SumOk Tryd.prog 11 F10r := by
  refine (codeX_ok (k := 0) (lv := lvN) mixed noNG_prog (sums_call (Wr := all) all11) (sums_prim all11) (fn := Tryd.f11) rfl).le (fun f args ob K => by unfold F10r; dsimp only; split <;> simp only [bd_none, bd_cond, bd_ck]) ?_
  intro R args ob K r h
  unfold F10r at h; dsimp only at h
  split at h
  · obtain ⟨hl, h⟩ := ck_elim h
    exact (rr_run K _ hl).trans h
  · cases h
def of1 (b : List Int) : RV := numS (newV b) 1
def of2 (b : List Int) : RV := numS (of1 b) 4
def of3 (b : List Int) : RV := blobS (of2 b) 2
def ofC (b : List Int) : Int := IntKind.i64.wrap (numV (newV b) 1)
def ofT (b : List Int) : List Int := blobV (of2 b) 2
def ofOk (b : List Int) : Bool := decide (endV (of3 b) = 0) && !decide (18 < ofC b)
def ofR (b : List Int) : RsV := bif ofOk b then (ofC b, wholeV (numV (of1 b) 4), strOf (ofT b)) else (0, 0, ⟨#[]⟩)
def ofE (b : List Int) : Int := bif ofOk b then 0 else 2
def F12o : Summ := ⟨fun args ob K => match args, ob with
  | [.dat (.sl (.int .u8)) b], [] => ck (b.length < 100000) (K (.tup [.dat RsT (ofR b), .dat I64 (ofE b)]) [])
  | [.view 0], [.row 5 (.int .u8) b .own] => ck (b.length < 100000) (K (.tup [.dat RsT (ofR b), .dat I64 (ofE b)]) [.row 5 (.int .u8) b .own])
  | _, _ => none⟩
theorem of_len (b : List Int) : (of1 b).1.length ≤ b.length ∧ (of2 b).1.length ≤ b.length := by
  have h1 : (of1 b).1.length ≤ b.length := takeS_len _ _
  exact ⟨h1, Nat.le_trans (takeS_len _ _) h1⟩
theorem of_fin {R : Type} (K : KV R) (b : List Int) (o : List AO) : (listK (blobV (numS (numS (newV b) 1) 4) 2) (bif !decide (endV (blobS (numS (numS (newV b) 1) 4) 2) = 0) then K (AV.tup [AV.dat RsT (0, 0, ByteArray.mk #[]), AV.dat I64 2]) o else bif decide (18 < IntKind.i64.wrap (numV (newV b) 1)) then K (AV.tup [AV.dat RsT (0, 0, ByteArray.mk #[]), AV.dat I64 2]) o else K (AV.tup [AV.dat RsT (IntKind.i64.wrap (numV (newV b) 1), wholeV (numV (numS (newV b) 1) 4), strOf []), AV.dat I64 0]) o) fun z zs => bif !decide (endV (blobS (numS (numS (newV b) 1) 4) 2) = 0) then K (AV.tup [AV.dat RsT (0, 0, ByteArray.mk #[]), AV.dat I64 2]) o else bif decide (18 < IntKind.i64.wrap (numV (newV b) 1)) then K (AV.tup [AV.dat RsT (0, 0, ByteArray.mk #[]), AV.dat I64 2]) o else K (AV.tup [AV.dat RsT (IntKind.i64.wrap (numV (newV b) 1), wholeV (numV (numS (newV b) 1) 4), strOf (z :: zs)), AV.dat I64 0]) o) = K (.tup [.dat RsT (ofR b), .dat I64 (ofE b)]) o := by
  unfold ofR ofE ofOk
  show listK (ofT b) (bif !decide (endV (of3 b) = 0) then _ else bif decide (18 < ofC b) then _ else _) _ = _
  cases ht : ofT b with
  | nil =>
    show (bif !decide (endV (of3 b) = 0) then _ else bif decide (18 < ofC b) then _ else _) = _
    cases decide (endV (of3 b) = 0) <;> cases decide (18 < ofC b) <;> rfl
  | cons z zs =>
    show (bif !decide (endV (of3 b) = 0) then _ else bif decide (18 < ofC b) then _ else _) = _
    cases decide (endV (of3 b) = 0) <;> cases decide (18 < ofC b) <;> rfl
theorem all12r : AllOk Tryd.prog [(31, F17), (32, inS 32 cl F18), (33, inS 33 cl F20), (34, inS 34 cl F22), (35, inS 35 cl F28)] := ⟨F17_ok, in_ok F18_ok, in_ok F20_ok, in_ok F22_ok, in_ok F28_ok, trivial⟩
theorem F12o_ok : SumOk Tryd.prog 12 F12o := by
  refine (codeX_ok (k := 0) (lv := lvN) mixed noNG_prog (sums_call (Wr := all) all12r) (sums_prim all12r) (fn := Tryd.f12) rfl).le (fun f args ob K => by unfold F12o; dsimp only; split <;> simp only [bd_none, bd_ck]) ?_
  intro R args ob K r h
  unfold F12o at h; dsimp only at h
  split at h
  · rename_i b
    obtain ⟨hl, h⟩ := ck_elim h
    obtain ⟨l1, l2⟩ := of_len b
    refine (of_d K b).trans ?_
    rw [ck_pos (by omega), ck_pos (show (newV b).1.length < 100000 from hl), ck_pos (show (numS (newV b) 1).1.length < 100000 from Nat.lt_of_le_of_lt l1 hl), ck_pos (show (numS (numS (newV b) 1) 4).1.length < 100000 from Nat.lt_of_le_of_lt l2 hl)]
    exact (of_fin K b []).trans h
  · rename_i b
    obtain ⟨hl, h⟩ := ck_elim h
    obtain ⟨l1, l2⟩ := of_len b
    refine (of_v K b).trans ?_
    rw [ck_pos (by omega), ck_pos (show (newV b).1.length < 100000 from hl), ck_pos (show (numS (newV b) 1).1.length < 100000 from Nat.lt_of_le_of_lt l1 hl), ck_pos (show (numS (numS (newV b) 1) 4).1.length < 100000 from Nat.lt_of_le_of_lt l2 hl)]
    exact (of_fin K b _).trans h
  · cases h
noncomputable def G3 : Sums := sums all [(9, F9k), (10, F10r), (11, F10r), (12, F12o)]
theorem la_0 {R : Type} (K : KV R) (x : RsV) : (codeX Tryd.prog G3 lvN 0 Tryd.f3).run [.dat RsT x] [] K = bif decide ((70000 : Int) < (↑(ByteArray.size x.2.2) : Int)) then K (AV.dat T.bool true) [] else ck (ByteArray.size x.2.2 < (400000 : Nat)) (bif rsBad x then ck (ByteArray.size x.2.2 < (400000 : Nat)) (bif rsBad x then K (AV.dat T.bool true) [] else K (AV.dat T.bool false) []) else ck (ByteArray.size x.2.2 < (400000 : Nat)) (bif rsBad x then K (AV.dat T.bool false) [] else bif !decide (strOf (rsB x) = strOf (rsB x)) then K (AV.dat T.bool false) [] else ck (List.length (rsB x) < (100000 : Nat)) (bif decide (ofE (rsB x) = (0 : Int)) then bif decide ((ofR (rsB x)).1 = x.1) && (decide ((ofR (rsB x)).2.1 = x.2.1) && decide ((ofR (rsB x)).2.2 = x.2.2)) then K (AV.dat T.bool true) [] else K (AV.dat T.bool false) [] else K (AV.dat T.bool false) []))) := by kernel_rfl
end Go.Mx
