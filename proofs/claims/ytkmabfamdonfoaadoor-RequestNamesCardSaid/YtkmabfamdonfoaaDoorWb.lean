/- Own work. A part of the proof of a law of this seat: this seat's functions, by the machine, and the plain law -/
import Derived.Test.YtkmabfamdonfoaaDoorMe
import Derived.Test.YtkmabfamdonfoaaDoorWa
namespace Go.Mx
set_option linter.unusedVariables false
set_option linter.unusedSimpArgs false
open Go Go.RowKit Go.Sx Go.Proofs
set_option maxRecDepth 100000
abbrev RT := T.pair BL (T.pair .bool .bool)
abbrev QT := T.pair BL .bool
def cl : List (TypeId × T) := [(107, RT), (75, QT), (74, QT)]
def lvN : Tl := ⟨fun _ => none, cl⟩
def lv18 : Tl := ⟨fun q => match q with | 1 => some [4, 5, 6] | _ => none, cl⟩
def lv19 : Tl := ⟨fun q => match q with | 0 => some [0, 1, 5, 6, 7] | _ => none, cl⟩
abbrev RV := List Int × Bool × Bool
abbrev QV := List Int × Bool
def F30 : Summ := ⟨fun args ob K => match args, ob with
  | [.ptr 0 []], [.box 107 v w] => (asD RT v).bind fun x => K (.dat .bool (!x.2.1 || x.2.2)) [.box 107 v w]
  | _, _ => none⟩
def takeV (x : RV) (n : Int) : List Int := if (!x.2.1 || x.2.2) = true then [] else if n < 0 ∨ (x.1.length : Int) < n then [] else x.1.take n.toNat
def takeS (x : RV) (n : Int) : RV := if (!x.2.1 || x.2.2) = true then x else if n < 0 ∨ (x.1.length : Int) < n then ([], x.2.1, true) else (x.1.drop n.toNat, x.2)
def F33 : Summ := ⟨fun args ob K => match args, ob with
  | [.ptr 0 [], .dat (.int .i64) n], [.box 107 v true] => (asD RT v).bind fun x => K (.dat BL (takeV x n)) [.box 107 (.dat RT (takeS x n)) true]
  | _, _ => none⟩
def G33 : Sums := sums all [(59, F30)]
theorem failed_0 {R : Type} (K : KV R) (x : RV) (w : Bool) : (codeX Tryd.prog (sums all []) lvN 0 Tryd.f59).run [.ptr 0 []] [.box 107 (.dat RT x) w] K = bif !Prod.fst (Prod.snd x) then K (AV.dat T.bool true) [AO.box (107 : Nat) (AV.dat (T.pair (T.sl (T.int IntKind.u8)) (T.pair T.bool T.bool)) x) w] else K (AV.dat T.bool (Prod.snd (Prod.snd x))) [AO.box (107 : Nat) (AV.dat (T.pair (T.sl (T.int IntKind.u8)) (T.pair T.bool T.bool)) x) w] := by kernel_rfl
theorem take_0 {R : Type} (K : KV R) (x : RV) (n : Int) : (backS [BL] cl (codeX Tryd.prog G33 lvN 0 Tryd.f66)).run [.ptr 0 [], .dat (.int .i64) n] [.box 107 (.dat RT x) true] K = bif !Prod.fst (Prod.snd x) || Prod.snd (Prod.snd x) then K (AV.dat (T.sl (T.int IntKind.u8)) []) [AO.box (107 : Nat) (AV.dat (T.pair (T.sl (T.int IntKind.u8)) (T.pair T.bool T.bool)) x) true] else bif decide (n < (0 : Int)) then K (AV.dat (T.sl (T.int IntKind.u8)) []) [AO.box (107 : Nat) (AV.dat (T.pair (T.sl (T.int IntKind.u8)) (T.pair T.bool T.bool)) ([], Prod.fst (Prod.snd x), true)) true] else bif decide ((↑(List.length (Prod.fst x)) : Int) < n) then K (AV.dat (T.sl (T.int IntKind.u8)) []) [AO.box (107 : Nat) (AV.dat (T.pair (T.sl (T.int IntKind.u8)) (T.pair T.bool T.bool)) ([], Prod.fst (Prod.snd x), true)) true] else ck ((0 : Int) ≤ n ∧ n ≤ n ∧ n ≤ (↑(List.length (Prod.fst x)) : Int)) (bif noRoom (Int.toNat n) (some n) then ck ((0 : Int) ≤ n ∧ n ≤ (↑(List.length (Prod.fst x)) : Int)) (K (AV.dat (T.sl (T.int IntKind.u8)) []) [AO.box (107 : Nat) (AV.dat (T.pair (T.sl (T.int IntKind.u8)) (T.pair T.bool T.bool)) (cutA (some n) none (Prod.fst x), Prod.snd x)) true]) else ck ((0 : Int) ≤ n ∧ n ≤ (↑(List.length (Prod.fst x)) : Int)) (K (AV.dat (T.sl (T.int IntKind.u8)) (cutA none (some n) (Prod.fst x))) [AO.box (107 : Nat) (AV.dat (T.pair (T.sl (T.int IntKind.u8)) (T.pair T.bool T.bool)) (cutA (some n) none (Prod.fst x), Prod.snd x)) true])) := by kernel_rfl
def G18 : Sums := sums all [(66, inS 66 cl F33)]
theorem num_0 {R : Type} (L : Nat → St → (Exit → St → Option R) → Option R) (K : KV R) (x : RV) (n : Int) : runX Tryd.prog G18 lv18 Tryd.f32 1 L [.ptr 0 [], .dat (.int .i64) n] [.box 107 (.dat RT x) true] K = bif decide (n < (1 : Int)) then bif decide (IntKind.wrap IntKind.i64 ((↑(List.length (takeV x (-1 : Int))) : Int) - (1 : Int)) < (0 : Int)) then K (AV.dat (T.int IntKind.u64) (0 : Int)) [AO.box (107 : Nat) (AV.dat (T.pair (T.sl (T.int IntKind.u8)) (T.pair T.bool T.bool)) (takeS x (-1 : Int))) true] else ck ((0 : Int) ≤ IntKind.wrap IntKind.i64 ((↑(List.length (takeV x (-1 : Int))) : Int) - (1 : Int))) (Option.bind (takeV x (-1 : Int))[Int.toNat (IntKind.wrap IntKind.i64 ((↑(List.length (takeV x (-1 : Int))) : Int) - (1 : Int)))]? fun x_1 ↦ L (1 : Nat) (St.mk [((4 : Nat), AV.dat (T.int IntKind.u64) (bits BinOp.or IntKind.u64 (0 : Int) (IntKind.wrap IntKind.u64 x_1))), ((5 : Nat), AV.dat (T.sl (T.int IntKind.u8)) (takeV x (-1 : Int))), ((6 : Nat), AV.dat (T.int IntKind.i64) (IntKind.wrap IntKind.i64 (IntKind.wrap IntKind.i64 ((↑(List.length (takeV x (-1 : Int))) : Int) - (1 : Int)) - (1 : Int))))] [AO.box (107 : Nat) (AV.dat (T.pair (T.sl (T.int IntKind.u8)) (T.pair T.bool T.bool)) (takeS x (-1 : Int))) true]) (endX Tryd.prog G18 lv18 Tryd.f32 (1 : Nat) L K (1 : Nat))) else bif decide ((8 : Int) < n) then bif decide (IntKind.wrap IntKind.i64 ((↑(List.length (takeV x (-1 : Int))) : Int) - (1 : Int)) < (0 : Int)) then K (AV.dat (T.int IntKind.u64) (0 : Int)) [AO.box (107 : Nat) (AV.dat (T.pair (T.sl (T.int IntKind.u8)) (T.pair T.bool T.bool)) (takeS x (-1 : Int))) true] else ck ((0 : Int) ≤ IntKind.wrap IntKind.i64 ((↑(List.length (takeV x (-1 : Int))) : Int) - (1 : Int))) (Option.bind (takeV x (-1 : Int))[Int.toNat (IntKind.wrap IntKind.i64 ((↑(List.length (takeV x (-1 : Int))) : Int) - (1 : Int)))]? fun x_1 ↦ L (1 : Nat) (St.mk [((4 : Nat), AV.dat (T.int IntKind.u64) (bits BinOp.or IntKind.u64 (0 : Int) (IntKind.wrap IntKind.u64 x_1))), ((5 : Nat), AV.dat (T.sl (T.int IntKind.u8)) (takeV x (-1 : Int))), ((6 : Nat), AV.dat (T.int IntKind.i64) (IntKind.wrap IntKind.i64 (IntKind.wrap IntKind.i64 ((↑(List.length (takeV x (-1 : Int))) : Int) - (1 : Int)) - (1 : Int))))] [AO.box (107 : Nat) (AV.dat (T.pair (T.sl (T.int IntKind.u8)) (T.pair T.bool T.bool)) (takeS x (-1 : Int))) true]) (endX Tryd.prog G18 lv18 Tryd.f32 (1 : Nat) L K (1 : Nat))) else bif decide (IntKind.wrap IntKind.i64 ((↑(List.length (takeV x n)) : Int) - (1 : Int)) < (0 : Int)) then K (AV.dat (T.int IntKind.u64) (0 : Int)) [AO.box (107 : Nat) (AV.dat (T.pair (T.sl (T.int IntKind.u8)) (T.pair T.bool T.bool)) (takeS x n)) true] else ck ((0 : Int) ≤ IntKind.wrap IntKind.i64 ((↑(List.length (takeV x n)) : Int) - (1 : Int))) (Option.bind (takeV x n)[Int.toNat (IntKind.wrap IntKind.i64 ((↑(List.length (takeV x n)) : Int) - (1 : Int)))]? fun x_1 ↦ L (1 : Nat) (St.mk [((4 : Nat), AV.dat (T.int IntKind.u64) (bits BinOp.or IntKind.u64 (0 : Int) (IntKind.wrap IntKind.u64 x_1))), ((5 : Nat), AV.dat (T.sl (T.int IntKind.u8)) (takeV x n)), ((6 : Nat), AV.dat (T.int IntKind.i64) (IntKind.wrap IntKind.i64 (IntKind.wrap IntKind.i64 ((↑(List.length (takeV x n)) : Int) - (1 : Int)) - (1 : Int))))] [AO.box (107 : Nat) (AV.dat (T.pair (T.sl (T.int IntKind.u8)) (T.pair T.bool T.bool)) (takeS x n)) true]) (endX Tryd.prog G18 lv18 Tryd.f32 (1 : Nat) L K (1 : Nat))) := by kernel_rfl
theorem num_s {R : Type} (L L0 : Nat → St → (Exit → St → Option R) → Option R) (K : KV R) (x : RV) (n : Int) (b : List Int) (i : Int) : stepX Tryd.prog G18 lv18 1 (codeOf Tryd.f32) L 1 ⟨[(4, .dat (.int .u64) n), (5, .dat BL b), (6, .dat (.int .i64) i)], [.box 107 (.dat RT x) true]⟩ (endX Tryd.prog G18 lv18 Tryd.f32 1 L0 K 1) = bif decide (i < (0 : Int)) then K (AV.dat (T.int IntKind.u64) n) [AO.box (107 : Nat) (AV.dat (T.pair (T.sl (T.int IntKind.u8)) (T.pair T.bool T.bool)) x) true] else ck ((0 : Int) ≤ i) (Option.bind b[Int.toNat i]? fun x_1 ↦ L (1 : Nat) (St.mk [((4 : Nat), AV.dat (T.int IntKind.u64) (bits BinOp.or IntKind.u64 (shl IntKind.u64 n (8 : Int)) (IntKind.wrap IntKind.u64 x_1))), ((5 : Nat), AV.dat (T.sl (T.int IntKind.u8)) b), ((6 : Nat), AV.dat (T.int IntKind.i64) (IntKind.wrap IntKind.i64 (i - (1 : Int))))] [AO.box (107 : Nat) (AV.dat (T.pair (T.sl (T.int IntKind.u8)) (T.pair T.bool T.bool)) x) true]) (endX Tryd.prog G18 lv18 Tryd.f32 (1 : Nat) L0 K (1 : Nat))) := by kernel_rfl
theorem F30_ok : SumOk Tryd.prog 59 F30 := by
  refine (codeX_ok (k := 0) (lv := lvN) mixed noNG_prog (sums_call (Wr := all) (l := []) trivial) (sums_prim trivial) (fn := Tryd.f59) rfl).le ?_ ?_
  · intro R R' f args ob K
    unfold F30; dsimp only
    split <;> simp only [bd_bind, bd_none]
  · intro R args ob K r h
    unfold F30 at h; dsimp only at h
    split at h
    · obtain ⟨x, hx, h2⟩ := Option.bind_eq_some_iff.1 h
      obtain rfl := asD_ok hx
      refine (failed_0 K x _).trans (Eq.trans ?_ h2)
      cases x.2.1 <;> rfl
    · cases h
theorem take_run {R : Type} (K : KV R) (x : RV) (n : Int) : (backS [BL] cl (codeX Tryd.prog G33 lvN 0 Tryd.f66)).run [.ptr 0 [], .dat (.int .i64) n] [.box 107 (.dat RT x) true] K = K (.dat BL (takeV x n)) [.box 107 (.dat RT (takeS x n)) true] := by
  obtain ⟨xs, made, bad⟩ := x
  refine (take_0 K (xs, made, bad) n).trans ?_
  unfold takeV takeS
  dsimp only
  by_cases hb : (!made || bad) = true
  · simp only [hb, cond_true, if_true]
  · have hb' : (!made || bad) = false := by simpa using hb
    simp only [hb', cond_false, Bool.false_eq_true, if_false]
    by_cases h1 : n < 0
    · simp only [h1, decide_true, cond_true, true_or, if_true]
    · by_cases h2 : (xs.length : Int) < n
      · simp only [h1, h2, decide_true, decide_false, cond_true, cond_false, or_true, if_true]
      · simp only [h1, h2, decide_false, cond_false, or_false, if_false]
        rw [ck_pos (by omega), ck_pos (by omega), ck_pos (by omega)]
        cases hn : noRoom n.toNat (some n) with
        | false => rfl
        | true =>
          have : n = 0 := by unfold noRoom at hn; simp at hn; exact hn.2
          subst this
          rfl
theorem F33_ok : SumOk Tryd.prog 66 F33 := by
  refine (back_ok (ts := [BL]) (l := cl) (codeX_ok (k := 0) (lv := lvN) mixed noNG_prog (sums_call (Wr := all) (l := [(59, F30)]) ⟨F30_ok, trivial⟩) (sums_prim ⟨F30_ok, trivial⟩) (fn := Tryd.f66) rfl)).le ?_ ?_
  · intro R R' f args ob K
    unfold F33; dsimp only
    split <;> simp only [bd_bind, bd_none]
  · intro R args ob K r h
    unfold F33 at h; dsimp only at h
    split at h
    · obtain ⟨x, hx, h2⟩ := Option.bind_eq_some_iff.1 h
      obtain rfl := asD_ok hx
      exact (take_run K x _).trans h2
    · cases h
/-- a number, of bytes, the last one first -/
def numF (b : List Int) : Nat → Int → Int
  | 0, n => n
  | j + 1, n => numF b j (bits .or .u64 (shl .u64 n 8) (IntKind.u64.wrap (b.getD j 0)))
theorem getq {b : List Int} {i : Int} {j : Nat} (h : i = j) (hj : j < b.length) : b[i.toNat]? = some (b.getD j 0) := by
  subst h
  rw [Int.toNat_natCast, List.getElem?_eq_getElem hj, List.getD_eq_getElem?_getD, List.getElem?_eq_getElem hj]; rfl
theorem num_loop {R : Type} (L0 : Nat → St → (Exit → St → Option R) → Option R) (K : KV R) (x : RV) (b : List Int) (hb : b.length < 4611686018427387904) : ∀ (j : Nat) (k : Nat) (n i : Int), j ≤ b.length → j < k → i = (j : Int) - 1 →
    LX Tryd.prog G18 lv18 1 (codeOf Tryd.f32) k 1 ⟨[(4, .dat (.int .u64) n), (5, .dat BL b), (6, .dat (.int .i64) i)], [.box 107 (.dat RT x) true]⟩ (endX Tryd.prog G18 lv18 Tryd.f32 1 L0 K 1) = K (.dat (.int .u64) (numF b j n)) [.box 107 (.dat RT x) true] := by
  intro j
  induction j with
  | zero =>
    intro k n i hj hk hi
    obtain ⟨k, rfl⟩ : ∃ q, k = q + 1 := ⟨k - 1, by omega⟩
    refine (num_s _ L0 K x n b i).trans ?_
    rw [show decide (i < 0) = true from decide_eq_true (by omega), cond_true]
    rfl
  | succ j ih =>
    intro k n i hj hk hi
    obtain ⟨k, rfl⟩ : ∃ q, k = q + 1 := ⟨k - 1, by omega⟩
    refine (num_s _ L0 K x n b i).trans ?_
    rw [show decide (i < 0) = false from decide_eq_false (by omega), cond_false, ck_pos (by omega), getq (j := j) (by omega) (by omega), wrapS (by omega)]
    exact ih k _ _ (by omega) (by omega) (by omega)
def sizeOk (n : Int) : Int := if n < 1 ∨ 8 < n then -1 else n
def numV (x : RV) (n : Int) : Int := numF (takeV x (sizeOk n)) (takeV x (sizeOk n)).length 0
def numS (x : RV) (n : Int) : RV := takeS x (sizeOk n)
def F18 : Summ := ⟨fun args ob K => match args, ob with
  | [.ptr 0 [], .dat (.int .i64) n], [.box 107 v true] => (asD RT v).bind fun x => ck (x.1.length < 100000) (K (.dat (.int .u64) (numV x n)) [.box 107 (.dat RT (numS x n)) true])
  | _, _ => none⟩
theorem takeV_len (x : RV) (n : Int) : (takeV x n).length ≤ x.1.length := by
  unfold takeV; repeat' split
  all_goals first | (simp; done) | (simp; omega)
theorem first {R : Type} (x : RV) (n : Int) (hx : x.1.length < 100000) (K : KV R) :
    (bif decide (IntKind.wrap IntKind.i64 ((↑(List.length (takeV x n)) : Int) - 1) < 0) then K (AV.dat (T.int IntKind.u64) 0) [AO.box 107 (AV.dat (T.pair (T.sl (T.int IntKind.u8)) (T.pair T.bool T.bool)) (takeS x n)) true] else ck (0 ≤ IntKind.wrap IntKind.i64 ((↑(List.length (takeV x n)) : Int) - 1)) (Option.bind (takeV x n)[Int.toNat (IntKind.wrap IntKind.i64 ((↑(List.length (takeV x n)) : Int) - 1))]? fun x_1 ↦ LX Tryd.prog G18 lv18 1 (codeOf Tryd.f32) 100001 1 (St.mk [(4, AV.dat (T.int IntKind.u64) (bits BinOp.or IntKind.u64 0 (IntKind.wrap IntKind.u64 x_1))), (5, AV.dat (T.sl (T.int IntKind.u8)) (takeV x n)), (6, AV.dat (T.int IntKind.i64) (IntKind.wrap IntKind.i64 (IntKind.wrap IntKind.i64 ((↑(List.length (takeV x n)) : Int) - 1) - 1)))] [AO.box 107 (AV.dat (T.pair (T.sl (T.int IntKind.u8)) (T.pair T.bool T.bool)) (takeS x n)) true]) (endX Tryd.prog G18 lv18 Tryd.f32 1 (LX Tryd.prog G18 lv18 1 (codeOf Tryd.f32) 100001) K 1)))
      = K (.dat (.int .u64) (numF (takeV x n) (takeV x n).length 0)) [.box 107 (.dat RT (takeS x n)) true] := by
  have hl := takeV_len x n
  rw [wrapS (x := (↑(List.length (takeV x n)) : Int) - 1) (by omega)]
  generalize takeV x n = b at *
  cases hb : b.length with
  | zero => rfl
  | succ m =>
    rw [show decide (((m + 1 : Nat) : Int) - 1 < 0) = false from decide_eq_false (by omega), cond_false, ck_pos (by omega), getq (j := m) (by omega) (by omega), wrapS (by omega)]
    exact num_loop _ K _ b (by omega) m 100001 _ _ (by omega) (by omega) (by omega)
theorem num_run {R : Type} (K : KV R) (x : RV) (n : Int) (hlen : x.1.length < 100000) : (codeX Tryd.prog G18 lv18 100001 Tryd.f32).run [.ptr 0 [], .dat (.int .i64) n] [.box 107 (.dat RT x) true] K = K (.dat (.int .u64) (numV x n)) [.box 107 (.dat RT (numS x n)) true] := by
  refine (num_0 _ K x n).trans ?_
  unfold numV numS sizeOk
  by_cases h1 : n < 1
  · rw [if_pos (Or.inl h1), show decide (n < 1) = true from decide_eq_true (by omega), cond_true]
    exact first x (-1) hlen K
  · by_cases h2 : 8 < n
    · rw [if_pos (Or.inr h2), show decide (n < 1) = false from decide_eq_false (by omega), cond_false, show decide (8 < n) = true from decide_eq_true (by omega), cond_true]
      exact first x (-1) hlen K
    · rw [if_neg (by omega), show decide (n < 1) = false from decide_eq_false (by omega), cond_false, show decide (8 < n) = false from decide_eq_false (by omega), cond_false]
      exact first x n hlen K
theorem F18_ok : SumOk Tryd.prog 32 F18 := by
  refine (codeX_ok (k := 100001) (lv := lv18) mixed noNG_prog (sums_call (Wr := all) (l := [(66, inS 66 cl F33)]) ⟨in_ok F33_ok, trivial⟩) (sums_prim ⟨in_ok F33_ok, trivial⟩) (fn := Tryd.f32) rfl).le ?_ ?_
  · intro R R' f args ob K
    unfold F18; dsimp only
    split <;> simp only [bd_bind, bd_ck, bd_none]
  · intro R args ob K r h
    unfold F18 at h; dsimp only at h
    split at h
    · obtain ⟨x, hx, h2⟩ := Option.bind_eq_some_iff.1 h
      obtain rfl := asD_ok hx
      obtain ⟨hlen, h3⟩ := ck_elim h2
      exact (num_run K x _ hlen).trans h3
    · cases h
end Go.Mx
