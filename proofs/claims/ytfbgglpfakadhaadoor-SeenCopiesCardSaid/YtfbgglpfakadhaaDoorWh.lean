/- Own work. A part of the proof of a law of this seat: this seat's functions, by the machine, and the plain law -/
import Derived.Test.YtfbgglpfakadhaaDoorWg
import Derived.Test.YtfbgglpfakadhaaDoorMe
/- noted: both sets after a list is noted. -/
namespace Go.Mx
open Go Go.RowKit Go.Sx Go.Proofs
set_option linter.unusedVariables false
set_option linter.unusedSimpArgs false
set_option maxRecDepth 100000
def F28 : Summ := ⟨fun args ob K => match args, ob with
  | [], [] => K (.ptr 0 []) [.box 54 (.pr .nils (.pr .nilm (.dat .bool false))) true]
  | _, _ => none⟩
theorem new_0 {R : Type} (K : KV R) : (W 28).run [] [] K = K (AV.ptr (0 : Nat) []) [AO.box (54 : Nat) (AV.pr AV.nils (AV.pr AV.nilm (AV.dat T.bool false))) true] := by kernel_rfl
theorem F28_ok : SumOk Tryd.prog 28 F28 := by
  refine (W_ok 28).le ?_ ?_
  · intro R R' f args ob K
    unfold F28; dsimp only
    split <;> simp only [bd_none]
  · intro R args ob K r h
    unfold F28 at h; dsimp only at h
    split at h
    · exact (new_0 K).trans h
    · cases h
noncomputable def G11 : Sums := sums all [(28, F28), (14, F14), (25, F25)]
def lv11 : Tl := ⟨fun q => match q with | 0 => some [0, 5, 6, 7] | _ => none, []⟩
theorem noted_0 {R : Type} (L : Nat → St → (Exit → St → Option R) → Option R) (K : KV R) (l : List SV) : runX Tryd.prog G11 lv11 Tryd.f11 0 L [.dat (.sl ST) l] [] K = L (0 : Nat) (St.mk [((0 : Nat), AV.dat (T.sl (T.pair (T.int IntKind.i64) (T.pair (T.int IntKind.i64) (T.pair (T.int IntKind.i64) (T.pair T.bool (T.pair (T.int IntKind.i64) (T.pair (T.int IntKind.u64) (T.int IntKind.i64)))))))) l), ((5 : Nat), AV.ptr (0 : Nat) []), ((6 : Nat), AV.ptr (1 : Nat) []), ((7 : Nat), AV.dat (T.int IntKind.i64) (0 : Int))] [AO.box (54 : Nat) (AV.pr AV.nils (AV.pr AV.nilm (AV.dat T.bool false))) true, AO.box (43 : Nat) (AV.pr AV.nils (AV.dat T.bool false)) true]) (endX Tryd.prog G11 lv11 Tryd.f11 (0 : Nat) L K (0 : Nat)) := by kernel_rfl
theorem noted_e {R : Type} (L L0 : Nat → St → (Exit → St → Option R) → Option R) (K : KV R) (l : List SV) (i : Int) (b c : Bool) : stepX Tryd.prog G11 lv11 0 (codeOf Tryd.f11) L 0 ⟨[(0, .dat (.sl ST) l), (5, .ptr 0 []), (6, .ptr 1 []), (7, .dat I64 i)], [.box 54 (.pr .nils (.pr .nilm (.dat .bool b))) true, .box 43 (.pr .nils (.dat .bool c)) true]⟩ (endX Tryd.prog G11 lv11 Tryd.f11 0 L0 K 0) = bif decide (i < (↑(List.length l) : Int)) then ck ((0 : Int) ≤ i) (Option.bind l[Int.toNat i]? fun x ↦ bif mayB x then ck ((0 : Int) ≤ i) (Option.bind l[Int.toNat i]? fun x_1 ↦ bif rmayB x_1 then L (0 : Nat) (St.mk [((0 : Nat), AV.dat (T.sl (T.pair (T.int IntKind.i64) (T.pair (T.int IntKind.i64) (T.pair (T.int IntKind.i64) (T.pair T.bool (T.pair (T.int IntKind.i64) (T.pair (T.int IntKind.u64) (T.int IntKind.i64)))))))) l), ((5 : Nat), AV.ptr (0 : Nat) []), ((6 : Nat), AV.ptr (3 : Nat) []), ((7 : Nat), AV.dat (T.int IntKind.i64) (IntKind.wrap IntKind.i64 (i + (1 : Int))))] [AO.box (54 : Nat) (AV.pr (AV.view (1 : Nat)) (AV.pr (AV.mp (2 : Nat)) (AV.dat T.bool b))) true, AO.row (36 : Nat) (T.pair (T.int IntKind.i64) (T.pair (T.int IntKind.i64) (T.pair (T.int IntKind.i64) (T.pair T.bool (T.pair (T.int IntKind.i64) (T.pair (T.int IntKind.u64) (T.int IntKind.i64))))))) [x] Md.own, AO.map (T.pair (T.int IntKind.i64) (T.pair (T.int IntKind.i64) (T.int IntKind.i64))) (T.int IntKind.i64) (ats (0 : Nat) [x]) true, AO.box (43 : Nat) (AV.pr (AV.view (4 : Nat)) (AV.dat T.bool c)) true, AO.row (36 : Nat) (T.pair (T.int IntKind.i64) (T.pair (T.int IntKind.i64) (T.pair (T.int IntKind.i64) (T.pair T.bool (T.pair (T.int IntKind.i64) (T.pair (T.int IntKind.u64) (T.int IntKind.i64))))))) [x_1] Md.own]) (endX Tryd.prog G11 lv11 Tryd.f11 (0 : Nat) L0 K (0 : Nat)) else K (AV.tup [AV.nilp, AV.nilp, AV.dat T.bool false]) []) else ck ((0 : Int) ≤ i) (Option.bind l[Int.toNat i]? fun x ↦ bif rmayB x then K (AV.tup [AV.nilp, AV.nilp, AV.dat T.bool false]) [] else L (0 : Nat) (St.mk [((0 : Nat), AV.dat (T.sl (T.pair (T.int IntKind.i64) (T.pair (T.int IntKind.i64) (T.pair (T.int IntKind.i64) (T.pair T.bool (T.pair (T.int IntKind.i64) (T.pair (T.int IntKind.u64) (T.int IntKind.i64)))))))) l), ((5 : Nat), AV.ptr (0 : Nat) []), ((6 : Nat), AV.ptr (1 : Nat) []), ((7 : Nat), AV.dat (T.int IntKind.i64) (IntKind.wrap IntKind.i64 (i + (1 : Int))))] [AO.box (54 : Nat) (AV.pr AV.nils (AV.pr AV.nilm (AV.dat T.bool b))) true, AO.box (43 : Nat) (AV.pr AV.nils (AV.dat T.bool c)) true]) (endX Tryd.prog G11 lv11 Tryd.f11 (0 : Nat) L0 K (0 : Nat)))) else K (AV.tup [AV.ptr (0 : Nat) [], AV.ptr (1 : Nat) [], AV.dat T.bool true]) [AO.box (54 : Nat) (AV.pr AV.nils (AV.pr AV.nilm (AV.dat T.bool b))) true, AO.box (43 : Nat) (AV.pr AV.nils (AV.dat T.bool c)) true] := by kernel_rfl
theorem noted_n {R : Type} (L L0 : Nat → St → (Exit → St → Option R) → Option R) (K : KV R) (l : List SV) (i : Int) (b c : Bool) (z y : SV) (zs ys : List SV) : stepX Tryd.prog G11 lv11 0 (codeOf Tryd.f11) L 0 ⟨[(0, .dat (.sl ST) l), (5, .ptr 0 []), (6, .ptr 3 []), (7, .dat I64 i)], [.box 54 (.pr (.view 1) (.pr (.mp 2) (.dat .bool b))) true, .row 36 ST (z :: zs) .own, .map ThT I64 (ats 0 (z :: zs)) true, .box 43 (.pr (.view 4) (.dat .bool c)) true, .row 36 ST (y :: ys) .own]⟩ (endX Tryd.prog G11 lv11 Tryd.f11 0 L0 K 0) = bif decide (i < (↑(List.length l) : Int)) then ck ((0 : Int) ≤ i) (Option.bind l[Int.toNat i]? fun x ↦ ck (List.length (z :: zs) ≤ (1000 : Nat) ∧ ats (0 : Nat) (z :: zs) = ats (0 : Nat) (z :: zs)) (bif mayB x then bif decide (findV x (0 : Nat) (z :: zs) < (0 : Int)) then ck ((0 : Int) ≤ i) (Option.bind l[Int.toNat i]? fun x_1 ↦ ck (List.length (y :: ys) ≤ (1000 : Nat)) (bif rmayB x_1 then bif decide (findV x_1 (0 : Nat) (y :: ys) < (0 : Int)) then L (0 : Nat) (St.mk [((0 : Nat), AV.dat (T.sl (T.pair (T.int IntKind.i64) (T.pair (T.int IntKind.i64) (T.pair (T.int IntKind.i64) (T.pair T.bool (T.pair (T.int IntKind.i64) (T.pair (T.int IntKind.u64) (T.int IntKind.i64)))))))) l), ((5 : Nat), AV.ptr (0 : Nat) []), ((6 : Nat), AV.ptr (3 : Nat) []), ((7 : Nat), AV.dat (T.int IntKind.i64) (IntKind.wrap IntKind.i64 (i + (1 : Int))))] [AO.box (54 : Nat) (AV.pr (AV.view (1 : Nat)) (AV.pr (AV.mp (2 : Nat)) (AV.dat T.bool b))) true, AO.row (36 : Nat) (T.pair (T.int IntKind.i64) (T.pair (T.int IntKind.i64) (T.pair (T.int IntKind.i64) (T.pair T.bool (T.pair (T.int IntKind.i64) (T.pair (T.int IntKind.u64) (T.int IntKind.i64))))))) (z :: zs ++ [x]) Md.own, AO.map (T.pair (T.int IntKind.i64) (T.pair (T.int IntKind.i64) (T.int IntKind.i64))) (T.int IntKind.i64) (ats (0 : Nat) (z :: zs ++ [x])) true, AO.box (43 : Nat) (AV.pr (AV.view (4 : Nat)) (AV.dat T.bool c)) true, AO.row (36 : Nat) (T.pair (T.int IntKind.i64) (T.pair (T.int IntKind.i64) (T.pair (T.int IntKind.i64) (T.pair T.bool (T.pair (T.int IntKind.i64) (T.pair (T.int IntKind.u64) (T.int IntKind.i64))))))) (y :: ys ++ [x_1]) Md.own]) (endX Tryd.prog G11 lv11 Tryd.f11 (0 : Nat) L0 K (0 : Nat)) else L (0 : Nat) (St.mk [((0 : Nat), AV.dat (T.sl (T.pair (T.int IntKind.i64) (T.pair (T.int IntKind.i64) (T.pair (T.int IntKind.i64) (T.pair T.bool (T.pair (T.int IntKind.i64) (T.pair (T.int IntKind.u64) (T.int IntKind.i64)))))))) l), ((5 : Nat), AV.ptr (0 : Nat) []), ((6 : Nat), AV.ptr (3 : Nat) []), ((7 : Nat), AV.dat (T.int IntKind.i64) (IntKind.wrap IntKind.i64 (i + (1 : Int))))] [AO.box (54 : Nat) (AV.pr (AV.view (1 : Nat)) (AV.pr (AV.mp (2 : Nat)) (AV.dat T.bool b))) true, AO.row (36 : Nat) (T.pair (T.int IntKind.i64) (T.pair (T.int IntKind.i64) (T.pair (T.int IntKind.i64) (T.pair T.bool (T.pair (T.int IntKind.i64) (T.pair (T.int IntKind.u64) (T.int IntKind.i64))))))) (z :: zs ++ [x]) Md.own, AO.map (T.pair (T.int IntKind.i64) (T.pair (T.int IntKind.i64) (T.int IntKind.i64))) (T.int IntKind.i64) (ats (0 : Nat) (z :: zs ++ [x])) true, AO.box (43 : Nat) (AV.pr (AV.view (4 : Nat)) (AV.dat T.bool (brk c (y :: ys) x_1))) true, AO.row (36 : Nat) (T.pair (T.int IntKind.i64) (T.pair (T.int IntKind.i64) (T.pair (T.int IntKind.i64) (T.pair T.bool (T.pair (T.int IntKind.i64) (T.pair (T.int IntKind.u64) (T.int IntKind.i64))))))) (y :: ys) Md.own]) (endX Tryd.prog G11 lv11 Tryd.f11 (0 : Nat) L0 K (0 : Nat)) else K (AV.tup [AV.nilp, AV.nilp, AV.dat T.bool false]) [])) else ck ((0 : Int) ≤ i) (Option.bind l[Int.toNat i]? fun x_1 ↦ ck (List.length (y :: ys) ≤ (1000 : Nat)) (bif rmayB x_1 then bif decide (findV x_1 (0 : Nat) (y :: ys) < (0 : Int)) then L (0 : Nat) (St.mk [((0 : Nat), AV.dat (T.sl (T.pair (T.int IntKind.i64) (T.pair (T.int IntKind.i64) (T.pair (T.int IntKind.i64) (T.pair T.bool (T.pair (T.int IntKind.i64) (T.pair (T.int IntKind.u64) (T.int IntKind.i64)))))))) l), ((5 : Nat), AV.ptr (0 : Nat) []), ((6 : Nat), AV.ptr (3 : Nat) []), ((7 : Nat), AV.dat (T.int IntKind.i64) (IntKind.wrap IntKind.i64 (i + (1 : Int))))] [AO.box (54 : Nat) (AV.pr (AV.view (1 : Nat)) (AV.pr (AV.mp (2 : Nat)) (AV.dat T.bool (brk b (z :: zs) x)))) true, AO.row (36 : Nat) (T.pair (T.int IntKind.i64) (T.pair (T.int IntKind.i64) (T.pair (T.int IntKind.i64) (T.pair T.bool (T.pair (T.int IntKind.i64) (T.pair (T.int IntKind.u64) (T.int IntKind.i64))))))) (z :: zs) Md.own, AO.map (T.pair (T.int IntKind.i64) (T.pair (T.int IntKind.i64) (T.int IntKind.i64))) (T.int IntKind.i64) (ats (0 : Nat) (z :: zs)) true, AO.box (43 : Nat) (AV.pr (AV.view (4 : Nat)) (AV.dat T.bool c)) true, AO.row (36 : Nat) (T.pair (T.int IntKind.i64) (T.pair (T.int IntKind.i64) (T.pair (T.int IntKind.i64) (T.pair T.bool (T.pair (T.int IntKind.i64) (T.pair (T.int IntKind.u64) (T.int IntKind.i64))))))) (y :: ys ++ [x_1]) Md.own]) (endX Tryd.prog G11 lv11 Tryd.f11 (0 : Nat) L0 K (0 : Nat)) else L (0 : Nat) (St.mk [((0 : Nat), AV.dat (T.sl (T.pair (T.int IntKind.i64) (T.pair (T.int IntKind.i64) (T.pair (T.int IntKind.i64) (T.pair T.bool (T.pair (T.int IntKind.i64) (T.pair (T.int IntKind.u64) (T.int IntKind.i64)))))))) l), ((5 : Nat), AV.ptr (0 : Nat) []), ((6 : Nat), AV.ptr (3 : Nat) []), ((7 : Nat), AV.dat (T.int IntKind.i64) (IntKind.wrap IntKind.i64 (i + (1 : Int))))] [AO.box (54 : Nat) (AV.pr (AV.view (1 : Nat)) (AV.pr (AV.mp (2 : Nat)) (AV.dat T.bool (brk b (z :: zs) x)))) true, AO.row (36 : Nat) (T.pair (T.int IntKind.i64) (T.pair (T.int IntKind.i64) (T.pair (T.int IntKind.i64) (T.pair T.bool (T.pair (T.int IntKind.i64) (T.pair (T.int IntKind.u64) (T.int IntKind.i64))))))) (z :: zs) Md.own, AO.map (T.pair (T.int IntKind.i64) (T.pair (T.int IntKind.i64) (T.int IntKind.i64))) (T.int IntKind.i64) (ats (0 : Nat) (z :: zs)) true, AO.box (43 : Nat) (AV.pr (AV.view (4 : Nat)) (AV.dat T.bool (brk c (y :: ys) x_1))) true, AO.row (36 : Nat) (T.pair (T.int IntKind.i64) (T.pair (T.int IntKind.i64) (T.pair (T.int IntKind.i64) (T.pair T.bool (T.pair (T.int IntKind.i64) (T.pair (T.int IntKind.u64) (T.int IntKind.i64))))))) (y :: ys) Md.own]) (endX Tryd.prog G11 lv11 Tryd.f11 (0 : Nat) L0 K (0 : Nat)) else K (AV.tup [AV.nilp, AV.nilp, AV.dat T.bool false]) [])) else ck ((0 : Int) ≤ i) (Option.bind l[Int.toNat i]? fun x ↦ ck (List.length (y :: ys) ≤ (1000 : Nat)) (bif rmayB x then bif decide (findV x (0 : Nat) (y :: ys) < (0 : Int)) then K (AV.tup [AV.nilp, AV.nilp, AV.dat T.bool false]) [] else K (AV.tup [AV.nilp, AV.nilp, AV.dat T.bool false]) [] else L (0 : Nat) (St.mk [((0 : Nat), AV.dat (T.sl (T.pair (T.int IntKind.i64) (T.pair (T.int IntKind.i64) (T.pair (T.int IntKind.i64) (T.pair T.bool (T.pair (T.int IntKind.i64) (T.pair (T.int IntKind.u64) (T.int IntKind.i64)))))))) l), ((5 : Nat), AV.ptr (0 : Nat) []), ((6 : Nat), AV.ptr (3 : Nat) []), ((7 : Nat), AV.dat (T.int IntKind.i64) (IntKind.wrap IntKind.i64 (i + (1 : Int))))] [AO.box (54 : Nat) (AV.pr (AV.view (1 : Nat)) (AV.pr (AV.mp (2 : Nat)) (AV.dat T.bool b))) true, AO.row (36 : Nat) (T.pair (T.int IntKind.i64) (T.pair (T.int IntKind.i64) (T.pair (T.int IntKind.i64) (T.pair T.bool (T.pair (T.int IntKind.i64) (T.pair (T.int IntKind.u64) (T.int IntKind.i64))))))) (z :: zs) Md.own, AO.map (T.pair (T.int IntKind.i64) (T.pair (T.int IntKind.i64) (T.int IntKind.i64))) (T.int IntKind.i64) (ats (0 : Nat) (z :: zs)) true, AO.box (43 : Nat) (AV.pr (AV.view (4 : Nat)) (AV.dat T.bool c)) true, AO.row (36 : Nat) (T.pair (T.int IntKind.i64) (T.pair (T.int IntKind.i64) (T.pair (T.int IntKind.i64) (T.pair T.bool (T.pair (T.int IntKind.i64) (T.pair (T.int IntKind.u64) (T.int IntKind.i64))))))) (y :: ys) Md.own]) (endX Tryd.prog G11 lv11 Tryd.f11 (0 : Nat) L0 K (0 : Nat)))))) else K (AV.tup [AV.ptr (0 : Nat) [], AV.ptr (3 : Nat) [], AV.dat T.bool true]) [AO.box (54 : Nat) (AV.pr (AV.view (1 : Nat)) (AV.pr (AV.mp (2 : Nat)) (AV.dat T.bool b))) true, AO.row (36 : Nat) (T.pair (T.int IntKind.i64) (T.pair (T.int IntKind.i64) (T.pair (T.int IntKind.i64) (T.pair T.bool (T.pair (T.int IntKind.i64) (T.pair (T.int IntKind.u64) (T.int IntKind.i64))))))) (z :: zs) Md.own, AO.map (T.pair (T.int IntKind.i64) (T.pair (T.int IntKind.i64) (T.int IntKind.i64))) (T.int IntKind.i64) (ats (0 : Nat) (z :: zs)) true, AO.box (43 : Nat) (AV.pr (AV.view (4 : Nat)) (AV.dat T.bool c)) true, AO.row (36 : Nat) (T.pair (T.int IntKind.i64) (T.pair (T.int IntKind.i64) (T.pair (T.int IntKind.i64) (T.pair T.bool (T.pair (T.int IntKind.i64) (T.pair (T.int IntKind.u64) (T.int IntKind.i64))))))) (y :: ys) Md.own] := by kernel_rfl
/-- one thing noted -/
def stepM (s : List SV × Bool) (x : SV) : List SV × Bool := bif mayB x then (bif decide (findV x 0 s.1 < 0) then (s.1 ++ [x], s.2) else (s.1, brk s.2 s.1 x)) else s
def wIx : List SV → Nat
  | [] => 1
  | _ :: _ => 3
def ob2 : List SV → Bool → List AO
  | [], b => [.box 54 (.pr .nils (.pr .nilm (.dat .bool b))) true, .box 43 (.pr .nils (.dat .bool b)) true]
  | z :: zs, b => [.box 54 (.pr (.view 1) (.pr (.mp 2) (.dat .bool b))) true, .row 36 ST (z :: zs) .own, .map ThT I64 (ats 0 (z :: zs)) true, .box 43 (.pr (.view 4) (.dat .bool b)) true, .row 36 ST (z :: zs) .own]
def OkS (x : SV) : Prop := 0 ≤ x.2.2.2.2.2.1
theorem stepM_len (s : List SV × Bool) (x : SV) : (stepM s x).1.length ≤ s.1.length + 1 := by
  unfold stepM
  cases mayB x with
  | false => exact Nat.le_succ _
  | true =>
    rw [cond_true]
    cases decide (findV x 0 s.1 < 0) with
    | true => rw [cond_true, List.length_append]; exact Nat.le_refl _
    | false => exact Nat.le_succ _
theorem noted_loop {R : Type} (L0 : Nat → St → (Exit → St → Option R) → Option R) (K : KV R) (l : List SV) (hl : l.length ≤ 900) (hv : ∀ x ∈ l, 0 ≤ x.2.2.2.2.2.1) : ∀ (j k i : Nat) (xs : List SV) (b : Bool), i + j = l.length → j < k → xs.length ≤ i →
    LX Tryd.prog G11 lv11 0 (codeOf Tryd.f11) k 0 ⟨[(0, .dat (.sl ST) l), (5, .ptr 0 []), (6, .ptr (wIx xs) []), (7, .dat I64 (i : Int))], ob2 xs b⟩ (endX Tryd.prog G11 lv11 Tryd.f11 0 L0 K 0) = K (.tup [.ptr 0 [], .ptr (wIx ((l.drop i).foldl stepM (xs, b)).1) [], .dat .bool true]) (ob2 ((l.drop i).foldl stepM (xs, b)).1 ((l.drop i).foldl stepM (xs, b)).2) := by
  intro j
  induction j with
  | zero =>
    intro k i xs b hi hk hx
    obtain ⟨k, rfl⟩ : ∃ q, k = q + 1 := ⟨k - 1, by omega⟩
    rw [show l.drop i = [] from List.drop_eq_nil_of_le (by omega)]
    cases xs with
    | nil =>
      refine (noted_e _ L0 K l i b b).trans ?_
      rw [show decide ((i : Int) < (l.length : Nat)) = false from decide_eq_false (by omega), cond_false]
      rfl
    | cons z zs =>
      refine (noted_n _ L0 K l i b b z z zs zs).trans ?_
      rw [show decide ((i : Int) < (l.length : Nat)) = false from decide_eq_false (by omega), cond_false]
      rfl
  | succ j ih =>
    intro k i xs b hi hk hx
    obtain ⟨k, rfl⟩ : ∃ q, k = q + 1 := ⟨k - 1, by omega⟩
    have hi' : i < l.length := by omega
    have hm : mayB l[i] = rmayB l[i] := may_eq _ (hv _ (List.getElem_mem hi'))
    rw [List.drop_eq_getElem_cons hi', List.foldl_cons]
    have e := ih k (i + 1) (stepM (xs, b) l[i]).1 (stepM (xs, b) l[i]).2 (by omega) (by omega) (by have := stepM_len (xs, b) l[i]; have : (xs, b).1.length = xs.length := rfl; omega)
    rw [show ((i + 1 : Nat) : Int) = (i : Int) + 1 by omega] at e
    rw [show ((stepM (xs, b) l[i]).1, (stepM (xs, b) l[i]).2) = stepM (xs, b) l[i] from rfl] at e
    refine Eq.trans ?_ e
    clear e
    cases xs with
    | nil =>
      refine (noted_e _ L0 K l i b b).trans ?_
      rw [show decide ((i : Int) < (l.length : Nat)) = true from decide_eq_true (by omega), cond_true, Int.toNat_natCast, List.getElem?_eq_getElem hi', wrapS (x := (i : Int) + 1) (by omega)]
      simp only [Option.bind_some, ck_pos (show (0 : Int) ≤ (i : Int) by omega), ← hm]
      unfold stepM
      cases mayB l[i] <;> rfl
    | cons z zs =>
      refine (noted_n _ L0 K l i b b z z zs zs).trans ?_
      rw [show decide ((i : Int) < (l.length : Nat)) = true from decide_eq_true (by omega), cond_true, Int.toNat_natCast, List.getElem?_eq_getElem hi', wrapS (x := (i : Int) + 1) (by omega)]
      have h1 : (z :: zs).length ≤ 1000 := by omega
      simp only [Option.bind_some, ck_pos (show (0 : Int) ≤ (i : Int) by omega), ck_pos h1, ck_pos (show (z :: zs).length ≤ 1000 ∧ True from ⟨h1, trivial⟩), ← hm]
      unfold stepM
      cases mayB l[i] with
      | false => rfl
      | true =>
        cases hd : decide (findV l[i] 0 (z :: zs) < 0) with
        | true => simp only [hd, cond_true]; rfl
        | false => simp only [hd, cond_true, cond_false]; rfl
def notedM (l : List SV) : List SV × Bool := l.foldl stepM ([], false)
def F11 : Summ := ⟨fun args ob K => match args, ob with
  | [.dat (.sl (.pair (.int .i64) (.pair (.int .i64) (.pair (.int .i64) (.pair .bool (.pair (.int .i64) (.pair (.int .u64) (.int .i64)))))))) l], [] => ck (l.length ≤ 900 ∧ ∀ x ∈ l, 0 ≤ x.2.2.2.2.2.1) (listK (notedM l).1 (K (.tup [.ptr 0 [], .ptr 1 [], .dat .bool true]) [.box 54 (.pr .nils (.pr .nilm (.dat .bool (notedM l).2))) true, .box 43 (.pr .nils (.dat .bool (notedM l).2)) true])
      (fun z zs => K (.tup [.ptr 0 [], .ptr 3 [], .dat .bool true]) [.box 54 (.pr (.view 1) (.pr (.mp 2) (.dat .bool (notedM l).2))) true, .row 36 ST (z :: zs) .own, .map ThT I64 (ats 0 (z :: zs)) true, .box 43 (.pr (.view 4) (.dat .bool (notedM l).2)) true, .row 36 ST (z :: zs) .own]))
  | _, _ => none⟩
theorem F11_ok : SumOk Tryd.prog 11 F11 := by
  refine (codeX_ok (Γ := G11) (k := 1000) (lv := lv11) mixed noNG_prog (sums_call (Wr := all) (l := [(28, F28), (14, F14), (25, F25)]) ⟨F28_ok, F14_ok, F25_ok, trivial⟩) (sums_prim ⟨F28_ok, F14_ok, F25_ok, trivial⟩) (fn := Tryd.f11) rfl).le ?_ ?_
  · intro R R' f args ob K
    unfold F11; dsimp only
    split <;> simp only [bd_ck, bd_list, bd_none]
  · intro R args ob K r h
    unfold F11 at h; dsimp only at h
    split at h
    · rename_i l
      obtain ⟨⟨hl, hv⟩, h2⟩ := ck_elim h
      clear h
      refine (noted_0 (LX Tryd.prog G11 lv11 0 (codeOf Tryd.f11) 1000) K l).trans (Eq.trans ?_ h2)
      refine (noted_loop _ K l hl hv l.length 1000 0 [] false (by omega) (by omega) (Nat.le_refl _)).trans ?_
      rw [List.drop_zero]
      show K (.tup [.ptr 0 [], .ptr (wIx (notedM l).1) [], .dat .bool true]) (ob2 (notedM l).1 (notedM l).2) = _
      generalize notedM l = s
      obtain ⟨xs, b⟩ := s
      cases xs <;> rfl
    · cases h
end Go.Mx
