/- Own work. A part of the proof of a law of this seat: this seat's functions, by the machine, and the plain law -/
import Derived.Test.YtfbgglpfakadhaaDoorWe
import Derived.Test.YtfbgglpfakadhaaDoorMe
/- The document's Find, and are two lists the same? -/
namespace Go.Mx
open Go Go.RowKit Go.Sx Go.Proofs
set_option linter.unusedVariables false
set_option linter.unusedSimpArgs false
set_option maxRecDepth 100000
def lvN : Tl := ⟨fun _ => none, []⟩
def lv18 : Tl := ⟨fun q => match q with | 0 => some [0, 3, 5] | _ => none, []⟩
def lv15 : Tl := ⟨fun q => match q with | 0 => some [0, 1, 5] | _ => none, []⟩
noncomputable def G18 : Sums := sums all []
theorem find_0 {R : Type} (L : Nat → St → (Exit → St → Option R) → Option R) (K : KV R) (x : SV) (b w : Bool) : runX Tryd.prog G18 lv18 Tryd.f18 1 L [.ptr 0 [], .dat ST x] [.box 43 (.pr .nils (.dat .bool b)) w] K = L (0 : Nat) (St.mk [((0 : Nat), AV.ptr (0 : Nat) []), ((3 : Nat), AV.ptr (1 : Nat) []), ((5 : Nat), AV.dat (T.int IntKind.i64) (0 : Int))] [AO.box (43 : Nat) (AV.pr AV.nils (AV.dat T.bool b)) w, AO.box (36 : Nat) (AV.dat (T.pair (T.int IntKind.i64) (T.pair (T.int IntKind.i64) (T.pair (T.int IntKind.i64) (T.pair T.bool (T.pair (T.int IntKind.i64) (T.pair (T.int IntKind.u64) (T.int IntKind.i64))))))) x) true]) (endX Tryd.prog G18 lv18 Tryd.f18 (1 : Nat) L K (0 : Nat)) := by kernel_rfl
theorem find_1 {R : Type} (L : Nat → St → (Exit → St → Option R) → Option R) (K : KV R) (x z : SV) (zs : List SV) (b w : Bool) : runX Tryd.prog G18 lv18 Tryd.f18 2 L [.ptr 0 [], .dat ST x] [.box 43 (.pr (.view 1) (.dat .bool b)) w, .row 36 ST (z :: zs) .own] K = L (0 : Nat) (St.mk [((0 : Nat), AV.ptr (0 : Nat) []), ((3 : Nat), AV.ptr (2 : Nat) []), ((5 : Nat), AV.dat (T.int IntKind.i64) (0 : Int))] [AO.box (43 : Nat) (AV.pr (AV.view (1 : Nat)) (AV.dat T.bool b)) w, AO.row (36 : Nat) (T.pair (T.int IntKind.i64) (T.pair (T.int IntKind.i64) (T.pair (T.int IntKind.i64) (T.pair T.bool (T.pair (T.int IntKind.i64) (T.pair (T.int IntKind.u64) (T.int IntKind.i64))))))) (z :: zs) Md.own, AO.box (36 : Nat) (AV.dat (T.pair (T.int IntKind.i64) (T.pair (T.int IntKind.i64) (T.pair (T.int IntKind.i64) (T.pair T.bool (T.pair (T.int IntKind.i64) (T.pair (T.int IntKind.u64) (T.int IntKind.i64))))))) x) true]) (endX Tryd.prog G18 lv18 Tryd.f18 (2 : Nat) L K (0 : Nat)) := by kernel_rfl
theorem same_0 {R : Type} (L : Nat → St → (Exit → St → Option R) → Option R) (K : KV R) (a b : List SV) : runX Tryd.prog G18 lv15 Tryd.f15 0 L [.dat (.sl ST) a, .dat (.sl ST) b] [] K = bif !decide ((↑(List.length a) : Int) = (↑(List.length b) : Int)) then K (AV.dat T.bool false) [] else L (0 : Nat) (St.mk [((0 : Nat), AV.dat (T.sl (T.pair (T.int IntKind.i64) (T.pair (T.int IntKind.i64) (T.pair (T.int IntKind.i64) (T.pair T.bool (T.pair (T.int IntKind.i64) (T.pair (T.int IntKind.u64) (T.int IntKind.i64)))))))) a), ((1 : Nat), AV.dat (T.sl (T.pair (T.int IntKind.i64) (T.pair (T.int IntKind.i64) (T.pair (T.int IntKind.i64) (T.pair T.bool (T.pair (T.int IntKind.i64) (T.pair (T.int IntKind.u64) (T.int IntKind.i64)))))))) b), ((5 : Nat), AV.dat (T.int IntKind.i64) (0 : Int))] []) (endX Tryd.prog G18 lv15 Tryd.f15 (0 : Nat) L K (0 : Nat)) := by kernel_rfl
theorem same_s {R : Type} (L L0 : Nat → St → (Exit → St → Option R) → Option R) (K : KV R) (a b : List SV) (i : Int) : stepX Tryd.prog G18 lv15 0 (codeOf Tryd.f15) L 0 ⟨[(0, .dat (.sl ST) a), (1, .dat (.sl ST) b), (5, .dat I64 i)], []⟩ (endX Tryd.prog G18 lv15 Tryd.f15 0 L0 K 0) = bif decide (i < (↑(List.length a) : Int)) then ck ((0 : Int) ≤ i) (Option.bind a[Int.toNat i]? fun x ↦ ck ((0 : Int) ≤ i) (Option.bind b[Int.toNat i]? fun x_1 ↦ bif !(decide (Prod.fst x = Prod.fst x_1) && (decide (Prod.fst (Prod.snd x) = Prod.fst (Prod.snd x_1)) && (decide (Prod.fst (Prod.snd (Prod.snd x)) = Prod.fst (Prod.snd (Prod.snd x_1))) && (Prod.fst (Prod.snd (Prod.snd (Prod.snd x))) == Prod.fst (Prod.snd (Prod.snd (Prod.snd x_1))) && (decide (Prod.fst (Prod.snd (Prod.snd (Prod.snd (Prod.snd x)))) = Prod.fst (Prod.snd (Prod.snd (Prod.snd (Prod.snd x_1))))) && (decide (Prod.fst (Prod.snd (Prod.snd (Prod.snd (Prod.snd (Prod.snd x))))) = Prod.fst (Prod.snd (Prod.snd (Prod.snd (Prod.snd (Prod.snd x_1)))))) && decide (Prod.snd (Prod.snd (Prod.snd (Prod.snd (Prod.snd (Prod.snd x))))) = Prod.snd (Prod.snd (Prod.snd (Prod.snd (Prod.snd (Prod.snd x_1)))))))))))) then K (AV.dat T.bool false) [] else L (0 : Nat) (St.mk [((0 : Nat), AV.dat (T.sl (T.pair (T.int IntKind.i64) (T.pair (T.int IntKind.i64) (T.pair (T.int IntKind.i64) (T.pair T.bool (T.pair (T.int IntKind.i64) (T.pair (T.int IntKind.u64) (T.int IntKind.i64)))))))) a), ((1 : Nat), AV.dat (T.sl (T.pair (T.int IntKind.i64) (T.pair (T.int IntKind.i64) (T.pair (T.int IntKind.i64) (T.pair T.bool (T.pair (T.int IntKind.i64) (T.pair (T.int IntKind.u64) (T.int IntKind.i64)))))))) b), ((5 : Nat), AV.dat (T.int IntKind.i64) (IntKind.wrap IntKind.i64 (i + (1 : Int))))] []) (endX Tryd.prog G18 lv15 Tryd.f15 (0 : Nat) L0 K (0 : Nat)))) else K (AV.dat T.bool true) [] := by kernel_rfl
theorem find_0s {R : Type} (L L0 : Nat → St → (Exit → St → Option R) → Option R) (K : KV R) (x : SV) (b w : Bool) (i : Int) : stepX Tryd.prog G18 lv18 1 (codeOf Tryd.f18) L 0 ⟨[(0, .ptr 0 []), (3, .ptr 1 []), (5, .dat I64 i)], [.box 43 (.pr .nils (.dat .bool b)) w, .box 36 (.dat ST x) true]⟩ (endX Tryd.prog G18 lv18 Tryd.f18 1 L0 K 0) = bif decide (i < (0 : Int)) then none else K (AV.dat (T.int IntKind.i64) (-1 : Int)) [AO.box (43 : Nat) (AV.pr AV.nils (AV.dat T.bool b)) w] := by kernel_rfl
theorem find_1s {R : Type} (L L0 : Nat → St → (Exit → St → Option R) → Option R) (K : KV R) (x z : SV) (zs : List SV) (b w : Bool) (i : Int) : stepX Tryd.prog G18 lv18 2 (codeOf Tryd.f18) L 0 ⟨[(0, .ptr 0 []), (3, .ptr 2 []), (5, .dat I64 i)], [.box 43 (.pr (.view 1) (.dat .bool b)) w, .row 36 ST (z :: zs) .own, .box 36 (.dat ST x) true]⟩ (endX Tryd.prog G18 lv18 Tryd.f18 2 L0 K 0) = bif decide (i < (↑(List.length (z :: zs)) : Int)) then ck ((0 : Int) ≤ i ∧ i < (↑(List.length (z :: zs)) : Int)) (Option.bind (z :: zs)[Int.toNat i]? fun x_1 ↦ bif decide (Prod.fst x_1 = Prod.fst x) then ck ((0 : Int) ≤ i ∧ i < (↑(List.length (z :: zs)) : Int)) (Option.bind (z :: zs)[Int.toNat i]? fun x_2 ↦ bif decide (Prod.fst (Prod.snd x_2) = Prod.fst (Prod.snd x)) then ck ((0 : Int) ≤ i ∧ i < (↑(List.length (z :: zs)) : Int)) (Option.bind (z :: zs)[Int.toNat i]? fun x_3 ↦ bif decide (Prod.fst (Prod.snd (Prod.snd x_3)) = Prod.fst (Prod.snd (Prod.snd x))) then K (AV.dat (T.int IntKind.i64) i) [AO.box (43 : Nat) (AV.pr (AV.view (1 : Nat)) (AV.dat T.bool b)) w, AO.row (36 : Nat) (T.pair (T.int IntKind.i64) (T.pair (T.int IntKind.i64) (T.pair (T.int IntKind.i64) (T.pair T.bool (T.pair (T.int IntKind.i64) (T.pair (T.int IntKind.u64) (T.int IntKind.i64))))))) (z :: zs) Md.own] else L (0 : Nat) (St.mk [((0 : Nat), AV.ptr (0 : Nat) []), ((3 : Nat), AV.ptr (2 : Nat) []), ((5 : Nat), AV.dat (T.int IntKind.i64) (IntKind.wrap IntKind.i64 (i + (1 : Int))))] [AO.box (43 : Nat) (AV.pr (AV.view (1 : Nat)) (AV.dat T.bool b)) w, AO.row (36 : Nat) (T.pair (T.int IntKind.i64) (T.pair (T.int IntKind.i64) (T.pair (T.int IntKind.i64) (T.pair T.bool (T.pair (T.int IntKind.i64) (T.pair (T.int IntKind.u64) (T.int IntKind.i64))))))) (z :: zs) Md.own, AO.box (36 : Nat) (AV.dat (T.pair (T.int IntKind.i64) (T.pair (T.int IntKind.i64) (T.pair (T.int IntKind.i64) (T.pair T.bool (T.pair (T.int IntKind.i64) (T.pair (T.int IntKind.u64) (T.int IntKind.i64))))))) x) true]) (endX Tryd.prog G18 lv18 Tryd.f18 (2 : Nat) L0 K (0 : Nat))) else L (0 : Nat) (St.mk [((0 : Nat), AV.ptr (0 : Nat) []), ((3 : Nat), AV.ptr (2 : Nat) []), ((5 : Nat), AV.dat (T.int IntKind.i64) (IntKind.wrap IntKind.i64 (i + (1 : Int))))] [AO.box (43 : Nat) (AV.pr (AV.view (1 : Nat)) (AV.dat T.bool b)) w, AO.row (36 : Nat) (T.pair (T.int IntKind.i64) (T.pair (T.int IntKind.i64) (T.pair (T.int IntKind.i64) (T.pair T.bool (T.pair (T.int IntKind.i64) (T.pair (T.int IntKind.u64) (T.int IntKind.i64))))))) (z :: zs) Md.own, AO.box (36 : Nat) (AV.dat (T.pair (T.int IntKind.i64) (T.pair (T.int IntKind.i64) (T.pair (T.int IntKind.i64) (T.pair T.bool (T.pair (T.int IntKind.i64) (T.pair (T.int IntKind.u64) (T.int IntKind.i64))))))) x) true]) (endX Tryd.prog G18 lv18 Tryd.f18 (2 : Nat) L0 K (0 : Nat))) else L (0 : Nat) (St.mk [((0 : Nat), AV.ptr (0 : Nat) []), ((3 : Nat), AV.ptr (2 : Nat) []), ((5 : Nat), AV.dat (T.int IntKind.i64) (IntKind.wrap IntKind.i64 (i + (1 : Int))))] [AO.box (43 : Nat) (AV.pr (AV.view (1 : Nat)) (AV.dat T.bool b)) w, AO.row (36 : Nat) (T.pair (T.int IntKind.i64) (T.pair (T.int IntKind.i64) (T.pair (T.int IntKind.i64) (T.pair T.bool (T.pair (T.int IntKind.i64) (T.pair (T.int IntKind.u64) (T.int IntKind.i64))))))) (z :: zs) Md.own, AO.box (36 : Nat) (AV.dat (T.pair (T.int IntKind.i64) (T.pair (T.int IntKind.i64) (T.pair (T.int IntKind.i64) (T.pair T.bool (T.pair (T.int IntKind.i64) (T.pair (T.int IntKind.u64) (T.int IntKind.i64))))))) x) true]) (endX Tryd.prog G18 lv18 Tryd.f18 (2 : Nat) L0 K (0 : Nat))) else K (AV.dat (T.int IntKind.i64) (-1 : Int)) [AO.box (43 : Nat) (AV.pr (AV.view (1 : Nat)) (AV.dat T.bool b)) w, AO.row (36 : Nat) (T.pair (T.int IntKind.i64) (T.pair (T.int IntKind.i64) (T.pair (T.int IntKind.i64) (T.pair T.bool (T.pair (T.int IntKind.i64) (T.pair (T.int IntKind.u64) (T.int IntKind.i64))))))) (z :: zs) Md.own] := by kernel_rfl
def eqS (a b : SV) : Bool := decide (Prod.fst a = Prod.fst b) && (decide (Prod.fst (Prod.snd a) = Prod.fst (Prod.snd b)) && (decide (Prod.fst (Prod.snd (Prod.snd a)) = Prod.fst (Prod.snd (Prod.snd b))) && (Prod.fst (Prod.snd (Prod.snd (Prod.snd a))) == Prod.fst (Prod.snd (Prod.snd (Prod.snd b))) && (decide (Prod.fst (Prod.snd (Prod.snd (Prod.snd (Prod.snd a)))) = Prod.fst (Prod.snd (Prod.snd (Prod.snd (Prod.snd b))))) && (decide (Prod.fst (Prod.snd (Prod.snd (Prod.snd (Prod.snd (Prod.snd a))))) = Prod.fst (Prod.snd (Prod.snd (Prod.snd (Prod.snd (Prod.snd b)))))) && decide (Prod.snd (Prod.snd (Prod.snd (Prod.snd (Prod.snd (Prod.snd a))))) = Prod.snd (Prod.snd (Prod.snd (Prod.snd (Prod.snd (Prod.snd b)))))))))))
def keyE (y x : SV) : Bool := decide (y.1 = x.1) && (decide (y.2.1 = x.2.1) && decide (y.2.2.1 = x.2.2.1))
def findV (x : SV) : Nat → List SV → Int
  | _, [] => -1
  | n, y :: r => bif keyE y x then (n : Int) else findV x (n + 1) r
def sameL : List SV → List SV → Bool
  | [], [] => true
  | a :: r, b :: t => bif eqS a b then sameL r t else false
  | _, _ => false
theorem find_loop {R : Type} (L0 : Nat → St → (Exit → St → Option R) → Option R) (K : KV R) (x z : SV) (zs : List SV) (b w : Bool) (hl : (z :: zs).length ≤ 1000) : ∀ (j k i : Nat), i + j = (z :: zs).length → j < k →
    LX Tryd.prog G18 lv18 2 (codeOf Tryd.f18) k 0 ⟨[(0, .ptr 0 []), (3, .ptr 2 []), (5, .dat I64 (i : Int))], [.box 43 (.pr (.view 1) (.dat .bool b)) w, .row 36 ST (z :: zs) .own, .box 36 (.dat ST x) true]⟩ (endX Tryd.prog G18 lv18 Tryd.f18 2 L0 K 0) = K (.dat I64 (findV x i ((z :: zs).drop i))) [.box 43 (.pr (.view 1) (.dat .bool b)) w, .row 36 ST (z :: zs) .own] := by
  intro j
  induction j with
  | zero =>
    intro k i hi hk
    obtain ⟨k, rfl⟩ : ∃ q, k = q + 1 := ⟨k - 1, by omega⟩
    refine (find_1s _ L0 K x z zs b w i).trans ?_
    rw [show decide ((i : Int) < ((z :: zs).length : Nat)) = false from decide_eq_false (by omega), cond_false, List.drop_eq_nil_of_le (by omega)]
    rfl
  | succ j ih =>
    intro k i hi hk
    obtain ⟨k, rfl⟩ : ∃ q, k = q + 1 := ⟨k - 1, by omega⟩
    refine (find_1s _ L0 K x z zs b w i).trans ?_
    have hi' : i < (z :: zs).length := by omega
    have e := ih k (i + 1) (by omega) (by omega)
    rw [show ((i + 1 : Nat) : Int) = (i : Int) + 1 by omega] at e
    rw [show decide ((i : Int) < ((z :: zs).length : Nat)) = true from decide_eq_true (by omega), cond_true, List.drop_eq_getElem_cons hi', findV, Int.toNat_natCast, List.getElem?_eq_getElem hi', wrapS (x := (i : Int) + 1) (by omega)]
    simp only [Option.bind_some, ck_pos (show (0 : Int) ≤ (i : Int) ∧ (i : Int) < (((z :: zs).length : Nat) : Int) by omega)]
    unfold keyE
    generalize decide ((z :: zs)[i].fst = x.fst) = c1
    generalize decide ((z :: zs)[i].snd.fst = x.snd.fst) = c2
    generalize decide ((z :: zs)[i].snd.snd.fst = x.snd.snd.fst) = c3
    cases c1 with
    | false => exact e
    | true =>
      cases c2 with
      | false => exact e
      | true =>
        cases c3 with
        | false => exact e
        | true => rfl
theorem same_loop {R : Type} (L0 : Nat → St → (Exit → St → Option R) → Option R) (K : KV R) (a b : List SV) (hab : a.length = b.length) (hl : a.length ≤ 1000) : ∀ (j k i : Nat), i + j = a.length → j < k →
    LX Tryd.prog G18 lv15 0 (codeOf Tryd.f15) k 0 ⟨[(0, .dat (.sl ST) a), (1, .dat (.sl ST) b), (5, .dat I64 (i : Int))], []⟩ (endX Tryd.prog G18 lv15 Tryd.f15 0 L0 K 0) = K (.dat .bool (sameL (a.drop i) (b.drop i))) [] := by
  intro j
  induction j with
  | zero =>
    intro k i hi hk
    obtain ⟨k, rfl⟩ : ∃ q, k = q + 1 := ⟨k - 1, by omega⟩
    refine (same_s _ L0 K a b i).trans ?_
    rw [show decide ((i : Int) < (a.length : Nat)) = false from decide_eq_false (by omega), cond_false, show a.drop i = [] from List.drop_eq_nil_of_le (by omega), show b.drop i = [] from List.drop_eq_nil_of_le (by omega)]
    rfl
  | succ j ih =>
    intro k i hi hk
    obtain ⟨k, rfl⟩ : ∃ q, k = q + 1 := ⟨k - 1, by omega⟩
    refine (same_s _ L0 K a b i).trans ?_
    have hi' : i < a.length := by omega
    have hi2 : i < b.length := by omega
    have e := ih k (i + 1) (by omega) (by omega)
    rw [show ((i + 1 : Nat) : Int) = (i : Int) + 1 by omega] at e
    rw [show decide ((i : Int) < (a.length : Nat)) = true from decide_eq_true (by omega), cond_true, List.drop_eq_getElem_cons hi', List.drop_eq_getElem_cons hi2, sameL, Int.toNat_natCast, List.getElem?_eq_getElem hi', List.getElem?_eq_getElem hi2, wrapS (x := (i : Int) + 1) (by omega)]
    simp only [Option.bind_some, ck_pos (show (0 : Int) ≤ (i : Int) by omega)]
    unfold eqS
    generalize (decide (Prod.fst a[i] = Prod.fst b[i]) && (decide (Prod.fst (Prod.snd a[i]) = Prod.fst (Prod.snd b[i])) && (decide (Prod.fst (Prod.snd (Prod.snd a[i])) = Prod.fst (Prod.snd (Prod.snd b[i]))) && (Prod.fst (Prod.snd (Prod.snd (Prod.snd a[i]))) == Prod.fst (Prod.snd (Prod.snd (Prod.snd b[i]))) && (decide (Prod.fst (Prod.snd (Prod.snd (Prod.snd (Prod.snd a[i])))) = Prod.fst (Prod.snd (Prod.snd (Prod.snd (Prod.snd b[i]))))) && (decide (Prod.fst (Prod.snd (Prod.snd (Prod.snd (Prod.snd (Prod.snd a[i]))))) = Prod.fst (Prod.snd (Prod.snd (Prod.snd (Prod.snd (Prod.snd b[i])))))) && decide (Prod.snd (Prod.snd (Prod.snd (Prod.snd (Prod.snd (Prod.snd a[i]))))) = Prod.snd (Prod.snd (Prod.snd (Prod.snd (Prod.snd (Prod.snd b[i])))))))))))) = c
    cases c with
    | false => rfl
    | true => exact e
def F18 : Summ := ⟨fun args ob K => match args, ob with
  | [.ptr 0 [], .dat (.pair (.int .i64) (.pair (.int .i64) (.pair (.int .i64) (.pair .bool (.pair (.int .i64) (.pair (.int .u64) (.int .i64))))))) x], [.box 43 (.pr .nils (.dat .bool b)) w] => K (.dat I64 (-1)) [.box 43 (.pr .nils (.dat .bool b)) w]
  | [.ptr 0 [], .dat (.pair (.int .i64) (.pair (.int .i64) (.pair (.int .i64) (.pair .bool (.pair (.int .i64) (.pair (.int .u64) (.int .i64))))))) x], [.box 43 (.pr (.view 1) (.dat .bool b)) w, .row 36 (.pair (.int .i64) (.pair (.int .i64) (.pair (.int .i64) (.pair .bool (.pair (.int .i64) (.pair (.int .u64) (.int .i64))))))) (z :: zs) .own] => ck ((z :: zs).length ≤ 1000) (K (.dat I64 (findV x 0 (z :: zs))) [.box 43 (.pr (.view 1) (.dat .bool b)) w, .row 36 ST (z :: zs) .own])
  | _, _ => none⟩
theorem F18_ok : SumOk Tryd.prog 18 F18 := by
  refine (codeX_ok (Γ := G18) (k := 1001) (lv := lv18) mixed noNG_prog (sums_call (Wr := all) (l := []) trivial) (sums_prim trivial) (fn := Tryd.f18) rfl).le ?_ ?_
  · intro R R' f args ob K
    unfold F18; dsimp only
    split <;> simp only [bd_ck, bd_none]
  · intro R args ob K r h
    unfold F18 at h; dsimp only at h
    split at h
    · rename_i x b w
      refine (find_0 (LX Tryd.prog G18 lv18 1 (codeOf Tryd.f18) 1001) K x b w).trans (Eq.trans ?_ h)
      refine (find_0s _ _ K x b w 0).trans ?_
      rw [show decide ((0 : Int) < 0) = false from rfl, cond_false]
    · rename_i x b w z zs
      obtain ⟨hl, h⟩ := ck_elim h
      refine (find_1 (LX Tryd.prog G18 lv18 2 (codeOf Tryd.f18) 1001) K x z zs b w).trans (Eq.trans ?_ h)
      exact find_loop _ K x z zs b w hl (z :: zs).length 1001 0 (by omega) (by omega)
    · cases h
def F15 : Summ := ⟨fun args ob K => match args, ob with
  | [.dat (.sl (.pair (.int .i64) (.pair (.int .i64) (.pair (.int .i64) (.pair .bool (.pair (.int .i64) (.pair (.int .u64) (.int .i64)))))))) a, .dat (.sl (.pair (.int .i64) (.pair (.int .i64) (.pair (.int .i64) (.pair .bool (.pair (.int .i64) (.pair (.int .u64) (.int .i64)))))))) b], [] => ck (a.length ≤ 1000) (K (.dat .bool (bif decide (a.length = b.length) then sameL a b else false)) [])
  | _, _ => none⟩
theorem F15_ok : SumOk Tryd.prog 15 F15 := by
  refine (codeX_ok (Γ := G18) (k := 1001) (lv := lv15) mixed noNG_prog (sums_call (Wr := all) (l := []) trivial) (sums_prim trivial) (fn := Tryd.f15) rfl).le ?_ ?_
  · intro R R' f args ob K
    unfold F15; dsimp only
    split <;> simp only [bd_ck, bd_none]
  · intro R args ob K r h
    unfold F15 at h; dsimp only at h
    split at h
    · rename_i a b
      obtain ⟨hl, h⟩ := ck_elim h
      refine (same_0 (LX Tryd.prog G18 lv15 0 (codeOf Tryd.f15) 1001) K a b).trans (Eq.trans ?_ h)
      by_cases he : a.length = b.length
      · rw [show decide ((a.length : Int) = (b.length : Int)) = true from decide_eq_true (by omega), Bool.not_true, cond_false, show decide (a.length = b.length) = true from decide_eq_true he, cond_true]
        exact same_loop _ K a b he hl a.length 1001 0 (by omega) (by omega)
      · rw [show decide ((a.length : Int) = (b.length : Int)) = false from decide_eq_false (by omega), Bool.not_false, cond_true, show decide (a.length = b.length) = false from decide_eq_false he, cond_false]
    · cases h
end Go.Mx
