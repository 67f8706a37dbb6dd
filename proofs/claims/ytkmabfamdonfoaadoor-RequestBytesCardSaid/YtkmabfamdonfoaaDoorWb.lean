/- Own work. A part of the proof of a law of this seat: this seat's functions, by the machine, and the plain law. -/
import Derived.Test.YtkmabfamdonfoaaDoorMf
import Derived.Test.YtkmabfamdonfoaaDoorWa
import Derived.Laws.RangeAny
set_option linter.unusedVariables false
set_option linter.unusedSimpArgs false
set_option linter.unusedSectionVars false
namespace Go.Mx
open Go Go.RowKit Go.Sx Go.Proofs
set_option maxRecDepth 100000
abbrev CT : T := .pair I64 (.pair I64 (.pair I64 (.pair I64 (.pair (.pair I64 .str) (.pair .str (.pair (.int .u32) (.pair I64 (.pair I64 (.pair U64 (.pair I64 .bool))))))))))
abbrev CV := CT.den
def cView : List AV → List AO → Bool := fun args _ => match args with | .view _ :: _ => true | _ => false
noncomputable def Gw : Sums := sums all [(26, F12), (61, F10), (27, eitherS cView F27v F14), (100, W 100)]
noncomputable def Gr : Sums := sums all [(32, inS 32 cl F18), (33, inS 33 cl F20), (34, inS 34 cl F22)]
theorem parts_0 {R : Type} (K : KV R) (o : Int) : (W 43).run [.dat I64 o] [] K = K (AV.dat (T.sl (T.pair T.fn T.fn)) (getM I64 o [] (setM I64 (18 : Int) [((75 : Nat), (76 : Nat))] (setM I64 (17 : Int) [((67 : Nat), (68 : Nat)), ((89 : Nat), (90 : Nat))] (setM I64 (16 : Int) [((69 : Nat), (70 : Nat)), ((87 : Nat), (88 : Nat))] (setM I64 (15 : Int) [((67 : Nat), (68 : Nat))] (setM I64 (14 : Int) [((67 : Nat), (68 : Nat))] (setM I64 (13 : Int) [((67 : Nat), (68 : Nat)), ((85 : Nat), (86 : Nat))] (setM I64 (12 : Int) [((67 : Nat), (68 : Nat)), ((81 : Nat), (82 : Nat)), ((83 : Nat), (84 : Nat))] (setM I64 (11 : Int) [((67 : Nat), (68 : Nat)), ((79 : Nat), (80 : Nat))] (setM I64 (10 : Int) [((69 : Nat), (70 : Nat))] (setM I64 (9 : Int) [((67 : Nat), (68 : Nat)), ((69 : Nat), (70 : Nat)), ((71 : Nat), (72 : Nat))] (setM I64 (8 : Int) [((67 : Nat), (68 : Nat)), ((69 : Nat), (70 : Nat))] (setM I64 (7 : Int) [((67 : Nat), (68 : Nat)), ((69 : Nat), (70 : Nat))] (setM I64 (6 : Int) [((67 : Nat), (68 : Nat))] (setM I64 (5 : Int) [((67 : Nat), (68 : Nat)), ((77 : Nat), (78 : Nat))] (setM I64 (4 : Int) [((67 : Nat), (68 : Nat))] (setM I64 (3 : Int) [((69 : Nat), (70 : Nat)), ((73 : Nat), (74 : Nat)), ((75 : Nat), (76 : Nat))] (setM I64 (2 : Int) [((73 : Nat), (74 : Nat)), ((75 : Nat), (76 : Nat))] (setM I64 (1 : Int) [((69 : Nat), (70 : Nat)), ((73 : Nat), (74 : Nat)), ((75 : Nat), (76 : Nat)), ((77 : Nat), (78 : Nat))] [])))))))))))))))))))) [] := by kernel_rfl
theorem wkey_0 {R : Type} (K : KV R) (c : CV) : (backS [] [] (codeX Tryd.prog Gw lvN 0 Tryd.f67)).run [.ptr 0 []] [.box 82 (.pr (.dat CT c) .nils) true] K = bif whBad c.2.1 then K (AV.tup []) [AO.box 82 (AV.pr (AV.dat CT c) (AV.view 1)) true, AO.row 5 U8 [] Md.own] else K (AV.tup []) [AO.box 82 (AV.pr (AV.dat CT c) (AV.view 1)) true, AO.row 5 U8 (pB (wholeN c.2.1) (4 : Nat)) Md.own] := by kernel_rfl
theorem wkey_1 {R : Type} (K : KV R) (c : CV) (xs : List Int) : (backS [] [] (codeX Tryd.prog Gw lvN 0 Tryd.f67)).run [.ptr 0 []] [.box 82 (.pr (.dat CT c) (.view 1)) true, .row 5 U8 xs .own] K = bif whBad c.2.1 then ck ((List.length xs + (0 : Nat)) * (1 : Nat) ≤ limit) (K (AV.tup []) [AO.box 82 (AV.pr (AV.dat CT c) (AV.view 2)) true, AO.gone, AO.row 5 U8 (xs ++ []) Md.own]) else ck ((List.length xs + (4 : Nat)) * (1 : Nat) ≤ limit) (K (AV.tup []) [AO.box 82 (AV.pr (AV.dat CT c) (AV.view 2)) true, AO.gone, AO.row 5 U8 (xs ++ pB (wholeN c.2.1) (4 : Nat)) Md.own]) := by kernel_rfl
theorem rkey_1 {R : Type} (K : KV R) (c : CV) (x : RV) : (codeX Tryd.prog Gr lvN 0 Tryd.f68).run [.ptr 0 []] [.box 99 (.pr (.dat CT c) (.ptr 1 [])) true, .box 107 (.dat RT x) true] K = ck (List.length x.1 < (100000 : Nat)) (K (AV.tup []) [AO.box 99 (AV.pr (AV.dat CT (c.1, wholeV (numV x (4 : Int)), c.2.2)) (AV.ptr 1 [])) true, AO.box 107 (AV.dat RT (numS x (4 : Int))) true]) := by kernel_rfl
theorem wring_0 {R : Type} (K : KV R) (c : CV) : (backS [] [] (codeX Tryd.prog Gw lvN 0 Tryd.f69)).run [.ptr 0 []] [.box 82 (.pr (.dat CT c) .nils) true] K = bif whBad c.2.2.1 then K (AV.tup []) [AO.box 82 (AV.pr (AV.dat CT c) (AV.view 1)) true, AO.row 5 U8 [] Md.own] else K (AV.tup []) [AO.box 82 (AV.pr (AV.dat CT c) (AV.view 1)) true, AO.row 5 U8 (pB (wholeN c.2.2.1) (4 : Nat)) Md.own] := by kernel_rfl
theorem wring_1 {R : Type} (K : KV R) (c : CV) (xs : List Int) : (backS [] [] (codeX Tryd.prog Gw lvN 0 Tryd.f69)).run [.ptr 0 []] [.box 82 (.pr (.dat CT c) (.view 1)) true, .row 5 U8 xs .own] K = bif whBad c.2.2.1 then ck ((List.length xs + (0 : Nat)) * (1 : Nat) ≤ limit) (K (AV.tup []) [AO.box 82 (AV.pr (AV.dat CT c) (AV.view 2)) true, AO.gone, AO.row 5 U8 (xs ++ []) Md.own]) else ck ((List.length xs + (4 : Nat)) * (1 : Nat) ≤ limit) (K (AV.tup []) [AO.box 82 (AV.pr (AV.dat CT c) (AV.view 2)) true, AO.gone, AO.row 5 U8 (xs ++ pB (wholeN c.2.2.1) (4 : Nat)) Md.own]) := by kernel_rfl
theorem rring_1 {R : Type} (K : KV R) (c : CV) (x : RV) : (codeX Tryd.prog Gr lvN 0 Tryd.f70).run [.ptr 0 []] [.box 99 (.pr (.dat CT c) (.ptr 1 [])) true, .box 107 (.dat RT x) true] K = ck (List.length x.1 < (100000 : Nat)) (K (AV.tup []) [AO.box 99 (AV.pr (AV.dat CT (c.1, c.2.1, wholeV (numV x (4 : Int)), c.2.2.2)) (AV.ptr 1 [])) true, AO.box 107 (AV.dat RT (numS x (4 : Int))) true]) := by kernel_rfl
theorem wto_0 {R : Type} (K : KV R) (c : CV) : (backS [] [] (codeX Tryd.prog Gw lvN 0 Tryd.f71)).run [.ptr 0 []] [.box 82 (.pr (.dat CT c) .nils) true] K = bif whBad c.2.2.2.1 then K (AV.tup []) [AO.box 82 (AV.pr (AV.dat CT c) (AV.view 1)) true, AO.row 5 U8 [] Md.own] else K (AV.tup []) [AO.box 82 (AV.pr (AV.dat CT c) (AV.view 1)) true, AO.row 5 U8 (pB (wholeN c.2.2.2.1) (4 : Nat)) Md.own] := by kernel_rfl
theorem wto_1 {R : Type} (K : KV R) (c : CV) (xs : List Int) : (backS [] [] (codeX Tryd.prog Gw lvN 0 Tryd.f71)).run [.ptr 0 []] [.box 82 (.pr (.dat CT c) (.view 1)) true, .row 5 U8 xs .own] K = bif whBad c.2.2.2.1 then ck ((List.length xs + (0 : Nat)) * (1 : Nat) ≤ limit) (K (AV.tup []) [AO.box 82 (AV.pr (AV.dat CT c) (AV.view 2)) true, AO.gone, AO.row 5 U8 (xs ++ []) Md.own]) else ck ((List.length xs + (4 : Nat)) * (1 : Nat) ≤ limit) (K (AV.tup []) [AO.box 82 (AV.pr (AV.dat CT c) (AV.view 2)) true, AO.gone, AO.row 5 U8 (xs ++ pB (wholeN c.2.2.2.1) (4 : Nat)) Md.own]) := by kernel_rfl
theorem rto_1 {R : Type} (K : KV R) (c : CV) (x : RV) : (codeX Tryd.prog Gr lvN 0 Tryd.f72).run [.ptr 0 []] [.box 99 (.pr (.dat CT c) (.ptr 1 [])) true, .box 107 (.dat RT x) true] K = ck (List.length x.1 < (100000 : Nat)) (K (AV.tup []) [AO.box 99 (AV.pr (AV.dat CT (c.1, c.2.1, c.2.2.1, wholeV (numV x (4 : Int)), c.2.2.2.2)) (AV.ptr 1 [])) true, AO.box 107 (AV.dat RT (numS x (4 : Int))) true]) := by kernel_rfl
theorem wtyp_0 {R : Type} (K : KV R) (c : CV) : (backS [] [] (codeX Tryd.prog Gw lvN 0 Tryd.f73)).run [.ptr 0 []] [.box 82 (.pr (.dat CT c) .nils) true] K = bif pBad (IntKind.wrap IntKind.u64 c.2.2.2.2.1.1) (1 : Int) then K (AV.tup []) [AO.box 82 (AV.pr (AV.dat CT c) (AV.view 1)) true, AO.row 5 U8 [] Md.own] else K (AV.tup []) [AO.box 82 (AV.pr (AV.dat CT c) (AV.view 1)) true, AO.row 5 U8 (pB (IntKind.wrap IntKind.u64 c.2.2.2.2.1.1) (1 : Nat)) Md.own] := by kernel_rfl
theorem wtyp_1 {R : Type} (K : KV R) (c : CV) (xs : List Int) : (backS [] [] (codeX Tryd.prog Gw lvN 0 Tryd.f73)).run [.ptr 0 []] [.box 82 (.pr (.dat CT c) (.view 1)) true, .row 5 U8 xs .own] K = bif pBad (IntKind.wrap IntKind.u64 c.2.2.2.2.1.1) (1 : Int) then ck ((List.length xs + (0 : Nat)) * (1 : Nat) ≤ limit) (K (AV.tup []) [AO.box 82 (AV.pr (AV.dat CT c) (AV.view 2)) true, AO.gone, AO.row 5 U8 (xs ++ []) Md.own]) else ck ((List.length xs + (1 : Nat)) * (1 : Nat) ≤ limit) (K (AV.tup []) [AO.box 82 (AV.pr (AV.dat CT c) (AV.view 2)) true, AO.gone, AO.row 5 U8 (xs ++ pB (IntKind.wrap IntKind.u64 c.2.2.2.2.1.1) (1 : Nat)) Md.own]) := by kernel_rfl
theorem rtyp_1 {R : Type} (K : KV R) (c : CV) (x : RV) : (codeX Tryd.prog Gr lvN 0 Tryd.f74).run [.ptr 0 []] [.box 99 (.pr (.dat CT c) (.ptr 1 [])) true, .box 107 (.dat RT x) true] K = ck (List.length x.1 < (100000 : Nat)) (K (AV.tup []) [AO.box 99 (AV.pr (AV.dat CT (c.1, c.2.1, c.2.2.1, c.2.2.2.1, (IntKind.wrap IntKind.i64 (numV x (1 : Int)), c.2.2.2.2.1.2), c.2.2.2.2.2)) (AV.ptr 1 [])) true, AO.box 107 (AV.dat RT (numS x (1 : Int))) true]) := by kernel_rfl
theorem wdesc_0 {R : Type} (K : KV R) (c : CV) : (backS [] [] (codeX Tryd.prog Gw lvN 0 Tryd.f75)).run [.ptr 0 []] [.box 82 (.pr (.dat CT c) .nils) true] K = ck (ByteArray.size c.2.2.2.2.1.2 ≤ limit) (ck (List.length (bytesOf c.2.2.2.2.1.2) < (500000 : Nat)) (bif decide (blE (bytesOf c.2.2.2.2.1.2) (1 : Int) = (0 : Int)) then ck (List.length (pB (↑(List.length (bytesOf c.2.2.2.2.1.2)) : Int) (1 : Nat) ++ bytesOf c.2.2.2.2.1.2) * (1 : Nat) ≤ limit) (K (AV.tup []) [AO.box 82 (AV.pr (AV.dat CT c) (AV.view 1)) true, AO.row 5 U8 (pB (↑(List.length (bytesOf c.2.2.2.2.1.2)) : Int) (1 : Nat) ++ bytesOf c.2.2.2.2.1.2) Md.own]) else K (AV.tup []) [AO.box 82 (AV.pr (AV.dat CT c) (AV.view 1)) true, AO.row 5 U8 [] Md.own])) := by kernel_rfl
theorem wdesc_1 {R : Type} (K : KV R) (c : CV) (xs : List Int) : (backS [] [] (codeX Tryd.prog Gw lvN 0 Tryd.f75)).run [.ptr 0 []] [.box 82 (.pr (.dat CT c) (.view 1)) true, .row 5 U8 xs .own] K = ck (ByteArray.size c.2.2.2.2.1.2 ≤ limit) (ck (List.length (bytesOf c.2.2.2.2.1.2) < (500000 : Nat)) (bif decide (blE (bytesOf c.2.2.2.2.1.2) (1 : Int) = (0 : Int)) then ck ((List.length xs + List.length (pB (↑(List.length (bytesOf c.2.2.2.2.1.2)) : Int) (1 : Nat) ++ bytesOf c.2.2.2.2.1.2)) * (1 : Nat) ≤ limit) (K (AV.tup []) [AO.box 82 (AV.pr (AV.dat CT c) (AV.view 2)) true, AO.gone, AO.row 5 U8 (xs ++ (pB (↑(List.length (bytesOf c.2.2.2.2.1.2)) : Int) (1 : Nat) ++ bytesOf c.2.2.2.2.1.2)) Md.own]) else ck ((List.length xs + (0 : Nat)) * (1 : Nat) ≤ limit) (K (AV.tup []) [AO.box 82 (AV.pr (AV.dat CT c) (AV.view 2)) true, AO.gone, AO.row 5 U8 (xs ++ []) Md.own]))) := by kernel_rfl
theorem rdesc_1 {R : Type} (K : KV R) (c : CV) (x : RV) : (codeX Tryd.prog Gr lvN 0 Tryd.f76).run [.ptr 0 []] [.box 99 (.pr (.dat CT c) (.ptr 1 [])) true, .box 107 (.dat RT x) true] K = ck (List.length x.1 < (100000 : Nat)) (listK (blobV x (1 : Int)) (K (AV.tup []) [AO.box 99 (AV.pr (AV.dat CT (c.1, c.2.1, c.2.2.1, c.2.2.2.1, (c.2.2.2.2.1.1, strOf []), c.2.2.2.2.2)) (AV.ptr 1 [])) true, AO.box 107 (AV.dat RT (blobS x (1 : Int))) true]) fun z zs ↦ K (AV.tup []) [AO.box 99 (AV.pr (AV.dat CT (c.1, c.2.1, c.2.2.1, c.2.2.2.1, (c.2.2.2.2.1.1, strOf (z :: zs)), c.2.2.2.2.2)) (AV.ptr 1 [])) true, AO.box 107 (AV.dat RT (blobS x (1 : Int))) true]) := by kernel_rfl
theorem wpayload_0 {R : Type} (K : KV R) (c : CV) : (backS [] [] (codeX Tryd.prog Gw lvN 0 Tryd.f77)).run [.ptr 0 []] [.box 82 (.pr (.dat CT c) .nils) true] K = ck (ByteArray.size c.2.2.2.2.2.1 ≤ limit) (ck (List.length (bytesOf c.2.2.2.2.2.1) < (500000 : Nat)) (bif decide (blE (bytesOf c.2.2.2.2.2.1) (2 : Int) = (0 : Int)) then ck (List.length (pB (↑(List.length (bytesOf c.2.2.2.2.2.1)) : Int) (2 : Nat) ++ bytesOf c.2.2.2.2.2.1) * (1 : Nat) ≤ limit) (K (AV.tup []) [AO.box 82 (AV.pr (AV.dat CT c) (AV.view 1)) true, AO.row 5 U8 (pB (↑(List.length (bytesOf c.2.2.2.2.2.1)) : Int) (2 : Nat) ++ bytesOf c.2.2.2.2.2.1) Md.own]) else K (AV.tup []) [AO.box 82 (AV.pr (AV.dat CT c) (AV.view 1)) true, AO.row 5 U8 [] Md.own])) := by kernel_rfl
theorem wpayload_1 {R : Type} (K : KV R) (c : CV) (xs : List Int) : (backS [] [] (codeX Tryd.prog Gw lvN 0 Tryd.f77)).run [.ptr 0 []] [.box 82 (.pr (.dat CT c) (.view 1)) true, .row 5 U8 xs .own] K = ck (ByteArray.size c.2.2.2.2.2.1 ≤ limit) (ck (List.length (bytesOf c.2.2.2.2.2.1) < (500000 : Nat)) (bif decide (blE (bytesOf c.2.2.2.2.2.1) (2 : Int) = (0 : Int)) then ck ((List.length xs + List.length (pB (↑(List.length (bytesOf c.2.2.2.2.2.1)) : Int) (2 : Nat) ++ bytesOf c.2.2.2.2.2.1)) * (1 : Nat) ≤ limit) (K (AV.tup []) [AO.box 82 (AV.pr (AV.dat CT c) (AV.view 2)) true, AO.gone, AO.row 5 U8 (xs ++ (pB (↑(List.length (bytesOf c.2.2.2.2.2.1)) : Int) (2 : Nat) ++ bytesOf c.2.2.2.2.2.1)) Md.own]) else ck ((List.length xs + (0 : Nat)) * (1 : Nat) ≤ limit) (K (AV.tup []) [AO.box 82 (AV.pr (AV.dat CT c) (AV.view 2)) true, AO.gone, AO.row 5 U8 (xs ++ []) Md.own]))) := by kernel_rfl
theorem rpayload_1 {R : Type} (K : KV R) (c : CV) (x : RV) : (codeX Tryd.prog Gr lvN 0 Tryd.f78).run [.ptr 0 []] [.box 99 (.pr (.dat CT c) (.ptr 1 [])) true, .box 107 (.dat RT x) true] K = ck (List.length x.1 < (100000 : Nat)) (listK (blobV x (2 : Int)) (K (AV.tup []) [AO.box 99 (AV.pr (AV.dat CT (c.1, c.2.1, c.2.2.1, c.2.2.2.1, c.2.2.2.2.1, strOf [], c.2.2.2.2.2.2)) (AV.ptr 1 [])) true, AO.box 107 (AV.dat RT (blobS x (2 : Int))) true]) fun z zs ↦ K (AV.tup []) [AO.box 99 (AV.pr (AV.dat CT (c.1, c.2.1, c.2.2.1, c.2.2.2.1, c.2.2.2.2.1, strOf (z :: zs), c.2.2.2.2.2.2)) (AV.ptr 1 [])) true, AO.box 107 (AV.dat RT (blobS x (2 : Int))) true]) := by kernel_rfl
theorem wperm_0 {R : Type} (K : KV R) (c : CV) : (backS [] [] (codeX Tryd.prog Gw lvN 0 Tryd.f79)).run [.ptr 0 []] [.box 82 (.pr (.dat CT c) .nils) true] K = bif pBad (IntKind.wrap IntKind.u64 c.2.2.2.2.2.2.1) (4 : Int) then K (AV.tup []) [AO.box 82 (AV.pr (AV.dat CT c) (AV.view 1)) true, AO.row 5 U8 [] Md.own] else K (AV.tup []) [AO.box 82 (AV.pr (AV.dat CT c) (AV.view 1)) true, AO.row 5 U8 (pB (IntKind.wrap IntKind.u64 c.2.2.2.2.2.2.1) (4 : Nat)) Md.own] := by kernel_rfl
theorem wperm_1 {R : Type} (K : KV R) (c : CV) (xs : List Int) : (backS [] [] (codeX Tryd.prog Gw lvN 0 Tryd.f79)).run [.ptr 0 []] [.box 82 (.pr (.dat CT c) (.view 1)) true, .row 5 U8 xs .own] K = bif pBad (IntKind.wrap IntKind.u64 c.2.2.2.2.2.2.1) (4 : Int) then ck ((List.length xs + (0 : Nat)) * (1 : Nat) ≤ limit) (K (AV.tup []) [AO.box 82 (AV.pr (AV.dat CT c) (AV.view 2)) true, AO.gone, AO.row 5 U8 (xs ++ []) Md.own]) else ck ((List.length xs + (4 : Nat)) * (1 : Nat) ≤ limit) (K (AV.tup []) [AO.box 82 (AV.pr (AV.dat CT c) (AV.view 2)) true, AO.gone, AO.row 5 U8 (xs ++ pB (IntKind.wrap IntKind.u64 c.2.2.2.2.2.2.1) (4 : Nat)) Md.own]) := by kernel_rfl
theorem rperm_1 {R : Type} (K : KV R) (c : CV) (x : RV) : (codeX Tryd.prog Gr lvN 0 Tryd.f80).run [.ptr 0 []] [.box 99 (.pr (.dat CT c) (.ptr 1 [])) true, .box 107 (.dat RT x) true] K = ck (List.length x.1 < (100000 : Nat)) (K (AV.tup []) [AO.box 99 (AV.pr (AV.dat CT (c.1, c.2.1, c.2.2.1, c.2.2.2.1, c.2.2.2.2.1, c.2.2.2.2.2.1, IntKind.wrap IntKind.u32 (numV x (4 : Int)), c.2.2.2.2.2.2.2)) (AV.ptr 1 [])) true, AO.box 107 (AV.dat RT (numS x (4 : Int))) true]) := by kernel_rfl
theorem wuid_0 {R : Type} (K : KV R) (c : CV) : (backS [] [] (codeX Tryd.prog Gw lvN 0 Tryd.f81)).run [.ptr 0 []] [.box 82 (.pr (.dat CT c) .nils) true] K = bif pBad (IntKind.wrap IntKind.u64 c.2.2.2.2.2.2.2.1) (1 : Int) then K (AV.tup []) [AO.box 82 (AV.pr (AV.dat CT c) (AV.view 1)) true, AO.row 5 U8 [] Md.own] else K (AV.tup []) [AO.box 82 (AV.pr (AV.dat CT c) (AV.view 1)) true, AO.row 5 U8 (pB (IntKind.wrap IntKind.u64 c.2.2.2.2.2.2.2.1) (1 : Nat)) Md.own] := by kernel_rfl
theorem wuid_1 {R : Type} (K : KV R) (c : CV) (xs : List Int) : (backS [] [] (codeX Tryd.prog Gw lvN 0 Tryd.f81)).run [.ptr 0 []] [.box 82 (.pr (.dat CT c) (.view 1)) true, .row 5 U8 xs .own] K = bif pBad (IntKind.wrap IntKind.u64 c.2.2.2.2.2.2.2.1) (1 : Int) then ck ((List.length xs + (0 : Nat)) * (1 : Nat) ≤ limit) (K (AV.tup []) [AO.box 82 (AV.pr (AV.dat CT c) (AV.view 2)) true, AO.gone, AO.row 5 U8 (xs ++ []) Md.own]) else ck ((List.length xs + (1 : Nat)) * (1 : Nat) ≤ limit) (K (AV.tup []) [AO.box 82 (AV.pr (AV.dat CT c) (AV.view 2)) true, AO.gone, AO.row 5 U8 (xs ++ pB (IntKind.wrap IntKind.u64 c.2.2.2.2.2.2.2.1) (1 : Nat)) Md.own]) := by kernel_rfl
theorem ruid_1 {R : Type} (K : KV R) (c : CV) (x : RV) : (codeX Tryd.prog Gr lvN 0 Tryd.f82).run [.ptr 0 []] [.box 99 (.pr (.dat CT c) (.ptr 1 [])) true, .box 107 (.dat RT x) true] K = ck (List.length x.1 < (100000 : Nat)) (K (AV.tup []) [AO.box 99 (AV.pr (AV.dat CT (c.1, c.2.1, c.2.2.1, c.2.2.2.1, c.2.2.2.2.1, c.2.2.2.2.2.1, c.2.2.2.2.2.2.1, IntKind.wrap IntKind.i64 (numV x (1 : Int)), c.2.2.2.2.2.2.2.2)) (AV.ptr 1 [])) true, AO.box 107 (AV.dat RT (numS x (1 : Int))) true]) := by kernel_rfl
theorem wgid_0 {R : Type} (K : KV R) (c : CV) : (backS [] [] (codeX Tryd.prog Gw lvN 0 Tryd.f83)).run [.ptr 0 []] [.box 82 (.pr (.dat CT c) .nils) true] K = bif pBad (IntKind.wrap IntKind.u64 c.2.2.2.2.2.2.2.2.1) (1 : Int) then K (AV.tup []) [AO.box 82 (AV.pr (AV.dat CT c) (AV.view 1)) true, AO.row 5 U8 [] Md.own] else K (AV.tup []) [AO.box 82 (AV.pr (AV.dat CT c) (AV.view 1)) true, AO.row 5 U8 (pB (IntKind.wrap IntKind.u64 c.2.2.2.2.2.2.2.2.1) (1 : Nat)) Md.own] := by kernel_rfl
theorem wgid_1 {R : Type} (K : KV R) (c : CV) (xs : List Int) : (backS [] [] (codeX Tryd.prog Gw lvN 0 Tryd.f83)).run [.ptr 0 []] [.box 82 (.pr (.dat CT c) (.view 1)) true, .row 5 U8 xs .own] K = bif pBad (IntKind.wrap IntKind.u64 c.2.2.2.2.2.2.2.2.1) (1 : Int) then ck ((List.length xs + (0 : Nat)) * (1 : Nat) ≤ limit) (K (AV.tup []) [AO.box 82 (AV.pr (AV.dat CT c) (AV.view 2)) true, AO.gone, AO.row 5 U8 (xs ++ []) Md.own]) else ck ((List.length xs + (1 : Nat)) * (1 : Nat) ≤ limit) (K (AV.tup []) [AO.box 82 (AV.pr (AV.dat CT c) (AV.view 2)) true, AO.gone, AO.row 5 U8 (xs ++ pB (IntKind.wrap IntKind.u64 c.2.2.2.2.2.2.2.2.1) (1 : Nat)) Md.own]) := by kernel_rfl
theorem rgid_1 {R : Type} (K : KV R) (c : CV) (x : RV) : (codeX Tryd.prog Gr lvN 0 Tryd.f84).run [.ptr 0 []] [.box 99 (.pr (.dat CT c) (.ptr 1 [])) true, .box 107 (.dat RT x) true] K = ck (List.length x.1 < (100000 : Nat)) (K (AV.tup []) [AO.box 99 (AV.pr (AV.dat CT (c.1, c.2.1, c.2.2.1, c.2.2.2.1, c.2.2.2.2.1, c.2.2.2.2.2.1, c.2.2.2.2.2.2.1, c.2.2.2.2.2.2.2.1, IntKind.wrap IntKind.i64 (numV x (1 : Int)), c.2.2.2.2.2.2.2.2.2)) (AV.ptr 1 [])) true, AO.box 107 (AV.dat RT (numS x (1 : Int))) true]) := by kernel_rfl
theorem wtime_0 {R : Type} (K : KV R) (c : CV) : (backS [] [] (codeX Tryd.prog Gw lvN 0 Tryd.f85)).run [.ptr 0 []] [.box 82 (.pr (.dat CT c) .nils) true] K = K (AV.tup []) [AO.box 82 (AV.pr (AV.dat CT c) (AV.view 1)) true, AO.row 5 U8 (pB c.2.2.2.2.2.2.2.2.2.1 (8 : Nat)) Md.own] := by kernel_rfl
theorem wtime_1 {R : Type} (K : KV R) (c : CV) (xs : List Int) : (backS [] [] (codeX Tryd.prog Gw lvN 0 Tryd.f85)).run [.ptr 0 []] [.box 82 (.pr (.dat CT c) (.view 1)) true, .row 5 U8 xs .own] K = ck ((List.length xs + (8 : Nat)) * (1 : Nat) ≤ limit) (K (AV.tup []) [AO.box 82 (AV.pr (AV.dat CT c) (AV.view 2)) true, AO.gone, AO.row 5 U8 (xs ++ pB c.2.2.2.2.2.2.2.2.2.1 (8 : Nat)) Md.own]) := by kernel_rfl
theorem rtime_1 {R : Type} (K : KV R) (c : CV) (x : RV) : (codeX Tryd.prog Gr lvN 0 Tryd.f86).run [.ptr 0 []] [.box 99 (.pr (.dat CT c) (.ptr 1 [])) true, .box 107 (.dat RT x) true] K = ck (List.length x.1 < (100000 : Nat)) (K (AV.tup []) [AO.box 99 (AV.pr (AV.dat CT (c.1, c.2.1, c.2.2.1, c.2.2.2.1, c.2.2.2.2.1, c.2.2.2.2.2.1, c.2.2.2.2.2.2.1, c.2.2.2.2.2.2.2.1, c.2.2.2.2.2.2.2.2.1, numV x (8 : Int), c.2.2.2.2.2.2.2.2.2.2)) (AV.ptr 1 [])) true, AO.box 107 (AV.dat RT (numS x (8 : Int))) true]) := by kernel_rfl
theorem wrestrict_0 {R : Type} (K : KV R) (c : CV) : (backS [] [] (codeX Tryd.prog Gw lvN 0 Tryd.f87)).run [.ptr 0 []] [.box 82 (.pr (.dat CT c) .nils) true] K = bif pBad (IntKind.wrap IntKind.u64 c.2.2.2.2.2.2.2.2.2.2.1) (1 : Int) then K (AV.tup []) [AO.box 82 (AV.pr (AV.dat CT c) (AV.view 1)) true, AO.row 5 U8 [] Md.own] else K (AV.tup []) [AO.box 82 (AV.pr (AV.dat CT c) (AV.view 1)) true, AO.row 5 U8 (pB (IntKind.wrap IntKind.u64 c.2.2.2.2.2.2.2.2.2.2.1) (1 : Nat)) Md.own] := by kernel_rfl
theorem wrestrict_1 {R : Type} (K : KV R) (c : CV) (xs : List Int) : (backS [] [] (codeX Tryd.prog Gw lvN 0 Tryd.f87)).run [.ptr 0 []] [.box 82 (.pr (.dat CT c) (.view 1)) true, .row 5 U8 xs .own] K = bif pBad (IntKind.wrap IntKind.u64 c.2.2.2.2.2.2.2.2.2.2.1) (1 : Int) then ck ((List.length xs + (0 : Nat)) * (1 : Nat) ≤ limit) (K (AV.tup []) [AO.box 82 (AV.pr (AV.dat CT c) (AV.view 2)) true, AO.gone, AO.row 5 U8 (xs ++ []) Md.own]) else ck ((List.length xs + (1 : Nat)) * (1 : Nat) ≤ limit) (K (AV.tup []) [AO.box 82 (AV.pr (AV.dat CT c) (AV.view 2)) true, AO.gone, AO.row 5 U8 (xs ++ pB (IntKind.wrap IntKind.u64 c.2.2.2.2.2.2.2.2.2.2.1) (1 : Nat)) Md.own]) := by kernel_rfl
theorem rrestrict_1 {R : Type} (K : KV R) (c : CV) (x : RV) : (codeX Tryd.prog Gr lvN 0 Tryd.f88).run [.ptr 0 []] [.box 99 (.pr (.dat CT c) (.ptr 1 [])) true, .box 107 (.dat RT x) true] K = ck (List.length x.1 < (100000 : Nat)) (K (AV.tup []) [AO.box 99 (AV.pr (AV.dat CT (c.1, c.2.1, c.2.2.1, c.2.2.2.1, c.2.2.2.2.1, c.2.2.2.2.2.1, c.2.2.2.2.2.2.1, c.2.2.2.2.2.2.2.1, c.2.2.2.2.2.2.2.2.1, c.2.2.2.2.2.2.2.2.2.1, IntKind.wrap IntKind.i64 (numV x (1 : Int)), c.2.2.2.2.2.2.2.2.2.2.2)) (AV.ptr 1 [])) true, AO.box 107 (AV.dat RT (numS x (1 : Int))) true]) := by kernel_rfl
theorem wcreate_0 {R : Type} (K : KV R) (c : CV) : (backS [] [] (codeX Tryd.prog Gw lvN 0 Tryd.f89)).run [.ptr 0 []] [.box 82 (.pr (.dat CT c) .nils) true] K = bif c.2.2.2.2.2.2.2.2.2.2.2 then K (AV.tup []) [AO.box 82 (AV.pr (AV.dat CT c) (AV.view 1)) true, AO.row 5 U8 (pB (1 : Int) (1 : Nat)) Md.own] else K (AV.tup []) [AO.box 82 (AV.pr (AV.dat CT c) (AV.view 1)) true, AO.row 5 U8 (pB (0 : Int) (1 : Nat)) Md.own] := by kernel_rfl
theorem wcreate_1 {R : Type} (K : KV R) (c : CV) (xs : List Int) : (backS [] [] (codeX Tryd.prog Gw lvN 0 Tryd.f89)).run [.ptr 0 []] [.box 82 (.pr (.dat CT c) (.view 1)) true, .row 5 U8 xs .own] K = bif c.2.2.2.2.2.2.2.2.2.2.2 then ck ((List.length xs + (1 : Nat)) * (1 : Nat) ≤ limit) (K (AV.tup []) [AO.box 82 (AV.pr (AV.dat CT c) (AV.view 2)) true, AO.gone, AO.row 5 U8 (xs ++ pB (1 : Int) (1 : Nat)) Md.own]) else ck ((List.length xs + (1 : Nat)) * (1 : Nat) ≤ limit) (K (AV.tup []) [AO.box 82 (AV.pr (AV.dat CT c) (AV.view 2)) true, AO.gone, AO.row 5 U8 (xs ++ pB (0 : Int) (1 : Nat)) Md.own]) := by kernel_rfl
theorem rcreate_1 {R : Type} (K : KV R) (c : CV) (x : RV) : (codeX Tryd.prog Gr lvN 0 Tryd.f90).run [.ptr 0 []] [.box 99 (.pr (.dat CT c) (.ptr 1 [])) true, .box 107 (.dat RT x) true] K = ck (List.length x.1 < (100000 : Nat)) (K (AV.tup []) [AO.box 99 (AV.pr (AV.dat CT (c.1, c.2.1, c.2.2.1, c.2.2.2.1, c.2.2.2.2.1, c.2.2.2.2.2.1, c.2.2.2.2.2.2.1, c.2.2.2.2.2.2.2.1, c.2.2.2.2.2.2.2.2.1, c.2.2.2.2.2.2.2.2.2.1, c.2.2.2.2.2.2.2.2.2.2.1, decide ((0 : Int) < numV x (1 : Int)))) (AV.ptr 1 [])) true, AO.box 107 (AV.dat RT (numS x (1 : Int))) true]) := by kernel_rfl
end Go.Mx
namespace Go.Mx
open Go Go.RowKit Go.Sx Go.Proofs
set_option maxRecDepth 100000
inductive PK where
  | key
  | ring
  | to
  | typ
  | desc
  | payload
  | perm
  | uid
  | gid
  | time
  | restrict
  | create
  deriving DecidableEq
def codeP : PK → Nat × Nat
  | .key => (67, 68)
  | .ring => (69, 70)
  | .to => (71, 72)
  | .typ => (73, 74)
  | .desc => (75, 76)
  | .payload => (77, 78)
  | .perm => (79, 80)
  | .uid => (81, 82)
  | .gid => (83, 84)
  | .time => (85, 86)
  | .restrict => (87, 88)
  | .create => (89, 90)
def encP : PK → CV → List Int
  | .key, c => bif whBad (c.2.1) then [] else pB (wholeN (c.2.1)) 4
  | .ring, c => bif whBad (c.2.2.1) then [] else pB (wholeN (c.2.2.1)) 4
  | .to, c => bif whBad (c.2.2.2.1) then [] else pB (wholeN (c.2.2.2.1)) 4
  | .typ, c => bif pBad (IntKind.wrap .u64 (c.2.2.2.2.1.1)) 1 then [] else pB (IntKind.wrap .u64 (c.2.2.2.2.1.1)) 1
  | .desc, c => bif decide (blE (bytesOf (c.2.2.2.2.1.2)) 1 = 0) then pB (((bytesOf (c.2.2.2.2.1.2)).length : Nat) : Int) 1 ++ bytesOf (c.2.2.2.2.1.2) else []
  | .payload, c => bif decide (blE (bytesOf (c.2.2.2.2.2.1)) 2 = 0) then pB (((bytesOf (c.2.2.2.2.2.1)).length : Nat) : Int) 2 ++ bytesOf (c.2.2.2.2.2.1) else []
  | .perm, c => bif pBad (IntKind.wrap .u64 (c.2.2.2.2.2.2.1)) 4 then [] else pB (IntKind.wrap .u64 (c.2.2.2.2.2.2.1)) 4
  | .uid, c => bif pBad (IntKind.wrap .u64 (c.2.2.2.2.2.2.2.1)) 1 then [] else pB (IntKind.wrap .u64 (c.2.2.2.2.2.2.2.1)) 1
  | .gid, c => bif pBad (IntKind.wrap .u64 (c.2.2.2.2.2.2.2.2.1)) 1 then [] else pB (IntKind.wrap .u64 (c.2.2.2.2.2.2.2.2.1)) 1
  | .time, c => pB (c.2.2.2.2.2.2.2.2.2.1) 8
  | .restrict, c => bif pBad (IntKind.wrap .u64 (c.2.2.2.2.2.2.2.2.2.2.1)) 1 then [] else pB (IntKind.wrap .u64 (c.2.2.2.2.2.2.2.2.2.2.1)) 1
  | .create, c => bif c.2.2.2.2.2.2.2.2.2.2.2 then pB 1 1 else pB 0 1
def rdC : PK → CV → RV → CV
  | .key, c, x => (c.1, wholeV (numV x 4), c.2.2.1, c.2.2.2.1, c.2.2.2.2.1, c.2.2.2.2.2.1, c.2.2.2.2.2.2.1, c.2.2.2.2.2.2.2.1, c.2.2.2.2.2.2.2.2.1, c.2.2.2.2.2.2.2.2.2.1, c.2.2.2.2.2.2.2.2.2.2.1, c.2.2.2.2.2.2.2.2.2.2.2)
  | .ring, c, x => (c.1, c.2.1, wholeV (numV x 4), c.2.2.2.1, c.2.2.2.2.1, c.2.2.2.2.2.1, c.2.2.2.2.2.2.1, c.2.2.2.2.2.2.2.1, c.2.2.2.2.2.2.2.2.1, c.2.2.2.2.2.2.2.2.2.1, c.2.2.2.2.2.2.2.2.2.2.1, c.2.2.2.2.2.2.2.2.2.2.2)
  | .to, c, x => (c.1, c.2.1, c.2.2.1, wholeV (numV x 4), c.2.2.2.2.1, c.2.2.2.2.2.1, c.2.2.2.2.2.2.1, c.2.2.2.2.2.2.2.1, c.2.2.2.2.2.2.2.2.1, c.2.2.2.2.2.2.2.2.2.1, c.2.2.2.2.2.2.2.2.2.2.1, c.2.2.2.2.2.2.2.2.2.2.2)
  | .typ, c, x => (c.1, c.2.1, c.2.2.1, c.2.2.2.1, (IntKind.wrap .i64 (numV x 1), c.2.2.2.2.1.2), c.2.2.2.2.2.1, c.2.2.2.2.2.2.1, c.2.2.2.2.2.2.2.1, c.2.2.2.2.2.2.2.2.1, c.2.2.2.2.2.2.2.2.2.1, c.2.2.2.2.2.2.2.2.2.2.1, c.2.2.2.2.2.2.2.2.2.2.2)
  | .desc, c, x => (c.1, c.2.1, c.2.2.1, c.2.2.2.1, (c.2.2.2.2.1.1, strOf (blobV x 1)), c.2.2.2.2.2.1, c.2.2.2.2.2.2.1, c.2.2.2.2.2.2.2.1, c.2.2.2.2.2.2.2.2.1, c.2.2.2.2.2.2.2.2.2.1, c.2.2.2.2.2.2.2.2.2.2.1, c.2.2.2.2.2.2.2.2.2.2.2)
  | .payload, c, x => (c.1, c.2.1, c.2.2.1, c.2.2.2.1, c.2.2.2.2.1, strOf (blobV x 2), c.2.2.2.2.2.2.1, c.2.2.2.2.2.2.2.1, c.2.2.2.2.2.2.2.2.1, c.2.2.2.2.2.2.2.2.2.1, c.2.2.2.2.2.2.2.2.2.2.1, c.2.2.2.2.2.2.2.2.2.2.2)
  | .perm, c, x => (c.1, c.2.1, c.2.2.1, c.2.2.2.1, c.2.2.2.2.1, c.2.2.2.2.2.1, IntKind.wrap .u32 (numV x 4), c.2.2.2.2.2.2.2.1, c.2.2.2.2.2.2.2.2.1, c.2.2.2.2.2.2.2.2.2.1, c.2.2.2.2.2.2.2.2.2.2.1, c.2.2.2.2.2.2.2.2.2.2.2)
  | .uid, c, x => (c.1, c.2.1, c.2.2.1, c.2.2.2.1, c.2.2.2.2.1, c.2.2.2.2.2.1, c.2.2.2.2.2.2.1, IntKind.wrap .i64 (numV x 1), c.2.2.2.2.2.2.2.2.1, c.2.2.2.2.2.2.2.2.2.1, c.2.2.2.2.2.2.2.2.2.2.1, c.2.2.2.2.2.2.2.2.2.2.2)
  | .gid, c, x => (c.1, c.2.1, c.2.2.1, c.2.2.2.1, c.2.2.2.2.1, c.2.2.2.2.2.1, c.2.2.2.2.2.2.1, c.2.2.2.2.2.2.2.1, IntKind.wrap .i64 (numV x 1), c.2.2.2.2.2.2.2.2.2.1, c.2.2.2.2.2.2.2.2.2.2.1, c.2.2.2.2.2.2.2.2.2.2.2)
  | .time, c, x => (c.1, c.2.1, c.2.2.1, c.2.2.2.1, c.2.2.2.2.1, c.2.2.2.2.2.1, c.2.2.2.2.2.2.1, c.2.2.2.2.2.2.2.1, c.2.2.2.2.2.2.2.2.1, numV x 8, c.2.2.2.2.2.2.2.2.2.2.1, c.2.2.2.2.2.2.2.2.2.2.2)
  | .restrict, c, x => (c.1, c.2.1, c.2.2.1, c.2.2.2.1, c.2.2.2.2.1, c.2.2.2.2.2.1, c.2.2.2.2.2.2.1, c.2.2.2.2.2.2.2.1, c.2.2.2.2.2.2.2.2.1, c.2.2.2.2.2.2.2.2.2.1, IntKind.wrap .i64 (numV x 1), c.2.2.2.2.2.2.2.2.2.2.2)
  | .create, c, x => (c.1, c.2.1, c.2.2.1, c.2.2.2.1, c.2.2.2.2.1, c.2.2.2.2.2.1, c.2.2.2.2.2.2.1, c.2.2.2.2.2.2.2.1, c.2.2.2.2.2.2.2.2.1, c.2.2.2.2.2.2.2.2.2.1, c.2.2.2.2.2.2.2.2.2.2.1, decide (0 < numV x 1))
def rdS : PK → RV → RV
  | .key, x => numS x 4
  | .ring, x => numS x 4
  | .to, x => numS x 4
  | .typ, x => numS x 1
  | .desc, x => blobS x 1
  | .payload, x => blobS x 2
  | .perm, x => numS x 4
  | .uid, x => numS x 1
  | .gid, x => numS x 1
  | .time, x => numS x 8
  | .restrict, x => numS x 1
  | .create, x => numS x 1
def smallC (c : CV) : Prop := c.2.2.2.2.1.2.size ≤ 1000 ∧ c.2.2.2.2.2.1.size ≤ 1000
instance (c : CV) : Decidable (smallC c) := inferInstanceAs (Decidable (_ ∧ _))
def Fw (p : PK) : Summ := ⟨fun args ob K => match args, ob with
  | [.ptr 0 []], [.box 82 (.pr v .nils) true] => (asD CT v).bind fun c => ck (smallC c) (K (.tup []) [.box 82 (.pr (.dat CT c) (.view 1)) true, .row 5 U8 (encP p c) .own])
  | [.ptr 0 []], [.box 82 (.pr v (.view 1)) true, .row 5 (.int .u8) xs .own] => (asD CT v).bind fun c => ck (smallC c ∧ xs.length ≤ 10000) (K (.tup []) [.box 82 (.pr (.dat CT c) (.view 2)) true, .gone, .row 5 U8 (xs ++ encP p c) .own])
  | _, _ => none⟩
def Fr (p : PK) : Summ := ⟨fun args ob K => match args, ob with
  | [.ptr 0 []], [.box 99 (.pr v (.ptr 1 [])) true, .box 107 u true] => (asD CT v).bind fun c => (asD RT u).bind fun x => ck (x.1.length < 100000) (K (.tup []) [.box 99 (.pr (.dat CT (rdC p c x)) (.ptr 1 [])) true, .box 107 (.dat RT (rdS p x)) true])
  | _, _ => none⟩
theorem Fw_nat (p : PK) : (Fw p).Nat := by
  intro R R' f args ob K
  unfold Fw; dsimp only
  split <;> simp only [bd_bind, bd_ck, bd_none]
theorem Fr_nat (p : PK) : (Fr p).Nat := by
  intro R R' f args ob K
  unfold Fr; dsimp only
  split <;> simp only [bd_bind, bd_ck, bd_none]
theorem alw : AllOk Tryd.prog [(26, F12), (61, F10), (27, eitherS cView F27v F14), (100, W 100)] := ⟨F12_ok, F10_ok, eitherS_ok F27v_ok F14_ok, W_ok 100, trivial⟩
theorem alr : AllOk Tryd.prog [(32, inS 32 cl F18), (33, inS 33 cl F20), (34, inS 34 cl F22)] := ⟨in_ok F18_ok, in_ok F20_ok, in_ok F22_ok, trivial⟩
theorem baseW {f : FuncId} {fn : Func} (hf : Tryd.prog.funcs[f]? = some fn) : SumOk Tryd.prog f (backS [] [] (codeX Tryd.prog Gw lvN 0 fn)) := back_ok (codeX_ok (k := 0) (lv := lvN) mixed noNG_prog (sums_call (Wr := all) alw) (sums_prim alw) (fn := fn) hf)
theorem baseR {f : FuncId} {fn : Func} (hf : Tryd.prog.funcs[f]? = some fn) : SumOk Tryd.prog f (codeX Tryd.prog Gr lvN 0 fn) := codeX_ok (k := 0) (lv := lvN) mixed noNG_prog (sums_call (Wr := all) alr) (sums_prim alr) (fn := fn) hf
theorem lim0 {n k : Nat} (h : n ≤ 10000) (hk : k ≤ 5000) : (n + k) * 1 ≤ limit := by unfold limit; omega
theorem wkey_ok : SumOk Tryd.prog 67 (Fw .key) := by
  refine (baseW (fn := Tryd.f67) rfl).le (Fw_nat _) ?_
  intro R args ob K r h
  unfold Fw at h; dsimp only at h
  split at h
  · obtain ⟨c, hc, h1⟩ := bind_elim h
    obtain ⟨hs, h2⟩ := ck_elim h1
    have e := asD_ok hc
    subst e
    refine (wkey_0 K c).trans (Eq.trans ?_ h2)
    show _ = K _ [_, .row 5 U8 (bif _ then _ else _) .own]
    cases whBad (c.2.1) <;> rfl
  · rename_i xs
    obtain ⟨c, hc, h1⟩ := bind_elim h
    obtain ⟨⟨hs, hx⟩, h2⟩ := ck_elim h1
    have e := asD_ok hc
    subst e
    refine (wkey_1 K c xs).trans (Eq.trans ?_ h2)
    rw [ck_pos (lim0 hx (by omega)), ck_pos (lim0 hx (by omega))]
    show _ = K _ [_, _, .row 5 U8 (xs ++ (bif _ then _ else _)) .own]
    cases whBad (c.2.1) <;> rfl
  · cases h
theorem rkey_ok : SumOk Tryd.prog 68 (Fr .key) := by
  refine (baseR (fn := Tryd.f68) rfl).le (Fr_nat _) ?_
  intro R args ob K r h
  unfold Fr at h; dsimp only at h
  split at h
  · obtain ⟨c, hc, h1⟩ := bind_elim h
    obtain ⟨x, hx, h1⟩ := bind_elim h1
    obtain ⟨hs, h2⟩ := ck_elim h1
    have e := asD_ok hc
    subst e
    have e := asD_ok hx
    subst e
    refine (rkey_1 K c x).trans (Eq.trans ?_ h2)
    rw [ck_pos hs]
    rfl
  · cases h
theorem wring_ok : SumOk Tryd.prog 69 (Fw .ring) := by
  refine (baseW (fn := Tryd.f69) rfl).le (Fw_nat _) ?_
  intro R args ob K r h
  unfold Fw at h; dsimp only at h
  split at h
  · obtain ⟨c, hc, h1⟩ := bind_elim h
    obtain ⟨hs, h2⟩ := ck_elim h1
    have e := asD_ok hc
    subst e
    refine (wring_0 K c).trans (Eq.trans ?_ h2)
    show _ = K _ [_, .row 5 U8 (bif _ then _ else _) .own]
    cases whBad (c.2.2.1) <;> rfl
  · rename_i xs
    obtain ⟨c, hc, h1⟩ := bind_elim h
    obtain ⟨⟨hs, hx⟩, h2⟩ := ck_elim h1
    have e := asD_ok hc
    subst e
    refine (wring_1 K c xs).trans (Eq.trans ?_ h2)
    rw [ck_pos (lim0 hx (by omega)), ck_pos (lim0 hx (by omega))]
    show _ = K _ [_, _, .row 5 U8 (xs ++ (bif _ then _ else _)) .own]
    cases whBad (c.2.2.1) <;> rfl
  · cases h
theorem rring_ok : SumOk Tryd.prog 70 (Fr .ring) := by
  refine (baseR (fn := Tryd.f70) rfl).le (Fr_nat _) ?_
  intro R args ob K r h
  unfold Fr at h; dsimp only at h
  split at h
  · obtain ⟨c, hc, h1⟩ := bind_elim h
    obtain ⟨x, hx, h1⟩ := bind_elim h1
    obtain ⟨hs, h2⟩ := ck_elim h1
    have e := asD_ok hc
    subst e
    have e := asD_ok hx
    subst e
    refine (rring_1 K c x).trans (Eq.trans ?_ h2)
    rw [ck_pos hs]
    rfl
  · cases h
theorem wto_ok : SumOk Tryd.prog 71 (Fw .to) := by
  refine (baseW (fn := Tryd.f71) rfl).le (Fw_nat _) ?_
  intro R args ob K r h
  unfold Fw at h; dsimp only at h
  split at h
  · obtain ⟨c, hc, h1⟩ := bind_elim h
    obtain ⟨hs, h2⟩ := ck_elim h1
    have e := asD_ok hc
    subst e
    refine (wto_0 K c).trans (Eq.trans ?_ h2)
    show _ = K _ [_, .row 5 U8 (bif _ then _ else _) .own]
    cases whBad (c.2.2.2.1) <;> rfl
  · rename_i xs
    obtain ⟨c, hc, h1⟩ := bind_elim h
    obtain ⟨⟨hs, hx⟩, h2⟩ := ck_elim h1
    have e := asD_ok hc
    subst e
    refine (wto_1 K c xs).trans (Eq.trans ?_ h2)
    rw [ck_pos (lim0 hx (by omega)), ck_pos (lim0 hx (by omega))]
    show _ = K _ [_, _, .row 5 U8 (xs ++ (bif _ then _ else _)) .own]
    cases whBad (c.2.2.2.1) <;> rfl
  · cases h
theorem rto_ok : SumOk Tryd.prog 72 (Fr .to) := by
  refine (baseR (fn := Tryd.f72) rfl).le (Fr_nat _) ?_
  intro R args ob K r h
  unfold Fr at h; dsimp only at h
  split at h
  · obtain ⟨c, hc, h1⟩ := bind_elim h
    obtain ⟨x, hx, h1⟩ := bind_elim h1
    obtain ⟨hs, h2⟩ := ck_elim h1
    have e := asD_ok hc
    subst e
    have e := asD_ok hx
    subst e
    refine (rto_1 K c x).trans (Eq.trans ?_ h2)
    rw [ck_pos hs]
    rfl
  · cases h
theorem wtyp_ok : SumOk Tryd.prog 73 (Fw .typ) := by
  refine (baseW (fn := Tryd.f73) rfl).le (Fw_nat _) ?_
  intro R args ob K r h
  unfold Fw at h; dsimp only at h
  split at h
  · obtain ⟨c, hc, h1⟩ := bind_elim h
    obtain ⟨hs, h2⟩ := ck_elim h1
    have e := asD_ok hc
    subst e
    refine (wtyp_0 K c).trans (Eq.trans ?_ h2)
    show _ = K _ [_, .row 5 U8 (bif _ then _ else _) .own]
    cases pBad (IntKind.wrap .u64 (c.2.2.2.2.1.1)) 1 <;> rfl
  · rename_i xs
    obtain ⟨c, hc, h1⟩ := bind_elim h
    obtain ⟨⟨hs, hx⟩, h2⟩ := ck_elim h1
    have e := asD_ok hc
    subst e
    refine (wtyp_1 K c xs).trans (Eq.trans ?_ h2)
    rw [ck_pos (lim0 hx (by omega)), ck_pos (lim0 hx (by omega))]
    show _ = K _ [_, _, .row 5 U8 (xs ++ (bif _ then _ else _)) .own]
    cases pBad (IntKind.wrap .u64 (c.2.2.2.2.1.1)) 1 <;> rfl
  · cases h
theorem rtyp_ok : SumOk Tryd.prog 74 (Fr .typ) := by
  refine (baseR (fn := Tryd.f74) rfl).le (Fr_nat _) ?_
  intro R args ob K r h
  unfold Fr at h; dsimp only at h
  split at h
  · obtain ⟨c, hc, h1⟩ := bind_elim h
    obtain ⟨x, hx, h1⟩ := bind_elim h1
    obtain ⟨hs, h2⟩ := ck_elim h1
    have e := asD_ok hc
    subst e
    have e := asD_ok hx
    subst e
    refine (rtyp_1 K c x).trans (Eq.trans ?_ h2)
    rw [ck_pos hs]
    rfl
  · cases h
theorem wdesc_ok : SumOk Tryd.prog 75 (Fw .desc) := by
  refine (baseW (fn := Tryd.f75) rfl).le (Fw_nat _) ?_
  intro R args ob K r h
  unfold Fw at h; dsimp only at h
  split at h
  · obtain ⟨c, hc, h1⟩ := bind_elim h
    obtain ⟨hs, h2⟩ := ck_elim h1
    have e := asD_ok hc
    subst e
    refine (wdesc_0 K c).trans (Eq.trans ?_ h2)
    have hz : ByteArray.size (c.2.2.2.2.1.2) ≤ 1000 := hs.1
    have hb := bytesOf_length (c.2.2.2.2.1.2)
    rw [ck_pos (show ByteArray.size (c.2.2.2.2.1.2) ≤ limit by unfold limit; omega), ck_pos (show (bytesOf (c.2.2.2.2.1.2)).length < 500000 by omega), ck_pos (show (pB (((bytesOf (c.2.2.2.2.1.2)).length : Nat) : Int) 1 ++ bytesOf (c.2.2.2.2.1.2)).length * 1 ≤ limit by rw [List.length_append, pB_len]; unfold limit; omega)]
    show _ = K _ [_, .row 5 U8 (bif _ then _ else _) .own]
    cases decide (blE (bytesOf (c.2.2.2.2.1.2)) 1 = 0) <;> rfl
  · rename_i xs
    obtain ⟨c, hc, h1⟩ := bind_elim h
    obtain ⟨⟨hs, hx⟩, h2⟩ := ck_elim h1
    have e := asD_ok hc
    subst e
    refine (wdesc_1 K c xs).trans (Eq.trans ?_ h2)
    have hz : ByteArray.size (c.2.2.2.2.1.2) ≤ 1000 := hs.1
    have hb := bytesOf_length (c.2.2.2.2.1.2)
    rw [ck_pos (show ByteArray.size (c.2.2.2.2.1.2) ≤ limit by unfold limit; omega), ck_pos (show (bytesOf (c.2.2.2.2.1.2)).length < 500000 by omega), ck_pos (lim0 hx (show (pB (((bytesOf (c.2.2.2.2.1.2)).length : Nat) : Int) 1 ++ bytesOf (c.2.2.2.2.1.2)).length ≤ 5000 by rw [List.length_append, pB_len]; omega)), ck_pos (lim0 hx (Nat.zero_le _))]
    show _ = K _ [_, _, .row 5 U8 (xs ++ (bif _ then _ else _)) .own]
    cases decide (blE (bytesOf (c.2.2.2.2.1.2)) 1 = 0) <;> rfl
  · cases h
theorem rdesc_ok : SumOk Tryd.prog 76 (Fr .desc) := by
  refine (baseR (fn := Tryd.f76) rfl).le (Fr_nat _) ?_
  intro R args ob K r h
  unfold Fr at h; dsimp only at h
  split at h
  · obtain ⟨c, hc, h1⟩ := bind_elim h
    obtain ⟨x, hx, h1⟩ := bind_elim h1
    obtain ⟨hs, h2⟩ := ck_elim h1
    have e := asD_ok hc
    subst e
    have e := asD_ok hx
    subst e
    refine (rdesc_1 K c x).trans (Eq.trans ?_ h2)
    rw [ck_pos hs]
    rw [show rdC .desc c x = (c.1, c.2.1, c.2.2.1, c.2.2.2.1, (c.2.2.2.2.1.1, strOf (blobV x 1)), c.2.2.2.2.2.1, c.2.2.2.2.2.2.1, c.2.2.2.2.2.2.2.1, c.2.2.2.2.2.2.2.2.1, c.2.2.2.2.2.2.2.2.2.1, c.2.2.2.2.2.2.2.2.2.2.1, c.2.2.2.2.2.2.2.2.2.2.2) from rfl]
    cases blobV x 1 <;> rfl
  · cases h
theorem wpayload_ok : SumOk Tryd.prog 77 (Fw .payload) := by
  refine (baseW (fn := Tryd.f77) rfl).le (Fw_nat _) ?_
  intro R args ob K r h
  unfold Fw at h; dsimp only at h
  split at h
  · obtain ⟨c, hc, h1⟩ := bind_elim h
    obtain ⟨hs, h2⟩ := ck_elim h1
    have e := asD_ok hc
    subst e
    refine (wpayload_0 K c).trans (Eq.trans ?_ h2)
    have hz : ByteArray.size (c.2.2.2.2.2.1) ≤ 1000 := hs.2
    have hb := bytesOf_length (c.2.2.2.2.2.1)
    rw [ck_pos (show ByteArray.size (c.2.2.2.2.2.1) ≤ limit by unfold limit; omega), ck_pos (show (bytesOf (c.2.2.2.2.2.1)).length < 500000 by omega), ck_pos (show (pB (((bytesOf (c.2.2.2.2.2.1)).length : Nat) : Int) 2 ++ bytesOf (c.2.2.2.2.2.1)).length * 1 ≤ limit by rw [List.length_append, pB_len]; unfold limit; omega)]
    show _ = K _ [_, .row 5 U8 (bif _ then _ else _) .own]
    cases decide (blE (bytesOf (c.2.2.2.2.2.1)) 2 = 0) <;> rfl
  · rename_i xs
    obtain ⟨c, hc, h1⟩ := bind_elim h
    obtain ⟨⟨hs, hx⟩, h2⟩ := ck_elim h1
    have e := asD_ok hc
    subst e
    refine (wpayload_1 K c xs).trans (Eq.trans ?_ h2)
    have hz : ByteArray.size (c.2.2.2.2.2.1) ≤ 1000 := hs.2
    have hb := bytesOf_length (c.2.2.2.2.2.1)
    rw [ck_pos (show ByteArray.size (c.2.2.2.2.2.1) ≤ limit by unfold limit; omega), ck_pos (show (bytesOf (c.2.2.2.2.2.1)).length < 500000 by omega), ck_pos (lim0 hx (show (pB (((bytesOf (c.2.2.2.2.2.1)).length : Nat) : Int) 2 ++ bytesOf (c.2.2.2.2.2.1)).length ≤ 5000 by rw [List.length_append, pB_len]; omega)), ck_pos (lim0 hx (Nat.zero_le _))]
    show _ = K _ [_, _, .row 5 U8 (xs ++ (bif _ then _ else _)) .own]
    cases decide (blE (bytesOf (c.2.2.2.2.2.1)) 2 = 0) <;> rfl
  · cases h
theorem rpayload_ok : SumOk Tryd.prog 78 (Fr .payload) := by
  refine (baseR (fn := Tryd.f78) rfl).le (Fr_nat _) ?_
  intro R args ob K r h
  unfold Fr at h; dsimp only at h
  split at h
  · obtain ⟨c, hc, h1⟩ := bind_elim h
    obtain ⟨x, hx, h1⟩ := bind_elim h1
    obtain ⟨hs, h2⟩ := ck_elim h1
    have e := asD_ok hc
    subst e
    have e := asD_ok hx
    subst e
    refine (rpayload_1 K c x).trans (Eq.trans ?_ h2)
    rw [ck_pos hs]
    rw [show rdC .payload c x = (c.1, c.2.1, c.2.2.1, c.2.2.2.1, c.2.2.2.2.1, strOf (blobV x 2), c.2.2.2.2.2.2.1, c.2.2.2.2.2.2.2.1, c.2.2.2.2.2.2.2.2.1, c.2.2.2.2.2.2.2.2.2.1, c.2.2.2.2.2.2.2.2.2.2.1, c.2.2.2.2.2.2.2.2.2.2.2) from rfl]
    cases blobV x 2 <;> rfl
  · cases h
theorem wperm_ok : SumOk Tryd.prog 79 (Fw .perm) := by
  refine (baseW (fn := Tryd.f79) rfl).le (Fw_nat _) ?_
  intro R args ob K r h
  unfold Fw at h; dsimp only at h
  split at h
  · obtain ⟨c, hc, h1⟩ := bind_elim h
    obtain ⟨hs, h2⟩ := ck_elim h1
    have e := asD_ok hc
    subst e
    refine (wperm_0 K c).trans (Eq.trans ?_ h2)
    show _ = K _ [_, .row 5 U8 (bif _ then _ else _) .own]
    cases pBad (IntKind.wrap .u64 (c.2.2.2.2.2.2.1)) 4 <;> rfl
  · rename_i xs
    obtain ⟨c, hc, h1⟩ := bind_elim h
    obtain ⟨⟨hs, hx⟩, h2⟩ := ck_elim h1
    have e := asD_ok hc
    subst e
    refine (wperm_1 K c xs).trans (Eq.trans ?_ h2)
    rw [ck_pos (lim0 hx (by omega)), ck_pos (lim0 hx (by omega))]
    show _ = K _ [_, _, .row 5 U8 (xs ++ (bif _ then _ else _)) .own]
    cases pBad (IntKind.wrap .u64 (c.2.2.2.2.2.2.1)) 4 <;> rfl
  · cases h
theorem rperm_ok : SumOk Tryd.prog 80 (Fr .perm) := by
  refine (baseR (fn := Tryd.f80) rfl).le (Fr_nat _) ?_
  intro R args ob K r h
  unfold Fr at h; dsimp only at h
  split at h
  · obtain ⟨c, hc, h1⟩ := bind_elim h
    obtain ⟨x, hx, h1⟩ := bind_elim h1
    obtain ⟨hs, h2⟩ := ck_elim h1
    have e := asD_ok hc
    subst e
    have e := asD_ok hx
    subst e
    refine (rperm_1 K c x).trans (Eq.trans ?_ h2)
    rw [ck_pos hs]
    rfl
  · cases h
theorem wuid_ok : SumOk Tryd.prog 81 (Fw .uid) := by
  refine (baseW (fn := Tryd.f81) rfl).le (Fw_nat _) ?_
  intro R args ob K r h
  unfold Fw at h; dsimp only at h
  split at h
  · obtain ⟨c, hc, h1⟩ := bind_elim h
    obtain ⟨hs, h2⟩ := ck_elim h1
    have e := asD_ok hc
    subst e
    refine (wuid_0 K c).trans (Eq.trans ?_ h2)
    show _ = K _ [_, .row 5 U8 (bif _ then _ else _) .own]
    cases pBad (IntKind.wrap .u64 (c.2.2.2.2.2.2.2.1)) 1 <;> rfl
  · rename_i xs
    obtain ⟨c, hc, h1⟩ := bind_elim h
    obtain ⟨⟨hs, hx⟩, h2⟩ := ck_elim h1
    have e := asD_ok hc
    subst e
    refine (wuid_1 K c xs).trans (Eq.trans ?_ h2)
    rw [ck_pos (lim0 hx (by omega)), ck_pos (lim0 hx (by omega))]
    show _ = K _ [_, _, .row 5 U8 (xs ++ (bif _ then _ else _)) .own]
    cases pBad (IntKind.wrap .u64 (c.2.2.2.2.2.2.2.1)) 1 <;> rfl
  · cases h
theorem ruid_ok : SumOk Tryd.prog 82 (Fr .uid) := by
  refine (baseR (fn := Tryd.f82) rfl).le (Fr_nat _) ?_
  intro R args ob K r h
  unfold Fr at h; dsimp only at h
  split at h
  · obtain ⟨c, hc, h1⟩ := bind_elim h
    obtain ⟨x, hx, h1⟩ := bind_elim h1
    obtain ⟨hs, h2⟩ := ck_elim h1
    have e := asD_ok hc
    subst e
    have e := asD_ok hx
    subst e
    refine (ruid_1 K c x).trans (Eq.trans ?_ h2)
    rw [ck_pos hs]
    rfl
  · cases h
theorem wgid_ok : SumOk Tryd.prog 83 (Fw .gid) := by
  refine (baseW (fn := Tryd.f83) rfl).le (Fw_nat _) ?_
  intro R args ob K r h
  unfold Fw at h; dsimp only at h
  split at h
  · obtain ⟨c, hc, h1⟩ := bind_elim h
    obtain ⟨hs, h2⟩ := ck_elim h1
    have e := asD_ok hc
    subst e
    refine (wgid_0 K c).trans (Eq.trans ?_ h2)
    show _ = K _ [_, .row 5 U8 (bif _ then _ else _) .own]
    cases pBad (IntKind.wrap .u64 (c.2.2.2.2.2.2.2.2.1)) 1 <;> rfl
  · rename_i xs
    obtain ⟨c, hc, h1⟩ := bind_elim h
    obtain ⟨⟨hs, hx⟩, h2⟩ := ck_elim h1
    have e := asD_ok hc
    subst e
    refine (wgid_1 K c xs).trans (Eq.trans ?_ h2)
    rw [ck_pos (lim0 hx (by omega)), ck_pos (lim0 hx (by omega))]
    show _ = K _ [_, _, .row 5 U8 (xs ++ (bif _ then _ else _)) .own]
    cases pBad (IntKind.wrap .u64 (c.2.2.2.2.2.2.2.2.1)) 1 <;> rfl
  · cases h
theorem rgid_ok : SumOk Tryd.prog 84 (Fr .gid) := by
  refine (baseR (fn := Tryd.f84) rfl).le (Fr_nat _) ?_
  intro R args ob K r h
  unfold Fr at h; dsimp only at h
  split at h
  · obtain ⟨c, hc, h1⟩ := bind_elim h
    obtain ⟨x, hx, h1⟩ := bind_elim h1
    obtain ⟨hs, h2⟩ := ck_elim h1
    have e := asD_ok hc
    subst e
    have e := asD_ok hx
    subst e
    refine (rgid_1 K c x).trans (Eq.trans ?_ h2)
    rw [ck_pos hs]
    rfl
  · cases h
theorem wtime_ok : SumOk Tryd.prog 85 (Fw .time) := by
  refine (baseW (fn := Tryd.f85) rfl).le (Fw_nat _) ?_
  intro R args ob K r h
  unfold Fw at h; dsimp only at h
  split at h
  · obtain ⟨c, hc, h1⟩ := bind_elim h
    obtain ⟨hs, h2⟩ := ck_elim h1
    have e := asD_ok hc
    subst e
    refine (wtime_0 K c).trans (Eq.trans ?_ h2)
    rfl
  · rename_i xs
    obtain ⟨c, hc, h1⟩ := bind_elim h
    obtain ⟨⟨hs, hx⟩, h2⟩ := ck_elim h1
    have e := asD_ok hc
    subst e
    refine (wtime_1 K c xs).trans (Eq.trans ?_ h2)
    rw [ck_pos (lim0 hx (by omega))]
    rfl
  · cases h
theorem rtime_ok : SumOk Tryd.prog 86 (Fr .time) := by
  refine (baseR (fn := Tryd.f86) rfl).le (Fr_nat _) ?_
  intro R args ob K r h
  unfold Fr at h; dsimp only at h
  split at h
  · obtain ⟨c, hc, h1⟩ := bind_elim h
    obtain ⟨x, hx, h1⟩ := bind_elim h1
    obtain ⟨hs, h2⟩ := ck_elim h1
    have e := asD_ok hc
    subst e
    have e := asD_ok hx
    subst e
    refine (rtime_1 K c x).trans (Eq.trans ?_ h2)
    rw [ck_pos hs]
    rfl
  · cases h
theorem wrestrict_ok : SumOk Tryd.prog 87 (Fw .restrict) := by
  refine (baseW (fn := Tryd.f87) rfl).le (Fw_nat _) ?_
  intro R args ob K r h
  unfold Fw at h; dsimp only at h
  split at h
  · obtain ⟨c, hc, h1⟩ := bind_elim h
    obtain ⟨hs, h2⟩ := ck_elim h1
    have e := asD_ok hc
    subst e
    refine (wrestrict_0 K c).trans (Eq.trans ?_ h2)
    show _ = K _ [_, .row 5 U8 (bif _ then _ else _) .own]
    cases pBad (IntKind.wrap .u64 (c.2.2.2.2.2.2.2.2.2.2.1)) 1 <;> rfl
  · rename_i xs
    obtain ⟨c, hc, h1⟩ := bind_elim h
    obtain ⟨⟨hs, hx⟩, h2⟩ := ck_elim h1
    have e := asD_ok hc
    subst e
    refine (wrestrict_1 K c xs).trans (Eq.trans ?_ h2)
    rw [ck_pos (lim0 hx (by omega)), ck_pos (lim0 hx (by omega))]
    show _ = K _ [_, _, .row 5 U8 (xs ++ (bif _ then _ else _)) .own]
    cases pBad (IntKind.wrap .u64 (c.2.2.2.2.2.2.2.2.2.2.1)) 1 <;> rfl
  · cases h
theorem rrestrict_ok : SumOk Tryd.prog 88 (Fr .restrict) := by
  refine (baseR (fn := Tryd.f88) rfl).le (Fr_nat _) ?_
  intro R args ob K r h
  unfold Fr at h; dsimp only at h
  split at h
  · obtain ⟨c, hc, h1⟩ := bind_elim h
    obtain ⟨x, hx, h1⟩ := bind_elim h1
    obtain ⟨hs, h2⟩ := ck_elim h1
    have e := asD_ok hc
    subst e
    have e := asD_ok hx
    subst e
    refine (rrestrict_1 K c x).trans (Eq.trans ?_ h2)
    rw [ck_pos hs]
    rfl
  · cases h
theorem wcreate_ok : SumOk Tryd.prog 89 (Fw .create) := by
  refine (baseW (fn := Tryd.f89) rfl).le (Fw_nat _) ?_
  intro R args ob K r h
  unfold Fw at h; dsimp only at h
  split at h
  · obtain ⟨c, hc, h1⟩ := bind_elim h
    obtain ⟨hs, h2⟩ := ck_elim h1
    have e := asD_ok hc
    subst e
    refine (wcreate_0 K c).trans (Eq.trans ?_ h2)
    show _ = K _ [_, .row 5 U8 (bif _ then _ else _) .own]
    cases c.2.2.2.2.2.2.2.2.2.2.2 <;> rfl
  · rename_i xs
    obtain ⟨c, hc, h1⟩ := bind_elim h
    obtain ⟨⟨hs, hx⟩, h2⟩ := ck_elim h1
    have e := asD_ok hc
    subst e
    refine (wcreate_1 K c xs).trans (Eq.trans ?_ h2)
    rw [ck_pos (lim0 hx (by omega)), ck_pos (lim0 hx (by omega))]
    show _ = K _ [_, _, .row 5 U8 (xs ++ (bif _ then _ else _)) .own]
    cases c.2.2.2.2.2.2.2.2.2.2.2 <;> rfl
  · cases h
theorem rcreate_ok : SumOk Tryd.prog 90 (Fr .create) := by
  refine (baseR (fn := Tryd.f90) rfl).le (Fr_nat _) ?_
  intro R args ob K r h
  unfold Fr at h; dsimp only at h
  split at h
  · obtain ⟨c, hc, h1⟩ := bind_elim h
    obtain ⟨x, hx, h1⟩ := bind_elim h1
    obtain ⟨hs, h2⟩ := ck_elim h1
    have e := asD_ok hc
    subst e
    have e := asD_ok hx
    subst e
    refine (rcreate_1 K c x).trans (Eq.trans ?_ h2)
    rw [ck_pos hs]
    rfl
  · cases h
end Go.Mx
namespace Go.Mx
open Go Go.RowKit Go.Sx Go.Proofs
set_option maxRecDepth 100000
def psOf (o : Int) : List PK := if o = 1 then [.ring, .typ, .desc, .payload] else if o = 2 then [.typ, .desc] else if o = 3 then [.ring, .typ, .desc] else if o = 4 then [.key] else if o = 5 then [.key, .payload] else if o = 6 then [.key] else if o = 7 then [.key, .ring] else if o = 8 then [.key, .ring] else if o = 9 then [.key, .ring, .to] else if o = 10 then [.ring] else if o = 11 then [.key, .perm] else if o = 12 then [.key, .uid, .gid] else if o = 13 then [.key, .time] else if o = 14 then [.key] else if o = 15 then [.key] else if o = 16 then [.ring, .restrict] else if o = 17 then [.key, .create] else if o = 18 then [.desc] else []
def Fparts (ps : List PK) : Summ := ⟨fun args ob K => match args, ob with
  | [.dat (.int .i64) o], [] => ck (psOf o = ps) (K (.dat (.sl (.pair .fn .fn)) (ps.map codeP)) [])
  | _, _ => none⟩
def c31 : List AV → List AO → Bool := fun args _ => match args with | [.nils] => true | _ => false
abbrev CR0 := Int × Int × Int × (Int × ByteArray) × ByteArray × Int × Int × Int × Int × Int × Bool
def partL : List (FuncId × Summ) := [(67, Fw .key), (68, Fr .key), (69, Fw .ring), (70, Fr .ring), (71, Fw .to), (72, Fr .to), (73, Fw .typ), (74, Fr .typ), (75, Fw .desc), (76, Fr .desc), (77, Fw .payload), (78, Fr .payload), (79, Fw .perm), (80, Fr .perm), (81, Fw .uid), (82, Fr .uid), (83, Fw .gid), (84, Fr .gid), (85, Fw .time), (86, Fr .time), (87, Fw .restrict), (88, Fr .restrict), (89, Fw .create), (90, Fr .create)]
theorem partL_ok : AllOk Tryd.prog partL := ⟨wkey_ok, rkey_ok, wring_ok, rring_ok, wto_ok, rto_ok, wtyp_ok, rtyp_ok, wdesc_ok, rdesc_ok, wpayload_ok, rpayload_ok, wperm_ok, rperm_ok, wuid_ok, ruid_ok, wgid_ok, rgid_ok, wtime_ok, rtime_ok, wrestrict_ok, rrestrict_ok, wcreate_ok, rcreate_ok, trivial⟩
def G44 (ps : List PK) : Sums := sums all ((43, Fparts ps) :: (31, eitherS c31 (argS [BL] F17) F17) :: partL)
def lv44 : Tl := ⟨fun q => match q with | 0 => some [1, 2, 3, 4, 19, 20, 21] | 2 => some [1, 2, 3, 40, 41, 42] | _ => none, [(107, RT)]⟩
theorem named_1 {R : Type} (K : KV R) (c : CR0) : (codeX Tryd.prog (G44 [.ring, .typ, .desc, .payload]) lv44 8 Tryd.f44).run [.dat CT ((1 : Int), c)] [] K = ck (smallC ((1 : Int), c)) (ck (smallC ((1 : Int), c) ∧ List.length (encP PK.ring ((1 : Int), c)) ≤ (10000 : Nat)) (ck (smallC ((1 : Int), c) ∧ List.length (encP PK.ring ((1 : Int), c) ++ encP PK.typ ((1 : Int), c)) ≤ (10000 : Nat)) (ck (smallC ((1 : Int), c) ∧ List.length (encP PK.ring ((1 : Int), c) ++ encP PK.typ ((1 : Int), c) ++ encP PK.desc ((1 : Int), c)) ≤ (10000 : Nat)) (ck (List.length (encP PK.ring ((1 : Int), c) ++ encP PK.typ ((1 : Int), c) ++ encP PK.desc ((1 : Int), c) ++ encP PK.payload ((1 : Int), c)) < (1000000 : Nat)) (ck (List.length ((newV (encP PK.ring ((1 : Int), c) ++ encP PK.typ ((1 : Int), c) ++ encP PK.desc ((1 : Int), c) ++ encP PK.payload ((1 : Int), c))).1) < (100000 : Nat)) (ck (List.length ((rdS PK.ring (newV (encP PK.ring ((1 : Int), c) ++ encP PK.typ ((1 : Int), c) ++ encP PK.desc ((1 : Int), c) ++ encP PK.payload ((1 : Int), c)))).1) < (100000 : Nat)) (ck (List.length ((rdS PK.typ (rdS PK.ring (newV (encP PK.ring ((1 : Int), c) ++ encP PK.typ ((1 : Int), c) ++ encP PK.desc ((1 : Int), c) ++ encP PK.payload ((1 : Int), c))))).1) < (100000 : Nat)) (ck (List.length ((rdS PK.desc (rdS PK.typ (rdS PK.ring (newV (encP PK.ring ((1 : Int), c) ++ encP PK.typ ((1 : Int), c) ++ encP PK.desc ((1 : Int), c) ++ encP PK.payload ((1 : Int), c)))))).1) < (100000 : Nat)) (K (AV.dat CT (rdC PK.payload (rdC PK.desc (rdC PK.typ (rdC PK.ring ((1 : Int), (0 : Int), (0 : Int), (0 : Int), ((0 : Int), ByteArray.mk #[]), ByteArray.mk #[], (0 : Int), (0 : Int), (0 : Int), (0 : Int), (0 : Int), false) (newV (encP PK.ring ((1 : Int), c) ++ encP PK.typ ((1 : Int), c) ++ encP PK.desc ((1 : Int), c) ++ encP PK.payload ((1 : Int), c)))) (rdS PK.ring (newV (encP PK.ring ((1 : Int), c) ++ encP PK.typ ((1 : Int), c) ++ encP PK.desc ((1 : Int), c) ++ encP PK.payload ((1 : Int), c))))) (rdS PK.typ (rdS PK.ring (newV (encP PK.ring ((1 : Int), c) ++ encP PK.typ ((1 : Int), c) ++ encP PK.desc ((1 : Int), c) ++ encP PK.payload ((1 : Int), c)))))) (rdS PK.desc (rdS PK.typ (rdS PK.ring (newV (encP PK.ring ((1 : Int), c) ++ encP PK.typ ((1 : Int), c) ++ encP PK.desc ((1 : Int), c) ++ encP PK.payload ((1 : Int), c)))))))) []))))))))) := by kernel_rfl
theorem named_2 {R : Type} (K : KV R) (c : CR0) : (codeX Tryd.prog (G44 [.typ, .desc]) lv44 8 Tryd.f44).run [.dat CT ((2 : Int), c)] [] K = ck (smallC ((2 : Int), c)) (ck (smallC ((2 : Int), c) ∧ List.length (encP PK.typ ((2 : Int), c)) ≤ (10000 : Nat)) (ck (List.length (encP PK.typ ((2 : Int), c) ++ encP PK.desc ((2 : Int), c)) < (1000000 : Nat)) (ck (List.length ((newV (encP PK.typ ((2 : Int), c) ++ encP PK.desc ((2 : Int), c))).1) < (100000 : Nat)) (ck (List.length ((rdS PK.typ (newV (encP PK.typ ((2 : Int), c) ++ encP PK.desc ((2 : Int), c)))).1) < (100000 : Nat)) (K (AV.dat CT (rdC PK.desc (rdC PK.typ ((2 : Int), (0 : Int), (0 : Int), (0 : Int), ((0 : Int), ByteArray.mk #[]), ByteArray.mk #[], (0 : Int), (0 : Int), (0 : Int), (0 : Int), (0 : Int), false) (newV (encP PK.typ ((2 : Int), c) ++ encP PK.desc ((2 : Int), c)))) (rdS PK.typ (newV (encP PK.typ ((2 : Int), c) ++ encP PK.desc ((2 : Int), c)))))) []))))) := by kernel_rfl
theorem named_3 {R : Type} (K : KV R) (c : CR0) : (codeX Tryd.prog (G44 [.ring, .typ, .desc]) lv44 8 Tryd.f44).run [.dat CT ((3 : Int), c)] [] K = ck (smallC ((3 : Int), c)) (ck (smallC ((3 : Int), c) ∧ List.length (encP PK.ring ((3 : Int), c)) ≤ (10000 : Nat)) (ck (smallC ((3 : Int), c) ∧ List.length (encP PK.ring ((3 : Int), c) ++ encP PK.typ ((3 : Int), c)) ≤ (10000 : Nat)) (ck (List.length (encP PK.ring ((3 : Int), c) ++ encP PK.typ ((3 : Int), c) ++ encP PK.desc ((3 : Int), c)) < (1000000 : Nat)) (ck (List.length ((newV (encP PK.ring ((3 : Int), c) ++ encP PK.typ ((3 : Int), c) ++ encP PK.desc ((3 : Int), c))).1) < (100000 : Nat)) (ck (List.length ((rdS PK.ring (newV (encP PK.ring ((3 : Int), c) ++ encP PK.typ ((3 : Int), c) ++ encP PK.desc ((3 : Int), c)))).1) < (100000 : Nat)) (ck (List.length ((rdS PK.typ (rdS PK.ring (newV (encP PK.ring ((3 : Int), c) ++ encP PK.typ ((3 : Int), c) ++ encP PK.desc ((3 : Int), c))))).1) < (100000 : Nat)) (K (AV.dat CT (rdC PK.desc (rdC PK.typ (rdC PK.ring ((3 : Int), (0 : Int), (0 : Int), (0 : Int), ((0 : Int), ByteArray.mk #[]), ByteArray.mk #[], (0 : Int), (0 : Int), (0 : Int), (0 : Int), (0 : Int), false) (newV (encP PK.ring ((3 : Int), c) ++ encP PK.typ ((3 : Int), c) ++ encP PK.desc ((3 : Int), c)))) (rdS PK.ring (newV (encP PK.ring ((3 : Int), c) ++ encP PK.typ ((3 : Int), c) ++ encP PK.desc ((3 : Int), c))))) (rdS PK.typ (rdS PK.ring (newV (encP PK.ring ((3 : Int), c) ++ encP PK.typ ((3 : Int), c) ++ encP PK.desc ((3 : Int), c))))))) []))))))) := by kernel_rfl
theorem named_4 {R : Type} (K : KV R) (c : CR0) : (codeX Tryd.prog (G44 [.key]) lv44 8 Tryd.f44).run [.dat CT ((4 : Int), c)] [] K = ck (smallC ((4 : Int), c)) (ck (List.length (encP PK.key ((4 : Int), c)) < (1000000 : Nat)) (ck (List.length ((newV (encP PK.key ((4 : Int), c))).1) < (100000 : Nat)) (K (AV.dat CT (rdC PK.key ((4 : Int), (0 : Int), (0 : Int), (0 : Int), ((0 : Int), ByteArray.mk #[]), ByteArray.mk #[], (0 : Int), (0 : Int), (0 : Int), (0 : Int), (0 : Int), false) (newV (encP PK.key ((4 : Int), c))))) []))) := by kernel_rfl
theorem named_5 {R : Type} (K : KV R) (c : CR0) : (codeX Tryd.prog (G44 [.key, .payload]) lv44 8 Tryd.f44).run [.dat CT ((5 : Int), c)] [] K = ck (smallC ((5 : Int), c)) (ck (smallC ((5 : Int), c) ∧ List.length (encP PK.key ((5 : Int), c)) ≤ (10000 : Nat)) (ck (List.length (encP PK.key ((5 : Int), c) ++ encP PK.payload ((5 : Int), c)) < (1000000 : Nat)) (ck (List.length ((newV (encP PK.key ((5 : Int), c) ++ encP PK.payload ((5 : Int), c))).1) < (100000 : Nat)) (ck (List.length ((rdS PK.key (newV (encP PK.key ((5 : Int), c) ++ encP PK.payload ((5 : Int), c)))).1) < (100000 : Nat)) (K (AV.dat CT (rdC PK.payload (rdC PK.key ((5 : Int), (0 : Int), (0 : Int), (0 : Int), ((0 : Int), ByteArray.mk #[]), ByteArray.mk #[], (0 : Int), (0 : Int), (0 : Int), (0 : Int), (0 : Int), false) (newV (encP PK.key ((5 : Int), c) ++ encP PK.payload ((5 : Int), c)))) (rdS PK.key (newV (encP PK.key ((5 : Int), c) ++ encP PK.payload ((5 : Int), c)))))) []))))) := by kernel_rfl
theorem named_6 {R : Type} (K : KV R) (c : CR0) : (codeX Tryd.prog (G44 [.key]) lv44 8 Tryd.f44).run [.dat CT ((6 : Int), c)] [] K = ck (smallC ((6 : Int), c)) (ck (List.length (encP PK.key ((6 : Int), c)) < (1000000 : Nat)) (ck (List.length ((newV (encP PK.key ((6 : Int), c))).1) < (100000 : Nat)) (K (AV.dat CT (rdC PK.key ((6 : Int), (0 : Int), (0 : Int), (0 : Int), ((0 : Int), ByteArray.mk #[]), ByteArray.mk #[], (0 : Int), (0 : Int), (0 : Int), (0 : Int), (0 : Int), false) (newV (encP PK.key ((6 : Int), c))))) []))) := by kernel_rfl
theorem named_7 {R : Type} (K : KV R) (c : CR0) : (codeX Tryd.prog (G44 [.key, .ring]) lv44 8 Tryd.f44).run [.dat CT ((7 : Int), c)] [] K = ck (smallC ((7 : Int), c)) (ck (smallC ((7 : Int), c) ∧ List.length (encP PK.key ((7 : Int), c)) ≤ (10000 : Nat)) (ck (List.length (encP PK.key ((7 : Int), c) ++ encP PK.ring ((7 : Int), c)) < (1000000 : Nat)) (ck (List.length ((newV (encP PK.key ((7 : Int), c) ++ encP PK.ring ((7 : Int), c))).1) < (100000 : Nat)) (ck (List.length ((rdS PK.key (newV (encP PK.key ((7 : Int), c) ++ encP PK.ring ((7 : Int), c)))).1) < (100000 : Nat)) (K (AV.dat CT (rdC PK.ring (rdC PK.key ((7 : Int), (0 : Int), (0 : Int), (0 : Int), ((0 : Int), ByteArray.mk #[]), ByteArray.mk #[], (0 : Int), (0 : Int), (0 : Int), (0 : Int), (0 : Int), false) (newV (encP PK.key ((7 : Int), c) ++ encP PK.ring ((7 : Int), c)))) (rdS PK.key (newV (encP PK.key ((7 : Int), c) ++ encP PK.ring ((7 : Int), c)))))) []))))) := by kernel_rfl
theorem named_8 {R : Type} (K : KV R) (c : CR0) : (codeX Tryd.prog (G44 [.key, .ring]) lv44 8 Tryd.f44).run [.dat CT ((8 : Int), c)] [] K = ck (smallC ((8 : Int), c)) (ck (smallC ((8 : Int), c) ∧ List.length (encP PK.key ((8 : Int), c)) ≤ (10000 : Nat)) (ck (List.length (encP PK.key ((8 : Int), c) ++ encP PK.ring ((8 : Int), c)) < (1000000 : Nat)) (ck (List.length ((newV (encP PK.key ((8 : Int), c) ++ encP PK.ring ((8 : Int), c))).1) < (100000 : Nat)) (ck (List.length ((rdS PK.key (newV (encP PK.key ((8 : Int), c) ++ encP PK.ring ((8 : Int), c)))).1) < (100000 : Nat)) (K (AV.dat CT (rdC PK.ring (rdC PK.key ((8 : Int), (0 : Int), (0 : Int), (0 : Int), ((0 : Int), ByteArray.mk #[]), ByteArray.mk #[], (0 : Int), (0 : Int), (0 : Int), (0 : Int), (0 : Int), false) (newV (encP PK.key ((8 : Int), c) ++ encP PK.ring ((8 : Int), c)))) (rdS PK.key (newV (encP PK.key ((8 : Int), c) ++ encP PK.ring ((8 : Int), c)))))) []))))) := by kernel_rfl
theorem named_9 {R : Type} (K : KV R) (c : CR0) : (codeX Tryd.prog (G44 [.key, .ring, .to]) lv44 8 Tryd.f44).run [.dat CT ((9 : Int), c)] [] K = ck (smallC ((9 : Int), c)) (ck (smallC ((9 : Int), c) ∧ List.length (encP PK.key ((9 : Int), c)) ≤ (10000 : Nat)) (ck (smallC ((9 : Int), c) ∧ List.length (encP PK.key ((9 : Int), c) ++ encP PK.ring ((9 : Int), c)) ≤ (10000 : Nat)) (ck (List.length (encP PK.key ((9 : Int), c) ++ encP PK.ring ((9 : Int), c) ++ encP PK.to ((9 : Int), c)) < (1000000 : Nat)) (ck (List.length ((newV (encP PK.key ((9 : Int), c) ++ encP PK.ring ((9 : Int), c) ++ encP PK.to ((9 : Int), c))).1) < (100000 : Nat)) (ck (List.length ((rdS PK.key (newV (encP PK.key ((9 : Int), c) ++ encP PK.ring ((9 : Int), c) ++ encP PK.to ((9 : Int), c)))).1) < (100000 : Nat)) (ck (List.length ((rdS PK.ring (rdS PK.key (newV (encP PK.key ((9 : Int), c) ++ encP PK.ring ((9 : Int), c) ++ encP PK.to ((9 : Int), c))))).1) < (100000 : Nat)) (K (AV.dat CT (rdC PK.to (rdC PK.ring (rdC PK.key ((9 : Int), (0 : Int), (0 : Int), (0 : Int), ((0 : Int), ByteArray.mk #[]), ByteArray.mk #[], (0 : Int), (0 : Int), (0 : Int), (0 : Int), (0 : Int), false) (newV (encP PK.key ((9 : Int), c) ++ encP PK.ring ((9 : Int), c) ++ encP PK.to ((9 : Int), c)))) (rdS PK.key (newV (encP PK.key ((9 : Int), c) ++ encP PK.ring ((9 : Int), c) ++ encP PK.to ((9 : Int), c))))) (rdS PK.ring (rdS PK.key (newV (encP PK.key ((9 : Int), c) ++ encP PK.ring ((9 : Int), c) ++ encP PK.to ((9 : Int), c))))))) []))))))) := by kernel_rfl
theorem named_10 {R : Type} (K : KV R) (c : CR0) : (codeX Tryd.prog (G44 [.ring]) lv44 8 Tryd.f44).run [.dat CT ((10 : Int), c)] [] K = ck (smallC ((10 : Int), c)) (ck (List.length (encP PK.ring ((10 : Int), c)) < (1000000 : Nat)) (ck (List.length ((newV (encP PK.ring ((10 : Int), c))).1) < (100000 : Nat)) (K (AV.dat CT (rdC PK.ring ((10 : Int), (0 : Int), (0 : Int), (0 : Int), ((0 : Int), ByteArray.mk #[]), ByteArray.mk #[], (0 : Int), (0 : Int), (0 : Int), (0 : Int), (0 : Int), false) (newV (encP PK.ring ((10 : Int), c))))) []))) := by kernel_rfl
theorem named_11 {R : Type} (K : KV R) (c : CR0) : (codeX Tryd.prog (G44 [.key, .perm]) lv44 8 Tryd.f44).run [.dat CT ((11 : Int), c)] [] K = ck (smallC ((11 : Int), c)) (ck (smallC ((11 : Int), c) ∧ List.length (encP PK.key ((11 : Int), c)) ≤ (10000 : Nat)) (ck (List.length (encP PK.key ((11 : Int), c) ++ encP PK.perm ((11 : Int), c)) < (1000000 : Nat)) (ck (List.length ((newV (encP PK.key ((11 : Int), c) ++ encP PK.perm ((11 : Int), c))).1) < (100000 : Nat)) (ck (List.length ((rdS PK.key (newV (encP PK.key ((11 : Int), c) ++ encP PK.perm ((11 : Int), c)))).1) < (100000 : Nat)) (K (AV.dat CT (rdC PK.perm (rdC PK.key ((11 : Int), (0 : Int), (0 : Int), (0 : Int), ((0 : Int), ByteArray.mk #[]), ByteArray.mk #[], (0 : Int), (0 : Int), (0 : Int), (0 : Int), (0 : Int), false) (newV (encP PK.key ((11 : Int), c) ++ encP PK.perm ((11 : Int), c)))) (rdS PK.key (newV (encP PK.key ((11 : Int), c) ++ encP PK.perm ((11 : Int), c)))))) []))))) := by kernel_rfl
theorem named_12 {R : Type} (K : KV R) (c : CR0) : (codeX Tryd.prog (G44 [.key, .uid, .gid]) lv44 8 Tryd.f44).run [.dat CT ((12 : Int), c)] [] K = ck (smallC ((12 : Int), c)) (ck (smallC ((12 : Int), c) ∧ List.length (encP PK.key ((12 : Int), c)) ≤ (10000 : Nat)) (ck (smallC ((12 : Int), c) ∧ List.length (encP PK.key ((12 : Int), c) ++ encP PK.uid ((12 : Int), c)) ≤ (10000 : Nat)) (ck (List.length (encP PK.key ((12 : Int), c) ++ encP PK.uid ((12 : Int), c) ++ encP PK.gid ((12 : Int), c)) < (1000000 : Nat)) (ck (List.length ((newV (encP PK.key ((12 : Int), c) ++ encP PK.uid ((12 : Int), c) ++ encP PK.gid ((12 : Int), c))).1) < (100000 : Nat)) (ck (List.length ((rdS PK.key (newV (encP PK.key ((12 : Int), c) ++ encP PK.uid ((12 : Int), c) ++ encP PK.gid ((12 : Int), c)))).1) < (100000 : Nat)) (ck (List.length ((rdS PK.uid (rdS PK.key (newV (encP PK.key ((12 : Int), c) ++ encP PK.uid ((12 : Int), c) ++ encP PK.gid ((12 : Int), c))))).1) < (100000 : Nat)) (K (AV.dat CT (rdC PK.gid (rdC PK.uid (rdC PK.key ((12 : Int), (0 : Int), (0 : Int), (0 : Int), ((0 : Int), ByteArray.mk #[]), ByteArray.mk #[], (0 : Int), (0 : Int), (0 : Int), (0 : Int), (0 : Int), false) (newV (encP PK.key ((12 : Int), c) ++ encP PK.uid ((12 : Int), c) ++ encP PK.gid ((12 : Int), c)))) (rdS PK.key (newV (encP PK.key ((12 : Int), c) ++ encP PK.uid ((12 : Int), c) ++ encP PK.gid ((12 : Int), c))))) (rdS PK.uid (rdS PK.key (newV (encP PK.key ((12 : Int), c) ++ encP PK.uid ((12 : Int), c) ++ encP PK.gid ((12 : Int), c))))))) []))))))) := by kernel_rfl
theorem named_13 {R : Type} (K : KV R) (c : CR0) : (codeX Tryd.prog (G44 [.key, .time]) lv44 8 Tryd.f44).run [.dat CT ((13 : Int), c)] [] K = ck (smallC ((13 : Int), c)) (ck (smallC ((13 : Int), c) ∧ List.length (encP PK.key ((13 : Int), c)) ≤ (10000 : Nat)) (ck (List.length (encP PK.key ((13 : Int), c) ++ encP PK.time ((13 : Int), c)) < (1000000 : Nat)) (ck (List.length ((newV (encP PK.key ((13 : Int), c) ++ encP PK.time ((13 : Int), c))).1) < (100000 : Nat)) (ck (List.length ((rdS PK.key (newV (encP PK.key ((13 : Int), c) ++ encP PK.time ((13 : Int), c)))).1) < (100000 : Nat)) (K (AV.dat CT (rdC PK.time (rdC PK.key ((13 : Int), (0 : Int), (0 : Int), (0 : Int), ((0 : Int), ByteArray.mk #[]), ByteArray.mk #[], (0 : Int), (0 : Int), (0 : Int), (0 : Int), (0 : Int), false) (newV (encP PK.key ((13 : Int), c) ++ encP PK.time ((13 : Int), c)))) (rdS PK.key (newV (encP PK.key ((13 : Int), c) ++ encP PK.time ((13 : Int), c)))))) []))))) := by kernel_rfl
theorem named_14 {R : Type} (K : KV R) (c : CR0) : (codeX Tryd.prog (G44 [.key]) lv44 8 Tryd.f44).run [.dat CT ((14 : Int), c)] [] K = ck (smallC ((14 : Int), c)) (ck (List.length (encP PK.key ((14 : Int), c)) < (1000000 : Nat)) (ck (List.length ((newV (encP PK.key ((14 : Int), c))).1) < (100000 : Nat)) (K (AV.dat CT (rdC PK.key ((14 : Int), (0 : Int), (0 : Int), (0 : Int), ((0 : Int), ByteArray.mk #[]), ByteArray.mk #[], (0 : Int), (0 : Int), (0 : Int), (0 : Int), (0 : Int), false) (newV (encP PK.key ((14 : Int), c))))) []))) := by kernel_rfl
theorem named_15 {R : Type} (K : KV R) (c : CR0) : (codeX Tryd.prog (G44 [.key]) lv44 8 Tryd.f44).run [.dat CT ((15 : Int), c)] [] K = ck (smallC ((15 : Int), c)) (ck (List.length (encP PK.key ((15 : Int), c)) < (1000000 : Nat)) (ck (List.length ((newV (encP PK.key ((15 : Int), c))).1) < (100000 : Nat)) (K (AV.dat CT (rdC PK.key ((15 : Int), (0 : Int), (0 : Int), (0 : Int), ((0 : Int), ByteArray.mk #[]), ByteArray.mk #[], (0 : Int), (0 : Int), (0 : Int), (0 : Int), (0 : Int), false) (newV (encP PK.key ((15 : Int), c))))) []))) := by kernel_rfl
theorem named_16 {R : Type} (K : KV R) (c : CR0) : (codeX Tryd.prog (G44 [.ring, .restrict]) lv44 8 Tryd.f44).run [.dat CT ((16 : Int), c)] [] K = ck (smallC ((16 : Int), c)) (ck (smallC ((16 : Int), c) ∧ List.length (encP PK.ring ((16 : Int), c)) ≤ (10000 : Nat)) (ck (List.length (encP PK.ring ((16 : Int), c) ++ encP PK.restrict ((16 : Int), c)) < (1000000 : Nat)) (ck (List.length ((newV (encP PK.ring ((16 : Int), c) ++ encP PK.restrict ((16 : Int), c))).1) < (100000 : Nat)) (ck (List.length ((rdS PK.ring (newV (encP PK.ring ((16 : Int), c) ++ encP PK.restrict ((16 : Int), c)))).1) < (100000 : Nat)) (K (AV.dat CT (rdC PK.restrict (rdC PK.ring ((16 : Int), (0 : Int), (0 : Int), (0 : Int), ((0 : Int), ByteArray.mk #[]), ByteArray.mk #[], (0 : Int), (0 : Int), (0 : Int), (0 : Int), (0 : Int), false) (newV (encP PK.ring ((16 : Int), c) ++ encP PK.restrict ((16 : Int), c)))) (rdS PK.ring (newV (encP PK.ring ((16 : Int), c) ++ encP PK.restrict ((16 : Int), c)))))) []))))) := by kernel_rfl
theorem named_17 {R : Type} (K : KV R) (c : CR0) : (codeX Tryd.prog (G44 [.key, .create]) lv44 8 Tryd.f44).run [.dat CT ((17 : Int), c)] [] K = ck (smallC ((17 : Int), c)) (ck (smallC ((17 : Int), c) ∧ List.length (encP PK.key ((17 : Int), c)) ≤ (10000 : Nat)) (ck (List.length (encP PK.key ((17 : Int), c) ++ encP PK.create ((17 : Int), c)) < (1000000 : Nat)) (ck (List.length ((newV (encP PK.key ((17 : Int), c) ++ encP PK.create ((17 : Int), c))).1) < (100000 : Nat)) (ck (List.length ((rdS PK.key (newV (encP PK.key ((17 : Int), c) ++ encP PK.create ((17 : Int), c)))).1) < (100000 : Nat)) (K (AV.dat CT (rdC PK.create (rdC PK.key ((17 : Int), (0 : Int), (0 : Int), (0 : Int), ((0 : Int), ByteArray.mk #[]), ByteArray.mk #[], (0 : Int), (0 : Int), (0 : Int), (0 : Int), (0 : Int), false) (newV (encP PK.key ((17 : Int), c) ++ encP PK.create ((17 : Int), c)))) (rdS PK.key (newV (encP PK.key ((17 : Int), c) ++ encP PK.create ((17 : Int), c)))))) []))))) := by kernel_rfl
theorem named_18 {R : Type} (K : KV R) (c : CR0) : (codeX Tryd.prog (G44 [.desc]) lv44 8 Tryd.f44).run [.dat CT ((18 : Int), c)] [] K = ck (smallC ((18 : Int), c)) (ck (List.length (encP PK.desc ((18 : Int), c)) < (1000000 : Nat)) (ck (List.length ((newV (encP PK.desc ((18 : Int), c))).1) < (100000 : Nat)) (K (AV.dat CT ((rdC PK.desc ((18 : Int), (0 : Int), (0 : Int), (0 : Int), ((0 : Int), ByteArray.mk #[]), ByteArray.mk #[], (0 : Int), (0 : Int), (0 : Int), (0 : Int), (0 : Int), false) (newV (encP PK.desc ((18 : Int), c)))).1, (rdC PK.desc ((18 : Int), (0 : Int), (0 : Int), (0 : Int), ((0 : Int), ByteArray.mk #[]), ByteArray.mk #[], (0 : Int), (0 : Int), (0 : Int), (0 : Int), (0 : Int), false) (newV (encP PK.desc ((18 : Int), c)))).2.1, (rdC PK.desc ((18 : Int), (0 : Int), (0 : Int), (0 : Int), ((0 : Int), ByteArray.mk #[]), ByteArray.mk #[], (0 : Int), (0 : Int), (0 : Int), (0 : Int), (0 : Int), false) (newV (encP PK.desc ((18 : Int), c)))).2.2.1, (rdC PK.desc ((18 : Int), (0 : Int), (0 : Int), (0 : Int), ((0 : Int), ByteArray.mk #[]), ByteArray.mk #[], (0 : Int), (0 : Int), (0 : Int), (0 : Int), (0 : Int), false) (newV (encP PK.desc ((18 : Int), c)))).2.2.2.1, ((4 : Int), (rdC PK.desc ((18 : Int), (0 : Int), (0 : Int), (0 : Int), ((0 : Int), ByteArray.mk #[]), ByteArray.mk #[], (0 : Int), (0 : Int), (0 : Int), (0 : Int), (0 : Int), false) (newV (encP PK.desc ((18 : Int), c)))).2.2.2.2.1.2), (rdC PK.desc ((18 : Int), (0 : Int), (0 : Int), (0 : Int), ((0 : Int), ByteArray.mk #[]), ByteArray.mk #[], (0 : Int), (0 : Int), (0 : Int), (0 : Int), (0 : Int), false) (newV (encP PK.desc ((18 : Int), c)))).2.2.2.2.2)) []))) := by kernel_rfl
theorem named_0 {R : Type} (K : KV R) (c : CV) : (codeX Tryd.prog (G44 []) lv44 8 Tryd.f44).run [.dat CT c] [] K = ck (psOf c.1 = []) (ck (psOf c.1 = []) (bif decide (c.1 = (18 : Int)) then K (AV.dat CT (c.1, (0 : Int), (0 : Int), (0 : Int), ((4 : Int), ByteArray.mk #[]), ByteArray.mk #[], (0 : Int), (0 : Int), (0 : Int), (0 : Int), (0 : Int), false)) [] else K (AV.dat CT (c.1, (0 : Int), (0 : Int), (0 : Int), ((0 : Int), ByteArray.mk #[]), ByteArray.mk #[], (0 : Int), (0 : Int), (0 : Int), (0 : Int), (0 : Int), false)) [])) := by kernel_rfl
end Go.Mx
namespace Go.Mx
open Go Go.RowKit Go.Sx Go.Proofs
set_option maxRecDepth 100000
def zeroC (o : Int) : CV := (o, 0, 0, 0, (0, ⟨#[]⟩), ⟨#[]⟩, 0, 0, 0, 0, 0, false)
def encAll (l : List PK) (c : CV) : List Int := l.foldl (fun xs p => xs ++ encP p c) []
def rdAll : List PK → CV → RV → CV × RV
  | [], c, x => (c, x)
  | p :: l, c, x => rdAll l (rdC p c x) (rdS p x)
def setTyp (c : CV) (t : Int) : CV := (c.1, c.2.1, c.2.2.1, c.2.2.2.1, (t, c.2.2.2.2.1.2), c.2.2.2.2.2)
def joinT (c : CV) : CV := bif decide (c.1 = (18 : Int)) then setTyp c 4 else c
def namedM (c : CV) : CV := joinT (rdAll (psOf c.1) (zeroC c.1) (newV (encAll (psOf c.1) c))).1
theorem encP_len (p : PK) {c : CV} (h : smallC c) : (encP p c).length ≤ 1002 := by
  have h1 : ByteArray.size c.2.2.2.2.1.2 ≤ 1000 := h.1
  have h2 : ByteArray.size c.2.2.2.2.2.1 ≤ 1000 := h.2
  have pl : ∀ n m, (pB n m).length = m := fun n m => pB_len n m
  have k1 := bytesOf_length c.2.2.2.2.1.2
  have k2 := bytesOf_length c.2.2.2.2.2.1
  have lb : ∀ (b : Bool) (x y : List Int), x.length ≤ 1002 → y.length ≤ 1002 → (bif b then x else y).length ≤ 1002 := fun b x y hx hy => by cases b; exact hy; exact hx
  have l0 : ([] : List Int).length ≤ 1002 := Nat.zero_le _
  have lp : ∀ n m, m ≤ 8 → (pB n m).length ≤ 1002 := fun n m h => by rw [pl]; omega
  cases p
  case desc => exact lb _ _ _ (by rw [List.length_append, pl]; omega) l0
  case payload => exact lb _ _ _ (by rw [List.length_append, pl]; omega) l0
  case time => exact lp _ _ (by omega)
  case create => exact lb _ _ _ (lp _ _ (by omega)) (lp _ _ (by omega))
  all_goals exact lb _ _ _ l0 (lp _ _ (by omega))
theorem rdS_len (p : PK) (x : RV) : (rdS p x).1.length ≤ x.1.length := by
  have hn : ∀ n : Int, (numS x n).1.length ≤ x.1.length := fun n => takeS_len _ _
  have hb : ∀ n : Int, (blobS x n).1.length ≤ x.1.length := fun n => Nat.le_trans (takeS_len _ _) (hn _)
  cases p
  all_goals first | exact hn _ | exact hb _
def F44 : Summ := ⟨fun args ob K => match args, ob with
  | [.dat t v], [] => (asD CT (.dat t v)).bind fun c => ck (smallC c) (K (.dat CT (namedM c)) [])
  | _, _ => none⟩
theorem c31ok : SumOk Tryd.prog 31 (eitherS c31 (argS [BL] F17) F17) := eitherS_ok (arg_ok F17_ok) F17_ok
theorem parts_list (o : Int) : getM (.int .i64) o ([] : List (Nat × Nat)) (setM (T.int IntKind.i64) (18 : Int) [((75 : Nat), (76 : Nat))] (setM (T.int IntKind.i64) (17 : Int) [((67 : Nat), (68 : Nat)), ((89 : Nat), (90 : Nat))] (setM (T.int IntKind.i64) (16 : Int) [((69 : Nat), (70 : Nat)), ((87 : Nat), (88 : Nat))] (setM (T.int IntKind.i64) (15 : Int) [((67 : Nat), (68 : Nat))] (setM (T.int IntKind.i64) (14 : Int) [((67 : Nat), (68 : Nat))] (setM (T.int IntKind.i64) (13 : Int) [((67 : Nat), (68 : Nat)), ((85 : Nat), (86 : Nat))] (setM (T.int IntKind.i64) (12 : Int) [((67 : Nat), (68 : Nat)), ((81 : Nat), (82 : Nat)), ((83 : Nat), (84 : Nat))] (setM (T.int IntKind.i64) (11 : Int) [((67 : Nat), (68 : Nat)), ((79 : Nat), (80 : Nat))] (setM (T.int IntKind.i64) (10 : Int) [((69 : Nat), (70 : Nat))] (setM (T.int IntKind.i64) (9 : Int) [((67 : Nat), (68 : Nat)), ((69 : Nat), (70 : Nat)), ((71 : Nat), (72 : Nat))] (setM (T.int IntKind.i64) (8 : Int) [((67 : Nat), (68 : Nat)), ((69 : Nat), (70 : Nat))] (setM (T.int IntKind.i64) (7 : Int) [((67 : Nat), (68 : Nat)), ((69 : Nat), (70 : Nat))] (setM (T.int IntKind.i64) (6 : Int) [((67 : Nat), (68 : Nat))] (setM (T.int IntKind.i64) (5 : Int) [((67 : Nat), (68 : Nat)), ((77 : Nat), (78 : Nat))] (setM (T.int IntKind.i64) (4 : Int) [((67 : Nat), (68 : Nat))] (setM (T.int IntKind.i64) (3 : Int) [((69 : Nat), (70 : Nat)), ((73 : Nat), (74 : Nat)), ((75 : Nat), (76 : Nat))] (setM (T.int IntKind.i64) (2 : Int) [((73 : Nat), (74 : Nat)), ((75 : Nat), (76 : Nat))] (setM (T.int IntKind.i64) (1 : Int) [((69 : Nat), (70 : Nat)), ((73 : Nat), (74 : Nat)), ((75 : Nat), (76 : Nat)), ((77 : Nat), (78 : Nat))] [])))))))))))))))))) = (psOf o).map codeP := by
  rw [show ((setM (T.int IntKind.i64) (18 : Int) [((75 : Nat), (76 : Nat))] (setM (T.int IntKind.i64) (17 : Int) [((67 : Nat), (68 : Nat)), ((89 : Nat), (90 : Nat))] (setM (T.int IntKind.i64) (16 : Int) [((69 : Nat), (70 : Nat)), ((87 : Nat), (88 : Nat))] (setM (T.int IntKind.i64) (15 : Int) [((67 : Nat), (68 : Nat))] (setM (T.int IntKind.i64) (14 : Int) [((67 : Nat), (68 : Nat))] (setM (T.int IntKind.i64) (13 : Int) [((67 : Nat), (68 : Nat)), ((85 : Nat), (86 : Nat))] (setM (T.int IntKind.i64) (12 : Int) [((67 : Nat), (68 : Nat)), ((81 : Nat), (82 : Nat)), ((83 : Nat), (84 : Nat))] (setM (T.int IntKind.i64) (11 : Int) [((67 : Nat), (68 : Nat)), ((79 : Nat), (80 : Nat))] (setM (T.int IntKind.i64) (10 : Int) [((69 : Nat), (70 : Nat))] (setM (T.int IntKind.i64) (9 : Int) [((67 : Nat), (68 : Nat)), ((69 : Nat), (70 : Nat)), ((71 : Nat), (72 : Nat))] (setM (T.int IntKind.i64) (8 : Int) [((67 : Nat), (68 : Nat)), ((69 : Nat), (70 : Nat))] (setM (T.int IntKind.i64) (7 : Int) [((67 : Nat), (68 : Nat)), ((69 : Nat), (70 : Nat))] (setM (T.int IntKind.i64) (6 : Int) [((67 : Nat), (68 : Nat))] (setM (T.int IntKind.i64) (5 : Int) [((67 : Nat), (68 : Nat)), ((77 : Nat), (78 : Nat))] (setM (T.int IntKind.i64) (4 : Int) [((67 : Nat), (68 : Nat))] (setM (T.int IntKind.i64) (3 : Int) [((69 : Nat), (70 : Nat)), ((73 : Nat), (74 : Nat)), ((75 : Nat), (76 : Nat))] (setM (T.int IntKind.i64) (2 : Int) [((73 : Nat), (74 : Nat)), ((75 : Nat), (76 : Nat))] (setM (T.int IntKind.i64) (1 : Int) [((69 : Nat), (70 : Nat)), ((73 : Nat), (74 : Nat)), ((75 : Nat), (76 : Nat)), ((77 : Nat), (78 : Nat))] [])))))))))))))))))) : List (Int × List (Nat × Nat))) = [(1, [((69 : Nat), (70 : Nat)), ((73 : Nat), (74 : Nat)), ((75 : Nat), (76 : Nat)), ((77 : Nat), (78 : Nat))]), (2, [((73 : Nat), (74 : Nat)), ((75 : Nat), (76 : Nat))]), (3, [((69 : Nat), (70 : Nat)), ((73 : Nat), (74 : Nat)), ((75 : Nat), (76 : Nat))]), (4, [((67 : Nat), (68 : Nat))]), (5, [((67 : Nat), (68 : Nat)), ((77 : Nat), (78 : Nat))]), (6, [((67 : Nat), (68 : Nat))]), (7, [((67 : Nat), (68 : Nat)), ((69 : Nat), (70 : Nat))]), (8, [((67 : Nat), (68 : Nat)), ((69 : Nat), (70 : Nat))]), (9, [((67 : Nat), (68 : Nat)), ((69 : Nat), (70 : Nat)), ((71 : Nat), (72 : Nat))]), (10, [((69 : Nat), (70 : Nat))]), (11, [((67 : Nat), (68 : Nat)), ((79 : Nat), (80 : Nat))]), (12, [((67 : Nat), (68 : Nat)), ((81 : Nat), (82 : Nat)), ((83 : Nat), (84 : Nat))]), (13, [((67 : Nat), (68 : Nat)), ((85 : Nat), (86 : Nat))]), (14, [((67 : Nat), (68 : Nat))]), (15, [((67 : Nat), (68 : Nat))]), (16, [((69 : Nat), (70 : Nat)), ((87 : Nat), (88 : Nat))]), (17, [((67 : Nat), (68 : Nat)), ((89 : Nat), (90 : Nat))]), (18, [((75 : Nat), (76 : Nat))])] from rfl]
  by_cases h : 1 ≤ o ∧ o ≤ 18
  · obtain ⟨n, rfl⟩ : ∃ n : Nat, o = (n : Int) := ⟨o.toNat, by omega⟩
    have hn : 1 ≤ n ∧ n ≤ 18 := by omega
    clear h
    obtain ⟨m, rfl⟩ : ∃ m, n = m + 1 := ⟨n - 1, by omega⟩
    have : m < 18 := by omega
    clear hn
    revert m
    decide +kernel
  · have hz : psOf o = [] := by
      unfold psOf
      repeat (rw [if_neg (by omega)])
    rw [hz]
    have hk : ∀ k : Int, 1 ≤ k ∧ k ≤ 18 → eqB (.int .i64) o k = false := fun k hk => decide_eq_false (show ¬ o = k by omega)
    simp only [getM]
    repeat (rw [hk _ (by omega), cond_false])
    rfl
theorem Fparts_ok (ps : List PK) : SumOk Tryd.prog 43 (Fparts ps) := by
  refine (W_ok 43).le (fun f args ob K => by unfold Fparts; dsimp only; split <;> simp only [bd_ck, bd_none]) ?_
  intro R args ob K r h
  unfold Fparts at h; dsimp only at h
  split at h
  · rename_i o
    obtain ⟨hp, h2⟩ := ck_elim h
    refine (parts_0 K o).trans (Eq.trans ?_ h2)
    have e := parts_list o
    rw [hp] at e
    rw [← e]
  · cases h
theorem al44 (ps : List PK) : AllOk Tryd.prog ((43, Fparts ps) :: (31, eitherS c31 (argS [BL] F17) F17) :: partL) := ⟨Fparts_ok ps, c31ok, partL_ok⟩
theorem base44 (ps : List PK) : SumOk Tryd.prog 44 (codeX Tryd.prog (G44 ps) lv44 8 Tryd.f44) := codeX_ok (k := 8) (lv := lv44) mixed noNG_prog (sums_call (Wr := all) (al44 ps)) (sums_prim (al44 ps)) (fn := Tryd.f44) rfl
theorem nm_1 {R : Type} (K : KV R) (c : CR0) (hs : smallC ((1 : Int), c)) : (codeX Tryd.prog (G44 [.ring, .typ, .desc, .payload]) lv44 8 Tryd.f44).run [.dat CT ((1 : Int), c)] [] K = K (.dat CT (namedM ((1 : Int), c))) [] := by
  refine (named_1 K c).trans ?_
  have e_desc := encP_len .desc hs
  have e_payload := encP_len .payload hs
  have e_ring := encP_len .ring hs
  have e_typ := encP_len .typ hs
  have hall : (newV (encP .ring ((1 : Int), c) ++ encP .typ ((1 : Int), c) ++ encP .desc ((1 : Int), c) ++ encP .payload ((1 : Int), c))).1.length < 100000 := by
    show (encP .ring ((1 : Int), c) ++ encP .typ ((1 : Int), c) ++ encP .desc ((1 : Int), c) ++ encP .payload ((1 : Int), c)).length < 100000
    simp only [List.length_append]; omega
  rw [ck_pos hs, ck_pos (⟨hs, by omega⟩), ck_pos (⟨hs, by simp only [List.length_append]; omega⟩), ck_pos (⟨hs, by simp only [List.length_append]; omega⟩), ck_pos (by simp only [List.length_append]; omega), ck_pos (hall), ck_pos (Nat.lt_of_le_of_lt (rdS_len _ _) (hall)), ck_pos (Nat.lt_of_le_of_lt (rdS_len _ _) (Nat.lt_of_le_of_lt (rdS_len _ _) (hall))), ck_pos (Nat.lt_of_le_of_lt (rdS_len _ _) (Nat.lt_of_le_of_lt (rdS_len _ _) (Nat.lt_of_le_of_lt (rdS_len _ _) (hall))))]
  rfl
theorem nm_2 {R : Type} (K : KV R) (c : CR0) (hs : smallC ((2 : Int), c)) : (codeX Tryd.prog (G44 [.typ, .desc]) lv44 8 Tryd.f44).run [.dat CT ((2 : Int), c)] [] K = K (.dat CT (namedM ((2 : Int), c))) [] := by
  refine (named_2 K c).trans ?_
  have e_desc := encP_len .desc hs
  have e_typ := encP_len .typ hs
  have hall : (newV (encP .typ ((2 : Int), c) ++ encP .desc ((2 : Int), c))).1.length < 100000 := by
    show (encP .typ ((2 : Int), c) ++ encP .desc ((2 : Int), c)).length < 100000
    simp only [List.length_append]; omega
  rw [ck_pos hs, ck_pos (⟨hs, by omega⟩), ck_pos (by simp only [List.length_append]; omega), ck_pos (hall), ck_pos (Nat.lt_of_le_of_lt (rdS_len _ _) (hall))]
  rfl
theorem nm_3 {R : Type} (K : KV R) (c : CR0) (hs : smallC ((3 : Int), c)) : (codeX Tryd.prog (G44 [.ring, .typ, .desc]) lv44 8 Tryd.f44).run [.dat CT ((3 : Int), c)] [] K = K (.dat CT (namedM ((3 : Int), c))) [] := by
  refine (named_3 K c).trans ?_
  have e_desc := encP_len .desc hs
  have e_ring := encP_len .ring hs
  have e_typ := encP_len .typ hs
  have hall : (newV (encP .ring ((3 : Int), c) ++ encP .typ ((3 : Int), c) ++ encP .desc ((3 : Int), c))).1.length < 100000 := by
    show (encP .ring ((3 : Int), c) ++ encP .typ ((3 : Int), c) ++ encP .desc ((3 : Int), c)).length < 100000
    simp only [List.length_append]; omega
  rw [ck_pos hs, ck_pos (⟨hs, by omega⟩), ck_pos (⟨hs, by simp only [List.length_append]; omega⟩), ck_pos (by simp only [List.length_append]; omega), ck_pos (hall), ck_pos (Nat.lt_of_le_of_lt (rdS_len _ _) (hall)), ck_pos (Nat.lt_of_le_of_lt (rdS_len _ _) (Nat.lt_of_le_of_lt (rdS_len _ _) (hall)))]
  rfl
theorem nm_4 {R : Type} (K : KV R) (c : CR0) (hs : smallC ((4 : Int), c)) : (codeX Tryd.prog (G44 [.key]) lv44 8 Tryd.f44).run [.dat CT ((4 : Int), c)] [] K = K (.dat CT (namedM ((4 : Int), c))) [] := by
  refine (named_4 K c).trans ?_
  have e_key := encP_len .key hs
  have hall : (newV (encP .key ((4 : Int), c))).1.length < 100000 := by
    show (encP .key ((4 : Int), c)).length < 100000
    omega
  rw [ck_pos hs, ck_pos (by omega), ck_pos (hall)]
  rfl
theorem nm_5 {R : Type} (K : KV R) (c : CR0) (hs : smallC ((5 : Int), c)) : (codeX Tryd.prog (G44 [.key, .payload]) lv44 8 Tryd.f44).run [.dat CT ((5 : Int), c)] [] K = K (.dat CT (namedM ((5 : Int), c))) [] := by
  refine (named_5 K c).trans ?_
  have e_key := encP_len .key hs
  have e_payload := encP_len .payload hs
  have hall : (newV (encP .key ((5 : Int), c) ++ encP .payload ((5 : Int), c))).1.length < 100000 := by
    show (encP .key ((5 : Int), c) ++ encP .payload ((5 : Int), c)).length < 100000
    simp only [List.length_append]; omega
  rw [ck_pos hs, ck_pos (⟨hs, by omega⟩), ck_pos (by simp only [List.length_append]; omega), ck_pos (hall), ck_pos (Nat.lt_of_le_of_lt (rdS_len _ _) (hall))]
  rfl
theorem nm_6 {R : Type} (K : KV R) (c : CR0) (hs : smallC ((6 : Int), c)) : (codeX Tryd.prog (G44 [.key]) lv44 8 Tryd.f44).run [.dat CT ((6 : Int), c)] [] K = K (.dat CT (namedM ((6 : Int), c))) [] := by
  refine (named_6 K c).trans ?_
  have e_key := encP_len .key hs
  have hall : (newV (encP .key ((6 : Int), c))).1.length < 100000 := by
    show (encP .key ((6 : Int), c)).length < 100000
    omega
  rw [ck_pos hs, ck_pos (by omega), ck_pos (hall)]
  rfl
theorem nm_7 {R : Type} (K : KV R) (c : CR0) (hs : smallC ((7 : Int), c)) : (codeX Tryd.prog (G44 [.key, .ring]) lv44 8 Tryd.f44).run [.dat CT ((7 : Int), c)] [] K = K (.dat CT (namedM ((7 : Int), c))) [] := by
  refine (named_7 K c).trans ?_
  have e_key := encP_len .key hs
  have e_ring := encP_len .ring hs
  have hall : (newV (encP .key ((7 : Int), c) ++ encP .ring ((7 : Int), c))).1.length < 100000 := by
    show (encP .key ((7 : Int), c) ++ encP .ring ((7 : Int), c)).length < 100000
    simp only [List.length_append]; omega
  rw [ck_pos hs, ck_pos (⟨hs, by omega⟩), ck_pos (by simp only [List.length_append]; omega), ck_pos (hall), ck_pos (Nat.lt_of_le_of_lt (rdS_len _ _) (hall))]
  rfl
theorem nm_8 {R : Type} (K : KV R) (c : CR0) (hs : smallC ((8 : Int), c)) : (codeX Tryd.prog (G44 [.key, .ring]) lv44 8 Tryd.f44).run [.dat CT ((8 : Int), c)] [] K = K (.dat CT (namedM ((8 : Int), c))) [] := by
  refine (named_8 K c).trans ?_
  have e_key := encP_len .key hs
  have e_ring := encP_len .ring hs
  have hall : (newV (encP .key ((8 : Int), c) ++ encP .ring ((8 : Int), c))).1.length < 100000 := by
    show (encP .key ((8 : Int), c) ++ encP .ring ((8 : Int), c)).length < 100000
    simp only [List.length_append]; omega
  rw [ck_pos hs, ck_pos (⟨hs, by omega⟩), ck_pos (by simp only [List.length_append]; omega), ck_pos (hall), ck_pos (Nat.lt_of_le_of_lt (rdS_len _ _) (hall))]
  rfl
theorem nm_9 {R : Type} (K : KV R) (c : CR0) (hs : smallC ((9 : Int), c)) : (codeX Tryd.prog (G44 [.key, .ring, .to]) lv44 8 Tryd.f44).run [.dat CT ((9 : Int), c)] [] K = K (.dat CT (namedM ((9 : Int), c))) [] := by
  refine (named_9 K c).trans ?_
  have e_key := encP_len .key hs
  have e_ring := encP_len .ring hs
  have e_to := encP_len .to hs
  have hall : (newV (encP .key ((9 : Int), c) ++ encP .ring ((9 : Int), c) ++ encP .to ((9 : Int), c))).1.length < 100000 := by
    show (encP .key ((9 : Int), c) ++ encP .ring ((9 : Int), c) ++ encP .to ((9 : Int), c)).length < 100000
    simp only [List.length_append]; omega
  rw [ck_pos hs, ck_pos (⟨hs, by omega⟩), ck_pos (⟨hs, by simp only [List.length_append]; omega⟩), ck_pos (by simp only [List.length_append]; omega), ck_pos (hall), ck_pos (Nat.lt_of_le_of_lt (rdS_len _ _) (hall)), ck_pos (Nat.lt_of_le_of_lt (rdS_len _ _) (Nat.lt_of_le_of_lt (rdS_len _ _) (hall)))]
  rfl
theorem nm_10 {R : Type} (K : KV R) (c : CR0) (hs : smallC ((10 : Int), c)) : (codeX Tryd.prog (G44 [.ring]) lv44 8 Tryd.f44).run [.dat CT ((10 : Int), c)] [] K = K (.dat CT (namedM ((10 : Int), c))) [] := by
  refine (named_10 K c).trans ?_
  have e_ring := encP_len .ring hs
  have hall : (newV (encP .ring ((10 : Int), c))).1.length < 100000 := by
    show (encP .ring ((10 : Int), c)).length < 100000
    omega
  rw [ck_pos hs, ck_pos (by omega), ck_pos (hall)]
  rfl
theorem nm_11 {R : Type} (K : KV R) (c : CR0) (hs : smallC ((11 : Int), c)) : (codeX Tryd.prog (G44 [.key, .perm]) lv44 8 Tryd.f44).run [.dat CT ((11 : Int), c)] [] K = K (.dat CT (namedM ((11 : Int), c))) [] := by
  refine (named_11 K c).trans ?_
  have e_key := encP_len .key hs
  have e_perm := encP_len .perm hs
  have hall : (newV (encP .key ((11 : Int), c) ++ encP .perm ((11 : Int), c))).1.length < 100000 := by
    show (encP .key ((11 : Int), c) ++ encP .perm ((11 : Int), c)).length < 100000
    simp only [List.length_append]; omega
  rw [ck_pos hs, ck_pos (⟨hs, by omega⟩), ck_pos (by simp only [List.length_append]; omega), ck_pos (hall), ck_pos (Nat.lt_of_le_of_lt (rdS_len _ _) (hall))]
  rfl
theorem nm_12 {R : Type} (K : KV R) (c : CR0) (hs : smallC ((12 : Int), c)) : (codeX Tryd.prog (G44 [.key, .uid, .gid]) lv44 8 Tryd.f44).run [.dat CT ((12 : Int), c)] [] K = K (.dat CT (namedM ((12 : Int), c))) [] := by
  refine (named_12 K c).trans ?_
  have e_gid := encP_len .gid hs
  have e_key := encP_len .key hs
  have e_uid := encP_len .uid hs
  have hall : (newV (encP .key ((12 : Int), c) ++ encP .uid ((12 : Int), c) ++ encP .gid ((12 : Int), c))).1.length < 100000 := by
    show (encP .key ((12 : Int), c) ++ encP .uid ((12 : Int), c) ++ encP .gid ((12 : Int), c)).length < 100000
    simp only [List.length_append]; omega
  rw [ck_pos hs, ck_pos (⟨hs, by omega⟩), ck_pos (⟨hs, by simp only [List.length_append]; omega⟩), ck_pos (by simp only [List.length_append]; omega), ck_pos (hall), ck_pos (Nat.lt_of_le_of_lt (rdS_len _ _) (hall)), ck_pos (Nat.lt_of_le_of_lt (rdS_len _ _) (Nat.lt_of_le_of_lt (rdS_len _ _) (hall)))]
  rfl
theorem nm_13 {R : Type} (K : KV R) (c : CR0) (hs : smallC ((13 : Int), c)) : (codeX Tryd.prog (G44 [.key, .time]) lv44 8 Tryd.f44).run [.dat CT ((13 : Int), c)] [] K = K (.dat CT (namedM ((13 : Int), c))) [] := by
  refine (named_13 K c).trans ?_
  have e_key := encP_len .key hs
  have e_time := encP_len .time hs
  have hall : (newV (encP .key ((13 : Int), c) ++ encP .time ((13 : Int), c))).1.length < 100000 := by
    show (encP .key ((13 : Int), c) ++ encP .time ((13 : Int), c)).length < 100000
    simp only [List.length_append]; omega
  rw [ck_pos hs, ck_pos (⟨hs, by omega⟩), ck_pos (by simp only [List.length_append]; omega), ck_pos (hall), ck_pos (Nat.lt_of_le_of_lt (rdS_len _ _) (hall))]
  rfl
theorem nm_14 {R : Type} (K : KV R) (c : CR0) (hs : smallC ((14 : Int), c)) : (codeX Tryd.prog (G44 [.key]) lv44 8 Tryd.f44).run [.dat CT ((14 : Int), c)] [] K = K (.dat CT (namedM ((14 : Int), c))) [] := by
  refine (named_14 K c).trans ?_
  have e_key := encP_len .key hs
  have hall : (newV (encP .key ((14 : Int), c))).1.length < 100000 := by
    show (encP .key ((14 : Int), c)).length < 100000
    omega
  rw [ck_pos hs, ck_pos (by omega), ck_pos (hall)]
  rfl
theorem nm_15 {R : Type} (K : KV R) (c : CR0) (hs : smallC ((15 : Int), c)) : (codeX Tryd.prog (G44 [.key]) lv44 8 Tryd.f44).run [.dat CT ((15 : Int), c)] [] K = K (.dat CT (namedM ((15 : Int), c))) [] := by
  refine (named_15 K c).trans ?_
  have e_key := encP_len .key hs
  have hall : (newV (encP .key ((15 : Int), c))).1.length < 100000 := by
    show (encP .key ((15 : Int), c)).length < 100000
    omega
  rw [ck_pos hs, ck_pos (by omega), ck_pos (hall)]
  rfl
theorem nm_16 {R : Type} (K : KV R) (c : CR0) (hs : smallC ((16 : Int), c)) : (codeX Tryd.prog (G44 [.ring, .restrict]) lv44 8 Tryd.f44).run [.dat CT ((16 : Int), c)] [] K = K (.dat CT (namedM ((16 : Int), c))) [] := by
  refine (named_16 K c).trans ?_
  have e_restrict := encP_len .restrict hs
  have e_ring := encP_len .ring hs
  have hall : (newV (encP .ring ((16 : Int), c) ++ encP .restrict ((16 : Int), c))).1.length < 100000 := by
    show (encP .ring ((16 : Int), c) ++ encP .restrict ((16 : Int), c)).length < 100000
    simp only [List.length_append]; omega
  rw [ck_pos hs, ck_pos (⟨hs, by omega⟩), ck_pos (by simp only [List.length_append]; omega), ck_pos (hall), ck_pos (Nat.lt_of_le_of_lt (rdS_len _ _) (hall))]
  rfl
theorem nm_17 {R : Type} (K : KV R) (c : CR0) (hs : smallC ((17 : Int), c)) : (codeX Tryd.prog (G44 [.key, .create]) lv44 8 Tryd.f44).run [.dat CT ((17 : Int), c)] [] K = K (.dat CT (namedM ((17 : Int), c))) [] := by
  refine (named_17 K c).trans ?_
  have e_create := encP_len .create hs
  have e_key := encP_len .key hs
  have hall : (newV (encP .key ((17 : Int), c) ++ encP .create ((17 : Int), c))).1.length < 100000 := by
    show (encP .key ((17 : Int), c) ++ encP .create ((17 : Int), c)).length < 100000
    simp only [List.length_append]; omega
  rw [ck_pos hs, ck_pos (⟨hs, by omega⟩), ck_pos (by simp only [List.length_append]; omega), ck_pos (hall), ck_pos (Nat.lt_of_le_of_lt (rdS_len _ _) (hall))]
  rfl
theorem nm_18 {R : Type} (K : KV R) (c : CR0) (hs : smallC ((18 : Int), c)) : (codeX Tryd.prog (G44 [.desc]) lv44 8 Tryd.f44).run [.dat CT ((18 : Int), c)] [] K = K (.dat CT (namedM ((18 : Int), c))) [] := by
  refine (named_18 K c).trans ?_
  have e_desc := encP_len .desc hs
  have hall : (newV (encP .desc ((18 : Int), c))).1.length < 100000 := by
    show (encP .desc ((18 : Int), c)).length < 100000
    omega
  rw [ck_pos hs, ck_pos (by omega), ck_pos (hall)]
  rfl
theorem nm_0 {R : Type} (K : KV R) (c : CV) (h : psOf c.1 = []) : (codeX Tryd.prog (G44 []) lv44 8 Tryd.f44).run [.dat CT c] [] K = K (.dat CT (namedM c)) [] := by
  refine (named_0 K c).trans ?_
  rw [ck_pos h, ck_pos h]
  unfold namedM joinT
  rw [h]
  show _ = K (.dat CT (bif decide (c.1 = 18) then _ else _)) []
  cases decide (c.1 = 18) <;> rfl
theorem ps_some {o : Int} (h : psOf o ≠ []) : 1 ≤ o ∧ o ≤ 18 := by
  by_cases hh : 1 ≤ o ∧ o ≤ 18
  · exact hh
  · exfalso
    apply h
    unfold psOf
    repeat (rw [if_neg (by omega)])
theorem ps_cases {o : Int} (h : psOf o ≠ []) : o = 1 ∨ o = 2 ∨ o = 3 ∨ o = 4 ∨ o = 5 ∨ o = 6 ∨ o = 7 ∨ o = 8 ∨ o = 9 ∨ o = 10 ∨ o = 11 ∨ o = 12 ∨ o = 13 ∨ o = 14 ∨ o = 15 ∨ o = 16 ∨ o = 17 ∨ o = 18 := by
  have := ps_some h
  omega
theorem F44_nat : F44.Nat := by
  intro R R' f args ob K
  unfold F44; dsimp only
  split <;> simp only [bd_bind, bd_ck, bd_none]
theorem F44_ok : SumOk Tryd.prog 44 F44 := by
  refine ⟨F44_nat, ?_⟩
  intro R args ob K r hK W ρ w us hr ha
  unfold F44 at hK; dsimp only at hK
  split at hK
  · rename_i t v
    obtain ⟨c, hc, h1⟩ := bind_elim hK
    obtain ⟨hs, h2⟩ := ck_elim h1
    clear hK h1
    have e := asD_ok hc
    rw [e] at ha
    by_cases h0 : psOf c.1 = []
    · exact (base44 []).2 _ [] K r ((nm_0 K c h0).trans h2) W ρ w us hr ha
    · obtain ⟨o, c⟩ := c
      have ho := ps_cases h0
      clear h0
      rcases ho with rfl | rfl | rfl | rfl | rfl | rfl | rfl | rfl | rfl | rfl | rfl | rfl | rfl | rfl | rfl | rfl | rfl | rfl
      · exact (base44 [.ring, .typ, .desc, .payload]).2 _ [] K r ((nm_1 K c hs).trans h2) W ρ w us hr ha
      · exact (base44 [.typ, .desc]).2 _ [] K r ((nm_2 K c hs).trans h2) W ρ w us hr ha
      · exact (base44 [.ring, .typ, .desc]).2 _ [] K r ((nm_3 K c hs).trans h2) W ρ w us hr ha
      · exact (base44 [.key]).2 _ [] K r ((nm_4 K c hs).trans h2) W ρ w us hr ha
      · exact (base44 [.key, .payload]).2 _ [] K r ((nm_5 K c hs).trans h2) W ρ w us hr ha
      · exact (base44 [.key]).2 _ [] K r ((nm_6 K c hs).trans h2) W ρ w us hr ha
      · exact (base44 [.key, .ring]).2 _ [] K r ((nm_7 K c hs).trans h2) W ρ w us hr ha
      · exact (base44 [.key, .ring]).2 _ [] K r ((nm_8 K c hs).trans h2) W ρ w us hr ha
      · exact (base44 [.key, .ring, .to]).2 _ [] K r ((nm_9 K c hs).trans h2) W ρ w us hr ha
      · exact (base44 [.ring]).2 _ [] K r ((nm_10 K c hs).trans h2) W ρ w us hr ha
      · exact (base44 [.key, .perm]).2 _ [] K r ((nm_11 K c hs).trans h2) W ρ w us hr ha
      · exact (base44 [.key, .uid, .gid]).2 _ [] K r ((nm_12 K c hs).trans h2) W ρ w us hr ha
      · exact (base44 [.key, .time]).2 _ [] K r ((nm_13 K c hs).trans h2) W ρ w us hr ha
      · exact (base44 [.key]).2 _ [] K r ((nm_14 K c hs).trans h2) W ρ w us hr ha
      · exact (base44 [.key]).2 _ [] K r ((nm_15 K c hs).trans h2) W ρ w us hr ha
      · exact (base44 [.ring, .restrict]).2 _ [] K r ((nm_16 K c hs).trans h2) W ρ w us hr ha
      · exact (base44 [.key, .create]).2 _ [] K r ((nm_17 K c hs).trans h2) W ρ w us hr ha
      · exact (base44 [.desc]).2 _ [] K r ((nm_18 K c hs).trans h2) W ρ w us hr ha
  · cases hK
end Go.Mx
namespace Go.Mx
open Go Go.RowKit Go.Sx Go.Proofs
set_option maxRecDepth 100000
abbrev XT := T.pair (.int .i64) .str
abbrev XV := Int × ByteArray
def lv43n : Tl := ⟨fun q => match q with | 0 => some [1, 2, 10] | _ => none, []⟩
def lv17n : Tl := ⟨fun q => match q with | 0 => some [1, 3] | _ => none, []⟩
theorem odd_0 {R : Type} (K : KV R) (r : Int) : (codeX Tryd.prog (sums all []) lvN 0 Tryd.f91).run [.dat (.int .i32) r] [] K = bif decide (r < (33 : Int)) then K (AV.dat T.bool true) [] else bif decide ((126 : Int) < r) then K (AV.dat T.bool true) [] else K (AV.dat T.bool (decide (r = (59 : Int)))) [] := by kernel_rfl
def odd (b : Int) : Bool := decide (b < 33) || decide (126 < b) || decide (b = 59)
def Fn33 : Summ := ⟨fun args ob K => match args, ob with
  | [.dat (.int .i32) r], [] => K (.dat .bool (odd r)) []
  | _, _ => none⟩
def G33n : Sums := sums all [(91, Fn33)]
theorem ix_0 {R : Type} (L : Nat → St → (Exit → St → Option R) → Option R) (K : KV R) (s : ByteArray) : runX Tryd.prog G33n lv43n Tryd.f102 0 L [.dat .str s, .fn 91 [] [], .dat .bool true] [] K = L (0 : Nat) (St.mk [((1 : Nat), AV.fn (91 : Nat) [] []), ((2 : Nat), AV.dat T.bool true), ((10 : Nat), AV.ptr (0 : Nat) [])] [AO.itr s (0 : Nat) true]) (endX Tryd.prog G33n lv43n Tryd.f102 (0 : Nat) L K (0 : Nat)) := by kernel_rfl
theorem ix_s {R : Type} (L L0 : Nat → St → (Exit → St → Option R) → Option R) (K : KV R) (s : ByteArray) (p : Nat) : stepX Tryd.prog G33n lv43n 0 (codeOf Tryd.f102) L 0 ⟨[(1, .fn 91 [] []), (2, .dat .bool true), (10, .ptr 0 [])], [.itr s p true]⟩ (endX Tryd.prog G33n lv43n Tryd.f102 0 L0 K 0) = bif decide (p < ByteArray.size s) then bif odd (↑(Prod.fst (Utf8.decode s p)) : Int) == true then K (AV.dat (T.int IntKind.i64) (↑p : Int)) [] else L (0 : Nat) (St.mk [((1 : Nat), AV.fn (91 : Nat) [] []), ((2 : Nat), AV.dat T.bool true), ((10 : Nat), AV.ptr (0 : Nat) [])] [AO.itr s (p + Prod.snd (Utf8.decode s p)) true]) (endX Tryd.prog G33n lv43n Tryd.f102 (0 : Nat) L0 K (0 : Nat)) else K (AV.dat (T.int IntKind.i64) (-1 : Int)) [] := by kernel_rfl
theorem rm_0 {R : Type} (L : Nat → St → (Exit → St → Option R) → Option R) (K : KV R) (x : XV) : runX Tryd.prog G33n lv17n Tryd.f54 0 L [.dat XT x] [] K = bif decide (Prod.fst x < (1 : Int)) then K (AV.dat T.bool false) [] else bif decide ((4 : Int) < Prod.fst x) then K (AV.dat T.bool false) [] else bif decide ((↑(ByteArray.size (Prod.snd x)) : Int) < (1 : Int)) then K (AV.dat T.bool false) [] else bif decide ((32 : Int) < (↑(ByteArray.size (Prod.snd x)) : Int)) then K (AV.dat T.bool false) [] else L (0 : Nat) (St.mk [((1 : Nat), AV.ptr (0 : Nat) []), ((3 : Nat), AV.dat (T.int IntKind.i64) (0 : Int))] [AO.box (46 : Nat) (AV.dat (T.pair (T.int IntKind.i64) T.str) x) true]) (endX Tryd.prog G33n lv17n Tryd.f54 (0 : Nat) L K (0 : Nat)) := by kernel_rfl
theorem rm_s {R : Type} (L L0 : Nat → St → (Exit → St → Option R) → Option R) (K : KV R) (x : XV) (i : Int) : stepX Tryd.prog G33n lv17n 0 (codeOf Tryd.f54) L 0 ⟨[(1, .ptr 0 []), (3, .dat I64 i)], [.box 46 (.dat XT x) true]⟩ (endX Tryd.prog G33n lv17n Tryd.f54 0 L0 K 0) = bif decide (i < (↑(ByteArray.size (Prod.snd x)) : Int)) then ck ((0 : Int) ≤ i ∧ i < (↑(ByteArray.size (Prod.snd x)) : Int)) (Option.bind (bytesOf (Prod.snd x))[Int.toNat i]? fun x_1 ↦ bif decide (x_1 < (33 : Int)) then K (AV.dat T.bool false) [] else ck ((0 : Int) ≤ i ∧ i < (↑(ByteArray.size (Prod.snd x)) : Int)) (Option.bind (bytesOf (Prod.snd x))[Int.toNat i]? fun x_2 ↦ bif decide ((126 : Int) < x_2) then K (AV.dat T.bool false) [] else ck ((0 : Int) ≤ i ∧ i < (↑(ByteArray.size (Prod.snd x)) : Int)) (Option.bind (bytesOf (Prod.snd x))[Int.toNat i]? fun x_3 ↦ bif decide (x_3 = (59 : Int)) then K (AV.dat T.bool false) [] else L (0 : Nat) (St.mk [((1 : Nat), AV.ptr (0 : Nat) []), ((3 : Nat), AV.dat (T.int IntKind.i64) (IntKind.wrap IntKind.i64 (i + (1 : Int))))] [AO.box (46 : Nat) (AV.dat (T.pair (T.int IntKind.i64) T.str) x) true]) (endX Tryd.prog G33n lv17n Tryd.f54 (0 : Nat) L0 K (0 : Nat))))) else K (AV.dat T.bool true) [] := by kernel_rfl
theorem Fn33_ok : SumOk Tryd.prog 91 Fn33 := by
  refine (codeX_ok (k := 0) (lv := lvN) mixed noNG_prog (sums_call (Wr := all) (l := []) trivial) (sums_prim trivial) (fn := Tryd.f91) rfl).le ?_ ?_
  · intro R R' f args ob K
    unfold Fn33; dsimp only
    split <;> simp only [bd_none]
  · intro R args ob K r h
    unfold Fn33 at h; dsimp only at h
    split at h
    · rename_i n
      refine (odd_0 K n).trans (Eq.trans ?_ h)
      unfold odd
      cases decide (n < 33) <;> cases decide (126 < n) <;> rfl
    · cases h
def idxG (s : ByteArray) : Nat → Nat → Int
  | 0, _ => -1
  | n + 1, p => if p < s.size then (if odd ((Utf8.decode s p).1 : Int) = true then (p : Int) else idxG s n (p + (Utf8.decode s p).2)) else -1
theorem width_pos (s : ByteArray) (p : Nat) (hp : p < s.size) : odd ((Utf8.decode s p).1 : Int) = true ∨ Utf8.decode s p = ((s[p]'hp).toNat, 1) := by
  by_cases h128 : (s[p]'hp).toNat < 128
  · exact .inr (decode_ascii s p hp h128)
  · obtain ⟨h1, _⟩ := decode_high s p hp (by omega)
    left; unfold odd; simp; omega
theorem idx_loop {R : Type} (L0 : Nat → St → (Exit → St → Option R) → Option R) (K : KV R) (s : ByteArray) : ∀ (n p k : Nat), s.size - p < n → n < k + 1 →
    LX Tryd.prog G33n lv43n 0 (codeOf Tryd.f102) k 0 ⟨[(1, .fn 91 [] []), (2, .dat .bool true), (10, .ptr 0 [])], [.itr s p true]⟩ (endX Tryd.prog G33n lv43n Tryd.f102 0 L0 K 0) = K (.dat I64 (idxG s n p)) [] := by
  intro n
  induction n with
  | zero => intro p k hn; omega
  | succ n ih =>
    intro p k hn hk
    obtain ⟨k, rfl⟩ : ∃ q, k = q + 1 := ⟨k - 1, by omega⟩
    refine (ix_s _ L0 K s p).trans ?_
    rw [idxG]
    by_cases hp : p < s.size
    · rw [decide_eq_true hp, cond_true, if_pos hp]
      by_cases ho : odd ((Utf8.decode s p).1 : Int) = true
      · rw [ho, if_pos rfl]; rfl
      · have hd := (width_pos s p hp).resolve_left ho
        rw [Bool.not_eq_true] at ho
        rw [ho, if_neg (by simp), show (false == true) = false from rfl, cond_false]
        exact ih _ k (by rw [hd]; show s.size - (p + 1) < n; omega) (by omega)
    · rw [decide_eq_false hp, cond_false, if_neg hp]
def Fn43 : Summ := ⟨fun args ob K => match args, ob with
  | [.dat .str s, .fn 91 [] [], .dat .bool true], [] => ck (s.size < 100000) (K (.dat I64 (idxG s 100000 0)) [])
  | _, _ => none⟩
theorem all33n : AllOk Tryd.prog [(91, Fn33)] := ⟨Fn33_ok, trivial⟩
theorem Fn43_ok : SumOk Tryd.prog 102 Fn43 := by
  refine (codeX_ok (k := 100001) (lv := lv43n) mixed noNG_prog (sums_call (Wr := all) all33n) (sums_prim all33n) (fn := Tryd.f102) rfl).le ?_ ?_
  · intro R R' f args ob K
    unfold Fn43; dsimp only
    split <;> simp only [bd_none, bd_ck]
  · intro R args ob K r h
    unfold Fn43 at h; dsimp only at h
    split at h
    · obtain ⟨hs, h⟩ := ck_elim h
      exact ((ix_0 _ K _).trans (idx_loop _ K _ 100000 0 100001 (by omega) (by omega))).trans h
    · cases h
def G40n : Sums := sums all [(102, Fn43)]
theorem all40n : AllOk Tryd.prog [(102, Fn43)] := ⟨Fn43_ok, trivial⟩
noncomputable def Cn40 : Summ := codeX Tryd.prog G40n lvN 0 Tryd.f101
theorem Cn40_ok : SumOk Tryd.prog 101 Cn40 := codeX_ok mixed noNG_prog (sums_call all40n) (sums_prim all40n) rfl lvN 0
noncomputable def G34n : Sums := sums all [(101, Cn40)]
theorem all34n : AllOk Tryd.prog [(101, Cn40)] := ⟨Cn40_ok, trivial⟩
noncomputable def Cn34 : Summ := codeX Tryd.prog G34n lvN 0 Tryd.f92
theorem Cn34_ok : SumOk Tryd.prog 92 Cn34 := codeX_ok mixed noNG_prog (sums_call all34n) (sums_prim all34n) rfl lvN 0
noncomputable def G16n : Sums := sums all [(92, Cn34)]
theorem all16n : AllOk Tryd.prog [(92, Cn34)] := ⟨Cn34_ok, trivial⟩
theorem may_0 {R : Type} (K : KV R) (x : XV) : (codeX Tryd.prog G16n lvN 0 Tryd.f46).run [.dat XT x] [] K = bif decide ((1 : Int) ≤ Prod.fst x) then bif decide (Prod.fst x ≤ (4 : Int)) then bif decide ((1 : Int) ≤ (↑(ByteArray.size (Prod.snd x)) : Int)) then bif decide ((↑(ByteArray.size (Prod.snd x)) : Int) ≤ (32 : Int)) then ck (ByteArray.size (Prod.snd x) < (100000 : Nat)) (K (AV.dat T.bool !decide ((0 : Int) ≤ idxG (Prod.snd x) (100000 : Nat) (0 : Nat))) []) else K (AV.dat T.bool false) [] else K (AV.dat T.bool false) [] else K (AV.dat T.bool false) [] else K (AV.dat T.bool false) [] := by kernel_rfl
theorem idx_any (s : ByteArray) : ∀ (n p : Nat), s.size - p < n → (0 ≤ idxG s n p ↔ ((bytesOf s).drop p).any odd = true) := by
  intro n
  induction n with
  | zero => intro p hn; omega
  | succ n ih =>
    intro p hn
    rw [idxG]
    by_cases hp : p < s.size
    · have hb := bytesOf_at hp
      have hd : (bytesOf s).drop p = ((s[p]'hp).toNat : Int) :: (bytesOf s).drop (p + 1) := by
        have hl : p < (bytesOf s).length := by rw [bytesOf_len]; exact hp
        rw [List.drop_eq_getElem_cons hl, ← hb, List.getD_eq_getElem?_getD, List.getElem?_eq_getElem hl]
        rfl
      rw [if_pos hp, hd, List.any_cons]
      by_cases h128 : (s[p]'hp).toNat < 128
      · rw [decode_ascii s p hp h128]
        by_cases ho : odd ((s[p]'hp).toNat : Int) = true
        · rw [if_pos ho, ho]; simp
        · rw [if_neg ho, ih (p + 1) (by omega), Bool.eq_false_iff.2 ho, Bool.false_or]
      · obtain ⟨h1, _⟩ := decode_high s p hp (by omega)
        have ho : odd ((Utf8.decode s p).1 : Int) = true := by unfold odd; simp; omega
        have hob : odd ((s[p]'hp).toNat : Int) = true := by unfold odd; simp; omega
        rw [if_pos ho, hob]; simp
    · rw [if_neg hp, List.drop_of_length_le (by rw [bytesOf_len]; omega)]
      simp
def mayV (x : XV) : Bool := decide (1 ≤ x.1) && decide (x.1 ≤ 4) && decide (1 ≤ x.2.size) && decide (x.2.size ≤ 32) && !(bytesOf x.2).any odd
def Fmay : Summ := ⟨fun args ob K => match args, ob with
  | [v], [] => (asD XT v).bind fun x => K (.dat .bool (mayV x)) []
  | _, _ => none⟩
theorem Fmay_nat : Fmay.Nat := by
  intro R R' f args ob K
  unfold Fmay; dsimp only
  split <;> simp only [bd_none, bd_bind]
theorem may_run {R : Type} (K : KV R) (x : XV) : (codeX Tryd.prog G16n lvN 0 Tryd.f46).run [.dat XT x] [] K = K (.dat .bool (mayV x)) [] := by
  refine (may_0 K x).trans ?_
  unfold mayV
  by_cases h1 : 1 ≤ x.1
  · rw [decide_eq_true h1, cond_true, Bool.true_and]
    by_cases h2 : x.1 ≤ 4
    · rw [decide_eq_true h2, cond_true, Bool.true_and]
      by_cases h3 : 1 ≤ x.2.size
      · rw [decide_eq_true h3, decide_eq_true (show (1 : Int) ≤ (x.2.size : Int) by omega), cond_true, Bool.true_and]
        by_cases h4 : x.2.size ≤ 32
        · rw [decide_eq_true h4, decide_eq_true (show (x.2.size : Int) ≤ 32 by omega), cond_true, Bool.true_and, ck_pos (by omega)]
          have e2 := idx_any x.2 100000 0 (by omega)
          rw [List.drop_zero] at e2
          rw [show decide (0 ≤ idxG x.2 100000 0) = (bytesOf x.2).any odd from Bool.eq_iff_iff.2 (decide_eq_true_iff.trans e2)]
        · rw [decide_eq_false h4, decide_eq_false (show ¬ (x.2.size : Int) ≤ 32 by omega), cond_false, Bool.false_and]
      · rw [decide_eq_false h3, decide_eq_false (show ¬ (1 : Int) ≤ (x.2.size : Int) by omega), cond_false, Bool.false_and, Bool.false_and]
    · rw [decide_eq_false h2, cond_false, Bool.false_and, Bool.false_and, Bool.false_and]
  · rw [decide_eq_false h1, cond_false, Bool.false_and, Bool.false_and, Bool.false_and, Bool.false_and]
theorem Fmay46_ok : SumOk Tryd.prog 46 Fmay := by
  refine (codeX_ok (k := 0) (lv := lvN) mixed noNG_prog (sums_call (Wr := all) all16n) (sums_prim all16n) (fn := Tryd.f46) rfl).le Fmay_nat ?_
  intro R args ob K r h
  unfold Fmay at h; dsimp only at h
  split at h
  · obtain ⟨x, hx, h2⟩ := Option.bind_eq_some_iff.1 h
    obtain rfl := asD_ok hx
    exact (may_run K x).trans h2
  · cases h
theorem drop_at {l : List Int} {i : Nat} (h : i < l.length) : l.drop i = l.getD i 0 :: l.drop (i + 1) := by
  rw [List.drop_eq_getElem_cons h, List.getD_eq_getElem?_getD, List.getElem?_eq_getElem h]
  rfl
theorem rmay_loop {R : Type} (L0 : Nat → St → (Exit → St → Option R) → Option R) (K : KV R) (x : XV) (hs : x.2.size ≤ 1000) : ∀ (n p k : Nat), p + n = x.2.size → n < k →
    LX Tryd.prog G33n lv17n 0 (codeOf Tryd.f54) k 0 ⟨[(1, .ptr 0 []), (3, .dat I64 (p : Int))], [.box 46 (.dat XT x) true]⟩ (endX Tryd.prog G33n lv17n Tryd.f54 0 L0 K 0) = K (.dat .bool (!((bytesOf x.2).drop p).any odd)) [] := by
  have hl := bytesOf_len x.2
  intro n
  induction n with
  | zero =>
    intro p k hn hk
    obtain ⟨k, rfl⟩ : ∃ q, k = q + 1 := ⟨k - 1, by omega⟩
    refine (rm_s _ L0 K x p).trans ?_
    rw [show decide ((p : Int) < (x.2.size : Int)) = false from decide_eq_false (by omega), cond_false, List.drop_of_length_le (by omega)]
    rfl
  | succ n ih =>
    intro p k hn hk
    obtain ⟨k, rfl⟩ : ∃ q, k = q + 1 := ⟨k - 1, by omega⟩
    refine (rm_s _ L0 K x p).trans ?_
    rw [show decide ((p : Int) < (x.2.size : Int)) = true from decide_eq_true (by omega), cond_true, ck_pos (by omega), getq (j := p) rfl (by omega)]
    simp only [Option.bind_some]
    rw [drop_at (show p < (bytesOf x.2).length by omega), List.any_cons]
    generalize (bytesOf x.2).getD p 0 = c
    by_cases h1 : c < 33
    · rw [decide_eq_true h1, cond_true, show odd c = true by unfold odd; rw [decide_eq_true h1]; rfl]; rfl
    rw [decide_eq_false h1, cond_false, ck_pos (by omega)]
    by_cases h2 : 126 < c
    · rw [decide_eq_true h2, cond_true, show odd c = true by unfold odd; rw [decide_eq_true h2, Bool.or_true]; rfl]; rfl
    rw [decide_eq_false h2, cond_false, ck_pos (by omega)]
    by_cases h3 : c = 59
    · rw [decide_eq_true h3, cond_true, show odd c = true by unfold odd; rw [decide_eq_true h3, Bool.or_true]]; rfl
    rw [decide_eq_false h3, cond_false, show odd c = false by unfold odd; rw [decide_eq_false h1, decide_eq_false h2, decide_eq_false h3]; rfl, Bool.false_or, wrapS (by omega)]
    exact ih (p + 1) k (by omega) (by omega)
theorem rmay_run {R : Type} (K : KV R) (x : XV) : (codeX Tryd.prog G33n lv17n 100 Tryd.f54).run [.dat XT x] [] K = K (.dat .bool (mayV x)) [] := by
  refine (rm_0 _ K x).trans ?_
  unfold mayV
  by_cases h1 : x.1 < 1
  · rw [decide_eq_true h1, decide_eq_false (show ¬ 1 ≤ x.1 by omega)]; rfl
  rw [decide_eq_false h1, cond_false, decide_eq_true (show 1 ≤ x.1 by omega), Bool.true_and]
  by_cases h2 : 4 < x.1
  · rw [decide_eq_true h2, decide_eq_false (show ¬ x.1 ≤ 4 by omega)]; rfl
  rw [decide_eq_false h2, cond_false, decide_eq_true (show x.1 ≤ 4 by omega), Bool.true_and]
  by_cases h3 : (x.2.size : Int) < 1
  · rw [decide_eq_true h3, decide_eq_false (show ¬ 1 ≤ x.2.size by omega)]; rfl
  rw [decide_eq_false h3, cond_false, decide_eq_true (show 1 ≤ x.2.size by omega), Bool.true_and]
  by_cases h4 : (32 : Int) < x.2.size
  · rw [decide_eq_true h4, decide_eq_false (show ¬ x.2.size ≤ 32 by omega)]; rfl
  rw [decide_eq_false h4, cond_false, decide_eq_true (show x.2.size ≤ 32 by omega), Bool.true_and]
  have e := rmay_loop (LX Tryd.prog G33n lv17n 0 (codeOf Tryd.f54) 100) K x (by omega) x.2.size 0 100 (by omega) (by omega)
  rw [List.drop_zero] at e
  exact e
theorem Fmay54_ok : SumOk Tryd.prog 54 Fmay := by
  refine (codeX_ok (k := 100) (lv := lv17n) mixed noNG_prog (sums_call (Wr := all) all33n) (sums_prim all33n) (fn := Tryd.f54) rfl).le Fmay_nat ?_
  intro R args ob K r h
  unfold Fmay at h; dsimp only at h
  split at h
  · obtain ⟨x, hx, h2⟩ := Option.bind_eq_some_iff.1 h
    obtain rfl := asD_ok hx
    exact (rmay_run K x).trans h2
  · cases h
end Go.Mx
namespace Go.Mx
open Go Go.RowKit Go.Sx Go.Proofs
set_option maxRecDepth 100000
theorem id_0 {R : Type} (K : KV R) (s : Int) : (W 45).run [.dat I64 s] [] K = bif decide ((1 : Int) ≤ s) then bif decide (s ≤ (1073741824 : Int)) then K (AV.dat T.bool true) [] else bif decide ((-4 : Int) ≤ s) then K (AV.dat T.bool (decide (s ≤ (-1 : Int)))) [] else K (AV.dat T.bool false) [] else bif decide ((-4 : Int) ≤ s) then K (AV.dat T.bool (decide (s ≤ (-1 : Int)))) [] else K (AV.dat T.bool false) [] := by kernel_rfl
theorem special_0 {R : Type} (K : KV R) (s : Int) : (W 50).run [.dat I64 s] [] K = bif decide ((-4 : Int) ≤ s) then K (AV.dat T.bool (decide (s ≤ (-1 : Int)))) [] else K (AV.dat T.bool false) [] := by kernel_rfl
theorem rid_0 {R : Type} (K : KV R) (s : Int) : (W 52).run [.dat I64 s] [] K = bif decide (s ≤ (-1 : Int)) then bif decide ((-4 : Int) ≤ s) then K (AV.dat T.bool true) [] else bif decide ((1 : Int) ≤ s) then K (AV.dat T.bool (decide (s ≤ (1073741824 : Int)))) [] else K (AV.dat T.bool false) [] else bif decide ((1 : Int) ≤ s) then K (AV.dat T.bool (decide (s ≤ (1073741824 : Int)))) [] else K (AV.dat T.bool false) [] := by kernel_rfl
theorem rspecial_0 {R : Type} (K : KV R) (s : Int) : (W 53).run [.dat I64 s] [] K = bif decide (s ≤ (-1 : Int)) then K (AV.dat T.bool (decide ((-4 : Int) ≤ s))) [] else K (AV.dat T.bool false) [] := by kernel_rfl
theorem pay_0 {R : Type} (K : KV R) (t n : Int) : (W 47).run [.dat I64 t, .dat I64 n] [] K = bif decide ((0 : Int) < t) then bif !decide (t < (5 : Int)) then bif decide ((0 : Int) < t) then bif decide (t < (5 : Int)) then bif decide ((0 : Int) ≤ n) then K (AV.dat T.bool (decide (n ≤ (0 : Int)))) [] else K (AV.dat T.bool false) [] else K (AV.dat T.bool false) [] else K (AV.dat T.bool false) [] else ck ((0 : Int) ≤ t ∧ t < (5 : Int)) (Option.bind rowsV[Int.toNat t]? fun x ↦ bif decide ((0 : Int) < t) then bif decide (t < (5 : Int)) then bif decide (Prod.fst (Prod.snd x) ≤ n) then K (AV.dat T.bool (decide (n ≤ Prod.fst (Prod.snd (Prod.snd x))))) [] else K (AV.dat T.bool false) [] else K (AV.dat T.bool false) [] else K (AV.dat T.bool false) []) else bif decide ((0 : Int) < t) then bif decide (t < (5 : Int)) then bif decide ((0 : Int) ≤ n) then K (AV.dat T.bool (decide (n ≤ (0 : Int)))) [] else K (AV.dat T.bool false) [] else K (AV.dat T.bool false) [] else K (AV.dat T.bool false) [] := by kernel_rfl
theorem rpay_0 {R : Type} (K : KV R) (t n : Int) : (W 55).run [.dat I64 t, .dat I64 n] [] K = bif decide (t = (4 : Int)) then K (AV.dat T.bool (decide (n = (0 : Int)))) [] else bif decide ((1 : Int) ≤ t) then bif decide (t ≤ (4 : Int)) then bif decide ((1 : Int) ≤ n) then bif decide (t = (1 : Int)) then K (AV.dat T.bool (decide (n ≤ (128 : Int)))) [] else bif decide (t = (2 : Int)) then K (AV.dat T.bool (decide (n ≤ (64 : Int)))) [] else bif decide (t = (3 : Int)) then K (AV.dat T.bool (decide (n ≤ (256 : Int)))) [] else K (AV.dat T.bool (decide (n ≤ (0 : Int)))) [] else K (AV.dat T.bool false) [] else K (AV.dat T.bool false) [] else K (AV.dat T.bool false) [] := by kernel_rfl
theorem permm_0 {R : Type} (K : KV R) (p : Int) : (W 48).run [.dat (.int .u32) p] [] K = bif decide ((63 : Int) < IntKind.wrap IntKind.u8 (shr IntKind.u32 p (24 : Int))) then K (AV.dat T.bool false) [] else bif decide ((63 : Int) < IntKind.wrap IntKind.u8 (shr IntKind.u32 p (16 : Int))) then K (AV.dat T.bool false) [] else bif decide ((63 : Int) < IntKind.wrap IntKind.u8 (shr IntKind.u32 p (8 : Int))) then K (AV.dat T.bool false) [] else bif decide ((63 : Int) < IntKind.wrap IntKind.u8 p) then K (AV.dat T.bool false) [] else K (AV.dat T.bool true) [] := by kernel_rfl
theorem rpermm_0 {R : Type} (K : KV R) (p : Int) : (W 56).run [.dat (.int .u32) p] [] K = bif decide ((63 : Int) < Int.tmod (IntKind.wrap IntKind.i64 (Int.tdiv (IntKind.wrap IntKind.i64 (Int.tdiv (IntKind.wrap IntKind.i64 (Int.tdiv (IntKind.wrap IntKind.i64 p) (256 : Int))) (256 : Int))) (256 : Int))) (256 : Int)) then K (AV.dat T.bool false) [] else bif decide ((63 : Int) < Int.tmod (IntKind.wrap IntKind.i64 (Int.tdiv (IntKind.wrap IntKind.i64 (Int.tdiv (IntKind.wrap IntKind.i64 p) (256 : Int))) (256 : Int))) (256 : Int)) then K (AV.dat T.bool false) [] else bif decide ((63 : Int) < Int.tmod (IntKind.wrap IntKind.i64 (Int.tdiv (IntKind.wrap IntKind.i64 p) (256 : Int))) (256 : Int)) then K (AV.dat T.bool false) [] else bif decide ((63 : Int) < Int.tmod (IntKind.wrap IntKind.i64 p) (256 : Int)) then K (AV.dat T.bool false) [] else K (AV.dat T.bool true) [] := by kernel_rfl
theorem restr_0 {R : Type} (K : KV R) (r : Int) : (W 49).run [.dat I64 r] [] K = bif decide ((0 : Int) ≤ r) then K (AV.dat T.bool (decide (r ≤ (5 : Int)))) [] else K (AV.dat T.bool false) [] := by kernel_rfl
theorem rnames_0 {R : Type} (K : KV R) (o : Int) : (W 51).run [.dat I64 o] [] K = bif decide (o < (0 : Int)) then K (AV.dat T.str (ByteArray.mk #[])) [] else bif decide ((19 : Int) ≤ o) then K (AV.dat T.str (ByteArray.mk #[])) [] else ck ((0 : Int) ≤ o ∧ o < (19 : Int)) (Option.bind [ByteArray.mk #[], ByteArray.mk #[(114 : UInt8), (105 : UInt8), (112 : UInt8)], ByteArray.mk #[(105 : UInt8)], ByteArray.mk #[(114 : UInt8), (105 : UInt8)], ByteArray.mk #[(107 : UInt8)], ByteArray.mk #[(107 : UInt8), (112 : UInt8)], ByteArray.mk #[(107 : UInt8)], ByteArray.mk #[(107 : UInt8), (114 : UInt8)], ByteArray.mk #[(107 : UInt8), (114 : UInt8)], ByteArray.mk #[(107 : UInt8), (114 : UInt8), (116 : UInt8)], ByteArray.mk #[(114 : UInt8)], ByteArray.mk #[(107 : UInt8), (109 : UInt8)], ByteArray.mk #[(107 : UInt8), (117 : UInt8), (103 : UInt8)], ByteArray.mk #[(107 : UInt8), (115 : UInt8)], ByteArray.mk #[(107 : UInt8)], ByteArray.mk #[(107 : UInt8)], ByteArray.mk #[(114 : UInt8), (120 : UInt8)], ByteArray.mk #[(107 : UInt8), (99 : UInt8)], ByteArray.mk #[(100 : UInt8)]][Int.toNat o]? fun x ↦ K (AV.dat T.str x) []) := by kernel_rfl
end Go.Mx
namespace Go.Mx
open Go Go.RowKit Go.Sx Go.Proofs
set_option maxRecDepth 100000
def specB (s : Int) : Bool := decide (-4 ≤ s ∧ s ≤ -1)
def idB (s : Int) : Bool := decide ((1 ≤ s ∧ s ≤ 1073741824) ∨ (-4 ≤ s ∧ s ≤ -1))
def payB (t n : Int) : Bool := decide ((t = 1 ∧ 1 ≤ n ∧ n ≤ 128) ∨ (t = 2 ∧ 1 ≤ n ∧ n ≤ 64) ∨ (t = 3 ∧ 1 ≤ n ∧ n ≤ 256) ∨ (t = 4 ∧ n = 0))
def permB (p : Int) : Bool := decide (p / 16777216 ≤ 63 ∧ p / 65536 % 256 ≤ 63 ∧ p / 256 % 256 ≤ 63 ∧ p % 256 ≤ 63)
def restB (r : Int) : Bool := decide (0 ≤ r ∧ r ≤ 5)
def Fid : Summ := ⟨fun args ob K => match args, ob with
  | [.dat (.int .i64) s], [] => K (.dat .bool (idB s)) []
  | _, _ => none⟩
def Fspec : Summ := ⟨fun args ob K => match args, ob with
  | [.dat (.int .i64) s], [] => K (.dat .bool (specB s)) []
  | _, _ => none⟩
def Fpay : Summ := ⟨fun args ob K => match args, ob with
  | [.dat (.int .i64) t, .dat (.int .i64) n], [] => K (.dat .bool (payB t n)) []
  | _, _ => none⟩
def Fperm : Summ := ⟨fun args ob K => match args, ob with
  | [.dat (.int .u32) p], [] => ck (0 ≤ p ∧ p < 4294967296) (K (.dat .bool (permB p)) [])
  | _, _ => none⟩
def Frest : Summ := ⟨fun args ob K => match args, ob with
  | [.dat (.int .i64) r], [] => K (.dat .bool (restB r)) []
  | _, _ => none⟩
theorem pk {R : Type} (K : KV R) (c a b : Bool) : (bif c then K (AV.dat T.bool a) [] else K (AV.dat T.bool b) []) = K (.dat .bool (bif c then a else b)) [] := by cases c <;> rfl
theorem pkK {R : Type} (K : KV R) {a b : Bool} (h : a = b) : K (.dat .bool a) [] = K (.dat .bool b) [] := by rw [h]
theorem id_run {R : Type} (K : KV R) (s : Int) : (W 45).run [.dat I64 s] [] K = K (.dat .bool (idB s)) [] := by
  refine (id_0 K s).trans ?_
  simp only [pk]
  refine pkK K ?_
  unfold idB
  rw [Bool.eq_iff_iff]
  simp only [Bool.cond_decide, decide_eq_true_eq]
  repeat' split
  all_goals (simp only [decide_eq_true_eq, true_iff, false_iff, reduceCtorEq, Bool.false_eq_true] <;> omega)
theorem rid_run {R : Type} (K : KV R) (s : Int) : (W 52).run [.dat I64 s] [] K = K (.dat .bool (idB s)) [] := by
  refine (rid_0 K s).trans ?_
  simp only [pk]
  refine pkK K ?_
  unfold idB
  rw [Bool.eq_iff_iff]
  simp only [Bool.cond_decide, decide_eq_true_eq]
  repeat' split
  all_goals (simp only [decide_eq_true_eq, true_iff, false_iff, reduceCtorEq, Bool.false_eq_true] <;> omega)
theorem spec_run {R : Type} (K : KV R) (s : Int) : (W 50).run [.dat I64 s] [] K = K (.dat .bool (specB s)) [] := by
  refine (special_0 K s).trans ?_
  simp only [pk]
  refine pkK K ?_
  unfold specB
  rw [Bool.eq_iff_iff]
  simp only [Bool.cond_decide, decide_eq_true_eq]
  repeat' split
  all_goals (simp only [decide_eq_true_eq, true_iff, false_iff, reduceCtorEq, Bool.false_eq_true] <;> omega)
theorem rspec_run {R : Type} (K : KV R) (s : Int) : (W 53).run [.dat I64 s] [] K = K (.dat .bool (specB s)) [] := by
  refine (rspecial_0 K s).trans ?_
  simp only [pk]
  refine pkK K ?_
  unfold specB
  rw [Bool.eq_iff_iff]
  simp only [Bool.cond_decide, decide_eq_true_eq]
  repeat' split
  all_goals (simp only [decide_eq_true_eq, true_iff, false_iff, reduceCtorEq, Bool.false_eq_true] <;> omega)
theorem pay_key {R : Type} (K : KV R) (a b t n : Int) (h : payB t n = decide (a ≤ n ∧ n ≤ b)) : (bif decide (a ≤ n) then K (AV.dat T.bool (decide (n ≤ b))) [] else K (AV.dat T.bool false) []) = K (.dat .bool (payB t n)) [] := by
  rw [h, pk]
  refine pkK K ?_
  rw [Bool.eq_iff_iff]
  simp only [Bool.cond_decide, decide_eq_true_eq]
  repeat' split
  all_goals (simp only [decide_eq_true_eq, true_iff, false_iff, reduceCtorEq, Bool.false_eq_true] <;> omega)
theorem pay_run {R : Type} (K : KV R) (t n : Int) : (W 47).run [.dat I64 t, .dat I64 n] [] K = K (.dat .bool (payB t n)) [] := by
  refine (pay_0 K t n).trans ?_
  by_cases h1 : 0 < t
  · by_cases h2 : t < 5
    · rw [decide_eq_true h1, decide_eq_true h2, ck_pos (by omega)]
      have ht : t = 1 ∨ t = 2 ∨ t = 3 ∨ t = 4 := by omega
      rcases ht with rfl | rfl | rfl | rfl
      · exact pay_key K 1 128 1 n (decide_eq_decide.2 (by omega))
      · exact pay_key K 1 64 2 n (decide_eq_decide.2 (by omega))
      · exact pay_key K 1 256 3 n (decide_eq_decide.2 (by omega))
      · exact pay_key K 0 0 4 n (decide_eq_decide.2 (by omega))
    · have hp : payB t n = false := decide_eq_false (by omega)
      rw [decide_eq_true h1, decide_eq_false h2, hp]; rfl
  · have hp : payB t n = false := decide_eq_false (by omega)
    rw [decide_eq_false h1, hp]; rfl
theorem rpay_run {R : Type} (K : KV R) (t n : Int) : (W 55).run [.dat I64 t, .dat I64 n] [] K = K (.dat .bool (payB t n)) [] := by
  refine (rpay_0 K t n).trans ?_
  simp only [pk]
  refine pkK K ?_
  unfold payB
  rw [Bool.eq_iff_iff]
  simp only [Bool.cond_decide, decide_eq_true_eq]
  repeat' split
  all_goals (simp only [decide_eq_true_eq, true_iff, false_iff, reduceCtorEq, Bool.false_eq_true] <;> omega)
theorem perm_cases {R : Type} (K : KV R) (a b c d p : Int) (h : permB p = decide (a ≤ 63 ∧ b ≤ 63 ∧ c ≤ 63 ∧ d ≤ 63)) : (bif decide (63 < a) then K (AV.dat T.bool false) [] else bif decide (63 < b) then K (AV.dat T.bool false) [] else bif decide (63 < c) then K (AV.dat T.bool false) [] else bif decide (63 < d) then K (AV.dat T.bool false) [] else K (AV.dat T.bool true) []) = K (.dat .bool (permB p)) [] := by
  rw [h]
  simp only [pk]
  refine pkK K ?_
  rw [Bool.eq_iff_iff]
  simp only [Bool.cond_decide, decide_eq_true_eq]
  repeat' split
  all_goals (simp only [decide_eq_true_eq, true_iff, false_iff, reduceCtorEq, Bool.false_eq_true] <;> omega)
theorem perm_run {R : Type} (K : KV R) (p : Int) (hp : 0 ≤ p ∧ p < 4294967296) : (W 48).run [.dat (.int .u32) p] [] K = K (.dat .bool (permB p)) [] := by
  refine (permm_0 K p).trans (perm_cases K _ _ _ _ p ?_)
  have e1 : shr .u32 p 24 = p / 16777216 := rfl
  have e2 : shr .u32 p 16 = p / 65536 := rfl
  have e3 : shr .u32 p 8 = p / 256 := rfl
  unfold permB
  rw [e1, e2, e3]
  simp only [IntKind.wrap_u8]
  rw [show p / 16777216 % 256 = p / 16777216 by omega]
theorem rperm_run {R : Type} (K : KV R) (p : Int) (hp : 0 ≤ p ∧ p < 4294967296) : (W 56).run [.dat (.int .u32) p] [] K = K (.dat .bool (permB p)) [] := by
  refine (rpermm_0 K p).trans (perm_cases K _ _ _ _ p ?_)
  have td : ∀ x : Int, 0 ≤ x → Int.tdiv x 256 = x / 256 := fun x h => Int.tdiv_eq_ediv_of_nonneg h
  have tm : ∀ x : Int, 0 ≤ x → Int.tmod x 256 = x % 256 := fun x h => Int.tmod_eq_emod_of_nonneg h
  rw [wrapS (x := p) (by omega), td p hp.1, wrapS (x := p / 256) (by omega), td (p / 256) (by omega), wrapS (x := p / 256 / 256) (by omega), td (p / 256 / 256) (by omega), wrapS (x := p / 256 / 256 / 256) (by omega)]
  rw [tm _ (by omega), tm _ (by omega), tm _ (by omega), tm _ (by omega)]
  unfold permB
  exact decide_eq_decide.2 (by omega)
theorem rest_run {R : Type} (K : KV R) (r : Int) : (W 49).run [.dat I64 r] [] K = K (.dat .bool (restB r)) [] := by
  refine (restr_0 K r).trans ?_
  simp only [pk]
  refine pkK K ?_
  unfold restB
  rw [Bool.eq_iff_iff]
  simp only [Bool.cond_decide, decide_eq_true_eq]
  repeat' split
  all_goals (simp only [decide_eq_true_eq, true_iff, false_iff, reduceCtorEq, Bool.false_eq_true] <;> omega)
theorem Fid_nat : Fid.Nat := by
  intro R R' f args ob K
  unfold Fid; dsimp only
  split <;> simp only [bd_none]
theorem Fspec_nat : Fspec.Nat := by
  intro R R' f args ob K
  unfold Fspec; dsimp only
  split <;> simp only [bd_none]
theorem Fpay_nat : Fpay.Nat := by
  intro R R' f args ob K
  unfold Fpay; dsimp only
  split <;> simp only [bd_none]
theorem Fperm_nat : Fperm.Nat := by
  intro R R' f args ob K
  unfold Fperm; dsimp only
  split <;> simp only [bd_none, bd_ck]
theorem Frest_nat : Frest.Nat := by
  intro R R' f args ob K
  unfold Frest; dsimp only
  split <;> simp only [bd_none]
theorem id45_ok : SumOk Tryd.prog 45 Fid := by
  refine (W_ok 45).le Fid_nat ?_
  intro R args ob K r h
  unfold Fid at h; dsimp only at h
  split at h
  · rename_i s; exact (id_run K s).trans h
  · cases h
theorem id52_ok : SumOk Tryd.prog 52 Fid := by
  refine (W_ok 52).le Fid_nat ?_
  intro R args ob K r h
  unfold Fid at h; dsimp only at h
  split at h
  · rename_i s; exact (rid_run K s).trans h
  · cases h
theorem spec50_ok : SumOk Tryd.prog 50 Fspec := by
  refine (W_ok 50).le Fspec_nat ?_
  intro R args ob K r h
  unfold Fspec at h; dsimp only at h
  split at h
  · rename_i s; exact (spec_run K s).trans h
  · cases h
theorem spec53_ok : SumOk Tryd.prog 53 Fspec := by
  refine (W_ok 53).le Fspec_nat ?_
  intro R args ob K r h
  unfold Fspec at h; dsimp only at h
  split at h
  · rename_i s; exact (rspec_run K s).trans h
  · cases h
theorem pay47_ok : SumOk Tryd.prog 47 Fpay := by
  refine (W_ok 47).le Fpay_nat ?_
  intro R args ob K r h
  unfold Fpay at h; dsimp only at h
  split at h
  · rename_i t n; exact (pay_run K t n).trans h
  · cases h
theorem pay55_ok : SumOk Tryd.prog 55 Fpay := by
  refine (W_ok 55).le Fpay_nat ?_
  intro R args ob K r h
  unfold Fpay at h; dsimp only at h
  split at h
  · rename_i t n; exact (rpay_run K t n).trans h
  · cases h
theorem perm48_ok : SumOk Tryd.prog 48 Fperm := by
  refine (W_ok 48).le Fperm_nat ?_
  intro R args ob K r h
  unfold Fperm at h; dsimp only at h
  split at h
  · rename_i p; obtain ⟨hp, h2⟩ := ck_elim h; exact (perm_run K p hp).trans h2
  · cases h
theorem perm56_ok : SumOk Tryd.prog 56 Fperm := by
  refine (W_ok 56).le Fperm_nat ?_
  intro R args ob K r h
  unfold Fperm at h; dsimp only at h
  split at h
  · rename_i p; obtain ⟨hp, h2⟩ := ck_elim h; exact (rperm_run K p hp).trans h2
  · cases h
theorem rest49_ok : SumOk Tryd.prog 49 Frest := by
  refine (W_ok 49).le Frest_nat ?_
  intro R args ob K r h
  unfold Frest at h; dsimp only at h
  split at h
  · rename_i s; exact (rest_run K s).trans h
  · cases h
def G21c : Sums := sums all [(44, F44), (45, Fid), (46, Fmay), (47, Fpay), (48, Fperm), (49, Frest), (50, Fspec)]
theorem mayc_0 {R : Type} (K : KV R) (c : CV) : (codeX Tryd.prog G21c lvN 0 Tryd.f21).run [.dat CT c] [] K = bif decide ((256 : Int) < (↑(ByteArray.size c.2.2.2.2.2.1) : Int)) then K (AV.dat T.bool false) [] else bif decide ((32 : Int) < (↑(ByteArray.size c.2.2.2.2.1.2) : Int)) then K (AV.dat T.bool false) [] else ck (smallC c) (bif !(decide ((namedM c).1 = c.1) && (decide ((namedM c).2.1 = c.2.1) && (decide ((namedM c).2.2.1 = c.2.2.1) && (decide ((namedM c).2.2.2.1 = c.2.2.2.1) && (decide ((namedM c).2.2.2.2.1.1 = c.2.2.2.2.1.1) && decide ((namedM c).2.2.2.2.1.2 = c.2.2.2.2.1.2) && (decide ((namedM c).2.2.2.2.2.1 = c.2.2.2.2.2.1) && (decide ((namedM c).2.2.2.2.2.2.1 = c.2.2.2.2.2.2.1) && (decide ((namedM c).2.2.2.2.2.2.2.1 = c.2.2.2.2.2.2.2.1) && (decide ((namedM c).2.2.2.2.2.2.2.2.1 = c.2.2.2.2.2.2.2.2.1) && (decide ((namedM c).2.2.2.2.2.2.2.2.2.1 = c.2.2.2.2.2.2.2.2.2.1) && (decide ((namedM c).2.2.2.2.2.2.2.2.2.2.1 = c.2.2.2.2.2.2.2.2.2.2.1) && (namedM c).2.2.2.2.2.2.2.2.2.2.2 == c.2.2.2.2.2.2.2.2.2.2.2))))))))))) then K (AV.dat T.bool false) [] else bif decide (c.1 = (1 : Int)) then bif idB c.2.2.1 then bif mayV c.2.2.2.2.1 then K (AV.dat T.bool (payB c.2.2.2.2.1.1 (↑(ByteArray.size c.2.2.2.2.2.1) : Int))) [] else K (AV.dat T.bool false) [] else K (AV.dat T.bool false) [] else bif decide (c.1 = (2 : Int)) then K (AV.dat T.bool (mayV c.2.2.2.2.1)) [] else bif decide (c.1 = (18 : Int)) then K (AV.dat T.bool (mayV c.2.2.2.2.1)) [] else bif decide (c.1 = (3 : Int)) then bif idB c.2.2.1 then K (AV.dat T.bool (mayV c.2.2.2.2.1)) [] else K (AV.dat T.bool false) [] else bif decide (c.1 = (4 : Int)) then K (AV.dat T.bool (idB c.2.1)) [] else bif decide (c.1 = (6 : Int)) then K (AV.dat T.bool (idB c.2.1)) [] else bif decide (c.1 = (14 : Int)) then K (AV.dat T.bool (idB c.2.1)) [] else bif decide (c.1 = (15 : Int)) then K (AV.dat T.bool (idB c.2.1)) [] else bif decide (c.1 = (5 : Int)) then bif idB c.2.1 then K (AV.dat T.bool (decide ((0 : Int) < (↑(ByteArray.size c.2.2.2.2.2.1) : Int)))) [] else K (AV.dat T.bool false) [] else bif decide (c.1 = (7 : Int)) then bif idB c.2.1 then K (AV.dat T.bool (idB c.2.2.1)) [] else K (AV.dat T.bool false) [] else bif decide (c.1 = (8 : Int)) then bif idB c.2.1 then K (AV.dat T.bool (idB c.2.2.1)) [] else K (AV.dat T.bool false) [] else bif decide (c.1 = (9 : Int)) then bif idB c.2.1 then bif idB c.2.2.1 then K (AV.dat T.bool (idB c.2.2.2.1)) [] else K (AV.dat T.bool false) [] else K (AV.dat T.bool false) [] else bif decide (c.1 = (10 : Int)) then K (AV.dat T.bool (idB c.2.2.1)) [] else bif decide (c.1 = (11 : Int)) then bif idB c.2.1 then ck ((0 : Int) ≤ c.2.2.2.2.2.2.1 ∧ c.2.2.2.2.2.2.1 < (4294967296 : Int)) (K (AV.dat T.bool (permB c.2.2.2.2.2.2.1)) []) else K (AV.dat T.bool false) [] else bif decide (c.1 = (12 : Int)) then bif idB c.2.1 then bif decide (c.2.2.2.2.2.2.2.1 ≤ (15 : Int)) then K (AV.dat T.bool (decide (c.2.2.2.2.2.2.2.2.1 ≤ (15 : Int)))) [] else K (AV.dat T.bool false) [] else K (AV.dat T.bool false) [] else bif decide (c.1 = (13 : Int)) then bif idB c.2.1 then K (AV.dat T.bool (decide (c.2.2.2.2.2.2.2.2.2.1 ≤ (549755813888 : Int)))) [] else K (AV.dat T.bool false) [] else bif decide (c.1 = (16 : Int)) then bif idB c.2.2.1 then bif restB c.2.2.2.2.2.2.2.2.2.2.1 then K (AV.dat T.bool !decide (c.2.2.2.2.2.2.2.2.2.2.1 = (0 : Int))) [] else K (AV.dat T.bool false) [] else K (AV.dat T.bool false) [] else bif decide (c.1 = (17 : Int)) then K (AV.dat T.bool (specB c.2.1)) [] else K (AV.dat T.bool false) []) := by kernel_rfl
end Go.Mx
namespace Go.Mx
open Go Go.RowKit Go.Sx Go.Proofs
set_option maxRecDepth 100000
def eqC (a b : CV) : Bool := (decide (a.1 = b.1) && (decide (a.2.1 = b.2.1) && (decide (a.2.2.1 = b.2.2.1) && (decide (a.2.2.2.1 = b.2.2.2.1) && (decide (a.2.2.2.2.1.1 = b.2.2.2.2.1.1) && decide (a.2.2.2.2.1.2 = b.2.2.2.2.1.2) && (decide (a.2.2.2.2.2.1 = b.2.2.2.2.2.1) && (decide (a.2.2.2.2.2.2.1 = b.2.2.2.2.2.2.1) && (decide (a.2.2.2.2.2.2.2.1 = b.2.2.2.2.2.2.2.1) && (decide (a.2.2.2.2.2.2.2.2.1 = b.2.2.2.2.2.2.2.2.1) && (decide (a.2.2.2.2.2.2.2.2.2.1 = b.2.2.2.2.2.2.2.2.2.1) && (decide (a.2.2.2.2.2.2.2.2.2.2.1 = b.2.2.2.2.2.2.2.2.2.2.1) && a.2.2.2.2.2.2.2.2.2.2.2 == b.2.2.2.2.2.2.2.2.2.2.2)))))))))))
theorem eqC_iff (a b : CV) : eqC a b = true ↔ a = b := by
  obtain ⟨a1, a2, a3, a4, ⟨a5, a6⟩, a7, a8, a9, a10, a11, a12, a13⟩ := a
  obtain ⟨b1, b2, b3, b4, ⟨b5, b6⟩, b7, b8, b9, b10, b11, b12, b13⟩ := b
  unfold eqC
  simp only [Bool.and_eq_true, decide_eq_true_eq, beq_iff_eq, Prod.mk.injEq, and_assoc]
def leB (a b : Int) : Bool := decide (a ≤ b)
def ltB (a b : Int) : Bool := decide (a < b)
def eqI (a b : Int) : Bool := decide (a = b)
def swM (c : CV) : Bool := bif (eqI c.1 ((1 : Int))) then bif idB c.2.2.1 then bif mayV c.2.2.2.2.1 then (payB c.2.2.2.2.1.1 (↑(ByteArray.size c.2.2.2.2.2.1) : Int)) else false else false else bif (eqI c.1 ((2 : Int))) then (mayV c.2.2.2.2.1) else bif (eqI c.1 ((18 : Int))) then (mayV c.2.2.2.2.1) else bif (eqI c.1 ((3 : Int))) then bif idB c.2.2.1 then (mayV c.2.2.2.2.1) else false else bif (eqI c.1 ((4 : Int))) then (idB c.2.1) else bif (eqI c.1 ((6 : Int))) then (idB c.2.1) else bif (eqI c.1 ((14 : Int))) then (idB c.2.1) else bif (eqI c.1 ((15 : Int))) then (idB c.2.1) else bif (eqI c.1 ((5 : Int))) then bif idB c.2.1 then ((ltB ((0 : Int)) ((↑(ByteArray.size c.2.2.2.2.2.1) : Int)))) else false else bif (eqI c.1 ((7 : Int))) then bif idB c.2.1 then (idB c.2.2.1) else false else bif (eqI c.1 ((8 : Int))) then bif idB c.2.1 then (idB c.2.2.1) else false else bif (eqI c.1 ((9 : Int))) then bif idB c.2.1 then bif idB c.2.2.1 then (idB c.2.2.2.1) else false else false else bif (eqI c.1 ((10 : Int))) then (idB c.2.2.1) else bif (eqI c.1 ((11 : Int))) then bif idB c.2.1 then ((permB c.2.2.2.2.2.2.1)) else false else bif (eqI c.1 ((12 : Int))) then bif idB c.2.1 then bif (leB c.2.2.2.2.2.2.2.1 ((15 : Int))) then ((leB c.2.2.2.2.2.2.2.2.1 ((15 : Int)))) else false else false else bif (eqI c.1 ((13 : Int))) then bif idB c.2.1 then ((leB c.2.2.2.2.2.2.2.2.2.1 ((549755813888 : Int)))) else false else bif (eqI c.1 ((16 : Int))) then bif idB c.2.2.1 then bif restB c.2.2.2.2.2.2.2.2.2.2.1 then !(eqI c.2.2.2.2.2.2.2.2.2.2.1 ((0 : Int))) else false else false else bif (eqI c.1 ((17 : Int))) then (specB c.2.1) else false
def mayM (c : CV) : Bool := bif decide (256 < ((ByteArray.size c.2.2.2.2.2.1 : Nat) : Int)) then false else bif decide (32 < ((ByteArray.size c.2.2.2.2.1.2 : Nat) : Int)) then false else bif !(eqC (namedM c) c) then false else swM c
def okPerm (c : CV) : Prop := 0 ≤ Prod.fst (Prod.snd (Prod.snd (Prod.snd (Prod.snd (Prod.snd (Prod.snd c)))))) ∧ Prod.fst (Prod.snd (Prod.snd (Prod.snd (Prod.snd (Prod.snd (Prod.snd c)))))) < (4294967296 : Int)
instance (c : CV) : Decidable (okPerm c) := inferInstanceAs (Decidable (_ ∧ _))
theorem mayc_run {R : Type} (K : KV R) (c : CV) (hp : okPerm c) : (codeX Tryd.prog G21c lvN 0 Tryd.f21).run [.dat CT c] [] K = K (.dat .bool (mayM c)) [] := by
  refine (mayc_0 K c).trans ?_
  unfold mayM
  cases h1 : decide ((256 : Int) < ((ByteArray.size c.2.2.2.2.2.1 : Nat) : Int)) with
  | true => rfl
  | false =>
    cases h2 : decide ((32 : Int) < ((ByteArray.size c.2.2.2.2.1.2 : Nat) : Int)) with
    | true => rfl
    | false =>
      have g1 := of_decide_eq_false h1
      have g2 := of_decide_eq_false h2
      have hs : smallC c := ⟨by omega, by omega⟩
      rw [cond_false, cond_false, cond_false, cond_false, ck_pos hs]
      change (bif !eqC (namedM c) c then K (AV.dat T.bool false) [] else _) = _
      cases eqC (namedM c) c with
      | false => rfl
      | true =>
        rw [Bool.not_true, cond_false, cond_false, ck_pos (show (0 : Int) ≤ Prod.fst (Prod.snd (Prod.snd (Prod.snd (Prod.snd (Prod.snd (Prod.snd c)))))) ∧ Prod.fst (Prod.snd (Prod.snd (Prod.snd (Prod.snd (Prod.snd (Prod.snd c)))))) < (4294967296 : Int) from hp)]
        simp only [pk]
        rfl
def F21f : Summ := ⟨fun args ob K => match args, ob with
  | [.dat t v], [] => (asD CT (.dat t v)).bind fun c => ck (okPerm c) (K (.dat .bool (mayM c)) [])
  | _, _ => none⟩
theorem al21c : AllOk Tryd.prog [(44, F44), (45, Fid), (46, Fmay), (47, Fpay), (48, Fperm), (49, Frest), (50, Fspec)] := ⟨F44_ok, id45_ok, Fmay46_ok, pay47_ok, perm48_ok, rest49_ok, spec50_ok, trivial⟩
theorem F21f_ok : SumOk Tryd.prog 21 F21f := by
  have h : SumOk Tryd.prog 21 (codeX Tryd.prog G21c lvN 0 Tryd.f21) := codeX_ok (Γ := G21c) (k := 0) (lv := lvN) mixed noNG_prog (sums_call (Wr := all) al21c) (sums_prim al21c) (fn := Tryd.f21) rfl
  refine ⟨?_, ?_⟩
  · intro R R' f args ob K
    unfold F21f; dsimp only
    split <;> simp only [bd_bind, bd_ck, bd_none]
  · intro R args ob K r hK W ρ w us hr ha
    unfold F21f at hK; dsimp only at hK
    split at hK
    · rename_i t v
      obtain ⟨c, hc, h1⟩ := bind_elim hK
      obtain ⟨hp, h2⟩ := ck_elim h1
      have e := asD_ok hc
      rw [e] at ha
      exact h.2 _ [] K r ((mayc_run K c hp).trans h2) W ρ w us hr ha
    · cases hK
end Go.Mx
namespace Go.Mx
open Go Go.RowKit Go.Sx Go.Proofs
set_option maxRecDepth 100000
noncomputable def G22c : Sums := sums all [(51, W 51), (52, Fid), (53, Fspec), (54, Fmay), (55, Fpay), (56, Fperm)]
def lv22c : Tl := ⟨fun q => match q with | 0 => some [1, 3, 4, 5] | _ => none, []⟩
theorem rmc_1 {R : Type} (K : KV R) (c : CR0) : (codeX Tryd.prog G22c lv22c 8 Tryd.f22).run [.dat CT ((1 : Int), c)] [] K = bif !idB c.2.1 then K (AV.dat T.bool false) [] else bif !mayV c.2.2.2.1 then K (AV.dat T.bool false) [] else bif decide ((256 : Int) < (↑(ByteArray.size c.2.2.2.2.1) : Int)) then K (AV.dat T.bool false) [] else bif !payB c.2.2.2.1.1 (↑(ByteArray.size c.2.2.2.2.1) : Int) then K (AV.dat T.bool false) [] else K (AV.dat T.bool (decide ((0 : Int) = (0 : Int)) && (decide (c.1 = (0 : Int)) && (decide ((0 : Int) = (0 : Int)) && (decide (c.2.2.1 = (0 : Int)) && (decide ((0 : Int) = (0 : Int)) && decide (ByteArray.mk #[] = ByteArray.mk #[]) && (decide (ByteArray.mk #[] = ByteArray.mk #[]) && (decide (c.2.2.2.2.2.1 = (0 : Int)) && (decide (c.2.2.2.2.2.2.1 = (0 : Int)) && (decide (c.2.2.2.2.2.2.2.1 = (0 : Int)) && (decide (c.2.2.2.2.2.2.2.2.1 = (0 : Int)) && (decide (c.2.2.2.2.2.2.2.2.2.1 = (0 : Int)) && c.2.2.2.2.2.2.2.2.2.2 == false)))))))))))) [] := by kernel_rfl
theorem rmc_2 {R : Type} (K : KV R) (c : CR0) : (codeX Tryd.prog G22c lv22c 8 Tryd.f22).run [.dat CT ((2 : Int), c)] [] K = bif !mayV c.2.2.2.1 then K (AV.dat T.bool false) [] else K (AV.dat T.bool (decide ((0 : Int) = (0 : Int)) && (decide (c.1 = (0 : Int)) && (decide (c.2.1 = (0 : Int)) && (decide (c.2.2.1 = (0 : Int)) && (decide ((0 : Int) = (0 : Int)) && decide (ByteArray.mk #[] = ByteArray.mk #[]) && (decide (c.2.2.2.2.1 = ByteArray.mk #[]) && (decide (c.2.2.2.2.2.1 = (0 : Int)) && (decide (c.2.2.2.2.2.2.1 = (0 : Int)) && (decide (c.2.2.2.2.2.2.2.1 = (0 : Int)) && (decide (c.2.2.2.2.2.2.2.2.1 = (0 : Int)) && (decide (c.2.2.2.2.2.2.2.2.2.1 = (0 : Int)) && c.2.2.2.2.2.2.2.2.2.2 == false)))))))))))) [] := by kernel_rfl
theorem rmc_3 {R : Type} (K : KV R) (c : CR0) : (codeX Tryd.prog G22c lv22c 8 Tryd.f22).run [.dat CT ((3 : Int), c)] [] K = bif !idB c.2.1 then K (AV.dat T.bool false) [] else bif !mayV c.2.2.2.1 then K (AV.dat T.bool false) [] else K (AV.dat T.bool (decide ((0 : Int) = (0 : Int)) && (decide (c.1 = (0 : Int)) && (decide ((0 : Int) = (0 : Int)) && (decide (c.2.2.1 = (0 : Int)) && (decide ((0 : Int) = (0 : Int)) && decide (ByteArray.mk #[] = ByteArray.mk #[]) && (decide (c.2.2.2.2.1 = ByteArray.mk #[]) && (decide (c.2.2.2.2.2.1 = (0 : Int)) && (decide (c.2.2.2.2.2.2.1 = (0 : Int)) && (decide (c.2.2.2.2.2.2.2.1 = (0 : Int)) && (decide (c.2.2.2.2.2.2.2.2.1 = (0 : Int)) && (decide (c.2.2.2.2.2.2.2.2.2.1 = (0 : Int)) && c.2.2.2.2.2.2.2.2.2.2 == false)))))))))))) [] := by kernel_rfl
theorem rmc_4 {R : Type} (K : KV R) (c : CR0) : (codeX Tryd.prog G22c lv22c 8 Tryd.f22).run [.dat CT ((4 : Int), c)] [] K = bif !idB c.1 then K (AV.dat T.bool false) [] else K (AV.dat T.bool (decide ((0 : Int) = (0 : Int)) && (decide ((0 : Int) = (0 : Int)) && (decide (c.2.1 = (0 : Int)) && (decide (c.2.2.1 = (0 : Int)) && (decide (c.2.2.2.1.1 = (0 : Int)) && decide (c.2.2.2.1.2 = ByteArray.mk #[]) && (decide (c.2.2.2.2.1 = ByteArray.mk #[]) && (decide (c.2.2.2.2.2.1 = (0 : Int)) && (decide (c.2.2.2.2.2.2.1 = (0 : Int)) && (decide (c.2.2.2.2.2.2.2.1 = (0 : Int)) && (decide (c.2.2.2.2.2.2.2.2.1 = (0 : Int)) && (decide (c.2.2.2.2.2.2.2.2.2.1 = (0 : Int)) && c.2.2.2.2.2.2.2.2.2.2 == false)))))))))))) [] := by kernel_rfl
theorem rmc_5 {R : Type} (K : KV R) (c : CR0) : (codeX Tryd.prog G22c lv22c 8 Tryd.f22).run [.dat CT ((5 : Int), c)] [] K = bif !idB c.1 then K (AV.dat T.bool false) [] else bif decide ((256 : Int) < (↑(ByteArray.size c.2.2.2.2.1) : Int)) then K (AV.dat T.bool false) [] else bif decide ((↑(ByteArray.size c.2.2.2.2.1) : Int) = (0 : Int)) then K (AV.dat T.bool false) [] else K (AV.dat T.bool (decide ((0 : Int) = (0 : Int)) && (decide ((0 : Int) = (0 : Int)) && (decide (c.2.1 = (0 : Int)) && (decide (c.2.2.1 = (0 : Int)) && (decide (c.2.2.2.1.1 = (0 : Int)) && decide (c.2.2.2.1.2 = ByteArray.mk #[]) && (decide (ByteArray.mk #[] = ByteArray.mk #[]) && (decide (c.2.2.2.2.2.1 = (0 : Int)) && (decide (c.2.2.2.2.2.2.1 = (0 : Int)) && (decide (c.2.2.2.2.2.2.2.1 = (0 : Int)) && (decide (c.2.2.2.2.2.2.2.2.1 = (0 : Int)) && (decide (c.2.2.2.2.2.2.2.2.2.1 = (0 : Int)) && c.2.2.2.2.2.2.2.2.2.2 == false)))))))))))) [] := by kernel_rfl
theorem rmc_6 {R : Type} (K : KV R) (c : CR0) : (codeX Tryd.prog G22c lv22c 8 Tryd.f22).run [.dat CT ((6 : Int), c)] [] K = bif !idB c.1 then K (AV.dat T.bool false) [] else K (AV.dat T.bool (decide ((0 : Int) = (0 : Int)) && (decide ((0 : Int) = (0 : Int)) && (decide (c.2.1 = (0 : Int)) && (decide (c.2.2.1 = (0 : Int)) && (decide (c.2.2.2.1.1 = (0 : Int)) && decide (c.2.2.2.1.2 = ByteArray.mk #[]) && (decide (c.2.2.2.2.1 = ByteArray.mk #[]) && (decide (c.2.2.2.2.2.1 = (0 : Int)) && (decide (c.2.2.2.2.2.2.1 = (0 : Int)) && (decide (c.2.2.2.2.2.2.2.1 = (0 : Int)) && (decide (c.2.2.2.2.2.2.2.2.1 = (0 : Int)) && (decide (c.2.2.2.2.2.2.2.2.2.1 = (0 : Int)) && c.2.2.2.2.2.2.2.2.2.2 == false)))))))))))) [] := by kernel_rfl
theorem rmc_7 {R : Type} (K : KV R) (c : CR0) : (codeX Tryd.prog G22c lv22c 8 Tryd.f22).run [.dat CT ((7 : Int), c)] [] K = bif !idB c.1 then K (AV.dat T.bool false) [] else bif !idB c.2.1 then K (AV.dat T.bool false) [] else K (AV.dat T.bool (decide ((0 : Int) = (0 : Int)) && (decide ((0 : Int) = (0 : Int)) && (decide ((0 : Int) = (0 : Int)) && (decide (c.2.2.1 = (0 : Int)) && (decide (c.2.2.2.1.1 = (0 : Int)) && decide (c.2.2.2.1.2 = ByteArray.mk #[]) && (decide (c.2.2.2.2.1 = ByteArray.mk #[]) && (decide (c.2.2.2.2.2.1 = (0 : Int)) && (decide (c.2.2.2.2.2.2.1 = (0 : Int)) && (decide (c.2.2.2.2.2.2.2.1 = (0 : Int)) && (decide (c.2.2.2.2.2.2.2.2.1 = (0 : Int)) && (decide (c.2.2.2.2.2.2.2.2.2.1 = (0 : Int)) && c.2.2.2.2.2.2.2.2.2.2 == false)))))))))))) [] := by kernel_rfl
theorem rmc_8 {R : Type} (K : KV R) (c : CR0) : (codeX Tryd.prog G22c lv22c 8 Tryd.f22).run [.dat CT ((8 : Int), c)] [] K = bif !idB c.1 then K (AV.dat T.bool false) [] else bif !idB c.2.1 then K (AV.dat T.bool false) [] else K (AV.dat T.bool (decide ((0 : Int) = (0 : Int)) && (decide ((0 : Int) = (0 : Int)) && (decide ((0 : Int) = (0 : Int)) && (decide (c.2.2.1 = (0 : Int)) && (decide (c.2.2.2.1.1 = (0 : Int)) && decide (c.2.2.2.1.2 = ByteArray.mk #[]) && (decide (c.2.2.2.2.1 = ByteArray.mk #[]) && (decide (c.2.2.2.2.2.1 = (0 : Int)) && (decide (c.2.2.2.2.2.2.1 = (0 : Int)) && (decide (c.2.2.2.2.2.2.2.1 = (0 : Int)) && (decide (c.2.2.2.2.2.2.2.2.1 = (0 : Int)) && (decide (c.2.2.2.2.2.2.2.2.2.1 = (0 : Int)) && c.2.2.2.2.2.2.2.2.2.2 == false)))))))))))) [] := by kernel_rfl
theorem rmc_9 {R : Type} (K : KV R) (c : CR0) : (codeX Tryd.prog G22c lv22c 8 Tryd.f22).run [.dat CT ((9 : Int), c)] [] K = bif !idB c.1 then K (AV.dat T.bool false) [] else bif !idB c.2.1 then K (AV.dat T.bool false) [] else bif !idB c.2.2.1 then K (AV.dat T.bool false) [] else K (AV.dat T.bool (decide ((0 : Int) = (0 : Int)) && (decide ((0 : Int) = (0 : Int)) && (decide ((0 : Int) = (0 : Int)) && (decide ((0 : Int) = (0 : Int)) && (decide (c.2.2.2.1.1 = (0 : Int)) && decide (c.2.2.2.1.2 = ByteArray.mk #[]) && (decide (c.2.2.2.2.1 = ByteArray.mk #[]) && (decide (c.2.2.2.2.2.1 = (0 : Int)) && (decide (c.2.2.2.2.2.2.1 = (0 : Int)) && (decide (c.2.2.2.2.2.2.2.1 = (0 : Int)) && (decide (c.2.2.2.2.2.2.2.2.1 = (0 : Int)) && (decide (c.2.2.2.2.2.2.2.2.2.1 = (0 : Int)) && c.2.2.2.2.2.2.2.2.2.2 == false)))))))))))) [] := by kernel_rfl
theorem rmc_10 {R : Type} (K : KV R) (c : CR0) : (codeX Tryd.prog G22c lv22c 8 Tryd.f22).run [.dat CT ((10 : Int), c)] [] K = bif !idB c.2.1 then K (AV.dat T.bool false) [] else K (AV.dat T.bool (decide ((0 : Int) = (0 : Int)) && (decide (c.1 = (0 : Int)) && (decide ((0 : Int) = (0 : Int)) && (decide (c.2.2.1 = (0 : Int)) && (decide (c.2.2.2.1.1 = (0 : Int)) && decide (c.2.2.2.1.2 = ByteArray.mk #[]) && (decide (c.2.2.2.2.1 = ByteArray.mk #[]) && (decide (c.2.2.2.2.2.1 = (0 : Int)) && (decide (c.2.2.2.2.2.2.1 = (0 : Int)) && (decide (c.2.2.2.2.2.2.2.1 = (0 : Int)) && (decide (c.2.2.2.2.2.2.2.2.1 = (0 : Int)) && (decide (c.2.2.2.2.2.2.2.2.2.1 = (0 : Int)) && c.2.2.2.2.2.2.2.2.2.2 == false)))))))))))) [] := by kernel_rfl
theorem rmc_11 {R : Type} (K : KV R) (c : CR0) : (codeX Tryd.prog G22c lv22c 8 Tryd.f22).run [.dat CT ((11 : Int), c)] [] K = bif !idB c.1 then K (AV.dat T.bool false) [] else ck ((0 : Int) ≤ c.2.2.2.2.2.1 ∧ c.2.2.2.2.2.1 < (4294967296 : Int)) (bif !permB c.2.2.2.2.2.1 then K (AV.dat T.bool false) [] else K (AV.dat T.bool (decide ((0 : Int) = (0 : Int)) && (decide ((0 : Int) = (0 : Int)) && (decide (c.2.1 = (0 : Int)) && (decide (c.2.2.1 = (0 : Int)) && (decide (c.2.2.2.1.1 = (0 : Int)) && decide (c.2.2.2.1.2 = ByteArray.mk #[]) && (decide (c.2.2.2.2.1 = ByteArray.mk #[]) && (decide ((0 : Int) = (0 : Int)) && (decide (c.2.2.2.2.2.2.1 = (0 : Int)) && (decide (c.2.2.2.2.2.2.2.1 = (0 : Int)) && (decide (c.2.2.2.2.2.2.2.2.1 = (0 : Int)) && (decide (c.2.2.2.2.2.2.2.2.2.1 = (0 : Int)) && c.2.2.2.2.2.2.2.2.2.2 == false)))))))))))) []) := by kernel_rfl
theorem rmc_12 {R : Type} (K : KV R) (c : CR0) : (codeX Tryd.prog G22c lv22c 8 Tryd.f22).run [.dat CT ((12 : Int), c)] [] K = bif !idB c.1 then K (AV.dat T.bool false) [] else bif decide (c.2.2.2.2.2.2.1 < (0 : Int)) then K (AV.dat T.bool false) [] else bif decide ((15 : Int) < c.2.2.2.2.2.2.1) then K (AV.dat T.bool false) [] else bif decide (c.2.2.2.2.2.2.2.1 < (0 : Int)) then K (AV.dat T.bool false) [] else bif decide ((15 : Int) < c.2.2.2.2.2.2.2.1) then K (AV.dat T.bool false) [] else K (AV.dat T.bool (decide ((0 : Int) = (0 : Int)) && (decide ((0 : Int) = (0 : Int)) && (decide (c.2.1 = (0 : Int)) && (decide (c.2.2.1 = (0 : Int)) && (decide (c.2.2.2.1.1 = (0 : Int)) && decide (c.2.2.2.1.2 = ByteArray.mk #[]) && (decide (c.2.2.2.2.1 = ByteArray.mk #[]) && (decide (c.2.2.2.2.2.1 = (0 : Int)) && (decide ((0 : Int) = (0 : Int)) && (decide ((0 : Int) = (0 : Int)) && (decide (c.2.2.2.2.2.2.2.2.1 = (0 : Int)) && (decide (c.2.2.2.2.2.2.2.2.2.1 = (0 : Int)) && c.2.2.2.2.2.2.2.2.2.2 == false)))))))))))) [] := by kernel_rfl
theorem rmc_13 {R : Type} (K : KV R) (c : CR0) : (codeX Tryd.prog G22c lv22c 8 Tryd.f22).run [.dat CT ((13 : Int), c)] [] K = bif !idB c.1 then K (AV.dat T.bool false) [] else bif decide ((549755813888 : Int) < c.2.2.2.2.2.2.2.2.1) then K (AV.dat T.bool false) [] else K (AV.dat T.bool (decide ((0 : Int) = (0 : Int)) && (decide ((0 : Int) = (0 : Int)) && (decide (c.2.1 = (0 : Int)) && (decide (c.2.2.1 = (0 : Int)) && (decide (c.2.2.2.1.1 = (0 : Int)) && decide (c.2.2.2.1.2 = ByteArray.mk #[]) && (decide (c.2.2.2.2.1 = ByteArray.mk #[]) && (decide (c.2.2.2.2.2.1 = (0 : Int)) && (decide (c.2.2.2.2.2.2.1 = (0 : Int)) && (decide (c.2.2.2.2.2.2.2.1 = (0 : Int)) && (decide ((0 : Int) = (0 : Int)) && (decide (c.2.2.2.2.2.2.2.2.2.1 = (0 : Int)) && c.2.2.2.2.2.2.2.2.2.2 == false)))))))))))) [] := by kernel_rfl
theorem rmc_14 {R : Type} (K : KV R) (c : CR0) : (codeX Tryd.prog G22c lv22c 8 Tryd.f22).run [.dat CT ((14 : Int), c)] [] K = bif !idB c.1 then K (AV.dat T.bool false) [] else K (AV.dat T.bool (decide ((0 : Int) = (0 : Int)) && (decide ((0 : Int) = (0 : Int)) && (decide (c.2.1 = (0 : Int)) && (decide (c.2.2.1 = (0 : Int)) && (decide (c.2.2.2.1.1 = (0 : Int)) && decide (c.2.2.2.1.2 = ByteArray.mk #[]) && (decide (c.2.2.2.2.1 = ByteArray.mk #[]) && (decide (c.2.2.2.2.2.1 = (0 : Int)) && (decide (c.2.2.2.2.2.2.1 = (0 : Int)) && (decide (c.2.2.2.2.2.2.2.1 = (0 : Int)) && (decide (c.2.2.2.2.2.2.2.2.1 = (0 : Int)) && (decide (c.2.2.2.2.2.2.2.2.2.1 = (0 : Int)) && c.2.2.2.2.2.2.2.2.2.2 == false)))))))))))) [] := by kernel_rfl
theorem rmc_15 {R : Type} (K : KV R) (c : CR0) : (codeX Tryd.prog G22c lv22c 8 Tryd.f22).run [.dat CT ((15 : Int), c)] [] K = bif !idB c.1 then K (AV.dat T.bool false) [] else K (AV.dat T.bool (decide ((0 : Int) = (0 : Int)) && (decide ((0 : Int) = (0 : Int)) && (decide (c.2.1 = (0 : Int)) && (decide (c.2.2.1 = (0 : Int)) && (decide (c.2.2.2.1.1 = (0 : Int)) && decide (c.2.2.2.1.2 = ByteArray.mk #[]) && (decide (c.2.2.2.2.1 = ByteArray.mk #[]) && (decide (c.2.2.2.2.2.1 = (0 : Int)) && (decide (c.2.2.2.2.2.2.1 = (0 : Int)) && (decide (c.2.2.2.2.2.2.2.1 = (0 : Int)) && (decide (c.2.2.2.2.2.2.2.2.1 = (0 : Int)) && (decide (c.2.2.2.2.2.2.2.2.2.1 = (0 : Int)) && c.2.2.2.2.2.2.2.2.2.2 == false)))))))))))) [] := by kernel_rfl
theorem rmc_16 {R : Type} (K : KV R) (c : CR0) : (codeX Tryd.prog G22c lv22c 8 Tryd.f22).run [.dat CT ((16 : Int), c)] [] K = bif !idB c.2.1 then K (AV.dat T.bool false) [] else bif decide (c.2.2.2.2.2.2.2.2.2.1 < (1 : Int)) then K (AV.dat T.bool false) [] else bif decide ((5 : Int) < c.2.2.2.2.2.2.2.2.2.1) then K (AV.dat T.bool false) [] else K (AV.dat T.bool (decide ((0 : Int) = (0 : Int)) && (decide (c.1 = (0 : Int)) && (decide ((0 : Int) = (0 : Int)) && (decide (c.2.2.1 = (0 : Int)) && (decide (c.2.2.2.1.1 = (0 : Int)) && decide (c.2.2.2.1.2 = ByteArray.mk #[]) && (decide (c.2.2.2.2.1 = ByteArray.mk #[]) && (decide (c.2.2.2.2.2.1 = (0 : Int)) && (decide (c.2.2.2.2.2.2.1 = (0 : Int)) && (decide (c.2.2.2.2.2.2.2.1 = (0 : Int)) && (decide (c.2.2.2.2.2.2.2.2.1 = (0 : Int)) && (decide ((0 : Int) = (0 : Int)) && c.2.2.2.2.2.2.2.2.2.2 == false)))))))))))) [] := by kernel_rfl
theorem rmc_17 {R : Type} (K : KV R) (c : CR0) : (codeX Tryd.prog G22c lv22c 8 Tryd.f22).run [.dat CT ((17 : Int), c)] [] K = bif !idB c.1 then K (AV.dat T.bool false) [] else bif !specB c.1 then K (AV.dat T.bool false) [] else K (AV.dat T.bool (decide ((0 : Int) = (0 : Int)) && (decide ((0 : Int) = (0 : Int)) && (decide (c.2.1 = (0 : Int)) && (decide (c.2.2.1 = (0 : Int)) && (decide (c.2.2.2.1.1 = (0 : Int)) && decide (c.2.2.2.1.2 = ByteArray.mk #[]) && (decide (c.2.2.2.2.1 = ByteArray.mk #[]) && (decide (c.2.2.2.2.2.1 = (0 : Int)) && (decide (c.2.2.2.2.2.2.1 = (0 : Int)) && (decide (c.2.2.2.2.2.2.2.1 = (0 : Int)) && (decide (c.2.2.2.2.2.2.2.2.1 = (0 : Int)) && (decide (c.2.2.2.2.2.2.2.2.2.1 = (0 : Int)) && false == false)))))))))))) [] := by kernel_rfl
theorem rmc_18 {R : Type} (K : KV R) (c : CR0) : (codeX Tryd.prog G22c lv22c 8 Tryd.f22).run [.dat CT ((18 : Int), c)] [] K = bif !mayV c.2.2.2.1 then K (AV.dat T.bool false) [] else bif !decide (c.2.2.2.1.1 = (4 : Int)) then K (AV.dat T.bool false) [] else K (AV.dat T.bool (decide ((0 : Int) = (0 : Int)) && (decide (c.1 = (0 : Int)) && (decide (c.2.1 = (0 : Int)) && (decide (c.2.2.1 = (0 : Int)) && (decide ((0 : Int) = (0 : Int)) && decide (ByteArray.mk #[] = ByteArray.mk #[]) && (decide (c.2.2.2.2.1 = ByteArray.mk #[]) && (decide (c.2.2.2.2.2.1 = (0 : Int)) && (decide (c.2.2.2.2.2.2.1 = (0 : Int)) && (decide (c.2.2.2.2.2.2.2.1 = (0 : Int)) && (decide (c.2.2.2.2.2.2.2.2.1 = (0 : Int)) && (decide (c.2.2.2.2.2.2.2.2.2.1 = (0 : Int)) && c.2.2.2.2.2.2.2.2.2.2 == false)))))))))))) [] := by kernel_rfl
end Go.Mx
