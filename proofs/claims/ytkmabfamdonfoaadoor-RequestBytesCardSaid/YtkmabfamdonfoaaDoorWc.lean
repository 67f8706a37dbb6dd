/- Own work. A part of the proof of a law of this seat: this seat's functions, by the machine, and the plain law. -/
import Derived.Test.YtkmabfamdonfoaaDoorMf
import Derived.Test.YtkmabfamdonfoaaDoorWb
import Derived.Test.YtkmabfamdonfoaaDoorWa
set_option linter.unusedVariables false
set_option linter.unusedSimpArgs false
set_option linter.unusedSectionVars false
namespace Go.Mx
open Go Go.RowKit Go.Sx Go.Proofs
set_option maxRecDepth 100000
def G20c (ps : List PK) : Sums := sums all ((43, Fparts ps) :: (21, F21f) :: partL)
def lv20c : Tl := ⟨fun q => match q with | 0 => some [4, 19, 20, 21] | _ => none, []⟩
theorem bytes_1 {R : Type} (K : KV R) (c : CR0) : (codeX Tryd.prog (G20c [.ring, .typ, .desc, .payload]) lv20c 8 Tryd.f20).run [.dat CT ((1 : Int), c)] [] K = ck (okPerm ((1 : Int), c)) (bif !mayM ((1 : Int), c) then K (AV.tup [AV.nils, AV.dat I64 (2 : Int)]) [] else ck (smallC ((1 : Int), c) ∧ (1 : Nat) ≤ (10000 : Nat)) (ck (smallC ((1 : Int), c) ∧ List.length ([IntKind.wrap IntKind.u8 (1 : Int)] ++ encP PK.ring ((1 : Int), c)) ≤ (10000 : Nat)) (ck (smallC ((1 : Int), c) ∧ List.length ([IntKind.wrap IntKind.u8 (1 : Int)] ++ encP PK.ring ((1 : Int), c) ++ encP PK.typ ((1 : Int), c)) ≤ (10000 : Nat)) (ck (smallC ((1 : Int), c) ∧ List.length ([IntKind.wrap IntKind.u8 (1 : Int)] ++ encP PK.ring ((1 : Int), c) ++ encP PK.typ ((1 : Int), c) ++ encP PK.desc ((1 : Int), c)) ≤ (10000 : Nat)) (K (AV.tup [AV.view 0, AV.dat I64 (0 : Int)]) [AO.row 5 U8 ([IntKind.wrap IntKind.u8 (1 : Int)] ++ encP PK.ring ((1 : Int), c) ++ encP PK.typ ((1 : Int), c) ++ encP PK.desc ((1 : Int), c) ++ encP PK.payload ((1 : Int), c)) Md.own]))))) := by kernel_rfl
theorem bytes_2 {R : Type} (K : KV R) (c : CR0) : (codeX Tryd.prog (G20c [.typ, .desc]) lv20c 8 Tryd.f20).run [.dat CT ((2 : Int), c)] [] K = ck (okPerm ((2 : Int), c)) (bif !mayM ((2 : Int), c) then K (AV.tup [AV.nils, AV.dat I64 (2 : Int)]) [] else ck (smallC ((2 : Int), c) ∧ (1 : Nat) ≤ (10000 : Nat)) (ck (smallC ((2 : Int), c) ∧ List.length ([IntKind.wrap IntKind.u8 (2 : Int)] ++ encP PK.typ ((2 : Int), c)) ≤ (10000 : Nat)) (K (AV.tup [AV.view 0, AV.dat I64 (0 : Int)]) [AO.row 5 U8 ([IntKind.wrap IntKind.u8 (2 : Int)] ++ encP PK.typ ((2 : Int), c) ++ encP PK.desc ((2 : Int), c)) Md.own]))) := by kernel_rfl
theorem bytes_3 {R : Type} (K : KV R) (c : CR0) : (codeX Tryd.prog (G20c [.ring, .typ, .desc]) lv20c 8 Tryd.f20).run [.dat CT ((3 : Int), c)] [] K = ck (okPerm ((3 : Int), c)) (bif !mayM ((3 : Int), c) then K (AV.tup [AV.nils, AV.dat I64 (2 : Int)]) [] else ck (smallC ((3 : Int), c) ∧ (1 : Nat) ≤ (10000 : Nat)) (ck (smallC ((3 : Int), c) ∧ List.length ([IntKind.wrap IntKind.u8 (3 : Int)] ++ encP PK.ring ((3 : Int), c)) ≤ (10000 : Nat)) (ck (smallC ((3 : Int), c) ∧ List.length ([IntKind.wrap IntKind.u8 (3 : Int)] ++ encP PK.ring ((3 : Int), c) ++ encP PK.typ ((3 : Int), c)) ≤ (10000 : Nat)) (K (AV.tup [AV.view 0, AV.dat I64 (0 : Int)]) [AO.row 5 U8 ([IntKind.wrap IntKind.u8 (3 : Int)] ++ encP PK.ring ((3 : Int), c) ++ encP PK.typ ((3 : Int), c) ++ encP PK.desc ((3 : Int), c)) Md.own])))) := by kernel_rfl
theorem bytes_4 {R : Type} (K : KV R) (c : CR0) : (codeX Tryd.prog (G20c [.key]) lv20c 8 Tryd.f20).run [.dat CT ((4 : Int), c)] [] K = ck (okPerm ((4 : Int), c)) (bif !mayM ((4 : Int), c) then K (AV.tup [AV.nils, AV.dat I64 (2 : Int)]) [] else ck (smallC ((4 : Int), c) ∧ (1 : Nat) ≤ (10000 : Nat)) (K (AV.tup [AV.view 0, AV.dat I64 (0 : Int)]) [AO.row 5 U8 ([IntKind.wrap IntKind.u8 (4 : Int)] ++ encP PK.key ((4 : Int), c)) Md.own])) := by kernel_rfl
theorem bytes_5 {R : Type} (K : KV R) (c : CR0) : (codeX Tryd.prog (G20c [.key, .payload]) lv20c 8 Tryd.f20).run [.dat CT ((5 : Int), c)] [] K = ck (okPerm ((5 : Int), c)) (bif !mayM ((5 : Int), c) then K (AV.tup [AV.nils, AV.dat I64 (2 : Int)]) [] else ck (smallC ((5 : Int), c) ∧ (1 : Nat) ≤ (10000 : Nat)) (ck (smallC ((5 : Int), c) ∧ List.length ([IntKind.wrap IntKind.u8 (5 : Int)] ++ encP PK.key ((5 : Int), c)) ≤ (10000 : Nat)) (K (AV.tup [AV.view 0, AV.dat I64 (0 : Int)]) [AO.row 5 U8 ([IntKind.wrap IntKind.u8 (5 : Int)] ++ encP PK.key ((5 : Int), c) ++ encP PK.payload ((5 : Int), c)) Md.own]))) := by kernel_rfl
theorem bytes_6 {R : Type} (K : KV R) (c : CR0) : (codeX Tryd.prog (G20c [.key]) lv20c 8 Tryd.f20).run [.dat CT ((6 : Int), c)] [] K = ck (okPerm ((6 : Int), c)) (bif !mayM ((6 : Int), c) then K (AV.tup [AV.nils, AV.dat I64 (2 : Int)]) [] else ck (smallC ((6 : Int), c) ∧ (1 : Nat) ≤ (10000 : Nat)) (K (AV.tup [AV.view 0, AV.dat I64 (0 : Int)]) [AO.row 5 U8 ([IntKind.wrap IntKind.u8 (6 : Int)] ++ encP PK.key ((6 : Int), c)) Md.own])) := by kernel_rfl
theorem bytes_7 {R : Type} (K : KV R) (c : CR0) : (codeX Tryd.prog (G20c [.key, .ring]) lv20c 8 Tryd.f20).run [.dat CT ((7 : Int), c)] [] K = ck (okPerm ((7 : Int), c)) (bif !mayM ((7 : Int), c) then K (AV.tup [AV.nils, AV.dat I64 (2 : Int)]) [] else ck (smallC ((7 : Int), c) ∧ (1 : Nat) ≤ (10000 : Nat)) (ck (smallC ((7 : Int), c) ∧ List.length ([IntKind.wrap IntKind.u8 (7 : Int)] ++ encP PK.key ((7 : Int), c)) ≤ (10000 : Nat)) (K (AV.tup [AV.view 0, AV.dat I64 (0 : Int)]) [AO.row 5 U8 ([IntKind.wrap IntKind.u8 (7 : Int)] ++ encP PK.key ((7 : Int), c) ++ encP PK.ring ((7 : Int), c)) Md.own]))) := by kernel_rfl
theorem bytes_8 {R : Type} (K : KV R) (c : CR0) : (codeX Tryd.prog (G20c [.key, .ring]) lv20c 8 Tryd.f20).run [.dat CT ((8 : Int), c)] [] K = ck (okPerm ((8 : Int), c)) (bif !mayM ((8 : Int), c) then K (AV.tup [AV.nils, AV.dat I64 (2 : Int)]) [] else ck (smallC ((8 : Int), c) ∧ (1 : Nat) ≤ (10000 : Nat)) (ck (smallC ((8 : Int), c) ∧ List.length ([IntKind.wrap IntKind.u8 (8 : Int)] ++ encP PK.key ((8 : Int), c)) ≤ (10000 : Nat)) (K (AV.tup [AV.view 0, AV.dat I64 (0 : Int)]) [AO.row 5 U8 ([IntKind.wrap IntKind.u8 (8 : Int)] ++ encP PK.key ((8 : Int), c) ++ encP PK.ring ((8 : Int), c)) Md.own]))) := by kernel_rfl
theorem bytes_9 {R : Type} (K : KV R) (c : CR0) : (codeX Tryd.prog (G20c [.key, .ring, .to]) lv20c 8 Tryd.f20).run [.dat CT ((9 : Int), c)] [] K = ck (okPerm ((9 : Int), c)) (bif !mayM ((9 : Int), c) then K (AV.tup [AV.nils, AV.dat I64 (2 : Int)]) [] else ck (smallC ((9 : Int), c) ∧ (1 : Nat) ≤ (10000 : Nat)) (ck (smallC ((9 : Int), c) ∧ List.length ([IntKind.wrap IntKind.u8 (9 : Int)] ++ encP PK.key ((9 : Int), c)) ≤ (10000 : Nat)) (ck (smallC ((9 : Int), c) ∧ List.length ([IntKind.wrap IntKind.u8 (9 : Int)] ++ encP PK.key ((9 : Int), c) ++ encP PK.ring ((9 : Int), c)) ≤ (10000 : Nat)) (K (AV.tup [AV.view 0, AV.dat I64 (0 : Int)]) [AO.row 5 U8 ([IntKind.wrap IntKind.u8 (9 : Int)] ++ encP PK.key ((9 : Int), c) ++ encP PK.ring ((9 : Int), c) ++ encP PK.to ((9 : Int), c)) Md.own])))) := by kernel_rfl
theorem bytes_10 {R : Type} (K : KV R) (c : CR0) : (codeX Tryd.prog (G20c [.ring]) lv20c 8 Tryd.f20).run [.dat CT ((10 : Int), c)] [] K = ck (okPerm ((10 : Int), c)) (bif !mayM ((10 : Int), c) then K (AV.tup [AV.nils, AV.dat I64 (2 : Int)]) [] else ck (smallC ((10 : Int), c) ∧ (1 : Nat) ≤ (10000 : Nat)) (K (AV.tup [AV.view 0, AV.dat I64 (0 : Int)]) [AO.row 5 U8 ([IntKind.wrap IntKind.u8 (10 : Int)] ++ encP PK.ring ((10 : Int), c)) Md.own])) := by kernel_rfl
theorem bytes_11 {R : Type} (K : KV R) (c : CR0) : (codeX Tryd.prog (G20c [.key, .perm]) lv20c 8 Tryd.f20).run [.dat CT ((11 : Int), c)] [] K = ck (okPerm ((11 : Int), c)) (bif !mayM ((11 : Int), c) then K (AV.tup [AV.nils, AV.dat I64 (2 : Int)]) [] else ck (smallC ((11 : Int), c) ∧ (1 : Nat) ≤ (10000 : Nat)) (ck (smallC ((11 : Int), c) ∧ List.length ([IntKind.wrap IntKind.u8 (11 : Int)] ++ encP PK.key ((11 : Int), c)) ≤ (10000 : Nat)) (K (AV.tup [AV.view 0, AV.dat I64 (0 : Int)]) [AO.row 5 U8 ([IntKind.wrap IntKind.u8 (11 : Int)] ++ encP PK.key ((11 : Int), c) ++ encP PK.perm ((11 : Int), c)) Md.own]))) := by kernel_rfl
theorem bytes_12 {R : Type} (K : KV R) (c : CR0) : (codeX Tryd.prog (G20c [.key, .uid, .gid]) lv20c 8 Tryd.f20).run [.dat CT ((12 : Int), c)] [] K = ck (okPerm ((12 : Int), c)) (bif !mayM ((12 : Int), c) then K (AV.tup [AV.nils, AV.dat I64 (2 : Int)]) [] else ck (smallC ((12 : Int), c) ∧ (1 : Nat) ≤ (10000 : Nat)) (ck (smallC ((12 : Int), c) ∧ List.length ([IntKind.wrap IntKind.u8 (12 : Int)] ++ encP PK.key ((12 : Int), c)) ≤ (10000 : Nat)) (ck (smallC ((12 : Int), c) ∧ List.length ([IntKind.wrap IntKind.u8 (12 : Int)] ++ encP PK.key ((12 : Int), c) ++ encP PK.uid ((12 : Int), c)) ≤ (10000 : Nat)) (K (AV.tup [AV.view 0, AV.dat I64 (0 : Int)]) [AO.row 5 U8 ([IntKind.wrap IntKind.u8 (12 : Int)] ++ encP PK.key ((12 : Int), c) ++ encP PK.uid ((12 : Int), c) ++ encP PK.gid ((12 : Int), c)) Md.own])))) := by kernel_rfl
theorem bytes_13 {R : Type} (K : KV R) (c : CR0) : (codeX Tryd.prog (G20c [.key, .time]) lv20c 8 Tryd.f20).run [.dat CT ((13 : Int), c)] [] K = ck (okPerm ((13 : Int), c)) (bif !mayM ((13 : Int), c) then K (AV.tup [AV.nils, AV.dat I64 (2 : Int)]) [] else ck (smallC ((13 : Int), c) ∧ (1 : Nat) ≤ (10000 : Nat)) (ck (smallC ((13 : Int), c) ∧ List.length ([IntKind.wrap IntKind.u8 (13 : Int)] ++ encP PK.key ((13 : Int), c)) ≤ (10000 : Nat)) (K (AV.tup [AV.view 0, AV.dat I64 (0 : Int)]) [AO.row 5 U8 ([IntKind.wrap IntKind.u8 (13 : Int)] ++ encP PK.key ((13 : Int), c) ++ encP PK.time ((13 : Int), c)) Md.own]))) := by kernel_rfl
theorem bytes_14 {R : Type} (K : KV R) (c : CR0) : (codeX Tryd.prog (G20c [.key]) lv20c 8 Tryd.f20).run [.dat CT ((14 : Int), c)] [] K = ck (okPerm ((14 : Int), c)) (bif !mayM ((14 : Int), c) then K (AV.tup [AV.nils, AV.dat I64 (2 : Int)]) [] else ck (smallC ((14 : Int), c) ∧ (1 : Nat) ≤ (10000 : Nat)) (K (AV.tup [AV.view 0, AV.dat I64 (0 : Int)]) [AO.row 5 U8 ([IntKind.wrap IntKind.u8 (14 : Int)] ++ encP PK.key ((14 : Int), c)) Md.own])) := by kernel_rfl
theorem bytes_15 {R : Type} (K : KV R) (c : CR0) : (codeX Tryd.prog (G20c [.key]) lv20c 8 Tryd.f20).run [.dat CT ((15 : Int), c)] [] K = ck (okPerm ((15 : Int), c)) (bif !mayM ((15 : Int), c) then K (AV.tup [AV.nils, AV.dat I64 (2 : Int)]) [] else ck (smallC ((15 : Int), c) ∧ (1 : Nat) ≤ (10000 : Nat)) (K (AV.tup [AV.view 0, AV.dat I64 (0 : Int)]) [AO.row 5 U8 ([IntKind.wrap IntKind.u8 (15 : Int)] ++ encP PK.key ((15 : Int), c)) Md.own])) := by kernel_rfl
theorem bytes_16 {R : Type} (K : KV R) (c : CR0) : (codeX Tryd.prog (G20c [.ring, .restrict]) lv20c 8 Tryd.f20).run [.dat CT ((16 : Int), c)] [] K = ck (okPerm ((16 : Int), c)) (bif !mayM ((16 : Int), c) then K (AV.tup [AV.nils, AV.dat I64 (2 : Int)]) [] else ck (smallC ((16 : Int), c) ∧ (1 : Nat) ≤ (10000 : Nat)) (ck (smallC ((16 : Int), c) ∧ List.length ([IntKind.wrap IntKind.u8 (16 : Int)] ++ encP PK.ring ((16 : Int), c)) ≤ (10000 : Nat)) (K (AV.tup [AV.view 0, AV.dat I64 (0 : Int)]) [AO.row 5 U8 ([IntKind.wrap IntKind.u8 (16 : Int)] ++ encP PK.ring ((16 : Int), c) ++ encP PK.restrict ((16 : Int), c)) Md.own]))) := by kernel_rfl
theorem bytes_17 {R : Type} (K : KV R) (c : CR0) : (codeX Tryd.prog (G20c [.key, .create]) lv20c 8 Tryd.f20).run [.dat CT ((17 : Int), c)] [] K = ck (okPerm ((17 : Int), c)) (bif !mayM ((17 : Int), c) then K (AV.tup [AV.nils, AV.dat I64 (2 : Int)]) [] else ck (smallC ((17 : Int), c) ∧ (1 : Nat) ≤ (10000 : Nat)) (ck (smallC ((17 : Int), c) ∧ List.length ([IntKind.wrap IntKind.u8 (17 : Int)] ++ encP PK.key ((17 : Int), c)) ≤ (10000 : Nat)) (K (AV.tup [AV.view 0, AV.dat I64 (0 : Int)]) [AO.row 5 U8 ([IntKind.wrap IntKind.u8 (17 : Int)] ++ encP PK.key ((17 : Int), c) ++ encP PK.create ((17 : Int), c)) Md.own]))) := by kernel_rfl
theorem bytes_18 {R : Type} (K : KV R) (c : CR0) : (codeX Tryd.prog (G20c [.desc]) lv20c 8 Tryd.f20).run [.dat CT ((18 : Int), c)] [] K = ck (okPerm ((18 : Int), c)) (bif !mayM ((18 : Int), c) then K (AV.tup [AV.nils, AV.dat I64 (2 : Int)]) [] else ck (smallC ((18 : Int), c) ∧ (1 : Nat) ≤ (10000 : Nat)) (K (AV.tup [AV.view 0, AV.dat I64 (0 : Int)]) [AO.row 5 U8 ([IntKind.wrap IntKind.u8 (18 : Int)] ++ encP PK.desc ((18 : Int), c)) Md.own])) := by kernel_rfl
theorem bytes_0 {R : Type} (K : KV R) (c : CV) : (codeX Tryd.prog (G20c []) lv20c 8 Tryd.f20).run [.dat CT c] [] K = ck (okPerm c) (bif !mayM c then K (AV.tup [AV.nils, AV.dat I64 (2 : Int)]) [] else ck (psOf c.1 = []) (K (AV.tup [AV.view 0, AV.dat I64 (0 : Int)]) [AO.row 5 U8 [IntKind.wrap IntKind.u8 c.1] Md.own])) := by kernel_rfl
end Go.Mx
namespace Go.Mx
open Go Go.RowKit Go.Sx Go.Proofs
set_option maxRecDepth 100000
def bytesM (c : CV) : List Int := (psOf c.1).foldl (fun xs p => xs ++ encP p c) [IntKind.wrap .u8 c.1]
theorem may_small {c : CV} (h : mayM c = true) : smallC c ∧ ByteArray.size c.2.2.2.2.2.1 ≤ 256 ∧ ByteArray.size c.2.2.2.2.1.2 ≤ 32 := by
  unfold mayM at h
  by_cases h1 : (256 : Int) < ((ByteArray.size c.2.2.2.2.2.1 : Nat) : Int)
  · rw [decide_eq_true h1] at h; cases h
  by_cases h2 : (32 : Int) < ((ByteArray.size c.2.2.2.2.1.2 : Nat) : Int)
  · rw [decide_eq_false h1, decide_eq_true h2] at h; cases h
  exact ⟨⟨by omega, by omega⟩, by omega, by omega⟩
theorem al20c (ps : List PK) : AllOk Tryd.prog ((43, Fparts ps) :: (21, F21f) :: partL) := ⟨Fparts_ok ps, F21f_ok, partL_ok⟩
theorem base20 (ps : List PK) : SumOk Tryd.prog 20 (codeX Tryd.prog (G20c ps) lv20c 8 Tryd.f20) := codeX_ok (k := 8) (lv := lv20c) mixed noNG_prog (sums_call (Wr := all) (al20c ps)) (sums_prim (al20c ps)) (fn := Tryd.f20) rfl
theorem one_len (o : Int) : ([IntKind.wrap .u8 o] : List Int).length = 1 := rfl
theorem by_1 {R : Type} (K : KV R) (c : CR0) (hp : okPerm ((1 : Int), c)) : (codeX Tryd.prog (G20c [.ring, .typ, .desc, .payload]) lv20c 8 Tryd.f20).run [.dat CT ((1 : Int), c)] [] K = cond (mayM ((1 : Int), c)) (K (.tup [.view 0, .dat I64 0]) [.row 5 U8 (bytesM ((1 : Int), c)) .own]) (K (.tup [.nils, .dat I64 2]) []) := by
  refine (bytes_1 K c).trans ?_
  rw [ck_pos hp]
  cases hm : mayM ((1 : Int), c) with
  | false => rfl
  | true =>
    have hs := (may_small hm).1
    have e_desc := encP_len .desc hs
    have e_payload := encP_len .payload hs
    have e_ring := encP_len .ring hs
    have e_typ := encP_len .typ hs
    rw [Bool.not_true, cond_false, cond_true, ck_pos (show smallC ((1 : Int), c) ∧ (1 : Nat) ≤ 10000 from ⟨hs, by omega⟩), ck_pos (⟨hs, by simp only [List.length_append, one_len]; omega⟩), ck_pos (⟨hs, by simp only [List.length_append, one_len]; omega⟩), ck_pos (⟨hs, by simp only [List.length_append, one_len]; omega⟩)]
    rfl
theorem by_2 {R : Type} (K : KV R) (c : CR0) (hp : okPerm ((2 : Int), c)) : (codeX Tryd.prog (G20c [.typ, .desc]) lv20c 8 Tryd.f20).run [.dat CT ((2 : Int), c)] [] K = cond (mayM ((2 : Int), c)) (K (.tup [.view 0, .dat I64 0]) [.row 5 U8 (bytesM ((2 : Int), c)) .own]) (K (.tup [.nils, .dat I64 2]) []) := by
  refine (bytes_2 K c).trans ?_
  rw [ck_pos hp]
  cases hm : mayM ((2 : Int), c) with
  | false => rfl
  | true =>
    have hs := (may_small hm).1
    have e_desc := encP_len .desc hs
    have e_typ := encP_len .typ hs
    rw [Bool.not_true, cond_false, cond_true, ck_pos (show smallC ((2 : Int), c) ∧ (1 : Nat) ≤ 10000 from ⟨hs, by omega⟩), ck_pos (⟨hs, by simp only [List.length_append, one_len]; omega⟩)]
    rfl
theorem by_3 {R : Type} (K : KV R) (c : CR0) (hp : okPerm ((3 : Int), c)) : (codeX Tryd.prog (G20c [.ring, .typ, .desc]) lv20c 8 Tryd.f20).run [.dat CT ((3 : Int), c)] [] K = cond (mayM ((3 : Int), c)) (K (.tup [.view 0, .dat I64 0]) [.row 5 U8 (bytesM ((3 : Int), c)) .own]) (K (.tup [.nils, .dat I64 2]) []) := by
  refine (bytes_3 K c).trans ?_
  rw [ck_pos hp]
  cases hm : mayM ((3 : Int), c) with
  | false => rfl
  | true =>
    have hs := (may_small hm).1
    have e_desc := encP_len .desc hs
    have e_ring := encP_len .ring hs
    have e_typ := encP_len .typ hs
    rw [Bool.not_true, cond_false, cond_true, ck_pos (show smallC ((3 : Int), c) ∧ (1 : Nat) ≤ 10000 from ⟨hs, by omega⟩), ck_pos (⟨hs, by simp only [List.length_append, one_len]; omega⟩), ck_pos (⟨hs, by simp only [List.length_append, one_len]; omega⟩)]
    rfl
theorem by_4 {R : Type} (K : KV R) (c : CR0) (hp : okPerm ((4 : Int), c)) : (codeX Tryd.prog (G20c [.key]) lv20c 8 Tryd.f20).run [.dat CT ((4 : Int), c)] [] K = cond (mayM ((4 : Int), c)) (K (.tup [.view 0, .dat I64 0]) [.row 5 U8 (bytesM ((4 : Int), c)) .own]) (K (.tup [.nils, .dat I64 2]) []) := by
  refine (bytes_4 K c).trans ?_
  rw [ck_pos hp]
  cases hm : mayM ((4 : Int), c) with
  | false => rfl
  | true =>
    have hs := (may_small hm).1
    have e_key := encP_len .key hs
    rw [Bool.not_true, cond_false, cond_true, ck_pos (show smallC ((4 : Int), c) ∧ (1 : Nat) ≤ 10000 from ⟨hs, by omega⟩)]
    rfl
theorem by_5 {R : Type} (K : KV R) (c : CR0) (hp : okPerm ((5 : Int), c)) : (codeX Tryd.prog (G20c [.key, .payload]) lv20c 8 Tryd.f20).run [.dat CT ((5 : Int), c)] [] K = cond (mayM ((5 : Int), c)) (K (.tup [.view 0, .dat I64 0]) [.row 5 U8 (bytesM ((5 : Int), c)) .own]) (K (.tup [.nils, .dat I64 2]) []) := by
  refine (bytes_5 K c).trans ?_
  rw [ck_pos hp]
  cases hm : mayM ((5 : Int), c) with
  | false => rfl
  | true =>
    have hs := (may_small hm).1
    have e_key := encP_len .key hs
    have e_payload := encP_len .payload hs
    rw [Bool.not_true, cond_false, cond_true, ck_pos (show smallC ((5 : Int), c) ∧ (1 : Nat) ≤ 10000 from ⟨hs, by omega⟩), ck_pos (⟨hs, by simp only [List.length_append, one_len]; omega⟩)]
    rfl
theorem by_6 {R : Type} (K : KV R) (c : CR0) (hp : okPerm ((6 : Int), c)) : (codeX Tryd.prog (G20c [.key]) lv20c 8 Tryd.f20).run [.dat CT ((6 : Int), c)] [] K = cond (mayM ((6 : Int), c)) (K (.tup [.view 0, .dat I64 0]) [.row 5 U8 (bytesM ((6 : Int), c)) .own]) (K (.tup [.nils, .dat I64 2]) []) := by
  refine (bytes_6 K c).trans ?_
  rw [ck_pos hp]
  cases hm : mayM ((6 : Int), c) with
  | false => rfl
  | true =>
    have hs := (may_small hm).1
    have e_key := encP_len .key hs
    rw [Bool.not_true, cond_false, cond_true, ck_pos (show smallC ((6 : Int), c) ∧ (1 : Nat) ≤ 10000 from ⟨hs, by omega⟩)]
    rfl
theorem by_7 {R : Type} (K : KV R) (c : CR0) (hp : okPerm ((7 : Int), c)) : (codeX Tryd.prog (G20c [.key, .ring]) lv20c 8 Tryd.f20).run [.dat CT ((7 : Int), c)] [] K = cond (mayM ((7 : Int), c)) (K (.tup [.view 0, .dat I64 0]) [.row 5 U8 (bytesM ((7 : Int), c)) .own]) (K (.tup [.nils, .dat I64 2]) []) := by
  refine (bytes_7 K c).trans ?_
  rw [ck_pos hp]
  cases hm : mayM ((7 : Int), c) with
  | false => rfl
  | true =>
    have hs := (may_small hm).1
    have e_key := encP_len .key hs
    have e_ring := encP_len .ring hs
    rw [Bool.not_true, cond_false, cond_true, ck_pos (show smallC ((7 : Int), c) ∧ (1 : Nat) ≤ 10000 from ⟨hs, by omega⟩), ck_pos (⟨hs, by simp only [List.length_append, one_len]; omega⟩)]
    rfl
theorem by_8 {R : Type} (K : KV R) (c : CR0) (hp : okPerm ((8 : Int), c)) : (codeX Tryd.prog (G20c [.key, .ring]) lv20c 8 Tryd.f20).run [.dat CT ((8 : Int), c)] [] K = cond (mayM ((8 : Int), c)) (K (.tup [.view 0, .dat I64 0]) [.row 5 U8 (bytesM ((8 : Int), c)) .own]) (K (.tup [.nils, .dat I64 2]) []) := by
  refine (bytes_8 K c).trans ?_
  rw [ck_pos hp]
  cases hm : mayM ((8 : Int), c) with
  | false => rfl
  | true =>
    have hs := (may_small hm).1
    have e_key := encP_len .key hs
    have e_ring := encP_len .ring hs
    rw [Bool.not_true, cond_false, cond_true, ck_pos (show smallC ((8 : Int), c) ∧ (1 : Nat) ≤ 10000 from ⟨hs, by omega⟩), ck_pos (⟨hs, by simp only [List.length_append, one_len]; omega⟩)]
    rfl
theorem by_9 {R : Type} (K : KV R) (c : CR0) (hp : okPerm ((9 : Int), c)) : (codeX Tryd.prog (G20c [.key, .ring, .to]) lv20c 8 Tryd.f20).run [.dat CT ((9 : Int), c)] [] K = cond (mayM ((9 : Int), c)) (K (.tup [.view 0, .dat I64 0]) [.row 5 U8 (bytesM ((9 : Int), c)) .own]) (K (.tup [.nils, .dat I64 2]) []) := by
  refine (bytes_9 K c).trans ?_
  rw [ck_pos hp]
  cases hm : mayM ((9 : Int), c) with
  | false => rfl
  | true =>
    have hs := (may_small hm).1
    have e_key := encP_len .key hs
    have e_ring := encP_len .ring hs
    have e_to := encP_len .to hs
    rw [Bool.not_true, cond_false, cond_true, ck_pos (show smallC ((9 : Int), c) ∧ (1 : Nat) ≤ 10000 from ⟨hs, by omega⟩), ck_pos (⟨hs, by simp only [List.length_append, one_len]; omega⟩), ck_pos (⟨hs, by simp only [List.length_append, one_len]; omega⟩)]
    rfl
theorem by_10 {R : Type} (K : KV R) (c : CR0) (hp : okPerm ((10 : Int), c)) : (codeX Tryd.prog (G20c [.ring]) lv20c 8 Tryd.f20).run [.dat CT ((10 : Int), c)] [] K = cond (mayM ((10 : Int), c)) (K (.tup [.view 0, .dat I64 0]) [.row 5 U8 (bytesM ((10 : Int), c)) .own]) (K (.tup [.nils, .dat I64 2]) []) := by
  refine (bytes_10 K c).trans ?_
  rw [ck_pos hp]
  cases hm : mayM ((10 : Int), c) with
  | false => rfl
  | true =>
    have hs := (may_small hm).1
    have e_ring := encP_len .ring hs
    rw [Bool.not_true, cond_false, cond_true, ck_pos (show smallC ((10 : Int), c) ∧ (1 : Nat) ≤ 10000 from ⟨hs, by omega⟩)]
    rfl
theorem by_11 {R : Type} (K : KV R) (c : CR0) (hp : okPerm ((11 : Int), c)) : (codeX Tryd.prog (G20c [.key, .perm]) lv20c 8 Tryd.f20).run [.dat CT ((11 : Int), c)] [] K = cond (mayM ((11 : Int), c)) (K (.tup [.view 0, .dat I64 0]) [.row 5 U8 (bytesM ((11 : Int), c)) .own]) (K (.tup [.nils, .dat I64 2]) []) := by
  refine (bytes_11 K c).trans ?_
  rw [ck_pos hp]
  cases hm : mayM ((11 : Int), c) with
  | false => rfl
  | true =>
    have hs := (may_small hm).1
    have e_key := encP_len .key hs
    have e_perm := encP_len .perm hs
    rw [Bool.not_true, cond_false, cond_true, ck_pos (show smallC ((11 : Int), c) ∧ (1 : Nat) ≤ 10000 from ⟨hs, by omega⟩), ck_pos (⟨hs, by simp only [List.length_append, one_len]; omega⟩)]
    rfl
theorem by_12 {R : Type} (K : KV R) (c : CR0) (hp : okPerm ((12 : Int), c)) : (codeX Tryd.prog (G20c [.key, .uid, .gid]) lv20c 8 Tryd.f20).run [.dat CT ((12 : Int), c)] [] K = cond (mayM ((12 : Int), c)) (K (.tup [.view 0, .dat I64 0]) [.row 5 U8 (bytesM ((12 : Int), c)) .own]) (K (.tup [.nils, .dat I64 2]) []) := by
  refine (bytes_12 K c).trans ?_
  rw [ck_pos hp]
  cases hm : mayM ((12 : Int), c) with
  | false => rfl
  | true =>
    have hs := (may_small hm).1
    have e_gid := encP_len .gid hs
    have e_key := encP_len .key hs
    have e_uid := encP_len .uid hs
    rw [Bool.not_true, cond_false, cond_true, ck_pos (show smallC ((12 : Int), c) ∧ (1 : Nat) ≤ 10000 from ⟨hs, by omega⟩), ck_pos (⟨hs, by simp only [List.length_append, one_len]; omega⟩), ck_pos (⟨hs, by simp only [List.length_append, one_len]; omega⟩)]
    rfl
theorem by_13 {R : Type} (K : KV R) (c : CR0) (hp : okPerm ((13 : Int), c)) : (codeX Tryd.prog (G20c [.key, .time]) lv20c 8 Tryd.f20).run [.dat CT ((13 : Int), c)] [] K = cond (mayM ((13 : Int), c)) (K (.tup [.view 0, .dat I64 0]) [.row 5 U8 (bytesM ((13 : Int), c)) .own]) (K (.tup [.nils, .dat I64 2]) []) := by
  refine (bytes_13 K c).trans ?_
  rw [ck_pos hp]
  cases hm : mayM ((13 : Int), c) with
  | false => rfl
  | true =>
    have hs := (may_small hm).1
    have e_key := encP_len .key hs
    have e_time := encP_len .time hs
    rw [Bool.not_true, cond_false, cond_true, ck_pos (show smallC ((13 : Int), c) ∧ (1 : Nat) ≤ 10000 from ⟨hs, by omega⟩), ck_pos (⟨hs, by simp only [List.length_append, one_len]; omega⟩)]
    rfl
theorem by_14 {R : Type} (K : KV R) (c : CR0) (hp : okPerm ((14 : Int), c)) : (codeX Tryd.prog (G20c [.key]) lv20c 8 Tryd.f20).run [.dat CT ((14 : Int), c)] [] K = cond (mayM ((14 : Int), c)) (K (.tup [.view 0, .dat I64 0]) [.row 5 U8 (bytesM ((14 : Int), c)) .own]) (K (.tup [.nils, .dat I64 2]) []) := by
  refine (bytes_14 K c).trans ?_
  rw [ck_pos hp]
  cases hm : mayM ((14 : Int), c) with
  | false => rfl
  | true =>
    have hs := (may_small hm).1
    have e_key := encP_len .key hs
    rw [Bool.not_true, cond_false, cond_true, ck_pos (show smallC ((14 : Int), c) ∧ (1 : Nat) ≤ 10000 from ⟨hs, by omega⟩)]
    rfl
theorem by_15 {R : Type} (K : KV R) (c : CR0) (hp : okPerm ((15 : Int), c)) : (codeX Tryd.prog (G20c [.key]) lv20c 8 Tryd.f20).run [.dat CT ((15 : Int), c)] [] K = cond (mayM ((15 : Int), c)) (K (.tup [.view 0, .dat I64 0]) [.row 5 U8 (bytesM ((15 : Int), c)) .own]) (K (.tup [.nils, .dat I64 2]) []) := by
  refine (bytes_15 K c).trans ?_
  rw [ck_pos hp]
  cases hm : mayM ((15 : Int), c) with
  | false => rfl
  | true =>
    have hs := (may_small hm).1
    have e_key := encP_len .key hs
    rw [Bool.not_true, cond_false, cond_true, ck_pos (show smallC ((15 : Int), c) ∧ (1 : Nat) ≤ 10000 from ⟨hs, by omega⟩)]
    rfl
theorem by_16 {R : Type} (K : KV R) (c : CR0) (hp : okPerm ((16 : Int), c)) : (codeX Tryd.prog (G20c [.ring, .restrict]) lv20c 8 Tryd.f20).run [.dat CT ((16 : Int), c)] [] K = cond (mayM ((16 : Int), c)) (K (.tup [.view 0, .dat I64 0]) [.row 5 U8 (bytesM ((16 : Int), c)) .own]) (K (.tup [.nils, .dat I64 2]) []) := by
  refine (bytes_16 K c).trans ?_
  rw [ck_pos hp]
  cases hm : mayM ((16 : Int), c) with
  | false => rfl
  | true =>
    have hs := (may_small hm).1
    have e_restrict := encP_len .restrict hs
    have e_ring := encP_len .ring hs
    rw [Bool.not_true, cond_false, cond_true, ck_pos (show smallC ((16 : Int), c) ∧ (1 : Nat) ≤ 10000 from ⟨hs, by omega⟩), ck_pos (⟨hs, by simp only [List.length_append, one_len]; omega⟩)]
    rfl
theorem by_17 {R : Type} (K : KV R) (c : CR0) (hp : okPerm ((17 : Int), c)) : (codeX Tryd.prog (G20c [.key, .create]) lv20c 8 Tryd.f20).run [.dat CT ((17 : Int), c)] [] K = cond (mayM ((17 : Int), c)) (K (.tup [.view 0, .dat I64 0]) [.row 5 U8 (bytesM ((17 : Int), c)) .own]) (K (.tup [.nils, .dat I64 2]) []) := by
  refine (bytes_17 K c).trans ?_
  rw [ck_pos hp]
  cases hm : mayM ((17 : Int), c) with
  | false => rfl
  | true =>
    have hs := (may_small hm).1
    have e_create := encP_len .create hs
    have e_key := encP_len .key hs
    rw [Bool.not_true, cond_false, cond_true, ck_pos (show smallC ((17 : Int), c) ∧ (1 : Nat) ≤ 10000 from ⟨hs, by omega⟩), ck_pos (⟨hs, by simp only [List.length_append, one_len]; omega⟩)]
    rfl
theorem by_18 {R : Type} (K : KV R) (c : CR0) (hp : okPerm ((18 : Int), c)) : (codeX Tryd.prog (G20c [.desc]) lv20c 8 Tryd.f20).run [.dat CT ((18 : Int), c)] [] K = cond (mayM ((18 : Int), c)) (K (.tup [.view 0, .dat I64 0]) [.row 5 U8 (bytesM ((18 : Int), c)) .own]) (K (.tup [.nils, .dat I64 2]) []) := by
  refine (bytes_18 K c).trans ?_
  rw [ck_pos hp]
  cases hm : mayM ((18 : Int), c) with
  | false => rfl
  | true =>
    have hs := (may_small hm).1
    have e_desc := encP_len .desc hs
    rw [Bool.not_true, cond_false, cond_true, ck_pos (show smallC ((18 : Int), c) ∧ (1 : Nat) ≤ 10000 from ⟨hs, by omega⟩)]
    rfl
theorem by_0 {R : Type} (K : KV R) (c : CV) (h : psOf c.1 = []) (hp : okPerm c) : (codeX Tryd.prog (G20c []) lv20c 8 Tryd.f20).run [.dat CT c] [] K = cond (mayM c) (K (.tup [.view 0, .dat I64 0]) [.row 5 U8 (bytesM c) .own]) (K (.tup [.nils, .dat I64 2]) []) := by
  refine (bytes_0 K c).trans ?_
  have e : bytesM c = [IntKind.wrap .u8 c.1] := by unfold bytesM; rw [h]; rfl
  rw [ck_pos hp, ck_pos h, e]
  cases mayM c <;> rfl
def F20f : Summ := ⟨fun args ob K => match args, ob with
  | [.dat t v], [] => (asD CT (.dat t v)).bind fun c => ck (okPerm c) (cond (mayM c) (K (.tup [.view 0, .dat I64 0]) [.row 5 U8 (bytesM c) .own]) (K (.tup [.nils, .dat I64 2]) []))
  | _, _ => none⟩
theorem F20f_ok : SumOk Tryd.prog 20 F20f := by
  refine ⟨?_, ?_⟩
  · intro R R' f args ob K
    unfold F20f; dsimp only
    split <;> simp only [bd_bind, bd_ck, bd_cond, bd_none]
  · intro R args ob K r hK W ρ w us hr ha
    unfold F20f at hK; dsimp only at hK
    split at hK
    · rename_i t v
      obtain ⟨c, hc, h1⟩ := bind_elim hK
      obtain ⟨hp, h2⟩ := ck_elim h1
      clear hK h1
      have e := asD_ok hc
      rw [e] at ha
      by_cases h0 : psOf c.1 = []
      · exact (base20 []).2 _ [] K r ((by_0 K c h0 hp).trans h2) W ρ w us hr ha
      · obtain ⟨o, c⟩ := c
        have ho := ps_cases h0
        clear h0
        rcases ho with rfl | rfl | rfl | rfl | rfl | rfl | rfl | rfl | rfl | rfl | rfl | rfl | rfl | rfl | rfl | rfl | rfl | rfl
        · exact (base20 [.ring, .typ, .desc, .payload]).2 _ [] K r ((by_1 K c hp).trans h2) W ρ w us hr ha
        · exact (base20 [.typ, .desc]).2 _ [] K r ((by_2 K c hp).trans h2) W ρ w us hr ha
        · exact (base20 [.ring, .typ, .desc]).2 _ [] K r ((by_3 K c hp).trans h2) W ρ w us hr ha
        · exact (base20 [.key]).2 _ [] K r ((by_4 K c hp).trans h2) W ρ w us hr ha
        · exact (base20 [.key, .payload]).2 _ [] K r ((by_5 K c hp).trans h2) W ρ w us hr ha
        · exact (base20 [.key]).2 _ [] K r ((by_6 K c hp).trans h2) W ρ w us hr ha
        · exact (base20 [.key, .ring]).2 _ [] K r ((by_7 K c hp).trans h2) W ρ w us hr ha
        · exact (base20 [.key, .ring]).2 _ [] K r ((by_8 K c hp).trans h2) W ρ w us hr ha
        · exact (base20 [.key, .ring, .to]).2 _ [] K r ((by_9 K c hp).trans h2) W ρ w us hr ha
        · exact (base20 [.ring]).2 _ [] K r ((by_10 K c hp).trans h2) W ρ w us hr ha
        · exact (base20 [.key, .perm]).2 _ [] K r ((by_11 K c hp).trans h2) W ρ w us hr ha
        · exact (base20 [.key, .uid, .gid]).2 _ [] K r ((by_12 K c hp).trans h2) W ρ w us hr ha
        · exact (base20 [.key, .time]).2 _ [] K r ((by_13 K c hp).trans h2) W ρ w us hr ha
        · exact (base20 [.key]).2 _ [] K r ((by_14 K c hp).trans h2) W ρ w us hr ha
        · exact (base20 [.key]).2 _ [] K r ((by_15 K c hp).trans h2) W ρ w us hr ha
        · exact (base20 [.ring, .restrict]).2 _ [] K r ((by_16 K c hp).trans h2) W ρ w us hr ha
        · exact (base20 [.key, .create]).2 _ [] K r ((by_17 K c hp).trans h2) W ρ w us hr ha
        · exact (base20 [.desc]).2 _ [] K r ((by_18 K c hp).trans h2) W ρ w us hr ha
    · cases hK
def lv60c : Tl := ⟨fun q => match q with | 0 => some [0, 1, 12, 13] | _ => none, []⟩
theorem eqb_0 {R : Type} (L : Nat → St → (Exit → St → Option R) → Option R) (K : KV R) (a b : List Int) : runX Tryd.prog (sums all []) lv60c Tryd.f60 0 L [.dat BL a, .dat BL b] [] K = bif !decide ((↑(List.length a) : Int) = (↑(List.length b) : Int)) then K (AV.dat T.bool false) [] else L (0 : Nat) (St.mk [((0 : Nat), AV.dat (T.sl (T.int IntKind.u8)) a), ((1 : Nat), AV.dat (T.sl (T.int IntKind.u8)) b), ((12 : Nat), AV.dat (T.int IntKind.i64) (↑(List.length a) : Int)), ((13 : Nat), AV.dat (T.int IntKind.i64) (0 : Int))] []) (endX Tryd.prog (sums all []) lv60c Tryd.f60 (0 : Nat) L K (0 : Nat)) := by kernel_rfl
theorem eqb_s {R : Type} (L L0 : Nat → St → (Exit → St → Option R) → Option R) (K : KV R) (a b : List Int) (n i : Int) : stepX Tryd.prog (sums all []) lv60c 0 (codeOf Tryd.f60) L 0 ⟨[(0, .dat BL a), (1, .dat BL b), (12, .dat I64 n), (13, .dat I64 i)], []⟩ (endX Tryd.prog (sums all []) lv60c Tryd.f60 0 L0 K 0) = bif decide (i < n) then ck ((0 : Int) ≤ i) (Option.bind a[Int.toNat i]? fun x ↦ ck ((0 : Int) ≤ i) (Option.bind b[Int.toNat i]? fun x_1 ↦ bif !decide (x = x_1) then K (AV.dat T.bool false) [] else L (0 : Nat) (St.mk [((0 : Nat), AV.dat (T.sl (T.int IntKind.u8)) a), ((1 : Nat), AV.dat (T.sl (T.int IntKind.u8)) b), ((12 : Nat), AV.dat (T.int IntKind.i64) n), ((13 : Nat), AV.dat (T.int IntKind.i64) (IntKind.wrap IntKind.i64 (i + (1 : Int))))] []) (endX Tryd.prog (sums all []) lv60c Tryd.f60 (0 : Nat) L0 K (0 : Nat)))) else K (AV.dat T.bool true) [] := by kernel_rfl
end Go.Mx
namespace Go.Mx
open Go Go.RowKit Go.Sx Go.Proofs
set_option maxRecDepth 100000
def eqBy (a b : List Int) : Bool := decide (a = b)
theorem eqb_loop {R : Type} (L0 : Nat → St → (Exit → St → Option R) → Option R) (K : KV R) (a b : List Int) (hab : a.length = b.length) (hl : a.length ≤ 100000) : ∀ (j k i : Nat), i + j = a.length → j < k →
    LX Tryd.prog (sums all []) lv60c 0 (codeOf Tryd.f60) k 0 ⟨[(0, .dat BL a), (1, .dat BL b), (12, .dat I64 (a.length : Int)), (13, .dat I64 (i : Int))], []⟩ (endX Tryd.prog (sums all []) lv60c Tryd.f60 0 L0 K 0) = K (.dat .bool (eqBy (a.drop i) (b.drop i))) [] := by
  intro j
  induction j with
  | zero =>
    intro k i hi hk
    obtain ⟨k, rfl⟩ : ∃ q, k = q + 1 := ⟨k - 1, by omega⟩
    refine (eqb_s _ L0 K a b a.length i).trans ?_
    rw [show decide ((i : Int) < (a.length : Nat)) = false from decide_eq_false (by omega), cond_false, show a.drop i = [] from List.drop_eq_nil_of_le (by omega), show b.drop i = [] from List.drop_eq_nil_of_le (by omega)]
    rfl
  | succ j ih =>
    intro k i hi hk
    obtain ⟨k, rfl⟩ : ∃ q, k = q + 1 := ⟨k - 1, by omega⟩
    refine (eqb_s _ L0 K a b a.length i).trans ?_
    have hi' : i < a.length := by omega
    have hi2 : i < b.length := by omega
    have e := ih k (i + 1) (by omega) (by omega)
    rw [show ((i + 1 : Nat) : Int) = (i : Int) + 1 by omega] at e
    rw [show decide ((i : Int) < (a.length : Nat)) = true from decide_eq_true (by omega), cond_true, List.drop_eq_getElem_cons hi', List.drop_eq_getElem_cons hi2, Int.toNat_natCast, List.getElem?_eq_getElem hi', List.getElem?_eq_getElem hi2, wrapS (x := (i : Int) + 1) (by omega)]
    simp only [Option.bind_some, ck_pos (show (0 : Int) ≤ (i : Int) by omega)]
    by_cases h : a[i] = b[i]
    · rw [decide_eq_true h, Bool.not_true, cond_false, e]
      congr 2
      unfold eqBy
      exact decide_eq_decide.2 ⟨fun x => by rw [h, x], fun x => (List.cons.inj x).2⟩
    · rw [decide_eq_false h, Bool.not_false, cond_true]
      congr 2
      exact (decide_eq_false (fun x => h (List.cons.inj x).1)).symm
def Feq : Summ := ⟨fun args ob K => match args, ob with
  | [.dat (.sl (.int .u8)) a, .dat (.sl (.int .u8)) b], [] => ck (List.length a ≤ 100000) (K (.dat .bool (eqBy a b)) [])
  | _, _ => none⟩
theorem eqb_run {R : Type} (k : Nat) (hk : 100005 ≤ k) (K : KV R) (a b : List Int) (hl : a.length ≤ 100000) : (codeX Tryd.prog (sums all []) lv60c k Tryd.f60).run [.dat BL a, .dat BL b] [] K = K (.dat .bool (eqBy a b)) [] := by
  refine (codeX_at (m := 0) rfl).trans ?_
  refine (eqb_0 (LX Tryd.prog (sums all []) lv60c 0 (codeOf Tryd.f60) k) K a b).trans ?_
  by_cases h : a.length = b.length
  · rw [decide_eq_true (show (a.length : Int) = (b.length : Int) by omega), Bool.not_true, cond_false]
    exact eqb_loop _ K a b h hl a.length k 0 (by omega) (by omega)
  · rw [decide_eq_false (show ¬ (a.length : Int) = (b.length : Int) by omega), Bool.not_false, cond_true]
    congr 2
    exact (decide_eq_false (fun x => h (by rw [x]))).symm
theorem Feq_ok : SumOk Tryd.prog 60 Feq := by
  refine (codeX_ok (k := 100005) (lv := lv60c) mixed noNG_prog (sums_call (Wr := all) (l := []) trivial) (sums_prim trivial) (fn := Tryd.f60) rfl).le ?_ ?_
  · intro R R' f args ob K
    unfold Feq; dsimp only
    split <;> simp only [bd_ck, bd_none]
  · intro R args ob K r h
    unfold Feq at h; dsimp only at h
    split at h
    · rename_i a b
      obtain ⟨hl, h2⟩ := ck_elim h
      exact (eqb_run 100005 (Nat.le_refl _) K a b hl).trans h2
    · cases h
def Fnum (k : Int) : Summ := ⟨fun args ob K => match args, ob with
  | [.ptr 0 [], .dat (.int .i64) n], [.box 107 v true] => (asD RT v).bind fun x => ck (n = 1 ∧ x.1.length < 100000 ∧ numV x 1 = k) (K (.dat (.int .u64) k) [.box 107 (.dat RT (numS x 1)) true])
  | _, _ => none⟩
theorem Fnum_ok (k : Int) : SumOk Tryd.prog 32 (Fnum k) := by
  refine F18_ok.le ?_ ?_
  · intro R R' f args ob K
    unfold Fnum; dsimp only
    split <;> simp only [bd_bind, bd_ck, bd_none]
  · intro R args ob K r h
    unfold Fnum at h; dsimp only at h
    split at h
    · rename_i n v
      obtain ⟨x, hx, h1⟩ := bind_elim h
      obtain ⟨⟨hn, hl, hk⟩, h2⟩ := ck_elim h1
      have hn : n = 1 := hn
      subst hn
      have e := asD_ok hx
      subst e
      have e2 : F18.run (R := R) [.ptr 0 [], .dat (.int .i64) 1] [.box 107 (.dat RT x) true] K = (asD RT (.dat RT x)).bind fun x => ck (x.1.length < 100000) (K (.dat (.int .u64) (numV x 1)) [.box 107 (.dat RT (numS x 1)) true]) := rfl
      rw [e2, hx, Option.bind_some, ck_pos hl, hk]
      exact h2
    · cases h
def G24c (k : Int) (ps : List PK) : Sums := sums all ((43, Fparts ps) :: (20, F20f) :: (31, F17) :: (32, inS 32 cl (Fnum k)) :: (59, inS 59 cl F30) :: (60, peekS 60 Feq) :: partL)
def G24z : Sums := sums all ((43, Fparts []) :: (20, F20f) :: (31, F17) :: (32, inS 32 cl F18) :: (59, inS 59 cl F30) :: (60, peekS 60 Feq) :: partL)
def lv24c : Tl := ⟨fun q => match q with | 1 => some [0, 2, 4] | 2 => some [0, 2, 4, 32, 33, 34] | _ => none, [(107, RT)]⟩
theorem of_1 {R : Type} (K : KV R) (b : List Int) : (codeX Tryd.prog (G24c 1 [.ring, .typ, .desc, .payload]) lv24c 8 Tryd.f24).run [.dat BL b] [] K = bif decide ((298 : Int) < (↑(List.length b) : Int)) then K (AV.tup [AV.dat CT (zeroC 0), AV.dat I64 (2 : Int)]) [] else ck (List.length b < (1000000 : Nat)) (ck ((1 : Int) = (1 : Int) ∧ List.length ((newV b).1) < (100000 : Nat) ∧ numV (newV b) (1 : Int) = (1 : Int)) (ck (List.length ((numS (newV b) (1 : Int)).1) < (100000 : Nat)) (bif !(rdS PK.ring (numS (newV b) (1 : Int))).2.1 || (rdS PK.ring (numS (newV b) (1 : Int))).2.2 then bif mayM (rdC PK.ring (zeroC 1) (numS (newV b) (1 : Int))) then ck (List.length (bytesM (rdC PK.ring (zeroC 1) (numS (newV b) (1 : Int)))) ≤ (100000 : Nat)) (bif !eqBy (bytesM (rdC PK.ring (zeroC 1) (numS (newV b) (1 : Int)))) b then K (AV.tup [AV.dat CT (zeroC 0), AV.dat I64 (2 : Int)]) [] else K (AV.tup [AV.dat CT (rdC PK.ring (zeroC 1) (numS (newV b) (1 : Int))), AV.dat I64 (0 : Int)]) []) else K (AV.tup [AV.dat CT (zeroC 0), AV.dat I64 (2 : Int)]) [] else ck (List.length ((rdS PK.ring (numS (newV b) (1 : Int))).1) < (100000 : Nat)) (bif !(rdS PK.typ (rdS PK.ring (numS (newV b) (1 : Int)))).2.1 || (rdS PK.typ (rdS PK.ring (numS (newV b) (1 : Int)))).2.2 then bif mayM (rdC PK.typ (rdC PK.ring (zeroC 1) (numS (newV b) (1 : Int))) (rdS PK.ring (numS (newV b) (1 : Int)))) then ck (List.length (bytesM (rdC PK.typ (rdC PK.ring (zeroC 1) (numS (newV b) (1 : Int))) (rdS PK.ring (numS (newV b) (1 : Int))))) ≤ (100000 : Nat)) (bif !eqBy (bytesM (rdC PK.typ (rdC PK.ring (zeroC 1) (numS (newV b) (1 : Int))) (rdS PK.ring (numS (newV b) (1 : Int))))) b then K (AV.tup [AV.dat CT (zeroC 0), AV.dat I64 (2 : Int)]) [] else K (AV.tup [AV.dat CT (rdC PK.typ (rdC PK.ring (zeroC 1) (numS (newV b) (1 : Int))) (rdS PK.ring (numS (newV b) (1 : Int)))), AV.dat I64 (0 : Int)]) []) else K (AV.tup [AV.dat CT (zeroC 0), AV.dat I64 (2 : Int)]) [] else ck (List.length ((rdS PK.typ (rdS PK.ring (numS (newV b) (1 : Int)))).1) < (100000 : Nat)) (bif !(rdS PK.desc (rdS PK.typ (rdS PK.ring (numS (newV b) (1 : Int))))).2.1 || (rdS PK.desc (rdS PK.typ (rdS PK.ring (numS (newV b) (1 : Int))))).2.2 then bif mayM (rdC PK.desc (rdC PK.typ (rdC PK.ring (zeroC 1) (numS (newV b) (1 : Int))) (rdS PK.ring (numS (newV b) (1 : Int)))) (rdS PK.typ (rdS PK.ring (numS (newV b) (1 : Int))))) then ck (List.length (bytesM (rdC PK.desc (rdC PK.typ (rdC PK.ring (zeroC 1) (numS (newV b) (1 : Int))) (rdS PK.ring (numS (newV b) (1 : Int)))) (rdS PK.typ (rdS PK.ring (numS (newV b) (1 : Int)))))) ≤ (100000 : Nat)) (bif !eqBy (bytesM (rdC PK.desc (rdC PK.typ (rdC PK.ring (zeroC 1) (numS (newV b) (1 : Int))) (rdS PK.ring (numS (newV b) (1 : Int)))) (rdS PK.typ (rdS PK.ring (numS (newV b) (1 : Int)))))) b then K (AV.tup [AV.dat CT (zeroC 0), AV.dat I64 (2 : Int)]) [] else K (AV.tup [AV.dat CT (rdC PK.desc (rdC PK.typ (rdC PK.ring (zeroC 1) (numS (newV b) (1 : Int))) (rdS PK.ring (numS (newV b) (1 : Int)))) (rdS PK.typ (rdS PK.ring (numS (newV b) (1 : Int))))), AV.dat I64 (0 : Int)]) []) else K (AV.tup [AV.dat CT (zeroC 0), AV.dat I64 (2 : Int)]) [] else ck (List.length ((rdS PK.desc (rdS PK.typ (rdS PK.ring (numS (newV b) (1 : Int))))).1) < (100000 : Nat)) (bif !(rdS PK.payload (rdS PK.desc (rdS PK.typ (rdS PK.ring (numS (newV b) (1 : Int)))))).2.1 || (rdS PK.payload (rdS PK.desc (rdS PK.typ (rdS PK.ring (numS (newV b) (1 : Int)))))).2.2 then bif mayM (rdC PK.payload (rdC PK.desc (rdC PK.typ (rdC PK.ring (zeroC 1) (numS (newV b) (1 : Int))) (rdS PK.ring (numS (newV b) (1 : Int)))) (rdS PK.typ (rdS PK.ring (numS (newV b) (1 : Int))))) (rdS PK.desc (rdS PK.typ (rdS PK.ring (numS (newV b) (1 : Int)))))) then ck (List.length (bytesM (rdC PK.payload (rdC PK.desc (rdC PK.typ (rdC PK.ring (zeroC 1) (numS (newV b) (1 : Int))) (rdS PK.ring (numS (newV b) (1 : Int)))) (rdS PK.typ (rdS PK.ring (numS (newV b) (1 : Int))))) (rdS PK.desc (rdS PK.typ (rdS PK.ring (numS (newV b) (1 : Int))))))) ≤ (100000 : Nat)) (bif !eqBy (bytesM (rdC PK.payload (rdC PK.desc (rdC PK.typ (rdC PK.ring (zeroC 1) (numS (newV b) (1 : Int))) (rdS PK.ring (numS (newV b) (1 : Int)))) (rdS PK.typ (rdS PK.ring (numS (newV b) (1 : Int))))) (rdS PK.desc (rdS PK.typ (rdS PK.ring (numS (newV b) (1 : Int))))))) b then K (AV.tup [AV.dat CT (zeroC 0), AV.dat I64 (2 : Int)]) [] else K (AV.tup [AV.dat CT (rdC PK.payload (rdC PK.desc (rdC PK.typ (rdC PK.ring (zeroC 1) (numS (newV b) (1 : Int))) (rdS PK.ring (numS (newV b) (1 : Int)))) (rdS PK.typ (rdS PK.ring (numS (newV b) (1 : Int))))) (rdS PK.desc (rdS PK.typ (rdS PK.ring (numS (newV b) (1 : Int)))))), AV.dat I64 (0 : Int)]) []) else K (AV.tup [AV.dat CT (zeroC 0), AV.dat I64 (2 : Int)]) [] else bif mayM (rdC PK.payload (rdC PK.desc (rdC PK.typ (rdC PK.ring (zeroC 1) (numS (newV b) (1 : Int))) (rdS PK.ring (numS (newV b) (1 : Int)))) (rdS PK.typ (rdS PK.ring (numS (newV b) (1 : Int))))) (rdS PK.desc (rdS PK.typ (rdS PK.ring (numS (newV b) (1 : Int)))))) then ck (List.length (bytesM (rdC PK.payload (rdC PK.desc (rdC PK.typ (rdC PK.ring (zeroC 1) (numS (newV b) (1 : Int))) (rdS PK.ring (numS (newV b) (1 : Int)))) (rdS PK.typ (rdS PK.ring (numS (newV b) (1 : Int))))) (rdS PK.desc (rdS PK.typ (rdS PK.ring (numS (newV b) (1 : Int))))))) ≤ (100000 : Nat)) (bif !eqBy (bytesM (rdC PK.payload (rdC PK.desc (rdC PK.typ (rdC PK.ring (zeroC 1) (numS (newV b) (1 : Int))) (rdS PK.ring (numS (newV b) (1 : Int)))) (rdS PK.typ (rdS PK.ring (numS (newV b) (1 : Int))))) (rdS PK.desc (rdS PK.typ (rdS PK.ring (numS (newV b) (1 : Int))))))) b then K (AV.tup [AV.dat CT (zeroC 0), AV.dat I64 (2 : Int)]) [] else K (AV.tup [AV.dat CT (rdC PK.payload (rdC PK.desc (rdC PK.typ (rdC PK.ring (zeroC 1) (numS (newV b) (1 : Int))) (rdS PK.ring (numS (newV b) (1 : Int)))) (rdS PK.typ (rdS PK.ring (numS (newV b) (1 : Int))))) (rdS PK.desc (rdS PK.typ (rdS PK.ring (numS (newV b) (1 : Int)))))), AV.dat I64 (0 : Int)]) []) else K (AV.tup [AV.dat CT (zeroC 0), AV.dat I64 (2 : Int)]) [])))))) := by kernel_rfl
theorem of_2 {R : Type} (K : KV R) (b : List Int) : (codeX Tryd.prog (G24c 2 [.typ, .desc]) lv24c 8 Tryd.f24).run [.dat BL b] [] K = bif decide ((298 : Int) < (↑(List.length b) : Int)) then K (AV.tup [AV.dat CT (zeroC 0), AV.dat I64 (2 : Int)]) [] else ck (List.length b < (1000000 : Nat)) (ck ((1 : Int) = (1 : Int) ∧ List.length ((newV b).1) < (100000 : Nat) ∧ numV (newV b) (1 : Int) = (2 : Int)) (ck (List.length ((numS (newV b) (1 : Int)).1) < (100000 : Nat)) (bif !(rdS PK.typ (numS (newV b) (1 : Int))).2.1 || (rdS PK.typ (numS (newV b) (1 : Int))).2.2 then bif mayM (rdC PK.typ (zeroC 2) (numS (newV b) (1 : Int))) then ck (List.length (bytesM (rdC PK.typ (zeroC 2) (numS (newV b) (1 : Int)))) ≤ (100000 : Nat)) (bif !eqBy (bytesM (rdC PK.typ (zeroC 2) (numS (newV b) (1 : Int)))) b then K (AV.tup [AV.dat CT (zeroC 0), AV.dat I64 (2 : Int)]) [] else K (AV.tup [AV.dat CT (rdC PK.typ (zeroC 2) (numS (newV b) (1 : Int))), AV.dat I64 (0 : Int)]) []) else K (AV.tup [AV.dat CT (zeroC 0), AV.dat I64 (2 : Int)]) [] else ck (List.length ((rdS PK.typ (numS (newV b) (1 : Int))).1) < (100000 : Nat)) (bif !(rdS PK.desc (rdS PK.typ (numS (newV b) (1 : Int)))).2.1 || (rdS PK.desc (rdS PK.typ (numS (newV b) (1 : Int)))).2.2 then bif mayM (rdC PK.desc (rdC PK.typ (zeroC 2) (numS (newV b) (1 : Int))) (rdS PK.typ (numS (newV b) (1 : Int)))) then ck (List.length (bytesM (rdC PK.desc (rdC PK.typ (zeroC 2) (numS (newV b) (1 : Int))) (rdS PK.typ (numS (newV b) (1 : Int))))) ≤ (100000 : Nat)) (bif !eqBy (bytesM (rdC PK.desc (rdC PK.typ (zeroC 2) (numS (newV b) (1 : Int))) (rdS PK.typ (numS (newV b) (1 : Int))))) b then K (AV.tup [AV.dat CT (zeroC 0), AV.dat I64 (2 : Int)]) [] else K (AV.tup [AV.dat CT (rdC PK.desc (rdC PK.typ (zeroC 2) (numS (newV b) (1 : Int))) (rdS PK.typ (numS (newV b) (1 : Int)))), AV.dat I64 (0 : Int)]) []) else K (AV.tup [AV.dat CT (zeroC 0), AV.dat I64 (2 : Int)]) [] else bif mayM (rdC PK.desc (rdC PK.typ (zeroC 2) (numS (newV b) (1 : Int))) (rdS PK.typ (numS (newV b) (1 : Int)))) then ck (List.length (bytesM (rdC PK.desc (rdC PK.typ (zeroC 2) (numS (newV b) (1 : Int))) (rdS PK.typ (numS (newV b) (1 : Int))))) ≤ (100000 : Nat)) (bif !eqBy (bytesM (rdC PK.desc (rdC PK.typ (zeroC 2) (numS (newV b) (1 : Int))) (rdS PK.typ (numS (newV b) (1 : Int))))) b then K (AV.tup [AV.dat CT (zeroC 0), AV.dat I64 (2 : Int)]) [] else K (AV.tup [AV.dat CT (rdC PK.desc (rdC PK.typ (zeroC 2) (numS (newV b) (1 : Int))) (rdS PK.typ (numS (newV b) (1 : Int)))), AV.dat I64 (0 : Int)]) []) else K (AV.tup [AV.dat CT (zeroC 0), AV.dat I64 (2 : Int)]) [])))) := by kernel_rfl
theorem of_3 {R : Type} (K : KV R) (b : List Int) : (codeX Tryd.prog (G24c 3 [.ring, .typ, .desc]) lv24c 8 Tryd.f24).run [.dat BL b] [] K = bif decide ((298 : Int) < (↑(List.length b) : Int)) then K (AV.tup [AV.dat CT (zeroC 0), AV.dat I64 (2 : Int)]) [] else ck (List.length b < (1000000 : Nat)) (ck ((1 : Int) = (1 : Int) ∧ List.length ((newV b).1) < (100000 : Nat) ∧ numV (newV b) (1 : Int) = (3 : Int)) (ck (List.length ((numS (newV b) (1 : Int)).1) < (100000 : Nat)) (bif !(rdS PK.ring (numS (newV b) (1 : Int))).2.1 || (rdS PK.ring (numS (newV b) (1 : Int))).2.2 then bif mayM (rdC PK.ring (zeroC 3) (numS (newV b) (1 : Int))) then ck (List.length (bytesM (rdC PK.ring (zeroC 3) (numS (newV b) (1 : Int)))) ≤ (100000 : Nat)) (bif !eqBy (bytesM (rdC PK.ring (zeroC 3) (numS (newV b) (1 : Int)))) b then K (AV.tup [AV.dat CT (zeroC 0), AV.dat I64 (2 : Int)]) [] else K (AV.tup [AV.dat CT (rdC PK.ring (zeroC 3) (numS (newV b) (1 : Int))), AV.dat I64 (0 : Int)]) []) else K (AV.tup [AV.dat CT (zeroC 0), AV.dat I64 (2 : Int)]) [] else ck (List.length ((rdS PK.ring (numS (newV b) (1 : Int))).1) < (100000 : Nat)) (bif !(rdS PK.typ (rdS PK.ring (numS (newV b) (1 : Int)))).2.1 || (rdS PK.typ (rdS PK.ring (numS (newV b) (1 : Int)))).2.2 then bif mayM (rdC PK.typ (rdC PK.ring (zeroC 3) (numS (newV b) (1 : Int))) (rdS PK.ring (numS (newV b) (1 : Int)))) then ck (List.length (bytesM (rdC PK.typ (rdC PK.ring (zeroC 3) (numS (newV b) (1 : Int))) (rdS PK.ring (numS (newV b) (1 : Int))))) ≤ (100000 : Nat)) (bif !eqBy (bytesM (rdC PK.typ (rdC PK.ring (zeroC 3) (numS (newV b) (1 : Int))) (rdS PK.ring (numS (newV b) (1 : Int))))) b then K (AV.tup [AV.dat CT (zeroC 0), AV.dat I64 (2 : Int)]) [] else K (AV.tup [AV.dat CT (rdC PK.typ (rdC PK.ring (zeroC 3) (numS (newV b) (1 : Int))) (rdS PK.ring (numS (newV b) (1 : Int)))), AV.dat I64 (0 : Int)]) []) else K (AV.tup [AV.dat CT (zeroC 0), AV.dat I64 (2 : Int)]) [] else ck (List.length ((rdS PK.typ (rdS PK.ring (numS (newV b) (1 : Int)))).1) < (100000 : Nat)) (bif !(rdS PK.desc (rdS PK.typ (rdS PK.ring (numS (newV b) (1 : Int))))).2.1 || (rdS PK.desc (rdS PK.typ (rdS PK.ring (numS (newV b) (1 : Int))))).2.2 then bif mayM (rdC PK.desc (rdC PK.typ (rdC PK.ring (zeroC 3) (numS (newV b) (1 : Int))) (rdS PK.ring (numS (newV b) (1 : Int)))) (rdS PK.typ (rdS PK.ring (numS (newV b) (1 : Int))))) then ck (List.length (bytesM (rdC PK.desc (rdC PK.typ (rdC PK.ring (zeroC 3) (numS (newV b) (1 : Int))) (rdS PK.ring (numS (newV b) (1 : Int)))) (rdS PK.typ (rdS PK.ring (numS (newV b) (1 : Int)))))) ≤ (100000 : Nat)) (bif !eqBy (bytesM (rdC PK.desc (rdC PK.typ (rdC PK.ring (zeroC 3) (numS (newV b) (1 : Int))) (rdS PK.ring (numS (newV b) (1 : Int)))) (rdS PK.typ (rdS PK.ring (numS (newV b) (1 : Int)))))) b then K (AV.tup [AV.dat CT (zeroC 0), AV.dat I64 (2 : Int)]) [] else K (AV.tup [AV.dat CT (rdC PK.desc (rdC PK.typ (rdC PK.ring (zeroC 3) (numS (newV b) (1 : Int))) (rdS PK.ring (numS (newV b) (1 : Int)))) (rdS PK.typ (rdS PK.ring (numS (newV b) (1 : Int))))), AV.dat I64 (0 : Int)]) []) else K (AV.tup [AV.dat CT (zeroC 0), AV.dat I64 (2 : Int)]) [] else bif mayM (rdC PK.desc (rdC PK.typ (rdC PK.ring (zeroC 3) (numS (newV b) (1 : Int))) (rdS PK.ring (numS (newV b) (1 : Int)))) (rdS PK.typ (rdS PK.ring (numS (newV b) (1 : Int))))) then ck (List.length (bytesM (rdC PK.desc (rdC PK.typ (rdC PK.ring (zeroC 3) (numS (newV b) (1 : Int))) (rdS PK.ring (numS (newV b) (1 : Int)))) (rdS PK.typ (rdS PK.ring (numS (newV b) (1 : Int)))))) ≤ (100000 : Nat)) (bif !eqBy (bytesM (rdC PK.desc (rdC PK.typ (rdC PK.ring (zeroC 3) (numS (newV b) (1 : Int))) (rdS PK.ring (numS (newV b) (1 : Int)))) (rdS PK.typ (rdS PK.ring (numS (newV b) (1 : Int)))))) b then K (AV.tup [AV.dat CT (zeroC 0), AV.dat I64 (2 : Int)]) [] else K (AV.tup [AV.dat CT (rdC PK.desc (rdC PK.typ (rdC PK.ring (zeroC 3) (numS (newV b) (1 : Int))) (rdS PK.ring (numS (newV b) (1 : Int)))) (rdS PK.typ (rdS PK.ring (numS (newV b) (1 : Int))))), AV.dat I64 (0 : Int)]) []) else K (AV.tup [AV.dat CT (zeroC 0), AV.dat I64 (2 : Int)]) []))))) := by kernel_rfl
theorem of_4 {R : Type} (K : KV R) (b : List Int) : (codeX Tryd.prog (G24c 4 [.key]) lv24c 8 Tryd.f24).run [.dat BL b] [] K = bif decide ((298 : Int) < (↑(List.length b) : Int)) then K (AV.tup [AV.dat CT (zeroC 0), AV.dat I64 (2 : Int)]) [] else ck (List.length b < (1000000 : Nat)) (ck ((1 : Int) = (1 : Int) ∧ List.length ((newV b).1) < (100000 : Nat) ∧ numV (newV b) (1 : Int) = (4 : Int)) (ck (List.length ((numS (newV b) (1 : Int)).1) < (100000 : Nat)) (bif !(rdS PK.key (numS (newV b) (1 : Int))).2.1 || (rdS PK.key (numS (newV b) (1 : Int))).2.2 then bif mayM (rdC PK.key (zeroC 4) (numS (newV b) (1 : Int))) then ck (List.length (bytesM (rdC PK.key (zeroC 4) (numS (newV b) (1 : Int)))) ≤ (100000 : Nat)) (bif !eqBy (bytesM (rdC PK.key (zeroC 4) (numS (newV b) (1 : Int)))) b then K (AV.tup [AV.dat CT (zeroC 0), AV.dat I64 (2 : Int)]) [] else K (AV.tup [AV.dat CT (rdC PK.key (zeroC 4) (numS (newV b) (1 : Int))), AV.dat I64 (0 : Int)]) []) else K (AV.tup [AV.dat CT (zeroC 0), AV.dat I64 (2 : Int)]) [] else bif mayM (rdC PK.key (zeroC 4) (numS (newV b) (1 : Int))) then ck (List.length (bytesM (rdC PK.key (zeroC 4) (numS (newV b) (1 : Int)))) ≤ (100000 : Nat)) (bif !eqBy (bytesM (rdC PK.key (zeroC 4) (numS (newV b) (1 : Int)))) b then K (AV.tup [AV.dat CT (zeroC 0), AV.dat I64 (2 : Int)]) [] else K (AV.tup [AV.dat CT (rdC PK.key (zeroC 4) (numS (newV b) (1 : Int))), AV.dat I64 (0 : Int)]) []) else K (AV.tup [AV.dat CT (zeroC 0), AV.dat I64 (2 : Int)]) []))) := by kernel_rfl
theorem of_5 {R : Type} (K : KV R) (b : List Int) : (codeX Tryd.prog (G24c 5 [.key, .payload]) lv24c 8 Tryd.f24).run [.dat BL b] [] K = bif decide ((298 : Int) < (↑(List.length b) : Int)) then K (AV.tup [AV.dat CT (zeroC 0), AV.dat I64 (2 : Int)]) [] else ck (List.length b < (1000000 : Nat)) (ck ((1 : Int) = (1 : Int) ∧ List.length ((newV b).1) < (100000 : Nat) ∧ numV (newV b) (1 : Int) = (5 : Int)) (ck (List.length ((numS (newV b) (1 : Int)).1) < (100000 : Nat)) (bif !(rdS PK.key (numS (newV b) (1 : Int))).2.1 || (rdS PK.key (numS (newV b) (1 : Int))).2.2 then bif mayM (rdC PK.key (zeroC 5) (numS (newV b) (1 : Int))) then ck (List.length (bytesM (rdC PK.key (zeroC 5) (numS (newV b) (1 : Int)))) ≤ (100000 : Nat)) (bif !eqBy (bytesM (rdC PK.key (zeroC 5) (numS (newV b) (1 : Int)))) b then K (AV.tup [AV.dat CT (zeroC 0), AV.dat I64 (2 : Int)]) [] else K (AV.tup [AV.dat CT (rdC PK.key (zeroC 5) (numS (newV b) (1 : Int))), AV.dat I64 (0 : Int)]) []) else K (AV.tup [AV.dat CT (zeroC 0), AV.dat I64 (2 : Int)]) [] else ck (List.length ((rdS PK.key (numS (newV b) (1 : Int))).1) < (100000 : Nat)) (bif !(rdS PK.payload (rdS PK.key (numS (newV b) (1 : Int)))).2.1 || (rdS PK.payload (rdS PK.key (numS (newV b) (1 : Int)))).2.2 then bif mayM (rdC PK.payload (rdC PK.key (zeroC 5) (numS (newV b) (1 : Int))) (rdS PK.key (numS (newV b) (1 : Int)))) then ck (List.length (bytesM (rdC PK.payload (rdC PK.key (zeroC 5) (numS (newV b) (1 : Int))) (rdS PK.key (numS (newV b) (1 : Int))))) ≤ (100000 : Nat)) (bif !eqBy (bytesM (rdC PK.payload (rdC PK.key (zeroC 5) (numS (newV b) (1 : Int))) (rdS PK.key (numS (newV b) (1 : Int))))) b then K (AV.tup [AV.dat CT (zeroC 0), AV.dat I64 (2 : Int)]) [] else K (AV.tup [AV.dat CT (rdC PK.payload (rdC PK.key (zeroC 5) (numS (newV b) (1 : Int))) (rdS PK.key (numS (newV b) (1 : Int)))), AV.dat I64 (0 : Int)]) []) else K (AV.tup [AV.dat CT (zeroC 0), AV.dat I64 (2 : Int)]) [] else bif mayM (rdC PK.payload (rdC PK.key (zeroC 5) (numS (newV b) (1 : Int))) (rdS PK.key (numS (newV b) (1 : Int)))) then ck (List.length (bytesM (rdC PK.payload (rdC PK.key (zeroC 5) (numS (newV b) (1 : Int))) (rdS PK.key (numS (newV b) (1 : Int))))) ≤ (100000 : Nat)) (bif !eqBy (bytesM (rdC PK.payload (rdC PK.key (zeroC 5) (numS (newV b) (1 : Int))) (rdS PK.key (numS (newV b) (1 : Int))))) b then K (AV.tup [AV.dat CT (zeroC 0), AV.dat I64 (2 : Int)]) [] else K (AV.tup [AV.dat CT (rdC PK.payload (rdC PK.key (zeroC 5) (numS (newV b) (1 : Int))) (rdS PK.key (numS (newV b) (1 : Int)))), AV.dat I64 (0 : Int)]) []) else K (AV.tup [AV.dat CT (zeroC 0), AV.dat I64 (2 : Int)]) [])))) := by kernel_rfl
theorem of_6 {R : Type} (K : KV R) (b : List Int) : (codeX Tryd.prog (G24c 6 [.key]) lv24c 8 Tryd.f24).run [.dat BL b] [] K = bif decide ((298 : Int) < (↑(List.length b) : Int)) then K (AV.tup [AV.dat CT (zeroC 0), AV.dat I64 (2 : Int)]) [] else ck (List.length b < (1000000 : Nat)) (ck ((1 : Int) = (1 : Int) ∧ List.length ((newV b).1) < (100000 : Nat) ∧ numV (newV b) (1 : Int) = (6 : Int)) (ck (List.length ((numS (newV b) (1 : Int)).1) < (100000 : Nat)) (bif !(rdS PK.key (numS (newV b) (1 : Int))).2.1 || (rdS PK.key (numS (newV b) (1 : Int))).2.2 then bif mayM (rdC PK.key (zeroC 6) (numS (newV b) (1 : Int))) then ck (List.length (bytesM (rdC PK.key (zeroC 6) (numS (newV b) (1 : Int)))) ≤ (100000 : Nat)) (bif !eqBy (bytesM (rdC PK.key (zeroC 6) (numS (newV b) (1 : Int)))) b then K (AV.tup [AV.dat CT (zeroC 0), AV.dat I64 (2 : Int)]) [] else K (AV.tup [AV.dat CT (rdC PK.key (zeroC 6) (numS (newV b) (1 : Int))), AV.dat I64 (0 : Int)]) []) else K (AV.tup [AV.dat CT (zeroC 0), AV.dat I64 (2 : Int)]) [] else bif mayM (rdC PK.key (zeroC 6) (numS (newV b) (1 : Int))) then ck (List.length (bytesM (rdC PK.key (zeroC 6) (numS (newV b) (1 : Int)))) ≤ (100000 : Nat)) (bif !eqBy (bytesM (rdC PK.key (zeroC 6) (numS (newV b) (1 : Int)))) b then K (AV.tup [AV.dat CT (zeroC 0), AV.dat I64 (2 : Int)]) [] else K (AV.tup [AV.dat CT (rdC PK.key (zeroC 6) (numS (newV b) (1 : Int))), AV.dat I64 (0 : Int)]) []) else K (AV.tup [AV.dat CT (zeroC 0), AV.dat I64 (2 : Int)]) []))) := by kernel_rfl
theorem of_7 {R : Type} (K : KV R) (b : List Int) : (codeX Tryd.prog (G24c 7 [.key, .ring]) lv24c 8 Tryd.f24).run [.dat BL b] [] K = bif decide ((298 : Int) < (↑(List.length b) : Int)) then K (AV.tup [AV.dat CT (zeroC 0), AV.dat I64 (2 : Int)]) [] else ck (List.length b < (1000000 : Nat)) (ck ((1 : Int) = (1 : Int) ∧ List.length ((newV b).1) < (100000 : Nat) ∧ numV (newV b) (1 : Int) = (7 : Int)) (ck (List.length ((numS (newV b) (1 : Int)).1) < (100000 : Nat)) (bif !(rdS PK.key (numS (newV b) (1 : Int))).2.1 || (rdS PK.key (numS (newV b) (1 : Int))).2.2 then bif mayM (rdC PK.key (zeroC 7) (numS (newV b) (1 : Int))) then ck (List.length (bytesM (rdC PK.key (zeroC 7) (numS (newV b) (1 : Int)))) ≤ (100000 : Nat)) (bif !eqBy (bytesM (rdC PK.key (zeroC 7) (numS (newV b) (1 : Int)))) b then K (AV.tup [AV.dat CT (zeroC 0), AV.dat I64 (2 : Int)]) [] else K (AV.tup [AV.dat CT (rdC PK.key (zeroC 7) (numS (newV b) (1 : Int))), AV.dat I64 (0 : Int)]) []) else K (AV.tup [AV.dat CT (zeroC 0), AV.dat I64 (2 : Int)]) [] else ck (List.length ((rdS PK.key (numS (newV b) (1 : Int))).1) < (100000 : Nat)) (bif !(rdS PK.ring (rdS PK.key (numS (newV b) (1 : Int)))).2.1 || (rdS PK.ring (rdS PK.key (numS (newV b) (1 : Int)))).2.2 then bif mayM (rdC PK.ring (rdC PK.key (zeroC 7) (numS (newV b) (1 : Int))) (rdS PK.key (numS (newV b) (1 : Int)))) then ck (List.length (bytesM (rdC PK.ring (rdC PK.key (zeroC 7) (numS (newV b) (1 : Int))) (rdS PK.key (numS (newV b) (1 : Int))))) ≤ (100000 : Nat)) (bif !eqBy (bytesM (rdC PK.ring (rdC PK.key (zeroC 7) (numS (newV b) (1 : Int))) (rdS PK.key (numS (newV b) (1 : Int))))) b then K (AV.tup [AV.dat CT (zeroC 0), AV.dat I64 (2 : Int)]) [] else K (AV.tup [AV.dat CT (rdC PK.ring (rdC PK.key (zeroC 7) (numS (newV b) (1 : Int))) (rdS PK.key (numS (newV b) (1 : Int)))), AV.dat I64 (0 : Int)]) []) else K (AV.tup [AV.dat CT (zeroC 0), AV.dat I64 (2 : Int)]) [] else bif mayM (rdC PK.ring (rdC PK.key (zeroC 7) (numS (newV b) (1 : Int))) (rdS PK.key (numS (newV b) (1 : Int)))) then ck (List.length (bytesM (rdC PK.ring (rdC PK.key (zeroC 7) (numS (newV b) (1 : Int))) (rdS PK.key (numS (newV b) (1 : Int))))) ≤ (100000 : Nat)) (bif !eqBy (bytesM (rdC PK.ring (rdC PK.key (zeroC 7) (numS (newV b) (1 : Int))) (rdS PK.key (numS (newV b) (1 : Int))))) b then K (AV.tup [AV.dat CT (zeroC 0), AV.dat I64 (2 : Int)]) [] else K (AV.tup [AV.dat CT (rdC PK.ring (rdC PK.key (zeroC 7) (numS (newV b) (1 : Int))) (rdS PK.key (numS (newV b) (1 : Int)))), AV.dat I64 (0 : Int)]) []) else K (AV.tup [AV.dat CT (zeroC 0), AV.dat I64 (2 : Int)]) [])))) := by kernel_rfl
theorem of_8 {R : Type} (K : KV R) (b : List Int) : (codeX Tryd.prog (G24c 8 [.key, .ring]) lv24c 8 Tryd.f24).run [.dat BL b] [] K = bif decide ((298 : Int) < (↑(List.length b) : Int)) then K (AV.tup [AV.dat CT (zeroC 0), AV.dat I64 (2 : Int)]) [] else ck (List.length b < (1000000 : Nat)) (ck ((1 : Int) = (1 : Int) ∧ List.length ((newV b).1) < (100000 : Nat) ∧ numV (newV b) (1 : Int) = (8 : Int)) (ck (List.length ((numS (newV b) (1 : Int)).1) < (100000 : Nat)) (bif !(rdS PK.key (numS (newV b) (1 : Int))).2.1 || (rdS PK.key (numS (newV b) (1 : Int))).2.2 then bif mayM (rdC PK.key (zeroC 8) (numS (newV b) (1 : Int))) then ck (List.length (bytesM (rdC PK.key (zeroC 8) (numS (newV b) (1 : Int)))) ≤ (100000 : Nat)) (bif !eqBy (bytesM (rdC PK.key (zeroC 8) (numS (newV b) (1 : Int)))) b then K (AV.tup [AV.dat CT (zeroC 0), AV.dat I64 (2 : Int)]) [] else K (AV.tup [AV.dat CT (rdC PK.key (zeroC 8) (numS (newV b) (1 : Int))), AV.dat I64 (0 : Int)]) []) else K (AV.tup [AV.dat CT (zeroC 0), AV.dat I64 (2 : Int)]) [] else ck (List.length ((rdS PK.key (numS (newV b) (1 : Int))).1) < (100000 : Nat)) (bif !(rdS PK.ring (rdS PK.key (numS (newV b) (1 : Int)))).2.1 || (rdS PK.ring (rdS PK.key (numS (newV b) (1 : Int)))).2.2 then bif mayM (rdC PK.ring (rdC PK.key (zeroC 8) (numS (newV b) (1 : Int))) (rdS PK.key (numS (newV b) (1 : Int)))) then ck (List.length (bytesM (rdC PK.ring (rdC PK.key (zeroC 8) (numS (newV b) (1 : Int))) (rdS PK.key (numS (newV b) (1 : Int))))) ≤ (100000 : Nat)) (bif !eqBy (bytesM (rdC PK.ring (rdC PK.key (zeroC 8) (numS (newV b) (1 : Int))) (rdS PK.key (numS (newV b) (1 : Int))))) b then K (AV.tup [AV.dat CT (zeroC 0), AV.dat I64 (2 : Int)]) [] else K (AV.tup [AV.dat CT (rdC PK.ring (rdC PK.key (zeroC 8) (numS (newV b) (1 : Int))) (rdS PK.key (numS (newV b) (1 : Int)))), AV.dat I64 (0 : Int)]) []) else K (AV.tup [AV.dat CT (zeroC 0), AV.dat I64 (2 : Int)]) [] else bif mayM (rdC PK.ring (rdC PK.key (zeroC 8) (numS (newV b) (1 : Int))) (rdS PK.key (numS (newV b) (1 : Int)))) then ck (List.length (bytesM (rdC PK.ring (rdC PK.key (zeroC 8) (numS (newV b) (1 : Int))) (rdS PK.key (numS (newV b) (1 : Int))))) ≤ (100000 : Nat)) (bif !eqBy (bytesM (rdC PK.ring (rdC PK.key (zeroC 8) (numS (newV b) (1 : Int))) (rdS PK.key (numS (newV b) (1 : Int))))) b then K (AV.tup [AV.dat CT (zeroC 0), AV.dat I64 (2 : Int)]) [] else K (AV.tup [AV.dat CT (rdC PK.ring (rdC PK.key (zeroC 8) (numS (newV b) (1 : Int))) (rdS PK.key (numS (newV b) (1 : Int)))), AV.dat I64 (0 : Int)]) []) else K (AV.tup [AV.dat CT (zeroC 0), AV.dat I64 (2 : Int)]) [])))) := by kernel_rfl
theorem of_9 {R : Type} (K : KV R) (b : List Int) : (codeX Tryd.prog (G24c 9 [.key, .ring, .to]) lv24c 8 Tryd.f24).run [.dat BL b] [] K = bif decide ((298 : Int) < (↑(List.length b) : Int)) then K (AV.tup [AV.dat CT (zeroC 0), AV.dat I64 (2 : Int)]) [] else ck (List.length b < (1000000 : Nat)) (ck ((1 : Int) = (1 : Int) ∧ List.length ((newV b).1) < (100000 : Nat) ∧ numV (newV b) (1 : Int) = (9 : Int)) (ck (List.length ((numS (newV b) (1 : Int)).1) < (100000 : Nat)) (bif !(rdS PK.key (numS (newV b) (1 : Int))).2.1 || (rdS PK.key (numS (newV b) (1 : Int))).2.2 then bif mayM (rdC PK.key (zeroC 9) (numS (newV b) (1 : Int))) then ck (List.length (bytesM (rdC PK.key (zeroC 9) (numS (newV b) (1 : Int)))) ≤ (100000 : Nat)) (bif !eqBy (bytesM (rdC PK.key (zeroC 9) (numS (newV b) (1 : Int)))) b then K (AV.tup [AV.dat CT (zeroC 0), AV.dat I64 (2 : Int)]) [] else K (AV.tup [AV.dat CT (rdC PK.key (zeroC 9) (numS (newV b) (1 : Int))), AV.dat I64 (0 : Int)]) []) else K (AV.tup [AV.dat CT (zeroC 0), AV.dat I64 (2 : Int)]) [] else ck (List.length ((rdS PK.key (numS (newV b) (1 : Int))).1) < (100000 : Nat)) (bif !(rdS PK.ring (rdS PK.key (numS (newV b) (1 : Int)))).2.1 || (rdS PK.ring (rdS PK.key (numS (newV b) (1 : Int)))).2.2 then bif mayM (rdC PK.ring (rdC PK.key (zeroC 9) (numS (newV b) (1 : Int))) (rdS PK.key (numS (newV b) (1 : Int)))) then ck (List.length (bytesM (rdC PK.ring (rdC PK.key (zeroC 9) (numS (newV b) (1 : Int))) (rdS PK.key (numS (newV b) (1 : Int))))) ≤ (100000 : Nat)) (bif !eqBy (bytesM (rdC PK.ring (rdC PK.key (zeroC 9) (numS (newV b) (1 : Int))) (rdS PK.key (numS (newV b) (1 : Int))))) b then K (AV.tup [AV.dat CT (zeroC 0), AV.dat I64 (2 : Int)]) [] else K (AV.tup [AV.dat CT (rdC PK.ring (rdC PK.key (zeroC 9) (numS (newV b) (1 : Int))) (rdS PK.key (numS (newV b) (1 : Int)))), AV.dat I64 (0 : Int)]) []) else K (AV.tup [AV.dat CT (zeroC 0), AV.dat I64 (2 : Int)]) [] else ck (List.length ((rdS PK.ring (rdS PK.key (numS (newV b) (1 : Int)))).1) < (100000 : Nat)) (bif !(rdS PK.to (rdS PK.ring (rdS PK.key (numS (newV b) (1 : Int))))).2.1 || (rdS PK.to (rdS PK.ring (rdS PK.key (numS (newV b) (1 : Int))))).2.2 then bif mayM (rdC PK.to (rdC PK.ring (rdC PK.key (zeroC 9) (numS (newV b) (1 : Int))) (rdS PK.key (numS (newV b) (1 : Int)))) (rdS PK.ring (rdS PK.key (numS (newV b) (1 : Int))))) then ck (List.length (bytesM (rdC PK.to (rdC PK.ring (rdC PK.key (zeroC 9) (numS (newV b) (1 : Int))) (rdS PK.key (numS (newV b) (1 : Int)))) (rdS PK.ring (rdS PK.key (numS (newV b) (1 : Int)))))) ≤ (100000 : Nat)) (bif !eqBy (bytesM (rdC PK.to (rdC PK.ring (rdC PK.key (zeroC 9) (numS (newV b) (1 : Int))) (rdS PK.key (numS (newV b) (1 : Int)))) (rdS PK.ring (rdS PK.key (numS (newV b) (1 : Int)))))) b then K (AV.tup [AV.dat CT (zeroC 0), AV.dat I64 (2 : Int)]) [] else K (AV.tup [AV.dat CT (rdC PK.to (rdC PK.ring (rdC PK.key (zeroC 9) (numS (newV b) (1 : Int))) (rdS PK.key (numS (newV b) (1 : Int)))) (rdS PK.ring (rdS PK.key (numS (newV b) (1 : Int))))), AV.dat I64 (0 : Int)]) []) else K (AV.tup [AV.dat CT (zeroC 0), AV.dat I64 (2 : Int)]) [] else bif mayM (rdC PK.to (rdC PK.ring (rdC PK.key (zeroC 9) (numS (newV b) (1 : Int))) (rdS PK.key (numS (newV b) (1 : Int)))) (rdS PK.ring (rdS PK.key (numS (newV b) (1 : Int))))) then ck (List.length (bytesM (rdC PK.to (rdC PK.ring (rdC PK.key (zeroC 9) (numS (newV b) (1 : Int))) (rdS PK.key (numS (newV b) (1 : Int)))) (rdS PK.ring (rdS PK.key (numS (newV b) (1 : Int)))))) ≤ (100000 : Nat)) (bif !eqBy (bytesM (rdC PK.to (rdC PK.ring (rdC PK.key (zeroC 9) (numS (newV b) (1 : Int))) (rdS PK.key (numS (newV b) (1 : Int)))) (rdS PK.ring (rdS PK.key (numS (newV b) (1 : Int)))))) b then K (AV.tup [AV.dat CT (zeroC 0), AV.dat I64 (2 : Int)]) [] else K (AV.tup [AV.dat CT (rdC PK.to (rdC PK.ring (rdC PK.key (zeroC 9) (numS (newV b) (1 : Int))) (rdS PK.key (numS (newV b) (1 : Int)))) (rdS PK.ring (rdS PK.key (numS (newV b) (1 : Int))))), AV.dat I64 (0 : Int)]) []) else K (AV.tup [AV.dat CT (zeroC 0), AV.dat I64 (2 : Int)]) []))))) := by kernel_rfl
theorem of_10 {R : Type} (K : KV R) (b : List Int) : (codeX Tryd.prog (G24c 10 [.ring]) lv24c 8 Tryd.f24).run [.dat BL b] [] K = bif decide ((298 : Int) < (↑(List.length b) : Int)) then K (AV.tup [AV.dat CT (zeroC 0), AV.dat I64 (2 : Int)]) [] else ck (List.length b < (1000000 : Nat)) (ck ((1 : Int) = (1 : Int) ∧ List.length ((newV b).1) < (100000 : Nat) ∧ numV (newV b) (1 : Int) = (10 : Int)) (ck (List.length ((numS (newV b) (1 : Int)).1) < (100000 : Nat)) (bif !(rdS PK.ring (numS (newV b) (1 : Int))).2.1 || (rdS PK.ring (numS (newV b) (1 : Int))).2.2 then bif mayM (rdC PK.ring (zeroC 10) (numS (newV b) (1 : Int))) then ck (List.length (bytesM (rdC PK.ring (zeroC 10) (numS (newV b) (1 : Int)))) ≤ (100000 : Nat)) (bif !eqBy (bytesM (rdC PK.ring (zeroC 10) (numS (newV b) (1 : Int)))) b then K (AV.tup [AV.dat CT (zeroC 0), AV.dat I64 (2 : Int)]) [] else K (AV.tup [AV.dat CT (rdC PK.ring (zeroC 10) (numS (newV b) (1 : Int))), AV.dat I64 (0 : Int)]) []) else K (AV.tup [AV.dat CT (zeroC 0), AV.dat I64 (2 : Int)]) [] else bif mayM (rdC PK.ring (zeroC 10) (numS (newV b) (1 : Int))) then ck (List.length (bytesM (rdC PK.ring (zeroC 10) (numS (newV b) (1 : Int)))) ≤ (100000 : Nat)) (bif !eqBy (bytesM (rdC PK.ring (zeroC 10) (numS (newV b) (1 : Int)))) b then K (AV.tup [AV.dat CT (zeroC 0), AV.dat I64 (2 : Int)]) [] else K (AV.tup [AV.dat CT (rdC PK.ring (zeroC 10) (numS (newV b) (1 : Int))), AV.dat I64 (0 : Int)]) []) else K (AV.tup [AV.dat CT (zeroC 0), AV.dat I64 (2 : Int)]) []))) := by kernel_rfl
theorem of_11 {R : Type} (K : KV R) (b : List Int) : (codeX Tryd.prog (G24c 11 [.key, .perm]) lv24c 8 Tryd.f24).run [.dat BL b] [] K = bif decide ((298 : Int) < (↑(List.length b) : Int)) then K (AV.tup [AV.dat CT (zeroC 0), AV.dat I64 (2 : Int)]) [] else ck (List.length b < (1000000 : Nat)) (ck ((1 : Int) = (1 : Int) ∧ List.length ((newV b).1) < (100000 : Nat) ∧ numV (newV b) (1 : Int) = (11 : Int)) (ck (List.length ((numS (newV b) (1 : Int)).1) < (100000 : Nat)) (bif !(rdS PK.key (numS (newV b) (1 : Int))).2.1 || (rdS PK.key (numS (newV b) (1 : Int))).2.2 then bif mayM (rdC PK.key (zeroC 11) (numS (newV b) (1 : Int))) then ck (List.length (bytesM (rdC PK.key (zeroC 11) (numS (newV b) (1 : Int)))) ≤ (100000 : Nat)) (bif !eqBy (bytesM (rdC PK.key (zeroC 11) (numS (newV b) (1 : Int)))) b then K (AV.tup [AV.dat CT (zeroC 0), AV.dat I64 (2 : Int)]) [] else K (AV.tup [AV.dat CT (rdC PK.key (zeroC 11) (numS (newV b) (1 : Int))), AV.dat I64 (0 : Int)]) []) else K (AV.tup [AV.dat CT (zeroC 0), AV.dat I64 (2 : Int)]) [] else ck (List.length ((rdS PK.key (numS (newV b) (1 : Int))).1) < (100000 : Nat)) (bif !(rdS PK.perm (rdS PK.key (numS (newV b) (1 : Int)))).2.1 || (rdS PK.perm (rdS PK.key (numS (newV b) (1 : Int)))).2.2 then ck (okPerm (rdC PK.perm (rdC PK.key (zeroC 11) (numS (newV b) (1 : Int))) (rdS PK.key (numS (newV b) (1 : Int))))) (bif mayM (rdC PK.perm (rdC PK.key (zeroC 11) (numS (newV b) (1 : Int))) (rdS PK.key (numS (newV b) (1 : Int)))) then ck (List.length (bytesM (rdC PK.perm (rdC PK.key (zeroC 11) (numS (newV b) (1 : Int))) (rdS PK.key (numS (newV b) (1 : Int))))) ≤ (100000 : Nat)) (bif !eqBy (bytesM (rdC PK.perm (rdC PK.key (zeroC 11) (numS (newV b) (1 : Int))) (rdS PK.key (numS (newV b) (1 : Int))))) b then K (AV.tup [AV.dat CT (zeroC 0), AV.dat I64 (2 : Int)]) [] else K (AV.tup [AV.dat CT (rdC PK.perm (rdC PK.key (zeroC 11) (numS (newV b) (1 : Int))) (rdS PK.key (numS (newV b) (1 : Int)))), AV.dat I64 (0 : Int)]) []) else K (AV.tup [AV.dat CT (zeroC 0), AV.dat I64 (2 : Int)]) []) else ck (okPerm (rdC PK.perm (rdC PK.key (zeroC 11) (numS (newV b) (1 : Int))) (rdS PK.key (numS (newV b) (1 : Int))))) (bif mayM (rdC PK.perm (rdC PK.key (zeroC 11) (numS (newV b) (1 : Int))) (rdS PK.key (numS (newV b) (1 : Int)))) then ck (List.length (bytesM (rdC PK.perm (rdC PK.key (zeroC 11) (numS (newV b) (1 : Int))) (rdS PK.key (numS (newV b) (1 : Int))))) ≤ (100000 : Nat)) (bif !eqBy (bytesM (rdC PK.perm (rdC PK.key (zeroC 11) (numS (newV b) (1 : Int))) (rdS PK.key (numS (newV b) (1 : Int))))) b then K (AV.tup [AV.dat CT (zeroC 0), AV.dat I64 (2 : Int)]) [] else K (AV.tup [AV.dat CT (rdC PK.perm (rdC PK.key (zeroC 11) (numS (newV b) (1 : Int))) (rdS PK.key (numS (newV b) (1 : Int)))), AV.dat I64 (0 : Int)]) []) else K (AV.tup [AV.dat CT (zeroC 0), AV.dat I64 (2 : Int)]) []))))) := by kernel_rfl
theorem of_12 {R : Type} (K : KV R) (b : List Int) : (codeX Tryd.prog (G24c 12 [.key, .uid, .gid]) lv24c 8 Tryd.f24).run [.dat BL b] [] K = bif decide ((298 : Int) < (↑(List.length b) : Int)) then K (AV.tup [AV.dat CT (zeroC 0), AV.dat I64 (2 : Int)]) [] else ck (List.length b < (1000000 : Nat)) (ck ((1 : Int) = (1 : Int) ∧ List.length ((newV b).1) < (100000 : Nat) ∧ numV (newV b) (1 : Int) = (12 : Int)) (ck (List.length ((numS (newV b) (1 : Int)).1) < (100000 : Nat)) (bif !(rdS PK.key (numS (newV b) (1 : Int))).2.1 || (rdS PK.key (numS (newV b) (1 : Int))).2.2 then bif mayM (rdC PK.key (zeroC 12) (numS (newV b) (1 : Int))) then ck (List.length (bytesM (rdC PK.key (zeroC 12) (numS (newV b) (1 : Int)))) ≤ (100000 : Nat)) (bif !eqBy (bytesM (rdC PK.key (zeroC 12) (numS (newV b) (1 : Int)))) b then K (AV.tup [AV.dat CT (zeroC 0), AV.dat I64 (2 : Int)]) [] else K (AV.tup [AV.dat CT (rdC PK.key (zeroC 12) (numS (newV b) (1 : Int))), AV.dat I64 (0 : Int)]) []) else K (AV.tup [AV.dat CT (zeroC 0), AV.dat I64 (2 : Int)]) [] else ck (List.length ((rdS PK.key (numS (newV b) (1 : Int))).1) < (100000 : Nat)) (bif !(rdS PK.uid (rdS PK.key (numS (newV b) (1 : Int)))).2.1 || (rdS PK.uid (rdS PK.key (numS (newV b) (1 : Int)))).2.2 then bif mayM (rdC PK.uid (rdC PK.key (zeroC 12) (numS (newV b) (1 : Int))) (rdS PK.key (numS (newV b) (1 : Int)))) then ck (List.length (bytesM (rdC PK.uid (rdC PK.key (zeroC 12) (numS (newV b) (1 : Int))) (rdS PK.key (numS (newV b) (1 : Int))))) ≤ (100000 : Nat)) (bif !eqBy (bytesM (rdC PK.uid (rdC PK.key (zeroC 12) (numS (newV b) (1 : Int))) (rdS PK.key (numS (newV b) (1 : Int))))) b then K (AV.tup [AV.dat CT (zeroC 0), AV.dat I64 (2 : Int)]) [] else K (AV.tup [AV.dat CT (rdC PK.uid (rdC PK.key (zeroC 12) (numS (newV b) (1 : Int))) (rdS PK.key (numS (newV b) (1 : Int)))), AV.dat I64 (0 : Int)]) []) else K (AV.tup [AV.dat CT (zeroC 0), AV.dat I64 (2 : Int)]) [] else ck (List.length ((rdS PK.uid (rdS PK.key (numS (newV b) (1 : Int)))).1) < (100000 : Nat)) (bif !(rdS PK.gid (rdS PK.uid (rdS PK.key (numS (newV b) (1 : Int))))).2.1 || (rdS PK.gid (rdS PK.uid (rdS PK.key (numS (newV b) (1 : Int))))).2.2 then bif mayM (rdC PK.gid (rdC PK.uid (rdC PK.key (zeroC 12) (numS (newV b) (1 : Int))) (rdS PK.key (numS (newV b) (1 : Int)))) (rdS PK.uid (rdS PK.key (numS (newV b) (1 : Int))))) then ck (List.length (bytesM (rdC PK.gid (rdC PK.uid (rdC PK.key (zeroC 12) (numS (newV b) (1 : Int))) (rdS PK.key (numS (newV b) (1 : Int)))) (rdS PK.uid (rdS PK.key (numS (newV b) (1 : Int)))))) ≤ (100000 : Nat)) (bif !eqBy (bytesM (rdC PK.gid (rdC PK.uid (rdC PK.key (zeroC 12) (numS (newV b) (1 : Int))) (rdS PK.key (numS (newV b) (1 : Int)))) (rdS PK.uid (rdS PK.key (numS (newV b) (1 : Int)))))) b then K (AV.tup [AV.dat CT (zeroC 0), AV.dat I64 (2 : Int)]) [] else K (AV.tup [AV.dat CT (rdC PK.gid (rdC PK.uid (rdC PK.key (zeroC 12) (numS (newV b) (1 : Int))) (rdS PK.key (numS (newV b) (1 : Int)))) (rdS PK.uid (rdS PK.key (numS (newV b) (1 : Int))))), AV.dat I64 (0 : Int)]) []) else K (AV.tup [AV.dat CT (zeroC 0), AV.dat I64 (2 : Int)]) [] else bif mayM (rdC PK.gid (rdC PK.uid (rdC PK.key (zeroC 12) (numS (newV b) (1 : Int))) (rdS PK.key (numS (newV b) (1 : Int)))) (rdS PK.uid (rdS PK.key (numS (newV b) (1 : Int))))) then ck (List.length (bytesM (rdC PK.gid (rdC PK.uid (rdC PK.key (zeroC 12) (numS (newV b) (1 : Int))) (rdS PK.key (numS (newV b) (1 : Int)))) (rdS PK.uid (rdS PK.key (numS (newV b) (1 : Int)))))) ≤ (100000 : Nat)) (bif !eqBy (bytesM (rdC PK.gid (rdC PK.uid (rdC PK.key (zeroC 12) (numS (newV b) (1 : Int))) (rdS PK.key (numS (newV b) (1 : Int)))) (rdS PK.uid (rdS PK.key (numS (newV b) (1 : Int)))))) b then K (AV.tup [AV.dat CT (zeroC 0), AV.dat I64 (2 : Int)]) [] else K (AV.tup [AV.dat CT (rdC PK.gid (rdC PK.uid (rdC PK.key (zeroC 12) (numS (newV b) (1 : Int))) (rdS PK.key (numS (newV b) (1 : Int)))) (rdS PK.uid (rdS PK.key (numS (newV b) (1 : Int))))), AV.dat I64 (0 : Int)]) []) else K (AV.tup [AV.dat CT (zeroC 0), AV.dat I64 (2 : Int)]) []))))) := by kernel_rfl
theorem of_13 {R : Type} (K : KV R) (b : List Int) : (codeX Tryd.prog (G24c 13 [.key, .time]) lv24c 8 Tryd.f24).run [.dat BL b] [] K = bif decide ((298 : Int) < (↑(List.length b) : Int)) then K (AV.tup [AV.dat CT (zeroC 0), AV.dat I64 (2 : Int)]) [] else ck (List.length b < (1000000 : Nat)) (ck ((1 : Int) = (1 : Int) ∧ List.length ((newV b).1) < (100000 : Nat) ∧ numV (newV b) (1 : Int) = (13 : Int)) (ck (List.length ((numS (newV b) (1 : Int)).1) < (100000 : Nat)) (bif !(rdS PK.key (numS (newV b) (1 : Int))).2.1 || (rdS PK.key (numS (newV b) (1 : Int))).2.2 then bif mayM (rdC PK.key (zeroC 13) (numS (newV b) (1 : Int))) then ck (List.length (bytesM (rdC PK.key (zeroC 13) (numS (newV b) (1 : Int)))) ≤ (100000 : Nat)) (bif !eqBy (bytesM (rdC PK.key (zeroC 13) (numS (newV b) (1 : Int)))) b then K (AV.tup [AV.dat CT (zeroC 0), AV.dat I64 (2 : Int)]) [] else K (AV.tup [AV.dat CT (rdC PK.key (zeroC 13) (numS (newV b) (1 : Int))), AV.dat I64 (0 : Int)]) []) else K (AV.tup [AV.dat CT (zeroC 0), AV.dat I64 (2 : Int)]) [] else ck (List.length ((rdS PK.key (numS (newV b) (1 : Int))).1) < (100000 : Nat)) (bif !(rdS PK.time (rdS PK.key (numS (newV b) (1 : Int)))).2.1 || (rdS PK.time (rdS PK.key (numS (newV b) (1 : Int)))).2.2 then bif mayM (rdC PK.time (rdC PK.key (zeroC 13) (numS (newV b) (1 : Int))) (rdS PK.key (numS (newV b) (1 : Int)))) then ck (List.length (bytesM (rdC PK.time (rdC PK.key (zeroC 13) (numS (newV b) (1 : Int))) (rdS PK.key (numS (newV b) (1 : Int))))) ≤ (100000 : Nat)) (bif !eqBy (bytesM (rdC PK.time (rdC PK.key (zeroC 13) (numS (newV b) (1 : Int))) (rdS PK.key (numS (newV b) (1 : Int))))) b then K (AV.tup [AV.dat CT (zeroC 0), AV.dat I64 (2 : Int)]) [] else K (AV.tup [AV.dat CT (rdC PK.time (rdC PK.key (zeroC 13) (numS (newV b) (1 : Int))) (rdS PK.key (numS (newV b) (1 : Int)))), AV.dat I64 (0 : Int)]) []) else K (AV.tup [AV.dat CT (zeroC 0), AV.dat I64 (2 : Int)]) [] else bif mayM (rdC PK.time (rdC PK.key (zeroC 13) (numS (newV b) (1 : Int))) (rdS PK.key (numS (newV b) (1 : Int)))) then ck (List.length (bytesM (rdC PK.time (rdC PK.key (zeroC 13) (numS (newV b) (1 : Int))) (rdS PK.key (numS (newV b) (1 : Int))))) ≤ (100000 : Nat)) (bif !eqBy (bytesM (rdC PK.time (rdC PK.key (zeroC 13) (numS (newV b) (1 : Int))) (rdS PK.key (numS (newV b) (1 : Int))))) b then K (AV.tup [AV.dat CT (zeroC 0), AV.dat I64 (2 : Int)]) [] else K (AV.tup [AV.dat CT (rdC PK.time (rdC PK.key (zeroC 13) (numS (newV b) (1 : Int))) (rdS PK.key (numS (newV b) (1 : Int)))), AV.dat I64 (0 : Int)]) []) else K (AV.tup [AV.dat CT (zeroC 0), AV.dat I64 (2 : Int)]) [])))) := by kernel_rfl
theorem of_14 {R : Type} (K : KV R) (b : List Int) : (codeX Tryd.prog (G24c 14 [.key]) lv24c 8 Tryd.f24).run [.dat BL b] [] K = bif decide ((298 : Int) < (↑(List.length b) : Int)) then K (AV.tup [AV.dat CT (zeroC 0), AV.dat I64 (2 : Int)]) [] else ck (List.length b < (1000000 : Nat)) (ck ((1 : Int) = (1 : Int) ∧ List.length ((newV b).1) < (100000 : Nat) ∧ numV (newV b) (1 : Int) = (14 : Int)) (ck (List.length ((numS (newV b) (1 : Int)).1) < (100000 : Nat)) (bif !(rdS PK.key (numS (newV b) (1 : Int))).2.1 || (rdS PK.key (numS (newV b) (1 : Int))).2.2 then bif mayM (rdC PK.key (zeroC 14) (numS (newV b) (1 : Int))) then ck (List.length (bytesM (rdC PK.key (zeroC 14) (numS (newV b) (1 : Int)))) ≤ (100000 : Nat)) (bif !eqBy (bytesM (rdC PK.key (zeroC 14) (numS (newV b) (1 : Int)))) b then K (AV.tup [AV.dat CT (zeroC 0), AV.dat I64 (2 : Int)]) [] else K (AV.tup [AV.dat CT (rdC PK.key (zeroC 14) (numS (newV b) (1 : Int))), AV.dat I64 (0 : Int)]) []) else K (AV.tup [AV.dat CT (zeroC 0), AV.dat I64 (2 : Int)]) [] else bif mayM (rdC PK.key (zeroC 14) (numS (newV b) (1 : Int))) then ck (List.length (bytesM (rdC PK.key (zeroC 14) (numS (newV b) (1 : Int)))) ≤ (100000 : Nat)) (bif !eqBy (bytesM (rdC PK.key (zeroC 14) (numS (newV b) (1 : Int)))) b then K (AV.tup [AV.dat CT (zeroC 0), AV.dat I64 (2 : Int)]) [] else K (AV.tup [AV.dat CT (rdC PK.key (zeroC 14) (numS (newV b) (1 : Int))), AV.dat I64 (0 : Int)]) []) else K (AV.tup [AV.dat CT (zeroC 0), AV.dat I64 (2 : Int)]) []))) := by kernel_rfl
theorem of_15 {R : Type} (K : KV R) (b : List Int) : (codeX Tryd.prog (G24c 15 [.key]) lv24c 8 Tryd.f24).run [.dat BL b] [] K = bif decide ((298 : Int) < (↑(List.length b) : Int)) then K (AV.tup [AV.dat CT (zeroC 0), AV.dat I64 (2 : Int)]) [] else ck (List.length b < (1000000 : Nat)) (ck ((1 : Int) = (1 : Int) ∧ List.length ((newV b).1) < (100000 : Nat) ∧ numV (newV b) (1 : Int) = (15 : Int)) (ck (List.length ((numS (newV b) (1 : Int)).1) < (100000 : Nat)) (bif !(rdS PK.key (numS (newV b) (1 : Int))).2.1 || (rdS PK.key (numS (newV b) (1 : Int))).2.2 then bif mayM (rdC PK.key (zeroC 15) (numS (newV b) (1 : Int))) then ck (List.length (bytesM (rdC PK.key (zeroC 15) (numS (newV b) (1 : Int)))) ≤ (100000 : Nat)) (bif !eqBy (bytesM (rdC PK.key (zeroC 15) (numS (newV b) (1 : Int)))) b then K (AV.tup [AV.dat CT (zeroC 0), AV.dat I64 (2 : Int)]) [] else K (AV.tup [AV.dat CT (rdC PK.key (zeroC 15) (numS (newV b) (1 : Int))), AV.dat I64 (0 : Int)]) []) else K (AV.tup [AV.dat CT (zeroC 0), AV.dat I64 (2 : Int)]) [] else bif mayM (rdC PK.key (zeroC 15) (numS (newV b) (1 : Int))) then ck (List.length (bytesM (rdC PK.key (zeroC 15) (numS (newV b) (1 : Int)))) ≤ (100000 : Nat)) (bif !eqBy (bytesM (rdC PK.key (zeroC 15) (numS (newV b) (1 : Int)))) b then K (AV.tup [AV.dat CT (zeroC 0), AV.dat I64 (2 : Int)]) [] else K (AV.tup [AV.dat CT (rdC PK.key (zeroC 15) (numS (newV b) (1 : Int))), AV.dat I64 (0 : Int)]) []) else K (AV.tup [AV.dat CT (zeroC 0), AV.dat I64 (2 : Int)]) []))) := by kernel_rfl
theorem of_16 {R : Type} (K : KV R) (b : List Int) : (codeX Tryd.prog (G24c 16 [.ring, .restrict]) lv24c 8 Tryd.f24).run [.dat BL b] [] K = bif decide ((298 : Int) < (↑(List.length b) : Int)) then K (AV.tup [AV.dat CT (zeroC 0), AV.dat I64 (2 : Int)]) [] else ck (List.length b < (1000000 : Nat)) (ck ((1 : Int) = (1 : Int) ∧ List.length ((newV b).1) < (100000 : Nat) ∧ numV (newV b) (1 : Int) = (16 : Int)) (ck (List.length ((numS (newV b) (1 : Int)).1) < (100000 : Nat)) (bif !(rdS PK.ring (numS (newV b) (1 : Int))).2.1 || (rdS PK.ring (numS (newV b) (1 : Int))).2.2 then bif mayM (rdC PK.ring (zeroC 16) (numS (newV b) (1 : Int))) then ck (List.length (bytesM (rdC PK.ring (zeroC 16) (numS (newV b) (1 : Int)))) ≤ (100000 : Nat)) (bif !eqBy (bytesM (rdC PK.ring (zeroC 16) (numS (newV b) (1 : Int)))) b then K (AV.tup [AV.dat CT (zeroC 0), AV.dat I64 (2 : Int)]) [] else K (AV.tup [AV.dat CT (rdC PK.ring (zeroC 16) (numS (newV b) (1 : Int))), AV.dat I64 (0 : Int)]) []) else K (AV.tup [AV.dat CT (zeroC 0), AV.dat I64 (2 : Int)]) [] else ck (List.length ((rdS PK.ring (numS (newV b) (1 : Int))).1) < (100000 : Nat)) (bif !(rdS PK.restrict (rdS PK.ring (numS (newV b) (1 : Int)))).2.1 || (rdS PK.restrict (rdS PK.ring (numS (newV b) (1 : Int)))).2.2 then bif mayM (rdC PK.restrict (rdC PK.ring (zeroC 16) (numS (newV b) (1 : Int))) (rdS PK.ring (numS (newV b) (1 : Int)))) then ck (List.length (bytesM (rdC PK.restrict (rdC PK.ring (zeroC 16) (numS (newV b) (1 : Int))) (rdS PK.ring (numS (newV b) (1 : Int))))) ≤ (100000 : Nat)) (bif !eqBy (bytesM (rdC PK.restrict (rdC PK.ring (zeroC 16) (numS (newV b) (1 : Int))) (rdS PK.ring (numS (newV b) (1 : Int))))) b then K (AV.tup [AV.dat CT (zeroC 0), AV.dat I64 (2 : Int)]) [] else K (AV.tup [AV.dat CT (rdC PK.restrict (rdC PK.ring (zeroC 16) (numS (newV b) (1 : Int))) (rdS PK.ring (numS (newV b) (1 : Int)))), AV.dat I64 (0 : Int)]) []) else K (AV.tup [AV.dat CT (zeroC 0), AV.dat I64 (2 : Int)]) [] else bif mayM (rdC PK.restrict (rdC PK.ring (zeroC 16) (numS (newV b) (1 : Int))) (rdS PK.ring (numS (newV b) (1 : Int)))) then ck (List.length (bytesM (rdC PK.restrict (rdC PK.ring (zeroC 16) (numS (newV b) (1 : Int))) (rdS PK.ring (numS (newV b) (1 : Int))))) ≤ (100000 : Nat)) (bif !eqBy (bytesM (rdC PK.restrict (rdC PK.ring (zeroC 16) (numS (newV b) (1 : Int))) (rdS PK.ring (numS (newV b) (1 : Int))))) b then K (AV.tup [AV.dat CT (zeroC 0), AV.dat I64 (2 : Int)]) [] else K (AV.tup [AV.dat CT (rdC PK.restrict (rdC PK.ring (zeroC 16) (numS (newV b) (1 : Int))) (rdS PK.ring (numS (newV b) (1 : Int)))), AV.dat I64 (0 : Int)]) []) else K (AV.tup [AV.dat CT (zeroC 0), AV.dat I64 (2 : Int)]) [])))) := by kernel_rfl
theorem of_17 {R : Type} (K : KV R) (b : List Int) : (codeX Tryd.prog (G24c 17 [.key, .create]) lv24c 8 Tryd.f24).run [.dat BL b] [] K = bif decide ((298 : Int) < (↑(List.length b) : Int)) then K (AV.tup [AV.dat CT (zeroC 0), AV.dat I64 (2 : Int)]) [] else ck (List.length b < (1000000 : Nat)) (ck ((1 : Int) = (1 : Int) ∧ List.length ((newV b).1) < (100000 : Nat) ∧ numV (newV b) (1 : Int) = (17 : Int)) (ck (List.length ((numS (newV b) (1 : Int)).1) < (100000 : Nat)) (bif !(rdS PK.key (numS (newV b) (1 : Int))).2.1 || (rdS PK.key (numS (newV b) (1 : Int))).2.2 then bif mayM (rdC PK.key (zeroC 17) (numS (newV b) (1 : Int))) then ck (List.length (bytesM (rdC PK.key (zeroC 17) (numS (newV b) (1 : Int)))) ≤ (100000 : Nat)) (bif !eqBy (bytesM (rdC PK.key (zeroC 17) (numS (newV b) (1 : Int)))) b then K (AV.tup [AV.dat CT (zeroC 0), AV.dat I64 (2 : Int)]) [] else K (AV.tup [AV.dat CT (rdC PK.key (zeroC 17) (numS (newV b) (1 : Int))), AV.dat I64 (0 : Int)]) []) else K (AV.tup [AV.dat CT (zeroC 0), AV.dat I64 (2 : Int)]) [] else ck (List.length ((rdS PK.key (numS (newV b) (1 : Int))).1) < (100000 : Nat)) (bif !(rdS PK.create (rdS PK.key (numS (newV b) (1 : Int)))).2.1 || (rdS PK.create (rdS PK.key (numS (newV b) (1 : Int)))).2.2 then bif mayM (rdC PK.create (rdC PK.key (zeroC 17) (numS (newV b) (1 : Int))) (rdS PK.key (numS (newV b) (1 : Int)))) then ck (List.length (bytesM (rdC PK.create (rdC PK.key (zeroC 17) (numS (newV b) (1 : Int))) (rdS PK.key (numS (newV b) (1 : Int))))) ≤ (100000 : Nat)) (bif !eqBy (bytesM (rdC PK.create (rdC PK.key (zeroC 17) (numS (newV b) (1 : Int))) (rdS PK.key (numS (newV b) (1 : Int))))) b then K (AV.tup [AV.dat CT (zeroC 0), AV.dat I64 (2 : Int)]) [] else K (AV.tup [AV.dat CT (rdC PK.create (rdC PK.key (zeroC 17) (numS (newV b) (1 : Int))) (rdS PK.key (numS (newV b) (1 : Int)))), AV.dat I64 (0 : Int)]) []) else K (AV.tup [AV.dat CT (zeroC 0), AV.dat I64 (2 : Int)]) [] else bif mayM (rdC PK.create (rdC PK.key (zeroC 17) (numS (newV b) (1 : Int))) (rdS PK.key (numS (newV b) (1 : Int)))) then ck (List.length (bytesM (rdC PK.create (rdC PK.key (zeroC 17) (numS (newV b) (1 : Int))) (rdS PK.key (numS (newV b) (1 : Int))))) ≤ (100000 : Nat)) (bif !eqBy (bytesM (rdC PK.create (rdC PK.key (zeroC 17) (numS (newV b) (1 : Int))) (rdS PK.key (numS (newV b) (1 : Int))))) b then K (AV.tup [AV.dat CT (zeroC 0), AV.dat I64 (2 : Int)]) [] else K (AV.tup [AV.dat CT (rdC PK.create (rdC PK.key (zeroC 17) (numS (newV b) (1 : Int))) (rdS PK.key (numS (newV b) (1 : Int)))), AV.dat I64 (0 : Int)]) []) else K (AV.tup [AV.dat CT (zeroC 0), AV.dat I64 (2 : Int)]) [])))) := by kernel_rfl
theorem of_18 {R : Type} (K : KV R) (b : List Int) : (codeX Tryd.prog (G24c 18 [.desc]) lv24c 8 Tryd.f24).run [.dat BL b] [] K = bif decide ((298 : Int) < (↑(List.length b) : Int)) then K (AV.tup [AV.dat CT (zeroC 0), AV.dat I64 (2 : Int)]) [] else ck (List.length b < (1000000 : Nat)) (ck ((1 : Int) = (1 : Int) ∧ List.length ((newV b).1) < (100000 : Nat) ∧ numV (newV b) (1 : Int) = (18 : Int)) (ck (List.length ((numS (newV b) (1 : Int)).1) < (100000 : Nat)) (bif !(rdS PK.desc (numS (newV b) (1 : Int))).2.1 || (rdS PK.desc (numS (newV b) (1 : Int))).2.2 then bif mayM ((rdC PK.desc (zeroC 18) (numS (newV b) (1 : Int))).1, (rdC PK.desc (zeroC 18) (numS (newV b) (1 : Int))).2.1, (rdC PK.desc (zeroC 18) (numS (newV b) (1 : Int))).2.2.1, (rdC PK.desc (zeroC 18) (numS (newV b) (1 : Int))).2.2.2.1, ((4 : Int), (rdC PK.desc (zeroC 18) (numS (newV b) (1 : Int))).2.2.2.2.1.2), (rdC PK.desc (zeroC 18) (numS (newV b) (1 : Int))).2.2.2.2.2) then ck (List.length (bytesM ((rdC PK.desc (zeroC 18) (numS (newV b) (1 : Int))).1, (rdC PK.desc (zeroC 18) (numS (newV b) (1 : Int))).2.1, (rdC PK.desc (zeroC 18) (numS (newV b) (1 : Int))).2.2.1, (rdC PK.desc (zeroC 18) (numS (newV b) (1 : Int))).2.2.2.1, ((4 : Int), (rdC PK.desc (zeroC 18) (numS (newV b) (1 : Int))).2.2.2.2.1.2), (rdC PK.desc (zeroC 18) (numS (newV b) (1 : Int))).2.2.2.2.2)) ≤ (100000 : Nat)) (bif !eqBy (bytesM ((rdC PK.desc (zeroC 18) (numS (newV b) (1 : Int))).1, (rdC PK.desc (zeroC 18) (numS (newV b) (1 : Int))).2.1, (rdC PK.desc (zeroC 18) (numS (newV b) (1 : Int))).2.2.1, (rdC PK.desc (zeroC 18) (numS (newV b) (1 : Int))).2.2.2.1, ((4 : Int), (rdC PK.desc (zeroC 18) (numS (newV b) (1 : Int))).2.2.2.2.1.2), (rdC PK.desc (zeroC 18) (numS (newV b) (1 : Int))).2.2.2.2.2)) b then K (AV.tup [AV.dat CT (zeroC 0), AV.dat I64 (2 : Int)]) [] else K (AV.tup [AV.dat CT ((rdC PK.desc (zeroC 18) (numS (newV b) (1 : Int))).1, (rdC PK.desc (zeroC 18) (numS (newV b) (1 : Int))).2.1, (rdC PK.desc (zeroC 18) (numS (newV b) (1 : Int))).2.2.1, (rdC PK.desc (zeroC 18) (numS (newV b) (1 : Int))).2.2.2.1, ((4 : Int), (rdC PK.desc (zeroC 18) (numS (newV b) (1 : Int))).2.2.2.2.1.2), (rdC PK.desc (zeroC 18) (numS (newV b) (1 : Int))).2.2.2.2.2), AV.dat I64 (0 : Int)]) []) else K (AV.tup [AV.dat CT (zeroC 0), AV.dat I64 (2 : Int)]) [] else bif mayM ((rdC PK.desc (zeroC 18) (numS (newV b) (1 : Int))).1, (rdC PK.desc (zeroC 18) (numS (newV b) (1 : Int))).2.1, (rdC PK.desc (zeroC 18) (numS (newV b) (1 : Int))).2.2.1, (rdC PK.desc (zeroC 18) (numS (newV b) (1 : Int))).2.2.2.1, ((4 : Int), (rdC PK.desc (zeroC 18) (numS (newV b) (1 : Int))).2.2.2.2.1.2), (rdC PK.desc (zeroC 18) (numS (newV b) (1 : Int))).2.2.2.2.2) then ck (List.length (bytesM ((rdC PK.desc (zeroC 18) (numS (newV b) (1 : Int))).1, (rdC PK.desc (zeroC 18) (numS (newV b) (1 : Int))).2.1, (rdC PK.desc (zeroC 18) (numS (newV b) (1 : Int))).2.2.1, (rdC PK.desc (zeroC 18) (numS (newV b) (1 : Int))).2.2.2.1, ((4 : Int), (rdC PK.desc (zeroC 18) (numS (newV b) (1 : Int))).2.2.2.2.1.2), (rdC PK.desc (zeroC 18) (numS (newV b) (1 : Int))).2.2.2.2.2)) ≤ (100000 : Nat)) (bif !eqBy (bytesM ((rdC PK.desc (zeroC 18) (numS (newV b) (1 : Int))).1, (rdC PK.desc (zeroC 18) (numS (newV b) (1 : Int))).2.1, (rdC PK.desc (zeroC 18) (numS (newV b) (1 : Int))).2.2.1, (rdC PK.desc (zeroC 18) (numS (newV b) (1 : Int))).2.2.2.1, ((4 : Int), (rdC PK.desc (zeroC 18) (numS (newV b) (1 : Int))).2.2.2.2.1.2), (rdC PK.desc (zeroC 18) (numS (newV b) (1 : Int))).2.2.2.2.2)) b then K (AV.tup [AV.dat CT (zeroC 0), AV.dat I64 (2 : Int)]) [] else K (AV.tup [AV.dat CT ((rdC PK.desc (zeroC 18) (numS (newV b) (1 : Int))).1, (rdC PK.desc (zeroC 18) (numS (newV b) (1 : Int))).2.1, (rdC PK.desc (zeroC 18) (numS (newV b) (1 : Int))).2.2.1, (rdC PK.desc (zeroC 18) (numS (newV b) (1 : Int))).2.2.2.1, ((4 : Int), (rdC PK.desc (zeroC 18) (numS (newV b) (1 : Int))).2.2.2.2.1.2), (rdC PK.desc (zeroC 18) (numS (newV b) (1 : Int))).2.2.2.2.2), AV.dat I64 (0 : Int)]) []) else K (AV.tup [AV.dat CT (zeroC 0), AV.dat I64 (2 : Int)]) []))) := by kernel_rfl
theorem of_0 {R : Type} (K : KV R) (b : List Int) : (codeX Tryd.prog G24z lv24c 8 Tryd.f24).run [.dat BL b] [] K = bif decide ((298 : Int) < (↑(List.length b) : Int)) then K (AV.tup [AV.dat CT (zeroC 0), AV.dat I64 (2 : Int)]) [] else ck (List.length b < (1000000 : Nat)) (ck (List.length ((newV b).1) < (100000 : Nat)) (ck (psOf (IntKind.wrap IntKind.i64 (numV (newV b) (1 : Int))) = []) (bif decide (IntKind.wrap IntKind.i64 (numV (newV b) (1 : Int)) = (18 : Int)) then bif mayM (IntKind.wrap IntKind.i64 (numV (newV b) (1 : Int)), (0 : Int), (0 : Int), (0 : Int), ((4 : Int), ByteArray.mk #[]), ByteArray.mk #[], (0 : Int), (0 : Int), (0 : Int), (0 : Int), (0 : Int), false) then ck (List.length (bytesM (IntKind.wrap IntKind.i64 (numV (newV b) (1 : Int)), (0 : Int), (0 : Int), (0 : Int), ((4 : Int), ByteArray.mk #[]), ByteArray.mk #[], (0 : Int), (0 : Int), (0 : Int), (0 : Int), (0 : Int), false)) ≤ (100000 : Nat)) (bif !eqBy (bytesM (IntKind.wrap IntKind.i64 (numV (newV b) (1 : Int)), (0 : Int), (0 : Int), (0 : Int), ((4 : Int), ByteArray.mk #[]), ByteArray.mk #[], (0 : Int), (0 : Int), (0 : Int), (0 : Int), (0 : Int), false)) b then K (AV.tup [AV.dat CT (zeroC 0), AV.dat I64 (2 : Int)]) [] else K (AV.tup [AV.dat CT (IntKind.wrap IntKind.i64 (numV (newV b) (1 : Int)), (0 : Int), (0 : Int), (0 : Int), ((4 : Int), ByteArray.mk #[]), ByteArray.mk #[], (0 : Int), (0 : Int), (0 : Int), (0 : Int), (0 : Int), false), AV.dat I64 (0 : Int)]) []) else K (AV.tup [AV.dat CT (zeroC 0), AV.dat I64 (2 : Int)]) [] else bif mayM (IntKind.wrap IntKind.i64 (numV (newV b) (1 : Int)), (0 : Int), (0 : Int), (0 : Int), ((0 : Int), ByteArray.mk #[]), ByteArray.mk #[], (0 : Int), (0 : Int), (0 : Int), (0 : Int), (0 : Int), false) then ck (List.length (bytesM (IntKind.wrap IntKind.i64 (numV (newV b) (1 : Int)), (0 : Int), (0 : Int), (0 : Int), ((0 : Int), ByteArray.mk #[]), ByteArray.mk #[], (0 : Int), (0 : Int), (0 : Int), (0 : Int), (0 : Int), false)) ≤ (100000 : Nat)) (bif !eqBy (bytesM (IntKind.wrap IntKind.i64 (numV (newV b) (1 : Int)), (0 : Int), (0 : Int), (0 : Int), ((0 : Int), ByteArray.mk #[]), ByteArray.mk #[], (0 : Int), (0 : Int), (0 : Int), (0 : Int), (0 : Int), false)) b then K (AV.tup [AV.dat CT (zeroC 0), AV.dat I64 (2 : Int)]) [] else K (AV.tup [AV.dat CT (IntKind.wrap IntKind.i64 (numV (newV b) (1 : Int)), (0 : Int), (0 : Int), (0 : Int), ((0 : Int), ByteArray.mk #[]), ByteArray.mk #[], (0 : Int), (0 : Int), (0 : Int), (0 : Int), (0 : Int), false), AV.dat I64 (0 : Int)]) []) else K (AV.tup [AV.dat CT (zeroC 0), AV.dat I64 (2 : Int)]) []))) := by kernel_rfl
end Go.Mx
namespace Go.Mx
open Go Go.RowKit Go.Sx Go.Proofs
set_option maxRecDepth 100000
def failedB (x : RV) : Bool := !x.2.1 || x.2.2
def cofR : List PK → CV → RV → CV × RV
  | [], c, x => (c, x)
  | p :: l, c, x => cond (failedB (rdS p x)) (rdC p c x, rdS p x) (cofR l (rdC p c x) (rdS p x))
def cofC (b : List Int) : CV := joinT (cofR (psOf (IntKind.wrap .i64 (numV (newV b) 1))) (zeroC (IntKind.wrap .i64 (numV (newV b) 1))) (numS (newV b) 1)).1
def finC (b : List Int) (c : CV) : CV × Int := cond (mayM c && eqBy (bytesM c) b) (c, 0) (zeroC 0, 2)
def cofM (b : List Int) : CV × Int := cond (decide ((298 : Int) < (b.length : Int))) (zeroC 0, 2) (finC b (cofC b))
def tailK {R : Type} (K : KV R) (b : List Int) (c : CV) : Option R := bif mayM c then ck ((bytesM c).length ≤ 100000) (bif !eqBy (bytesM c) b then K (.tup [.dat CT (zeroC 0), .dat I64 2]) [] else K (.tup [.dat CT c, .dat I64 0]) []) else K (.tup [.dat CT (zeroC 0), .dat I64 2]) []
theorem bytes_fold (l : List PK) {c : CV} (hs : smallC c) : ∀ xs : List Int, (l.foldl (fun xs p => xs ++ encP p c) xs).length ≤ xs.length + l.length * 1002 := by
  induction l with
  | nil => intro xs; simp
  | cons p l ih =>
    intro xs
    rw [List.foldl_cons]
    refine Nat.le_trans (ih _) ?_
    rw [List.length_append, List.length_cons]
    have := encP_len p hs
    omega
theorem ps_len (o : Int) : (psOf o).length ≤ 4 := by
  by_cases h0 : psOf o = []
  · rw [h0]; exact Nat.zero_le _
  · rcases ps_cases h0 with rfl | rfl | rfl | rfl | rfl | rfl | rfl | rfl | rfl | rfl | rfl | rfl | rfl | rfl | rfl | rfl | rfl | rfl <;> decide
theorem bytesM_len {c : CV} (hs : smallC c) : (bytesM c).length ≤ 4009 := by
  have := bytes_fold (psOf c.1) hs [IntKind.wrap .u8 c.1]
  have h2 := ps_len c.1
  have h3 : ([IntKind.wrap .u8 c.1] : List Int).length = 1 := rfl
  unfold bytesM
  rw [h3] at this
  have : (psOf c.1).length * 1002 ≤ 4 * 1002 := Nat.mul_le_mul_right _ h2
  omega
theorem tail_eq {R : Type} (K : KV R) (b : List Int) (c : CV) : tailK K b c = K (.tup [.dat CT (finC b c).1, .dat I64 (finC b c).2]) [] := by
  unfold tailK finC
  cases hm : mayM c with
  | false => rfl
  | true =>
    have := bytesM_len (may_small hm).1
    rw [cond_true, ck_pos (by omega), Bool.true_and]
    cases eqBy (bytesM c) b <;> rfl
theorem okPerm_rd (c : CV) (x : RV) : okPerm (rdC .perm c x) := by
  show 0 ≤ IntKind.wrap .u32 (numV x 4) ∧ IntKind.wrap .u32 (numV x 4) < 4294967296
  rw [IntKind.wrap_u32]
  omega
theorem of_run_1 {R : Type} (K : KV R) (b : List Int) (hb : b.length ≤ 298) (hk : numV (newV b) 1 = 1) : (codeX Tryd.prog (G24c 1 [.ring, .typ, .desc, .payload]) lv24c 8 Tryd.f24).run [.dat BL b] [] K = tailK K b (cofC b) := by
  refine (of_1 K b).trans ?_
  have hx : (numS (newV b) 1).1.length < 100000 := Nat.lt_of_le_of_lt (takeS_len _ _) (show b.length < 100000 by omega)
  rw [decide_eq_false (show ¬ (298 : Int) < (b.length : Int) by omega), cond_false, ck_pos (show b.length < 1000000 by omega), ck_pos (show (1 : Int) = 1 ∧ (newV b).1.length < 100000 ∧ numV (newV b) 1 = 1 from ⟨rfl, (show b.length < 100000 by omega), hk⟩), ck_pos hx]
  have e : cofC b = joinT (cofR [.ring, .typ, .desc, .payload] (zeroC 1) (numS (newV b) 1)).1 := by unfold cofC; rw [hk]; rfl
  rw [e]
  clear e
  generalize numS (newV b) 1 = x at hx ⊢
  simp only [cofR, failedB]
  generalize hF0 : (!(rdS .ring x).2.1 || (rdS .ring x).2.2) = f0
  cases f0 with
  | true => exact rfl
  | false =>
    refine (ck_pos (Nat.lt_of_le_of_lt (rdS_len _ _) hx)).trans ?_
    generalize hF1 : (!(rdS .typ (rdS .ring x)).2.1 || (rdS .typ (rdS .ring x)).2.2) = f1
    cases f1 with
    | true => exact rfl
    | false =>
      refine (ck_pos (Nat.lt_of_le_of_lt (rdS_len _ _) (Nat.lt_of_le_of_lt (rdS_len _ _) hx))).trans ?_
      generalize hF2 : (!(rdS .desc (rdS .typ (rdS .ring x))).2.1 || (rdS .desc (rdS .typ (rdS .ring x))).2.2) = f2
      cases f2 with
      | true => exact rfl
      | false =>
        refine (ck_pos (Nat.lt_of_le_of_lt (rdS_len _ _) (Nat.lt_of_le_of_lt (rdS_len _ _) (Nat.lt_of_le_of_lt (rdS_len _ _) hx)))).trans ?_
        generalize hF3 : (!(rdS .payload (rdS .desc (rdS .typ (rdS .ring x)))).2.1 || (rdS .payload (rdS .desc (rdS .typ (rdS .ring x)))).2.2) = f3
        cases f3 with
        | true => exact rfl
        | false =>
          exact rfl
theorem of_run_2 {R : Type} (K : KV R) (b : List Int) (hb : b.length ≤ 298) (hk : numV (newV b) 1 = 2) : (codeX Tryd.prog (G24c 2 [.typ, .desc]) lv24c 8 Tryd.f24).run [.dat BL b] [] K = tailK K b (cofC b) := by
  refine (of_2 K b).trans ?_
  have hx : (numS (newV b) 1).1.length < 100000 := Nat.lt_of_le_of_lt (takeS_len _ _) (show b.length < 100000 by omega)
  rw [decide_eq_false (show ¬ (298 : Int) < (b.length : Int) by omega), cond_false, ck_pos (show b.length < 1000000 by omega), ck_pos (show (1 : Int) = 1 ∧ (newV b).1.length < 100000 ∧ numV (newV b) 1 = 2 from ⟨rfl, (show b.length < 100000 by omega), hk⟩), ck_pos hx]
  have e : cofC b = joinT (cofR [.typ, .desc] (zeroC 2) (numS (newV b) 1)).1 := by unfold cofC; rw [hk]; rfl
  rw [e]
  clear e
  generalize numS (newV b) 1 = x at hx ⊢
  simp only [cofR, failedB]
  generalize hF0 : (!(rdS .typ x).2.1 || (rdS .typ x).2.2) = f0
  cases f0 with
  | true => exact rfl
  | false =>
    refine (ck_pos (Nat.lt_of_le_of_lt (rdS_len _ _) hx)).trans ?_
    generalize hF1 : (!(rdS .desc (rdS .typ x)).2.1 || (rdS .desc (rdS .typ x)).2.2) = f1
    cases f1 with
    | true => exact rfl
    | false =>
      exact rfl
theorem of_run_3 {R : Type} (K : KV R) (b : List Int) (hb : b.length ≤ 298) (hk : numV (newV b) 1 = 3) : (codeX Tryd.prog (G24c 3 [.ring, .typ, .desc]) lv24c 8 Tryd.f24).run [.dat BL b] [] K = tailK K b (cofC b) := by
  refine (of_3 K b).trans ?_
  have hx : (numS (newV b) 1).1.length < 100000 := Nat.lt_of_le_of_lt (takeS_len _ _) (show b.length < 100000 by omega)
  rw [decide_eq_false (show ¬ (298 : Int) < (b.length : Int) by omega), cond_false, ck_pos (show b.length < 1000000 by omega), ck_pos (show (1 : Int) = 1 ∧ (newV b).1.length < 100000 ∧ numV (newV b) 1 = 3 from ⟨rfl, (show b.length < 100000 by omega), hk⟩), ck_pos hx]
  have e : cofC b = joinT (cofR [.ring, .typ, .desc] (zeroC 3) (numS (newV b) 1)).1 := by unfold cofC; rw [hk]; rfl
  rw [e]
  clear e
  generalize numS (newV b) 1 = x at hx ⊢
  simp only [cofR, failedB]
  generalize hF0 : (!(rdS .ring x).2.1 || (rdS .ring x).2.2) = f0
  cases f0 with
  | true => exact rfl
  | false =>
    refine (ck_pos (Nat.lt_of_le_of_lt (rdS_len _ _) hx)).trans ?_
    generalize hF1 : (!(rdS .typ (rdS .ring x)).2.1 || (rdS .typ (rdS .ring x)).2.2) = f1
    cases f1 with
    | true => exact rfl
    | false =>
      refine (ck_pos (Nat.lt_of_le_of_lt (rdS_len _ _) (Nat.lt_of_le_of_lt (rdS_len _ _) hx))).trans ?_
      generalize hF2 : (!(rdS .desc (rdS .typ (rdS .ring x))).2.1 || (rdS .desc (rdS .typ (rdS .ring x))).2.2) = f2
      cases f2 with
      | true => exact rfl
      | false =>
        exact rfl
theorem of_run_4 {R : Type} (K : KV R) (b : List Int) (hb : b.length ≤ 298) (hk : numV (newV b) 1 = 4) : (codeX Tryd.prog (G24c 4 [.key]) lv24c 8 Tryd.f24).run [.dat BL b] [] K = tailK K b (cofC b) := by
  refine (of_4 K b).trans ?_
  have hx : (numS (newV b) 1).1.length < 100000 := Nat.lt_of_le_of_lt (takeS_len _ _) (show b.length < 100000 by omega)
  rw [decide_eq_false (show ¬ (298 : Int) < (b.length : Int) by omega), cond_false, ck_pos (show b.length < 1000000 by omega), ck_pos (show (1 : Int) = 1 ∧ (newV b).1.length < 100000 ∧ numV (newV b) 1 = 4 from ⟨rfl, (show b.length < 100000 by omega), hk⟩), ck_pos hx]
  have e : cofC b = joinT (cofR [.key] (zeroC 4) (numS (newV b) 1)).1 := by unfold cofC; rw [hk]; rfl
  rw [e]
  clear e
  generalize numS (newV b) 1 = x at hx ⊢
  simp only [cofR, failedB]
  generalize hF0 : (!(rdS .key x).2.1 || (rdS .key x).2.2) = f0
  cases f0 with
  | true => exact rfl
  | false =>
    exact rfl
theorem of_run_5 {R : Type} (K : KV R) (b : List Int) (hb : b.length ≤ 298) (hk : numV (newV b) 1 = 5) : (codeX Tryd.prog (G24c 5 [.key, .payload]) lv24c 8 Tryd.f24).run [.dat BL b] [] K = tailK K b (cofC b) := by
  refine (of_5 K b).trans ?_
  have hx : (numS (newV b) 1).1.length < 100000 := Nat.lt_of_le_of_lt (takeS_len _ _) (show b.length < 100000 by omega)
  rw [decide_eq_false (show ¬ (298 : Int) < (b.length : Int) by omega), cond_false, ck_pos (show b.length < 1000000 by omega), ck_pos (show (1 : Int) = 1 ∧ (newV b).1.length < 100000 ∧ numV (newV b) 1 = 5 from ⟨rfl, (show b.length < 100000 by omega), hk⟩), ck_pos hx]
  have e : cofC b = joinT (cofR [.key, .payload] (zeroC 5) (numS (newV b) 1)).1 := by unfold cofC; rw [hk]; rfl
  rw [e]
  clear e
  generalize numS (newV b) 1 = x at hx ⊢
  simp only [cofR, failedB]
  generalize hF0 : (!(rdS .key x).2.1 || (rdS .key x).2.2) = f0
  cases f0 with
  | true => exact rfl
  | false =>
    refine (ck_pos (Nat.lt_of_le_of_lt (rdS_len _ _) hx)).trans ?_
    generalize hF1 : (!(rdS .payload (rdS .key x)).2.1 || (rdS .payload (rdS .key x)).2.2) = f1
    cases f1 with
    | true => exact rfl
    | false =>
      exact rfl
theorem of_run_6 {R : Type} (K : KV R) (b : List Int) (hb : b.length ≤ 298) (hk : numV (newV b) 1 = 6) : (codeX Tryd.prog (G24c 6 [.key]) lv24c 8 Tryd.f24).run [.dat BL b] [] K = tailK K b (cofC b) := by
  refine (of_6 K b).trans ?_
  have hx : (numS (newV b) 1).1.length < 100000 := Nat.lt_of_le_of_lt (takeS_len _ _) (show b.length < 100000 by omega)
  rw [decide_eq_false (show ¬ (298 : Int) < (b.length : Int) by omega), cond_false, ck_pos (show b.length < 1000000 by omega), ck_pos (show (1 : Int) = 1 ∧ (newV b).1.length < 100000 ∧ numV (newV b) 1 = 6 from ⟨rfl, (show b.length < 100000 by omega), hk⟩), ck_pos hx]
  have e : cofC b = joinT (cofR [.key] (zeroC 6) (numS (newV b) 1)).1 := by unfold cofC; rw [hk]; rfl
  rw [e]
  clear e
  generalize numS (newV b) 1 = x at hx ⊢
  simp only [cofR, failedB]
  generalize hF0 : (!(rdS .key x).2.1 || (rdS .key x).2.2) = f0
  cases f0 with
  | true => exact rfl
  | false =>
    exact rfl
theorem of_run_7 {R : Type} (K : KV R) (b : List Int) (hb : b.length ≤ 298) (hk : numV (newV b) 1 = 7) : (codeX Tryd.prog (G24c 7 [.key, .ring]) lv24c 8 Tryd.f24).run [.dat BL b] [] K = tailK K b (cofC b) := by
  refine (of_7 K b).trans ?_
  have hx : (numS (newV b) 1).1.length < 100000 := Nat.lt_of_le_of_lt (takeS_len _ _) (show b.length < 100000 by omega)
  rw [decide_eq_false (show ¬ (298 : Int) < (b.length : Int) by omega), cond_false, ck_pos (show b.length < 1000000 by omega), ck_pos (show (1 : Int) = 1 ∧ (newV b).1.length < 100000 ∧ numV (newV b) 1 = 7 from ⟨rfl, (show b.length < 100000 by omega), hk⟩), ck_pos hx]
  have e : cofC b = joinT (cofR [.key, .ring] (zeroC 7) (numS (newV b) 1)).1 := by unfold cofC; rw [hk]; rfl
  rw [e]
  clear e
  generalize numS (newV b) 1 = x at hx ⊢
  simp only [cofR, failedB]
  generalize hF0 : (!(rdS .key x).2.1 || (rdS .key x).2.2) = f0
  cases f0 with
  | true => exact rfl
  | false =>
    refine (ck_pos (Nat.lt_of_le_of_lt (rdS_len _ _) hx)).trans ?_
    generalize hF1 : (!(rdS .ring (rdS .key x)).2.1 || (rdS .ring (rdS .key x)).2.2) = f1
    cases f1 with
    | true => exact rfl
    | false =>
      exact rfl
theorem of_run_8 {R : Type} (K : KV R) (b : List Int) (hb : b.length ≤ 298) (hk : numV (newV b) 1 = 8) : (codeX Tryd.prog (G24c 8 [.key, .ring]) lv24c 8 Tryd.f24).run [.dat BL b] [] K = tailK K b (cofC b) := by
  refine (of_8 K b).trans ?_
  have hx : (numS (newV b) 1).1.length < 100000 := Nat.lt_of_le_of_lt (takeS_len _ _) (show b.length < 100000 by omega)
  rw [decide_eq_false (show ¬ (298 : Int) < (b.length : Int) by omega), cond_false, ck_pos (show b.length < 1000000 by omega), ck_pos (show (1 : Int) = 1 ∧ (newV b).1.length < 100000 ∧ numV (newV b) 1 = 8 from ⟨rfl, (show b.length < 100000 by omega), hk⟩), ck_pos hx]
  have e : cofC b = joinT (cofR [.key, .ring] (zeroC 8) (numS (newV b) 1)).1 := by unfold cofC; rw [hk]; rfl
  rw [e]
  clear e
  generalize numS (newV b) 1 = x at hx ⊢
  simp only [cofR, failedB]
  generalize hF0 : (!(rdS .key x).2.1 || (rdS .key x).2.2) = f0
  cases f0 with
  | true => exact rfl
  | false =>
    refine (ck_pos (Nat.lt_of_le_of_lt (rdS_len _ _) hx)).trans ?_
    generalize hF1 : (!(rdS .ring (rdS .key x)).2.1 || (rdS .ring (rdS .key x)).2.2) = f1
    cases f1 with
    | true => exact rfl
    | false =>
      exact rfl
theorem of_run_9 {R : Type} (K : KV R) (b : List Int) (hb : b.length ≤ 298) (hk : numV (newV b) 1 = 9) : (codeX Tryd.prog (G24c 9 [.key, .ring, .to]) lv24c 8 Tryd.f24).run [.dat BL b] [] K = tailK K b (cofC b) := by
  refine (of_9 K b).trans ?_
  have hx : (numS (newV b) 1).1.length < 100000 := Nat.lt_of_le_of_lt (takeS_len _ _) (show b.length < 100000 by omega)
  rw [decide_eq_false (show ¬ (298 : Int) < (b.length : Int) by omega), cond_false, ck_pos (show b.length < 1000000 by omega), ck_pos (show (1 : Int) = 1 ∧ (newV b).1.length < 100000 ∧ numV (newV b) 1 = 9 from ⟨rfl, (show b.length < 100000 by omega), hk⟩), ck_pos hx]
  have e : cofC b = joinT (cofR [.key, .ring, .to] (zeroC 9) (numS (newV b) 1)).1 := by unfold cofC; rw [hk]; rfl
  rw [e]
  clear e
  generalize numS (newV b) 1 = x at hx ⊢
  simp only [cofR, failedB]
  generalize hF0 : (!(rdS .key x).2.1 || (rdS .key x).2.2) = f0
  cases f0 with
  | true => exact rfl
  | false =>
    refine (ck_pos (Nat.lt_of_le_of_lt (rdS_len _ _) hx)).trans ?_
    generalize hF1 : (!(rdS .ring (rdS .key x)).2.1 || (rdS .ring (rdS .key x)).2.2) = f1
    cases f1 with
    | true => exact rfl
    | false =>
      refine (ck_pos (Nat.lt_of_le_of_lt (rdS_len _ _) (Nat.lt_of_le_of_lt (rdS_len _ _) hx))).trans ?_
      generalize hF2 : (!(rdS .to (rdS .ring (rdS .key x))).2.1 || (rdS .to (rdS .ring (rdS .key x))).2.2) = f2
      cases f2 with
      | true => exact rfl
      | false =>
        exact rfl
theorem of_run_10 {R : Type} (K : KV R) (b : List Int) (hb : b.length ≤ 298) (hk : numV (newV b) 1 = 10) : (codeX Tryd.prog (G24c 10 [.ring]) lv24c 8 Tryd.f24).run [.dat BL b] [] K = tailK K b (cofC b) := by
  refine (of_10 K b).trans ?_
  have hx : (numS (newV b) 1).1.length < 100000 := Nat.lt_of_le_of_lt (takeS_len _ _) (show b.length < 100000 by omega)
  rw [decide_eq_false (show ¬ (298 : Int) < (b.length : Int) by omega), cond_false, ck_pos (show b.length < 1000000 by omega), ck_pos (show (1 : Int) = 1 ∧ (newV b).1.length < 100000 ∧ numV (newV b) 1 = 10 from ⟨rfl, (show b.length < 100000 by omega), hk⟩), ck_pos hx]
  have e : cofC b = joinT (cofR [.ring] (zeroC 10) (numS (newV b) 1)).1 := by unfold cofC; rw [hk]; rfl
  rw [e]
  clear e
  generalize numS (newV b) 1 = x at hx ⊢
  simp only [cofR, failedB]
  generalize hF0 : (!(rdS .ring x).2.1 || (rdS .ring x).2.2) = f0
  cases f0 with
  | true => exact rfl
  | false =>
    exact rfl
theorem of_run_11 {R : Type} (K : KV R) (b : List Int) (hb : b.length ≤ 298) (hk : numV (newV b) 1 = 11) : (codeX Tryd.prog (G24c 11 [.key, .perm]) lv24c 8 Tryd.f24).run [.dat BL b] [] K = tailK K b (cofC b) := by
  refine (of_11 K b).trans ?_
  have hx : (numS (newV b) 1).1.length < 100000 := Nat.lt_of_le_of_lt (takeS_len _ _) (show b.length < 100000 by omega)
  rw [decide_eq_false (show ¬ (298 : Int) < (b.length : Int) by omega), cond_false, ck_pos (show b.length < 1000000 by omega), ck_pos (show (1 : Int) = 1 ∧ (newV b).1.length < 100000 ∧ numV (newV b) 1 = 11 from ⟨rfl, (show b.length < 100000 by omega), hk⟩), ck_pos hx]
  have e : cofC b = joinT (cofR [.key, .perm] (zeroC 11) (numS (newV b) 1)).1 := by unfold cofC; rw [hk]; rfl
  rw [e]
  clear e
  generalize numS (newV b) 1 = x at hx ⊢
  simp only [cofR, failedB]
  generalize hF0 : (!(rdS .key x).2.1 || (rdS .key x).2.2) = f0
  cases f0 with
  | true => exact rfl
  | false =>
    refine (ck_pos (Nat.lt_of_le_of_lt (rdS_len _ _) hx)).trans ?_
    generalize hF1 : (!(rdS .perm (rdS .key x)).2.1 || (rdS .perm (rdS .key x)).2.2) = f1
    cases f1 with
    | true => exact (ck_pos (okPerm_rd _ _)).trans rfl
    | false =>
      exact (ck_pos (okPerm_rd _ _)).trans rfl
theorem of_run_12 {R : Type} (K : KV R) (b : List Int) (hb : b.length ≤ 298) (hk : numV (newV b) 1 = 12) : (codeX Tryd.prog (G24c 12 [.key, .uid, .gid]) lv24c 8 Tryd.f24).run [.dat BL b] [] K = tailK K b (cofC b) := by
  refine (of_12 K b).trans ?_
  have hx : (numS (newV b) 1).1.length < 100000 := Nat.lt_of_le_of_lt (takeS_len _ _) (show b.length < 100000 by omega)
  rw [decide_eq_false (show ¬ (298 : Int) < (b.length : Int) by omega), cond_false, ck_pos (show b.length < 1000000 by omega), ck_pos (show (1 : Int) = 1 ∧ (newV b).1.length < 100000 ∧ numV (newV b) 1 = 12 from ⟨rfl, (show b.length < 100000 by omega), hk⟩), ck_pos hx]
  have e : cofC b = joinT (cofR [.key, .uid, .gid] (zeroC 12) (numS (newV b) 1)).1 := by unfold cofC; rw [hk]; rfl
  rw [e]
  clear e
  generalize numS (newV b) 1 = x at hx ⊢
  simp only [cofR, failedB]
  generalize hF0 : (!(rdS .key x).2.1 || (rdS .key x).2.2) = f0
  cases f0 with
  | true => exact rfl
  | false =>
    refine (ck_pos (Nat.lt_of_le_of_lt (rdS_len _ _) hx)).trans ?_
    generalize hF1 : (!(rdS .uid (rdS .key x)).2.1 || (rdS .uid (rdS .key x)).2.2) = f1
    cases f1 with
    | true => exact rfl
    | false =>
      refine (ck_pos (Nat.lt_of_le_of_lt (rdS_len _ _) (Nat.lt_of_le_of_lt (rdS_len _ _) hx))).trans ?_
      generalize hF2 : (!(rdS .gid (rdS .uid (rdS .key x))).2.1 || (rdS .gid (rdS .uid (rdS .key x))).2.2) = f2
      cases f2 with
      | true => exact rfl
      | false =>
        exact rfl
theorem of_run_13 {R : Type} (K : KV R) (b : List Int) (hb : b.length ≤ 298) (hk : numV (newV b) 1 = 13) : (codeX Tryd.prog (G24c 13 [.key, .time]) lv24c 8 Tryd.f24).run [.dat BL b] [] K = tailK K b (cofC b) := by
  refine (of_13 K b).trans ?_
  have hx : (numS (newV b) 1).1.length < 100000 := Nat.lt_of_le_of_lt (takeS_len _ _) (show b.length < 100000 by omega)
  rw [decide_eq_false (show ¬ (298 : Int) < (b.length : Int) by omega), cond_false, ck_pos (show b.length < 1000000 by omega), ck_pos (show (1 : Int) = 1 ∧ (newV b).1.length < 100000 ∧ numV (newV b) 1 = 13 from ⟨rfl, (show b.length < 100000 by omega), hk⟩), ck_pos hx]
  have e : cofC b = joinT (cofR [.key, .time] (zeroC 13) (numS (newV b) 1)).1 := by unfold cofC; rw [hk]; rfl
  rw [e]
  clear e
  generalize numS (newV b) 1 = x at hx ⊢
  simp only [cofR, failedB]
  generalize hF0 : (!(rdS .key x).2.1 || (rdS .key x).2.2) = f0
  cases f0 with
  | true => exact rfl
  | false =>
    refine (ck_pos (Nat.lt_of_le_of_lt (rdS_len _ _) hx)).trans ?_
    generalize hF1 : (!(rdS .time (rdS .key x)).2.1 || (rdS .time (rdS .key x)).2.2) = f1
    cases f1 with
    | true => exact rfl
    | false =>
      exact rfl
theorem of_run_14 {R : Type} (K : KV R) (b : List Int) (hb : b.length ≤ 298) (hk : numV (newV b) 1 = 14) : (codeX Tryd.prog (G24c 14 [.key]) lv24c 8 Tryd.f24).run [.dat BL b] [] K = tailK K b (cofC b) := by
  refine (of_14 K b).trans ?_
  have hx : (numS (newV b) 1).1.length < 100000 := Nat.lt_of_le_of_lt (takeS_len _ _) (show b.length < 100000 by omega)
  rw [decide_eq_false (show ¬ (298 : Int) < (b.length : Int) by omega), cond_false, ck_pos (show b.length < 1000000 by omega), ck_pos (show (1 : Int) = 1 ∧ (newV b).1.length < 100000 ∧ numV (newV b) 1 = 14 from ⟨rfl, (show b.length < 100000 by omega), hk⟩), ck_pos hx]
  have e : cofC b = joinT (cofR [.key] (zeroC 14) (numS (newV b) 1)).1 := by unfold cofC; rw [hk]; rfl
  rw [e]
  clear e
  generalize numS (newV b) 1 = x at hx ⊢
  simp only [cofR, failedB]
  generalize hF0 : (!(rdS .key x).2.1 || (rdS .key x).2.2) = f0
  cases f0 with
  | true => exact rfl
  | false =>
    exact rfl
theorem of_run_15 {R : Type} (K : KV R) (b : List Int) (hb : b.length ≤ 298) (hk : numV (newV b) 1 = 15) : (codeX Tryd.prog (G24c 15 [.key]) lv24c 8 Tryd.f24).run [.dat BL b] [] K = tailK K b (cofC b) := by
  refine (of_15 K b).trans ?_
  have hx : (numS (newV b) 1).1.length < 100000 := Nat.lt_of_le_of_lt (takeS_len _ _) (show b.length < 100000 by omega)
  rw [decide_eq_false (show ¬ (298 : Int) < (b.length : Int) by omega), cond_false, ck_pos (show b.length < 1000000 by omega), ck_pos (show (1 : Int) = 1 ∧ (newV b).1.length < 100000 ∧ numV (newV b) 1 = 15 from ⟨rfl, (show b.length < 100000 by omega), hk⟩), ck_pos hx]
  have e : cofC b = joinT (cofR [.key] (zeroC 15) (numS (newV b) 1)).1 := by unfold cofC; rw [hk]; rfl
  rw [e]
  clear e
  generalize numS (newV b) 1 = x at hx ⊢
  simp only [cofR, failedB]
  generalize hF0 : (!(rdS .key x).2.1 || (rdS .key x).2.2) = f0
  cases f0 with
  | true => exact rfl
  | false =>
    exact rfl
theorem of_run_16 {R : Type} (K : KV R) (b : List Int) (hb : b.length ≤ 298) (hk : numV (newV b) 1 = 16) : (codeX Tryd.prog (G24c 16 [.ring, .restrict]) lv24c 8 Tryd.f24).run [.dat BL b] [] K = tailK K b (cofC b) := by
  refine (of_16 K b).trans ?_
  have hx : (numS (newV b) 1).1.length < 100000 := Nat.lt_of_le_of_lt (takeS_len _ _) (show b.length < 100000 by omega)
  rw [decide_eq_false (show ¬ (298 : Int) < (b.length : Int) by omega), cond_false, ck_pos (show b.length < 1000000 by omega), ck_pos (show (1 : Int) = 1 ∧ (newV b).1.length < 100000 ∧ numV (newV b) 1 = 16 from ⟨rfl, (show b.length < 100000 by omega), hk⟩), ck_pos hx]
  have e : cofC b = joinT (cofR [.ring, .restrict] (zeroC 16) (numS (newV b) 1)).1 := by unfold cofC; rw [hk]; rfl
  rw [e]
  clear e
  generalize numS (newV b) 1 = x at hx ⊢
  simp only [cofR, failedB]
  generalize hF0 : (!(rdS .ring x).2.1 || (rdS .ring x).2.2) = f0
  cases f0 with
  | true => exact rfl
  | false =>
    refine (ck_pos (Nat.lt_of_le_of_lt (rdS_len _ _) hx)).trans ?_
    generalize hF1 : (!(rdS .restrict (rdS .ring x)).2.1 || (rdS .restrict (rdS .ring x)).2.2) = f1
    cases f1 with
    | true => exact rfl
    | false =>
      exact rfl
theorem of_run_17 {R : Type} (K : KV R) (b : List Int) (hb : b.length ≤ 298) (hk : numV (newV b) 1 = 17) : (codeX Tryd.prog (G24c 17 [.key, .create]) lv24c 8 Tryd.f24).run [.dat BL b] [] K = tailK K b (cofC b) := by
  refine (of_17 K b).trans ?_
  have hx : (numS (newV b) 1).1.length < 100000 := Nat.lt_of_le_of_lt (takeS_len _ _) (show b.length < 100000 by omega)
  rw [decide_eq_false (show ¬ (298 : Int) < (b.length : Int) by omega), cond_false, ck_pos (show b.length < 1000000 by omega), ck_pos (show (1 : Int) = 1 ∧ (newV b).1.length < 100000 ∧ numV (newV b) 1 = 17 from ⟨rfl, (show b.length < 100000 by omega), hk⟩), ck_pos hx]
  have e : cofC b = joinT (cofR [.key, .create] (zeroC 17) (numS (newV b) 1)).1 := by unfold cofC; rw [hk]; rfl
  rw [e]
  clear e
  generalize numS (newV b) 1 = x at hx ⊢
  simp only [cofR, failedB]
  generalize hF0 : (!(rdS .key x).2.1 || (rdS .key x).2.2) = f0
  cases f0 with
  | true => exact rfl
  | false =>
    refine (ck_pos (Nat.lt_of_le_of_lt (rdS_len _ _) hx)).trans ?_
    generalize hF1 : (!(rdS .create (rdS .key x)).2.1 || (rdS .create (rdS .key x)).2.2) = f1
    cases f1 with
    | true => exact rfl
    | false =>
      exact rfl
theorem of_run_18 {R : Type} (K : KV R) (b : List Int) (hb : b.length ≤ 298) (hk : numV (newV b) 1 = 18) : (codeX Tryd.prog (G24c 18 [.desc]) lv24c 8 Tryd.f24).run [.dat BL b] [] K = tailK K b (cofC b) := by
  refine (of_18 K b).trans ?_
  have hx : (numS (newV b) 1).1.length < 100000 := Nat.lt_of_le_of_lt (takeS_len _ _) (show b.length < 100000 by omega)
  rw [decide_eq_false (show ¬ (298 : Int) < (b.length : Int) by omega), cond_false, ck_pos (show b.length < 1000000 by omega), ck_pos (show (1 : Int) = 1 ∧ (newV b).1.length < 100000 ∧ numV (newV b) 1 = 18 from ⟨rfl, (show b.length < 100000 by omega), hk⟩), ck_pos hx]
  have e : cofC b = joinT (cofR [.desc] (zeroC 18) (numS (newV b) 1)).1 := by unfold cofC; rw [hk]; rfl
  rw [e]
  clear e
  generalize numS (newV b) 1 = x at hx ⊢
  simp only [cofR, failedB]
  generalize hF0 : (!(rdS .desc x).2.1 || (rdS .desc x).2.2) = f0
  cases f0 with
  | true => exact rfl
  | false =>
    exact rfl
theorem of_run_0 {R : Type} (K : KV R) (b : List Int) (hb : b.length ≤ 298) (h : psOf (IntKind.wrap .i64 (numV (newV b) 1)) = []) : (codeX Tryd.prog G24z lv24c 8 Tryd.f24).run [.dat BL b] [] K = tailK K b (cofC b) := by
  refine (of_0 K b).trans ?_
  rw [decide_eq_false (show ¬ (298 : Int) < (b.length : Int) by omega), cond_false, ck_pos (show b.length < 1000000 by omega), ck_pos (show (newV b).1.length < 100000 from (show b.length < 100000 by omega)), ck_pos h]
  have e : cofC b = joinT (zeroC (IntKind.wrap .i64 (numV (newV b) 1))) := by unfold cofC; rw [h]; rfl
  rw [e]
  unfold joinT
  show _ = tailK K b (bif decide (IntKind.wrap .i64 (numV (newV b) 1) = 18) then _ else _)
  cases decide (IntKind.wrap .i64 (numV (newV b) 1) = 18) <;> rfl
theorem c31v : SumOk Tryd.prog 31 F17 := F17_ok
theorem al24c (k : Int) (ps : List PK) : AllOk Tryd.prog ((43, Fparts ps) :: (20, F20f) :: (31, F17) :: (32, inS 32 cl (Fnum k)) :: (59, inS 59 cl F30) :: (60, peekS 60 Feq) :: partL) := ⟨Fparts_ok ps, F20f_ok, F17_ok, in_ok (Fnum_ok k), in_ok F30_ok, peek_ok Feq_ok, partL_ok⟩
theorem al24z : AllOk Tryd.prog ((43, Fparts []) :: (20, F20f) :: (31, F17) :: (32, inS 32 cl F18) :: (59, inS 59 cl F30) :: (60, peekS 60 Feq) :: partL) := ⟨Fparts_ok [], F20f_ok, F17_ok, in_ok F18_ok, in_ok F30_ok, peek_ok Feq_ok, partL_ok⟩
theorem base24 (k : Int) (ps : List PK) : SumOk Tryd.prog 24 (codeX Tryd.prog (G24c k ps) lv24c 8 Tryd.f24) := codeX_ok (k := 8) (lv := lv24c) mixed noNG_prog (sums_call (Wr := all) (al24c k ps)) (sums_prim (al24c k ps)) (fn := Tryd.f24) rfl
theorem base24z : SumOk Tryd.prog 24 (codeX Tryd.prog G24z lv24c 8 Tryd.f24) := codeX_ok (k := 8) (lv := lv24c) mixed noNG_prog (sums_call (Wr := all) al24z) (sums_prim al24z) (fn := Tryd.f24) rfl
def F24f : Summ := ⟨fun args ob K => match args, ob with
  | [.dat (.sl (.int .u8)) b], [] => ck (List.length b ≤ 10000 ∧ ∀ x ∈ b, 0 ≤ x ∧ x < (256 : Int)) (K (.tup [.dat CT (cofM b).1, .dat I64 (cofM b).2]) [])
  | _, _ => none⟩
end Go.Mx
namespace Go.Mx
open Go Go.RowKit Go.Sx Go.Proofs
set_option maxRecDepth 100000
theorem of_big {R : Type} (K : KV R) (b : List Int) (h : 298 < b.length) : (codeX Tryd.prog G24z lv24c 8 Tryd.f24).run [.dat BL b] [] K = K (.tup [.dat CT (zeroC 0), .dat I64 2]) [] := by
  refine (of_0 K b).trans ?_
  rw [decide_eq_true (show (298 : Int) < (b.length : Int) by omega), cond_true]
  all_goals rfl
theorem op_range {b : List Int} (hb : Bytes b) (hl : b.length < 100000) : 0 ≤ numV (newV b) 1 ∧ numV (newV b) 1 < 4294967296 := by
  obtain ⟨e, _, h1, h2⟩ := sim_num (show Sim (newV b) (b, false) from ⟨rfl, rfl, rfl, hb, hl, fun h => by cases h⟩) 1
  rw [e]
  exact ⟨h1, h2 (by decide)⟩
theorem F24f_ok : SumOk Tryd.prog 24 F24f := by
  refine ⟨?_, ?_⟩
  · intro R R' f args ob K
    unfold F24f; dsimp only
    split <;> simp only [bd_ck, bd_none]
  · intro R args ob K r hK W ρ w us hr ha
    unfold F24f at hK; dsimp only at hK
    split at hK
    · rename_i b
      obtain ⟨⟨hl, hb⟩, h2⟩ := ck_elim hK
      clear hK
      unfold cofM at h2
      by_cases hbig : 298 < b.length
      · rw [decide_eq_true (show (298 : Int) < ((List.length b : Nat) : Int) by omega), cond_true] at h2
        exact base24z.2 _ [] K r ((of_big K b hbig).trans h2) W ρ w us hr ha
      · rw [decide_eq_false (show ¬ (298 : Int) < ((List.length b : Nat) : Int) by omega), cond_false] at h2
        have h3 := (tail_eq K b (cofC b)).trans h2
        clear h2
        obtain ⟨g1, g2⟩ := op_range (b := b) hb (by omega)
        have hw : IntKind.wrap .i64 (numV (newV b) 1) = numV (newV b) 1 := wrapS (by omega)
        by_cases h0 : psOf (numV (newV b) 1) = []
        · exact base24z.2 _ [] K r ((of_run_0 K b (by omega) (by rw [hw]; exact h0)).trans h3) W ρ w us hr ha
        · rcases ps_cases h0 with ho | ho | ho | ho | ho | ho | ho | ho | ho | ho | ho | ho | ho | ho | ho | ho | ho | ho
          · exact (base24 1 [.ring, .typ, .desc, .payload]).2 _ [] K r ((of_run_1 K b (by omega) ho).trans h3) W ρ w us hr ha
          · exact (base24 2 [.typ, .desc]).2 _ [] K r ((of_run_2 K b (by omega) ho).trans h3) W ρ w us hr ha
          · exact (base24 3 [.ring, .typ, .desc]).2 _ [] K r ((of_run_3 K b (by omega) ho).trans h3) W ρ w us hr ha
          · exact (base24 4 [.key]).2 _ [] K r ((of_run_4 K b (by omega) ho).trans h3) W ρ w us hr ha
          · exact (base24 5 [.key, .payload]).2 _ [] K r ((of_run_5 K b (by omega) ho).trans h3) W ρ w us hr ha
          · exact (base24 6 [.key]).2 _ [] K r ((of_run_6 K b (by omega) ho).trans h3) W ρ w us hr ha
          · exact (base24 7 [.key, .ring]).2 _ [] K r ((of_run_7 K b (by omega) ho).trans h3) W ρ w us hr ha
          · exact (base24 8 [.key, .ring]).2 _ [] K r ((of_run_8 K b (by omega) ho).trans h3) W ρ w us hr ha
          · exact (base24 9 [.key, .ring, .to]).2 _ [] K r ((of_run_9 K b (by omega) ho).trans h3) W ρ w us hr ha
          · exact (base24 10 [.ring]).2 _ [] K r ((of_run_10 K b (by omega) ho).trans h3) W ρ w us hr ha
          · exact (base24 11 [.key, .perm]).2 _ [] K r ((of_run_11 K b (by omega) ho).trans h3) W ρ w us hr ha
          · exact (base24 12 [.key, .uid, .gid]).2 _ [] K r ((of_run_12 K b (by omega) ho).trans h3) W ρ w us hr ha
          · exact (base24 13 [.key, .time]).2 _ [] K r ((of_run_13 K b (by omega) ho).trans h3) W ρ w us hr ha
          · exact (base24 14 [.key]).2 _ [] K r ((of_run_14 K b (by omega) ho).trans h3) W ρ w us hr ha
          · exact (base24 15 [.key]).2 _ [] K r ((of_run_15 K b (by omega) ho).trans h3) W ρ w us hr ha
          · exact (base24 16 [.ring, .restrict]).2 _ [] K r ((of_run_16 K b (by omega) ho).trans h3) W ρ w us hr ha
          · exact (base24 17 [.key, .create]).2 _ [] K r ((of_run_17 K b (by omega) ho).trans h3) W ρ w us hr ha
          · exact (base24 18 [.desc]).2 _ [] K r ((of_run_18 K b (by omega) ho).trans h3) W ρ w us hr ha
    · cases hK
end Go.Mx
namespace Go.Mx
open Go Go.RowKit Go.Sx Go.Proofs
set_option maxRecDepth 100000
theorem byteAt_n (n i : Nat) (hn : n < 18446744073709551616) (hi : i ≤ 7) : byteAt n i = ((n / 256 ^ i % 256 : Nat) : Int) := by
  unfold byteAt shr
  rw [wrapS (by omega), show (8 * (i : Int)).toNat = 8 * i by omega, show min (8 * i) IntKind.u64.bits = 8 * i by simp only [IntKind.bits]; omega, IntKind.wrap_u8]
  rw [show ((2 : Int) ^ (8 * i)) = ((256 ^ i : Nat) : Int) by rw [Int.pow_mul]; simp, ← Int.natCast_ediv]
  omega
theorem pB_cons (n m : Nat) (hn : n < 18446744073709551616) (hm : m ≤ 7) : pB n (m + 1) = ((n % 256 : Nat) : Int) :: pB ((n / 256 : Nat) : Int) m := by
  unfold pB
  rw [List.range_succ_eq_map, List.map_cons, List.map_map]
  rw [byteAt_n n 0 hn (by omega), Nat.pow_zero, Nat.div_one]
  congr 1
  apply List.map_congr_left
  intro i hi
  have := List.mem_range.1 hi
  show byteAt n (i + 1) = byteAt ((n / 256 : Nat) : Int) i
  rw [byteAt_n n (i + 1) hn (by omega), byteAt_n (n / 256) i (by omega) (by omega), Nat.pow_succ, Nat.mul_comm, Nat.div_div_eq_div_mul]
theorem leN_pB : ∀ (m n : Nat), n < 18446744073709551616 → m ≤ 8 → leN (pB n m) = n % 256 ^ m ∧ Bytes (pB n m)
  | 0, n, _, _ => by
    have : pB n 0 = [] := rfl
    rw [this, Nat.pow_zero, Nat.mod_one]
    exact ⟨rfl, fun x hx => by simp at hx⟩
  | m + 1, n, hn, hm => by
    obtain ⟨h1, h2⟩ := leN_pB m (n / 256) (by omega) (by omega)
    rw [pB_cons n m hn (by omega)]
    refine ⟨?_, fun x hx => ?_⟩
    · rw [leN, h1, Int.toNat_natCast, Nat.pow_succ, Nat.mul_comm (256 ^ m), Nat.mod_mul]
    · rcases List.mem_cons.1 hx with rfl | hx
      · omega
      · exact h2 x hx
theorem num_back {n m : Nat} (hn : n < 256 ^ m) (hn2 : n < 18446744073709551616) (h1 : 1 ≤ m) (h8 : m ≤ 8) (r : List Int) : numV ((pB n m ++ r, true, false) : RV) (m : Int) = n ∧ numS ((pB n m ++ r, true, false) : RV) (m : Int) = (r, true, false) := by
  have hs : sizeOk (m : Int) = m := by unfold sizeOk; rw [if_neg (by omega)]
  obtain ⟨e1, e2⟩ := leN_pB m n hn2 h8
  have hl := pB_len (n : Int) m
  have ht : takeV ((pB n m ++ r, true, false) : RV) (m : Int) = pB n m := by
    unfold takeV
    rw [if_neg (by simp), if_neg (by simp [hl]; omega), Int.toNat_natCast]
    exact List.take_left' hl
  have hd : takeS ((pB n m ++ r, true, false) : RV) (m : Int) = (r, true, false) := by
    unfold takeS
    rw [if_neg (by simp), if_neg (by simp [hl]; omega), Int.toNat_natCast]
    rw [List.drop_left' hl]
  unfold numV numS
  rw [hs, ht, hd, num_le e2 (by omega), e1, Nat.mod_eq_of_lt hn]
  exact ⟨rfl, rfl⟩
theorem pBad_ok {n : Nat} {s : Int} (hn : n < 18446744073709551616) (h : pBad n s = false) : ∃ m : Nat, s = m ∧ 1 ≤ m ∧ m ≤ 8 ∧ n < 256 ^ m := by
  unfold pBad at h
  simp only [Bool.or_eq_false_iff, decide_eq_false_iff_not, Bool.and_eq_false_iff] at h
  obtain ⟨h1, h2, h3⟩ := h
  obtain ⟨m, rfl⟩ : ∃ m : Nat, s = m := ⟨s.toNat, by omega⟩
  refine ⟨m, rfl, by omega, by omega, ?_⟩
  by_cases h8 : m = 8
  · subst h8; exact hn
  · have h3 : ¬ 0 < shr .u64 (n : Int) (IntKind.i64.wrap (8 * (m : Int))) := h3.resolve_left (by omega)
    unfold shr at h3
    rw [wrapS (by omega), show (8 * (m : Int)).toNat = 8 * m by omega, show min (8 * m) IntKind.u64.bits = 8 * m by simp only [IntKind.bits]; omega, show ((2 : Int) ^ (8 * m)) = ((256 ^ m : Nat) : Int) by rw [Int.pow_mul]; simp, ← Int.natCast_ediv] at h3
    have h4 : n / 256 ^ m = 0 := Nat.eq_zero_of_not_pos (fun hp => h3 (by exact_mod_cast hp))
    rcases Nat.div_eq_zero_iff.1 h4 with h5 | h5
    · exact absurd h5 (Nat.pos_iff_ne_zero.1 (Nat.pow_pos (by omega)))
    · exact h5
theorem wholeN_nat {n : Int} : wholeN n = ((n % 4294967296).toNat : Int) := by
  unfold wholeN
  rw [IntKind.wrap_i32, show IntKind.u32.wrap ((n + 2147483648) % 4294967296 - 2147483648) = ((n + 2147483648) % 4294967296 - 2147483648) % 4294967296 by simp [IntKind.wrap, IntKind.bits, IntKind.signed], IntKind.wrap_u64]
  omega
theorem blE_ok {b : List Int} {n : Int} (h : blE b n = 0) : (n = 1 ∨ n = 2) ∧ (b.length : Int) < 256 ^ n.toNat := by
  unfold blE at h
  by_cases hn : n = 1 ∨ n = 2
  · have hz : (!decide (n = 1) && !decide (n = 2)) = false := by rcases hn with rfl | rfl <;> rfl
    obtain ⟨e1, e2⟩ := shl8 hn
    rw [hz, cond_false, e1, e2] at h
    refine ⟨hn, ?_⟩
    by_cases c : (256 : Int) ^ n.toNat ≤ (b.length : Int)
    · rw [decide_eq_true c] at h; cases h
    · omega
  · rw [show (!decide (n = 1) && !decide (n = 2)) = true by simp; omega] at h; cases h
end Go.Mx
namespace Go.Mx
open Go Go.RowKit Go.Sx Go.Proofs
set_option maxRecDepth 100000
theorem strOf_bytes (s : ByteArray) : strOf (bytesOf s) = s := by
  apply ByteArray.ext
  apply Array.toList_inj.1
  show (bytesOf s).map (fun n => UInt8.ofNat n.toNat) = s.data.toList
  unfold bytesOf
  rw [List.map_map]
  have : ∀ l : List UInt8, l.map ((fun n : Int => UInt8.ofNat n.toNat) ∘ fun u : UInt8 => (u.toNat : Int)) = l := by
    intro l
    induction l with
    | nil => rfl
    | cons u l ih =>
      rw [List.map_cons, ih]
      congr 1
      show UInt8.ofNat ((u.toNat : Int)).toNat = u
      rw [Int.toNat_natCast]
      exact UInt8.ofNat_toNat
  exact this _
theorem of_rs {x : RsV} (hb : rsBad x = false) : ofOk (rsB x) = true ∧ ofR (rsB x) = x := by
  obtain ⟨c, v, s⟩ := x
  unfold rsBad at hb
  simp only [Bool.or_eq_false_iff, decide_eq_false_iff_not] at hb
  obtain ⟨h1, h2, h3, h4, h5⟩ := hb
  obtain ⟨cn, rfl⟩ : ∃ n : Nat, c = n := ⟨c.toNat, by omega⟩
  have e0 : ([IntKind.u8.wrap (cn : Int)] : List Int) = pB (cn : Int) 1 := by
    rw [pB_cons cn 0 (by omega) (by omega), IntKind.wrap_u8]
    show [((cn : Int) % 256)] = [((cn % 256 : Nat) : Int)]
    rw [Int.natCast_emod]; rfl
  have eB : rsB ((cn : Int), v, s) = pB (cn : Int) 1 ++ (pB (((v % 4294967296).toNat : Nat) : Int) 4 ++ (pB ((s.size : Nat) : Int) 2 ++ bytesOf s)) := by
    unfold rsB
    dsimp only
    rw [e0, wholeN_nat, List.append_assoc]
  obtain ⟨a1, a2⟩ := num_back (n := cn) (m := 1) (by omega) (by omega) (by omega) (by omega) (pB (((v % 4294967296).toNat : Nat) : Int) 4 ++ (pB ((s.size : Nat) : Int) 2 ++ bytesOf s))
  obtain ⟨b1, b2⟩ := num_back (n := (v % 4294967296).toNat) (m := 4) (by have : (256 : Nat) ^ 4 = 4294967296 := rfl; omega) (by omega) (by omega) (by omega) (pB ((s.size : Nat) : Int) 2 ++ bytesOf s)
  obtain ⟨c1, c2⟩ := num_back (n := s.size) (m := 2) (by have : (256 : Nat) ^ 2 = 65536 := rfl; omega) (by omega) (by omega) (by omega) (bytesOf s)
  rw [show ((1 : Nat) : Int) = 1 from rfl] at a1 a2
  rw [show ((4 : Nat) : Int) = 4 from rfl] at b1 b2
  rw [show ((2 : Nat) : Int) = 2 from rfl] at c1 c2
  rw [eB]
  generalize hX : pB (cn : Int) 1 ++ (pB (((v % 4294967296).toNat : Nat) : Int) 4 ++ (pB ((s.size : Nat) : Int) 2 ++ bytesOf s)) = X at a1 a2
  have k1 : of1 X = (pB (((v % 4294967296).toNat : Nat) : Int) 4 ++ (pB ((s.size : Nat) : Int) 2 ++ bytesOf s), true, false) := a2
  have k2 : of2 X = (pB ((s.size : Nat) : Int) 2 ++ bytesOf s, true, false) := by unfold of2; rw [k1]; exact b2
  have kc : ofC X = cn := by
    unfold ofC newV
    rw [a1, wrapS (by omega)]
  have kv : wholeV (numV (of1 X) 4) = v := by
    rw [k1, b1]
    unfold wholeV
    rw [show IntKind.u32.wrap ((v % 4294967296).toNat : Int) = ((v % 4294967296).toNat : Int) by simp [IntKind.wrap, IntKind.bits, IntKind.signed]; omega, IntKind.wrap_i32, wrapS (by omega)]
    omega
  have n2 : numV (of2 X) 2 = s.size := by rw [k2]; exact c1
  have s2 : numS (of2 X) 2 = (bytesOf s, true, false) := by rw [k2]; exact c2
  have hz : bSize 2 = 2 := rfl
  have kt : ofT X = bytesOf s := by
    unfold ofT blobV
    rw [hz, n2, s2, wrapS (by omega)]
    unfold takeV
    rw [if_neg (by simp), if_neg (by rw [bytesOf_length]; omega), Int.toNat_natCast, List.take_of_length_le (by rw [bytesOf_length]; omega)]
  have k3 : of3 X = ([], true, false) := by
    unfold of3 blobS
    rw [hz, n2, s2, wrapS (by omega)]
    unfold takeS
    rw [if_neg (by simp), if_neg (by rw [bytesOf_length]; omega), Int.toNat_natCast, List.drop_of_length_le (by rw [bytesOf_length]; omega)]
  have ko : ofOk X = true := by
    unfold ofOk
    rw [k3, kc, decide_eq_false (show ¬ 18 < (cn : Int) by omega)]; rfl
  refine ⟨ko, ?_⟩
  unfold ofR
  rw [ko, kc, kv, kt, strOf_bytes]; rfl
theorem rsB_len (x : RsV) : (rsB x).length = 7 + x.2.2.size := by
  unfold rsB
  rw [List.length_append, List.length_append, List.length_append, pB_len, pB_len, bytesOf_length]
  show 1 + 4 + (2 + _) = _; omega
theorem la_run {R : Type} (K : KV R) (x : RsV) : (codeX Tryd.prog G3 lvN 0 Tryd.f3).run [.dat RsT x] [] K = K (.dat .bool true) [] := by
  refine (la_0 K x).trans ?_
  by_cases hl : 70000 < (x.2.2.size : Int)
  · rw [decide_eq_true hl]; rfl
  rw [decide_eq_false hl, cond_false, ck_pos (show x.2.2.size < 400000 by omega)]
  simp only [ck_pos (show x.2.2.size < 400000 by omega)]
  cases hb : rsBad x with
  | true => rfl
  | false =>
    obtain ⟨h1, h2⟩ := of_rs hb
    have h3 : ofE (rsB x) = 0 := by unfold ofE; rw [h1]; rfl
    simp only [cond_false]
    simp only [decide_true, Bool.not_true, cond_false]
    rw [ck_pos (by rw [rsB_len]; omega), h2, h3, decide_eq_true (Eq.refl (0 : Int)), decide_eq_true (Eq.refl x.1), decide_eq_true (Eq.refl x.2.1), decide_eq_true (Eq.refl x.2.2)]
    rfl
theorem all3 : AllOk Tryd.prog [(9, F9k), (10, F10r), (11, F10r), (12, F12o)] := ⟨F9k_ok, F10r_ok, F11r_ok, F12o_ok, trivial⟩
theorem RequestAnswers_ok : SumOk Tryd.prog 3 (codeX Tryd.prog G3 lvN 0 Tryd.f3) := codeX_ok mixed noNG_prog (sums_call all3) (sums_prim all3) rfl lvN 0
theorem RequestAnswers_law (x : RsV) (_ : (Lit.int .i64 x.1).wf = true ∧ (Lit.int .i64 x.2.1).wf = true ∧ x.2.2.size ≤ 140737488351232) : (codeX Tryd.prog G3 lvN 0 Tryd.f3).run [.dat RsT x] [] isTrue = some true := la_run isTrue x
end Go.Mx
namespace Go.Mx
open Go Go.RowKit Go.Sx Go.Proofs
set_option maxRecDepth 100000
def rof1 (b : List Int) : QV := rnumS (b, false) 1
def rof2 (b : List Int) : QV := rnumS (rof1 b) 4
def rof3 (b : List Int) : QV := rblobS (rof2 b) 2
def rofC (b : List Int) : Int := IntKind.i64.wrap (rnumV (b, false) 1)
def rofT (b : List Int) : List Int := bif rbBad (rof2 b) 2 then [] else rblobV (rof2 b) 2
def rofOk (b : List Int) : Bool := decide (rendV (rof3 b) = 0) && !decide (18 < rofC b)
def rofR (b : List Int) : RsV := bif rofOk b then (rofC b, rwholeV (rnumV (rof1 b) 4), strOf (rofT b)) else (0, 0, ⟨#[]⟩)
def rofE (b : List Int) : Int := bif rofOk b then 0 else 2
def F13o : Summ := ⟨fun args ob K => match args, ob with
  | [.dat (.sl (.int .u8)) b], [] => ck (b.length < 100000 ∧ 0 ≤ rblobN (rof2 b) 2) (K (.tup [.dat RsT (rofR b), .dat I64 (rofE b)]) [])
  | _, _ => none⟩
theorem rof_run {R : Type} (K : KV R) (b : List Int) (hl : b.length < 100000) (hn : 0 ≤ rblobN (rof2 b) 2) : (codeX Tryd.prog G13r lvN 0 Tryd.f13).run [.dat BL b] [] K = K (.tup [.dat RsT (rofR b), .dat I64 (rofE b)]) [] := by
  refine (rof_d K b).trans ?_
  have l1 : (rof2 b).1.length < 100000 := Nat.lt_of_le_of_lt (Nat.le_trans (rnumS_len _ _) (rnumS_len _ _)) hl
  rw [ck_pos (by unfold limit; omega)]
  refine (ck_pos (show (rof2 b).1.length < 100000 ∧ (¬ ((2 : Int) = 1 ∨ (2 : Int) = 2) ∨ 0 ≤ rblobN (rof2 b) 2) from ⟨l1, .inr hn⟩)).trans ?_
  unfold rofR rofE rofOk rofT
  show (bif rbBad (rof2 b) 2 then (bif !decide (rendV (rof3 b) = 0) then _ else bif decide (18 < rofC b) then _ else _) else (bif !decide (rendV (rof3 b) = 0) then _ else bif decide (18 < rofC b) then _ else _)) = _
  cases rbBad (rof2 b) 2 <;> cases decide (rendV (rof3 b) = 0) <;> cases decide (18 < rofC b) <;> rfl
theorem all13r : AllOk Tryd.prog [(36, inS 36 cl F19), (37, inS 37 cl F21), (38, inS 38 cl F23), (39, inS 39 cl F34)] := ⟨in_ok F19_ok, in_ok F21_ok, in_ok F23_ok, in_ok F34_ok, trivial⟩
theorem F13o_ok : SumOk Tryd.prog 13 F13o := by
  refine (codeX_ok (k := 0) (lv := lvN) mixed noNG_prog (sums_call (Wr := all) all13r) (sums_prim all13r) (fn := Tryd.f13) rfl).le (fun f args ob K => by unfold F13o; dsimp only; split <;> simp only [bd_none, bd_ck]) ?_
  intro R args ob K r h
  unfold F13o at h; dsimp only at h
  split at h
  · obtain ⟨hl, h⟩ := ck_elim h
    exact (rof_run K _ hl.1 hl.2).trans h
  · cases h
theorem sim_new {b : List Int} (hb : Bytes b) (hl : b.length < 100000) : Sim (newV b) (b, false) := ⟨rfl, rfl, rfl, hb, hl, fun h => by cases h⟩
theorem sim_end {x : RV} {y : QV} (h : Sim x y) : endV x = rendV y := by
  obtain ⟨xs, made, bad⟩ := x
  obtain ⟨ys, bad'⟩ := y
  obtain ⟨h1, h2, h3, h4, h5, h6⟩ := h
  dsimp only at h1 h2 h3 h4 h5 h6
  subst h1 h2 h3
  rfl
theorem of_rof {b : List Int} (hb : Bytes b) (hl : b.length < 100000) : ofR b = rofR b ∧ ofE b = rofE b ∧ 0 ≤ rblobN (rof2 b) 2 := by
  have s0 := sim_new hb hl
  obtain ⟨a1, a2, a3, a4⟩ := sim_num s0 1
  have a2 : Sim (of1 b) (rof1 b) := a2
  obtain ⟨b1, b2, b3, b4⟩ := sim_num a2 4
  have b2 : Sim (of2 b) (rof2 b) := b2
  have bw := sim_whole a2
  obtain ⟨c1, c2, c3⟩ := sim_blob b2 2
  have c2 : Sim (of3 b) (rof3 b) := c2
  have ce := sim_end c2
  have c3 : ofT b = rofT b := by
    unfold ofT rofT
    rw [c3]
    cases rbBad (rof2 b) 2 <;> rfl
  have cc : ofC b = rofC b := by unfold ofC rofC; rw [a1]
  have co : ofOk b = rofOk b := by unfold ofOk rofOk; rw [ce, cc]
  refine ⟨?_, ?_, c1.resolve_left (by simp)⟩
  · unfold ofR rofR; rw [co, cc, bw, c3]
  · unfold ofE rofE; rw [co]
noncomputable def G4 : Sums := sums all [(9, F9k), (11, F10r), (12, F12o), (13, F13o)]
theorem lh_0 {R : Type} (K : KV R) (b : List Int) : (codeX Tryd.prog G4 lvN 0 Tryd.f4).run [.dat BL b] [] K = bif decide ((2000 : Int) < (↑(List.length b) : Int)) then K (AV.dat T.bool true) [] else ck (List.length b < (100000 : Nat)) (ck (List.length b < (100000 : Nat) ∧ (0 : Int) ≤ rblobN (rof2 b) (2 : Int)) (bif !(decide (Prod.fst (ofR b) = Prod.fst (rofR b)) && (decide (Prod.fst (Prod.snd (ofR b)) = Prod.fst (Prod.snd (rofR b))) && decide (Prod.snd (Prod.snd (ofR b)) = Prod.snd (Prod.snd (rofR b))))) then K (AV.dat T.bool false) [] else bif !decide (ofE b = rofE b) then K (AV.dat T.bool false) [] else bif !decide (ofE b = (0 : Int)) then K (AV.dat T.bool true) [] else ck (ByteArray.size (Prod.snd (Prod.snd (ofR b))) < (400000 : Nat)) (bif rsBad (ofR b) then bif decide (strOf [] = strOf b) then K (AV.dat T.bool true) [] else K (AV.dat T.bool false) [] else bif decide (strOf (rsB (ofR b)) = strOf b) then K (AV.dat T.bool true) [] else K (AV.dat T.bool false) []))) := by kernel_rfl
end Go.Mx
namespace Go.Mx
open Go Go.RowKit Go.Sx Go.Proofs
set_option maxRecDepth 100000
theorem pB_leN : ∀ {l : List Int}, Bytes l → l.length ≤ 8 → pB (leN l : Int) l.length = l
  | [], _, _ => rfl
  | x :: l, hb, h8 => by
    have hx := hb x (by simp)
    have hl : Bytes l := fun y hy => hb y (by simp [hy])
    have hlt := leN_lt hl
    have h8' : l.length ≤ 7 := by simpa using h8
    have hp : (256 : Nat) ^ l.length ≤ 256 ^ 7 := Nat.pow_le_pow_right (by decide) h8'
    have h7 : (256 : Nat) ^ 7 = 72057594037927936 := rfl
    have e : leN (x :: l) = x.toNat + 256 * leN l := rfl
    rw [List.length_cons, pB_cons (leN (x :: l)) l.length (by omega) h8']
    rw [show leN (x :: l) % 256 = x.toNat by omega, show leN (x :: l) / 256 = leN l by omega, pB_leN hl (by omega)]
    congr 1
    omega
theorem num_split {b : List Int} (hb : Bytes b) {m : Nat} (h1 : 1 ≤ m) (h8 : m ≤ 7) : (∃ n : Nat, n < 256 ^ m ∧ b = pB (n : Int) m ++ b.drop m ∧ numV ((b, true, false) : RV) (m : Int) = n ∧ numS ((b, true, false) : RV) (m : Int) = (b.drop m, true, false)) ∨ numS ((b, true, false) : RV) (m : Int) = ([], true, true) := by
  by_cases h : m ≤ b.length
  · left
    have ht : (b.take m).length = m := by rw [List.length_take]; omega
    have hbt : Bytes (b.take m) := bytes_take hb m
    have hlt := leN_lt hbt
    have hp := pB_leN hbt (by omega)
    rw [ht] at hlt hp
    have hp7 : (256 : Nat) ^ m ≤ 256 ^ 7 := Nat.pow_le_pow_right (by decide) h8
    have h7 : (256 : Nat) ^ 7 = 72057594037927936 := rfl
    have e : b = pB (leN (b.take m) : Int) m ++ b.drop m := by rw [hp]; exact (List.take_append_drop m b).symm
    obtain ⟨a1, a2⟩ := num_back hlt (by omega) h1 (by omega) (b.drop m)
    rw [← e] at a1 a2
    exact ⟨leN (b.take m), hlt, e, a1, a2⟩
  · right
    have hs : sizeOk (m : Int) = m := by unfold sizeOk; rw [if_neg (by omega)]
    unfold numS
    rw [hs]
    unfold takeS
    rw [if_neg (by simp), if_pos (by right; show (b.length : Int) < m; omega)]
theorem bytesOf_str {l : List Int} (h : Bytes l) : bytesOf (strOf l) = l := by
  refine (strOf_inj (bytesOf_range _) h).1 ?_
  exact strOf_bytes _
theorem bad_end {x : RV} (h : x = ([], true, true)) : endV x = 16 := by subst h; rfl
theorem hears {b : List Int} (hb : Bytes b) (hl : b.length < 100000) (ho : ofOk b = true) : rsBad (ofR b) = false ∧ rsB (ofR b) = b := by
  have hc0 := ho
  unfold ofOk at ho
  rw [Bool.and_eq_true, decide_eq_true_eq, Bool.not_eq_true', decide_eq_false_iff_not] at ho
  obtain ⟨he, h18⟩ := ho
  have bad1 : ∀ n : Int, numS (([], true, true) : RV) n = ([], true, true) := fun n => by unfold numS takeS; rw [if_pos (by rfl)]
  have bad2 : ∀ n : Int, blobS (([], true, true) : RV) n = ([], true, true) := fun n => by unfold blobS; rw [bad1]; unfold takeS; rw [if_pos (by rfl)]
  rcases num_split hb (m := 1) (by omega) (by omega) with ⟨c, c1, c2, c3, c4⟩ | c4
  · rw [show ((1 : Nat) : Int) = 1 from rfl] at c3 c4
    have k1 : of1 b = (b.drop 1, true, false) := c4
    have hb1 : Bytes (b.drop 1) := bytes_drop hb 1
    generalize b.drop 1 = b1 at c2 k1 hb1
    rcases num_split hb1 (m := 4) (by omega) (by omega) with ⟨v, v1, v2, v3, v4⟩ | v4
    · rw [show ((4 : Nat) : Int) = 4 from rfl] at v3 v4
      have k2 : of2 b = (b1.drop 4, true, false) := by unfold of2; rw [k1]; exact v4
      have hb2 : Bytes (b1.drop 4) := bytes_drop hb1 4
      generalize b1.drop 4 = b2 at v2 k2 hb2
      rcases num_split hb2 (m := 2) (by omega) (by omega) with ⟨s, s1, s2, s3, s4⟩ | s4
      · rw [show ((2 : Nat) : Int) = 2 from rfl] at s3 s4
        have hb3 : Bytes (b2.drop 2) := bytes_drop hb2 2
        generalize b2.drop 2 = b3 at s2 s4 hb3
        have s256 : (256 : Nat) ^ 2 = 65536 := rfl
        have v256 : (256 : Nat) ^ 4 = 4294967296 := rfl
        have c256 : (256 : Nat) ^ 1 = 256 := rfl
        have k3 : of3 b = takeS (b3, true, false) (s : Int) := by
          unfold of3 blobS
          rw [k2, show bSize 2 = 2 from rfl, s4, s3, wrapS (by omega)]
        have kt : ofT b = takeV (b3, true, false) (s : Int) := by
          unfold ofT blobV
          rw [k2, show bSize 2 = 2 from rfl, s4, s3, wrapS (by omega)]
        have hlen : b3.length = s := by
          rw [k3] at he
          unfold takeS at he
          rw [if_neg (by simp)] at he
          split at he
          · rename_i hx; exact absurd (show (16 : Int) = 0 from he) (by decide)
          · rename_i hx
            unfold endV at he
            simp only [Bool.not_true, cond_false, List.length_drop] at he
            by_cases h0 : (0 : Int) < ((b3.length - (s : Int).toNat : Nat) : Int)
            · rw [decide_eq_true h0] at he; exact absurd he (by decide)
            · simp only [not_or] at hx
              omega
        have kt' : ofT b = b3 := by
          rw [kt]
          unfold takeV
          rw [if_neg (by simp), if_neg (by show ¬ ((s : Int) < 0 ∨ (b3.length : Int) < s); omega), Int.toNat_natCast]
          exact List.take_of_length_le (show b3.length ≤ s by omega)
        have kc : ofC b = c := by
          unfold ofC
          rw [show numV (newV b) 1 = (c : Int) from c3, wrapS (by omega)]
        have kv : numV (of1 b) 4 = v := by rw [k1]; exact v3
        have kR : ofR b = ((c : Int), wholeV (v : Int), strOf b3) := by
          unfold ofR
          rw [hc0, kc, kv, kt']; rfl
        have hsz : (strOf b3).size = s := by rw [strOf_size, hlen]
        have hw : wholeV (v : Int) = if v < 2147483648 then (v : Int) else (v : Int) - 4294967296 := by
          unfold wholeV
          rw [show IntKind.u32.wrap (v : Int) = (v : Int) by simp [IntKind.wrap, IntKind.bits, IntKind.signed]; omega, IntKind.wrap_i32, wrapS (by omega)]
          split <;> omega
        rw [kR]
        constructor
        · unfold rsBad
          rw [kc] at h18
          dsimp only
          rw [decide_eq_false (show ¬ (c : Int) < 0 by omega), decide_eq_false (show ¬ 18 < (c : Int) from h18), hsz, decide_eq_false (show ¬ 65535 < ((s : Nat) : Int) by omega), hw]
          split
          · rw [decide_eq_false (by omega), decide_eq_false (by omega)]; rfl
          · rw [decide_eq_false (by omega), decide_eq_false (by omega)]; rfl
        · unfold rsB
          dsimp only
          rw [bytesOf_str hb3, hsz, ← s2, wholeN_nat]
          have e2 : (wholeV (v : Int) % 4294967296).toNat = v := by rw [hw]; split <;> omega
          rw [e2, List.append_assoc, ← v2]
          have e0 : ([IntKind.u8.wrap (c : Int)] : List Int) = pB (c : Int) 1 := by
            rw [pB_cons c 0 (by omega) (by omega), IntKind.wrap_u8]
            show [((c : Int) % 256)] = [((c % 256 : Nat) : Int)]
            rw [Int.natCast_emod]; rfl
          rw [e0]
          exact c2.symm
      · exfalso
        rw [show ((2 : Nat) : Int) = 2 from rfl] at s4
        have : of3 b = ([], true, true) := by
          unfold of3 blobS
          rw [k2, show bSize 2 = 2 from rfl, s4]
          unfold takeS; rw [if_pos (by rfl)]
        rw [bad_end this] at he; exact absurd he (by decide)
    · exfalso
      rw [show ((4 : Nat) : Int) = 4 from rfl] at v4
      have : of3 b = ([], true, true) := by
        unfold of3 of2
        rw [k1, v4, bad2]
      rw [bad_end this] at he; exact absurd he (by decide)
  · exfalso
    rw [show ((1 : Nat) : Int) = 1 from rfl] at c4
    have : of3 b = ([], true, true) := by
      unfold of3 of2 of1
      rw [show numS (newV b) 1 = ([], true, true) from c4, bad1, bad2]
    rw [bad_end this] at he; exact absurd he (by decide)
theorem lh_run {R : Type} (K : KV R) (b : List Int) (hb : Bytes b) : (codeX Tryd.prog G4 lvN 0 Tryd.f4).run [.dat BL b] [] K = K (.dat .bool true) [] := by
  refine (lh_0 K b).trans ?_
  by_cases hl : 2000 < (b.length : Int)
  · rw [decide_eq_true hl]; rfl
  obtain ⟨e1, e2, e3⟩ := of_rof hb (show b.length < 100000 by omega)
  rw [decide_eq_false hl, cond_false, ck_pos (by omega), ck_pos ⟨by omega, e3⟩, ← e1, ← e2]
  simp only [decide_true, Bool.and_true, Bool.not_true, cond_false]
  cases ho : ofOk b with
  | false =>
    have : ofE b = 2 := by unfold ofE; rw [ho]; rfl
    rw [this]; rfl
  | true =>
    have : ofE b = 0 := by unfold ofE; rw [ho]; rfl
    obtain ⟨h1, h2⟩ := hears hb (by omega) ho
    have hsz : (ofR b).2.2.size < 400000 := by
      have := rsB_len (ofR b)
      rw [h2] at this; omega
    rw [this, h1, h2, ck_pos hsz]
    simp only [decide_true, Bool.not_true, cond_false, cond_true]
theorem all4 : AllOk Tryd.prog [(9, F9k), (11, F10r), (12, F12o), (13, F13o)] := ⟨F9k_ok, F11r_ok, F12o_ok, F13o_ok, trivial⟩
theorem RequestHears_ok : SumOk Tryd.prog 4 (codeX Tryd.prog G4 lvN 0 Tryd.f4) := codeX_ok mixed noNG_prog (sums_call all4) (sums_prim all4) rfl lvN 0
theorem RequestHears_law (b : List Int) (hb : b.length ≤ 140737488351232 ∧ ∀ x ∈ b, (Lit.int .u8 x).wf = true) : (codeX Tryd.prog G4 lvN 0 Tryd.f4).run [.dat BL b] [] isTrue = some true := lh_run isTrue b (fun x hx => wf8 (hb.2 x hx))
end Go.Mx
