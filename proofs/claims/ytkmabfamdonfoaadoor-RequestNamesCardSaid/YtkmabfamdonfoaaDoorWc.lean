/- Own work. A part of the proof of a law of this seat: this seat's functions, by the machine, and the plain law -/
import Derived.Test.YtkmabfamdonfoaaDoorMe
import Derived.Test.YtkmabfamdonfoaaDoorWb
namespace Go.Mx
set_option linter.unusedVariables false
set_option linter.unusedSimpArgs false
open Go Go.RowKit Go.Sx Go.Proofs
set_option maxRecDepth 100000
theorem clone_n {R : Type} (K : KV R) : (backS [BL] cl (codeX Tryd.prog (sums all []) lvN 0 Tryd.f65)).run [.nilw (.int .u8)] [] K = K (AV.dat (T.sl (T.int IntKind.u8)) []) [] := by kernel_rfl
theorem clone_s {R : Type} (K : KV R) : (backS [BL] cl (codeX Tryd.prog (sums all []) lvN 0 Tryd.f65)).run [.sln (.int .u8) []] [] K = K (AV.dat (T.sl (T.int IntKind.u8)) []) [] := by kernel_rfl
theorem clone_c {R : Type} (K : KV R) (z : Int) (zs : List Int) : (backS [BL] cl (codeX Tryd.prog (sums all []) lvN 0 Tryd.f65)).run [.dat BL (z :: zs)] [] K = ck (List.length (z :: zs) * (1 : Nat) ≤ limit) (K (AV.view (0 : Nat)) [AO.row (5 : Nat) (T.int IntKind.u8) (z :: zs) Md.own]) := by kernel_rfl
theorem clone_vn {R : Type} (K : KV R) (b : List Int) (m : Md) : (backS [BL] cl (codeX Tryd.prog (sums all []) lvN 0 Tryd.f65)).run [.nilw (.int .u8)] [.row 5 (.int .u8) b m] K = K (AV.dat (T.sl (T.int IntKind.u8)) []) [AO.row (5 : Nat) (T.int IntKind.u8) b m] := by kernel_rfl
theorem clone_vs {R : Type} (K : KV R) (b : List Int) (m : Md) : (backS [BL] cl (codeX Tryd.prog (sums all []) lvN 0 Tryd.f65)).run [.sln (.int .u8) []] [.row 5 (.int .u8) b m] K = K (AV.dat (T.sl (T.int IntKind.u8)) []) [AO.row (5 : Nat) (T.int IntKind.u8) b m] := by kernel_rfl
theorem clone_vc {R : Type} (K : KV R) (z : Int) (zs : List Int) (m : Md) : (backS [BL] cl (codeX Tryd.prog (sums all []) lvN 0 Tryd.f65)).run [.view 0] [.row 5 (.int .u8) (z :: zs) m] K = ck (List.length (z :: zs) * (1 : Nat) ≤ limit) (K (AV.view (1 : Nat)) [AO.row (5 : Nat) (T.int IntKind.u8) (z :: zs) m, AO.row (5 : Nat) (T.int IntKind.u8) (z :: zs) Md.own]) := by kernel_rfl
theorem clone_pc {R : Type} (K : KV R) (b : List Int) (n : Nat) : (backS [BL] cl (codeX Tryd.prog (sums all []) lvN 0 Tryd.f65)).run [.pre 0 (n + 1)] [.row 5 (.int .u8) b .own] K = listK (List.take (n + (1 : Nat)) b) (K (AV.dat (T.sl (T.int IntKind.u8)) []) [AO.row (5 : Nat) (T.int IntKind.u8) b Md.own]) fun z zs ↦ ck (List.length (z :: zs) * (1 : Nat) ≤ limit) (K (AV.view (1 : Nat)) [AO.row (5 : Nat) (T.int IntKind.u8) b Md.own, AO.row (5 : Nat) (T.int IntKind.u8) (z :: zs) Md.own]) := by kernel_rfl
def F32 : Summ := ⟨fun args ob K => match args, ob with
  | [.dat (.sl (.int .u8)) b], [] => listK b (K (.dat BL []) []) fun z zs => ck (zs.length < 1000000) (K (.view 0) [.row 5 (.int .u8) (z :: zs) .own])
  | [.view 0], [.row 5 (.int .u8) b m] => listK b (K (.dat BL []) [.row 5 (.int .u8) [] m]) fun z zs => ck (zs.length < 1000000) (K (.view 1) [.row 5 (.int .u8) (z :: zs) m, .row 5 (.int .u8) (z :: zs) .own])
  | [.pre 0 n], [.row 5 (.int .u8) b .own] => listK (b.take n) (K (.dat BL []) [.row 5 (.int .u8) b .own]) fun z zs => ck (zs.length < 1000000) (K (.view 1) [.row 5 (.int .u8) b .own, .row 5 (.int .u8) (z :: zs) .own])
  | _, _ => none⟩
theorem base32 : SumOk Tryd.prog 65 (backS [BL] cl (codeX Tryd.prog (sums all []) lvN 0 Tryd.f65)) := back_ok (codeX_ok (k := 0) (lv := lvN) mixed noNG_prog (sums_call (Wr := all) (l := []) trivial) (sums_prim trivial) (fn := Tryd.f65) rfl)
theorem lim {n : Nat} (h : n < 1000000) : (n + 1) * 1 ≤ limit := by unfold limit; omega
theorem F32_ok : SumOk Tryd.prog 65 F32 := by
  refine ⟨?_, ?_⟩
  · intro R R' f args ob K
    unfold F32; dsimp only
    split <;> simp only [bd_list, bd_ck, bd_none]
  · intro R args ob K r h W ρ w us hr ha
    unfold F32 at h; dsimp only at h
    split at h
    · rename_i b
      cases ha with
      | cons h1 h2 =>
        cases h2
        cases b with
        | nil =>
          rcases no_or h1 with h3 | h3
          · exact base32.2 _ _ K r ((clone_n K).trans h) W ρ w _ hr (.cons h3 .nil)
          · exact base32.2 _ _ K r ((clone_s K).trans h) W ρ w _ hr (.cons h3 .nil)
        | cons z zs =>
          obtain ⟨hl, h⟩ := ck_elim (show ck (zs.length < 1000000) _ = some r from h)
          refine base32.2 _ _ K r ((clone_c K z zs).trans ?_) W ρ w _ hr (.cons h1 .nil)
          rw [ck_pos (by rw [List.length_cons]; exact lim hl)]; exact h
    · rename_i b m
      cases ha with
      | cons h1 h2 =>
        cases h2
        cases b with
        | nil =>
          rcases vw_or hr (i := 0) rfl h1 with h3 | h3
          · exact base32.2 _ _ K r ((clone_vn K [] m).trans h) W ρ w _ hr (.cons h3 .nil)
          · exact base32.2 _ _ K r ((clone_vs K [] m).trans h) W ρ w _ hr (.cons h3 .nil)
        | cons z zs =>
          obtain ⟨hl, h⟩ := ck_elim (show ck (zs.length < 1000000) _ = some r from h)
          refine base32.2 _ _ K r ((clone_vc K z zs m).trans ?_) W ρ w _ hr (.cons h1 .nil)
          rw [ck_pos (by rw [List.length_cons]; exact lim hl)]; exact h
    · rename_i n b
      cases ha with
      | cons h1 h2 =>
        cases h2
        cases n with
        | zero =>
          rcases pre_or hr (i := 0) rfl h1 with h3 | h3
          · exact base32.2 _ _ K r ((clone_vn K b .own).trans h) W ρ w _ hr (.cons h3 .nil)
          · exact base32.2 _ _ K r ((clone_vs K b .own).trans h) W ρ w _ hr (.cons h3 .nil)
        | succ n =>
          refine base32.2 _ _ K r ((clone_pc K b n).trans ?_) W ρ w _ hr (.cons h1 .nil)
          cases hb : b.take (n + 1) with
          | nil => rw [hb] at h; exact h
          | cons z zs =>
            rw [hb] at h
            obtain ⟨hl, h⟩ := ck_elim (show ck (zs.length < 1000000) _ = some r from h)
            show ck _ _ = some r
            rw [ck_pos (by rw [List.length_cons]; exact lim hl)]; exact h
    · cases h
def G17 : Sums := sums all [(65, F32)]
theorem new_0 {R : Type} (K : KV R) (b : List Int) : (backS [BL] cl (codeX Tryd.prog G17 lvN 0 Tryd.f31)).run [.view 0] [.row 5 (.int .u8) b .own] K = listK b (K (AV.ptr (1 : Nat) []) [AO.row (5 : Nat) (T.int IntKind.u8) [] Md.own, AO.box (107 : Nat) (AV.dat (T.pair (T.sl (T.int IntKind.u8)) (T.pair T.bool T.bool)) ([], true, false)) true]) fun z zs ↦ ck (List.length zs < (1000000 : Nat)) (K (AV.ptr (1 : Nat) []) [AO.row (5 : Nat) (T.int IntKind.u8) (z :: zs) Md.own, AO.box (107 : Nat) (AV.dat (T.pair (T.sl (T.int IntKind.u8)) (T.pair T.bool T.bool)) (z :: zs, true, false)) true]) := by kernel_rfl
theorem new_2 {R : Type} (K : KV R) (b : List Int) (n : Nat) : (backS [BL] cl (codeX Tryd.prog G17 lvN 0 Tryd.f31)).run [.pre 0 n] [.row 5 (.int .u8) b .own] K = listK (List.take n b) (K (AV.ptr (1 : Nat) []) [AO.row (5 : Nat) (T.int IntKind.u8) b Md.own, AO.box (107 : Nat) (AV.dat (T.pair (T.sl (T.int IntKind.u8)) (T.pair T.bool T.bool)) ([], true, false)) true]) fun z zs ↦ ck (List.length zs < (1000000 : Nat)) (K (AV.ptr (1 : Nat) []) [AO.row (5 : Nat) (T.int IntKind.u8) b Md.own, AO.box (107 : Nat) (AV.dat (T.pair (T.sl (T.int IntKind.u8)) (T.pair T.bool T.bool)) (z :: zs, true, false)) true]) := by kernel_rfl
theorem new_1 {R : Type} (K : KV R) (b : List Int) : (backS [BL] cl (codeX Tryd.prog G17 lvN 0 Tryd.f31)).run [.dat BL b] [] K = listK b (K (AV.ptr (0 : Nat) []) [AO.box (107 : Nat) (AV.dat (T.pair (T.sl (T.int IntKind.u8)) (T.pair T.bool T.bool)) ([], true, false)) true]) fun z zs ↦ ck (List.length zs < (1000000 : Nat)) (K (AV.ptr (0 : Nat) []) [AO.box (107 : Nat) (AV.dat (T.pair (T.sl (T.int IntKind.u8)) (T.pair T.bool T.bool)) (z :: zs, true, false)) true]) := by kernel_rfl
def G20 : Sums := sums all [(32, inS 32 cl F18)]
theorem whole_0 {R : Type} (K : KV R) (x : RV) : (codeX Tryd.prog G20 lvN 0 Tryd.f33).run [.ptr 0 []] [.box 107 (.dat RT x) true] K = ck (List.length (Prod.fst x) < (100000 : Nat)) (K (AV.dat (T.int IntKind.i64) (IntKind.wrap IntKind.i64 (IntKind.wrap IntKind.i32 (IntKind.wrap IntKind.u32 (numV x (4 : Int)))))) [AO.box (107 : Nat) (AV.dat (T.pair (T.sl (T.int IntKind.u8)) (T.pair T.bool T.bool)) (numS x (4 : Int))) true]) := by kernel_rfl
def G22 : Sums := sums all [(32, inS 32 cl F18), (66, inS 66 cl F33), (65, F32)]
theorem blob_0 {R : Type} (K : KV R) (x : RV) (n : Int) : (backS [] cl (codeX Tryd.prog G22 lvN 0 Tryd.f34)).run [.ptr 0 [], .dat (.int .i64) n] [.box 107 (.dat RT x) true] K = bif !decide (n = (1 : Int)) then bif !decide (n = (2 : Int)) then ck (List.length (Prod.fst x) < (100000 : Nat)) (listK (takeV (numS x (-1 : Int)) (IntKind.wrap IntKind.i64 (numV x (-1 : Int)))) (K (AV.dat (T.sl (T.int IntKind.u8)) []) [AO.box (107 : Nat) (AV.dat (T.pair (T.sl (T.int IntKind.u8)) (T.pair T.bool T.bool)) (takeS (numS x (-1 : Int)) (IntKind.wrap IntKind.i64 (numV x (-1 : Int))))) true]) fun z zs ↦ ck (List.length zs < (1000000 : Nat)) (K (AV.view (1 : Nat)) [AO.box (107 : Nat) (AV.dat (T.pair (T.sl (T.int IntKind.u8)) (T.pair T.bool T.bool)) (takeS (numS x (-1 : Int)) (IntKind.wrap IntKind.i64 (numV x (-1 : Int))))) true, AO.row (5 : Nat) (T.int IntKind.u8) (z :: zs) Md.own])) else ck (List.length (Prod.fst x) < (100000 : Nat)) (listK (takeV (numS x n) (IntKind.wrap IntKind.i64 (numV x n))) (K (AV.dat (T.sl (T.int IntKind.u8)) []) [AO.box (107 : Nat) (AV.dat (T.pair (T.sl (T.int IntKind.u8)) (T.pair T.bool T.bool)) (takeS (numS x n) (IntKind.wrap IntKind.i64 (numV x n)))) true]) fun z zs ↦ ck (List.length zs < (1000000 : Nat)) (K (AV.view (1 : Nat)) [AO.box (107 : Nat) (AV.dat (T.pair (T.sl (T.int IntKind.u8)) (T.pair T.bool T.bool)) (takeS (numS x n) (IntKind.wrap IntKind.i64 (numV x n)))) true, AO.row (5 : Nat) (T.int IntKind.u8) (z :: zs) Md.own])) else ck (List.length (Prod.fst x) < (100000 : Nat)) (listK (takeV (numS x n) (IntKind.wrap IntKind.i64 (numV x n))) (K (AV.dat (T.sl (T.int IntKind.u8)) []) [AO.box (107 : Nat) (AV.dat (T.pair (T.sl (T.int IntKind.u8)) (T.pair T.bool T.bool)) (takeS (numS x n) (IntKind.wrap IntKind.i64 (numV x n)))) true]) fun z zs ↦ ck (List.length zs < (1000000 : Nat)) (K (AV.view (1 : Nat)) [AO.box (107 : Nat) (AV.dat (T.pair (T.sl (T.int IntKind.u8)) (T.pair T.bool T.bool)) (takeS (numS x n) (IntKind.wrap IntKind.i64 (numV x n)))) true, AO.row (5 : Nat) (T.int IntKind.u8) (z :: zs) Md.own])) := by kernel_rfl
def G30 : Sums := sums all [(59, F30)]
theorem end_0 {R : Type} (K : KV R) (x : RV) : (codeX Tryd.prog G30 lvN 0 Tryd.f35).run [.ptr 0 []] [.box 107 (.dat RT x) true] K = bif !Prod.fst (Prod.snd x) then K (AV.dat (T.int IntKind.i64) (1 : Int)) [AO.box (107 : Nat) (AV.dat (T.pair (T.sl (T.int IntKind.u8)) (T.pair T.bool T.bool)) x) true] else bif Prod.snd (Prod.snd x) then K (AV.dat (T.int IntKind.i64) (16 : Int)) [AO.box (107 : Nat) (AV.dat (T.pair (T.sl (T.int IntKind.u8)) (T.pair T.bool T.bool)) x) true] else bif decide ((0 : Int) < (↑(List.length (Prod.fst x)) : Int)) then K (AV.dat (T.int IntKind.i64) (16 : Int)) [AO.box (107 : Nat) (AV.dat (T.pair (T.sl (T.int IntKind.u8)) (T.pair T.bool T.bool)) x) true] else K (AV.dat (T.int IntKind.i64) (0 : Int)) [AO.box (107 : Nat) (AV.dat (T.pair (T.sl (T.int IntKind.u8)) (T.pair T.bool T.bool)) x) true] := by kernel_rfl
theorem rend_0 {R : Type} (K : KV R) (y : QV) : (codeX Tryd.prog G30 lvN 0 Tryd.f39).run [.ptr 0 []] [.box 75 (.dat QT y) true] K = bif Prod.snd y then K (AV.dat (T.int IntKind.i64) (16 : Int)) [AO.box (75 : Nat) (AV.dat (T.pair (T.sl (T.int IntKind.u8)) T.bool) y) true] else bif decide ((0 : Int) < (↑(List.length (Prod.fst y)) : Int)) then K (AV.dat (T.int IntKind.i64) (16 : Int)) [AO.box (75 : Nat) (AV.dat (T.pair (T.sl (T.int IntKind.u8)) T.bool) y) true] else K (AV.dat (T.int IntKind.i64) (0 : Int)) [AO.box (75 : Nat) (AV.dat (T.pair (T.sl (T.int IntKind.u8)) T.bool) y) true] := by kernel_rfl
/-! ### what they come to -/
def newV (b : List Int) : RV := (b, true, false)
def F17 : Summ := ⟨fun args ob K => match args, ob with
  | [.dat (.sl (.int .u8)) b], [] => ck (b.length < 1000000) (K (.ptr 0 []) [.box 107 (.dat RT (newV b)) true])
  | [.view 0], [.row 5 (.int .u8) b .own] => ck (b.length < 1000000) (K (.ptr 1 []) [.row 5 (.int .u8) b .own, .box 107 (.dat RT (newV b)) true])
  | [.pre 0 n], [.row 5 (.int .u8) b .own] => ck (b.length < 1000000) (K (.ptr 1 []) [.row 5 (.int .u8) b .own, .box 107 (.dat RT (newV (b.take n))) true])
  | _, _ => none⟩
theorem F17_ok : SumOk Tryd.prog 31 F17 := by
  refine (back_ok (ts := [BL]) (l := cl) (codeX_ok (k := 0) (lv := lvN) mixed noNG_prog (sums_call (Wr := all) (l := [(65, F32)]) ⟨F32_ok, trivial⟩) (sums_prim ⟨F32_ok, trivial⟩) (fn := Tryd.f31) rfl)).le ?_ ?_
  · intro R R' f args ob K
    unfold F17; dsimp only
    split <;> simp only [bd_ck, bd_none]
  · intro R args ob K r h
    unfold F17 at h; dsimp only at h
    split at h
    · rename_i b
      obtain ⟨hl, h⟩ := ck_elim h
      refine (new_1 K b).trans ?_
      cases b with
      | nil => exact h
      | cons z zs => show ck _ _ = some r; rw [ck_pos (by rw [List.length_cons] at hl; omega)]; exact h
    · rename_i b
      obtain ⟨hl, h⟩ := ck_elim h
      refine (new_0 K b).trans ?_
      cases b with
      | nil => exact h
      | cons z zs => show ck _ _ = some r; rw [ck_pos (by rw [List.length_cons] at hl; omega)]; exact h
    · rename_i n b
      obtain ⟨hl, h⟩ := ck_elim h
      refine (new_2 K b n).trans ?_
      have hl2 : (b.take n).length ≤ b.length := by rw [List.length_take]; omega
      cases hb : b.take n with
      | nil => rw [hb] at h; exact h
      | cons z zs => rw [hb] at h hl2; show ck _ _ = some r; rw [ck_pos (by rw [List.length_cons] at hl2; omega)]; exact h
    · cases h
def wholeV (n : Int) : Int := IntKind.i64.wrap (IntKind.i32.wrap (IntKind.u32.wrap n))
def F20 : Summ := ⟨fun args ob K => match args, ob with
  | [.ptr 0 []], [.box 107 v true] => (asD RT v).bind fun x => ck (x.1.length < 100000) (K (.dat (.int .i64) (wholeV (numV x 4))) [.box 107 (.dat RT (numS x 4)) true])
  | _, _ => none⟩
theorem F20_ok : SumOk Tryd.prog 33 F20 := by
  refine (codeX_ok (k := 0) (lv := lvN) mixed noNG_prog (sums_call (Wr := all) (l := [(32, inS 32 cl F18)]) ⟨in_ok F18_ok, trivial⟩) (sums_prim ⟨in_ok F18_ok, trivial⟩) (fn := Tryd.f33) rfl).le ?_ ?_
  · intro R R' f args ob K
    unfold F20; dsimp only
    split <;> simp only [bd_bind, bd_ck, bd_none]
  · intro R args ob K r h
    unfold F20 at h; dsimp only at h
    split at h
    · obtain ⟨x, hx, h2⟩ := Option.bind_eq_some_iff.1 h
      obtain rfl := asD_ok hx
      exact (whole_0 K x).trans h2
    · cases h
def bSize (n : Int) : Int := if n ≠ 1 ∧ n ≠ 2 then -1 else n
def blobV (x : RV) (n : Int) : List Int := takeV (numS x (bSize n)) (IntKind.i64.wrap (numV x (bSize n)))
def blobS (x : RV) (n : Int) : RV := takeS (numS x (bSize n)) (IntKind.i64.wrap (numV x (bSize n)))
def F22 : Summ := ⟨fun args ob K => match args, ob with
  | [.ptr 0 [], .dat (.int .i64) n], [.box 107 v true] => (asD RT v).bind fun x => ck (x.1.length < 100000) (listK (blobV x n) (K (.dat BL []) [.box 107 (.dat RT (blobS x n)) true]) fun z zs => K (.view 1) [.box 107 (.dat RT (blobS x n)) true, .row 5 (.int .u8) (z :: zs) .own])
  | _, _ => none⟩
theorem takeS_len (x : RV) (n : Int) : (takeS x n).1.length ≤ x.1.length := by
  unfold takeS; repeat' split
  all_goals first | (simp; done) | (simp; omega)
theorem blobV_len (x : RV) (n : Int) : (blobV x n).length ≤ x.1.length := Nat.le_trans (takeV_len _ _) (takeS_len _ _)
theorem blob_run {R : Type} (K : KV R) (x : RV) (n : Int) (hl : x.1.length < 100000) : (backS [] cl (codeX Tryd.prog G22 lvN 0 Tryd.f34)).run [.ptr 0 [], .dat (.int .i64) n] [.box 107 (.dat RT x) true] K = listK (blobV x n) (K (.dat BL []) [.box 107 (.dat RT (blobS x n)) true]) fun z zs => K (.view 1) [.box 107 (.dat RT (blobS x n)) true, .row 5 (.int .u8) (z :: zs) .own] := by
  refine (blob_0 K x n).trans ?_
  have hb := blobV_len x n
  have fin : (ck (List.length (Prod.fst x) < 100000) (listK (blobV x n) (K (AV.dat (T.sl (T.int IntKind.u8)) []) [AO.box 107 (AV.dat RT (blobS x n)) true]) fun z zs ↦ ck (List.length zs < 1000000) (K (AV.view 1) [AO.box 107 (AV.dat RT (blobS x n)) true, AO.row 5 (T.int IntKind.u8) (z :: zs) Md.own]))) = listK (blobV x n) (K (.dat BL []) [.box 107 (.dat RT (blobS x n)) true]) fun z zs => K (.view 1) [.box 107 (.dat RT (blobS x n)) true, .row 5 (.int .u8) (z :: zs) .own] := by
    rw [ck_pos hl]
    cases hy : blobV x n with
    | nil => rfl
    | cons z zs =>
      rw [hy, List.length_cons] at hb
      show ck _ _ = K _ _
      rw [ck_pos (by omega)]
  by_cases h1 : n = 1
  · have e : bSize n = n := by unfold bSize; rw [if_neg (by omega)]
    rw [show (!decide (n = 1)) = false by simp [h1], cond_false]
    unfold blobV blobS at fin ⊢
    rw [e] at fin ⊢
    exact fin
  · by_cases h2 : n = 2
    · have e : bSize n = n := by unfold bSize; rw [if_neg (by omega)]
      rw [show (!decide (n = 1)) = true by simp [h1], cond_true, show (!decide (n = 2)) = false by simp [h2], cond_false]
      unfold blobV blobS at fin ⊢
      rw [e] at fin ⊢
      exact fin
    · have e : bSize n = -1 := by unfold bSize; rw [if_pos ⟨h1, h2⟩]
      rw [show (!decide (n = 1)) = true by simp [h1], cond_true, show (!decide (n = 2)) = true by simp [h2], cond_true]
      unfold blobV blobS at fin ⊢
      rw [e] at fin ⊢
      exact fin
theorem F22_ok : SumOk Tryd.prog 34 F22 := by
  refine (back_ok (ts := []) (l := cl) (codeX_ok (k := 0) (lv := lvN) mixed noNG_prog (sums_call (Wr := all) (l := [(32, inS 32 cl F18), (66, inS 66 cl F33), (65, F32)]) ⟨in_ok F18_ok, in_ok F33_ok, F32_ok, trivial⟩) (sums_prim ⟨in_ok F18_ok, in_ok F33_ok, F32_ok, trivial⟩) (fn := Tryd.f34) rfl)).le ?_ ?_
  · intro R R' f args ob K
    unfold F22; dsimp only
    split <;> simp only [bd_bind, bd_ck, bd_none, bd_list]
  · intro R args ob K r h
    unfold F22 at h; dsimp only at h
    split at h
    · obtain ⟨x, hx, h2⟩ := Option.bind_eq_some_iff.1 h
      obtain rfl := asD_ok hx
      obtain ⟨hl, h3⟩ := ck_elim h2
      exact (blob_run K x _ hl).trans h3
    · cases h
def endV (x : RV) : Int := bif !x.2.1 then 1 else bif x.2.2 then 16 else bif decide (0 < (x.1.length : Int)) then 16 else 0
def rendV (y : QV) : Int := bif y.2 then 16 else bif decide (0 < (y.1.length : Int)) then 16 else 0
def F28 : Summ := ⟨fun args ob K => match args, ob with
  | [.ptr 0 []], [.box 107 v true] => (asD RT v).bind fun x => K (.dat (.int .i64) (endV x)) [.box 107 v true]
  | _, _ => none⟩
def F34 : Summ := ⟨fun args ob K => match args, ob with
  | [.ptr 0 []], [.box 75 v true] => (asD QT v).bind fun x => K (.dat (.int .i64) (rendV x)) [.box 75 v true]
  | _, _ => none⟩
end Go.Mx
