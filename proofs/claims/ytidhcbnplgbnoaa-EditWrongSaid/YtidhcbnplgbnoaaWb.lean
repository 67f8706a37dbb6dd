/- Own work. A part of the proof of a law of this seat: this seat's functions, by the machine, and the plain law -/
import Derived.Test.YtidhcbnplgbnoaaMe
import Derived.Test.YtidhcbnplgbnoaaWa
namespace Go.Mx
set_option linter.unusedVariables false
set_option linter.unusedSimpArgs false
open Go Go.RowKit Go.Sx Go.Proofs
set_option maxRecDepth 100000
abbrev HT := T.pair I64 (.int .u64)
abbrev LT := T.pair I64 (T.pair I64 HT)
abbrev NT := T.pair I64 (T.arr 16 LT)
abbrev ST := T.pair NT (T.pair (.int .u64) .bool)
abbrev NV := Int × List (Int × Int × Int × Int)
abbrev SV := NV × Int × Bool
theorem gt_0 {R : Type} (K : KV R) (x : Int) : (codeX Try.prog (sums all []) lvN 0 Try.f67).run [.dat U8 x] [] K = K (AV.dat T.bool (decide ((15 : Int) < x))) [] := by kernel_rfl
def F67 : Summ := ⟨fun args ob K => match args, ob with
  | [.dat (.int .u8) x], [] => K (.dat .bool (decide (15 < x))) []
  | _, _ => none⟩
theorem F67_ok : SumOk Try.prog 67 F67 := by
  refine (codeX_ok (k := 0) (lv := lvN) mixed noNG_prog (sums_call (Wr := all) (l := []) trivial) (sums_prim trivial) (fn := Try.f67) rfl).le (fun f args ob K => by unfold F67; dsimp only; split <;> simp only [bd_none]) ?_
  intro R args ob K r h
  unfold F67 at h; dsimp only at h
  split at h
  · exact (gt_0 K _).trans h
  · cases h
def G82 : Sums := sums all [(67, F67)]
theorem ix_0 {R : Type} (L : Nat → St → (Exit → St → Option R) → Option R) (K : KV R) (b : List Int) : runX Try.prog G82 lv82 Try.f82 0 L [.dat BL b, .fn 67 [] []] [] K = L (0 : Nat) (St.mk [((0 : Nat), AV.dat (T.sl (T.int IntKind.u8)) b), ((1 : Nat), AV.fn (67 : Nat) [] []), ((7 : Nat), AV.dat (T.int IntKind.i64) (↑(List.length b) : Int)), ((8 : Nat), AV.dat (T.int IntKind.i64) (0 : Int))] []) (endX Try.prog G82 lv82 Try.f82 (0 : Nat) L K (0 : Nat)) := by kernel_rfl
theorem ix_s {R : Type} (L L0 : Nat → St → (Exit → St → Option R) → Option R) (K : KV R) (b : List Int) (m i : Int) : stepX Try.prog G82 lv82 0 (codeOf Try.f82) L 0 ⟨[(0, .dat BL b), (1, .fn 67 [] []), (7, .dat I64 m), (8, .dat I64 i)], []⟩ (endX Try.prog G82 lv82 Try.f82 0 L0 K 0) = bif decide (i < m) then ck ((0 : Int) ≤ i) (Option.bind b[Int.toNat i]? fun x ↦ bif decide ((15 : Int) < x) then K (AV.dat (T.int IntKind.i64) i) [] else L (0 : Nat) (St.mk [((0 : Nat), AV.dat (T.sl (T.int IntKind.u8)) b), ((1 : Nat), AV.fn (67 : Nat) [] []), ((7 : Nat), AV.dat (T.int IntKind.i64) m), ((8 : Nat), AV.dat (T.int IntKind.i64) (IntKind.wrap IntKind.i64 (i + (1 : Int))))] []) (endX Try.prog G82 lv82 Try.f82 (0 : Nat) L0 K (0 : Nat))) else K (AV.dat (T.int IntKind.i64) (-1 : Int)) [] := by kernel_rfl
noncomputable def G53 : Sums := sums all [(52, W 52)]
noncomputable def C71 : Summ := codeX Try.prog (sums all [(52, W 52)]) lvN 0 Try.f71
theorem get_0 {R : Type} (K : KV R) (h : Int × Int) (v : AV) (xs : List SV) : (codeX Try.prog (sums all [(71, C71)]) lvN 0 Try.f53).run [.ptr 0 [], .dat HT h] [.box 87 (.pr (.view 1) (.pr .nils (.dat I64 0))) true, .row 89 ST xs .own] K = bif decide ((↑(List.length xs) : Int) = (0 : Int)) then K (AV.tup [AV.dat (T.pair (T.int IntKind.i64) (T.arr (16 : Nat) (T.pair (T.int IntKind.i64) (T.pair (T.int IntKind.i64) (T.pair (T.int IntKind.i64) (T.int IntKind.u64)))))) ((0 : Int), List.replicate (16 : Nat) ((0 : Int), (0 : Int), (0 : Int), (0 : Int))), AV.dat (T.int IntKind.i64) (1 : Int)]) [AO.box (87 : Nat) (AV.pr (AV.view (1 : Nat)) (AV.pr AV.nils (AV.dat (T.int IntKind.i64) (0 : Int)))) true, AO.row (89 : Nat) (T.pair (T.pair (T.int IntKind.i64) (T.arr (16 : Nat) (T.pair (T.int IntKind.i64) (T.pair (T.int IntKind.i64) (T.pair (T.int IntKind.i64) (T.int IntKind.u64)))))) (T.pair (T.int IntKind.u64) T.bool)) xs Md.own] else bif decide (Prod.fst h < (0 : Int)) then K (AV.tup [AV.dat (T.pair (T.int IntKind.i64) (T.arr (16 : Nat) (T.pair (T.int IntKind.i64) (T.pair (T.int IntKind.i64) (T.pair (T.int IntKind.i64) (T.int IntKind.u64)))))) ((0 : Int), List.replicate (16 : Nat) ((0 : Int), (0 : Int), (0 : Int), (0 : Int))), AV.dat (T.int IntKind.i64) (5 : Int)]) [AO.box (87 : Nat) (AV.pr (AV.view (1 : Nat)) (AV.pr AV.nils (AV.dat (T.int IntKind.i64) (0 : Int)))) true, AO.row (89 : Nat) (T.pair (T.pair (T.int IntKind.i64) (T.arr (16 : Nat) (T.pair (T.int IntKind.i64) (T.pair (T.int IntKind.i64) (T.pair (T.int IntKind.i64) (T.int IntKind.u64)))))) (T.pair (T.int IntKind.u64) T.bool)) xs Md.own] else bif decide ((↑(List.length xs) : Int) ≤ Prod.fst h) then K (AV.tup [AV.dat (T.pair (T.int IntKind.i64) (T.arr (16 : Nat) (T.pair (T.int IntKind.i64) (T.pair (T.int IntKind.i64) (T.pair (T.int IntKind.i64) (T.int IntKind.u64)))))) ((0 : Int), List.replicate (16 : Nat) ((0 : Int), (0 : Int), (0 : Int), (0 : Int))), AV.dat (T.int IntKind.i64) (5 : Int)]) [AO.box (87 : Nat) (AV.pr (AV.view (1 : Nat)) (AV.pr AV.nils (AV.dat (T.int IntKind.i64) (0 : Int)))) true, AO.row (89 : Nat) (T.pair (T.pair (T.int IntKind.i64) (T.arr (16 : Nat) (T.pair (T.int IntKind.i64) (T.pair (T.int IntKind.i64) (T.pair (T.int IntKind.i64) (T.int IntKind.u64)))))) (T.pair (T.int IntKind.u64) T.bool)) xs Md.own] else ck ((0 : Int) ≤ Prod.fst h ∧ Prod.fst h < (↑(List.length xs) : Int)) (Option.bind xs[Int.toNat (Prod.fst h)]? fun x ↦ bif !Prod.snd (Prod.snd x) then K (AV.tup [AV.dat (T.pair (T.int IntKind.i64) (T.arr (16 : Nat) (T.pair (T.int IntKind.i64) (T.pair (T.int IntKind.i64) (T.pair (T.int IntKind.i64) (T.int IntKind.u64)))))) ((0 : Int), List.replicate (16 : Nat) ((0 : Int), (0 : Int), (0 : Int), (0 : Int))), AV.dat (T.int IntKind.i64) (5 : Int)]) [AO.box (87 : Nat) (AV.pr (AV.view (1 : Nat)) (AV.pr AV.nils (AV.dat (T.int IntKind.i64) (0 : Int)))) true, AO.row (89 : Nat) (T.pair (T.pair (T.int IntKind.i64) (T.arr (16 : Nat) (T.pair (T.int IntKind.i64) (T.pair (T.int IntKind.i64) (T.pair (T.int IntKind.i64) (T.int IntKind.u64)))))) (T.pair (T.int IntKind.u64) T.bool)) xs Md.own] else ck ((0 : Int) ≤ Prod.fst h ∧ Prod.fst h < (↑(List.length xs) : Int)) (Option.bind xs[Int.toNat (Prod.fst h)]? fun x ↦ bif !decide (Prod.fst (Prod.snd x) = Prod.snd h) then K (AV.tup [AV.dat (T.pair (T.int IntKind.i64) (T.arr (16 : Nat) (T.pair (T.int IntKind.i64) (T.pair (T.int IntKind.i64) (T.pair (T.int IntKind.i64) (T.int IntKind.u64)))))) ((0 : Int), List.replicate (16 : Nat) ((0 : Int), (0 : Int), (0 : Int), (0 : Int))), AV.dat (T.int IntKind.i64) (5 : Int)]) [AO.box (87 : Nat) (AV.pr (AV.view (1 : Nat)) (AV.pr AV.nils (AV.dat (T.int IntKind.i64) (0 : Int)))) true, AO.row (89 : Nat) (T.pair (T.pair (T.int IntKind.i64) (T.arr (16 : Nat) (T.pair (T.int IntKind.i64) (T.pair (T.int IntKind.i64) (T.pair (T.int IntKind.i64) (T.int IntKind.u64)))))) (T.pair (T.int IntKind.u64) T.bool)) xs Md.own] else ck ((0 : Int) ≤ Prod.fst h ∧ Prod.fst h < (↑(List.length xs) : Int)) none)) := by kernel_rfl
theorem all67 : AllOk Try.prog [(67, F67)] := ⟨F67_ok, trivial⟩
/-- is there one that is no nibble? -/
def bigI : List Int → Int → Int
  | [], _ => -1
  | x :: r, i => if 15 < x then i else bigI r (i + 1)
def bigV (b : List Int) : Bool := b.any fun x => decide (15 < x)
theorem bigI_neg : ∀ (b : List Int) (i : Int), 0 ≤ i → (0 ≤ bigI b i ↔ bigV b = true)
  | [], i, hi => by simp [bigI, bigV]
  | x :: r, i, hi => by
    rw [bigI]
    unfold bigV
    rw [List.any_cons]
    by_cases h : 15 < x
    · rw [if_pos h, decide_eq_true h]; simp [hi]
    · rw [if_neg h, decide_eq_false h, Bool.false_or]
      exact bigI_neg r (i + 1) (by omega)
theorem getq {b : List Int} {i : Int} {j : Nat} (h : i = j) (hj : j < b.length) : b[i.toNat]? = some (b.getD j 0) := by
  subst h
  rw [Int.toNat_natCast, List.getElem?_eq_getElem hj, List.getD_eq_getElem?_getD, List.getElem?_eq_getElem hj]; rfl
theorem drop_at {l : List Int} {i : Nat} (h : i < l.length) : l.drop i = l.getD i 0 :: l.drop (i + 1) := by
  rw [List.drop_eq_getElem_cons h, List.getD_eq_getElem?_getD, List.getElem?_eq_getElem h]
  rfl
theorem ix_loop {R : Type} (L0 : Nat → St → (Exit → St → Option R) → Option R) (K : KV R) (b : List Int) (hl : b.length < 100000) : ∀ (n i k : Nat), i + n = b.length → n < k →
    LX Try.prog G82 lv82 0 (codeOf Try.f82) k 0 ⟨[(0, .dat BL b), (1, .fn 67 [] []), (7, .dat I64 (b.length : Int)), (8, .dat I64 (i : Int))], []⟩ (endX Try.prog G82 lv82 Try.f82 0 L0 K 0) = K (.dat I64 (bigI (b.drop i) i)) [] := by
  intro n
  induction n with
  | zero =>
    intro i k hn hk
    obtain ⟨k, rfl⟩ : ∃ q, k = q + 1 := ⟨k - 1, by omega⟩
    refine (ix_s _ L0 K b _ i).trans ?_
    rw [show decide ((i : Int) < (b.length : Int)) = false from decide_eq_false (by omega), cond_false, List.drop_of_length_le (by omega), bigI]
  | succ n ih =>
    intro i k hn hk
    obtain ⟨k, rfl⟩ : ∃ q, k = q + 1 := ⟨k - 1, by omega⟩
    refine (ix_s _ L0 K b _ i).trans ?_
    rw [show decide ((i : Int) < (b.length : Int)) = true from decide_eq_true (by omega), cond_true, ck_pos (by omega), getq (j := i) rfl (by omega), Option.bind_some, drop_at (show i < b.length by omega), bigI]
    by_cases h : 15 < b.getD i 0
    · rw [decide_eq_true h, if_pos h, cond_true]
    · rw [decide_eq_false h, if_neg h, cond_false, wrapS (by omega)]
      have e := ih (i + 1) k (by omega) (by omega)
      rw [show ((i + 1 : Nat) : Int) = (i : Int) + 1 by omega] at e
      exact e
def F82 : Summ := ⟨fun args ob K => match args, ob with
  | [.dat (.sl (.int .u8)) b, .fn 67 [] []], [] => ck (b.length < 100000) (K (.dat I64 (bigI b 0)) [])
  | _, _ => none⟩
theorem F82_ok : SumOk Try.prog 82 F82 := by
  refine (codeX_ok (k := 100001) (lv := lv82) mixed noNG_prog (sums_call (Wr := all) all67) (sums_prim all67) (fn := Try.f82) rfl).le (fun f args ob K => by unfold F82; dsimp only; split <;> simp only [bd_none, bd_ck]) ?_
  intro R args ob K r h
  unfold F82 at h; dsimp only at h
  split at h
  · rename_i b
    obtain ⟨hl, h2⟩ := ck_elim h
    exact ((ix_0 _ K b).trans (ix_loop _ K b hl b.length 0 100001 (by omega) (by omega))).trans h2
  · cases h
noncomputable def C66 : Summ := codeX Try.prog (sums all [(82, F82)]) lvN 0 Try.f66
theorem C66_ok : SumOk Try.prog 66 C66 := codeX_ok mixed noNG_prog (sums_call (Wr := all) (l := [(82, F82)]) ⟨F82_ok, trivial⟩) (sums_prim ⟨F82_ok, trivial⟩) rfl lvN 0
noncomputable def C33 : Summ := codeX Try.prog (sums all [(52, W 52), (66, C66)]) lvN 0 Try.f33
theorem C33_ok : SumOk Try.prog 33 C33 := codeX_ok mixed noNG_prog (sums_call (Wr := all) (l := [(52, W 52), (66, C66)]) ⟨W_ok 52, C66_ok, trivial⟩) (sums_prim ⟨W_ok 52, C66_ok, trivial⟩) rfl lvN 0
theorem may_0 {R : Type} (K : KV R) (key key2 : List Int) (reserve : Int) (xs : List SV) : C33.run [.ptr 0 [], .dat BL key, .fn 11 [] [.ptr 2 []], .dat I64 reserve] [.box 87 (.pr (.view 1) (.pr .nils (.dat I64 0))) true, .row 89 ST xs .own, .box 22 (.dat BL key2) true] K = bif decide ((↑(List.length xs) : Int) = (0 : Int)) then K (AV.dat (T.int IntKind.i64) (1 : Int)) [AO.box (87 : Nat) (AV.pr (AV.view (1 : Nat)) (AV.pr AV.nils (AV.dat (T.int IntKind.i64) (0 : Int)))) true, AO.row (89 : Nat) (T.pair (T.pair (T.int IntKind.i64) (T.arr (16 : Nat) (T.pair (T.int IntKind.i64) (T.pair (T.int IntKind.i64) (T.pair (T.int IntKind.i64) (T.int IntKind.u64)))))) (T.pair (T.int IntKind.u64) T.bool)) xs Md.own, AO.box (22 : Nat) (AV.dat (T.sl (T.int IntKind.u8)) key2) true] else bif decide ((↑(List.length key) : Int) < (1 : Int)) then K (AV.dat (T.int IntKind.i64) (2 : Int)) [AO.box (87 : Nat) (AV.pr (AV.view (1 : Nat)) (AV.pr AV.nils (AV.dat (T.int IntKind.i64) (0 : Int)))) true, AO.row (89 : Nat) (T.pair (T.pair (T.int IntKind.i64) (T.arr (16 : Nat) (T.pair (T.int IntKind.i64) (T.pair (T.int IntKind.i64) (T.pair (T.int IntKind.i64) (T.int IntKind.u64)))))) (T.pair (T.int IntKind.u64) T.bool)) xs Md.own, AO.box (22 : Nat) (AV.dat (T.sl (T.int IntKind.u8)) key2) true] else bif decide ((71 : Int) < (↑(List.length key) : Int)) then K (AV.dat (T.int IntKind.i64) (2 : Int)) [AO.box (87 : Nat) (AV.pr (AV.view (1 : Nat)) (AV.pr AV.nils (AV.dat (T.int IntKind.i64) (0 : Int)))) true, AO.row (89 : Nat) (T.pair (T.pair (T.int IntKind.i64) (T.arr (16 : Nat) (T.pair (T.int IntKind.i64) (T.pair (T.int IntKind.i64) (T.pair (T.int IntKind.i64) (T.int IntKind.u64)))))) (T.pair (T.int IntKind.u64) T.bool)) xs Md.own, AO.box (22 : Nat) (AV.dat (T.sl (T.int IntKind.u8)) key2) true] else bif decide (reserve < (0 : Int)) then K (AV.dat (T.int IntKind.i64) (2 : Int)) [AO.box (87 : Nat) (AV.pr (AV.view (1 : Nat)) (AV.pr AV.nils (AV.dat (T.int IntKind.i64) (0 : Int)))) true, AO.row (89 : Nat) (T.pair (T.pair (T.int IntKind.i64) (T.arr (16 : Nat) (T.pair (T.int IntKind.i64) (T.pair (T.int IntKind.i64) (T.pair (T.int IntKind.i64) (T.int IntKind.u64)))))) (T.pair (T.int IntKind.u64) T.bool)) xs Md.own, AO.box (22 : Nat) (AV.dat (T.sl (T.int IntKind.u8)) key2) true] else ck (List.length key < (100000 : Nat)) (bif decide ((0 : Int) ≤ bigI key (0 : Int)) then K (AV.dat (T.int IntKind.i64) (2 : Int)) [AO.box (87 : Nat) (AV.pr (AV.view (1 : Nat)) (AV.pr AV.nils (AV.dat (T.int IntKind.i64) (0 : Int)))) true, AO.row (89 : Nat) (T.pair (T.pair (T.int IntKind.i64) (T.arr (16 : Nat) (T.pair (T.int IntKind.i64) (T.pair (T.int IntKind.i64) (T.pair (T.int IntKind.i64) (T.int IntKind.u64)))))) (T.pair (T.int IntKind.u64) T.bool)) xs Md.own, AO.box (22 : Nat) (AV.dat (T.sl (T.int IntKind.u8)) key2) true] else K (AV.dat (T.int IntKind.i64) (0 : Int)) [AO.box (87 : Nat) (AV.pr (AV.view (1 : Nat)) (AV.pr AV.nils (AV.dat (T.int IntKind.i64) (0 : Int)))) true, AO.row (89 : Nat) (T.pair (T.pair (T.int IntKind.i64) (T.arr (16 : Nat) (T.pair (T.int IntKind.i64) (T.pair (T.int IntKind.i64) (T.pair (T.int IntKind.i64) (T.int IntKind.u64)))))) (T.pair (T.int IntKind.u64) T.bool)) xs Md.own, AO.box (22 : Nat) (AV.dat (T.sl (T.int IntKind.u8)) key2) true]) := by kernel_rfl
def goodV (key : List Int) (reserve : Int) : Bool := decide (1 ≤ key.length) && (decide (key.length ≤ 71) && (decide (0 ≤ reserve) && !bigV key))
def mayE (key : List Int) (reserve : Int) : Int := bif goodV key reserve then 0 else 2
def F33 : Summ := ⟨fun args ob K => match args, ob with
  | [.ptr 0 [], .dat (.sl (.int .u8)) key, .fn 11 [] [.ptr 2 []], .dat (.int .i64) reserve], [.box 87 (.pr (.view 1) (.pr .nils (.dat (.int .i64) n))) true, .row 89 (.pair (.pair (.int .i64) (.arr 16 (.pair (.int .i64) (.pair (.int .i64) (.pair (.int .i64) (.int .u64)))))) (.pair (.int .u64) .bool)) xs .own, .box 22 (.dat (.sl (.int .u8)) key2) true] => ck (n = 0 ∧ xs ≠ [] ∧ key.length < 100000) (K (.dat I64 (mayE key reserve)) [.box 87 (.pr (.view 1) (.pr .nils (.dat I64 0))) true, .row 89 ST xs .own, .box 22 (.dat BL key2) true])
  | _, _ => none⟩
theorem may_run {R : Type} (K : KV R) (key key2 : List Int) (reserve : Int) (xs : List SV) (hx : xs ≠ []) (hk : key.length < 100000) : C33.run [.ptr 0 [], .dat BL key, .fn 11 [] [.ptr 2 []], .dat I64 reserve] [.box 87 (.pr (.view 1) (.pr .nils (.dat I64 0))) true, .row 89 ST xs .own, .box 22 (.dat BL key2) true] K = K (.dat I64 (mayE key reserve)) [.box 87 (.pr (.view 1) (.pr .nils (.dat I64 0))) true, .row 89 ST xs .own, .box 22 (.dat BL key2) true] := by
  refine (may_0 K key key2 reserve xs).trans ?_
  have hl : 0 < xs.length := List.length_pos_iff.2 hx
  rw [show decide ((xs.length : Int) = 0) = false from decide_eq_false (by omega), cond_false]
  have hb := bigI_neg key 0 (Int.le_refl 0)
  unfold mayE goodV
  by_cases h1 : (key.length : Int) < 1
  · rw [decide_eq_true h1, decide_eq_false (show ¬ 1 ≤ key.length by omega)]; rfl
  rw [decide_eq_false h1, cond_false, decide_eq_true (show 1 ≤ key.length by omega), Bool.true_and]
  by_cases h2 : (71 : Int) < (key.length : Int)
  · rw [decide_eq_true h2, decide_eq_false (show ¬ key.length ≤ 71 by omega)]; rfl
  rw [decide_eq_false h2, cond_false, decide_eq_true (show key.length ≤ 71 by omega), Bool.true_and]
  by_cases h3 : reserve < 0
  · rw [decide_eq_true h3, decide_eq_false (show ¬ 0 ≤ reserve by omega)]; rfl
  rw [decide_eq_false h3, cond_false, decide_eq_true (show 0 ≤ reserve by omega), Bool.true_and, ck_pos hk]
  rw [show decide (0 ≤ bigI key 0) = bigV key from Bool.eq_iff_iff.2 (decide_eq_true_iff.trans hb)]
  cases bigV key <;> rfl
theorem F33_ok : SumOk Try.prog 33 F33 := by
  refine C33_ok.le (fun f args ob K => by unfold F33; dsimp only; split <;> simp only [bd_none, bd_ck]) ?_
  intro R args ob K r h
  unfold F33 at h; dsimp only at h
  split at h
  · obtain ⟨⟨rfl, hx, hn⟩, h2⟩ := ck_elim h
    exact (may_run K _ _ _ _ hx hn).trans h2
  · cases h
theorem C71_ok : SumOk Try.prog 71 C71 := codeX_ok mixed noNG_prog (sums_call (Wr := all) (l := [(52, W 52)]) ⟨W_ok 52, trivial⟩) (sums_prim ⟨W_ok 52, trivial⟩) rfl lvN 0
def zeroN : NV := (0, List.replicate 16 (0, 0, 0, 0))
def boxA : AO := .box 87 (.pr (.view 1) (.pr .nils (.dat I64 0))) true
def F53 : Summ := ⟨fun args ob K => match args, ob with
  | [.ptr 0 [], .dat (.pair (.int .i64) (.int .u64)) h], [.box 87 (.pr (.view 1) (.pr .nils (.dat (.int .i64) n))) true, .row 89 (.pair (.pair (.int .i64) (.arr 16 (.pair (.int .i64) (.pair (.int .i64) (.pair (.int .i64) (.int .u64)))))) (.pair (.int .u64) .bool)) xs .own] => ck (n = 0 ∧ xs ≠ [] ∧ (∀ s ∈ xs, s.2.2 = false)) (K (.tup [.dat NT zeroN, .dat I64 5]) [boxA, .row 89 ST xs .own])
  | _, _ => none⟩
theorem get_run {R : Type} (K : KV R) (h : Int × Int) (xs : List SV) (hx : xs ≠ []) (hn : ∀ s ∈ xs, s.2.2 = false) : (codeX Try.prog (sums all [(71, C71)]) lvN 0 Try.f53).run [.ptr 0 [], .dat HT h] [.box 87 (.pr (.view 1) (.pr .nils (.dat I64 0))) true, .row 89 ST xs .own] K = K (.tup [.dat NT zeroN, .dat I64 5]) [boxA, .row 89 ST xs .own] := by
  refine (get_0 K h .nils xs).trans ?_
  have hl : 0 < xs.length := List.length_pos_iff.2 hx
  rw [show decide ((xs.length : Int) = 0) = false from decide_eq_false (by omega), cond_false]
  by_cases h1 : h.1 < 0
  · rw [decide_eq_true h1]; rfl
  rw [decide_eq_false h1, cond_false]
  by_cases h2 : (xs.length : Int) ≤ h.1
  · rw [decide_eq_true h2]; rfl
  rw [decide_eq_false h2, cond_false, ck_pos (by omega)]
  have hlt : h.1.toNat < xs.length := by omega
  rw [List.getElem?_eq_getElem hlt, Option.bind_some, hn _ (List.getElem_mem hlt)]
  rfl
theorem F53_ok : SumOk Try.prog 53 F53 := by
  refine (codeX_ok (k := 0) (lv := lvN) mixed noNG_prog (sums_call (Wr := all) (l := [(71, C71)]) ⟨C71_ok, trivial⟩) (sums_prim ⟨C71_ok, trivial⟩) (fn := Try.f53) rfl).le (fun f args ob K => by unfold F53; dsimp only; split <;> simp only [bd_none, bd_ck]) ?_
  intro R args ob K r h
  unfold F53 at h; dsimp only at h
  split at h
  · obtain ⟨⟨rfl, hx, hn⟩, h2⟩ := ck_elim h
    exact (get_run K _ _ hx hn).trans h2
  · cases h
noncomputable def C35 : Summ := codeX Try.prog (sums all [(53, F53)]) lvN 3 Try.f35
theorem C35_ok : SumOk Try.prog 35 C35 := codeX_ok mixed noNG_prog (sums_call (Wr := all) (l := [(53, F53)]) ⟨F53_ok, trivial⟩) (sums_prim ⟨F53_ok, trivial⟩) rfl lvN 3
theorem all12 : AllOk Try.prog [(33, F33), (34, W 34), (35, C35), (38, W 38)] := ⟨F33_ok, W_ok 34, C35_ok, W_ok 38, trivial⟩
noncomputable def C12 : Summ := codeX Try.prog (sums all [(33, F33), (34, W 34), (35, C35), (38, W 38)]) lvN 3 Try.f12
theorem C12_ok : SumOk Try.prog 12 C12 := codeX_ok mixed noNG_prog (sums_call all12) (sums_prim all12) rfl lvN 3
theorem all13 : AllOk Try.prog [(33, F33), (35, C35)] := ⟨F33_ok, C35_ok, trivial⟩
noncomputable def C13 : Summ := codeX Try.prog (sums all [(33, F33), (35, C35)]) lvN 3 Try.f13
theorem C13_ok : SumOk Try.prog 13 C13 := codeX_ok mixed noNG_prog (sums_call all13) (sums_prim all13) rfl lvN 3
def F9 : Summ := ⟨fun args ob K => match args, ob with
  | [], [] => K (.dat .bool true) []
  | _, _ => none⟩
theorem F9_ok : SumOk Try.prog 9 F9 := by
  refine (W_ok 9).le (fun f args ob K => by unfold F9; dsimp only; split <;> simp only [bd_none]) ?_
  intro R args ob K r h
  unfold F9 at h; dsimp only at h
  split at h
  · exact (known_0 K).trans h
  · cases h
theorem all3 : AllOk Try.prog [(9, F9), (10, W 10), (12, C12), (13, C13), (14, W 14)] := ⟨F9_ok, W_ok 10, C12_ok, C13_ok, W_ok 14, trivial⟩
noncomputable def G3 : Sums := sums all [(9, F9), (10, W 10), (12, C12), (13, C13), (14, W 14)]
theorem law_0 {R : Type} (L : Nat → St → (Exit → St → Option R) → Option R) (K : KV R) (key : List Int) (reserve : Int) (h : Int × Int) : runX Try.prog G3 lv3 Try.f3 0 L [.dat BL key, .dat I64 reserve, .dat HT h] [] K = bif decide ((300 : Int) < (↑(List.length key) : Int)) then K (AV.dat T.bool true) [] else bif decide ((1 : Int) ≤ (↑(List.length key) : Int)) then bif decide ((↑(List.length key) : Int) ≤ (71 : Int)) then L (0 : Nat) (St.mk [((1 : Nat), AV.dat (T.int IntKind.i64) reserve), ((3 : Nat), AV.ptr (0 : Nat) []), ((5 : Nat), AV.ptr (1 : Nat) []), ((7 : Nat), AV.ptr (2 : Nat) []), ((9 : Nat), AV.dat T.bool (decide ((0 : Int) ≤ reserve))), ((10 : Nat), AV.dat (T.int IntKind.i64) (0 : Int))] [AO.box (22 : Nat) (AV.dat (T.sl (T.int IntKind.u8)) key) true, AO.box (25 : Nat) (AV.dat (T.pair (T.int IntKind.i64) (T.int IntKind.u64)) h) true, AO.box (87 : Nat) (AV.pr (AV.view (3 : Nat)) (AV.pr AV.nils (AV.dat (T.int IntKind.i64) (0 : Int)))) true, AO.row (89 : Nat) (T.pair (T.pair (T.int IntKind.i64) (T.arr (16 : Nat) (T.pair (T.int IntKind.i64) (T.pair (T.int IntKind.i64) (T.pair (T.int IntKind.i64) (T.int IntKind.u64)))))) (T.pair (T.int IntKind.u64) T.bool)) (List.set (List.set (List.set (List.set (List.replicate (4 : Nat) (((0 : Int), List.replicate (16 : Nat) ((0 : Int), (0 : Int), (0 : Int), (0 : Int))), (0 : Int), false)) (0 : Nat) (((0 : Int), List.replicate (16 : Nat) ((0 : Int), (0 : Int), (0 : Int), (0 : Int))), (1 : Int), false)) (1 : Nat) (((0 : Int), List.replicate (16 : Nat) ((0 : Int), (0 : Int), (0 : Int), (0 : Int))), (1 : Int), false)) (2 : Nat) (((0 : Int), List.replicate (16 : Nat) ((0 : Int), (0 : Int), (0 : Int), (0 : Int))), (1 : Int), false)) (3 : Nat) (((0 : Int), List.replicate (16 : Nat) ((0 : Int), (0 : Int), (0 : Int), (0 : Int))), (1 : Int), false)) Md.own]) (endX Try.prog G3 lv3 Try.f3 (0 : Nat) L K (0 : Nat)) else L (0 : Nat) (St.mk [((1 : Nat), AV.dat (T.int IntKind.i64) reserve), ((3 : Nat), AV.ptr (0 : Nat) []), ((5 : Nat), AV.ptr (1 : Nat) []), ((7 : Nat), AV.ptr (2 : Nat) []), ((9 : Nat), AV.dat T.bool false), ((10 : Nat), AV.dat (T.int IntKind.i64) (0 : Int))] [AO.box (22 : Nat) (AV.dat (T.sl (T.int IntKind.u8)) key) true, AO.box (25 : Nat) (AV.dat (T.pair (T.int IntKind.i64) (T.int IntKind.u64)) h) true, AO.box (87 : Nat) (AV.pr (AV.view (3 : Nat)) (AV.pr AV.nils (AV.dat (T.int IntKind.i64) (0 : Int)))) true, AO.row (89 : Nat) (T.pair (T.pair (T.int IntKind.i64) (T.arr (16 : Nat) (T.pair (T.int IntKind.i64) (T.pair (T.int IntKind.i64) (T.pair (T.int IntKind.i64) (T.int IntKind.u64)))))) (T.pair (T.int IntKind.u64) T.bool)) (List.set (List.set (List.set (List.set (List.replicate (4 : Nat) (((0 : Int), List.replicate (16 : Nat) ((0 : Int), (0 : Int), (0 : Int), (0 : Int))), (0 : Int), false)) (0 : Nat) (((0 : Int), List.replicate (16 : Nat) ((0 : Int), (0 : Int), (0 : Int), (0 : Int))), (1 : Int), false)) (1 : Nat) (((0 : Int), List.replicate (16 : Nat) ((0 : Int), (0 : Int), (0 : Int), (0 : Int))), (1 : Int), false)) (2 : Nat) (((0 : Int), List.replicate (16 : Nat) ((0 : Int), (0 : Int), (0 : Int), (0 : Int))), (1 : Int), false)) (3 : Nat) (((0 : Int), List.replicate (16 : Nat) ((0 : Int), (0 : Int), (0 : Int), (0 : Int))), (1 : Int), false)) Md.own]) (endX Try.prog G3 lv3 Try.f3 (0 : Nat) L K (0 : Nat)) else L (0 : Nat) (St.mk [((1 : Nat), AV.dat (T.int IntKind.i64) reserve), ((3 : Nat), AV.ptr (0 : Nat) []), ((5 : Nat), AV.ptr (1 : Nat) []), ((7 : Nat), AV.ptr (2 : Nat) []), ((9 : Nat), AV.dat T.bool false), ((10 : Nat), AV.dat (T.int IntKind.i64) (0 : Int))] [AO.box (22 : Nat) (AV.dat (T.sl (T.int IntKind.u8)) key) true, AO.box (25 : Nat) (AV.dat (T.pair (T.int IntKind.i64) (T.int IntKind.u64)) h) true, AO.box (87 : Nat) (AV.pr (AV.view (3 : Nat)) (AV.pr AV.nils (AV.dat (T.int IntKind.i64) (0 : Int)))) true, AO.row (89 : Nat) (T.pair (T.pair (T.int IntKind.i64) (T.arr (16 : Nat) (T.pair (T.int IntKind.i64) (T.pair (T.int IntKind.i64) (T.pair (T.int IntKind.i64) (T.int IntKind.u64)))))) (T.pair (T.int IntKind.u64) T.bool)) (List.set (List.set (List.set (List.set (List.replicate (4 : Nat) (((0 : Int), List.replicate (16 : Nat) ((0 : Int), (0 : Int), (0 : Int), (0 : Int))), (0 : Int), false)) (0 : Nat) (((0 : Int), List.replicate (16 : Nat) ((0 : Int), (0 : Int), (0 : Int), (0 : Int))), (1 : Int), false)) (1 : Nat) (((0 : Int), List.replicate (16 : Nat) ((0 : Int), (0 : Int), (0 : Int), (0 : Int))), (1 : Int), false)) (2 : Nat) (((0 : Int), List.replicate (16 : Nat) ((0 : Int), (0 : Int), (0 : Int), (0 : Int))), (1 : Int), false)) (3 : Nat) (((0 : Int), List.replicate (16 : Nat) ((0 : Int), (0 : Int), (0 : Int), (0 : Int))), (1 : Int), false)) Md.own]) (endX Try.prog G3 lv3 Try.f3 (0 : Nat) L K (0 : Nat)) := by kernel_rfl
end Go.Mx
