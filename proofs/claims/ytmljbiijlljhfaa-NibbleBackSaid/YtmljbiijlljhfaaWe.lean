/- Own work. A part of the proof of a law of this seat: this seat's functions, by the machine, and the plain law -/
import Derived.Test.YtmljbiijlljhfaaMe
import Derived.Test.YtmljbiijlljhfaaWd
namespace Go.Mx
set_option linter.unusedVariables false
set_option linter.unusedSimpArgs false
open Go Go.RowKit Go.Sx Go.Proofs
set_option maxRecDepth 100000
def flat : List Int → List Int
  | [] => []
  | c :: r => c / 16 :: c % 16 :: flat r
def headV (x : XV) : List Int := [(hashv x : Int) / 4096, (hashv x : Int) / 256 % 16, (hashv x : Int) / 16 % 16, (hashv x : Int) % 16] ++ [(x.2.size : Int) / 16, (x.2.size : Int) % 16] ++ [x.1]
def ofV (x : XV) : List Int := headV x ++ flat (bytesOf x.2)
theorem may_range {x : XV} (h : mayV x = true) : 1 ≤ x.1 ∧ x.1 ≤ 4 ∧ 1 ≤ x.2.size ∧ x.2.size ≤ 32 := by
  unfold mayV at h
  simp only [Bool.and_eq_true, decide_eq_true_eq] at h
  omega
theorem of_loop {R : Type} (L0 : Nat → St → (Exit → St → Option R) → Option R) (K : KV R) (b : List Int) (hb : ∀ c ∈ b, 0 ≤ c ∧ c < 256) (hl : b.length ≤ 100) : ∀ (n i k : Nat) (o : List Int), i + n = b.length → n < k → o.length + 2 * n ≤ 1000 →
    LX Try.prog G15 lv15 0 (codeOf Try.f15) k 0 ⟨[(3, .view 0), (23, .view 1), (24, .dat I64 (b.length : Int)), (25, .dat I64 (i : Int))], [.row 5 U8 o .own, .row 5 U8 b .fz]⟩ (endX Try.prog G15 lv15 Try.f15 0 L0 K 0) = K (.view 0) [.row 5 U8 (o ++ flat (b.drop i)) .own] := by
  intro n
  induction n with
  | zero =>
    intro i k o hn hk ho
    obtain ⟨k, rfl⟩ : ∃ q, k = q + 1 := ⟨k - 1, by omega⟩
    refine (of_s _ L0 K o b _ i).trans ?_
    rw [show decide ((i : Int) < (b.length : Int)) = false from decide_eq_false (by omega), cond_false, List.drop_of_length_le (by omega), flat, List.append_nil]
  | succ n ih =>
    intro i k o hn hk ho
    obtain ⟨k, rfl⟩ : ∃ q, k = q + 1 := ⟨k - 1, by omega⟩
    refine (of_s _ L0 K o b _ i).trans ?_
    have hlt : i < b.length := by omega
    have hc := hb (b.getD i 0) (by rw [List.getD_eq_getElem?_getD, List.getElem?_eq_getElem hlt]; exact List.getElem_mem hlt)
    rw [show decide ((i : Int) < (b.length : Int)) = true from decide_eq_true (by omega), cond_true, ck_pos (by omega), getq (j := i) rfl hlt]
    simp only [Option.bind_some]
    rw [ck_pos ⟨trivial, hc⟩, ck_pos (by unfold limit; omega), wrapS (by omega), drop_at hlt, flat]
    have e := ih (i + 1) k (o ++ [b.getD i 0 / 16, b.getD i 0 % 16]) (by omega) (by omega) (by simp; omega)
    rw [List.append_assoc] at e
    exact e
def Fof : Summ := ⟨fun args ob K => match args, ob with
  | [v], [] => (asD XT v).bind fun x => ck (mayV x = true) (K (.view 0) [.row 5 U8 (ofV x) .own])
  | _, _ => none⟩
theorem Fof_nat : Fof.Nat := by
  intro R R' f args ob K
  unfold Fof; dsimp only
  split <;> simp only [bd_none, bd_bind, bd_ck]
theorem of_run {R : Type} (K : KV R) (x : XV) (hx : mayV x = true) : (codeX Try.prog G15 lv15 200 Try.f15).run [.dat XT x] [] K = K (.view 0) [.row 5 U8 (ofV x) .own] := by
  refine (of_0 _ K x).trans ?_
  obtain ⟨h1, h2, h3, h4⟩ := may_range hx
  have hh := hashv_lt x
  have hl := bytesOf_len x.2
  rw [hx, Bool.not_true, cond_false, ck_pos (by omega), ck_pos ⟨rfl, by omega, by omega⟩, ck_pos ⟨rfl, by omega, by omega⟩, ck_pos ⟨rfl, by omega, by omega⟩, ck_pos (by unfold limit; omega)]
  exact of_loop _ K (bytesOf x.2) (bytesOf_range x.2) (by omega) (bytesOf x.2).length 0 200 (headV x) (by omega) (by omega) (by have : (headV x).length = 7 := rfl; omega)
theorem F15_ok : SumOk Try.prog 15 Fof := by
  refine (codeX_ok (k := 200) (lv := lv15) mixed noNG_prog (sums_call (Wr := all) all15) (sums_prim all15) (fn := Try.f15) rfl).le Fof_nat ?_
  intro R args ob K r h
  unfold Fof at h; dsimp only at h
  split at h
  · obtain ⟨x, hx, h2⟩ := Option.bind_eq_some_iff.1 h
    obtain rfl := asD_ok hx
    obtain ⟨hm, h3⟩ := ck_elim h2
    exact (of_run K x hm).trans h3
  · cases h
theorem rof_loop {R : Type} (L0 : Nat → St → (Exit → St → Option R) → Option R) (K : KV R) (x : XV) (hl : x.2.size ≤ 100) : ∀ (n i k : Nat) (o : List Int), i + n = x.2.size → n < k → o.length + 2 * n ≤ 1000 →
    LX Try.prog G20 lv20 0 (codeOf Try.f20) k 0 ⟨[(1, .ptr 0 []), (4, .dat I64 (x.2.size : Int)), (5, .view 1), (6, .dat I64 (i : Int))], [.box 29 (.dat XT x) true, .row 5 U8 o .own]⟩ (endX Try.prog G20 lv20 Try.f20 0 L0 K 0) = K (.view 0) [.row 5 U8 (o ++ flat ((bytesOf x.2).drop i)) .own] := by
  have hbl := bytesOf_len x.2
  intro n
  induction n with
  | zero =>
    intro i k o hn hk ho
    obtain ⟨k, rfl⟩ : ∃ q, k = q + 1 := ⟨k - 1, by omega⟩
    refine (rof_s _ L0 K x o _ i).trans ?_
    rw [show decide ((i : Int) < (x.2.size : Int)) = false from decide_eq_false (by omega), cond_false, List.drop_of_length_le (by omega), flat, List.append_nil]
  | succ n ih =>
    intro i k o hn hk ho
    obtain ⟨k, rfl⟩ : ∃ q, k = q + 1 := ⟨k - 1, by omega⟩
    refine (rof_s _ L0 K x o _ i).trans ?_
    have hlt : i < (bytesOf x.2).length := by omega
    have hc := bytesOf_range x.2 ((bytesOf x.2).getD i 0) (by rw [List.getD_eq_getElem?_getD, List.getElem?_eq_getElem hlt]; exact List.getElem_mem hlt)
    rw [show decide ((i : Int) < (x.2.size : Int)) = true from decide_eq_true (by omega), cond_true, ck_pos (by omega), getq (j := i) rfl hlt]
    simp only [Option.bind_some]
    rw [ck_pos (by omega), ck_pos (by unfold limit; omega), wrapS (by omega), drop_at hlt, flat, Int.tdiv_eq_ediv_of_nonneg hc.1, Int.tmod_eq_emod_of_nonneg hc.1, wrapB (by omega)]
    have e := ih (i + 1) k (o ++ [(bytesOf x.2).getD i 0 / 16, (bytesOf x.2).getD i 0 % 16]) (by omega) (by omega) (by simp; omega)
    rw [List.append_assoc] at e
    exact e
theorem rof_run {R : Type} (K : KV R) (x : XV) (hx : mayV x = true) : (codeX Try.prog G20 lv20 200 Try.f20).run [.dat XT x] [] K = K (.view 0) [.row 5 U8 (ofV x) .own] := by
  refine (rof_0 _ K x).trans ?_
  obtain ⟨h1, h2, h3, h4⟩ := may_range hx
  have hh := hashv_lt x
  rw [hx, Bool.not_true, cond_false, ck_pos (by omega)]
  have e : [IntKind.u8.wrap (IntKind.i64.wrap (Int.tdiv (hashv x : Int) 4096)), IntKind.u8.wrap (Int.tmod (IntKind.i64.wrap (Int.tdiv (hashv x : Int) 256)) 16), IntKind.u8.wrap (Int.tmod (IntKind.i64.wrap (Int.tdiv (hashv x : Int) 16)) 16), IntKind.u8.wrap (Int.tmod (hashv x : Int) 16), IntKind.u8.wrap (IntKind.i64.wrap (Int.tdiv (x.2.size : Int) 16)), IntKind.u8.wrap (Int.tmod (x.2.size : Int) 16), IntKind.u8.wrap x.1] = headV x := by
    have t1 : ∀ a b : Int, 0 ≤ a → Int.tdiv a b = a / b := fun a b h => Int.tdiv_eq_ediv_of_nonneg h
    have t2 : ∀ a b : Int, 0 ≤ a → Int.tmod a b = a % b := fun a b h => Int.tmod_eq_emod_of_nonneg h
    rw [t1 _ 4096 (by omega), t1 _ 256 (by omega), t1 _ 16 (by omega), t1 (x.2.size : Int) 16 (by omega), wrapS (by omega), wrapS (by omega), wrapS (by omega), wrapS (x := (x.2.size : Int) / 16) (by omega), t2 _ 16 (by omega), t2 _ 16 (by omega), t2 _ 16 (by omega), t2 (x.2.size : Int) 16 (by omega), wrapB (by omega), wrapB (by omega), wrapB (by omega), wrapB (by omega), wrapB (by omega), wrapB (by omega), wrapB (x := x.1) (by omega)]
    rfl
  rw [e]
  exact rof_loop _ K x (by omega) x.2.size 0 200 (headV x) (by omega) (by omega) (by have : (headV x).length = 7 := rfl; omega)
theorem F20_ok : SumOk Try.prog 20 Fof := by
  refine (codeX_ok (k := 200) (lv := lv20) mixed noNG_prog (sums_call (Wr := all) all20) (sums_prim all20) (fn := Try.f20) rfl).le Fof_nat ?_
  intro R args ob K r h
  unfold Fof at h; dsimp only at h
  split at h
  · obtain ⟨x, hx, h2⟩ := Option.bind_eq_some_iff.1 h
    obtain rfl := asD_ok hx
    obtain ⟨hm, h3⟩ := ck_elim h2
    exact (rof_run K x hm).trans h3
  · cases h
/-! ### the same? -/
theorem eq_loop {R : Type} (L0 : Nat → St → (Exit → St → Option R) → Option R) (K : KV R) (a b : List Int) (hab : a.length = b.length) (hl : a.length < 100000) : ∀ (n i k : Nat), i + n = a.length → n < k →
    LX Try.prog G33 lv36 2 (codeOf Try.f36) k 0 ⟨[(0, .view 0), (1, .view 1), (12, .dat I64 (a.length : Int)), (13, .dat I64 (i : Int))], [.row 5 U8 a .own, .row 5 U8 b .own]⟩ (endX Try.prog G33 lv36 Try.f36 2 L0 K 0) = K (.dat .bool (decide (a.drop i = b.drop i))) [.row 5 U8 a .own, .row 5 U8 b .own] := by
  intro n
  induction n with
  | zero =>
    intro i k hn hk
    obtain ⟨k, rfl⟩ : ∃ q, k = q + 1 := ⟨k - 1, by omega⟩
    refine (eq_s _ L0 K a b _ i).trans ?_
    rw [show decide ((i : Int) < (a.length : Int)) = false from decide_eq_false (by omega), cond_false, List.drop_of_length_le (by omega), List.drop_of_length_le (by omega)]
    rfl
  | succ n ih =>
    intro i k hn hk
    obtain ⟨k, rfl⟩ : ∃ q, k = q + 1 := ⟨k - 1, by omega⟩
    refine (eq_s _ L0 K a b _ i).trans ?_
    rw [show decide ((i : Int) < (a.length : Int)) = true from decide_eq_true (by omega), cond_true, ck_pos (by omega), getq (j := i) rfl (by omega)]
    simp only [Option.bind_some]
    rw [ck_pos (by omega), getq (j := i) rfl (by omega)]
    simp only [Option.bind_some]
    rw [drop_at (show i < a.length by omega), drop_at (show i < b.length by omega)]
    by_cases h : a.getD i 0 = b.getD i 0
    · rw [decide_eq_true h, Bool.not_true, cond_false, wrapS (by omega)]
      refine (ih (i + 1) k (by omega) (by omega)).trans ?_
      congr 2
      rw [h]
      simp
    · rw [decide_eq_false h, Bool.not_false, cond_true]
      congr 2
      symm
      exact decide_eq_false (fun e => h (List.cons.inj e).1)
def F36 : Summ := ⟨fun args ob K => match args, ob with
  | [.view 0, .view 1], [.row 5 (.int .u8) a .own, .row 5 (.int .u8) b .own] => ck (a.length < 100000) (K (.dat .bool (decide (a = b))) [.row 5 (.int .u8) a .own, .row 5 (.int .u8) b .own])
  | _, _ => none⟩
theorem eq_run {R : Type} (K : KV R) (a b : List Int) (hl : a.length < 100000) : (codeX Try.prog G33 lv36 100001 Try.f36).run [.view 0, .view 1] [.row 5 U8 a .own, .row 5 U8 b .own] K = K (.dat .bool (decide (a = b))) [.row 5 U8 a .own, .row 5 U8 b .own] := by
  refine (eq_vv _ K a b).trans ?_
  by_cases h : a.length = b.length
  · rw [show decide ((a.length : Int) = (b.length : Int)) = true from decide_eq_true (by omega), Bool.not_true, cond_false]
    exact eq_loop _ K a b h hl a.length 0 100001 (by omega) (by omega)
  · rw [show decide ((a.length : Int) = (b.length : Int)) = false from decide_eq_false (by omega), Bool.not_false, cond_true, decide_eq_false (fun e => h (by rw [e]))]
theorem F36_ok : SumOk Try.prog 36 F36 := by
  refine (codeX_ok (k := 100001) (lv := lv36) mixed noNG_prog (sums_call (Wr := all) all33) (sums_prim all33) (fn := Try.f36) rfl).le ?_ ?_
  · intro R R' f args ob K
    unfold F36; dsimp only
    split <;> simp only [bd_none, bd_ck]
  · intro R args ob K r h
    unfold F36 at h; dsimp only at h
    split at h
    · obtain ⟨hs, h2⟩ := ck_elim h
      exact (eq_run K _ _ hs).trans h2
    · cases h
def G21 : Sums := sums all [(16, Fmay), (15, Fof), (36, F36)]
theorem all21 : AllOk Try.prog [(16, Fmay), (15, Fof), (36, F36)] := ⟨F16_ok, F15_ok, F36_ok, trivial⟩
def G22 : Sums := sums all [(17, Fmay), (20, Fof)]
theorem all22 : AllOk Try.prog [(17, Fmay), (20, Fof)] := ⟨F17_ok, F20_ok, trivial⟩
theorem rd_0 {R : Type} (L : Nat → St → (Exit → St → Option R) → Option R) (K : KV R) (l : List Int) : runX Try.prog G21 lv21 Try.f21 1 L [.view 0] [.row 5 U8 l .own] K = bif decide ((↑(List.length l) : Int) < (7 : Int)) then K (AV.tup [AV.dat (T.pair (T.int IntKind.i64) T.str) ((0 : Int), ByteArray.mk #[]), AV.dat (T.int IntKind.i64) (16 : Int)]) [AO.row (5 : Nat) (T.int IntKind.u8) l Md.own] else bif decide (Int.tmod (↑(List.length l) : Int) (2 : Int) = (0 : Int)) then K (AV.tup [AV.dat (T.pair (T.int IntKind.i64) T.str) ((0 : Int), ByteArray.mk #[]), AV.dat (T.int IntKind.i64) (16 : Int)]) [AO.row (5 : Nat) (T.int IntKind.u8) l Md.own] else ck ((0 : Int) ≤ (6 : Int) ∧ (6 : Int) < (↑(List.length l) : Int)) (Option.bind l[(6 : Nat)]? fun x ↦ L (0 : Nat) (St.mk [((0 : Nat), AV.view (0 : Nat)), ((2 : Nat), AV.ptr (1 : Nat) []), ((4 : Nat), AV.ptr (2 : Nat) []), ((5 : Nat), AV.nils), ((6 : Nat), AV.dat (T.int IntKind.i64) (7 : Int))] [AO.row (5 : Nat) (T.int IntKind.u8) l Md.own, AO.box (29 : Nat) (AV.dat (T.pair (T.int IntKind.i64) T.str) ((0 : Int), ByteArray.mk #[])) true, AO.box (29 : Nat) (AV.dat (T.pair (T.int IntKind.i64) T.str) (IntKind.wrap IntKind.i64 x, ByteArray.mk #[])) true]) (endX Try.prog G21 lv21 Try.f21 (1 : Nat) L K (0 : Nat))) := by kernel_rfl
theorem rrd_0 {R : Type} (L : Nat → St → (Exit → St → Option R) → Option R) (K : KV R) (l : List Int) : runX Try.prog G22 lv21 Try.f22 0 L [.dat BL l] [] K = bif decide ((↑(List.length l) : Int) < (7 : Int)) then K (AV.tup [AV.dat (T.pair (T.int IntKind.i64) T.str) ((0 : Int), ByteArray.mk #[]), AV.dat (T.int IntKind.i64) (16 : Int)]) [] else Option.bind l[(4 : Nat)]? fun x ↦ Option.bind l[(5 : Nat)]? fun x_1 ↦ bif !decide ((↑(List.length l) : Int) = IntKind.wrap IntKind.i64 ((7 : Int) + IntKind.wrap IntKind.i64 ((2 : Int) * IntKind.wrap IntKind.i64 (IntKind.wrap IntKind.i64 ((16 : Int) * IntKind.wrap IntKind.i64 x) + IntKind.wrap IntKind.i64 x_1)))) then K (AV.tup [AV.dat (T.pair (T.int IntKind.i64) T.str) ((0 : Int), ByteArray.mk #[]), AV.dat (T.int IntKind.i64) (16 : Int)]) [] else L (0 : Nat) (St.mk [((0 : Nat), AV.dat (T.sl (T.int IntKind.u8)) l), ((2 : Nat), AV.ptr (0 : Nat) []), ((4 : Nat), AV.dat (T.int IntKind.i64) (IntKind.wrap IntKind.i64 (IntKind.wrap IntKind.i64 ((16 : Int) * IntKind.wrap IntKind.i64 x) + IntKind.wrap IntKind.i64 x_1))), ((5 : Nat), AV.nils), ((6 : Nat), AV.dat (T.int IntKind.i64) (0 : Int))] [AO.box (29 : Nat) (AV.dat (T.pair (T.int IntKind.i64) T.str) ((0 : Int), ByteArray.mk #[])) true]) (endX Try.prog G22 lv21 Try.f22 (0 : Nat) L K (0 : Nat)) := by kernel_rfl
theorem rd_n {R : Type} (L L0 : Nat → St → (Exit → St → Option R) → Option R) (K : KV R) (l : List Int) (x : XV) (i : Int) : stepX Try.prog G21 lv21 1 (codeOf Try.f21) L 0 ⟨[(0, .view 0), (2, .ptr 1 []), (4, .ptr 2 []), (5, .nils), (6, .dat I64 i)], [.row 5 U8 l .own, .box 29 (.dat XT (0, ⟨#[]⟩)) true, .box 29 (.dat XT x) true]⟩ (endX Try.prog G21 lv21 Try.f21 1 L0 K 0) = bif decide (i < (↑(List.length l) : Int)) then ck ((0 : Int) ≤ i ∧ i < (↑(List.length l) : Int)) (Option.bind l[Int.toNat i]? fun x_1 ↦ ck ((0 : Int) ≤ IntKind.wrap IntKind.i64 (i + (1 : Int)) ∧ IntKind.wrap IntKind.i64 (i + (1 : Int)) < (↑(List.length l) : Int)) (Option.bind l[Int.toNat (IntKind.wrap IntKind.i64 (i + (1 : Int)))]? fun x_2 ↦ L (0 : Nat) (St.mk [((0 : Nat), AV.view (0 : Nat)), ((2 : Nat), AV.ptr (1 : Nat) []), ((4 : Nat), AV.ptr (2 : Nat) []), ((5 : Nat), AV.view (3 : Nat)), ((6 : Nat), AV.dat (T.int IntKind.i64) (IntKind.wrap IntKind.i64 (i + (2 : Int))))] [AO.row (5 : Nat) (T.int IntKind.u8) l Md.own, AO.box (29 : Nat) (AV.dat (T.pair (T.int IntKind.i64) T.str) ((0 : Int), ByteArray.mk #[])) true, AO.box (29 : Nat) (AV.dat (T.pair (T.int IntKind.i64) T.str) x) true, AO.row (5 : Nat) (T.int IntKind.u8) [bits BinOp.or IntKind.u8 (shl IntKind.u8 x_1 (4 : Int)) x_2] Md.own]) (endX Try.prog G21 lv21 Try.f21 (1 : Nat) L0 K (0 : Nat)))) else bif !mayV (Prod.fst x, strOf []) then K (AV.tup [AV.dat (T.pair (T.int IntKind.i64) T.str) ((0 : Int), ByteArray.mk #[]), AV.dat (T.int IntKind.i64) (16 : Int)]) [AO.row (5 : Nat) (T.int IntKind.u8) l Md.own] else ck (mayV (Prod.fst x, strOf []) = true) (bif !decide (ofV (Prod.fst x, strOf []) = l) then K (AV.tup [AV.dat (T.pair (T.int IntKind.i64) T.str) ((0 : Int), ByteArray.mk #[]), AV.dat (T.int IntKind.i64) (16 : Int)]) [AO.row (5 : Nat) (T.int IntKind.u8) l Md.own] else K (AV.tup [AV.dat (T.pair (T.int IntKind.i64) T.str) (Prod.fst x, strOf []), AV.dat (T.int IntKind.i64) (0 : Int)]) [AO.row (5 : Nat) (T.int IntKind.u8) l Md.own]) := by kernel_rfl
theorem rd_v {R : Type} (L L0 : Nat → St → (Exit → St → Option R) → Option R) (K : KV R) (l : List Int) (x : XV) (b : List Int) (i : Int) : stepX Try.prog G21 lv21 1 (codeOf Try.f21) L 0 ⟨[(0, .view 0), (2, .ptr 1 []), (4, .ptr 2 []), (5, .view 3), (6, .dat I64 i)], [.row 5 U8 l .own, .box 29 (.dat XT (0, ⟨#[]⟩)) true, .box 29 (.dat XT x) true, .row 5 U8 b .own]⟩ (endX Try.prog G21 lv21 Try.f21 1 L0 K 0) = bif decide (i < (↑(List.length l) : Int)) then ck ((0 : Int) ≤ i ∧ i < (↑(List.length l) : Int)) (Option.bind l[Int.toNat i]? fun x_1 ↦ ck ((0 : Int) ≤ IntKind.wrap IntKind.i64 (i + (1 : Int)) ∧ IntKind.wrap IntKind.i64 (i + (1 : Int)) < (↑(List.length l) : Int)) (Option.bind l[Int.toNat (IntKind.wrap IntKind.i64 (i + (1 : Int)))]? fun x_2 ↦ ck ((List.length b + (1 : Nat)) * (1 : Nat) ≤ limit) (L (0 : Nat) (St.mk [((0 : Nat), AV.view (0 : Nat)), ((2 : Nat), AV.ptr (1 : Nat) []), ((4 : Nat), AV.ptr (2 : Nat) []), ((5 : Nat), AV.view (3 : Nat)), ((6 : Nat), AV.dat (T.int IntKind.i64) (IntKind.wrap IntKind.i64 (i + (2 : Int))))] [AO.row (5 : Nat) (T.int IntKind.u8) l Md.own, AO.box (29 : Nat) (AV.dat (T.pair (T.int IntKind.i64) T.str) ((0 : Int), ByteArray.mk #[])) true, AO.box (29 : Nat) (AV.dat (T.pair (T.int IntKind.i64) T.str) x) true, AO.row (5 : Nat) (T.int IntKind.u8) (b ++ [bits BinOp.or IntKind.u8 (shl IntKind.u8 x_1 (4 : Int)) x_2]) Md.own]) (endX Try.prog G21 lv21 Try.f21 (1 : Nat) L0 K (0 : Nat))))) else bif !mayV (Prod.fst x, strOf b) then K (AV.tup [AV.dat (T.pair (T.int IntKind.i64) T.str) ((0 : Int), ByteArray.mk #[]), AV.dat (T.int IntKind.i64) (16 : Int)]) [AO.row (5 : Nat) (T.int IntKind.u8) l Md.own] else ck (mayV (Prod.fst x, strOf b) = true) (ck (List.length (ofV (Prod.fst x, strOf b)) < (100000 : Nat)) (bif !decide (ofV (Prod.fst x, strOf b) = l) then K (AV.tup [AV.dat (T.pair (T.int IntKind.i64) T.str) ((0 : Int), ByteArray.mk #[]), AV.dat (T.int IntKind.i64) (16 : Int)]) [AO.row (5 : Nat) (T.int IntKind.u8) l Md.own] else K (AV.tup [AV.dat (T.pair (T.int IntKind.i64) T.str) (Prod.fst x, strOf b), AV.dat (T.int IntKind.i64) (0 : Int)]) [AO.row (5 : Nat) (T.int IntKind.u8) l Md.own])) := by kernel_rfl
theorem rrd_n {R : Type} (L L0 : Nat → St → (Exit → St → Option R) → Option R) (K : KV R) (l : List Int) (n i : Int) : stepX Try.prog G22 lv21 0 (codeOf Try.f22) L 0 ⟨[(0, .dat BL l), (2, .ptr 0 []), (4, .dat I64 n), (5, .nils), (6, .dat I64 i)], [.box 29 (.dat XT (0, ⟨#[]⟩)) true]⟩ (endX Try.prog G22 lv21 Try.f22 0 L0 K 0) = bif decide (i < n) then ck ((0 : Int) ≤ IntKind.wrap IntKind.i64 ((7 : Int) + IntKind.wrap IntKind.i64 ((2 : Int) * i))) (Option.bind l[Int.toNat (IntKind.wrap IntKind.i64 ((7 : Int) + IntKind.wrap IntKind.i64 ((2 : Int) * i)))]? fun x ↦ bif decide ((15 : Int) < x) then K (AV.tup [AV.dat (T.pair (T.int IntKind.i64) T.str) ((0 : Int), ByteArray.mk #[]), AV.dat (T.int IntKind.i64) (16 : Int)]) [] else ck ((0 : Int) ≤ IntKind.wrap IntKind.i64 ((8 : Int) + IntKind.wrap IntKind.i64 ((2 : Int) * i))) (Option.bind l[Int.toNat (IntKind.wrap IntKind.i64 ((8 : Int) + IntKind.wrap IntKind.i64 ((2 : Int) * i)))]? fun x ↦ bif decide ((15 : Int) < x) then K (AV.tup [AV.dat (T.pair (T.int IntKind.i64) T.str) ((0 : Int), ByteArray.mk #[]), AV.dat (T.int IntKind.i64) (16 : Int)]) [] else ck ((0 : Int) ≤ IntKind.wrap IntKind.i64 ((7 : Int) + IntKind.wrap IntKind.i64 ((2 : Int) * i))) (Option.bind l[Int.toNat (IntKind.wrap IntKind.i64 ((7 : Int) + IntKind.wrap IntKind.i64 ((2 : Int) * i)))]? fun x ↦ ck ((0 : Int) ≤ IntKind.wrap IntKind.i64 ((8 : Int) + IntKind.wrap IntKind.i64 ((2 : Int) * i))) (Option.bind l[Int.toNat (IntKind.wrap IntKind.i64 ((8 : Int) + IntKind.wrap IntKind.i64 ((2 : Int) * i)))]? fun x_1 ↦ L (0 : Nat) (St.mk [((0 : Nat), AV.dat (T.sl (T.int IntKind.u8)) l), ((2 : Nat), AV.ptr (0 : Nat) []), ((4 : Nat), AV.dat (T.int IntKind.i64) n), ((5 : Nat), AV.view (1 : Nat)), ((6 : Nat), AV.dat (T.int IntKind.i64) (IntKind.wrap IntKind.i64 (i + (1 : Int))))] [AO.box (29 : Nat) (AV.dat (T.pair (T.int IntKind.i64) T.str) ((0 : Int), ByteArray.mk #[])) true, AO.row (5 : Nat) (T.int IntKind.u8) [IntKind.wrap IntKind.u8 (IntKind.wrap IntKind.u8 ((16 : Int) * x) + x_1)] Md.own]) (endX Try.prog G22 lv21 Try.f22 (0 : Nat) L0 K (0 : Nat)))))) else Option.bind l[(6 : Nat)]? fun x ↦ bif !mayV (IntKind.wrap IntKind.i64 x, strOf []) then K (AV.tup [AV.dat (T.pair (T.int IntKind.i64) T.str) ((0 : Int), ByteArray.mk #[]), AV.dat (T.int IntKind.i64) (16 : Int)]) [] else ck (mayV (IntKind.wrap IntKind.i64 x, strOf []) = true) (bif !decide (strOf (ofV (IntKind.wrap IntKind.i64 x, strOf [])) = strOf l) then K (AV.tup [AV.dat (T.pair (T.int IntKind.i64) T.str) ((0 : Int), ByteArray.mk #[]), AV.dat (T.int IntKind.i64) (16 : Int)]) [] else K (AV.tup [AV.dat (T.pair (T.int IntKind.i64) T.str) (IntKind.wrap IntKind.i64 x, strOf []), AV.dat (T.int IntKind.i64) (0 : Int)]) []) := by kernel_rfl
theorem rrd_v {R : Type} (L L0 : Nat → St → (Exit → St → Option R) → Option R) (K : KV R) (l b : List Int) (n i : Int) : stepX Try.prog G22 lv21 0 (codeOf Try.f22) L 0 ⟨[(0, .dat BL l), (2, .ptr 0 []), (4, .dat I64 n), (5, .view 1), (6, .dat I64 i)], [.box 29 (.dat XT (0, ⟨#[]⟩)) true, .row 5 U8 b .own]⟩ (endX Try.prog G22 lv21 Try.f22 0 L0 K 0) = bif decide (i < n) then ck ((0 : Int) ≤ IntKind.wrap IntKind.i64 ((7 : Int) + IntKind.wrap IntKind.i64 ((2 : Int) * i))) (Option.bind l[Int.toNat (IntKind.wrap IntKind.i64 ((7 : Int) + IntKind.wrap IntKind.i64 ((2 : Int) * i)))]? fun x ↦ bif decide ((15 : Int) < x) then K (AV.tup [AV.dat (T.pair (T.int IntKind.i64) T.str) ((0 : Int), ByteArray.mk #[]), AV.dat (T.int IntKind.i64) (16 : Int)]) [] else ck ((0 : Int) ≤ IntKind.wrap IntKind.i64 ((8 : Int) + IntKind.wrap IntKind.i64 ((2 : Int) * i))) (Option.bind l[Int.toNat (IntKind.wrap IntKind.i64 ((8 : Int) + IntKind.wrap IntKind.i64 ((2 : Int) * i)))]? fun x ↦ bif decide ((15 : Int) < x) then K (AV.tup [AV.dat (T.pair (T.int IntKind.i64) T.str) ((0 : Int), ByteArray.mk #[]), AV.dat (T.int IntKind.i64) (16 : Int)]) [] else ck ((0 : Int) ≤ IntKind.wrap IntKind.i64 ((7 : Int) + IntKind.wrap IntKind.i64 ((2 : Int) * i))) (Option.bind l[Int.toNat (IntKind.wrap IntKind.i64 ((7 : Int) + IntKind.wrap IntKind.i64 ((2 : Int) * i)))]? fun x ↦ ck ((0 : Int) ≤ IntKind.wrap IntKind.i64 ((8 : Int) + IntKind.wrap IntKind.i64 ((2 : Int) * i))) (Option.bind l[Int.toNat (IntKind.wrap IntKind.i64 ((8 : Int) + IntKind.wrap IntKind.i64 ((2 : Int) * i)))]? fun x_1 ↦ ck ((List.length b + (1 : Nat)) * (1 : Nat) ≤ limit) (L (0 : Nat) (St.mk [((0 : Nat), AV.dat (T.sl (T.int IntKind.u8)) l), ((2 : Nat), AV.ptr (0 : Nat) []), ((4 : Nat), AV.dat (T.int IntKind.i64) n), ((5 : Nat), AV.view (1 : Nat)), ((6 : Nat), AV.dat (T.int IntKind.i64) (IntKind.wrap IntKind.i64 (i + (1 : Int))))] [AO.box (29 : Nat) (AV.dat (T.pair (T.int IntKind.i64) T.str) ((0 : Int), ByteArray.mk #[])) true, AO.row (5 : Nat) (T.int IntKind.u8) (b ++ [IntKind.wrap IntKind.u8 (IntKind.wrap IntKind.u8 ((16 : Int) * x) + x_1)]) Md.own]) (endX Try.prog G22 lv21 Try.f22 (0 : Nat) L0 K (0 : Nat))))))) else Option.bind l[(6 : Nat)]? fun x ↦ bif !mayV (IntKind.wrap IntKind.i64 x, strOf b) then K (AV.tup [AV.dat (T.pair (T.int IntKind.i64) T.str) ((0 : Int), ByteArray.mk #[]), AV.dat (T.int IntKind.i64) (16 : Int)]) [] else ck (mayV (IntKind.wrap IntKind.i64 x, strOf b) = true) (bif !decide (strOf (ofV (IntKind.wrap IntKind.i64 x, strOf b)) = strOf l) then K (AV.tup [AV.dat (T.pair (T.int IntKind.i64) T.str) ((0 : Int), ByteArray.mk #[]), AV.dat (T.int IntKind.i64) (16 : Int)]) [] else K (AV.tup [AV.dat (T.pair (T.int IntKind.i64) T.str) (IntKind.wrap IntKind.i64 x, strOf b), AV.dat (T.int IntKind.i64) (0 : Int)]) []) := by kernel_rfl
theorem rd_p {R : Type} (L : Nat → St → (Exit → St → Option R) → Option R) (K : KV R) (l : List Int) (n : Nat) : runX Try.prog G21 lv21 Try.f21 1 L [.pre 0 n] [.row 5 U8 l .own] K = bif decide ((↑n : Int) < (7 : Int)) then K (AV.tup [AV.dat (T.pair (T.int IntKind.i64) T.str) ((0 : Int), ByteArray.mk #[]), AV.dat (T.int IntKind.i64) (16 : Int)]) [AO.row (5 : Nat) (T.int IntKind.u8) l Md.own] else bif decide (Int.tmod (↑n : Int) (2 : Int) = (0 : Int)) then K (AV.tup [AV.dat (T.pair (T.int IntKind.i64) T.str) ((0 : Int), ByteArray.mk #[]), AV.dat (T.int IntKind.i64) (16 : Int)]) [AO.row (5 : Nat) (T.int IntKind.u8) l Md.own] else ck ((0 : Int) ≤ (6 : Int) ∧ (6 : Int) < (↑n : Int)) (Option.bind l[(6 : Nat)]? fun x ↦ L (0 : Nat) (St.mk [((0 : Nat), AV.pre (0 : Nat) n), ((2 : Nat), AV.ptr (1 : Nat) []), ((4 : Nat), AV.ptr (2 : Nat) []), ((5 : Nat), AV.nils), ((6 : Nat), AV.dat (T.int IntKind.i64) (7 : Int))] [AO.row (5 : Nat) (T.int IntKind.u8) l Md.own, AO.box (29 : Nat) (AV.dat (T.pair (T.int IntKind.i64) T.str) ((0 : Int), ByteArray.mk #[])) true, AO.box (29 : Nat) (AV.dat (T.pair (T.int IntKind.i64) T.str) (IntKind.wrap IntKind.i64 x, ByteArray.mk #[])) true]) (endX Try.prog G21 lv21 Try.f21 (1 : Nat) L K (0 : Nat))) := by kernel_rfl
end Go.Mx
