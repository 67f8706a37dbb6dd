/- Own work. A part of the proof of a law of this seat: this seat's functions, by the machine, and the plain law -/
import Derived.Test.YtkmabfamdonfoaaDoorMe
import Derived.Test.YtkmabfamdonfoaaDoorWi
namespace Go.Mx
set_option linter.unusedVariables false
set_option linter.unusedSimpArgs false
open Go Go.RowKit Go.Sx Go.Proofs
set_option maxRecDepth 100000
theorem shr8 {n : Int} {i : Nat} (hi : i ≤ 8) : shr .u64 n (IntKind.i64.wrap (8 * (i : Int))) = n / 256 ^ i := by
  rw [wrapS (by omega)]
  unfold shr
  have e : min (8 * (i : Int)).toNat IntKind.u64.bits = 8 * i := by
    show min (8 * (i : Int)).toNat 64 = 8 * i
    omega
  rw [e, Int.pow_mul]
  rfl
theorem byteAt_eq {n : Int} {i : Nat} (hi : i ≤ 8) : byteAt n i = n / 256 ^ i % 256 := by
  unfold byteAt
  rw [shr8 hi, IntKind.wrap_u8]
theorem div_step {n : Int} (hn : 0 ≤ n ∧ n < 18446744073709551616) (i : Nat) : 0 ≤ n / 256 ^ i ∧ n / 256 ^ i < 18446744073709551616 ∧ IntKind.u64.wrap (Int.tdiv (n / 256 ^ i) 256) = n / 256 ^ (i + 1) := by
  have h0 : (0 : Int) < 256 ^ i := Int.pow_pos (by decide)
  have h1 : 0 ≤ n / 256 ^ i := Int.ediv_nonneg hn.1 (by omega)
  have h2 : n / 256 ^ i ≤ n := Int.ediv_le_self _ hn.1
  refine ⟨h1, by omega, ?_⟩
  rw [Int.tdiv_eq_ediv_of_nonneg h1, Int.ediv_ediv_of_nonneg (by omega), ← Int.pow_succ, IntKind.wrap_u64, show i.succ = i + 1 from rfl]
  have h3 : 0 ≤ n / 256 ^ (i + 1) := Int.ediv_nonneg hn.1 (by have : (0 : Int) < 256 ^ (i + 1) := Int.pow_pos (by decide); omega)
  have h4 : n / 256 ^ (i + 1) ≤ n := Int.ediv_le_self _ hn.1
  omega
theorem pB_succ (n : Int) (i : Nat) : pB n (i + 1) = pB n i ++ [byteAt n i] := by
  unfold pB
  rw [List.range_succ, List.map_append]; rfl
theorem pB_len (n : Int) (i : Nat) : (pB n i).length = i := by unfold pB; simp
theorem mod8 {n : Int} (hn : 0 ≤ n ∧ n < 18446744073709551616) {i : Nat} (hi : i ≤ 8) : IntKind.u8.wrap (Int.tmod (n / 256 ^ i) 256) = byteAt n i := by
  rw [byteAt_eq hi, Int.tmod_eq_emod_of_nonneg (div_step hn i).1, IntKind.wrap_u8]
  omega
theorem pBad_eq {n size : Int} (hn : 0 ≤ n ∧ n < 18446744073709551616) (h1 : 1 ≤ size) (h8 : size ≤ 8) : pBad n size = decide (0 < n / 256 ^ size.toNat) := by
  unfold pBad
  rw [decide_eq_false (show ¬ size < 1 by omega), decide_eq_false (show ¬ 8 < size by omega), Bool.false_or, Bool.false_or]
  have e : shr .u64 n (IntKind.i64.wrap (8 * size)) = n / 256 ^ size.toNat := by
    have := shr8 (n := n) (i := size.toNat) (by omega)
    rwa [show ((size.toNat : Nat) : Int) = size by omega] at this
  rw [e]
  by_cases h : size < 8
  · rw [decide_eq_true h, Bool.true_and]
  · rw [decide_eq_false h, Bool.false_and, show size = 8 by omega]
    have : n / (256 : Int) ^ (8 : Int).toNat = 0 := Int.ediv_eq_zero_of_lt hn.1 (by have : (256 : Int) ^ (8 : Int).toNat = 18446744073709551616 := by decide +kernel
                                                                                    omega)
    rw [this]; rfl
/-- divided by 256 so often -/
def itD (n : Int) : Nat → Int
  | 0 => n
  | i + 1 => IntKind.u64.wrap (Int.tdiv (itD n i) 256)
def rB (n : Int) (m : Nat) : List Int := (List.range m).map fun i => IntKind.u8.wrap (Int.tmod (itD n i) 256)
def rPbad (n size : Int) : Bool := decide (size < 1) || (decide (8 < size) || decide (0 < itD n size.toNat))
theorem rB_succ (n : Int) (i : Nat) : rB n (i + 1) = rB n i ++ [IntKind.u8.wrap (Int.tmod (itD n i) 256)] := by
  unfold rB
  rw [List.range_succ, List.map_append]; rfl
theorem rB_len (n : Int) (i : Nat) : (rB n i).length = i := by unfold rB; simp
theorem itD_eq {n : Int} (hn : 0 ≤ n ∧ n < 18446744073709551616) : ∀ i, itD n i = n / 256 ^ i
  | 0 => by rw [Int.pow_zero, Int.ediv_one]; rfl
  | i + 1 => by rw [itD, itD_eq hn i, (div_step hn i).2.2]
theorem rB_eq {n : Int} (hn : 0 ≤ n ∧ n < 18446744073709551616) : ∀ {m : Nat}, m ≤ 8 → rB n m = pB n m
  | 0, _ => rfl
  | m + 1, h => by rw [rB_succ, pB_succ, rB_eq hn (by omega), itD_eq hn, mod8 hn (by omega)]
theorem rPbad_eq {n size : Int} (hn : 0 ≤ n ∧ n < 18446744073709551616) : rPbad n size = pBad n size := by
  by_cases h1 : size < 1
  · unfold rPbad pBad; rw [decide_eq_true h1]; rfl
  by_cases h8 : 8 < size
  · unfold rPbad pBad; rw [decide_eq_true h8, decide_eq_false h1]; rfl
  rw [pBad_eq hn (by omega) (by omega)]
  unfold rPbad
  rw [decide_eq_false h1, decide_eq_false h8, itD_eq hn]; rfl
theorem rput_loop {R : Type} (L0 : Nat → St → (Exit → St → Option R) → Option R) (K : KV R) (n : Int) (m : Nat) (hm : m ≤ 8) : ∀ (j k i : Nat), 1 ≤ i → i + j = m → j < k →
    LX Tryd.prog G0 lv63 0 (codeOf Tryd.f63) k 0 ⟨[(0, .dat (.int .u64) (itD n i)), (1, .dat I64 (m : Int)), (6, .view 0), (7, .dat I64 (i : Int))], [.row 5 U8 (rB n i) .own]⟩ (endX Tryd.prog G0 lv63 Tryd.f63 0 L0 K 0) = bif decide (0 < itD n m) then K (.tup [.nils, .dat I64 2]) [] else K (.tup [.view 0, .dat I64 0]) [.row 5 U8 (rB n m) .own] := by
  intro j
  induction j with
  | zero =>
    intro k i h1 hi hk
    obtain ⟨k, rfl⟩ : ∃ q, k = q + 1 := ⟨k - 1, by omega⟩
    refine (rput_s _ L0 K _ m i _).trans ?_
    obtain rfl : i = m := by omega
    rw [decide_eq_false (show ¬ (i : Int) < i by omega), cond_false]
  | succ j ih =>
    intro k i h1 hi hk
    obtain ⟨k, rfl⟩ : ∃ q, k = q + 1 := ⟨k - 1, by omega⟩
    refine (rput_s _ L0 K _ m i _).trans ?_
    rw [decide_eq_true (show (i : Int) < m by omega), cond_true, ck_pos (by rw [rB_len]; unfold limit; omega), ← rB_succ, wrapS (by omega)]
    have e := ih k (i + 1) (by omega) (by omega) (by omega)
    rw [show ((i + 1 : Nat) : Int) = (i : Int) + 1 by omega] at e
    exact e
def F63 : Summ := ⟨fun args ob K => match args, ob with
  | [.dat (.int .u64) n, .dat (.int .i64) size], [] => cond (rPbad n size) (K (.tup [.nils, .dat I64 2]) []) (K (.tup [.view 0, .dat I64 0]) [.row 5 (.int .u8) (rB n size.toNat) .own])
  | _, _ => none⟩
theorem rput_run {R : Type} (K : KV R) (n size : Int) : (codeX Tryd.prog G0 lv63 20 Tryd.f63).run [.dat (.int .u64) n, .dat (.int .i64) size] [] K = cond (rPbad n size) (K (.tup [.nils, .dat I64 2]) []) (K (.tup [.view 0, .dat I64 0]) [.row 5 (.int .u8) (rB n size.toNat) .own]) := by
  refine (rput_0 _ K n size).trans ?_
  unfold rPbad
  by_cases h1 : size < 1
  · rw [decide_eq_true h1]; rfl
  by_cases h8 : 8 < size
  · rw [decide_eq_false h1, decide_eq_true h8]; rfl
  rw [decide_eq_false h1, decide_eq_false h8, cond_false, cond_false]
  refine (rput_n _ _ K n size 0).trans ?_
  rw [decide_eq_true (show 0 < size by omega), cond_true]
  have e := rput_loop (LX Tryd.prog G0 lv63 0 (codeOf Tryd.f63) 20) K n size.toNat (by omega) (size.toNat - 1) 19 1 (by omega) (by omega) (by omega)
  rw [show ((size.toNat : Nat) : Int) = size by omega] at e
  exact e
theorem F63_ok : SumOk Tryd.prog 63 F63 := by
  refine (codeX_ok (k := 20) (lv := lv63) mixed noNG_prog (sums_call (Wr := all) (l := []) trivial) (sums_prim trivial) (fn := Tryd.f63) rfl).le (fun f args ob K => by unfold F63; dsimp only; split <;> simp only [bd_none, bd_cond]) ?_
  intro R args ob K r h
  unfold F63 at h; dsimp only at h
  split at h
  · exact (rput_run K _ _).trans h
  · cases h
def G29 : Sums := sums all [(63, F63)]
theorem rwh_0 {R : Type} (K : KV R) (n : Int) : (codeX Tryd.prog G29 lvN 0 Tryd.f29).run [.dat I64 n] [] K = bif decide (n < (-2147483648 : Int)) then K (AV.tup [AV.nils, AV.dat (T.int IntKind.i64) (2 : Int)]) [] else bif decide ((2147483647 : Int) < n) then K (AV.tup [AV.nils, AV.dat (T.int IntKind.i64) (2 : Int)]) [] else bif decide (n < (0 : Int)) then bif rPbad (IntKind.wrap IntKind.u64 (IntKind.wrap IntKind.i64 (n + (4294967296 : Int)))) (4 : Int) then K (AV.tup [AV.nils, AV.dat (T.int IntKind.i64) (2 : Int)]) [] else K (AV.tup [AV.view (0 : Nat), AV.dat (T.int IntKind.i64) (0 : Int)]) [AO.row (5 : Nat) (T.int IntKind.u8) (rB (IntKind.wrap IntKind.u64 (IntKind.wrap IntKind.i64 (n + (4294967296 : Int)))) (4 : Nat)) Md.own] else bif rPbad (IntKind.wrap IntKind.u64 n) (4 : Int) then K (AV.tup [AV.nils, AV.dat (T.int IntKind.i64) (2 : Int)]) [] else K (AV.tup [AV.view (0 : Nat), AV.dat (T.int IntKind.i64) (0 : Int)]) [AO.row (5 : Nat) (T.int IntKind.u8) (rB (IntKind.wrap IntKind.u64 n) (4 : Nat)) Md.own] := by kernel_rfl
theorem rbl_v {R : Type} (K : KV R) (b : List Int) (n : Int) : (codeX Tryd.prog G29 lvN 0 Tryd.f64).run [.view 0, .dat I64 n] [.row 5 U8 b .fz] K = bif !decide (n = (1 : Int)) then bif !decide (n = (2 : Int)) then K (AV.tup [AV.nils, AV.dat (T.int IntKind.i64) (2 : Int)]) [AO.row (5 : Nat) (T.int IntKind.u8) b Md.fz] else bif rPbad (IntKind.wrap IntKind.u64 (↑(List.length b) : Int)) n then K (AV.tup [AV.nils, AV.dat (T.int IntKind.i64) (17 : Int)]) [AO.row (5 : Nat) (T.int IntKind.u8) b Md.fz] else ck ((List.length (rB (IntKind.wrap IntKind.u64 (↑(List.length b) : Int)) (Int.toNat n)) + List.length b) * (1 : Nat) ≤ limit) (K (AV.tup [AV.view (1 : Nat), AV.dat (T.int IntKind.i64) (0 : Int)]) [AO.row (5 : Nat) (T.int IntKind.u8) b Md.fz, AO.row (5 : Nat) (T.int IntKind.u8) (rB (IntKind.wrap IntKind.u64 (↑(List.length b) : Int)) (Int.toNat n) ++ b) Md.own]) else bif rPbad (IntKind.wrap IntKind.u64 (↑(List.length b) : Int)) n then K (AV.tup [AV.nils, AV.dat (T.int IntKind.i64) (17 : Int)]) [AO.row (5 : Nat) (T.int IntKind.u8) b Md.fz] else ck ((List.length (rB (IntKind.wrap IntKind.u64 (↑(List.length b) : Int)) (Int.toNat n)) + List.length b) * (1 : Nat) ≤ limit) (K (AV.tup [AV.view (1 : Nat), AV.dat (T.int IntKind.i64) (0 : Int)]) [AO.row (5 : Nat) (T.int IntKind.u8) b Md.fz, AO.row (5 : Nat) (T.int IntKind.u8) (rB (IntKind.wrap IntKind.u64 (↑(List.length b) : Int)) (Int.toNat n) ++ b) Md.own]) := by kernel_rfl
end Go.Mx
