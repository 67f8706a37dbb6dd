/- Own work. A part of the proof of a law of this seat: this seat's functions, by the machine, and the plain law -/
import Derived.Test.YtkmabfamdonfoaaDoorMe
import Derived.Test.YtkmabfamdonfoaaDoorWe
namespace Go.Mx
set_option linter.unusedVariables false
set_option linter.unusedSimpArgs false
open Go Go.RowKit Go.Sx Go.Proofs
set_option maxRecDepth 100000
def F16 : Summ := ⟨fun args ob K => match args, ob with
  | [.view 0], [.row 26 (.sl (.int .u8)) [a, b] .own] => ck (a.length + b.length < 1000000) (K (.view 1) [.row 26 BL [a, b] .own, .row 5 (.int .u8) (a ++ b) .own])
  | _, _ => none⟩
theorem F16_ok : SumOk Tryd.prog 28 F16 := by
  refine (W_ok 28).le ?_ ?_
  · intro R R' f args ob K
    unfold F16; dsimp only
    split <;> simp only [bd_ck, bd_none]
  · intro R args ob K r h
    unfold F16 at h; dsimp only at h
    split at h
    · rename_i a b
      obtain ⟨hl, h⟩ := ck_elim h
      refine (join_1 K a b).trans (Eq.trans ?_ h)
      have e1 : IntKind.i64.wrap ((0 : Int) + (a.length : Int)) = (a.length : Int) := by rw [wrapS (by omega)]; omega
      have e2 : IntKind.i64.wrap ((a.length : Int) + (b.length : Int)) = (a.length : Int) + (b.length : Int) := wrapS (by omega)
      rw [e1, e2, wrapS (x := (a.length : Int) + (b.length : Int) - 0) (by omega)]
      rw [show decide ((a.length : Int) < 0) = false from decide_eq_false (by omega), cond_false, show decide ((a.length : Int) + (b.length : Int) < 0) = false from decide_eq_false (by omega), cond_false, cond_false]
      by_cases hp : 0 < (a.length : Int) + (b.length : Int) - 0
      · rw [show decide (0 < (a.length : Int) + (b.length : Int) - 0) = true from decide_eq_true hp, cond_true, ck_pos (by unfold limit; omega), ck_pos (by unfold limit; omega), ck_pos (by unfold limit; simp; omega)]
        rfl
      · rw [show decide (0 < (a.length : Int) + (b.length : Int) - 0) = false from decide_eq_false hp, cond_false, ck_pos (by unfold limit; omega), ck_pos (by unfold limit; omega)]
    · cases h
def byteAt (n : Int) (i : Nat) : Int := IntKind.u8.wrap (shr .u64 n (IntKind.i64.wrap (8 * (i : Int))))
def pB (n : Int) (m : Nat) : List Int := (List.range m).map (byteAt n)
theorem put_loop {R : Type} (L0 : Nat → St → (Exit → St → Option R) → Option R) (K : KV R) (n : Int) (m : Nat) (hm : m ≤ 8) : ∀ (j k i : Nat) (o : List Int), i + j = m → o.length = m → o.take i = (List.range i).map (byteAt n) → j < k →
    LX Tryd.prog G0 lv10 0 (codeOf Tryd.f61) k 0 ⟨[(0, .dat (.int .u64) n), (6, .view 0), (28, .dat I64 (m : Int)), (29, .dat I64 (i : Int))], [.row 5 U8 o .own]⟩ (endX Tryd.prog G0 lv10 Tryd.f61 0 L0 K 0) = K (.tup [.view 0, .dat I64 0]) [.row 5 U8 (pB n m) .own] := by
  intro j
  induction j with
  | zero =>
    intro k i o hi ho ht hk
    obtain ⟨k, rfl⟩ : ∃ q, k = q + 1 := ⟨k - 1, by omega⟩
    refine (put_s _ L0 K n o m i).trans ?_
    rw [show decide ((i : Int) < m) = false from decide_eq_false (by omega), cond_false]
    have : o = pB n m := by
      unfold pB
      rw [← show i = m by omega, ← ht, List.take_of_length_le (by omega)]
    rw [this]
  | succ j ih =>
    intro k i o hi ho ht hk
    obtain ⟨k, rfl⟩ : ∃ q, k = q + 1 := ⟨k - 1, by omega⟩
    refine (put_s _ L0 K n o m i).trans ?_
    rw [show decide ((i : Int) < m) = true from decide_eq_true (by omega), cond_true, ck_pos (by rw [wrapS (by omega)]; omega), ck_pos (by omega), getq (j := i) rfl (by omega)]
    simp only [Option.bind_some]
    rw [wrapS (x := (i : Int) + 1) (by omega)]
    have e := ih k (i + 1) (o.set (Int.toNat i) (byteAt n i)) (by omega) (by rw [List.length_set]; exact ho) (by
      rw [Int.toNat_natCast, List.range_succ, List.map_append, ← ht, List.take_add_one, List.take_set_of_le (Nat.le_refl _), List.getElem?_set_self (by omega)]
      rfl) (by omega)
    rw [show ((i + 1 : Nat) : Int) = (i : Int) + 1 by omega] at e
    exact e
def pBad (n size : Int) : Bool := decide (size < 1) || (decide (8 < size) || (decide (size < 8) && decide (0 < shr .u64 n (IntKind.i64.wrap (8 * size)))))
def F10 : Summ := ⟨fun args ob K => match args, ob with
  | [.dat (.int .u64) n, .dat (.int .i64) size], [] => cond (pBad n size) (K (.tup [.nils, .dat I64 2]) []) (K (.tup [.view 0, .dat I64 0]) [.row 5 (.int .u8) (pB n size.toNat) .own])
  | _, _ => none⟩
theorem put_run {R : Type} (K : KV R) (n size : Int) : (codeX Tryd.prog G0 lv10 20 Tryd.f61).run [.dat (.int .u64) n, .dat (.int .i64) size] [] K = cond (pBad n size) (K (.tup [.nils, .dat I64 2]) []) (K (.tup [.view 0, .dat I64 0]) [.row 5 (.int .u8) (pB n size.toNat) .own]) := by
  refine (put_0 _ K n size).trans ?_
  unfold pBad
  by_cases h1 : size < 1
  · rw [decide_eq_true h1]; rfl
  by_cases h2 : 8 < size
  · rw [decide_eq_true h2, decide_eq_false h1]; rfl
  rw [decide_eq_false h1, decide_eq_false h2, cond_false, cond_false, Bool.false_or, Bool.false_or]
  have fin : (ck (size = size) (ck ((0 : Int) ≤ size ∧ Int.toNat size * (1 : Nat) ≤ limit) (LX Tryd.prog G0 lv10 0 (codeOf Tryd.f61) 20 (0 : Nat) (St.mk [((0 : Nat), AV.dat (T.int IntKind.u64) n), ((6 : Nat), AV.view (0 : Nat)), ((28 : Nat), AV.dat (T.int IntKind.i64) (↑(List.length (List.replicate (Int.toNat size) (0 : Int))) : Int)), ((29 : Nat), AV.dat (T.int IntKind.i64) (0 : Int))] [AO.row (5 : Nat) (T.int IntKind.u8) (List.replicate (Int.toNat size) (0 : Int)) Md.own]) (endX Tryd.prog G0 lv10 Tryd.f61 (0 : Nat) (LX Tryd.prog G0 lv10 0 (codeOf Tryd.f61) 20) K (0 : Nat))))) = K (.tup [.view 0, .dat I64 0]) [.row 5 (.int .u8) (pB n size.toNat) .own] := by
    rw [ck_pos rfl, ck_pos (by unfold limit; omega), List.length_replicate]
    exact put_loop _ K n size.toNat (by omega) size.toNat 20 0 _ (by omega) (by simp) rfl (by omega)
  by_cases h3 : size < 8
  · rw [decide_eq_true h3, cond_true, ck_pos (by rw [wrapS (by omega)]; omega), Bool.true_and]
    cases decide (0 < shr .u64 n (IntKind.i64.wrap (8 * size))) with
    | true => rfl
    | false => rw [cond_false, cond_false]; exact fin
  · rw [decide_eq_false h3, cond_false, Bool.false_and, cond_false]
    exact fin
theorem F10_ok : SumOk Tryd.prog 61 F10 := by
  refine (codeX_ok (k := 20) (lv := lv10) mixed noNG_prog (sums_call (Wr := all) (l := []) trivial) (sums_prim trivial) (fn := Tryd.f61) rfl).le ?_ ?_
  · intro R R' f args ob K
    unfold F10; dsimp only
    split <;> simp only [bd_cond, bd_none]
  · intro R args ob K r h
    unfold F10 at h; dsimp only at h
    split at h
    · exact (put_run K _ _).trans h
    · cases h
noncomputable def G12 : Sums := sums all [(61, F10), (28, F16)]
theorem wh_0 {R : Type} (K : KV R) (n : Int) : (codeX Tryd.prog G12 lvN 0 Tryd.f26).run [.dat I64 n] [] K = bif decide (n < (-2147483648 : Int)) then K (AV.tup [AV.nils, AV.dat (T.int IntKind.i64) (2 : Int)]) [] else bif decide ((2147483647 : Int) < n) then K (AV.tup [AV.nils, AV.dat (T.int IntKind.i64) (2 : Int)]) [] else bif pBad (IntKind.wrap IntKind.u64 (IntKind.wrap IntKind.u32 (IntKind.wrap IntKind.i32 n))) (4 : Int) then K (AV.tup [AV.nils, AV.dat (T.int IntKind.i64) (2 : Int)]) [] else K (AV.tup [AV.view (0 : Nat), AV.dat (T.int IntKind.i64) (0 : Int)]) [AO.row (5 : Nat) (T.int IntKind.u8) (pB (IntKind.wrap IntKind.u64 (IntKind.wrap IntKind.u32 (IntKind.wrap IntKind.i32 n))) (4 : Nat)) Md.own] := by kernel_rfl
theorem bl_0 {R : Type} (K : KV R) (b : List Int) (n : Int) : (codeX Tryd.prog G12 lvN 0 Tryd.f27).run [.dat BL b, .dat I64 n] [] K = bif !decide (n = (1 : Int)) then bif !decide (n = (2 : Int)) then K (AV.tup [AV.nils, AV.dat (T.int IntKind.i64) (2 : Int)]) [] else ck ((0 : Int) ≤ IntKind.wrap IntKind.i64 ((8 : Int) * n)) (bif decide (shl IntKind.i64 (1 : Int) (IntKind.wrap IntKind.i64 ((8 : Int) * n)) ≤ (↑(List.length b) : Int)) then K (AV.tup [AV.nils, AV.dat (T.int IntKind.i64) (17 : Int)]) [] else bif pBad (IntKind.wrap IntKind.u64 (↑(List.length b) : Int)) n then ck ((0 : Nat) + List.length b < (1000000 : Nat)) (K (AV.tup [AV.view (0 : Nat), AV.dat (T.int IntKind.i64) (0 : Int)]) [AO.row (5 : Nat) (T.int IntKind.u8) ([] ++ b) Md.own]) else ck (List.length (pB (IntKind.wrap IntKind.u64 (↑(List.length b) : Int)) (Int.toNat n)) + List.length b < (1000000 : Nat)) (K (AV.tup [AV.view (0 : Nat), AV.dat (T.int IntKind.i64) (0 : Int)]) [AO.row (5 : Nat) (T.int IntKind.u8) (pB (IntKind.wrap IntKind.u64 (↑(List.length b) : Int)) (Int.toNat n) ++ b) Md.own])) else ck ((0 : Int) ≤ IntKind.wrap IntKind.i64 ((8 : Int) * n)) (bif decide (shl IntKind.i64 (1 : Int) (IntKind.wrap IntKind.i64 ((8 : Int) * n)) ≤ (↑(List.length b) : Int)) then K (AV.tup [AV.nils, AV.dat (T.int IntKind.i64) (17 : Int)]) [] else bif pBad (IntKind.wrap IntKind.u64 (↑(List.length b) : Int)) n then ck ((0 : Nat) + List.length b < (1000000 : Nat)) (K (AV.tup [AV.view (0 : Nat), AV.dat (T.int IntKind.i64) (0 : Int)]) [AO.row (5 : Nat) (T.int IntKind.u8) ([] ++ b) Md.own]) else ck (List.length (pB (IntKind.wrap IntKind.u64 (↑(List.length b) : Int)) (Int.toNat n)) + List.length b < (1000000 : Nat)) (K (AV.tup [AV.view (0 : Nat), AV.dat (T.int IntKind.i64) (0 : Int)]) [AO.row (5 : Nat) (T.int IntKind.u8) (pB (IntKind.wrap IntKind.u64 (↑(List.length b) : Int)) (Int.toNat n) ++ b) Md.own])) := by kernel_rfl
end Go.Mx
