/- Own work. A part of the proof of a law of this seat: this seat's functions, by the machine, and the plain law -/
import Derived.Test.YtkmabfamdonfoaaDoorMe
import Derived.Test.YtkmabfamdonfoaaDoorWf
namespace Go.Mx
set_option linter.unusedVariables false
set_option linter.unusedSimpArgs false
open Go Go.RowKit Go.Sx Go.Proofs
set_option maxRecDepth 100000
def wholeN (n : Int) : Int := IntKind.u64.wrap (IntKind.u32.wrap (IntKind.i32.wrap n))
def whBad (n : Int) : Bool := decide (n < -2147483648) || (decide (2147483647 < n) || pBad (wholeN n) 4)
def F12 : Summ := ⟨fun args ob K => match args, ob with
  | [.dat (.int .i64) n], [] => cond (whBad n) (K (.tup [.nils, .dat I64 2]) []) (K (.tup [.view 0, .dat I64 0]) [.row 5 (.int .u8) (pB (wholeN n) 4) .own])
  | _, _ => none⟩
theorem all12 : AllOk Tryd.prog [(61, F10), (28, F16)] := ⟨F10_ok, F16_ok, trivial⟩
theorem F12_ok : SumOk Tryd.prog 26 F12 := by
  refine (codeX_ok (k := 0) (lv := lvN) mixed noNG_prog (sums_call (Wr := all) all12) (sums_prim all12) (fn := Tryd.f26) rfl).le ?_ ?_
  · intro R R' f args ob K
    unfold F12; dsimp only
    split <;> simp only [bd_cond, bd_none]
  · intro R args ob K r h
    unfold F12 at h; dsimp only at h
    split at h
    · rename_i n
      refine (wh_0 K n).trans (Eq.trans ?_ h)
      unfold whBad
      show (bif decide (n < -2147483648) then _ else bif decide (2147483647 < n) then _ else bif pBad (wholeN n) 4 then _ else _) = _
      cases decide (n < -2147483648) <;> cases decide (2147483647 < n) <;> cases pBad (wholeN n) 4 <;> rfl
    · cases h
def blE (b : List Int) (n : Int) : Int := bif !decide (n = 1) && !decide (n = 2) then 2 else bif decide (shl .i64 1 (IntKind.i64.wrap (8 * n)) ≤ (b.length : Int)) then 17 else 0
def F14 : Summ := ⟨fun args ob K => match args, ob with
  | [.dat (.sl (.int .u8)) b, .dat (.int .i64) n], [] => ck (b.length < 500000) (cond (decide (blE b n = 0)) (K (.tup [.view 0, .dat I64 0]) [.row 5 (.int .u8) (pB (b.length : Int) n.toNat ++ b) .own]) (K (.tup [.nils, .dat I64 (blE b n)]) []))
  | _, _ => none⟩
theorem shl8 {n : Int} (h : n = 1 ∨ n = 2) : IntKind.i64.wrap (8 * n) = 8 * n ∧ shl .i64 1 (8 * n) = 256 ^ n.toNat := by
  rcases h with rfl | rfl <;> decide +kernel
theorem pBad_no {m : Nat} {n : Int} (h : n = 1 ∨ n = 2) (hm : (m : Int) < 256 ^ n.toNat) : pBad m n = false := by
  unfold pBad
  rcases h with rfl | rfl
  · have : shr .u64 (m : Int) (IntKind.i64.wrap (8 * 1)) = (m : Int) / 256 := rfl
    rw [this, show decide ((0 : Int) < (m : Int) / 256) = false from decide_eq_false (by have : (256 : Int) ^ (1 : Int).toNat = 256 := rfl; omega)]; rfl
  · have : shr .u64 (m : Int) (IntKind.i64.wrap (8 * 2)) = (m : Int) / 65536 := rfl
    rw [this, show decide ((0 : Int) < (m : Int) / 65536) = false from decide_eq_false (by have : (256 : Int) ^ (2 : Int).toNat = 65536 := rfl; omega)]; rfl
theorem blob_put {R : Type} (K : KV R) (b : List Int) (n : Int) (hl : b.length < 500000) : (codeX Tryd.prog G12 lvN 0 Tryd.f27).run [.dat BL b, .dat I64 n] [] K = cond (decide (blE b n = 0)) (K (.tup [.view 0, .dat I64 0]) [.row 5 (.int .u8) (pB (b.length : Int) n.toNat ++ b) .own]) (K (.tup [.nils, .dat I64 (blE b n)]) []) := by
  refine (bl_0 K b n).trans ?_
  have hw : IntKind.u64.wrap (b.length : Int) = (b.length : Int) := by rw [IntKind.wrap_u64]; omega
  by_cases hn : n = 1 ∨ n = 2
  · obtain ⟨e1, e2⟩ := shl8 hn
    have hz : (!decide (n = 1) && !decide (n = 2)) = false := by rcases hn with rfl | rfl <;> rfl
    unfold blE
    rw [hz, cond_false, hw, e1, e2]
    have fin : (ck (0 ≤ 8 * n) (bif decide ((256 : Int) ^ n.toNat ≤ (↑(List.length b) : Int)) then K (AV.tup [AV.nils, AV.dat (T.int IntKind.i64) 17]) [] else bif pBad (↑(List.length b) : Int) n then ck (0 + List.length b < 1000000) (K (AV.tup [AV.view 0, AV.dat (T.int IntKind.i64) 0]) [AO.row 5 (T.int IntKind.u8) ([] ++ b) Md.own]) else ck (List.length (pB (↑(List.length b) : Int) (Int.toNat n)) + List.length b < 1000000) (K (AV.tup [AV.view 0, AV.dat (T.int IntKind.i64) 0]) [AO.row 5 (T.int IntKind.u8) (pB (↑(List.length b) : Int) (Int.toNat n) ++ b) Md.own]))) = cond (decide ((bif decide ((256 : Int) ^ n.toNat ≤ (b.length : Int)) then (17 : Int) else 0) = 0)) (K (.tup [.view 0, .dat I64 0]) [.row 5 (.int .u8) (pB (b.length : Int) n.toNat ++ b) .own]) (K (.tup [.nils, .dat I64 (bif decide ((256 : Int) ^ n.toNat ≤ (b.length : Int)) then 17 else 0)]) []) := by
      rw [ck_pos (by omega)]
      by_cases hc : (256 : Int) ^ n.toNat ≤ (b.length : Int)
      · rw [decide_eq_true hc]; rfl
      · rw [decide_eq_false hc, pBad_no hn (by omega), cond_false, cond_false, ck_pos (by unfold pB; rw [List.length_map, List.length_range]; omega)]
        rfl
    by_cases h1 : n = 1
    · rw [show (!decide (n = 1)) = false by simp [h1], cond_false]; exact fin
    · have h2 : n = 2 := by omega
      rw [show (!decide (n = 1)) = true by simp [h1], cond_true, show (!decide (n = 2)) = false by simp [h2], cond_false]; exact fin
  · unfold blE
    rw [show (!decide (n = 1)) = true by simp; omega, cond_true, show (!decide (n = 2)) = true by simp; omega, cond_true]
    rfl
theorem F14_ok : SumOk Tryd.prog 27 F14 := by
  refine (codeX_ok (k := 0) (lv := lvN) mixed noNG_prog (sums_call (Wr := all) all12) (sums_prim all12) (fn := Tryd.f27) rfl).le ?_ ?_
  · intro R R' f args ob K
    unfold F14; dsimp only
    split <;> simp only [bd_cond, bd_none, bd_ck]
  · intro R args ob K r h
    unfold F14 at h; dsimp only at h
    split at h
    · obtain ⟨hl, h⟩ := ck_elim h
      exact (blob_put K _ _ hl).trans h
    · cases h
end Go.Mx
