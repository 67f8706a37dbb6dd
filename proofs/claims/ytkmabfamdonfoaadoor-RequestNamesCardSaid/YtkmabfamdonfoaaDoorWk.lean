/- Own work. A part of the proof of a law of this seat: this seat's functions, by the machine, and the plain law -/
import Derived.Test.YtkmabfamdonfoaaDoorMe
import Derived.Test.YtkmabfamdonfoaaDoorWj
namespace Go.Mx
set_option linter.unusedVariables false
set_option linter.unusedSimpArgs false
open Go Go.RowKit Go.Sx Go.Proofs
set_option maxRecDepth 100000
def F27v : Summ := ⟨fun args ob K => match args, ob with
  | [.view 0, .dat (.int .i64) n], [.row 5 (.int .u8) b .fz] => ck (b.length < 500000) (cond (decide (blE b n = 0)) (K (.tup [.view 1, .dat I64 0]) [.row 5 (.int .u8) b .fz, .row 5 (.int .u8) (pB (b.length : Int) n.toNat ++ b) .own]) (K (.tup [.nils, .dat I64 (blE b n)]) [.row 5 (.int .u8) b .fz]))
  | _, _ => none⟩
def F28j : Summ := ⟨fun args ob K => match args, ob with
  | [.view 0], [.row 26 (.sl (.int .u8)) [a, b, c] .own] => ck (a.length + b.length + c.length < 1000000) (K (.view 1) [.row 26 BL [a, b, c] .own, .row 5 (.int .u8) (a ++ b ++ c) .own])
  | _, _ => none⟩
def F64v : Summ := ⟨fun args ob K => match args, ob with
  | [.view 0, .dat (.int .i64) n], [.row 5 (.int .u8) b .fz] => ck (b.length < 500000) (cond (decide (blE b n = 0)) (K (.tup [.view 1, .dat I64 0]) [.row 5 (.int .u8) b .fz, .row 5 (.int .u8) (pB (b.length : Int) n.toNat ++ b) .own]) (K (.tup [.nils, .dat I64 (blE b n)]) [.row 5 (.int .u8) b .fz]))
  | _, _ => none⟩
theorem blob_putv {R : Type} (K : KV R) (b : List Int) (n : Int) (hl : b.length < 500000) : (codeX Tryd.prog G12 lvN 0 Tryd.f27).run [.view 0, .dat I64 n] [.row 5 U8 b .fz] K = cond (decide (blE b n = 0)) (K (.tup [.view 1, .dat I64 0]) [.row 5 (.int .u8) b .fz, .row 5 (.int .u8) (pB (b.length : Int) n.toNat ++ b) .own]) (K (.tup [.nils, .dat I64 (blE b n)]) [.row 5 (.int .u8) b .fz]) := by
  refine (bl_v K b n).trans ?_
  have hw : IntKind.u64.wrap (b.length : Int) = (b.length : Int) := by rw [IntKind.wrap_u64]; omega
  by_cases hn : n = 1 ∨ n = 2
  · obtain ⟨e1, e2⟩ := shl8 hn
    have hz : (!decide (n = 1) && !decide (n = 2)) = false := by rcases hn with rfl | rfl <;> rfl
    unfold blE
    rw [hz, cond_false, hw, e1, e2]
    have key : ∀ X : Option R, (X = K (.tup [.view 1, .dat I64 0]) [.row 5 (.int .u8) b .fz, .row 5 (.int .u8) (pB (b.length : Int) n.toNat ++ b) .own]) → (ck (0 ≤ 8 * n) (bif decide ((256 : Int) ^ n.toNat ≤ (↑(List.length b) : Int)) then K (AV.tup [AV.nils, AV.dat (T.int IntKind.i64) 17]) [AO.row 5 (T.int IntKind.u8) b Md.fz] else bif pBad (↑(List.length b) : Int) n then ck (0 + List.length b < 1000000) (K (AV.tup [AV.view 1, AV.dat (T.int IntKind.i64) 0]) [AO.row 5 (T.int IntKind.u8) b Md.fz, AO.row 5 (T.int IntKind.u8) ([] ++ b) Md.own]) else X)) = cond (decide ((bif decide ((256 : Int) ^ n.toNat ≤ (↑(List.length b) : Int)) then (17 : Int) else 0) = 0)) (K (.tup [.view 1, .dat I64 0]) [.row 5 (.int .u8) b .fz, .row 5 (.int .u8) (pB (b.length : Int) n.toNat ++ b) .own]) (K (.tup [.nils, .dat I64 (bif decide ((256 : Int) ^ n.toNat ≤ (↑(List.length b) : Int)) then (17 : Int) else 0)]) [.row 5 (.int .u8) b .fz]) := by
      intro X hX
      rw [ck_pos (by omega)]
      by_cases hc : (256 : Int) ^ n.toNat ≤ (b.length : Int)
      · rw [decide_eq_true hc]; rfl
      · rw [decide_eq_false hc, pBad_no hn (by omega), cond_false, cond_false, hX]; rfl
    have hx : (ck (List.length (pB (↑(List.length b) : Int) (Int.toNat n)) + List.length b < 1000000) (K (AV.tup [AV.view 1, AV.dat (T.int IntKind.i64) 0]) [AO.row 5 (T.int IntKind.u8) b Md.fz, AO.row 5 (T.int IntKind.u8) (pB (↑(List.length b) : Int) (Int.toNat n) ++ b) Md.own])) = K (.tup [.view 1, .dat I64 0]) [.row 5 (.int .u8) b .fz, .row 5 (.int .u8) (pB (b.length : Int) n.toNat ++ b) .own] := ck_pos (by rw [pB_len]; omega)
    by_cases h1 : n = 1
    · rw [show (!decide (n = 1)) = false by simp [h1], cond_false]; exact key _ hx
    · have h2 : n = 2 := by omega
      rw [show (!decide (n = 1)) = true by simp [h1], cond_true, show (!decide (n = 2)) = false by simp [h2], cond_false]; exact key _ hx
  · unfold blE
    rw [show (!decide (n = 1)) = true by simp; omega, cond_true, show (!decide (n = 2)) = true by simp; omega, cond_true]
    rfl
theorem rblob_putv {R : Type} (K : KV R) (b : List Int) (n : Int) (hl : b.length < 500000) : (codeX Tryd.prog G29 lvN 0 Tryd.f64).run [.view 0, .dat I64 n] [.row 5 U8 b .fz] K = cond (decide (blE b n = 0)) (K (.tup [.view 1, .dat I64 0]) [.row 5 (.int .u8) b .fz, .row 5 (.int .u8) (pB (b.length : Int) n.toNat ++ b) .own]) (K (.tup [.nils, .dat I64 (blE b n)]) [.row 5 (.int .u8) b .fz]) := by
  refine (rbl_v K b n).trans ?_
  have hr : 0 ≤ (b.length : Int) ∧ (b.length : Int) < 18446744073709551616 := by omega
  have hw : IntKind.u64.wrap (b.length : Int) = (b.length : Int) := by rw [IntKind.wrap_u64]; omega
  by_cases hn : n = 1 ∨ n = 2
  · obtain ⟨e1, e2⟩ := shl8 hn
    have hz : (!decide (n = 1) && !decide (n = 2)) = false := by rcases hn with rfl | rfl <;> rfl
    have hp : pBad (b.length : Int) n = decide ((256 : Int) ^ n.toNat ≤ (b.length : Int)) := by
      by_cases hc : (256 : Int) ^ n.toNat ≤ (b.length : Int)
      · rw [decide_eq_true hc, pBad_eq hr (by omega) (by omega)]
        refine decide_eq_true ?_
        have : (256 : Int) ^ n.toNat = 256 ∨ (256 : Int) ^ n.toNat = 65536 := by rcases hn with rfl | rfl <;> decide
        rcases this with e | e <;> rw [e] at hc ⊢ <;> omega
      · rw [decide_eq_false hc, pBad_no hn (by omega)]
    unfold blE
    rw [hz, cond_false, hw, e1, e2, rPbad_eq hr, hp, rB_eq hr (by omega), ck_pos (by rw [pB_len]; unfold limit; omega)]
    by_cases h1 : n = 1
    · rw [show (!decide (n = 1)) = false by simp [h1], cond_false]
      cases decide ((256 : Int) ^ n.toNat ≤ (b.length : Int)) <;> rfl
    · have h2 : n = 2 := by omega
      rw [show (!decide (n = 1)) = true by simp [h1], cond_true, show (!decide (n = 2)) = false by simp [h2], cond_false]
      cases decide ((256 : Int) ^ n.toNat ≤ (b.length : Int)) <;> rfl
  · unfold blE
    rw [show (!decide (n = 1)) = true by simp; omega, cond_true, show (!decide (n = 2)) = true by simp; omega, cond_true]
    rfl
theorem F27v_ok : SumOk Tryd.prog 27 F27v := by
  refine (codeX_ok (k := 0) (lv := lvN) mixed noNG_prog (sums_call (Wr := all) all12) (sums_prim all12) (fn := Tryd.f27) rfl).le (fun f args ob K => by unfold F27v; dsimp only; split <;> simp only [bd_none, bd_cond, bd_ck]) ?_
  intro R args ob K r h
  unfold F27v at h; dsimp only at h
  split at h
  · obtain ⟨hl, h⟩ := ck_elim h
    exact (blob_putv K _ _ hl).trans h
  · cases h
theorem all29 : AllOk Tryd.prog [(63, F63)] := ⟨F63_ok, trivial⟩
theorem F64v_ok : SumOk Tryd.prog 64 F64v := by
  refine (codeX_ok (k := 0) (lv := lvN) mixed noNG_prog (sums_call (Wr := all) all29) (sums_prim all29) (fn := Tryd.f64) rfl).le (fun f args ob K => by unfold F64v; dsimp only; split <;> simp only [bd_none, bd_cond, bd_ck]) ?_
  intro R args ob K r h
  unfold F64v at h; dsimp only at h
  split at h
  · obtain ⟨hl, h⟩ := ck_elim h
    exact (rblob_putv K _ _ hl).trans h
  · cases h
theorem F28j_ok : SumOk Tryd.prog 28 F28j := by
  refine (W_ok 28).le (fun f args ob K => by unfold F28j; dsimp only; split <;> simp only [bd_none, bd_ck]) ?_
  intro R args ob K r h
  unfold F28j at h; dsimp only at h
  split at h
  · rename_i a b c
    obtain ⟨hl, h⟩ := ck_elim h
    refine (join_3 K a b c).trans (Eq.trans ?_ h)
    have e1 : IntKind.i64.wrap ((0 : Int) + (a.length : Int)) = (a.length : Int) := by rw [wrapS (by omega)]; omega
    have e2 : IntKind.i64.wrap ((a.length : Int) + (b.length : Int)) = (a.length : Int) + (b.length : Int) := wrapS (by omega)
    have e3 : IntKind.i64.wrap ((a.length : Int) + (b.length : Int) + (c.length : Int)) = (a.length : Int) + (b.length : Int) + (c.length : Int) := wrapS (by omega)
    rw [e1, e2, e3, wrapS (x := (a.length : Int) + (b.length : Int) + (c.length : Int) - 0) (by omega)]
    rw [decide_eq_false (show ¬ (a.length : Int) < 0 by omega), cond_false, decide_eq_false (show ¬ (a.length : Int) + (b.length : Int) < 0 by omega), cond_false, decide_eq_false (show ¬ (a.length : Int) + (b.length : Int) + (c.length : Int) < 0 by omega), cond_false, cond_false]
    by_cases hp : 0 < (a.length : Int) + (b.length : Int) + (c.length : Int) - 0
    · rw [decide_eq_true hp, cond_true, ck_pos (by unfold limit; omega), ck_pos (by unfold limit; omega), ck_pos (by unfold limit; rw [List.take_zero, List.nil_append]; omega), ck_pos (by unfold limit; rw [List.take_zero, List.nil_append, List.length_append]; omega)]
      rw [List.take_zero, List.nil_append]
    · rw [decide_eq_false hp, cond_false, ck_pos (by unfold limit; omega), ck_pos (by unfold limit; omega), ck_pos (by unfold limit; rw [List.length_append]; omega)]
  · cases h
noncomputable def G10 : Sums := sums all [(26, F12), (27, F27v), (28, F28j)]
theorem rs_0 {R : Type} (K : KV R) (x : RsV) : (codeX Tryd.prog G10 lvN 0 Tryd.f10).run [.dat RsT x] [] K = bif whBad (Prod.fst (Prod.snd x)) then ck (ByteArray.size (Prod.snd (Prod.snd x)) ≤ limit) (ck (List.length (bytesOf (Prod.snd (Prod.snd x))) < (500000 : Nat)) (bif decide (blE (bytesOf (Prod.snd (Prod.snd x))) (2 : Int) = (0 : Int)) then bif decide (Prod.fst x < (0 : Int)) then K (AV.tup [AV.nils, AV.dat (T.int IntKind.i64) (2 : Int)]) [] else bif decide ((18 : Int) < Prod.fst x) then K (AV.tup [AV.nils, AV.dat (T.int IntKind.i64) (2 : Int)]) [] else K (AV.tup [AV.nils, AV.dat (T.int IntKind.i64) (2 : Int)]) [] else bif decide (Prod.fst x < (0 : Int)) then K (AV.tup [AV.nils, AV.dat (T.int IntKind.i64) (2 : Int)]) [] else bif decide ((18 : Int) < Prod.fst x) then K (AV.tup [AV.nils, AV.dat (T.int IntKind.i64) (2 : Int)]) [] else K (AV.tup [AV.nils, AV.dat (T.int IntKind.i64) (2 : Int)]) [])) else ck (ByteArray.size (Prod.snd (Prod.snd x)) ≤ limit) (ck (List.length (bytesOf (Prod.snd (Prod.snd x))) < (500000 : Nat)) (bif decide (blE (bytesOf (Prod.snd (Prod.snd x))) (2 : Int) = (0 : Int)) then bif decide (Prod.fst x < (0 : Int)) then K (AV.tup [AV.nils, AV.dat (T.int IntKind.i64) (2 : Int)]) [] else bif decide ((18 : Int) < Prod.fst x) then K (AV.tup [AV.nils, AV.dat (T.int IntKind.i64) (2 : Int)]) [] else ck ((1 : Nat) + (4 : Nat) + List.length (pB (↑(List.length (bytesOf (Prod.snd (Prod.snd x)))) : Int) (2 : Nat) ++ bytesOf (Prod.snd (Prod.snd x))) < (1000000 : Nat)) (K (AV.tup [AV.view (0 : Nat), AV.dat (T.int IntKind.i64) (0 : Int)]) [AO.row (5 : Nat) (T.int IntKind.u8) ([IntKind.wrap IntKind.u8 (Prod.fst x)] ++ pB (wholeN (Prod.fst (Prod.snd x))) (4 : Nat) ++ (pB (↑(List.length (bytesOf (Prod.snd (Prod.snd x)))) : Int) (2 : Nat) ++ bytesOf (Prod.snd (Prod.snd x)))) Md.own]) else bif decide (Prod.fst x < (0 : Int)) then K (AV.tup [AV.nils, AV.dat (T.int IntKind.i64) (2 : Int)]) [] else bif decide ((18 : Int) < Prod.fst x) then K (AV.tup [AV.nils, AV.dat (T.int IntKind.i64) (2 : Int)]) [] else bif !decide (blE (bytesOf (Prod.snd (Prod.snd x))) (2 : Int) = (0 : Int)) then K (AV.tup [AV.nils, AV.dat (T.int IntKind.i64) (2 : Int)]) [] else K (AV.tup [AV.view (0 : Nat), AV.dat (T.int IntKind.i64) (0 : Int)]) [AO.row (5 : Nat) (T.int IntKind.u8) ([IntKind.wrap IntKind.u8 (Prod.fst x)] ++ pB (wholeN (Prod.fst (Prod.snd x))) (4 : Nat) ++ []) Md.own])) := by kernel_rfl
noncomputable def G30b : Sums := sums all [(64, F64v)]
theorem rb_0 {R : Type} (K : KV R) (s : ByteArray) (n : Int) : (codeX Tryd.prog G30b lvN 0 Tryd.f30).run [.dat .str s, .dat I64 n] [] K = ck (ByteArray.size s ≤ limit) (ck (List.length (bytesOf s) < (500000 : Nat)) (bif decide (blE (bytesOf s) n = (0 : Int)) then K (AV.view (0 : Nat)) [AO.row (5 : Nat) (T.int IntKind.u8) (pB (↑(List.length (bytesOf s)) : Int) (Int.toNat n) ++ bytesOf s) Md.own] else K AV.nils [])) := by kernel_rfl
end Go.Mx
