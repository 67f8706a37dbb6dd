/- Own work. A part of the proof of a law of this seat: this seat's functions, by the machine, and the plain law -/
import Derived.Test.YtkmabfamdonfoaaDoorMe
import Derived.Test.YtkmabfamdonfoaaDoorWl
namespace Go.Mx
set_option linter.unusedVariables false
set_option linter.unusedSimpArgs false
open Go Go.RowKit Go.Sx Go.Proofs
set_option maxRecDepth 100000
def F9k : Summ := ⟨fun args ob K => match args, ob with
  | [], [] => K (.dat .bool true) []
  | _, _ => none⟩
theorem F9k_ok : SumOk Tryd.prog 9 F9k := by
  refine (W_ok 9).le (fun f args ob K => by unfold F9k; dsimp only; split <;> simp only [bd_none]) ?_
  intro R args ob K r h
  unfold F9k at h; dsimp only at h
  split at h
  · exact (known_0 K).trans h
  · cases h
/-! ### whole numbers, of the document -/
theorem whole_neg {n : Int} (h : -2147483648 ≤ n ∧ n ≤ 2147483647) : wholeN n = IntKind.u64.wrap (if n < 0 then IntKind.i64.wrap (n + 4294967296) else n) ∧ 0 ≤ wholeN n ∧ wholeN n < 4294967296 := by
  have e : wholeN n = n % 4294967296 := by
    unfold wholeN
    rw [IntKind.wrap_i32, IntKind.wrap_u32, IntKind.wrap_u64]; omega
  refine ⟨?_, by omega, by omega⟩
  rw [e]
  split
  · rw [wrapS (by omega), IntKind.wrap_u64]; omega
  · rw [IntKind.wrap_u64]; omega
theorem whBad_eq {n : Int} : whBad n = (decide (n < -2147483648) || decide (2147483647 < n)) := by
  unfold whBad
  by_cases h1 : n < -2147483648
  · rw [decide_eq_true h1]; rfl
  by_cases h2 : 2147483647 < n
  · rw [decide_eq_true h2]; rfl
  rw [decide_eq_false h1, decide_eq_false h2, Bool.false_or, Bool.false_or]
  obtain ⟨_, h3, h4⟩ := whole_neg (n := n) (by omega)
  rw [pBad_eq (by omega) (by omega) (by omega)]
  have : wholeN n / (256 : Int) ^ (4 : Int).toNat = 0 := Int.ediv_eq_zero_of_lt h3 (by rw [show (256 : Int) ^ (4 : Int).toNat = 4294967296 by decide +kernel]; exact h4)
  rw [this]; rfl
theorem rwh_run {R : Type} (K : KV R) (n : Int) : (codeX Tryd.prog G29 lvN 0 Tryd.f29).run [.dat I64 n] [] K = cond (whBad n) (K (.tup [.nils, .dat I64 2]) []) (K (.tup [.view 0, .dat I64 0]) [.row 5 (.int .u8) (pB (wholeN n) 4) .own]) := by
  refine (rwh_0 K n).trans ?_
  rw [whBad_eq]
  by_cases h1 : n < -2147483648
  · rw [decide_eq_true h1]; rfl
  by_cases h2 : 2147483647 < n
  · rw [decide_eq_false h1, decide_eq_true h2]; rfl
  rw [decide_eq_false h1, decide_eq_false h2]
  obtain ⟨h0, h3, h4⟩ := whole_neg (n := n) (by omega)
  have hb := whBad_eq (n := n)
  unfold whBad at hb
  rw [decide_eq_false h1, decide_eq_false h2, Bool.false_or, Bool.false_or, Bool.false_or] at hb
  have hr : 0 ≤ wholeN n ∧ wholeN n < 18446744073709551616 := by omega
  by_cases h5 : n < 0
  · rw [if_pos h5] at h0
    rw [decide_eq_true h5, ← h0, rPbad_eq hr, hb]
    show K _ [.row 5 U8 (rB (wholeN n) 4) .own] = _
    rw [rB_eq hr (by omega)]; rfl
  · rw [if_neg h5] at h0
    rw [decide_eq_false h5, ← h0, rPbad_eq hr, hb]
    show K _ [.row 5 U8 (rB (wholeN n) 4) .own] = _
    rw [rB_eq hr (by omega)]; rfl
theorem F29_ok : SumOk Tryd.prog 29 F12 := by
  refine (codeX_ok (k := 0) (lv := lvN) mixed noNG_prog (sums_call (Wr := all) all29) (sums_prim all29) (fn := Tryd.f29) rfl).le (fun f args ob K => by unfold F12; dsimp only; split <;> simp only [bd_none, bd_cond]) ?_
  intro R args ob K r h
  unfold F12 at h; dsimp only at h
  split at h
  · exact (rwh_run K _).trans h
  · cases h
theorem all30b : AllOk Tryd.prog [(64, F64v)] := ⟨F64v_ok, trivial⟩
theorem F30b_ok : SumOk Tryd.prog 30 F30b := by
  refine (codeX_ok (k := 0) (lv := lvN) mixed noNG_prog (sums_call (Wr := all) all30b) (sums_prim all30b) (fn := Tryd.f30) rfl).le (fun f args ob K => by unfold F30b; dsimp only; split <;> simp only [bd_none, bd_cond, bd_ck]) ?_
  intro R args ob K r h
  unfold F30b at h; dsimp only at h
  split at h
  · obtain ⟨hl, h⟩ := ck_elim h
    refine (rb_0 K _ _).trans ?_
    rw [ck_pos (by unfold limit; omega), ck_pos (by rw [bytesOf_length]; exact hl), bytesOf_length]
    exact h
  · cases h
/-! ### responses -/
def rsBad (x : RsV) : Bool := decide (x.1 < 0) || (decide (18 < x.1) || (decide (x.2.1 < -2147483648) || (decide (2147483647 < x.2.1) || decide (65535 < (x.2.2.size : Int)))))
def rsB (x : RsV) : List Int := [IntKind.u8.wrap x.1] ++ pB (wholeN x.2.1) 4 ++ (pB (x.2.2.size : Int) 2 ++ bytesOf x.2.2)
def F10r : Summ := ⟨fun args ob K => match args, ob with
  | [.dat (.pair (.int .i64) (.pair (.int .i64) .str)) x], [] => ck (ByteArray.size x.2.2 < 400000) (cond (rsBad x) (K (.tup [.nils, .dat I64 2]) []) (K (.tup [.view 0, .dat I64 0]) [.row 5 (.int .u8) (rsB x) .own]))
  | _, _ => none⟩
theorem blE2 {s : ByteArray} : blE (bytesOf s) 2 = bif decide (65535 < (s.size : Int)) then 17 else 0 := by
  unfold blE
  have e1 : shl .i64 1 (IntKind.i64.wrap (8 * 2)) = 65536 := by decide +kernel
  rw [e1, bytesOf_length]
  show (bif decide ((65536 : Int) ≤ (s.size : Int)) then (17 : Int) else 0) = _
  rw [show decide ((65536 : Int) ≤ (s.size : Int)) = decide (65535 < (s.size : Int)) from by rw [Bool.eq_iff_iff, decide_eq_true_iff, decide_eq_true_iff]; omega]
theorem rs_run {R : Type} (K : KV R) (x : RsV) (hl : x.2.2.size < 400000) : (codeX Tryd.prog G10 lvN 0 Tryd.f10).run [.dat RsT x] [] K = cond (rsBad x) (K (.tup [.nils, .dat I64 2]) []) (K (.tup [.view 0, .dat I64 0]) [.row 5 (.int .u8) (rsB x) .own]) := by
  refine (rs_0 K x).trans ?_
  obtain ⟨c, v, s⟩ := x
  dsimp only at hl ⊢
  simp only [ck_pos (show s.size ≤ limit by unfold limit; omega), ck_pos (show (bytesOf s).length < 500000 by rw [bytesOf_length]; omega)]
  rw [blE2, whBad_eq]
  unfold rsBad rsB
  dsimp only
  by_cases h1 : v < -2147483648
  · rw [decide_eq_true h1]
    cases decide (65535 < (s.size : Int)) <;> cases decide (c < 0) <;> cases decide (18 < c) <;> rfl
  by_cases h2 : 2147483647 < v
  · rw [decide_eq_false h1, decide_eq_true h2]
    cases decide (65535 < (s.size : Int)) <;> cases decide (c < 0) <;> cases decide (18 < c) <;> rfl
  rw [decide_eq_false h1, decide_eq_false h2, Bool.false_or, cond_false]
  by_cases h3 : 65535 < (s.size : Int)
  · rw [decide_eq_true h3]
    cases decide (c < 0) <;> cases decide (18 < c) <;> rfl
  rw [decide_eq_false h3, ck_pos (by rw [List.length_append, pB_len, bytesOf_length]; omega), bytesOf_length]
  cases decide (c < 0) <;> cases decide (18 < c) <;> rfl
theorem all10 : AllOk Tryd.prog [(26, F12), (27, F27v), (28, F28j)] := ⟨F12_ok, F27v_ok, F28j_ok, trivial⟩
theorem F10r_ok : SumOk Tryd.prog 10 F10r := by
  refine (codeX_ok (k := 0) (lv := lvN) mixed noNG_prog (sums_call (Wr := all) all10) (sums_prim all10) (fn := Tryd.f10) rfl).le (fun f args ob K => by unfold F10r; dsimp only; split <;> simp only [bd_none, bd_cond, bd_ck]) ?_
  intro R args ob K r h
  unfold F10r at h; dsimp only at h
  split at h
  · obtain ⟨hl, h⟩ := ck_elim h
    exact (rs_run K _ hl).trans h
  · cases h
theorem rr_run {R : Type} (K : KV R) (x : RsV) (hl : x.2.2.size < 400000) : (codeX Tryd.prog G11 lvN 0 Tryd.f11).run [.dat RsT x] [] K = cond (rsBad x) (K (.tup [.nils, .dat I64 2]) []) (K (.tup [.view 0, .dat I64 0]) [.row 5 (.int .u8) (rsB x) .own]) := by
  refine (rr_0 K x).trans ?_
  obtain ⟨c, v, s⟩ := x
  dsimp only at hl ⊢
  rw [blE2, whBad_eq]
  unfold rsBad rsB
  dsimp only
  by_cases h3 : 65535 < (s.size : Int)
  · rw [decide_eq_true h3]
    cases decide (c < 0) <;> cases decide (18 < c) <;> cases decide (v < -2147483648) <;> cases decide (2147483647 < v) <;> rfl
  have hk : (5 + List.length (pB (s.size : Int) 2 ++ bytesOf s)) * 1 ≤ limit := by rw [List.length_append, pB_len, bytesOf_length]; unfold limit; omega
  simp only [decide_eq_false h3, ck_pos (show s.size < 500000 by omega), ck_pos hk]
  cases decide (c < 0) <;> cases decide (18 < c) <;> cases decide (v < -2147483648) <;> cases decide (2147483647 < v) <;> rfl
theorem all11 : AllOk Tryd.prog [(29, F12), (30, F30b)] := ⟨F29_ok, F30b_ok, trivial⟩
theorem F11r_ok : SumOk Tryd.prog 11 F10r := by
  refine (codeX_ok (k := 0) (lv := lvN) mixed noNG_prog (sums_call (Wr := all) all11) (sums_prim all11) (fn := Tryd.f11) rfl).le (fun f args ob K => by unfold F10r; dsimp only; split <;> simp only [bd_none, bd_cond, bd_ck]) ?_
  intro R args ob K r h
  unfold F10r at h; dsimp only at h
  split at h
  · obtain ⟨hl, h⟩ := ck_elim h
    exact (rr_run K _ hl).trans h
  · cases h
/-! ### responses read -/
def of1 (b : List Int) : RV := numS (newV b) 1
def of2 (b : List Int) : RV := numS (of1 b) 4
def of3 (b : List Int) : RV := blobS (of2 b) 2
def ofC (b : List Int) : Int := IntKind.i64.wrap (numV (newV b) 1)
def ofT (b : List Int) : List Int := blobV (of2 b) 2
def ofOk (b : List Int) : Bool := decide (endV (of3 b) = 0) && !decide (18 < ofC b)
def ofR (b : List Int) : RsV := bif ofOk b then (ofC b, wholeV (numV (of1 b) 4), strOf (ofT b)) else (0, 0, ⟨#[]⟩)
def ofE (b : List Int) : Int := bif ofOk b then 0 else 2
def F12o : Summ := ⟨fun args ob K => match args, ob with
  | [.dat (.sl (.int .u8)) b], [] => ck (b.length < 100000) (K (.tup [.dat RsT (ofR b), .dat I64 (ofE b)]) [])
  | [.view 0], [.row 5 (.int .u8) b .own] => ck (b.length < 100000) (K (.tup [.dat RsT (ofR b), .dat I64 (ofE b)]) [.row 5 (.int .u8) b .own])
  | _, _ => none⟩
theorem of_len (b : List Int) : (of1 b).1.length ≤ b.length ∧ (of2 b).1.length ≤ b.length := by
  have h1 : (of1 b).1.length ≤ b.length := takeS_len _ _
  exact ⟨h1, Nat.le_trans (takeS_len _ _) h1⟩
theorem of_fin {R : Type} (K : KV R) (b : List Int) (o : List AO) : (listK (blobV (numS (numS (newV b) 1) 4) 2) (bif !decide (endV (blobS (numS (numS (newV b) 1) 4) 2) = 0) then K (AV.tup [AV.dat RsT (0, 0, ByteArray.mk #[]), AV.dat I64 2]) o else bif decide (18 < IntKind.i64.wrap (numV (newV b) 1)) then K (AV.tup [AV.dat RsT (0, 0, ByteArray.mk #[]), AV.dat I64 2]) o else K (AV.tup [AV.dat RsT (IntKind.i64.wrap (numV (newV b) 1), wholeV (numV (numS (newV b) 1) 4), strOf []), AV.dat I64 0]) o) fun z zs => bif !decide (endV (blobS (numS (numS (newV b) 1) 4) 2) = 0) then K (AV.tup [AV.dat RsT (0, 0, ByteArray.mk #[]), AV.dat I64 2]) o else bif decide (18 < IntKind.i64.wrap (numV (newV b) 1)) then K (AV.tup [AV.dat RsT (0, 0, ByteArray.mk #[]), AV.dat I64 2]) o else K (AV.tup [AV.dat RsT (IntKind.i64.wrap (numV (newV b) 1), wholeV (numV (numS (newV b) 1) 4), strOf (z :: zs)), AV.dat I64 0]) o) = K (.tup [.dat RsT (ofR b), .dat I64 (ofE b)]) o := by
  unfold ofR ofE ofOk
  show listK (ofT b) (bif !decide (endV (of3 b) = 0) then _ else bif decide (18 < ofC b) then _ else _) _ = _
  cases ht : ofT b with
  | nil =>
    show (bif !decide (endV (of3 b) = 0) then _ else bif decide (18 < ofC b) then _ else _) = _
    cases decide (endV (of3 b) = 0) <;> cases decide (18 < ofC b) <;> rfl
  | cons z zs =>
    show (bif !decide (endV (of3 b) = 0) then _ else bif decide (18 < ofC b) then _ else _) = _
    cases decide (endV (of3 b) = 0) <;> cases decide (18 < ofC b) <;> rfl
theorem all12r : AllOk Tryd.prog [(31, F17), (32, inS 32 cl F18), (33, inS 33 cl F20), (34, inS 34 cl F22), (35, inS 35 cl F28)] := ⟨F17_ok, in_ok F18_ok, in_ok F20_ok, in_ok F22_ok, in_ok F28_ok, trivial⟩
theorem F12o_ok : SumOk Tryd.prog 12 F12o := by
  refine (codeX_ok (k := 0) (lv := lvN) mixed noNG_prog (sums_call (Wr := all) all12r) (sums_prim all12r) (fn := Tryd.f12) rfl).le (fun f args ob K => by unfold F12o; dsimp only; split <;> simp only [bd_none, bd_ck]) ?_
  intro R args ob K r h
  unfold F12o at h; dsimp only at h
  split at h
  · rename_i b
    obtain ⟨hl, h⟩ := ck_elim h
    obtain ⟨l1, l2⟩ := of_len b
    refine (of_d K b).trans ?_
    rw [ck_pos (by omega), ck_pos (show (newV b).1.length < 100000 from hl), ck_pos (show (numS (newV b) 1).1.length < 100000 from Nat.lt_of_le_of_lt l1 hl), ck_pos (show (numS (numS (newV b) 1) 4).1.length < 100000 from Nat.lt_of_le_of_lt l2 hl)]
    exact (of_fin K b []).trans h
  · rename_i b
    obtain ⟨hl, h⟩ := ck_elim h
    obtain ⟨l1, l2⟩ := of_len b
    refine (of_v K b).trans ?_
    rw [ck_pos (by omega), ck_pos (show (newV b).1.length < 100000 from hl), ck_pos (show (numS (newV b) 1).1.length < 100000 from Nat.lt_of_le_of_lt l1 hl), ck_pos (show (numS (numS (newV b) 1) 4).1.length < 100000 from Nat.lt_of_le_of_lt l2 hl)]
    exact (of_fin K b _).trans h
  · cases h
noncomputable def G3 : Sums := sums all [(9, F9k), (10, F10r), (11, F10r), (12, F12o)]
theorem la_0 {R : Type} (K : KV R) (x : RsV) : (codeX Tryd.prog G3 lvN 0 Tryd.f3).run [.dat RsT x] [] K = bif decide ((70000 : Int) < (↑(ByteArray.size (Prod.snd (Prod.snd x))) : Int)) then K (AV.dat T.bool true) [] else ck (ByteArray.size (Prod.snd (Prod.snd x)) < (400000 : Nat)) (bif rsBad x then ck (ByteArray.size (Prod.snd (Prod.snd x)) < (400000 : Nat)) (bif rsBad x then K (AV.dat T.bool true) [] else K (AV.dat T.bool false) []) else ck (ByteArray.size (Prod.snd (Prod.snd x)) < (400000 : Nat)) (bif rsBad x then K (AV.dat T.bool false) [] else bif !decide (strOf (rsB x) = strOf (rsB x)) then K (AV.dat T.bool false) [] else ck (List.length (rsB x) < (100000 : Nat)) (bif decide (ofE (rsB x) = (0 : Int)) then bif decide (Prod.fst (ofR (rsB x)) = Prod.fst x) && (decide (Prod.fst (Prod.snd (ofR (rsB x))) = Prod.fst (Prod.snd x)) && decide (Prod.snd (Prod.snd (ofR (rsB x))) = Prod.snd (Prod.snd x))) then K (AV.dat T.bool true) [] else K (AV.dat T.bool false) [] else K (AV.dat T.bool false) []))) := by kernel_rfl
end Go.Mx
