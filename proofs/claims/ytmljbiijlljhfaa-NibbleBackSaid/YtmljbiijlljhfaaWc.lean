/- Own work. A part of the proof of a law of this seat: this seat's functions, by the machine, and the plain law -/
import Derived.Test.YtmljbiijlljhfaaMe
import Derived.Test.YtmljbiijlljhfaaWb
import Derived.Laws.RangeAny
namespace Go.Mx
set_option linter.unusedVariables false
set_option linter.unusedSimpArgs false
open Go Go.RowKit Go.Sx Go.Proofs
set_option maxRecDepth 100000
theorem F33_ok : SumOk Try.prog 33 F33 := by
  refine (codeX_ok (k := 0) (lv := lvN) mixed noNG_prog (sums_call (Wr := all) (l := []) trivial) (sums_prim trivial) (fn := Try.f33) rfl).le ?_ ?_
  · intro R R' f args ob K
    unfold F33; dsimp only
    split <;> simp only [bd_none]
  · intro R args ob K r h
    unfold F33 at h; dsimp only at h
    split at h
    · rename_i n
      refine (odd_0 K n).trans (Eq.trans ?_ h)
      unfold odd
      cases decide (n < 33) <;> cases decide (126 < n) <;> rfl
    · cases h
/-- where the first one stands that may not be -/
def idxG (s : ByteArray) : Nat → Nat → Int
  | 0, _ => -1
  | n + 1, p => if p < s.size then (if odd ((Utf8.decode s p).1 : Int) = true then (p : Int) else idxG s n (p + (Utf8.decode s p).2)) else -1
theorem width_pos (s : ByteArray) (p : Nat) (hp : p < s.size) : odd ((Utf8.decode s p).1 : Int) = true ∨ Utf8.decode s p = ((s[p]'hp).toNat, 1) := by
  by_cases h128 : (s[p]'hp).toNat < 128
  · exact .inr (decode_ascii s p hp h128)
  · obtain ⟨h1, _⟩ := decode_high s p hp (by omega)
    left; unfold odd; simp; omega
theorem idx_loop {R : Type} (L0 : Nat → St → (Exit → St → Option R) → Option R) (K : KV R) (s : ByteArray) : ∀ (n p k : Nat), s.size - p < n → n < k + 1 →
    LX Try.prog G33 lv43 0 (codeOf Try.f43) k 0 ⟨[(1, .fn 33 [] []), (2, .dat .bool true), (10, .ptr 0 [])], [.itr s p true]⟩ (endX Try.prog G33 lv43 Try.f43 0 L0 K 0) = K (.dat I64 (idxG s n p)) [] := by
  intro n
  induction n with
  | zero => intro p k hn; omega
  | succ n ih =>
    intro p k hn hk
    obtain ⟨k, rfl⟩ : ∃ q, k = q + 1 := ⟨k - 1, by omega⟩
    refine (ix_s _ L0 K s p).trans ?_
    rw [idxG]
    by_cases hp : p < s.size
    · rw [decide_eq_true hp, cond_true, if_pos hp]
      by_cases ho : odd ((Utf8.decode s p).1 : Int) = true
      · rw [ho, if_pos rfl]; rfl
      · have hd := (width_pos s p hp).resolve_left ho
        rw [Bool.not_eq_true] at ho
        rw [ho, if_neg (by simp), show (false == true) = false from rfl, cond_false]
        exact ih _ k (by rw [hd]; show s.size - (p + 1) < n; omega) (by omega)
    · rw [decide_eq_false hp, cond_false, if_neg hp]
def F43 : Summ := ⟨fun args ob K => match args, ob with
  | [.dat .str s, .fn 33 [] [], .dat .bool true], [] => ck (s.size < 100000) (K (.dat I64 (idxG s 100000 0)) [])
  | _, _ => none⟩
theorem all33 : AllOk Try.prog [(33, F33)] := ⟨F33_ok, trivial⟩
theorem F43_ok : SumOk Try.prog 43 F43 := by
  refine (codeX_ok (k := 100001) (lv := lv43) mixed noNG_prog (sums_call (Wr := all) all33) (sums_prim all33) (fn := Try.f43) rfl).le ?_ ?_
  · intro R R' f args ob K
    unfold F43; dsimp only
    split <;> simp only [bd_none, bd_ck]
  · intro R args ob K r h
    unfold F43 at h; dsimp only at h
    split at h
    · obtain ⟨hs, h⟩ := ck_elim h
      exact ((ix_0 _ K _).trans (idx_loop _ K _ 100000 0 100001 (by omega) (by omega))).trans h
    · cases h
def G40 : Sums := sums all [(43, F43)]
theorem all40 : AllOk Try.prog [(43, F43)] := ⟨F43_ok, trivial⟩
noncomputable def C40 : Summ := codeX Try.prog G40 lvN 0 Try.f40
theorem C40_ok : SumOk Try.prog 40 C40 := codeX_ok mixed noNG_prog (sums_call all40) (sums_prim all40) rfl lvN 0
noncomputable def G34 : Sums := sums all [(40, C40)]
theorem all34 : AllOk Try.prog [(40, C40)] := ⟨C40_ok, trivial⟩
noncomputable def C34 : Summ := codeX Try.prog G34 lvN 0 Try.f34
theorem C34_ok : SumOk Try.prog 34 C34 := codeX_ok mixed noNG_prog (sums_call all34) (sums_prim all34) rfl lvN 0
noncomputable def G16 : Sums := sums all [(34, C34)]
theorem all16 : AllOk Try.prog [(34, C34)] := ⟨C34_ok, trivial⟩
theorem may_0 {R : Type} (K : KV R) (x : XV) : (codeX Try.prog G16 lvN 0 Try.f16).run [.dat XT x] [] K = bif decide (1 ≤ Prod.fst x) then bif decide (Prod.fst x ≤ 4) then bif decide (1 ≤ (↑(ByteArray.size (Prod.snd x)) : Int)) then bif decide ((↑(ByteArray.size (Prod.snd x)) : Int) ≤ 32) then ck (ByteArray.size (Prod.snd x) < 100000) (K (AV.dat T.bool !decide (0 ≤ idxG (Prod.snd x) 100000 0)) []) else K (AV.dat T.bool false) [] else K (AV.dat T.bool false) [] else K (AV.dat T.bool false) [] else K (AV.dat T.bool false) [] := by kernel_rfl
/-! ### may an index be? -/
theorem idx_any (s : ByteArray) : ∀ (n p : Nat), s.size - p < n → (0 ≤ idxG s n p ↔ ((bytesOf s).drop p).any odd = true) := by
  intro n
  induction n with
  | zero => intro p hn; omega
  | succ n ih =>
    intro p hn
    rw [idxG]
    by_cases hp : p < s.size
    · have hb := bytesOf_at hp
      have hd : (bytesOf s).drop p = ((s[p]'hp).toNat : Int) :: (bytesOf s).drop (p + 1) := by
        have hl : p < (bytesOf s).length := by rw [bytesOf_len]; exact hp
        rw [List.drop_eq_getElem_cons hl, ← hb, List.getD_eq_getElem?_getD, List.getElem?_eq_getElem hl]
        rfl
      rw [if_pos hp, hd, List.any_cons]
      by_cases h128 : (s[p]'hp).toNat < 128
      · rw [decode_ascii s p hp h128]
        by_cases ho : odd ((s[p]'hp).toNat : Int) = true
        · rw [if_pos ho, ho]; simp
        · rw [if_neg ho, ih (p + 1) (by omega), Bool.eq_false_iff.2 ho, Bool.false_or]
      · obtain ⟨h1, _⟩ := decode_high s p hp (by omega)
        have ho : odd ((Utf8.decode s p).1 : Int) = true := by unfold odd; simp; omega
        have hob : odd ((s[p]'hp).toNat : Int) = true := by unfold odd; simp; omega
        rw [if_pos ho, hob]; simp
    · rw [if_neg hp, List.drop_of_length_le (by rw [bytesOf_len]; omega)]
      simp
def mayV (x : XV) : Bool := decide (1 ≤ x.1) && decide (x.1 ≤ 4) && decide (1 ≤ x.2.size) && decide (x.2.size ≤ 32) && !(bytesOf x.2).any odd
def Fmay : Summ := ⟨fun args ob K => match args, ob with
  | [v], [] => (asD XT v).bind fun x => K (.dat .bool (mayV x)) []
  | _, _ => none⟩
theorem Fmay_nat : Fmay.Nat := by
  intro R R' f args ob K
  unfold Fmay; dsimp only
  split <;> simp only [bd_none, bd_bind]
theorem may_run {R : Type} (K : KV R) (x : XV) : (codeX Try.prog G16 lvN 0 Try.f16).run [.dat XT x] [] K = K (.dat .bool (mayV x)) [] := by
  refine (may_0 K x).trans ?_
  unfold mayV
  by_cases h1 : 1 ≤ x.1
  · rw [decide_eq_true h1, cond_true, Bool.true_and]
    by_cases h2 : x.1 ≤ 4
    · rw [decide_eq_true h2, cond_true, Bool.true_and]
      by_cases h3 : 1 ≤ x.2.size
      · rw [decide_eq_true h3, decide_eq_true (show (1 : Int) ≤ (x.2.size : Int) by omega), cond_true, Bool.true_and]
        by_cases h4 : x.2.size ≤ 32
        · rw [decide_eq_true h4, decide_eq_true (show (x.2.size : Int) ≤ 32 by omega), cond_true, Bool.true_and, ck_pos (by omega)]
          have e2 := idx_any x.2 100000 0 (by omega)
          rw [List.drop_zero] at e2
          rw [show decide (0 ≤ idxG x.2 100000 0) = (bytesOf x.2).any odd from Bool.eq_iff_iff.2 (decide_eq_true_iff.trans e2)]
        · rw [decide_eq_false h4, decide_eq_false (show ¬ (x.2.size : Int) ≤ 32 by omega), cond_false, Bool.false_and]
      · rw [decide_eq_false h3, decide_eq_false (show ¬ (1 : Int) ≤ (x.2.size : Int) by omega), cond_false, Bool.false_and, Bool.false_and]
    · rw [decide_eq_false h2, cond_false, Bool.false_and, Bool.false_and, Bool.false_and]
  · rw [decide_eq_false h1, cond_false, Bool.false_and, Bool.false_and, Bool.false_and, Bool.false_and]
theorem F16_ok : SumOk Try.prog 16 Fmay := by
  refine (codeX_ok (k := 0) (lv := lvN) mixed noNG_prog (sums_call (Wr := all) all16) (sums_prim all16) (fn := Try.f16) rfl).le Fmay_nat ?_
  intro R args ob K r h
  unfold Fmay at h; dsimp only at h
  split at h
  · obtain ⟨x, hx, h2⟩ := Option.bind_eq_some_iff.1 h
    obtain rfl := asD_ok hx
    exact (may_run K x).trans h2
  · cases h
theorem getq {b : List Int} {i : Int} {j : Nat} (h : i = j) (hj : j < b.length) : b[i.toNat]? = some (b.getD j 0) := by
  subst h
  rw [Int.toNat_natCast, List.getElem?_eq_getElem hj, List.getD_eq_getElem?_getD, List.getElem?_eq_getElem hj]; rfl
theorem drop_at {l : List Int} {i : Nat} (h : i < l.length) : l.drop i = l.getD i 0 :: l.drop (i + 1) := by
  rw [List.drop_eq_getElem_cons h, List.getD_eq_getElem?_getD, List.getElem?_eq_getElem h]
  rfl
theorem rmay_loop {R : Type} (L0 : Nat → St → (Exit → St → Option R) → Option R) (K : KV R) (x : XV) (hs : x.2.size ≤ 1000) : ∀ (n p k : Nat), p + n = x.2.size → n < k →
    LX Try.prog G33 lv17 0 (codeOf Try.f17) k 0 ⟨[(1, .ptr 0 []), (3, .dat I64 (p : Int))], [.box 29 (.dat XT x) true]⟩ (endX Try.prog G33 lv17 Try.f17 0 L0 K 0) = K (.dat .bool (!((bytesOf x.2).drop p).any odd)) [] := by
  have hl := bytesOf_len x.2
  intro n
  induction n with
  | zero =>
    intro p k hn hk
    obtain ⟨k, rfl⟩ : ∃ q, k = q + 1 := ⟨k - 1, by omega⟩
    refine (rm_s _ L0 K x p).trans ?_
    rw [show decide ((p : Int) < (x.2.size : Int)) = false from decide_eq_false (by omega), cond_false, List.drop_of_length_le (by omega)]
    rfl
  | succ n ih =>
    intro p k hn hk
    obtain ⟨k, rfl⟩ : ∃ q, k = q + 1 := ⟨k - 1, by omega⟩
    refine (rm_s _ L0 K x p).trans ?_
    rw [show decide ((p : Int) < (x.2.size : Int)) = true from decide_eq_true (by omega), cond_true, ck_pos (by omega), getq (j := p) rfl (by omega)]
    simp only [Option.bind_some]
    rw [drop_at (show p < (bytesOf x.2).length by omega), List.any_cons]
    generalize (bytesOf x.2).getD p 0 = c
    by_cases h1 : c < 33
    · rw [decide_eq_true h1, cond_true, show odd c = true by unfold odd; rw [decide_eq_true h1]; rfl]; rfl
    rw [decide_eq_false h1, cond_false, ck_pos (by omega)]
    by_cases h2 : 126 < c
    · rw [decide_eq_true h2, cond_true, show odd c = true by unfold odd; rw [decide_eq_true h2, Bool.or_true]; rfl]; rfl
    rw [decide_eq_false h2, cond_false, ck_pos (by omega)]
    by_cases h3 : c = 59
    · rw [decide_eq_true h3, cond_true, show odd c = true by unfold odd; rw [decide_eq_true h3, Bool.or_true]]; rfl
    rw [decide_eq_false h3, cond_false, show odd c = false by unfold odd; rw [decide_eq_false h1, decide_eq_false h2, decide_eq_false h3]; rfl, Bool.false_or, wrapS (by omega)]
    exact ih (p + 1) k (by omega) (by omega)
theorem rmay_run {R : Type} (K : KV R) (x : XV) : (codeX Try.prog G33 lv17 100 Try.f17).run [.dat XT x] [] K = K (.dat .bool (mayV x)) [] := by
  refine (rm_0 _ K x).trans ?_
  unfold mayV
  by_cases h1 : x.1 < 1
  · rw [decide_eq_true h1, decide_eq_false (show ¬ 1 ≤ x.1 by omega)]; rfl
  rw [decide_eq_false h1, cond_false, decide_eq_true (show 1 ≤ x.1 by omega), Bool.true_and]
  by_cases h2 : 4 < x.1
  · rw [decide_eq_true h2, decide_eq_false (show ¬ x.1 ≤ 4 by omega)]; rfl
  rw [decide_eq_false h2, cond_false, decide_eq_true (show x.1 ≤ 4 by omega), Bool.true_and]
  by_cases h3 : (x.2.size : Int) < 1
  · rw [decide_eq_true h3, decide_eq_false (show ¬ 1 ≤ x.2.size by omega)]; rfl
  rw [decide_eq_false h3, cond_false, decide_eq_true (show 1 ≤ x.2.size by omega), Bool.true_and]
  by_cases h4 : (32 : Int) < x.2.size
  · rw [decide_eq_true h4, decide_eq_false (show ¬ x.2.size ≤ 32 by omega)]; rfl
  rw [decide_eq_false h4, cond_false, decide_eq_true (show x.2.size ≤ 32 by omega), Bool.true_and]
  have e := rmay_loop (LX Try.prog G33 lv17 0 (codeOf Try.f17) 100) K x (by omega) x.2.size 0 100 (by omega) (by omega)
  rw [List.drop_zero] at e
  exact e
theorem F17_ok : SumOk Try.prog 17 Fmay := by
  refine (codeX_ok (k := 100) (lv := lv17) mixed noNG_prog (sums_call (Wr := all) all33) (sums_prim all33) (fn := Try.f17) rfl).le Fmay_nat ?_
  intro R args ob K r h
  unfold Fmay at h; dsimp only at h
  split at h
  · obtain ⟨x, hx, h2⟩ := Option.bind_eq_some_iff.1 h
    obtain rfl := asD_ok hx
    exact (rmay_run K x).trans h2
  · cases h
/-! ### the hash -/
def step (h c : Int) : Int := IntKind.u64.wrap (bits .xor .u64 h (IntKind.u64.wrap c) * 1099511628211)
theorem step_range (h c : Int) : 0 ≤ step h c ∧ step h c < 18446744073709551616 := by
  unfold step
  rw [IntKind.wrap_u64]
  omega
theorem fold_range (l : List Int) (h : Int) (hh : 0 ≤ h ∧ h < 18446744073709551616) : 0 ≤ l.foldl step h ∧ l.foldl step h < 18446744073709551616 := by
  induction l generalizing h with
  | nil => exact hh
  | cons c l ih => exact ih _ (step_range h c)
theorem mix_loop {R : Type} (L0 : Nat → St → (Exit → St → Option R) → Option R) (K : KV R) (l : List Int) (md : Md) (hl : l.length < 100000) : ∀ (n p k : Nat) (h : Int), p + n = l.length → n < k →
    LX Try.prog G33 lv35 1 (codeOf Try.f35) k 0 ⟨[(0, .dat (.int .u64) h), (7, .view 0), (8, .dat I64 (l.length : Int)), (9, .dat I64 (p : Int))], [.row 5 U8 l md]⟩ (endX Try.prog G33 lv35 Try.f35 1 L0 K 0) = K (.dat (.int .u64) ((l.drop p).foldl step h)) [.row 5 U8 l md] := by
  intro n
  induction n with
  | zero =>
    intro p k h hn hk
    obtain ⟨k, rfl⟩ : ∃ q, k = q + 1 := ⟨k - 1, by omega⟩
    refine (mix_vs _ L0 K h l md _ p).trans ?_
    rw [show decide ((p : Int) < (l.length : Int)) = false from decide_eq_false (by omega), cond_false, List.drop_of_length_le (by omega)]
    rfl
  | succ n ih =>
    intro p k h hn hk
    obtain ⟨k, rfl⟩ : ∃ q, k = q + 1 := ⟨k - 1, by omega⟩
    refine (mix_vs _ L0 K h l md _ p).trans ?_
    rw [show decide ((p : Int) < (l.length : Int)) = true from decide_eq_true (by omega), cond_true, ck_pos (by omega), getq (j := p) rfl (by omega)]
    simp only [Option.bind_some]
    rw [drop_at (show p < l.length by omega), List.foldl_cons, wrapS (x := (p : Int) + 1) (by omega)]
    exact ih (p + 1) k _ (by omega) (by omega)
def F35 : Summ := ⟨fun args ob K => match args, ob with
  | [.dat (.int .u64) h, .view 0], [.row 5 (.int .u8) l md] => ck (l.length < 100000) (K (.dat (.int .u64) (l.foldl step h)) [.row 5 (.int .u8) l md])
  | _, _ => none⟩
theorem F35_ok : SumOk Try.prog 35 F35 := by
  refine (codeX_ok (k := 100001) (lv := lv35) mixed noNG_prog (sums_call (Wr := all) all33) (sums_prim all33) (fn := Try.f35) rfl).le ?_ ?_
  · intro R R' f args ob K
    unfold F35; dsimp only
    split <;> simp only [bd_none, bd_ck]
  · intro R args ob K r h
    unfold F35 at h; dsimp only at h
    split at h
    · rename_i hh l md
      obtain ⟨hs, h⟩ := ck_elim h
      exact ((mix_v _ K hh l md).trans (mix_loop _ K l md hs l.length 0 100001 hh (by omega) (by omega))).trans h
    · cases h
def G18 : Sums := sums all [(35, F35)]
theorem all18 : AllOk Try.prog [(35, F35)] := ⟨F35_ok, trivial⟩
theorem hash_0 {R : Type} (K : KV R) (x : XV) : (codeX Try.prog G18 lvN 0 Try.f18).run [.dat XT x] [] K = ck (ByteArray.size (Prod.snd x) ≤ limit) (ck (List.length (bytesOf (Prod.snd x)) < 100000) (K (AV.dat (T.int IntKind.u16) (IntKind.wrap IntKind.u16 (bits BinOp.xor IntKind.u64 (bits BinOp.xor IntKind.u64 (bits BinOp.xor IntKind.u64 (shr IntKind.u64 (List.foldl step (List.foldl step 14695981039346656037 [IntKind.wrap IntKind.u8 (Prod.fst x)]) (bytesOf (Prod.snd x))) 48) (shr IntKind.u64 (List.foldl step (List.foldl step 14695981039346656037 [IntKind.wrap IntKind.u8 (Prod.fst x)]) (bytesOf (Prod.snd x))) 32)) (shr IntKind.u64 (List.foldl step (List.foldl step 14695981039346656037 [IntKind.wrap IntKind.u8 (Prod.fst x)]) (bytesOf (Prod.snd x))) 16)) (List.foldl step (List.foldl step 14695981039346656037 [IntKind.wrap IntKind.u8 (Prod.fst x)]) (bytesOf (Prod.snd x)))))) [])) := by kernel_rfl
end Go.Mx
