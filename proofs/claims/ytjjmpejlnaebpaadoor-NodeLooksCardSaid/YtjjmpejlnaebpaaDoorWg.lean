/- Own work. A part of the proof of a law of this seat: this seat's functions, by the machine, and the plain law -/
import Derived.Test.YtjjmpejlnaebpaaDoorMe
import Derived.Test.YtjjmpejlnaebpaaDoorWf
namespace Go.Mx
set_option linter.unusedVariables false
set_option linter.unusedSimpArgs false
open Go Go.RowKit Go.Sx Go.Proofs
set_option maxRecDepth 100000
theorem getN {n : NV} (hl : n.2.length = 16) {i : Int} (h : 0 ≤ i ∧ i < 16) : n.2[i.toNat]? = some (n.2.getD i.toNat (0, 0, 0, 0)) := by
  rw [List.getElem?_eq_getElem (show i.toNat < n.2.length by omega), List.getD_eq_getElem?_getD, List.getElem?_eq_getElem (show i.toNat < n.2.length by omega)]; rfl
theorem kidV_in {n : NV} {i : Int} (h : 0 ≤ i ∧ i < 16) : kidV n i = n.2.getD i.toNat (0, 0, 0, 0) := by unfold kidV; rw [(isN_iff i).2 h]; rfl
theorem kidV_out {n : NV} {i : Int} (h : i < 0 ∨ 16 ≤ i) : kidV n i = (0, 0, 0, 0) := by unfold kidV; rw [(isN_false i).2 h]; rfl
theorem withV_in {n : NV} {i : Int} {l : LV} (h : 0 ≤ i ∧ i < 16) : withV n i l = (n.1, n.2.set i.toNat l) := by unfold withV; rw [(isN_iff i).2 h]; rfl
theorem withV_out {n : NV} {i : Int} {l : LV} (h : i < 0 ∨ 16 ≤ i) : withV n i l = n := by unfold withV; rw [(isN_false i).2 h]; rfl
theorem withV_len {n : NV} {i : Int} {l : LV} : (withV n i l).2.length = n.2.length := by
  unfold withV
  cases isN i
  · rfl
  · exact List.length_set
theorem kid_run {R : Type} (K : KV R) (n : NV) (i : Int) (hl : n.2.length = 16) : (codeX Tryd.prog G33 lvN 0 Tryd.f19).run [.dat NT n, .dat I64 i] [] K = K (.dat LT (kidV n i)) [] := by
  refine (kid_0 K n i).trans ?_
  by_cases h : 0 ≤ i ∧ i < 16
  · rw [kidV_in h, decide_eq_true h.1, decide_eq_true h.2, ck_pos h, getN hl h]; rfl
  · rw [kidV_out (by omega)]
    by_cases h0 : 0 ≤ i
    · rw [decide_eq_true h0, decide_eq_false (show ¬ i < 16 by omega)]; rfl
    · rw [decide_eq_false h0]; rfl
theorem with_run {R : Type} (K : KV R) (n : NV) (i : Int) (l : LV) (hl : n.2.length = 16) : (codeX Tryd.prog G33 lvN 0 Tryd.f20).run [.dat NT n, .dat I64 i, .dat LT l] [] K = K (.dat NT (withV n i l)) [] := by
  refine (with_0 K n i l).trans ?_
  by_cases h : 0 ≤ i ∧ i < 16
  · rw [withV_in h, decide_eq_true h.1, decide_eq_true h.2, ck_pos h, getN hl h]; rfl
  · rw [withV_out (by omega)]
    by_cases h0 : 0 ≤ i
    · rw [decide_eq_true h0, decide_eq_false (show ¬ i < 16 by omega)]; rfl
    · rw [decide_eq_false h0]; rfl
theorem F19_ok : SumOk Tryd.prog 19 F19 := by
  refine (codeX_ok (k := 0) (lv := lvN) mixed noNG_prog (sums_call (Wr := all) all33) (sums_prim all33) (fn := Tryd.f19) rfl).le (fun f args ob K => by unfold F19; dsimp only; split <;> simp only [bd_none, bd_ck]) ?_
  intro R args ob K r h
  unfold F19 at h; dsimp only at h
  split at h
  · obtain ⟨hl, h2⟩ := ck_elim h
    exact (kid_run K _ _ hl).trans h2
  · cases h
theorem F20_ok : SumOk Tryd.prog 20 F20 := by
  refine (codeX_ok (k := 0) (lv := lvN) mixed noNG_prog (sums_call (Wr := all) all33) (sums_prim all33) (fn := Tryd.f20) rfl).le (fun f args ob K => by unfold F20; dsimp only; split <;> simp only [bd_none, bd_ck]) ?_
  intro R args ob K r h
  unfold F20 at h; dsimp only at h
  split at h
  · obtain ⟨hl, h2⟩ := ck_elim h
    exact (with_run K _ _ _ hl).trans h2
  · cases h
theorem all5 : AllOk Tryd.prog [(16, F16), (19, F19), (20, F20)] := ⟨F16_ok, F19_ok, F20_ok, trivial⟩
theorem kid_with_ne {n : NV} {i : Int} {l : LV} {j : Nat} (h : (j : Int) ≠ i) (hi : 0 ≤ i ∧ i < 16) (hj : j < 16) : kidV (withV n i l) j = n.2.getD j (0, 0, 0, 0) := by
  rw [kidV_in (by omega), withV_in hi]
  show ((n.2.set i.toNat l).getD (Int.toNat j) _) = _
  rw [List.getD_eq_getElem?_getD, List.getD_eq_getElem?_getD, Int.toNat_natCast, List.getElem?_set_ne (by omega)]
theorem kids_loop {R : Type} (L0 : Nat → St → (Exit → St → Option R) → Option R) (K : KV R) (nd : NV) (hl : nd.2.length = 16) (x : Int) (hx : 0 ≤ x ∧ x < 16) (l : LV) : ∀ (n i k : Nat), i + n = 16 → n < k →
    LX Tryd.prog G5 lv5k 0 (codeOf Tryd.f5) k 0 ⟨[(1, .dat I64 x), (3, .ptr 0 []), (8, .ptr 1 []), (9, .dat I64 (i : Int))], [.box 31 (.dat NT nd) true, .box 31 (.dat NT (withV nd x l)) true]⟩ (endX Tryd.prog G5 lv5k Tryd.f5 0 L0 K 0) = K (.dat .bool true) [] := by
  intro n
  induction n with
  | zero =>
    intro i k hn hk
    obtain ⟨k, rfl⟩ : ∃ q, k = q + 1 := ⟨k - 1, by omega⟩
    refine (kids_s _ L0 K nd _ x i).trans ?_
    rw [decide_eq_false (show ¬ (i : Int) < 16 by omega), cond_false]
  | succ n ih =>
    intro i k hn hk
    obtain ⟨k, rfl⟩ : ∃ q, k = q + 1 := ⟨k - 1, by omega⟩
    refine (kids_s _ L0 K nd _ x i).trans ?_
    have e := ih (i + 1) k (by omega) (by omega)
    rw [show ((i + 1 : Nat) : Int) = (i : Int) + 1 by omega] at e
    rw [decide_eq_true (show (i : Int) < 16 by omega), cond_true, wrapS (by omega)]
    by_cases h : (i : Int) = x
    · rw [decide_eq_true h, Bool.not_true, cond_false]; exact e
    · rw [decide_eq_false h, Bool.not_false, cond_true, ck_pos (by rw [withV_len]; exact hl), ck_pos (by omega), getN hl (by omega), Option.bind_some, eqB_lv, kid_with_ne h hx (by omega), Int.toNat_natCast, decide_eq_true (Eq.refl _), Bool.not_true, cond_false]
      exact e
theorem with_kid {n : NV} {i : Int} : withV n i (kidV n i) = n ∨ n.2.length ≠ 16 := by
  by_cases hl : n.2.length = 16
  · left
    by_cases h : 0 ≤ i ∧ i < 16
    · rw [withV_in h, kidV_in h, List.getD_eq_getElem?_getD, List.getElem?_eq_getElem (show i.toNat < n.2.length by omega)]
      show (n.1, n.2.set i.toNat n.2[i.toNat]) = n
      rw [List.set_getElem_self]
    · rw [withV_out (by omega)]
  · exact .inr hl
theorem kids_run {R : Type} (K : KV R) (n : NV) (hl : n.2.length = 16) (i : Int) (l : LV) : (codeX Tryd.prog G5 lv5k 17 Tryd.f5).run [.dat NT n, .dat I64 i, .dat LT l] [] K = K (.dat .bool true) [] := by
  refine (kids_0 _ K n i l).trans ?_
  rw [ck_pos hl, ck_pos hl]
  by_cases h : 0 ≤ i ∧ i < 16
  · rw [decide_eq_false (show ¬ i < 0 by omega), cond_false, decide_eq_false (show ¬ 15 < i by omega), cond_false, ck_pos h, getN hl h, Option.bind_some, eqB_lv, ← kidV_in h, decide_eq_true (Eq.refl _), Bool.not_true, cond_false, ck_pos hl]
    rw [with_kid.resolve_right (by simp [hl]), eqv_nt _ _ rfl, Option.bind_some, decide_eq_true (Eq.refl _), Bool.not_true, cond_false, ck_pos (by rw [withV_len]; exact hl), eqB_lv]
    have e1 : kidV (withV n i l) i = l := by
      rw [kidV_in h, withV_in h]
      show (n.2.set i.toNat l).getD i.toNat _ = l
      rw [List.getD_eq_getElem?_getD, List.getElem?_set_self (show i.toNat < n.2.length by omega)]; rfl
    have e2 : (withV n i l).1 = n.1 := by rw [withV_in h]
    rw [e1, e2, decide_eq_true (Eq.refl _), decide_eq_true (Eq.refl _), Bool.not_true, cond_false, cond_false]
    exact kids_loop _ K n hl i h l 16 0 17 (by omega) (by omega)
  · rw [kidV_out (by omega), withV_out (by omega), eqv_nt _ _ rfl, Option.bind_some, decide_eq_true (Eq.refl n), cond_true]
    by_cases h0 : i < 0
    · rw [decide_eq_true h0]; rfl
    · rw [decide_eq_false h0, decide_eq_true (show 15 < i by omega)]; rfl
theorem NodeKids_ok : SumOk Tryd.prog 5 (codeX Tryd.prog G5 lv5k 17 Tryd.f5) := codeX_ok mixed noNG_prog (sums_call all5) (sums_prim all5) rfl lv5k 17
theorem NodeKids_law (n : NV) (hn : (Lit.int .i64 n.1).wf = true ∧ n.2.length = 16 ∧ ∀ x ∈ n.2, (Lit.int .i64 x.1).wf = true ∧ (Lit.int .i64 x.2.1).wf = true ∧ (Lit.int .i64 x.2.2.1).wf = true ∧ (Lit.int .u64 x.2.2.2).wf = true) (i : Int) (_ : (Lit.int .i64 i).wf = true) (l : LV) (_ : (Lit.int .i64 l.1).wf = true ∧ (Lit.int .i64 l.2.1).wf = true ∧ (Lit.int .i64 l.2.2.1).wf = true ∧ (Lit.int .u64 l.2.2.2).wf = true) : (codeX Tryd.prog G5 lv5k 17 Tryd.f5).run [.dat NT n, .dat I64 i, .dat LT l] [] isTrue = some true := kids_run isTrue n hn.2.1 i l
/-! ### parts -/
def zN : NV := (0, List.replicate 16 (0, 0, 0, 0))
def partN (d a : Int) (x : LV) (b : Int) (y : LV) : NV := withV (withV (d, List.replicate 16 (0, 0, 0, 0)) a x) b y
def partB (d a : Int) (x : LV) (b : Int) (y : LV) : Bool := isN a && (isN b && (!decide (a = b) && mayN (partN d a x b y)))
def partV (d a : Int) (x : LV) (b : Int) (y : LV) : NV := bif partB d a x b y then partN d a x b y else zN
def partE (d a : Int) (x : LV) (b : Int) (y : LV) : Int := bif partB d a x b y then 0 else 2
def F17 : Summ := ⟨fun args ob K => match args, ob with
  | [.dat (.int .i64) d, .dat (.int .i64) a, .dat (.pair (.int .i64) (.pair (.int .i64) (.pair (.int .i64) (.int .u64)))) x, .dat (.int .i64) b, .dat (.pair (.int .i64) (.pair (.int .i64) (.pair (.int .i64) (.int .u64)))) y], [] => K (.tup [.dat NT (partV d a x b y), .dat I64 (partE d a x b y)]) []
  | _, _ => none⟩
theorem npart_run {R : Type} (K : KV R) (d a : Int) (x : LV) (b : Int) (y : LV) : (codeX Tryd.prog (sums all [(12, F12), (20, F20), (33, C33)]) lvN 0 Tryd.f17).run [.dat I64 d, .dat I64 a, .dat LT x, .dat I64 b, .dat LT y] [] K = K (.tup [.dat NT (partV d a x b y), .dat I64 (partE d a x b y)]) [] := by
  refine (npart_0 K d a x b y).trans ?_
  have l1 : ∀ i l, (withV (d, List.replicate 16 (0, 0, 0, 0)) i l).2.length = 16 := fun i l => by rw [withV_len]; exact List.length_replicate
  have l2 : ∀ i l j k, (withV (withV (d, List.replicate 16 (0, 0, 0, 0)) i l) j k).2.length = 16 := fun i l j k => by rw [withV_len]; exact l1 i l
  rw [ck_pos (l1 a x)]
  unfold partV partE partB
  by_cases ha : 0 ≤ a ∧ a < 16
  · rw [(isN_iff a).2 ha, decide_eq_true ha.1, decide_eq_true ha.2, cond_true, Bool.not_true, cond_false]
    by_cases hb : 0 ≤ b ∧ b < 16
    · rw [(isN_iff b).2 hb, decide_eq_true hb.1, decide_eq_true hb.2, cond_true, Bool.not_true, cond_false]
      by_cases hab : a = b
      · rw [decide_eq_true hab]; rfl
      · rw [decide_eq_false hab, cond_false, ck_pos (l2 a x b y)]
        unfold partN
        cases mayN (withV (withV (d, List.replicate 16 (0, 0, 0, 0)) a x) b y) <;> rfl
    · rw [(isN_false b).2 (by omega)]
      by_cases h0 : 0 ≤ b
      · rw [decide_eq_true h0, decide_eq_false (show ¬ b < 16 by omega)]; rfl
      · rw [decide_eq_false h0]; rfl
  · rw [(isN_false a).2 (by omega)]
    by_cases h0 : 0 ≤ a
    · rw [decide_eq_true h0, decide_eq_false (show ¬ a < 16 by omega)]; rfl
    · rw [decide_eq_false h0]; rfl
theorem nrpart_run {R : Type} (K : KV R) (d a : Int) (x : LV) (b : Int) (y : LV) : (codeX Tryd.prog (sums all [(13, F12)]) lvN 0 Tryd.f18).run [.dat I64 d, .dat I64 a, .dat LT x, .dat I64 b, .dat LT y] [] K = K (.tup [.dat NT (partV d a x b y), .dat I64 (partE d a x b y)]) [] := by
  refine (nrpart_0 K d a x b y).trans ?_
  unfold partV partE partB
  by_cases ha : 0 ≤ a ∧ a < 16
  · rw [(isN_iff a).2 ha, decide_eq_false (show ¬ a < 0 by omega), decide_eq_false (show ¬ 15 < a by omega), cond_false, cond_false]
    by_cases hb : 0 ≤ b ∧ b < 16
    · rw [(isN_iff b).2 hb, decide_eq_false (show ¬ b < 0 by omega), decide_eq_false (show ¬ 15 < b by omega), cond_false, cond_false]
      by_cases hab : a = b
      · rw [decide_eq_true hab]; rfl
      · have g1 : ∀ (l : List LV), l.length = 16 → ∀ i : Int, 0 ≤ i ∧ i < 16 → l[i.toNat]? = some (l.getD i.toNat (0, 0, 0, 0)) := fun l hl i hi => getN (n := (0, l)) hl hi
        rw [decide_eq_false hab, cond_false, ck_pos ha, g1 _ List.length_replicate a ha, Option.bind_some, ck_pos hb, g1 _ (by rw [List.length_set]; exact List.length_replicate) b hb, Option.bind_some, ck_pos (by rw [List.length_set, List.length_set]; exact List.length_replicate)]
        unfold partN
        rw [withV_in ha, withV_in hb]
        cases mayN (d, ((List.replicate 16 (0, 0, 0, 0)).set a.toNat x).set b.toNat y) <;> rfl
    · rw [(isN_false b).2 (by omega)]
      by_cases h0 : b < 0
      · rw [decide_eq_true h0]; rfl
      · rw [decide_eq_false h0, decide_eq_true (show 15 < b by omega)]; rfl
  · rw [(isN_false a).2 (by omega)]
    by_cases h0 : a < 0
    · rw [decide_eq_true h0]; rfl
    · rw [decide_eq_false h0, decide_eq_true (show 15 < a by omega)]; rfl
theorem allP : AllOk Tryd.prog [(12, F12), (20, F20), (33, C33)] := ⟨F12_ok, F20_ok, C33_ok, trivial⟩
theorem F17_ok : SumOk Tryd.prog 17 F17 := by
  refine (codeX_ok (k := 0) (lv := lvN) mixed noNG_prog (sums_call (Wr := all) allP) (sums_prim allP) (fn := Tryd.f17) rfl).le (fun f args ob K => by unfold F17; dsimp only; split <;> simp only [bd_none]) ?_
  intro R args ob K r h
  unfold F17 at h; dsimp only at h
  split at h
  · exact (npart_run K _ _ _ _ _).trans h
  · cases h
theorem F18_ok : SumOk Tryd.prog 18 F17 := by
  refine (codeX_ok (k := 0) (lv := lvN) mixed noNG_prog (sums_call (Wr := all) (l := [(13, F12)]) ⟨F13_ok, trivial⟩) (sums_prim ⟨F13_ok, trivial⟩) (fn := Tryd.f18) rfl).le (fun f args ob K => by unfold F17; dsimp only; split <;> simp only [bd_none]) ?_
  intro R args ob K r h
  unfold F17 at h; dsimp only at h
  split at h
  · exact (nrpart_run K _ _ _ _ _).trans h
  · cases h
noncomputable def G4 : Sums := sums all [(16, F16), (17, F17), (18, F17)]
theorem law4_0 {R : Type} (K : KV R) (d a : Int) (x : LV) (b : Int) (y : LV) : (codeX Tryd.prog G4 lvN 0 Tryd.f4).run [.dat I64 d, .dat I64 a, .dat LT x, .dat I64 b, .dat LT y] [] K = Option.bind (eqv NT (partV d a x b y) (partV d a x b y)) fun x_1 ↦ bif x_1 then bif decide (partE d a x b y = partE d a x b y) then K (AV.dat T.bool true) [] else K (AV.dat T.bool false) [] else K (AV.dat T.bool false) [] := by kernel_rfl
theorem all4 : AllOk Tryd.prog [(16, F16), (17, F17), (18, F17)] := ⟨F16_ok, F17_ok, F18_ok, trivial⟩
theorem law4_run {R : Type} (K : KV R) (d a : Int) (x : LV) (b : Int) (y : LV) : (codeX Tryd.prog G4 lvN 0 Tryd.f4).run [.dat I64 d, .dat I64 a, .dat LT x, .dat I64 b, .dat LT y] [] K = K (.dat .bool true) [] := by
  refine (law4_0 K d a x b y).trans ?_
  rw [eqv_nt _ _ rfl, Option.bind_some, decide_eq_true (Eq.refl _), decide_eq_true (Eq.refl _)]; rfl
theorem NodeParts_ok : SumOk Tryd.prog 4 (codeX Tryd.prog G4 lvN 0 Tryd.f4) := codeX_ok mixed noNG_prog (sums_call all4) (sums_prim all4) rfl lvN 0
theorem NodeParts_law (d : Int) (_ : (Lit.int .i64 d).wf = true) (a : Int) (_ : (Lit.int .i64 a).wf = true) (x : LV) (_ : (Lit.int .i64 x.1).wf = true ∧ (Lit.int .i64 x.2.1).wf = true ∧ (Lit.int .i64 x.2.2.1).wf = true ∧ (Lit.int .u64 x.2.2.2).wf = true) (b : Int) (_ : (Lit.int .i64 b).wf = true) (y : LV) (_ : (Lit.int .i64 y.1).wf = true ∧ (Lit.int .i64 y.2.1).wf = true ∧ (Lit.int .i64 y.2.2.1).wf = true ∧ (Lit.int .u64 y.2.2.2).wf = true) : (codeX Tryd.prog G4 lvN 0 Tryd.f4).run [.dat I64 d, .dat I64 a, .dat LT x, .dat I64 b, .dat LT y] [] isTrue = some true := law4_run isTrue d a x b y
end Go.Mx
