/- Own work. A part of the proof of a law of this seat: this seat's functions, by the machine, and the plain law -/
import Derived.Test.YtogclgfpnaocfaaWe
set_option linter.unusedSimpArgs false
set_option linter.unusedVariables false
namespace Go.Mx
open Go Go.RowKit Go.Sx Go.Proofs
set_option maxRecDepth 100000
section
variable {R : Type} (L0 : Nat → St → (Exit → St → Option R) → Option R) (K : KV R) (l : List PV)
theorem in_loop (L1 : Nat → St → (Exit → St → Option R) → Option R) (x : RV) (y : QV) (i : Int) (hs : sameV x y = true) : ∀ (j k : Nat) (q : Nat) (z : List Int), q + j = z.length → z.length < 1000000 → j < k →
    LX Try.prog G5 lv5 0 (codeOf Try.f5) k 4 ⟨[(1, .dat (.sl PT) l), (6, .ptr 0 []), (7, .ptr 1 []), (9, .dat I64 i), (10, .view 2), (11, .dat I64 (q : Int))], [.box 59 (.dat RT x) true, .box 43 (.dat QT y) true, .row 5 U8 z .own]⟩ (contX Try.prog G5 lv5 0 (codeOf Try.f5) L1 2 (bodyOf Try.f5 1) (roundK 0 lv5 L1 2 (endX Try.prog G5 lv5 Try.f5 0 L0 K 2)) 2)
      = L1 2 ⟨[(1, .dat (.sl PT) l), (6, .ptr 0 []), (7, .ptr 1 []), (9, .dat I64 (IntKind.i64.wrap (i + 1)))], [.box 59 (.dat RT x) true, .box 43 (.dat QT y) true]⟩ (endX Try.prog G5 lv5 Try.f5 0 L0 K 2) := by
  intro j
  induction j with
  | zero =>
    intro k q z hz hz2 hk
    obtain ⟨k, rfl⟩ : ∃ q, k = q + 1 := ⟨k - 1, by omega⟩
    refine (law_s4c _ L1 L0 K l x y i q z).trans ?_
    rw [show decide ((q : Int) < (z.length : Int)) = false from decide_eq_false (by omega), cond_false, hs, Bool.not_true, cond_false]
  | succ j ih =>
    intro k q z hz hz2 hk
    obtain ⟨k, rfl⟩ : ∃ q, k = q + 1 := ⟨k - 1, by omega⟩
    refine (law_s4c _ L1 L0 K l x y i q z).trans ?_
    rw [show decide ((q : Int) < (z.length : Int)) = true from decide_eq_true (by omega), cond_true, ck_pos (by omega), getq (j := q) rfl (by omega)]
    simp only [Option.bind_some]
    rw [ck_pos (by omega), wrapS (by omega)]
    have e := ih k (q + 1) (z.set (Int.toNat q) (IntKind.u8.wrap (z.getD q 0 + 1))) (by rw [List.length_set]; omega) (by rw [List.length_set]; omega) (by omega)
    rw [show ((q + 1 : Nat) : Int) = (q : Int) + 1 by omega] at e
    exact e
theorem nil_loop (L1 : Nat → St → (Exit → St → Option R) → Option R) (x : RV) (y : QV) (i : Int) (hs : sameV x y = true) (k : Nat) (hk : 0 < k) :
    LX Try.prog G5 lv5 0 (codeOf Try.f5) k 4 ⟨[(1, .dat (.sl PT) l), (6, .ptr 0 []), (7, .ptr 1 []), (9, .dat I64 i), (10, .dat BL []), (11, .dat I64 0)], [.box 59 (.dat RT x) true, .box 43 (.dat QT y) true]⟩ (contX Try.prog G5 lv5 0 (codeOf Try.f5) L1 2 (bodyOf Try.f5 1) (roundK 0 lv5 L1 2 (endX Try.prog G5 lv5 Try.f5 0 L0 K 2)) 2)
      = L1 2 ⟨[(1, .dat (.sl PT) l), (6, .ptr 0 []), (7, .ptr 1 []), (9, .dat I64 (IntKind.i64.wrap (i + 1)))], [.box 59 (.dat RT x) true, .box 43 (.dat QT y) true]⟩ (endX Try.prog G5 lv5 Try.f5 0 L0 K 2) := by
  obtain ⟨k, rfl⟩ : ∃ q, k = q + 1 := ⟨k - 1, by omega⟩
  refine (law_s4n _ L1 L0 K l x y i).trans ?_
  rw [hs, Bool.not_true, cond_false]
theorem getp {i : Nat} (h : i < l.length) : ∃ p, l[Int.toNat (i : Int)]? = some p := ⟨l[i], by rw [Int.toNat_natCast]; exact List.getElem?_eq_getElem h⟩
set_option maxHeartbeats 2000000 in
theorem main_loop (hl : l.length ≤ 40) : ∀ (j k : Nat) (i : Nat) (x : RV) (y : QV), i + j = l.length → Sim x y → j + 100002 < k →
    LX Try.prog G5 lv5 0 (codeOf Try.f5) k 2 ⟨[(1, .dat (.sl PT) l), (6, .ptr 0 []), (7, .ptr 1 []), (9, .dat I64 (i : Int))], [.box 59 (.dat RT x) true, .box 43 (.dat QT y) true]⟩ (endX Try.prog G5 lv5 Try.f5 0 L0 K 2) = K (.dat .bool true) [] := by
  intro j
  induction j with
  | zero =>
    intro k i x y hi hs hk
    obtain ⟨k, rfl⟩ : ∃ q, k = q + 1 := ⟨k - 1, by omega⟩
    refine (law_s2 _ L0 K l x y i).trans ?_
    rw [show decide ((i : Int) < (l.length : Int)) = false from decide_eq_false (by omega), cond_false]
  | succ j ih =>
    intro k i x y hi hs hk
    obtain ⟨k, rfl⟩ : ∃ q, k = q + 1 := ⟨k - 1, by omega⟩
    refine (law_s2 _ L0 K l x y i).trans ?_
    obtain ⟨p, hp⟩ := getp l (i := i) (by omega)
    have next : ∀ x' y', Sim x' y' → LX Try.prog G5 lv5 0 (codeOf Try.f5) k 2 ⟨[(1, .dat (.sl PT) l), (6, .ptr 0 []), (7, .ptr 1 []), (9, .dat I64 (IntKind.i64.wrap ((i : Int) + 1)))], [.box 59 (.dat RT x') true, .box 43 (.dat QT y') true]⟩ (endX Try.prog G5 lv5 Try.f5 0 L0 K 2) = K (.dat .bool true) [] := by
      intro x' y' h'
      have e := ih k (i + 1) x' y' (by omega) h' (by omega)
      rw [show ((i + 1 : Nat) : Int) = (i : Int) + 1 by omega] at e
      rw [wrapS (by omega)]
      exact e
    rw [show decide ((i : Int) < (l.length : Int)) = true from decide_eq_true (by omega), cond_true, ck_pos (by omega), hp]
    simp only [Option.bind_some]
    by_cases c1 : Prod.fst p = 1
    · obtain ⟨e1, e2, _⟩ := sim_num hs (Prod.fst (Prod.snd p))
      rw [show decide (Prod.fst p = 1) = true from decide_eq_true c1, cond_true, ck_pos (by omega), ck_pos hs.len, ck_pos (by omega), show (!decide (numV x (Prod.fst (Prod.snd p)) = rnumV y (Prod.fst (Prod.snd p)))) = false by simp [e1], cond_false, sim_same e2, Bool.not_true, cond_false]
      exact next _ _ e2
    rw [show decide (Prod.fst p = 1) = false from decide_eq_false c1, cond_false]
    by_cases c2 : Prod.fst p = 2
    · obtain ⟨e1, e2, _⟩ := sim_num hs 4
      rw [show decide (Prod.fst p = 2) = true from decide_eq_true c2, cond_true, ck_pos hs.len, show (!decide (wholeV (numV x 4) = rwholeV (rnumV y 4))) = false by simp [sim_whole hs], cond_false, sim_same e2, Bool.not_true, cond_false]
      exact next _ _ e2
    rw [show decide (Prod.fst p = 2) = false from decide_eq_false c2, cond_false]
    by_cases c3 : Prod.fst p = 3
    · obtain ⟨e1, e2, e3⟩ := sim_blob hs (Prod.fst (Prod.snd p))
      rw [show decide (Prod.fst p = 3) = true from decide_eq_true c3, cond_true, ck_pos (by omega), ck_pos hs.len]
      have hlen : y.1.length < 100000 := by rw [← hs.rest]; exact hs.len
      have hbl := blobV_len x (Prod.fst (Prod.snd p))
      cases hb : blobV x (Prod.fst (Prod.snd p)) with
      | nil =>
        show ck _ _ = _
        rw [ck_pos (by omega), ck_pos ⟨hlen, e1⟩]
        have fin : LX Try.prog G5 lv5 0 (codeOf Try.f5) k 4 ⟨[(1, .dat (.sl PT) l), (6, .ptr 0 []), (7, .ptr 1 []), (9, .dat I64 (i : Int)), (10, .dat BL []), (11, .dat I64 0)], [.box 59 (.dat RT (blobS x (Prod.fst (Prod.snd p)))) true, .box 43 (.dat QT (rblobS y (Prod.fst (Prod.snd p)))) true]⟩ (contX Try.prog G5 lv5 0 (codeOf Try.f5) (LX Try.prog G5 lv5 0 (codeOf Try.f5) k) 2 (bodyOf Try.f5 1) (roundK 0 lv5 (LX Try.prog G5 lv5 0 (codeOf Try.f5) k) 2 (endX Try.prog G5 lv5 Try.f5 0 L0 K 2)) 2) = K (.dat .bool true) [] := by
          exact (nil_loop L0 K l _ _ _ i (sim_same e2) k (by omega)).trans (next _ _ e2)
        cases hr : rbBad y (Prod.fst (Prod.snd p)) with
        | true => rw [cond_true]; exact fin
        | false =>
          rw [hb, hr, if_neg (by simp)] at e3
          rw [cond_false, ← e3, show (!decide (strOf ([] : List Int) = strOf [])) = false by simp, cond_false]
          exact fin
      | cons z zs =>
        show ck _ _ = _
        rw [ck_pos (by omega), ck_pos ⟨hlen, e1⟩]
        have hr : rbBad y (Prod.fst (Prod.snd p)) = false := by
          cases hr : rbBad y (Prod.fst (Prod.snd p)) with
          | false => rfl
          | true => rw [hb, hr, if_pos rfl] at e3; cases e3
        rw [hb, hr, if_neg (by simp)] at e3
        rw [hr, cond_false, ← e3, show (!decide (strOf (z :: zs) = strOf (z :: zs))) = false by simp, cond_false]
        rw [hb] at hbl
        have hx := hs.len
        refine (in_loop L0 K l _ _ _ i (sim_same e2) (z :: zs).length k 0 (z :: zs) (by omega) (by omega) (by omega)).trans ?_
        exact next _ _ e2
    rw [show decide (Prod.fst p = 3) = false from decide_eq_false c3, cond_false, sim_same hs, Bool.not_true, cond_false]
    exact next _ _ hs
theorem own_loop (hl : l.length ≤ 40) : ∀ (j k : Nat) (i : Nat) (own : List Int) (x : RV) (y : QV), i + j = own.length → own.length ≤ 3000 → Sim x y → j < k →
    LX Try.prog G5 lv5 0 (codeOf Try.f5) k 0 ⟨[(1, .dat (.sl PT) l), (5, .view 0), (6, .ptr 1 []), (7, .ptr 2 []), (8, .dat I64 (i : Int))], [.row 5 U8 own .own, .box 59 (.dat RT x) true, .box 43 (.dat QT y) true]⟩ (endX Try.prog G5 lv5 Try.f5 0 (LX Try.prog G5 lv5 0 (codeOf Try.f5) 200000) K 0) = K (.dat .bool true) [] := by
  intro j
  induction j with
  | zero =>
    intro k i own x y hi ho hs hk
    obtain ⟨k, rfl⟩ : ∃ q, k = q + 1 := ⟨k - 1, by omega⟩
    refine (law_s0 _ _ K l own x y i).trans ?_
    rw [show decide ((i : Int) < (own.length : Int)) = false from decide_eq_false (by omega), cond_false]
    exact main_loop _ K l hl l.length 200000 0 x y (by omega) hs (by omega)
  | succ j ih =>
    intro k i own x y hi ho hs hk
    obtain ⟨k, rfl⟩ : ∃ q, k = q + 1 := ⟨k - 1, by omega⟩
    refine (law_s0 _ _ K l own x y i).trans ?_
    rw [show decide ((i : Int) < (own.length : Int)) = true from decide_eq_true (by omega), cond_true, ck_pos (by omega), getq (j := i) rfl (by omega)]
    simp only [Option.bind_some]
    rw [ck_pos (by omega), wrapS (by omega)]
    have e := ih k (i + 1) (own.set (Int.toNat i) (IntKind.u8.wrap (own.getD i 0 + 1))) x y (by rw [List.length_set]; omega) (by rw [List.length_set]; omega) hs (by omega)
    rw [show ((i + 1 : Nat) : Int) = (i : Int) + 1 by omega] at e
    exact e
end
theorem reads_true {R : Type} (K : KV R) (b : List Int) (l : List PV) (hb : Bytes b) : (codeX Try.prog G5 lv5 200000 Try.f5).run [.dat BL b, .dat (.sl PT) l] [] K = K (.dat .bool true) [] := by
  refine (law_0 _ K b l).trans ?_
  by_cases h1 : (3000 : Int) < (b.length : Int)
  · rw [decide_eq_true h1, cond_true]
  rw [decide_eq_false h1, cond_false]
  by_cases h2 : (40 : Int) < (l.length : Int)
  · rw [decide_eq_true h2, cond_true]
  rw [decide_eq_false h2, cond_false, ck_pos (by unfold limit; omega), ck_pos (by omega), ck_pos (by unfold limit; omega)]
  exact own_loop K l (by omega) b.length 200000 0 b (newV b) (b, false) (by omega) (by omega) ⟨rfl, rfl, rfl, hb, by show b.length < 100000; omega, fun h => by cases h⟩ (by omega)
theorem all5 : AllOk Try.prog [(17, F17), (18, inS 18 cl F18), (19, inS 19 cl F19), (20, inS 20 cl F20), (21, inS 21 cl F21), (22, inS 22 cl F22), (23, inS 23 cl F23), (24, inS 24 cl F24), (9, F9)] := ⟨F17_ok, in_ok F18_ok, in_ok F19_ok, in_ok F20_ok, in_ok F21_ok, in_ok F22_ok, in_ok F23_ok, in_ok F24_ok, F9_ok, trivial⟩
theorem WireReads_ok : SumOk Try.prog 5 (codeX Try.prog G5 lv5 200000 Try.f5) := codeX_ok mixed noNG_prog (sums_call all5) (sums_prim all5) rfl lv5 200000
theorem WireReads_law (b : List Int) (hb : b.length ≤ 140737488351232 ∧ ∀ x ∈ b, (Lit.int .u8 x).wf = true) (l : List PV) (_ : l.length ≤ 140737488351232 ∧ ∀ x ∈ l, (Lit.int .i64 x.1).wf = true ∧ (Lit.int .i64 x.2.1).wf = true ∧ (Lit.int .u64 x.2.2.1).wf = true ∧ (Lit.int .i64 x.2.2.2.1).wf = true ∧ x.2.2.2.2.length ≤ 140737488351232 ∧ ∀ y ∈ x.2.2.2.2, (Lit.int .u8 y).wf = true) : (codeX Try.prog G5 lv5 200000 Try.f5).run [.dat BL b, .dat (.sl PT) l] [] isTrue = some true :=
  reads_true isTrue b l (fun x hx => wf8 (hb.2 x hx))
end Go.Mx
