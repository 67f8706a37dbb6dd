/- Own work. A part of the proof of a law of this seat: this seat's functions, by the machine, and the plain law -/
import Derived.Test.YtogclgfpnaocfaaMe
import Derived.Test.YtogclgfpnaocfaaWi
namespace Go.Mx
set_option linter.unusedVariables false
set_option linter.unusedSimpArgs false
open Go Go.RowKit Go.Sx Go.Proofs
set_option maxRecDepth 100000
def encV (p : PV) : Option (List Int) :=
  if p.1 = 1 then (bif pBad p.2.2.1 p.2.1 then none else some (pB p.2.2.1 p.2.1.toNat))
  else if p.1 = 2 then (bif whBad p.2.2.2.1 then none else some (pB (wholeN p.2.2.2.1) 4))
  else if p.1 = 3 then (bif decide (blE p.2.2.2.2 p.2.1 = 0) then some (pB (p.2.2.2.2.length : Int) p.2.1.toNat ++ p.2.2.2.2) else none)
  else none
def F26 : Summ := ⟨fun args ob K => match args, ob with
  | [v], [] => (asD PT v).bind fun p => ck (p.2.2.2.2.length < 500000) (optK (encV p) (K (.tup [.nils, .dat .bool false]) []) fun b => K (.tup [.view 0, .dat .bool true]) [.row 5 (.int .u8) b .own])
  | _, _ => none⟩
theorem all26 : AllOk Try.prog [(10, F10), (12, F12), (14, F14)] := ⟨F10_ok, F12_ok, F14_ok, trivial⟩
theorem put_p {R : Type} (K : KV R) (p : PV) (hl : p.2.2.2.2.length < 500000) : (codeX Try.prog G26 lvN 0 Try.f26).run [.dat PT p] [] K = optK (encV p) (K (.tup [.nils, .dat .bool false]) []) fun b => K (.tup [.view 0, .dat .bool true]) [.row 5 (.int .u8) b .own] := by
  refine (pt_0 K p).trans ?_
  unfold encV
  by_cases h1 : p.1 = 1
  · rw [if_pos h1, decide_eq_true h1, cond_true]
    cases pBad p.2.2.1 p.2.1 <;> rfl
  rw [if_neg h1, decide_eq_false h1, cond_false]
  by_cases h2 : p.1 = 2
  · rw [if_pos h2, decide_eq_true h2, cond_true]
    cases whBad p.2.2.2.1 <;> rfl
  rw [if_neg h2, decide_eq_false h2, cond_false]
  by_cases h3 : p.1 = 3
  · rw [if_pos h3, decide_eq_true h3, cond_true, ck_pos hl]
    cases decide (blE p.2.2.2.2 p.2.1 = 0) <;> rfl
  rw [if_neg h3, decide_eq_false h3, cond_false]
  rfl
theorem F26_ok : SumOk Try.prog 26 F26 := by
  refine (codeX_ok (k := 0) (lv := lvN) mixed noNG_prog (sums_call (Wr := all) all26) (sums_prim all26) (fn := Try.f26) rfl).le ?_ ?_
  · intro R R' f args ob K
    unfold F26; dsimp only
    split <;> simp only [bd_bind, bd_none, bd_ck, bd_opt]
  · intro R args ob K r h
    unfold F26 at h; dsimp only at h
    split at h
    · obtain ⟨p, hx, h2⟩ := Option.bind_eq_some_iff.1 h
      obtain rfl := asD_ok hx
      obtain ⟨hl, h3⟩ := ck_elim h2
      exact (put_p K p hl).trans h3
    · cases h
def backV (x : RV) (p : PV) : Bool × RV :=
  if p.1 = 1 then (decide (numV x p.2.1 = p.2.2.1), numS x p.2.1)
  else if p.1 = 2 then (decide (wholeV (numV x 4) = p.2.2.2.1), numS x 4)
  else (decide (strOf (blobV x p.2.1) = strOf p.2.2.2.2), blobS x p.2.1)
def F27 : Summ := ⟨fun args ob K => match args, ob with
  | [.ptr 0 [], u], [.box 59 v true] => (asD RT v).bind fun x => (asD PT u).bind fun p => ck (x.1.length < 100000) (K (.dat .bool (backV x p).1) [.box 59 (.dat RT (backV x p).2) true])
  | _, _ => none⟩
theorem all27 : AllOk Try.prog [(18, inS 18 cl F18), (20, inS 20 cl F20), (22, inS 22 cl F22)] := ⟨in_ok F18_ok, in_ok F20_ok, in_ok F22_ok, trivial⟩
theorem back_p {R : Type} (K : KV R) (x : RV) (p : PV) (hl : x.1.length < 100000) : (backS [] cl (codeX Try.prog G27 lvN 0 Try.f27)).run [.ptr 0 [], .dat PT p] [.box 59 (.dat RT x) true] K = K (.dat .bool (backV x p).1) [.box 59 (.dat RT (backV x p).2) true] := by
  refine (bk_0 K x p).trans ?_
  unfold backV
  by_cases h1 : p.1 = 1
  · rw [if_pos h1, decide_eq_true h1, cond_true, ck_pos hl]
  rw [if_neg h1, decide_eq_false h1, cond_false]
  by_cases h2 : p.1 = 2
  · rw [if_pos h2, decide_eq_true h2, cond_true, ck_pos hl]
  rw [if_neg h2, decide_eq_false h2, cond_false, ck_pos hl]
  cases hb : blobV x p.2.1 <;> rfl
theorem F27_ok : SumOk Try.prog 27 F27 := by
  refine (back_ok (ts := []) (l := cl) (codeX_ok (k := 0) (lv := lvN) mixed noNG_prog (sums_call (Wr := all) all27) (sums_prim all27) (fn := Try.f27) rfl)).le ?_ ?_
  · intro R R' f args ob K
    unfold F27; dsimp only
    split <;> simp only [bd_bind, bd_none, bd_ck]
  · intro R args ob K r h
    unfold F27 at h; dsimp only at h
    split at h
    · obtain ⟨x, hx, h2⟩ := Option.bind_eq_some_iff.1 h
      obtain rfl := asD_ok hx
      obtain ⟨p, hy, h3⟩ := Option.bind_eq_some_iff.1 h2
      obtain rfl := asD_ok hy
      obtain ⟨hl, h4⟩ := ck_elim h3
      exact (back_p K x p hl).trans h4
    · cases h
def tot : List PV → Nat
  | [] => 0
  | p :: r => p.2.2.2.2.length + tot r
def fewV (l : List PV) : Bool := decide (l.length ≤ 40 ∧ tot l ≤ 20000)
def F25 : Summ := ⟨fun args ob K => match args, ob with
  | [v], [] => (asD (.sl PT) v).bind fun l => ck (∀ p ∈ l, p.2.2.2.2.length ≤ 140737488351232) (K (.dat .bool (fewV l)) [])
  | _, _ => none⟩
theorem tot_take (l : List PV) {i : Nat} (hi : i < l.length) : tot (l.take (i + 1)) = tot (l.take i) + (l[i]).2.2.2.2.length := by
  induction l generalizing i with
  | nil => simp at hi
  | cons p r ih =>
    cases i with
    | zero => simp [tot]
    | succ i =>
      simp only [List.take_succ_cons, tot, List.getElem_cons_succ]
      rw [ih (by simpa using hi)]; omega
theorem tot_le (l : List PV) (i : Nat) : tot (l.take i) ≤ tot l := by
  induction l generalizing i with
  | nil => simp [tot]
  | cons p r ih =>
    cases i with
    | zero => simp [tot]
    | succ i => simp only [List.take_succ_cons, tot]; have := ih i; omega
theorem few_loop {R : Type} (L0 : Nat → St → (Exit → St → Option R) → Option R) (K : KV R) (l : List PV) (hp : ∀ p ∈ l, p.2.2.2.2.length ≤ 140737488351232) : ∀ (j k i : Nat), i + j = 41 → i ≤ l.length → tot (l.take i) ≤ 20000 → j < k →
    LX Try.prog G0 lv25 0 (codeOf Try.f25) k 0 ⟨[(0, .dat (.sl PT) l), (3, .dat I64 (tot (l.take i) : Int)), (4, .dat I64 (i : Int))], []⟩ (endX Try.prog G0 lv25 Try.f25 0 L0 K 0) = K (.dat .bool (fewV l)) [] := by
  intro j
  induction j with
  | zero =>
    intro k i hi hil ht hk
    obtain ⟨k, rfl⟩ : ∃ q, k = q + 1 := ⟨k - 1, by omega⟩
    refine (few_s _ L0 K l _ i).trans ?_
    have : fewV l = false := by unfold fewV; rw [decide_eq_false]; omega
    rw [show decide ((i : Int) ≤ 40) = false from decide_eq_false (by omega), show decide ((l.length : Int) ≤ 40) = false from decide_eq_false (by omega), this]
    cases decide ((i : Int) < (l.length : Int)) <;> rfl
  | succ j ih =>
    intro k i hi hil ht hk
    obtain ⟨k, rfl⟩ : ∃ q, k = q + 1 := ⟨k - 1, by omega⟩
    refine (few_s _ L0 K l _ i).trans ?_
    by_cases hlt : i < l.length
    · have hq : l[Int.toNat (i : Int)]? = some l[i] := by rw [Int.toNat_natCast]; exact List.getElem?_eq_getElem hlt
      have h1 := hp l[i] (List.getElem_mem hlt)
      have h2 := tot_take l hlt
      rw [show decide ((i : Int) < (l.length : Int)) = true from decide_eq_true (by omega), cond_true, show decide ((i : Int) ≤ 40) = true from decide_eq_true (by omega), cond_true, ck_pos (by omega), hq]
      simp only [Option.bind_some]
      rw [wrapS (x := (tot (l.take i) : Int) + _) (by omega)]
      by_cases hb : 20000 < tot (l.take (i + 1))
      · have : fewV l = false := by
          unfold fewV; rw [decide_eq_false]
          have := tot_le l (i + 1); omega
        rw [show decide ((20000 : Int) < (tot (l.take i) : Int) + ((l[i]).2.2.2.2.length : Int)) = true from decide_eq_true (by omega), cond_true, this]
      · rw [show decide ((20000 : Int) < (tot (l.take i) : Int) + ((l[i]).2.2.2.2.length : Int)) = false from decide_eq_false (by omega), cond_false, wrapS (by omega)]
        have e := ih k (i + 1) (by omega) (by omega) (by omega) (by omega)
        rw [show ((i + 1 : Nat) : Int) = (i : Int) + 1 by omega, h2, show ((tot (l.take i) + (l[i]).2.2.2.2.length : Nat) : Int) = (tot (l.take i) : Int) + ((l[i]).2.2.2.2.length : Int) by omega] at e
        exact e
    · have h1 : l.take i = l := List.take_of_length_le (by omega)
      rw [h1] at ht
      rw [show decide ((i : Int) < (l.length : Int)) = false from decide_eq_false (by omega), cond_false]
      have : fewV l = decide ((l.length : Int) ≤ 40) := by
        unfold fewV
        by_cases c : l.length ≤ 40
        · rw [decide_eq_true (by omega), decide_eq_true (by omega)]
        · rw [decide_eq_false (by omega), decide_eq_false (by omega)]
      rw [this]
theorem F25_ok : SumOk Try.prog 25 F25 := by
  refine (codeX_ok (k := 50) (lv := lv25) mixed noNG_prog (sums_call (Wr := all) (l := []) trivial) (sums_prim trivial) (fn := Try.f25) rfl).le ?_ ?_
  · intro R R' f args ob K
    unfold F25; dsimp only
    split <;> simp only [bd_bind, bd_none, bd_ck]
  · intro R args ob K r h
    unfold F25 at h; dsimp only at h
    split at h
    · obtain ⟨l, hx, h2⟩ := Option.bind_eq_some_iff.1 h
      obtain rfl := asD_ok hx
      obtain ⟨hl, h3⟩ := ck_elim h2
      exact ((few_0 _ K l).trans (few_loop _ K l hl 41 50 0 (by omega) (by omega) (by simp [tot]) (by omega))).trans h3
    · cases h
noncomputable def G6 : Sums := sums all [(25, F25), (26, F26), (16, F16), (17, argS [BL] F17), (27, inS 27 cl F27), (28, inS 28 cl F28), (29, inS 29 cl F29), (30, inS 30 cl F30), (9, F9)]
def lv6 : Tl := ⟨fun q => match q with | 0 => some [0, 3, 4] | 2 => some [0, 7, 8] | _ => none, cl⟩
def lv7 : Tl := ⟨fun q => match q with | 0 => some [0, 1, 2, 7, 8] | 2 => some [0, 2, 12, 13, 14] | _ => none, cl⟩
theorem wm_0 {R : Type} (L : Nat → St → (Exit → St → Option R) → Option R) (K : KV R) (l : List PV) : runX Try.prog G6 lv6 Try.f6 0 L [.dat (.sl PT) l] [] K = ck (∀ (p : T.den I64 × T.den (T.pair I64 (T.pair (T.int IntKind.u64) (T.pair I64 BL)))), p ∈ l → List.length (Prod.snd (Prod.snd (Prod.snd (Prod.snd p)))) ≤ 140737488351232) (bif !fewV l then K (AV.dat T.bool true) [] else L 0 (St.mk [(0, AV.dat (T.sl (T.pair (T.int IntKind.i64) (T.pair (T.int IntKind.i64) (T.pair (T.int IntKind.u64) (T.pair (T.int IntKind.i64) (T.sl (T.int IntKind.u8))))))) l), (3, AV.nils), (4, AV.dat (T.int IntKind.i64) 0)] []) (endX Try.prog G6 lv6 Try.f6 0 L K 0)) := by kernel_rfl
theorem wm_sn {R : Type} (L L0 : Nat → St → (Exit → St → Option R) → Option R) (K : KV R) (l : List PV) (i : Int) : stepX Try.prog G6 lv6 0 (codeOf Try.f6) L 0 ⟨[(0, .dat (.sl PT) l), (3, .nils), (4, .dat I64 i)], []⟩ (endX Try.prog G6 lv6 Try.f6 0 L0 K 0) = bif decide (i < (↑(List.length l) : Int)) then ck (0 ≤ i) (Option.bind l[Int.toNat i]? fun x ↦ ck (List.length (Prod.snd (Prod.snd (Prod.snd (Prod.snd x)))) < 500000) (optK (encV x) (K (AV.dat T.bool true) []) fun x ↦ ck (0 + List.length x < 1000000) (L 0 (St.mk [(0, AV.dat (T.sl (T.pair (T.int IntKind.i64) (T.pair (T.int IntKind.i64) (T.pair (T.int IntKind.u64) (T.pair (T.int IntKind.i64) (T.sl (T.int IntKind.u8))))))) l), (3, AV.view 0), (4, AV.dat (T.int IntKind.i64) (IntKind.wrap IntKind.i64 (i + 1)))] [AO.row 5 (T.int IntKind.u8) ([] ++ x) Md.own]) (endX Try.prog G6 lv6 Try.f6 0 L0 K 0)))) else L0 2 (St.mk [(0, AV.dat (T.sl (T.pair (T.int IntKind.i64) (T.pair (T.int IntKind.i64) (T.pair (T.int IntKind.u64) (T.pair (T.int IntKind.i64) (T.sl (T.int IntKind.u8))))))) l), (7, AV.ptr 0 []), (8, AV.dat (T.int IntKind.i64) 0)] [AO.box 59 (AV.dat (T.pair (T.sl (T.int IntKind.u8)) (T.pair T.bool T.bool)) (newV [])) true]) (endX Try.prog G6 lv6 Try.f6 0 L0 K 2) := by kernel_rfl
theorem wm_sv {R : Type} (L L0 : Nat → St → (Exit → St → Option R) → Option R) (K : KV R) (l : List PV) (i : Int) (a : List Int) : stepX Try.prog G6 lv6 0 (codeOf Try.f6) L 0 ⟨[(0, .dat (.sl PT) l), (3, .view 0), (4, .dat I64 i)], [.row 5 U8 a .own]⟩ (endX Try.prog G6 lv6 Try.f6 0 L0 K 0) = bif decide (i < (↑(List.length l) : Int)) then ck (0 ≤ i) (Option.bind l[Int.toNat i]? fun x ↦ ck (List.length (Prod.snd (Prod.snd (Prod.snd (Prod.snd x)))) < 500000) (optK (encV x) (K (AV.dat T.bool true) []) fun x ↦ ck (List.length a + List.length x < 1000000) (L 0 (St.mk [(0, AV.dat (T.sl (T.pair (T.int IntKind.i64) (T.pair (T.int IntKind.i64) (T.pair (T.int IntKind.u64) (T.pair (T.int IntKind.i64) (T.sl (T.int IntKind.u8))))))) l), (3, AV.view 0), (4, AV.dat (T.int IntKind.i64) (IntKind.wrap IntKind.i64 (i + 1)))] [AO.row 5 (T.int IntKind.u8) (a ++ x) Md.own]) (endX Try.prog G6 lv6 Try.f6 0 L0 K 0)))) else ck (List.length a < 1000000) (L0 2 (St.mk [(0, AV.dat (T.sl (T.pair (T.int IntKind.i64) (T.pair (T.int IntKind.i64) (T.pair (T.int IntKind.u64) (T.pair (T.int IntKind.i64) (T.sl (T.int IntKind.u8))))))) l), (7, AV.ptr 0 []), (8, AV.dat (T.int IntKind.i64) 0)] [AO.box 59 (AV.dat (T.pair (T.sl (T.int IntKind.u8)) (T.pair T.bool T.bool)) (newV a)) true]) (endX Try.prog G6 lv6 Try.f6 0 L0 K 2)) := by kernel_rfl
theorem wm_s2 {R : Type} (L L0 : Nat → St → (Exit → St → Option R) → Option R) (K : KV R) (l : List PV) (i : Int) (x : RV) : stepX Try.prog G6 lv6 0 (codeOf Try.f6) L 2 ⟨[(0, .dat (.sl PT) l), (7, .ptr 0 []), (8, .dat I64 i)], [.box 59 (.dat RT x) true]⟩ (endX Try.prog G6 lv6 Try.f6 0 L0 K 2) = bif decide (i < (↑(List.length l) : Int)) then ck (0 ≤ i) (Option.bind l[Int.toNat i]? fun x_1 ↦ ck (List.length (Prod.fst x) < 100000) (bif !Prod.fst (backV x x_1) then K (AV.dat T.bool false) [] else L 2 (St.mk [(0, AV.dat (T.sl (T.pair (T.int IntKind.i64) (T.pair (T.int IntKind.i64) (T.pair (T.int IntKind.u64) (T.pair (T.int IntKind.i64) (T.sl (T.int IntKind.u8))))))) l), (7, AV.ptr 0 []), (8, AV.dat (T.int IntKind.i64) (IntKind.wrap IntKind.i64 (i + 1)))] [AO.box 59 (AV.dat (T.pair (T.sl (T.int IntKind.u8)) (T.pair T.bool T.bool)) (Prod.snd (backV x x_1))) true]) (endX Try.prog G6 lv6 Try.f6 0 L0 K 2))) else bif decide (endV x = 0) then bif decide (leftV x = 0) then K (AV.dat T.bool true) [] else K (AV.dat T.bool false) [] else K (AV.dat T.bool false) [] := by kernel_rfl
end Go.Mx
