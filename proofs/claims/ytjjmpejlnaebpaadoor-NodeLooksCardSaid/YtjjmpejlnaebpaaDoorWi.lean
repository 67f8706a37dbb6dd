/- Own work. A part of the proof of a law of this seat: this seat's functions, by the machine, and the plain law -/
import Derived.Test.YtjjmpejlnaebpaaDoorMe
import Derived.Test.YtjjmpejlnaebpaaDoorWh
namespace Go.Mx
set_option linter.unusedVariables false
set_option linter.unusedSimpArgs false
open Go Go.RowKit Go.Sx Go.Proofs
set_option maxRecDepth 100000
/-- what some links tell -/
def gat {A : Type} (f : LV → A) (k : Int) : List LV → List A
  | [] => []
  | x :: r => bif decide (x.1 = k) then f x :: gat f k r else gat f k r
theorem gat_len {A : Type} (f : LV → A) (k : Int) : ∀ l : List LV, (gat f k l).length ≤ l.length
  | [] => Nat.le_refl _
  | x :: r => by
    rw [gat]
    have := gat_len f k r
    cases decide (x.1 = k)
    · exact Nat.le_succ_of_le this
    · exact Nat.succ_le_succ this
theorem gat_snoc {A : Type} (f : LV → A) (k : Int) (l : List LV) (x : LV) : gat f k (l ++ [x]) = gat f k l ++ (bif decide (x.1 = k) then [f x] else []) := by
  induction l with
  | nil => simp only [List.nil_append, gat]
  | cons y r ih =>
    rw [List.cons_append, gat, gat, ih]
    cases decide (y.1 = k) <;> rfl
/-- the slice gathered so far -/
def oV {A : Type} (i : Nat) : List A → AV
  | [] => .nils
  | _ :: _ => .view i
def oR {A : Type} (r : List A → AO) : List A → List AO
  | [] => []
  | x :: o => [r (x :: o)]
def rS (o : List Int) : AO := .row 23 I64 o .own
def rH (o : List (Int × Int)) : AO := .row 26 HT o .own
theorem take1 {l : List LV} {i : Nat} (h : i < l.length) : l.take (i + 1) = l.take i ++ [l.getD i (0, 0, 0, 0)] := by
  rw [List.take_add_one, List.getD_eq_getElem?_getD, List.getElem?_eq_getElem h]; rfl
theorem gk_loop {R : Type} (L0 : Nat → St → (Exit → St → Option R) → Option R) (K : KV R) (ks : List LV) (k : Int) (hl : ks.length = 16) : ∀ (n i m : Nat), i + n = 16 → n < m →
    LX Tryd.prog G34 lv34 0 (codeOf Tryd.f34) m 0 ⟨[(1, .dat I64 k), (2, .fn 35 [] []), (6, oV 0 (gat (fun x => x.2.1) k (ks.take i))), (10, .dat AT ks), (11, .dat I64 (i : Int))], oR rS (gat (fun x => x.2.1) k (ks.take i))⟩ (endX Tryd.prog G34 lv34 Tryd.f34 0 L0 K 0) = K (oV 0 (gat (fun x => x.2.1) k ks)) (oR rS (gat (fun x => x.2.1) k ks)) := by
  intro n
  induction n with
  | zero =>
    intro i m hn hm
    obtain ⟨m, rfl⟩ : ∃ q, m = q + 1 := ⟨m - 1, by omega⟩
    rw [List.take_of_length_le (by omega)]
    cases hg : gat (fun x => x.2.1) k ks with
    | nil => refine (gk_n _ L0 K ks k i).trans ?_; rw [decide_eq_false (show ¬ (i : Int) < 16 by omega), cond_false]; rfl
    | cons z zs => refine (gk_v _ L0 K ks k i (z :: zs)).trans ?_; rw [decide_eq_false (show ¬ (i : Int) < 16 by omega), cond_false]; rfl
  | succ n ih =>
    intro i m hn hm
    obtain ⟨m, rfl⟩ : ∃ q, m = q + 1 := ⟨m - 1, by omega⟩
    have e := ih (i + 1) m (by omega) (by omega)
    rw [take1 (by omega), gat_snoc, show ((i + 1 : Nat) : Int) = (i : Int) + 1 by omega] at e
    have hlen : (gat (fun x => x.2.1) k (ks.take i)).length ≤ 16 := Nat.le_trans (gat_len _ _ _) (by rw [List.length_take]; omega)
    generalize gat (fun x => x.2.1) k (ks.take i) = o at e hlen
    cases o with
    | nil =>
      refine (gk_n _ L0 K ks k i).trans ?_
      rw [decide_eq_true (show (i : Int) < 16 by omega), cond_true, ck_pos (by omega), getL (j := i) rfl (by omega), Option.bind_some, wrapS (by omega)]
      cases hd : decide ((ks.getD i (0, 0, 0, 0)).1 = k) <;> rw [hd] at e <;> exact e
    | cons z zs =>
      refine (gk_v _ L0 K ks k i (z :: zs)).trans ?_
      rw [decide_eq_true (show (i : Int) < 16 by omega), cond_true, ck_pos (by omega), getL (j := i) rfl (by omega), Option.bind_some, wrapS (by omega), ck_pos (by unfold limit; omega)]
      cases hd : decide ((ks.getD i (0, 0, 0, 0)).1 = k) <;> rw [hd] at e
      · rw [cond_false, List.append_nil] at e; exact e
      · exact e
theorem gn_loop {R : Type} (L0 : Nat → St → (Exit → St → Option R) → Option R) (K : KV R) (ks : List LV) (k : Int) (hl : ks.length = 16) : ∀ (n i m : Nat), i + n = 16 → n < m →
    LX Tryd.prog G36 lv34 0 (codeOf Tryd.f36) m 0 ⟨[(1, .dat I64 k), (2, .fn 37 [] []), (6, oV 0 (gat (fun x => x.2.2) k (ks.take i))), (10, .dat AT ks), (11, .dat I64 (i : Int))], oR rH (gat (fun x => x.2.2) k (ks.take i))⟩ (endX Tryd.prog G36 lv34 Tryd.f36 0 L0 K 0) = K (oV 0 (gat (fun x => x.2.2) k ks)) (oR rH (gat (fun x => x.2.2) k ks)) := by
  intro n
  induction n with
  | zero =>
    intro i m hn hm
    obtain ⟨m, rfl⟩ : ∃ q, m = q + 1 := ⟨m - 1, by omega⟩
    rw [List.take_of_length_le (by omega)]
    cases hg : gat (fun x => x.2.2) k ks with
    | nil => refine (gn_n _ L0 K ks k i).trans ?_; rw [decide_eq_false (show ¬ (i : Int) < 16 by omega), cond_false]; rfl
    | cons z zs => refine (gn_v _ L0 K ks k i (z :: zs)).trans ?_; rw [decide_eq_false (show ¬ (i : Int) < 16 by omega), cond_false]; rfl
  | succ n ih =>
    intro i m hn hm
    obtain ⟨m, rfl⟩ : ∃ q, m = q + 1 := ⟨m - 1, by omega⟩
    have e := ih (i + 1) m (by omega) (by omega)
    rw [take1 (by omega), gat_snoc, show ((i + 1 : Nat) : Int) = (i : Int) + 1 by omega] at e
    have hlen : (gat (fun x => x.2.2) k (ks.take i)).length ≤ 16 := Nat.le_trans (gat_len _ _ _) (by rw [List.length_take]; omega)
    generalize gat (fun x => x.2.2) k (ks.take i) = o at e hlen
    cases o with
    | nil =>
      refine (gn_n _ L0 K ks k i).trans ?_
      rw [decide_eq_true (show (i : Int) < 16 by omega), cond_true, ck_pos (by omega), getL (j := i) rfl (by omega), Option.bind_some, wrapS (by omega)]
      cases hd : decide ((ks.getD i (0, 0, 0, 0)).1 = k) <;> rw [hd] at e <;> exact e
    | cons z zs =>
      refine (gn_v _ L0 K ks k i (z :: zs)).trans ?_
      rw [decide_eq_true (show (i : Int) < 16 by omega), cond_true, ck_pos (by omega), getL (j := i) rfl (by omega), Option.bind_some, wrapS (by omega), ck_pos (by unfold limit; omega)]
      cases hd : decide ((ks.getD i (0, 0, 0, 0)).1 = k) <;> rw [hd] at e
      · rw [cond_false, List.append_nil] at e; exact e
      · exact e
theorem rk_loop {R : Type} (L0 : Nat → St → (Exit → St → Option R) → Option R) (K : KV R) (nd : NV) (hl : nd.2.length = 16) : ∀ (n i m : Nat), i + n = 16 → n < m →
    LX Tryd.prog (sums all []) lv27 0 (codeOf Tryd.f27) m 0 ⟨[(1, .ptr 0 []), (3, oV 1 (gat (fun x => x.2.1) 1 (nd.2.take i))), (4, .dat I64 (i : Int))], [.box 31 (.dat NT nd) true] ++ oR rS (gat (fun x => x.2.1) 1 (nd.2.take i))⟩ (endX Tryd.prog (sums all []) lv27 Tryd.f27 0 L0 K 0) = K (oV 0 (gat (fun x => x.2.1) 1 nd.2)) (oR rS (gat (fun x => x.2.1) 1 nd.2)) := by
  intro n
  induction n with
  | zero =>
    intro i m hn hm
    obtain ⟨m, rfl⟩ : ∃ q, m = q + 1 := ⟨m - 1, by omega⟩
    rw [List.take_of_length_le (by omega)]
    cases hg : gat (fun x => x.2.1) 1 nd.2 with
    | nil => refine (rk_n _ L0 K nd i).trans ?_; rw [decide_eq_false (show ¬ (i : Int) < 16 by omega), cond_false]; rfl
    | cons z zs => refine (rk_v _ L0 K nd i (z :: zs)).trans ?_; rw [decide_eq_false (show ¬ (i : Int) < 16 by omega), cond_false]; rfl
  | succ n ih =>
    intro i m hn hm
    obtain ⟨m, rfl⟩ : ∃ q, m = q + 1 := ⟨m - 1, by omega⟩
    have e := ih (i + 1) m (by omega) (by omega)
    rw [take1 (by omega), gat_snoc, show ((i + 1 : Nat) : Int) = (i : Int) + 1 by omega] at e
    have hlen : (gat (fun x => x.2.1) 1 (nd.2.take i)).length ≤ 16 := Nat.le_trans (gat_len _ _ _) (by rw [List.length_take]; omega)
    generalize gat (fun x => x.2.1) 1 (nd.2.take i) = o at e hlen
    cases o with
    | nil =>
      refine (rk_n _ L0 K nd i).trans ?_
      rw [decide_eq_true (show (i : Int) < 16 by omega), cond_true, ck_pos (by omega), getL (j := i) rfl (by omega), Option.bind_some, wrapS (by omega), Option.bind_some, ck_pos (by omega)]
      cases hd : decide ((nd.2.getD i (0, 0, 0, 0)).1 = 1) <;> rw [hd] at e <;> exact e
    | cons z zs =>
      refine (rk_v _ L0 K nd i (z :: zs)).trans ?_
      rw [decide_eq_true (show (i : Int) < 16 by omega), cond_true, ck_pos (by omega), getL (j := i) rfl (by omega), Option.bind_some, wrapS (by omega), Option.bind_some, ck_pos (by omega), ck_pos (by unfold limit; omega)]
      cases hd : decide ((nd.2.getD i (0, 0, 0, 0)).1 = 1) <;> rw [hd] at e
      · rw [cond_false, List.append_nil] at e; exact e
      · exact e
theorem rn_loop {R : Type} (L0 : Nat → St → (Exit → St → Option R) → Option R) (K : KV R) (nd : NV) (hl : nd.2.length = 16) : ∀ (n i m : Nat), i + n = 16 → n < m →
    LX Tryd.prog (sums all []) lv27 0 (codeOf Tryd.f28) m 0 ⟨[(1, .ptr 0 []), (3, oV 1 (gat (fun x => x.2.2) 2 (nd.2.take i))), (4, .dat I64 (i : Int))], [.box 31 (.dat NT nd) true] ++ oR rH (gat (fun x => x.2.2) 2 (nd.2.take i))⟩ (endX Tryd.prog (sums all []) lv27 Tryd.f28 0 L0 K 0) = K (oV 0 (gat (fun x => x.2.2) 2 nd.2)) (oR rH (gat (fun x => x.2.2) 2 nd.2)) := by
  intro n
  induction n with
  | zero =>
    intro i m hn hm
    obtain ⟨m, rfl⟩ : ∃ q, m = q + 1 := ⟨m - 1, by omega⟩
    rw [List.take_of_length_le (by omega)]
    cases hg : gat (fun x => x.2.2) 2 nd.2 with
    | nil => refine (rn_n _ L0 K nd i).trans ?_; rw [decide_eq_false (show ¬ (i : Int) < 16 by omega), cond_false]; rfl
    | cons z zs => refine (rn_v _ L0 K nd i (z :: zs)).trans ?_; rw [decide_eq_false (show ¬ (i : Int) < 16 by omega), cond_false]; rfl
  | succ n ih =>
    intro i m hn hm
    obtain ⟨m, rfl⟩ : ∃ q, m = q + 1 := ⟨m - 1, by omega⟩
    have e := ih (i + 1) m (by omega) (by omega)
    rw [take1 (by omega), gat_snoc, show ((i + 1 : Nat) : Int) = (i : Int) + 1 by omega] at e
    have hlen : (gat (fun x => x.2.2) 2 (nd.2.take i)).length ≤ 16 := Nat.le_trans (gat_len _ _ _) (by rw [List.length_take]; omega)
    generalize gat (fun x => x.2.2) 2 (nd.2.take i) = o at e hlen
    cases o with
    | nil =>
      refine (rn_n _ L0 K nd i).trans ?_
      rw [decide_eq_true (show (i : Int) < 16 by omega), cond_true, ck_pos (by omega), getL (j := i) rfl (by omega), Option.bind_some, wrapS (by omega), Option.bind_some, ck_pos (by omega)]
      cases hd : decide ((nd.2.getD i (0, 0, 0, 0)).1 = 2) <;> rw [hd] at e <;> exact e
    | cons z zs =>
      refine (rn_v _ L0 K nd i (z :: zs)).trans ?_
      rw [decide_eq_true (show (i : Int) < 16 by omega), cond_true, ck_pos (by omega), getL (j := i) rfl (by omega), Option.bind_some, wrapS (by omega), Option.bind_some, ck_pos (by omega), ck_pos (by unfold limit; omega)]
      cases hd : decide ((nd.2.getD i (0, 0, 0, 0)).1 = 2) <;> rw [hd] at e
      · rw [cond_false, List.append_nil] at e; exact e
      · exact e
/-- the only link -/
def firL : List LV → LV × Bool
  | [] => ((0, 0, 0, 0), false)
  | x :: r => bif decide (x.1 = 0) then firL r else (x, true)
theorem only_loop {R : Type} (L0 : Nat → St → (Exit → St → Option R) → Option R) (K : KV R) (ks : List LV) (hl : ks.length = 16) : ∀ (n i m : Nat), i + n = 16 → n < m →
    LX Tryd.prog G23 lv23 0 (codeOf Tryd.f23) m 0 ⟨[(2, .ptr 0 []), (11, .dat AT ks), (12, .dat I64 (i : Int))], [.box 28 (.dat LT (0, 0, 0, 0)) true]⟩ (endX Tryd.prog G23 lv23 Tryd.f23 0 L0 K 0) = K (.tup [.dat LT (firL (ks.drop i)).1, .dat .bool (firL (ks.drop i)).2]) [] := by
  intro n
  induction n with
  | zero =>
    intro i m hn hm
    obtain ⟨m, rfl⟩ : ∃ q, m = q + 1 := ⟨m - 1, by omega⟩
    refine (only_s _ L0 K ks i).trans ?_
    rw [decide_eq_false (show ¬ (i : Int) < 16 by omega), cond_false, List.drop_of_length_le (by omega)]; rfl
  | succ n ih =>
    intro i m hn hm
    obtain ⟨m, rfl⟩ : ∃ q, m = q + 1 := ⟨m - 1, by omega⟩
    have e := ih (i + 1) m (by omega) (by omega)
    rw [show ((i + 1 : Nat) : Int) = (i : Int) + 1 by omega] at e
    refine (only_s _ L0 K ks i).trans ?_
    rw [decide_eq_true (show (i : Int) < 16 by omega), cond_true, ck_pos (by omega), getL (j := i) rfl (by omega), Option.bind_some, wrapS (by omega), dropL (show i < ks.length by omega), firL]
    cases decide ((ks.getD i (0, 0, 0, 0)).1 = 0)
    · rfl
    · exact e
def onlyV (n : NV) : LV × Bool := bif decide (cntL n.2 0 = 1) then firL n.2 else ((0, 0, 0, 0), false)
def F23 : Summ := ⟨fun args ob K => match args, ob with
  | [.dat (.pair (.int .i64) (.arr 16 (.pair (.int .i64) (.pair (.int .i64) (.pair (.int .i64) (.int .u64)))))) n], [] => ck (List.length n.2 = 16) (K (.tup [.dat LT (onlyV n).1, .dat .bool (onlyV n).2]) [])
  | _, _ => none⟩
def F25 : Summ := ⟨fun args ob K => match args, ob with
  | [.dat (.pair (.int .i64) (.arr 16 (.pair (.int .i64) (.pair (.int .i64) (.pair (.int .i64) (.int .u64)))))) n], [] => ck (List.length n.2 = 16) (listK (gat (fun x => x.2.1) 1 n.2) (K .nils []) fun z zs => K (.view 0) [.row 23 I64 (z :: zs) .own])
  | _, _ => none⟩
def F26 : Summ := ⟨fun args ob K => match args, ob with
  | [.dat (.pair (.int .i64) (.arr 16 (.pair (.int .i64) (.pair (.int .i64) (.pair (.int .i64) (.int .u64)))))) n], [] => ck (List.length n.2 = 16) (listK (gat (fun x => x.2.2) 2 n.2) (K .nils []) fun z zs => K (.view 0) [.row 26 HT (z :: zs) .own])
  | _, _ => none⟩
theorem oK {A R : Type} (r : List A → AO) (K : KV R) (l : List A) : K (oV 0 l) (oR r l) = listK l (K .nils []) fun z zs => K (.view 0) [r (z :: zs)] := by cases l <;> rfl
theorem all23 : AllOk Tryd.prog [(24, F24)] := ⟨F24_ok, trivial⟩
theorem F23_ok : SumOk Tryd.prog 23 F23 := by
  refine (codeX_ok (k := 17) (lv := lv23) mixed noNG_prog (sums_call (Wr := all) all23) (sums_prim all23) (fn := Tryd.f23) rfl).le (fun f args ob K => by unfold F23; dsimp only; split <;> simp only [bd_none, bd_ck]) ?_
  intro R args ob K r h
  unfold F23 at h; dsimp only at h
  split at h
  · rename_i n
    obtain ⟨hl, h2⟩ := ck_elim h
    refine ((only_0 _ K n).trans ?_).trans h2
    rw [ck_pos hl]
    unfold onlyV
    cases decide (cntL n.2 0 = 1)
    · rfl
    · exact only_loop _ K n.2 hl 16 0 17 (by omega) (by omega)
  · cases h
theorem C35_ok : SumOk Tryd.prog 35 C35 := codeX_ok mixed noNG_prog (sums_call (Wr := all) (l := []) trivial) (sums_prim trivial) rfl lvN 0
theorem C37_ok : SumOk Tryd.prog 37 C37 := codeX_ok mixed noNG_prog (sums_call (Wr := all) (l := []) trivial) (sums_prim trivial) rfl lvN 0
def F34 : Summ := ⟨fun args ob K => match args, ob with
  | [.dat (.pair (.int .i64) (.arr 16 (.pair (.int .i64) (.pair (.int .i64) (.pair (.int .i64) (.int .u64)))))) n, .dat (.int .i64) k, .fn 35 [] []], [] => ck (List.length n.2 = 16) (listK (gat (fun x => x.2.1) k n.2) (K .nils []) fun z zs => K (.view 0) [.row 23 I64 (z :: zs) .own])
  | _, _ => none⟩
def F36 : Summ := ⟨fun args ob K => match args, ob with
  | [.dat (.pair (.int .i64) (.arr 16 (.pair (.int .i64) (.pair (.int .i64) (.pair (.int .i64) (.int .u64)))))) n, .dat (.int .i64) k, .fn 37 [] []], [] => ck (List.length n.2 = 16) (listK (gat (fun x => x.2.2) k n.2) (K .nils []) fun z zs => K (.view 0) [.row 26 HT (z :: zs) .own])
  | _, _ => none⟩
theorem all34 : AllOk Tryd.prog [(35, C35)] := ⟨C35_ok, trivial⟩
theorem all36 : AllOk Tryd.prog [(37, C37)] := ⟨C37_ok, trivial⟩
theorem F34_ok : SumOk Tryd.prog 34 F34 := by
  refine (codeX_ok (k := 17) (lv := lv34) mixed noNG_prog (sums_call (Wr := all) all34) (sums_prim all34) (fn := Tryd.f34) rfl).le (fun f args ob K => by unfold F34; dsimp only; split <;> simp only [bd_none, bd_ck, bd_list]) ?_
  intro R args ob K r h
  unfold F34 at h; dsimp only at h
  split at h
  · rename_i n k
    obtain ⟨hl, h2⟩ := ck_elim h
    refine (((gk_0 _ K n k).trans (gk_loop _ K n.2 k hl 16 0 17 (by omega) (by omega))).trans ?_).trans h2
    exact oK rS K _
  · cases h
theorem F36_ok : SumOk Tryd.prog 36 F36 := by
  refine (codeX_ok (k := 17) (lv := lv34) mixed noNG_prog (sums_call (Wr := all) all36) (sums_prim all36) (fn := Tryd.f36) rfl).le (fun f args ob K => by unfold F36; dsimp only; split <;> simp only [bd_none, bd_ck, bd_list]) ?_
  intro R args ob K r h
  unfold F36 at h; dsimp only at h
  split at h
  · rename_i n k
    obtain ⟨hl, h2⟩ := ck_elim h
    refine (((gn_0 _ K n k).trans (gn_loop _ K n.2 k hl 16 0 17 (by omega) (by omega))).trans ?_).trans h2
    exact oK rH K _
  · cases h
theorem F27_ok : SumOk Tryd.prog 27 F25 := by
  refine (codeX_ok (k := 17) (lv := lv27) mixed noNG_prog (sums_call (Wr := all) (l := []) trivial) (sums_prim trivial) (fn := Tryd.f27) rfl).le (fun f args ob K => by unfold F25; dsimp only; split <;> simp only [bd_none, bd_ck, bd_list]) ?_
  intro R args ob K r h
  unfold F25 at h; dsimp only at h
  split at h
  · rename_i n
    obtain ⟨hl, h2⟩ := ck_elim h
    refine (((rk_0 _ K n).trans (rk_loop _ K n hl 16 0 17 (by omega) (by omega))).trans ?_).trans h2
    exact oK rS K _
  · cases h
theorem F28_ok : SumOk Tryd.prog 28 F26 := by
  refine (codeX_ok (k := 17) (lv := lv27) mixed noNG_prog (sums_call (Wr := all) (l := []) trivial) (sums_prim trivial) (fn := Tryd.f28) rfl).le (fun f args ob K => by unfold F26; dsimp only; split <;> simp only [bd_none, bd_ck, bd_list]) ?_
  intro R args ob K r h
  unfold F26 at h; dsimp only at h
  split at h
  · rename_i n
    obtain ⟨hl, h2⟩ := ck_elim h
    refine (((rn_0 _ K n).trans (rn_loop _ K n hl 16 0 17 (by omega) (by omega))).trans ?_).trans h2
    exact oK rH K _
  · cases h
def G25 : Sums := sums all [(34, F34)]
def G26 : Sums := sums all [(36, F36)]
theorem keys_0 {R : Type} (K : KV R) (n : NV) : (codeX Tryd.prog G25 lvN 0 Tryd.f25).run [.dat NT n] [] K = ck (List.length (Prod.snd n) = (16 : Nat)) (listK (gat (fun x ↦ Prod.fst (Prod.snd x)) (1 : Int) (Prod.snd n)) (K AV.nils []) fun z zs ↦ K (AV.view (0 : Nat)) [AO.row (23 : Nat) (T.int IntKind.i64) (z :: zs) Md.own]) := by kernel_rfl
theorem nodes_0 {R : Type} (K : KV R) (n : NV) : (codeX Tryd.prog G26 lvN 0 Tryd.f26).run [.dat NT n] [] K = ck (List.length (Prod.snd n) = (16 : Nat)) (listK (gat (fun x ↦ Prod.snd (Prod.snd x)) (2 : Int) (Prod.snd n)) (K AV.nils []) fun z zs ↦ K (AV.view (0 : Nat)) [AO.row (26 : Nat) (T.pair (T.int IntKind.i64) (T.int IntKind.u64)) (z :: zs) Md.own]) := by kernel_rfl
end Go.Mx
