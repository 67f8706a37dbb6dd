/- Own work. A part of the proof of a law of this seat: this seat's functions, by the machine, and the plain law -/
import Derived.Test.YtjjmpejlnaebpaaDoorMe
import Derived.Test.YtjjmpejlnaebpaaDoorWc
namespace Go.Mx
set_option linter.unusedVariables false
set_option linter.unusedSimpArgs false
open Go Go.RowKit Go.Sx Go.Proofs
set_option maxRecDepth 100000
theorem may_s {R : Type} (L L0 : Nat → St → (Exit → St → Option R) → Option R) (K : KV R) (n : NV) (ks : List LV) (i : Int) : stepX Tryd.prog H12 lv12 0 (codeOf Tryd.f12) L 0 ⟨[(1, .ptr 0 []), (6, .dat AT ks), (7, .dat I64 i)], [.box 31 (.dat NT n) true]⟩ (endX Tryd.prog H12 lv12 Tryd.f12 0 L0 K 0) = bif decide (i < (16 : Int)) then ck ((0 : Int) ≤ i ∧ i < (16 : Int)) (Option.bind ks[Int.toNat i]? fun x ↦ bif !mayL x then K (AV.dat T.bool false) [] else L (0 : Nat) (St.mk [((1 : Nat), AV.ptr (0 : Nat) []), ((6 : Nat), AV.dat (T.arr (16 : Nat) (T.pair (T.int IntKind.i64) (T.pair (T.int IntKind.i64) (T.pair (T.int IntKind.i64) (T.int IntKind.u64))))) ks), ((7 : Nat), AV.dat (T.int IntKind.i64) (IntKind.wrap IntKind.i64 (i + (1 : Int))))] [AO.box (31 : Nat) (AV.dat (T.pair (T.int IntKind.i64) (T.arr (16 : Nat) (T.pair (T.int IntKind.i64) (T.pair (T.int IntKind.i64) (T.pair (T.int IntKind.i64) (T.int IntKind.u64)))))) n) true]) (endX Tryd.prog H12 lv12 Tryd.f12 (0 : Nat) L0 K (0 : Nat))) else bif decide ((0 : Int) ≤ Prod.fst n) then bif decide (Prod.fst n < (71 : Int)) then ck (List.length (Prod.snd n) = (16 : Nat)) (K (AV.dat T.bool (decide ((2 : Int) ≤ cntL (Prod.snd n) (0 : Int)))) []) else K (AV.dat T.bool false) [] else K (AV.dat T.bool false) [] := by kernel_rfl
theorem rmay_s {R : Type} (L L0 : Nat → St → (Exit → St → Option R) → Option R) (K : KV R) (n : NV) (i : Int) : stepX Tryd.prog H13 lv13 0 (codeOf Tryd.f13) L 0 ⟨[(1, .ptr 0 []), (3, .dat I64 i)], [.box 31 (.dat NT n) true]⟩ (endX Tryd.prog H13 lv13 Tryd.f13 0 L0 K 0) = bif decide (i < (16 : Int)) then ck ((0 : Int) ≤ i ∧ i < (16 : Int)) (Option.bind (Prod.snd n)[Int.toNat i]? fun x ↦ bif !mayL x then K (AV.dat T.bool false) [] else L (0 : Nat) (St.mk [((1 : Nat), AV.ptr (0 : Nat) []), ((3 : Nat), AV.dat (T.int IntKind.i64) (IntKind.wrap IntKind.i64 (i + (1 : Int))))] [AO.box (31 : Nat) (AV.dat (T.pair (T.int IntKind.i64) (T.arr (16 : Nat) (T.pair (T.int IntKind.i64) (T.pair (T.int IntKind.i64) (T.pair (T.int IntKind.i64) (T.int IntKind.u64)))))) n) true]) (endX Tryd.prog H13 lv13 Tryd.f13 (0 : Nat) L0 K (0 : Nat))) else bif decide ((0 : Int) ≤ Prod.fst n) then bif decide (Prod.fst n ≤ (70 : Int)) then ck (List.length (Prod.snd n) = (16 : Nat)) (K (AV.dat T.bool (decide ((2 : Int) ≤ cntL (Prod.snd n) (0 : Int)))) []) else K (AV.dat T.bool false) [] else K (AV.dat T.bool false) [] := by kernel_rfl
def mayN (n : NV) : Bool := n.2.all mayL && (decide (0 ≤ n.1) && (decide (n.1 < 71) && decide (2 ≤ cntL n.2 0)))
def F12 : Summ := ⟨fun args ob K => match args, ob with
  | [.dat (.pair (.int .i64) (.arr 16 (.pair (.int .i64) (.pair (.int .i64) (.pair (.int .i64) (.int .u64)))))) n], [] => ck (List.length n.2 = 16) (K (.dat .bool (mayN n)) [])
  | _, _ => none⟩
noncomputable def H3 : Sums := sums all [(10, F10), (11, F10), (12, F12), (13, F12), (14, C14), (15, C15), (16, F16)]
theorem law3_0 {R : Type} (K : KV R) (l : LV) (n : NV) (s : Int) (h : Int × Int) : (codeX Tryd.prog H3 lvN 0 Tryd.f3).run [.dat LT l, .dat NT n, .dat I64 s, .dat HT h] [] K = bif mayL l == mayL l then ck (List.length (Prod.snd n) = (16 : Nat)) (ck (List.length (Prod.snd n) = (16 : Nat)) (bif mayN n == mayN n then bif decide ((1 : Int) = (1 : Int)) && (decide (s = s) && (decide ((0 : Int) = (0 : Int)) && decide ((0 : Int) = (0 : Int)))) then bif decide ((2 : Int) = (2 : Int)) && (decide ((0 : Int) = (0 : Int)) && (decide (Prod.fst h = Prod.fst h) && decide (Prod.snd h = Prod.snd h))) then K (AV.dat T.bool true) [] else K (AV.dat T.bool false) [] else K (AV.dat T.bool false) [] else K (AV.dat T.bool false) [])) else K (AV.dat T.bool false) [] := by kernel_rfl
theorem ml_run {R : Type} (K : KV R) (l : LV) : C10.run [.dat LT l] [] K = K (.dat .bool (mayL l)) [] := by
  refine (ml_0 K l).trans ?_
  obtain ⟨a, b, c, d⟩ := l
  unfold mayL
  dsimp only
  by_cases h0 : a = 0
  · subst h0
    by_cases hb : b = 0 <;> by_cases hc : c = 0 <;> by_cases hd : d = 0 <;> simp [hb, hc, hd]
  by_cases h1 : a = 1
  · subst h1
    by_cases hb : 1 ≤ b <;> by_cases hb2 : b ≤ 1073741824 <;> by_cases hc : c = 0 <;> by_cases hd : d = 0 <;> simp [hb, hb2, hc, hd]
  by_cases h2 : a = 2
  · subst h2
    by_cases hb : b = 0 <;> by_cases hc : 0 ≤ c <;> by_cases hd : 1 ≤ d <;> simp [hb, hc, show (0 < d) ↔ 1 ≤ d from Iff.rfl, hd]
  · simp [h0, h1, h2]
theorem rml_run {R : Type} (K : KV R) (l : LV) : C11.run [.dat LT l] [] K = K (.dat .bool (mayL l)) [] := by
  refine (rml_0 K l).trans ?_
  obtain ⟨a, b, c, d⟩ := l
  unfold mayL
  dsimp only
  by_cases h0 : a = 0
  · subst h0
    by_cases hb : b = 0 <;> by_cases hc : c = 0 <;> by_cases hd : d = 0 <;> simp [hb, hc, hd]
  by_cases h1 : a = 1
  · subst h1
    by_cases hb : 1 ≤ b <;> by_cases hb2 : b ≤ 1073741824 <;> by_cases hc : c = 0 <;> by_cases hd : d = 0 <;> simp [hb, hb2, hc, hd]
  by_cases h2 : a = 2
  · subst h2
    by_cases hb : b = 0 <;> by_cases hc : 0 ≤ c <;> by_cases hd : 0 < d <;> simp [hb, hc, hd]
  · simp [h0, h1, h2]
theorem F10_ok : SumOk Tryd.prog 10 F10 := by
  refine (codeX_ok (k := 0) (lv := lvN) mixed noNG_prog (sums_call (Wr := all) (l := [(14, C14), (15, C15)]) ⟨codeX_ok mixed noNG_prog (sums_call (Wr := all) (l := []) trivial) (sums_prim trivial) rfl lvN 0, codeX_ok mixed noNG_prog (sums_call (Wr := all) (l := []) trivial) (sums_prim trivial) rfl lvN 0, trivial⟩) (sums_prim ⟨codeX_ok mixed noNG_prog (sums_call (Wr := all) (l := []) trivial) (sums_prim trivial) rfl lvN 0, codeX_ok mixed noNG_prog (sums_call (Wr := all) (l := []) trivial) (sums_prim trivial) rfl lvN 0, trivial⟩) (fn := Tryd.f10) rfl).le (fun f args ob K => by unfold F10; dsimp only; split <;> simp only [bd_none]) ?_
  intro R args ob K r h
  unfold F10 at h; dsimp only at h
  split at h
  · exact (ml_run K _).trans h
  · cases h
theorem F11_ok : SumOk Tryd.prog 11 F10 := by
  refine (codeX_ok (k := 0) (lv := lvN) mixed noNG_prog (sums_call (Wr := all) (l := []) trivial) (sums_prim trivial) (fn := Tryd.f11) rfl).le (fun f args ob K => by unfold F10; dsimp only; split <;> simp only [bd_none]) ?_
  intro R args ob K r h
  unfold F10 at h; dsimp only at h
  split at h
  · exact (rml_run K _).trans h
  · cases h
end Go.Mx
