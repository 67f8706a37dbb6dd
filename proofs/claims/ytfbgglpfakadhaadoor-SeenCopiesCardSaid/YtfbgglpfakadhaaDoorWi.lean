/- Own work. A part of the proof of a law of this seat: this seat's functions, by the machine, and the plain law -/
import Derived.Test.YtfbgglpfakadhaaDoorWh
/- What a set answers: All, Len, Broken, Of; are two lists equal. -/
namespace Go.Mx
open Go Go.RowKit Go.Sx Go.Proofs
set_option linter.unusedVariables false
set_option linter.unusedSimpArgs false
set_option maxRecDepth 100000
def lv37 : Tl := ⟨fun q => match q with | 0 => some [0, 1, 12, 13] | _ => none, []⟩
theorem brk_0 {R : Type} (K : KV R) (b : Bool) : (W 12).run [.ptr 0 []] [.box 54 (.pr .nils (.pr .nilm (.dat .bool b))) true] K = K (AV.dat T.bool b) [AO.box (54 : Nat) (AV.pr AV.nils (AV.pr AV.nilm (AV.dat T.bool b))) true] := by kernel_rfl
theorem brk_1 {R : Type} (K : KV R) (b : Bool) (z : SV) (zs : List SV) (es : List (ThT.den × Int)) : (W 12).run [.ptr 0 []] [.box 54 (.pr (.view 1) (.pr (.mp 2) (.dat .bool b))) true, .row 36 ST (z :: zs) .own, .map ThT I64 es true] K = K (AV.dat T.bool b) [AO.box (54 : Nat) (AV.pr (AV.view (1 : Nat)) (AV.pr (AV.mp (2 : Nat)) (AV.dat T.bool b))) true, AO.row (36 : Nat) (T.pair (T.int IntKind.i64) (T.pair (T.int IntKind.i64) (T.pair (T.int IntKind.i64) (T.pair T.bool (T.pair (T.int IntKind.i64) (T.pair (T.int IntKind.u64) (T.int IntKind.i64))))))) (z :: zs) Md.own, AO.map (T.pair (T.int IntKind.i64) (T.pair (T.int IntKind.i64) (T.int IntKind.i64))) (T.int IntKind.i64) es true] := by kernel_rfl
theorem of_0 {R : Type} (K : KV R) (x : SV) (b : Bool) : (W 17).run [.ptr 0 [], .dat ST x] [.box 54 (.pr .nils (.pr .nilm (.dat .bool b))) true] K = K (AV.tup [AV.dat (T.pair (T.int IntKind.i64) (T.pair (T.int IntKind.i64) (T.pair (T.int IntKind.i64) (T.pair T.bool (T.pair (T.int IntKind.i64) (T.pair (T.int IntKind.u64) (T.int IntKind.i64))))))) ((0 : Int), (0 : Int), (0 : Int), false, (0 : Int), (0 : Int), (0 : Int)), AV.dat T.bool false]) [AO.box (54 : Nat) (AV.pr AV.nils (AV.pr AV.nilm (AV.dat T.bool b))) true] := by kernel_rfl
theorem of_1 {R : Type} (K : KV R) (x z : SV) (b : Bool) (zs : List SV) (es : List (ThT.den × Int)) : (W 17).run [.ptr 0 [], .dat ST x] [.box 54 (.pr (.view 1) (.pr (.mp 2) (.dat .bool b))) true, .row 36 ST (z :: zs) .own, .map ThT I64 es true] K = bif !hasM ThT (Prod.fst x, Prod.fst (Prod.snd x), Prod.fst (Prod.snd (Prod.snd x))) es then K (AV.tup [AV.dat (T.pair (T.int IntKind.i64) (T.pair (T.int IntKind.i64) (T.pair (T.int IntKind.i64) (T.pair T.bool (T.pair (T.int IntKind.i64) (T.pair (T.int IntKind.u64) (T.int IntKind.i64))))))) ((0 : Int), (0 : Int), (0 : Int), false, (0 : Int), (0 : Int), (0 : Int)), AV.dat T.bool false]) [AO.box (54 : Nat) (AV.pr (AV.view (1 : Nat)) (AV.pr (AV.mp (2 : Nat)) (AV.dat T.bool b))) true, AO.row (36 : Nat) (T.pair (T.int IntKind.i64) (T.pair (T.int IntKind.i64) (T.pair (T.int IntKind.i64) (T.pair T.bool (T.pair (T.int IntKind.i64) (T.pair (T.int IntKind.u64) (T.int IntKind.i64))))))) (z :: zs) Md.own, AO.map (T.pair (T.int IntKind.i64) (T.pair (T.int IntKind.i64) (T.int IntKind.i64))) (T.int IntKind.i64) es true] else ck ((0 : Int) ≤ getM ThT (Prod.fst x, Prod.fst (Prod.snd x), Prod.fst (Prod.snd (Prod.snd x))) (0 : Int) es ∧ getM ThT (Prod.fst x, Prod.fst (Prod.snd x), Prod.fst (Prod.snd (Prod.snd x))) (0 : Int) es < (↑(List.length (z :: zs)) : Int)) (Option.bind (z :: zs)[Int.toNat (getM ThT (Prod.fst x, Prod.fst (Prod.snd x), Prod.fst (Prod.snd (Prod.snd x))) (0 : Int) es)]? fun x ↦ K (AV.tup [AV.dat (T.pair (T.int IntKind.i64) (T.pair (T.int IntKind.i64) (T.pair (T.int IntKind.i64) (T.pair T.bool (T.pair (T.int IntKind.i64) (T.pair (T.int IntKind.u64) (T.int IntKind.i64))))))) x, AV.dat T.bool true]) [AO.box (54 : Nat) (AV.pr (AV.view (1 : Nat)) (AV.pr (AV.mp (2 : Nat)) (AV.dat T.bool b))) true, AO.row (36 : Nat) (T.pair (T.int IntKind.i64) (T.pair (T.int IntKind.i64) (T.pair (T.int IntKind.i64) (T.pair T.bool (T.pair (T.int IntKind.i64) (T.pair (T.int IntKind.u64) (T.int IntKind.i64))))))) (z :: zs) Md.own, AO.map (T.pair (T.int IntKind.i64) (T.pair (T.int IntKind.i64) (T.int IntKind.i64))) (T.int IntKind.i64) es true]) := by kernel_rfl
theorem equal_0 {R : Type} (L : Nat → St → (Exit → St → Option R) → Option R) (K : KV R) (a b : List SV) : runX Tryd.prog G18 lv37 Tryd.f37 0 L [.dat (.sl ST) a, .dat (.sl ST) b] [] K = bif !decide ((↑(List.length a) : Int) = (↑(List.length b) : Int)) then K (AV.dat T.bool false) [] else L (0 : Nat) (St.mk [((0 : Nat), AV.dat (T.sl (T.pair (T.int IntKind.i64) (T.pair (T.int IntKind.i64) (T.pair (T.int IntKind.i64) (T.pair T.bool (T.pair (T.int IntKind.i64) (T.pair (T.int IntKind.u64) (T.int IntKind.i64)))))))) a), ((1 : Nat), AV.dat (T.sl (T.pair (T.int IntKind.i64) (T.pair (T.int IntKind.i64) (T.pair (T.int IntKind.i64) (T.pair T.bool (T.pair (T.int IntKind.i64) (T.pair (T.int IntKind.u64) (T.int IntKind.i64)))))))) b), ((12 : Nat), AV.dat (T.int IntKind.i64) (↑(List.length a) : Int)), ((13 : Nat), AV.dat (T.int IntKind.i64) (0 : Int))] []) (endX Tryd.prog G18 lv37 Tryd.f37 (0 : Nat) L K (0 : Nat)) := by kernel_rfl
theorem equal_s {R : Type} (L L0 : Nat → St → (Exit → St → Option R) → Option R) (K : KV R) (a b : List SV) (n i : Int) : stepX Tryd.prog G18 lv37 0 (codeOf Tryd.f37) L 0 ⟨[(0, .dat (.sl ST) a), (1, .dat (.sl ST) b), (12, .dat I64 n), (13, .dat I64 i)], []⟩ (endX Tryd.prog G18 lv37 Tryd.f37 0 L0 K 0) = bif decide (i < n) then ck ((0 : Int) ≤ i) (Option.bind a[Int.toNat i]? fun x ↦ ck ((0 : Int) ≤ i) (Option.bind b[Int.toNat i]? fun x_1 ↦ bif !(decide (Prod.fst x = Prod.fst x_1) && (decide (Prod.fst (Prod.snd x) = Prod.fst (Prod.snd x_1)) && (decide (Prod.fst (Prod.snd (Prod.snd x)) = Prod.fst (Prod.snd (Prod.snd x_1))) && (Prod.fst (Prod.snd (Prod.snd (Prod.snd x))) == Prod.fst (Prod.snd (Prod.snd (Prod.snd x_1))) && (decide (Prod.fst (Prod.snd (Prod.snd (Prod.snd (Prod.snd x)))) = Prod.fst (Prod.snd (Prod.snd (Prod.snd (Prod.snd x_1))))) && (decide (Prod.fst (Prod.snd (Prod.snd (Prod.snd (Prod.snd (Prod.snd x))))) = Prod.fst (Prod.snd (Prod.snd (Prod.snd (Prod.snd (Prod.snd x_1)))))) && decide (Prod.snd (Prod.snd (Prod.snd (Prod.snd (Prod.snd (Prod.snd x))))) = Prod.snd (Prod.snd (Prod.snd (Prod.snd (Prod.snd (Prod.snd x_1)))))))))))) then K (AV.dat T.bool false) [] else L (0 : Nat) (St.mk [((0 : Nat), AV.dat (T.sl (T.pair (T.int IntKind.i64) (T.pair (T.int IntKind.i64) (T.pair (T.int IntKind.i64) (T.pair T.bool (T.pair (T.int IntKind.i64) (T.pair (T.int IntKind.u64) (T.int IntKind.i64)))))))) a), ((1 : Nat), AV.dat (T.sl (T.pair (T.int IntKind.i64) (T.pair (T.int IntKind.i64) (T.pair (T.int IntKind.i64) (T.pair T.bool (T.pair (T.int IntKind.i64) (T.pair (T.int IntKind.u64) (T.int IntKind.i64)))))))) b), ((12 : Nat), AV.dat (T.int IntKind.i64) n), ((13 : Nat), AV.dat (T.int IntKind.i64) (IntKind.wrap IntKind.i64 (i + (1 : Int))))] []) (endX Tryd.prog G18 lv37 Tryd.f37 (0 : Nat) L0 K (0 : Nat)))) else K (AV.dat T.bool true) [] := by kernel_rfl
def F13 : Summ := ⟨fun args ob K => match args, ob with
  | [.ptr 0 []], [.box 54 (.pr .nils (.pr .nilm (.dat .bool b))) true] => K (.dat (.sl ST) []) [.box 54 (.pr .nils (.pr .nilm (.dat .bool b))) true]
  | [.ptr 0 []], [.box 54 (.pr (.view 1) (.pr (.mp 2) (.dat .bool b))) true, .row 36 (.pair (.int .i64) (.pair (.int .i64) (.pair (.int .i64) (.pair .bool (.pair (.int .i64) (.pair (.int .u64) (.int .i64))))))) (z :: zs) .own, .map (.pair (.int .i64) (.pair (.int .i64) (.int .i64))) (.int .i64) es true] => ck ((z :: zs).length ≤ 1000) (K (.dat (.sl ST) (z :: zs)) [.box 54 (.pr (.view 1) (.pr (.mp 2) (.dat .bool b))) true, .row 36 ST (z :: zs) .own, .map ThT I64 es true])
  | _, _ => none⟩
theorem F13_ok : SumOk Tryd.prog 13 F13 := by
  refine (back_ok (ts := [.sl ST]) (l := []) (frzS_ok (W_ok 13))).le ?_ ?_
  · intro R R' f args ob K
    unfold F13; dsimp only
    split <;> simp only [bd_ck, bd_none]
  · intro R args ob K r h
    unfold F13 at h; dsimp only at h
    split at h
    · rename_i b
      exact (all_0 K b).trans h
    · rename_i b z zs es
      obtain ⟨hl, h2⟩ := ck_elim h
      clear h
      refine (all_1 K b z zs es).trans (Eq.trans ?_ h2)
      rw [ck_pos (by unfold limit; omega)]
    · cases h
def F27 : Summ := ⟨fun args ob K => match args, ob with
  | [.ptr 0 []], [.box 54 (.pr .nils (.pr .nilm (.dat .bool b))) true] => K (.dat I64 0) [.box 54 (.pr .nils (.pr .nilm (.dat .bool b))) true]
  | [.ptr 0 []], [.box 54 (.pr (.view 1) (.pr (.mp 2) (.dat .bool b))) true, .row 36 (.pair (.int .i64) (.pair (.int .i64) (.pair (.int .i64) (.pair .bool (.pair (.int .i64) (.pair (.int .u64) (.int .i64))))))) (z :: zs) .own, .map (.pair (.int .i64) (.pair (.int .i64) (.int .i64))) (.int .i64) es true] => ck ((z :: zs).length ≤ 1000) (K (.dat I64 ((z :: zs).length : Int)) [.box 54 (.pr (.view 1) (.pr (.mp 2) (.dat .bool b))) true, .row 36 ST (z :: zs) .own, .map ThT I64 es true])
  | _, _ => none⟩
theorem F27_ok : SumOk Tryd.prog 27 F27 := by
  refine (W_ok 27).le ?_ ?_
  · intro R R' f args ob K
    unfold F27; dsimp only
    split <;> simp only [bd_ck, bd_none]
  · intro R args ob K r h
    unfold F27 at h; dsimp only at h
    split at h
    · rename_i b
      exact (len_0 K b).trans h
    · rename_i b z zs es
      obtain ⟨hl, h2⟩ := ck_elim h
      clear h
      refine (len_1 K b z zs es).trans (Eq.trans ?_ h2)
      rw [ck_pos (by unfold limit; omega)]
    · cases h
def F12 : Summ := ⟨fun args ob K => match args, ob with
  | [.ptr 0 []], [.box 54 (.pr .nils (.pr .nilm (.dat .bool b))) true] => K (.dat .bool b) [.box 54 (.pr .nils (.pr .nilm (.dat .bool b))) true]
  | [.ptr 0 []], [.box 54 (.pr (.view 1) (.pr (.mp 2) (.dat .bool b))) true, .row 36 (.pair (.int .i64) (.pair (.int .i64) (.pair (.int .i64) (.pair .bool (.pair (.int .i64) (.pair (.int .u64) (.int .i64))))))) (z :: zs) .own, .map (.pair (.int .i64) (.pair (.int .i64) (.int .i64))) (.int .i64) es true] => K (.dat .bool b) [.box 54 (.pr (.view 1) (.pr (.mp 2) (.dat .bool b))) true, .row 36 ST (z :: zs) .own, .map ThT I64 es true]
  | _, _ => none⟩
theorem F12_ok : SumOk Tryd.prog 12 F12 := by
  refine (W_ok 12).le ?_ ?_
  · intro R R' f args ob K
    unfold F12; dsimp only
    split <;> simp only [bd_ck, bd_none]
  · intro R args ob K r h
    unfold F12 at h; dsimp only at h
    split at h
    · rename_i b
      exact (brk_0 K b).trans h
    · rename_i b z zs es
      exact (brk_1 K b z zs es).trans h
    · cases h
theorem equal_loop {R : Type} (L0 : Nat → St → (Exit → St → Option R) → Option R) (K : KV R) (a b : List SV) (hab : a.length = b.length) (hl : a.length ≤ 1000) : ∀ (j k i : Nat), i + j = a.length → j < k →
    LX Tryd.prog G18 lv37 0 (codeOf Tryd.f37) k 0 ⟨[(0, .dat (.sl ST) a), (1, .dat (.sl ST) b), (12, .dat I64 (a.length : Int)), (13, .dat I64 (i : Int))], []⟩ (endX Tryd.prog G18 lv37 Tryd.f37 0 L0 K 0) = K (.dat .bool (sameL (a.drop i) (b.drop i))) [] := by
  intro j
  induction j with
  | zero =>
    intro k i hi hk
    obtain ⟨k, rfl⟩ : ∃ q, k = q + 1 := ⟨k - 1, by omega⟩
    refine (equal_s _ L0 K a b a.length i).trans ?_
    rw [show decide ((i : Int) < (a.length : Nat)) = false from decide_eq_false (by omega), cond_false, show a.drop i = [] from List.drop_eq_nil_of_le (by omega), show b.drop i = [] from List.drop_eq_nil_of_le (by omega)]
    rfl
  | succ j ih =>
    intro k i hi hk
    obtain ⟨k, rfl⟩ : ∃ q, k = q + 1 := ⟨k - 1, by omega⟩
    refine (equal_s _ L0 K a b a.length i).trans ?_
    have hi' : i < a.length := by omega
    have hi2 : i < b.length := by omega
    have e := ih k (i + 1) (by omega) (by omega)
    rw [show ((i + 1 : Nat) : Int) = (i : Int) + 1 by omega] at e
    rw [show decide ((i : Int) < (a.length : Nat)) = true from decide_eq_true (by omega), cond_true, List.drop_eq_getElem_cons hi', List.drop_eq_getElem_cons hi2, sameL, Int.toNat_natCast, List.getElem?_eq_getElem hi', List.getElem?_eq_getElem hi2, wrapS (x := (i : Int) + 1) (by omega)]
    simp only [Option.bind_some, ck_pos (show (0 : Int) ≤ (i : Int) by omega)]
    unfold eqS
    generalize (decide (Prod.fst a[i] = Prod.fst b[i]) && (decide (Prod.fst (Prod.snd a[i]) = Prod.fst (Prod.snd b[i])) && (decide (Prod.fst (Prod.snd (Prod.snd a[i])) = Prod.fst (Prod.snd (Prod.snd b[i]))) && (Prod.fst (Prod.snd (Prod.snd (Prod.snd a[i]))) == Prod.fst (Prod.snd (Prod.snd (Prod.snd b[i]))) && (decide (Prod.fst (Prod.snd (Prod.snd (Prod.snd (Prod.snd a[i])))) = Prod.fst (Prod.snd (Prod.snd (Prod.snd (Prod.snd b[i]))))) && (decide (Prod.fst (Prod.snd (Prod.snd (Prod.snd (Prod.snd (Prod.snd a[i]))))) = Prod.fst (Prod.snd (Prod.snd (Prod.snd (Prod.snd (Prod.snd b[i])))))) && decide (Prod.snd (Prod.snd (Prod.snd (Prod.snd (Prod.snd (Prod.snd a[i]))))) = Prod.snd (Prod.snd (Prod.snd (Prod.snd (Prod.snd (Prod.snd b[i])))))))))))) = c
    cases c with
    | false => rfl
    | true => exact e
def F37 : Summ := ⟨fun args ob K => match args, ob with
  | [.dat (.sl (.pair (.int .i64) (.pair (.int .i64) (.pair (.int .i64) (.pair .bool (.pair (.int .i64) (.pair (.int .u64) (.int .i64)))))))) a, .dat (.sl (.pair (.int .i64) (.pair (.int .i64) (.pair (.int .i64) (.pair .bool (.pair (.int .i64) (.pair (.int .u64) (.int .i64)))))))) b], [] => ck (a.length ≤ 1000) (K (.dat .bool (bif decide (a.length = b.length) then sameL a b else false)) [])
  | _, _ => none⟩
theorem F37_ok : SumOk Tryd.prog 37 F37 := by
  refine (codeX_ok (Γ := G18) (k := 1001) (lv := lv37) mixed noNG_prog (sums_call (Wr := all) (l := []) trivial) (sums_prim trivial) (fn := Tryd.f37) rfl).le ?_ ?_
  · intro R R' f args ob K
    unfold F37; dsimp only
    split <;> simp only [bd_ck, bd_none]
  · intro R args ob K r h
    unfold F37 at h; dsimp only at h
    split at h
    · rename_i a b
      obtain ⟨hl, h⟩ := ck_elim h
      refine (equal_0 (LX Tryd.prog G18 lv37 0 (codeOf Tryd.f37) 1001) K a b).trans (Eq.trans ?_ h)
      by_cases he : a.length = b.length
      · rw [show decide ((a.length : Int) = (b.length : Int)) = true from decide_eq_true (by omega), Bool.not_true, cond_false, show decide (a.length = b.length) = true from decide_eq_true he, cond_true]
        exact equal_loop _ K a b he hl a.length 1001 0 (by omega) (by omega)
      · rw [show decide ((a.length : Int) = (b.length : Int)) = false from decide_eq_false (by omega), Bool.not_false, cond_true, show decide (a.length = b.length) = false from decide_eq_false he, cond_false]
    · cases h
end Go.Mx
