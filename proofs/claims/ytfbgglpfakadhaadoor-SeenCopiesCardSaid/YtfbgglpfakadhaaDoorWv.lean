/- Own work. A part of the proof of a law of this seat: this seat's functions, by the machine, and the plain law -/
import Derived.Test.YtfbgglpfakadhaaDoorWu
import Derived.Test.YtfbgglpfakadhaaDoorWr
import Derived.Test.YtfbgglpfakadhaaDoorMe
/- SeenCopies: the law. -/
namespace Go.Mx
open Go Go.RowKit Go.Sx Go.Proofs
set_option linter.unusedVariables false
set_option linter.unusedSimpArgs false
set_option maxRecDepth 100000
def ob6 : List SV → Bool → List SV → Bool → List AO
  | [], b, [], c => [.box 54 (.pr .nils (.pr .nilm (.dat .bool b))) true, .box 43 (.pr .nils (.dat .bool b)) true, .box 54 (.pr .nils (.pr .nilm (.dat .bool c))) true, .box 43 (.pr (.view 4) (.dat .bool c)) true, .row 36 ST [] .own]
  | [], b, y :: ys, c => [.box 54 (.pr .nils (.pr .nilm (.dat .bool b))) true, .box 43 (.pr .nils (.dat .bool b)) true, .box 54 (.pr (.view 3) (.pr (.mp 4) (.dat .bool c))) true, .row 36 ST (y :: ys) .own, .map ThT I64 (ats 0 (y :: ys)) true, .box 43 (.pr (.view 6) (.dat .bool c)) true, .row 36 ST (y :: ys) .own]
  | z :: zs, b, [], c => [.box 54 (.pr (.view 1) (.pr (.mp 2) (.dat .bool b))) true, .row 36 ST (z :: zs) .own, .map ThT I64 (ats 0 (z :: zs)) true, .box 43 (.pr (.view 4) (.dat .bool b)) true, .row 36 ST (z :: zs) .own, .box 54 (.pr .nils (.pr .nilm (.dat .bool c))) true, .box 43 (.pr (.view 7) (.dat .bool c)) true, .row 36 ST [] .own]
  | z :: zs, b, y :: ys, c => [.box 54 (.pr (.view 1) (.pr (.mp 2) (.dat .bool b))) true, .row 36 ST (z :: zs) .own, .map ThT I64 (ats 0 (z :: zs)) true, .box 43 (.pr (.view 4) (.dat .bool b)) true, .row 36 ST (z :: zs) .own, .box 54 (.pr (.view 6) (.pr (.mp 7) (.dat .bool c))) true, .row 36 ST (y :: ys) .own, .map ThT I64 (ats 0 (y :: ys)) true, .box 43 (.pr (.view 9) (.dat .bool c)) true, .row 36 ST (y :: ys) .own]
def oIx : List SV → Nat
  | [] => 2
  | _ :: _ => 5
def vIx : List SV → List SV → Nat
  | [], [] => 3
  | [], _ :: _ => 5
  | _ :: _, [] => 6
  | _ :: _, _ :: _ => 8
theorem same_e (e : Bool) {A : Type} (x y : A) : cond (e == e) x y = x := by cases e <;> rfl
theorem copies_b {R : Type} (L0 : Nat → St → (Exit → St → Option R) → Option R) (K : KV R) (q : List SV) (hv : ∀ x ∈ q, 0 ≤ x.2.2.2.2.2.1) (hq : q.length ≤ 30) (xs : List SV) (b : Bool) (hx : xs.length ≤ 1000) : ∀ (j k i : Nat) (ys : List SV) (c : Bool), i + j = q.length → j < k → ys.length ≤ 900 + i →
    LX Tryd.prog G6 lv6 0 (codeOf Tryd.f6) k 2 ⟨[(2, .dat (.sl ST) q), (7, .ptr 0 []), (8, .ptr (wIx xs) []), (10, .ptr (oIx xs) []), (11, .ptr (vIx xs ys) []), (13, .dat I64 (i : Int))], ob6 xs b ys c⟩ (endX Tryd.prog G6 lv6 Tryd.f6 0 L0 K 2) = K (.dat .bool true) [] := by
  intro j
  induction j with
  | zero =>
    intro k i ys c hi hk hy
    obtain ⟨k, rfl⟩ : ∃ q, k = q + 1 := ⟨k - 1, by omega⟩
    have hd : decide ((i : Int) < (q.length : Nat)) = false := decide_eq_false (by omega)
    have hy : ys.length ≤ 1000 := by omega
    cases xs with
    | nil =>
      cases ys with
      | nil =>
        refine (cps2_ee _ L0 K q i b c).trans ?_
        rw [hd, cond_false]
        exact (ck_pos rfl).trans ((ck_pos rfl).trans (same_e _ _ _))
      | cons y ys =>
        refine (cps2_en _ L0 K q i b c y ys).trans ?_
        rw [hd, cond_false]
        exact (ck_pos rfl).trans ((ck_pos ⟨hy, rfl, rfl, rfl⟩).trans ((ck_pos hy).trans (same_e _ _ _)))
    | cons z zs =>
      cases ys with
      | nil =>
        refine (cps2_ne _ L0 K q i b c z zs).trans ?_
        rw [hd, cond_false]
        exact (ck_pos ⟨hx, rfl, rfl, rfl⟩).trans ((ck_pos rfl).trans ((ck_pos hx).trans ((ck_pos hx).trans (same_e _ _ _))))
      | cons y ys =>
        refine (cps2_nn _ L0 K q i b c z zs y ys).trans ?_
        rw [hd, cond_false]
        exact (ck_pos ⟨hx, rfl, rfl, rfl⟩).trans ((ck_pos ⟨hy, rfl, rfl, rfl⟩).trans ((ck_pos ⟨hx, hy⟩).trans ((ck_pos hx).trans (same_e _ _ _))))
  | succ j ih =>
    intro k i ys c hi hk hy
    obtain ⟨k, rfl⟩ : ∃ q, k = q + 1 := ⟨k - 1, by omega⟩
    have hi' : i < q.length := by omega
    have hm : mayB q[i] = rmayB q[i] := may_eq _ (hv _ (List.getElem_mem hi'))
    have e := ih k (i + 1) (stepM (ys, c) q[i]).1 (stepM (ys, c) q[i]).2 (by omega) (by omega) (by have := stepM_len (ys, c) q[i]; have : (ys, c).1.length = ys.length := rfl; omega)
    rw [show ((i + 1 : Nat) : Int) = (i : Int) + 1 by omega] at e
    refine Eq.trans ?_ e
    clear e
    have hd : decide ((i : Int) < (q.length : Nat)) = true := decide_eq_true (by omega)
    have h0 : (0 : Int) ≤ (i : Int) := by omega
    have hw : IntKind.wrap .i64 ((i : Int) + 1) = (i : Int) + 1 := wrapS (by omega)
    have hg := List.getElem?_eq_getElem hi'
    cases ys with
    | nil =>
      cases xs with
      | nil =>
        refine (cps2_ee _ L0 K q i b c).trans ?_
        rw [hd, cond_true, Int.toNat_natCast, hg, hw]
        simp only [Option.bind_some, ck_pos h0, ← hm]
        unfold stepM
        cases mayB q[i] <;> rfl
      | cons z zs =>
        refine (cps2_ne _ L0 K q i b c z zs).trans ?_
        rw [hd, cond_true, Int.toNat_natCast, hg, hw]
        simp only [Option.bind_some, ck_pos h0, ← hm]
        unfold stepM
        cases mayB q[i] <;> rfl
    | cons y ys =>
      have h1 : (y :: ys).length ≤ 1000 := by omega
      cases xs with
      | nil =>
        refine (cps2_en _ L0 K q i b c y ys).trans ?_
        rw [hd, cond_true, Int.toNat_natCast, hg, hw]
        simp only [Option.bind_some, ck_pos h0, ck_pos h1, ck_pos (show (y :: ys).length ≤ 1000 ∧ True from ⟨h1, trivial⟩), ← hm]
        unfold stepM
        cases mayB q[i] with
        | false => rfl
        | true =>
          cases hdd : decide (findV q[i] 0 (y :: ys) < 0) with
          | true => simp only [hdd, cond_true]; rfl
          | false => simp only [hdd, cond_true, cond_false]; rfl
      | cons z zs =>
        refine (cps2_nn _ L0 K q i b c z zs y ys).trans ?_
        rw [hd, cond_true, Int.toNat_natCast, hg, hw]
        simp only [Option.bind_some, ck_pos h0, ck_pos h1, ck_pos (show (y :: ys).length ≤ 1000 ∧ True from ⟨h1, trivial⟩), ← hm]
        unfold stepM
        cases mayB q[i] with
        | false => rfl
        | true =>
          cases hdd : decide (findV q[i] 0 (y :: ys) < 0) with
          | true => simp only [hdd, cond_true]; rfl
          | false => simp only [hdd, cond_true, cond_false]; rfl
theorem copies_a {R : Type} (k0 : Nat) (hk0 : 40 ≤ k0) (K : KV R) (a q : List SV) (hva : ∀ x ∈ a, 0 ≤ x.2.2.2.2.2.1) (ha : a.length ≤ 30) (hv : ∀ x ∈ q, 0 ≤ x.2.2.2.2.2.1) (hq : q.length ≤ 30) (ys : List SV) (c : Bool) (hy : ys.length ≤ 900) : ∀ (j k i : Nat) (xs : List SV) (b : Bool), i + j = a.length → j < k → xs.length ≤ 900 + i → (ys ≠ [] → xs ≠ []) →
    LX Tryd.prog G6 lv6 0 (codeOf Tryd.f6) k 0 ⟨[(1, .dat (.sl ST) a), (2, .dat (.sl ST) q), (7, .ptr 0 []), (8, .ptr (wIx xs) []), (10, .ptr (oIx xs) []), (11, .ptr (vIx xs ys) []), (12, .dat I64 (i : Int))], ob6 xs b ys c⟩ (endX Tryd.prog G6 lv6 Tryd.f6 0 (LX Tryd.prog G6 lv6 0 (codeOf Tryd.f6) k0) K 0) = K (.dat .bool true) [] := by
  intro j
  induction j with
  | zero =>
    intro k i xs b hi hk hx hne
    obtain ⟨k, rfl⟩ : ∃ q, k = q + 1 := ⟨k - 1, by omega⟩
    have hd : decide ((i : Int) < (a.length : Nat)) = false := decide_eq_false (by omega)
    have e := copies_b (LX Tryd.prog G6 lv6 0 (codeOf Tryd.f6) k0) K q hv hq xs b (by omega) q.length k0 0 ys c (by omega) (by omega) (by omega)
    cases xs with
    | nil =>
      cases ys with
      | nil =>
        refine (cps0_ee _ _ K a q i b c).trans ?_
        rw [hd, cond_false]
        exact e
      | cons y ys => exact absurd rfl (hne (by simp))
    | cons z zs =>
      cases ys with
      | nil =>
        refine (cps0_ne _ _ K a q i b c z zs).trans ?_
        rw [hd, cond_false]
        exact e
      | cons y ys =>
        refine (cps0_nn _ _ K a q i b c z zs y ys).trans ?_
        rw [hd, cond_false]
        exact e
  | succ j ih =>
    intro k i xs b hi hk hx hne
    obtain ⟨k, rfl⟩ : ∃ q, k = q + 1 := ⟨k - 1, by omega⟩
    have hi' : i < a.length := by omega
    have hm : mayB a[i] = rmayB a[i] := may_eq _ (hva _ (List.getElem_mem hi'))
    obtain ⟨r2, hr2⟩ := step_pre xs b a[i]
    have e := ih k (i + 1) (stepM (xs, b) a[i]).1 (stepM (xs, b) a[i]).2 (by omega) (by omega) (by have := stepM_len (xs, b) a[i]; have : (xs, b).1.length = xs.length := rfl; omega) (fun h => by rw [hr2]; intro h2; exact hne h (List.append_eq_nil_iff.1 h2).1)
    rw [show ((i + 1 : Nat) : Int) = (i : Int) + 1 by omega] at e
    refine Eq.trans ?_ e
    clear e hr2
    have hd : decide ((i : Int) < (a.length : Nat)) = true := decide_eq_true (by omega)
    have h0 : (0 : Int) ≤ (i : Int) := by omega
    have hw : IntKind.wrap .i64 ((i : Int) + 1) = (i : Int) + 1 := wrapS (by omega)
    have hg := List.getElem?_eq_getElem hi'
    cases xs with
    | nil =>
      cases ys with
      | nil =>
        refine (cps0_ee _ _ K a q i b c).trans ?_
        rw [hd, cond_true, Int.toNat_natCast, hg, hw]
        simp only [Option.bind_some, ck_pos h0, ← hm]
        unfold stepM
        cases mayB a[i] <;> rfl
      | cons y ys => exact absurd rfl (hne (by simp))
    | cons z zs =>
      have h1 : (z :: zs).length ≤ 1000 := by omega
      cases ys with
      | nil =>
        refine (cps0_ne _ _ K a q i b c z zs).trans ?_
        rw [hd, cond_true, Int.toNat_natCast, hg, hw]
        simp only [Option.bind_some, ck_pos h0, ck_pos h1, ck_pos (show (z :: zs).length ≤ 1000 ∧ True from ⟨h1, trivial⟩), ← hm]
        unfold stepM
        cases mayB a[i] with
        | false => rfl
        | true =>
          cases hdd : decide (findV a[i] 0 (z :: zs) < 0) with
          | true => simp only [hdd, cond_true]; rfl
          | false => simp only [hdd, cond_true, cond_false]; rfl
      | cons y ys =>
        refine (cps0_nn _ _ K a q i b c z zs y ys).trans ?_
        rw [hd, cond_true, Int.toNat_natCast, hg, hw]
        simp only [Option.bind_some, ck_pos h0, ck_pos h1, ck_pos (show (z :: zs).length ≤ 1000 ∧ True from ⟨h1, trivial⟩), ← hm]
        unfold stepM
        cases mayB a[i] with
        | false => rfl
        | true =>
          cases hdd : decide (findV a[i] 0 (z :: zs) < 0) with
          | true => simp only [hdd, cond_true]; rfl
          | false => simp only [hdd, cond_true, cond_false]; rfl
theorem copies_run {R : Type} (k : Nat) (hk : 40 ≤ k) (K : KV R) (l a q : List SV) (hl : ∀ x ∈ l, 0 ≤ x.2.2.2.2.2.1) (ha : ∀ x ∈ a, 0 ≤ x.2.2.2.2.2.1) (hq : ∀ x ∈ q, 0 ≤ x.2.2.2.2.2.1) : (codeX Tryd.prog G6 lv6 k Tryd.f6).run [.dat (.sl ST) l, .dat (.sl ST) a, .dat (.sl ST) q] [] K = K (.dat .bool true) [] := by
  refine (codeX_at (m := 0) rfl).trans ?_
  refine (cps_0 (LX Tryd.prog G6 lv6 0 (codeOf Tryd.f6) k) K l a q).trans ?_
  by_cases h1 : (60 : Int) < (l.length : Int)
  · rw [decide_eq_true h1, cond_true]
  by_cases h2 : (30 : Int) < (a.length : Int)
  · rw [decide_eq_false h1, decide_eq_true h2, cond_true, cond_false]
  by_cases h3 : (30 : Int) < (q.length : Int)
  · rw [decide_eq_false h1, decide_eq_false h2, decide_eq_true h3, cond_true, cond_false, cond_false]
  rw [decide_eq_false h1, decide_eq_false h2, decide_eq_false h3, cond_false, cond_false, cond_false]
  refine (ck_pos ⟨by omega, hl⟩).trans ?_
  have hn := noted_len l ([], false)
  have hn : (notedM l).1.length ≤ 0 + l.length := hn
  generalize notedM l = s at hn
  obtain ⟨xs, b⟩ := s
  have hn : xs.length ≤ 0 + l.length := hn
  have e := copies_a k hk K a q ha (by omega) hq (by omega) xs b (by omega) a.length k 0 xs b (by omega) (by omega) (by omega) id
  cases xs with
  | nil => cases b <;> exact e
  | cons z zs =>
    have hz : (z :: zs).length ≤ 1000 := by omega
    have hm : eqM (z :: zs) (z :: zs) = true := by unfold eqM; rw [decide_eq_true rfl, cond_true, sameL_refl]
    refine (ck_pos hz).trans ((ck_pos hz).trans ((ck_pos ⟨hz, hz⟩).trans ?_))
    rw [hm]
    cases b <;> exact e
theorem all6 : AllOk Tryd.prog [(10, F10), (11, F11), (22, F22), (23, F23), (24, F24), (14, F14), (25, F25p), (16, F16p), (26, F26)] := ⟨F10_ok, F11_ok, F22_ok, F23_ok, F24_ok, F14_ok, F25p_ok, F16p_ok, F26_ok, trivial⟩
theorem SeenCopies_ok : SumOk Tryd.prog 6 (codeX Tryd.prog G6 lv6 50 Tryd.f6) :=
  codeX_ok (Γ := G6) mixed noNG_prog (sums_call (Wr := all) all6) (sums_prim all6) (fn := Tryd.f6) rfl lv6 50
theorem SeenCopies_law (l : List SV) (hl : l.length ≤ 140737488351232 ∧ ∀ x ∈ l, WfS x) (a : List SV) (ha : a.length ≤ 140737488351232 ∧ ∀ x ∈ a, WfS x) (q : List SV) (hq : q.length ≤ 140737488351232 ∧ ∀ x ∈ q, WfS x) : (codeX Tryd.prog G6 lv6 50 Tryd.f6).run [.dat (.sl ST) l, .dat (.sl ST) a, .dat (.sl ST) q] [] isTrue = some true := copies_run 50 (by omega) isTrue l a q (fun x hx => wf_ver (hl.2 x hx)) (fun x hx => wf_ver (ha.2 x hx)) (fun x hx => wf_ver (hq.2 x hx))
end Go.Mx
