/- Own work. A part of the proof of a law of this seat: this seat's functions, by the machine, and the plain law -/
import Derived.Test.YtogclgfpnaocfaaWk
set_option linter.unusedSimpArgs false
set_option linter.unusedVariables false
namespace Go.Mx
open Go Go.RowKit Go.Sx Go.Proofs
set_option maxRecDepth 100000
section
variable {R : Type} (K : KV R) (l : List PV) (hp : ∀ p ∈ l, PartOk p) (hl : l.length ≤ 40) (ht : tot l ≤ 20000)
theorem getl {i : Nat} (h : i < l.length) : l[Int.toNat (i : Int)]? = some l[i] := by rw [Int.toNat_natCast]; exact List.getElem?_eq_getElem h
include hp hl ht in
theorem encs_small (i : Nat) : (encs (l.drop i)).length < 100000 ∧ (encs (l.take i)).length < 100000 := by
  have a := encs_len (l := l.drop i) (fun p h => hp p (List.mem_of_mem_drop h))
  have b := encs_len (l := l.take i) (fun p h => hp p (List.mem_of_mem_take h))
  have c := tot_le l i
  have d : tot (l.drop i) ≤ tot l := by
    clear a b c hp hl ht
    induction l generalizing i with
    | nil => simp [tot]
    | cons p r ih =>
      cases i with
      | zero => simp
      | succ i => rw [List.drop_succ_cons, tot]; have := ih i; omega
  rw [List.length_drop] at a
  rw [List.length_take] at b
  omega
include hp hl ht in
theorem means_2 (L0 : Nat → St → (Exit → St → Option R) → Option R) (he : ∀ i (h : i < l.length), (encV l[i]).isSome = true) : ∀ (j k i : Nat), i + j = l.length → j < k →
    LX Try.prog G6 lv6 0 (codeOf Try.f6) k 2 ⟨[(0, .dat (.sl PT) l), (7, .ptr 0 []), (8, .dat I64 (i : Int))], [.box 59 (.dat RT (encs (l.drop i), true, false)) true]⟩ (endX Try.prog G6 lv6 Try.f6 0 L0 K 2) = K (.dat .bool true) [] := by
  intro j
  induction j with
  | zero =>
    intro k i hi hk
    obtain ⟨k, rfl⟩ : ∃ q, k = q + 1 := ⟨k - 1, by omega⟩
    refine (wm_s2 _ L0 K l i _).trans ?_
    have h0 : l.drop i = [] := List.drop_of_length_le (by omega)
    rw [h0, show decide ((i : Int) < (l.length : Int)) = false from decide_eq_false (by omega), cond_false]
    rfl
  | succ j ih =>
    intro k i hi hk
    obtain ⟨k, rfl⟩ : ∃ q, k = q + 1 := ⟨k - 1, by omega⟩
    refine (wm_s2 _ L0 K l i _).trans ?_
    have hlt : i < l.length := by omega
    obtain ⟨b, hb⟩ := Option.isSome_iff_exists.1 (he i hlt)
    have hbk := (enc_back (hp _ (List.getElem_mem hlt)) hb (encs (l.drop (i + 1)))).1
    rw [show decide ((i : Int) < (l.length : Int)) = true from decide_eq_true (by omega), cond_true, ck_pos (by omega), getl l hlt]
    simp only [Option.bind_some]
    rw [ck_pos (encs_small l hp hl ht i).1, encs_drop l hlt hb, hbk, wrapS (by omega)]
    have e := ih k (i + 1) (by omega) (by omega)
    rw [show ((i + 1 : Nat) : Int) = (i : Int) + 1 by omega] at e
    exact e
include hp hl ht in
theorem means_0 : ∀ (j k i : Nat), i + j = l.length → j < k → (∀ q (h : q < l.length), q < i → (encV l[q]).isSome = true) →
    LX Try.prog G6 lv6 0 (codeOf Try.f6) k 0 ⟨[(0, .dat (.sl PT) l), (3, .view 0), (4, .dat I64 (i : Int))], [.row 5 U8 (encs (l.take i)) .own]⟩ (endX Try.prog G6 lv6 Try.f6 0 (LX Try.prog G6 lv6 0 (codeOf Try.f6) 60) K 0) = K (.dat .bool true) [] := by
  intro j
  induction j with
  | zero =>
    intro k i hi hk he
    obtain ⟨k, rfl⟩ : ∃ q, k = q + 1 := ⟨k - 1, by omega⟩
    refine (wm_sv _ _ K l i _).trans ?_
    have h0 : l.take i = l := List.take_of_length_le (by omega)
    have h1 := (encs_small l hp hl ht 0).1
    rw [List.drop_zero] at h1
    rw [h0, show decide ((i : Int) < (l.length : Int)) = false from decide_eq_false (by omega), cond_false, ck_pos (by omega)]
    exact means_2 K l hp hl ht _ (fun q h => he q h (by omega)) l.length 60 0 (by omega) (by omega)
  | succ j ih =>
    intro k i hi hk he
    obtain ⟨k, rfl⟩ : ∃ q, k = q + 1 := ⟨k - 1, by omega⟩
    refine (wm_sv _ _ K l i _).trans ?_
    have hlt : i < l.length := by omega
    have h1 := (encs_small l hp hl ht (i + 1)).2
    have h2 : l[i].2.2.2.2.length < 500000 := by
      have := tot_take l hlt
      have := tot_le l (i + 1)
      omega
    rw [show decide ((i : Int) < (l.length : Int)) = true from decide_eq_true (by omega), cond_true, ck_pos (by omega), getl l hlt]
    simp only [Option.bind_some]
    rw [ck_pos h2]
    cases hb : encV l[i] with
    | none => rfl
    | some b =>
      rw [encs_snoc l hlt hb, List.length_append] at h1
      show ck _ _ = _
      rw [ck_pos (by omega), wrapS (by omega)]
      have e := ih k (i + 1) (by omega) (by omega) (fun q h hq => by
        by_cases c : q = i
        · subst c; rw [hb]; rfl
        · exact he q h (by omega))
      rw [show ((i + 1 : Nat) : Int) = (i : Int) + 1 by omega, encs_snoc l hlt hb] at e
      exact e
end
theorem means_true {R : Type} (K : KV R) (l : List PV) (hp : ∀ p ∈ l, PartOk p) (hb : ∀ p ∈ l, p.2.2.2.2.length ≤ 140737488351232) : (codeX Try.prog G6 lv6 60 Try.f6).run [.dat (.sl PT) l] [] K = K (.dat .bool true) [] := by
  refine (wm_0 _ K l).trans ?_
  rw [ck_pos hb]
  cases hf : fewV l with
  | false => rfl
  | true =>
    obtain ⟨h1, h2⟩ := of_decide_eq_true (show decide (l.length ≤ 40 ∧ tot l ≤ 20000) = true from hf)
    rw [Bool.not_true, cond_false]
    refine (wm_sn (LX Try.prog G6 lv6 0 (codeOf Try.f6) 59) (LX Try.prog G6 lv6 0 (codeOf Try.f6) 60) K l 0).trans ?_
    by_cases h0 : l.length = 0
    · rw [show decide ((0 : Int) < (l.length : Int)) = false from decide_eq_false (by omega), cond_false]
      obtain rfl := List.length_eq_zero_iff.1 h0
      exact means_2 K [] hp h1 h2 _ (fun q h => by simp at h) 0 60 0 rfl (by omega)
    · have hlt : 0 < l.length := by omega
      have hs := (encs_small l hp h1 h2 1).2
      have h3 : l[0].2.2.2.2.length < 500000 := by
        have := tot_take l hlt
        have := tot_le l (0 + 1)
        omega
      rw [show decide ((0 : Int) < (l.length : Int)) = true from decide_eq_true (by omega), cond_true, ck_pos (by omega), show l[Int.toNat 0]? = some l[0] from getl l (i := 0) hlt]
      simp only [Option.bind_some]
      rw [ck_pos h3]
      cases hb0 : encV l[0] with
      | none => rfl
      | some b =>
        have hsn := encs_snoc l hlt hb0
        rw [List.take_zero] at hsn
        rw [show (0 + 1 : Nat) = 1 from rfl] at hsn
        have hsn : encs (l.take 1) = [] ++ b := hsn
        rw [hsn, List.nil_append] at hs
        show ck _ _ = _
        rw [ck_pos (by omega), wrapS (by omega)]
        have e := means_0 K l hp h1 h2 (l.length - 1) 59 1 (by omega) (by omega) (fun q h hq => by
          obtain rfl : q = 0 := by omega
          rw [hb0]; rfl)
        rw [hsn] at e
        exact e
theorem all6 : AllOk Try.prog [(25, F25), (26, F26), (16, F16), (17, argS [BL] F17), (27, inS 27 cl F27), (28, inS 28 cl F28), (29, inS 29 cl F29), (30, inS 30 cl F30), (9, F9)] := ⟨F25_ok, F26_ok, F16_ok, arg_ok F17_ok, in_ok F27_ok, in_ok F28_ok, in_ok F29_ok, in_ok F30_ok, F9_ok, trivial⟩
theorem WireMeans_ok : SumOk Try.prog 6 (codeX Try.prog G6 lv6 60 Try.f6) := codeX_ok mixed noNG_prog (sums_call all6) (sums_prim all6) rfl lv6 60
abbrev LOk1 (l : List PV) : Prop := l.length ≤ 140737488351232 ∧ ∀ x ∈ l, (Lit.int .i64 x.1).wf = true ∧ (Lit.int .i64 x.2.1).wf = true ∧ (Lit.int .u64 x.2.2.1).wf = true ∧ (Lit.int .i64 x.2.2.2.1).wf = true ∧ x.2.2.2.2.length ≤ 140737488351232 ∧ ∀ y ∈ x.2.2.2.2, (Lit.int .u8 y).wf = true
theorem parts_ok {l : List PV} (h : LOk1 l) : (∀ p ∈ l, PartOk p) ∧ ∀ p ∈ l, p.2.2.2.2.length ≤ 140737488351232 :=
  ⟨fun p hp => ⟨wfU64 (h.2 p hp).2.2.1, fun x hx => wf8 ((h.2 p hp).2.2.2.2.2 x hx)⟩, fun p hp => (h.2 p hp).2.2.2.2.1⟩
theorem WireMeans_law (l : List PV) (h : LOk1 l) : (codeX Try.prog G6 lv6 60 Try.f6).run [.dat (.sl PT) l] [] isTrue = some true := means_true isTrue l (parts_ok h).1 (parts_ok h).2
end Go.Mx
