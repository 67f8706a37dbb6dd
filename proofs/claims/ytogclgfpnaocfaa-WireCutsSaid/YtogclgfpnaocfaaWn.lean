/- Own work. A part of the proof of a law of this seat: this seat's functions, by the machine, and the plain law -/
import Derived.Test.YtogclgfpnaocfaaWm
set_option linter.unusedSimpArgs false
set_option linter.unusedVariables false
namespace Go.Mx
open Go Go.RowKit Go.Sx Go.Proofs
set_option maxRecDepth 100000

/-! ### plain: what is cut is not read whole -/
abbrev Dead (x : RV) : Prop := x = ([], true, true)
theorem dead_take (n : Int) : takeS (([], true, true) : RV) n = ([], true, true) := rfl
theorem dead_num (n : Int) : numS (([], true, true) : RV) n = ([], true, true) := rfl
theorem dead_blob (n : Int) : blobS (([], true, true) : RV) n = ([], true, true) := rfl
theorem dead_back (p : PV) : (backV (([], true, true) : RV) p).2 = ([], true, true) := by
  unfold backV
  split
  · rfl
  · split <;> rfl
theorem short_take {r : List Int} {n : Int} (h : (r.length : Int) < n) : takeS ((r, true, false) : RV) n = ([], true, true) := by
  unfold takeS
  rw [if_neg (by simp), if_pos (.inr h)]
theorem short_num {r : List Int} {m : Nat} (h1 : 1 ≤ m) (h8 : m ≤ 8) (h : r.length < m) : numS ((r, true, false) : RV) (m : Int) = ([], true, true) := by
  unfold numS
  rw [show sizeOk (m : Int) = m by unfold sizeOk; rw [if_neg (by omega)]]
  exact short_take (by omega)
theorem short_back {p : PV} (hp : PartOk p) {b : List Int} (h : encV p = some b) {r : List Int} {m : Nat} (hm : m < b.length) (hr : r = b.take m) : (backV ((r, true, false) : RV) p).2 = ([], true, true) := by
  have hrl : r.length = m := by rw [hr, List.length_take]; omega
  unfold encV at h
  unfold backV
  by_cases h1 : p.1 = 1
  · rw [if_pos h1] at h ⊢
    cases hb : pBad p.2.2.1 p.2.1 with
    | true => rw [hb] at h; cases h
    | false =>
      rw [hb] at h
      obtain rfl := Option.some.inj h
      obtain ⟨n, hn⟩ : ∃ n : Nat, p.2.2.1 = n := ⟨p.2.2.1.toNat, by have := hp.n; omega⟩
      have hr' := hp.n
      rw [hn] at hb hr'
      obtain ⟨s, hs, g1, g2, g3⟩ := pBad_ok (by omega) hb
      rw [hs, Int.toNat_natCast, pB_len] at hm
      rw [hs]
      exact short_num g1 g2 (by omega)
  rw [if_neg h1] at h ⊢
  by_cases h2 : p.1 = 2
  · rw [if_pos h2] at h ⊢
    cases hb : whBad p.2.2.2.1 with
    | true => rw [hb] at h; cases h
    | false =>
      rw [hb] at h
      obtain rfl := Option.some.inj h
      rw [pB_len] at hm
      exact short_num (m := 4) (by omega) (by omega) (by omega)
  rw [if_neg h2] at h ⊢
  by_cases h3 : p.1 = 3
  · rw [if_pos h3] at h
    by_cases hb : blE p.2.2.2.2 p.2.1 = 0
    · rw [decide_eq_true hb] at h
      obtain rfl := Option.some.inj h
      obtain ⟨c1, c2⟩ := blE_ok hb
      obtain ⟨s, hs⟩ : ∃ m : Nat, p.2.1 = m := ⟨p.2.1.toNat, by omega⟩
      have hm12 : s = 1 ∨ s = 2 := by omega
      rw [hs] at c2 hm hr ⊢
      rw [Int.toNat_natCast] at c2 hm hr
      rw [List.length_append, pB_len] at hm
      have c3 : p.2.2.2.2.length < 256 ^ s := by
        have : ((256 : Int) ^ s) = ((256 ^ s : Nat) : Int) := by simp
        omega
      have c4 : p.2.2.2.2.length < 65536 := by rcases hm12 with rfl | rfl <;> omega
      have eb : bSize (s : Int) = s := by unfold bSize; rw [if_neg (by omega)]
      unfold blobS
      rw [eb]
      by_cases c : m < s
      · rw [short_num (by omega) (by omega) (by omega)]
        rfl
      · have hr2 : r = pB (p.2.2.2.2.length : Int) s ++ (p.2.2.2.2.take (m - s)) := by
          rw [hr, List.take_append, pB_len, List.take_of_length_le (by rw [pB_len]; omega)]
        obtain ⟨e1, e2⟩ := num_back c3 (by omega) (by omega) (by omega) (p.2.2.2.2.take (m - s))
        rw [hr2, e1, e2, wrapS (by omega)]
        exact short_take (by rw [List.length_take]; omega)
    · rw [decide_eq_false hb] at h; cases h
  · rw [if_neg h3] at h; cases h
/-- a reader of less than all that follows -/
def Cutt (x : RV) (e : List Int) : Prop := x = ([], true, true) ∨ ∃ m, m < e.length ∧ x = (e.take m, true, false)
theorem cut_back {p : PV} (hp : PartOk p) {b : List Int} (h : encV p = some b) {x : RV} {e : List Int} (hx : Cutt x (b ++ e)) : Cutt (backV x p).2 e := by
  rcases hx with rfl | ⟨m, hm, rfl⟩
  · exact .inl (dead_back p)
  · rw [List.length_append] at hm
    by_cases c : m < b.length
    · left
      exact short_back hp h c (by rw [List.take_append_of_le_length (by omega)])
    · right
      refine ⟨m - b.length, by omega, ?_⟩
      rw [List.take_append, List.take_of_length_le (by omega), (enc_back hp h _).1]
theorem cut_len {x : RV} {e : List Int} (hx : Cutt x e) : x.1.length ≤ e.length := by
  rcases hx with rfl | ⟨m, _, rfl⟩
  · simp
  · simp; omega
section
variable {R : Type} (K : KV R) (l : List PV) (hp : ∀ p ∈ l, PartOk p) (hl : l.length ≤ 40) (ht : tot l ≤ 20000) (more : List Int) (hm : more.length ≤ 300)
include hp hl ht in
theorem encs_less (i : Nat) : (encs (l.drop i)).length < 90000 ∧ (encs (l.take i)).length < 90000 := by
  have a := encs_len (l := l.drop i) (fun p h => hp p (List.mem_of_mem_drop h))
  have b := encs_len (l := l.take i) (fun p h => hp p (List.mem_of_mem_take h))
  have c := tot_le l i
  have d : tot (l.drop i) ≤ tot l := by
    clear a b c hp hl ht
    induction l generalizing i with
    | nil => simp [tot]
    | cons p r ih =>
      cases i with
      | zero => simp
      | succ i => rw [List.drop_succ_cons, tot]; have := ih i; omega
  rw [List.length_drop] at a
  rw [List.length_take] at b
  omega
include hp hl ht hm in
theorem cuts_2 (L0 : Nat → St → (Exit → St → Option R) → Option R) (he : ∀ i (h : i < l.length), (encV l[i]).isSome = true) : ∀ (j k i : Nat) (x : RV), i + j = l.length → j < k → Cutt x (encs (l.drop i)) →
    LX Try.prog G6 lv7 0 (codeOf Try.f7) k 2 ⟨[(0, .dat (.sl PT) l), (2, .dat BL more), (12, .ptr 0 []), (13, .ptr 1 []), (14, .dat I64 (i : Int))], [.box 59 (.dat RT x) true, .box 59 (.dat RT (encs (l.drop i) ++ more, true, false)) true]⟩ (endX Try.prog G6 lv7 Try.f7 0 L0 K 2) = K (.dat .bool true) [] := by
  intro j
  induction j with
  | zero =>
    intro k i x hi hk hx
    obtain ⟨k, rfl⟩ : ∃ q, k = q + 1 := ⟨k - 1, by omega⟩
    refine (wc_s2 _ L0 K l more i x _).trans ?_
    have h0 : l.drop i = [] := List.drop_of_length_le (by omega)
    rw [h0] at hx
    obtain rfl : x = ([], true, true) := by
      rcases hx with h | ⟨m, h, _⟩
      · exact h
      · simp [encs] at h
    rw [h0, show decide ((i : Int) < (l.length : Int)) = false from decide_eq_false (by omega), cond_false]
    have e1 : leftV ((encs ([] : List PV) ++ more, true, false) : RV) = (more.length : Int) := rfl
    have e2 : (decide (endV ((encs ([] : List PV) ++ more, true, false) : RV) = 0) == decide ((more.length : Int) = 0)) = true := by
      cases more with
      | nil => rfl
      | cons z zs =>
        have : endV ((encs ([] : List PV) ++ (z :: zs), true, false) : RV) = 16 := by
          unfold endV
          rw [show decide ((0 : Int) < (((encs ([] : List PV) ++ (z :: zs), true, false) : RV).1.length : Int)) = true from decide_eq_true (by show (0 : Int) < ((z :: zs).length : Int); rw [List.length_cons]; omega)]
          rfl
        rw [this, show decide (((z :: zs).length : Int) = 0) = false from decide_eq_false (by rw [List.length_cons]; omega)]
        rfl
    rw [show decide (leftV ((encs ([] : List PV) ++ more, true, false) : RV) = (more.length : Int)) = true from decide_eq_true e1, e2]
    rfl
  | succ j ih =>
    intro k i x hi hk hx
    obtain ⟨k, rfl⟩ : ∃ q, k = q + 1 := ⟨k - 1, by omega⟩
    refine (wc_s2 _ L0 K l more i x _).trans ?_
    have hlt : i < l.length := by omega
    obtain ⟨b, hb⟩ := Option.isSome_iff_exists.1 (he i hlt)
    have hpi := hp _ (List.getElem_mem hlt)
    have hle := (encs_less l hp hl ht i).1
    have hxl := cut_len hx
    have hbk := (enc_back hpi hb (encs (l.drop (i + 1)) ++ more)).1
    have hed := encs_drop l hlt hb
    rw [hed] at hx
    have hcb := cut_back hpi hb hx
    rw [show decide ((i : Int) < (l.length : Int)) = true from decide_eq_true (by omega), cond_true, ck_pos (by omega), getl l hlt]
    simp only [Option.bind_some]
    rw [ck_pos (by omega), ck_pos (by omega), ck_pos (by show (encs (l.drop i) ++ more).length < 100000; rw [List.length_append]; omega), hed, List.append_assoc, hbk, wrapS (by omega)]
    have e := ih k (i + 1) _ (by omega) (by omega) hcb
    rw [show ((i + 1 : Nat) : Int) = (i : Int) + 1 by omega] at e
    exact e
include hp hl ht hm in
theorem cuts_0 (at' : Int) : ∀ (j k i : Nat), i + j = l.length → 0 < i → j < k → (∀ q (h : q < l.length), q < i → (encV l[q]).isSome = true) →
    LX Try.prog G6 lv7 0 (codeOf Try.f7) k 0 ⟨[(0, .dat (.sl PT) l), (1, .dat I64 at'), (2, .dat BL more), (7, .view 0), (8, .dat I64 (i : Int))], [.row 5 U8 (encs (l.take i)) .own]⟩ (endX Try.prog G6 lv7 Try.f7 0 (LX Try.prog G6 lv7 0 (codeOf Try.f7) 60) K 0) = K (.dat .bool true) [] := by
  intro j
  induction j with
  | zero =>
    intro k i hi h0i hk he
    obtain ⟨k, rfl⟩ : ∃ q, k = q + 1 := ⟨k - 1, by omega⟩
    refine (wc_sv _ _ K l at' more i _).trans ?_
    have h0 : l.take i = l := List.take_of_length_le (by omega)
    have h1 := (encs_less l hp hl ht 0).1
    rw [List.drop_zero] at h1
    rw [h0, show decide ((i : Int) < (l.length : Int)) = false from decide_eq_false (by omega), cond_false]
    by_cases hz : (encs l).length = 0
    · rw [show decide (((encs l).length : Int) = 0) = true from decide_eq_true (by omega), cond_true]
    · rw [show decide (((encs l).length : Int) = 0) = false from decide_eq_false (by omega), cond_false]
      have ew : IntKind.u64.wrap ((encs l).length : Int) = ((encs l).length : Int) := by rw [IntKind.wrap_u64]; omega
      rw [ew]
      have hn : 0 ≤ IntKind.u64.wrap at' := by rw [IntKind.wrap_u64]; omega
      have hm0 := Int.tmod_nonneg ((encs l).length : Int) hn
      have hm1 := Int.tmod_lt_of_pos (IntKind.u64.wrap at') (show (0 : Int) < ((encs l).length : Int) by omega)
      generalize Int.tmod (IntKind.u64.wrap at') ((encs l).length : Int) = n at hm0 hm1 ⊢
      rw [wrapS (by omega), ck_pos (by omega), ck_pos (by omega), ck_pos (by omega), ck_pos (by unfold limit; omega), ck_pos (by unfold limit; omega), ck_pos (by rw [List.length_append]; omega)]
      exact cuts_2 K l hp hl ht more hm _ (fun q h => he q h (by omega)) l.length 60 0 _ (by omega) (by omega) (.inr ⟨n.toNat, by rw [List.drop_zero]; omega, rfl⟩)
  | succ j ih =>
    intro k i hi h0i hk he
    obtain ⟨k, rfl⟩ : ∃ q, k = q + 1 := ⟨k - 1, by omega⟩
    refine (wc_sv _ _ K l at' more i _).trans ?_
    have hlt : i < l.length := by omega
    have h1 := (encs_less l hp hl ht (i + 1)).2
    have h2 : l[i].2.2.2.2.length < 500000 := by
      have := tot_take l hlt
      have := tot_le l (i + 1)
      omega
    rw [show decide ((i : Int) < (l.length : Int)) = true from decide_eq_true (by omega), cond_true, ck_pos (by omega), getl l hlt]
    simp only [Option.bind_some]
    rw [ck_pos h2]
    cases hb : encV l[i] with
    | none => rfl
    | some b =>
      rw [encs_snoc l hlt hb, List.length_append] at h1
      show ck _ _ = _
      rw [ck_pos (by unfold limit; omega), wrapS (by omega)]
      have e := ih k (i + 1) (by omega) (by omega) (by omega) (fun q h hq => by
        by_cases c : q = i
        · subst c; rw [hb]; rfl
        · exact he q h (by omega))
      rw [show ((i + 1 : Nat) : Int) = (i : Int) + 1 by omega, encs_snoc l hlt hb] at e
      exact e
end
theorem cuts_true {R : Type} (K : KV R) (l : List PV) (hp : ∀ p ∈ l, PartOk p) (hb : ∀ p ∈ l, p.2.2.2.2.length ≤ 140737488351232) (at' : Int) (more : List Int) : (codeX Try.prog G6 lv7 60 Try.f7).run [.dat (.sl PT) l, .dat I64 at', .dat BL more] [] K = K (.dat .bool true) [] := by
  refine (wc_0 _ K l at' more).trans ?_
  rw [ck_pos hb]
  cases hf : fewV l with
  | false => rfl
  | true =>
    obtain ⟨h1, h2⟩ := of_decide_eq_true (show decide (l.length ≤ 40 ∧ tot l ≤ 20000) = true from hf)
    rw [Bool.not_true, cond_false]
    by_cases hm : (300 : Int) < (more.length : Int)
    · rw [decide_eq_true hm, cond_true]
    rw [decide_eq_false hm, cond_false]
    refine (wc_sn (LX Try.prog G6 lv7 0 (codeOf Try.f7) 59) (LX Try.prog G6 lv7 0 (codeOf Try.f7) 60) K l at' more 0).trans ?_
    by_cases h0 : l.length = 0
    · rw [show decide ((0 : Int) < (l.length : Int)) = false from decide_eq_false (by omega), cond_false]
    · have hlt : 0 < l.length := by omega
      have hs := (encs_less l hp h1 h2 1).2
      have h3 : l[0].2.2.2.2.length < 500000 := by
        have := tot_take l hlt
        have := tot_le l (0 + 1)
        omega
      rw [show decide ((0 : Int) < (l.length : Int)) = true from decide_eq_true (by omega), cond_true, ck_pos (by omega), show l[Int.toNat 0]? = some l[0] from getl l (i := 0) hlt]
      simp only [Option.bind_some]
      rw [ck_pos h3]
      cases hb0 : encV l[0] with
      | none => rfl
      | some b =>
        have hsn := encs_snoc l hlt hb0
        rw [List.take_zero] at hsn
        have hsn : encs (l.take 1) = b := hsn
        rw [hsn] at hs
        show ck _ _ = _
        rw [ck_pos (by unfold limit; omega), wrapS (by omega)]
        have e := cuts_0 K l hp h1 h2 more (by omega) at' (l.length - 1) 59 1 (by omega) (by omega) (by omega) (fun q h hq => by
          obtain rfl : q = 0 := by omega
          rw [hb0]; rfl)
        rw [hsn] at e
        exact e
theorem WireCuts_ok : SumOk Try.prog 7 (codeX Try.prog G6 lv7 60 Try.f7) := codeX_ok mixed noNG_prog (sums_call all6) (sums_prim all6) rfl lv7 60
theorem WireCuts_law (l : List PV) (h : LOk1 l) (at' : Int) (_ : (Lit.int .i64 at').wf = true) (more : List Int) (_ : more.length ≤ 140737488351232 ∧ ∀ x ∈ more, (Lit.int .u8 x).wf = true) : (codeX Try.prog G6 lv7 60 Try.f7).run [.dat (.sl PT) l, .dat I64 at', .dat BL more] [] isTrue = some true := cuts_true isTrue l (parts_ok h).1 (parts_ok h).2 at' more
end Go.Mx
