/- Own work. A part of the proof of a law of this seat: this seat's functions, by the machine, and the plain law. -/
import Derived.Test.YtkmabfamdonfoaaDoorWd
import Derived.Test.YtkmabfamdonfoaaDoorWc
import Derived.Test.YtkmabfamdonfoaaDoorMf
set_option linter.unusedVariables false
set_option linter.unusedSimpArgs false
set_option linter.unusedSectionVars false
namespace Go.Mx
open Go Go.RowKit Go.Sx Go.Proofs
set_option maxRecDepth 100000
def finR (c : CV) (e : Int) : CV × Int := cond (decide (e = 0) && mayM c) (c, 0) (zeroC 0, 2)
def rofX (b : List Int) : CV × RV := rdAll (psOf (IntKind.wrap .i64 (numV (newV b) 1))) (zeroC (IntKind.wrap .i64 (numV (newV b) 1))) (numS (newV b) 1)
def rofBad (b : List Int) : Bool := decide (IntKind.wrap .i64 (numV (newV b) 1) = 17) && decide (1 < numV (rdS .key (numS (newV b) 1)) 1)
def rofM (b : List Int) : CV × Int := cond (rofBad b) (zeroC 0, 2) (finR (joinT (rofX b).1) (endV (rofX b).2))
theorem finR_K {R : Type} (K : KV R) (c : CV) (e : Int) : (bif !decide (e = 0) then K (.tup [.dat CT (zeroC 0), .dat I64 2]) [] else bif !mayM c then K (.tup [.dat CT (zeroC 0), .dat I64 2]) [] else K (.tup [.dat CT c, .dat I64 0]) []) = K (.tup [.dat CT (finR c e).1, .dat I64 (finR c e).2]) [] := by
  unfold finR
  cases decide (e = 0) <;> cases mayM c <;> rfl
theorem wf_rd (p : PK) (c : CV) {x : RV} (h : Bytes x.1) (hc : wfC c) : wfC (rdC p c x) := by
  cases p with
  | perm =>
    refine ⟨?_, hc.2⟩
    show 0 ≤ IntKind.wrap .u32 (numV x 4) ∧ IntKind.wrap .u32 (numV x 4) < 4294967296
    rw [IntKind.wrap_u32]; omega
  | time =>
    obtain ⟨h1, h2⟩ := numV_lt h (m := 8) (by omega) (by omega)
    exact ⟨hc.1, h1, h2⟩
  | _ => exact hc
theorem wf_all : ∀ (l : List PK) (c : CV) {x : RV}, Bytes x.1 → wfC c → wfC (rdAll l c x).1
  | [], c, x, h, hc => hc
  | p :: l, c, x, h, hc => wf_all l _ (rdS_bytes h p) (wf_rd p c h hc)
theorem wf_join (c : CV) (h : wfC c) : wfC (joinT c) := by
  unfold joinT
  cases decide (c.1 = (18 : Int)) with
  | false => exact h
  | true => exact h
theorem wf_zero (o : Int) : wfC (zeroC o) := ⟨⟨Int.le_refl _, by show (0 : Int) < 4294967296; omega⟩, Int.le_refl _, by show (0 : Int) < 18446744073709551616; omega⟩
theorem wf_of (b : List Int) (hb : Bytes b) : wfC (joinT (rofX b).1) := wf_join _ (wf_all _ _ (takeS_bytes (x := newV b) hb _) (wf_zero _))
theorem rofb_1 {R : Type} (K : KV R) (b : List Int) (hb : Bytes b) (hl : b.length ≤ 10000) (hk : numV (newV b) 1 = 1) : (codeX Tryd.prog (G25d 1 ⟨#[114, 105, 112]⟩) lv25c 8 Tryd.f25).run [.dat BL b] [] K = K (.tup [.dat CT (rofM b).1, .dat I64 (rofM b).2]) [] := by
  have S0 := sim_new hb (show b.length < 100000 by omega)
  obtain ⟨n0, S1, _, _⟩ := sim_num S0 1
  obtain ⟨n1, S2, _, _⟩ := sim_num S1 4
  have w1 := sim_whole S1
  obtain ⟨n2, S3, n2a, _⟩ := sim_num S2 1
  obtain ⟨g3, S4, c3⟩ := sim_blob S3 1
  have l3 : (rnumS (rnumS (rnumS (b, false) 1) 4) 1).1.length < 100000 := by rw [← S3.rest]; exact S3.len
  obtain ⟨g4, S5, c4⟩ := sim_blob S4 2
  have l4 : (rblobS (rnumS (rnumS (rnumS (b, false) 1) 4) 1) 1).1.length < 100000 := by rw [← S4.rest]; exact S4.len
  have E := sim_end S5
  have ex : joinT (rofX b).1 = (((1 : Int), 0, wholeV (numV (numS (newV b) 1) 4), 0, (IntKind.wrap .i64 (numV (numS (numS (newV b) 1) 4) 1), strOf (blobV (numS (numS (numS (newV b) 1) 4) 1) 1)), strOf (blobV (blobS (numS (numS (numS (newV b) 1) 4) 1) 1) 2), 0, 0, 0, 0, 0, false) : CV) ∧ (rofX b).2 = (blobS (blobS (numS (numS (numS (newV b) 1) 4) 1) 1) 2) := by unfold rofX; rw [hk]; exact ⟨rfl, rfl⟩
  have hwf := wf_of b hb
  rw [ex.1] at hwf
  have eb : rofBad b = false := by unfold rofBad; rw [hk]; rfl
  have em : rofM b = finR (((1 : Int), 0, wholeV (numV (numS (newV b) 1) 4), 0, (IntKind.wrap .i64 (numV (numS (numS (newV b) 1) 4) 1), strOf (blobV (numS (numS (numS (newV b) 1) 4) 1) 1)), strOf (blobV (blobS (numS (numS (numS (newV b) 1) 4) 1) 1) 2), 0, 0, 0, 0, 0, false) : CV) (endV (blobS (blobS (numS (numS (numS (newV b) 1) 4) 1) 1) 2)) := by unfold rofM; rw [eb, ex.1, ex.2]; rfl
  rw [em]
  refine (rof_1 K b).trans ?_
  rw [ck_pos (show List.length b * 1 ≤ limit by unfold limit; omega), ← n0, hk, ck_pos (show IntKind.wrap .i64 1 = 1 from rfl)]
  rw [ck_pos (show (rnumS (rnumS (rnumS (b, false) 1) 4) 1).1.length < 100000 ∧ (¬ ((1 : Int) = 1 ∨ (1 : Int) = 2) ∨ 0 ≤ rblobN (rnumS (rnumS (rnumS (b, false) 1) 4) 1) 1) from ⟨l3, g3⟩)]
  have k2 : (rblobS (rnumS (rnumS (rnumS (b, false) 1) 4) 1) 1).1.length < 100000 ∧ (¬ ((2 : Int) = 1 ∨ (2 : Int) = 2) ∨ 0 ≤ rblobN (rblobS (rnumS (rnumS (rnumS (b, false) 1) 4) 1) 1) 2) := ⟨l4, g4⟩
  cases hb3 : rbBad (rnumS (rnumS (rnumS (b, false) 1) 4) 1) 1
  · have c' : blobV (numS (numS (numS (newV b) 1) 4) 1) 1 = rblobV (rnumS (rnumS (rnumS (b, false) 1) 4) 1) 1 := by rw [c3, hb3]; rfl
    rw [cond_false, ck_pos k2]
    cases hb4 : rbBad (rblobS (rnumS (rnumS (rnumS (b, false) 1) 4) 1) 1) 2
    · have c'' : blobV (blobS (numS (numS (numS (newV b) 1) 4) 1) 1) 2 = rblobV (rblobS (rnumS (rnumS (rnumS (b, false) 1) 4) 1) 1) 2 := by rw [c4, hb4]; rfl
      rw [cond_false]
      rw [← w1, ← n2, ← E]
      refine Eq.trans ?_ (finR_K K (((1 : Int), 0, wholeV (numV (numS (newV b) 1) 4), 0, (IntKind.wrap .i64 (numV (numS (numS (newV b) 1) 4) 1), strOf (blobV (numS (numS (numS (newV b) 1) 4) 1) 1)), strOf (blobV (blobS (numS (numS (numS (newV b) 1) 4) 1) 1) 2), 0, 0, 0, 0, 0, false) : CV) (endV (blobS (blobS (numS (numS (numS (newV b) 1) 4) 1) 1) 2)))
      rw [c', c'']
      rfl
    · have c'' : blobV (blobS (numS (numS (numS (newV b) 1) 4) 1) 1) 2 = [] := by rw [c4, hb4]; rfl
      rw [cond_true]
      rw [← w1, ← n2, ← E]
      refine Eq.trans ?_ (finR_K K (((1 : Int), 0, wholeV (numV (numS (newV b) 1) 4), 0, (IntKind.wrap .i64 (numV (numS (numS (newV b) 1) 4) 1), strOf (blobV (numS (numS (numS (newV b) 1) 4) 1) 1)), strOf (blobV (blobS (numS (numS (numS (newV b) 1) 4) 1) 1) 2), 0, 0, 0, 0, 0, false) : CV) (endV (blobS (blobS (numS (numS (numS (newV b) 1) 4) 1) 1) 2)))
      rw [c', c'']
      rfl
  · have c' : blobV (numS (numS (numS (newV b) 1) 4) 1) 1 = [] := by rw [c3, hb3]; rfl
    rw [cond_true, ck_pos k2]
    cases hb4 : rbBad (rblobS (rnumS (rnumS (rnumS (b, false) 1) 4) 1) 1) 2
    · have c'' : blobV (blobS (numS (numS (numS (newV b) 1) 4) 1) 1) 2 = rblobV (rblobS (rnumS (rnumS (rnumS (b, false) 1) 4) 1) 1) 2 := by rw [c4, hb4]; rfl
      rw [cond_false]
      rw [← w1, ← n2, ← E]
      refine Eq.trans ?_ (finR_K K (((1 : Int), 0, wholeV (numV (numS (newV b) 1) 4), 0, (IntKind.wrap .i64 (numV (numS (numS (newV b) 1) 4) 1), strOf (blobV (numS (numS (numS (newV b) 1) 4) 1) 1)), strOf (blobV (blobS (numS (numS (numS (newV b) 1) 4) 1) 1) 2), 0, 0, 0, 0, 0, false) : CV) (endV (blobS (blobS (numS (numS (numS (newV b) 1) 4) 1) 1) 2)))
      rw [c', c'']
      rfl
    · have c'' : blobV (blobS (numS (numS (numS (newV b) 1) 4) 1) 1) 2 = [] := by rw [c4, hb4]; rfl
      rw [cond_true]
      rw [← w1, ← n2, ← E]
      refine Eq.trans ?_ (finR_K K (((1 : Int), 0, wholeV (numV (numS (newV b) 1) 4), 0, (IntKind.wrap .i64 (numV (numS (numS (newV b) 1) 4) 1), strOf (blobV (numS (numS (numS (newV b) 1) 4) 1) 1)), strOf (blobV (blobS (numS (numS (numS (newV b) 1) 4) 1) 1) 2), 0, 0, 0, 0, 0, false) : CV) (endV (blobS (blobS (numS (numS (numS (newV b) 1) 4) 1) 1) 2)))
      rw [c', c'']
      rfl
theorem rofb_2 {R : Type} (K : KV R) (b : List Int) (hb : Bytes b) (hl : b.length ≤ 10000) (hk : numV (newV b) 1 = 2) : (codeX Tryd.prog (G25d 2 ⟨#[105]⟩) lv25c 8 Tryd.f25).run [.dat BL b] [] K = K (.tup [.dat CT (rofM b).1, .dat I64 (rofM b).2]) [] := by
  have S0 := sim_new hb (show b.length < 100000 by omega)
  obtain ⟨n0, S1, _, _⟩ := sim_num S0 1
  obtain ⟨n1, S2, n1a, _⟩ := sim_num S1 1
  obtain ⟨g2, S3, c2⟩ := sim_blob S2 1
  have l2 : (rnumS (rnumS (b, false) 1) 1).1.length < 100000 := by rw [← S2.rest]; exact S2.len
  have E := sim_end S3
  have ex : joinT (rofX b).1 = (((2 : Int), 0, 0, 0, (IntKind.wrap .i64 (numV (numS (newV b) 1) 1), strOf (blobV (numS (numS (newV b) 1) 1) 1)), ⟨#[]⟩, 0, 0, 0, 0, 0, false) : CV) ∧ (rofX b).2 = (blobS (numS (numS (newV b) 1) 1) 1) := by unfold rofX; rw [hk]; exact ⟨rfl, rfl⟩
  have hwf := wf_of b hb
  rw [ex.1] at hwf
  have eb : rofBad b = false := by unfold rofBad; rw [hk]; rfl
  have em : rofM b = finR (((2 : Int), 0, 0, 0, (IntKind.wrap .i64 (numV (numS (newV b) 1) 1), strOf (blobV (numS (numS (newV b) 1) 1) 1)), ⟨#[]⟩, 0, 0, 0, 0, 0, false) : CV) (endV (blobS (numS (numS (newV b) 1) 1) 1)) := by unfold rofM; rw [eb, ex.1, ex.2]; rfl
  rw [em]
  refine (rof_2 K b).trans ?_
  rw [ck_pos (show List.length b * 1 ≤ limit by unfold limit; omega), ← n0, hk, ck_pos (show IntKind.wrap .i64 2 = 2 from rfl)]
  rw [ck_pos (show (rnumS (rnumS (b, false) 1) 1).1.length < 100000 ∧ (¬ ((1 : Int) = 1 ∨ (1 : Int) = 2) ∨ 0 ≤ rblobN (rnumS (rnumS (b, false) 1) 1) 1) from ⟨l2, g2⟩)]
  cases hb2 : rbBad (rnumS (rnumS (b, false) 1) 1) 1
  · have c' : blobV (numS (numS (newV b) 1) 1) 1 = rblobV (rnumS (rnumS (b, false) 1) 1) 1 := by rw [c2, hb2]; rfl
    rw [cond_false]
    rw [← n1, ← E]
    refine Eq.trans ?_ (finR_K K (((2 : Int), 0, 0, 0, (IntKind.wrap .i64 (numV (numS (newV b) 1) 1), strOf (blobV (numS (numS (newV b) 1) 1) 1)), ⟨#[]⟩, 0, 0, 0, 0, 0, false) : CV) (endV (blobS (numS (numS (newV b) 1) 1) 1)))
    rw [c']
    rfl
  · have c' : blobV (numS (numS (newV b) 1) 1) 1 = [] := by rw [c2, hb2]; rfl
    rw [cond_true]
    rw [← n1, ← E]
    refine Eq.trans ?_ (finR_K K (((2 : Int), 0, 0, 0, (IntKind.wrap .i64 (numV (numS (newV b) 1) 1), strOf (blobV (numS (numS (newV b) 1) 1) 1)), ⟨#[]⟩, 0, 0, 0, 0, 0, false) : CV) (endV (blobS (numS (numS (newV b) 1) 1) 1)))
    rw [c']
    rfl
theorem rofb_3 {R : Type} (K : KV R) (b : List Int) (hb : Bytes b) (hl : b.length ≤ 10000) (hk : numV (newV b) 1 = 3) : (codeX Tryd.prog (G25d 3 ⟨#[114, 105]⟩) lv25c 8 Tryd.f25).run [.dat BL b] [] K = K (.tup [.dat CT (rofM b).1, .dat I64 (rofM b).2]) [] := by
  have S0 := sim_new hb (show b.length < 100000 by omega)
  obtain ⟨n0, S1, _, _⟩ := sim_num S0 1
  obtain ⟨n1, S2, _, _⟩ := sim_num S1 4
  have w1 := sim_whole S1
  obtain ⟨n2, S3, n2a, _⟩ := sim_num S2 1
  obtain ⟨g3, S4, c3⟩ := sim_blob S3 1
  have l3 : (rnumS (rnumS (rnumS (b, false) 1) 4) 1).1.length < 100000 := by rw [← S3.rest]; exact S3.len
  have E := sim_end S4
  have ex : joinT (rofX b).1 = (((3 : Int), 0, wholeV (numV (numS (newV b) 1) 4), 0, (IntKind.wrap .i64 (numV (numS (numS (newV b) 1) 4) 1), strOf (blobV (numS (numS (numS (newV b) 1) 4) 1) 1)), ⟨#[]⟩, 0, 0, 0, 0, 0, false) : CV) ∧ (rofX b).2 = (blobS (numS (numS (numS (newV b) 1) 4) 1) 1) := by unfold rofX; rw [hk]; exact ⟨rfl, rfl⟩
  have hwf := wf_of b hb
  rw [ex.1] at hwf
  have eb : rofBad b = false := by unfold rofBad; rw [hk]; rfl
  have em : rofM b = finR (((3 : Int), 0, wholeV (numV (numS (newV b) 1) 4), 0, (IntKind.wrap .i64 (numV (numS (numS (newV b) 1) 4) 1), strOf (blobV (numS (numS (numS (newV b) 1) 4) 1) 1)), ⟨#[]⟩, 0, 0, 0, 0, 0, false) : CV) (endV (blobS (numS (numS (numS (newV b) 1) 4) 1) 1)) := by unfold rofM; rw [eb, ex.1, ex.2]; rfl
  rw [em]
  refine (rof_3 K b).trans ?_
  rw [ck_pos (show List.length b * 1 ≤ limit by unfold limit; omega), ← n0, hk, ck_pos (show IntKind.wrap .i64 3 = 3 from rfl)]
  rw [ck_pos (show (rnumS (rnumS (rnumS (b, false) 1) 4) 1).1.length < 100000 ∧ (¬ ((1 : Int) = 1 ∨ (1 : Int) = 2) ∨ 0 ≤ rblobN (rnumS (rnumS (rnumS (b, false) 1) 4) 1) 1) from ⟨l3, g3⟩)]
  cases hb3 : rbBad (rnumS (rnumS (rnumS (b, false) 1) 4) 1) 1
  · have c' : blobV (numS (numS (numS (newV b) 1) 4) 1) 1 = rblobV (rnumS (rnumS (rnumS (b, false) 1) 4) 1) 1 := by rw [c3, hb3]; rfl
    rw [cond_false]
    rw [← w1, ← n2, ← E]
    refine Eq.trans ?_ (finR_K K (((3 : Int), 0, wholeV (numV (numS (newV b) 1) 4), 0, (IntKind.wrap .i64 (numV (numS (numS (newV b) 1) 4) 1), strOf (blobV (numS (numS (numS (newV b) 1) 4) 1) 1)), ⟨#[]⟩, 0, 0, 0, 0, 0, false) : CV) (endV (blobS (numS (numS (numS (newV b) 1) 4) 1) 1)))
    rw [c']
    rfl
  · have c' : blobV (numS (numS (numS (newV b) 1) 4) 1) 1 = [] := by rw [c3, hb3]; rfl
    rw [cond_true]
    rw [← w1, ← n2, ← E]
    refine Eq.trans ?_ (finR_K K (((3 : Int), 0, wholeV (numV (numS (newV b) 1) 4), 0, (IntKind.wrap .i64 (numV (numS (numS (newV b) 1) 4) 1), strOf (blobV (numS (numS (numS (newV b) 1) 4) 1) 1)), ⟨#[]⟩, 0, 0, 0, 0, 0, false) : CV) (endV (blobS (numS (numS (numS (newV b) 1) 4) 1) 1)))
    rw [c']
    rfl
theorem rofb_4 {R : Type} (K : KV R) (b : List Int) (hb : Bytes b) (hl : b.length ≤ 10000) (hk : numV (newV b) 1 = 4) : (codeX Tryd.prog (G25d 4 ⟨#[107]⟩) lv25c 8 Tryd.f25).run [.dat BL b] [] K = K (.tup [.dat CT (rofM b).1, .dat I64 (rofM b).2]) [] := by
  have S0 := sim_new hb (show b.length < 100000 by omega)
  obtain ⟨n0, S1, _, _⟩ := sim_num S0 1
  obtain ⟨n1, S2, _, _⟩ := sim_num S1 4
  have w1 := sim_whole S1
  have E := sim_end S2
  have ex : joinT (rofX b).1 = (((4 : Int), wholeV (numV (numS (newV b) 1) 4), 0, 0, (0, ⟨#[]⟩), ⟨#[]⟩, 0, 0, 0, 0, 0, false) : CV) ∧ (rofX b).2 = (numS (numS (newV b) 1) 4) := by unfold rofX; rw [hk]; exact ⟨rfl, rfl⟩
  have hwf := wf_of b hb
  rw [ex.1] at hwf
  have eb : rofBad b = false := by unfold rofBad; rw [hk]; rfl
  have em : rofM b = finR (((4 : Int), wholeV (numV (numS (newV b) 1) 4), 0, 0, (0, ⟨#[]⟩), ⟨#[]⟩, 0, 0, 0, 0, 0, false) : CV) (endV (numS (numS (newV b) 1) 4)) := by unfold rofM; rw [eb, ex.1, ex.2]; rfl
  rw [em]
  refine (rof_4 K b).trans ?_
  rw [ck_pos (show List.length b * 1 ≤ limit by unfold limit; omega), ← n0, hk, ck_pos (show IntKind.wrap .i64 4 = 4 from rfl)]
  rw [← w1, ← E]
  exact finR_K K (((4 : Int), wholeV (numV (numS (newV b) 1) 4), 0, 0, (0, ⟨#[]⟩), ⟨#[]⟩, 0, 0, 0, 0, 0, false) : CV) (endV (numS (numS (newV b) 1) 4))
theorem rofb_5 {R : Type} (K : KV R) (b : List Int) (hb : Bytes b) (hl : b.length ≤ 10000) (hk : numV (newV b) 1 = 5) : (codeX Tryd.prog (G25d 5 ⟨#[107, 112]⟩) lv25c 8 Tryd.f25).run [.dat BL b] [] K = K (.tup [.dat CT (rofM b).1, .dat I64 (rofM b).2]) [] := by
  have S0 := sim_new hb (show b.length < 100000 by omega)
  obtain ⟨n0, S1, _, _⟩ := sim_num S0 1
  obtain ⟨n1, S2, _, _⟩ := sim_num S1 4
  have w1 := sim_whole S1
  obtain ⟨g2, S3, c2⟩ := sim_blob S2 2
  have l2 : (rnumS (rnumS (b, false) 1) 4).1.length < 100000 := by rw [← S2.rest]; exact S2.len
  have E := sim_end S3
  have ex : joinT (rofX b).1 = (((5 : Int), wholeV (numV (numS (newV b) 1) 4), 0, 0, (0, ⟨#[]⟩), strOf (blobV (numS (numS (newV b) 1) 4) 2), 0, 0, 0, 0, 0, false) : CV) ∧ (rofX b).2 = (blobS (numS (numS (newV b) 1) 4) 2) := by unfold rofX; rw [hk]; exact ⟨rfl, rfl⟩
  have hwf := wf_of b hb
  rw [ex.1] at hwf
  have eb : rofBad b = false := by unfold rofBad; rw [hk]; rfl
  have em : rofM b = finR (((5 : Int), wholeV (numV (numS (newV b) 1) 4), 0, 0, (0, ⟨#[]⟩), strOf (blobV (numS (numS (newV b) 1) 4) 2), 0, 0, 0, 0, 0, false) : CV) (endV (blobS (numS (numS (newV b) 1) 4) 2)) := by unfold rofM; rw [eb, ex.1, ex.2]; rfl
  rw [em]
  refine (rof_5 K b).trans ?_
  rw [ck_pos (show List.length b * 1 ≤ limit by unfold limit; omega), ← n0, hk, ck_pos (show IntKind.wrap .i64 5 = 5 from rfl)]
  rw [ck_pos (show (rnumS (rnumS (b, false) 1) 4).1.length < 100000 ∧ (¬ ((2 : Int) = 1 ∨ (2 : Int) = 2) ∨ 0 ≤ rblobN (rnumS (rnumS (b, false) 1) 4) 2) from ⟨l2, g2⟩)]
  cases hb2 : rbBad (rnumS (rnumS (b, false) 1) 4) 2
  · have c' : blobV (numS (numS (newV b) 1) 4) 2 = rblobV (rnumS (rnumS (b, false) 1) 4) 2 := by rw [c2, hb2]; rfl
    rw [cond_false]
    rw [← w1, ← E]
    refine Eq.trans ?_ (finR_K K (((5 : Int), wholeV (numV (numS (newV b) 1) 4), 0, 0, (0, ⟨#[]⟩), strOf (blobV (numS (numS (newV b) 1) 4) 2), 0, 0, 0, 0, 0, false) : CV) (endV (blobS (numS (numS (newV b) 1) 4) 2)))
    rw [c']
    rfl
  · have c' : blobV (numS (numS (newV b) 1) 4) 2 = [] := by rw [c2, hb2]; rfl
    rw [cond_true]
    rw [← w1, ← E]
    refine Eq.trans ?_ (finR_K K (((5 : Int), wholeV (numV (numS (newV b) 1) 4), 0, 0, (0, ⟨#[]⟩), strOf (blobV (numS (numS (newV b) 1) 4) 2), 0, 0, 0, 0, 0, false) : CV) (endV (blobS (numS (numS (newV b) 1) 4) 2)))
    rw [c']
    rfl
theorem rofb_6 {R : Type} (K : KV R) (b : List Int) (hb : Bytes b) (hl : b.length ≤ 10000) (hk : numV (newV b) 1 = 6) : (codeX Tryd.prog (G25d 6 ⟨#[107]⟩) lv25c 8 Tryd.f25).run [.dat BL b] [] K = K (.tup [.dat CT (rofM b).1, .dat I64 (rofM b).2]) [] := by
  have S0 := sim_new hb (show b.length < 100000 by omega)
  obtain ⟨n0, S1, _, _⟩ := sim_num S0 1
  obtain ⟨n1, S2, _, _⟩ := sim_num S1 4
  have w1 := sim_whole S1
  have E := sim_end S2
  have ex : joinT (rofX b).1 = (((6 : Int), wholeV (numV (numS (newV b) 1) 4), 0, 0, (0, ⟨#[]⟩), ⟨#[]⟩, 0, 0, 0, 0, 0, false) : CV) ∧ (rofX b).2 = (numS (numS (newV b) 1) 4) := by unfold rofX; rw [hk]; exact ⟨rfl, rfl⟩
  have hwf := wf_of b hb
  rw [ex.1] at hwf
  have eb : rofBad b = false := by unfold rofBad; rw [hk]; rfl
  have em : rofM b = finR (((6 : Int), wholeV (numV (numS (newV b) 1) 4), 0, 0, (0, ⟨#[]⟩), ⟨#[]⟩, 0, 0, 0, 0, 0, false) : CV) (endV (numS (numS (newV b) 1) 4)) := by unfold rofM; rw [eb, ex.1, ex.2]; rfl
  rw [em]
  refine (rof_6 K b).trans ?_
  rw [ck_pos (show List.length b * 1 ≤ limit by unfold limit; omega), ← n0, hk, ck_pos (show IntKind.wrap .i64 6 = 6 from rfl)]
  rw [← w1, ← E]
  exact finR_K K (((6 : Int), wholeV (numV (numS (newV b) 1) 4), 0, 0, (0, ⟨#[]⟩), ⟨#[]⟩, 0, 0, 0, 0, 0, false) : CV) (endV (numS (numS (newV b) 1) 4))
theorem rofb_7 {R : Type} (K : KV R) (b : List Int) (hb : Bytes b) (hl : b.length ≤ 10000) (hk : numV (newV b) 1 = 7) : (codeX Tryd.prog (G25d 7 ⟨#[107, 114]⟩) lv25c 8 Tryd.f25).run [.dat BL b] [] K = K (.tup [.dat CT (rofM b).1, .dat I64 (rofM b).2]) [] := by
  have S0 := sim_new hb (show b.length < 100000 by omega)
  obtain ⟨n0, S1, _, _⟩ := sim_num S0 1
  obtain ⟨n1, S2, _, _⟩ := sim_num S1 4
  have w1 := sim_whole S1
  obtain ⟨n2, S3, _, _⟩ := sim_num S2 4
  have w2 := sim_whole S2
  have E := sim_end S3
  have ex : joinT (rofX b).1 = (((7 : Int), wholeV (numV (numS (newV b) 1) 4), wholeV (numV (numS (numS (newV b) 1) 4) 4), 0, (0, ⟨#[]⟩), ⟨#[]⟩, 0, 0, 0, 0, 0, false) : CV) ∧ (rofX b).2 = (numS (numS (numS (newV b) 1) 4) 4) := by unfold rofX; rw [hk]; exact ⟨rfl, rfl⟩
  have hwf := wf_of b hb
  rw [ex.1] at hwf
  have eb : rofBad b = false := by unfold rofBad; rw [hk]; rfl
  have em : rofM b = finR (((7 : Int), wholeV (numV (numS (newV b) 1) 4), wholeV (numV (numS (numS (newV b) 1) 4) 4), 0, (0, ⟨#[]⟩), ⟨#[]⟩, 0, 0, 0, 0, 0, false) : CV) (endV (numS (numS (numS (newV b) 1) 4) 4)) := by unfold rofM; rw [eb, ex.1, ex.2]; rfl
  rw [em]
  refine (rof_7 K b).trans ?_
  rw [ck_pos (show List.length b * 1 ≤ limit by unfold limit; omega), ← n0, hk, ck_pos (show IntKind.wrap .i64 7 = 7 from rfl)]
  rw [← w1, ← w2, ← E]
  exact finR_K K (((7 : Int), wholeV (numV (numS (newV b) 1) 4), wholeV (numV (numS (numS (newV b) 1) 4) 4), 0, (0, ⟨#[]⟩), ⟨#[]⟩, 0, 0, 0, 0, 0, false) : CV) (endV (numS (numS (numS (newV b) 1) 4) 4))
theorem rofb_8 {R : Type} (K : KV R) (b : List Int) (hb : Bytes b) (hl : b.length ≤ 10000) (hk : numV (newV b) 1 = 8) : (codeX Tryd.prog (G25d 8 ⟨#[107, 114]⟩) lv25c 8 Tryd.f25).run [.dat BL b] [] K = K (.tup [.dat CT (rofM b).1, .dat I64 (rofM b).2]) [] := by
  have S0 := sim_new hb (show b.length < 100000 by omega)
  obtain ⟨n0, S1, _, _⟩ := sim_num S0 1
  obtain ⟨n1, S2, _, _⟩ := sim_num S1 4
  have w1 := sim_whole S1
  obtain ⟨n2, S3, _, _⟩ := sim_num S2 4
  have w2 := sim_whole S2
  have E := sim_end S3
  have ex : joinT (rofX b).1 = (((8 : Int), wholeV (numV (numS (newV b) 1) 4), wholeV (numV (numS (numS (newV b) 1) 4) 4), 0, (0, ⟨#[]⟩), ⟨#[]⟩, 0, 0, 0, 0, 0, false) : CV) ∧ (rofX b).2 = (numS (numS (numS (newV b) 1) 4) 4) := by unfold rofX; rw [hk]; exact ⟨rfl, rfl⟩
  have hwf := wf_of b hb
  rw [ex.1] at hwf
  have eb : rofBad b = false := by unfold rofBad; rw [hk]; rfl
  have em : rofM b = finR (((8 : Int), wholeV (numV (numS (newV b) 1) 4), wholeV (numV (numS (numS (newV b) 1) 4) 4), 0, (0, ⟨#[]⟩), ⟨#[]⟩, 0, 0, 0, 0, 0, false) : CV) (endV (numS (numS (numS (newV b) 1) 4) 4)) := by unfold rofM; rw [eb, ex.1, ex.2]; rfl
  rw [em]
  refine (rof_8 K b).trans ?_
  rw [ck_pos (show List.length b * 1 ≤ limit by unfold limit; omega), ← n0, hk, ck_pos (show IntKind.wrap .i64 8 = 8 from rfl)]
  rw [← w1, ← w2, ← E]
  exact finR_K K (((8 : Int), wholeV (numV (numS (newV b) 1) 4), wholeV (numV (numS (numS (newV b) 1) 4) 4), 0, (0, ⟨#[]⟩), ⟨#[]⟩, 0, 0, 0, 0, 0, false) : CV) (endV (numS (numS (numS (newV b) 1) 4) 4))
theorem rofb_9 {R : Type} (K : KV R) (b : List Int) (hb : Bytes b) (hl : b.length ≤ 10000) (hk : numV (newV b) 1 = 9) : (codeX Tryd.prog (G25d 9 ⟨#[107, 114, 116]⟩) lv25c 8 Tryd.f25).run [.dat BL b] [] K = K (.tup [.dat CT (rofM b).1, .dat I64 (rofM b).2]) [] := by
  have S0 := sim_new hb (show b.length < 100000 by omega)
  obtain ⟨n0, S1, _, _⟩ := sim_num S0 1
  obtain ⟨n1, S2, _, _⟩ := sim_num S1 4
  have w1 := sim_whole S1
  obtain ⟨n2, S3, _, _⟩ := sim_num S2 4
  have w2 := sim_whole S2
  obtain ⟨n3, S4, _, _⟩ := sim_num S3 4
  have w3 := sim_whole S3
  have E := sim_end S4
  have ex : joinT (rofX b).1 = (((9 : Int), wholeV (numV (numS (newV b) 1) 4), wholeV (numV (numS (numS (newV b) 1) 4) 4), wholeV (numV (numS (numS (numS (newV b) 1) 4) 4) 4), (0, ⟨#[]⟩), ⟨#[]⟩, 0, 0, 0, 0, 0, false) : CV) ∧ (rofX b).2 = (numS (numS (numS (numS (newV b) 1) 4) 4) 4) := by unfold rofX; rw [hk]; exact ⟨rfl, rfl⟩
  have hwf := wf_of b hb
  rw [ex.1] at hwf
  have eb : rofBad b = false := by unfold rofBad; rw [hk]; rfl
  have em : rofM b = finR (((9 : Int), wholeV (numV (numS (newV b) 1) 4), wholeV (numV (numS (numS (newV b) 1) 4) 4), wholeV (numV (numS (numS (numS (newV b) 1) 4) 4) 4), (0, ⟨#[]⟩), ⟨#[]⟩, 0, 0, 0, 0, 0, false) : CV) (endV (numS (numS (numS (numS (newV b) 1) 4) 4) 4)) := by unfold rofM; rw [eb, ex.1, ex.2]; rfl
  rw [em]
  refine (rof_9 K b).trans ?_
  rw [ck_pos (show List.length b * 1 ≤ limit by unfold limit; omega), ← n0, hk, ck_pos (show IntKind.wrap .i64 9 = 9 from rfl)]
  rw [← w1, ← w2, ← w3, ← E]
  exact finR_K K (((9 : Int), wholeV (numV (numS (newV b) 1) 4), wholeV (numV (numS (numS (newV b) 1) 4) 4), wholeV (numV (numS (numS (numS (newV b) 1) 4) 4) 4), (0, ⟨#[]⟩), ⟨#[]⟩, 0, 0, 0, 0, 0, false) : CV) (endV (numS (numS (numS (numS (newV b) 1) 4) 4) 4))
theorem rofb_10 {R : Type} (K : KV R) (b : List Int) (hb : Bytes b) (hl : b.length ≤ 10000) (hk : numV (newV b) 1 = 10) : (codeX Tryd.prog (G25d 10 ⟨#[114]⟩) lv25c 8 Tryd.f25).run [.dat BL b] [] K = K (.tup [.dat CT (rofM b).1, .dat I64 (rofM b).2]) [] := by
  have S0 := sim_new hb (show b.length < 100000 by omega)
  obtain ⟨n0, S1, _, _⟩ := sim_num S0 1
  obtain ⟨n1, S2, _, _⟩ := sim_num S1 4
  have w1 := sim_whole S1
  have E := sim_end S2
  have ex : joinT (rofX b).1 = (((10 : Int), 0, wholeV (numV (numS (newV b) 1) 4), 0, (0, ⟨#[]⟩), ⟨#[]⟩, 0, 0, 0, 0, 0, false) : CV) ∧ (rofX b).2 = (numS (numS (newV b) 1) 4) := by unfold rofX; rw [hk]; exact ⟨rfl, rfl⟩
  have hwf := wf_of b hb
  rw [ex.1] at hwf
  have eb : rofBad b = false := by unfold rofBad; rw [hk]; rfl
  have em : rofM b = finR (((10 : Int), 0, wholeV (numV (numS (newV b) 1) 4), 0, (0, ⟨#[]⟩), ⟨#[]⟩, 0, 0, 0, 0, 0, false) : CV) (endV (numS (numS (newV b) 1) 4)) := by unfold rofM; rw [eb, ex.1, ex.2]; rfl
  rw [em]
  refine (rof_10 K b).trans ?_
  rw [ck_pos (show List.length b * 1 ≤ limit by unfold limit; omega), ← n0, hk, ck_pos (show IntKind.wrap .i64 10 = 10 from rfl)]
  rw [← w1, ← E]
  exact finR_K K (((10 : Int), 0, wholeV (numV (numS (newV b) 1) 4), 0, (0, ⟨#[]⟩), ⟨#[]⟩, 0, 0, 0, 0, 0, false) : CV) (endV (numS (numS (newV b) 1) 4))
theorem rofb_11 {R : Type} (K : KV R) (b : List Int) (hb : Bytes b) (hl : b.length ≤ 10000) (hk : numV (newV b) 1 = 11) : (codeX Tryd.prog (G25d 11 ⟨#[107, 109]⟩) lv25c 8 Tryd.f25).run [.dat BL b] [] K = K (.tup [.dat CT (rofM b).1, .dat I64 (rofM b).2]) [] := by
  have S0 := sim_new hb (show b.length < 100000 by omega)
  obtain ⟨n0, S1, _, _⟩ := sim_num S0 1
  obtain ⟨n1, S2, _, _⟩ := sim_num S1 4
  have w1 := sim_whole S1
  obtain ⟨n2, S3, n2a, _⟩ := sim_num S2 4
  have E := sim_end S3
  have ex : joinT (rofX b).1 = (((11 : Int), wholeV (numV (numS (newV b) 1) 4), 0, 0, (0, ⟨#[]⟩), ⟨#[]⟩, IntKind.wrap .u32 (numV (numS (numS (newV b) 1) 4) 4), 0, 0, 0, 0, false) : CV) ∧ (rofX b).2 = (numS (numS (numS (newV b) 1) 4) 4) := by unfold rofX; rw [hk]; exact ⟨rfl, rfl⟩
  have hwf := wf_of b hb
  rw [ex.1] at hwf
  have eb : rofBad b = false := by unfold rofBad; rw [hk]; rfl
  have em : rofM b = finR (((11 : Int), wholeV (numV (numS (newV b) 1) 4), 0, 0, (0, ⟨#[]⟩), ⟨#[]⟩, IntKind.wrap .u32 (numV (numS (numS (newV b) 1) 4) 4), 0, 0, 0, 0, false) : CV) (endV (numS (numS (numS (newV b) 1) 4) 4)) := by unfold rofM; rw [eb, ex.1, ex.2]; rfl
  rw [em]
  refine (rof_11 K b).trans ?_
  rw [ck_pos (show List.length b * 1 ≤ limit by unfold limit; omega), ← n0, hk, ck_pos (show IntKind.wrap .i64 11 = 11 from rfl)]
  rw [← w1, ← n2, ← E]
  rw [show IntKind.wrap .i64 11 = 11 from rfl]
  rw [ck_pos (show wfC (((11 : Int), wholeV (numV (numS (newV b) 1) 4), 0, 0, (0, ⟨#[]⟩), ⟨#[]⟩, IntKind.wrap .u32 (numV (numS (numS (newV b) 1) 4) 4), 0, 0, 0, 0, false) : CV) from hwf)]
  exact finR_K K (((11 : Int), wholeV (numV (numS (newV b) 1) 4), 0, 0, (0, ⟨#[]⟩), ⟨#[]⟩, IntKind.wrap .u32 (numV (numS (numS (newV b) 1) 4) 4), 0, 0, 0, 0, false) : CV) (endV (numS (numS (numS (newV b) 1) 4) 4))
theorem rofb_12 {R : Type} (K : KV R) (b : List Int) (hb : Bytes b) (hl : b.length ≤ 10000) (hk : numV (newV b) 1 = 12) : (codeX Tryd.prog (G25d 12 ⟨#[107, 117, 103]⟩) lv25c 8 Tryd.f25).run [.dat BL b] [] K = K (.tup [.dat CT (rofM b).1, .dat I64 (rofM b).2]) [] := by
  have S0 := sim_new hb (show b.length < 100000 by omega)
  obtain ⟨n0, S1, _, _⟩ := sim_num S0 1
  obtain ⟨n1, S2, _, _⟩ := sim_num S1 4
  have w1 := sim_whole S1
  obtain ⟨n2, S3, n2a, _⟩ := sim_num S2 1
  obtain ⟨n3, S4, n3a, _⟩ := sim_num S3 1
  have E := sim_end S4
  have ex : joinT (rofX b).1 = (((12 : Int), wholeV (numV (numS (newV b) 1) 4), 0, 0, (0, ⟨#[]⟩), ⟨#[]⟩, 0, IntKind.wrap .i64 (numV (numS (numS (newV b) 1) 4) 1), IntKind.wrap .i64 (numV (numS (numS (numS (newV b) 1) 4) 1) 1), 0, 0, false) : CV) ∧ (rofX b).2 = (numS (numS (numS (numS (newV b) 1) 4) 1) 1) := by unfold rofX; rw [hk]; exact ⟨rfl, rfl⟩
  have hwf := wf_of b hb
  rw [ex.1] at hwf
  have eb : rofBad b = false := by unfold rofBad; rw [hk]; rfl
  have em : rofM b = finR (((12 : Int), wholeV (numV (numS (newV b) 1) 4), 0, 0, (0, ⟨#[]⟩), ⟨#[]⟩, 0, IntKind.wrap .i64 (numV (numS (numS (newV b) 1) 4) 1), IntKind.wrap .i64 (numV (numS (numS (numS (newV b) 1) 4) 1) 1), 0, 0, false) : CV) (endV (numS (numS (numS (numS (newV b) 1) 4) 1) 1)) := by unfold rofM; rw [eb, ex.1, ex.2]; rfl
  rw [em]
  refine (rof_12 K b).trans ?_
  rw [ck_pos (show List.length b * 1 ≤ limit by unfold limit; omega), ← n0, hk, ck_pos (show IntKind.wrap .i64 12 = 12 from rfl)]
  rw [← w1, ← n2, ← n3, ← E]
  exact finR_K K (((12 : Int), wholeV (numV (numS (newV b) 1) 4), 0, 0, (0, ⟨#[]⟩), ⟨#[]⟩, 0, IntKind.wrap .i64 (numV (numS (numS (newV b) 1) 4) 1), IntKind.wrap .i64 (numV (numS (numS (numS (newV b) 1) 4) 1) 1), 0, 0, false) : CV) (endV (numS (numS (numS (numS (newV b) 1) 4) 1) 1))
theorem rofb_13 {R : Type} (K : KV R) (b : List Int) (hb : Bytes b) (hl : b.length ≤ 10000) (hk : numV (newV b) 1 = 13) : (codeX Tryd.prog (G25d 13 ⟨#[107, 115]⟩) lv25c 8 Tryd.f25).run [.dat BL b] [] K = K (.tup [.dat CT (rofM b).1, .dat I64 (rofM b).2]) [] := by
  have S0 := sim_new hb (show b.length < 100000 by omega)
  obtain ⟨n0, S1, _, _⟩ := sim_num S0 1
  obtain ⟨n1, S2, _, _⟩ := sim_num S1 4
  have w1 := sim_whole S1
  obtain ⟨n2, S3, n2a, _⟩ := sim_num S2 8
  have E := sim_end S3
  have ex : joinT (rofX b).1 = (((13 : Int), wholeV (numV (numS (newV b) 1) 4), 0, 0, (0, ⟨#[]⟩), ⟨#[]⟩, 0, 0, 0, numV (numS (numS (newV b) 1) 4) 8, 0, false) : CV) ∧ (rofX b).2 = (numS (numS (numS (newV b) 1) 4) 8) := by unfold rofX; rw [hk]; exact ⟨rfl, rfl⟩
  have hwf := wf_of b hb
  rw [ex.1] at hwf
  have eb : rofBad b = false := by unfold rofBad; rw [hk]; rfl
  have em : rofM b = finR (((13 : Int), wholeV (numV (numS (newV b) 1) 4), 0, 0, (0, ⟨#[]⟩), ⟨#[]⟩, 0, 0, 0, numV (numS (numS (newV b) 1) 4) 8, 0, false) : CV) (endV (numS (numS (numS (newV b) 1) 4) 8)) := by unfold rofM; rw [eb, ex.1, ex.2]; rfl
  rw [em]
  refine (rof_13 K b).trans ?_
  rw [ck_pos (show List.length b * 1 ≤ limit by unfold limit; omega), ← n0, hk, ck_pos (show IntKind.wrap .i64 13 = 13 from rfl)]
  rw [← w1, ← n2, ← E]
  rw [show IntKind.wrap .i64 13 = 13 from rfl]
  rw [ck_pos (show wfC (((13 : Int), wholeV (numV (numS (newV b) 1) 4), 0, 0, (0, ⟨#[]⟩), ⟨#[]⟩, 0, 0, 0, numV (numS (numS (newV b) 1) 4) 8, 0, false) : CV) from hwf)]
  exact finR_K K (((13 : Int), wholeV (numV (numS (newV b) 1) 4), 0, 0, (0, ⟨#[]⟩), ⟨#[]⟩, 0, 0, 0, numV (numS (numS (newV b) 1) 4) 8, 0, false) : CV) (endV (numS (numS (numS (newV b) 1) 4) 8))
theorem rofb_14 {R : Type} (K : KV R) (b : List Int) (hb : Bytes b) (hl : b.length ≤ 10000) (hk : numV (newV b) 1 = 14) : (codeX Tryd.prog (G25d 14 ⟨#[107]⟩) lv25c 8 Tryd.f25).run [.dat BL b] [] K = K (.tup [.dat CT (rofM b).1, .dat I64 (rofM b).2]) [] := by
  have S0 := sim_new hb (show b.length < 100000 by omega)
  obtain ⟨n0, S1, _, _⟩ := sim_num S0 1
  obtain ⟨n1, S2, _, _⟩ := sim_num S1 4
  have w1 := sim_whole S1
  have E := sim_end S2
  have ex : joinT (rofX b).1 = (((14 : Int), wholeV (numV (numS (newV b) 1) 4), 0, 0, (0, ⟨#[]⟩), ⟨#[]⟩, 0, 0, 0, 0, 0, false) : CV) ∧ (rofX b).2 = (numS (numS (newV b) 1) 4) := by unfold rofX; rw [hk]; exact ⟨rfl, rfl⟩
  have hwf := wf_of b hb
  rw [ex.1] at hwf
  have eb : rofBad b = false := by unfold rofBad; rw [hk]; rfl
  have em : rofM b = finR (((14 : Int), wholeV (numV (numS (newV b) 1) 4), 0, 0, (0, ⟨#[]⟩), ⟨#[]⟩, 0, 0, 0, 0, 0, false) : CV) (endV (numS (numS (newV b) 1) 4)) := by unfold rofM; rw [eb, ex.1, ex.2]; rfl
  rw [em]
  refine (rof_14 K b).trans ?_
  rw [ck_pos (show List.length b * 1 ≤ limit by unfold limit; omega), ← n0, hk, ck_pos (show IntKind.wrap .i64 14 = 14 from rfl)]
  rw [← w1, ← E]
  exact finR_K K (((14 : Int), wholeV (numV (numS (newV b) 1) 4), 0, 0, (0, ⟨#[]⟩), ⟨#[]⟩, 0, 0, 0, 0, 0, false) : CV) (endV (numS (numS (newV b) 1) 4))
theorem rofb_15 {R : Type} (K : KV R) (b : List Int) (hb : Bytes b) (hl : b.length ≤ 10000) (hk : numV (newV b) 1 = 15) : (codeX Tryd.prog (G25d 15 ⟨#[107]⟩) lv25c 8 Tryd.f25).run [.dat BL b] [] K = K (.tup [.dat CT (rofM b).1, .dat I64 (rofM b).2]) [] := by
  have S0 := sim_new hb (show b.length < 100000 by omega)
  obtain ⟨n0, S1, _, _⟩ := sim_num S0 1
  obtain ⟨n1, S2, _, _⟩ := sim_num S1 4
  have w1 := sim_whole S1
  have E := sim_end S2
  have ex : joinT (rofX b).1 = (((15 : Int), wholeV (numV (numS (newV b) 1) 4), 0, 0, (0, ⟨#[]⟩), ⟨#[]⟩, 0, 0, 0, 0, 0, false) : CV) ∧ (rofX b).2 = (numS (numS (newV b) 1) 4) := by unfold rofX; rw [hk]; exact ⟨rfl, rfl⟩
  have hwf := wf_of b hb
  rw [ex.1] at hwf
  have eb : rofBad b = false := by unfold rofBad; rw [hk]; rfl
  have em : rofM b = finR (((15 : Int), wholeV (numV (numS (newV b) 1) 4), 0, 0, (0, ⟨#[]⟩), ⟨#[]⟩, 0, 0, 0, 0, 0, false) : CV) (endV (numS (numS (newV b) 1) 4)) := by unfold rofM; rw [eb, ex.1, ex.2]; rfl
  rw [em]
  refine (rof_15 K b).trans ?_
  rw [ck_pos (show List.length b * 1 ≤ limit by unfold limit; omega), ← n0, hk, ck_pos (show IntKind.wrap .i64 15 = 15 from rfl)]
  rw [← w1, ← E]
  exact finR_K K (((15 : Int), wholeV (numV (numS (newV b) 1) 4), 0, 0, (0, ⟨#[]⟩), ⟨#[]⟩, 0, 0, 0, 0, 0, false) : CV) (endV (numS (numS (newV b) 1) 4))
theorem rofb_16 {R : Type} (K : KV R) (b : List Int) (hb : Bytes b) (hl : b.length ≤ 10000) (hk : numV (newV b) 1 = 16) : (codeX Tryd.prog (G25d 16 ⟨#[114, 120]⟩) lv25c 8 Tryd.f25).run [.dat BL b] [] K = K (.tup [.dat CT (rofM b).1, .dat I64 (rofM b).2]) [] := by
  have S0 := sim_new hb (show b.length < 100000 by omega)
  obtain ⟨n0, S1, _, _⟩ := sim_num S0 1
  obtain ⟨n1, S2, _, _⟩ := sim_num S1 4
  have w1 := sim_whole S1
  obtain ⟨n2, S3, n2a, _⟩ := sim_num S2 1
  have E := sim_end S3
  have ex : joinT (rofX b).1 = (((16 : Int), 0, wholeV (numV (numS (newV b) 1) 4), 0, (0, ⟨#[]⟩), ⟨#[]⟩, 0, 0, 0, 0, IntKind.wrap .i64 (numV (numS (numS (newV b) 1) 4) 1), false) : CV) ∧ (rofX b).2 = (numS (numS (numS (newV b) 1) 4) 1) := by unfold rofX; rw [hk]; exact ⟨rfl, rfl⟩
  have hwf := wf_of b hb
  rw [ex.1] at hwf
  have eb : rofBad b = false := by unfold rofBad; rw [hk]; rfl
  have em : rofM b = finR (((16 : Int), 0, wholeV (numV (numS (newV b) 1) 4), 0, (0, ⟨#[]⟩), ⟨#[]⟩, 0, 0, 0, 0, IntKind.wrap .i64 (numV (numS (numS (newV b) 1) 4) 1), false) : CV) (endV (numS (numS (numS (newV b) 1) 4) 1)) := by unfold rofM; rw [eb, ex.1, ex.2]; rfl
  rw [em]
  refine (rof_16 K b).trans ?_
  rw [ck_pos (show List.length b * 1 ≤ limit by unfold limit; omega), ← n0, hk, ck_pos (show IntKind.wrap .i64 16 = 16 from rfl)]
  rw [← w1, ← n2, ← E]
  exact finR_K K (((16 : Int), 0, wholeV (numV (numS (newV b) 1) 4), 0, (0, ⟨#[]⟩), ⟨#[]⟩, 0, 0, 0, 0, IntKind.wrap .i64 (numV (numS (numS (newV b) 1) 4) 1), false) : CV) (endV (numS (numS (numS (newV b) 1) 4) 1))
theorem rofb_17 {R : Type} (K : KV R) (b : List Int) (hb : Bytes b) (hl : b.length ≤ 10000) (hk : numV (newV b) 1 = 17) : (codeX Tryd.prog (G25d 17 ⟨#[107, 99]⟩) lv25c 8 Tryd.f25).run [.dat BL b] [] K = K (.tup [.dat CT (rofM b).1, .dat I64 (rofM b).2]) [] := by
  have S0 := sim_new hb (show b.length < 100000 by omega)
  obtain ⟨n0, S1, _, _⟩ := sim_num S0 1
  obtain ⟨n1, S2, _, _⟩ := sim_num S1 4
  have w1 := sim_whole S1
  obtain ⟨n2, S3, n2a, _⟩ := sim_num S2 1
  have E := sim_end S3
  have ex : joinT (rofX b).1 = (((17 : Int), wholeV (numV (numS (newV b) 1) 4), 0, 0, (0, ⟨#[]⟩), ⟨#[]⟩, 0, 0, 0, 0, 0, decide (0 < numV (numS (numS (newV b) 1) 4) 1)) : CV) ∧ (rofX b).2 = (numS (numS (numS (newV b) 1) 4) 1) := by unfold rofX; rw [hk]; exact ⟨rfl, rfl⟩
  have hwf := wf_of b hb
  rw [ex.1] at hwf
  have eb : rofBad b = decide (1 < numV (numS (numS (newV b) 1) 4) 1) := by unfold rofBad; rw [hk]; rfl
  have em : rofM b = cond (decide (1 < numV (numS (numS (newV b) 1) 4) 1)) (zeroC 0, 2) (finR (((17 : Int), wholeV (numV (numS (newV b) 1) 4), 0, 0, (0, ⟨#[]⟩), ⟨#[]⟩, 0, 0, 0, 0, 0, decide (0 < numV (numS (numS (newV b) 1) 4) 1)) : CV) (endV (numS (numS (numS (newV b) 1) 4) 1))) := by unfold rofM; rw [eb, ex.1, ex.2]
  rw [em]
  refine (rof_17 K b).trans ?_
  rw [ck_pos (show List.length b * 1 ≤ limit by unfold limit; omega), ← n0, hk, ck_pos (show IntKind.wrap .i64 17 = 17 from rfl)]
  rw [← w1, ← n2, ← E]
  by_cases h1 : 1 < numV (numS (numS (newV b) 1) 4) 1
  · rw [decide_eq_true h1]; rfl
  · rw [decide_eq_false h1, cond_false, cond_false]
    have e01 : decide (numV (numS (numS (newV b) 1) 4) 1 = 1) = decide (0 < numV (numS (numS (newV b) 1) 4) 1) := decide_eq_decide.2 (by rw [n2] at h1 ⊢; omega)
    rw [e01]
    exact finR_K K (((17 : Int), wholeV (numV (numS (newV b) 1) 4), 0, 0, (0, ⟨#[]⟩), ⟨#[]⟩, 0, 0, 0, 0, 0, decide (0 < numV (numS (numS (newV b) 1) 4) 1)) : CV) (endV (numS (numS (numS (newV b) 1) 4) 1))
theorem rofb_18 {R : Type} (K : KV R) (b : List Int) (hb : Bytes b) (hl : b.length ≤ 10000) (hk : numV (newV b) 1 = 18) : (codeX Tryd.prog (G25d 18 ⟨#[100]⟩) lv25c 8 Tryd.f25).run [.dat BL b] [] K = K (.tup [.dat CT (rofM b).1, .dat I64 (rofM b).2]) [] := by
  have S0 := sim_new hb (show b.length < 100000 by omega)
  obtain ⟨n0, S1, _, _⟩ := sim_num S0 1
  obtain ⟨g1, S2, c1⟩ := sim_blob S1 1
  have l1 : (rnumS (b, false) 1).1.length < 100000 := by rw [← S1.rest]; exact S1.len
  have E := sim_end S2
  have ex : joinT (rofX b).1 = (((18 : Int), 0, 0, 0, (4, strOf (blobV (numS (newV b) 1) 1)), ⟨#[]⟩, 0, 0, 0, 0, 0, false) : CV) ∧ (rofX b).2 = (blobS (numS (newV b) 1) 1) := by unfold rofX; rw [hk]; exact ⟨rfl, rfl⟩
  have hwf := wf_of b hb
  rw [ex.1] at hwf
  have eb : rofBad b = false := by unfold rofBad; rw [hk]; rfl
  have em : rofM b = finR (((18 : Int), 0, 0, 0, (4, strOf (blobV (numS (newV b) 1) 1)), ⟨#[]⟩, 0, 0, 0, 0, 0, false) : CV) (endV (blobS (numS (newV b) 1) 1)) := by unfold rofM; rw [eb, ex.1, ex.2]; rfl
  rw [em]
  refine (rof_18 K b).trans ?_
  rw [ck_pos (show List.length b * 1 ≤ limit by unfold limit; omega), ← n0, hk, ck_pos (show IntKind.wrap .i64 18 = 18 from rfl)]
  rw [ck_pos (show (rnumS (b, false) 1).1.length < 100000 ∧ (¬ ((1 : Int) = 1 ∨ (1 : Int) = 2) ∨ 0 ≤ rblobN (rnumS (b, false) 1) 1) from ⟨l1, g1⟩)]
  cases hb1 : rbBad (rnumS (b, false) 1) 1
  · have c' : blobV (numS (newV b) 1) 1 = rblobV (rnumS (b, false) 1) 1 := by rw [c1, hb1]; rfl
    rw [cond_false]
    rw [← E]
    refine Eq.trans ?_ (finR_K K (((18 : Int), 0, 0, 0, (4, strOf (blobV (numS (newV b) 1) 1)), ⟨#[]⟩, 0, 0, 0, 0, 0, false) : CV) (endV (blobS (numS (newV b) 1) 1)))
    rw [c']
    rfl
  · have c' : blobV (numS (newV b) 1) 1 = [] := by rw [c1, hb1]; rfl
    rw [cond_true]
    rw [← E]
    refine Eq.trans ?_ (finR_K K (((18 : Int), 0, 0, 0, (4, strOf (blobV (numS (newV b) 1) 1)), ⟨#[]⟩, 0, 0, 0, 0, 0, false) : CV) (endV (blobS (numS (newV b) 1) 1)))
    rw [c']
    rfl
theorem rofb_0 {R : Type} (K : KV R) (b : List Int) (hb : Bytes b) (hl : b.length ≤ 10000) (h0 : psOf (IntKind.wrap .i64 (numV (newV b) 1)) = []) : (codeX Tryd.prog G25z lv25c 8 Tryd.f25).run [.dat BL b] [] K = K (.tup [.dat CT (rofM b).1, .dat I64 (rofM b).2]) [] := by
  have S0 := sim_new hb (show b.length < 100000 by omega)
  obtain ⟨n0, S1, _, _⟩ := sim_num S0 1
  have E := sim_end S1
  have hn := ps_none h0
  have eb : rofBad b = false := by unfold rofBad; rw [decide_eq_false (show ¬ IntKind.wrap .i64 (numV (newV b) 1) = 17 by omega)]; rfl
  have hj : joinT (rofX b).1 = zeroC (IntKind.wrap .i64 (numV (newV b) 1)) := by
    unfold rofX
    rw [h0]
    show cond (decide (IntKind.wrap .i64 (numV (newV b) 1) = (18 : Int))) _ _ = _
    rw [decide_eq_false (show ¬ IntKind.wrap .i64 (numV (newV b) 1) = 18 by omega)]
    rfl
  have hx : (rofX b).2 = numS (newV b) 1 := by unfold rofX; rw [h0]; rfl
  have em : rofM b = finR (zeroC (IntKind.wrap .i64 (numV (newV b) 1))) (endV (numS (newV b) 1)) := by unfold rofM; rw [eb, hj, hx]; rfl
  rw [em]
  refine (rof_0 K b).trans ?_
  rw [ck_pos (show List.length b * 1 ≤ limit by unfold limit; omega), ← n0, ck_pos h0, ← E]
  exact finR_K K (zeroC (IntKind.wrap .i64 (numV (newV b) 1))) (endV (numS (newV b) 1))
def F25f : Summ := ⟨fun args ob K => match args, ob with
  | [.dat (.sl (.int .u8)) b], [] => ck (List.length b ≤ 10000 ∧ ∀ x ∈ b, 0 ≤ x ∧ x < (256 : Int)) (K (.tup [.dat CT (rofM b).1, .dat I64 (rofM b).2]) [])
  | _, _ => none⟩
theorem al25d {k : Int} {s : ByteArray} (h : SumOk Tryd.prog 51 (Fname k s)) : AllOk Tryd.prog [(51, Fname k s), (36, inS 36 cl F19), (37, inS 37 cl F21), (38, inS 38 cl F23), (39, inS 39 cl F34), (22, F22f)] := ⟨h, in_ok F19_ok, in_ok F21_ok, in_ok F23_ok, in_ok F34_ok, F22f_ok, trivial⟩
theorem al25z : AllOk Tryd.prog [(51, Fname0), (36, inS 36 cl F19), (37, inS 37 cl F21), (38, inS 38 cl F23), (39, inS 39 cl F34), (22, F22f)] := ⟨Fname0_ok, in_ok F19_ok, in_ok F21_ok, in_ok F23_ok, in_ok F34_ok, F22f_ok, trivial⟩
theorem base25 {k : Int} {s : ByteArray} (h : ∀ {R : Type} (K : KV R), (W 51).run [.dat I64 k] [] K = K (.dat .str s) []) : SumOk Tryd.prog 25 (codeX Tryd.prog (G25d k s) lv25c 8 Tryd.f25) := codeX_ok (k := 8) (lv := lv25c) mixed noNG_prog (sums_call (Wr := all) (al25d (Fname_ok h))) (sums_prim (al25d (Fname_ok h))) (fn := Tryd.f25) rfl
theorem base25z : SumOk Tryd.prog 25 (codeX Tryd.prog G25z lv25c 8 Tryd.f25) := codeX_ok (k := 8) (lv := lv25c) mixed noNG_prog (sums_call (Wr := all) al25z) (sums_prim al25z) (fn := Tryd.f25) rfl
theorem F25f_ok : SumOk Tryd.prog 25 F25f := by
  refine ⟨?_, ?_⟩
  · intro R R' f args ob K
    unfold F25f; dsimp only
    split <;> simp only [bd_ck, bd_none]
  · intro R args ob K r hK W' ρ w us hr ha
    unfold F25f at hK; dsimp only at hK
    split at hK
    · rename_i b
      obtain ⟨⟨hl, hb⟩, h2⟩ := ck_elim hK
      clear hK
      obtain ⟨g1, g2⟩ := op_range (b := b) hb (by omega)
      have hw : IntKind.wrap .i64 (numV (newV b) 1) = numV (newV b) 1 := wrapS (by omega)
      by_cases h0 : psOf (numV (newV b) 1) = []
      · exact base25z.2 _ [] K r ((rofb_0 K b hb hl (by rw [hw]; exact h0)).trans h2) W' ρ w us hr ha
      · rcases ps_cases h0 with ho | ho | ho | ho | ho | ho | ho | ho | ho | ho | ho | ho | ho | ho | ho | ho | ho | ho
        · exact (base25 (k := 1) (s := ⟨#[114, 105, 112]⟩) (fun K => (rnames_0 K 1).trans rfl)).2 _ [] K r ((rofb_1 K b hb hl ho).trans h2) W' ρ w us hr ha
        · exact (base25 (k := 2) (s := ⟨#[105]⟩) (fun K => (rnames_0 K 2).trans rfl)).2 _ [] K r ((rofb_2 K b hb hl ho).trans h2) W' ρ w us hr ha
        · exact (base25 (k := 3) (s := ⟨#[114, 105]⟩) (fun K => (rnames_0 K 3).trans rfl)).2 _ [] K r ((rofb_3 K b hb hl ho).trans h2) W' ρ w us hr ha
        · exact (base25 (k := 4) (s := ⟨#[107]⟩) (fun K => (rnames_0 K 4).trans rfl)).2 _ [] K r ((rofb_4 K b hb hl ho).trans h2) W' ρ w us hr ha
        · exact (base25 (k := 5) (s := ⟨#[107, 112]⟩) (fun K => (rnames_0 K 5).trans rfl)).2 _ [] K r ((rofb_5 K b hb hl ho).trans h2) W' ρ w us hr ha
        · exact (base25 (k := 6) (s := ⟨#[107]⟩) (fun K => (rnames_0 K 6).trans rfl)).2 _ [] K r ((rofb_6 K b hb hl ho).trans h2) W' ρ w us hr ha
        · exact (base25 (k := 7) (s := ⟨#[107, 114]⟩) (fun K => (rnames_0 K 7).trans rfl)).2 _ [] K r ((rofb_7 K b hb hl ho).trans h2) W' ρ w us hr ha
        · exact (base25 (k := 8) (s := ⟨#[107, 114]⟩) (fun K => (rnames_0 K 8).trans rfl)).2 _ [] K r ((rofb_8 K b hb hl ho).trans h2) W' ρ w us hr ha
        · exact (base25 (k := 9) (s := ⟨#[107, 114, 116]⟩) (fun K => (rnames_0 K 9).trans rfl)).2 _ [] K r ((rofb_9 K b hb hl ho).trans h2) W' ρ w us hr ha
        · exact (base25 (k := 10) (s := ⟨#[114]⟩) (fun K => (rnames_0 K 10).trans rfl)).2 _ [] K r ((rofb_10 K b hb hl ho).trans h2) W' ρ w us hr ha
        · exact (base25 (k := 11) (s := ⟨#[107, 109]⟩) (fun K => (rnames_0 K 11).trans rfl)).2 _ [] K r ((rofb_11 K b hb hl ho).trans h2) W' ρ w us hr ha
        · exact (base25 (k := 12) (s := ⟨#[107, 117, 103]⟩) (fun K => (rnames_0 K 12).trans rfl)).2 _ [] K r ((rofb_12 K b hb hl ho).trans h2) W' ρ w us hr ha
        · exact (base25 (k := 13) (s := ⟨#[107, 115]⟩) (fun K => (rnames_0 K 13).trans rfl)).2 _ [] K r ((rofb_13 K b hb hl ho).trans h2) W' ρ w us hr ha
        · exact (base25 (k := 14) (s := ⟨#[107]⟩) (fun K => (rnames_0 K 14).trans rfl)).2 _ [] K r ((rofb_14 K b hb hl ho).trans h2) W' ρ w us hr ha
        · exact (base25 (k := 15) (s := ⟨#[107]⟩) (fun K => (rnames_0 K 15).trans rfl)).2 _ [] K r ((rofb_15 K b hb hl ho).trans h2) W' ρ w us hr ha
        · exact (base25 (k := 16) (s := ⟨#[114, 120]⟩) (fun K => (rnames_0 K 16).trans rfl)).2 _ [] K r ((rofb_16 K b hb hl ho).trans h2) W' ρ w us hr ha
        · exact (base25 (k := 17) (s := ⟨#[107, 99]⟩) (fun K => (rnames_0 K 17).trans rfl)).2 _ [] K r ((rofb_17 K b hb hl ho).trans h2) W' ρ w us hr ha
        · exact (base25 (k := 18) (s := ⟨#[100]⟩) (fun K => (rnames_0 K 18).trans rfl)).2 _ [] K r ((rofb_18 K b hb hl ho).trans h2) W' ρ w us hr ha
    · cases hK
end Go.Mx
namespace Go.Mx
open Go Go.RowKit Go.Sx
set_option maxRecDepth 100000
theorem byte1 {v : Int} (h : 0 ≤ v ∧ v < 256) : ([IntKind.wrap .u8 v] : List Int) = pB v 1 := by
  obtain ⟨n, rfl⟩ : ∃ n : Nat, v = (n : Int) := ⟨v.toNat, by omega⟩
  rw [pB_cons n 0 (by omega) (by omega), IntKind.wrap_u8]
  show [((n : Int) % 256)] = [((n % 256 : Nat) : Int)]
  rw [Int.natCast_emod]; rfl
theorem may_op {c : CV} (h : mayM c = true) : (1 : Int) ≤ c.1 ∧ c.1 ≤ (18 : Int) := by
  by_cases h0 : psOf c.1 = []
  · rw [may_out h0] at h; cases h
  · exact ps_some h0
theorem bytesM_eq {c : CV} (h : mayM c = true) : bytesM c = pB c.1 1 ++ (psOf c.1).flatMap (fun p => encP p c) := by
  obtain ⟨h1, h2⟩ := may_op h
  unfold bytesM
  rw [fold_enc, byte1 ⟨Int.le_trans (by decide) h1, Int.lt_of_le_of_lt h2 (by decide)⟩]
theorem op_back {n : Int} (h : 1 ≤ n ∧ n ≤ 18) (r : List Int) : IntKind.wrap .i64 (numV (newV (pB n 1 ++ r)) 1) = n ∧ numS (newV (pB n 1 ++ r)) 1 = (r, true, false) := by
  obtain ⟨e1, e2⟩ := num_int (v := n) (m := 1) (by omega) (by rw [show (256 ^ 1 : Nat) = 256 from rfl]; omega) (by omega) (by omega) (by omega) r
  have e1 : numV (newV (pB n 1 ++ r)) 1 = n := e1
  exact ⟨by rw [e1, wrapS (by omega)], e2⟩
theorem cofR_enc (c : CV) : ∀ (l : List PK) (c0 : CV) (r : List Int), (∀ p ∈ l, okP p c) → cofR l c0 (l.flatMap (fun p => encP p c) ++ r, true, false) = (copyL l c c0, (r, true, false))
  | [], c0, r, _ => rfl
  | p :: l, c0, r, h => by
    obtain ⟨h1, h2⟩ := rd_enc p c c0 (h p (by simp)) (l.flatMap (fun p => encP p c) ++ r)
    rw [List.flatMap_cons, List.append_assoc, cofR, h1, h2]
    exact cofR_enc c l _ r (fun q hq => h q (by simp [hq]))
theorem read_back {c : CV} (h : mayM c = true) (ht : inT c.2.2.2.2.2.2.2.2.2.1) (r : List Int) : cofC (bytesM c ++ r) = c ∧ joinT (rofX (bytesM c ++ r)).1 = c ∧ (rofX (bytesM c ++ r)).2 = (r, true, false) ∧ rofBad (bytesM c ++ r) = false := by
  obtain ⟨m1, m2, mok, mj, _⟩ := (may_iff c ht.1).1 h
  have hop := may_op h
  obtain ⟨e1, e2⟩ := op_back hop ((psOf c.1).flatMap (fun p => encP p c) ++ r)
  rw [← List.append_assoc, ← bytesM_eq h] at e1 e2
  have hx : rofX (bytesM c ++ r) = (copyL (psOf c.1) c (zeroC c.1), (r, true, false)) := by
    unfold rofX
    rw [e1, e2]
    exact rdAll_enc c (psOf c.1) (zeroC c.1) r mok
  refine ⟨?_, ?_, ?_, ?_⟩
  · unfold cofC
    rw [e1, e2, cofR_enc c (psOf c.1) (zeroC c.1) r mok]
    exact mj
  · rw [hx]; exact mj
  · rw [hx]
  · unfold rofBad
    rw [e1]
    by_cases h17 : c.1 = (17 : Int)
    · have hl : psOf c.1 = [.key, .create] := by rw [h17]; rfl
      rw [e2, hl]
      have hk : okP .key c := mok .key (by rw [hl]; decide)
      have hc : okP .create c := trivial
      obtain ⟨_, k2⟩ := rd_enc .key c c hk (encP .create c ++ r)
      have e3 : ([PK.key, PK.create].flatMap (fun p => encP p c) ++ r) = encP .key c ++ (encP .create c ++ r) := by
        simp only [List.flatMap_cons, List.flatMap_nil, List.append_nil, List.append_assoc]
      rw [e3, k2]
      have hv : numV ((encP .create c ++ r, true, false) : RV) 1 ≤ 1 := by
        have q1 := (num_int (v := 1) (m := 1) (by omega) (by decide) (by omega) (by omega) (by omega) r).1
        have q0 := (num_int (v := 0) (m := 1) (by omega) (by decide) (by omega) (by omega) (by omega) r).1
        rw [show ((1 : Nat) : Int) = 1 from rfl] at q1 q0
        show numV (((bif c.2.2.2.2.2.2.2.2.2.2.2 then pB 1 1 else pB 0 1) ++ r, true, false) : RV) 1 ≤ 1
        cases c.2.2.2.2.2.2.2.2.2.2.2 with
        | true => rw [cond_true, q1]; omega
        | false => rw [cond_false, q0]; omega
      rw [decide_eq_false (show ¬ 1 < numV ((encP .create c ++ r, true, false) : RV) 1 by omega), Bool.and_false]
    · rw [decide_eq_false h17, Bool.false_and]
theorem encP_sz (p : PK) (c : CV) (h1 : ByteArray.size c.2.2.2.2.2.1 ≤ 256) (h2 : ByteArray.size c.2.2.2.2.1.2 ≤ 32) : (encP p c).length ≤ (match p with | .desc => 33 | .payload => 258 | .time => 8 | .key => 4 | .ring => 4 | .to => 4 | .perm => 4 | _ => 1) := by
  have pl : ∀ n m, (pB n m).length = m := fun n m => pB_len n m
  have lb : ∀ (b : Bool) (x y : List Int) (n : Nat), x.length ≤ n → y.length ≤ n → (bif b then x else y).length ≤ n := fun b x y n hx hy => by cases b; exact hy; exact hx
  have l0 : ∀ n, ([] : List Int).length ≤ n := fun n => Nat.zero_le _
  have lp : ∀ n m k, m ≤ k → (pB n m).length ≤ k := fun n m k h => by rw [pl]; exact h
  have k1 := bytesOf_length c.2.2.2.2.1.2
  have k2 := bytesOf_length c.2.2.2.2.2.1
  cases p <;> dsimp only
  case desc => exact lb _ _ _ _ (by rw [List.length_append, pl]; omega) (l0 _)
  case payload => exact lb _ _ _ _ (by rw [List.length_append, pl]; omega) (l0 _)
  case time => exact lp _ _ _ (by omega)
  case create => exact lb _ _ _ _ (lp _ _ _ (by omega)) (lp _ _ _ (by omega))
  all_goals exact lb _ _ _ _ (l0 _) (lp _ _ _ (by omega))
theorem bytesM_298 {c : CV} (h : mayM c = true) : 1 ≤ (bytesM c).length ∧ (bytesM c).length ≤ 298 := by
  obtain ⟨_, h1, h2⟩ := may_small h
  rw [bytesM_eq h, List.length_append, pB_len]
  refine ⟨by omega, ?_⟩
  have hz := fun p => encP_sz p c h1 h2
  have z1 := hz .key
  have z2 := hz .ring
  have z3 := hz .to
  have z4 := hz .typ
  have z5 := hz .desc
  have z6 := hz .payload
  have z7 := hz .perm
  have z8 := hz .uid
  have z9 := hz .gid
  have z10 := hz .time
  have z11 := hz .restrict
  have z12 := hz .create
  dsimp only at z1 z2 z3 z4 z5 z6 z7 z8 z9 z10 z11 z12
  have hop := may_op h
  have h0 : psOf c.1 ≠ [] := fun e => by rw [may_out e] at h; cases h
  rcases ps_cases h0 with e | e | e | e | e | e | e | e | e | e | e | e | e | e | e | e | e | e
  all_goals
    rw [e]
    simp only [psOf, Int.reduceEq, if_true, if_false, List.flatMap_cons, List.flatMap_nil, List.length_append, List.length_nil]
    omega
theorem eqBy_refl (b : List Int) : eqBy b b = true := decide_eq_true rfl
theorem cof_bytes {c : CV} (h : mayM c = true) (ht : inT c.2.2.2.2.2.2.2.2.2.1) : cofM (bytesM c) = (c, 0) := by
  have e := (read_back h ht []).1
  rw [List.append_nil] at e
  unfold cofM finC
  rw [decide_eq_false (show ¬ (298 : Int) < ((bytesM c).length : Int) by have := bytesM_298 h; omega), cond_false, e, h, eqBy_refl]
  rfl
theorem rof_bytes {c : CV} (h : mayM c = true) (ht : inT c.2.2.2.2.2.2.2.2.2.1) : rofM (bytesM c) = (c, 0) := by
  obtain ⟨_, e2, e3, e4⟩ := read_back h ht []
  rw [List.append_nil] at e2 e3 e4
  unfold rofM finR
  rw [e4, e2, e3, h]
  rfl
theorem bytes_pre {c d : CV} (hc : mayM c = true) (hd : mayM d = true) (tc : inT c.2.2.2.2.2.2.2.2.2.1) (td : inT d.2.2.2.2.2.2.2.2.2.1) {r : List Int} (e : bytesM c = bytesM d ++ r) : r = [] ∧ c = d := by
  have a := read_back hc tc []
  rw [List.append_nil] at a
  have b := read_back hd td r
  rw [← e] at b
  refine ⟨?_, a.2.1.symm.trans b.2.1⟩
  have := a.2.2.1.symm.trans b.2.2.1
  exact (congrArg Prod.fst this).symm
theorem num_split8 {b : List Int} (hb : Bytes b) {m : Nat} (h1 : 1 ≤ m) (h8 : m ≤ 8) : (∃ n : Nat, n < 256 ^ m ∧ b = pB (n : Int) m ++ b.drop m ∧ numV ((b, true, false) : RV) (m : Int) = n ∧ numS ((b, true, false) : RV) (m : Int) = (b.drop m, true, false)) ∨ numS ((b, true, false) : RV) (m : Int) = ([], true, true) := by
  by_cases h : m ≤ b.length
  · left
    have ht : (b.take m).length = m := by rw [List.length_take]; omega
    have hbt : Bytes (b.take m) := bytes_take hb m
    have hlt := leN_lt hbt
    have hp := pB_leN hbt (by omega)
    rw [ht] at hlt hp
    have hp7 : (256 : Nat) ^ m ≤ 256 ^ 8 := Nat.pow_le_pow_right (by decide) h8
    have h7 : (256 : Nat) ^ 8 = 18446744073709551616 := rfl
    have e : b = pB (leN (b.take m) : Int) m ++ b.drop m := by rw [hp]; exact (List.take_append_drop m b).symm
    obtain ⟨a1, a2⟩ := num_back hlt (by omega) h1 (by omega) (b.drop m)
    rw [← e] at a1 a2
    exact ⟨leN (b.take m), hlt, e, a1, a2⟩
  · right
    have hs : sizeOk (m : Int) = m := by unfold sizeOk; rw [if_neg (by omega)]
    unfold numS
    rw [hs]
    unfold takeS
    rw [if_neg (by simp), if_pos (by right; show (b.length : Int) < m; omega)]
theorem blob_split {b : List Int} (hb : Bytes b) {m : Nat} (hm : m = 1 ∨ m = 2) : (∃ r, b = (bif decide (blE (bytesOf (strOf (blobV ((b, true, false) : RV) (m : Int)))) (m : Int) = 0) then pB (((bytesOf (strOf (blobV ((b, true, false) : RV) (m : Int)))).length : Nat) : Int) m ++ bytesOf (strOf (blobV ((b, true, false) : RV) (m : Int))) else []) ++ r ∧ Bytes r ∧ blobS ((b, true, false) : RV) (m : Int) = (r, true, false)) ∨ blobS ((b, true, false) : RV) (m : Int) = ([], true, true) := by
  have hbs : bSize (m : Int) = (m : Int) := by unfold bSize; rw [if_neg (by omega)]
  have hlt := blobV_lt (x := (b, true, false)) hb hm
  rcases num_split8 hb (m := m) (by omega) (by omega) with ⟨n, n1, n2, n3, n4⟩ | n4
  · have hp : (256 : Nat) ^ m ≤ 65536 := by rcases hm with rfl | rfl <;> decide
    have hv : blobV ((b, true, false) : RV) (m : Int) = takeV (b.drop m, true, false) (n : Int) := by unfold blobV; rw [hbs, n4, n3, wrapS (by omega)]
    have hs : blobS ((b, true, false) : RV) (m : Int) = takeS (b.drop m, true, false) (n : Int) := by unfold blobS; rw [hbs, n4, n3, wrapS (by omega)]
    by_cases hl : n ≤ (b.drop m).length
    · left
      have tv : takeV (b.drop m, true, false) (n : Int) = (b.drop m).take n := by
        unfold takeV
        rw [if_neg (by simp), if_neg (by show ¬ ((n : Int) < 0 ∨ ((b.drop m).length : Int) < n); omega), Int.toNat_natCast]
      have ts : takeS (b.drop m, true, false) (n : Int) = ((b.drop m).drop n, true, false) := by
        unfold takeS
        rw [if_neg (by simp), if_neg (by show ¬ ((n : Int) < 0 ∨ ((b.drop m).length : Int) < n); omega), Int.toNat_natCast]
      have hl2 : ((b.drop m).take n).length = n := by rw [List.length_take]; omega
      have hB : Bytes ((b.drop m).take n) := bytes_take (bytes_drop hb m) n
      refine ⟨(b.drop m).drop n, ?_, bytes_drop (bytes_drop hb m) n, by rw [hs, ts]⟩
      rw [hv, tv]
      have hst := bytesOf_str hB
      have hz : (strOf ((b.drop m).take n)).size < 256 ^ m := by rw [strOf_size, hl2]; exact n1
      rw [(enc_blob hm hz).1, hst, strOf_size, hl2, List.append_assoc, List.take_append_drop]
      exact n2
    · right
      rw [hs]
      unfold takeS
      rw [if_neg (by simp), if_pos (by right; show ((b.drop m).length : Int) < n; omega)]
  · right
    unfold blobS
    rw [hbs, n4]
    unfold takeS
    rw [if_pos (by rfl)]
end Go.Mx
namespace Go.Mx
open Go Go.RowKit Go.Sx
set_option maxRecDepth 100000
theorem whole_back {n : Nat} (h : n < 4294967296) : (bif whBad (wholeV (n : Int)) then [] else pB (wholeN (wholeV (n : Int))) 4) = pB (n : Int) 4 := by
  have hr := whole_rng (n : Int)
  rw [(whole_int hr []).1, cond_false]
  have hw : wholeV (n : Int) = if n < 2147483648 then (n : Int) else (n : Int) - 4294967296 := by
    unfold wholeV
    rw [show IntKind.u32.wrap (n : Int) = (n : Int) by simp [IntKind.wrap, IntKind.bits, IntKind.signed]; omega, IntKind.wrap_i32, wrapS (by omega)]
    split <;> omega
  have : (wholeV (n : Int) % 4294967296).toNat = n := by rw [hw]; split <;> omega
  rw [wholeN_nat, this]
theorem byte_back {n : Nat} (h : n < 256) : IntKind.wrap .i64 (n : Int) = (n : Int) ∧ (bif pBad (IntKind.wrap .u64 (n : Int)) 1 then [] else pB (IntKind.wrap .u64 (n : Int)) 1) = pB (n : Int) 1 := by
  have e := (byte_int (v := (n : Int)) (by omega) []).1
  refine ⟨wrapS (by omega), ?_⟩
  rw [e, cond_false, show IntKind.wrap .u64 (n : Int) = (n : Int) by rw [IntKind.wrap_u64]; omega]
theorem dec_enc (p : PK) (c0 : CV) {b : List Int} (hb : Bytes b) (hc : p = .create → numV ((b, true, false) : RV) 1 ≤ 1) : (∃ r, b = encP p (rdC p c0 (b, true, false)) ++ r ∧ Bytes r ∧ rdS p (b, true, false) = (r, true, false)) ∨ rdS p (b, true, false) = ([], true, true) := by
  have s4 := num_split8 hb (m := 4) (by omega) (by omega)
  have s1 := num_split8 hb (m := 1) (by omega) (by omega)
  have s8 := num_split8 hb (m := 8) (by omega) (by omega)
  rw [show ((4 : Nat) : Int) = 4 from rfl, show (256 : Nat) ^ 4 = 4294967296 from rfl] at s4
  rw [show ((1 : Nat) : Int) = 1 from rfl, show (256 : Nat) ^ 1 = 256 from rfl] at s1
  rw [show ((8 : Nat) : Int) = 8 from rfl] at s8
  have whole : (∃ r, b = (bif whBad (wholeV (numV ((b, true, false) : RV) 4)) then [] else pB (wholeN (wholeV (numV ((b, true, false) : RV) 4))) 4) ++ r ∧ Bytes r ∧ numS ((b, true, false) : RV) 4 = (r, true, false)) ∨ numS ((b, true, false) : RV) 4 = ([], true, true) := by
    rcases s4 with ⟨n, n1, n2, n3, n4⟩ | h
    · left
      rw [n3, whole_back n1]
      exact ⟨b.drop 4, n2, bytes_drop hb 4, n4⟩
    · exact .inr h
  have byte : (∃ r, b = (bif pBad (IntKind.wrap .u64 (IntKind.wrap .i64 (numV ((b, true, false) : RV) 1))) 1 then [] else pB (IntKind.wrap .u64 (IntKind.wrap .i64 (numV ((b, true, false) : RV) 1))) 1) ++ r ∧ Bytes r ∧ numS ((b, true, false) : RV) 1 = (r, true, false)) ∨ numS ((b, true, false) : RV) 1 = ([], true, true) := by
    rcases s1 with ⟨n, n1, n2, n3, n4⟩ | h
    · left
      obtain ⟨e1, e2⟩ := byte_back n1
      rw [n3, e1, e2]
      exact ⟨b.drop 1, n2, bytes_drop hb 1, n4⟩
    · exact .inr h
  cases p with
  | key => exact whole
  | ring => exact whole
  | to => exact whole
  | typ => exact byte
  | uid => exact byte
  | gid => exact byte
  | restrict => exact byte
  | desc => exact blob_split hb (m := 1) (.inl rfl)
  | payload => exact blob_split hb (m := 2) (.inr rfl)
  | perm =>
    rcases s4 with ⟨n, n1, n2, n3, n4⟩ | h
    · left
      refine ⟨b.drop 4, ?_, bytes_drop hb 4, n4⟩
      have e0 : IntKind.wrap .u32 (n : Int) = (n : Int) := by rw [IntKind.wrap_u32]; omega
      obtain ⟨e1, e2, _⟩ := perm_int (v := (n : Int)) (by omega) []
      show b = (bif pBad (IntKind.wrap .u64 (IntKind.wrap .u32 (numV ((b, true, false) : RV) 4))) 4 then [] else pB (IntKind.wrap .u64 (IntKind.wrap .u32 (numV ((b, true, false) : RV) 4))) 4) ++ b.drop 4
      rw [n3, e0, e1, e2]
      exact n2
    · exact .inr h
  | time =>
    rcases s8 with ⟨n, n1, n2, n3, n4⟩ | h
    · left
      refine ⟨b.drop 8, ?_, bytes_drop hb 8, n4⟩
      show b = pB (numV ((b, true, false) : RV) 8) 8 ++ b.drop 8
      rw [n3]
      exact n2
    · exact .inr h
  | create =>
    rcases s1 with ⟨n, n1, n2, n3, n4⟩ | h
    · left
      refine ⟨b.drop 1, ?_, bytes_drop hb 1, n4⟩
      have h1 := hc rfl
      show b = (bif decide (0 < numV ((b, true, false) : RV) 1) then pB 1 1 else pB 0 1) ++ b.drop 1
      rw [n3] at h1 ⊢
      have hn : n = 0 ∨ n = 1 := by omega
      rcases hn with rfl | rfl
      · exact n2
      · exact n2
    · exact .inr h
theorem enc_keep (p q : PK) (c : CV) (x : RV) (h : p ≠ q) : encP p (rdC q c x) = encP p c := by
  cases p <;> cases q <;> first | exact absurd rfl h | rfl
theorem enc_all : ∀ (l : List PK) (p : PK) (c : CV) (x : RV), p ∉ l → encP p (rdAll l c x).1 = encP p c
  | [], p, c, x, h => rfl
  | q :: l, p, c, x, h => by
    rw [rdAll, enc_all l p _ _ (fun hh => h (by simp [hh])), enc_keep p q c x (fun e => h (by simp [e]))]
def crOk : List PK → RV → Prop
  | [], _ => True
  | p :: l, x => (p = .create → numV x 1 ≤ 1) ∧ crOk l (rdS p x)
theorem rd_bad (p : PK) : rdS p (([], true, true) : RV) = ([], true, true) := by
  have bad1 : ∀ n : Int, numS (([], true, true) : RV) n = ([], true, true) := fun n => by unfold numS takeS; rw [if_pos (by rfl)]
  have bad2 : ∀ n : Int, blobS (([], true, true) : RV) n = ([], true, true) := fun n => by unfold blobS; rw [bad1]; unfold takeS; rw [if_pos (by rfl)]
  cases p
  all_goals first | exact bad1 _ | exact bad2 _
theorem rd_bads : ∀ (l : List PK) (c : CV), (rdAll l c (([], true, true) : RV)).2 = ([], true, true)
  | [], c => rfl
  | p :: l, c => by rw [rdAll, rd_bad]; exact rd_bads l _
theorem dec_all : ∀ (l : List PK) (c0 : CV) {b : List Int}, Bytes b → l.Nodup → crOk l (b, true, false) → endV (rdAll l c0 (b, true, false)).2 = 0 → b = l.flatMap (fun p => encP p (rdAll l c0 (b, true, false)).1)
  | [], c0, b, hb, hn, hc, he => by
    have he : endV ((b, true, false) : RV) = 0 := he
    unfold endV at he
    simp only [Bool.not_true, cond_false] at he
    by_cases h0 : (0 : Int) < (b.length : Int)
    · rw [decide_eq_true h0] at he; exact absurd he (by decide)
    · exact List.length_eq_zero_iff.1 (by omega)
  | p :: l, c0, b, hb, hn, hc, he => by
    rw [rdAll] at he ⊢
    rw [List.nodup_cons] at hn
    rcases dec_enc p c0 hb hc.1 with ⟨r, r1, r2, r3⟩ | h
    · have hc2 := hc.2
      rw [r3] at he hc2 ⊢
      have ih := dec_all l (rdC p c0 (b, true, false)) r2 hn.2 hc2 he
      rw [List.flatMap_cons, enc_all l p _ _ hn.1, ← ih]
      exact r1
    · rw [h, rd_bads] at he
      exact absurd he (by decide)
theorem flat_congr {l : List PK} {f g : PK → List Int} (h : ∀ p ∈ l, f p = g p) : l.flatMap f = l.flatMap g := by
  induction l with
  | nil => rfl
  | cons p l ih => rw [List.flatMap_cons, List.flatMap_cons, h p (by simp), ih (fun q hq => h q (by simp [hq]))]
theorem ps_nodup (o : Int) : (psOf o).Nodup := by
  by_cases h0 : psOf o = []
  · rw [h0]; exact List.nodup_nil
  · rcases ps_cases h0 with rfl | rfl | rfl | rfl | rfl | rfl | rfl | rfl | rfl | rfl | rfl | rfl | rfl | rfl | rfl | rfl | rfl | rfl <;> decide
theorem rd_op (p : PK) (c : CV) (x : RV) : (rdC p c x).1 = c.1 := by cases p <;> rfl
theorem rd_ops : ∀ (l : List PK) (c : CV) (x : RV), (rdAll l c x).1.1 = c.1
  | [], c, x => rfl
  | p :: l, c, x => by rw [rdAll, rd_ops l, rd_op]
theorem join_op (c : CV) : (joinT c).1 = c.1 := by
  unfold joinT
  cases decide (c.1 = (18 : Int)) <;> rfl
theorem join_enc (p : PK) (c : CV) (h : p ∈ psOf c.1) : encP p (joinT c) = encP p c := by
  unfold joinT
  by_cases h18 : c.1 = (18 : Int)
  · rw [decide_eq_true h18, cond_true]
    rw [h18] at h
    have : p = .desc := by
      have h : p ∈ ([.desc] : List PK) := h
      simpa using h
    subst this
    rfl
  · rw [decide_eq_false h18, cond_false]
theorem rof_canon {b : List Int} (hb : Bytes b) (hl : b.length ≤ 10000) (h1 : rofBad b = false) (h2 : endV (rofX b).2 = 0) (h3 : mayM (joinT (rofX b).1) = true) : bytesM (joinT (rofX b).1) = b := by
  have hop := may_op h3
  have hx1 : (rofX b).1.1 = IntKind.wrap .i64 (numV (newV b) 1) := by unfold rofX; rw [rd_ops]; rfl
  rw [join_op, hx1] at hop
  obtain ⟨g1, g2⟩ := op_range (b := b) hb (by omega)
  have hw : IntKind.wrap .i64 (numV (newV b) 1) = numV (newV b) 1 := wrapS (by omega)
  rcases num_split8 hb (m := 1) (by omega) (by omega) with ⟨n, n1, n2, n3, n4⟩ | hbad
  · rw [show ((1 : Nat) : Int) = 1 from rfl] at n3 n4
    have n3 : numV (newV b) 1 = (n : Int) := n3
    have n4 : numS (newV b) 1 = (b.drop 1, true, false) := n4
    rw [hw, n3] at hop hx1
    have hop : (1 : Int) ≤ (n : Int) ∧ (n : Int) ≤ (18 : Int) := hop
    have hX : rofX b = rdAll (psOf (n : Int)) (zeroC (n : Int)) (b.drop 1, true, false) := by unfold rofX; rw [hw, n3, n4]
    have hcr : crOk (psOf (n : Int)) (b.drop 1, true, false) := by
      by_cases h17 : (n : Int) = 17
      · unfold rofBad at h1
        rw [hw, n3, n4, decide_eq_true h17, Bool.true_and] at h1
        have h1 := of_decide_eq_false h1
        rw [h17]
        exact ⟨fun e => (by cases e), fun _ => (by omega), trivial⟩
      · have h0 : psOf (n : Int) ≠ [] := fun e => by have := ps_none e; omega
        rcases ps_cases h0 with e | e | e | e | e | e | e | e | e | e | e | e | e | e | e | e | e | e
        all_goals first
          | exact absurd e h17
          | (rw [e]
             repeat' constructor
             all_goals (intro e'; cases e'))
    have hd := dec_all (psOf (n : Int)) (zeroC (n : Int)) (bytes_drop hb 1) (ps_nodup _) hcr (by rw [← hX]; exact h2)
    rw [← hX] at hd
    rw [bytesM_eq h3, join_op, hx1]
    have : (psOf (n : Int)).flatMap (fun p => encP p (joinT (rofX b).1)) = (psOf (n : Int)).flatMap (fun p => encP p (rofX b).1) := by
      exact flat_congr (fun p hp => join_enc p _ (by rw [hx1]; exact hp))
    rw [this, ← hd]
    exact n2.symm
  · exfalso
    have hbad : numS (newV b) 1 = ([], true, true) := hbad
    unfold rofX at h2
    rw [hbad, rd_bads] at h2
    exact absurd h2 (by decide)
theorem cof_rof {b : List Int} (hb : Bytes b) (hl : b.length ≤ 10000) : cofM b = rofM b ∧ ((rofM b).2 = 0 → bytesM (rofM b).1 = b) ∧ ((rofM b).2 = 0 ∨ (rofM b).2 = 2) := by
  have hwf := wf_of b hb
  by_cases hgood : rofBad b = false ∧ endV (rofX b).2 = 0 ∧ mayM (joinT (rofX b).1) = true
  · obtain ⟨h1, h2, h3⟩ := hgood
    have hc := rof_canon hb hl h1 h2 h3
    have e1 := cof_bytes h3 hwf.2
    have e2 := rof_bytes h3 hwf.2
    rw [hc] at e1 e2
    rw [e1, e2]
    exact ⟨rfl, fun _ => hc, .inl rfl⟩
  · have er : rofM b = (zeroC 0, 2) := by
      unfold rofM finR
      cases h1 : rofBad b with
      | true => rfl
      | false =>
        rw [cond_false]
        by_cases h2 : endV (rofX b).2 = 0
        · cases h3 : mayM (joinT (rofX b).1) with
          | false => rw [Bool.and_false]; rfl
          | true => exact absurd ⟨h1, h2, h3⟩ hgood
        · rw [decide_eq_false h2]; rfl
    refine ⟨?_, fun h => (by rw [er] at h; cases h), .inr (by rw [er])⟩
    rw [er]
    unfold cofM finC
    cases hbig : decide ((298 : Int) < (b.length : Int)) with
    | true => rfl
    | false =>
      rw [cond_false]
      cases hm : mayM (cofC b) with
      | false => rfl
      | true =>
        cases he : eqBy (bytesM (cofC b)) b with
        | false => rfl
        | true =>
          exfalso
          have heq : bytesM (cofC b) = b := of_decide_eq_true he
          have ht : inT (cofC b).2.2.2.2.2.2.2.2.2.1 := by
            have hz : ∀ (l : List PK) (c : CV) {x : RV}, Bytes x.1 → wfC c → wfC (cofR l c x).1 := by
              intro l
              induction l with
              | nil => intro c x h hc; exact hc
              | cons p l ih =>
                intro c x h hc
                rw [cofR]
                cases failedB (rdS p x) with
                | true => exact wf_rd p c h hc
                | false => exact ih _ (rdS_bytes h p) (wf_rd p c h hc)
            exact (wf_join _ (hz _ _ (takeS_bytes (x := newV b) hb _) (wf_zero _))).2
          obtain ⟨_, e2, e3, e4⟩ := read_back hm ht []
          rw [List.append_nil, heq] at e2 e3 e4
          refine hgood ⟨e4, by rw [e3]; rfl, ?_⟩
          rw [e2]; exact hm
end Go.Mx
namespace Go.Mx
open Go Go.RowKit Go.Sx Go.Proofs
set_option maxRecDepth 100000
noncomputable def G6c : Sums := sums all [(9, F9k), (19, W 19), (20, F20f), (21, F21f), (22, F22f), (23, F23f), (24, peekS 24 F24f), (25, F25f)]
def lv6c : Tl := ⟨fun q => match q with | 0 => some [1, 3, 5, 6, 7] | _ => none, []⟩
theorem lawb_0 {R : Type} (L : Nat → St → (Exit → St → Option R) → Option R) (K : KV R) (c : CV) : runX Tryd.prog G6c lv6c Tryd.f6 0 L [.dat CT c] [] K = bif decide ((70000 : Int) < (↑(ByteArray.size c.2.2.2.2.2.1) : Int)) then K (AV.dat T.bool true) [] else bif decide ((70000 : Int) < (↑(ByteArray.size c.2.2.2.2.1.2) : Int)) then K (AV.dat T.bool true) [] else ck (okPerm c) (bif mayM c then ck (okPerm c) (ck (wfC c) (bif !mayM c == mayM c then K (AV.dat T.bool false) [] else ck (wfC c) (bif !mayM c then K (AV.dat T.bool false) [] else ck (wfC c ∧ mayM c = true) (bif !decide (strOf (bytesM c) = strOf (bytesM c)) then K (AV.dat T.bool false) [] else ck (List.length (bytesM c) ≤ (10000 : Nat) ∧ ∀ (x : Int), x ∈ bytesM c → (0 : Int) ≤ x ∧ x < (256 : Int)) (L (0 : Nat) (St.mk [(1, AV.ptr 0 []), (3, AV.view 1), (5, AV.ptr 2 []), (6, AV.dat I64 ((cofM (bytesM c)).2)), (7, AV.dat I64 (0 : Int))] [AO.box 52 (AV.dat CT c) true, AO.row 5 U8 (bytesM c) Md.own, AO.box 52 (AV.dat CT ((cofM (bytesM c)).1)) true]) (endX Tryd.prog G6c lv6c Tryd.f6 (0 : Nat) L K (0 : Nat))))))) else ck (okPerm c) (ck (wfC c) (bif !mayM c == mayM c then K (AV.dat T.bool false) [] else ck (wfC c) (bif !mayM c then K (AV.dat T.bool true) [] else K (AV.dat T.bool false) [])))) := by kernel_rfl
theorem lawr_0 {R : Type} (K : KV R) (b : List Int) : (codeX Tryd.prog G6c lvN 0 Tryd.f7).run [.dat BL b] [] K = bif decide ((2000 : Int) < (↑(List.length b) : Int)) then K (AV.dat T.bool true) [] else ck (List.length b * (1 : Nat) ≤ limit) (ck (List.length b ≤ (10000 : Nat) ∧ ∀ (x : Int), x ∈ b → (0 : Int) ≤ x ∧ x < (256 : Int)) (ck (List.length b ≤ (10000 : Nat) ∧ ∀ (x : Int), x ∈ b → (0 : Int) ≤ x ∧ x < (256 : Int)) (bif !(decide ((cofM b).1.1 = (rofM b).1.1) && (decide ((cofM b).1.2.1 = (rofM b).1.2.1) && (decide ((cofM b).1.2.2.1 = (rofM b).1.2.2.1) && (decide ((cofM b).1.2.2.2.1 = (rofM b).1.2.2.2.1) && (decide ((cofM b).1.2.2.2.2.1.1 = (rofM b).1.2.2.2.2.1.1) && decide ((cofM b).1.2.2.2.2.1.2 = (rofM b).1.2.2.2.2.1.2) && (decide ((cofM b).1.2.2.2.2.2.1 = (rofM b).1.2.2.2.2.2.1) && (decide ((cofM b).1.2.2.2.2.2.2.1 = (rofM b).1.2.2.2.2.2.2.1) && (decide ((cofM b).1.2.2.2.2.2.2.2.1 = (rofM b).1.2.2.2.2.2.2.2.1) && (decide ((cofM b).1.2.2.2.2.2.2.2.2.1 = (rofM b).1.2.2.2.2.2.2.2.2.1) && (decide ((cofM b).1.2.2.2.2.2.2.2.2.2.1 = (rofM b).1.2.2.2.2.2.2.2.2.2.1) && (decide ((cofM b).1.2.2.2.2.2.2.2.2.2.2.1 = (rofM b).1.2.2.2.2.2.2.2.2.2.2.1) && (cofM b).1.2.2.2.2.2.2.2.2.2.2.2 == (rofM b).1.2.2.2.2.2.2.2.2.2.2.2))))))))))) then K (AV.dat T.bool false) [] else bif !decide ((cofM b).2 = (rofM b).2) then K (AV.dat T.bool false) [] else bif !decide (strOf b = strOf b) then K (AV.dat T.bool false) [] else bif !decide ((cofM b).2 = (0 : Int)) then K (AV.dat T.bool true) [] else ck (wfC ((cofM b).1) ∧ mayM ((cofM b).1) = true) (bif decide (strOf (bytesM ((cofM b).1)) = strOf b) then K (AV.dat T.bool true) [] else K (AV.dat T.bool false) [])))) := by kernel_rfl
theorem lawc_0 {R : Type} (K : KV R) (c : CV) (n : Int) (more : List Int) : (codeX Tryd.prog G6c lvN 0 Tryd.f8).run [.dat CT c, .dat I64 n, .dat BL more] [] K = bif decide ((70000 : Int) < (↑(ByteArray.size c.2.2.2.2.2.1) : Int)) then K (AV.dat T.bool true) [] else bif decide ((70000 : Int) < (↑(ByteArray.size c.2.2.2.2.1.2) : Int)) then K (AV.dat T.bool true) [] else ck (wfC c) (bif !mayM c then K (AV.dat T.bool true) [] else bif decide ((100 : Int) < (↑(List.length more) : Int)) then K (AV.dat T.bool true) [] else ck (okPerm c) (bif mayM c then bif decide ((↑(List.length (bytesM c)) : Int) = (0 : Int)) then K (AV.dat T.bool false) [] else ck (IntKind.wrap IntKind.u64 (↑(List.length (bytesM c)) : Int) ≠ (0 : Int)) (ck ((0 : Int) ≤ IntKind.wrap IntKind.i64 (Int.tmod (IntKind.wrap IntKind.u64 n) (IntKind.wrap IntKind.u64 (↑(List.length (bytesM c)) : Int))) ∧ IntKind.wrap IntKind.i64 (Int.tmod (IntKind.wrap IntKind.u64 n) (IntKind.wrap IntKind.u64 (↑(List.length (bytesM c)) : Int))) ≤ (↑(List.length (bytesM c)) : Int)) (ck (List.length (List.take (Int.toNat (IntKind.wrap IntKind.i64 (Int.tmod (IntKind.wrap IntKind.u64 n) (IntKind.wrap IntKind.u64 (↑(List.length (bytesM c)) : Int))))) (bytesM c)) ≤ (10000 : Nat) ∧ ∀ (x : Int), x ∈ List.take (Int.toNat (IntKind.wrap IntKind.i64 (Int.tmod (IntKind.wrap IntKind.u64 n) (IntKind.wrap IntKind.u64 (↑(List.length (bytesM c)) : Int))))) (bytesM c) → (0 : Int) ≤ x ∧ x < (256 : Int)) (bif !decide ((cofM (List.take (Int.toNat (IntKind.wrap IntKind.i64 (Int.tmod (IntKind.wrap IntKind.u64 n) (IntKind.wrap IntKind.u64 (↑(List.length (bytesM c)) : Int))))) (bytesM c))).2 = (2 : Int)) then K (AV.dat T.bool false) [] else bif !(decide ((cofM (List.take (Int.toNat (IntKind.wrap IntKind.i64 (Int.tmod (IntKind.wrap IntKind.u64 n) (IntKind.wrap IntKind.u64 (↑(List.length (bytesM c)) : Int))))) (bytesM c))).1.1 = (0 : Int)) && (decide ((cofM (List.take (Int.toNat (IntKind.wrap IntKind.i64 (Int.tmod (IntKind.wrap IntKind.u64 n) (IntKind.wrap IntKind.u64 (↑(List.length (bytesM c)) : Int))))) (bytesM c))).1.2.1 = (0 : Int)) && (decide ((cofM (List.take (Int.toNat (IntKind.wrap IntKind.i64 (Int.tmod (IntKind.wrap IntKind.u64 n) (IntKind.wrap IntKind.u64 (↑(List.length (bytesM c)) : Int))))) (bytesM c))).1.2.2.1 = (0 : Int)) && (decide ((cofM (List.take (Int.toNat (IntKind.wrap IntKind.i64 (Int.tmod (IntKind.wrap IntKind.u64 n) (IntKind.wrap IntKind.u64 (↑(List.length (bytesM c)) : Int))))) (bytesM c))).1.2.2.2.1 = (0 : Int)) && (decide ((cofM (List.take (Int.toNat (IntKind.wrap IntKind.i64 (Int.tmod (IntKind.wrap IntKind.u64 n) (IntKind.wrap IntKind.u64 (↑(List.length (bytesM c)) : Int))))) (bytesM c))).1.2.2.2.2.1.1 = (0 : Int)) && decide ((cofM (List.take (Int.toNat (IntKind.wrap IntKind.i64 (Int.tmod (IntKind.wrap IntKind.u64 n) (IntKind.wrap IntKind.u64 (↑(List.length (bytesM c)) : Int))))) (bytesM c))).1.2.2.2.2.1.2 = ByteArray.mk #[]) && (decide ((cofM (List.take (Int.toNat (IntKind.wrap IntKind.i64 (Int.tmod (IntKind.wrap IntKind.u64 n) (IntKind.wrap IntKind.u64 (↑(List.length (bytesM c)) : Int))))) (bytesM c))).1.2.2.2.2.2.1 = ByteArray.mk #[]) && (decide ((cofM (List.take (Int.toNat (IntKind.wrap IntKind.i64 (Int.tmod (IntKind.wrap IntKind.u64 n) (IntKind.wrap IntKind.u64 (↑(List.length (bytesM c)) : Int))))) (bytesM c))).1.2.2.2.2.2.2.1 = (0 : Int)) && (decide ((cofM (List.take (Int.toNat (IntKind.wrap IntKind.i64 (Int.tmod (IntKind.wrap IntKind.u64 n) (IntKind.wrap IntKind.u64 (↑(List.length (bytesM c)) : Int))))) (bytesM c))).1.2.2.2.2.2.2.2.1 = (0 : Int)) && (decide ((cofM (List.take (Int.toNat (IntKind.wrap IntKind.i64 (Int.tmod (IntKind.wrap IntKind.u64 n) (IntKind.wrap IntKind.u64 (↑(List.length (bytesM c)) : Int))))) (bytesM c))).1.2.2.2.2.2.2.2.2.1 = (0 : Int)) && (decide ((cofM (List.take (Int.toNat (IntKind.wrap IntKind.i64 (Int.tmod (IntKind.wrap IntKind.u64 n) (IntKind.wrap IntKind.u64 (↑(List.length (bytesM c)) : Int))))) (bytesM c))).1.2.2.2.2.2.2.2.2.2.1 = (0 : Int)) && (decide ((cofM (List.take (Int.toNat (IntKind.wrap IntKind.i64 (Int.tmod (IntKind.wrap IntKind.u64 n) (IntKind.wrap IntKind.u64 (↑(List.length (bytesM c)) : Int))))) (bytesM c))).1.2.2.2.2.2.2.2.2.2.2.1 = (0 : Int)) && (cofM (List.take (Int.toNat (IntKind.wrap IntKind.i64 (Int.tmod (IntKind.wrap IntKind.u64 n) (IntKind.wrap IntKind.u64 (↑(List.length (bytesM c)) : Int))))) (bytesM c))).1.2.2.2.2.2.2.2.2.2.2.2 == false))))))))))) then K (AV.dat T.bool false) [] else ck (List.length (bytesM c) * (1 : Nat) ≤ limit) (ck ((List.length (bytesM c) + List.length more) * (1 : Nat) ≤ limit) (ck (List.length (bytesM c ++ more) ≤ (10000 : Nat) ∧ ∀ (x : Int), x ∈ bytesM c ++ more → (0 : Int) ≤ x ∧ x < (256 : Int)) (bif decide ((cofM (bytesM c ++ more)).2 = (0 : Int)) == decide ((↑(List.length more) : Int) = (0 : Int)) then bif !decide ((cofM (bytesM c ++ more)).2 = (0 : Int)) then K (AV.dat T.bool true) [] else bif decide ((cofM (bytesM c ++ more)).1.1 = c.1) && (decide ((cofM (bytesM c ++ more)).1.2.1 = c.2.1) && (decide ((cofM (bytesM c ++ more)).1.2.2.1 = c.2.2.1) && (decide ((cofM (bytesM c ++ more)).1.2.2.2.1 = c.2.2.2.1) && (decide ((cofM (bytesM c ++ more)).1.2.2.2.2.1.1 = c.2.2.2.2.1.1) && decide ((cofM (bytesM c ++ more)).1.2.2.2.2.1.2 = c.2.2.2.2.1.2) && (decide ((cofM (bytesM c ++ more)).1.2.2.2.2.2.1 = c.2.2.2.2.2.1) && (decide ((cofM (bytesM c ++ more)).1.2.2.2.2.2.2.1 = c.2.2.2.2.2.2.1) && (decide ((cofM (bytesM c ++ more)).1.2.2.2.2.2.2.2.1 = c.2.2.2.2.2.2.2.1) && (decide ((cofM (bytesM c ++ more)).1.2.2.2.2.2.2.2.2.1 = c.2.2.2.2.2.2.2.2.1) && (decide ((cofM (bytesM c ++ more)).1.2.2.2.2.2.2.2.2.2.1 = c.2.2.2.2.2.2.2.2.2.1) && (decide ((cofM (bytesM c ++ more)).1.2.2.2.2.2.2.2.2.2.2.1 = c.2.2.2.2.2.2.2.2.2.2.1) && (cofM (bytesM c ++ more)).1.2.2.2.2.2.2.2.2.2.2.2 == c.2.2.2.2.2.2.2.2.2.2.2)))))))))) then K (AV.dat T.bool true) [] else K (AV.dat T.bool false) [] else K (AV.dat T.bool false) [])))))) else K (AV.dat T.bool false) [])) := by kernel_rfl
theorem lawb_s {R : Type} (L L0 : Nat → St → (Exit → St → Option R) → Option R) (K : KV R) (c d : CV) (xs : List Int) (e i : Int) : stepX Tryd.prog G6c lv6c 0 (codeOf Tryd.f6) L 0 ⟨[(1, .ptr 0 []), (3, .view 1), (5, .ptr 2 []), (6, .dat I64 e), (7, .dat I64 i)], [.box 52 (.dat CT c) true, .row 5 U8 xs .own, .box 52 (.dat CT d) true]⟩ (endX Tryd.prog G6c lv6c Tryd.f6 0 L0 K 0) = bif decide (i < (↑(List.length xs) : Int)) then ck ((0 : Int) ≤ i ∧ i < (↑(List.length xs) : Int)) (Option.bind xs[Int.toNat i]? fun x ↦ ck ((0 : Int) ≤ i ∧ i < (↑(List.length xs) : Int)) (Option.bind xs[Int.toNat i]? fun x_1 ↦ L (0 : Nat) (St.mk [(1, AV.ptr 0 []), (3, AV.view 1), (5, AV.ptr 2 []), (6, AV.dat I64 e), (7, AV.dat I64 (IntKind.wrap IntKind.i64 (i + (1 : Int))))] [AO.box 52 (AV.dat CT c) true, AO.row 5 U8 (List.set xs (Int.toNat i) (IntKind.wrap IntKind.u8 (x + (1 : Int)))) Md.own, AO.box 52 (AV.dat CT d) true]) (endX Tryd.prog G6c lv6c Tryd.f6 (0 : Nat) L0 K (0 : Nat)))) else bif decide (e = (0 : Int)) then bif decide (d.1 = c.1) && (decide (d.2.1 = c.2.1) && (decide (d.2.2.1 = c.2.2.1) && (decide (d.2.2.2.1 = c.2.2.2.1) && (decide (d.2.2.2.2.1.1 = c.2.2.2.2.1.1) && decide (d.2.2.2.2.1.2 = c.2.2.2.2.1.2) && (decide (d.2.2.2.2.2.1 = c.2.2.2.2.2.1) && (decide (d.2.2.2.2.2.2.1 = c.2.2.2.2.2.2.1) && (decide (d.2.2.2.2.2.2.2.1 = c.2.2.2.2.2.2.2.1) && (decide (d.2.2.2.2.2.2.2.2.1 = c.2.2.2.2.2.2.2.2.1) && (decide (d.2.2.2.2.2.2.2.2.2.1 = c.2.2.2.2.2.2.2.2.2.1) && (decide (d.2.2.2.2.2.2.2.2.2.2.1 = c.2.2.2.2.2.2.2.2.2.2.1) && d.2.2.2.2.2.2.2.2.2.2.2 == c.2.2.2.2.2.2.2.2.2.2.2)))))))))) then K (AV.dat T.bool true) [] else K (AV.dat T.bool false) [] else K (AV.dat T.bool false) [] := by kernel_rfl
end Go.Mx
namespace Go.Mx
open Go Go.RowKit Go.Sx Go.Proofs
set_option maxRecDepth 100000
theorem eqC_refl (c : CV) : eqC c c = true := (eqC_iff c c).2 rfl
theorem bytesM_bytes {c : CV} (h : mayM c = true) (ht : inT c.2.2.2.2.2.2.2.2.2.1) : Bytes (bytesM c) := by
  rw [bytesM_eq h]
  intro y hy
  rcases List.mem_append.1 hy with h1 | h1
  · exact pB_bytes _ _ (Int.le_trans (by decide) (may_op h).1) y h1
  · exact flat_bytes c ht.1 _ y h1
theorem lawb_loop {R : Type} (L0 : Nat → St → (Exit → St → Option R) → Option R) (K : KV R) (c : CV) : ∀ (j k i : Nat) (xs : List Int), i + j = xs.length → xs.length ≤ 10000 → j < k →
    LX Tryd.prog G6c lv6c 0 (codeOf Tryd.f6) k 0 ⟨[(1, .ptr 0 []), (3, .view 1), (5, .ptr 2 []), (6, .dat I64 0), (7, .dat I64 (i : Int))], [.box 52 (.dat CT c) true, .row 5 U8 xs .own, .box 52 (.dat CT c) true]⟩ (endX Tryd.prog G6c lv6c Tryd.f6 0 L0 K 0) = K (.dat .bool true) [] := by
  intro j
  induction j with
  | zero =>
    intro k i xs hi hx hk
    obtain ⟨k, rfl⟩ : ∃ q, k = q + 1 := ⟨k - 1, by omega⟩
    refine (lawb_s _ L0 K c c xs 0 i).trans ?_
    rw [show decide ((i : Int) < (xs.length : Nat)) = false from decide_eq_false (by omega), cond_false]
    refine Eq.trans (b := cond (eqC c c) _ _) rfl ?_
    rw [eqC_refl]
    rfl
  | succ j ih =>
    intro k i xs hi hx hk
    obtain ⟨k, rfl⟩ : ∃ q, k = q + 1 := ⟨k - 1, by omega⟩
    refine (lawb_s _ L0 K c c xs 0 i).trans ?_
    have hi' : i < xs.length := by omega
    rw [show decide ((i : Int) < (xs.length : Nat)) = true from decide_eq_true (by omega), cond_true, Int.toNat_natCast, List.getElem?_eq_getElem hi', wrapS (x := (i : Int) + 1) (by omega)]
    simp only [Option.bind_some, ck_pos (show (0 : Int) ≤ (i : Int) ∧ (i : Int) < ((xs.length : Nat) : Int) by omega)]
    generalize hz : List.set xs i _ = zs
    have hl : zs.length = xs.length := by rw [← hz, List.length_set]
    have e := ih k (i + 1) zs (by omega) (by omega) (by omega)
    rw [show ((i + 1 : Nat) : Int) = (i : Int) + 1 by omega] at e
    exact e
theorem lawb_run {R : Type} (k : Nat) (hk : 400 ≤ k) (K : KV R) (c : CV) (hw : wfC c) : (codeX Tryd.prog G6c lv6c k Tryd.f6).run [.dat CT c] [] K = K (.dat .bool true) [] := by
  refine (codeX_at (m := 0) rfl).trans ?_
  refine (lawb_0 (LX Tryd.prog G6c lv6c 0 (codeOf Tryd.f6) k) K c).trans ?_
  cases decide ((70000 : Int) < ((ByteArray.size c.2.2.2.2.2.1 : Nat) : Int)) with
  | true => rfl
  | false =>
    cases decide ((70000 : Int) < ((ByteArray.size c.2.2.2.2.1.2 : Nat) : Int)) with
    | true => rfl
    | false =>
      rw [cond_false, cond_false, ck_pos hw.1, ck_pos hw.1, ck_pos hw, ck_pos hw]
      cases hm : mayM c with
      | false =>
        refine (ck_pos hw.1).trans ((ck_pos hw).trans ?_)
        exact ck_pos hw
      | true =>
        rw [cond_true]
        refine Eq.trans (b := ck (wfC c ∧ mayM c = true) _) (by rw [hm]; rfl) ((ck_pos ⟨hw, hm⟩).trans ?_)
        rw [decide_eq_true rfl, Bool.not_true, cond_false]
        have hb := bytesM_298 hm
        refine (ck_pos ⟨by omega, bytesM_bytes hm hw.2⟩).trans ?_
        rw [cof_bytes hm hw.2]
        exact lawb_loop _ K c (bytesM c).length k 0 (bytesM c) (by omega) (by omega) (by omega)
theorem cof_wf {b : List Int} (hb : Bytes b) (hl : b.length ≤ 10000) (h : (cofM b).2 = 0) : wfC (cofM b).1 ∧ mayM (cofM b).1 = true ∧ bytesM (cofM b).1 = b := by
  obtain ⟨e1, e2, _⟩ := cof_rof hb hl
  rw [e1] at h ⊢
  have hc := e2 h
  refine ⟨?_, ?_, hc⟩
  · unfold rofM finR at h ⊢
    cases h1 : rofBad b with
    | true => rw [h1] at h; cases h
    | false =>
      rw [h1] at h
      rw [cond_false] at h ⊢
      cases h2 : (decide (endV (rofX b).2 = 0) && mayM (joinT (rofX b).1)) with
      | true => exact wf_of b hb
      | false => rw [h2] at h; cases h
  · unfold rofM finR at h ⊢
    cases h1 : rofBad b with
    | true => rw [h1] at h; cases h
    | false =>
      rw [h1] at h
      rw [cond_false] at h ⊢
      cases h2 : (decide (endV (rofX b).2 = 0) && mayM (joinT (rofX b).1)) with
      | true =>
        rw [Bool.and_eq_true] at h2
        exact h2.2
      | false => rw [h2] at h; cases h
theorem lawr_run {R : Type} (K : KV R) (b : List Int) (hb : Bytes b) : (codeX Tryd.prog G6c lvN 0 Tryd.f7).run [.dat BL b] [] K = K (.dat .bool true) [] := by
  refine (lawr_0 K b).trans ?_
  by_cases hl : (2000 : Int) < (b.length : Int)
  · rw [decide_eq_true hl]; rfl
  obtain ⟨e1, e2, e3⟩ := cof_rof hb (show b.length ≤ 10000 by omega)
  have hbk : List.length b ≤ 10000 ∧ ∀ x ∈ b, 0 ≤ x ∧ x < (256 : Int) := ⟨by omega, hb⟩
  rw [decide_eq_false hl, cond_false, ck_pos (show List.length b * 1 ≤ limit by unfold limit; omega), ck_pos hbk, ck_pos hbk, ← e1]
  refine Eq.trans (b := cond (!eqC (cofM b).1 (cofM b).1) _ _) rfl ?_
  rw [eqC_refl, decide_eq_true rfl, decide_eq_true rfl]
  rw [Bool.not_true, cond_false, cond_false, cond_false]
  by_cases h0 : (cofM b).2 = 0
  · obtain ⟨w1, w2, w3⟩ := cof_wf hb (show b.length ≤ 10000 by omega) h0
    rw [decide_eq_true h0, Bool.not_true, cond_false, ck_pos ⟨w1, w2⟩, w3, decide_eq_true rfl]
    rfl
  · rw [decide_eq_false h0]; rfl
theorem cof_none {b : List Int} (hb : Bytes b) (hl : b.length ≤ 10000) (h : (cofM b).2 ≠ 0) : cofM b = (zeroC 0, 2) := by
  obtain ⟨e1, _, e3⟩ := cof_rof hb hl
  unfold cofM finC at h ⊢
  cases h1 : decide ((298 : Int) < (b.length : Int)) with
  | true => rfl
  | false =>
    rw [h1, cond_false] at h
    rw [cond_false]
    cases h2 : (mayM (cofC b) && eqBy (bytesM (cofC b)) b) with
    | true => rw [h2] at h; exact absurd rfl h
    | false => rfl
theorem lawc_run {R : Type} (K : KV R) (c : CV) (n : Int) (more : List Int) (hw : wfC c) (hmore : Bytes more) : (codeX Tryd.prog G6c lvN 0 Tryd.f8).run [.dat CT c, .dat I64 n, .dat BL more] [] K = K (.dat .bool true) [] := by
  refine (lawc_0 K c n more).trans ?_
  cases decide ((70000 : Int) < ((ByteArray.size c.2.2.2.2.2.1 : Nat) : Int)) with
  | true => rfl
  | false =>
    cases decide ((70000 : Int) < ((ByteArray.size c.2.2.2.2.1.2 : Nat) : Int)) with
    | true => rfl
    | false =>
      rw [cond_false, cond_false, ck_pos hw]
      cases hm : mayM c with
      | false => rfl
      | true =>
        rw [Bool.not_true, cond_false]
        by_cases hl : (100 : Int) < (more.length : Int)
        · rw [decide_eq_true hl]; rfl
        obtain ⟨b1, b2⟩ := bytesM_298 hm
        have hB := bytesM_bytes hm hw.2
        have hu : IntKind.wrap .u64 (((bytesM c).length : Nat) : Int) = (((bytesM c).length : Nat) : Int) := by rw [IntKind.wrap_u64]; omega
        have hn0 : 0 ≤ IntKind.wrap .u64 n := by rw [IntKind.wrap_u64]; omega
        have hmod : Int.tmod (IntKind.wrap .u64 n) (((bytesM c).length : Nat) : Int) = (IntKind.wrap .u64 n) % (((bytesM c).length : Nat) : Int) := Int.tmod_eq_emod_of_nonneg hn0
        have hlt := Int.emod_lt_of_pos (IntKind.wrap .u64 n) (show (0 : Int) < (((bytesM c).length : Nat) : Int) by omega)
        have hge := Int.emod_nonneg (IntKind.wrap .u64 n) (show (((bytesM c).length : Nat) : Int) ≠ 0 by omega)
        rw [decide_eq_false hl, cond_false, ck_pos hw.1, cond_true, hu, hmod, wrapS (x := (IntKind.wrap .u64 n) % (((bytesM c).length : Nat) : Int)) (by omega)]
        generalize (IntKind.wrap .u64 n) % (((bytesM c).length : Nat) : Int) = q at hlt hge
        rw [decide_eq_false (show ¬ ((((bytesM c).length : Nat) : Int)) = 0 by omega), cond_false, ck_pos (show (((bytesM c).length : Nat) : Int) ≠ 0 by omega), ck_pos (show 0 ≤ q ∧ q ≤ (((bytesM c).length : Nat) : Int) by omega)]
        have hT : Bytes (List.take q.toNat (bytesM c)) := fun y hy => hB y (List.mem_of_mem_take hy)
        have hTl : (List.take q.toNat (bytesM c)).length < (bytesM c).length := by rw [List.length_take]; omega
        have hTz : cofM (List.take q.toNat (bytesM c)) = (zeroC 0, 2) := by
          refine cof_none hT (by omega) (fun h0 => ?_)
          obtain ⟨w1, w2, w3⟩ := cof_wf hT (by omega) h0
          have hp := bytes_pre hm w2 hw.2 w1.2 (r := List.drop q.toNat (bytesM c)) (by rw [w3, List.take_append_drop])
          have := congrArg List.length hp.1
          rw [List.length_drop] at this
          rw [List.length_take] at hTl
          simp only [List.length_nil] at this
          omega
        rw [ck_pos ⟨by omega, hT⟩, hTz]
        refine Eq.trans (b := ck ((bytesM c).length * 1 ≤ limit) _) rfl ((ck_pos (by unfold limit; omega)).trans ?_)
        have hM : Bytes (bytesM c ++ more) := fun y hy => by
          rcases List.mem_append.1 hy with h | h
          · exact hB y h
          · exact hmore y h
        have hMl : (bytesM c ++ more).length ≤ 10000 := by rw [List.length_append]; omega
        refine (ck_pos (by unfold limit; omega)).trans ((ck_pos ⟨hMl, hM⟩).trans ?_)
        by_cases h0 : (cofM (bytesM c ++ more)).2 = 0
        · obtain ⟨w1, w2, w3⟩ := cof_wf hM hMl h0
          obtain ⟨p1, p2⟩ := bytes_pre w2 hm w1.2 hw.2 w3
          have hz : ((more.length : Nat) : Int) = 0 := by rw [p1]; rfl
          rw [decide_eq_true h0, decide_eq_true hz, p2]
          refine Eq.trans (b := cond (eqC c c) _ _) rfl ?_
          rw [eqC_refl]
          rfl
        · have hz : ¬ ((more.length : Nat) : Int) = 0 := by
            intro hz
            have : more = [] := List.length_eq_zero_iff.1 (by omega)
            rw [this, List.append_nil, cof_bytes hm hw.2] at h0
            exact h0 rfl
          rw [decide_eq_false h0, decide_eq_false hz]
          rfl
theorem all6c : AllOk Tryd.prog [(9, F9k), (19, W 19), (20, F20f), (21, F21f), (22, F22f), (23, F23f), (24, peekS 24 F24f), (25, F25f)] := ⟨F9k_ok, W_ok 19, F20f_ok, F21f_ok, F22f_ok, F23f_ok, peek_ok F24f_ok, F25f_ok, trivial⟩
abbrev WfCall (x : CV) : Prop := (Lit.int .i64 x.1).wf = true ∧ (Lit.int .i64 x.2.1).wf = true ∧ (Lit.int .i64 x.2.2.1).wf = true ∧ (Lit.int .i64 x.2.2.2.1).wf = true ∧ ((Lit.int .i64 x.2.2.2.2.1.1).wf = true ∧ x.2.2.2.2.1.2.size ≤ 140737488351232) ∧ x.2.2.2.2.2.1.size ≤ 140737488351232 ∧ (Lit.int .u32 x.2.2.2.2.2.2.1).wf = true ∧ (Lit.int .i64 x.2.2.2.2.2.2.2.1).wf = true ∧ (Lit.int .i64 x.2.2.2.2.2.2.2.2.1).wf = true ∧ (Lit.int .u64 x.2.2.2.2.2.2.2.2.2.1).wf = true ∧ (Lit.int .i64 x.2.2.2.2.2.2.2.2.2.2.1).wf = true ∧ True
theorem wf_u32 {v : Int} (h : (Lit.int .u32 v).wf = true) : 0 ≤ v ∧ v < 4294967296 := by
  simp [Lit.wf, IntKind.min, IntKind.max, IntKind.signed, IntKind.bits] at h
  omega
theorem wf_u64 {v : Int} (h : (Lit.int .u64 v).wf = true) : 0 ≤ v ∧ v < 18446744073709551616 := by
  simp [Lit.wf, IntKind.min, IntKind.max, IntKind.signed, IntKind.bits] at h
  omega
theorem wf_call {c : CV} (h : WfCall c) : wfC c := by
  obtain ⟨_, _, _, _, _, _, h7, _, _, h10, _, _⟩ := h
  exact ⟨wf_u32 h7, wf_u64 h10⟩
theorem RequestBytes_ok : SumOk Tryd.prog 6 (codeX Tryd.prog G6c lv6c 400 Tryd.f6) := codeX_ok (Γ := G6c) mixed noNG_prog (sums_call (Wr := all) all6c) (sums_prim all6c) (fn := Tryd.f6) rfl lv6c 400
theorem RequestReads_ok : SumOk Tryd.prog 7 (codeX Tryd.prog G6c lvN 0 Tryd.f7) := codeX_ok (Γ := G6c) mixed noNG_prog (sums_call (Wr := all) all6c) (sums_prim all6c) (fn := Tryd.f7) rfl lvN 0
theorem RequestCuts_ok : SumOk Tryd.prog 8 (codeX Tryd.prog G6c lvN 0 Tryd.f8) := codeX_ok (Γ := G6c) mixed noNG_prog (sums_call (Wr := all) all6c) (sums_prim all6c) (fn := Tryd.f8) rfl lvN 0
theorem RequestBytes_law (c : CV) (hc : WfCall c) : (codeX Tryd.prog G6c lv6c 400 Tryd.f6).run [.dat CT c] [] isTrue = some true := lawb_run 400 (Nat.le_refl _) isTrue c (wf_call hc)
theorem RequestReads_law (b : List Int) (hb : b.length ≤ 140737488351232 ∧ ∀ x ∈ b, (Lit.int .u8 x).wf = true) : (codeX Tryd.prog G6c lvN 0 Tryd.f7).run [.dat BL b] [] isTrue = some true := lawr_run isTrue b (fun x hx => wf8 (hb.2 x hx))
theorem RequestCuts_law (c : CV) (hc : WfCall c) (n : Int) (_ : (Lit.int .i64 n).wf = true) (more : List Int) (hm : more.length ≤ 140737488351232 ∧ ∀ x ∈ more, (Lit.int .u8 x).wf = true) : (codeX Tryd.prog G6c lvN 0 Tryd.f8).run [.dat CT c, .dat I64 n, .dat BL more] [] isTrue = some true := lawc_run isTrue c n more (wf_call hc) (fun x hx => wf8 (hm.2 x hx))
end Go.Mx
