/- Own work. A part of the proof of a law of this seat: this seat's functions, by the machine, and the plain law -/
import Derived.Test.YtfbgglpfakadhaaDoorWm
import Derived.Test.YtfbgglpfakadhaaDoorMe
/- SeenBreaks: the law holds. -/
namespace Go.Mx
open Go Go.RowKit Go.Sx Go.Proofs
set_option linter.unusedVariables false
set_option linter.unusedSimpArgs false
set_option maxRecDepth 100000
theorem noted_len : ∀ (l : List SV) (s : List SV × Bool), (l.foldl stepM s).1.length ≤ s.1.length + l.length
  | [], s => by simp
  | x :: r, s => by
    rw [List.foldl_cons, List.length_cons]
    have := noted_len r (stepM s x)
    have := stepM_len s x
    omega
theorem lb_run {R : Type} (k : Nat) (hk : 100 ≤ k) (K : KV R) (l more : List SV) (hl : ∀ x ∈ l, 0 ≤ x.2.2.2.2.2.1) : (codeX Tryd.prog G3 lv3 k Tryd.f3).run [.dat (.sl ST) l, .dat (.sl ST) more] [] K = K (.dat .bool true) [] := by
  refine (breaks_0 (LX Tryd.prog G3 lv3 0 (codeOf Tryd.f3) k) K l more).trans ?_
  by_cases h1 : (60 : Int) < (l.length : Int)
  · rw [decide_eq_true h1, cond_true]
  by_cases h2 : (60 : Int) < (more.length : Int)
  · rw [decide_eq_false h1, decide_eq_true h2, cond_true, cond_false]
  rw [decide_eq_false h1, decide_eq_false h2, cond_false, cond_false]
  refine (ck_pos ⟨by omega, hl⟩).trans ?_
  have hn := noted_len l ([], false)
  have hn : (notedM l).1.length ≤ 0 + l.length := hn
  generalize notedM l = s at hn
  obtain ⟨xs, b⟩ := s
  have hn : xs.length ≤ 0 + l.length := hn
  have e := breaks_loop (LX Tryd.prog G3 lv3 0 (codeOf Tryd.f3) k) K more xs (by omega) more.length k 0 xs b (by omega) (by omega) (by omega) ⟨[], by simp⟩
  cases xs with
  | nil => exact e
  | cons z zs => exact (ck_pos (by omega)).trans e
theorem SeenBreaks_ok : SumOk Tryd.prog 3 (codeX Tryd.prog G3 lv3 100 Tryd.f3) :=
  codeX_ok (Γ := G3) mixed noNG_prog (sums_call (Wr := all) (l := [(10, F10), (11, F11), (12, F12), (13, F13), (14, F14), (15, F15)]) ⟨F10_ok, F11_ok, F12_ok, F13_ok, F14_ok, F15_ok, trivial⟩) (sums_prim ⟨F10_ok, F11_ok, F12_ok, F13_ok, F14_ok, F15_ok, trivial⟩) (fn := Tryd.f3) rfl lv3 100
abbrev WfS (x : SV) : Prop := (Lit.int .i64 x.1).wf = true ∧ (Lit.int .i64 x.2.1).wf = true ∧ (Lit.int .i64 x.2.2.1).wf = true ∧ True ∧ (Lit.int .i64 x.2.2.2.2.1).wf = true ∧ (Lit.int .u64 x.2.2.2.2.2.1).wf = true ∧ (Lit.int .i64 x.2.2.2.2.2.2).wf = true
theorem wf_ver {x : SV} (h : WfS x) : 0 ≤ x.2.2.2.2.2.1 := by
  obtain ⟨_, _, _, _, _, h, _⟩ := h
  simp [Lit.wf, IntKind.min, IntKind.signed] at h
  omega
theorem SeenBreaks_law (l : List SV) (hl : l.length ≤ 140737488351232 ∧ ∀ x ∈ l, WfS x) (more : List SV) (_ : more.length ≤ 140737488351232 ∧ ∀ x ∈ more, WfS x) : (codeX Tryd.prog G3 lv3 100 Tryd.f3).run [.dat (.sl ST) l, .dat (.sl ST) more] [] isTrue = some true := lb_run 100 (Nat.le_refl _) isTrue l more (fun x hx => wf_ver (hl.2 x hx))
end Go.Mx
