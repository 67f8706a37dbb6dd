/- Own work. A part of the proof of a law of this seat: this seat's functions, by the machine, and the plain law -/
import Derived.Test.YtkmabfamdonfoaaDoorMe
import Derived.Test.YtkmabfamdonfoaaDoorWp
namespace Go.Mx
set_option linter.unusedVariables false
set_option linter.unusedSimpArgs false
open Go Go.RowKit Go.Sx Go.Proofs
set_option maxRecDepth 100000
def rof1 (b : List Int) : QV := rnumS (b, false) 1
def rof2 (b : List Int) : QV := rnumS (rof1 b) 4
def rof3 (b : List Int) : QV := rblobS (rof2 b) 2
def rofC (b : List Int) : Int := IntKind.i64.wrap (rnumV (b, false) 1)
def rofT (b : List Int) : List Int := bif rbBad (rof2 b) 2 then [] else rblobV (rof2 b) 2
def rofOk (b : List Int) : Bool := decide (rendV (rof3 b) = 0) && !decide (18 < rofC b)
def rofR (b : List Int) : RsV := bif rofOk b then (rofC b, rwholeV (rnumV (rof1 b) 4), strOf (rofT b)) else (0, 0, ⟨#[]⟩)
def rofE (b : List Int) : Int := bif rofOk b then 0 else 2
def F13o : Summ := ⟨fun args ob K => match args, ob with
  | [.dat (.sl (.int .u8)) b], [] => ck (b.length < 100000 ∧ 0 ≤ rblobN (rof2 b) 2) (K (.tup [.dat RsT (rofR b), .dat I64 (rofE b)]) [])
  | _, _ => none⟩
theorem rof_run {R : Type} (K : KV R) (b : List Int) (hl : b.length < 100000) (hn : 0 ≤ rblobN (rof2 b) 2) : (codeX Tryd.prog G13r lvN 0 Tryd.f13).run [.dat BL b] [] K = K (.tup [.dat RsT (rofR b), .dat I64 (rofE b)]) [] := by
  refine (rof_d K b).trans ?_
  have l1 : (rof2 b).1.length < 100000 := Nat.lt_of_le_of_lt (Nat.le_trans (rnumS_len _ _) (rnumS_len _ _)) hl
  rw [ck_pos (by unfold limit; omega)]
  refine (ck_pos (show (rof2 b).1.length < 100000 ∧ (¬ ((2 : Int) = 1 ∨ (2 : Int) = 2) ∨ 0 ≤ rblobN (rof2 b) 2) from ⟨l1, .inr hn⟩)).trans ?_
  unfold rofR rofE rofOk rofT
  show (bif rbBad (rof2 b) 2 then (bif !decide (rendV (rof3 b) = 0) then _ else bif decide (18 < rofC b) then _ else _) else (bif !decide (rendV (rof3 b) = 0) then _ else bif decide (18 < rofC b) then _ else _)) = _
  cases rbBad (rof2 b) 2 <;> cases decide (rendV (rof3 b) = 0) <;> cases decide (18 < rofC b) <;> rfl
theorem all13r : AllOk Tryd.prog [(36, inS 36 cl F19), (37, inS 37 cl F21), (38, inS 38 cl F23), (39, inS 39 cl F34)] := ⟨in_ok F19_ok, in_ok F21_ok, in_ok F23_ok, in_ok F34_ok, trivial⟩
theorem F13o_ok : SumOk Tryd.prog 13 F13o := by
  refine (codeX_ok (k := 0) (lv := lvN) mixed noNG_prog (sums_call (Wr := all) all13r) (sums_prim all13r) (fn := Tryd.f13) rfl).le (fun f args ob K => by unfold F13o; dsimp only; split <;> simp only [bd_none, bd_ck]) ?_
  intro R args ob K r h
  unfold F13o at h; dsimp only at h
  split at h
  · obtain ⟨hl, h⟩ := ck_elim h
    exact (rof_run K _ hl.1 hl.2).trans h
  · cases h
/-! ### both read the same -/
theorem sim_new {b : List Int} (hb : Bytes b) (hl : b.length < 100000) : Sim (newV b) (b, false) := ⟨rfl, rfl, rfl, hb, hl, fun h => by cases h⟩
theorem sim_end {x : RV} {y : QV} (h : Sim x y) : endV x = rendV y := by
  obtain ⟨xs, made, bad⟩ := x
  obtain ⟨ys, bad'⟩ := y
  obtain ⟨h1, h2, h3, h4, h5, h6⟩ := h
  dsimp only at h1 h2 h3 h4 h5 h6
  subst h1 h2 h3
  rfl
theorem of_rof {b : List Int} (hb : Bytes b) (hl : b.length < 100000) : ofR b = rofR b ∧ ofE b = rofE b ∧ 0 ≤ rblobN (rof2 b) 2 := by
  have s0 := sim_new hb hl
  obtain ⟨a1, a2, a3, a4⟩ := sim_num s0 1
  have a2 : Sim (of1 b) (rof1 b) := a2
  obtain ⟨b1, b2, b3, b4⟩ := sim_num a2 4
  have b2 : Sim (of2 b) (rof2 b) := b2
  have bw := sim_whole a2
  obtain ⟨c1, c2, c3⟩ := sim_blob b2 2
  have c2 : Sim (of3 b) (rof3 b) := c2
  have ce := sim_end c2
  have c3 : ofT b = rofT b := by
    unfold ofT rofT
    rw [c3]
    cases rbBad (rof2 b) 2 <;> rfl
  have cc : ofC b = rofC b := by unfold ofC rofC; rw [a1]
  have co : ofOk b = rofOk b := by unfold ofOk rofOk; rw [ce, cc]
  refine ⟨?_, ?_, c1.resolve_left (by simp)⟩
  · unfold ofR rofR; rw [co, cc, bw, c3]
  · unfold ofE rofE; rw [co]
noncomputable def G4 : Sums := sums all [(9, F9k), (11, F10r), (12, F12o), (13, F13o)]
theorem lh_0 {R : Type} (K : KV R) (b : List Int) : (codeX Tryd.prog G4 lvN 0 Tryd.f4).run [.dat BL b] [] K = bif decide ((2000 : Int) < (↑(List.length b) : Int)) then K (AV.dat T.bool true) [] else ck (List.length b < (100000 : Nat)) (ck (List.length b < (100000 : Nat) ∧ (0 : Int) ≤ rblobN (rof2 b) (2 : Int)) (bif !(decide (Prod.fst (ofR b) = Prod.fst (rofR b)) && (decide (Prod.fst (Prod.snd (ofR b)) = Prod.fst (Prod.snd (rofR b))) && decide (Prod.snd (Prod.snd (ofR b)) = Prod.snd (Prod.snd (rofR b))))) then K (AV.dat T.bool false) [] else bif !decide (ofE b = rofE b) then K (AV.dat T.bool false) [] else bif !decide (ofE b = (0 : Int)) then K (AV.dat T.bool true) [] else ck (ByteArray.size (Prod.snd (Prod.snd (ofR b))) < (400000 : Nat)) (bif rsBad (ofR b) then bif decide (strOf [] = strOf b) then K (AV.dat T.bool true) [] else K (AV.dat T.bool false) [] else bif decide (strOf (rsB (ofR b)) = strOf b) then K (AV.dat T.bool true) [] else K (AV.dat T.bool false) []))) := by kernel_rfl
end Go.Mx
