/- Own work. A part of the proof of a law of this seat: this seat's functions, by the machine, and the plain law -/
import Derived.Test.YtjjmpejlnaebpaaDoorMe
import Derived.Test.YtjjmpejlnaebpaaDoorWa
namespace Go.Mx
set_option linter.unusedVariables false
set_option linter.unusedSimpArgs false
open Go Go.RowKit Go.Sx Go.Proofs
set_option maxRecDepth 100000
def F16 : Summ := ⟨fun args ob K => match args, ob with
  | [], [] => K (.dat .bool true) []
  | _, _ => none⟩
theorem F16_ok : SumOk Tryd.prog 16 F16 := by
  refine (W_ok 16).le (fun f args ob K => by unfold F16; dsimp only; split <;> simp only [bd_none]) ?_
  intro R args ob K r h
  unfold F16 at h; dsimp only at h
  split at h
  · exact (known_0 K).trans h
  · cases h
noncomputable def C21 : Summ := codeX Tryd.prog (sums all []) lvN 0 Tryd.f21
theorem C21_ok : SumOk Tryd.prog 21 C21 := codeX_ok mixed noNG_prog (sums_call (Wr := all) (l := []) trivial) (sums_prim trivial) rfl lvN 0
theorem all6 : AllOk Tryd.prog [(16, F16), (21, C21)] := ⟨F16_ok, C21_ok, trivial⟩
noncomputable def G6 : Sums := sums all [(16, F16), (21, C21)]
theorem leads_0 {R : Type} (K : KV R) (key : List Int) (d : Int) : (codeX Tryd.prog G6 lvN 0 Tryd.f6).run [.dat BL key, .dat I64 d] [] K = bif decide ((1000 : Int) < (↑(List.length key) : Int)) then K (AV.dat T.bool true) [] else bif decide ((0 : Int) ≤ d) then bif decide (d < (↑(List.length key) : Int)) then ck ((0 : Int) ≤ d) (Option.bind key[Int.toNat d]? fun x ↦ bif decide (x < (16 : Int)) then ck ((0 : Int) ≤ d) (Option.bind key[Int.toNat d]? fun x ↦ bif decide (d < (0 : Int)) then bif decide ((-1 : Int) = IntKind.wrap IntKind.i64 x) then K (AV.dat T.bool true) [] else K (AV.dat T.bool false) [] else bif decide ((↑(List.length key) : Int) ≤ d) then bif decide ((-1 : Int) = IntKind.wrap IntKind.i64 x) then K (AV.dat T.bool true) [] else K (AV.dat T.bool false) [] else ck ((0 : Int) ≤ d) (Option.bind key[Int.toNat d]? fun x_1 ↦ bif decide ((15 : Int) < x_1) then bif decide ((-1 : Int) = IntKind.wrap IntKind.i64 x) then K (AV.dat T.bool true) [] else K (AV.dat T.bool false) [] else ck ((0 : Int) ≤ d) (Option.bind key[Int.toNat d]? fun x_2 ↦ bif decide (IntKind.wrap IntKind.i64 x_2 = IntKind.wrap IntKind.i64 x) then K (AV.dat T.bool true) [] else K (AV.dat T.bool false) []))) else bif decide (d < (0 : Int)) then K (AV.dat T.bool true) [] else bif decide ((↑(List.length key) : Int) ≤ d) then K (AV.dat T.bool true) [] else ck ((0 : Int) ≤ d) (Option.bind key[Int.toNat d]? fun x ↦ bif decide ((15 : Int) < x) then K (AV.dat T.bool true) [] else ck ((0 : Int) ≤ d) (Option.bind key[Int.toNat d]? fun x ↦ bif decide (IntKind.wrap IntKind.i64 x = (-1 : Int)) then K (AV.dat T.bool true) [] else K (AV.dat T.bool false) []))) else bif decide (d < (0 : Int)) then K (AV.dat T.bool true) [] else bif decide ((↑(List.length key) : Int) ≤ d) then K (AV.dat T.bool true) [] else ck ((0 : Int) ≤ d) (Option.bind key[Int.toNat d]? fun x ↦ bif decide ((15 : Int) < x) then K (AV.dat T.bool true) [] else ck ((0 : Int) ≤ d) (Option.bind key[Int.toNat d]? fun x ↦ bif decide (IntKind.wrap IntKind.i64 x = (-1 : Int)) then K (AV.dat T.bool true) [] else K (AV.dat T.bool false) [])) else bif decide (d < (0 : Int)) then K (AV.dat T.bool true) [] else bif decide ((↑(List.length key) : Int) ≤ d) then K (AV.dat T.bool true) [] else ck ((0 : Int) ≤ d) (Option.bind key[Int.toNat d]? fun x ↦ bif decide ((15 : Int) < x) then K (AV.dat T.bool true) [] else ck ((0 : Int) ≤ d) (Option.bind key[Int.toNat d]? fun x ↦ bif decide (IntKind.wrap IntKind.i64 x = (-1 : Int)) then K (AV.dat T.bool true) [] else K (AV.dat T.bool false) [])) := by kernel_rfl
end Go.Mx
