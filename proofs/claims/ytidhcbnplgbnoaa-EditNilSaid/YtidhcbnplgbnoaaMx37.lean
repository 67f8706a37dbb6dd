/- Own work. A part of the proof of a law of this seat: a part -/
import Derived.Test.YtidhcbnplgbnoaaMx36
/- A law without arguments: computed. -/
namespace Go.Mx
open Go Go.RowKit Go.Sx

def isTrue (v : AV) (_ : List AO) : Option Bool := match v with | .dat .bool b => some b | _ => none
theorem prims_none (P : Program) : PrimsOk P (fun _ => none) := fun f p hp => by cases hp
theorem rel_nil (w : World) : Rel (fun _ => False) [] (fun _ => ⟨none, 0, 0, 0⟩) w :=
  ⟨fun i o hi => by simp at hi, fun i j o o' p q _ hi => by simp at hi, fun k hk => hk.elim, fun k hk => by obtain ⟨i, o, p, hi, _⟩ := hk; simp at hi⟩
theorem closed {P : Program} {F : FuncId → Option Prim} {Wr : FuncId → List Nat} {k d : Nat} {f : FuncId} (hmx : P.follows .mixedOrders = true) (hNG : noNG P = true) (hF : PrimsOk P F) (hK : (wideA P F Wr k d).call f [] [] isTrue = some true) (w : World) :
    Calls P f #[] w (Ret fun u w' => u = .bool true ∧ Fr w w' No) := by
  have body : ∃ fn c, P.funcs[f]? = some fn ∧ fn.body = some c := by
    cases d with
    | zero => cases hK
    | succ d =>
      have hK : (match P.funcs[f]? with
        | some fn => (match fn.body with
          | some c => funA P (wideA P F Wr k d) (lamA P (wideA P F Wr k d) k ([] : List AO).length c 20) fn [] [] isTrue
          | none => none)
        | none => none) = some true := hK
      split at hK
      · rename_i fn hf
        split at hK
        · rename_i c hb
          exact ⟨fn, c, hf, hb⟩
        · cases hK
      · cases hK
  obtain ⟨fn, c, hf, hb⟩ := body
  rcases wide_ok hmx hNG hF d f [] [] isTrue true hK (fun _ => False) (fun _ => ⟨none, 0, 0, 0⟩) w [] (rel_nil w) .nil with ⟨u, w', h1, _⟩ | ⟨_, h⟩
  · rw [run_enter hNG hf hb] at h1
    cases h1
  · refine h.mono fun e w' he => ?_
    cases e with
    | returned u =>
      obtain ⟨v, ob', ρ', h1, h2, h3⟩ := he
      unfold isTrue at h1
      split at h1
      · obtain rfl := Option.some.inj h1
        exact ⟨vr_bool h3, h2.fr.mono (fun k _ hk => by obtain ⟨i, o, p, hi, _⟩ := hk; simp at hi)⟩
      · cases h1
    | _ => exact he
end Go.Mx
