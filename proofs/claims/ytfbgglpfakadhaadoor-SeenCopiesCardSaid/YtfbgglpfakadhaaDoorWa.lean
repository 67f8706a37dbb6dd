/- Own work. A part of the proof of a law of this seat: this seat's functions, by the machine, and the plain law -/
import Derived.Shelf.Strings.OnBuilder
import Derived.Test.YtfbgglpfakadhaaDoorMe
import Derived.Test.YtfbgglpfakadhaaDoorProg
/- strings.Join, by the library's contract, as a summary. -/
namespace Go.Proofs
open Go.Shelf Go.RowKit
def Tryd.laysJoin_r : Go.Shelf.Ren := ⟨fun | 156 => 43 | 165 => 57 | 166 => 58 | 169 => 59 | 240 => 70 | 241 => 71 | 276 => 87 | 277 => 88 | n => n, fun | 31 => 73 | 9 => 9 | 3 => 3 | 4 => 4 | 0 => 0 | 20 => 20 | 72 => 91 | 76 => 93 | 70 => 88 | 37 => 89 | 75 => 78 | 127 => 107 | 164 => 128 | 5 => 5 | 80 => 95 | n => n, fun n => n⟩
theorem Tryd.laysJoin : Lays.n156 Tryd.prog Tryd.laysJoin_r where
  mixed := by kernel_rfl
  f156 := Tryd.func43.trans (congrArg some (by kernel_rfl))
  f165 := Tryd.func57.trans (congrArg some (by kernel_rfl))
  f166 := Tryd.func58.trans (congrArg some (by kernel_rfl))
  f169 := Tryd.func59.trans (congrArg some (by kernel_rfl))
  f240 := Tryd.func70.trans (congrArg some (by kernel_rfl))
  f241 := Tryd.func71.trans (congrArg some (by kernel_rfl))
  f276 := Tryd.func87.trans (congrArg some (by kernel_rfl))
  f277 := Tryd.func88.trans (congrArg some (by kernel_rfl))
  t0 := Tryd.underlying0
  a0 := Tryd.isAgg0
  z0 := Tryd.sizeOf0
  v0 := Tryd.zeroValue0
  t3 := Tryd.underlying3
  a3 := Tryd.isAgg3
  z3 := Tryd.sizeOf3
  v3 := Tryd.zeroValue3
  t4 := Tryd.underlying4
  a4 := Tryd.isAgg4
  z4 := Tryd.sizeOf4
  v4 := Tryd.zeroValue4
  t9 := Tryd.underlying9
  a9 := Tryd.isAgg9
  z9 := Tryd.sizeOf9
  v9 := Tryd.zeroValue9
  t20 := Tryd.underlying20
  a20 := Tryd.isAgg20
  z20 := Tryd.sizeOf20
  v20 := Tryd.zeroValue20
  t31 := Tryd.underlying73
  a31 := Tryd.isAgg73
  z31 := Tryd.sizeOf73
  v31 := Tryd.zeroValue73
  t37 := Tryd.underlying89
  a37 := Tryd.isAgg89
  z37 := Tryd.sizeOf89
  v37 := Tryd.zeroValue89
  t70 := Tryd.underlying88
  a70 := Tryd.isAgg88
  z70 := Tryd.sizeOf88
  v70 := Tryd.zeroValue88
  t72 := Tryd.underlying91
  a72 := Tryd.isAgg91
  z72 := Tryd.sizeOf91
  v72 := Tryd.zeroValue91
  t75 := Tryd.underlying78
  a75 := Tryd.isAgg78
  z75 := Tryd.sizeOf78
  v75 := Tryd.zeroValue78
  t76 := Tryd.underlying93
  a76 := Tryd.isAgg93
  z76 := Tryd.sizeOf93
  v76 := Tryd.zeroValue93
  t127 := Tryd.underlying107
  a127 := Tryd.isAgg107
  z127 := Tryd.sizeOf107
  v127 := Tryd.zeroValue107
  t164 := Tryd.underlying128
  a164 := Tryd.isAgg128
  z164 := Tryd.sizeOf128
  v164 := Tryd.zeroValue128

theorem Tryd.extraB : Builder.Extra Tryd.prog Tryd.laysJoin_r where
  sizeBuilder := by kernel_rfl
  liesBuilder := by kernel_rfl
  t5 := Tryd.underlying5
  a5 := Tryd.isAgg5
  z5 := Tryd.sizeOf5
  v5 := Tryd.zeroValue5
  infoByte := by kernel_rfl
  cellsByte := by kernel_rfl
  sizeByte := by kernel_rfl
  neB5 := by decide
end Go.Proofs
namespace Go.Mx
set_option linter.unusedVariables false
set_option maxRecDepth 100000
open Go Go.RowKit Go.Sx Go.Proofs
variable [Glb]
set_option linter.unusedSectionVars false
theorem fr_aft {W : Nat → Prop} {S : List AO} {ρ : Nat → Geo} {w w' : World} (h : Rel W S ρ w) (hf : Fr w w' No) : Aft W S ρ w S ρ w' :=
  Aft.of h hf (fun _ hk => hk.elim) (fun k hk => .inl hk) (fun _ _ => rfl) (Nat.le_refl _) (fun _ i o hi => .inl ⟨hi, fun _ _ _ hk => hk.elim⟩) h.dj
theorem fr_below {w w' : World} (h : Below w.heap.size w w') : Fr w w' No := ⟨h.os, h.tape, h.output, h.size, fun k hk _ => h.block k hk⟩
def joinV (xs : List ByteArray) (sep : ByteArray) : ByteArray := ⟨(Lib.join (xs.map (·.data.toList)) sep.data.toList).toArray⟩
def FJ : Summ := ⟨fun args ob K => match args, ob with
  | [.view 0, .dat .str sep], [.row 9 .str xs .own] => ck (xs.length ≤ 140737488355328 ∧ (joinV xs sep).size ≤ 140737488355328) (K (.dat .str (joinV xs sep)) [.row 9 .str xs .own])
  | _, _ => none⟩
theorem els_str {R : ByteArray → List Value → Prop} (hR : ∀ x c, R x c → c = [.string x]) : ∀ {xs : List ByteArray} {cs : List Value}, Els R xs cs → cs = xs.map .string
  | _, _, .nil => rfl
  | _, _, .cons h1 h2 => by rw [hR _ _ h1, els_str hR h2]; rfl
theorem FJ_ok (hNG : noNG Tryd.prog = true) : SumOk Tryd.prog 43 FJ := by
  refine ⟨fun f args ob K => by unfold FJ; dsimp only; split <;> simp only [bd_none, bd_ck], ?_⟩
  intro R args ob K r h W ρ w us hr ha
  unfold FJ at h; dsimp only at h
  split at h
  · rename_i sep xs
    obtain ⟨⟨hl, hj⟩, h⟩ := ck_elim h
    cases ha with
    | @cons _ u1 _ us1 a1 ha =>
    cases ha with
    | @cons _ u2 _ us2 a2 ha =>
    cases ha
    obtain rfl := vr_str a2
    obtain ⟨cs, e1, hc, _⟩ := a1
    rw [CR] at hc
    obtain ⟨g1, g2, g3⟩ := hr.ob 0 _ rfl
    have e1 : u1 = .slice (ρ 0).a (ρ 0).n (ρ 0).c := by rw [e1, hc.2]; rfl
    rw [g1] at e1
    have fin : ∀ {a : Option Addr} {c : Nat}, u1 = .slice a xs.length c → Calls Tryd.prog 43 #[.slice a xs.length c, .string sep] w (fun e w' => e = .returned (.string (joinV xs sep)) ∧ Below w.heap.size w w') → Inv Tryd.prog 43 [u1, .string sep] w (fun u w' => ∃ v ob' ρ', K v ob' = some r ∧ Aft W [.row 9 .str xs .own] ρ w ob' ρ' w' ∧ VR (cx W ob' ρ' w') v u) := by
      intro a c e hcall
      subst e
      refine .inr ⟨run_enter hNG Tryd.func43 rfl _ _, hcall.mono fun e w' he => ?_⟩
      obtain ⟨rfl, hb⟩ := he
      exact ⟨_, _, _, h, fr_aft hr (fr_below hb), vr_strI _⟩
    obtain ⟨cells, hown, hels⟩ := g3
    have hcl := els_str (fun x c hk => hk) hels
    rcases own_none hown with ⟨ha0, hn, hc0⟩ | ⟨g, cur, ha0, hg, h3, h4, h5, h6⟩
    · rw [ha0, hc0] at e1
      have hx : xs = [] := List.eq_nil_of_length_eq_zero hn
      subst hx
      exact fin e1 ((Any.strings_Join_none Tryd.laysJoin Tryd.extraB none 0 sep w).mono fun e w' ⟨he, hw⟩ => ⟨he, hw ▸ Below.refl _ _⟩)
    · rw [ha0] at e1
      have hlt : g < w.heap.size := lt_of_get hg
      refine fin e1 (Any.strings_Join Tryd.laysJoin Tryd.extraB g 0 (ρ 0).c xs sep w (fun j x hj => ?_) hlt hl h3 (by have := hj; unfold joinV at this; simpa [ByteArray.size] using this))
      have hsz : (T.kd .str).sz = 1 := rfl
      have : cells[j]? = some (.string x) := by rw [hcl, List.getElem?_map, hj]; rfl
      rw [← h6, List.getElem?_take] at this
      split at this
      · simp only [World.cell?, hg, Nat.zero_add]
        simpa using this
      · cases this
  · cases h
end Go.Mx
