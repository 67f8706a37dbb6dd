/- Own work. A part of the proof of a law of this seat: this seat's functions, by the machine, and the plain law -/
import Derived.Shelf.Strconv.Itoa3
import Derived.Test.YtfbgglpfakadhaaDoorMe
import Derived.Test.YtfbgglpfakadhaaDoorWa
import Derived.Test.YtfbgglpfakadhaaDoorProg
/- strconv.Itoa, by the library's contract, as a summary; the table is one of the machine's listed variables. -/
namespace Go.Proofs
open Go.Shelf Go.RowKit
set_option maxRecDepth 100000
def Tryd.laysItoa_r : Go.Shelf.Ren := ⟨fun | 171 => 39 | 243 => 54 | 246 => 63 | 283 => 64 | 284 => 65 | 285 => 66 | 286 => 67 | 129 => 82 | 317 => 81 | 318 => 83 | 319 => 84 | 320 => 85 | 337 => 95 | 338 => 96 | n => n, fun | 3 => 3 | 9 => 9 | 2 => 2 | 4 => 4 | 171 => 99 | 0 => 0 | 53 => 33 | 37 => 89 | 5 => 5 | 173 => 102 | 212 => 118 | 51 => 119 | 20 => 20 | 213 => 120 | 46 => 112 | 232 => 154 | 233 => 155 | n => n, fun | 17 => 1 | 18 => 6 | 19 => 7 | n => n⟩
theorem Tryd.laysItoa : LaysM.n171 Tryd.prog Tryd.laysItoa_r where
  mixed := by kernel_rfl
  f129 := Tryd.func82.trans (congrArg some (by kernel_rfl))
  f171 := Tryd.func39.trans (congrArg some (by kernel_rfl))
  f243 := Tryd.func54.trans (congrArg some (by kernel_rfl))
  f246 := Tryd.func63.trans (congrArg some (by kernel_rfl))
  f283 := Tryd.func64.trans (congrArg some (by kernel_rfl))
  f284 := Tryd.func65.trans (congrArg some (by kernel_rfl))
  f285 := Tryd.func66.trans (congrArg some (by kernel_rfl))
  f286 := Tryd.func67.trans (congrArg some (by kernel_rfl))
  f317 := Tryd.func81.trans (congrArg some (by kernel_rfl))
  f318 := Tryd.func83.trans (congrArg some (by kernel_rfl))
  f319 := Tryd.func84.trans (congrArg some (by kernel_rfl))
  f320 := Tryd.func85.trans (congrArg some (by kernel_rfl))
  f337 := Tryd.func95.trans (congrArg some (by kernel_rfl))
  f338 := Tryd.func96.trans (congrArg some (by kernel_rfl))
  t0 := Tryd.underlying0
  a0 := Tryd.isAgg0
  z0 := Tryd.sizeOf0
  v0 := Tryd.zeroValue0
  t2 := Tryd.underlying2
  a2 := Tryd.isAgg2
  z2 := Tryd.sizeOf2
  v2 := Tryd.zeroValue2
  t3 := Tryd.underlying3
  a3 := Tryd.isAgg3
  z3 := Tryd.sizeOf3
  v3 := Tryd.zeroValue3
  t4 := Tryd.underlying4
  a4 := Tryd.isAgg4
  z4 := Tryd.sizeOf4
  v4 := Tryd.zeroValue4
  t5 := Tryd.underlying5
  a5 := Tryd.isAgg5
  z5 := Tryd.sizeOf5
  v5 := Tryd.zeroValue5
  t9 := Tryd.underlying9
  a9 := Tryd.isAgg9
  z9 := Tryd.sizeOf9
  v9 := Tryd.zeroValue9
  t20 := Tryd.underlying20
  a20 := Tryd.isAgg20
  z20 := Tryd.sizeOf20
  v20 := Tryd.zeroValue20
  t37 := Tryd.underlying89
  a37 := Tryd.isAgg89
  z37 := Tryd.sizeOf89
  v37 := Tryd.zeroValue89
  t46 := Tryd.underlying112
  a46 := Tryd.isAgg112
  z46 := Tryd.sizeOf112
  v46 := Tryd.zeroValue112
  t51 := Tryd.underlying119
  a51 := Tryd.isAgg119
  z51 := Tryd.sizeOf119
  v51 := Tryd.zeroValue119
  t53 := Tryd.underlying33
  a53 := Tryd.isAgg33
  z53 := Tryd.sizeOf33
  v53 := Tryd.zeroValue33
  t171 := Tryd.underlying99
  a171 := Tryd.isAgg99
  z171 := Tryd.sizeOf99
  v171 := Tryd.zeroValue99
  t173 := Tryd.underlying102
  a173 := Tryd.isAgg102
  z173 := Tryd.sizeOf102
  v173 := Tryd.zeroValue102
  t212 := Tryd.underlying118
  a212 := Tryd.isAgg118
  z212 := Tryd.sizeOf118
  v212 := Tryd.zeroValue118
  t213 := Tryd.underlying120
  a213 := Tryd.isAgg120
  z213 := Tryd.sizeOf120
  t232 := Tryd.underlying154
  a232 := Tryd.isAgg154
  z232 := Tryd.sizeOf154
  v232 := Tryd.zeroValue154
  t233 := Tryd.underlying155
  a233 := Tryd.isAgg155
  z233 := Tryd.sizeOf155
  v233 := Tryd.zeroValue155
  g17 := by kernel_rfl
  g18 := by kernel_rfl
  g19 := by kernel_rfl
  i0 := by kernel_rfl
  i2 := by kernel_rfl
  i3 := by kernel_rfl
  i4 := by kernel_rfl
  i5 := by kernel_rfl
  i9 := by kernel_rfl
  i20 := by kernel_rfl
  i37 := by kernel_rfl
  i46 := by kernel_rfl
  i51 := by kernel_rfl
  i53 := by kernel_rfl
  i171 := by kernel_rfl
  i173 := by kernel_rfl
  i212 := by kernel_rfl
  i232 := by kernel_rfl
  i233 := by kernel_rfl
  m17 := by kernel_rfl
  m18 := by kernel_rfl
  m19 := by kernel_rfl

end Go.Proofs
namespace Go.Mx
set_option linter.unusedVariables false
set_option maxRecDepth 100000
open Go Go.RowKit Go.Sx Go.Proofs
section
variable [Glb]
set_option linter.unusedSectionVars false
theorem els_int {k : IntKind} {R : Int → List Value → Prop} (hR : ∀ x c, R x c → c = [.int k x]) : ∀ {xs : List Int} {cs : List Value}, Els R xs cs → cs = xs.map (.int k)
  | _, _, .nil => rfl
  | _, _, .cons h1 h2 => by rw [hR _ _ h1, els_int hR h2]; rfl
/-- a listed table of whole numbers is exactly what its variable reads as -/
theorem tab_is {P : Program} {W : Nat → Prop} {S : List AO} {ρ : Nat → Geo} {w : World} {n : String} {g m : Nat} {k : IntKind} {zs : List Int} (h : Rel W S ρ w) (hn : P.globalNamed n = some g) (hg : Glb.gl g = some ⟨.arr m (.int k), zs⟩) : Lib.TabIs P w n k zs := by
  obtain ⟨⟨c, e, hc, hl⟩, h2, C, T, fr, h3, h4⟩ := h.gl g _ hg
  rw [CR] at hc
  obtain ⟨b, o, c', e1, k1, ⟨C', T', fr', k2, k3⟩, k4⟩ := hc
  subst e1
  obtain ⟨rfl, rfl⟩ : g = b ∧ 0 = o := by
    have : Value.pointer (some ⟨g, 0, none⟩) = Value.pointer (some ⟨b, o, none⟩) := e
    simpa using this
  have k2 : w.heap[g]? = _ := k2
  have h3 : w.heap[g]? = _ := h3
  rw [h3] at k2
  obtain ⟨rfl, rfl, rfl⟩ : C = C' ∧ T = T' ∧ fr = fr' := by simpa using k2
  have k4' := k4
  clear k4
  obtain ⟨hz, hels⟩ : zs.length = m ∧ Els (fun x c => c = [Value.int k x]) zs c' := k4'
  have hc' : c' = zs.map (Value.int k) := els_int (fun x c h => h) hels
  have hlen : c'.length = C.size := by rw [hc', List.length_map, hz, h4]; show m = m * 1; omega
  have hC : C.toList = c' := by
    apply List.ext_getElem?
    intro i
    by_cases hi : i < c'.length
    · rw [List.getElem?_eq_getElem hi]
      have := k3 i _ (List.getElem?_eq_getElem hi)
      rw [Nat.zero_add] at this
      simpa using this
    · rw [List.getElem?_eq_none (show c'.length ≤ i by omega), List.getElem?_eq_none (show C.toList.length ≤ i by rw [Array.length_toList]; omega)]
  show w.var? P n = _
  unfold World.var?
  rw [hn]
  simp only [Option.bind_some, h3]
  congr 1
  apply Array.toList_inj.1
  rw [hC, hc']
theorem grow_below (w : World) (k : Nat) (os : Array Obj) : Below w.heap.size w (Go.Sort.grow (w.drewN k) os) :=
  ⟨rfl, rfl, rfl, by show w.heap.size ≤ (w.heap ++ os).size; simp, fun j hj => by show (w.heap ++ os)[j]? = _; rw [Array.getElem?_append_left hj]⟩
def itoaV (n : Int) : ByteArray := ⟨(Lib.itoa n).toArray⟩
def FI : Summ := ⟨fun args ob K => match args with
  | [.dat (.int .i64) n] => ck (-9223372036854775808 ≤ n ∧ n ≤ 9223372036854775807) (K (.dat .str (itoaV n)) ob)
  | _ => none⟩
theorem FI_ok (hNG : noNG Tryd.prog = true) (hg : Glb.gl 1 = some ⟨.arr 20 (.int .u64), Lib.pow10Tab⟩) : SumOk Tryd.prog 39 FI := by
  refine ⟨fun f args ob K => by unfold FI; dsimp only; split <;> simp only [bd_none, bd_ck], ?_⟩
  intro R args ob K r h W ρ w us hr ha
  unfold FI at h; dsimp only at h
  split at h
  · rename_i n
    obtain ⟨⟨h0, h1⟩, h⟩ := ck_elim h
    cases ha with
    | @cons _ u1 _ us1 a1 ha =>
    cases ha
    obtain rfl := vr_int a1
    refine .inr ⟨run_enter hNG Tryd.func39 rfl _ _, (Any.strconv_Itoa Tryd.laysItoa n h0 h1 w (tab_is hr (by kernel_rfl) hg)).mono fun e w' he => ?_⟩
    obtain ⟨rfl, k, os, rfl⟩ := he
    exact ⟨_, _, _, h, fr_aft hr (fr_below (grow_below w k os)), vr_strI _⟩
  · cases h
end
end Go.Mx
