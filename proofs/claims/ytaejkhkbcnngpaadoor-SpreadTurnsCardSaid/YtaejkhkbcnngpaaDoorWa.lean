/- Own work. A part of the proof of a law of this seat: this seat's functions, by the machine, and the plain law. -/
import Derived.Shelf.Strings.Repeat
import Derived.Test.YtaejkhkbcnngpaaDoorMf
import Derived.Test.YtaejkhkbcnngpaaDoorProg
import Derived.WideShapes
import Derived.Test.YtaejkhkbcnngpaaDoorRows
set_option linter.unusedVariables false
set_option linter.unusedSimpArgs false
set_option linter.unusedSectionVars false
namespace Go.Proofs
open Go.Shelf Go.RowKit
def Tryd.laysRep_r : Go.Shelf.Ren := ⟨fun | 105 => 62 | 212 => 70 | 99 => 71 | 165 => 72 | 166 => 73 | 170 => 74 | 169 => 75 | 263 => 88 | 264 => 89 | 206 => 90 | 240 => 91 | 241 => 92 | 276 => 105 | 277 => 106 | n => n, fun | 9 => 9 | 3 => 3 | 4 => 4 | 20 => 20 | 0 => 0 | 46 => 103 | 109 => 105 | 5 => 5 | 72 => 110 | 76 => 112 | 51 => 129 | 146 => 130 | 53 => 38 | 148 => 132 | 70 => 108 | 37 => 75 | 75 => 80 | 127 => 134 | 164 => 145 | 80 => 115 | n => n, fun n => n⟩
theorem Tryd.laysRep : Lays.n105 Tryd.prog Tryd.laysRep_r where
  mixed := by kernel_rfl
  f99 := Tryd.func71.trans (congrArg some (by kernel_rfl))
  f105 := Tryd.func62.trans (congrArg some (by kernel_rfl))
  f165 := Tryd.func72.trans (congrArg some (by kernel_rfl))
  f166 := Tryd.func73.trans (congrArg some (by kernel_rfl))
  f169 := Tryd.func75.trans (congrArg some (by kernel_rfl))
  f170 := Tryd.func74.trans (congrArg some (by kernel_rfl))
  f206 := Tryd.func90.trans (congrArg some (by kernel_rfl))
  f212 := Tryd.func70.trans (congrArg some (by kernel_rfl))
  f240 := Tryd.func91.trans (congrArg some (by kernel_rfl))
  f241 := Tryd.func92.trans (congrArg some (by kernel_rfl))
  f263 := Tryd.func88.trans (congrArg some (by kernel_rfl))
  f264 := Tryd.func89.trans (congrArg some (by kernel_rfl))
  f276 := Tryd.func105.trans (congrArg some (by kernel_rfl))
  f277 := Tryd.func106.trans (congrArg some (by kernel_rfl))
  t0 := Tryd.underlying0
  a0 := Tryd.isAgg0
  z0 := Tryd.sizeOf0
  v0 := Tryd.zeroValue0
  t3 := Tryd.underlying3
  a3 := Tryd.isAgg3
  z3 := Tryd.sizeOf3
  v3 := Tryd.zeroValue3
  t4 := Tryd.underlying4
  a4 := Tryd.isAgg4
  z4 := Tryd.sizeOf4
  v4 := Tryd.zeroValue4
  t5 := Tryd.underlying5
  a5 := Tryd.isAgg5
  z5 := Tryd.sizeOf5
  v5 := Tryd.zeroValue5
  t9 := Tryd.underlying9
  a9 := Tryd.isAgg9
  z9 := Tryd.sizeOf9
  v9 := Tryd.zeroValue9
  t20 := Tryd.underlying20
  a20 := Tryd.isAgg20
  z20 := Tryd.sizeOf20
  v20 := Tryd.zeroValue20
  t37 := Tryd.underlying75
  a37 := Tryd.isAgg75
  z37 := Tryd.sizeOf75
  v37 := Tryd.zeroValue75
  t46 := Tryd.underlying103
  a46 := Tryd.isAgg103
  z46 := Tryd.sizeOf103
  v46 := Tryd.zeroValue103
  t51 := Tryd.underlying129
  a51 := Tryd.isAgg129
  z51 := Tryd.sizeOf129
  v51 := Tryd.zeroValue129
  t53 := Tryd.underlying38
  a53 := Tryd.isAgg38
  z53 := Tryd.sizeOf38
  v53 := Tryd.zeroValue38
  t70 := Tryd.underlying108
  a70 := Tryd.isAgg108
  z70 := Tryd.sizeOf108
  v70 := Tryd.zeroValue108
  t72 := Tryd.underlying110
  a72 := Tryd.isAgg110
  z72 := Tryd.sizeOf110
  v72 := Tryd.zeroValue110
  t75 := Tryd.underlying80
  a75 := Tryd.isAgg80
  z75 := Tryd.sizeOf80
  v75 := Tryd.zeroValue80
  t76 := Tryd.underlying112
  a76 := Tryd.isAgg112
  z76 := Tryd.sizeOf112
  v76 := Tryd.zeroValue112
  t109 := Tryd.underlying105
  a109 := Tryd.isAgg105
  z109 := Tryd.sizeOf105
  v109 := Tryd.zeroValue105
  t127 := Tryd.underlying134
  a127 := Tryd.isAgg134
  z127 := Tryd.sizeOf134
  v127 := Tryd.zeroValue134
  t146 := Tryd.underlying130
  a146 := Tryd.isAgg130
  z146 := Tryd.sizeOf130
  v146 := Tryd.zeroValue130
  t148 := Tryd.underlying132
  a148 := Tryd.isAgg132
  z148 := Tryd.sizeOf132
  v148 := Tryd.zeroValue132
  t164 := Tryd.underlying145
  a164 := Tryd.isAgg145
  z164 := Tryd.sizeOf145
  v164 := Tryd.zeroValue145
theorem Tryd.extraB : Builder.Extra Tryd.prog Tryd.laysRep_r where
  sizeBuilder := by kernel_rfl
  liesBuilder := by kernel_rfl
  t5 := Tryd.underlying5
  a5 := Tryd.isAgg5
  z5 := Tryd.sizeOf5
  v5 := Tryd.zeroValue5
  infoByte := by kernel_rfl
  cellsByte := by kernel_rfl
  sizeByte := by kernel_rfl
  neB5 := by decide
end Go.Proofs
namespace Go.Mx
set_option maxRecDepth 100000
open Go Go.RowKit Go.Sx Go.Proofs
section
variable [Glb]
theorem fr_aft {W : Nat → Prop} {S : List AO} {ρ : Nat → Geo} {w w' : World} (h : Rel W S ρ w) (hf : Fr w w' No) : Aft W S ρ w S ρ w' :=
  Aft.of h hf (fun _ hk => hk.elim) (fun k hk => .inl hk) (fun _ _ => rfl) (Nat.le_refl _) (fun _ i o hi => .inl ⟨hi, fun _ _ _ hk => hk.elim⟩) h.dj
theorem fr_below {w w' : World} (h : Below w.heap.size w w') : Fr w w' No := ⟨h.os, h.tape, h.output, h.size, fun k hk _ => h.block k hk⟩
def repV (s : ByteArray) (n : Nat) : ByteArray := ⟨(Lib.repeatL s.data.toList n).toArray⟩
def FR : Summ := ⟨fun args ob K => match args with
  | [.dat .str s, .dat (.int .i64) n] => ck (0 ≤ n ∧ n ≤ 1000000 ∧ s.size ≤ 1000) (K (.dat .str (repV s n.toNat)) ob)
  | _ => none⟩
theorem rep_len {s : ByteArray} {n : Int} (h0 : 0 ≤ n) (h1 : n ≤ 1000000) (h2 : s.size ≤ 1000) : s.size * n.toNat ≤ 140737488355328 := by
  have : s.size * n.toNat ≤ 1000 * 1000000 := Nat.mul_le_mul h2 (by omega)
  omega
theorem toNat_le {n : Int} (h0 : 0 ≤ n) (h1 : n ≤ 1000000) : n.toNat ≤ 9223372036854775807 := by omega
theorem FR_ok (hNG : noNG Tryd.prog = true) : SumOk Tryd.prog 62 FR := by
  refine ⟨fun f args ob K => by unfold FR; dsimp only; split <;> simp only [bd_none, bd_ck], ?_⟩
  intro R args ob K r h W ρ w us hr ha
  unfold FR at h; dsimp only at h
  split at h
  · rename_i s n
    obtain ⟨⟨h0, h1, h2⟩, h⟩ := ck_elim h
    have h0 : (0 : Int) ≤ n := h0
    have h1 : (n : Int) ≤ 1000000 := h1
    cases ha with
    | @cons _ u1 _ us1 a1 ha =>
    cases ha with
    | @cons _ u2 _ us2 a2 ha =>
    cases ha
    obtain rfl := vr_str a1
    obtain rfl := vr_int a2
    have hcall := Any.strings_Repeat Tryd.laysRep Tryd.extraB s n.toNat w (toNat_le h0 h1) (rep_len h0 h1 h2)
    rw [Int.toNat_of_nonneg h0] at hcall
    refine .inr ⟨run_enter hNG Tryd.func62 rfl _ _, hcall.mono fun e w' he => ?_⟩
    obtain ⟨rfl, hb⟩ := he
    exact ⟨_, _, _, h, fr_aft hr (fr_below hb), vr_strI _⟩
  · cases h
end
abbrev U8 := T.int .u8
abbrev U64 := T.int .u64
abbrev I64 := T.int .i64
abbrev BL := T.sl (T.int .u8)
def tab64 : List Int := [0, 1, 56, 2, 57, 49, 28, 3, 61, 58, 42, 50, 38, 29, 17, 4, 62, 47, 59, 36, 45, 43, 51, 22, 53, 39, 33, 30, 24, 18, 12, 5, 63, 55, 48, 27, 60, 41, 37, 16, 46, 35, 44, 21, 52, 32, 23, 11, 54, 26, 40, 15, 34, 20, 31, 10, 25, 14, 19, 9, 13, 8, 7, 6]
instance gI : Glb := ⟨fun g => match g with | 6 => some ⟨.arr 64 U8, tab64⟩ | _ => none⟩
def all : FuncId → List Nat := fun _ => List.range 60
theorem mixed : Tryd.prog.follows .mixedOrders = true := by kernel_rfl
theorem noNG_prog : noNG Tryd.prog = true := by kernel_rfl
theorem bits_ok : SumOk Tryd.prog 40 bitsS := bitsS_ok Tryd.func40 (by kernel_rfl) rfl (by kernel_rfl) (by kernel_rfl)
theorem from_ok : SumOk Tryd.prog 36 fromS := fromS_ok Tryd.func36 (by kernel_rfl) rfl (by kernel_rfl) (by kernel_rfl)
theorem sqrt_ok : SumOk Tryd.prog 51 sqrtS := sqrtS_ok Tryd.func51 (by kernel_rfl) rfl (by kernel_rfl) (by kernel_rfl)
def LF : List (FuncId × Summ) := [(62, FR), (40, bitsS), (36, fromS), (51, sqrtS)]
theorem allF : AllOk Tryd.prog LF := ⟨FR_ok noNG_prog, bits_ok, from_ok, sqrt_ok, trivial⟩
noncomputable def W (f : FuncId) : Summ := wideM Tryd.prog LF all 300 30 f
theorem W_ok (f : FuncId) : SumOk Tryd.prog f (W f) := wideM_ok mixed noNG_prog allF all 300 30 f
end Go.Mx
namespace Go.Mx
open Go Go.RowKit Go.Sx Go.Proofs Go.Proofs.YtaejkhkbcnngpaaDoor
set_option maxRecDepth 100000
theorem okWide_array {P : Program} {w : World} {r : Reach} {base : Nat} {t : TypeId} {v : Value} {n : Nat} {e : TypeId} (ht : P.underlying t = some (.array n e)) (h : Value.okWide P w r base t v) : ∃ cs, v = .agg cs ∧ cs.size = P.cellsOf t := by
  simp only [Value.okWide, ht] at h
  obtain ⟨cs, h1, h2, _⟩ := h
  exact ⟨cs, h1, h2⟩
theorem gl_ok {w : World} (h : laidMet Tryd.prog [("math/bits.deBruijn32tab", Rows.laid_math_bits_deBruijn32tab), ("math/bits.deBruijn64tab", Rows.laid_math_bits_deBruijn64tab), ("internal/strconv.uint64pow10", Rows.laid_internal_strconv_uint64pow10)] w) : GlR (cx (fun _ => False) [] (fun _ => ⟨none, 0, 0, 0⟩) w) := by
  intro g z hz
  by_cases e6 : g = 6
  · subst e6
    obtain rfl := Option.some.inj (show some (⟨.arr 64 U8, tab64⟩ : (t : T) × t.den) = some z from hz)
    exact gl_one h (n := "math/bits.deBruijn64tab") (d := Rows.laid_math_bits_deBruijn64tab) (by simp) (by kernel_rfl) (t := 155) (T' := (⟨.arr 64 U8, tab64⟩ : (t : T) × t.den).1) (x := (⟨.arr 64 U8, tab64⟩ : (t : T) × t.den).2) (by kernel_rfl) (Dv.arr Tryd.underlying155 (by kernel_rfl) (Dv.int Tryd.underlying5 (by kernel_rfl))) (by kernel_rfl)
  exfalso
  have : (Glb.gl g : Option ((t : T) × t.den)) = none := by
    show gI.gl g = none
    unfold gI
    dsimp only
    split
    · exact absurd rfl e6
    · rfl
  rw [this] at hz; cases hz
end Go.Mx
namespace Go.Mx
open Go Go.RowKit Go.Sx Go.Proofs
set_option maxRecDepth 100000
def dirs : List (Nat × Nat) := [(4607182418800017408, 0), (4606496786581982534, 4600565431771507043), (4604544271217802189, 4604544271217802189), (4600565431771507043, 4606496786581982534), (0, 4607182418800017408), (13823937468626282851, 4606496786581982534), (13827916308072577997, 4604544271217802189), (13829868823436758342, 4600565431771507043), (13830554455654793216, 0), (13829868823436758342, 13823937468626282851), (13827916308072577997, 13827916308072577997), (13823937468626282851, 13829868823436758342), (0, 13830554455654793216), (4600565431771507043, 13829868823436758342), (4604544271217802189, 13827916308072577997), (4606496786581982534, 13823937468626282851)]
theorem dirs_0 {R : Type} (K : KV R) : (W 37).run [] [] K = K (.dat (.arr 16 .cpx) dirs) [] := by kernel_rfl
def F37 : Summ := ⟨fun args ob K => match args, ob with
  | [], [] => K (.dat (.arr 16 .cpx) dirs) []
  | _, _ => none⟩
theorem F37_ok : SumOk Tryd.prog 37 F37 := by
  refine (W_ok 37).le (fun f ar ob K => by unfold F37; dsimp only; split <;> rfl) fun args ob K r h => ?_
  unfold F37 at h; dsimp only at h
  split at h
  · exact (dirs_0 K).trans h
  · cases h
def sumF (f : Nat × Nat → Nat) (j : Nat) : List Int → Nat → Nat → Nat
  | [], _, acc => acc
  | x :: r, k, acc => sumF f j r (k + 1) (fadd acc (fmul (fofI x) (f (dirs.getD (k * j % 16) (0, 0)))))
def sumV (n : List Int) (j : Nat) : Nat × Nat := (sumF Prod.fst j n 0 0, sumF Prod.snd j n 0 0)
def L2 : List (FuncId × Summ) := [(37, F37)]
theorem all2 : AllOk Tryd.prog L2 := ⟨F37_ok, trivial⟩
noncomputable def W2 (f : FuncId) : Summ := wideM Tryd.prog L2 all 300 30 f
theorem W2_ok (f : FuncId) : SumOk Tryd.prog f (W2 f) := wideM_ok mixed noNG_prog all2 all 300 30 f
end Go.Mx
namespace Go.Mx
open Go Go.RowKit Go.Sx Go.Proofs
set_option maxRecDepth 100000
abbrev N16 := T.arr 16 I64
def mayT {R : Type} (K : KV R) : List Int → Option R
  | [] => K (.dat .bool true) []
  | x :: r => cond (decide (x < 0)) (K (.dat .bool false) []) (cond (decide (1048576 < x)) (K (.dat .bool false) []) (mayT K r))
def mayB : List Int → Bool
  | [] => true
  | x :: r => !decide (x < 0) && (!decide (1048576 < x) && mayB r)
theorem mayT_eq {R : Type} (K : KV R) : ∀ l, mayT K l = K (.dat .bool (mayB l)) []
  | [] => rfl
  | x :: r => by
    unfold mayT mayB
    rw [mayT_eq K r]
    cases decide (x < 0) <;> cases decide (1048576 < x) <;> rfl
theorem cons_of {α : Type} {n : Nat} {l : List α} (h : l.length = n + 1) : ∃ a t, l = a :: t ∧ t.length = n := by
  cases l with
  | nil => cases h
  | cons a t => exact ⟨a, t, rfl, Nat.succ.inj h⟩
theorem list16 {α : Type} {Q : List α → Prop} (h : ∀ n0 n1 n2 n3 n4 n5 n6 n7 n8 n9 n10 n11 n12 n13 n14 n15 : α, Q [n0, n1, n2, n3, n4, n5, n6, n7, n8, n9, n10, n11, n12, n13, n14, n15]) (l : List α) (hl : l.length = 16) : Q l := by
  obtain ⟨n0, l0, e0, h0⟩ := cons_of hl
  obtain ⟨n1, l1, e1, h1⟩ := cons_of h0
  obtain ⟨n2, l2, e2, h2⟩ := cons_of h1
  obtain ⟨n3, l3, e3, h3⟩ := cons_of h2
  obtain ⟨n4, l4, e4, h4⟩ := cons_of h3
  obtain ⟨n5, l5, e5, h5⟩ := cons_of h4
  obtain ⟨n6, l6, e6, h6⟩ := cons_of h5
  obtain ⟨n7, l7, e7, h7⟩ := cons_of h6
  obtain ⟨n8, l8, e8, h8⟩ := cons_of h7
  obtain ⟨n9, l9, e9, h9⟩ := cons_of h8
  obtain ⟨n10, l10, e10, h10⟩ := cons_of h9
  obtain ⟨n11, l11, e11, h11⟩ := cons_of h10
  obtain ⟨n12, l12, e12, h12⟩ := cons_of h11
  obtain ⟨n13, l13, e13, h13⟩ := cons_of h12
  obtain ⟨n14, l14, e14, h14⟩ := cons_of h13
  obtain ⟨n15, l15, e15, h15⟩ := cons_of h14
  have e : l15 = [] := List.length_eq_zero_iff.1 h15
  rw [e0, e1, e2, e3, e4, e5, e6, e7, e8, e9, e10, e11, e12, e13, e14, e15, e]
  exact h n0 n1 n2 n3 n4 n5 n6 n7 n8 n9 n10 n11 n12 n13 n14 n15
theorem may_0 {R : Type} (K : KV R) (n0 n1 n2 n3 n4 n5 n6 n7 n8 n9 n10 n11 n12 n13 n14 n15 : Int) : (W 29).run [.dat N16 [n0, n1, n2, n3, n4, n5, n6, n7, n8, n9, n10, n11, n12, n13, n14, n15]] [] K = mayT K [n0, n1, n2, n3, n4, n5, n6, n7, n8, n9, n10, n11, n12, n13, n14, n15] := by kernel_rfl
theorem mayr_0 {R : Type} (K : KV R) (n0 n1 n2 n3 n4 n5 n6 n7 n8 n9 n10 n11 n12 n13 n14 n15 : Int) : (W 12).run [.dat N16 [n0, n1, n2, n3, n4, n5, n6, n7, n8, n9, n10, n11, n12, n13, n14, n15]] [] K = mayT K [n0, n1, n2, n3, n4, n5, n6, n7, n8, n9, n10, n11, n12, n13, n14, n15] := by kernel_rfl
def mayS : Summ := ⟨fun args ob K => match args, ob with
  | [.dat (.arr 16 (.int .i64)) n], [] => ck (n.length = 16) (K (.dat .bool (mayB n)) [])
  | _, _ => none⟩
theorem mayS_nat {R S : Type} (f : R → Option S) (ar : List AV) (ob : List AO) (K : KV R) : (mayS.run ar ob K).bind f = mayS.run ar ob (fun v o => (K v o).bind f) := by
  unfold mayS; dsimp only; split <;> simp only [bd_none, bd_ck]
theorem may_run {R : Type} (K : KV R) (n : List Int) (h : n.length = 16) : (W 29).run [.dat N16 n] [] K = K (.dat .bool (mayB n)) [] :=
  (list16 (Q := fun n => (W 29).run [.dat N16 n] [] K = mayT K n) (fun _ _ _ _ _ _ _ _ _ _ _ _ _ _ _ _ => may_0 ..) n h).trans (mayT_eq K n)
theorem mayr_run {R : Type} (K : KV R) (n : List Int) (h : n.length = 16) : (W 12).run [.dat N16 n] [] K = K (.dat .bool (mayB n)) [] :=
  (list16 (Q := fun n => (W 12).run [.dat N16 n] [] K = mayT K n) (fun _ _ _ _ _ _ _ _ _ _ _ _ _ _ _ _ => mayr_0 ..) n h).trans (mayT_eq K n)
theorem F29_ok : SumOk Tryd.prog 29 mayS := by
  refine (W_ok 29).le mayS_nat fun args ob K r h => ?_
  unfold mayS at h; dsimp only at h
  split at h
  · obtain ⟨hl, h⟩ := ck_elim h
    exact (may_run K _ hl).trans h
  · cases h
theorem F12_ok : SumOk Tryd.prog 12 mayS := by
  refine (W_ok 12).le mayS_nat fun args ob K r h => ?_
  unfold mayS at h; dsimp only at h
  split at h
  · obtain ⟨hl, h⟩ := ck_elim h
    exact (mayr_run K _ hl).trans h
  · cases h
theorem known_0 {R : Type} (K : KV R) : (W 13).run [] [] K = K (.dat .bool true) [] := by kernel_rfl
def knownS : Summ := ⟨fun args ob K => match args, ob with
  | [], [] => K (.dat .bool true) []
  | _, _ => none⟩
theorem F13_ok : SumOk Tryd.prog 13 knownS := by
  refine (W_ok 13).le (fun f ar ob K => by unfold knownS; dsimp only; split <;> rfl) fun args ob K r h => ?_
  unfold knownS at h; dsimp only at h
  split at h
  · exact (known_0 K).trans h
  · cases h
end Go.Mx
namespace Go.Mx
open Go Go.RowKit Go.Sx Go.Proofs
set_option maxRecDepth 100000
theorem dir_0 {R : Type} (K : KV R) : (W2 19).run [.dat I64 0] [] K = K (.dat (.pair .flt .flt) (dirs.getD (0 % 16) (0, 0))) [] := by kernel_rfl
theorem dir_1 {R : Type} (K : KV R) : (W2 19).run [.dat I64 1] [] K = K (.dat (.pair .flt .flt) (dirs.getD (1 % 16) (0, 0))) [] := by kernel_rfl
theorem dir_2 {R : Type} (K : KV R) : (W2 19).run [.dat I64 2] [] K = K (.dat (.pair .flt .flt) (dirs.getD (2 % 16) (0, 0))) [] := by kernel_rfl
theorem dir_3 {R : Type} (K : KV R) : (W2 19).run [.dat I64 3] [] K = K (.dat (.pair .flt .flt) (dirs.getD (3 % 16) (0, 0))) [] := by kernel_rfl
theorem dir_4 {R : Type} (K : KV R) : (W2 19).run [.dat I64 4] [] K = K (.dat (.pair .flt .flt) (dirs.getD (4 % 16) (0, 0))) [] := by kernel_rfl
theorem dir_5 {R : Type} (K : KV R) : (W2 19).run [.dat I64 5] [] K = K (.dat (.pair .flt .flt) (dirs.getD (5 % 16) (0, 0))) [] := by kernel_rfl
theorem dir_6 {R : Type} (K : KV R) : (W2 19).run [.dat I64 6] [] K = K (.dat (.pair .flt .flt) (dirs.getD (6 % 16) (0, 0))) [] := by kernel_rfl
theorem dir_7 {R : Type} (K : KV R) : (W2 19).run [.dat I64 7] [] K = K (.dat (.pair .flt .flt) (dirs.getD (7 % 16) (0, 0))) [] := by kernel_rfl
theorem dir_8 {R : Type} (K : KV R) : (W2 19).run [.dat I64 8] [] K = K (.dat (.pair .flt .flt) (dirs.getD (8 % 16) (0, 0))) [] := by kernel_rfl
theorem dir_9 {R : Type} (K : KV R) : (W2 19).run [.dat I64 9] [] K = K (.dat (.pair .flt .flt) (dirs.getD (9 % 16) (0, 0))) [] := by kernel_rfl
theorem dir_10 {R : Type} (K : KV R) : (W2 19).run [.dat I64 10] [] K = K (.dat (.pair .flt .flt) (dirs.getD (10 % 16) (0, 0))) [] := by kernel_rfl
theorem dir_11 {R : Type} (K : KV R) : (W2 19).run [.dat I64 11] [] K = K (.dat (.pair .flt .flt) (dirs.getD (11 % 16) (0, 0))) [] := by kernel_rfl
theorem dir_12 {R : Type} (K : KV R) : (W2 19).run [.dat I64 12] [] K = K (.dat (.pair .flt .flt) (dirs.getD (12 % 16) (0, 0))) [] := by kernel_rfl
theorem dir_13 {R : Type} (K : KV R) : (W2 19).run [.dat I64 13] [] K = K (.dat (.pair .flt .flt) (dirs.getD (13 % 16) (0, 0))) [] := by kernel_rfl
theorem dir_14 {R : Type} (K : KV R) : (W2 19).run [.dat I64 14] [] K = K (.dat (.pair .flt .flt) (dirs.getD (14 % 16) (0, 0))) [] := by kernel_rfl
theorem dir_15 {R : Type} (K : KV R) : (W2 19).run [.dat I64 15] [] K = K (.dat (.pair .flt .flt) (dirs.getD (15 % 16) (0, 0))) [] := by kernel_rfl
theorem dir_16 {R : Type} (K : KV R) : (W2 19).run [.dat I64 16] [] K = K (.dat (.pair .flt .flt) (dirs.getD (16 % 16) (0, 0))) [] := by kernel_rfl
theorem dir_18 {R : Type} (K : KV R) : (W2 19).run [.dat I64 18] [] K = K (.dat (.pair .flt .flt) (dirs.getD (18 % 16) (0, 0))) [] := by kernel_rfl
theorem dir_20 {R : Type} (K : KV R) : (W2 19).run [.dat I64 20] [] K = K (.dat (.pair .flt .flt) (dirs.getD (20 % 16) (0, 0))) [] := by kernel_rfl
theorem dir_21 {R : Type} (K : KV R) : (W2 19).run [.dat I64 21] [] K = K (.dat (.pair .flt .flt) (dirs.getD (21 % 16) (0, 0))) [] := by kernel_rfl
theorem dir_22 {R : Type} (K : KV R) : (W2 19).run [.dat I64 22] [] K = K (.dat (.pair .flt .flt) (dirs.getD (22 % 16) (0, 0))) [] := by kernel_rfl
theorem dir_24 {R : Type} (K : KV R) : (W2 19).run [.dat I64 24] [] K = K (.dat (.pair .flt .flt) (dirs.getD (24 % 16) (0, 0))) [] := by kernel_rfl
theorem dir_25 {R : Type} (K : KV R) : (W2 19).run [.dat I64 25] [] K = K (.dat (.pair .flt .flt) (dirs.getD (25 % 16) (0, 0))) [] := by kernel_rfl
theorem dir_26 {R : Type} (K : KV R) : (W2 19).run [.dat I64 26] [] K = K (.dat (.pair .flt .flt) (dirs.getD (26 % 16) (0, 0))) [] := by kernel_rfl
theorem dir_27 {R : Type} (K : KV R) : (W2 19).run [.dat I64 27] [] K = K (.dat (.pair .flt .flt) (dirs.getD (27 % 16) (0, 0))) [] := by kernel_rfl
theorem dir_28 {R : Type} (K : KV R) : (W2 19).run [.dat I64 28] [] K = K (.dat (.pair .flt .flt) (dirs.getD (28 % 16) (0, 0))) [] := by kernel_rfl
theorem dir_30 {R : Type} (K : KV R) : (W2 19).run [.dat I64 30] [] K = K (.dat (.pair .flt .flt) (dirs.getD (30 % 16) (0, 0))) [] := by kernel_rfl
theorem dir_32 {R : Type} (K : KV R) : (W2 19).run [.dat I64 32] [] K = K (.dat (.pair .flt .flt) (dirs.getD (32 % 16) (0, 0))) [] := by kernel_rfl
theorem dir_33 {R : Type} (K : KV R) : (W2 19).run [.dat I64 33] [] K = K (.dat (.pair .flt .flt) (dirs.getD (33 % 16) (0, 0))) [] := by kernel_rfl
theorem dir_35 {R : Type} (K : KV R) : (W2 19).run [.dat I64 35] [] K = K (.dat (.pair .flt .flt) (dirs.getD (35 % 16) (0, 0))) [] := by kernel_rfl
theorem dir_36 {R : Type} (K : KV R) : (W2 19).run [.dat I64 36] [] K = K (.dat (.pair .flt .flt) (dirs.getD (36 % 16) (0, 0))) [] := by kernel_rfl
theorem dir_39 {R : Type} (K : KV R) : (W2 19).run [.dat I64 39] [] K = K (.dat (.pair .flt .flt) (dirs.getD (39 % 16) (0, 0))) [] := by kernel_rfl
theorem dir_40 {R : Type} (K : KV R) : (W2 19).run [.dat I64 40] [] K = K (.dat (.pair .flt .flt) (dirs.getD (40 % 16) (0, 0))) [] := by kernel_rfl
theorem dir_42 {R : Type} (K : KV R) : (W2 19).run [.dat I64 42] [] K = K (.dat (.pair .flt .flt) (dirs.getD (42 % 16) (0, 0))) [] := by kernel_rfl
theorem dir_44 {R : Type} (K : KV R) : (W2 19).run [.dat I64 44] [] K = K (.dat (.pair .flt .flt) (dirs.getD (44 % 16) (0, 0))) [] := by kernel_rfl
theorem dir_45 {R : Type} (K : KV R) : (W2 19).run [.dat I64 45] [] K = K (.dat (.pair .flt .flt) (dirs.getD (45 % 16) (0, 0))) [] := by kernel_rfl
theorem dir_48 {R : Type} (K : KV R) : (W2 19).run [.dat I64 48] [] K = K (.dat (.pair .flt .flt) (dirs.getD (48 % 16) (0, 0))) [] := by kernel_rfl
theorem dir_49 {R : Type} (K : KV R) : (W2 19).run [.dat I64 49] [] K = K (.dat (.pair .flt .flt) (dirs.getD (49 % 16) (0, 0))) [] := by kernel_rfl
theorem dir_50 {R : Type} (K : KV R) : (W2 19).run [.dat I64 50] [] K = K (.dat (.pair .flt .flt) (dirs.getD (50 % 16) (0, 0))) [] := by kernel_rfl
theorem dir_52 {R : Type} (K : KV R) : (W2 19).run [.dat I64 52] [] K = K (.dat (.pair .flt .flt) (dirs.getD (52 % 16) (0, 0))) [] := by kernel_rfl
theorem dir_54 {R : Type} (K : KV R) : (W2 19).run [.dat I64 54] [] K = K (.dat (.pair .flt .flt) (dirs.getD (54 % 16) (0, 0))) [] := by kernel_rfl
theorem dir_55 {R : Type} (K : KV R) : (W2 19).run [.dat I64 55] [] K = K (.dat (.pair .flt .flt) (dirs.getD (55 % 16) (0, 0))) [] := by kernel_rfl
theorem dir_56 {R : Type} (K : KV R) : (W2 19).run [.dat I64 56] [] K = K (.dat (.pair .flt .flt) (dirs.getD (56 % 16) (0, 0))) [] := by kernel_rfl
theorem dir_60 {R : Type} (K : KV R) : (W2 19).run [.dat I64 60] [] K = K (.dat (.pair .flt .flt) (dirs.getD (60 % 16) (0, 0))) [] := by kernel_rfl
theorem dir_63 {R : Type} (K : KV R) : (W2 19).run [.dat I64 63] [] K = K (.dat (.pair .flt .flt) (dirs.getD (63 % 16) (0, 0))) [] := by kernel_rfl
theorem dir_64 {R : Type} (K : KV R) : (W2 19).run [.dat I64 64] [] K = K (.dat (.pair .flt .flt) (dirs.getD (64 % 16) (0, 0))) [] := by kernel_rfl
theorem dir_65 {R : Type} (K : KV R) : (W2 19).run [.dat I64 65] [] K = K (.dat (.pair .flt .flt) (dirs.getD (65 % 16) (0, 0))) [] := by kernel_rfl
theorem dir_66 {R : Type} (K : KV R) : (W2 19).run [.dat I64 66] [] K = K (.dat (.pair .flt .flt) (dirs.getD (66 % 16) (0, 0))) [] := by kernel_rfl
theorem dir_70 {R : Type} (K : KV R) : (W2 19).run [.dat I64 70] [] K = K (.dat (.pair .flt .flt) (dirs.getD (70 % 16) (0, 0))) [] := by kernel_rfl
theorem dir_72 {R : Type} (K : KV R) : (W2 19).run [.dat I64 72] [] K = K (.dat (.pair .flt .flt) (dirs.getD (72 % 16) (0, 0))) [] := by kernel_rfl
theorem dir_75 {R : Type} (K : KV R) : (W2 19).run [.dat I64 75] [] K = K (.dat (.pair .flt .flt) (dirs.getD (75 % 16) (0, 0))) [] := by kernel_rfl
theorem dir_77 {R : Type} (K : KV R) : (W2 19).run [.dat I64 77] [] K = K (.dat (.pair .flt .flt) (dirs.getD (77 % 16) (0, 0))) [] := by kernel_rfl
theorem dir_78 {R : Type} (K : KV R) : (W2 19).run [.dat I64 78] [] K = K (.dat (.pair .flt .flt) (dirs.getD (78 % 16) (0, 0))) [] := by kernel_rfl
theorem dir_80 {R : Type} (K : KV R) : (W2 19).run [.dat I64 80] [] K = K (.dat (.pair .flt .flt) (dirs.getD (80 % 16) (0, 0))) [] := by kernel_rfl
theorem dir_81 {R : Type} (K : KV R) : (W2 19).run [.dat I64 81] [] K = K (.dat (.pair .flt .flt) (dirs.getD (81 % 16) (0, 0))) [] := by kernel_rfl
theorem dir_84 {R : Type} (K : KV R) : (W2 19).run [.dat I64 84] [] K = K (.dat (.pair .flt .flt) (dirs.getD (84 % 16) (0, 0))) [] := by kernel_rfl
theorem dir_88 {R : Type} (K : KV R) : (W2 19).run [.dat I64 88] [] K = K (.dat (.pair .flt .flt) (dirs.getD (88 % 16) (0, 0))) [] := by kernel_rfl
theorem dir_90 {R : Type} (K : KV R) : (W2 19).run [.dat I64 90] [] K = K (.dat (.pair .flt .flt) (dirs.getD (90 % 16) (0, 0))) [] := by kernel_rfl
theorem dir_91 {R : Type} (K : KV R) : (W2 19).run [.dat I64 91] [] K = K (.dat (.pair .flt .flt) (dirs.getD (91 % 16) (0, 0))) [] := by kernel_rfl
theorem dir_96 {R : Type} (K : KV R) : (W2 19).run [.dat I64 96] [] K = K (.dat (.pair .flt .flt) (dirs.getD (96 % 16) (0, 0))) [] := by kernel_rfl
theorem dir_98 {R : Type} (K : KV R) : (W2 19).run [.dat I64 98] [] K = K (.dat (.pair .flt .flt) (dirs.getD (98 % 16) (0, 0))) [] := by kernel_rfl
theorem dir_99 {R : Type} (K : KV R) : (W2 19).run [.dat I64 99] [] K = K (.dat (.pair .flt .flt) (dirs.getD (99 % 16) (0, 0))) [] := by kernel_rfl
theorem dir_100 {R : Type} (K : KV R) : (W2 19).run [.dat I64 100] [] K = K (.dat (.pair .flt .flt) (dirs.getD (100 % 16) (0, 0))) [] := by kernel_rfl
theorem dir_104 {R : Type} (K : KV R) : (W2 19).run [.dat I64 104] [] K = K (.dat (.pair .flt .flt) (dirs.getD (104 % 16) (0, 0))) [] := by kernel_rfl
theorem dir_105 {R : Type} (K : KV R) : (W2 19).run [.dat I64 105] [] K = K (.dat (.pair .flt .flt) (dirs.getD (105 % 16) (0, 0))) [] := by kernel_rfl
theorem dir_108 {R : Type} (K : KV R) : (W2 19).run [.dat I64 108] [] K = K (.dat (.pair .flt .flt) (dirs.getD (108 % 16) (0, 0))) [] := by kernel_rfl
theorem dir_110 {R : Type} (K : KV R) : (W2 19).run [.dat I64 110] [] K = K (.dat (.pair .flt .flt) (dirs.getD (110 % 16) (0, 0))) [] := by kernel_rfl
theorem dir_112 {R : Type} (K : KV R) : (W2 19).run [.dat I64 112] [] K = K (.dat (.pair .flt .flt) (dirs.getD (112 % 16) (0, 0))) [] := by kernel_rfl
theorem dir_117 {R : Type} (K : KV R) : (W2 19).run [.dat I64 117] [] K = K (.dat (.pair .flt .flt) (dirs.getD (117 % 16) (0, 0))) [] := by kernel_rfl
theorem dir_120 {R : Type} (K : KV R) : (W2 19).run [.dat I64 120] [] K = K (.dat (.pair .flt .flt) (dirs.getD (120 % 16) (0, 0))) [] := by kernel_rfl
theorem dir_121 {R : Type} (K : KV R) : (W2 19).run [.dat I64 121] [] K = K (.dat (.pair .flt .flt) (dirs.getD (121 % 16) (0, 0))) [] := by kernel_rfl
theorem dir_126 {R : Type} (K : KV R) : (W2 19).run [.dat I64 126] [] K = K (.dat (.pair .flt .flt) (dirs.getD (126 % 16) (0, 0))) [] := by kernel_rfl
theorem dir_130 {R : Type} (K : KV R) : (W2 19).run [.dat I64 130] [] K = K (.dat (.pair .flt .flt) (dirs.getD (130 % 16) (0, 0))) [] := by kernel_rfl
theorem dir_132 {R : Type} (K : KV R) : (W2 19).run [.dat I64 132] [] K = K (.dat (.pair .flt .flt) (dirs.getD (132 % 16) (0, 0))) [] := by kernel_rfl
theorem dir_135 {R : Type} (K : KV R) : (W2 19).run [.dat I64 135] [] K = K (.dat (.pair .flt .flt) (dirs.getD (135 % 16) (0, 0))) [] := by kernel_rfl
theorem dir_140 {R : Type} (K : KV R) : (W2 19).run [.dat I64 140] [] K = K (.dat (.pair .flt .flt) (dirs.getD (140 % 16) (0, 0))) [] := by kernel_rfl
theorem dir_143 {R : Type} (K : KV R) : (W2 19).run [.dat I64 143] [] K = K (.dat (.pair .flt .flt) (dirs.getD (143 % 16) (0, 0))) [] := by kernel_rfl
theorem dir_144 {R : Type} (K : KV R) : (W2 19).run [.dat I64 144] [] K = K (.dat (.pair .flt .flt) (dirs.getD (144 % 16) (0, 0))) [] := by kernel_rfl
theorem dir_150 {R : Type} (K : KV R) : (W2 19).run [.dat I64 150] [] K = K (.dat (.pair .flt .flt) (dirs.getD (150 % 16) (0, 0))) [] := by kernel_rfl
theorem dir_154 {R : Type} (K : KV R) : (W2 19).run [.dat I64 154] [] K = K (.dat (.pair .flt .flt) (dirs.getD (154 % 16) (0, 0))) [] := by kernel_rfl
theorem dir_156 {R : Type} (K : KV R) : (W2 19).run [.dat I64 156] [] K = K (.dat (.pair .flt .flt) (dirs.getD (156 % 16) (0, 0))) [] := by kernel_rfl
theorem dir_165 {R : Type} (K : KV R) : (W2 19).run [.dat I64 165] [] K = K (.dat (.pair .flt .flt) (dirs.getD (165 % 16) (0, 0))) [] := by kernel_rfl
theorem dir_168 {R : Type} (K : KV R) : (W2 19).run [.dat I64 168] [] K = K (.dat (.pair .flt .flt) (dirs.getD (168 % 16) (0, 0))) [] := by kernel_rfl
theorem dir_169 {R : Type} (K : KV R) : (W2 19).run [.dat I64 169] [] K = K (.dat (.pair .flt .flt) (dirs.getD (169 % 16) (0, 0))) [] := by kernel_rfl
theorem dir_180 {R : Type} (K : KV R) : (W2 19).run [.dat I64 180] [] K = K (.dat (.pair .flt .flt) (dirs.getD (180 % 16) (0, 0))) [] := by kernel_rfl
theorem dir_182 {R : Type} (K : KV R) : (W2 19).run [.dat I64 182] [] K = K (.dat (.pair .flt .flt) (dirs.getD (182 % 16) (0, 0))) [] := by kernel_rfl
theorem dir_195 {R : Type} (K : KV R) : (W2 19).run [.dat I64 195] [] K = K (.dat (.pair .flt .flt) (dirs.getD (195 % 16) (0, 0))) [] := by kernel_rfl
theorem dir_196 {R : Type} (K : KV R) : (W2 19).run [.dat I64 196] [] K = K (.dat (.pair .flt .flt) (dirs.getD (196 % 16) (0, 0))) [] := by kernel_rfl
theorem dir_210 {R : Type} (K : KV R) : (W2 19).run [.dat I64 210] [] K = K (.dat (.pair .flt .flt) (dirs.getD (210 % 16) (0, 0))) [] := by kernel_rfl
theorem dir_225 {R : Type} (K : KV R) : (W2 19).run [.dat I64 225] [] K = K (.dat (.pair .flt .flt) (dirs.getD (225 % 16) (0, 0))) [] := by kernel_rfl
def prods : List Int := [0, 1, 2, 3, 4, 5, 6, 7, 8, 9, 10, 11, 12, 13, 14, 15, 16, 18, 20, 21, 22, 24, 25, 26, 27, 28, 30, 32, 33, 35, 36, 39, 40, 42, 44, 45, 48, 49, 50, 52, 54, 55, 56, 60, 63, 64, 65, 66, 70, 72, 75, 77, 78, 80, 81, 84, 88, 90, 91, 96, 98, 99, 100, 104, 105, 108, 110, 112, 117, 120, 121, 126, 130, 132, 135, 140, 143, 144, 150, 154, 156, 165, 168, 169, 180, 182, 195, 196, 210, 225]
def dirS : Summ := ⟨fun args ob K => match args, ob with
  | [.dat (.int .i64) k], [] => ck (k ∈ prods) (K (.dat (.pair .flt .flt) (dirs.getD (k.toNat % 16) (0, 0))) [])
  | _, _ => none⟩
theorem dir_run {R : Type} (K : KV R) (k : Int) (h : k ∈ prods) : (W2 19).run [.dat I64 k] [] K = K (.dat (.pair .flt .flt) (dirs.getD (k.toNat % 16) (0, 0))) [] := by
  unfold prods at h
  cases h with
  | head => exact dir_0 K
  | tail _ h =>
  cases h with
  | head => exact dir_1 K
  | tail _ h =>
  cases h with
  | head => exact dir_2 K
  | tail _ h =>
  cases h with
  | head => exact dir_3 K
  | tail _ h =>
  cases h with
  | head => exact dir_4 K
  | tail _ h =>
  cases h with
  | head => exact dir_5 K
  | tail _ h =>
  cases h with
  | head => exact dir_6 K
  | tail _ h =>
  cases h with
  | head => exact dir_7 K
  | tail _ h =>
  cases h with
  | head => exact dir_8 K
  | tail _ h =>
  cases h with
  | head => exact dir_9 K
  | tail _ h =>
  cases h with
  | head => exact dir_10 K
  | tail _ h =>
  cases h with
  | head => exact dir_11 K
  | tail _ h =>
  cases h with
  | head => exact dir_12 K
  | tail _ h =>
  cases h with
  | head => exact dir_13 K
  | tail _ h =>
  cases h with
  | head => exact dir_14 K
  | tail _ h =>
  cases h with
  | head => exact dir_15 K
  | tail _ h =>
  cases h with
  | head => exact dir_16 K
  | tail _ h =>
  cases h with
  | head => exact dir_18 K
  | tail _ h =>
  cases h with
  | head => exact dir_20 K
  | tail _ h =>
  cases h with
  | head => exact dir_21 K
  | tail _ h =>
  cases h with
  | head => exact dir_22 K
  | tail _ h =>
  cases h with
  | head => exact dir_24 K
  | tail _ h =>
  cases h with
  | head => exact dir_25 K
  | tail _ h =>
  cases h with
  | head => exact dir_26 K
  | tail _ h =>
  cases h with
  | head => exact dir_27 K
  | tail _ h =>
  cases h with
  | head => exact dir_28 K
  | tail _ h =>
  cases h with
  | head => exact dir_30 K
  | tail _ h =>
  cases h with
  | head => exact dir_32 K
  | tail _ h =>
  cases h with
  | head => exact dir_33 K
  | tail _ h =>
  cases h with
  | head => exact dir_35 K
  | tail _ h =>
  cases h with
  | head => exact dir_36 K
  | tail _ h =>
  cases h with
  | head => exact dir_39 K
  | tail _ h =>
  cases h with
  | head => exact dir_40 K
  | tail _ h =>
  cases h with
  | head => exact dir_42 K
  | tail _ h =>
  cases h with
  | head => exact dir_44 K
  | tail _ h =>
  cases h with
  | head => exact dir_45 K
  | tail _ h =>
  cases h with
  | head => exact dir_48 K
  | tail _ h =>
  cases h with
  | head => exact dir_49 K
  | tail _ h =>
  cases h with
  | head => exact dir_50 K
  | tail _ h =>
  cases h with
  | head => exact dir_52 K
  | tail _ h =>
  cases h with
  | head => exact dir_54 K
  | tail _ h =>
  cases h with
  | head => exact dir_55 K
  | tail _ h =>
  cases h with
  | head => exact dir_56 K
  | tail _ h =>
  cases h with
  | head => exact dir_60 K
  | tail _ h =>
  cases h with
  | head => exact dir_63 K
  | tail _ h =>
  cases h with
  | head => exact dir_64 K
  | tail _ h =>
  cases h with
  | head => exact dir_65 K
  | tail _ h =>
  cases h with
  | head => exact dir_66 K
  | tail _ h =>
  cases h with
  | head => exact dir_70 K
  | tail _ h =>
  cases h with
  | head => exact dir_72 K
  | tail _ h =>
  cases h with
  | head => exact dir_75 K
  | tail _ h =>
  cases h with
  | head => exact dir_77 K
  | tail _ h =>
  cases h with
  | head => exact dir_78 K
  | tail _ h =>
  cases h with
  | head => exact dir_80 K
  | tail _ h =>
  cases h with
  | head => exact dir_81 K
  | tail _ h =>
  cases h with
  | head => exact dir_84 K
  | tail _ h =>
  cases h with
  | head => exact dir_88 K
  | tail _ h =>
  cases h with
  | head => exact dir_90 K
  | tail _ h =>
  cases h with
  | head => exact dir_91 K
  | tail _ h =>
  cases h with
  | head => exact dir_96 K
  | tail _ h =>
  cases h with
  | head => exact dir_98 K
  | tail _ h =>
  cases h with
  | head => exact dir_99 K
  | tail _ h =>
  cases h with
  | head => exact dir_100 K
  | tail _ h =>
  cases h with
  | head => exact dir_104 K
  | tail _ h =>
  cases h with
  | head => exact dir_105 K
  | tail _ h =>
  cases h with
  | head => exact dir_108 K
  | tail _ h =>
  cases h with
  | head => exact dir_110 K
  | tail _ h =>
  cases h with
  | head => exact dir_112 K
  | tail _ h =>
  cases h with
  | head => exact dir_117 K
  | tail _ h =>
  cases h with
  | head => exact dir_120 K
  | tail _ h =>
  cases h with
  | head => exact dir_121 K
  | tail _ h =>
  cases h with
  | head => exact dir_126 K
  | tail _ h =>
  cases h with
  | head => exact dir_130 K
  | tail _ h =>
  cases h with
  | head => exact dir_132 K
  | tail _ h =>
  cases h with
  | head => exact dir_135 K
  | tail _ h =>
  cases h with
  | head => exact dir_140 K
  | tail _ h =>
  cases h with
  | head => exact dir_143 K
  | tail _ h =>
  cases h with
  | head => exact dir_144 K
  | tail _ h =>
  cases h with
  | head => exact dir_150 K
  | tail _ h =>
  cases h with
  | head => exact dir_154 K
  | tail _ h =>
  cases h with
  | head => exact dir_156 K
  | tail _ h =>
  cases h with
  | head => exact dir_165 K
  | tail _ h =>
  cases h with
  | head => exact dir_168 K
  | tail _ h =>
  cases h with
  | head => exact dir_169 K
  | tail _ h =>
  cases h with
  | head => exact dir_180 K
  | tail _ h =>
  cases h with
  | head => exact dir_182 K
  | tail _ h =>
  cases h with
  | head => exact dir_195 K
  | tail _ h =>
  cases h with
  | head => exact dir_196 K
  | tail _ h =>
  cases h with
  | head => exact dir_210 K
  | tail _ h =>
  cases h with
  | head => exact dir_225 K
  | tail _ h =>
  cases h
theorem F19_ok : SumOk Tryd.prog 19 dirS := by
  refine (W2_ok 19).le (fun f ar ob K => by unfold dirS; dsimp only; split <;> simp only [bd_none, bd_ck]) fun args ob K r h => ?_
  unfold dirS at h; dsimp only at h
  split at h
  · obtain ⟨hk, h⟩ := ck_elim h
    exact (dir_run K _ hk).trans h
  · cases h
theorem sum_0 {R : Type} (K : KV R) (n0 n1 n2 n3 n4 n5 n6 n7 n8 n9 n10 n11 n12 n13 n14 n15 : Int) : (W2 35).run [.dat N16 [n0, n1, n2, n3, n4, n5, n6, n7, n8, n9, n10, n11, n12, n13, n14, n15], .dat I64 0] [] K = K (.dat .cpx (sumV [n0, n1, n2, n3, n4, n5, n6, n7, n8, n9, n10, n11, n12, n13, n14, n15] 0)) [] := by kernel_rfl
theorem sum_1 {R : Type} (K : KV R) (n0 n1 n2 n3 n4 n5 n6 n7 n8 n9 n10 n11 n12 n13 n14 n15 : Int) : (W2 35).run [.dat N16 [n0, n1, n2, n3, n4, n5, n6, n7, n8, n9, n10, n11, n12, n13, n14, n15], .dat I64 1] [] K = K (.dat .cpx (sumV [n0, n1, n2, n3, n4, n5, n6, n7, n8, n9, n10, n11, n12, n13, n14, n15] 1)) [] := by kernel_rfl
theorem sum_2 {R : Type} (K : KV R) (n0 n1 n2 n3 n4 n5 n6 n7 n8 n9 n10 n11 n12 n13 n14 n15 : Int) : (W2 35).run [.dat N16 [n0, n1, n2, n3, n4, n5, n6, n7, n8, n9, n10, n11, n12, n13, n14, n15], .dat I64 2] [] K = K (.dat .cpx (sumV [n0, n1, n2, n3, n4, n5, n6, n7, n8, n9, n10, n11, n12, n13, n14, n15] 2)) [] := by kernel_rfl
theorem sum_3 {R : Type} (K : KV R) (n0 n1 n2 n3 n4 n5 n6 n7 n8 n9 n10 n11 n12 n13 n14 n15 : Int) : (W2 35).run [.dat N16 [n0, n1, n2, n3, n4, n5, n6, n7, n8, n9, n10, n11, n12, n13, n14, n15], .dat I64 3] [] K = K (.dat .cpx (sumV [n0, n1, n2, n3, n4, n5, n6, n7, n8, n9, n10, n11, n12, n13, n14, n15] 3)) [] := by kernel_rfl
theorem sum_4 {R : Type} (K : KV R) (n0 n1 n2 n3 n4 n5 n6 n7 n8 n9 n10 n11 n12 n13 n14 n15 : Int) : (W2 35).run [.dat N16 [n0, n1, n2, n3, n4, n5, n6, n7, n8, n9, n10, n11, n12, n13, n14, n15], .dat I64 4] [] K = K (.dat .cpx (sumV [n0, n1, n2, n3, n4, n5, n6, n7, n8, n9, n10, n11, n12, n13, n14, n15] 4)) [] := by kernel_rfl
theorem sum_5 {R : Type} (K : KV R) (n0 n1 n2 n3 n4 n5 n6 n7 n8 n9 n10 n11 n12 n13 n14 n15 : Int) : (W2 35).run [.dat N16 [n0, n1, n2, n3, n4, n5, n6, n7, n8, n9, n10, n11, n12, n13, n14, n15], .dat I64 5] [] K = K (.dat .cpx (sumV [n0, n1, n2, n3, n4, n5, n6, n7, n8, n9, n10, n11, n12, n13, n14, n15] 5)) [] := by kernel_rfl
theorem sum_6 {R : Type} (K : KV R) (n0 n1 n2 n3 n4 n5 n6 n7 n8 n9 n10 n11 n12 n13 n14 n15 : Int) : (W2 35).run [.dat N16 [n0, n1, n2, n3, n4, n5, n6, n7, n8, n9, n10, n11, n12, n13, n14, n15], .dat I64 6] [] K = K (.dat .cpx (sumV [n0, n1, n2, n3, n4, n5, n6, n7, n8, n9, n10, n11, n12, n13, n14, n15] 6)) [] := by kernel_rfl
theorem sum_7 {R : Type} (K : KV R) (n0 n1 n2 n3 n4 n5 n6 n7 n8 n9 n10 n11 n12 n13 n14 n15 : Int) : (W2 35).run [.dat N16 [n0, n1, n2, n3, n4, n5, n6, n7, n8, n9, n10, n11, n12, n13, n14, n15], .dat I64 7] [] K = K (.dat .cpx (sumV [n0, n1, n2, n3, n4, n5, n6, n7, n8, n9, n10, n11, n12, n13, n14, n15] 7)) [] := by kernel_rfl
theorem sum_8 {R : Type} (K : KV R) (n0 n1 n2 n3 n4 n5 n6 n7 n8 n9 n10 n11 n12 n13 n14 n15 : Int) : (W2 35).run [.dat N16 [n0, n1, n2, n3, n4, n5, n6, n7, n8, n9, n10, n11, n12, n13, n14, n15], .dat I64 8] [] K = K (.dat .cpx (sumV [n0, n1, n2, n3, n4, n5, n6, n7, n8, n9, n10, n11, n12, n13, n14, n15] 8)) [] := by kernel_rfl
theorem sum_9 {R : Type} (K : KV R) (n0 n1 n2 n3 n4 n5 n6 n7 n8 n9 n10 n11 n12 n13 n14 n15 : Int) : (W2 35).run [.dat N16 [n0, n1, n2, n3, n4, n5, n6, n7, n8, n9, n10, n11, n12, n13, n14, n15], .dat I64 9] [] K = K (.dat .cpx (sumV [n0, n1, n2, n3, n4, n5, n6, n7, n8, n9, n10, n11, n12, n13, n14, n15] 9)) [] := by kernel_rfl
theorem sum_10 {R : Type} (K : KV R) (n0 n1 n2 n3 n4 n5 n6 n7 n8 n9 n10 n11 n12 n13 n14 n15 : Int) : (W2 35).run [.dat N16 [n0, n1, n2, n3, n4, n5, n6, n7, n8, n9, n10, n11, n12, n13, n14, n15], .dat I64 10] [] K = K (.dat .cpx (sumV [n0, n1, n2, n3, n4, n5, n6, n7, n8, n9, n10, n11, n12, n13, n14, n15] 10)) [] := by kernel_rfl
theorem sum_11 {R : Type} (K : KV R) (n0 n1 n2 n3 n4 n5 n6 n7 n8 n9 n10 n11 n12 n13 n14 n15 : Int) : (W2 35).run [.dat N16 [n0, n1, n2, n3, n4, n5, n6, n7, n8, n9, n10, n11, n12, n13, n14, n15], .dat I64 11] [] K = K (.dat .cpx (sumV [n0, n1, n2, n3, n4, n5, n6, n7, n8, n9, n10, n11, n12, n13, n14, n15] 11)) [] := by kernel_rfl
theorem sum_12 {R : Type} (K : KV R) (n0 n1 n2 n3 n4 n5 n6 n7 n8 n9 n10 n11 n12 n13 n14 n15 : Int) : (W2 35).run [.dat N16 [n0, n1, n2, n3, n4, n5, n6, n7, n8, n9, n10, n11, n12, n13, n14, n15], .dat I64 12] [] K = K (.dat .cpx (sumV [n0, n1, n2, n3, n4, n5, n6, n7, n8, n9, n10, n11, n12, n13, n14, n15] 12)) [] := by kernel_rfl
theorem sum_13 {R : Type} (K : KV R) (n0 n1 n2 n3 n4 n5 n6 n7 n8 n9 n10 n11 n12 n13 n14 n15 : Int) : (W2 35).run [.dat N16 [n0, n1, n2, n3, n4, n5, n6, n7, n8, n9, n10, n11, n12, n13, n14, n15], .dat I64 13] [] K = K (.dat .cpx (sumV [n0, n1, n2, n3, n4, n5, n6, n7, n8, n9, n10, n11, n12, n13, n14, n15] 13)) [] := by kernel_rfl
theorem sum_14 {R : Type} (K : KV R) (n0 n1 n2 n3 n4 n5 n6 n7 n8 n9 n10 n11 n12 n13 n14 n15 : Int) : (W2 35).run [.dat N16 [n0, n1, n2, n3, n4, n5, n6, n7, n8, n9, n10, n11, n12, n13, n14, n15], .dat I64 14] [] K = K (.dat .cpx (sumV [n0, n1, n2, n3, n4, n5, n6, n7, n8, n9, n10, n11, n12, n13, n14, n15] 14)) [] := by kernel_rfl
theorem sum_15 {R : Type} (K : KV R) (n0 n1 n2 n3 n4 n5 n6 n7 n8 n9 n10 n11 n12 n13 n14 n15 : Int) : (W2 35).run [.dat N16 [n0, n1, n2, n3, n4, n5, n6, n7, n8, n9, n10, n11, n12, n13, n14, n15], .dat I64 15] [] K = K (.dat .cpx (sumV [n0, n1, n2, n3, n4, n5, n6, n7, n8, n9, n10, n11, n12, n13, n14, n15] 15)) [] := by kernel_rfl
def sumS : Summ := ⟨fun args ob K => match args, ob with
  | [.dat (.arr 16 (.int .i64)) n, .dat (.int .i64) j], [] => ck (n.length = 16 ∧ 0 ≤ j ∧ j < 16) (K (.dat .cpx (sumV n j.toNat)) [])
  | _, _ => none⟩
theorem sum_run {R : Type} (K : KV R) (n : List Int) (j : Int) (hn : n.length = 16) (h0 : 0 ≤ j) (h1 : j < 16) : (W2 35).run [.dat N16 n, .dat I64 j] [] K = K (.dat .cpx (sumV n j.toNat)) [] := by
  refine list16 (Q := fun n => (W2 35).run [.dat N16 n, .dat I64 j] [] K = K (.dat .cpx (sumV n j.toNat)) []) (fun n0 n1 n2 n3 n4 n5 n6 n7 n8 n9 n10 n11 n12 n13 n14 n15 => ?_) n hn
  have h : j = 0 ∨ j = 1 ∨ j = 2 ∨ j = 3 ∨ j = 4 ∨ j = 5 ∨ j = 6 ∨ j = 7 ∨ j = 8 ∨ j = 9 ∨ j = 10 ∨ j = 11 ∨ j = 12 ∨ j = 13 ∨ j = 14 ∨ j = 15 := by omega
  rcases h with rfl | rfl | rfl | rfl | rfl | rfl | rfl | rfl | rfl | rfl | rfl | rfl | rfl | rfl | rfl | rfl
  · exact sum_0 K n0 n1 n2 n3 n4 n5 n6 n7 n8 n9 n10 n11 n12 n13 n14 n15
  · exact sum_1 K n0 n1 n2 n3 n4 n5 n6 n7 n8 n9 n10 n11 n12 n13 n14 n15
  · exact sum_2 K n0 n1 n2 n3 n4 n5 n6 n7 n8 n9 n10 n11 n12 n13 n14 n15
  · exact sum_3 K n0 n1 n2 n3 n4 n5 n6 n7 n8 n9 n10 n11 n12 n13 n14 n15
  · exact sum_4 K n0 n1 n2 n3 n4 n5 n6 n7 n8 n9 n10 n11 n12 n13 n14 n15
  · exact sum_5 K n0 n1 n2 n3 n4 n5 n6 n7 n8 n9 n10 n11 n12 n13 n14 n15
  · exact sum_6 K n0 n1 n2 n3 n4 n5 n6 n7 n8 n9 n10 n11 n12 n13 n14 n15
  · exact sum_7 K n0 n1 n2 n3 n4 n5 n6 n7 n8 n9 n10 n11 n12 n13 n14 n15
  · exact sum_8 K n0 n1 n2 n3 n4 n5 n6 n7 n8 n9 n10 n11 n12 n13 n14 n15
  · exact sum_9 K n0 n1 n2 n3 n4 n5 n6 n7 n8 n9 n10 n11 n12 n13 n14 n15
  · exact sum_10 K n0 n1 n2 n3 n4 n5 n6 n7 n8 n9 n10 n11 n12 n13 n14 n15
  · exact sum_11 K n0 n1 n2 n3 n4 n5 n6 n7 n8 n9 n10 n11 n12 n13 n14 n15
  · exact sum_12 K n0 n1 n2 n3 n4 n5 n6 n7 n8 n9 n10 n11 n12 n13 n14 n15
  · exact sum_13 K n0 n1 n2 n3 n4 n5 n6 n7 n8 n9 n10 n11 n12 n13 n14 n15
  · exact sum_14 K n0 n1 n2 n3 n4 n5 n6 n7 n8 n9 n10 n11 n12 n13 n14 n15
  · exact sum_15 K n0 n1 n2 n3 n4 n5 n6 n7 n8 n9 n10 n11 n12 n13 n14 n15
theorem F35_ok : SumOk Tryd.prog 35 sumS := by
  refine (W2_ok 35).le (fun f ar ob K => by unfold sumS; dsimp only; split <;> simp only [bd_none, bd_ck]) fun args ob K r h => ?_
  unfold sumS at h; dsimp only at h
  split at h
  · obtain ⟨⟨hn, h0, h1⟩, h⟩ := ck_elim h
    exact (sum_run K _ _ hn h0 h1).trans h
  · cases h
end Go.Mx
namespace Go.Mx
open Go Go.RowKit Go.Sx Go.Proofs
set_option maxRecDepth 100000
def L3 : List (FuncId × Summ) := [(19, dirS)]
theorem all3 : AllOk Tryd.prog L3 := ⟨F19_ok, trivial⟩
noncomputable def W3 (f : FuncId) : Summ := wideM Tryd.prog L3 all 300 30 f
theorem W3_ok (f : FuncId) : SumOk Tryd.prog f (W3 f) := wideM_ok mixed noNG_prog all3 all 300 30 f
theorem sumr_0 {R : Type} (K : KV R) (n0 n1 n2 n3 n4 n5 n6 n7 n8 n9 n10 n11 n12 n13 n14 n15 : Int) : (W3 16).run [.dat N16 [n0, n1, n2, n3, n4, n5, n6, n7, n8, n9, n10, n11, n12, n13, n14, n15], .dat I64 0] [] K = K (.dat (.pair .flt .flt) (sumV [n0, n1, n2, n3, n4, n5, n6, n7, n8, n9, n10, n11, n12, n13, n14, n15] 0)) [] := by kernel_rfl
theorem sumr_1 {R : Type} (K : KV R) (n0 n1 n2 n3 n4 n5 n6 n7 n8 n9 n10 n11 n12 n13 n14 n15 : Int) : (W3 16).run [.dat N16 [n0, n1, n2, n3, n4, n5, n6, n7, n8, n9, n10, n11, n12, n13, n14, n15], .dat I64 1] [] K = K (.dat (.pair .flt .flt) (sumV [n0, n1, n2, n3, n4, n5, n6, n7, n8, n9, n10, n11, n12, n13, n14, n15] 1)) [] := by kernel_rfl
theorem sumr_2 {R : Type} (K : KV R) (n0 n1 n2 n3 n4 n5 n6 n7 n8 n9 n10 n11 n12 n13 n14 n15 : Int) : (W3 16).run [.dat N16 [n0, n1, n2, n3, n4, n5, n6, n7, n8, n9, n10, n11, n12, n13, n14, n15], .dat I64 2] [] K = K (.dat (.pair .flt .flt) (sumV [n0, n1, n2, n3, n4, n5, n6, n7, n8, n9, n10, n11, n12, n13, n14, n15] 2)) [] := by kernel_rfl
theorem sumr_3 {R : Type} (K : KV R) (n0 n1 n2 n3 n4 n5 n6 n7 n8 n9 n10 n11 n12 n13 n14 n15 : Int) : (W3 16).run [.dat N16 [n0, n1, n2, n3, n4, n5, n6, n7, n8, n9, n10, n11, n12, n13, n14, n15], .dat I64 3] [] K = K (.dat (.pair .flt .flt) (sumV [n0, n1, n2, n3, n4, n5, n6, n7, n8, n9, n10, n11, n12, n13, n14, n15] 3)) [] := by kernel_rfl
theorem sumr_4 {R : Type} (K : KV R) (n0 n1 n2 n3 n4 n5 n6 n7 n8 n9 n10 n11 n12 n13 n14 n15 : Int) : (W3 16).run [.dat N16 [n0, n1, n2, n3, n4, n5, n6, n7, n8, n9, n10, n11, n12, n13, n14, n15], .dat I64 4] [] K = K (.dat (.pair .flt .flt) (sumV [n0, n1, n2, n3, n4, n5, n6, n7, n8, n9, n10, n11, n12, n13, n14, n15] 4)) [] := by kernel_rfl
theorem sumr_5 {R : Type} (K : KV R) (n0 n1 n2 n3 n4 n5 n6 n7 n8 n9 n10 n11 n12 n13 n14 n15 : Int) : (W3 16).run [.dat N16 [n0, n1, n2, n3, n4, n5, n6, n7, n8, n9, n10, n11, n12, n13, n14, n15], .dat I64 5] [] K = K (.dat (.pair .flt .flt) (sumV [n0, n1, n2, n3, n4, n5, n6, n7, n8, n9, n10, n11, n12, n13, n14, n15] 5)) [] := by kernel_rfl
theorem sumr_6 {R : Type} (K : KV R) (n0 n1 n2 n3 n4 n5 n6 n7 n8 n9 n10 n11 n12 n13 n14 n15 : Int) : (W3 16).run [.dat N16 [n0, n1, n2, n3, n4, n5, n6, n7, n8, n9, n10, n11, n12, n13, n14, n15], .dat I64 6] [] K = K (.dat (.pair .flt .flt) (sumV [n0, n1, n2, n3, n4, n5, n6, n7, n8, n9, n10, n11, n12, n13, n14, n15] 6)) [] := by kernel_rfl
theorem sumr_7 {R : Type} (K : KV R) (n0 n1 n2 n3 n4 n5 n6 n7 n8 n9 n10 n11 n12 n13 n14 n15 : Int) : (W3 16).run [.dat N16 [n0, n1, n2, n3, n4, n5, n6, n7, n8, n9, n10, n11, n12, n13, n14, n15], .dat I64 7] [] K = K (.dat (.pair .flt .flt) (sumV [n0, n1, n2, n3, n4, n5, n6, n7, n8, n9, n10, n11, n12, n13, n14, n15] 7)) [] := by kernel_rfl
theorem sumr_8 {R : Type} (K : KV R) (n0 n1 n2 n3 n4 n5 n6 n7 n8 n9 n10 n11 n12 n13 n14 n15 : Int) : (W3 16).run [.dat N16 [n0, n1, n2, n3, n4, n5, n6, n7, n8, n9, n10, n11, n12, n13, n14, n15], .dat I64 8] [] K = K (.dat (.pair .flt .flt) (sumV [n0, n1, n2, n3, n4, n5, n6, n7, n8, n9, n10, n11, n12, n13, n14, n15] 8)) [] := by kernel_rfl
theorem sumr_9 {R : Type} (K : KV R) (n0 n1 n2 n3 n4 n5 n6 n7 n8 n9 n10 n11 n12 n13 n14 n15 : Int) : (W3 16).run [.dat N16 [n0, n1, n2, n3, n4, n5, n6, n7, n8, n9, n10, n11, n12, n13, n14, n15], .dat I64 9] [] K = K (.dat (.pair .flt .flt) (sumV [n0, n1, n2, n3, n4, n5, n6, n7, n8, n9, n10, n11, n12, n13, n14, n15] 9)) [] := by kernel_rfl
theorem sumr_10 {R : Type} (K : KV R) (n0 n1 n2 n3 n4 n5 n6 n7 n8 n9 n10 n11 n12 n13 n14 n15 : Int) : (W3 16).run [.dat N16 [n0, n1, n2, n3, n4, n5, n6, n7, n8, n9, n10, n11, n12, n13, n14, n15], .dat I64 10] [] K = K (.dat (.pair .flt .flt) (sumV [n0, n1, n2, n3, n4, n5, n6, n7, n8, n9, n10, n11, n12, n13, n14, n15] 10)) [] := by kernel_rfl
theorem sumr_11 {R : Type} (K : KV R) (n0 n1 n2 n3 n4 n5 n6 n7 n8 n9 n10 n11 n12 n13 n14 n15 : Int) : (W3 16).run [.dat N16 [n0, n1, n2, n3, n4, n5, n6, n7, n8, n9, n10, n11, n12, n13, n14, n15], .dat I64 11] [] K = K (.dat (.pair .flt .flt) (sumV [n0, n1, n2, n3, n4, n5, n6, n7, n8, n9, n10, n11, n12, n13, n14, n15] 11)) [] := by kernel_rfl
theorem sumr_12 {R : Type} (K : KV R) (n0 n1 n2 n3 n4 n5 n6 n7 n8 n9 n10 n11 n12 n13 n14 n15 : Int) : (W3 16).run [.dat N16 [n0, n1, n2, n3, n4, n5, n6, n7, n8, n9, n10, n11, n12, n13, n14, n15], .dat I64 12] [] K = K (.dat (.pair .flt .flt) (sumV [n0, n1, n2, n3, n4, n5, n6, n7, n8, n9, n10, n11, n12, n13, n14, n15] 12)) [] := by kernel_rfl
theorem sumr_13 {R : Type} (K : KV R) (n0 n1 n2 n3 n4 n5 n6 n7 n8 n9 n10 n11 n12 n13 n14 n15 : Int) : (W3 16).run [.dat N16 [n0, n1, n2, n3, n4, n5, n6, n7, n8, n9, n10, n11, n12, n13, n14, n15], .dat I64 13] [] K = K (.dat (.pair .flt .flt) (sumV [n0, n1, n2, n3, n4, n5, n6, n7, n8, n9, n10, n11, n12, n13, n14, n15] 13)) [] := by kernel_rfl
theorem sumr_14 {R : Type} (K : KV R) (n0 n1 n2 n3 n4 n5 n6 n7 n8 n9 n10 n11 n12 n13 n14 n15 : Int) : (W3 16).run [.dat N16 [n0, n1, n2, n3, n4, n5, n6, n7, n8, n9, n10, n11, n12, n13, n14, n15], .dat I64 14] [] K = K (.dat (.pair .flt .flt) (sumV [n0, n1, n2, n3, n4, n5, n6, n7, n8, n9, n10, n11, n12, n13, n14, n15] 14)) [] := by kernel_rfl
theorem sumr_15 {R : Type} (K : KV R) (n0 n1 n2 n3 n4 n5 n6 n7 n8 n9 n10 n11 n12 n13 n14 n15 : Int) : (W3 16).run [.dat N16 [n0, n1, n2, n3, n4, n5, n6, n7, n8, n9, n10, n11, n12, n13, n14, n15], .dat I64 15] [] K = K (.dat (.pair .flt .flt) (sumV [n0, n1, n2, n3, n4, n5, n6, n7, n8, n9, n10, n11, n12, n13, n14, n15] 15)) [] := by kernel_rfl
def sumrS : Summ := ⟨fun args ob K => match args, ob with
  | [.dat (.arr 16 (.int .i64)) n, .dat (.int .i64) j], [] => ck (n.length = 16 ∧ 0 ≤ j ∧ j < 16) (K (.dat (.pair .flt .flt) (sumV n j.toNat)) [])
  | _, _ => none⟩
theorem sumr_run {R : Type} (K : KV R) (n : List Int) (j : Int) (hn : n.length = 16) (h0 : 0 ≤ j) (h1 : j < 16) : (W3 16).run [.dat N16 n, .dat I64 j] [] K = K (.dat (.pair .flt .flt) (sumV n j.toNat)) [] := by
  refine list16 (Q := fun n => (W3 16).run [.dat N16 n, .dat I64 j] [] K = K (.dat (.pair .flt .flt) (sumV n j.toNat)) []) (fun n0 n1 n2 n3 n4 n5 n6 n7 n8 n9 n10 n11 n12 n13 n14 n15 => ?_) n hn
  have h : j = 0 ∨ j = 1 ∨ j = 2 ∨ j = 3 ∨ j = 4 ∨ j = 5 ∨ j = 6 ∨ j = 7 ∨ j = 8 ∨ j = 9 ∨ j = 10 ∨ j = 11 ∨ j = 12 ∨ j = 13 ∨ j = 14 ∨ j = 15 := by omega
  rcases h with rfl | rfl | rfl | rfl | rfl | rfl | rfl | rfl | rfl | rfl | rfl | rfl | rfl | rfl | rfl | rfl
  · exact sumr_0 K n0 n1 n2 n3 n4 n5 n6 n7 n8 n9 n10 n11 n12 n13 n14 n15
  · exact sumr_1 K n0 n1 n2 n3 n4 n5 n6 n7 n8 n9 n10 n11 n12 n13 n14 n15
  · exact sumr_2 K n0 n1 n2 n3 n4 n5 n6 n7 n8 n9 n10 n11 n12 n13 n14 n15
  · exact sumr_3 K n0 n1 n2 n3 n4 n5 n6 n7 n8 n9 n10 n11 n12 n13 n14 n15
  · exact sumr_4 K n0 n1 n2 n3 n4 n5 n6 n7 n8 n9 n10 n11 n12 n13 n14 n15
  · exact sumr_5 K n0 n1 n2 n3 n4 n5 n6 n7 n8 n9 n10 n11 n12 n13 n14 n15
  · exact sumr_6 K n0 n1 n2 n3 n4 n5 n6 n7 n8 n9 n10 n11 n12 n13 n14 n15
  · exact sumr_7 K n0 n1 n2 n3 n4 n5 n6 n7 n8 n9 n10 n11 n12 n13 n14 n15
  · exact sumr_8 K n0 n1 n2 n3 n4 n5 n6 n7 n8 n9 n10 n11 n12 n13 n14 n15
  · exact sumr_9 K n0 n1 n2 n3 n4 n5 n6 n7 n8 n9 n10 n11 n12 n13 n14 n15
  · exact sumr_10 K n0 n1 n2 n3 n4 n5 n6 n7 n8 n9 n10 n11 n12 n13 n14 n15
  · exact sumr_11 K n0 n1 n2 n3 n4 n5 n6 n7 n8 n9 n10 n11 n12 n13 n14 n15
  · exact sumr_12 K n0 n1 n2 n3 n4 n5 n6 n7 n8 n9 n10 n11 n12 n13 n14 n15
  · exact sumr_13 K n0 n1 n2 n3 n4 n5 n6 n7 n8 n9 n10 n11 n12 n13 n14 n15
  · exact sumr_14 K n0 n1 n2 n3 n4 n5 n6 n7 n8 n9 n10 n11 n12 n13 n14 n15
  · exact sumr_15 K n0 n1 n2 n3 n4 n5 n6 n7 n8 n9 n10 n11 n12 n13 n14 n15
theorem F16_ok : SumOk Tryd.prog 16 sumrS := by
  refine (W3_ok 16).le (fun f ar ob K => by unfold sumrS; dsimp only; split <;> simp only [bd_none, bd_ck]) fun args ob K r h => ?_
  unfold sumrS at h; dsimp only at h
  split at h
  · obtain ⟨⟨hn, h0, h1⟩, h⟩ := ck_elim h
    exact (sumr_run K _ _ hn h0 h1).trans h
  · cases h
end Go.Mx
namespace Go.Mx
open Go Go.RowKit Go.Sx Go.Proofs
set_option maxRecDepth 100000
def sameT {R : Type} (a b : Nat) (K : KV R) : Option R :=
  cond (!feq a a) (cond (!feq b b) (K (.dat .bool true) []) (cond (!(!feq a a)) (cond (!(!feq b b)) (ck (nanB a = false) (ck (nanB b = false) (K (.dat .bool (decide ((a : Int) = b))) []))) (K (.dat .bool false) [])) (K (.dat .bool false) []))) (cond (!(!feq a a)) (cond (!(!feq b b)) (ck (nanB a = false) (ck (nanB b = false) (K (.dat .bool (decide ((a : Int) = b))) []))) (K (.dat .bool false) [])) (K (.dat .bool false) []))
theorem same_0 {R : Type} (a b : Nat) (K : KV R) : (W 22).run [.dat .flt a, .dat .flt b] [] K = sameT a b K := by kernel_rfl
end Go.Mx
namespace Go.Mx
open Go Go.RowKit Go.Sx Go.Proofs
set_option maxRecDepth 100000
theorem feq_nan {a : Nat} (h : feq a a = true) : nanB a = false := by
  cases hn : nanB a with
  | false => rfl
  | true =>
    unfold feq at h
    rw [nan_ord.1 a a hn] at h
    cases h
theorem sameT_eq {R : Type} (a : Nat) (K : KV R) : sameT a a K = K (.dat .bool true) [] := by
  unfold sameT
  cases h : feq a a with
  | false => rfl
  | true =>
    have hn := feq_nan h
    show ck (nanB a = false) (ck (nanB a = false) (K (.dat .bool (decide ((a : Int) = a))) [])) = _
    rw [ck_pos hn, ck_pos hn, decide_eq_true rfl]
def sameS : Summ := ⟨fun args ob K => match args, ob with
  | [.dat .flt a, .dat .flt b], [] => ck (Eq (α := Nat) a b) (K (.dat .bool true) [])
  | _, _ => none⟩
theorem F22_ok : SumOk Tryd.prog 22 sameS := by
  refine (W_ok 22).le (fun f ar ob K => by unfold sameS; dsimp only; split <;> simp only [bd_none, bd_ck]) fun args ob K r h => ?_
  unfold sameS at h; dsimp only at h
  split at h
  · obtain ⟨hk, h2⟩ := ck_elim h
    clear h
    subst hk
    exact ((same_0 _ _ K).trans (sameT_eq _ K)).trans h2
  · cases h
def L5 : List (FuncId × Summ) := [(22, sameS)]
theorem all5 : AllOk Tryd.prog L5 := ⟨F22_ok, trivial⟩
noncomputable def W5 (f : FuncId) : Summ := wideM Tryd.prog L5 all 300 30 f
theorem W5_ok (f : FuncId) : SumOk Tryd.prog f (W5 f) := wideM_ok mixed noNG_prog all5 all 300 30 f
theorem is_0 {R : Type} (K : KV R) (a b c d : Nat) : (W5 14).run [.dat .cpx (a, b), .dat (.pair .flt .flt) (c, d)] [] K = ck (a = c) (ck (b = d) (K (.dat .bool true) [])) := by kernel_rfl
def isS : Summ := ⟨fun args ob K => match args, ob with
  | [.dat .cpx z, .dat (.pair .flt .flt) p], [] => ck (Eq (α := Nat) z.1 p.1) (ck (Eq (α := Nat) z.2 p.2) (K (.dat .bool true) []))
  | _, _ => none⟩
theorem F14_ok : SumOk Tryd.prog 14 isS := by
  refine (W5_ok 14).le (fun f ar ob K => by unfold isS; dsimp only; split <;> simp only [bd_none, bd_ck]) fun args ob K r h => ?_
  unfold isS at h; dsimp only at h
  split at h
  · exact (is_0 K _ _ _ _).trans h
  · cases h
end Go.Mx
namespace Go.Mx
open Go Go.RowKit Go.Sx Go.Proofs
set_option maxRecDepth 100000
def L8 : List (FuncId × Summ) := [(13, knownS), (37, F37), (51, sqrtS), (40, bitsS), (36, fromS)]
theorem all8 : AllOk Tryd.prog L8 := ⟨F13_ok, F37_ok, sqrt_ok, bits_ok, from_ok, trivial⟩
noncomputable def W8 (f : FuncId) : Summ := wideM Tryd.prog L8 all 300 30 f
theorem W8_ok (f : FuncId) : SumOk Tryd.prog f (W8 f) := wideM_ok mixed noNG_prog all8 all 300 30 f
theorem round_0 {R : Type} (K : KV R) : (W8 5).run [] [] K = K (.dat .bool true) [] := by kernel_rfl
theorem SpreadRound_ok : SumOk Tryd.prog 5 (W8 5) := W8_ok 5
theorem SpreadRound_law : (W8 5).run [] [] isTrue = some true := round_0 isTrue
end Go.Mx
namespace Go.Mx
open Go Go.RowKit Go.Sx Go.Proofs
set_option maxRecDepth 100000
theorem c_0 {R : Type} (K : KV R) : (W2 39).run [.dat I64 0] [] K = K (.dat .flt (dirs.getD (0 % 16) (0, 0)).1) [] := by kernel_rfl
theorem c_1 {R : Type} (K : KV R) : (W2 39).run [.dat I64 1] [] K = K (.dat .flt (dirs.getD (1 % 16) (0, 0)).1) [] := by kernel_rfl
theorem c_2 {R : Type} (K : KV R) : (W2 39).run [.dat I64 2] [] K = K (.dat .flt (dirs.getD (2 % 16) (0, 0)).1) [] := by kernel_rfl
theorem c_3 {R : Type} (K : KV R) : (W2 39).run [.dat I64 3] [] K = K (.dat .flt (dirs.getD (3 % 16) (0, 0)).1) [] := by kernel_rfl
theorem c_4 {R : Type} (K : KV R) : (W2 39).run [.dat I64 4] [] K = K (.dat .flt (dirs.getD (4 % 16) (0, 0)).1) [] := by kernel_rfl
theorem c_5 {R : Type} (K : KV R) : (W2 39).run [.dat I64 5] [] K = K (.dat .flt (dirs.getD (5 % 16) (0, 0)).1) [] := by kernel_rfl
theorem c_6 {R : Type} (K : KV R) : (W2 39).run [.dat I64 6] [] K = K (.dat .flt (dirs.getD (6 % 16) (0, 0)).1) [] := by kernel_rfl
theorem c_7 {R : Type} (K : KV R) : (W2 39).run [.dat I64 7] [] K = K (.dat .flt (dirs.getD (7 % 16) (0, 0)).1) [] := by kernel_rfl
theorem c_8 {R : Type} (K : KV R) : (W2 39).run [.dat I64 8] [] K = K (.dat .flt (dirs.getD (8 % 16) (0, 0)).1) [] := by kernel_rfl
theorem c_9 {R : Type} (K : KV R) : (W2 39).run [.dat I64 9] [] K = K (.dat .flt (dirs.getD (9 % 16) (0, 0)).1) [] := by kernel_rfl
theorem c_10 {R : Type} (K : KV R) : (W2 39).run [.dat I64 10] [] K = K (.dat .flt (dirs.getD (10 % 16) (0, 0)).1) [] := by kernel_rfl
theorem c_11 {R : Type} (K : KV R) : (W2 39).run [.dat I64 11] [] K = K (.dat .flt (dirs.getD (11 % 16) (0, 0)).1) [] := by kernel_rfl
theorem c_12 {R : Type} (K : KV R) : (W2 39).run [.dat I64 12] [] K = K (.dat .flt (dirs.getD (12 % 16) (0, 0)).1) [] := by kernel_rfl
theorem c_13 {R : Type} (K : KV R) : (W2 39).run [.dat I64 13] [] K = K (.dat .flt (dirs.getD (13 % 16) (0, 0)).1) [] := by kernel_rfl
theorem c_14 {R : Type} (K : KV R) : (W2 39).run [.dat I64 14] [] K = K (.dat .flt (dirs.getD (14 % 16) (0, 0)).1) [] := by kernel_rfl
theorem c_15 {R : Type} (K : KV R) : (W2 39).run [.dat I64 15] [] K = K (.dat .flt (dirs.getD (15 % 16) (0, 0)).1) [] := by kernel_rfl
theorem c_16 {R : Type} (K : KV R) : (W2 39).run [.dat I64 16] [] K = K (.dat .flt (dirs.getD (16 % 16) (0, 0)).1) [] := by kernel_rfl
theorem c_17 {R : Type} (K : KV R) : (W2 39).run [.dat I64 17] [] K = K (.dat .flt (dirs.getD (17 % 16) (0, 0)).1) [] := by kernel_rfl
theorem c_18 {R : Type} (K : KV R) : (W2 39).run [.dat I64 18] [] K = K (.dat .flt (dirs.getD (18 % 16) (0, 0)).1) [] := by kernel_rfl
theorem c_19 {R : Type} (K : KV R) : (W2 39).run [.dat I64 19] [] K = K (.dat .flt (dirs.getD (19 % 16) (0, 0)).1) [] := by kernel_rfl
theorem c_20 {R : Type} (K : KV R) : (W2 39).run [.dat I64 20] [] K = K (.dat .flt (dirs.getD (20 % 16) (0, 0)).1) [] := by kernel_rfl
theorem c_21 {R : Type} (K : KV R) : (W2 39).run [.dat I64 21] [] K = K (.dat .flt (dirs.getD (21 % 16) (0, 0)).1) [] := by kernel_rfl
theorem c_22 {R : Type} (K : KV R) : (W2 39).run [.dat I64 22] [] K = K (.dat .flt (dirs.getD (22 % 16) (0, 0)).1) [] := by kernel_rfl
theorem c_23 {R : Type} (K : KV R) : (W2 39).run [.dat I64 23] [] K = K (.dat .flt (dirs.getD (23 % 16) (0, 0)).1) [] := by kernel_rfl
theorem c_24 {R : Type} (K : KV R) : (W2 39).run [.dat I64 24] [] K = K (.dat .flt (dirs.getD (24 % 16) (0, 0)).1) [] := by kernel_rfl
theorem c_25 {R : Type} (K : KV R) : (W2 39).run [.dat I64 25] [] K = K (.dat .flt (dirs.getD (25 % 16) (0, 0)).1) [] := by kernel_rfl
theorem c_26 {R : Type} (K : KV R) : (W2 39).run [.dat I64 26] [] K = K (.dat .flt (dirs.getD (26 % 16) (0, 0)).1) [] := by kernel_rfl
theorem c_27 {R : Type} (K : KV R) : (W2 39).run [.dat I64 27] [] K = K (.dat .flt (dirs.getD (27 % 16) (0, 0)).1) [] := by kernel_rfl
def cS : Summ := ⟨fun args ob K => match args, ob with
  | [.dat (.int .i64) k], [] => ck (0 ≤ k ∧ k < 28) (K (.dat .flt (dirs.getD (k.toNat % 16) (0, 0)).1) [])
  | _, _ => none⟩
theorem c_run {R : Type} (K : KV R) (k : Int) (h0 : 0 ≤ k) (h1 : k < 28) : (W2 39).run [.dat I64 k] [] K = K (.dat .flt (dirs.getD (k.toNat % 16) (0, 0)).1) [] := by
  have h : k = 0 ∨ k = 1 ∨ k = 2 ∨ k = 3 ∨ k = 4 ∨ k = 5 ∨ k = 6 ∨ k = 7 ∨ k = 8 ∨ k = 9 ∨ k = 10 ∨ k = 11 ∨ k = 12 ∨ k = 13 ∨ k = 14 ∨ k = 15 ∨ k = 16 ∨ k = 17 ∨ k = 18 ∨ k = 19 ∨ k = 20 ∨ k = 21 ∨ k = 22 ∨ k = 23 ∨ k = 24 ∨ k = 25 ∨ k = 26 ∨ k = 27 := by omega
  rcases h with rfl | rfl | rfl | rfl | rfl | rfl | rfl | rfl | rfl | rfl | rfl | rfl | rfl | rfl | rfl | rfl | rfl | rfl | rfl | rfl | rfl | rfl | rfl | rfl | rfl | rfl | rfl | rfl
  · exact c_0 K
  · exact c_1 K
  · exact c_2 K
  · exact c_3 K
  · exact c_4 K
  · exact c_5 K
  · exact c_6 K
  · exact c_7 K
  · exact c_8 K
  · exact c_9 K
  · exact c_10 K
  · exact c_11 K
  · exact c_12 K
  · exact c_13 K
  · exact c_14 K
  · exact c_15 K
  · exact c_16 K
  · exact c_17 K
  · exact c_18 K
  · exact c_19 K
  · exact c_20 K
  · exact c_21 K
  · exact c_22 K
  · exact c_23 K
  · exact c_24 K
  · exact c_25 K
  · exact c_26 K
  · exact c_27 K
theorem F39_ok : SumOk Tryd.prog 39 cS := by
  refine (W2_ok 39).le (fun f ar ob K => by unfold cS; dsimp only; split <;> simp only [bd_none, bd_ck]) fun args ob K r h => ?_
  unfold cS at h; dsimp only at h
  split at h
  · obtain ⟨⟨h0, h1⟩, h2⟩ := ck_elim h
    exact (c_run K _ h0 h1).trans h2
  · cases h
def L9 : List (FuncId × Summ) := [(37, F37), (39, cS)]
theorem all9 : AllOk Tryd.prog L9 := ⟨F37_ok, F39_ok, trivial⟩
noncomputable def W9 (f : FuncId) : Summ := wideM Tryd.prog L9 all 300 30 f
theorem W9_ok (f : FuncId) : SumOk Tryd.prog f (W9 f) := wideM_ok mixed noNG_prog all9 all 300 30 f
end Go.Mx
namespace Go.Mx
open Go Go.RowKit Go.Sx Go.Proofs
set_option maxRecDepth 100000
def wi (i : Int) : Int := IntKind.i64.wrap i
def dirM (m : Int) : Nat × Nat := dirs.getD ((m + 16) % 16).toNat (0, 0)
def dirV (k : Int) : Nat × Nat := dirM (Int.tmod k 16)
def dirpT {R : Type} (K : KV R) (m : Int) : Option R :=
  ck (0 ≤ Int.tmod (wi (m + 16)) 16 ∧ Int.tmod (wi (m + 16)) 16 < 16) (Option.bind dirs[Int.toNat (Int.tmod (wi (m + 16)) 16)]? fun x => K (.dat .cpx x) [])
def dirrT {R : Type} (K : KV R) (m : Int) : Option R :=
  cond (decide (m < 0)) (ck (0 ≤ wi (m + 16) ∧ wi (m + 16) < 28) (ck (0 ≤ wi (wi (m + 16) + 12) ∧ wi (wi (m + 16) + 12) < 28) (K (.dat (.pair .flt .flt) ((List.getD dirs (Int.toNat (wi (m + 16)) % 16) (0, 0)).1, (List.getD dirs (Int.toNat (wi (wi (m + 16) + 12)) % 16) (0, 0)).1)) [])))
    (ck (0 ≤ m ∧ m < 28) (ck (0 ≤ wi (m + 12) ∧ wi (m + 12) < 28) (K (.dat (.pair .flt .flt) ((List.getD dirs (Int.toNat m % 16) (0, 0)).1, (List.getD dirs (Int.toNat (wi (m + 12)) % 16) (0, 0)).1)) [])))
theorem dirp_0 {R : Type} (K : KV R) (k : Int) : (W9 18).run [.dat I64 k] [] K = dirpT K (Int.tmod k 16) := by kernel_rfl
theorem dirr_0 {R : Type} (K : KV R) (k : Int) : (W9 19).run [.dat I64 k] [] K = dirrT K (Int.tmod k 16) := by kernel_rfl
theorem dir_eq {R : Type} (K : KV R) (m : Int) (h1 : -16 < m) (h2 : m < 16) : dirpT K m = K (.dat .cpx (dirM m)) [] ∧ dirrT K m = K (.dat (.pair .flt .flt) (dirM m)) [] := by
  have h : m = -15 ∨ m = -14 ∨ m = -13 ∨ m = -12 ∨ m = -11 ∨ m = -10 ∨ m = -9 ∨ m = -8 ∨ m = -7 ∨ m = -6 ∨ m = -5 ∨ m = -4 ∨ m = -3 ∨ m = -2 ∨ m = -1 ∨ m = 0 ∨ m = 1 ∨ m = 2 ∨ m = 3 ∨ m = 4 ∨ m = 5 ∨ m = 6 ∨ m = 7 ∨ m = 8 ∨ m = 9 ∨ m = 10 ∨ m = 11 ∨ m = 12 ∨ m = 13 ∨ m = 14 ∨ m = 15 := by omega
  rcases h with rfl | rfl | rfl | rfl | rfl | rfl | rfl | rfl | rfl | rfl | rfl | rfl | rfl | rfl | rfl | rfl | rfl | rfl | rfl | rfl | rfl | rfl | rfl | rfl | rfl | rfl | rfl | rfl | rfl | rfl | rfl
  · exact ⟨by kernel_rfl, by kernel_rfl⟩
  · exact ⟨by kernel_rfl, by kernel_rfl⟩
  · exact ⟨by kernel_rfl, by kernel_rfl⟩
  · exact ⟨by kernel_rfl, by kernel_rfl⟩
  · exact ⟨by kernel_rfl, by kernel_rfl⟩
  · exact ⟨by kernel_rfl, by kernel_rfl⟩
  · exact ⟨by kernel_rfl, by kernel_rfl⟩
  · exact ⟨by kernel_rfl, by kernel_rfl⟩
  · exact ⟨by kernel_rfl, by kernel_rfl⟩
  · exact ⟨by kernel_rfl, by kernel_rfl⟩
  · exact ⟨by kernel_rfl, by kernel_rfl⟩
  · exact ⟨by kernel_rfl, by kernel_rfl⟩
  · exact ⟨by kernel_rfl, by kernel_rfl⟩
  · exact ⟨by kernel_rfl, by kernel_rfl⟩
  · exact ⟨by kernel_rfl, by kernel_rfl⟩
  · exact ⟨by kernel_rfl, by kernel_rfl⟩
  · exact ⟨by kernel_rfl, by kernel_rfl⟩
  · exact ⟨by kernel_rfl, by kernel_rfl⟩
  · exact ⟨by kernel_rfl, by kernel_rfl⟩
  · exact ⟨by kernel_rfl, by kernel_rfl⟩
  · exact ⟨by kernel_rfl, by kernel_rfl⟩
  · exact ⟨by kernel_rfl, by kernel_rfl⟩
  · exact ⟨by kernel_rfl, by kernel_rfl⟩
  · exact ⟨by kernel_rfl, by kernel_rfl⟩
  · exact ⟨by kernel_rfl, by kernel_rfl⟩
  · exact ⟨by kernel_rfl, by kernel_rfl⟩
  · exact ⟨by kernel_rfl, by kernel_rfl⟩
  · exact ⟨by kernel_rfl, by kernel_rfl⟩
  · exact ⟨by kernel_rfl, by kernel_rfl⟩
  · exact ⟨by kernel_rfl, by kernel_rfl⟩
  · exact ⟨by kernel_rfl, by kernel_rfl⟩
theorem dirp_run {R : Type} (K : KV R) (k : Int) : (W9 18).run [.dat I64 k] [] K = K (.dat .cpx (dirV k)) [] :=
  (dirp_0 K k).trans (dir_eq K _ (Int.lt_tmod_of_pos k (by decide)) (Int.tmod_lt_of_pos k (by decide))).1
theorem dirr_run {R : Type} (K : KV R) (k : Int) : (W9 19).run [.dat I64 k] [] K = K (.dat (.pair .flt .flt) (dirV k)) [] :=
  (dirr_0 K k).trans (dir_eq K _ (Int.lt_tmod_of_pos k (by decide)) (Int.tmod_lt_of_pos k (by decide))).2
def dirPS : Summ := ⟨fun args ob K => match args, ob with
  | [.dat (.int .i64) k], [] => K (.dat .cpx (dirV k)) []
  | _, _ => none⟩
def dirRS : Summ := ⟨fun args ob K => match args, ob with
  | [.dat (.int .i64) k], [] => K (.dat (.pair .flt .flt) (dirV k)) []
  | _, _ => none⟩
theorem F18_ok : SumOk Tryd.prog 18 dirPS := by
  refine (W9_ok 18).le (fun f ar ob K => by unfold dirPS; dsimp only; split <;> rfl) fun args ob K r h => ?_
  unfold dirPS at h; dsimp only at h
  split at h
  · exact (dirp_run K _).trans h
  · cases h
theorem F19r_ok : SumOk Tryd.prog 19 dirRS := by
  refine (W9_ok 19).le (fun f ar ob K => by unfold dirRS; dsimp only; split <;> rfl) fun args ob K r h => ?_
  unfold dirRS at h; dsimp only at h
  split at h
  · exact (dirr_run K _).trans h
  · cases h
end Go.Mx
namespace Go.Mx
open Go Go.RowKit Go.Sx Go.Proofs
set_option maxRecDepth 100000
def L11 : List (FuncId × Summ) := [(13, knownS), (18, dirPS), (19, dirRS), (14, isS), (22, sameS), (36, fromS), (51, sqrtS)]
theorem all11 : AllOk Tryd.prog L11 := ⟨F13_ok, F18_ok, F19r_ok, F14_ok, F22_ok, from_ok, sqrt_ok, trivial⟩
noncomputable def W11 (f : FuncId) : Summ := wideM Tryd.prog L11 all 300 30 f
theorem W11_ok (f : FuncId) : SumOk Tryd.prog f (W11 f) := wideM_ok mixed noNG_prog all11 all 300 30 f
def tisT {R : Type} (z p : Nat × Nat) (X : Option R) : Option R := ck (Eq (α := Nat) z.1 p.1) (ck (Eq (α := Nat) z.2 p.2) X)
def turnV (z d : Nat × Nat) : Nat × Nat := (fsub (fmul z.1 d.1) (fmul z.2 d.2), fadd (fmul z.1 d.2) (fmul z.2 d.1))
def lenV (z : Nat × Nat) : Nat := fsqrt (fadd (fmul z.1 z.1) (fmul z.2 z.2))
theorem turns_0 {R : Type} (K : KV R) (a b k : Int) : (W11 4).run [.dat U64 a, .dat U64 b, .dat I64 k] [] K = tisT (dirV k) (dirV k) (tisT (turnV (a.toNat, b.toNat) (dirV k)) (turnV (a.toNat, b.toNat) (dirV k)) (ck (Eq (α := Nat) (lenV (a.toNat, b.toNat)) (lenV (a.toNat, b.toNat))) (K (.dat .bool true) []))) := by kernel_rfl
theorem tisT_self {R : Type} (z : Nat × Nat) (X : Option R) : tisT z z X = X := by
  unfold tisT; rw [ck_pos rfl, ck_pos rfl]
theorem turns_run {R : Type} (K : KV R) (a b k : Int) : (W11 4).run [.dat U64 a, .dat U64 b, .dat I64 k] [] K = K (.dat .bool true) [] := by
  rw [turns_0, tisT_self, tisT_self, ck_pos rfl]
theorem SpreadTurns_ok : SumOk Tryd.prog 4 (W11 4) := W11_ok 4
theorem SpreadTurns_law (a : Int) (_ : (Lit.int .u64 a).wf = true) (b : Int) (_ : (Lit.int .u64 b).wf = true) (k : Int) (_ : (Lit.int .i64 k).wf = true) : (W11 4).run [.dat U64 a, .dat U64 b, .dat I64 k] [] isTrue = some true := turns_run isTrue a b k
end Go.Mx
