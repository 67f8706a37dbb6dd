/- Own work. A part of the proof of a law of this seat: this seat's functions, by the machine, and the plain law -/
import Derived.Test.YtkmabfamdonfoaaDoorMe
import Derived.Test.YtkmabfamdonfoaaDoorWm
import Derived.Test.YtkmabfamdonfoaaDoorWn
namespace Go.Mx
set_option linter.unusedVariables false
set_option linter.unusedSimpArgs false
open Go Go.RowKit Go.Sx Go.Proofs
set_option maxRecDepth 100000
def nm : List ByteArray := [⟨#[]⟩, ⟨#[97, 100, 100]⟩, ⟨#[114, 101, 113, 117, 101, 115, 116]⟩, ⟨#[115, 101, 97, 114, 99, 104]⟩, ⟨#[114, 101, 97, 100]⟩, ⟨#[117, 112, 100, 97, 116, 101]⟩, ⟨#[100, 101, 115, 99, 114, 105, 98, 101]⟩, ⟨#[108, 105, 110, 107]⟩, ⟨#[117, 110, 108, 105, 110, 107]⟩, ⟨#[109, 111, 118, 101]⟩, ⟨#[99, 108, 101, 97, 114]⟩, ⟨#[115, 101, 116, 112, 101, 114, 109]⟩, ⟨#[99, 104, 111, 119, 110]⟩, ⟨#[116, 105, 109, 101, 111, 117, 116]⟩, ⟨#[114, 101, 118, 111, 107, 101]⟩, ⟨#[105, 110, 118, 97, 108, 105, 100, 97, 116, 101]⟩, ⟨#[114, 101, 115, 116, 114, 105, 99, 116]⟩, ⟨#[103, 101, 116]⟩, ⟨#[106, 111, 105, 110]⟩]
def nameV (o : Int) : ByteArray := bif decide (o < 0) then ⟨#[]⟩ else bif decide (19 ≤ o) then ⟨#[]⟩ else nm.getD o.toNat ⟨#[]⟩
def F14n : Summ := ⟨fun args ob K => match args, ob with
  | [.dat (.int .i64) o], [] => K (.dat .str (nameV o)) []
  | _, _ => none⟩
theorem nm_get {o : Int} (h1 : ¬ o < 0) (h2 : ¬ 19 ≤ o) : nm[o.toNat]? = some (nm.getD o.toNat ⟨#[]⟩) := by
  have h : o.toNat < nm.length := by show o.toNat < 19; omega
  rw [List.getElem?_eq_getElem h, List.getD_eq_getElem?_getD, List.getElem?_eq_getElem h]; rfl
theorem name_run {R : Type} (K : KV R) (o : Int) : (W 14).run [.dat I64 o] [] K = K (.dat .str (nameV o)) [] := by
  refine (name_0 K o).trans ?_
  unfold nameV
  by_cases h1 : o < 0
  · rw [decide_eq_true h1]; rfl
  by_cases h2 : 19 ≤ o
  · rw [decide_eq_false h1, decide_eq_true h2]; rfl
  rw [decide_eq_false h1, decide_eq_false h2, cond_false, cond_false, cond_false, cond_false, ck_pos (by omega)]
  exact (congrArg (fun z => Option.bind z fun x => K (.dat .str x) []) (nm_get h1 h2))
theorem rname_run {R : Type} (K : KV R) (o : Int) : (W 15).run [.dat I64 o] [] K = K (.dat .str (nameV o)) [] := by
  refine (rname_0 K o).trans ?_
  unfold nameV
  by_cases h1 : o < 0
  · rw [decide_eq_true h1]; rfl
  by_cases h2 : 19 ≤ o
  · rw [decide_eq_false h1, decide_eq_true h2]; rfl
  rw [decide_eq_false h1, decide_eq_false h2, cond_false, cond_false, cond_false, cond_false, ck_pos (by omega)]
  exact (congrArg (fun z => Option.bind z fun x => K (.dat .str x) []) (nm_get h1 h2))
theorem F14n_of {f : Nat} (h0 : ∀ {R : Type} (K : KV R) (o : Int), (W f).run [.dat I64 o] [] K = K (.dat .str (nameV o)) []) : SumOk Tryd.prog f F14n := by
  refine (W_ok f).le (fun f args ob K => by unfold F14n; dsimp only; split <;> simp only [bd_none]) ?_
  intro R args ob K r h
  unfold F14n at h; dsimp only at h
  split at h
  · exact (h0 K _).trans h
  · cases h
def alV (o : Int) : Bool := decide (o = 1) || (decide (o = 5) || (decide (o = 7) || (decide (o = 8) || (decide (o = 9) || (decide (o = 17) || decide (o = 18))))))
def F16a : Summ := ⟨fun args ob K => match args, ob with
  | [.dat (.int .i64) o], [] => K (.dat .bool (alV o)) []
  | _, _ => none⟩
theorem al_run {R : Type} (K : KV R) (o : Int) : (W 16).run [.dat I64 o] [] K = K (.dat .bool (alV o)) [] := by
  refine (all_0 K o).trans ?_
  unfold alV
  cases decide (o = 1) <;> cases decide (o = 5) <;> cases decide (o = 7) <;> cases decide (o = 8) <;> cases decide (o = 9) <;> cases decide (o = 17) <;> cases decide (o = 18) <;> rfl
theorem ral_run {R : Type} (K : KV R) (o : Int) : (W 17).run [.dat I64 o] [] K = K (.dat .bool (alV o)) [] := by
  refine (rall_0 K o).trans ?_
  unfold alV
  cases decide (o = 1) <;> cases decide (o = 5) <;> cases decide (o = 7) <;> cases decide (o = 8) <;> cases decide (o = 9) <;> cases decide (o = 17) <;> cases decide (o = 18) <;> rfl
theorem F16a_of {f : Nat} (h0 : ∀ {R : Type} (K : KV R) (o : Int), (W f).run [.dat I64 o] [] K = K (.dat .bool (alV o)) []) : SumOk Tryd.prog f F16a := by
  refine (W_ok f).le (fun f args ob K => by unfold F16a; dsimp only; split <;> simp only [bd_none]) ?_
  intro R args ob K r h
  unfold F16a at h; dsimp only at h
  split at h
  · exact (h0 K _).trans h
  · cases h
/-- a name's place -/
def chn (s : ByteArray) : List ByteArray → Int → Int
  | [], _ => 0
  | x :: r, i => bif decide (x = s) then i else chn s r (i + 1)
def ofnE (c : Int) : Int := bif decide (c = 0) then 2 else 0
def F18n : Summ := ⟨fun args ob K => match args, ob with
  | [.dat .str s], [] => K (.tup [.dat I64 (chn s nm 0), .dat I64 (ofnE (chn s nm 0))]) []
  | _, _ => none⟩
theorem nmK {R : Type} {K : KV R} {b : Bool} {i c : Int} {X : Option R} (hi : decide (i = 0) = false) (h : X = K (.tup [.dat I64 c, .dat I64 (ofnE c)]) []) : (bif b then K (.tup [.dat I64 i, .dat I64 0]) [] else X) = K (.tup [.dat I64 (bif b then i else c), .dat I64 (ofnE (bif b then i else c))]) [] := by
  cases b with
  | false => exact h
  | true => show K _ [] = K (.tup [.dat I64 i, .dat I64 (ofnE i)]) []; unfold ofnE; rw [hi]; rfl
theorem nmZ {R : Type} {K : KV R} {b : Bool} {c : Int} {X : Option R} (h : X = K (.tup [.dat I64 c, .dat I64 (ofnE c)]) []) : (bif b then K (.tup [.dat I64 0, .dat I64 2]) [] else X) = K (.tup [.dat I64 (bif b then 0 else c), .dat I64 (ofnE (bif b then 0 else c))]) [] := by
  cases b with
  | false => exact h
  | true => rfl
theorem ofn_run {R : Type} (K : KV R) (s : ByteArray) : (W 18).run [.dat .str s] [] K = K (.tup [.dat I64 (chn s nm 0), .dat I64 (ofnE (chn s nm 0))]) [] := by
  refine (ofn_0 K s).trans ?_
  exact nmZ (nmK rfl (nmK rfl (nmK rfl (nmK rfl (nmK rfl (nmK rfl (nmK rfl (nmK rfl (nmK rfl (nmK rfl (nmK rfl (nmK rfl (nmK rfl (nmK rfl (nmK rfl (nmK rfl (nmK rfl (nmK rfl rfl))))))))))))))))))
theorem F18n_ok : SumOk Tryd.prog 18 F18n := by
  refine (W_ok 18).le (fun f args ob K => by unfold F18n; dsimp only; split <;> simp only [bd_none]) ?_
  intro R args ob K r h
  unfold F18n at h; dsimp only at h
  split at h
  · exact (ofn_run K _).trans h
  · cases h
noncomputable def G5 : Sums := sums all [(9, F9k), (14, F14n), (15, F14n), (16, F16a), (17, F16a), (18, F18n)]
theorem all5 : AllOk Tryd.prog [(9, F9k), (14, F14n), (15, F14n), (16, F16a), (17, F16a), (18, F18n)] := ⟨F9k_ok, F14n_of name_run, F14n_of rname_run, F16a_of al_run, F16a_of ral_run, F18n_ok, trivial⟩
def lv5 : Tl := ⟨fun q => match q with | 0 => some [1, 8, 9, 10] | _ => none, []⟩
theorem ln_0 {R : Type} (L : Nat → St → (Exit → St → Option R) → Option R) (K : KV R) (o : Int) (s : ByteArray) : runX Tryd.prog G5 lv5 Tryd.f5 0 L [.dat I64 o, .dat .str s] [] K = bif decide ((100 : Int) < (↑(ByteArray.size s) : Int)) then K (AV.dat T.bool true) [] else bif !decide (nameV o = nameV o) then K (AV.dat T.bool false) [] else bif !alV o == alV o then K (AV.dat T.bool false) [] else bif decide ((1 : Int) ≤ o) then bif !decide (ofnE (chn (nameV o) nm (0 : Int)) = (0 : Int)) == decide (o ≤ (18 : Int)) then K (AV.dat T.bool false) [] else bif decide (ofnE (chn (nameV o) nm (0 : Int)) = (0 : Int)) then bif !decide (chn (nameV o) nm (0 : Int) = o) then K (AV.dat T.bool false) [] else L (0 : Nat) (St.mk [((1 : Nat), AV.dat T.str s), ((8 : Nat), AV.dat (T.int IntKind.i64) (chn s nm (0 : Int))), ((9 : Nat), AV.dat (T.int IntKind.i64) (ofnE (chn s nm (0 : Int)))), ((10 : Nat), AV.dat (T.int IntKind.i64) (1 : Int))] []) (endX Tryd.prog G5 lv5 Tryd.f5 (0 : Nat) L K (0 : Nat)) else L (0 : Nat) (St.mk [((1 : Nat), AV.dat T.str s), ((8 : Nat), AV.dat (T.int IntKind.i64) (chn s nm (0 : Int))), ((9 : Nat), AV.dat (T.int IntKind.i64) (ofnE (chn s nm (0 : Int)))), ((10 : Nat), AV.dat (T.int IntKind.i64) (1 : Int))] []) (endX Tryd.prog G5 lv5 Tryd.f5 (0 : Nat) L K (0 : Nat)) else bif !decide (ofnE (chn (nameV o) nm (0 : Int)) = (0 : Int)) == false then K (AV.dat T.bool false) [] else bif decide (ofnE (chn (nameV o) nm (0 : Int)) = (0 : Int)) then bif !decide (chn (nameV o) nm (0 : Int) = o) then K (AV.dat T.bool false) [] else L (0 : Nat) (St.mk [((1 : Nat), AV.dat T.str s), ((8 : Nat), AV.dat (T.int IntKind.i64) (chn s nm (0 : Int))), ((9 : Nat), AV.dat (T.int IntKind.i64) (ofnE (chn s nm (0 : Int)))), ((10 : Nat), AV.dat (T.int IntKind.i64) (1 : Int))] []) (endX Tryd.prog G5 lv5 Tryd.f5 (0 : Nat) L K (0 : Nat)) else L (0 : Nat) (St.mk [((1 : Nat), AV.dat T.str s), ((8 : Nat), AV.dat (T.int IntKind.i64) (chn s nm (0 : Int))), ((9 : Nat), AV.dat (T.int IntKind.i64) (ofnE (chn s nm (0 : Int)))), ((10 : Nat), AV.dat (T.int IntKind.i64) (1 : Int))] []) (endX Tryd.prog G5 lv5 Tryd.f5 (0 : Nat) L K (0 : Nat)) := by kernel_rfl
theorem ln_s {R : Type} (L L0 : Nat → St → (Exit → St → Option R) → Option R) (K : KV R) (s : ByteArray) (z f i : Int) : stepX Tryd.prog G5 lv5 0 (codeOf Tryd.f5) L 0 ⟨[(1, .dat .str s), (8, .dat I64 z), (9, .dat I64 f), (10, .dat I64 i)], []⟩ (endX Tryd.prog G5 lv5 Tryd.f5 0 L0 K 0) = bif decide (i ≤ (18 : Int)) then bif decide (nameV i = s) then bif decide (f = (0 : Int)) then bif decide (z = i) then K (AV.dat T.bool true) [] else K (AV.dat T.bool false) [] else K (AV.dat T.bool false) [] else L (0 : Nat) (St.mk [((1 : Nat), AV.dat T.str s), ((8 : Nat), AV.dat (T.int IntKind.i64) z), ((9 : Nat), AV.dat (T.int IntKind.i64) f), ((10 : Nat), AV.dat (T.int IntKind.i64) (IntKind.wrap IntKind.i64 (i + (1 : Int))))] []) (endX Tryd.prog G5 lv5 Tryd.f5 (0 : Nat) L0 K (0 : Nat)) else bif decide (f = (2 : Int)) then bif decide (z = (0 : Int)) then K (AV.dat T.bool true) [] else K (AV.dat T.bool false) [] else K (AV.dat T.bool false) [] := by kernel_rfl
end Go.Mx
