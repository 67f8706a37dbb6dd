/- Own work. A part of the proof of a law of this seat: the abstract machine and its soundness. -/
import Derived.Test.YtaejkhkbcnngpaaDoorMb
set_option linter.unusedVariables false
set_option linter.unusedSimpArgs false
set_option linter.unusedSectionVars false
namespace Go.Mx
open Go Go.RowKit Go.Sx
variable [Glb]
section
variable {R S : Type} (f : R → Option S)
theorem bd_cond (b : Bool) (x y : Option R) : (cond b x y).bind f = cond b (x.bind f) (y.bind f) := by cases b <;> rfl
theorem bd_ck {p : Prop} [Decidable p] (x : Option R) : (ck p x).bind f = ck p (x.bind f) := by
  by_cases h : p
  · rw [ck_pos h, ck_pos h]
  · unfold ck; rw [if_neg h, if_neg h]; rfl
theorem bd_none : (none : Option R).bind f = none := rfl
theorem bd_bind {A : Type} (x : Option A) (g : A → Option R) : (x.bind g).bind f = x.bind fun a => (g a).bind f := by cases x <;> rfl
theorem bd_get (v : AV) (p : List Step) (K : AV → Option R) : (getK v p K).bind f = getK v p (fun u => (K u).bind f) := by
  induction v, p, K using getK.induct <;> simp only [getK, bd_bind, bd_none, *, cond_true, cond_false]
theorem bd_set (v : AV) (p : List Step) (u : AV) (K : AV → Option R) : (setK v p u K).bind f = setK v p u (fun u => (K u).bind f) := by
  induction v, p, u, K using setK.induct <;> simp only [setK, bd_bind, bd_none, *, cond_true, cond_false]
  · congr 1; funext x; congr 1; funext y; split <;> rfl
theorem bd_zer (P : Program) (t : TypeId) (K : AV → Option R) : (zerK P t K).bind f = zerK P t (fun u => (K u).bind f) := by
  unfold zerK; split
  · exact bd_cond ..
  · rfl
theorem bd_el (P : Program) (e : TypeId) (K : (t : T) → t.den → Option R) : (elK P e K).bind f = elK P e (fun t z => (K t z).bind f) := by
  unfold elK; split
  · split
    · exact bd_cond ..
    · rfl
  · rfl
theorem bd_elU (P : Program) (e : TypeId) (K : (t : T) → Option R) : (elU P e K).bind f = elU P e (fun t => (K t).bind f) := by
  unfold elU; split
  · exact bd_cond ..
  · rfl
theorem bd_new (e : TypeId) (t : T) (xs : List t.den) (ob : List AO) (K : KV R) : (newRow e t xs ob K).bind f = newRow e t xs ob (fun v o => (K v o).bind f) := rfl
theorem bd_arith (op : BinOp) (k : IntKind) (i j : Int) (ob : List AO) (K : KV R) : (arith op k i j ob K).bind f = arith op k i j ob (fun v o => (K v o).bind f) := by
  cases op <;> first | rfl | exact bd_ck ..
theorem bd_flBin (op : BinOp) (x y : Nat) (ob : List AO) (K : KV R) : (flBin op x y ob K).bind f = flBin op x y ob (fun v o => (K v o).bind f) := by
  cases op <;> rfl
theorem bd_cpBin (op : BinOp) (x y : Nat × Nat) (ob : List AO) (K : KV R) : (cpBin op x y ob K).bind f = cpBin op x y ob (fun v o => (K v o).bind f) := by
  cases op <;> rfl
theorem bd_bin (P : Program) (T' : TypeId) (op : BinOp) (x y : AV) (ob : List AO) (K : KV R) : (bin P T' op x y ob K).bind f = bin P T' op x y ob (fun v o => (K v o).bind f) := by
  unfold bin
  repeat' (first | rfl | split | exact bd_ck .. | exact bd_arith .. | exact bd_flBin .. | exact bd_cpBin .. | (rw [bd_cond]; try (congr 1)))
theorem bd_un (op : UnOp) (x : AV) (ob : List AO) (K : KV R) : (un op x ob K).bind f = un op x ob (fun v o => (K v o).bind f) := by
  unfold un; split <;> first | rfl | exact bd_ck ..
theorem bd_append (P : Program) (e : TypeId) (x y : AV) (ob : List AO) (K : KV R) : (appendA P e x y ob K).bind f = appendA P e x y ob (fun v o => (K v o).bind f) := by
  unfold appendA
  rw [bd_el]; congr 1; funext t z
  repeat' (first | rfl | split | exact bd_ck .. | (rw [bd_cond]; try (congr 1)))
theorem bd_appz (P : Program) (e : TypeId) (x : AV) (n : Int) (ob : List AO) (K : KV R) : (appendZ P e x n ob K).bind f = appendZ P e x n ob (fun v o => (K v o).bind f) := by
  unfold appendZ
  rw [bd_el]; congr 1; funext t z
  repeat' (first | rfl | split | exact bd_ck .. | (rw [bd_cond]; try (congr 1)))
theorem bd_slB (lo hi mx : Option Int) (n : Nat) (K : Nat → Nat → Option R) : (sliceB lo hi mx n K).bind f = sliceB lo hi mx n (fun a b => (K a b).bind f) := by
  unfold sliceB; split <;> first | rfl | exact bd_ck ..
theorem bd_slice (P : Program) (T' : TypeId) (x : AV) (lo hi mx : Option Int) (ob : List AO) (K : KV R) : (sliceA P T' x lo hi mx ob K).bind f = sliceA P T' x lo hi mx ob (fun v o => (K v o).bind f) := by
  unfold sliceA
  repeat' (first | rfl | split | exact bd_ck .. | (rw [bd_cond]; try (congr 1)) | (rw [bd_slB]; try (congr 1; funext a b)))
theorem bd_ixa (P : Program) (T' : TypeId) (x : AV) (i : Int) (ob : List AO) (K : KV R) : (indexAddrA P T' x i ob K).bind f = indexAddrA P T' x i ob (fun v o => (K v o).bind f) := by
  unfold indexAddrA
  repeat' (first | rfl | split | (rw [bd_ck]; try (congr 1)) | (rw [bd_cond]; try (congr 1)) | (rw [bd_bind]; try (congr 1; funext x)))
theorem bd_ix (P : Program) (T' : TypeId) (x : AV) (i : Int) (ob : List AO) (K : KV R) : (indexA P T' x i ob K).bind f = indexA P T' x i ob (fun v o => (K v o).bind f) := by
  unfold indexA
  repeat' (first | rfl | split | (rw [bd_ck]; try (congr 1)) | (rw [bd_cond]; try (congr 1)) | (rw [bd_bind]; try (congr 1; funext x)))
theorem bd_load (P : Program) (t : TypeId) (x : AV) (ob : List AO) (K : KV R) : (loadA P t x ob K).bind f = loadA P t x ob (fun v o => (K v o).bind f) := by
  unfold loadA
  repeat' (first | rfl | split | (rw [bd_ck]; try (congr 1)) | (rw [bd_cond]; try (congr 1)) | (rw [bd_bind]; try (congr 1; funext x)) | (rw [bd_get]; try (congr 1; funext u)))
theorem bd_store (P : Program) (t : TypeId) (x v : AV) (ob : List AO) (K : KV R) : (storeA P t x v ob K).bind f = storeA P t x v ob (fun v o => (K v o).bind f) := by
  unfold storeA
  repeat' (first | rfl | split | (rw [bd_cond]; try (congr 1)) | (rw [bd_bind]; try (congr 1; funext x)) | (rw [bd_set]; try (congr 1; funext u)))
theorem bd_conv (P : Program) (a b : TypeId) (x : AV) (ob : List AO) (K : KV R) : (convA P a b x ob K).bind f = convA P a b x ob (fun v o => (K v o).bind f) := by
  unfold convA
  repeat' (first | rfl | split | (rw [bd_cond]; try (congr 1)) | (rw [bd_ck]; try (congr 1)))
theorem bd_buildF (P : Program) (t : TypeId) (fs : List Field) : ∀ (ps : List (Nat × AV)) (z : AV) (K : AV → Option R), (buildF P t fs ps z K).bind f = buildF P t fs ps z (fun v => (K v).bind f)
  | [], _, _ => rfl
  | (i, v) :: r, z, K => by
    unfold buildF
    repeat' (first | rfl | split | (rw [bd_cond]; try (congr 1)) | (rw [bd_set]; try (congr 1; funext u)) | exact bd_buildF P t fs r _ K)
theorem bd_buildE (P : Program) (e : TypeId) (s : Nat) : ∀ (ps : List (Nat × AV)) (z : AV) (K : AV → Option R), (buildE P e s ps z K).bind f = buildE P e s ps z (fun v => (K v).bind f)
  | [], _, _ => rfl
  | (i, v) :: r, z, K => by
    unfold buildE
    repeat' (first | rfl | split | (rw [bd_cond]; try (congr 1)) | (rw [bd_set]; try (congr 1; funext u)) | exact bd_buildE P e s r _ K)
theorem bd_build (P : Program) (t : TypeId) (ps : List (Nat × AV)) (ob : List AO) (K : KV R) : (buildA P t ps ob K).bind f = buildA P t ps ob (fun v o => (K v o).bind f) := by
  unfold buildA
  rw [bd_zer]; congr 1; funext z
  repeat' (first | rfl | split | (rw [bd_cond]; try (congr 1)) | (rw [bd_buildF]; try (congr 1; funext u)) | (rw [bd_buildE]; try (congr 1; funext u)))
theorem bd_bslice (P : Program) (t : TypeId) (n : Nat) (ps : List (Nat × AV)) (ob : List AO) (K : KV R) : (buildSliceA P t n ps ob K).bind f = buildSliceA P t n ps ob (fun v o => (K v o).bind f) := by
  unfold buildSliceA
  repeat' (first | rfl | split | (rw [bd_cond]; try (congr 1)) | (rw [bd_elU]; try (congr 1; funext t)))
theorem bd_make (P : Program) (t : TypeId) (n : Int) (ob : List AO) (K : KV R) : (makeA P t n ob K).bind f = makeA P t n ob (fun v o => (K v o).bind f) := by
  unfold makeA
  repeat' (first | rfl | split | (rw [bd_ck]; try (congr 1)) | (rw [bd_el]; try (congr 1; funext t z)))
theorem bd_prim (P : Program) (p : Prim) (as : List AV) (ob : List AO) (K : KV R) : (primA P p as ob K).bind f = primA P p as ob (fun v o => (K v o).bind f) := by
  unfold primA primA.textA
  repeat' (first | rfl | split | (rw [bd_ck]; try (congr 1)) )
theorem bd_mkmap (P : Program) (t : TypeId) (ob : List AO) (K : KV R) : (makeMapA P t ob K).bind f = makeMapA P t ob (fun v o => (K v o).bind f) := by
  unfold makeMapA
  repeat' (first | rfl | split | (rw [bd_cond]; try (congr 1)))
theorem bd_lookup (P : Program) (t : TypeId) (m k : AV) (ok : Bool) (ob : List AO) (K : KV R) : (lookupA P t m k ok ob K).bind f = lookupA P t m k ok ob (fun v o => (K v o).bind f) := by
  unfold lookupA
  repeat' (first | rfl | split | (rw [bd_cond]; try (congr 1)))
theorem bd_mapset (P : Program) (t : TypeId) (m k v : AV) (ob : List AO) (K : KV R) : (mapSetA P t m k v ob K).bind f = mapSetA P t m k v ob (fun v o => (K v o).bind f) := by
  unfold mapSetA
  repeat' (first | rfl | split | (rw [bd_cond]; try (congr 1)))
theorem bd_mapdel (P : Program) (t : TypeId) (m k : AV) (ob : List AO) (K : KV R) : (mapDelA P t m k ob K).bind f = mapDelA P t m k ob (fun v o => (K v o).bind f) := by
  unfold mapDelA
  repeat' (first | rfl | split | (rw [bd_cond]; try (congr 1)))
theorem bd_lenM (x : AV) (ob : List AO) (K : KV R) : (lenMA x ob K).bind f = lenMA x ob (fun v o => (K v o).bind f) := by
  unfold lenMA
  repeat' (first | rfl | split)
theorem bd_len (P : Program) (t : TypeId) (x : AV) (ob : List AO) (K : KV R) : (lenA P t x ob K).bind f = lenA P t x ob (fun v o => (K v o).bind f) := by
  unfold lenA
  repeat' (first | rfl | exact bd_lenM .. | split | (rw [bd_cond]; try (congr 1)) )
theorem bd_builtin (P : Program) (b : Builtin) (Ts : List TypeId) (as : List AV) (ob : List AO) (K : KV R) : (builtinA P b Ts as ob K).bind f = builtinA P b Ts as ob (fun v o => (K v o).bind f) := by
  unfold builtinA
  repeat' (first | rfl | exact bd_mapdel .. | split | exact bd_len .. | exact bd_append .. | exact bd_appz .. | (rw [bd_cond]; try (congr 1)) )
end
def SumsNat (Γ : Sums) : Prop := ∀ {R S : Type} (f : R → Option S) (g : FuncId) (as : List AV) (ob : List AO) (K : KV R), (Γ.call g as ob K).bind f = Γ.call g as ob (fun v o => (K v o).bind f)
section
variable {R S : Type} (f : R → Option S)
theorem bd_call {Γ : Sums} (hΓ : SumsNat Γ) (g : FuncId) (as : List AV) (ob : List AO) (K : KV R) : (callA Γ g as ob K).bind f = callA Γ g as ob (fun v o => (K v o).bind f) := by
  unfold callA
  repeat' (first | rfl | split | (rw [bd_cond]; try (congr 1)) | (rw [hΓ]; try (congr 1; funext v o)) | dsimp only)
theorem bd_op (P : Program) {Γ : Sums} (hΓ : SumsNat Γ) (o : Oper) (s : Slots) (ob : List AO) (K : KV R) : (opA P Γ o s ob K).bind f = opA P Γ o s ob (fun v o => (K v o).bind f) := by
  unfold opA
  repeat' (first | rfl | exact bd_mkmap .. | exact bd_lookup .. | exact bd_mapset .. | split | (rw [bd_cond]; try (congr 1)) | (rw [bd_zer]; try (congr 1; funext v)) | exact bd_build .. | exact bd_bslice .. | exact bd_load .. | exact bd_store .. | exact bd_bin .. | exact bd_un .. | exact bd_conv .. | (rw [bd_ck]; try (congr 1)) | exact bd_make .. | exact bd_slice .. | exact bd_ixa .. | exact bd_ix .. | (rw [bd_get]; try (congr 1; funext v)) | exact bd_prim .. | exact bd_call f hΓ .. | exact bd_builtin ..)
theorem bd_pair (P : Program) {Γ : Sums} (hΓ : SumsNat Γ) {o : Oper} {s : Slots} {ob : List AO} {K : KV R} {r : R} (h : opA P Γ o s ob K = some r) : ∃ v X, opA (R := AV × List AO) P Γ o s ob (fun v ob => some (v, ob)) = some (v, X) ∧ K v X = some r := by
  have e := bd_op (fun p : AV × List AO => K p.1 p.2) P hΓ o s ob (fun v ob => some (v, ob))
  rw [show (fun v o => ((fun v ob => some (v, ob)) v o : Option (AV × List AO)).bind fun p => K p.1 p.2) = K from rfl, h] at e
  obtain ⟨⟨v, X⟩, h1, h2⟩ := Option.bind_eq_some_iff.1 e
  exact ⟨v, X, h1, h2⟩
theorem bd_ops (P : Program) {Γ : Sums} (hΓ : SumsNat Γ) (all : List Oper) (dr : Bool) : ∀ (os : List Oper) (i : Nat) (s : St) (l : List Log) (K : St → List Log → Option R), (opsA P Γ all dr os i s l K).bind f = opsA P Γ all dr os i s l (fun s l => (K s l).bind f)
  | [], _, _, _, _ => rfl
  | o :: os, i, s, l, K => by
    unfold opsA
    repeat' (first | rfl | split | (rw [bd_cond]; try (congr 1)) | (rw [bd_op _ P hΓ]; try (congr 1; funext v o)) | exact bd_ops P hΓ all dr os _ _ _ K | dsimp only)
def LamNat (Λ : {R : Type} → Nat → St → (Exit → St → Option R) → Option R) : Prop := ∀ {R S : Type} (f : R → Option S) (n : Nat) (s : St) (K : Exit → St → Option R), (Λ n s K).bind f = Λ n s (fun e s => (K e s).bind f)
theorem bd_run (P : Program) {Γ : Sums} (hΓ : SumsNat Γ) {Λ : {R : Type} → Nat → St → (Exit → St → Option R) → Option R} (hΛ : LamNat Λ) : ∀ (c : Code) (n : Nat) (s : St) (K : Exit → St → Option R), (runA P Γ Λ n c s K).bind f = runA P Γ Λ n c s (fun e s => (K e s).bind f) := by
  intro c
  induction c with
  | skip => intro n s K; rfl
  | label l => intro n s K; rfl
  | exit i => intro n s K; rfl
  | goto l => intro n s K; rfl
  | ret => intro n s K; rfl
  | seq x y hx hy => intro n s K; unfold runA; rw [hx]; congr 1; funext e s; cases e <;> first | rfl | exact hy _ _ _
  | cond c x y hx hy =>
    intro n s K
    unfold runA
    repeat' (first | rfl | split | (rw [bd_cond, hx, hy]; done) | dsimp only)
  | block i c h => intro n s K; unfold runA; rw [h]; congr 1; funext e s; cases e <;> first | rfl | exact bd_cond ..
  | loop c h => intro n s K; exact hΛ f n s K
  | scope c h => intro n s K; exact hΛ f n s K
  | region id ops dr => intro n s K; unfold runA; rw [bd_ops f P hΓ]; congr 1; funext s l; exact bd_cond ..
  | _ => intros; rfl
theorem bd_tell (m : Nat) (live : List Nat) (s : St) (K : St → Option R) : (tellA m live s K).bind f = tellA m live s (fun s => (K s).bind f) := by
  unfold tellA
  repeat' (first | rfl | split | (rw [bd_cond]; try (congr 1)) | dsimp only)
theorem bd_loop (m : Nat) (live : List Nat) {body : {R : Type} → St → (Exit → St → Option R) → Option R} (hb : ∀ {R S : Type} (f : R → Option S) (s : St) (K : Exit → St → Option R), (body s K).bind f = body s (fun e s => (K e s).bind f)) : ∀ (k : Nat) (s : St) (K : Exit → St → Option R), (loopA m live body k s K).bind f = loopA m live body k s (fun e s => (K e s).bind f)
  | 0, _, _ => rfl
  | k + 1, s, K => by
    unfold loopA
    rw [bd_tell]; congr 1; funext s
    rw [hb]; congr 1; funext e s
    cases e <;> first | rfl | exact bd_loop m live hb k s K
theorem bd_scope (m : Nat) (lv : Nat → Option (List Nat)) (find : Nat → Option (Nat × Code)) {run : {R : Type} → Nat → Code → St → (Exit → St → Option R) → Option R} (hr : ∀ {R S : Type} (f : R → Option S) (n : Nat) (c : Code) (s : St) (K : Exit → St → Option R), (run n c s K).bind f = run n c s (fun e s => (K e s).bind f)) : ∀ (k n : Nat) (c : Code) (s : St) (K : Exit → St → Option R), (scopeA m lv find run k n c s K).bind f = scopeA m lv find run k n c s (fun e s => (K e s).bind f)
  | 0, _, _, _, _ => rfl
  | k + 1, n, c, s, K => by
    unfold scopeA
    rw [hr]; congr 1; funext e s
    cases e with
    | goto l =>
      dsimp only
      split
      · rw [bd_tell]; congr 1; funext s; exact bd_scope m lv find hr k _ _ s K
      · rfl
    | _ => rfl
theorem bd_lam (P : Program) {Γ : Sums} (hΓ : SumsNat Γ) (lv : Nat → Option (List Nat)) (k m : Nat) (c : Code) : ∀ d, LamNat (fun n s K => lamA P Γ lv k m c d n s K)
  | 0 => fun _ _ _ _ => rfl
  | d + 1 => by
    intro f n s K
    dsimp only
    unfold lamA
    split
    · exact bd_loop f m _ (body := fun s K => runA P Γ (fun q s K => lamA P Γ lv k m c d q s K) _ _ s K) (fun f s K => bd_run f P hΓ (Λ := fun q s K => lamA P Γ lv k m c d q s K) (bd_lam P hΓ lv k m c d) _ _ s K) k s K
    · exact bd_scope f m lv _ (run := fun n c' s K => runA P Γ (fun q s K => lamA P Γ lv k m c d q s K) n c' s K) (fun f n c' s K => bd_run f P hΓ (Λ := fun q s K => lamA P Γ lv k m c d q s K) (bd_lam P hΓ lv k m c d) _ _ s K) k _ _ s K
    · rfl
theorem bd_res (P : Program) (s : St) : ∀ (rs : List ResultVar) (K : List AV → Option R), (resA P s rs K).bind f = resA P s rs (fun l => (K l).bind f)
  | [], _ => rfl
  | .tmp t :: r, K => by
    unfold resA
    split
    · exact bd_res P s r _
    · rfl
  | .cell p t :: r, K => by
    unfold resA
    repeat' (first | rfl | split | (rw [bd_cond]; try (congr 1)) | exact bd_res P s r _)
theorem bd_ret (P : Program) (fn : Func) (m : Nat) (s : St) (K : KV R) : (retA P fn m s K).bind f = retA P fn m s (fun v o => (K v o).bind f) := by
  unfold retA
  rw [bd_res]; congr 1; funext l
  rw [bd_cond]; congr 1
  rw [bd_tell]; congr 1; funext s
  repeat' (first | rfl | split | (rw [bd_cond]; try (congr 1)))
theorem bd_fun (P : Program) {Γ : Sums} (hΓ : SumsNat Γ) {Λ : {R : Type} → Nat → St → (Exit → St → Option R) → Option R} (hΛ : LamNat Λ) (fn : Func) (args : List AV) (ob : List AO) (K : KV R) : (funA P Γ Λ fn args ob K).bind f = funA P Γ Λ fn args ob (fun v o => (K v o).bind f) := by
  unfold funA
  split
  · rw [bd_cond]; congr 1
    rw [bd_run f P hΓ hΛ]; congr 1; funext e s
    cases e with
    | ret => exact bd_ret ..
    | normal =>
      dsimp only
      split
      · exact bd_ret ..
      · rfl
    | _ => rfl
  · rfl
theorem wide_nat (P : Program) (F : FuncId → Option Prim) (Wr : FuncId → List Nat) (k : Nat) : ∀ d, SumsNat (wideA P F Wr k d)
  | 0 => fun _ _ _ _ _ => rfl
  | d + 1 => by
    intro f g as ob K
    show (match P.funcs[g]? with
      | some fn => (match fn.body with
        | some c => funA P (wideA P F Wr k d) (lamA P (wideA P F Wr k d) (fun _ => none) k ob.length c 20) fn as ob K
        | none => none)
      | none => none).bind f = (match P.funcs[g]? with
      | some fn => (match fn.body with
        | some c => funA P (wideA P F Wr k d) (lamA P (wideA P F Wr k d) (fun _ => none) k ob.length c 20) fn as ob (fun v o => (K v o).bind f)
        | none => none)
      | none => none)
    split
    · split
      · exact bd_fun f P (wide_nat P F Wr k d) (Λ := fun n s K => lamA P (wideA P F Wr k d) (fun _ => none) k ob.length _ 20 n s K) (bd_lam P (wide_nat P F Wr k d) (fun _ => none) k ob.length _ 20) _ as ob K
      · rfl
    · rfl
end
end Go.Mx
namespace Go.Mx
open Go Go.RowKit Go.Sx
variable [Glb]
inductive A2 {α β : Type} (R : α → β → Prop) : List α → List β → Prop where
  | nil : A2 R [] []
  | cons {x : α} {y : β} {xs : List α} {ys : List β} : R x y → A2 R xs ys → A2 R (x :: xs) (y :: ys)
def Kd.unit : Kd Unit where
  sz := 0
  K := fun _ _ _ cs => cs = []
  len := fun h => by rw [h]; rfl
  one := fun h u hu => by rw [h] at hu; cases hu
  step := fun h _ _ => h
  mono := fun h _ => h
def SameF (b d : Nat) : Prop := b = d ∨ (nanB b = true ∧ nanB d = true)
def Kd.flt : Kd Nat where
  sz := 1
  K := fun _ _ d cs => ∃ b, cs = [.float .f64 b] ∧ SameF b d
  len := fun ⟨_, e, _⟩ => by rw [e]; rfl
  one := fun ⟨_, e, _⟩ u hu => by rw [e] at hu; simp at hu; rw [hu]; rfl
  step := fun h _ _ => h
  mono := fun h _ => h
def Kd.cpx : Kd (Nat × Nat) where
  sz := 1
  K := fun _ _ d cs => ∃ a b, cs = [.complex .f64 a b] ∧ SameF a d.1 ∧ SameF b d.2
  len := fun ⟨_, _, e, _⟩ => by rw [e]; rfl
  one := fun ⟨_, _, e, _⟩ u hu => by rw [e] at hu; simp at hu; rw [hu]; rfl
  step := fun h _ _ => h
  mono := fun h _ => h
def T.kd : (t : T) → Kd t.den
  | .int k => Kd.int k
  | .bool => Kd.bool
  | .str => Kd.str
  | .unit => Kd.unit
  | .flt => Kd.flt
  | .cpx => Kd.cpx
  | .fn => Kd.scalar (fun f : Nat => Value.func (.func f) #[] #[]) (fun _ => rfl)
  | .one t => t.kd
  | .pair a b => Kd.pair a.kd b.kd
  | .arr n t => Kd.arr n t.kd
  | .sl t => Kd.sl t.kd
theorem T.kd_sz : (t : T) → t.kd.sz = t.sz
  | .int _ | .bool | .str | .unit | .flt | .cpx | .fn | .sl _ => rfl
  | .one t => T.kd_sz t
  | .pair a b => by show a.kd.sz + b.kd.sz = a.sz + b.sz; rw [T.kd_sz a, T.kd_sz b]
  | .arr n t => by show n * t.kd.sz = n * t.sz; rw [T.kd_sz t]
structure Geo where
  a : Option Addr
  n : Nat
  c : Nat
  s : Nat
structure Cx where
  A : Nat → Prop
  h : Array Obj
  g : Nat → Geo
  m : Nat
theorem offs_append : ∀ (p q : List Step), offs (p ++ q) = offs p + offs q
  | [], q => (Nat.zero_add _).symm
  | .fst :: p, q => offs_append p q
  | .snd k :: p, q => by show k + offs (p ++ q) = k + offs p + offs q; rw [offs_append p q, Nat.add_assoc]
  | .one :: p, q => offs_append p q
  | .idx i s :: p, q => by show i * s + offs (p ++ q) = i * s + offs p + offs q; rw [offs_append p q, Nat.add_assoc]
def form (g : Bool) (cs : List Value) : Value := if g then .agg cs.toArray else cs.headD undef
def Lies (h : Array Obj) (b o : Nat) (cs : List Value) : Prop := ∃ C T fr, h[b]? = some (.cells C T fr) ∧ ∀ j v, cs[j]? = some v → C[o + j]? = some v
mutual
def CR (x : Cx) : AV → List Value → Prop
  | .dat t d, cs => t.kd.K x.A x.h d cs
  | .pr a b, cs => ∃ c1 c2, cs = c1 ++ c2 ∧ CR x a c1 ∧ CR x b c2
  | .one a, cs => CR x a cs
  | .ptr i p, cs => i < x.m ∧ ∃ b, (x.g i).a = some ⟨b, 0, none⟩ ∧ cs = [.pointer (some ⟨b, offs p, none⟩)]
  | .nilp, cs => cs = [.pointer none]
  | .rdp t d, cs => ∃ b o c, cs = [.pointer (some ⟨b, o, none⟩)] ∧ ¬ x.A b ∧ Lies x.h b o c ∧ t.kd.K x.A x.h d c
  | .view i, cs => i < x.m ∧ cs = [.slice (x.g i).a (x.g i).n (x.g i).c]
  | .pre i n, cs => i < x.m ∧ n ≤ (x.g i).n ∧ cs = [.slice (x.g i).a n (x.g i).c]
  | .tgt i n, cs => i < x.m ∧ n ≤ (x.g i).n ∧ cs = [.slice (x.g i).a n n]
  | .win i o n, cs => i < x.m ∧ o + n ≤ (x.g i).n ∧ ∃ q c, n ≤ c ∧ c ≤ maxLen ∧ (n ≠ 0 → ∃ b, (x.g i).a = some ⟨b, 0, none⟩ ∧ q = some ⟨b, o * (x.g i).s, none⟩) ∧ cs = [.slice q n c]
  | .nils, cs => cs = [.slice none 0 0]
  | .cut _, cs => ∃ q, cs = [.slice q 0 0]
  | .nilw _, cs => ∃ c, c ≤ maxLen ∧ cs = [.slice none 0 c]
  | .sln t d, cs => ∃ p c, cs = [.slice (some p) d.length c] ∧ Raw x.A t.kd x.h (some p) c d
  | .mp i, cs => i < x.m ∧ ∃ b, (x.g i).a = some ⟨b, 0, none⟩ ∧ cs = [.map (some b)]
  | .nilm, cs => cs = [.map none]
  | .fn f fs ks, cs => ∃ l m, cs = [.func (.func f) l.toArray m.toArray] ∧ VRs x fs l ∧ VRs x ks m
  | .nilf, cs => cs = [.nilFunc]
  | .iface t v, cs => ∃ c, cs = [.iface t (form v.isAgg c)] ∧ CR x v c ∧ c.length = v.sz
  | .nilI, cs => cs = [.nilIface]
  | .tup _, _ => False
  | .undef, _ => False
def VRs (x : Cx) : List AV → List Value → Prop
  | [], l => l = []
  | v :: r, l => ∃ c l', l = form v.isAgg c :: l' ∧ CR x v c ∧ c.length = v.sz ∧ VRs x r l'
end
theorem cr_len {x : Cx} : ∀ {v : AV} {cs : List Value}, CR x v cs → cs.length = v.sz := by
  intro v
  induction v using AV.rec (motive_2 := fun _ => True) with
  | dat t d => intro cs h; rw [CR] at h; rw [AV.sz, ← T.kd_sz]; exact t.kd.len h
  | pr a b ha hb => intro cs h; rw [CR] at h; obtain ⟨c1, c2, e, h1, h2⟩ := h; rw [e, List.length_append, ha h1, hb h2]; rfl
  | one a ha => intro cs h; rw [CR] at h; exact ha h
  | ptr i p => intro cs h; rw [CR] at h; obtain ⟨_, b, _, e⟩ := h; rw [e]; rfl
  | nilp => intro cs h; rw [CR] at h; rw [h]; rfl
  | rdp t d => intro cs h; rw [CR] at h; obtain ⟨b, o, c, e, _⟩ := h; rw [e]; rfl
  | view i => intro cs h; rw [CR] at h; rw [h.2]; rfl
  | pre i n => intro cs h; rw [CR] at h; rw [h.2.2]; rfl
  | tgt i n => intro cs h; rw [CR] at h; rw [h.2.2]; rfl
  | win i o n => intro cs h; rw [CR] at h; obtain ⟨_, _, q, c, _, _, _, e⟩ := h; rw [e]; rfl
  | nils => intro cs h; rw [CR] at h; rw [h]; rfl
  | cut t => intro cs h; rw [CR] at h; obtain ⟨q, e⟩ := h; rw [e]; rfl
  | nilw t => intro cs h; rw [CR] at h; obtain ⟨q, _, e⟩ := h; rw [e]; rfl
  | sln t d => intro cs h; rw [CR] at h; obtain ⟨p, c, e, _⟩ := h; rw [e]; rfl
  | mp i => intro cs h; rw [CR] at h; obtain ⟨_, b, _, e⟩ := h; rw [e]; rfl
  | nilm => intro cs h; rw [CR] at h; rw [h]; rfl
  | fn f fs ks _ _ => intro cs h; rw [CR] at h; obtain ⟨l, m, e, _⟩ := h; rw [e]; rfl
  | nilf => intro cs h; rw [CR] at h; rw [h]; rfl
  | iface t v _ => intro cs h; rw [CR] at h; obtain ⟨c, e, _⟩ := h; rw [e]; rfl
  | nilI => intro cs h; rw [CR] at h; rw [h]; rfl
  | tup l _ => intro cs h; rw [CR] at h; exact h.elim
  | undef => intro cs h; rw [CR] at h; exact h.elim
  | nil => trivial
  | cons _ _ _ _ => trivial
def VR (x : Cx) (v : AV) (u : Value) : Prop :=
  match v with
  | .tup l => ∃ m, u = .tuple m.toArray ∧ VRs x l m
  | .undef => u = undef
  | v => ∃ c, u = form v.isAgg c ∧ CR x v c ∧ c.length = v.sz
structure Cx.Le (x y : Cx) : Prop where
  size : x.h.size ≤ y.h.size
  blk : ∀ k, k < x.h.size → ¬ x.A k → y.h[k]? = x.h[k]?
  new : ∀ k, k < x.h.size → y.A k → x.A k
  geo : ∀ i, i < x.m → y.g i = x.g i
  m : x.m ≤ y.m
theorem Cx.Le.refl (x : Cx) : x.Le x := ⟨Nat.le_refl _, fun _ _ _ => rfl, fun _ _ h => h, fun _ _ => rfl, Nat.le_refl _⟩
theorem Cx.Le.K {x y : Cx} (h : x.Le y) {α : Type} {d : Kd α} {z : α} {cs : List Value} (r : d.K x.A x.h z cs) : d.K y.A y.h z cs :=
  d.mono (d.step (d.mono r (A' := fun k => x.A k ∨ y.A k) (fun k hk hv => hv.elim id (h.new k hk))) h.size (fun k hk hn => h.blk k hk (fun e => hn (.inl e)))) (fun _ _ hv => .inr hv)
theorem lies_lt {h : Array Obj} {b o : Nat} {cs : List Value} (l : Lies h b o cs) : b < h.size := by
  obtain ⟨C, T, fr, e, _⟩ := l
  exact lt_of_get e
mutual
theorem CR.up {x y : Cx} (h : x.Le y) : ∀ (v : AV) (cs : List Value), CR x v cs → CR y v cs
  | .dat t d, cs, r => by rw [CR] at r ⊢; exact h.K r
  | .pr a b, cs, r => by
    rw [CR] at r ⊢
    obtain ⟨c1, c2, e, h1, h2⟩ := r
    exact ⟨c1, c2, e, CR.up h a c1 h1, CR.up h b c2 h2⟩
  | .one a, cs, r => by rw [CR] at r ⊢; exact CR.up h a cs r
  | .ptr i p, cs, r => by
    rw [CR] at r ⊢
    obtain ⟨hi, b, e, hc⟩ := r
    exact ⟨Nat.lt_of_lt_of_le hi h.m, b, by rw [h.geo i hi]; exact e, hc⟩
  | .nilp, cs, r => by rw [CR] at r ⊢; exact r
  | .rdp t d, cs, r => by
    rw [CR] at r ⊢
    obtain ⟨b, o, c, e, hA, hl, hK⟩ := r
    have hb := lies_lt hl
    refine ⟨b, o, c, e, fun hA' => hA (h.new b hb hA'), ?_, h.K hK⟩
    obtain ⟨C, T, fr, e1, e2⟩ := hl
    exact ⟨C, T, fr, by rw [h.blk b hb hA]; exact e1, e2⟩
  | .view i, cs, r => by rw [CR] at r ⊢; rw [h.geo i r.1]; exact ⟨Nat.lt_of_lt_of_le r.1 h.m, r.2⟩
  | .pre i n, cs, r => by rw [CR] at r ⊢; rw [h.geo i r.1]; exact ⟨Nat.lt_of_lt_of_le r.1 h.m, r.2⟩
  | .tgt i n, cs, r => by rw [CR] at r ⊢; rw [h.geo i r.1]; exact ⟨Nat.lt_of_lt_of_le r.1 h.m, r.2⟩
  | .win i o n, cs, r => by rw [CR] at r ⊢; rw [h.geo i r.1]; exact ⟨Nat.lt_of_lt_of_le r.1 h.m, r.2⟩
  | .nils, cs, r => by rw [CR] at r ⊢; exact r
  | .cut t, cs, r => by rw [CR] at r ⊢; exact r
  | .nilw t, cs, r => by rw [CR] at r ⊢; exact r
  | .sln t d, cs, r => by
    rw [CR] at r ⊢
    obtain ⟨p, c, e, h1⟩ := r
    obtain ⟨_, _, e2, h2⟩ := h.K (d := (T.sl t).kd) (z := d) (cs := [.slice (some p) d.length c]) ⟨some p, c, rfl, h1⟩
    obtain ⟨e3, e4⟩ : some p = _ ∧ c = _ := by simpa using e2
    subst e4
    exact ⟨p, c, e, by rw [e3]; exact h2⟩
  | .mp i, cs, r => by rw [CR] at r ⊢; rw [h.geo i r.1]; exact ⟨Nat.lt_of_lt_of_le r.1 h.m, r.2⟩
  | .nilm, cs, r => by rw [CR] at r ⊢; exact r
  | .fn f fs ks, cs, r => by
    rw [CR] at r ⊢
    obtain ⟨l, m, e, h1, h2⟩ := r
    exact ⟨l, m, e, VRs.up h fs l h1, VRs.up h ks m h2⟩
  | .nilf, cs, r => by rw [CR] at r ⊢; exact r
  | .iface t v, cs, r => by
    rw [CR] at r ⊢
    obtain ⟨c, e, h1, h2⟩ := r
    exact ⟨c, e, CR.up h v c h1, h2⟩
  | .nilI, cs, r => by rw [CR] at r ⊢; exact r
  | .tup l, cs, r => by rw [CR] at r; exact r.elim
  | .undef, cs, r => by rw [CR] at r; exact r.elim
theorem VRs.up {x y : Cx} (h : x.Le y) : ∀ (l : List AV) (m : List Value), VRs x l m → VRs y l m
  | [], m, r => by rw [VRs] at r ⊢; exact r
  | v :: l, m, r => by
    rw [VRs] at r ⊢
    obtain ⟨c, l', e, h1, h2, h3⟩ := r
    exact ⟨c, l', e, CR.up h v c h1, h2, VRs.up h l l' h3⟩
end
theorem VR.up {x y : Cx} (h : x.Le y) {v : AV} {u : Value} (r : VR x v u) : VR y v u := by
  cases v with
  | tup l => obtain ⟨m, e, h1⟩ := r; exact ⟨m, e, VRs.up h l m h1⟩
  | undef => exact r
  | _ => obtain ⟨c, e, h1, h2⟩ := r; exact ⟨c, e, CR.up h _ c h1, h2⟩
end Go.Mx
namespace Go.Mx
open Go Go.RowKit Go.Sx
variable [Glb]
def AO.own : AO → Bool
  | .box _ _ w => w
  | .row _ _ _ .own => true
  | .itr _ _ w => w
  | .map _ _ _ w => w
  | _ => false
def OwnB (S : List AO) (ρ : Nat → Geo) (k : Nat) : Prop := ∃ i o p, S[i]? = some o ∧ o.own = true ∧ (ρ i).a = some p ∧ p.block = k
def cx (W : Nat → Prop) (S : List AO) (ρ : Nat → Geo) (w : World) : Cx := ⟨fun k => W k ∨ OwnB S ρ k, w.heap, ρ, S.length⟩
def RowR {α : Type} (x : Cx) (O : Nat → Prop) (d : Kd α) (a : Option Addr) (c : Nat) (xs : List α) : Prop :=
  xs.length ≤ c ∧ c ≤ maxLen ∧ ∃ cells, Els (d.K x.A x.h) xs cells ∧ (xs ≠ [] → ∃ b, a = some ⟨b, 0, none⟩ ∧ ¬ O b ∧ Lies x.h b 0 cells)
def Ent (x : Cx) (kt vt : T) (p : kt.den × vt.den) (e : MapEntry) : Prop := ∃ c1 c2, e.key = form kt.aggB c1 ∧ kt.kd.K x.A x.h p.1 c1 ∧ e.val = form vt.aggB c2 ∧ vt.kd.K x.A x.h p.2 c2
def Mp (x : Cx) (w : World) (b : Nat) (kt vt : T) (es : List (kt.den × vt.den)) : Prop := ∃ arr clk, w.heap[b]? = some (.map arr clk) ∧ A2 (Ent x kt vt) es arr.toList
def OR (x : Cx) (O : Nat → Prop) (w : World) (g : Geo) : AO → Prop
  | .gone => True
  | .box ty v m => ∃ b cs, g.a = some ⟨b, 0, none⟩ ∧ CR x v cs ∧ cs.length = v.sz ∧ Bx w b ty cs ∧ (m = false → ¬ O b)
  | .row e t xs .own => g.n = xs.length ∧ g.s = t.sz ∧ Ow x.A w e t.kd g.a g.c xs
  | .row _ t xs .ro => g.n = xs.length ∧ g.s = t.sz ∧ RowR x O t.kd g.a g.c xs
  | .row _ t xs .fz => g.n = xs.length ∧ g.s = t.sz ∧ RowR x x.A t.kd g.a g.c xs
  | .itr s p m => ∃ b, g.a = some ⟨b, 0, none⟩ ∧ It w b s p ∧ (m = false → ¬ O b)
  | .map kt vt es m => ∃ b, g.a = some ⟨b, 0, none⟩ ∧ Mp x w b kt vt es ∧ (m = false → ¬ O b)
def GlR (x : Cx) : Prop := ∀ g z, Glb.gl g = some z → VR x (.rdp z.1 z.2) (.pointer (some ⟨g, 0, none⟩)) ∧ ¬ x.A g ∧ ∃ C T fr, x.h[g]? = some (.cells C T fr) ∧ C.size = z.1.sz
theorem GlR.up {x y : Cx} (h : GlR x) (le : x.Le y) : GlR y := fun g z hz => by
  obtain ⟨h1, h2, C, T, fr, h3, h4⟩ := h g z hz
  have hl : g < x.h.size := (Array.getElem?_eq_some_iff.1 h3).1
  exact ⟨h1.up le, fun hy => h2 (le.new g hl hy), C, T, fr, by rw [le.blk g hl h2]; exact h3, h4⟩
theorem GlR.sub {x y : Cx} (h : GlR x) (hA : ∀ k, y.A k → x.A k) (hh : y.h = x.h) : GlR y := fun g z hz => by
  obtain ⟨⟨c, e, hc, hl⟩, h2, C, T, fr, h3, h4⟩ := h g z hz
  rw [CR] at hc
  obtain ⟨b, o, c', e1, h1, k2, k3⟩ := hc
  exact ⟨⟨c, e, by rw [CR]; exact ⟨b, o, c', e1, fun hk => h1 (hA b hk), by rw [hh]; exact k2, by rw [hh]; exact z.1.kd.mono k3 (fun k _ hk => hA k hk)⟩, hl⟩, fun hk => h2 (hA g hk), C, T, fr, by rw [hh]; exact h3, h4⟩
structure Rel (W : Nat → Prop) (S : List AO) (ρ : Nat → Geo) (w : World) : Prop where
  ob : ∀ i o, S[i]? = some o → OR (cx W S ρ w) (OwnB S ρ) w (ρ i) o
  dj : ∀ i j o o' p q, i ≠ j → S[i]? = some o → S[j]? = some o' → o.own = true → o'.own = true → (ρ i).a = some p → (ρ j).a = some q → p.block ≠ q.block
  wl : ∀ k, W k → k < w.heap.size
  wd : ∀ k, OwnB S ρ k → ¬ W k
  gl : GlR (cx W S ρ w)
structure Aft (W : Nat → Prop) (S : List AO) (ρ : Nat → Geo) (w : World) (S' : List AO) (ρ' : Nat → Geo) (w' : World) : Prop where
  rel : Rel W S' ρ' w'
  fr : Fr w w' (OwnB S ρ)
  nw : ∀ k, OwnB S' ρ' k → OwnB S ρ k ∨ w.heap.size ≤ k
  ag : ∀ i, i < S.length → ρ' i = ρ i
  m : S.length ≤ S'.length
section
variable {W : Nat → Prop} {S S' S'' : List AO} {ρ ρ' ρ'' : Nat → Geo} {w w' w'' : World}
theorem Aft.refl (h : Rel W S ρ w) : Aft W S ρ w S ρ w := ⟨h, Fr.refl _ _, fun _ h => .inl h, fun _ _ => rfl, Nat.le_refl _⟩
theorem Aft.trans (h : Aft W S ρ w S' ρ' w') (h' : Aft W S' ρ' w' S'' ρ'' w'') : Aft W S ρ w S'' ρ'' w'' where
  rel := h'.rel
  fr := h.fr.step h'.fr (fun k hk hO => (h.nw k hO).elim id (fun h2 => absurd h2 (Nat.not_le_of_lt hk)))
  nw := fun k hk => (h'.nw k hk).elim (h.nw k) (fun h2 => .inr (Nat.le_trans h.fr.size h2))
  ag := fun i hi => (h'.ag i (Nat.lt_of_lt_of_le hi h.m)).trans (h.ag i hi)
  m := Nat.le_trans h.m h'.m
theorem Aft.le (h : Aft W S ρ w S' ρ' w') : (cx W S ρ w).Le (cx W S' ρ' w') where
  size := h.fr.size
  blk := fun k hk hn => h.fr.blk k hk (fun hO => hn (.inr hO))
  new := fun k hk hv => hv.elim .inl (fun hO => (h.nw k hO).elim .inr (fun h2 => absurd h2 (Nat.not_le_of_lt hk)))
  geo := h.ag
  m := h.m
theorem OwnB.lt (h : Rel W S ρ w) {k : Nat} (hk : OwnB S ρ k) : k < w.heap.size := by
  obtain ⟨i, o, p, hi, ho, ha, rfl⟩ := hk
  have r := h.ob i o hi
  match o, ho, r with
  | .box ty v m, _, ⟨b, cs, e, _, _, hb, _⟩ =>
    rw [e] at ha
    obtain rfl := Option.some.inj ha
    exact hb.lt
  | .row e t xs .own, _, ⟨_, _, r⟩ => exact r.lt p ha
  | .itr s q m, _, ⟨b, e, hI, _⟩ =>
    rw [e] at ha
    obtain rfl := Option.some.inj ha
    exact lt_of_get hI
  | .map kt vt es m, _, ⟨b, e, ⟨arr, clk, hI, _⟩, _⟩ =>
    rw [e] at ha
    obtain rfl := Option.some.inj ha
    exact lt_of_get hI
theorem A2.imp {α β : Type} {R R' : α → β → Prop} (hi : ∀ x y, R x y → R' x y) : ∀ {l : List α} {m : List β}, A2 R l m → A2 R' l m
  | _, _, .nil => .nil
  | _, _, .cons h1 h2 => .cons (hi _ _ h1) (A2.imp hi h2)
theorem Mp.keep {x y : Cx} {w w' : World} {b : Nat} {kt vt : T} {es : List (kt.den × vt.den)} {O1 : Nat → Prop} (h : Mp x w b kt vt es) (le : x.Le y) (hf : Fr w w' O1) (hn : ¬ O1 b) : Mp y w' b kt vt es := by
  obtain ⟨arr, clk, h1, h2⟩ := h
  refine ⟨arr, clk, (hf.blk b (lt_of_get h1) hn).trans h1, h2.imp ?_⟩
  rintro p e ⟨c1, c2, e1, k1, e2, k2⟩
  exact ⟨c1, c2, e1, le.K k1, e2, le.K k2⟩
theorem Mp.sub {x y : Cx} {w : World} {b : Nat} {kt vt : T} {es : List (kt.den × vt.den)} (h : Mp x w b kt vt es) (hA : ∀ k, y.A k → x.A k) (hh : y.h = x.h) : Mp y w b kt vt es := by
  obtain ⟨arr, clk, h1, h2⟩ := h
  refine ⟨arr, clk, h1, h2.imp ?_⟩
  rintro p e ⟨c1, c2, e1, k1, e2, k2⟩
  exact ⟨c1, c2, e1, by rw [hh]; exact kt.kd.mono k1 (fun k _ hk => hA k hk), e2, by rw [hh]; exact vt.kd.mono k2 (fun k _ hk => hA k hk)⟩
theorem RowR.up {α : Type} {x y : Cx} {O O' O1 : Nat → Prop} {d : Kd α} {a : Option Addr} {c : Nat} {xs : List α} (h : x.Le y) (hx : x.h = w.heap) (hy : y.h = w'.heap) (r : RowR x O d a c xs) (hf : Fr w w' O1) (hk : ∀ b, b < w.heap.size → ¬ O b → ¬ O1 b ∧ ¬ O' b) : RowR y O' d a c xs := by
  obtain ⟨h1, h2, cells, he, hl⟩ := r
  refine ⟨h1, h2, cells, he.imp (fun _ _ hK => h.K hK), fun hne => ?_⟩
  obtain ⟨b, ha, hO, hL⟩ := hl hne
  have hb := lies_lt hL
  rw [hx] at hb
  obtain ⟨e1, e2⟩ := hk b hb hO
  obtain ⟨C, T, fr, e3, e4⟩ := hL
  refine ⟨b, ha, e2, C, T, fr, ?_, e4⟩
  rw [hy, hf.blk b hb e1, ← hx]
  exact e3
theorem OR.up {x y : Cx} {O O' O1 : Nat → Prop} {g : Geo} {o : AO} (h : x.Le y) (hx : x.h = w.heap) (hy : y.h = w'.heap) (r : OR x O w g o) (hf : Fr w w' O1)
    (hro : o.own = false → ∀ b, b < w.heap.size → ¬ O b → ¬ O1 b ∧ ¬ O' b) (hfz : ∀ k, k < w.heap.size → O1 k → x.A k)
    (hown : o.own = true → ∀ p, g.a = some p → ¬ O1 p.block) : OR y O' w' g o := by
  match o, r with
  | .gone, _ => trivial
  | .box ty v true, ⟨b, cs, e, h1, h2, hb, _⟩ => exact ⟨b, cs, e, h1.up h, h2, Bx.keep hb hf (hown rfl _ e), fun hm => by cases hm⟩
  | .box ty v false, ⟨b, cs, e, h1, h2, hb, h3⟩ => exact ⟨b, cs, e, h1.up h, h2, Bx.keep hb hf (hro rfl b hb.lt (h3 rfl)).1, fun _ => (hro rfl b hb.lt (h3 rfl)).2⟩
  | .row e t xs .own, ⟨h1, h2, h3⟩ =>
    refine ⟨h1, h2, Ow.keep h3 hf (fun q hq => hown rfl q hq) (fun z cs hK => ?_)⟩
    rw [← hx] at hK
    rw [← hy]
    exact h.K hK
  | .row _ t xs .ro, ⟨h1, h2, h3⟩ => exact ⟨h1, h2, h3.up h hx hy hf (hro rfl)⟩
  | .row _ t xs .fz, ⟨h1, h2, h3⟩ => exact ⟨h1, h2, h3.up h hx hy hf (fun b hb hO => ⟨fun hA => hO (hfz b hb hA), fun hA => hO (h.new b (by rw [hx]; exact hb) hA)⟩)⟩
  | .itr s p true, ⟨b, e, hI, _⟩ => exact ⟨b, e, It.keep hI hf (hown rfl _ e), fun hm => by cases hm⟩
  | .map kt vt es true, ⟨b, e, hI, _⟩ => exact ⟨b, e, hI.keep h hf (hown rfl _ e), fun hm => by cases hm⟩
  | .map kt vt es false, ⟨b, e, hI, h3⟩ =>
    obtain ⟨arr, clk, h1, h2⟩ := hI
    exact ⟨b, e, Mp.keep ⟨arr, clk, h1, h2⟩ h hf (hro rfl b (lt_of_get h1) (h3 rfl)).1, fun _ => (hro rfl b (lt_of_get h1) (h3 rfl)).2⟩
  | .itr s p false, ⟨b, e, hI, h3⟩ => exact ⟨b, e, It.keep hI hf (hro rfl b (lt_of_get hI) (h3 rfl)).1, fun _ => (hro rfl b (lt_of_get hI) (h3 rfl)).2⟩
end
end Go.Mx
namespace Go.Mx
open Go Go.RowKit Go.Sx
variable [Glb]
section
variable {W : Nat → Prop} {S S' S'' : List AO} {ρ ρ' ρ'' : Nat → Geo} {w w' w'' : World} {O1 : Nat → Prop}
theorem Aft.of (h : Rel W S ρ w) (hf : Fr w w' O1) (hO : ∀ k, O1 k → OwnB S ρ k) (nw : ∀ k, OwnB S' ρ' k → OwnB S ρ k ∨ w.heap.size ≤ k) (ag : ∀ i, i < S.length → ρ' i = ρ i) (m : S.length ≤ S'.length)
    (ch : (cx W S ρ w).Le (cx W S' ρ' w') → ∀ i o, S'[i]? = some o → (S[i]? = some o ∧ (o.own = true → ∀ p, (ρ i).a = some p → ¬ O1 p.block)) ∨ OR (cx W S' ρ' w') (OwnB S' ρ') w' (ρ' i) o)
    (dj : ∀ i j o o' p q, i ≠ j → S'[i]? = some o → S'[j]? = some o' → o.own = true → o'.own = true → (ρ' i).a = some p → (ρ' j).a = some q → p.block ≠ q.block) : Aft W S ρ w S' ρ' w' := by
  have le : (cx W S ρ w).Le (cx W S' ρ' w') := ⟨hf.size, fun k hk hn => hf.blk k hk (fun hk => hn (.inr (hO k hk))), fun k hk hv => hv.elim .inl (fun hO => (nw k hO).elim .inr (fun h2 => absurd h2 (Nat.not_le_of_lt hk))), ag, m⟩
  have hn : ∀ b, b < w.heap.size → ¬ OwnB S ρ b → ¬ O1 b ∧ ¬ OwnB S' ρ' b := fun b hb hn => ⟨fun h1 => hn (hO b h1), fun h1 => (nw b h1).elim hn (fun h2 => absurd h2 (Nat.not_le_of_lt hb))⟩
  refine ⟨⟨fun i o hi => ?_, dj, fun k hk => Nat.lt_of_lt_of_le (h.wl k hk) hf.size, fun k hk hW => ?_, h.gl.up le⟩, hf.mono (fun k _ hk => hO k hk), nw, ag, m⟩
  · rcases ch le i o hi with ⟨h1, h2⟩ | h1
    · have hlt := (List.getElem?_eq_some_iff.1 h1).1
      rw [ag i hlt]
      exact (h.ob i o h1).up le rfl rfl hf (fun _ => hn) (fun k _ hk => .inr (hO k hk)) h2
    · exact h1
  · rcases nw k hk with h1 | h1
    · exact h.wd k h1 hW
    · exact absurd (h.wl k hW) (Nat.not_lt_of_le h1)
def upd (ρ : Nat → Geo) (i : Nat) (g : Geo) : Nat → Geo := fun j => if j = i then g else ρ j
theorem upd_same (ρ : Nat → Geo) (i : Nat) (g : Geo) : upd ρ i g i = g := if_pos rfl
theorem upd_other (ρ : Nat → Geo) {i j : Nat} (g : Geo) (h : j ≠ i) : upd ρ i g j = ρ j := if_neg h
theorem push_get {o : AO} {i : Nat} {o' : AO} (h : (S ++ [o])[i]? = some o') : (i < S.length ∧ S[i]? = some o') ∨ (i = S.length ∧ o' = o) := by
  rcases Nat.lt_trichotomy i S.length with hl | hl | hl
  · rw [List.getElem?_append, if_pos hl] at h; exact .inl ⟨hl, h⟩
  · subst hl
    rw [List.getElem?_append, if_neg (Nat.lt_irrefl _), Nat.sub_self] at h
    exact .inr ⟨rfl, (Option.some.inj h).symm⟩
  · rw [List.getElem?_eq_none (by simp; omega)] at h; cases h
theorem Aft.push (h : Rel W S ρ w) {o : AO} {g : Geo} (hf : Fr w w' No) (hnew : o.own = true → ∀ p, g.a = some p → w.heap.size ≤ p.block)
    (hor : (cx W S ρ w).Le (cx W (S ++ [o]) (upd ρ S.length g) w') → OR (cx W (S ++ [o]) (upd ρ S.length g) w') (OwnB (S ++ [o]) (upd ρ S.length g)) w' g o) : Aft W S ρ w (S ++ [o]) (upd ρ S.length g) w' := by
  have old : ∀ i, i < S.length → upd ρ S.length g i = ρ i := fun i hi => upd_other ρ g (Nat.ne_of_lt hi)
  refine Aft.of h (O1 := No) hf (fun _ hk => hk.elim) ?_ old (by simp) ?_ ?_
  · rintro k ⟨i, o', p, hi, ho, ha, rfl⟩
    rcases push_get hi with ⟨hl, hi⟩ | ⟨rfl, rfl⟩
    · rw [old i hl] at ha
      exact .inl ⟨i, o', p, hi, ho, ha, rfl⟩
    · rw [upd_same] at ha
      exact .inr (hnew ho p ha)
  · intro le i o' hi
    rcases push_get hi with ⟨hl, hi⟩ | ⟨rfl, rfl⟩
    · exact .inl ⟨hi, fun _ _ _ hk => hk.elim⟩
    · rw [upd_same]; exact .inr (hor le)
  · intro i j o1 o2 p q hij hi hj h1 h2 a1 a2 hb
    rcases push_get hi with ⟨hl, gi⟩ | ⟨rfl, rfl⟩
    · rw [old i hl] at a1
      rcases push_get hj with ⟨hl2, gj⟩ | ⟨rfl, rfl⟩
      · rw [old j hl2] at a2
        exact h.dj i j o1 o2 p q hij gi gj h1 h2 a1 a2 hb
      · rw [upd_same] at a2
        have l1 := OwnB.lt h ⟨i, o1, p, gi, h1, a1, rfl⟩
        have l2 := hnew h2 q a2
        omega
    · rw [upd_same] at a1
      have l1 := hnew h1 p a1
      rcases push_get hj with ⟨hl2, hj⟩ | ⟨rfl, rfl⟩
      · rw [old j hl2] at a2
        have l2 := OwnB.lt h ⟨j, o2, q, hj, h2, a2, rfl⟩
        omega
      · exact hij rfl
theorem set_get {i j : Nat} {o o' : AO} (h : (S.set i o)[j]? = some o') : (j ≠ i ∧ S[j]? = some o') ∨ (j = i ∧ o' = o ∧ i < S.length) := by
  by_cases hij : j = i
  · subst hij
    rw [List.getElem?_set_self'] at h
    cases hs : S[j]? with
    | none => rw [hs] at h; cases h
    | some z =>
      rw [hs] at h
      have := (List.getElem?_eq_some_iff.1 hs).1
      exact .inr ⟨rfl, (Option.some.inj h).symm, this⟩
  · rw [List.getElem?_set_ne (fun e => hij e.symm)] at h
    exact .inl ⟨hij, h⟩
theorem Aft.put (h : Rel W S ρ w) {i : Nat} {o o' : AO} (hi : S[i]? = some o) (hf : Fr w w' (fun k => o.own = true ∧ ∃ p, (ρ i).a = some p ∧ p.block = k)) (hown : o'.own = true → o.own = true)
    (hor : (cx W S ρ w).Le (cx W (S.set i o') ρ w') → OR (cx W (S.set i o') ρ w') (OwnB (S.set i o') ρ) w' (ρ i) o') : Aft W S ρ w (S.set i o') ρ w' := by
  refine Aft.of h hf ?_ ?_ (fun _ _ => rfl) (by simp) ?_ ?_
  · rintro k ⟨h1, p, h3, h4⟩
    exact ⟨i, o, p, hi, h1, h3, h4⟩
  · rintro k ⟨j, o1, p, hj, ho, ha, rfl⟩
    rcases set_get hj with ⟨_, hj⟩ | ⟨rfl, rfl, _⟩
    · exact .inl ⟨j, o1, p, hj, ho, ha, rfl⟩
    · exact .inl ⟨_, o, p, hi, hown ho, ha, rfl⟩
  · intro le j o1 hj
    rcases set_get hj with ⟨hne, hj⟩ | ⟨rfl, rfl, _⟩
    · exact .inl ⟨hj, fun h1 p hp ⟨h2, q, hq, hb⟩ => h.dj j i o1 o p q hne hj hi h1 h2 hp hq hb.symm⟩
    · exact .inr (hor le)
  · intro j k o1 o2 p q hjk hj hk h1 h2 a1 a2
    rcases set_get hj with ⟨_, gj⟩ | ⟨rfl, rfl, _⟩
    · rcases set_get hk with ⟨_, gk⟩ | ⟨rfl, rfl, _⟩
      · exact h.dj j k o1 o2 p q hjk gj gk h1 h2 a1 a2
      · exact h.dj j _ o1 o p q hjk gj hi h1 (hown h2) a1 a2
    · rcases set_get hk with ⟨_, gk⟩ | ⟨rfl, rfl, _⟩
      · exact h.dj _ k o o2 p q hjk hi gk (hown h1) h2 a1 a2
      · exact absurd rfl hjk
theorem Aft.move (h : Rel W S ρ w) {i : Nat} {o o' : AO} {g : Geo} (hi : S[i]? = some o) (hown : o.own = true) (hf : Fr w w' (fun k => ∃ p, (ρ i).a = some p ∧ p.block = k))
    (hnew : o'.own = true → ∀ p, g.a = some p → (∃ q, (ρ i).a = some q ∧ q.block = p.block) ∨ w.heap.size ≤ p.block)
    (hor : (cx W S ρ w).Le (cx W (S.set i .gone ++ [o']) (upd ρ S.length g) w') → OR (cx W (S.set i .gone ++ [o']) (upd ρ S.length g) w') (OwnB (S.set i .gone ++ [o']) (upd ρ S.length g)) w' g o') : Aft W S ρ w (S.set i .gone ++ [o']) (upd ρ S.length g) w' := by
  have old : ∀ i, i < S.length → upd ρ S.length g i = ρ i := fun i hi => upd_other ρ g (Nat.ne_of_lt hi)
  have hl : (S.set i .gone).length = S.length := by simp
  have get : ∀ j o1, (S.set i .gone ++ [o'])[j]? = some o1 → o1.own = true → (j < S.length ∧ j ≠ i ∧ S[j]? = some o1) ∨ (j = S.length ∧ o1 = o') := by
    intro j o1 hj ho
    rcases push_get hj with ⟨h1, h2⟩ | ⟨h1, h2⟩
    · rcases set_get h2 with ⟨h3, h4⟩ | ⟨_, rfl, _⟩
      · exact .inl ⟨by omega, h3, h4⟩
      · cases ho
    · exact .inr ⟨by omega, h2⟩
  refine Aft.of h hf ?_ ?_ old (by simp) ?_ ?_
  · rintro k ⟨p, h3, h4⟩
    exact ⟨i, o, p, hi, hown, h3, h4⟩
  · rintro k ⟨j, o1, p, hj, ho, ha, rfl⟩
    rcases get j o1 hj ho with ⟨h1, _, h3⟩ | ⟨rfl, rfl⟩
    · rw [old j h1] at ha
      exact .inl ⟨j, o1, p, h3, ho, ha, rfl⟩
    · rw [upd_same] at ha
      rcases hnew ho p ha with ⟨q, hq, hb⟩ | h1
      · exact .inl ⟨i, o, q, hi, hown, hq, hb⟩
      · exact .inr h1
  · intro le j o1 hj
    rcases push_get hj with ⟨h1, h2⟩ | ⟨h1, rfl⟩
    · rcases set_get h2 with ⟨h3, h4⟩ | ⟨_, rfl, _⟩
      · exact .inl ⟨h4, fun h5 p hp ⟨q, hq, hb⟩ => h.dj j i o1 o p q h3 h4 hi h5 hown hp hq hb.symm⟩
      · exact .inr trivial
    · rw [hl] at h1
      subst h1
      rw [upd_same]
      exact .inr (hor le)
  · intro j k o1 o2 p q hjk hj hk h1 h2 a1 a2 hb
    rcases get j o1 hj h1 with ⟨l1, n1, g1⟩ | ⟨rfl, rfl⟩
    · rw [old j l1] at a1
      rcases get k o2 hk h2 with ⟨l2, n2, g2⟩ | ⟨rfl, rfl⟩
      · rw [old k l2] at a2
        exact h.dj j k o1 o2 p q hjk g1 g2 h1 h2 a1 a2 hb
      · rw [upd_same] at a2
        rcases hnew h2 q a2 with ⟨q', hq, hb'⟩ | h3
        · exact h.dj j i o1 o p q' n1 g1 hi h1 hown a1 hq (by omega)
        · have := OwnB.lt h ⟨j, o1, p, g1, h1, a1, rfl⟩
          omega
    · rw [upd_same] at a1
      rcases get k o2 hk h2 with ⟨l2, n2, g2⟩ | ⟨rfl, rfl⟩
      · rw [old k l2] at a2
        rcases hnew h1 p a1 with ⟨q', hq, hb'⟩ | h3
        · exact h.dj k i o2 o q q' n2 g2 hi h2 hown a2 hq (by omega)
        · have := OwnB.lt h ⟨k, o2, q, g2, h2, a2, rfl⟩
          omega
      · exact hjk rfl
end
end Go.Mx
namespace Go.Mx
open Go Go.RowKit Go.Sx
variable [Glb]
section
variable {x : Cx}
theorem vr_int {k : IntKind} {i : Int} {u : Value} (h : VR x (.dat (.int k) i) u) : u = .int k i := by
  obtain ⟨c, e, h1, _⟩ := h
  rw [CR] at h1
  have h1 : c = [.int k i] := h1
  rw [e, h1]; rfl
theorem vr_bool {b : Bool} {u : Value} (h : VR x (.dat .bool b) u) : u = .bool b := by
  obtain ⟨c, e, h1, _⟩ := h
  rw [CR] at h1
  have h1 : c = [.bool b] := h1
  rw [e, h1]; rfl
theorem vr_str {s : ByteArray} {u : Value} (h : VR x (.dat .str s) u) : u = .string s := by
  obtain ⟨c, e, h1, _⟩ := h
  rw [CR] at h1
  have h1 : c = [.string s] := h1
  rw [e, h1]; rfl
theorem vr_intI (k : IntKind) (i : Int) : VR x (.dat (.int k) i) (.int k i) := ⟨[.int k i], rfl, by rw [CR]; exact rfl, rfl⟩
theorem vr_boolI (b : Bool) : VR x (.dat .bool b) (.bool b) := ⟨[.bool b], rfl, by rw [CR]; exact rfl, rfl⟩
theorem vr_strI (s : ByteArray) : VR x (.dat .str s) (.string s) := ⟨[.string s], rfl, by rw [CR]; exact rfl, rfl⟩
theorem vr_flt {b : Nat} {u : Value} (h : VR x (.dat .flt b) u) : ∃ d, u = .float .f64 d ∧ SameF d b := by
  obtain ⟨c, e, h1, _⟩ := h
  rw [CR] at h1
  obtain ⟨d, h1, h2⟩ : ∃ d, c = [.float .f64 d] ∧ SameF d b := h1
  exact ⟨d, by rw [e, h1]; rfl, h2⟩
theorem vr_cpx {z : Nat × Nat} {u : Value} (h : VR x (.dat .cpx z) u) : ∃ d e, u = .complex .f64 d e ∧ SameF d z.1 ∧ SameF e z.2 := by
  obtain ⟨c, e, h1, _⟩ := h
  rw [CR] at h1
  obtain ⟨d, d', h1, h2⟩ : ∃ d e, c = [.complex .f64 d e] ∧ SameF d z.1 ∧ SameF e z.2 := h1
  exact ⟨d, d', by rw [e, h1]; rfl, h2⟩
theorem vr_fltI {d b : Nat} (h : SameF d b) : VR x (.dat .flt b) (.float .f64 d) := ⟨[.float .f64 d], rfl, by rw [CR]; exact ⟨_, rfl, h⟩, rfl⟩
theorem vr_cpxI {d e : Nat} {z : Nat × Nat} (h : SameF d z.1) (h' : SameF e z.2) : VR x (.dat .cpx z) (.complex .f64 d e) := ⟨[.complex .f64 d e], rfl, by rw [CR]; exact ⟨_, _, rfl, h, h'⟩, rfl⟩
theorem vr_nilp {u : Value} (h : VR x .nilp u) : u = .pointer none := by
  obtain ⟨c, e, h1, _⟩ := h
  rw [CR] at h1
  rw [e, h1]; rfl
theorem vr_nils {u : Value} (h : VR x .nils u) : u = .slice none 0 0 := by
  obtain ⟨c, e, h1, _⟩ := h
  rw [CR] at h1
  rw [e, h1]; rfl
theorem vr_nilf {u : Value} (h : VR x .nilf u) : u = .nilFunc := by
  obtain ⟨c, e, h1, _⟩ := h
  rw [CR] at h1
  rw [e, h1]; rfl
theorem vr_ptr {i : Nat} {p : List Step} {u : Value} (h : VR x (.ptr i p) u) : i < x.m ∧ ∃ b, (x.g i).a = some ⟨b, 0, none⟩ ∧ u = .pointer (some ⟨b, offs p, none⟩) := by
  obtain ⟨c, e, h1, _⟩ := h
  rw [CR] at h1
  obtain ⟨h2, b, h3, h4⟩ := h1
  exact ⟨h2, b, h3, by rw [e, h4]; rfl⟩
theorem vr_ptrI {i : Nat} {p : List Step} {b : Nat} (h : i < x.m) (ha : (x.g i).a = some ⟨b, 0, none⟩) : VR x (.ptr i p) (.pointer (some ⟨b, offs p, none⟩)) := ⟨[.pointer (some ⟨b, offs p, none⟩)], rfl, by rw [CR]; exact ⟨h, b, ha, rfl⟩, rfl⟩
theorem vr_rdp {t : T} {d : t.den} {u : Value} (h : VR x (.rdp t d) u) : ∃ b o c, u = .pointer (some ⟨b, o, none⟩) ∧ ¬ x.A b ∧ Lies x.h b o c ∧ t.kd.K x.A x.h d c := by
  obtain ⟨c, e, h1, _⟩ := h
  rw [CR] at h1
  obtain ⟨b, o, c', h2, h3⟩ := h1
  exact ⟨b, o, c', by rw [e, h2]; rfl, h3⟩
theorem vr_rdpI {t : T} {d : t.den} {b o : Nat} {c : List Value} (h1 : ¬ x.A b) (h2 : Lies x.h b o c) (h3 : t.kd.K x.A x.h d c) : VR x (.rdp t d) (.pointer (some ⟨b, o, none⟩)) := ⟨[.pointer (some ⟨b, o, none⟩)], rfl, by rw [CR]; exact ⟨b, o, c, rfl, h1, h2, h3⟩, rfl⟩
theorem vr_tup {l : List AV} {u : Value} (h : VR x (.tup l) u) : ∃ m, u = .tuple m.toArray ∧ VRs x l m := h
theorem kd_len {t : T} {A : Nat → Prop} {h : Array Obj} {d : t.den} {cs : List Value} (r : t.kd.K A h d cs) : cs.length = t.sz := by rw [← T.kd_sz]; exact t.kd.len r
theorem vr_datI {t : T} {d : t.den} {cs : List Value} (h : t.kd.K x.A x.h d cs) : VR x (.dat t d) (form (AV.isAgg (.dat t d)) cs) := ⟨cs, rfl, by rw [CR]; exact h, kd_len h⟩
theorem vr_dat {t : T} {d : t.den} {u : Value} (h : VR x (.dat t d) u) : ∃ cs, t.kd.K x.A x.h d cs ∧ u = form (AV.isAgg (.dat t d)) cs := by
  obtain ⟨c, e, h1, _⟩ := h
  rw [CR] at h1
  exact ⟨c, h1, e⟩
end
def SlR (x : Cx) (s : Slots) (a : Act) : Prop := ∀ t v, lookA t s = some v → VR x v (a.tmps.getD t undef)
theorem SlR.up {x y : Cx} {s : Slots} {a : Act} (h : SlR x s a) (le : x.Le y) : SlR y s a := fun t v hv => (h t v hv).up le
theorem ofConst_ok {x : Cx} {u : Value} {v : AV} (h : ofConst u = some v) : VR x v u := by
  unfold ofConst at h
  split at h <;> first | (obtain rfl := Option.some.inj h) | cases h
  · exact vr_boolI _
  · exact vr_intI _ _
  · exact vr_strI _
  · exact ⟨_, rfl, by rw [CR]; exact ⟨_, rfl, .inl rfl⟩, rfl⟩
  · exact ⟨[.complex .f64 _ _], rfl, by rw [CR]; exact ⟨_, _, rfl, .inl rfl, .inl rfl⟩, rfl⟩
  · exact ⟨[.pointer none], rfl, by rw [CR], rfl⟩
  · exact ⟨[.slice none 0 0], rfl, by rw [CR], rfl⟩
  · exact ⟨[.map none], rfl, by rw [CR], rfl⟩
  · exact ⟨[.nilFunc], rfl, by rw [CR], rfl⟩
  · exact ⟨[.nilIface], rfl, by rw [CR], rfl⟩
theorem ev_ok {x : Cx} (hg : GlR x) {s : Slots} {a : Act} (hs : SlR x s a) {o : Operand} {v : AV} (h : ev s o = some v) : VR x v (a.eval o) := by
  cases o with
  | tmp t => exact hs t v h
  | const u => exact ofConst_ok h
  | func f =>
    obtain rfl := Option.some.inj h
    exact ⟨[.func (.func f) #[] #[]], rfl, by rw [CR]; exact ⟨[], [], rfl, by rw [VRs], by rw [VRs]⟩, rfl⟩
  | global g =>
    have h : (match Glb.gl g with | some z => some (AV.rdp z.1 z.2) | none => none) = some v := h
    split at h
    · rename_i z hz
      obtain rfl := Option.some.inj h
      exact (hg g z hz).1
    · cases h
theorem evs_ok {x : Cx} (hg : GlR x) {s : Slots} {a : Act} (hs : SlR x s a) : ∀ {l : List Operand} {vs : List AV}, Mx.evs s l = some vs → A2 (VR x) vs (l.map a.eval)
  | [], vs, h => by obtain rfl := Option.some.inj h; exact .nil
  | o :: l, vs, h => by
    rw [Mx.evs] at h
    split at h
    · rename_i v hv
      split at h
      · rename_i r hr
        obtain rfl := Option.some.inj h
        exact .cons (ev_ok hg hs hv) (evs_ok hg hs hr)
      · cases h
    · cases h
def bnd (a : Act) (N : Nat) : List (Nat × Value) := (List.range N).map fun t => (t, a.tmps.getD t undef)
theorem look_map {f : Nat → Value} {t : Nat} : ∀ {l : List Nat} {u : Value}, Sx.look t (l.map fun i => (i, f i)) = some u → u = f t
  | [], u, h => by cases h
  | i :: l, u, h => by
    simp only [List.map_cons, Sx.look] at h
    cases hc : Nat.beq i t with
    | true => rw [hc] at h; have := Nat.eq_of_beq_eq_true hc; subst this; exact (Option.some.inj h).symm
    | false => rw [hc] at h; exact look_map h
theorem look_mem {f : Nat → Value} {t : Nat} : ∀ {l : List Nat}, t ∈ l → Sx.look t (l.map fun i => (i, f i)) = some (f t)
  | [], h => by cases h
  | i :: l, h => by
    simp only [List.map_cons, Sx.look]
    cases hc : Nat.beq i t with
    | true => have := Nat.eq_of_beq_eq_true hc; subst this; rfl
    | false =>
      rcases List.mem_cons.1 h with e | h
      · subst e; rw [beq_self] at hc; cases hc
      · exact look_mem h
theorem bnd_has {a : Act} (N : Nat) (hd : a.defers = []) : Has a.tmps.size (bnd a N) a := ⟨rfl, hd, fun _ _ h => (look_map h).symm⟩
def Op1 : Operand → Nat
  | .tmp t => t + 1
  | _ => 0
theorem bnd_ev {a : Act} {N : Nat} {o : Operand} (h : Op1 o ≤ N) : Sx.ev (bnd a N) o = some (a.eval o) := by
  cases o with
  | tmp t => exact look_mem (List.mem_range.2 h)
  | _ => rfl
section
variable {R : Type} {P : Program} {W : Nat → Prop} {S : List AO} {ρ : Nat → Geo} {w : World} {a : Act}
def Comes (P : Program) (W : Nat → Prop) (S : List AO) (ρ : Nat → Geo) (w : World) (o : Oper) (a : Act) (K : KV R) (r : R) : Prop :=
  Does P o a w fun u w' => ∃ v S' ρ', K v S' = some r ∧ Aft W S ρ w S' ρ' w' ∧ VR (cx W S' ρ' w') v u
theorem Comes.is {o : Oper} {K : KV R} {r : R} {u : Value} {v : AV} (h : Rel W S ρ w) (hd : Does P o a w (Is u w)) (hK : K v S = some r) (hv : VR (cx W S ρ w) v u) : Comes P W S ρ w o a K r :=
  hd.mono fun u' w' ⟨e1, e2⟩ => by subst e1; subst e2; exact ⟨v, S, ρ, hK, Aft.refl h, hv⟩
theorem Comes.at {o : Oper} {K : KV R} {r : R} {φ : Value → Prop} {v : AV} (h : Rel W S ρ w) (hd : Does P o a w (fun u w' => w' = w ∧ φ u)) (hK : K v S = some r) (hv : ∀ u, φ u → VR (cx W S ρ w) v u) : Comes P W S ρ w o a K r :=
  hd.mono fun u' w' ⟨e1, e2⟩ => by subst e1; exact ⟨v, S, ρ, hK, Aft.refl h, hv _ e2⟩
variable {d : Option Nat} {ty T' T2 : TypeId} {pos : String} {af : Array Edge} {g : Option (Nat × Bool)} {y z : Operand} {K : KV R} {r : R}
theorem arith_ok {op : BinOp} {k : IntKind} {i j : Int} (h : Rel W S ρ w) (hd : a.defers = []) (hy : a.eval y = .int k i) (hz : a.eval z = .int k j) (hK : arith op k i j S K = some r) : Comes P W S ρ w ⟨d, .binOp op T' y z T2, ty, pos, af, g⟩ a K r := by
  have ha := bnd_has (a := a) (Op1 y + Op1 z) hd
  have e1 : Sx.ev (bnd a (Op1 y + Op1 z)) y = some (.int k i) := by rw [bnd_ev (by omega), hy]
  have e2 : Sx.ev (bnd a (Op1 y + Op1 z)) z = some (.int k j) := by rw [bnd_ev (by omega), hz]
  unfold arith at hK
  split at hK
  · exact Comes.is h (d_add ha e1 e2) hK (vr_intI _ _)
  · exact Comes.is h (d_sub ha e1 e2) hK (vr_intI _ _)
  · exact Comes.is h (d_mul ha e1 e2) hK (vr_intI _ _)
  · obtain ⟨hj, hK⟩ := ck_elim hK
    exact Comes.is h (d_quo ha e1 e2 hj) hK (vr_intI _ _)
  · obtain ⟨hj, hK⟩ := ck_elim hK
    exact Comes.is h (d_rem ha e1 e2 hj) hK (vr_intI _ _)
  · exact Comes.is h (d_and ha e1 e2) hK (vr_intI _ _)
  · exact Comes.is h (d_or ha e1 e2) hK (vr_intI _ _)
  · exact Comes.is h (d_xor ha e1 e2) hK (vr_intI _ _)
  · exact Comes.is h (d_andNot ha e1 e2) hK (vr_intI _ _)
  · exact Comes.is h (d_eqI ha e1 e2) hK (vr_boolI _)
  · exact Comes.is h (d_neI ha e1 e2) hK (vr_boolI _)
  · exact Comes.is h (d_lt ha e1 e2) hK (vr_boolI _)
  · exact Comes.is h (d_le ha e1 e2) hK (vr_boolI _)
  · exact Comes.is h (d_gt ha e1 e2) hK (vr_boolI _)
  · exact Comes.is h (d_ge ha e1 e2) hK (vr_boolI _)
  · cases hK
theorem un_ok {op : UnOp} {v : AV} (h : Rel W S ρ w) (hd : a.defers = []) (hy : VR (cx W S ρ w) v (a.eval y)) (hK : un op v S K = some r) : Comes P W S ρ w ⟨d, .unOp op T' y, ty, pos, af, g⟩ a K r := by
  have ha := bnd_has (a := a) (Op1 y) hd
  have e1 : Sx.ev (bnd a (Op1 y)) y = some (a.eval y) := bnd_ev (Nat.le_refl _)
  unfold un at hK
  split at hK
  · rw [vr_bool hy] at e1
    exact Comes.is h (d_not ha e1) hK (vr_boolI _)
  · rw [vr_int hy] at e1
    exact Comes.is h (d_neg ha e1) hK (vr_intI _ _)
  · rw [vr_int hy] at e1
    exact Comes.is h (Does.val (by simp [execOp, ha.ev e1, Op.unary, intBits_xor])) hK (vr_intI _ _)
  · obtain ⟨h0, hK⟩ := ck_elim hK
    obtain ⟨d, ed, hs⟩ := vr_flt hy
    rw [ed] at e1
    rcases hs with hs | hs
    · subst hs
      exact Comes.is h (Does.val (by simp [execOp, ha.ev e1, Op.unary, fneg])) hK (vr_fltI (.inl rfl))
    · rw [h0] at hs
      cases hs.2
  · cases hK
end
end Go.Mx
namespace Go.Mx
open Go Go.RowKit Go.Sx
variable [Glb]
section
variable {x : Cx} {R : Type} {r : R}
theorem cr_dat {t : T} {d : t.den} {cs : List Value} : CR x (.dat t d) cs ↔ t.kd.K x.A x.h d cs := by rw [CR]
theorem cr_oneI {a : AV} {cs : List Value} : CR x (.one a) cs ↔ CR x a cs := by rw [CR]
theorem cr_pr {a b : AV} {cs : List Value} (h : CR x (.pr a b) cs) : CR x (mkpr a b) cs := by
  cases a with
  | dat t1 d1 =>
    cases b with
    | dat t2 d2 =>
      rw [CR] at h
      obtain ⟨c1, c2, e, h1, h2⟩ := h
      exact (cr_dat (t := .pair t1 t2)).2 ⟨c1, c2, e, cr_dat.1 h1, cr_dat.1 h2⟩
    | _ => exact h
  | _ => exact h
theorem cr_one {a : AV} {cs : List Value} (h : CR x a cs) : CR x (mkone a) cs := by
  cases a with
  | dat t d =>
    exact (cr_dat (t := .one t)).2 (cr_dat.1 h)
  | _ => exact cr_oneI.2 h
theorem sz_pr (a b : AV) : (mkpr a b).sz = a.sz + b.sz := by
  unfold mkpr; split <;> rfl
theorem sz_one (a : AV) : (mkone a).sz = a.sz := by
  unfold mkone; split <;> rfl
theorem cr_pair {a b : T} {d : (T.pair a b).den} {cs : List Value} (h : CR x (.dat (.pair a b) d) cs) : CR x (.pr (.dat a d.1) (.dat b d.2)) cs := by
  obtain ⟨c1, c2, e, h1, h2⟩ := cr_dat.1 h
  rw [CR]
  exact ⟨c1, c2, e, cr_dat.2 h1, cr_dat.2 h2⟩
theorem dec_dat (t t' : T) (y : t'.den) : dec t (.dat t' y) = if h : t' = t then some (h ▸ y) else none := by cases t <;> rfl
theorem dec_datok {t t' : T} {y : t'.den} {d : t.den} {cs : List Value} (h : dec t (.dat t' y) = some d) (hc : CR x (.dat t' y) cs) : t.kd.K x.A x.h d cs := by
  rw [dec_dat] at h
  split at h
  · rename_i e
    subst e
    obtain rfl := Option.some.inj h
    rw [CR] at hc
    exact hc
  · cases h
theorem dec_ok : ∀ (t : T) (v : AV) (cs : List Value) {d : t.den}, dec t v = some d → CR x v cs → t.kd.K x.A x.h d cs := by
  intro t
  induction t with
  | sl t _ =>
    intro v cs d h hc
    cases v with
    | dat t' y => exact dec_datok h hc
    | nils =>
      obtain rfl : [] = d := Option.some.inj h
      rw [CR] at hc
      exact ⟨none, 0, by rw [hc]; rfl, Raw.nil _ _ _ none 0 (Nat.zero_le _)⟩
    | cut t' =>
      obtain rfl : [] = d := Option.some.inj h
      rw [CR] at hc
      obtain ⟨q, hc⟩ := hc
      exact ⟨q, 0, by rw [hc]; rfl, Raw.nil _ _ _ q 0 (Nat.zero_le _)⟩
    | nilw t' =>
      obtain rfl : [] = d := Option.some.inj h
      rw [CR] at hc
      obtain ⟨q, hq, hc⟩ := hc
      exact ⟨none, q, by rw [hc]; rfl, Raw.nil _ _ _ none q hq⟩
    | fn f fs ks => cases fs <;> cases ks <;> cases h
    | _ => cases h
  | pair a b iha ihb =>
    intro v cs d h hc
    cases v with
    | dat t' y => exact dec_datok h hc
    | pr u v =>
      rw [CR] at hc
      obtain ⟨c1, c2, e, h1, h2⟩ := hc
      rw [dec] at h
      split at h
      · rename_i y hy
        split at h
        · rename_i z hz
          obtain rfl : (y, z) = d := Option.some.inj h
          exact ⟨c1, c2, e, iha u c1 hy h1, ihb v c2 hz h2⟩
        · cases h
      · cases h
    | fn f fs ks => cases fs <;> cases ks <;> cases h
    | _ => cases h
  | one a iha =>
    intro v cs d h hc
    cases v with
    | dat t' y => exact dec_datok h hc
    | one u =>
      rw [CR] at hc
      rw [dec] at h
      exact iha u cs h hc
    | fn f fs ks => cases fs <;> cases ks <;> cases h
    | _ => cases h
  | fn =>
    intro v cs d h hc
    cases v with
    | dat t' y => exact dec_datok h hc
    | fn f fs ks =>
      match fs, ks, h, hc with
      | [], [], h, hc =>
        obtain rfl : f = d := Option.some.inj h
        rw [CR] at hc
        obtain ⟨l, m, e, h1, h2⟩ := hc
        rw [VRs] at h1 h2
        rw [e, h1, h2]
        exact rfl
      | _ :: _, _, h, _ => cases h
      | [], _ :: _, h, _ => cases h
    | _ => cases h
  | _ =>
    intro v cs d h hc
    cases v with
    | dat t' y => exact dec_datok h hc
    | fn f fs ks => cases fs <;> cases ks <;> cases h
    | _ => cases h
theorem getK_ok : ∀ (p : List Step) (v : AV) (cs : List Value) {K : AV → Option R}, getK v p K = some r → CR x v cs → cs.length = v.sz →
    ∃ u us, K u = some r ∧ CR x u us ∧ us.length = u.sz ∧ ∀ j c, us[j]? = some c → cs[offs p + j]? = some c := by
  intro p
  induction p with
  | nil =>
    intro v cs K h hc hl
    have h : K v = some r := by cases v <;> exact h
    exact ⟨v, cs, h, hc, hl, fun j c hj => by rw [offs, Nat.zero_add]; exact hj⟩
  | cons s p ih =>
    intro v cs K h hc hl
    unfold getK at h
    split at h
    · rename_i he; cases he
    · rename_i he
      obtain ⟨rfl, rfl⟩ := List.cons.inj he
      have hp := cr_pair hc
      rw [CR] at hp
      obtain ⟨c1, c2, e, h1, h2⟩ := hp
      obtain ⟨u, us, k1, k2, k3, k4⟩ := ih _ _ h h1 (cr_len h1)
      refine ⟨u, us, k1, k2, k3, fun j c hj => ?_⟩
      have := k4 j c hj
      show cs[offs p + j]? = some c
      rw [e, List.getElem?_append, if_pos (List.getElem?_eq_some_iff.1 this).1]
      exact this
    · rename_i a b d k q he
      obtain ⟨rfl, rfl⟩ := List.cons.inj he
      have hp := cr_pair hc
      rw [CR] at hp
      obtain ⟨c1, c2, e, h1, h2⟩ := hp
      have l1 : c1.length = a.sz := by rw [CR] at h1; exact kd_len h1
      have l2 : c2.length = b.sz := by rw [CR] at h2; exact kd_len h2
      cases hk : Nat.beq k a.sz with
      | false => rw [hk] at h; cases h
      | true =>
        rw [hk] at h
        have hk := Nat.eq_of_beq_eq_true hk
        obtain ⟨u, us, k1, k2, k3, k4⟩ := ih _ _ h h2 l2
        refine ⟨u, us, k1, k2, k3, fun j c hj => ?_⟩
        have := k4 j c hj
        rw [offs, e, List.getElem?_append, if_neg (by omega), show k + offs p + j - c1.length = offs p + j by omega]
        exact this
    · rename_i he
      obtain ⟨rfl, rfl⟩ := List.cons.inj he
      rw [CR] at hc
      obtain ⟨u, us, k1, k2, k3, k4⟩ := ih _ _ h (by rw [CR]; exact hc) hl
      exact ⟨u, us, k1, k2, k3, k4⟩
    · rename_i n t xs i s' q he
      obtain ⟨rfl, rfl⟩ := List.cons.inj he
      cases hk : Nat.beq s' t.sz with
      | false => rw [hk] at h; cases h
      | true =>
        rw [hk] at h
        have hk := Nat.eq_of_beq_eq_true hk
        obtain ⟨y, hy, h⟩ := bind_elim h
        rw [CR] at hc
        have hc : xs.length = n ∧ Els (t.kd.K x.A x.h) xs cs := hc
        obtain ⟨hi, rfl⟩ := List.getElem?_eq_some_iff.1 hy
        obtain ⟨c, hK, hg⟩ := hc.2.get (fun _ _ h => kd_len h) i hi
        obtain ⟨u, us, k1, k2, k3, k4⟩ := ih _ _ h (by rw [CR]; exact hK) (kd_len hK)
        refine ⟨u, us, k1, k2, k3, fun j c hj => ?_⟩
        have := hg _ _ (k4 j c hj)
        rw [offs, hk, Nat.add_assoc]
        exact this
    · rename_i he
      obtain ⟨rfl, rfl⟩ := List.cons.inj he
      rw [CR] at hc
      obtain ⟨c1, c2, e, h1, h2⟩ := hc
      obtain ⟨u, us, k1, k2, k3, k4⟩ := ih _ _ h h1 (cr_len h1)
      refine ⟨u, us, k1, k2, k3, fun j c hj => ?_⟩
      have := k4 j c hj
      show cs[offs p + j]? = some c
      rw [e, List.getElem?_append, if_pos (List.getElem?_eq_some_iff.1 this).1]
      exact this
    · rename_i a b k q he
      obtain ⟨rfl, rfl⟩ := List.cons.inj he
      rw [CR] at hc
      obtain ⟨c1, c2, e, h1, h2⟩ := hc
      cases hk : Nat.beq k a.sz with
      | false => rw [hk] at h; cases h
      | true =>
        rw [hk] at h
        have hk := Nat.eq_of_beq_eq_true hk
        have l1 := cr_len h1
        obtain ⟨u, us, k1, k2, k3, k4⟩ := ih _ _ h h2 (cr_len h2)
        refine ⟨u, us, k1, k2, k3, fun j c hj => ?_⟩
        have := k4 j c hj
        rw [offs, e, List.getElem?_append, if_neg (by omega), show k + offs p + j - c1.length = offs p + j by omega]
        exact this
    · rename_i he
      obtain ⟨rfl, rfl⟩ := List.cons.inj he
      rw [CR] at hc
      obtain ⟨u, us, k1, k2, k3, k4⟩ := ih _ _ h hc hl
      exact ⟨u, us, k1, k2, k3, k4⟩
    · cases h
end
end Go.Mx
namespace Go.Mx
open Go Go.RowKit Go.Sx
variable [Glb]
section
variable {x : Cx} {R : Type} {r : R}
theorem put_get {cs us : List Value} {o k : Nat} (h : o + us.length ≤ cs.length) : (put cs o us)[k]? = if k < o then cs[k]? else if k < o + us.length then us[k - o]? else cs[k]? := by
  unfold put
  have hl : (cs.take o).length = o := by rw [List.length_take]; omega
  rw [List.append_assoc, List.getElem?_append, hl]
  by_cases h1 : k < o
  · rw [if_pos h1, if_pos h1, List.getElem?_take, if_pos h1]
  · rw [if_neg h1, if_neg h1, List.getElem?_append]
    by_cases h2 : k < o + us.length
    · rw [if_pos h2, if_pos (by omega)]
    · rw [if_neg h2, if_neg (by omega), List.getElem?_drop]
      congr 1
      omega
theorem put_len {cs us : List Value} {o : Nat} (h : o + us.length ≤ cs.length) : (put cs o us).length = cs.length := by
  unfold put
  simp only [List.length_append, List.length_take, List.length_drop]
  omega
theorem put_all {cs us : List Value} (h : us.length = cs.length) : put cs 0 us = us := by
  unfold put
  rw [List.take_zero, List.nil_append, List.drop_of_length_le (by omega), List.append_nil]
theorem put_fst {c1 c2 us : List Value} {o : Nat} (h : o + us.length ≤ c1.length) : put (c1 ++ c2) o us = put c1 o us ++ c2 := by
  apply List.ext_getElem?
  intro k
  rw [put_get (by rw [List.length_append]; omega), List.getElem?_append (l₁ := put c1 o us), put_len h, put_get h, List.getElem?_append]
  repeat' split
  all_goals first | rfl | omega
theorem put_snd {c1 c2 us : List Value} {o m : Nat} (hm : m = c1.length + o) (h : o + us.length ≤ c2.length) : put (c1 ++ c2) m us = c1 ++ put c2 o us := by
  subst hm
  apply List.ext_getElem?
  intro k
  rw [put_get (by rw [List.length_append]; omega), List.getElem?_append (l₂ := put c2 o us), put_get h, List.getElem?_append]
  repeat' split
  all_goals first | rfl | omega | (congr 1; omega)
theorem put_mid {cs c us : List Value} {o m s : Nat} (hc : c.length = s) (hg : ∀ i v, c[i]? = some v → cs[m + i]? = some v) (hm : m + s ≤ cs.length) (h : o + us.length ≤ c.length) : put cs (m + o) us = cs.take m ++ put c o us ++ cs.drop (m + s) := by
  apply List.ext_getElem?
  intro k
  have hl : (cs.take m).length = m := by rw [List.length_take]; omega
  rw [put_get (by omega), List.append_assoc, List.getElem?_append, hl, List.getElem?_append, put_len h, put_get h]
  by_cases h1 : k < m
  · rw [if_pos (by omega), if_pos h1, List.getElem?_take, if_pos h1]
  · rw [if_neg h1]
    have hk : ∀ i, i < s → c[i]? = cs[m + i]? := fun i hi => by
      rw [List.getElem?_eq_getElem (by omega)]
      exact (hg i _ (List.getElem?_eq_getElem (by omega))).symm
    by_cases h2 : k < m + o
    · rw [if_pos h2, if_pos (by omega), if_pos (by omega), hk _ (by omega)]
      congr 1
      omega
    · rw [if_neg h2]
      by_cases h3 : k < m + o + us.length
      · rw [if_pos h3, if_pos (by omega), if_neg (by omega), if_pos (by omega)]
        congr 1
        omega
      · rw [if_neg h3]
        by_cases h4 : k < m + s
        · rw [if_pos (by omega), if_neg (by omega), if_neg (by omega), hk _ (by omega)]
          congr 1
          omega
        · rw [if_neg (by omega), List.getElem?_drop]
          congr 1
          omega
theorem setK_ok : ∀ (p : List Step) (v : AV) (cs : List Value) (u : AV) (us : List Value) {K : AV → Option R}, setK v p u K = some r → CR x v cs → CR x u us →
    ∃ y, K y = some r ∧ CR x y (put cs (offs p) us) ∧ offs p + us.length ≤ cs.length := by
  intro p
  induction p with
  | nil =>
    intro v cs u us K h hc hu
    have h : cond (Nat.beq v.sz u.sz) (K u) none = some r := by cases v <;> exact h
    cases hb : Nat.beq v.sz u.sz with
    | false => rw [hb] at h; cases h
    | true =>
      rw [hb] at h
      have hb := Nat.eq_of_beq_eq_true hb
      have l1 := cr_len hc
      have l2 := cr_len hu
      exact ⟨u, h, by rw [offs, put_all (by omega)]; exact hu, by rw [offs]; omega⟩
  | cons s p ih =>
    intro v cs u us K h hc hu
    unfold setK at h
    split at h
    · rename_i he; cases he
    · rename_i he
      obtain ⟨rfl, rfl⟩ := List.cons.inj he
      have hp := cr_pair hc
      rw [CR] at hp
      obtain ⟨c1, c2, e, h1, h2⟩ := hp
      obtain ⟨y, k1, k2, k3⟩ := ih _ _ _ _ h h1 hu
      refine ⟨_, k1, ?_, ?_⟩
      · show CR x _ (put cs (offs p) us)
        rw [e, put_fst k3]
        exact cr_pr (by rw [CR]; exact ⟨_, _, rfl, k2, h2⟩)
      · show offs p + us.length ≤ cs.length
        rw [e, List.length_append]; omega
    · rename_i a b d k q he
      obtain ⟨rfl, rfl⟩ := List.cons.inj he
      have hp := cr_pair hc
      rw [CR] at hp
      obtain ⟨c1, c2, e, h1, h2⟩ := hp
      have l1 : c1.length = a.sz := cr_len h1
      cases hk : Nat.beq k a.sz with
      | false => rw [hk] at h; cases h
      | true =>
        rw [hk] at h
        have hk := Nat.eq_of_beq_eq_true hk
        obtain ⟨y, k1, k2, k3⟩ := ih _ _ _ _ h h2 hu
        refine ⟨_, k1, ?_, ?_⟩
        · show CR x _ (put cs (k + offs p) us)
          rw [e, put_snd (o := offs p) (by omega) k3]
          exact cr_pr (by rw [CR]; exact ⟨_, _, rfl, h1, k2⟩)
        · show k + offs p + us.length ≤ cs.length
          rw [e, List.length_append]; omega
    · rename_i he
      obtain ⟨rfl, rfl⟩ := List.cons.inj he
      obtain ⟨y, k1, k2, k3⟩ := ih _ _ _ _ h (cr_dat.2 (cr_dat.1 hc)) hu
      exact ⟨_, k1, cr_one k2, k3⟩
    · rename_i n t xs i s' q he
      obtain ⟨rfl, rfl⟩ := List.cons.inj he
      cases hk : Nat.beq s' t.sz with
      | false => rw [hk] at h; cases h
      | true =>
        rw [hk] at h
        have hk := Nat.eq_of_beq_eq_true hk
        obtain ⟨z, hz, h⟩ := bind_elim h
        have hc : xs.length = n ∧ Els (t.kd.K x.A x.h) xs cs := cr_dat.1 hc
        obtain ⟨hi, rfl⟩ := List.getElem?_eq_some_iff.1 hz
        obtain ⟨c, hK, hg⟩ := hc.2.get (fun _ _ h => kd_len h) i hi
        obtain ⟨y, k1, k2, k3⟩ := ih _ _ _ _ h (cr_dat.2 hK) hu
        split at k1
        · rename_i d hd
          have hd := dec_ok t y _ hd k2
          have hcl : c.length = t.sz := kd_len hK
          have hlen := hc.2.length (fun _ _ h => kd_len h)
          have hm : i * t.sz + t.sz ≤ cs.length := by
            rw [hlen]
            calc i * t.sz + t.sz = (i + 1) * t.sz := by rw [Nat.add_mul, Nat.one_mul]
              _ ≤ xs.length * t.sz := Nat.mul_le_mul_right _ hi
          refine ⟨_, k1, ?_, ?_⟩
          · show CR x _ (put cs (i * s' + offs p) us)
            rw [hk, put_mid hcl hg hm k3]
            refine (cr_dat (t := .arr n t)).2 ⟨by rw [List.length_set]; exact hc.1, ?_⟩
            exact hc.2.set (fun _ _ h => kd_len h) i hi hd
          · show i * s' + offs p + us.length ≤ cs.length
            rw [hk]; omega
        · cases k1
    · rename_i he
      obtain ⟨rfl, rfl⟩ := List.cons.inj he
      rw [CR] at hc
      obtain ⟨c1, c2, e, h1, h2⟩ := hc
      obtain ⟨y, k1, k2, k3⟩ := ih _ _ _ _ h h1 hu
      refine ⟨_, k1, ?_, ?_⟩
      · show CR x _ (put cs (offs p) us)
        rw [e, put_fst k3]
        exact cr_pr (by rw [CR]; exact ⟨_, _, rfl, k2, h2⟩)
      · show offs p + us.length ≤ cs.length
        rw [e, List.length_append]; omega
    · rename_i a b k q he
      obtain ⟨rfl, rfl⟩ := List.cons.inj he
      rw [CR] at hc
      obtain ⟨c1, c2, e, h1, h2⟩ := hc
      have l1 : c1.length = a.sz := cr_len h1
      cases hk : Nat.beq k a.sz with
      | false => rw [hk] at h; cases h
      | true =>
        rw [hk] at h
        have hk := Nat.eq_of_beq_eq_true hk
        obtain ⟨y, k1, k2, k3⟩ := ih _ _ _ _ h h2 hu
        refine ⟨_, k1, ?_, ?_⟩
        · show CR x _ (put cs (k + offs p) us)
          rw [e, put_snd (o := offs p) (by omega) k3]
          exact cr_pr (by rw [CR]; exact ⟨_, _, rfl, h1, k2⟩)
        · show k + offs p + us.length ≤ cs.length
          rw [e, List.length_append]; omega
    · rename_i he
      obtain ⟨rfl, rfl⟩ := List.cons.inj he
      obtain ⟨y, k1, k2, k3⟩ := ih _ _ _ _ h (cr_oneI.1 hc) hu
      exact ⟨_, k1, cr_one k2, k3⟩
    · cases h
theorem form_one (g : Bool) {c : List Value} (h : ∀ u ∈ c, u.oneCell' = true) (hl : g = false → c.length = 1) : (form g c).cells = c.toArray := by
  cases g with
  | true => rfl
  | false =>
    match c, hl rfl, h with
    | [u], _, h =>
      have := h u (by simp)
      show u.cells = #[u]
      cases u <;> first | rfl | cases this
theorem cr_cell : ∀ (v : AV) {cs : List Value}, CR x v cs → ∀ u ∈ cs, u.oneCell' = true := by
  intro v
  induction v using AV.rec (motive_2 := fun _ => True) with
  | dat t d => intro cs h; exact t.kd.one (cr_dat.1 h)
  | pr a b ha hb =>
    intro cs h u hu
    rw [CR] at h
    obtain ⟨c1, c2, e, h1, h2⟩ := h
    rw [e, List.mem_append] at hu
    exact hu.elim (ha h1 u) (hb h2 u)
  | one a ha => intro cs h; exact ha (cr_oneI.1 h)
  | ptr i p => intro cs h u hu; rw [CR] at h; obtain ⟨_, b, _, e⟩ := h; rw [e] at hu; rw [List.mem_singleton.1 hu]; rfl
  | nilp => intro cs h u hu; rw [CR] at h; rw [h] at hu; rw [List.mem_singleton.1 hu]; rfl
  | rdp t d => intro cs h u hu; rw [CR] at h; obtain ⟨b, o, c, e, _⟩ := h; rw [e] at hu; rw [List.mem_singleton.1 hu]; rfl
  | view i => intro cs h u hu; rw [CR] at h; rw [h.2] at hu; rw [List.mem_singleton.1 hu]; rfl
  | pre i n => intro cs h u hu; rw [CR] at h; rw [h.2.2] at hu; rw [List.mem_singleton.1 hu]; rfl
  | tgt i n => intro cs h u hu; rw [CR] at h; rw [h.2.2] at hu; rw [List.mem_singleton.1 hu]; rfl
  | win i o n => intro cs h u hu; rw [CR] at h; obtain ⟨_, _, q, c, _, _, _, e⟩ := h; rw [e] at hu; rw [List.mem_singleton.1 hu]; rfl
  | nils => intro cs h u hu; rw [CR] at h; rw [h] at hu; rw [List.mem_singleton.1 hu]; rfl
  | cut t => intro cs h u hu; rw [CR] at h; obtain ⟨q, e⟩ := h; rw [e] at hu; rw [List.mem_singleton.1 hu]; rfl
  | nilw t => intro cs h u hu; rw [CR] at h; obtain ⟨q, _, e⟩ := h; rw [e] at hu; rw [List.mem_singleton.1 hu]; rfl
  | sln t d => intro cs h u hu; rw [CR] at h; obtain ⟨p, c, e, _⟩ := h; rw [e] at hu; rw [List.mem_singleton.1 hu]; rfl
  | mp i => intro cs h u hu; rw [CR] at h; obtain ⟨_, b, _, e⟩ := h; rw [e] at hu; rw [List.mem_singleton.1 hu]; rfl
  | nilm => intro cs h u hu; rw [CR] at h; rw [h] at hu; rw [List.mem_singleton.1 hu]; rfl
  | fn f fs ks _ _ => intro cs h u hu; rw [CR] at h; obtain ⟨l, m, e, _⟩ := h; rw [e] at hu; rw [List.mem_singleton.1 hu]; rfl
  | nilf => intro cs h u hu; rw [CR] at h; rw [h] at hu; rw [List.mem_singleton.1 hu]; rfl
  | iface t v _ => intro cs h u hu; rw [CR] at h; obtain ⟨c, e, _⟩ := h; rw [e] at hu; rw [List.mem_singleton.1 hu]; rfl
  | nilI => intro cs h u hu; rw [CR] at h; rw [h] at hu; rw [List.mem_singleton.1 hu]; rfl
  | tup l _ => intro cs h; rw [CR] at h; exact h.elim
  | undef => intro cs h; rw [CR] at h; exact h.elim
  | nil => trivial
  | cons _ _ _ _ => trivial
theorem agg_sz : ∀ {v : AV} {cs : List Value}, CR x v cs → v.isAgg = false → v.sz = 1 := by
  intro v cs h hg
  cases v with
  | dat t d => cases t <;> first | rfl | cases hg
  | pr a b => cases hg
  | one a => cases hg
  | _ => rfl
theorem cr_form {v : AV} {cs : List Value} (h : CR x v cs) : (form v.isAgg cs).cells = cs.toArray := form_one _ (cr_cell v h) (fun hg => by rw [cr_len h]; exact agg_sz h hg)
theorem vr_cr {v : AV} {u : Value} (h : VR x v u) (hp : v.plain = true) : ∃ cs, CR x v cs ∧ u = form v.isAgg cs := by
  cases v with
  | tup l => cases hp
  | undef => cases hp
  | _ => obtain ⟨c, e, h1, _⟩ := h; exact ⟨c, h1, e⟩
theorem cr_vr {v : AV} {cs : List Value} (h : CR x v cs) : VR x v (form v.isAgg cs) := by
  cases v with
  | tup l => rw [CR] at h; exact h.elim
  | undef => rw [CR] at h; exact h.elim
  | _ => exact ⟨cs, rfl, h, cr_len h⟩
end
end Go.Mx
namespace Go.Mx
open Go Go.RowKit Go.Sx
variable [Glb]
section
variable {x : Cx}
theorem eqV_ok {u v : Value} (h : eqV u v = true) : u = v := by
  unfold eqV at h
  split at h <;> simp_all [Nat.beq_eq]
theorem eqVL_ok : ∀ {l m : List Value}, eqVL l m = true → l = m
  | [], [], _ => rfl
  | a :: l, b :: m, h => by
    rw [eqVL, Bool.and_eq_true] at h
    rw [eqV_ok h.1, eqVL_ok h.2]
  | [], _ :: _, h => by cases h
  | _ :: _, [], h => by cases h
theorem encL_ok {α : Type} {e : α → Option (List Value)} {Q : α → List Value → Prop} (he : ∀ y l, e y = some l → Q y l) : ∀ {xs : List α} {cs : List Value}, encT.encL e xs = some cs → Els Q xs cs
  | [], cs, h => by obtain rfl := Option.some.inj h; exact .nil
  | y :: r, cs, h => by
    rw [encT.encL] at h
    split at h
    · rename_i l hl
      split at h
      · rename_i m hm
        obtain rfl := Option.some.inj h
        exact .cons (he y l hl) (encL_ok he hm)
      · cases h
    · cases h
theorem encT_ok {A : Nat → Prop} {hp : Array Obj} : ∀ (t : T) (d : t.den) (cs : List Value), encT t d = some cs → t.kd.K A hp d cs := by
  intro t
  induction t with
  | one t ih => exact ih
  | pair a b iha ihb =>
    intro d cs h
    rw [encT] at h
    split at h
    · rename_i l hl
      split at h
      · rename_i m hm
        obtain rfl := Option.some.inj h
        exact ⟨l, m, rfl, iha _ _ hl, ihb _ _ hm⟩
      · cases h
    · cases h
  | arr n t ih =>
    intro d cs h
    rw [encT] at h
    cases hn : Nat.beq d.length n with
    | false => rw [hn] at h; cases h
    | true =>
      rw [hn] at h
      exact ⟨Nat.eq_of_beq_eq_true hn, encL_ok ih h⟩
  | sl t _ =>
    intro d cs h
    cases d with
    | nil =>
      have h : some [Value.slice none 0 0] = some cs := h
      obtain rfl := Option.some.inj h
      exact ⟨none, 0, rfl, Raw.nil _ _ _ none 0 (Nat.zero_le _)⟩
    | cons _ _ => cases h
  | fn => intro d cs h; cases h
  | flt => intro d cs h; obtain rfl := Option.some.inj h; exact ⟨_, rfl, .inl rfl⟩
  | cpx => intro d cs h; obtain rfl := Option.some.inj h; exact ⟨_, _, rfl, .inl rfl, .inl rfl⟩
  | _ => intro d cs h; obtain rfl := Option.some.inj h; exact rfl
theorem encA_ok : ∀ (v : AV) (cs : List Value), encA v = some cs → CR x v cs := by
  intro v
  induction v using AV.rec (motive_2 := fun _ => True) with
  | dat t d => intro cs h; exact cr_dat.2 (encT_ok t d cs h)
  | pr a b ha hb =>
    intro cs h
    rw [encA] at h
    split at h
    · rename_i l hl
      split at h
      · rename_i m hm
        obtain rfl := Option.some.inj h
        rw [CR]
        exact ⟨l, m, rfl, ha l hl, hb m hm⟩
      · cases h
    · cases h
  | one a ha => intro cs h; exact cr_oneI.2 (ha cs h)
  | nilp => intro cs h; obtain rfl := Option.some.inj h; rw [CR]
  | nils => intro cs h; obtain rfl := Option.some.inj h; rw [CR]
  | nilm => intro cs h; obtain rfl := Option.some.inj h; rw [CR]
  | nilf => intro cs h; obtain rfl := Option.some.inj h; rw [CR]
  | nilI => intro cs h; obtain rfl := Option.some.inj h; rw [CR]
  | nil => trivial
  | cons _ _ _ _ => trivial
  | _ => intro cs h; cases h
variable {P : Program} {R : Type} {r : R}
theorem zOk_ok {t : TypeId} {v : AV} (h : zOk P t v = true) : ∃ i z, P.info? t = some i ∧ i.zero = some z ∧ CR x v z.cells.toList := by
  unfold zOk at h
  split at h
  · rename_i i hi
    split at h
    · rename_i z cs hz he
      exact ⟨i, z, hi, hz, by rw [eqVL_ok h]; exact encA_ok v cs he⟩
    · cases h
  · cases h
theorem zerK_ok {t : TypeId} {K : AV → Option R} (h : zerK P t K = some r) : ∃ v i z, P.info? t = some i ∧ i.zero = some z ∧ CR x v z.cells.toList ∧ K v = some r := by
  unfold zerK at h
  split at h
  · rename_i v hv
    cases hz : zOk P t v with
    | false => rw [hz] at h; cases h
    | true =>
      rw [hz] at h
      obtain ⟨i, z, h1, h2, h3⟩ := zOk_ok (x := x) hz
      exact ⟨v, i, z, h1, h2, h3, h⟩
  · cases h
theorem run_zero {t : TypeId} {i : TypeInfo} {z : Value} (hi : P.info? t = some i) (hz : i.zero = some z) (w : World) : (zeroValue t).run P w = .ok z w := by
  simp [zeroValue, typeInfo, hi, hz]
theorem run_size {t : TypeId} {n : Nat} (h : szOk P t n = true) (w : World) : (sizeOf t).run P w = .ok n w := by
  unfold szOk at h
  split at h
  · rename_i i hi
    have := Nat.eq_of_beq_eq_true h
    subst this
    simp [sizeOf, typeInfo, hi]
  · cases h
theorem run_agg {t : TypeId} {b : Bool} (h : aggB P t = some b) (w : World) : (isAgg t).run P w = .ok b w := by
  unfold aggB at h
  cases hu : P.underlying t with
  | none => rw [hu] at h; cases h
  | some u =>
    rw [hu] at h
    simp only [isAgg, Sem.run_bind, run_underlying hu, Result.andThen_ok]
    cases u <;> (obtain rfl := Option.some.inj h; simp)
theorem loadOk_ok {t : TypeId} {u : AV} (h : loadOk P t u = true) : aggB P t = some u.isAgg ∧ (u.isAgg = true → szOk P t u.sz = true) := by
  unfold loadOk at h
  split at h
  · rename_i ha
    rw [Bool.and_eq_true] at h
    exact ⟨by rw [ha, h.1], fun _ => h.2⟩
  · rename_i ha
    have : u.isAgg = false := by simpa using h
    exact ⟨by rw [ha, this], fun h2 => by rw [this] at h2; cases h2⟩
  · cases h
end
section
variable {R : Type} {P : Program} {W : Nat → Prop} {S : List AO} {ρ : Nat → Geo} {w : World} {a : Act}
variable {d : Option Nat} {ty T' T2 : TypeId} {pos : String} {af : Array Edge} {g : Option (Nat × Bool)} {y z : Operand} {K : KV R} {r : R}
theorem Aft.box (h : Rel W S ρ w) {w' : World} {b : Nat} {ty : TypeId} {v : AV} {cs : List Value} (hb : w.heap.size ≤ b) (hx : Bx w' b ty cs) (hf : Fr w w' No) (hc : CR (cx W S ρ w) v cs) :
    Aft W S ρ w (S ++ [.box ty v true]) (upd ρ S.length ⟨some ⟨b, 0, none⟩, 0, 1, 0⟩) w' :=
  Aft.push h hf (fun _ p hp => by obtain rfl := Option.some.inj hp; exact hb) (fun le => ⟨b, cs, rfl, hc.up le, cr_len hc, hx, fun h => by cases h⟩)
theorem box_vr {w' : World} {b : Nat} {o : AO} : VR (cx W (S ++ [o]) (upd ρ S.length ⟨some ⟨b, 0, none⟩, 0, 1, 0⟩) w') (.ptr S.length []) (.pointer (some ⟨b, 0, none⟩)) :=
  vr_ptrI (by show S.length < (S ++ [o]).length; simp) (by show (upd ρ S.length _ S.length).a = _; rw [upd_same])
theorem alloc_ok (h : Rel W S ρ w) (hK : zerK P T' (fun v => K (.ptr S.length []) (S ++ [.box T' v true])) = some r) : Comes P W S ρ w ⟨d, .alloc T', ty, pos, af, g⟩ a K r := by
  obtain ⟨v, i, z, h1, h2, h3, hK⟩ := zerK_ok (x := cx W S ρ w) hK
  refine (d_alloc (run_zero h1 h2) rfl).mono fun u w' ⟨b, hv, hb, hl, hx, hf⟩ => ⟨_, _, _, hK, Aft.box h hb hx hf h3, by rw [hv]; exact box_vr⟩
theorem box_ok {v : AV} (h : Rel W S ρ w) (hd : a.defers = []) (hy : VR (cx W S ρ w) v (a.eval y)) (hK : cond v.plain (K (.ptr S.length []) (S ++ [.box T' v true])) none = some r) : Comes P W S ρ w ⟨d, .box T' y, ty, pos, af, g⟩ a K r := by
  cases hp : v.plain with
  | false => rw [hp] at hK; cases hK
  | true =>
    rw [hp] at hK
    obtain ⟨cs, hc, e⟩ := vr_cr hy hp
    have ha := bnd_has (a := a) (Op1 y) hd
    refine (d_box ha (bnd_ev (Nat.le_refl _)) (cs := cs) (by rw [e]; exact cr_form hc)).mono fun u w' ⟨b, hv, hb, hl, hx, hf⟩ => ⟨_, _, _, hK, Aft.box h hb hx hf hc, by rw [hv]; exact box_vr⟩
theorem lies_at {b o : Nat} {cs : List Value} (h : Lies w.heap b o cs) : At w b o cs := by
  obtain ⟨C, T, fr, e, hc⟩ := h
  intro j v hj
  simp only [World.cell?, e]
  exact hc j v hj
theorem bx_lies {b : Nat} {ty : TypeId} {cs : List Value} (h : Bx w b ty cs) : Lies w.heap b 0 cs := ⟨_, _, _, h, fun j v hj => by rw [Nat.zero_add]; simpa using hj⟩
theorem lies_sub {hp : Array Obj} {b o m : Nat} {cs us : List Value} (h : Lies hp b o cs) (hs : ∀ j c, us[j]? = some c → cs[m + j]? = some c) : Lies hp b (o + m) us := by
  obtain ⟨C, T, fr, e, hc⟩ := h
  exact ⟨C, T, fr, e, fun j v hj => by have := hc _ _ (hs j v hj); rwa [← Nat.add_assoc] at this⟩
theorem read_ok {u : AV} {us : List Value} {b o : Nat} (h : Rel W S ρ w) (hd : a.defers = []) (hy : a.eval y = .pointer (some ⟨b, o, none⟩)) (hl : Lies w.heap b o us) (hc : CR (cx W S ρ w) u us) (hK : cond (loadOk P T' u) (K u S) none = some r) :
    Comes P W S ρ w ⟨d, .load T' y, ty, pos, af, g⟩ a K r := by
  cases ho : loadOk P T' u with
  | false => rw [ho] at hK; cases hK
  | true =>
    rw [ho] at hK
    obtain ⟨h1, h2⟩ := loadOk_ok ho
    have ha := bnd_has (a := a) (Op1 y) hd
    have e1 : Sx.ev (bnd a (Op1 y)) y = some (.pointer (some ⟨b, o, none⟩)) := by rw [bnd_ev (Nat.le_refl _), hy]
    have hat := lies_at hl
    cases hg : u.isAgg with
    | true =>
      rw [hg] at h1
      refine Comes.is h (d_loadAgg ha e1 hat (run_agg h1) (run_size (h2 hg)) (cr_len hc)) hK ?_
      have := cr_vr hc
      rw [hg] at this
      exact this
    | false =>
      rw [hg] at h1
      have hl1 : us.length = 1 := by rw [cr_len hc]; exact agg_sz hc hg
      obtain ⟨c, rfl⟩ : ∃ c, us = [c] := List.length_eq_one_iff.1 hl1
      refine Comes.is h (d_load ha e1 (by have := hat 0 c rfl; rwa [Nat.add_zero] at this) (run_agg h1)) hK ?_
      have := cr_vr hc
      rw [hg] at this
      exact this
theorem row_lies {i : Nat} {e : TypeId} {t : T} {xs : List t.den} {m : Md} (h : Rel W S ρ w) (hi : S[i]? = some (.row e t xs m)) : (ρ i).n = xs.length ∧ (ρ i).s = t.sz ∧ xs.length ≤ (ρ i).c ∧ (ρ i).c ≤ maxLen ∧ ∃ cells, Els (t.kd.K (cx W S ρ w).A w.heap) xs cells ∧ (xs ≠ [] → ∃ b, (ρ i).a = some ⟨b, 0, none⟩ ∧ Lies w.heap b 0 cells) := by
  have r := h.ob i _ hi
  cases m with
  | own =>
    obtain ⟨h1, h2, h3⟩ := r
    refine ⟨h1, h2, ?_⟩
    · obtain ⟨cells, hr, he⟩ := h3
      rcases own_none hr with ⟨ha, hm, hcc⟩ | ⟨b, cur, ha, hg, hm, hcm, hs, ht⟩
      · have hx := List.length_eq_zero_iff.1 hm
        exact ⟨by rw [hm]; exact Nat.zero_le _, by rw [hcc]; exact Nat.zero_le _, cells, he, fun h => absurd hx h⟩
      · refine ⟨hm, hcm, cells, he, fun _ => ⟨b, ha, cur, e, (0, 0), hg, fun j v hj => ?_⟩⟩
        rw [Nat.zero_add]
        rw [← ht] at hj
        have hlt := (List.getElem?_eq_some_iff.1 hj).1
        rw [List.length_take] at hlt
        rw [List.getElem?_take, if_pos (by omega)] at hj
        simpa using hj
  | ro =>
    obtain ⟨h1, h2, h3, h4, cells, he, hl⟩ := r
    exact ⟨h1, h2, h3, h4, cells, he, fun hne => by obtain ⟨b, ha, _, hl⟩ := hl hne; exact ⟨b, ha, hl⟩⟩
  | fz =>
    obtain ⟨h1, h2, h3, h4, cells, he, hl⟩ := r
    exact ⟨h1, h2, h3, h4, cells, he, fun hne => by obtain ⟨b, ha, _, hl⟩ := hl hne; exact ⟨b, ha, hl⟩⟩
theorem load_ok {v : AV} (h : Rel W S ρ w) (hd : a.defers = []) (hy : VR (cx W S ρ w) v (a.eval y)) (hK : loadA P T' v S K = some r) : Comes P W S ρ w ⟨d, .load T' y, ty, pos, af, g⟩ a K r := by
  unfold loadA at hK
  split at hK
  · rename_i q p
    obtain ⟨hq, b, hb, e⟩ := vr_ptr hy
    split at hK
    · rename_i bt v m hi
      obtain ⟨b', cs, e1, hc, hl, hx, _⟩ := h.ob q _ hi
      have hbb : b' = b := by
        have hb : (ρ q).a = _ := hb
        rw [e1] at hb
        exact congrArg Addr.block (Option.some.inj hb)
      subst hbb
      obtain ⟨u, us, k1, k2, k3, k4⟩ := getK_ok p v cs hK hc hl
      refine read_ok h hd e ?_ k2 k1
      have := lies_sub (m := offs p) (bx_lies hx) k4
      rwa [Nat.zero_add] at this
    · rename_i e' t xs m hi
      obtain ⟨_, _, _, _, cells, he, hl⟩ := row_lies h hi
      split at hK
      · rename_i i s p
        cases hs : Nat.beq s t.sz with
        | false => rw [hs] at hK; cases hK
        | true =>
          rw [hs] at hK
          have hs := Nat.eq_of_beq_eq_true hs
          obtain ⟨x, hx, hK⟩ := bind_elim hK
          obtain ⟨hi', rfl⟩ := List.getElem?_eq_some_iff.1 hx
          obtain ⟨c, hKd, hg⟩ := he.get (fun _ _ h => kd_len h) i hi'
          obtain ⟨b', ha, hL⟩ := hl (by intro e; rw [e] at hi'; simp at hi')
          have hbb : b' = b := by
            have hb : (ρ q).a = _ := hb
            rw [ha] at hb
            exact congrArg Addr.block (Option.some.inj hb)
          subst hbb
          obtain ⟨u, us, k1, k2, k3, k4⟩ := getK_ok p _ c hK (cr_dat.2 hKd) (cr_len (cr_dat.2 hKd))
          refine read_ok h hd e ?_ k2 k1
          have := lies_sub (m := i * s + offs p) hL (us := us) (fun j v hj => by
            have := hg _ _ (k4 j v hj)
            rw [hs, Nat.add_assoc]
            exact this)
          rwa [Nat.zero_add] at this
      · cases hK
    · cases hK
  · rename_i e' d
    obtain ⟨b, o, c, e, _, hl, hK'⟩ := vr_rdp hy
    exact read_ok h hd e hl (cr_dat.2 hK') hK
  · cases hK
end
end Go.Mx
namespace Go.Mx
open Go Go.RowKit Go.Sx
variable [Glb]
section
variable {x : Cx}
theorem raw_sub {α : Type} {kd : Kd α} {a q : Option Addr} {c c' : Nat} {xs : List α} {o n : Nat} (r : RowR x x.A kd a c xs) (hn : o + n ≤ xs.length) (h1 : n ≤ c') (h2 : c' ≤ maxLen)
    (hq : n ≠ 0 → ∃ b, a = some ⟨b, 0, none⟩ ∧ q = some ⟨b, o * kd.sz, none⟩) : Raw x.A kd x.h q c' ((xs.drop o).take n) ∧ ((xs.drop o).take n).length = n := by
  have hl : ((xs.drop o).take n).length = n := by rw [List.length_take, List.length_drop]; omega
  refine ⟨?_, hl⟩
  obtain ⟨_, _, cells, he, hm⟩ := r
  refine ⟨by omega, h2, (cells.drop (o * kd.sz)).take (n * kd.sz), (he.drop (fun _ _ h => kd.len h) o).take (fun _ _ h => kd.len h) n, fun hne => ?_⟩
  have hn0 : n ≠ 0 := by intro e; subst e; rw [List.take_zero] at hne; exact hne rfl
  obtain ⟨b, ha, hb⟩ := hq hn0
  obtain ⟨b', ha', hA, C, T, fr, hg, hc⟩ := hm (by intro e; rw [e] at hl; simp at hl; omega)
  rw [ha] at ha'
  have := congrArg Addr.block (Option.some.inj ha')
  simp only at this
  subst this
  refine ⟨b, _, C, T, fr, hb, hA, hg, fun j v hj => ?_⟩
  have hlt := (List.getElem?_eq_some_iff.1 hj).1
  rw [List.length_take] at hlt
  rw [List.getElem?_take, if_pos (by omega), List.getElem?_drop] at hj
  have := hc _ _ hj
  rwa [Nat.zero_add] at this
end
section
variable {W : Nat → Prop} {S S' : List AO} {ρ : Nat → Geo} {w : World}
theorem Aft.freeze (h : Rel W S ρ w) {i : Nat} {e : TypeId} {t : T} {xs : List t.den} (hi : S[i]? = some (.row e t xs .own)) : Aft W S ρ w (S.set i (.row e t xs .fz)) ρ w := by
  refine Aft.put h hi (Fr.refl _ _) (fun h => by cases h) (fun le => ?_)
  obtain ⟨h1, h2, h3, h4, cells, he, hl⟩ := row_lies h hi
  refine ⟨h1, h2, h3, h4, cells, he.imp (fun _ _ hK => le.K (x := cx W S ρ w) hK), fun hne => ?_⟩
  obtain ⟨b, ha, hL⟩ := hl hne
  refine ⟨b, ha, ?_, hL⟩
  rintro (hW | ⟨j, o, p, hj, ho, haj, hbj⟩)
  · exact h.wd b ⟨i, _, _, hi, rfl, ha, rfl⟩ hW
  · rcases set_get hj with ⟨hne', hj⟩ | ⟨_, rfl, _⟩
    · exact h.dj j i o _ p _ hne' hj hi ho rfl haj ha hbj
    · cases ho
theorem fz_dat (h : Rel W S ρ w) {i : Nat} {e : TypeId} {t : T} {xs : List t.den} (hi : S[i]? = some (.row e t xs .fz)) {o n c' : Nat} {q : Option Addr} (hn : o + n ≤ (ρ i).n) (h1 : n ≤ c') (h2 : c' ≤ maxLen)
    (hq : n ≠ 0 → ∃ b, (ρ i).a = some ⟨b, 0, none⟩ ∧ q = some ⟨b, o * (ρ i).s, none⟩) : CR (cx W S ρ w) (.dat (.sl t) ((xs.drop o).take n)) [.slice q n c'] := by
  obtain ⟨g1, g2, r⟩ := h.ob i _ hi
  obtain ⟨k1, k2⟩ := raw_sub (x := cx W S ρ w) r (o := o) (n := n) (c' := c') (q := q) (by omega) h1 h2 (fun hn0 => by
    obtain ⟨b, e1, e2⟩ := hq hn0
    exact ⟨b, e1, by rw [e2, g2, T.kd_sz]⟩)
  refine (cr_dat (t := .sl t)).2 ⟨q, c', ?_, k1⟩
  show [Value.slice q n c'] = [Value.slice q ((xs.drop o).take n).length c']
  rw [k2]
theorem row_a (h : Rel W S ρ w) {i : Nat} {e : TypeId} {t : T} {xs : List t.den} {m : Md} (hi : S[i]? = some (.row e t xs m)) (hn : xs ≠ []) : ∃ b, (ρ i).a = some ⟨b, 0, none⟩ := by
  obtain ⟨_, _, _, _, _, _, hl⟩ := row_lies h hi
  obtain ⟨b, ha, _⟩ := hl hn
  exact ⟨b, ha⟩
theorem sl_all (h : Rel W S ρ w) {i : Nat} {e : TypeId} {t : T} {xs : List t.den} (hi : S[i]? = some (.row e t xs .fz)) {cs : List Value} (hc : CR (cx W S ρ w) (.view i) cs) : CR (cx W S ρ w) (.dat (.sl t) xs) cs := by
  rw [CR] at hc
  rw [hc.2]
  obtain ⟨g1, g2, g3, g4, _⟩ := row_lies h hi
  have := fz_dat h hi (o := 0) (n := xs.length) (c' := (ρ i).c) (q := (ρ i).a) (by omega) g3 g4 (fun hn => by
    obtain ⟨b, ha⟩ := row_a h hi (by intro e; rw [e] at hn; exact hn rfl)
    exact ⟨b, ha, by rw [Nat.zero_mul]; exact ha⟩)
  rw [List.drop_zero, List.take_length] at this
  show CR _ _ [.slice (ρ i).a (ρ i).n (ρ i).c]
  rw [g1]
  exact this
theorem sl_pre (h : Rel W S ρ w) {i n : Nat} {e : TypeId} {t : T} {xs : List t.den} (hi : S[i]? = some (.row e t xs .fz)) {cs : List Value} (hc : CR (cx W S ρ w) (.pre i n) cs) : CR (cx W S ρ w) (.dat (.sl t) (xs.take n)) cs := by
  rw [CR] at hc
  obtain ⟨_, hn, e⟩ := hc
  rw [e]
  obtain ⟨g1, g2, g3, g4, _⟩ := row_lies h hi
  have hn : n ≤ (ρ i).n := hn
  have := fz_dat h hi (o := 0) (n := n) (c' := (ρ i).c) (q := (ρ i).a) (by omega) (by omega) g4 (fun hn0 => by
    obtain ⟨b, ha⟩ := row_a h hi (by intro e; rw [e] at g1; simp at g1; omega)
    exact ⟨b, ha, by rw [Nat.zero_mul]; exact ha⟩)
  rw [List.drop_zero] at this
  exact this
theorem sl_tgt (h : Rel W S ρ w) {i n : Nat} {e : TypeId} {t : T} {xs : List t.den} (hi : S[i]? = some (.row e t xs .fz)) {cs : List Value} (hc : CR (cx W S ρ w) (.tgt i n) cs) : CR (cx W S ρ w) (.dat (.sl t) (xs.take n)) cs := by
  rw [CR] at hc
  obtain ⟨_, hn, e⟩ := hc
  rw [e]
  obtain ⟨g1, g2, g3, g4, _⟩ := row_lies h hi
  have hn : n ≤ (ρ i).n := hn
  have := fz_dat h hi (o := 0) (n := n) (c' := n) (q := (ρ i).a) (by omega) (Nat.le_refl _) (by omega) (fun hn0 => by
    obtain ⟨b, ha⟩ := row_a h hi (by intro e; rw [e] at g1; simp at g1; omega)
    exact ⟨b, ha, by rw [Nat.zero_mul]; exact ha⟩)
  rw [List.drop_zero] at this
  exact this
theorem sl_win (h : Rel W S ρ w) {i o n : Nat} {e : TypeId} {t : T} {xs : List t.den} (hi : S[i]? = some (.row e t xs .fz)) {cs : List Value} (hc : CR (cx W S ρ w) (.win i o n) cs) : CR (cx W S ρ w) (.dat (.sl t) ((xs.drop o).take n)) cs := by
  rw [CR] at hc
  obtain ⟨_, hn, q, c, h1, h2, h3, e⟩ := hc
  rw [e]
  exact fz_dat h hi hn h1 h2 h3
theorem frz_ok (h : Rel W S ρ w) {v v' : AV} {cs : List Value} (hf : frz S v = (v', S')) (hc : CR (cx W S ρ w) v cs) : Aft W S ρ w S' ρ w ∧ CR (cx W S' ρ w) v' cs ∧ ∀ j, j ∉ v.ids → S'[j]? = S[j]? := by
  have same : (v, S) = (v', S') → Aft W S ρ w S' ρ w ∧ CR (cx W S' ρ w) v' cs ∧ ∀ j, j ∉ v.ids → S'[j]? = S[j]? := by
    intro e
    obtain ⟨rfl, rfl⟩ := Prod.mk.inj e
    exact ⟨Aft.refl h, hc, fun _ _ => rfl⟩
  have turn : ∀ {i : Nat} {e : TypeId} {t : T} {xs : List t.den} {u : AV}, S[i]? = some (.row e t xs .own) → v.ids = [i] → (u, S.set i (.row e t xs .fz)) = (v', S') → (∀ S1, Rel W S1 ρ w → S1[i]? = some (.row e t xs .fz) → CR (cx W S1 ρ w) v cs → CR (cx W S1 ρ w) u cs) → Aft W S ρ w S' ρ w ∧ CR (cx W S' ρ w) v' cs ∧ ∀ j, j ∉ v.ids → S'[j]? = S[j]? := by
    intro i e t xs u hi hids he hu
    obtain ⟨rfl, rfl⟩ := Prod.mk.inj he
    have ht := Aft.freeze h hi
    refine ⟨ht, hu _ ht.rel (List.getElem?_set_self (List.getElem?_eq_some_iff.1 hi).1) (hc.up ht.le), fun j hj => ?_⟩
    rw [hids] at hj
    rw [List.getElem?_set_ne (fun e => hj (by simp [e]))]
  have told : ∀ {u : AV}, (u, S) = (v', S') → CR (cx W S ρ w) u cs → Aft W S ρ w S' ρ w ∧ CR (cx W S' ρ w) v' cs ∧ ∀ j, j ∉ v.ids → S'[j]? = S[j]? := by
    intro u he hu
    obtain ⟨rfl, rfl⟩ := Prod.mk.inj he
    exact ⟨Aft.refl h, hu, fun _ _ => rfl⟩
  unfold frz at hf
  split at hf
  · split at hf
    · rename_i hi; exact turn hi (by rw [AV.ids]) hf (fun S1 h1 h2 h3 => sl_all h1 h2 h3)
    · rename_i hi; exact told hf (sl_all h hi hc)
    · exact same hf
  · split at hf
    · rename_i hi; exact turn hi (by rw [AV.ids]) hf (fun S1 h1 h2 h3 => sl_pre h1 h2 h3)
    · rename_i hi; exact told hf (sl_pre h hi hc)
    · exact same hf
  · split at hf
    · rename_i hi; exact turn hi (by rw [AV.ids]) hf (fun S1 h1 h2 h3 => sl_tgt h1 h2 h3)
    · rename_i hi; exact told hf (sl_tgt h hi hc)
    · exact same hf
  · split at hf
    · rename_i hi; exact turn hi (by rw [AV.ids]) hf (fun S1 h1 h2 h3 => sl_win h1 h2 h3)
    · rename_i hi; exact told hf (sl_win h hi hc)
    · exact same hf
  · exact same hf
  · exact same hf
end
end Go.Mx
namespace Go.Mx
open Go Go.RowKit Go.Sx
variable [Glb]
section
variable {W : Nat → Prop} {S S' : List AO} {ρ : Nat → Geo} {w : World}
theorem cr_mkpr' {x : Cx} {a b : AV} {cs : List Value} (h : CR x (.pr a b) cs) : CR x (frzP.mkpr' a b) cs := by
  unfold frzP.mkpr'
  split
  · exact h
  · exact cr_pr h
theorem frzP_ok : ∀ (v : AV) {S S' : List AO} {v' : AV} {cs : List Value}, Rel W S ρ w → frzP v S = (v', S') → CR (cx W S ρ w) v cs → Aft W S ρ w S' ρ w ∧ CR (cx W S' ρ w) v' cs ∧ ∀ j, j ∉ v.ids → S'[j]? = S[j]? := by
  intro v
  induction v using AV.rec (motive_2 := fun _ => True) with
  | pr a b iha ihb =>
    intro S S' v' cs h hf hc
    unfold frzP at hf
    obtain ⟨rfl, rfl⟩ := Prod.mk.inj hf
    rw [CR] at hc
    obtain ⟨c1, c2, e, h1, h2⟩ := hc
    obtain ⟨A1, k1, n1⟩ := iha h (S' := (frzP a S).2) rfl h1
    obtain ⟨A2, k2, n2⟩ := ihb A1.rel (S' := (frzP b (frzP a S).2).2) rfl (h2.up A1.le)
    refine ⟨A1.trans A2, cr_mkpr' (by rw [CR]; exact ⟨c1, c2, e, k1.up A2.le, k2⟩), fun j hj => ?_⟩
    rw [AV.ids, List.mem_append] at hj
    exact (n2 j (fun h => hj (.inr h))).trans (n1 j (fun h => hj (.inl h)))
  | one a iha =>
    intro S S' v' cs h hf hc
    unfold frzP at hf
    obtain ⟨rfl, rfl⟩ := Prod.mk.inj hf
    obtain ⟨A1, k1, n1⟩ := iha h (S' := (frzP a S).2) rfl (cr_oneI.1 hc)
    exact ⟨A1, cr_one k1, fun j hj => n1 j (by rw [AV.ids] at hj; exact hj)⟩
  | nil => trivial
  | cons _ _ _ _ => trivial
  | _ => intro S S' v' cs h hf hc; exact frz_ok h hf hc
theorem frz_agg : ∀ {u u' : AV} {S S1 : List AO}, frzP u S = (u', S1) → u.plain = true → u.isAgg = u'.isAgg := by
  intro u u' S S1 h hp
  have mk : ∀ a b : AV, (mkpr a b).isAgg = true := fun a b => by unfold mkpr; split <;> rfl
  have mk1 : ∀ a : AV, (mkone a).isAgg = true := fun a => by unfold mkone; split <;> rfl
  have leaf : frz S u = (u', S1) → u.isAgg = u'.isAgg := by
    intro h
    unfold frz at h
    split at h
    · split at h <;> (obtain ⟨rfl, _⟩ := Prod.mk.inj h; rfl)
    · split at h <;> (obtain ⟨rfl, _⟩ := Prod.mk.inj h; rfl)
    · split at h <;> (obtain ⟨rfl, _⟩ := Prod.mk.inj h; rfl)
    · split at h <;> (obtain ⟨rfl, _⟩ := Prod.mk.inj h; rfl)
    · obtain ⟨rfl, _⟩ := Prod.mk.inj h; rfl
    · obtain ⟨rfl, _⟩ := Prod.mk.inj h; rfl
  cases u with
  | pr a b =>
    unfold frzP at h
    obtain ⟨rfl, _⟩ := Prod.mk.inj h
    show true = _
    unfold frzP.mkpr'
    split
    · rfl
    · exact (mk _ _).symm
  | one a =>
    unfold frzP at h
    obtain ⟨rfl, _⟩ := Prod.mk.inj h
    exact (mk1 _).symm
  | _ => exact leaf h
theorem frzL_ok : ∀ (l : List AV) {S S' : List AO} {l' : List AV} {css : List (List Value)}, Rel W S ρ w → frzL l S = (l', S') → A2 (fun v cs => CR (cx W S ρ w) v cs) l css → Aft W S ρ w S' ρ w ∧ A2 (fun v cs => CR (cx W S' ρ w) v cs) l' css
  | [], S, S', l', css, h, hf, hc => by
    obtain ⟨rfl, rfl⟩ := Prod.mk.inj hf
    cases hc
    exact ⟨Aft.refl h, .nil⟩
  | v :: l, S, S', l', css, h, hf, hc => by
    unfold frzL at hf
    obtain ⟨rfl, rfl⟩ := Prod.mk.inj hf
    cases hc with
    | cons h1 h2 =>
      obtain ⟨A1, k1, _⟩ := frzP_ok v h (S' := (frzP v S).2) rfl h1
      have up : ∀ {l : List AV} {css : List (List Value)}, A2 (fun u cs => CR (cx W S ρ w) u cs) l css → A2 (fun u cs => CR (cx W (frzP v S).2 ρ w) u cs) l css := by
        intro l css hh
        induction hh with
        | nil => exact .nil
        | cons h1 _ ih => exact .cons (h1.up A1.le) ih
      obtain ⟨A2', k2⟩ := frzL_ok l A1.rel (S' := (frzL l (frzP v S).2).2) rfl (up h2)
      exact ⟨A1.trans A2', .cons (k1.up A2'.le) k2⟩
end
section
variable {R : Type} {P : Program} {W : Nat → Prop} {S : List AO} {ρ : Nat → Geo} {w : World} {a : Act}
variable {d : Option Nat} {ty T' T2 : TypeId} {pos : String} {af : Array Edge} {g : Option (Nat × Bool)} {y z : Operand} {K : KV R} {r : R}
theorem vr_undef {x : Cx} : VR x .undef undef := rfl
theorem store_at {b o : Nat} {TB : TypeId} {cs us : List Value} {v : AV} (hd : a.defers = []) (hy : a.eval y = .pointer (some ⟨b, o, none⟩)) (hb : Bx w b TB cs) {x : Cx} (hc : CR x v us) (hz : a.eval z = form v.isAgg us) (hs : szOk P T' v.sz = true) (ho : o + us.length ≤ cs.length) :
    Does P ⟨d, .store T' y z, ty, pos, af, g⟩ a w (fun u w' => u = undef ∧ Bx w' b TB (put cs o us) ∧ Fr w w' (fun k => k = b)) := by
  have ha := bnd_has (a := a) (Op1 y + Op1 z) hd
  have e1 : Sx.ev (bnd a (Op1 y + Op1 z)) y = some (.pointer (some ⟨b, o, none⟩)) := by rw [bnd_ev (by omega), hy]
  have e2 : Sx.ev (bnd a (Op1 y + Op1 z)) z = some (form v.isAgg us) := by rw [bnd_ev (by omega), hz]
  have hl := cr_len hc
  rw [← hl] at hs
  obtain ⟨w', h1, h2, h3⟩ := Sx.run_store (P := P) (T := T') (o := o) hb (cr_form hc) (cr_cell v hc) (run_size hs) rfl ho
  exact Does.unit (w' := w') (by simp [execOp, hy, hz, Instr.storeAt, Instr.sureAddr, h1]) |>.mono fun u w'' ⟨e1, e2⟩ => by subst e1; subst e2; exact ⟨rfl, h2, h3⟩
theorem own_bx {A : Nat → Prop} {e : TypeId} {t : T} {p : Option Addr} {c : Nat} {xs : List t.den} (h : Ow A w e t.kd p c xs) (hne : xs ≠ []) : ∃ b cur, p = some ⟨b, 0, none⟩ ∧ Bx w b e cur ∧ xs.length ≤ c ∧ c ≤ maxLen ∧ cur.length = c * t.kd.sz ∧ Els (t.kd.K A w.heap) xs (cur.take (xs.length * t.kd.sz)) := by
  obtain ⟨cells, hr, he⟩ := h
  rcases own_none hr with ⟨_, hm, _⟩ | ⟨b, cur, ha, hg, hm, hcm, hs, ht⟩
  · exact absurd (List.length_eq_zero_iff.1 hm) hne
  · exact ⟨b, cur.toList, ha, by unfold Bx; rw [Array.toArray_toList]; exact hg, hm, hcm, by simpa using hs, by rw [ht]; exact he⟩
theorem bx_own {A : Nat → Prop} {e : TypeId} {t : T} {c : Nat} {xs : List t.den} {b : Nat} {cur : List Value} (hb : Bx w b e cur) (hm : xs.length ≤ c) (hcm : c ≤ maxLen) (hs : cur.length = c * t.kd.sz) (he : Els (t.kd.K A w.heap) xs (cur.take (xs.length * t.kd.sz))) : Ow A w e t.kd (some ⟨b, 0, none⟩) c xs :=
  ⟨_, ⟨he.length (fun _ _ h => t.kd.len h), .inr ⟨b, c, cur.toArray, rfl, Nat.zero_le _, hb, hm, hcm, by simpa using hs, by simp⟩⟩, he⟩
theorem store_ok {v u : AV} (h : Rel W S ρ w) (hd : a.defers = []) (hy : VR (cx W S ρ w) v (a.eval y)) (hz : VR (cx W S ρ w) u (a.eval z)) (hK : storeA P T' v u S K = some r) : Comes P W S ρ w ⟨d, .store T' y z, ty, pos, af, g⟩ a K r := by
  unfold storeA at hK
  split at hK
  · rename_i q p
    obtain ⟨hq, b, hb, e⟩ := vr_ptr hy
    split at hK
    · rename_i bt v0 hi
      obtain ⟨b', cs, e1, hc, hl, hx, _⟩ := h.ob q _ hi
      have hbb : b' = b := by
        have hb : (ρ q).a = _ := hb
        rw [e1] at hb
        exact congrArg Addr.block (Option.some.inj hb)
      subst hbb
      cases hs : szOk P T' u.sz && u.plain with
      | false => rw [hs] at hK; cases hK
      | true =>
        rw [hs] at hK
        rw [Bool.and_eq_true] at hs
        obtain ⟨us, hu, ez⟩ := vr_cr hz hs.2
        obtain ⟨y', k1, k2, k3⟩ := setK_ok p v0 cs u us hK hc hu
        refine (store_at hd e hx hu ez hs.1 k3).mono fun u' w' ⟨eu, hb', hf⟩ => ?_
        refine ⟨_, _, ρ, k1, Aft.put h hi (hf.mono fun k _ hk => ⟨rfl, _, e1, hk.symm⟩) (fun _ => rfl) (fun le => ⟨b', _, e1, k2.up le, cr_len k2, hb', fun h => by cases h⟩), by rw [eu]; exact vr_undef⟩
    · rename_i e' t xs hi
      split at hK
      · rename_i i s p
        cases hs : Nat.beq s t.sz && !u.ids.contains q with
        | false => rw [hs] at hK; cases hK
        | true =>
          rw [hs] at hK
          rw [Bool.and_eq_true] at hs
          have hsz := Nat.eq_of_beq_eq_true hs.1
          have hnq : q ∉ u.ids := by simpa using hs.2
          obtain ⟨x, hx, hK⟩ := bind_elim hK
          obtain ⟨hi', rfl⟩ := List.getElem?_eq_some_iff.1 hx
          have hne : xs ≠ [] := by intro e; rw [e] at hi'; simp at hi'
          cases hfz : frzP u S with
          | mk u' S1 =>
            rw [hfz] at hK
            have hK : cond (szOk P T' u'.sz && u'.plain) (setK (.dat t xs[i]) p u' fun y => match dec t y with
              | some z => K .undef (S1.set q (.row e' t (xs.set i z) .own))
              | none => none) none = some r := hK
            cases hs2 : szOk P T' u'.sz && u'.plain with
            | false => rw [hs2] at hK; cases hK
            | true =>
              rw [hs2] at hK
              rw [Bool.and_eq_true] at hs2
              have hup : u.plain = true := by
                cases u with
                | tup l => obtain ⟨rfl, _⟩ := Prod.mk.inj hfz; cases hs2.2
                | undef => obtain ⟨rfl, _⟩ := Prod.mk.inj hfz; cases hs2.2
                | _ => rfl
              obtain ⟨us, hu, ez⟩ := vr_cr hz hup
              obtain ⟨A1, hu', hn⟩ := frzP_ok u h hfz hu
              have hi1 : S1[q]? = some (.row e' t xs .own) := (hn q hnq).trans hi
              obtain ⟨g1, g2, g3⟩ := A1.rel.ob q _ hi1
              · obtain ⟨b', cur, ea, hbx, hm, hcm, hcs, he⟩ := own_bx g3 hne
                have hbb : b' = b := by
                  have hb : (ρ q).a = _ := hb
                  rw [ea] at hb
                  exact congrArg Addr.block (Option.some.inj hb)
                subst hbb
                obtain ⟨c, hKc, hg⟩ := he.get (fun _ _ h => kd_len h) i hi'
                obtain ⟨y', k1, k2, k3⟩ := setK_ok p _ c u' us hK (cr_dat.2 hKc) hu'
                split at k1
                · rename_i z' hz'
                  have hKz := dec_ok t y' _ hz' k2
                  have hcl : c.length = t.sz := kd_len hKc
                  have hlen : (cur.take (xs.length * t.kd.sz)).length = xs.length * t.sz := by rw [he.length (fun _ _ h => kd_len h)]
                  have hm2 : i * t.sz + t.sz ≤ xs.length * t.sz := by
                    calc i * t.sz + t.sz = (i + 1) * t.sz := by rw [Nat.add_mul, Nat.one_mul]
                      _ ≤ xs.length * t.sz := Nat.mul_le_mul_right _ hi'
                  have hcur : xs.length * t.sz ≤ cur.length := by rw [← hlen, List.length_take]; exact Nat.min_le_right _ _
                  have ez' : a.eval z = form u'.isAgg us := by
                    rw [ez]
                    have hsu : u.isAgg = u'.isAgg := frz_agg hfz hup
                    rw [hsu]
                  have ho : i * t.sz + offs p + us.length ≤ cur.length := by omega
                  have e2 : a.eval y = .pointer (some ⟨b', i * t.sz + offs p, none⟩) := by rw [e, ← hsz]; rfl
                  refine (store_at hd e2 hbx hu' ez' hs2.1 ho).mono fun u'' w' ⟨eu, hb', hf⟩ => ?_
                  refine ⟨_, _, ρ, k1, A1.trans (Aft.put A1.rel hi1 (hf.mono fun k _ hk => ⟨rfl, _, ea, hk.symm⟩) (fun _ => rfl) (fun le => ⟨by rw [List.length_set]; exact g1, g2, ?_⟩)), by rw [eu]; exact vr_undef⟩
                  rw [ea]
                  refine bx_own hb' (by rw [List.length_set]; exact hm) hcm (by rw [put_len ho]; exact hcs) ?_
                  rw [List.length_set]
                  have ht : (put cur (i * t.sz + offs p) us).take (xs.length * t.kd.sz) = put (cur.take (xs.length * t.kd.sz)) (i * t.sz + offs p) us := by
                    conv => lhs; rw [← List.take_append_drop (xs.length * t.kd.sz) cur]
                    rw [put_fst (by rw [hlen]; omega), List.take_append_of_le_length (by rw [put_len (by rw [hlen]; omega)]; rw [hlen, T.kd_sz]; exact Nat.le_refl _), List.take_of_length_le (by rw [put_len (by rw [hlen]; omega)]; rw [hlen, T.kd_sz]; exact Nat.le_refl _)]
                  rw [ht, put_mid hcl hg (by rw [hlen]; exact hm2) k3]
                  exact (he.set (fun _ _ h => kd_len h) i hi' hKz).imp (fun _ _ hK => le.K (x := cx W S1 ρ w) hK)
                · cases k1
      · cases hK
    · cases hK
  · cases hK
end
end Go.Mx
namespace Go.Mx
open Go Go.RowKit Go.Sx
variable [Glb]
section
variable {x : Cx}
theorem rdstep_ok : ∀ (p : List Step) (t : T) (d : t.den) {v : AV} {b o : Nat} {c : List Value}, rdstep (.rdp t d) p = some v → ¬ x.A b → Lies x.h b o c → t.kd.K x.A x.h d c → VR x v (.pointer (some ⟨b, o + offs p, none⟩)) := by
  intro p
  induction p with
  | nil =>
    intro t d v b o c h hA hl hK
    obtain rfl : AV.rdp t d = v := Option.some.inj h
    exact vr_rdpI hA hl hK
  | cons s p ih =>
    intro t d v b o c h hA hl hK
    unfold rdstep at h
    split at h
    · rename_i he; cases he
    · rename_i a b' z q he hv
      obtain ⟨rfl, rfl⟩ := List.cons.inj hv
      obtain ⟨rfl, hz⟩ := AV.rdp.inj he
      obtain rfl := eq_of_heq hz
      obtain ⟨c1, c2, e, h1, h2⟩ := hK
      exact ih _ _ h hA (by
        have := lies_sub (m := 0) hl (us := c1) (fun j u hj => by rw [e, Nat.zero_add, List.getElem?_append, if_pos (List.getElem?_eq_some_iff.1 hj).1]; exact hj)
        rwa [Nat.add_zero] at this) h1
    · rename_i a b' z k q he hv
      obtain ⟨rfl, rfl⟩ := List.cons.inj hv
      obtain ⟨rfl, hz⟩ := AV.rdp.inj he
      obtain rfl := eq_of_heq hz
      obtain ⟨c1, c2, e, h1, h2⟩ := hK
      cases hk : Nat.beq k a.sz with
      | false => rw [hk] at h; cases h
      | true =>
        rw [hk] at h
        have hk := Nat.eq_of_beq_eq_true hk
        have hl1 : c1.length = a.sz := kd_len h1
        have := ih _ _ h hA (lies_sub (m := k) hl (us := c2) (fun j u hj => by
          rw [e, List.getElem?_append, if_neg (by omega), show k + j - c1.length = j by omega]; exact hj)) h2
        rw [Nat.add_assoc] at this
        exact this
    · rename_i a z q he hv
      obtain ⟨rfl, rfl⟩ := List.cons.inj hv
      obtain ⟨rfl, hz⟩ := AV.rdp.inj he
      obtain rfl := eq_of_heq hz
      exact ih _ _ h hA hl hK
    · cases h
end
section
variable {R : Type} {P : Program} {W : Nat → Prop} {S : List AO} {ρ : Nat → Geo} {w : World} {a : Act}
variable {d : Option Nat} {ty T' T2 : TypeId} {pos : String} {af : Array Edge} {g : Option (Nat × Bool)} {y z : Operand} {K : KV R} {r : R}
theorem fldOk_ok {i : Nat} {st : List Step} (h : fldOk P T' i st = true) : ∃ fs f j, P.underlying T' = some (.struct fs) ∧ fs[i]? = some f ∧ offs st = f.offset ∧ P.info? f.type = some j ∧ ∃ s, j.size = s + 1 := by
  unfold fldOk at h
  split at h
  · rename_i fs hu
    split at h
    · rename_i f hf
      rw [Bool.and_eq_true] at h
      obtain ⟨h1, h2⟩ := h
      split at h2
      · rename_i j hj
        have h3 : 0 < j.size := by rwa [Nat.blt_eq] at h2
        exact ⟨fs, f, j, hu, hf, Nat.eq_of_beq_eq_true h1, hj, j.size - 1, by omega⟩
      · cases h2
    · cases h
  · cases h
theorem info_sz {e : TypeId} {j : TypeInfo} (h : P.info? e = some j) : szOk P e j.size = true := by
  unfold szOk
  rw [h]
  exact beq_self _
theorem field_at {i b o : Nat} {st : List Step} (hd : a.defers = []) (hy : a.eval y = .pointer (some ⟨b, o, none⟩)) (hf : fldOk P T' i st = true) : Does P ⟨d, .fieldAddr T' y i, ty, pos, af, g⟩ a w (Is (.pointer (some ⟨b, o + offs st, none⟩)) w) := by
  obtain ⟨fs, f, j, h1, h2, h3, h4, s, h5⟩ := fldOk_ok hf
  have ha := bnd_has (a := a) (Op1 y) hd
  have e1 : Sx.ev (bnd a (Op1 y)) y = some (.pointer (some ⟨b, o, none⟩)) := by rw [bnd_ev (Nat.le_refl _), hy]
  exact d_fieldAddr ha e1 h1 h2 (fun w => by have := run_size (info_sz h4) w; rwa [h5] at this) (by rw [h3])
theorem fieldAddr_ok {i : Nat} {v : AV} (h : Rel W S ρ w) (hd : a.defers = []) (hy : VR (cx W S ρ w) v (a.eval y)) (hK : (match some v, fldsteps P T' i with
    | some (.ptr q p), some st => cond (fldOk P T' i st) (K (.ptr q (p ++ st)) S) none
    | some (.rdp t x), some st => cond (fldOk P T' i st) (match rdstep (.rdp t x) st with | some v => K v S | none => none) none
    | _, _ => none) = some r) : Comes P W S ρ w ⟨d, .fieldAddr T' y i, ty, pos, af, g⟩ a K r := by
  split at hK
  · rename_i q p st hv hst
    obtain rfl := Option.some.inj hv
    cases hf : fldOk P T' i st with
    | false => rw [hf] at hK; cases hK
    | true =>
      rw [hf] at hK
      obtain ⟨hq, b, hb, e⟩ := vr_ptr hy
      exact Comes.is h (field_at hd e hf) hK (by rw [← offs_append]; exact vr_ptrI hq hb)
  · rename_i t x st hv hst
    obtain rfl := Option.some.inj hv
    cases hf : fldOk P T' i st with
    | false => rw [hf] at hK; cases hK
    | true =>
      rw [hf] at hK
      obtain ⟨b, o, c, e, hA, hl, hK'⟩ := vr_rdp hy
      cases hs : rdstep (.rdp t x) st with
      | none => rw [hs] at hK; cases hK
      | some u =>
        rw [hs] at hK
        exact Comes.is h (field_at hd e hf) hK (rdstep_ok st t x hs hA hl hK')
  · cases hK
theorem nilCheck_ok {v : AV} (h : Rel W S ρ w) (hd : a.defers = []) (hy : VR (cx W S ρ w) v (a.eval y)) (hK : (match some v with
    | some (.ptr i p) => K (.ptr i p) S
    | some (.rdp t x) => K (.rdp t x) S
    | _ => none) = some r) : Comes P W S ρ w ⟨d, .nilCheck y, ty, pos, af, g⟩ a K r := by
  have ha := bnd_has (a := a) (Op1 y) hd
  split at hK
  · rename_i hv
    obtain rfl := Option.some.inj hv
    obtain ⟨hq, b, hb, e⟩ := vr_ptr hy
    rw [e] at hy
    exact Comes.is h (d_nilCheck ha (by rw [bnd_ev (Nat.le_refl _), e])) hK hy
  · rename_i hv
    obtain rfl := Option.some.inj hv
    obtain ⟨b, o, c, e, _⟩ := vr_rdp hy
    rw [e] at hy
    exact Comes.is h (d_nilCheck ha (by rw [bnd_ev (Nat.le_refl _), e])) hK hy
  · cases hK
theorem vrs_get {x : Cx} : ∀ {l : List AV} {m : List Value} {i : Nat} {v : AV}, VRs x l m → l[i]? = some v → ∃ u, m[i]? = some u ∧ VR x v u
  | [], _, _, _, _, h => by simp at h
  | a :: l, m, i, v, hr, h => by
    rw [VRs] at hr
    obtain ⟨c, l', e, h1, h2, h3⟩ := hr
    cases i with
    | zero =>
      obtain rfl : a = v := Option.some.inj h
      exact ⟨_, by rw [e]; rfl, cr_vr h1⟩
    | succ i =>
      obtain ⟨u, k1, k2⟩ := vrs_get h3 (i := i) h
      exact ⟨u, by rw [e]; exact k1, k2⟩
theorem extract_ok {i : Nat} {v : AV} (h : Rel W S ρ w) (hd : a.defers = []) (hy : VR (cx W S ρ w) v (a.eval y)) (hK : (match some v with
    | some (.tup l) => (match l[i]? with | some v => K v S | none => none)
    | _ => none) = some r) : Comes P W S ρ w ⟨d, .extract y i, ty, pos, af, g⟩ a K r := by
  split at hK
  · rename_i l hv
    obtain rfl := Option.some.inj hv
    obtain ⟨m, e, hm⟩ := vr_tup hy
    split at hK
    · rename_i v hl
      obtain ⟨u, h1, h2⟩ := vrs_get hm hl
      have ha := bnd_has (a := a) (Op1 y) hd
      exact Comes.is h (d_extract ha (by rw [bnd_ev (Nat.le_refl _), e]) h1) hK h2
    · cases hK
  · cases hK
theorem slOk_ok {t : T} (h : slOk P T' t = true) : ∃ e, P.underlying T' = some (.slice e) ∧ szOk P e t.sz = true := by
  unfold slOk at h
  split at h
  · rename_i e he; exact ⟨e, he, h⟩
  · cases h
theorem index_at {e : TypeId} {b o n c s : Nat} {k : IntKind} {i : Int} (hy : a.eval y = .slice (some ⟨b, o, none⟩) n c) (hz : a.eval z = .int k i) (hT : P.underlying T' = some (.slice e)) (hs : szOk P e s = true) (h0 : 0 ≤ i ∧ i < (n : Int)) :
    Does P ⟨d, .indexAddr T' y z, ty, pos, af, g⟩ a w (Is (.pointer (some ⟨b, o + i.toNat * s, none⟩)) w) :=
  Does.val (by simp [execOp, hy, hz, Instr.indexAt, asIntOf, run_underlying hT, h0, run_size hs, add_at])
theorem index_arr {e : TypeId} {b o n s : Nat} {k : IntKind} {i : Int} (hy : a.eval y = .pointer (some ⟨b, o, none⟩)) (hz : a.eval z = .int k i) (hT : P.underlying T' = some (.array n e)) (hs : szOk P e s = true) (h0 : 0 ≤ i ∧ i < (n : Int)) :
    Does P ⟨d, .indexAddr T' y z, ty, pos, af, g⟩ a w (Is (.pointer (some ⟨b, o + i.toNat * s, none⟩)) w) :=
  Does.val (by simp [execOp, hy, hz, Instr.indexAt, Instr.sureAddr, asIntOf, run_underlying hT, h0, run_size hs, add_at])
theorem raw_el {x : Cx} {t : T} {q : Option Addr} {c : Nat} {xs : List t.den} (r : Raw x.A t.kd x.h q c xs) {i : Nat} (hi : i < xs.length) : ∃ b o cs, q = some ⟨b, o, none⟩ ∧ ¬ x.A b ∧ Lies x.h b (o + i * t.sz) cs ∧ t.kd.K x.A x.h xs[i] cs := by
  obtain ⟨_, _, cells, he, hm⟩ := r
  obtain ⟨b, o, C, T, fr, ha, hA, hb, hc⟩ := hm (by intro e; rw [e] at hi; simp at hi)
  obtain ⟨cs, hK, hg⟩ := he.get (fun _ _ h => kd_len h) i hi
  exact ⟨b, o, cs, ha, hA, ⟨C, T, fr, hb, fun j v hj => by have := hc _ _ (hg j v hj); rwa [← Nat.add_assoc] at this⟩, hK⟩
theorem row_ptr (h : Rel W S ρ w) {q : Nat} {e : TypeId} {t : T} {xs : List t.den} {m : Md} (hi : S[q]? = some (.row e t xs m)) {n o : Nat} {p : Option Addr} (hn : o + n ≤ (ρ q).n) (hp : n ≠ 0 → ∃ b, (ρ q).a = some ⟨b, 0, none⟩ ∧ p = some ⟨b, o * (ρ q).s, none⟩) {c : Nat} {k : IntKind} {i : Int}
    (hy : a.eval y = .slice p n c) (hz : a.eval z = .int k i) (hk : slOk P T' t = true) (hq : q < S.length) (h0 : 0 ≤ i ∧ i < (n : Int)) (hK : K (.ptr q [.idx (o + i.toNat) t.sz]) S = some r) : Comes P W S ρ w ⟨d, .indexAddr T' y z, ty, pos, af, g⟩ a K r := by
  obtain ⟨e', h1, h2⟩ := slOk_ok hk
  obtain ⟨b, ha, hp⟩ := hp (by omega)
  rw [hp] at hy
  refine Comes.is h (index_at hy hz h1 h2 h0) hK ?_
  have hs : (ρ q).s = t.sz := (row_lies h hi).2.1
  have e3 : o * (ρ q).s + i.toNat * t.sz = offs [.idx (o + i.toNat) t.sz] := by
    rw [hs]
    show _ = (o + i.toNat) * t.sz + 0
    rw [Nat.add_zero, Nat.add_mul]
  rw [e3]
  exact vr_ptrI hq ha
theorem indexAddr_ok {v : AV} {k : IntKind} {i : Int} (h : Rel W S ρ w) (hd : a.defers = []) (hy : VR (cx W S ρ w) v (a.eval y)) (hz : a.eval z = .int k i) (hK : indexAddrA P T' v i S K = some r) : Comes P W S ρ w ⟨d, .indexAddr T' y z, ty, pos, af, g⟩ a K r := by
  unfold indexAddrA at hK
  split at hK
  · rename_i t xs
    cases hk : slOk P T' t with
    | false => rw [hk] at hK; cases hK
    | true =>
      rw [hk] at hK
      obtain ⟨h0, hK⟩ := ck_elim hK
      obtain ⟨z', hz', hK⟩ := bind_elim hK
      obtain ⟨hi, rfl⟩ := List.getElem?_eq_some_iff.1 hz'
      obtain ⟨cs, hr, e⟩ := vr_dat hy
      obtain ⟨q, c, e2, hr⟩ : ∃ q c, cs = [.slice q xs.length c] ∧ Raw (cx W S ρ w).A t.kd (cx W S ρ w).h q c xs := hr
      obtain ⟨b, o, cs', hq, hA, hl, hK'⟩ := raw_el hr hi
      rw [e2, hq] at e
      obtain ⟨e', h1, h2⟩ := slOk_ok hk
      exact Comes.is h (index_at e hz h1 h2 ⟨h0, by omega⟩) hK (vr_rdpI hA hl hK')
  · rename_i q
    obtain ⟨c, e, hc, _⟩ := hy
    rw [CR] at hc
    split at hK
    · rename_i e' t xs m hi
      cases hk : slOk P T' t with
      | false => rw [hk] at hK; cases hK
      | true =>
        rw [hk] at hK
        obtain ⟨h0, hK⟩ := ck_elim hK
        obtain ⟨g1, g2, g3, _⟩ := row_lies h hi
        rw [hc.2] at e
        refine row_ptr h hi (o := 0) (n := xs.length) (p := (ρ q).a) (by omega) (fun hn => ?_) (by rw [← g1]; exact e) hz hk hc.1 h0 (by rw [Nat.zero_add]; exact hK)
        obtain ⟨b, ha⟩ := row_a h hi (by intro e; rw [e] at hn; exact hn rfl)
        exact ⟨b, ha, by rw [Nat.zero_mul]; exact ha⟩
    · cases hK
  · rename_i q n
    obtain ⟨c, e, hc, _⟩ := hy
    rw [CR] at hc
    split at hK
    · rename_i e' t xs m hi
      cases hk : slOk P T' t with
      | false => rw [hk] at hK; cases hK
      | true =>
        rw [hk] at hK
        obtain ⟨h0, hK⟩ := ck_elim hK
        obtain ⟨g1, g2, g3, _⟩ := row_lies h hi
        obtain ⟨c1, c2, c3⟩ := hc
        rw [c3] at e
        have c2 : n ≤ (ρ q).n := c2
        refine row_ptr h hi (o := 0) (n := n) (p := (ρ q).a) (by omega) (fun hn => ?_) e hz hk c1 h0 (by rw [Nat.zero_add]; exact hK)
        obtain ⟨b, ha⟩ := row_a h hi (by intro e; rw [e] at g1; simp at g1; omega)
        exact ⟨b, ha, by rw [Nat.zero_mul]; exact ha⟩
    · cases hK
  · rename_i q n
    obtain ⟨c, e, hc, _⟩ := hy
    rw [CR] at hc
    split at hK
    · rename_i e' t xs m hi
      cases hk : slOk P T' t with
      | false => rw [hk] at hK; cases hK
      | true =>
        rw [hk] at hK
        obtain ⟨h0, hK⟩ := ck_elim hK
        obtain ⟨g1, g2, g3, _⟩ := row_lies h hi
        obtain ⟨c1, c2, c3⟩ := hc
        rw [c3] at e
        have c2 : n ≤ (ρ q).n := c2
        refine row_ptr h hi (o := 0) (n := n) (p := (ρ q).a) (by omega) (fun hn => ?_) e hz hk c1 h0 (by rw [Nat.zero_add]; exact hK)
        obtain ⟨b, ha⟩ := row_a h hi (by intro e; rw [e] at g1; simp at g1; omega)
        exact ⟨b, ha, by rw [Nat.zero_mul]; exact ha⟩
    · cases hK
  · rename_i q o n
    obtain ⟨c, e, hc, _⟩ := hy
    rw [CR] at hc
    split at hK
    · rename_i e' t xs m hi
      cases hk : slOk P T' t with
      | false => rw [hk] at hK; cases hK
      | true =>
        rw [hk] at hK
        obtain ⟨h0, hK⟩ := ck_elim hK
        obtain ⟨c1, c2, p, c', c3, c4, c5, c6⟩ := hc
        rw [c6] at e
        exact row_ptr h hi c2 c5 e hz hk c1 h0 hK
    · cases hK
  · rename_i q p
    obtain ⟨hq, b, hb, e⟩ := vr_ptr hy
    split at hK
    · rename_i n e' hu
      split at hK
      · rename_i j hj
        obtain ⟨h0, hK⟩ := ck_elim hK
        refine Comes.is h (index_arr e hz hu (info_sz hj) h0) hK ?_
        have : offs p + i.toNat * j.size = offs (p ++ [.idx i.toNat j.size]) := by rw [offs_append]; rfl
        rw [this]
        exact vr_ptrI hq hb
      · cases hK
    · cases hK
  · rename_i m t xs
    obtain ⟨b, o, c, e, hA, hl, hK'⟩ := vr_rdp hy
    split at hK
    · rename_i n e' hu
      cases hk : szOk P e' t.sz with
      | false => rw [hk] at hK; cases hK
      | true =>
        rw [hk] at hK
        obtain ⟨h0, hK⟩ := ck_elim hK
        obtain ⟨z', hz', hK⟩ := bind_elim hK
        obtain ⟨hi, rfl⟩ := List.getElem?_eq_some_iff.1 hz'
        have hK' : xs.length = m ∧ Els (t.kd.K (cx W S ρ w).A (cx W S ρ w).h) xs c := hK'
        obtain ⟨cs, hKc, hg⟩ := hK'.2.get (fun _ _ h => kd_len h) i.toNat hi
        exact Comes.is h (index_arr e hz hu hk h0) hK (vr_rdpI hA (lies_sub hl hg) hKc)
    · cases hK
  · cases hK
end
end Go.Mx
namespace Go.Mx
open Go Go.RowKit Go.Sx
variable [Glb]
section
variable {R : Type} {P : Program} {W : Nat → Prop} {S : List AO} {ρ : Nat → Geo} {w : World} {a : Act}
variable {d : Option Nat} {ty T' T2 : TypeId} {pos : String} {af : Array Edge} {g : Option (Nat × Bool)} {y z : Operand} {K : KV R} {r : R}
def Opt (a : Act) (o : Option Operand) (i : Option Int) : Prop := match o, i with
  | none, none => True
  | some x, some i => ∃ k, a.eval x = .int k i
  | _, _ => False
theorem optI_ok {s : Slots} {o : Option Operand} {i : Option Int} (hg : GlR (cx W S ρ w)) (hs : SlR (cx W S ρ w) s a) (h : optI s o = some i) : Opt a o i := by
  unfold optI at h
  split at h
  · obtain rfl := Option.some.inj h; trivial
  · split at h
    · rename_i hv
      obtain rfl := Option.some.inj h
      exact ⟨_, vr_int (ev_ok hg hs hv)⟩
    · cases h
theorem opt_some {o : Option Operand} {i : Int} (h : Opt a o (some i)) : ∃ x k, o = some x ∧ a.eval x = .int k i := by
  cases o with
  | none => exact h.elim
  | some x => obtain ⟨k, e⟩ := h; exact ⟨x, k, rfl, e⟩
theorem opt_none {o : Option Operand} (h : Opt a o none) : o = none := by
  cases o with
  | none => rfl
  | some x => exact h.elim
theorem bounds_ok {lo hi mx : Option Operand} {l h m : Option Int} {n c : Nat} {Q : Nat → Nat → Option R} (hl : Opt a lo l) (hh : Opt a hi h) (hm : Opt a mx m) (hc : n ≤ c) (hK : sliceB l h m n Q = some r) :
    ∃ L H M, (Instr.sliceBounds true n c (lo.map a.eval) (hi.map a.eval) (mx.map a.eval)).run P w = .ok (L, H, M) w ∧ L ≤ H ∧ H ≤ n ∧ H ≤ M ∧ M ≤ c ∧ Q L H = some r ∧
      (l = none → L = 0) ∧ (∀ i, l = some i → L = i.toNat) ∧ (h = none → H = n) ∧ (∀ i, h = some i → H = i.toNat) ∧ (m = none → M = c) ∧ (∀ i, m = some i → M = i.toNat) ∧ (∀ i, h = some i → 0 ≤ i) ∧ (∀ i, m = some i → 0 ≤ i) := by
  unfold sliceB at hK
  match l, h, m, hl, hh, hm, hK with
  | some l, some h, none, hl, hh, hm, hK =>
    obtain ⟨lo, k1, rfl, e1⟩ := opt_some hl
    obtain ⟨hi, k2, rfl, e2⟩ := opt_some hh
    obtain rfl := opt_none hm
    obtain ⟨⟨h0, h1, h2⟩, hK⟩ := ck_elim hK
    have ej : (h.toNat : Int) = h := Int.toNat_of_nonneg (by omega)
    refine ⟨l.toNat, h.toNat, c, ?_, by omega, by omega, by omega, by omega, hK, nofun, fun i hi => by cases hi; rfl, nofun, fun i hi => by cases hi; rfl, fun _ => rfl, nofun, fun i hi => by cases hi; omega, nofun⟩
    simp [e1, e2, Instr.sliceBounds, run_sliceBound, ej, h0, h1, (by omega : 0 ≤ h), (by omega : h ≤ c)]
  | some l, some h, some m, hl, hh, hm, hK =>
    obtain ⟨lo, k1, rfl, e1⟩ := opt_some hl
    obtain ⟨hi, k2, rfl, e2⟩ := opt_some hh
    obtain ⟨mx, k3, rfl, e3⟩ := opt_some hm
    obtain ⟨⟨h0, h1, h2, h3⟩, hK⟩ := ck_elim hK
    have ej : (h.toNat : Int) = h := Int.toNat_of_nonneg (by omega)
    have em : (m.toNat : Int) = m := Int.toNat_of_nonneg (by omega)
    refine ⟨l.toNat, h.toNat, m.toNat, ?_, by omega, by omega, by omega, by omega, hK, nofun, fun i hi => by cases hi; rfl, nofun, fun i hi => by cases hi; rfl, nofun, fun i hi => by cases hi; rfl, fun i hi => by cases hi; omega, fun i hi => by cases hi; omega⟩
    simp [e1, e2, e3, Instr.sliceBounds, run_sliceBound, ej, em, h0, h1, h2, (by omega : 0 ≤ h), (by omega : 0 ≤ m), (by omega : m ≤ c)]
  | some l, none, none, hl, hh, hm, hK =>
    obtain ⟨lo, k1, rfl, e1⟩ := opt_some hl
    obtain rfl := opt_none hh
    obtain rfl := opt_none hm
    obtain ⟨⟨h0, h1⟩, hK⟩ := ck_elim hK
    refine ⟨l.toNat, n, c, ?_, by omega, Nat.le_refl _, hc, Nat.le_refl _, hK, nofun, fun i hi => by cases hi; rfl, fun _ => rfl, nofun, fun _ => rfl, nofun, nofun, nofun⟩
    simp [e1, Instr.sliceBounds, run_sliceBound, h0, h1]
  | none, some h, none, hl, hh, hm, hK =>
    obtain rfl := opt_none hl
    obtain ⟨hi, k2, rfl, e2⟩ := opt_some hh
    obtain rfl := opt_none hm
    obtain ⟨⟨h0, h1⟩, hK⟩ := ck_elim hK
    refine ⟨0, h.toNat, c, ?_, Nat.zero_le _, by omega, by omega, Nat.le_refl _, hK, fun _ => rfl, nofun, nofun, fun i hi => by cases hi; rfl, fun _ => rfl, nofun, fun i hi => by cases hi; omega, nofun⟩
    simp [e2, Instr.sliceBounds, run_sliceBound, h0, (by omega : h ≤ c)]
  | none, some h, some m, hl, hh, hm, hK =>
    obtain rfl := opt_none hl
    obtain ⟨hi, k2, rfl, e2⟩ := opt_some hh
    obtain ⟨mx, k3, rfl, e3⟩ := opt_some hm
    obtain ⟨⟨h0, h1, h2⟩, hK⟩ := ck_elim hK
    have em : (m.toNat : Int) = m := Int.toNat_of_nonneg (by omega)
    refine ⟨0, h.toNat, m.toNat, ?_, Nat.zero_le _, by omega, by omega, by omega, hK, fun _ => rfl, nofun, nofun, fun i hi => by cases hi; rfl, nofun, fun i hi => by cases hi; rfl, fun i hi => by cases hi; omega, fun i hi => by cases hi; omega⟩
    simp [e2, e3, Instr.sliceBounds, run_sliceBound, em, h0, h1, (by omega : 0 ≤ m), (by omega : m ≤ c)]
  | none, none, none, hl, hh, hm, hK =>
    obtain rfl := opt_none hl
    obtain rfl := opt_none hh
    obtain rfl := opt_none hm
    refine ⟨0, n, c, ?_, Nat.zero_le _, Nat.le_refl _, hc, Nat.le_refl _, hK, fun _ => rfl, nofun, fun _ => rfl, nofun, fun _ => rfl, nofun, nofun, nofun⟩
    simp [Instr.sliceBounds]
  | none, none, some _, _, _, _, hK => cases hK
  | some _, none, some _, _, _, _, hK => cases hK
def piece (p : Option Addr) (L H M s : Nat) : Value := .slice (if M = L then p else p.map (·.add (L * s))) (H - L) (M - L)
theorem slice_at {e : TypeId} {p : Option Addr} {n c s L H M : Nat} {lo hi mx : Option Operand} (hy : a.eval y = .slice p n c) (hT : P.underlying T' = some (.slice e)) (hs : szOk P e s = true) (hb : (Instr.sliceBounds true n c (lo.map a.eval) (hi.map a.eval) (mx.map a.eval)).run P w = .ok (L, H, M) w) :
    Does P ⟨d, .slice T' y lo hi mx, ty, pos, af, g⟩ a w (Is (piece p L H M s) w) :=
  Does.val (by simp [execOp, hy, Instr.sliceAt, Instr.slice, run_underlying hT, hb, run_size hs, piece])
theorem win_ok {i o n : Nat} {p : Option Addr} {c L H M : Nat} {t : T} {e : TypeId} {xs : List t.den} {m : Md} (h : Rel W S ρ w) (hi : S[i]? = some (.row e t xs m)) (hil : i < S.length) (hn : o + n ≤ (ρ i).n) (hp : n ≠ 0 → ∃ b, (ρ i).a = some ⟨b, 0, none⟩ ∧ p = some ⟨b, o * (ρ i).s, none⟩) (hc : c ≤ maxLen)
    (h1 : L ≤ H) (h2 : H ≤ n) (h3 : H ≤ M) (h4 : M ≤ c) : VR (cx W S ρ w) (.win i (o + L) (H - L)) (piece p L H M t.sz) := by
  refine ⟨[piece p L H M t.sz], rfl, ?_, rfl⟩
  rw [CR]
  refine ⟨hil, by show o + L + (H - L) ≤ (ρ i).n; omega, _, _, by omega, by omega, fun h0 => ?_, rfl⟩
  obtain ⟨b, e1, e2⟩ := hp (by omega)
  refine ⟨b, e1, ?_⟩
  rw [if_neg (by omega), e2]
  have hs : (ρ i).s = t.sz := (row_lies h hi).2.1
  show some (Addr.add ⟨b, o * (ρ i).s, none⟩ (L * t.sz)) = some ⟨b, (o + L) * (ρ i).s, none⟩
  rw [add_at, hs, Nat.add_mul]
theorem piece0 {p : Option Addr} {H M s : Nat} : piece p 0 H M s = .slice p H M := by
  have : (p.map fun q => q.add (0 * s)) = p := by
    cases p with
    | none => rfl
    | some q => rw [Nat.zero_mul]; rfl
  unfold piece
  rw [this]
  simp
theorem slice_ok {v : AV} {lo hi mx : Option Operand} {l h' m : Option Int} (h : Rel W S ρ w) (hd : a.defers = []) (hy : VR (cx W S ρ w) v (a.eval y)) (hl : Opt a lo l) (hh : Opt a hi h') (hm : Opt a mx m) (hK : sliceA P T' v l h' m S K = some r) : Comes P W S ρ w ⟨d, .slice T' y lo hi mx, ty, pos, af, g⟩ a K r := by
  unfold sliceA at hK
  split at hK
  · rename_i s
    have ey := vr_str hy
    split at hK
    · rename_i hT
      split at hK
      · obtain ⟨lo, k1, rfl, e1⟩ := opt_some hl
        obtain ⟨hi, k2, rfl, e2⟩ := opt_some hh
        obtain rfl := opt_none hm
        have ha := bnd_has (a := a) (Op1 y + Op1 lo + Op1 hi) hd
        obtain ⟨h0, hK⟩ := ck_elim hK
        exact Comes.is h (d_substr_lh ha hT (by rw [bnd_ev (by omega), ey]) (by rw [bnd_ev (by omega), e1]) (by rw [bnd_ev (by omega), e2]) h0) hK (vr_strI _)
      · obtain ⟨lo, k1, rfl, e1⟩ := opt_some hl
        obtain rfl := opt_none hh
        obtain rfl := opt_none hm
        have ha := bnd_has (a := a) (Op1 y + Op1 lo) hd
        obtain ⟨h0, hK⟩ := ck_elim hK
        exact Comes.is h (d_substr_l ha hT (by rw [bnd_ev (by omega), ey]) (by rw [bnd_ev (by omega), e1]) h0) hK (vr_strI _)
      · obtain rfl := opt_none hl
        obtain ⟨hi, k2, rfl, e2⟩ := opt_some hh
        obtain rfl := opt_none hm
        have ha := bnd_has (a := a) (Op1 y + Op1 hi) hd
        obtain ⟨h0, hK⟩ := ck_elim hK
        exact Comes.is h (d_substr_h ha hT (by rw [bnd_ev (by omega), ey]) (by rw [bnd_ev (by omega), e2]) h0) hK (vr_strI _)
      · cases hK
    · cases hK
  · have ey := vr_nils hy
    split at hK
    · rename_i e he
      split at hK
      · rename_i j hj
        have hT : P.underlying T' = some (.slice e) := by
          unfold elemOf at he
          split at he
          · rename_i hu; obtain rfl := Option.some.inj he; exact hu
          · cases he
        have fin3 : ∀ {m' : Option Int} {q : Option Int}, Opt a hi q → Opt a mx m' → lo = none → sliceB none q m' 0 (fun _ _ => K .nils S) = some r → Comes P W S ρ w ⟨d, .slice T' y lo hi mx, ty, pos, af, g⟩ a K r := by
          rintro m' q hq hm' rfl hb
          obtain ⟨L, H, M, hb, c1, c2, c3, c4, hK, c5, _⟩ := bounds_ok (P := P) (w := w) (lo := none) (hi := hi) (mx := mx) (l := none) (h := q) (m := m') (n := 0) (c := 0) trivial hq hm' (Nat.le_refl _) hb
          refine Comes.is h (slice_at ey hT (info_sz hj) hb) hK ?_
          have : piece none L H M j.size = .slice none 0 0 := by
            obtain rfl := c5 rfl
            rw [piece0, show H = 0 by omega, show M = 0 by omega]
          rw [this]
          exact ⟨[.slice none 0 0], rfl, by rw [CR], rfl⟩
        have fin : ∀ {hi' : Option Operand} {q : Option Int}, Opt a hi' q → sliceB none q none 0 (fun _ _ => K .nils S) = some r → (lo = none ∧ hi = hi' ∧ mx = none) → Comes P W S ρ w ⟨d, .slice T' y lo hi mx, ty, pos, af, g⟩ a K r := by
          rintro hi' q hq hb ⟨rfl, rfl, rfl⟩
          obtain ⟨L, H, M, hb, c1, c2, c3, c4, hK, c5, _⟩ := bounds_ok (P := P) (w := w) (lo := none) (hi := hi) (mx := none) (l := none) (h := q) (m := none) (n := 0) (c := 0) trivial hq trivial (Nat.le_refl _) hb
          refine Comes.is h (slice_at ey hT (info_sz hj) hb) hK ?_
          have : piece none L H M j.size = .slice none 0 0 := by
            obtain rfl := c5 rfl
            rw [piece0, show H = 0 by omega, show M = 0 by omega]
          rw [this]
          exact ⟨[.slice none 0 0], rfl, by rw [CR], rfl⟩
        split at hK
        · obtain rfl := opt_none hl
          obtain rfl := opt_none hm
          obtain ⟨h0, hK⟩ := ck_elim hK
          exact fin hh (by show ck _ _ = some r; rw [ck_pos (by omega)]; exact hK) ⟨rfl, rfl, rfl⟩
        · obtain rfl := opt_none hl
          obtain ⟨⟨h0, h0'⟩, hK⟩ := ck_elim hK
          exact fin3 hh hm rfl (by show ck _ _ = some r; rw [ck_pos (by omega)]; exact hK)
        · obtain rfl := opt_none hl
          obtain rfl := opt_none hh
          obtain rfl := opt_none hm
          exact fin (hi' := none) (q := none) trivial hK ⟨rfl, rfl, rfl⟩
        · cases hK
      · cases hK
    · cases hK
  · rename_i t xs
    cases hk : slOk P T' t with
    | false => rw [hk] at hK; cases hK
    | true =>
      rw [hk, cond_true] at hK
      obtain ⟨cs, hr, e⟩ := vr_dat hy
      obtain ⟨q, c, e2, hr⟩ : ∃ q c, cs = [.slice q xs.length c] ∧ Raw (cx W S ρ w).A t.kd (cx W S ρ w).h q c xs := hr
      rw [e2] at e
      obtain ⟨e', h1, h2⟩ := slOk_ok hk
      obtain ⟨L, H, M, hb, c1, c2, c3, c4, hK, c5, c6, c7, c8, c9, c10, _⟩ := bounds_ok (P := P) (w := w) hl hh hm hr.1 hK
      cases hnr : noRoom H m with
      | true =>
        rw [hnr, cond_true] at hK
        refine Comes.is h (slice_at e h1 h2 hb) hK ?_
        unfold noRoom at hnr
        cases m with
        | some m0 =>
          simp only at hnr
          rw [Bool.and_eq_true, decide_eq_true_iff] at hnr
          have hH := Nat.eq_of_beq_eq_true hnr.1
          have hM := c10 m0 rfl
          have hM : M = 0 := by rw [hM, hnr.2]; rfl
          subst hH hM
          have hL : L = 0 := by omega
          subst hL
          rw [piece0]
          exact ⟨[.slice q 0 0], rfl, by rw [CR]; exact ⟨q, rfl⟩, rfl⟩
        | none => cases hnr
      | false =>
      rw [hnr, cond_false] at hK
      refine Comes.is h (slice_at e h1 h2 hb) hK ?_
      have hcut : cutA l h' xs = (xs.take H).drop L := by
        unfold cutA
        match l, h', c5, c6, c7, c8 with
        | none, none, c5, _, c7, _ => rw [c5 rfl, c7 rfl, List.take_length]; rfl
        | some l, none, _, c6, c7, _ => rw [c6 l rfl, c7 rfl, List.take_length]
        | none, some h', c5, _, _, c8 => rw [c5 rfl, c8 h' rfl]; rfl
        | some l, some h', _, c6, _, c8 => rw [c6 l rfl, c8 h' rfl]
      rw [hcut]
      have hcr := hr.cut L H M c1 c2 c3 c4
      have hlen := cut_len (xs := xs) H L c2
      refine ⟨[piece q L H M t.sz], rfl, (cr_dat (t := .sl t)).2 ⟨_, _, ?_, hcr⟩, rfl⟩
      rw [hlen, T.kd_sz]
      rfl
  · rename_i i
    obtain ⟨cs, e, hc, _⟩ := hy
    rw [CR] at hc
    split at hK
    · rename_i e' t xs m' hi
      cases hk : slOk P T' t with
      | false => rw [hk] at hK; cases hK
      | true =>
        rw [hk, cond_true] at hK
        obtain ⟨g1, g2, g3, g4, _⟩ := row_lies h hi
        rw [hc.2] at e
        have e : a.eval y = .slice (ρ i).a xs.length (ρ i).c := by rw [← g1]; exact e
        obtain ⟨e1, h1, h2⟩ := slOk_ok hk
        obtain ⟨L, H, M, hb, c1, c2, c3, c4, hK, c5, c6, c7, c8, c9, c10, c11, c12⟩ := bounds_ok (P := P) (w := w) hl hh hm g3 hK
        have hp : xs.length ≠ 0 → ∃ b, (ρ i).a = some ⟨b, 0, none⟩ ∧ (ρ i).a = some ⟨b, 0 * (ρ i).s, none⟩ := fun hn => by
          obtain ⟨b, ha⟩ := row_a h hi (by intro e; rw [e] at hn; exact hn rfl)
          exact ⟨b, ha, by rw [Nat.zero_mul]; exact ha⟩
        have hw := win_ok h hi hc.1 (o := 0) (n := xs.length) (p := (ρ i).a) (by omega) hp g4 c1 c2 c3 c4
        rw [Nat.zero_add] at hw
        split at hK
        · refine Comes.is h (slice_at e h1 h2 hb) hK ?_
          obtain rfl := c5 rfl
          obtain rfl := c7 rfl
          obtain rfl := c9 rfl
          rw [piece0, ← g1]
          exact ⟨_, rfl, by rw [CR]; exact ⟨hc.1, rfl⟩, rfl⟩
        · refine Comes.is h (slice_at e h1 h2 hb) hK ?_
          obtain rfl := c5 rfl
          obtain rfl := c9 rfl
          rw [piece0]
          exact ⟨[.slice (ρ i).a H (ρ i).c], rfl, by rw [CR]; exact ⟨hc.1, by show H ≤ (ρ i).n; omega, rfl⟩, rfl⟩
        · obtain ⟨hhm, hK⟩ := ck_elim hK
          refine Comes.is h (slice_at e h1 h2 hb) hK ?_
          obtain rfl := c5 rfl
          have k1 := c8 _ rfl
          have k2 := c10 _ rfl
          obtain rfl : H = M := by rw [k1, k2, hhm]
          rw [piece0]
          exact ⟨[.slice (ρ i).a H H], rfl, by rw [CR]; exact ⟨hc.1, by show H ≤ (ρ i).n; omega, rfl⟩, rfl⟩
        · exact Comes.is h (slice_at e h1 h2 hb) hK hw
    · cases hK
  · rename_i i n
    obtain ⟨cs, e, hc, _⟩ := hy
    rw [CR] at hc
    split at hK
    · rename_i e' t xs m' hi
      cases hk : slOk P T' t with
      | false => rw [hk] at hK; cases hK
      | true =>
        rw [hk, cond_true] at hK
        obtain ⟨g1, g2, g3, g4, _⟩ := row_lies h hi
        obtain ⟨q1, q2, q3⟩ := hc
        rw [q3] at e
        have q2 : n ≤ (ρ i).n := q2
        have e : a.eval y = .slice (ρ i).a n (ρ i).c := e
        obtain ⟨e1, h1, h2⟩ := slOk_ok hk
        obtain ⟨L, H, M, hb, c1, c2, c3, c4, hK, c5, c6, c7, c8, c9, c10, c11, c12⟩ := bounds_ok (P := P) (w := w) (c := (ρ i).c) hl hh hm (by omega) hK
        have hp : n ≠ 0 → ∃ b, (ρ i).a = some ⟨b, 0, none⟩ ∧ (ρ i).a = some ⟨b, 0 * (ρ i).s, none⟩ := fun hn => by
          obtain ⟨b, ha⟩ := row_a h hi (by intro e; rw [e] at g1; simp at g1; omega)
          exact ⟨b, ha, by rw [Nat.zero_mul]; exact ha⟩
        have hw := win_ok h hi q1 (o := 0) (n := n) (p := (ρ i).a) (by omega) hp g4 c1 c2 c3 c4
        rw [Nat.zero_add] at hw
        split at hK
        · refine Comes.is h (slice_at e h1 h2 hb) hK ?_
          obtain rfl := c5 rfl
          obtain rfl := c9 rfl
          rw [piece0]
          exact ⟨[.slice (ρ i).a H (ρ i).c], rfl, by rw [CR]; exact ⟨q1, by show H ≤ (ρ i).n; omega, rfl⟩, rfl⟩
        · obtain ⟨hhm, hK⟩ := ck_elim hK
          refine Comes.is h (slice_at e h1 h2 hb) hK ?_
          obtain rfl := c5 rfl
          have k1 := c8 _ rfl
          have k2 := c10 _ rfl
          obtain rfl : H = M := by rw [k1, k2, hhm]
          rw [piece0]
          exact ⟨[.slice (ρ i).a H H], rfl, by rw [CR]; exact ⟨q1, by show H ≤ (ρ i).n; omega, rfl⟩, rfl⟩
        · exact Comes.is h (slice_at e h1 h2 hb) hK hw
    · cases hK
  · rename_i i n
    obtain ⟨cs, e, hc, _⟩ := hy
    rw [CR] at hc
    split at hK
    · rename_i e' t xs m' hi
      cases hk : slOk P T' t with
      | false => rw [hk] at hK; cases hK
      | true =>
        rw [hk, cond_true] at hK
        obtain ⟨g1, g2, g3, g4, _⟩ := row_lies h hi
        obtain ⟨q1, q2, q3⟩ := hc
        rw [q3] at e
        have q2 : n ≤ (ρ i).n := q2
        have e : a.eval y = .slice (ρ i).a n n := e
        obtain ⟨e1, h1, h2⟩ := slOk_ok hk
        obtain ⟨L, H, M, hb, c1, c2, c3, c4, hK, c5, c6, c7, c8, c9, c10, c11, c12⟩ := bounds_ok (P := P) (w := w) hl hh hm (Nat.le_refl n) hK
        have hp : n ≠ 0 → ∃ b, (ρ i).a = some ⟨b, 0, none⟩ ∧ (ρ i).a = some ⟨b, 0 * (ρ i).s, none⟩ := fun hn => by
          obtain ⟨b, ha⟩ := row_a h hi (by intro e; rw [e] at g1; simp at g1; omega)
          exact ⟨b, ha, by rw [Nat.zero_mul]; exact ha⟩
        have hw := win_ok h hi q1 (o := 0) (n := n) (p := (ρ i).a) (by omega) hp (by omega) c1 c2 c3 c4
        rw [Nat.zero_add] at hw
        split at hK
        · obtain ⟨hhm, hK⟩ := ck_elim hK
          refine Comes.is h (slice_at e h1 h2 hb) hK ?_
          obtain rfl := c5 rfl
          have k1 := c8 _ rfl
          have k2 := c10 _ rfl
          obtain rfl : H = M := by rw [k1, k2, hhm]
          rw [piece0]
          exact ⟨[.slice (ρ i).a H H], rfl, by rw [CR]; exact ⟨q1, by show H ≤ (ρ i).n; omega, rfl⟩, rfl⟩
        · exact Comes.is h (slice_at e h1 h2 hb) hK hw
    · cases hK
  · rename_i i o n
    obtain ⟨cs, e, hc, _⟩ := hy
    rw [CR] at hc
    split at hK
    · rename_i e' t xs m' hi
      cases hk : slOk P T' t with
      | false => rw [hk] at hK; cases hK
      | true =>
        rw [hk, cond_true] at hK
        obtain ⟨q1, q2, p, c', q3, q4, q5, q6⟩ := hc
        rw [q6] at e
        obtain ⟨e1, h1, h2⟩ := slOk_ok hk
        obtain ⟨L, H, M, hb, c1, c2, c3, c4, hK, _⟩ := bounds_ok (P := P) (w := w) hl hh hm q3 hK
        exact Comes.is h (slice_at e h1 h2 hb) hK (win_ok h hi q1 q2 q5 q4 c1 c2 c3 c4)
    · cases hK
  · rename_i i
    split at hK
    · rename_i ty0 n t xs hi
      split at hK
      · rename_i n' e l0 hT
        · cases hk : Nat.beq n' n && szOk P e t.sz with
          | false => rw [hk] at hK; cases hK
          | true =>
            rw [hk, cond_true] at hK
            rw [Bool.and_eq_true] at hk
            have hn := Nat.eq_of_beq_eq_true hk.1
            subst hn
            obtain ⟨⟨l1, l2, l3⟩, hK⟩ := ck_elim hK
            obtain ⟨lo, k1, rfl, e1⟩ := opt_some hl
            obtain rfl := opt_none hh
            obtain rfl := opt_none hm
            obtain ⟨_, b, ha, e⟩ := vr_ptr hy
            obtain ⟨b', cs, a1, hc, hlen, hx, _⟩ := h.ob i _ hi
            obtain rfl : b = b' := by
              have ha : (ρ i).a = _ := ha
              rw [a1] at ha
              exact (congrArg Addr.block (Option.some.inj ha)).symm
            have hcr := cr_dat.1 hc
            obtain ⟨hxl, hel⟩ : xs.length = n' ∧ Els (t.kd.K (cx W S ρ w).A (cx W S ρ w).h) xs cs := hcr
            have A := Aft.put h (o' := .gone) hi (Fr.refl _ _) (fun h => by cases h) (fun le => trivial)
            have hnA : ¬ (cx W (S.set i .gone) ρ w).A b := by
              rintro (hW | ⟨j, o, p, hj, ho, haj, hbj⟩)
              · exact h.wd b ⟨i, _, _, hi, rfl, a1, rfl⟩ hW
              · rcases set_get hj with ⟨hne', hj⟩ | ⟨_, rfl, _⟩
                · exact h.dj j i o _ p _ hne' hj hi ho rfl haj a1 hbj
                · cases ho
            have hs := run_size hk.2 (P := P)
            have hd2 : Does P ⟨d, .slice T' y (some lo) none none, ty, pos, af, g⟩ a w (Is (.slice (some ⟨b, l0.toNat * t.sz, none⟩) (n' - l0.toNat) (n' - l0.toNat)) w) := by
              have hne : ¬ n' = l0.toNat := by omega
              refine Does.val ?_
              simp [execOp, e, e1, Instr.sliceAt, Instr.sureAddr, run_underlying hT, add_at, Instr.sliceBounds, Instr.sliceBound, asIntOf, l1, Int.le_of_lt l2, hs, hne]
              rfl
            refine hd2.mono fun u w' ⟨q1, q2⟩ => ?_
            subst q1; subst q2
            refine ⟨_, _, _, hK, A, ?_⟩
            have hll : (xs.drop l0.toNat).length = n' - l0.toNat := by rw [List.length_drop, hxl]
            rw [← hll]
            refine ⟨[.slice (some ⟨b, l0.toNat * t.sz, none⟩) (xs.drop l0.toNat).length (xs.drop l0.toNat).length], rfl, ?_, rfl⟩
            rw [CR]
            refine ⟨_, _, rfl, Nat.le_refl _, by rw [hll]; unfold maxLen; omega, cs.drop (l0.toNat * t.sz), ?_, fun _ => ⟨b, l0.toNat * t.sz, _, _, _, rfl, hnA, hx, fun j v hv => ?_⟩⟩
            · exact (hel.imp (fun _ _ hK => A.le.K hK)).drop (fun _ _ h => kd_len h) _
            · rw [List.getElem?_drop] at hv
              simpa using hv
      · cases hK
    · cases hK
  · cases hK
end
end Go.Mx
