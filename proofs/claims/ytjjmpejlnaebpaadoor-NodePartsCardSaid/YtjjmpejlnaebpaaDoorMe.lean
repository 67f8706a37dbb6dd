/- Own work. A part of the proof of a law of this seat: the abstract machine and its soundness -/
import Derived.Test.YtjjmpejlnaebpaaDoorMd
import Derived.Test.YtjjmpejlnaebpaaDoorSb
/- A law without arguments: computed. -/
namespace Go.Mx
open Go Go.RowKit Go.Sx

def isTrue (v : AV) (_ : List AO) : Option Bool := match v with | .dat .bool b => some b | _ => none
theorem prims_none (P : Program) : PrimsOk P (fun _ => none) := fun f p hp => by cases hp
theorem rel_nil (w : World) : Rel (fun _ => False) [] (fun _ => ⟨none, 0, 0, 0⟩) w :=
  ⟨fun i o hi => by simp at hi, fun i j o o' p q _ hi => by simp at hi, fun k hk => hk.elim, fun k hk => by obtain ⟨i, o, p, hi, _⟩ := hk; simp at hi⟩
theorem closed {P : Program} {F : FuncId → Option Prim} {Wr : FuncId → List Nat} {k d : Nat} {f : FuncId} (hmx : P.follows .mixedOrders = true) (hNG : noNG P = true) (hF : PrimsOk P F) (hK : (wideA P F Wr k d).call f [] [] isTrue = some true) (w : World) :
    Calls P f #[] w (Ret fun u w' => u = .bool true ∧ Fr w w' No) := by
  have body : ∃ fn c, P.funcs[f]? = some fn ∧ fn.body = some c := by
    cases d with
    | zero => cases hK
    | succ d =>
      have hK : (match P.funcs[f]? with
        | some fn => (match fn.body with
          | some c => funA P (wideA P F Wr k d) (lamA P (wideA P F Wr k d) (fun _ => none) k ([] : List AO).length c 20) fn [] [] isTrue
          | none => none)
        | none => none) = some true := hK
      split at hK
      · rename_i fn hf
        split at hK
        · rename_i c hb
          exact ⟨fn, c, hf, hb⟩
        · cases hK
      · cases hK
  obtain ⟨fn, c, hf, hb⟩ := body
  rcases wide_ok hmx hNG hF d f [] [] isTrue true hK (fun _ => False) (fun _ => ⟨none, 0, 0, 0⟩) w [] (rel_nil w) .nil with ⟨u, w', h1, _⟩ | ⟨_, h⟩
  · rw [run_enter hNG hf hb] at h1
    cases h1
  · refine h.mono fun e w' he => ?_
    cases e with
    | returned u =>
      obtain ⟨v, ob', ρ', h1, h2, h3⟩ := he
      unfold isTrue at h1
      split at h1
      · obtain rfl := Option.some.inj h1
        exact ⟨vr_bool h3, h2.fr.mono (fun k _ hk => by obtain ⟨i, o, p, hi, _⟩ := hk; simp at hi)⟩
      · cases h1
    | _ => exact he
end Go.Mx

/- Where a run stands behind a loop; a loop whose state was told; sums of calls. -/
namespace Go.Mx
open Go Go.RowKit Go.Sx
variable {R : Type}

/-- what stands behind the q-th loop of a code -/
def contR (P : Program) (Γ : Sums) (Λ : Nat → St → (Exit → St → Option R) → Option R) : Nat → Code → (Exit → St → Option R) → Nat → Exit → St → Option R
  | n, .seq x y, K, q => cond (Nat.blt q (n + nl x)) (contR P Γ Λ n x (fun e s => match e with
      | .normal => runA P Γ Λ (n + nl x) y s K
      | e => K e s) q) (contR P Γ Λ (n + nl x) y K q)
  | n, .cond _ x y, K, q => cond (Nat.blt q (n + nl x)) (contR P Γ Λ n x K q) (contR P Γ Λ (n + nl x) y K q)
  | n, .block i c, K, q => contR P Γ Λ n c (fun e s => match e with
      | .exit j => cond (Nat.beq j i) (K .normal s) (K (.exit j) s)
      | e => K e s) q
  | _, _, K, _ => K
/-- what stands behind a function's code -/
def retK (P : Program) (fn : Func) (m : Nat) (K : KV R) : Exit → St → Option R := fun e s => match e with
  | .ret => retA P fn m s K
  | .normal => (match fn.results.toList with | [] => retA P fn m s K | _ => none)
  | _ => none
def codeOf (fn : Func) : Code := match fn.body with | some c => c | none => .skip
def bodyOf (fn : Func) (n : Nat) : Code := match loopAt (codeOf fn) n with | some (.loop b) => b | some (.scope b) => b | _ => .skip
/-- what stands behind one round -/
def stepK (m : Nat) (live : List Nat) (L : St → (Exit → St → Option R) → Option R) (K : Exit → St → Option R) : Exit → St → Option R := fun e s => match e with
  | .normal => tellA m live s fun s => L s K
  | e => K e s
/-- a loop whose state was told -/
def loopB (m : Nat) (live : List Nat) (body : St → (Exit → St → Option R) → Option R) : Nat → St → (Exit → St → Option R) → Option R
  | 0, _, _ => none
  | k + 1, s, K => body s (stepK m live (loopB m live body k) K)
theorem tell_none (m : Nat) (live : List Nat) (s : St) : tellA (R := R) m live s (fun _ => none) = none := by
  have h := bd_tell (R := St) (S := R) (fun _ => none) m live s (fun s => some s)
  rw [show (fun s => ((fun s => some s) s : Option St).bind fun _ => (none : Option R)) = fun _ => none from rfl] at h
  rw [← h]; cases tellA m live s (fun s => some s) <;> rfl
theorem loopA_B (m : Nat) (live : List Nat) (body : St → (Exit → St → Option R) → Option R) : ∀ (k : Nat) (s : St) (K : Exit → St → Option R), loopA m live body k s K = (match k with | 0 => none | k => tellA m live s fun s => loopB m live body k s K)
  | 0, _, _ => rfl
  | 1, s, K => by
    unfold loopA
    show tellA m live s _ = tellA m live s _
    congr 1; funext s
    show body s _ = body s _
    congr 1; funext e s
    cases e <;> first | rfl | skip
    exact (tell_none m live _).symm
  | k + 2, s, K => by
    unfold loopA
    show tellA m live s _ = tellA m live s _
    congr 1; funext s
    show body s _ = body s _
    congr 1; funext e s
    cases e <;> first | rfl | exact loopA_B m live body (k + 1) _ K
end Go.Mx

/- Summaries of functions: what they are, how they are had. -/
namespace Go.Mx
open Go Go.RowKit Go.Sx

/-- what a function comes to -/
structure Summ where
  run : {R : Type} → List AV → List AO → KV R → Option R
def Summ.Nat (S : Summ) : Prop := ∀ {R R' : Type} (f : R → Option R') (as : List AV) (ob : List AO) (K : KV R), (S.run as ob K).bind f = S.run as ob (fun v o => (K v o).bind f)
def SumOk (P : Program) (f : FuncId) (S : Summ) : Prop := S.Nat ∧ ∀ {R : Type} (args : List AV) (ob : List AO) (K : KV R) (r : R), S.run args ob K = some r → ∀ (W : Nat → Prop) (ρ : Nat → Geo) (w : World) (us : List Value), Rel W ob ρ w → A2 (VR (cx W ob ρ w)) args us →
  Inv P f us w (fun u w' => ∃ v ob' ρ', K v ob' = some r ∧ Aft W ob ρ w ob' ρ' w' ∧ VR (cx W ob' ρ' w') v u)
def findS (f : FuncId) : List (FuncId × Summ) → Option Summ
  | [] => none
  | p :: r => cond (Nat.beq p.1 f) (some p.2) (findS f r)
def sums (Wr : FuncId → List Nat) (l : List (FuncId × Summ)) : Sums := ⟨fun _ => none, fun f args ob K => match findS f l with | some S => S.run args ob K | none => none, fun f _ => Wr f⟩
def AllOk (P : Program) : List (FuncId × Summ) → Prop
  | [] => True
  | p :: r => SumOk P p.1 p.2 ∧ AllOk P r
theorem findS_ok {P : Program} {f : FuncId} {S : Summ} : ∀ {l : List (FuncId × Summ)}, AllOk P l → findS f l = some S → SumOk P f S
  | [], _, h => by cases h
  | p :: r, a, h => by
    unfold findS at h
    cases hb : Nat.beq p.1 f with
    | true => rw [hb] at h; obtain rfl := Option.some.inj h; rw [← Nat.eq_of_beq_eq_true hb]; exact a.1
    | false => rw [hb] at h; exact findS_ok a.2 h
theorem sums_call {P : Program} {Wr : FuncId → List Nat} {l : List (FuncId × Summ)} (a : AllOk P l) : CallOk P (sums Wr l) := by
  intro R f args ob K r hK
  have hK : (match findS f l with | some S => S.run args ob K | none => none) = some r := hK
  split at hK
  · rename_i S hS
    exact (findS_ok a hS).2 args ob K r hK
  · cases hK
theorem sums_nat {P : Program} {Wr : FuncId → List Nat} {l : List (FuncId × Summ)} (a : AllOk P l) : SumsNat (sums Wr l) := by
  intro R S f g as ob K
  show (match findS g l with | some S => S.run as ob K | none => none).bind f = (match findS g l with | some S => S.run as ob (fun v o => (K v o).bind f) | none => none)
  split
  · rename_i S hS
    exact (findS_ok a hS).1 f as ob K
  · rfl
theorem sums_prim {P : Program} {Wr : FuncId → List Nat} {l : List (FuncId × Summ)} (a : AllOk P l) : PrimOk P (sums Wr l) := ⟨sums_nat a, fun f p h => by cases h⟩

/-- by its own code -/
def codeS (P : Program) (Γ : Sums) (lv : Nat → Option (List Nat)) (k : Nat) (fn : Func) : Summ := ⟨fun args ob K => funA P Γ (lamA P Γ lv k ob.length (codeOf fn) 20) fn args ob K⟩
theorem code_nat {P : Program} {Γ : Sums} (hΓ : SumsNat Γ) (lv : Nat → Option (List Nat)) (k : Nat) (fn : Func) : (codeS P Γ lv k fn).Nat := by
  intro R R' f as ob K
  exact bd_fun f P hΓ (Λ := fun n s K => lamA P Γ lv k ob.length (codeOf fn) 20 n s K) (bd_lam P hΓ lv k ob.length (codeOf fn) 20) fn as ob K
theorem code_ok {P : Program} {Γ : Sums} (hmx : P.follows .mixedOrders = true) (hNG : noNG P = true) (hΓ : CallOk P Γ) (hG : PrimOk P Γ) {f : FuncId} {fn : Func} (hf : P.funcs[f]? = some fn) (lv : Nat → Option (List Nat)) (k : Nat) : SumOk P f (codeS P Γ lv k fn) := by
  refine ⟨code_nat hG.1 lv k fn, ?_⟩
  intro R args ob K r hK W ρ w us h ha
  have hK : funA P Γ (lamA P Γ lv k ob.length (codeOf fn) 20) fn args ob K = some r := hK
  cases hb : fn.body with
  | none => unfold funA at hK; rw [hb] at hK; cases hK
  | some c =>
    have hc : codeOf fn = c := by unfold codeOf; rw [hb]
    rw [hc] at hK
    exact .inr ⟨run_enter hNG hf hb _ _, funA_ok hmx hΓ hG hf hb hK (fun hd q l hl => lamA_ok hmx hΓ hG rfl hd 20 q l hl) h ha⟩
/-- less is told -/
theorem SumOk.le {P : Program} {f : FuncId} {S S' : Summ} (h : SumOk P f S) (hn : S'.Nat) (hl : ∀ {R : Type} (args : List AV) (ob : List AO) (K : KV R) (r : R), S'.run args ob K = some r → S.run args ob K = some r) : SumOk P f S' :=
  ⟨hn, fun args ob K r hK => h.2 args ob K r (hl args ob K r hK)⟩

/-! ### what comes back, told as data -/
section
variable {W : Nat → Prop} {S S' : List AO} {ρ : Nat → Geo} {w : World}
def coolOne (ty : TypeId) (t : T) (i : Nat) (ob : List AO) : List AO :=
  match ob[i]? with
  | some (.box ty' v m) => cond (Nat.beq ty' ty && !v.ids.contains i) (match frzP v ob with
    | (v', ob') => (match dec t v' with | some x => ob'.set i (.box ty' (.dat t x) m) | none => ob)) ob
  | _ => ob
def coolTys : List (TypeId × T) → Nat → List AO → List AO
  | [], _, ob => ob
  | p :: r, i, ob => coolTys r i (coolOne p.1 p.2 i ob)
def coolAll (l : List (TypeId × T)) : Nat → List AO → List AO
  | 0, ob => ob
  | n + 1, ob => coolTys l n (coolAll l n ob)
theorem coolOne_ok (ty : TypeId) (t : T) (i : Nat) (h : Rel W S ρ w) : Aft W S ρ w (coolOne ty t i S) ρ w := by
  unfold coolOne
  split
  · rename_i ty' v m hi
    cases hc : (Nat.beq ty' ty && !v.ids.contains i) with
    | false => exact Aft.refl h
    | true =>
      rw [cond_true]
      have hni : i ∉ v.ids := by
        rw [Bool.and_eq_true] at hc
        intro hm
        have := hc.2
        simp [hm] at this
      obtain ⟨b, cs, ha, hcr, hl, hbx, hm⟩ := h.ob i _ hi
      cases hf : frzP v S with
      | mk v' S1 =>
        obtain ⟨A1, hcr', hs⟩ := frzP_ok v h hf hcr
        dsimp only
        split
        · rename_i x hd
          refine A1.trans (Aft.put A1.rel (o := .box ty' v m) (by rw [hs i hni]; exact hi) (Fr.refl _ _) id ?_)
          intro le
          refine ⟨b, cs, ha, ?_, ?_, hbx, fun hmf => ?_⟩
          · have := dec_ok t v' cs hd hcr'
            exact (cr_dat.2 this).up le
          · exact kd_len (dec_ok t v' cs hd hcr')
          · intro hO
            refine hm hmf ?_
            obtain ⟨j, o, p, hj, ho, hp, hb⟩ := hO
            rcases set_get hj with ⟨_, hj⟩ | ⟨rfl, rfl, _⟩
            · rcases A1.nw b ⟨j, o, p, hj, ho, hp, hb⟩ with h1 | h1
              · exact h1
              · exfalso
                have hlt : b < w.heap.size := lies_lt (bx_lies hbx)
                omega
            · rw [hmf] at ho; cases ho
        · exact Aft.refl h
  · exact Aft.refl h
theorem coolTys_ok : ∀ (l : List (TypeId × T)) (i : Nat) {S : List AO}, Rel W S ρ w → Aft W S ρ w (coolTys l i S) ρ w
  | [], _, _, h => Aft.refl h
  | p :: r, i, _, h => (coolOne_ok p.1 p.2 i h).trans (coolTys_ok r i (coolOne_ok p.1 p.2 i h).rel)
theorem coolAll_ok (l : List (TypeId × T)) : ∀ (n : Nat) {S : List AO}, Rel W S ρ w → Aft W S ρ w (coolAll l n S) ρ w
  | 0, _, h => Aft.refl h
  | n + 1, _, h => (coolAll_ok l n h).trans (coolTys_ok l n (coolAll_ok l n h).rel)
end
/-- a value, told as data -/
def castV (t : T) (v : AV) : AV := match dec t v with | some x => .dat t x | none => v
theorem plain_dec {t : T} {v : AV} {x : t.den} (h : dec t v = some x) : v.plain = true := by
  cases v with
  | tup l => cases t <;> cases h
  | undef => cases t <;> cases h
  | _ => rfl
theorem agg_dec {t : T} : ∀ {v : AV} {x : t.den}, dec t v = some x → v.isAgg = t.aggB := by
  cases t with
  | sl t =>
    intro v x h
    cases v with
    | dat t' y => rw [dec_dat] at h; split at h; (rename_i e; subst e; rfl); cases h
    | nils => rfl
    | cut _ => rfl
    | nilw _ => rfl
    | fn f fs ks => cases fs <;> cases ks <;> cases h
    | _ => cases h
  | pair a b =>
    intro v x h
    cases v with
    | dat t' y => rw [dec_dat] at h; split at h; (rename_i e; subst e; rfl); cases h
    | pr u v => rfl
    | fn f fs ks => cases fs <;> cases ks <;> cases h
    | _ => cases h
  | one a =>
    intro v x h
    cases v with
    | dat t' y => rw [dec_dat] at h; split at h; (rename_i e; subst e; rfl); cases h
    | one u => rfl
    | fn f fs ks => cases fs <;> cases ks <;> cases h
    | _ => cases h
  | fn =>
    intro v x h
    cases v with
    | dat t' y => rw [dec_dat] at h; split at h; (rename_i e; subst e; rfl); cases h
    | fn f fs ks => rfl
    | _ => cases h
  | _ =>
    intro v x h
    cases v with
    | dat t' y => rw [dec_dat] at h; split at h; (rename_i e; subst e; rfl); cases h
    | fn f fs ks => cases fs <;> cases ks <;> cases h
    | _ => cases h
theorem castV_ok {c : Cx} {t : T} {v : AV} {u : Value} (h : VR c v u) : VR c (castV t v) u := by
  unfold castV
  split
  · rename_i x hx
    obtain ⟨cs, h1, h2⟩ := vr_cr h (plain_dec hx)
    have hk := dec_ok t v cs hx h1
    refine ⟨cs, ?_, cr_dat.2 hk, kd_len hk⟩
    rw [h2, agg_dec hx]
    rfl
  · exact h
def castL : List T → List AV → List AV
  | t :: ts, v :: vs => castV t v :: castL ts vs
  | _, vs => vs
theorem castL_ok {c : Cx} : ∀ {ts : List T} {vs : List AV} {us : List Value}, A2 (VR c) vs us → A2 (VR c) (castL ts vs) us
  | [], _, _, h => h
  | _ :: _, _, _, .nil => .nil
  | _ :: _, _, _, .cons h1 h2 => .cons (castV_ok h1) (castL_ok h2)
def castR (ts : List T) (v : AV) : AV := match v with
  | .tup l => .tup (castL ts l)
  | v => (match ts with | [t] => castV t v | _ => v)
theorem castVs_ok {c : Cx} : ∀ {ts : List T} {vs : List AV} {us : List Value}, VRs c vs us → VRs c (castL ts vs) us
  | [], _, _, h => h
  | _ :: _, [], _, h => h
  | t :: ts, v :: vs, us, h => by
    rw [VRs] at h
    obtain ⟨cs, l', rfl, h1, h2, h3⟩ := h
    rw [castL, VRs]
    cases hd : dec t v with
    | none =>
      have : castV t v = v := by unfold castV; rw [hd]
      rw [this]
      exact ⟨cs, l', rfl, h1, h2, castVs_ok h3⟩
    | some x =>
      have : castV t v = .dat t x := by unfold castV; rw [hd]
      rw [this]
      have hk := dec_ok t v cs hd h1
      refine ⟨cs, l', ?_, cr_dat.2 hk, kd_len hk, castVs_ok h3⟩
      rw [agg_dec hd]
      rfl
theorem castR_ok {c : Cx} {ts : List T} {v : AV} {u : Value} (h : VR c v u) : VR c (castR ts v) u := by
  unfold castR
  split
  · obtain ⟨m, e, h1⟩ := h
    exact ⟨m, e, castVs_ok h1⟩
  · split
    · exact castV_ok h
    · exact h
/-- what comes back is told as data; so are things of some types; what is not reached is not told -/
def backS (ts : List T) (l : List (TypeId × T)) (S : Summ) : Summ := ⟨fun args ob K => S.run args ob fun v o => tellA ob.length [0] ⟨[(0, castR ts v)], coolAll l o.length o⟩ fun s => match s.sl with | [(t, v)] => cond (Nat.beq t 0) (K v s.ob) none | _ => none⟩
theorem back_nat {ts : List T} {l : List (TypeId × T)} {S : Summ} (h : S.Nat) : (backS ts l S).Nat := by
  intro R R' f as ob K
  show (S.run as ob _).bind f = S.run as ob _
  rw [h f as ob]
  congr 1; funext v o
  rw [bd_tell]; congr 1; funext s
  repeat' (first | rfl | split | (rw [bd_cond]; try (congr 1)))
theorem back_ok {P : Program} {f : FuncId} {ts : List T} {l : List (TypeId × T)} {S : Summ} (h : SumOk P f S) : SumOk P f (backS ts l S) := by
  refine ⟨back_nat h.1, ?_⟩
  intro R args ob K r hK W ρ w us hr ha
  refine (h.2 args ob _ r hK W ρ w us hr ha).mono ?_
  rintro u w' ⟨v, ob', ρ', h1, h2, h3⟩
  have A := h2.trans (coolAll_ok l ob'.length h2.rel)
  have hv := (castR_ok (ts := ts) h3).up (coolAll_ok l ob'.length h2.rel).le
  have st : StB W ob ρ w 1 ⟨[(0, castR ts v)], coolAll l ob'.length ob'⟩ ρ' { tmps := #[u], defers := [] } w' := by
    refine ⟨A, fun t v' hl => ?_, rfl, rfl⟩
    rw [look_cons] at hl
    by_cases e : 0 = t
    · rw [if_pos e] at hl
      obtain rfl := Option.some.inj hl
      subst e
      exact hv
    · rw [if_neg e] at hl; cases hl
  obtain ⟨s', ρ2, hK', h'⟩ := tell_ok h1 st
  split at hK'
  · rename_i t v' hs
    obtain ⟨ht, hK'⟩ | ⟨_, hK'⟩ := cond_elim hK'
    · have ht := Nat.eq_of_beq_eq_true ht
      subst ht
      exact ⟨v', s'.ob, ρ2, hK', h'.aft, h'.sl 0 v' (by rw [hs, look_cons, if_pos rfl])⟩
    · cases hK'
  · cases hK'
/-- what is handed in is told as data -/
def argS (ts : List T) (S : Summ) : Summ := ⟨fun args ob K => S.run (castL ts args) ob K⟩
theorem arg_ok {P : Program} {f : FuncId} {ts : List T} {S : Summ} (h : SumOk P f S) : SumOk P f (argS ts S) := by
  refine ⟨fun g as ob K => h.1 g (castL ts as) ob K, ?_⟩
  intro R args ob K r hK W ρ w us hr ha
  exact h.2 (castL ts args) ob K r hK W ρ w us hr (castL_ok ha)
/-- what is handed in is told anew: things of some types as data, and what is reached alone -/
def inS (f : FuncId) (l : List (TypeId × T)) (S : Summ) : Summ := ⟨fun args ob K => callA (sums (fun _ => List.range 60) [(f, S)]) f args (coolAll l ob.length ob) K⟩
theorem a2_up {c c' : Cx} (h : c.Le c') : ∀ {vs : List AV} {us : List Value}, A2 (VR c) vs us → A2 (VR c') vs us
  | _, _, .nil => .nil
  | _, _, .cons h1 h2 => .cons (h1.up h) (a2_up h h2)
theorem in_ok {P : Program} {f : FuncId} {l : List (TypeId × T)} {S : Summ} (h : SumOk P f S) : SumOk P f (inS f l S) := by
  have al : AllOk P [(f, S)] := ⟨h, trivial⟩
  refine ⟨fun g as ob K => bd_call g (sums_nat al) f as _ K, ?_⟩
  intro R args ob K r hK W ρ w us hr ha
  have A := coolAll_ok l ob.length hr
  refine (callA_ok (sums_call al) hK A.rel (a2_up A.le ha)).mono ?_
  rintro u w' ⟨v, ob', ρ', h1, h2, h3⟩
  exact ⟨v, ob', ρ', h1, A.trans h2, h3⟩
/-- data of a type, and nothing else -/
def asD (t : T) (v : AV) : Option t.den := match v with | .dat t' x => if h : t' = t then some (h ▸ x) else none | _ => none
theorem asD_ok {t : T} {v : AV} {x : t.den} (h : asD t v = some x) : v = .dat t x := by
  unfold asD at h
  split at h
  · split at h
    · rename_i e; subst e; obtain rfl := Option.some.inj h; rfl
    · cases h
  · cases h
/-- Nothing: a nil slice, or one that is not. -/
theorem no_or {c : Cx} {t : T} {u : Value} (h : VR c (.dat (.sl t) []) u) : VR c (.nilw t) u ∨ VR c (.sln t []) u := by
  obtain ⟨cs, hr, e⟩ := vr_dat h
  obtain ⟨p, k, e2, hr⟩ : ∃ p k, cs = [.slice p 0 k] ∧ Raw c.A t.kd c.h p k ([] : List t.den) := hr
  cases p with
  | none => exact .inl ⟨cs, e, by rw [CR]; exact ⟨k, hr.2.1, e2⟩, by rw [e2]; rfl⟩
  | some p => exact .inr ⟨cs, e, by rw [CR]; exact ⟨p, k, e2, hr⟩, by rw [e2]; rfl⟩
theorem vw_or {W : Nat → Prop} {S : List AO} {ρ : Nat → Geo} {w : World} {i : Nat} {e : TypeId} {t : T} {m : Md} {u : Value} (hr : Rel W S ρ w) (hi : S[i]? = some (.row e t [] m)) (h : VR (cx W S ρ w) (.view i) u) : VR (cx W S ρ w) (.nilw t) u ∨ VR (cx W S ρ w) (.sln t []) u := by
  obtain ⟨cs, e1, hc, hl⟩ := h
  rw [CR] at hc
  obtain ⟨g1, _, _, g4, _⟩ := row_lies hr hi
  have g1 : ((cx W S ρ w).g i).n = 0 := g1
  have e2 := hc.2
  rw [g1] at e2
  cases hp : ((cx W S ρ w).g i).a with
  | none => rw [hp] at e2; exact .inl ⟨cs, e1, by rw [CR]; exact ⟨_, g4, e2⟩, hl⟩
  | some p => rw [hp] at e2; exact .inr ⟨cs, e1, by rw [CR]; exact ⟨p, _, e2, Raw.nil _ _ _ (some p) _ g4⟩, hl⟩
theorem pre_or {W : Nat → Prop} {S : List AO} {ρ : Nat → Geo} {w : World} {i : Nat} {e : TypeId} {t : T} {xs : List t.den} {m : Md} {u : Value} (hr : Rel W S ρ w) (hi : S[i]? = some (.row e t xs m)) (h : VR (cx W S ρ w) (.pre i 0) u) : VR (cx W S ρ w) (.nilw t) u ∨ VR (cx W S ρ w) (.sln t []) u := by
  obtain ⟨cs, e1, hc, hl⟩ := h
  rw [CR] at hc
  obtain ⟨_, _, _, g4, _⟩ := row_lies hr hi
  have e2 := hc.2.2
  cases hp : ((cx W S ρ w).g i).a with
  | none => rw [hp] at e2; exact .inl ⟨cs, e1, by rw [CR]; exact ⟨_, g4, e2⟩, hl⟩
  | some p => rw [hp] at e2; exact .inr ⟨cs, e1, by rw [CR]; exact ⟨p, _, e2, Raw.nil _ _ _ (some p) _ g4⟩, hl⟩
theorem pre_le {W : Nat → Prop} {S : List AO} {ρ : Nat → Geo} {w : World} {i n : Nat} {e : TypeId} {t : T} {xs : List t.den} {m : Md} {u : Value} (hr : Rel W S ρ w) (hi : S[i]? = some (.row e t xs m)) (h : VR (cx W S ρ w) (.pre i n) u) : n ≤ xs.length := by
  obtain ⟨cs, e1, hc, hl⟩ := h
  rw [CR] at hc
  obtain ⟨g1, _⟩ := row_lies hr hi
  have hle : n ≤ (ρ i).n := hc.2.1
  omega
end Go.Mx

/- Loops and labels as steps: what is told at each, and one fuel for all. -/
namespace Go.Mx
open Go Go.RowKit Go.Sx

/-- what is told at loops and labels: which slots, and things of which types as data -/
structure Tl where
  lv : Nat → Option (List Nat)
  cl : List (TypeId × T)
/-- a list that is nothing, or something -/
def listK {A R : Type} (xs : List A) (n : Option R) (c : A → List A → Option R) : Option R := match xs with | [] => n | z :: zs => c z zs
/-- nothing, or something -/
def optK {A R : Type} (x : Option A) (n : Option R) (c : A → Option R) : Option R := match x with | none => n | some a => c a
theorem bd_opt {R R' A : Type} (f : R → Option R') (x : Option A) (n : Option R) (c : A → Option R) : (optK x n c).bind f = optK x (n.bind f) (fun a => (c a).bind f) := by cases x <;> rfl
theorem bd_list {R R' A : Type} (f : R → Option R') (xs : List A) (n : Option R) (c : A → List A → Option R) : (listK xs n c).bind f = listK xs (n.bind f) (fun z zs => (c z zs).bind f) := by cases xs <;> rfl
section
variable {R : Type}
def tellC (m : Nat) (lv : Tl) (q : Nat) (s : St) (K : St → Option R) : Option R := tellA m (liveA lv.lv q s) ⟨s.sl, coolAll lv.cl s.ob.length s.ob⟩ K
def scopeK (m : Nat) (lv : Tl) (L : Nat → St → (Exit → St → Option R) → Option R) (n : Nat) (b : Code) (K : Exit → St → Option R) : Exit → St → Option R := fun e s => match e with
  | .goto l => (match behind l b (n + 1) with
    | some _ => cond (Nat.blt n 64) (tellC m lv (2 * (l * 64 + n) + 1) s fun s => L (2 * (l * 64 + n) + 1) s K) none
    | none => K (.goto l) s)
  | e => K e s
def roundK (m : Nat) (lv : Tl) (L : Nat → St → (Exit → St → Option R) → Option R) (q : Nat) (K : Exit → St → Option R) : Exit → St → Option R := fun e s => match e with
  | .normal => tellC m lv q s fun s => L q s K
  | e => K e s
def lamX (P : Program) (Γ : Sums) (lv : Tl) (m : Nat) (c : Code) (L : Nat → St → (Exit → St → Option R) → Option R) : Nat → Nat → St → (Exit → St → Option R) → Option R
  | 0, _, _, _ => none
  | d + 1, n, s, K => (match loopAt c n with
    | some (.loop _) => tellC m lv (2 * n) s fun s => L (2 * n) s K
    | some (.scope b) => runA P Γ (fun q s K => lamX P Γ lv m c L d q s K) (n + 1) b s (scopeK m lv L n b K)
    | _ => none)
def stepX (P : Program) (Γ : Sums) (lv : Tl) (m : Nat) (c : Code) (L : Nat → St → (Exit → St → Option R) → Option R) (q : Nat) (s : St) (K : Exit → St → Option R) : Option R :=
  cond (Nat.beq (q % 2) 0)
    (match loopAt c (q / 2) with
      | some (.loop b) => runA P Γ (lamX P Γ lv m c L 20) (q / 2 + 1) b s (roundK m lv L q K)
      | _ => none)
    (match loopAt c (q / 2 % 64) with
      | some (.scope b) => (match behind (q / 2 / 64) b (q / 2 % 64 + 1) with
        | some (n', c') => runA P Γ (lamX P Γ lv m c L 20) n' c' s (scopeK m lv L (q / 2 % 64) b K)
        | none => none)
      | _ => none)
def LX (P : Program) (Γ : Sums) (lv : Tl) (m : Nat) (c : Code) : Nat → Nat → St → (Exit → St → Option R) → Option R
  | 0 => fun _ _ _ => none
  | k + 1 => fun q s K => stepX P Γ lv m c (LX P Γ lv m c k) q s K
end
section
variable {R : Type} {P : Program} {Γ : Sums} {W : Nat → Prop} {S0 : List AO} {ρ0 ρ : Nat → Geo} {w0 w : World} {a : Act} {N : Nat} {r : R}
theorem tellC_ok {lv : Tl} {q : Nat} {s : St} {K : St → Option R} (hK : tellC S0.length lv q s K = some r) (h : StB W S0 ρ0 w0 N s ρ a w) : ∃ s' ρ', K s' = some r ∧ StB W S0 ρ0 w0 N s' ρ' a w :=
  tell_ok hK ⟨h.aft.trans (coolAll_ok lv.cl s.ob.length h.aft.rel), h.sl.up (coolAll_ok lv.cl s.ob.length h.aft.rel).le, h.df, h.sz⟩
structure LOk (P : Program) (W : Nat → Prop) (S0 : List AO) (ρ0 : Nat → Geo) (w0 : World) (N : Nat) (r : R) (c : Code) (κ : Nat) (L : Nat → St → (Exit → St → Option R) → Option R) : Prop where
  loop : ∀ n b, loopAt c n = some (.loop b) → ∀ (s : St) (K : Exit → St → Option R) (ρ : Nat → Geo) (a : Act) (w : World), L (2 * n) s K = some r → StB W S0 ρ0 w0 N s ρ a w → Code.rounds P b (fun e a' w' => ∃ s' ρ', K e s' = some r ∧ StB W S0 ρ0 w0 N s' ρ' a' w') κ a w
  lab : ∀ n b l n' c', n < 64 → loopAt c n = some (.scope b) → behind l b (n + 1) = some (n', c') → ∀ (s : St) (K : Exit → St → Option R) (ρ : Nat → Geo) (a : Act) (w : World), L (2 * (l * 64 + n) + 1) s K = some r → StB W S0 ρ0 w0 N s ρ a w →
    ∀ (fr : Frame) (ks : List Item) (cs : List Frame), ∃ e a' w', (∃ s' ρ', K e s' = some r ∧ StB W S0 ρ0 w0 N s' ρ' a' w') ∧ Arrives P (lone (fr.at a (.code c' :: .inScope b :: ks)) cs w) fr ks cs e a' w'
theorem scopeK_ok {lv : Tl} {c : Code} {L : Nat → St → (Exit → St → Option R) → Option R} {κ : Nat} (hL : LOk P W S0 ρ0 w0 N r c κ L) {n : Nat} {b c' : Code} (hb : loopAt c n = some (.scope b)) {K : Exit → St → Option R}
    (hr : c'.wp P (fun e a' w' => ∃ s' ρ', scopeK S0.length lv L n b K e s' = some r ∧ StB W S0 ρ0 w0 N s' ρ' a' w') a w) :
    ∀ (fr : Frame) (ks : List Item) (cs : List Frame), ∃ e a' w', (∃ s' ρ', K e s' = some r ∧ StB W S0 ρ0 w0 N s' ρ' a' w') ∧ Arrives P (lone (fr.at a (.code c' :: .inScope b :: ks)) cs w) fr ks cs e a' w' := by
  intro fr ks cs
  obtain ⟨e, a₁, w₁, ⟨s', ρ', hK', h'⟩, harr⟩ := hr fr (.inScope b :: ks) cs
  cases e with
  | normal => exact ⟨.normal, a₁, w₁, ⟨s', ρ', hK', h'⟩, Steps.trans harr (.one step_inScope)⟩
  | exit id => exact ⟨.exit id, a₁, w₁, ⟨s', ρ', hK', h'⟩, fun k' hk => harr k' (by simp [exitTo, hk])⟩
  | goto l =>
    unfold scopeK at hK'
    simp only at hK'
    split at hK'
    · rename_i z hfl
      obtain ⟨n', c''⟩ := z
      obtain ⟨hn, hK'⟩ | ⟨_, hK'⟩ := cond_elim hK'
      · obtain ⟨s2, ρ2, hK2, h3⟩ := tellC_ok hK' h'
        obtain ⟨e₂, a₂, w₂, hq₂, harr₂⟩ := hL.lab n b l n' c'' (by rwa [Nat.blt_eq] at hn) hb hfl s2 K ρ2 a₁ w₁ hK2 h3 fr ks cs
        exact ⟨e₂, a₂, w₂, hq₂, .of_steps (harr _ (by simp [gotoIn, (behind_some hfl).1])) harr₂⟩
      · cases hK'
    · rename_i hfl
      exact ⟨.goto l, a₁, w₁, ⟨s', ρ', hK', h'⟩, fun k' hk => harr k' (by simp [gotoIn, behind_none hfl, hk])⟩
  | ret => exact ⟨_, a₁, w₁, ⟨s', ρ', hK', h'⟩, harr⟩
  | panic ch => exact ⟨_, a₁, w₁, ⟨s', ρ', hK', h'⟩, harr⟩
  | outgrown => exact ⟨_, a₁, w₁, ⟨s', ρ', hK', h'⟩, harr⟩
theorem lamX_ok (hmx : P.follows .mixedOrders = true) (hΓ : CallOk P Γ) (hG : PrimOk P Γ) {lv : Tl} {c : Code} (hd : dstC N c = true) {L : Nat → St → (Exit → St → Option R) → Option R} {κ : Nat} (hL : LOk P W S0 ρ0 w0 N r c κ L) : ∀ (d n : Nat) (l : Code), loopAt c n = some l → LamAt P W S0 ρ0 w0 N r (lamX P Γ lv S0.length c L d) n l
  | 0, n, l, _ => fun s K ρ a w hK _ => by cases hK
  | d + 1, n, l, hl => by
    intro s K ρ a w hK h
    rw [lamX, hl] at hK
    split at hK
    · rename_i b e
      obtain rfl := Option.some.inj e
      obtain ⟨s2, ρ2, hK2, h3⟩ := tellC_ok hK h
      exact wp_loop_rounds κ (hL.loop n b hl s2 K ρ2 a w hK2 h3)
    · rename_i b e
      obtain rfl := Option.some.inj e
      obtain ⟨h1, h2⟩ := loopAt_sub (.inr hl)
      exact wp_scope_of (scopeK_ok hL hl (runA_ok hmx hΓ hG b (n + 1) s _ ρ a w (h2 N hd) (fun q l' hl' => lamX_ok hmx hΓ hG hd hL d (n + 1 + q) l' (h1 q l' hl')) hK h))
    · cases hK
theorem stepX_ok (hmx : P.follows .mixedOrders = true) (hΓ : CallOk P Γ) (hG : PrimOk P Γ) {lv : Tl} {c : Code} (hd : dstC N c = true) {L : Nat → St → (Exit → St → Option R) → Option R} {κ : Nat} (hL : LOk P W S0 ρ0 w0 N r c κ L) : LOk P W S0 ρ0 w0 N r c (κ + 1) (stepX P Γ lv S0.length c L) where
  loop := fun n b hl s K ρ a w hK h => by
    unfold stepX at hK
    rw [show 2 * n % 2 = 0 by omega, show 2 * n / 2 = n by omega, hl] at hK
    obtain ⟨h1, h2⟩ := loopAt_sub (.inl hl)
    have hw := runA_ok hmx hΓ hG b (n + 1) s _ ρ a w (h2 N hd) (fun q l' hl' => lamX_ok hmx hΓ hG hd hL 20 (n + 1 + q) l' (h1 q l' hl')) hK h
    refine wp_mono hw ?_
    rintro e a' w' ⟨s', ρ', hK', h'⟩
    cases e with
    | normal =>
      obtain ⟨s2, ρ2, hK2, h3⟩ := tellC_ok (show tellC S0.length lv (2 * n) s' (fun s => L (2 * n) s K) = some r from hK') h'
      exact hL.loop n b hl s2 K ρ2 a' w' hK2 h3
    | _ => exact ⟨s', ρ', hK', h'⟩
  lab := fun n b l n' c' hn hl hf s K ρ a w hK h => by
    unfold stepX at hK
    rw [show (2 * (l * 64 + n) + 1) % 2 = 1 by omega, show (2 * (l * 64 + n) + 1) / 2 = l * 64 + n by omega, show (l * 64 + n) % 64 = n by omega, show (l * 64 + n) / 64 = l by omega, hl] at hK
    simp only [hf] at hK
    obtain ⟨_, h2⟩ := loopAt_sub (.inr hl)
    obtain ⟨h1, _⟩ := loopAt_sub (.inr hl)
    obtain ⟨g1, g2, g3, _⟩ := behind_some hf
    refine scopeK_ok hL hl (runA_ok hmx hΓ hG c' n' s _ ρ a w (g3 N (h2 N hd)) (fun q l' hl' => ?_) hK h)
    obtain ⟨q0, e1, e2⟩ := g2 q l' hl'
    rw [← e2]
    exact lamX_ok hmx hΓ hG hd hL 20 (n + 1 + q0) l' (h1 q0 l' e1)
theorem LX_ok (hmx : P.follows .mixedOrders = true) (hΓ : CallOk P Γ) (hG : PrimOk P Γ) {lv : Tl} {c : Code} (hd : dstC N c = true) : ∀ k, LOk P W S0 ρ0 w0 N r c k (LX P Γ lv S0.length c k)
  | 0 => ⟨(fun n b hl s K ρ a w hK _ => by cases hK), (fun n b l n' c' hn hl hf s K ρ a w hK _ => by cases hK)⟩
  | k + 1 => stepX_ok hmx hΓ hG hd (LX_ok hmx hΓ hG hd k)
end
section
variable {R S : Type} (f : R → Option S)
theorem bd_tellC (m : Nat) (lv : Tl) (q : Nat) (s : St) (K : St → Option R) : (tellC m lv q s K).bind f = tellC m lv q s (fun s => (K s).bind f) := bd_tell f m _ _ K
theorem bd_scopeK {m : Nat} {lv : Tl} {L : {R : Type} → Nat → St → (Exit → St → Option R) → Option R} (hL : LamNat L) (n : Nat) (b : Code) (K : Exit → St → Option R) (e : Exit) (s : St) : (scopeK m lv L n b K e s).bind f = scopeK m lv L n b (fun e s => (K e s).bind f) e s := by
  unfold scopeK
  cases e with
  | goto l =>
    dsimp only
    split
    · rw [bd_cond]; congr 1; rw [bd_tellC]; congr 1; funext s; exact hL f _ s K
    · rfl
  | _ => rfl
theorem bd_lamX (P : Program) {Γ : Sums} (hΓ : SumsNat Γ) (lv : Tl) (m : Nat) (c : Code) {L : {R : Type} → Nat → St → (Exit → St → Option R) → Option R} (hL : LamNat L) : ∀ d, LamNat (fun n s K => lamX P Γ lv m c L d n s K)
  | 0 => fun _ _ _ _ => rfl
  | d + 1 => by
    intro f n s K
    dsimp only
    unfold lamX
    split
    · rw [bd_tellC]; congr 1; funext s; exact hL f _ s K
    · rw [bd_run f P hΓ (Λ := fun q s K => lamX P Γ lv m c L d q s K) (bd_lamX P hΓ lv m c hL d)]
      congr 1; funext e s
      exact bd_scopeK f hL n _ K e s
    · rfl
theorem bd_LX (P : Program) {Γ : Sums} (hΓ : SumsNat Γ) (lv : Tl) (m : Nat) (c : Code) : ∀ k, LamNat (fun n s K => LX P Γ lv m c k n s K)
  | 0 => fun _ _ _ _ => rfl
  | k + 1 => by
    intro f q s K
    show (stepX P Γ lv m c (LX P Γ lv m c k) q s K).bind f = stepX P Γ lv m c (LX P Γ lv m c k) q s (fun e s => (K e s).bind f)
    have hL : LamNat (fun n s K => LX P Γ lv m c k n s K) := bd_LX P hΓ lv m c k
    unfold stepX
    rw [bd_cond]
    congr 1
    · split
      · rw [bd_run f P hΓ (Λ := fun q s K => lamX P Γ lv m c (LX P Γ lv m c k) 20 q s K) (bd_lamX P hΓ lv m c (L := fun q s K => LX P Γ lv m c k q s K) hL 20)]
        congr 1; funext e s
        unfold roundK
        cases e with
        | normal => dsimp only; rw [bd_tellC]; congr 1; funext s; exact hL f _ s K
        | _ => rfl
      · rfl
    · split
      · split
        · rw [bd_run f P hΓ (Λ := fun q s K => lamX P Γ lv m c (LX P Γ lv m c k) 20 q s K) (bd_lamX P hΓ lv m c (L := fun q s K => LX P Γ lv m c k q s K) hL 20)]
          congr 1; funext e s
          exact bd_scopeK f (L := fun q s K => LX P Γ lv m c k q s K) hL _ _ K e s
        · rfl
      · rfl
end
/-- a function by its own code, told at its loops and labels -/
def runX {R : Type} (P : Program) (Γ : Sums) (lv : Tl) (fn : Func) (m : Nat) (L : Nat → St → (Exit → St → Option R) → Option R) (args : List AV) (ob : List AO) (K : KV R) : Option R := funA P Γ (lamX P Γ lv m (codeOf fn) L 20) fn args ob K
def codeX (P : Program) (Γ : Sums) (lv : Tl) (k : Nat) (fn : Func) : Summ := ⟨fun args ob K => runX P Γ lv fn ob.length (LX P Γ lv ob.length (codeOf fn) k) args ob K⟩
theorem codeX_ok {P : Program} {Γ : Sums} (hmx : P.follows .mixedOrders = true) (hNG : noNG P = true) (hΓ : CallOk P Γ) (hG : PrimOk P Γ) {f : FuncId} {fn : Func} (hf : P.funcs[f]? = some fn) (lv : Tl) (k : Nat) : SumOk P f (codeX P Γ lv k fn) := by
  refine ⟨?_, ?_⟩
  · intro R R' f as ob K
    exact bd_fun f P hG.1 (Λ := fun n s K => lamX P Γ lv ob.length (codeOf fn) (LX P Γ lv ob.length (codeOf fn) k) 20 n s K) (bd_lamX P hG.1 lv ob.length (codeOf fn) (L := fun q s K => LX P Γ lv ob.length (codeOf fn) k q s K) (bd_LX P hG.1 lv ob.length (codeOf fn) k) 20) fn as ob K
  · intro R args ob K r hK W ρ w us h ha
    have hK : funA P Γ (lamX P Γ lv ob.length (codeOf fn) (LX P Γ lv ob.length (codeOf fn) k) 20) fn args ob K = some r := hK
    cases hb : fn.body with
    | none => unfold funA at hK; rw [hb] at hK; cases hK
    | some c =>
      have hc : codeOf fn = c := by unfold codeOf; rw [hb]
      rw [hc] at hK
      exact .inr ⟨run_enter hNG hf hb _ _, funA_ok hmx hΓ hG hf hb hK (fun hd q l hl => lamX_ok hmx hΓ hG hd (LX_ok hmx hΓ hG hd k) 20 q l hl) h ha⟩
/-- everything by its own code -/
def wideS (P : Program) (Wr : FuncId → List Nat) (k d : Nat) (f : FuncId) : Summ := ⟨fun args ob K => (wideA P (fun _ => none) Wr k d).call f args ob K⟩
theorem wideS_ok {P : Program} (hmx : P.follows .mixedOrders = true) (hNG : noNG P = true) (Wr : FuncId → List Nat) (k d : Nat) (f : FuncId) : SumOk P f (wideS P Wr k d f) :=
  ⟨fun g as ob K => wide_nat P _ Wr k d g f as ob K, fun args ob K r hK => wide_ok hmx hNG (prims_none P) d f args ob K r hK⟩
/-- what stands behind the q-th loop, or scope, of a code -/
def contX {R : Type} (P : Program) (Γ : Sums) (lv : Tl) (m : Nat) (c0 : Code) (L : Nat → St → (Exit → St → Option R) → Option R) : Nat → Code → (Exit → St → Option R) → Nat → Exit → St → Option R
  | n, .seq x y, K, q => cond (Nat.blt q (n + nl x)) (contX P Γ lv m c0 L n x (fun e s => match e with
      | .normal => runA P Γ (lamX P Γ lv m c0 L 20) (n + nl x) y s K
      | e => K e s) q) (contX P Γ lv m c0 L (n + nl x) y K q)
  | n, .cond _ x y, K, q => cond (Nat.blt q (n + nl x)) (contX P Γ lv m c0 L n x K q) (contX P Γ lv m c0 L (n + nl x) y K q)
  | n, .block i c, K, q => contX P Γ lv m c0 L n c (fun e s => match e with
      | .exit j => cond (Nat.beq j i) (K .normal s) (K (.exit j) s)
      | e => K e s) q
  | n, .scope b, K, q => cond (Nat.beq q n) K (contX P Γ lv m c0 L (n + 1) b (scopeK m lv L n b K) q)
  | _, _, K, _ => K
def endX {R : Type} (P : Program) (Γ : Sums) (lv : Tl) (fn : Func) (m : Nat) (L : Nat → St → (Exit → St → Option R) → Option R) (K : KV R) (q : Nat) : Exit → St → Option R := contX P Γ lv m (codeOf fn) L 0 (codeOf fn) (retK P fn m K) (cond (Nat.beq (q % 2) 0) (q / 2) (q / 2 % 64))
end Go.Mx

/- A law of data: what its run comes to, as its call. -/
namespace Go.Mx
open Go Go.RowKit Go.Sx

theorem lawful {P : Program} {f : FuncId} {fn : Func} {c : Code} {S : Summ} (h : SumOk P f S) (hNG : noNG P = true) (hf : P.funcs[f]? = some fn) (hb : fn.body = some c) {args : List AV} {us : List Value} {w : World} (hK : S.run args [] isTrue = some true)
    (ha : A2 (VR (cx (fun _ => False) [] (fun _ => ⟨none, 0, 0, 0⟩) w)) args us) : Calls P f us.toArray w (Ret fun u w' => u = .bool true ∧ Fr w w' No) := by
  rcases h.2 args [] isTrue true hK (fun _ => False) (fun _ => ⟨none, 0, 0, 0⟩) w us (rel_nil w) ha with ⟨u, w', h1, _⟩ | ⟨_, h⟩
  · rw [run_enter hNG hf hb] at h1
    cases h1
  · refine h.mono fun e w' he => ?_
    cases e with
    | returned u =>
      obtain ⟨v, ob', ρ', h1, h2, h3⟩ := he
      unfold isTrue at h1
      split at h1
      · obtain rfl := Option.some.inj h1
        exact ⟨vr_bool h3, h2.fr.mono (fun k _ hk => by obtain ⟨i, o, p, hi, _⟩ := hk; simp at hi)⟩
      · cases h1
    | _ => exact he
theorem vr_arg {t : T} {d : t.den} {v : Value} {ρ : Nat → Geo} {w : World} {cs : List Value} (hK : t.kd.K No w.heap d cs) (hv : v = form t.aggB cs) : VR (cx (fun _ => False) [] ρ w) (.dat t d) v := by
  have hk : t.kd.K (cx (fun _ => False) [] ρ w).A (cx (fun _ => False) [] ρ w).h d cs := t.kd.mono hK (fun k _ hk => by
    rcases hk with hk | ⟨i, o, p, hi, _⟩
    · exact hk.elim
    · simp at hi)
  exact ⟨cs, hv, cr_dat.2 hk, kd_len hk⟩
end Go.Mx

/- What is told of an array that is handed in: its length, too. -/
namespace Go.Sx
open Go
theorem Dt.arrL {P : Program} {t : TypeId} {α : Type} {m : Nat} {kd : Kd α} {R : List α → Prop} (d : Dt P t (Kd.arr m kd) R) : Dt P t (Kd.arr m kd) (fun xs => xs.length = m ∧ R xs) :=
  ⟨d.sz, fun enc w sp fuel cs x h hw => by
    obtain ⟨y, hK, hR⟩ := d.op enc w sp fuel cs x h hw
    exact ⟨y, hK, hK.1, hR⟩⟩
end Go.Sx
