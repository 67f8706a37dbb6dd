/- Own work. A part of the proof of a law of this seat: The walk library: what is of no program. -/
import Derived.Test.YtmljbiijlljhfaaSx5
namespace Go.Sx
open Go Go.RowKit

/-! ### plain functions that the walks speak of -/
def ck {α : Type} (p : Prop) [Decidable p] (x : Option α) : Option α := if p then x else none
section
variable {α β : Type} {r : α}
theorem ck_elim {p : Prop} [Decidable p] {x : Option α} (h : ck p x = some r) : p ∧ x = some r := by
  unfold ck at h
  split at h
  · exact ⟨‹_›, h⟩
  · cases h
theorem bind_elim {x : Option β} {f : β → Option α} (h : x.bind f = some r) : ∃ t, x = some t ∧ f t = some r := by
  cases x with
  | none => cases h
  | some t => exact ⟨t, rfl, h⟩
theorem ite_elim {p : Prop} [Decidable p] {x y : Option α} (h : (if p then x else y) = some r) : (p ∧ x = some r) ∨ (¬ p ∧ y = some r) := by
  by_cases hp : p
  · rw [if_pos hp] at h; exact .inl ⟨hp, h⟩
  · rw [if_neg hp] at h; exact .inr ⟨hp, h⟩
theorem cond_elim {b : Bool} {x y : Option α} (h : (bif b then x else y) = some r) : (b = true ∧ x = some r) ∨ (b = false ∧ y = some r) := by
  cases b
  · exact .inr ⟨rfl, h⟩
  · exact .inl ⟨rfl, h⟩
theorem dec_f {p : Prop} [Decidable p] (h : ¬ p) : decide p = false := decide_eq_false h
theorem not_t {b : Bool} (h : b = true) : (!b) = false := by rw [h]; rfl
theorem not_f {b : Bool} (h : b = false) : (!b) = true := by rw [h]; rfl
end
theorem ck_pos {α : Type} {p : Prop} [Decidable p] {x : Option α} (h : p) : ck p x = x := if_pos h

/-! ### code, more -/
section
variable {P : Program} {Q : Exit → Act → World → Prop} {a : Act} {w : World} {n : Nat} {l : List (Nat × Value)}
theorem wcond_t {c : Operand} {x y : Code} {t : Bool} (ha : Has n l a) (hc : ev l c = some (.bool t)) (ht : t = true) (h : x.wp P Q a w) : (Code.cond c x y).wp P Q a w :=
  wp_cond_split (ha.ev hc) (fun _ => h) (fun hf => by rw [ht] at hf; cases hf)
theorem wcond_f {c : Operand} {x y : Code} {t : Bool} (ha : Has n l a) (hc : ev l c = some (.bool t)) (ht : t = false) (h : y.wp P Q a w) : (Code.cond c x y).wp P Q a w :=
  wp_cond_split (ha.ev hc) (fun hf => by rw [ht] at hf; cases hf) (fun _ => h)
theorem wseqJ {x y : Code} (J : Act → World → Prop) (hJ : ∀ a w, J a w → y.wp P Q a w) (hx : ∀ K : Act → World → Prop, (∀ a w, J a w → K a w) → x.wp P (Exit.then K Q) a w) : (Code.seq x y).wp P Q a w :=
  wp_seq (hx _ hJ)
theorem rounds_mono {c : Code} : ∀ (m m' : Nat) (a : Act) (w : World), m ≤ m' → Code.rounds P c Q m a w → Code.rounds P c Q m' a w := by
  intro m
  induction m with
  | zero => intro m' a w _ h; exact h.elim
  | succ m ih =>
    intro m' a w hm h
    obtain ⟨m', rfl⟩ : ∃ q, m' = q + 1 := ⟨m' - 1, by omega⟩
    exact wp_mono h (fun e a w he => by
      cases e with
      | normal => exact ih m' a w (by omega) he
      | _ => exact he)
theorem wloopJ {c : Code} (J : Nat → Act → World → Prop) (k : Nat) (h0 : J k a w)
    (hJ : ∀ k a w, J k a w → ∀ K : Act → World → Prop, (∀ k' a w, k' < k → J k' a w → K a w) → c.wp P (Exit.then K Q) a w) : (Code.loop c).wp P Q a w := by
  refine wp_loop_rounds (k + 1) ?_
  have key : ∀ m k a w, k ≤ m → J k a w → Code.rounds P c Q (k + 1) a w := by
    intro m
    induction m with
    | zero =>
      intro k a w hk h
      refine hJ k a w h _ (fun k' a w hk' h' => ?_)
      omega
    | succ m ih =>
      intro k a w hk h
      refine hJ k a w h _ (fun k' a w hk' h' => ?_)
      exact rounds_mono (k' + 1) k a w (by omega) (ih k' a w (by omega) h')
  exact key k k a w (Nat.le_refl _) h0

theorem yield_at {tmps : Array Value} {d : Nat} {t : Bool} (h : tmps.getD d undef = .bool t) : tmps[d]? = some (.bool t) := by
  rw [Array.getD_eq_getD_getElem?] at h
  cases hx : tmps[d]? with
  | none => rw [hx] at h; simp [undef] at h
  | some v => rw [hx] at h; simpa using h
/-- A guarded operation that is not wanted. -/
theorem goOff {ops : Array Oper} {rest : List Oper} {d : Nat} {op : Op} {ty : TypeId} {pos : String} {af : Array Edge} {j : Nat} {wt t : Bool} {oj : Oper} {dj : Nat} (ha : Has n l a) (hd : Nat.ble (d + 1) n = true)
    (hj : ops[j]? = some oj) (hdj : oj.dst = some dj) (hv : look dj l = some (.bool t)) (hne : t = !wt) (k : ∀ a, Has n ((d, undef) :: l) a → wpList P ops Q rest a w) : wpList P ops Q (⟨some d, op, ty, pos, af, some (j, wt)⟩ :: rest) a w := by
  have hw : Region.wanted ⟨some d, op, ty, pos, af, some (j, wt)⟩ (yielded ops a.tmps) = false := by
    simp only [Region.wanted, yielded, hj, hdj, Option.bind_some, yield_at (ha.at_ _ _ hv), hne]
    cases wt <;> rfl
  unfold wpList
  rw [if_neg (by rw [hw]; simp)]
  exact k _ (ha.put hd undef)
theorem goOff0 {ops : Array Oper} {rest : List Oper} {op : Op} {ty : TypeId} {pos : String} {af : Array Edge} {j : Nat} {wt t : Bool} {oj : Oper} {dj : Nat} (ha : Has n l a)
    (hj : ops[j]? = some oj) (hdj : oj.dst = some dj) (hv : look dj l = some (.bool t)) (hne : t = !wt) (k : ∀ a, Has n l a → wpList P ops Q rest a w) : wpList P ops Q (⟨none, op, ty, pos, af, some (j, wt)⟩ :: rest) a w := by
  have hw : Region.wanted ⟨none, op, ty, pos, af, some (j, wt)⟩ (yielded ops a.tmps) = false := by
    simp only [Region.wanted, yielded, hj, hdj, Option.bind_some, yield_at (ha.at_ _ _ hv), hne]
    cases wt <;> rfl
  unfold wpList
  rw [if_neg (by rw [hw]; simp)]
  exact k _ (ha.skip undef)
/-- A guarded operation that is wanted. -/
theorem goOn {ops : Array Oper} {rest : List Oper} {o : Oper} {j : Nat} {wt t : Bool} {oj : Oper} {dj : Nat} {R : Value → World → Prop} (hg : o.guard = some (j, wt)) (ha : Has n l a)
    (hj : ops[j]? = some oj) (hdj : oj.dst = some dj) (hv : look dj l = some (.bool t)) (he : t = wt) (h : Does P o a w R) (k : ∀ v w', R v w' → wpList P ops Q rest (a.put o.dst v) w') : wpList P ops Q (o :: rest) a w := by
  have hw : Region.wanted o (yielded ops a.tmps) = true := by
    simp only [Region.wanted, yielded, hg, hj, hdj, Option.bind_some, yield_at (ha.at_ _ _ hv), he]
    cases wt <;> rfl
  unfold wpList
  rw [if_pos hw]
  exact .inl (h _ _ k)
theorem goOn1 {ops : Array Oper} {rest : List Oper} {d : Nat} {op : Op} {ty : TypeId} {pos : String} {af : Array Edge} {j : Nat} {wt t : Bool} {oj : Oper} {dj : Nat} {v : Value} {w' : World} (ha : Has n l a) (hd : Nat.ble (d + 1) n = true)
    (hj : ops[j]? = some oj) (hdj : oj.dst = some dj) (hv : look dj l = some (.bool t)) (he : t = wt) (h : Does P ⟨some d, op, ty, pos, af, some (j, wt)⟩ a w (Is v w')) (k : ∀ a, Has n ((d, v) :: l) a → wpList P ops Q rest a w') : wpList P ops Q (⟨some d, op, ty, pos, af, some (j, wt)⟩ :: rest) a w :=
  goOn rfl ha hj hdj hv he h (fun v1 w1 hv => by obtain ⟨rfl, rfl⟩ := hv; exact k _ (ha.put hd _))
theorem goOnR {ops : Array Oper} {rest : List Oper} {d : Nat} {op : Op} {ty : TypeId} {pos : String} {af : Array Edge} {j : Nat} {wt t : Bool} {oj : Oper} {dj : Nat} {R : Value → World → Prop} (ha : Has n l a) (hd : Nat.ble (d + 1) n = true)
    (hj : ops[j]? = some oj) (hdj : oj.dst = some dj) (hv : look dj l = some (.bool t)) (he : t = wt) (h : Does P ⟨some d, op, ty, pos, af, some (j, wt)⟩ a w R) (k : ∀ v w' a, R v w' → Has n ((d, v) :: l) a → wpList P ops Q rest a w') : wpList P ops Q (⟨some d, op, ty, pos, af, some (j, wt)⟩ :: rest) a w :=
  goOn rfl ha hj hdj hv he h (fun v1 w1 hv => k v1 w1 _ hv (ha.put hd _))
theorem wreg {id : Nat} {os : List Oper} (h : wpList P os.toArray Q os a w) : (Code.region id os.toArray false).wp P Q a w := wp_region_lit h
end

/-! ### a call's begin and end -/
section
variable {P : Program} {w : World}
theorem enter {f : FuncId} {fn : Func} {c : Code} {n : Nat} {R : Value → World → Prop} {vs : List Value} (l : List (Nat × Value)) (hf : P.funcs[f]? = some fn) (hb : fn.body = some c) (hn : fn.ntmps = n) (hs : Nat.ble vs.length n = true)
    (hl : l.map (fun p => vs[p.1]?) = l.map (fun p => some p.2)) (h : ∀ a, Has n l a → c.wp P (bodyPost P fn (Ret R)) a w) : Calls P f vs.toArray w (Ret R) := by
  refine calls_of_wp hf hb (h _ (Has.enter hn (by simpa using Nat.le_of_ble_eq_true hs) l (fun p hp => ?_)))
  have := List.map_inj_left.1 hl p hp
  simpa using this

inductive RV (P : Program) (l : List (Nat × Value)) (w : World) : List ResultVar → List Value → Prop where
  | nil : RV P l w [] []
  | tmp {t : Nat} {v : Value} {rs : List ResultVar} {vs : List Value} : look t l = some v → RV P l w rs vs → RV P l w (.tmp t :: rs) (v :: vs)
  | cell {p T : Nat} {b o : Nat} {v : Value} {rs : List ResultVar} {vs : List Value} : look p l = some (.pointer (some ⟨b, o, none⟩)) → (loadVar T ⟨b, o, none⟩).run P w = .ok v w → RV P l w rs vs → RV P l w (.cell p T :: rs) (v :: vs)
theorem RV.run {n : Nat} {l : List (Nat × Value)} {a : Act} (ha : Has n l a) {rs : List ResultVar} {vs : List Value} (h : RV P l w rs vs) (f : ResultVar → Sem Value) (hf : ∀ u, f (.tmp u) = pure (a.tmps.getD u undef)) (hc : ∀ p t, f (.cell p t) = (do loadVar t (← asAddr (a.tmps.getD p undef)))) : (rs.mapM f).run P w = .ok vs w := by
  induction h with
  | nil => simp
  | tmp h _ ih => simp only [List.mapM_cons, hf, ha.at_ _ _ h, Sem.run_bind, Sem.run_pure, Result.andThen_ok, ih]
  | cell h hl _ ih => simp only [List.mapM_cons, hc, ha.at_ _ _ h, asAddr, Sem.run_bind, Sem.run_pure, Result.andThen_ok, hl, ih]
theorem finN {fn : Func} {R : Value → World → Prop} {n : Nat} {l : List (Nat × Value)} {a : Act} {rs : List ResultVar} {vs : List Value} (ha : Has n l a) (hr : fn.results = rs.toArray) (hv : RV P l w rs vs) (hl : vs.length ≠ 1) (h : R (.tuple vs.toArray) w) : bodyPost P fn (Ret R) .ret a w := by
  refine ⟨ha.df, _, ?_, h⟩
  unfold results
  rw [hr, List.mapM_toArray]
  simp only [Sem.run_bind, Sem.run_map]
  rw [hv.run ha _ (fun _ => rfl) (fun _ _ => rfl)]
  simp [hl]
theorem finC {fn : Func} {R : Value → World → Prop} {n : Nat} {l : List (Nat × Value)} {a : Act} {rv : ResultVar} {v : Value} (ha : Has n l a) (hr : fn.results = #[rv]) (hv : RV P l w [rv] [v]) (h : R v w) : bodyPost P fn (Ret R) .ret a w := by
  refine ⟨ha.df, v, ?_, h⟩
  unfold results
  rw [show fn.results = [rv].toArray from hr, List.mapM_toArray]
  simp only [Sem.run_bind, Sem.run_map]
  rw [hv.run ha _ (fun _ => rfl) (fun _ _ => rfl)]
  simp
end
end Go.Sx
