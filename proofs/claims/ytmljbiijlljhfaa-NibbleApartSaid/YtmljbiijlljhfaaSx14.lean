/- Own work. A part of the proof of a law of this seat: The walk library: what is of no program. -/
import Derived.Test.YtmljbiijlljhfaaSx12
import Derived.Laws.StructEq
import Derived.ScopeJumps
import Derived.Laws.Cover3
namespace Go.Sx
open Go Go.RowKit

/-! ### structs held against each other -/
structure EqV (P : Program) (d : Nat) (t : TypeId) (x y : Value) (q : Prop) : Prop where
  run : ∀ w, ∃ r : Bool, (Op.equalIn d t x y).run P w = .ok r w ∧ (r = true ↔ q)
structure EqF (P : Program) (d : Nat) (xs ys : Array Value) (fs : List Field) (q : Prop) : Prop where
  run : ∀ w, ∃ r : Bool, (Op.eqFields d xs ys fs).run P w = .ok r w ∧ (r = true ↔ q)
def Pt (P : Program) (t : TypeId) (cs : Array Value) (off : Nat) (v : Value) : Prop := ∀ w, (part t cs off).run P w = .ok v w
section
variable {P : Program} {d : Nat} {t : TypeId} {x y : Value} {p q : Prop} {xs ys : Array Value} {f : Field} {fs : List Field}
theorem EqV.int {k k' : IntKind} {a b : Int} (hu : P.underlying t = some (.int k')) : EqV P (d + 1) t (.int k a) (.int k b) (a = b) := ⟨fun w => ⟨a == b, run_equalIn_int w d t k k' a b hu, by simp⟩⟩
theorem EqV.bool {a b : Bool} (hu : P.underlying t = some .bool) : EqV P (d + 1) t (.bool a) (.bool b) (a = b) := ⟨fun w => ⟨a == b, run_equalIn_bool' w d t a b hu, by simp⟩⟩
theorem EqV.str {a b : ByteArray} (hu : P.underlying t = some .string) : EqV P (d + 1) t (.string a) (.string b) (a = b) := ⟨fun w => by
  refine ⟨decide (a = b), ?_, by simp⟩
  rw [run_equalIn_string w d t a b hu]
  simp [toList_eq_iff]⟩
theorem Pt.cell {cs : Array Value} {off : Nat} {v : Value} (hg : ∀ w, (isAgg t).run P w = .ok false w) (hv : cs[off]? = some v) : Pt P t cs off v := fun w => by simp [part, hg, hv]
theorem Pt.agg {cs : Array Value} {off s : Nat} {l : Array Value} (hg : ∀ w, (isAgg t).run P w = .ok true w) (hs : ∀ w, (sizeOf t).run P w = .ok s w) (hl : cs.extract off (off + s) = l) : Pt P t cs off (.agg l) := fun w => by simp [part, hg, hs, hl]
theorem EqF.cons (hn : f.name ≠ "_") (hx : Pt P f.type xs f.offset x) (hy : Pt P f.type ys f.offset y) (h : EqV P d f.type x y p) (r : EqF P d xs ys fs q) : EqF P d xs ys (f :: fs) (p ∧ q) := ⟨fun w => by
  obtain ⟨r1, h1, h2⟩ := h.run w
  obtain ⟨r2, h3, h4⟩ := r.run w
  cases r1 with
  | false => exact ⟨false, by simp [Op.eqFields, hn, hx w, hy w, h1], by simp [← h2]⟩
  | true => exact ⟨r2, by simp [Op.eqFields, hn, hx w, hy w, h1, h3], by simp [h4, ← h2]⟩⟩
theorem EqF.one (hn : f.name ≠ "_") (hx : Pt P f.type xs f.offset x) (hy : Pt P f.type ys f.offset y) (h : EqV P d f.type x y p) : EqF P d xs ys [f] p := ⟨fun w => by
  obtain ⟨r1, h1, h2⟩ := h.run w
  cases r1 with
  | false => exact ⟨false, by simp [Op.eqFields, hn, hx w, hy w, h1], by simp [← h2]⟩
  | true => exact ⟨true, by simp [Op.eqFields, hn, hx w, hy w, h1], by simp [← h2]⟩⟩
theorem EqV.struct {fs : Array Field} (hu : P.underlying t = some (.struct fs)) (hp : P.stoodInHeld t = false) (h : EqF P d xs ys fs.toList q) : EqV P (d + 1) t (.agg xs) (.agg ys) q := ⟨fun w => by
  have hf : P.fieldsOf t = fs := by simp [Program.fieldsOf, hu]
  rw [run_equalIn_struct w d t xs ys (by rw [hf]; exact hu) hp, hf]
  exact h.run w⟩
end
section
variable {P : Program} {a : Act} {w : World} {n : Nat} {l : List (Nat × Value)}
variable {d : Option Nat} {ty T T' : TypeId} {pos : String} {af : Array Edge} {g : Option (Nat × Bool)} {x y : Operand} {xs ys : Array Value} {q : Prop}
theorem guard_agg {op : BinOp} (hg : P.eqGuardType P.depth T = false) (w : World) : (eqGuard op T x y (.agg xs) (.agg ys)).run P w = .ok () w := by
  cases op <;> simp [eqGuard, hg]
theorem d_eqAg [Decidable q] (ha : Has n l a) (hx : ev l x = some (.agg xs)) (hy : ev l y = some (.agg ys)) (hg : P.eqGuardType P.depth T = false) (h : EqV P 10000 T (.agg xs) (.agg ys) q) : Does P ⟨d, .binOp .eql T x y T', ty, pos, af, g⟩ a w (Is (.bool (decide q)) w) :=
  d_bin ha hx hy (guard_agg hg) (by
    obtain ⟨r, h1, h2⟩ := h.run w
    have h3 : r = decide q := Bool.eq_iff_iff.2 (h2.trans decide_eq_true_iff.symm)
    simp only [binOp, Op.equal, Op.maxDepth, Sem.run_bind, Sem.run_pure, h1, Result.andThen_ok, h3])
theorem d_neAg [Decidable q] (ha : Has n l a) (hx : ev l x = some (.agg xs)) (hy : ev l y = some (.agg ys)) (hg : P.eqGuardType P.depth T = false) (h : EqV P 10000 T (.agg xs) (.agg ys) q) : Does P ⟨d, .binOp .neq T x y T', ty, pos, af, g⟩ a w (Is (.bool (!decide q)) w) :=
  d_bin ha hx hy (guard_agg hg) (by
    obtain ⟨r, h1, h2⟩ := h.run w
    have h3 : r = decide q := Bool.eq_iff_iff.2 (h2.trans decide_eq_true_iff.symm)
    simp only [binOp, Op.equal, Op.maxDepth, Sem.run_bind, Sem.run_pure, h1, Result.andThen_ok, h3])
end
section
variable {P : Program} {a : Act} {w : World} {Q : Exit → Act → World → Prop}
/-- A scope with one label, to which the run jumps back: what holds there, round by round. -/
theorem wscopeJ {c y : Code} (l : Nat) (J : Nat → Act → World → Prop) (k : Nat) (hf : findLabel c l = some (.seq .skip y))
    (hy : ∀ k a w, J k a w → ∀ K : Act → World → Prop, (∀ k' a w, k' < k → J k' a w → K a w) → y.wp P (Exit.jump l K Q) a w)
    (first : ∀ Q' : Exit → Act → World → Prop, (∀ a w, J k a w → y.wp P Q' a w) → c.wp P Q' a w) : (Code.scope c).wp P Q a w := by
  intro b ks cs
  have hg : gotoIn l (.inScope c :: ks) = some (.code (.seq .skip y) :: .inScope c :: ks) := by simp [gotoIn, hf]
  have pass : ∀ k a w, J k a w → (Code.seq .skip y).wp P (Exit.jump l (fun a' w' => ∃ k', k' < k ∧ J k' a' w') Q) a w := fun k a w h =>
    wp_seq (wp_skip (hy k a w h (fun a' w' => ∃ k', k' < k ∧ J k' a' w') (fun k' a w hk hJ => ⟨k', hk, hJ⟩)))
  have key : ∀ n a w, J n a w → ∃ e a' w', Q e a' w' ∧ Arrives P (lone (b.at a (.code (.seq .skip y) :: .inScope c :: ks)) cs w) b ks cs e a' w' := by
    intro n
    induction n using Nat.strongRecOn with
    | _ n ih =>
      intro a w hJ
      obtain ⟨e, a₁, w₁, hq, harr⟩ := pass n a w hJ b (.inScope c :: ks) cs
      cases e with
      | normal => exact ⟨.normal, a₁, w₁, hq, Steps.trans harr (.one step_inScope)⟩
      | exit id => exact ⟨.exit id, a₁, w₁, hq, fun k' hk => harr k' (by simp [exitTo, hk])⟩
      | goto l' =>
        obtain ⟨rfl, k', hlt, hJ'⟩ := hq
        obtain ⟨e₂, a₂, w₂, hq₂, harr₂⟩ := ih k' hlt a₁ w₁ hJ'
        exact ⟨e₂, a₂, w₂, hq₂, .of_steps (harr _ hg) harr₂⟩
      | ret => exact ⟨_, a₁, w₁, hq, harr⟩
      | panic ch => exact ⟨_, a₁, w₁, hq, harr⟩
      | outgrown => exact ⟨_, a₁, w₁, hq, harr⟩
  obtain ⟨e, a₁, w₁, hq, harr⟩ := first (Exit.jump l (fun a' w' => ∃ k', J k' a' w') Q) (fun a w hJ => hy k a w hJ _ (fun k' a w _ hJ => ⟨k', hJ⟩)) b (.inScope c :: ks) cs
  cases e with
  | normal => exact ⟨.normal, a₁, w₁, hq, .head step_scope (Steps.trans harr (.one step_inScope))⟩
  | exit id => exact ⟨.exit id, a₁, w₁, hq, fun k' hk => .head step_scope (harr k' (by simp [exitTo, hk]))⟩
  | goto l' =>
    obtain ⟨rfl, k', hJ'⟩ := hq
    obtain ⟨e₂, a₂, w₂, hq₂, harr₂⟩ := key k' a₁ w₁ hJ'
    exact ⟨e₂, a₂, w₂, hq₂, .of_steps (.head step_scope (harr _ hg)) harr₂⟩
  | ret => exact ⟨_, a₁, w₁, hq, .of_steps (.one step_scope) harr⟩
  | panic ch => exact ⟨_, a₁, w₁, hq, .of_steps (.one step_scope) harr⟩
  | outgrown => exact ⟨_, a₁, w₁, hq, .of_steps (.one step_scope) harr⟩
end
/-! ### a string's constant as bytes: the row that was laid is told as read from here on -/
section
variable {P : Program} {a : Act} {w : World} {n : Nat} {l : List (Nat × Value)}
variable {d : Option Nat} {ty T T' : TypeId} {pos : String} {af : Array Edge} {g : Option (Nat × Bool)} {x : Operand}
variable {α : Type} {A B W : Nat → Prop} {kd : Kd α} {p : Option Addr} {c : Nat} {xs : List α} {w0 : World} {as as00 : List (Option Addr)}
theorem d_cvtMark {e : TypeId} (ha : Has n l a) (hT : P.underlying T = some (.slice e)) (he : P.underlying e = some (.int .u8)) (hx : ev l x = some (.slice p xs.length c)) (ho : Ow A w e kd p c xs) (hf : kd.Flat) (hn : 0 < xs.length)
    (hA : ∀ q, p = some q → ¬ B q.block) :
    Does P ⟨d, .convert T T x, ty, pos, af, g⟩ a w (fun v w' => v = .slice p xs.length c ∧ Fr w w' (fun k => ∃ s, p = some s ∧ s.block = k) ∧ Raw B kd w'.heap p c xs) := by
  obtain ⟨cells, h1, h2⟩ := ho
  have hcl := h1.1
  rcases own_none h1 with ⟨rfl, h, _⟩ | ⟨b, cur, rfl, hg, h3, h4, h5, h6⟩
  · omega
  · refine (Does.val (v := .slice (some ⟨b, 0, none⟩) xs.length c) (w' := w.freeze ⟨b, cur.size, none⟩ 1) ?_).mono ?_
    · have : (convert T T (.slice (some ⟨b, 0, none⟩) xs.length c)).run P w = .ok (.slice (some ⟨b, 0, none⟩) xs.length c) (w.freeze ⟨b, cur.size, none⟩ 1) := by
        simp [convert, run_underlying hT, run_underlying he, markStringish, World.shape?, hg]
      simp [execOp, ha.ev hx, this]
    · rintro v w' ⟨rfl, rfl⟩
      have hb : (w.freeze ⟨b, cur.size, none⟩ 1).heap[b]? = some (.cells cur e (cur.size, cur.size + 1)) := by
        simp [World.freeze, Array.getElem?_modify, hg]
      refine ⟨rfl, ⟨rfl, rfl, rfl, by simp [World.freeze], fun k _ hk => ?_⟩, h3, h4, cells, h2.imp (fun _ _ hx => hf.eq hx), fun _ => ⟨b, 0, cur, e, _, rfl, hA _ rfl, hb, fun j v hv => ?_⟩⟩
      · have hne : ¬ b = k := fun e => hk ⟨_, rfl, e⟩
        simp [World.freeze, Array.getElem?_modify, hne]
      · rw [← h6, List.getElem?_take] at hv
        split at hv
        · simpa using hv
        · cases hv
theorem Ex.offW {u : Option Addr} (h : Ex w0 (Av as00 No) as w) (hW : ∀ k, W k → k < w0.heap.size) (hW0 : ∀ p, some p ∈ as00 → ¬ W p.block) (m : Nat) (hm : as[m]? = some u) : ∀ q, u = some q → ¬ Av (as.eraseIdx m) W q.block := fun q hq hk => by
  rcases hk with hk | ⟨s, hs, hb⟩
  · exact h.wfree hW hW0 q (mem_at hm hq) hk
  · obtain ⟨i, hi, he⟩ := List.mem_eraseIdx_iff_getElem?.1 hs
    exact h.off i m he hm hi q hq ⟨s, rfl, hb⟩
/-! ### a piece of one's own, read for a while -/
theorem Raw.reA {q : Option Addr} {c' : Nat} (r : Raw A kd w.heap q c' xs) (f : kd.Flat) (h : ∀ s, q = some s → ¬ B s.block) : Raw B kd w.heap q c' xs := by
  obtain ⟨h1, h2, cells, he, hm⟩ := r
  refine ⟨h1, h2, cells, he.imp (fun _ _ hx => f.eq hx), fun hne => ?_⟩
  obtain ⟨b, o, C, T, fr, ha, _, hb, hc⟩ := hm hne
  exact ⟨b, o, C, T, fr, ha, h _ ha, hb, hc⟩
/-- .. handed to a call -/
theorem Raw.argP {as0 rr ro : List (Option Addr)} {q : Option Addr} {c' : Nat} {ys : List α} (r : Raw A kd w.heap q c' ys) (f : kd.Flat) (hq : In p q) (hE : Ex w0 (Av as00 No) (as0 ++ (rr ++ ro)) w) (hW : ∀ k, W k → k < w0.heap.size) (hW0 : ∀ p, some p ∈ as00 → ¬ W p.block) (hp : p ∈ rr) : Raw (Av as0 (Av ro W)) kd w.heap q c' ys :=
  r.reA f (fun s hs hk => by
    obtain ⟨t, ht, e⟩ := hq s hs
    rw [← e] at hk
    rcases hk with (hk | ⟨s, hs, hb⟩) | ⟨s, hs, hb⟩
    · exact hE.wfree hW hW0 t (by rw [← ht]; simp [hp]) hk
    · exact (List.pairwise_append.1 (List.pairwise_append.1 hE.dis).2.1).2.2 p hp (some s) hs t s ht rfl hb.symm
    · exact (List.pairwise_append.1 hE.dis).2.2 (some s) hs p (by simp [hp]) s t rfl ht hb)
end
section
variable {P : Program} {a : Act} {w : World} {n : Nat} {l : List (Nat × Value)}
variable {d : Option Nat} {ty T T' : TypeId} {pos : String} {af : Array Edge} {g : Option (Nat × Bool)} {x y : Operand}
theorem d_slnil_eq {p : Option Addr} {m c : Nat} {e : TypeId} (ha : Has n l a) (hT : P.underlying T = some (.slice e)) (hx : ev l x = some (.slice p m c)) (hy : ev l y = some (.slice none 0 0)) : Does P ⟨d, .binOp .eql T x y T', ty, pos, af, g⟩ a w (Is (.bool p.isNone) w) :=
  d_bin ha hx hy guard_slice (by
    have h := run_equalIn_slice_nil (P := P) w 9999 T e p m c hT
    simp only [binOp, Op.equal, Op.maxDepth, Sem.run_bind, Sem.run_pure, h, Result.andThen_ok])
theorem d_slnil_ne {p : Option Addr} {m c : Nat} {e : TypeId} (ha : Has n l a) (hT : P.underlying T = some (.slice e)) (hx : ev l x = some (.slice p m c)) (hy : ev l y = some (.slice none 0 0)) : Does P ⟨d, .binOp .neq T x y T', ty, pos, af, g⟩ a w (Is (.bool (!p.isNone)) w) :=
  d_bin ha hx hy guard_slice (by
    have h := run_equalIn_slice_nil (P := P) w 9999 T e p m c hT
    simp only [binOp, Op.equal, Op.maxDepth, Sem.run_bind, Sem.run_pure, h, Result.andThen_ok])
theorem Raw.nilOf {α : Type} {A : Nat → Prop} {kd : Kd α} {h : Array Obj} {c : Nat} {xs : List α} (r : Raw A kd h none c xs) : xs = [] := by
  obtain ⟨_, _, cells, _, hm⟩ := r
  by_cases hx : xs = []
  · exact hx
  · obtain ⟨b, o, C, T, fr, h, _⟩ := hm hx
    cases h
end
section
variable {B : Nat → Prop} {w w' : World} {as as' : List (Option Addr)} {b o : Nat} {cs : List Value}
theorem Nb.step (h : Nb (Av as B) w b) (hs : Step as as' w w') : Nb (Av as' B) w' b := ⟨fun hv => h.1 (hs.key B b h.2 hv), Nat.lt_of_lt_of_le h.2 hs.size⟩
theorem At.step (h : At w b o cs) (hn : Nb (Av as B) w b) (hs : Step as as' w w') : At w' b o cs := fun j v hv => by
  have h1 := h j v hv
  have h2 := hs.blk b hn.2 (fun p hp e => hn.1 (.inr ⟨p, hp, e⟩))
  simp only [World.cell?] at h1 ⊢
  rw [h2]
  exact h1
end
end Go.Sx
