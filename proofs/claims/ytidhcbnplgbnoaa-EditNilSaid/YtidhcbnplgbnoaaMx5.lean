/- Own work. A part of the proof of a law of this seat: a part -/
import Derived.Test.YtidhcbnplgbnoaaMx4
/- A state of the abstract machine, in memory; what an operation may turn. -/
namespace Go.Mx
open Go Go.RowKit Go.Sx

def AO.own : AO → Bool
  | .box _ _ w => w
  | .row _ _ _ .own => true
  | .itr _ _ w => w
  | _ => false
/-- the blocks that may be written -/
def OwnB (S : List AO) (ρ : Nat → Geo) (k : Nat) : Prop := ∃ i o p, S[i]? = some o ∧ o.own = true ∧ (ρ i).a = some p ∧ p.block = k
def cx (W : Nat → Prop) (S : List AO) (ρ : Nat → Geo) (w : World) : Cx := ⟨fun k => W k ∨ OwnB S ρ k, w.heap, ρ, S.length⟩
/-- a row that is read: not in a block of O -/
def RowR {α : Type} (x : Cx) (O : Nat → Prop) (d : Kd α) (a : Option Addr) (c : Nat) (xs : List α) : Prop :=
  xs.length ≤ c ∧ c ≤ maxLen ∧ ∃ cells, Els (d.K x.A x.h) xs cells ∧ (xs ≠ [] → ∃ b, a = some ⟨b, 0, none⟩ ∧ ¬ O b ∧ Lies x.h b 0 cells)
def OR (x : Cx) (O : Nat → Prop) (w : World) (g : Geo) : AO → Prop
  | .gone => True
  | .box ty v m => ∃ b cs, g.a = some ⟨b, 0, none⟩ ∧ CR x v cs ∧ cs.length = v.sz ∧ Bx w b ty cs ∧ (m = false → ¬ O b)
  | .row e t xs .own => g.n = xs.length ∧ g.s = t.sz ∧ Ow x.A w e t.kd g.a g.c xs
  | .row _ t xs .ro => g.n = xs.length ∧ g.s = t.sz ∧ RowR x O t.kd g.a g.c xs
  | .row _ t xs .fz => g.n = xs.length ∧ g.s = t.sz ∧ RowR x x.A t.kd g.a g.c xs
  | .itr s p m => ∃ b, g.a = some ⟨b, 0, none⟩ ∧ It w b s p ∧ (m = false → ¬ O b)
structure Rel (W : Nat → Prop) (S : List AO) (ρ : Nat → Geo) (w : World) : Prop where
  ob : ∀ i o, S[i]? = some o → OR (cx W S ρ w) (OwnB S ρ) w (ρ i) o
  dj : ∀ i j o o' p q, i ≠ j → S[i]? = some o → S[j]? = some o' → o.own = true → o'.own = true → (ρ i).a = some p → (ρ j).a = some q → p.block ≠ q.block
  wl : ∀ k, W k → k < w.heap.size
  wd : ∀ k, OwnB S ρ k → ¬ W k
structure Aft (W : Nat → Prop) (S : List AO) (ρ : Nat → Geo) (w : World) (S' : List AO) (ρ' : Nat → Geo) (w' : World) : Prop where
  rel : Rel W S' ρ' w'
  fr : Fr w w' (OwnB S ρ)
  nw : ∀ k, OwnB S' ρ' k → OwnB S ρ k ∨ w.heap.size ≤ k
  ag : ∀ i, i < S.length → ρ' i = ρ i
  m : S.length ≤ S'.length

section
variable {W : Nat → Prop} {S S' S'' : List AO} {ρ ρ' ρ'' : Nat → Geo} {w w' w'' : World}
theorem Aft.refl (h : Rel W S ρ w) : Aft W S ρ w S ρ w := ⟨h, Fr.refl _ _, fun _ h => .inl h, fun _ _ => rfl, Nat.le_refl _⟩
theorem Aft.trans (h : Aft W S ρ w S' ρ' w') (h' : Aft W S' ρ' w' S'' ρ'' w'') : Aft W S ρ w S'' ρ'' w'' where
  rel := h'.rel
  fr := h.fr.step h'.fr (fun k hk hO => (h.nw k hO).elim id (fun h2 => absurd h2 (Nat.not_le_of_lt hk)))
  nw := fun k hk => (h'.nw k hk).elim (h.nw k) (fun h2 => .inr (Nat.le_trans h.fr.size h2))
  ag := fun i hi => (h'.ag i (Nat.lt_of_lt_of_le hi h.m)).trans (h.ag i hi)
  m := Nat.le_trans h.m h'.m
theorem Aft.le (h : Aft W S ρ w S' ρ' w') : (cx W S ρ w).Le (cx W S' ρ' w') where
  size := h.fr.size
  blk := fun k hk hn => h.fr.blk k hk (fun hO => hn (.inr hO))
  new := fun k hk hv => hv.elim .inl (fun hO => (h.nw k hO).elim .inr (fun h2 => absurd h2 (Nat.not_le_of_lt hk)))
  geo := h.ag
  m := h.m
theorem OwnB.lt (h : Rel W S ρ w) {k : Nat} (hk : OwnB S ρ k) : k < w.heap.size := by
  obtain ⟨i, o, p, hi, ho, ha, rfl⟩ := hk
  have r := h.ob i o hi
  match o, ho, r with
  | .box ty v m, _, ⟨b, cs, e, _, _, hb, _⟩ =>
    rw [e] at ha
    obtain rfl := Option.some.inj ha
    exact hb.lt
  | .row e t xs .own, _, ⟨_, _, r⟩ => exact r.lt p ha
  | .itr s q m, _, ⟨b, e, hI, _⟩ =>
    rw [e] at ha
    obtain rfl := Option.some.inj ha
    exact lt_of_get hI

/-! ### facts of objects, carried on -/
theorem RowR.up {α : Type} {x y : Cx} {O O' O1 : Nat → Prop} {d : Kd α} {a : Option Addr} {c : Nat} {xs : List α} (h : x.Le y) (hx : x.h = w.heap) (hy : y.h = w'.heap) (r : RowR x O d a c xs) (hf : Fr w w' O1) (hk : ∀ b, b < w.heap.size → ¬ O b → ¬ O1 b ∧ ¬ O' b) : RowR y O' d a c xs := by
  obtain ⟨h1, h2, cells, he, hl⟩ := r
  refine ⟨h1, h2, cells, he.imp (fun _ _ hK => h.K hK), fun hne => ?_⟩
  obtain ⟨b, ha, hO, hL⟩ := hl hne
  have hb := lies_lt hL
  rw [hx] at hb
  obtain ⟨e1, e2⟩ := hk b hb hO
  obtain ⟨C, T, fr, e3, e4⟩ := hL
  refine ⟨b, ha, e2, C, T, fr, ?_, e4⟩
  rw [hy, hf.blk b hb e1, ← hx]
  exact e3
/-- An object that nobody wrote is as it was. -/
theorem OR.up {x y : Cx} {O O' O1 : Nat → Prop} {g : Geo} {o : AO} (h : x.Le y) (hx : x.h = w.heap) (hy : y.h = w'.heap) (r : OR x O w g o) (hf : Fr w w' O1)
    (hro : o.own = false → ∀ b, b < w.heap.size → ¬ O b → ¬ O1 b ∧ ¬ O' b) (hfz : ∀ k, k < w.heap.size → O1 k → x.A k)
    (hown : o.own = true → ∀ p, g.a = some p → ¬ O1 p.block) : OR y O' w' g o := by
  match o, r with
  | .gone, _ => trivial
  | .box ty v true, ⟨b, cs, e, h1, h2, hb, _⟩ => exact ⟨b, cs, e, h1.up h, h2, Bx.keep hb hf (hown rfl _ e), fun hm => by cases hm⟩
  | .box ty v false, ⟨b, cs, e, h1, h2, hb, h3⟩ => exact ⟨b, cs, e, h1.up h, h2, Bx.keep hb hf (hro rfl b hb.lt (h3 rfl)).1, fun _ => (hro rfl b hb.lt (h3 rfl)).2⟩
  | .row e t xs .own, ⟨h1, h2, h3⟩ =>
    refine ⟨h1, h2, Ow.keep h3 hf (fun q hq => hown rfl q hq) (fun z cs hK => ?_)⟩
    rw [← hx] at hK
    rw [← hy]
    exact h.K hK
  | .row _ t xs .ro, ⟨h1, h2, h3⟩ => exact ⟨h1, h2, h3.up h hx hy hf (hro rfl)⟩
  | .row _ t xs .fz, ⟨h1, h2, h3⟩ => exact ⟨h1, h2, h3.up h hx hy hf (fun b hb hO => ⟨fun hA => hO (hfz b hb hA), fun hA => hO (h.new b (by rw [hx]; exact hb) hA)⟩)⟩
  | .itr s p true, ⟨b, e, hI, _⟩ => exact ⟨b, e, It.keep hI hf (hown rfl _ e), fun hm => by cases hm⟩
  | .itr s p false, ⟨b, e, hI, h3⟩ => exact ⟨b, e, It.keep hI hf (hro rfl b (lt_of_get hI) (h3 rfl)).1, fun _ => (hro rfl b (lt_of_get hI) (h3 rfl)).2⟩
end
end Go.Mx
