/- Own work. A part of the proof of a law of this seat: The walk library: what is of no program. -/
import Derived.Test.YtmljbiijlljhfaaSx2
namespace Go.Sx
open Go Go.RowKit

/-! ### heaps that differ in some blocks alone -/
structure Fr (w w' : World) (S : Nat → Prop) : Prop where
  os : w'.os = w.os
  tape : w'.tape = w.tape
  output : w'.output = w.output
  size : w.heap.size ≤ w'.heap.size
  blk : ∀ k, k < w.heap.size → ¬ S k → w'.heap[k]? = w.heap[k]?
def No : Nat → Prop := fun _ => False
theorem Fr.refl (w : World) (S : Nat → Prop) : Fr w w S := ⟨rfl, rfl, rfl, Nat.le_refl _, fun _ _ _ => rfl⟩
theorem Fr.mono {w w' : World} {S S' : Nat → Prop} (h : Fr w w' S) (hs : ∀ k, k < w.heap.size → S k → S' k) : Fr w w' S' := ⟨h.os, h.tape, h.output, h.size, fun k hk hn => h.blk k hk (fun hS => hn (hs k hk hS))⟩
theorem Fr.step {w0 w w' : World} {S0 S : Nat → Prop} (h : Fr w0 w S0) (h2 : Fr w w' S) (hs : ∀ k, k < w0.heap.size → S k → S0 k) : Fr w0 w' S0 :=
  ⟨h2.os.trans h.os, h2.tape.trans h.tape, h2.output.trans h.output, Nat.le_trans h.size h2.size, fun k hk hn => (h2.blk k (Nat.lt_of_lt_of_le hk h.size) (fun hS => hn (hs k hk hS))).trans (h.blk k hk hn)⟩
theorem Fr.drew {w w' : World} {S : Nat → Prop} (h : Fr w w' S) : Fr w w'.drew S := ⟨h.os, h.tape, h.output, h.size, h.blk⟩
theorem Fr.drewL {w w' : World} {S : Nat → Prop} (h : Fr w.drew w' S) : Fr w w' S := ⟨h.os, h.tape, h.output, h.size, h.blk⟩
theorem Fr.alloc (w : World) (o : Obj) (S : Nat → Prop) : Fr w (w.alloc o) S := ⟨rfl, rfl, rfl, by simp, fun k hk _ => Below.heap_alloc w o k hk⟩
theorem Fr.setCell (w : World) (p : Addr) (u : Value) : Fr w (w.setCell p u) (fun k => k = p.block) := ⟨rfl, rfl, rfl, by simp [World.setCell], fun k _ hn => Below.heap_setCell _ _ _ _ hn⟩
theorem Fr.grown {w w' : World} {row : Option Nat} (h : w.grownBy w' row) : Fr w w' (fun k => some k = row) := ⟨h.os, h.tape, h.output, h.size, fun k hk hn => h.block k hk hn⟩
theorem Fr.below {w w' : World} (h : Fr w w' No) : Below w.heap.size w w' := ⟨h.os, h.tape, h.output, h.size, fun k hk => h.blk k hk id⟩
theorem Below.fr {w w' : World} (h : Below w.heap.size w w') : Fr w w' No := ⟨h.os, h.tape, h.output, h.size, fun k hk _ => h.block k hk⟩

/-- The blocks of some addresses, and those of B. -/
def Av (as : List (Option Addr)) (B : Nat → Prop) : Nat → Prop := fun k => B k ∨ ∃ p, some p ∈ as ∧ p.block = k
def Old (w : World) : Nat → Prop := fun k => k < w.heap.size

/-! ### kinds of values: how they lie in cells -/
structure Kd (α : Type) where
  sz : Nat
  K : (Nat → Prop) → Array Obj → α → List Value → Prop
  len : ∀ {A h x cs}, K A h x cs → cs.length = sz
  one : ∀ {A h x cs}, K A h x cs → ∀ u ∈ cs, u.oneCell' = true
  step : ∀ {A h h' x cs}, K A h x cs → h.size ≤ h'.size → (∀ k, k < h.size → ¬ A k → h'[k]? = h[k]?) → K A h' x cs
  mono : ∀ {A A' h x cs}, K A h x cs → (∀ k, k < h.size → A' k → A k) → K A' h x cs

inductive Els {α : Type} (R : α → List Value → Prop) : List α → List Value → Prop where
  | nil : Els R [] []
  | cons {x : α} {c : List Value} {xs : List α} {cs : List Value} : R x c → Els R xs cs → Els R (x :: xs) (c ++ cs)

section
variable {α : Type} {R R' : α → List Value → Prop} {xs ys : List α} {cs ds : List Value} {s : Nat}
theorem Els.imp (h : Els R xs cs) (hi : ∀ x c, R x c → R' x c) : Els R' xs cs := by
  induction h with
  | nil => exact .nil
  | cons hx _ ih => exact .cons (hi _ _ hx) ih
theorem Els.length (h : Els R xs cs) (hs : ∀ x c, R x c → c.length = s) : cs.length = xs.length * s := by
  induction h with
  | nil => simp
  | cons hx _ ih => rw [List.length_append, ih, hs _ _ hx, List.length_cons, Nat.add_mul]; omega
theorem Els.append (h : Els R xs cs) (h' : Els R ys ds) : Els R (xs ++ ys) (cs ++ ds) := by
  induction h with
  | nil => exact h'
  | cons hx _ ih => rw [List.cons_append, List.append_assoc]; exact .cons hx ih
theorem Els.get (h : Els R xs cs) (hs : ∀ x c, R x c → c.length = s) (j : Nat) (hj : j < xs.length) : ∃ c, R xs[j] c ∧ ∀ i v, c[i]? = some v → cs[j * s + i]? = some v := by
  induction h generalizing j with
  | nil => simp at hj
  | @cons x c xs cs hx ht ih =>
    cases j with
    | zero => exact ⟨c, by simpa using hx, fun i v hv => by
        have hi : i < c.length := (List.getElem?_eq_some_iff.1 hv).1
        simpa [List.getElem?_append, hi] using hv⟩
    | succ j =>
      obtain ⟨d, hd, hg⟩ := ih j (by simpa using hj)
      refine ⟨d, by simpa using hd, fun i v hv => ?_⟩
      rw [List.getElem?_append, if_neg (by rw [hs _ _ hx, Nat.add_mul]; omega), hs _ _ hx, show (j + 1) * s + i - s = j * s + i by rw [Nat.add_mul]; omega]
      exact hg i v hv
theorem Els.set (h : Els R xs cs) (hs : ∀ x c, R x c → c.length = s) (j : Nat) (hj : j < xs.length) {y : α} {d : List Value} (hy : R y d) : Els R (xs.set j y) (cs.take (j * s) ++ d ++ cs.drop (j * s + s)) := by
  induction h generalizing j with
  | nil => simp at hj
  | @cons x c xs cs hx ht ih =>
    have hc := hs _ _ hx
    cases j with
    | zero =>
      simp only [Nat.zero_mul, List.take_zero, List.nil_append, Nat.zero_add, List.set_cons_zero]
      rw [List.drop_append, ← hc]
      simpa using Els.cons hy ht
    | succ j =>
      have := ih j (by simpa using hj)
      rw [List.set_cons_succ]
      have e1 : (c ++ cs).take ((j + 1) * s) = c ++ cs.take (j * s) := by
        rw [List.take_append, List.take_of_length_le (by rw [hc, Nat.add_mul]; omega), hc, show (j + 1) * s - s = j * s by rw [Nat.add_mul]; omega]
      have e2 : (c ++ cs).drop ((j + 1) * s + s) = cs.drop (j * s + s) := by
        rw [List.drop_append, List.drop_of_length_le (by rw [hc, Nat.add_mul]; omega), hc, show (j + 1) * s + s - s = j * s + s by rw [Nat.add_mul]; omega, List.nil_append]
      rw [e1, e2, List.append_assoc, List.append_assoc, ← List.append_assoc (cs.take _)]
      exact .cons hx this
theorem Els.take (h : Els R xs cs) (hs : ∀ x c, R x c → c.length = s) (j : Nat) : Els R (xs.take j) (cs.take (j * s)) := by
  induction h generalizing j with
  | nil => simp; exact .nil
  | @cons x c xs cs hx ht ih =>
    have hc := hs _ _ hx
    cases j with
    | zero => simp; exact .nil
    | succ j =>
      have e : (c ++ cs).take ((j + 1) * s) = c ++ cs.take (j * s) := by
        rw [List.take_append, List.take_of_length_le (l := c) (by rw [hc, Nat.add_mul]; omega), hc, show (j + 1) * s - s = j * s by rw [Nat.add_mul]; omega]
      rw [List.take_succ_cons, e]
      exact .cons hx (ih j)
theorem Els.drop (h : Els R xs cs) (hs : ∀ x c, R x c → c.length = s) (j : Nat) : Els R (xs.drop j) (cs.drop (j * s)) := by
  induction h generalizing j with
  | nil => simp; exact .nil
  | @cons x c xs cs hx ht ih =>
    have hc := hs _ _ hx
    cases j with
    | zero => simp; exact .cons hx ht
    | succ j =>
      have e : (c ++ cs).drop ((j + 1) * s) = cs.drop (j * s) := by
        rw [List.drop_append, List.drop_of_length_le (l := c) (by rw [hc, Nat.add_mul]; omega), hc, show (j + 1) * s - s = j * s by rw [Nat.add_mul]; omega, List.nil_append]
      rw [List.drop_succ_cons, e]
      exact ih j
theorem Els.mem (h : Els R xs cs) {u : Value} (hu : u ∈ cs) : ∃ x c, R x c ∧ u ∈ c := by
  induction h with
  | nil => simp at hu
  | cons hx _ ih =>
    rw [List.mem_append] at hu
    exact hu.elim (fun h => ⟨_, _, hx, h⟩) ih
end

/-- A slice's cells, read: not in a block of A. -/
def Raw {α : Type} (A : Nat → Prop) (d : Kd α) (h : Array Obj) (a : Option Addr) (c : Nat) (xs : List α) : Prop :=
  xs.length ≤ c ∧ c ≤ maxLen ∧ ∃ cells, Els (d.K A h) xs cells ∧ (xs ≠ [] → ∃ b o C T fr, a = some ⟨b, o, none⟩ ∧ ¬ A b ∧ h[b]? = some (.cells C T fr) ∧ ∀ j v, cells[j]? = some v → C[o + j]? = some v)

section
variable {α : Type} {A A' : Nat → Prop} {d : Kd α} {h h' : Array Obj} {a : Option Addr} {c : Nat} {xs : List α}
theorem lt_of_get {h : Array Obj} {b : Nat} {o : Obj} (e : h[b]? = some o) : b < h.size := (Array.getElem?_eq_some_iff.1 e).1
theorem Raw.step (r : Raw A d h a c xs) (hs : h.size ≤ h'.size) (hk : ∀ k, k < h.size → ¬ A k → h'[k]? = h[k]?) : Raw A d h' a c xs := by
  obtain ⟨h1, h2, cells, he, hm⟩ := r
  refine ⟨h1, h2, cells, he.imp (fun _ _ hx => d.step hx hs hk), fun hn => ?_⟩
  obtain ⟨b, o, C, T, fr, ha, hA, hb, hc⟩ := hm hn
  exact ⟨b, o, C, T, fr, ha, hA, (hk b (lt_of_get hb) hA).trans hb, hc⟩
theorem Raw.mono (r : Raw A d h a c xs) (hk : ∀ k, k < h.size → A' k → A k) : Raw A' d h a c xs := by
  obtain ⟨h1, h2, cells, he, hm⟩ := r
  refine ⟨h1, h2, cells, he.imp (fun _ _ hx => d.mono hx hk), fun hn => ?_⟩
  obtain ⟨b, o, C, T, fr, ha, hA, hb, hc⟩ := hm hn
  exact ⟨b, o, C, T, fr, ha, fun h => hA (hk b (lt_of_get hb) h), hb, hc⟩
theorem Raw.nil (A : Nat → Prop) (d : Kd α) (h : Array Obj) (a : Option Addr) (c : Nat) (hc : c ≤ maxLen) : Raw A d h a c [] := ⟨Nat.zero_le _, hc, [], .nil, fun h => absurd rfl h⟩
end

namespace Kd
def scalar {α : Type} (enc : α → Value) (h1 : ∀ x, (enc x).oneCell' = true) : Kd α where
  sz := 1
  K := fun _ _ x cs => cs = [enc x]
  len := fun h => by rw [h]; rfl
  one := fun h u hu => by rw [h] at hu; simp at hu; rw [hu]; exact h1 _
  step := fun h _ _ => h
  mono := fun h _ => h
def int (k : IntKind) : Kd Int := scalar (Value.int k) (fun _ => rfl)
def bool : Kd Bool := scalar Value.bool (fun _ => rfl)
def str : Kd ByteArray := scalar Value.string (fun _ => rfl)
def pair {α β : Type} (a : Kd α) (b : Kd β) : Kd (α × β) where
  sz := a.sz + b.sz
  K := fun A h x cs => ∃ c1 c2, cs = c1 ++ c2 ∧ a.K A h x.1 c1 ∧ b.K A h x.2 c2
  len := fun ⟨c1, c2, e, h1, h2⟩ => by rw [e, List.length_append, a.len h1, b.len h2]
  one := fun ⟨c1, c2, e, h1, h2⟩ u hu => by
    rw [e, List.mem_append] at hu
    exact hu.elim (a.one h1 u) (b.one h2 u)
  step := fun ⟨c1, c2, e, h1, h2⟩ hs hk => ⟨c1, c2, e, a.step h1 hs hk, b.step h2 hs hk⟩
  mono := fun ⟨c1, c2, e, h1, h2⟩ hk => ⟨c1, c2, e, a.mono h1 hk, b.mono h2 hk⟩
def sl {α : Type} (d : Kd α) : Kd (List α) where
  sz := 1
  K := fun A h xs cs => ∃ a c, cs = [.slice a xs.length c] ∧ Raw A d h a c xs
  len := fun ⟨a, c, e, _⟩ => by rw [e]; rfl
  one := fun ⟨a, c, e, _⟩ u hu => by rw [e] at hu; simp at hu; rw [hu]; rfl
  step := fun ⟨a, c, e, r⟩ hs hk => ⟨a, c, e, r.step hs hk⟩
  mono := fun ⟨a, c, e, r⟩ hk => ⟨a, c, e, r.mono hk⟩
def arr {α : Type} (n : Nat) (d : Kd α) : Kd (List α) where
  sz := n * d.sz
  K := fun A h xs cs => xs.length = n ∧ Els (d.K A h) xs cs
  len := fun ⟨e, h⟩ => by rw [h.length (fun _ _ hx => d.len hx), e]
  one := fun ⟨_, h⟩ u hu => by
    obtain ⟨x, c, hx, hm⟩ := h.mem hu
    exact d.one hx u hm
  step := fun ⟨e, h⟩ hs hk => ⟨e, h.imp (fun _ _ hx => d.step hx hs hk)⟩
  mono := fun ⟨e, h⟩ hk => ⟨e, h.imp (fun _ _ hx => d.mono hx hk)⟩
end Kd

/-! ### what is one's own: a slice that may be written -/
def Ow {α : Type} (A : Nat → Prop) (w : World) (e : TypeId) (d : Kd α) (a : Option Addr) (c : Nat) (xs : List α) : Prop :=
  ∃ cells, w.ownsRow 0 e d.sz (.slice a xs.length c) xs.length cells ∧ Els (d.K A w.heap) xs cells

/-- Of the world, seen from the call's begin: what may be written lies in the blocks of 'as', which are new, or S0's. -/
structure Ex (w0 : World) (S0 : Nat → Prop) (as : List (Option Addr)) (w : World) : Prop where
  fr : Fr w0 w S0
  dis : as.Pairwise (fun x y => ∀ p q, x = some p → y = some q → p.block ≠ q.block)
  lt : ∀ p, some p ∈ as → p.block < w.heap.size
  nw : ∀ p, some p ∈ as → w0.heap.size ≤ p.block ∨ S0 p.block

/-- From w to w' the blocks of 'as' alone have turned; those of as' are those, or new. -/
structure Step (as as' : List (Option Addr)) (w w' : World) : Prop where
  size : w.heap.size ≤ w'.heap.size
  blk : ∀ k, k < w.heap.size → (∀ p, some p ∈ as → p.block ≠ k) → w'.heap[k]? = w.heap[k]?
  new : ∀ p, some p ∈ as' → (∃ q, some q ∈ as ∧ q.block = p.block) ∨ w.heap.size ≤ p.block

section
variable {α : Type} {A B : Nat → Prop} {d : Kd α} {w w' w0 : World} {a : Option Addr} {c : Nat} {xs : List α} {as as' : List (Option Addr)} {S0 S : Nat → Prop}
theorem Step.key (h : Step as as' w w') (B : Nat → Prop) : ∀ k, k < w.heap.size → Av as' B k → Av as B k := by
  intro k hk hv
  rcases hv with hv | ⟨p, hp, rfl⟩
  · exact .inl hv
  · rcases h.new p hp with ⟨q, hq, e⟩ | hq
    · exact .inr ⟨q, hq, e⟩
    · omega
theorem Step.tr (h : Step as as' w w') (r : Raw (Av as B) d w.heap a c xs) : Raw (Av as' B) d w'.heap a c xs :=
  ((r.mono (A' := fun k => Av as B k ∨ Av as' B k) (fun k hk hv => hv.elim id (h.key B k hk))).step h.size (fun k hk hn => h.blk k hk (fun p hp e => hn (.inl (.inr ⟨p, hp, e⟩))))).mono (fun k _ hv => .inr hv)
theorem Step.trK (h : Step as as' w w') {x : α} {cs : List Value} (r : d.K (Av as B) w.heap x cs) : d.K (Av as' B) w'.heap x cs :=
  d.mono (d.step (d.mono r (A' := fun k => Av as B k ∨ Av as' B k) (fun k hk hv => hv.elim id (h.key B k hk))) h.size (fun k hk hn => h.blk k hk (fun p hp e => hn (.inl (.inr ⟨p, hp, e⟩))))) (fun k _ hv => .inr hv)
theorem Step.drew (as : List (Option Addr)) (w : World) : Step as as w w.drew := ⟨Nat.le_refl _, fun _ _ _ => rfl, fun p hp => .inl ⟨p, hp, rfl⟩⟩
/-- Nothing that there was has turned. -/
theorem Step.more (as : List (Option Addr)) (h : Fr w w' No) : Step as as w w' := ⟨h.size, fun k hk _ => h.blk k hk id, fun p hp => .inl ⟨p, hp, rfl⟩⟩
/-- One more thing of one's own, new. -/
theorem Step.add (as : List (Option Addr)) (h : Fr w w' No) (hn : ∀ p, a = some p → w.heap.size ≤ p.block) : Step as (a :: as) w w' := ⟨h.size, fun k hk _ => h.blk k hk id, fun p hp => by
  rcases List.mem_cons.1 hp with e | hp
  · exact .inr (hn p e.symm)
  · exact .inl ⟨p, hp, rfl⟩⟩
/-- One of them has been written. -/
theorem Step.wrote {a a' : Option Addr} {l r : List (Option Addr)} (h : Fr w w' (fun k => ∃ p, a = some p ∧ p.block = k)) (hn : ∀ p, a' = some p → (∃ q, a = some q ∧ q.block = p.block) ∨ w.heap.size ≤ p.block) : Step (l ++ a :: r) (l ++ a' :: r) w w' :=
  ⟨h.size, fun k hk hp => h.blk k hk (fun ⟨p, e, hb⟩ => hp p (by simp [e]) hb), fun p hp => by
    rw [List.mem_append, List.mem_cons] at hp
    rcases hp with hp | e | hp
    · exact .inl ⟨p, by simp [hp], rfl⟩
    · rcases hn p e.symm with ⟨q, hq, hb⟩ | hb
      · exact .inl ⟨q, by simp [hq], hb⟩
      · exact .inr hb
    · exact .inl ⟨p, by simp [hp], rfl⟩⟩
/-- One is no longer written: what is read may lie there again. -/
theorem Step.drop (l r : List (Option Addr)) (w : World) (a : Option Addr) : Step (l ++ a :: r) (l ++ r) w w := ⟨Nat.le_refl _, fun _ _ _ => rfl, fun p hp => .inl ⟨p, by rw [List.mem_append] at hp; rcases hp with hp | hp <;> simp [hp], rfl⟩⟩

theorem Ex.refl (w : World) (S0 : Nat → Prop) : Ex w S0 [] w := ⟨Fr.refl _ _, .nil, fun _ h => by simp at h, fun _ h => by simp at h⟩
theorem Ex.drew (h : Ex w0 S0 as w) : Ex w0 S0 as w.drew := ⟨h.fr.drew, h.dis, h.lt, h.nw⟩
theorem Ex.more (h : Ex w0 S0 as w) (hf : Fr w w' No) : Ex w0 S0 as w' := ⟨h.fr.step hf (fun _ _ hN => hN.elim), h.dis, fun p hp => Nat.lt_of_lt_of_le (h.lt p hp) hf.size, h.nw⟩
theorem Ex.add (h : Ex w0 S0 as w) (hf : Fr w w' No) (hn : ∀ p, a = some p → w.heap.size ≤ p.block ∧ p.block < w'.heap.size) : Ex w0 S0 (a :: as) w' :=
  ⟨h.fr.step hf (fun _ _ hN => hN.elim), List.pairwise_cons.2 ⟨fun y hy p q hp hq e => by
      have h1 := (hn p hp).1
      have h2 := h.lt q (hq ▸ hy)
      omega, h.dis⟩, fun p hp => by
      rcases List.mem_cons.1 hp with e | hp
      · exact (hn p e.symm).2
      · exact Nat.lt_of_lt_of_le (h.lt p hp) hf.size, fun p hp => by
      rcases List.mem_cons.1 hp with e | hp
      · exact .inl (Nat.le_trans h.fr.size (hn p e.symm).1)
      · exact h.nw p hp⟩
theorem Ex.wrote {a a' : Option Addr} {l r : List (Option Addr)} (h : Ex w0 S0 (l ++ a :: r) w) (hf : Fr w w' (fun k => ∃ p, a = some p ∧ p.block = k)) (hn : ∀ p, a' = some p → p.block < w'.heap.size ∧ ((∃ q, a = some q ∧ q.block = p.block) ∨ w.heap.size ≤ p.block)) : Ex w0 S0 (l ++ a' :: r) w' := by
  obtain ⟨h1, h2, h3, h4⟩ := h
  rw [List.pairwise_append, List.pairwise_cons] at h2
  refine ⟨h1.step hf (fun k hk ⟨p, e, hb⟩ => by
    rcases h4 p (by simp [e]) with h | h
    · omega
    · rwa [← hb]), ?_, fun p hp => ?_, fun p hp => ?_⟩
  · rw [List.pairwise_append, List.pairwise_cons]
    refine ⟨h2.1, ⟨fun y hy p q hp hq e => ?_, h2.2.1.2⟩, fun x hx y hy p q hp hq e => ?_⟩
    · rcases (hn p hp).2 with ⟨s, hs, hb⟩ | hb
      · exact h2.2.1.1 y hy s q hs hq (hb.trans e)
      · have := h3 q (by rw [hq] at hy; simp [hy]); omega
    · rcases List.mem_cons.1 hy with e' | hy
      · rcases (hn q (e' ▸ hq)).2 with ⟨s, hs, hb⟩ | hb
        · exact h2.2.2 x hx a (by simp) p s hp hs (e.trans hb.symm)
        · have := h3 p (by rw [hp] at hx; simp [hx]); omega
      · exact h2.2.2 x hx y (by simp [hy]) p q hp hq e
  · rw [List.mem_append, List.mem_cons] at hp
    rcases hp with hp | e | hp
    · exact Nat.lt_of_lt_of_le (h3 p (by simp [hp])) hf.size
    · exact (hn p e.symm).1
    · exact Nat.lt_of_lt_of_le (h3 p (by simp [hp])) hf.size
  · rw [List.mem_append, List.mem_cons] at hp
    rcases hp with hp | e | hp
    · exact h4 p (by simp [hp])
    · rcases (hn p e.symm).2 with ⟨s, hs, hb⟩ | hb
      · rw [← hb]; exact h4 s (by simp [hs])
      · exact .inl (Nat.le_trans h1.size hb)
    · exact h4 p (by simp [hp])
theorem Ex.drop {a : Option Addr} {l r : List (Option Addr)} (h : Ex w0 S0 (l ++ a :: r) w) : Ex w0 S0 (l ++ r) w := by
  obtain ⟨h1, h2, h3, h4⟩ := h
  refine ⟨h1, ?_, fun p hp => h3 p ?_, fun p hp => h4 p ?_⟩
  · rw [List.pairwise_append, List.pairwise_cons] at h2
    rw [List.pairwise_append]
    exact ⟨h2.1, h2.2.1.2, fun x hx y hy => h2.2.2 x hx y (by simp [hy])⟩
  all_goals (rw [List.mem_append] at hp; rcases hp with hp | hp <;> simp [hp])
end
end Go.Sx
