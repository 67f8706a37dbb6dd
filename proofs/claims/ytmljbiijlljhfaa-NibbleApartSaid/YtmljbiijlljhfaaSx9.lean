/- Own work. A part of the proof of a law of this seat: The walk library: what is of no program. -/
import Derived.Test.YtmljbiijlljhfaaSx8
import Derived.Laws.Tables
namespace Go.Sx
open Go Go.RowKit

section
variable {P : Program} {Q : Exit → Act → World → Prop} {a : Act} {w w' : World} {n : Nat} {l : List (Nat × Value)} {ops : Array Oper} {rest : List Oper}
/-- The world as it was: what φ says of the value. -/
theorem goS {d : Nat} {φ : Value → Prop} {op : Op} {ty : TypeId} {pos : String} {af : Array Edge} (ha : Has n l a) (hd : Nat.ble (d + 1) n = true)
    (h : Does P ⟨some d, op, ty, pos, af, none⟩ a w (fun v w' => w' = w ∧ φ v)) (k : ∀ v a, φ v → Has n ((d, v) :: l) a → wpList P ops Q rest a w) : wpList P ops Q (⟨some d, op, ty, pos, af, none⟩ :: rest) a w :=
  goR ha hd h (fun v w' a hv ha => by obtain ⟨rfl, hv⟩ := hv; exact k v a hv ha)
theorem goOnS {d : Nat} {φ : Value → Prop} {op : Op} {ty : TypeId} {pos : String} {af : Array Edge} {j : Nat} {wt t : Bool} {oj : Oper} {dj : Nat} (ha : Has n l a) (hd : Nat.ble (d + 1) n = true)
    (hj : ops[j]? = some oj) (hdj : oj.dst = some dj) (hv : look dj l = some (.bool t)) (he : t = wt) (h : Does P ⟨some d, op, ty, pos, af, some (j, wt)⟩ a w (fun v w' => w' = w ∧ φ v)) (k : ∀ v a, φ v → Has n ((d, v) :: l) a → wpList P ops Q rest a w) : wpList P ops Q (⟨some d, op, ty, pos, af, some (j, wt)⟩ :: rest) a w :=
  goOnR ha hd hj hdj hv he h (fun v w' a hv ha => by obtain ⟨rfl, hv⟩ := hv; exact k v a hv ha)
theorem goOnR0 {op : Op} {ty : TypeId} {pos : String} {af : Array Edge} {j : Nat} {wt t : Bool} {oj : Oper} {dj : Nat} {R : Value → World → Prop} (ha : Has n l a)
    (hj : ops[j]? = some oj) (hdj : oj.dst = some dj) (hv : look dj l = some (.bool t)) (he : t = wt) (h : Does P ⟨none, op, ty, pos, af, some (j, wt)⟩ a w R) (k : ∀ v w' a, R v w' → Has n l a → wpList P ops Q rest a w') : wpList P ops Q (⟨none, op, ty, pos, af, some (j, wt)⟩ :: rest) a w :=
  goOn rfl ha hj hdj hv he h (fun v1 w1 hv => k v1 w1 _ hv ha)
theorem yield_no {tmps : Array Value} {d : Nat} (h : tmps.getD d undef = undef) (b : Bool) : ¬ tmps[d]? = some (.bool b) := by
  intro hb
  rw [Array.getD_eq_getD_getElem?, hb] at h
  simp [undef] at h
/-- The guard was not done itself. -/
theorem goGone {d : Nat} {op : Op} {ty : TypeId} {pos : String} {af : Array Edge} {j : Nat} {wt : Bool} {oj : Oper} {dj : Nat} (ha : Has n l a) (hd : Nat.ble (d + 1) n = true)
    (hj : ops[j]? = some oj) (hdj : oj.dst = some dj) (hv : look dj l = some undef) (k : ∀ a, Has n ((d, undef) :: l) a → wpList P ops Q rest a w) : wpList P ops Q (⟨some d, op, ty, pos, af, some (j, wt)⟩ :: rest) a w := by
  have hw : Region.wanted ⟨some d, op, ty, pos, af, some (j, wt)⟩ (yielded ops a.tmps) = false := by
    have hg := ha.at_ _ _ hv
    have : yielded ops a.tmps j = none := by
      simp only [yielded, hj, hdj, Option.bind_some]
      split
      · rename_i b hb
        exact absurd hb (yield_no hg b)
      · rfl
    simp [Region.wanted, this]
  unfold wpList
  rw [if_neg (by rw [hw]; simp)]
  exact k _ (ha.put hd undef)
theorem goGone0 {op : Op} {ty : TypeId} {pos : String} {af : Array Edge} {j : Nat} {wt : Bool} {oj : Oper} {dj : Nat} (ha : Has n l a)
    (hj : ops[j]? = some oj) (hdj : oj.dst = some dj) (hv : look dj l = some undef) (k : ∀ a, Has n l a → wpList P ops Q rest a w) : wpList P ops Q (⟨none, op, ty, pos, af, some (j, wt)⟩ :: rest) a w := by
  have hw : Region.wanted ⟨none, op, ty, pos, af, some (j, wt)⟩ (yielded ops a.tmps) = false := by
    have hg := ha.at_ _ _ hv
    have : yielded ops a.tmps j = none := by
      simp only [yielded, hj, hdj, Option.bind_some]
      split
      · rename_i b hb
        exact absurd hb (yield_no hg b)
      · rfl
    simp [Region.wanted, this]
  unfold wpList
  rw [if_neg (by rw [hw]; simp)]
  exact k _ (ha.skip undef)

variable {d : Option Nat} {ty T T' : TypeId} {pos : String} {af : Array Edge} {g : Option (Nat × Bool)} {x y c : Operand} {b o o' : Nat}
theorem d_pick {v : Value} {t : Bool} (ha : Has n l a) (hc : ev l c = some (.bool t)) (ht : t = true) (hx : ev l x = some v) : Does P ⟨d, .pick c x y, ty, pos, af, g⟩ a w (Is v w) := d_pick_t ha (by rw [hc, ht]) hx
theorem d_pickF {v : Value} {t : Bool} (ha : Has n l a) (hc : ev l c = some (.bool t)) (ht : t = false) (hx : ev l y = some v) : Does P ⟨d, .pick c x y, ty, pos, af, g⟩ a w (Is v w) := d_pick_f ha (by rw [hc, ht]) hx
/-- A literal of a struct or an array. -/
theorem d_build {parts : List (Nat × Operand)} {vs : List (Nat × Value)} {cs : List Value} (ha : Has n l a) (hi : ∀ w, (Instr.build T vs.toArray).run P w = .ok (.agg cs.toArray) w)
    (hp : parts.map (fun p => (p.1, ev l p.2)) = vs.map (fun p => (p.1, some p.2))) : Does P ⟨d, .build T parts.toArray, ty, pos, af, g⟩ a w (Is (.agg cs.toArray) w) := by
  have hpe : parts.map (fun p => (p.1, a.eval p.2)) = vs := by
    clear hi
    induction parts generalizing vs with
    | nil => cases vs with
      | nil => rfl
      | cons _ _ => simp at hp
    | cons p ps ih =>
      cases vs with
      | nil => simp at hp
      | cons u us =>
        simp only [List.map_cons, List.cons.injEq, Prod.mk.injEq] at hp ⊢
        exact ⟨Prod.ext hp.1.1 (ha.ev hp.1.2), ih hp.2⟩
  refine Does.val ?_
  have hm : (parts.toArray.map fun (x : Nat × Operand) => (x.1, a.eval x.2)) = vs.toArray := by rw [← hpe]; simp
  simp only [execOp]
  rw [hm]
  simp [hi]
theorem run_loadAgg {cs : List Value} {s : Nat} (hc : At w b o cs) (hg : ∀ w, (isAgg T).run P w = .ok true w) (hs : ∀ w, (sizeOf T).run P w = .ok s w) (hl : cs.length = s) : (loadVar T ⟨b, o, none⟩).run P w = .ok (.agg cs.toArray) w := by
  have hr : (loadCells ⟨b, o, none⟩ s).run P w = .ok cs.toArray w := by
    rw [← hl]
    exact run_loadCells_list w _ cs (fun j v hv => by rw [add_at]; exact hc j v hv)
  simp [loadVar, hg, hs, hr]
theorem At.sub' {cs cs' : List Value} (h : At w b o cs) (i m : Nat) (he : cs' = (cs.drop i).take m) (ho : o' = o + i := by rfl) : At w b o' cs' := by
  rw [he, ho]
  exact h.sub i m
theorem At.cell {cs : List Value} {v : Value} (h : At w b o cs) (i : Nat) (hv : cs[i]? = some v) (ho : o' = o + i := by rfl) : w.cell? ⟨b, o', none⟩ = some v := by
  rw [ho]
  exact h i v hv
end

section
variable {α : Type} {A A' B S0 S : Nat → Prop} {kd : Kd α} {p : Option Addr} {c : Nat} {xs : List α} {w0 w w' : World} {as : List (Option Addr)} {b : Nat} {u : Option Addr}
theorem Step.addB (as : List (Option Addr)) (h : Fr w w' No) (hb : w.heap.size ≤ b) : Step as (some ⟨b, 0, none⟩ :: as) w w' := Step.add as h (fun p hp => by injection hp with hp; subst hp; exact hb)
theorem Ex.addB (h : Ex w0 S0 as w) (hf : Fr w w' No) (hb : w.heap.size ≤ b) (hl : b < w'.heap.size) : Ex w0 S0 (some ⟨b, 0, none⟩ :: as) w' := h.add hf (fun p hp => by injection hp with hp; subst hp; exact ⟨hb, hl⟩)
theorem Ow.rawNo {e : TypeId} (h : Ow A w e kd p c xs) : Raw No kd w.heap p c xs := h.raw (fun _ _ h => h.elim) (fun _ _ h => h)

/-- What lies in the cells alone. -/
structure Kd.Flat (kd : Kd α) : Prop where
  eq : ∀ {A A' h h' x cs}, kd.K A h x cs → kd.K A' h' x cs
theorem Kd.Flat.int (k : IntKind) : (Kd.int k).Flat := ⟨fun h => h⟩
theorem Kd.Flat.bool : Kd.bool.Flat := ⟨fun h => h⟩
theorem Kd.Flat.str : Kd.str.Flat := ⟨fun h => h⟩
theorem Kd.Flat.pair {β : Type} {k1 : Kd α} {k2 : Kd β} (h1 : k1.Flat) (h2 : k2.Flat) : (Kd.pair k1 k2).Flat := ⟨fun ⟨c1, c2, e, a, b⟩ => ⟨c1, c2, e, h1.eq a, h2.eq b⟩⟩
theorem Kd.Flat.arr (n : Nat) (h : kd.Flat) : (Kd.arr n kd).Flat := ⟨fun ⟨e, a⟩ => ⟨e, a.imp (fun _ _ hx => h.eq hx)⟩⟩
theorem Ow.flat {e : TypeId} (f : kd.Flat) (h : Ow A w e kd p c xs) : Ow A' w e kd p c xs := by
  obtain ⟨cells, h1, h2⟩ := h
  exact ⟨cells, h1, h2.imp (fun _ _ hx => f.eq hx)⟩
theorem Ow.rawFlat {e : TypeId} (h : Ow A w e kd p c xs) (f : kd.Flat) (hn : ∀ q, p = some q → ¬ A' q.block) : Raw A' kd w.heap p c xs := (h.flat (A' := A') f).raw (fun _ _ h => h) hn
theorem Ow.alone {e : TypeId} (h : Ow A w e kd p c xs) (f : kd.Flat) : Ow A' w e kd p c xs := h.flat f
theorem Ex.old (h : Ex w0 S0 as w) : ∀ k, k < w0.heap.size → Old w k := fun _ hk => Nat.lt_of_lt_of_le hk h.fr.size
theorem Raw.old (r : Raw (Old w) kd w'.heap p c xs) (h : Ex w0 S0 as w) : Raw (Av as (Old w)) kd w'.heap p c xs := r.mono (fun k _ hk => by
  rcases hk with hk | ⟨p, hp, rfl⟩
  · exact hk
  · exact h.lt p hp)
theorem mem_at {j : Nat} (hj : as[j]? = some u) {q : Addr} (hq : u = some q) : some q ∈ as := hq ▸ List.mem_of_getElem? hj
theorem Ex.newOf (h : Ex w0 No as w) (j : Nat) (hj : as[j]? = some u) : ∀ q, u = some q → ¬ Old w0 q.block := fun q hq hk => by
  rcases h.nw q (mem_at hj hq) with h | h
  · simp only [Old] at hk; omega
  · exact h
theorem Ex.newLt (h : Ex w0 No as w) (j : Nat) (hj : as[j]? = some u) : ∀ q, u = some q → w0.heap.size ≤ q.block ∧ q.block < w.heap.size := fun q hq => by
  rcases h.nw q (mem_at hj hq) with h1 | h1
  · exact ⟨h1, h.lt q (mem_at hj hq)⟩
  · exact h1.elim
theorem Ex.offOld (h : Ex w0 No as w) (m : Nat) (hm : as[m]? = some u) : ∀ q, u = some q → ¬ Av (as.eraseIdx m) (Old w0) q.block := fun q hq hk => by
  rcases hk with hk | ⟨s, hs, hb⟩
  · exact h.newOf m hm q hq hk
  · obtain ⟨i, hi, he⟩ := List.mem_eraseIdx_iff_getElem?.1 hs
    exact h.off i m he hm hi q hq ⟨s, rfl, hb⟩
theorem Fr.blk1 (h : Fr w w' (fun k => k = b)) : Fr w w' (fun k => ∃ p, some (⟨b, 0, none⟩ : Addr) = some p ∧ p.block = k) := h.mono (fun _ _ hk => ⟨_, rfl, hk.symm⟩)
theorem at_split {m : Nat} (hm : as[m]? = some u) : as = as.take m ++ u :: as.drop (m + 1) := by
  obtain ⟨h1, h2⟩ := List.getElem?_eq_some_iff.1 hm
  rw [← h2, List.getElem_cons_drop, List.take_append_drop]
theorem Ex.stepAt (_ : Ex w0 S0 as w) (m : Nat) (hm : as[m]? = some u) (hf : Fr w w' (fun k => ∃ p, u = some p ∧ p.block = k)) : Step as as w w' := by
  have h := Step.wrote (l := as.take m) (r := as.drop (m + 1)) (a' := u) hf (fun p hp => .inl ⟨p, hp, rfl⟩)
  rwa [← at_split hm] at h
theorem Ex.wroteAt (h : Ex w0 S0 as w) (m : Nat) (hm : as[m]? = some u) (hf : Fr w w' (fun k => ∃ p, u = some p ∧ p.block = k)) : Ex w0 S0 as w' := by
  rw [at_split hm] at h ⊢
  exact h.wrote hf (fun p hp => ⟨Nat.lt_of_lt_of_le (h.lt p (by rw [hp]; simp)) hf.size, .inl ⟨p, hp, rfl⟩⟩)
end
end Go.Sx
