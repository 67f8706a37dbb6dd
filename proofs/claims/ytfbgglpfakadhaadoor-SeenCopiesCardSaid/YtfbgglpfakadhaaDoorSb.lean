/- Own work. A part of the proof of a law of this seat: the library of the walk -/
import Derived.Test.YtfbgglpfakadhaaDoorSa
import Derived.Laws.Tables
import Derived.ScopeJumps
import Derived.Laws.RangeAny
import Derived.Lib.OthersKept
import Derived.ChangeArms
import Derived.OpenShut
import Derived.SizedLaws
import Derived.Laws.StructEq
import Derived.Laws.Cover3
import Derived.ChangeKeysEq
import Derived.Lib.Builder
import Derived.Lib.UnsafeStr
namespace Go.Sx
open Go Go.RowKit

section
variable {P : Program} {a : Act} {w w' : World} {n : Nat} {l : List (Nat × Value)}
variable {d : Option Nat} {ty T T' : TypeId} {pos : String} {af : Array Edge} {g : Option (Nat × Bool)} {x y z : Operand} {k k' k2 : IntKind} {i j m : Int} {b o o' : Nat}
variable {α : Type} {A B S0 : Nat → Prop} {kd : Kd α} {p : Option Addr} {c : Nat} {xs : List α} {w0 : World} {as : List (Option Addr)}

/-! #### literals -/
theorem fold_put : ∀ (vs : List Value) (o i : Nat) (cs : Array Value), o + i + vs.length ≤ cs.size →
    (vs.zipIdx i).foldl (fun cs (c, j) => cs.setIfInBounds (o + j) c) cs = (cs.toList.take (o + i) ++ vs ++ cs.toList.drop (o + i + vs.length)).toArray
  | [], o, i, cs, _ => by simp
  | v :: vs, o, i, cs, h => by
    rw [List.zipIdx_cons, List.foldl_cons, fold_put vs o (i + 1) _ (by simp at h ⊢; omega)]
    have hlt : o + i < cs.toList.length := by simp at h ⊢; omega
    congr 1
    rw [Array.toList_setIfInBounds, List.length_cons, show o + (i + 1) = o + i + 1 by omega]
    rw [List.take_set, List.drop_set, if_pos (by omega), show o + i + (vs.length + 1) = o + i + 1 + vs.length by omega]
    rw [List.take_succ_eq_append_getElem hlt, List.set_append, if_neg (by simp; omega)]
    have h0 : o + i - (cs.toList.take (o + i)).length = 0 := by rw [List.length_take]; omega
    rw [h0]
    simp
theorem fill_one (place : Nat → Option (Nat × Nat)) (cells : Array Value) (i : Nat) (v : Value) (rest : List (Nat × Value)) {off s : Nat} (hp : place i = some (off, s)) (hv : v.cells.size = s) (hs : off + s ≤ cells.size) :
    Instr.fill place cells ((i, v) :: rest) = Instr.fill place (cells.toList.take off ++ v.cells.toList ++ cells.toList.drop (off + s)).toArray rest := by
  simp only [Instr.fill, hp]
  rw [if_neg (by simp [hv]; omega)]
  congr 1
  have h := fold_put v.cells.toList off 0 cells (by simp [hv]; omega)
  have hz : (v.cells.zipIdx.foldl (fun cs (x : Value × Nat) => cs.setIfInBounds (off + x.2) x.1) cells) = (v.cells.toList.zipIdx 0).foldl (fun cs (x : Value × Nat) => cs.setIfInBounds (off + x.2) x.1) cells := by
    rw [← Array.foldl_toList, Array.toList_zipIdx]
  simp only [Nat.add_zero, Array.length_toList, hv] at h
  exact hz.trans h
/-- The parts of a slice's literal, each in its place. -/
theorem fill_row (s : Nat) : ∀ (vs : List Value) (q : Nat) (pre rest : List Value), (∀ v ∈ vs, v.cells.size = s) → pre.length = q * s → rest.length = vs.length * s →
    Instr.fill (fun i => some (i * s, s)) (pre ++ rest).toArray ((vs.zipIdx q).map fun p => (p.2, p.1)) = some (pre ++ vs.flatMap (fun v => v.cells.toList)).toArray
  | [], q, pre, rest, _, _, h => by
    have : rest = [] := List.eq_nil_of_length_eq_zero (by simpa using h)
    simp [Instr.fill, this]
  | v :: vs, q, pre, rest, hs, hp, hr => by
    have hv := hs v (by simp)
    have hr' : rest.length = vs.length * s + s := by rw [hr, List.length_cons, Nat.succ_mul]
    rw [List.zipIdx_cons, List.map_cons, fill_one (off := q * s) (s := s) _ _ _ _ _ rfl hv (by simp [hp]; omega)]
    have h1 : (pre ++ rest).toArray.toList.take (q * s) = pre := by rw [List.toList_toArray, List.take_append, ← hp]; simp
    have h2 : (pre ++ rest).toArray.toList.drop (q * s + s) = rest.drop s := by rw [List.toList_toArray, List.drop_append, List.drop_of_length_le (by omega), hp]; simp
    rw [h1, h2]
    have := fill_row s vs (q + 1) (pre ++ v.cells.toList) (rest.drop s) (fun u hu => hs u (by simp [hu])) (by simp [hp, hv, Nat.succ_mul]) (by simp [hr'])
    rw [this]
    simp
theorem d_buildSlice {e : TypeId} {zv : Value} {parts : List (Nat × Operand)} {vs : List Value} {q : Nat} (ha : Has n l a) (hT : P.underlying T = some (.slice e)) (hs : ∀ w, (sizeOf e).run P w = .ok kd.sz w) (hz : ∀ w, (zeroValue e).run P w = .ok zv w)
    (hp : parts.map (fun p => (p.1, ev l p.2)) = (vs.zipIdx 0).map (fun p => (p.2, some p.1))) (hel : Els (kd.K (Av as B) w.heap) xs (vs.flatMap fun v => v.cells.toList)) (hv : ∀ v ∈ vs, v.cells.size = kd.sz) (hl : vs.length = q) (hx : xs.length = q) (hl2 : q * kd.sz ≤ 16777216) (hl3 : q ≤ 16777216) (hE : Ex w0 S0 as w) :
    Does P ⟨d, .buildSlice T q parts.toArray, ty, pos, af, g⟩ a w (fun v w' => ∃ p' c', v = .slice p' xs.length c' ∧ Step as (p' :: as) w w' ∧ Ex w0 S0 (p' :: as) w' ∧ Fr w w' No ∧ Ow (Av (p' :: as) B) w' e kd p' c' xs) := by
  have hpe : parts.map (fun p => (p.1, a.eval p.2)) = (vs.zipIdx 0).map (fun p => (p.2, p.1)) := by
    have : ∀ (ps : List (Nat × Operand)) (us : List (Value × Nat)), ps.map (fun p => (p.1, ev l p.2)) = us.map (fun p => (p.2, some p.1)) → ps.map (fun p => (p.1, a.eval p.2)) = us.map (fun p => (p.2, p.1)) := by
      intro ps
      induction ps with
      | nil => intro us h; cases us with
        | nil => rfl
        | cons _ _ => simp at h
      | cons p ps ih =>
        intro us h
        cases us with
        | nil => simp at h
        | cons u us =>
          simp only [List.map_cons, List.cons.injEq, Prod.mk.injEq] at h ⊢
          exact ⟨⟨h.1.1, ha.ev h.1.2⟩, ih us h.2⟩
    exact this _ _ hp
  have hrun : ∃ cur : Array Value, cur = (vs.flatMap fun v => v.cells.toList).toArray ∧ (Instr.buildSlice T q (parts.map (fun p => (p.1, a.eval p.2))).toArray).run P w = .ok (.slice (some ⟨w.heap.size, 0, none⟩) q q) (w.alloc (.cells cur e)) := by
    refine ⟨_, rfl, ?_⟩
    have hf : ∀ zc : Array Value, Instr.fill (fun i => some (i * kd.sz, kd.sz)) ((Array.range (q * kd.sz)).map (zc[· % zc.size]!)) (parts.map (fun p => (p.1, a.eval p.2))) = some (vs.flatMap fun v => v.cells.toList).toArray := by
      intro zc
      have h := fill_row kd.sz vs 0 [] ((Array.range (q * kd.sz)).map (zc[· % zc.size]!)).toList hv (by simp) (by simp [hl])
      simp only [List.nil_append, Array.toArray_toList] at h
      rw [hpe]
      exact h
    have hb : ¬ (q * kd.sz > 2 ^ 24) := by omega
    unfold Instr.buildSlice
    rw [Sem.run_bind, run_underlying hT, Result.andThen_ok]
    simp only [Sem.run_bind, Result.andThen_ok, hs]
    rw [if_neg hb]
    by_cases h : q * kd.sz = 0
    · rw [if_pos h]
      simp only [Sem.run_bind, Sem.run_pure, Result.andThen_ok, hf]
      simp [newRow]
    · rw [if_neg h]
      simp only [Sem.run_bind, Sem.run_pure, Result.andThen_ok, hz, hf]
      simp [newRow]
  obtain ⟨cur, hcur, hr⟩ := hrun
  have hf : Fr w (w.alloc (.cells cur e)) No := Fr.alloc _ _ _
  have hnew : ∀ s, some (⟨w.heap.size, 0, none⟩ : Addr) = some s → w.heap.size ≤ s.block ∧ s.block < (w.alloc (.cells cur e)).heap.size := by
    intro s hs
    injection hs with hs
    subst hs
    exact ⟨Nat.le_refl _, by simp⟩
  refine (Does.val (v := .slice (some ⟨w.heap.size, 0, none⟩) q q) (w' := w.alloc (.cells cur e)) ?_).mono ?_
  · have hm : (parts.toArray.map fun (x : Nat × Operand) => (x.1, a.eval x.2)) = (parts.map (fun p => (p.1, a.eval p.2))).toArray := by simp
    simp only [execOp]
    rw [hm]
    simp [hr]
  · rintro v w' ⟨rfl, rfl⟩
    have hst : Step as (some ⟨w.heap.size, 0, none⟩ :: as) w (w.alloc (.cells cur e)) := Step.add as hf (fun s hs => (hnew s hs).1)
    refine ⟨some ⟨w.heap.size, 0, none⟩, q, by rw [hx], hst, hE.add hf hnew, hf, vs.flatMap (fun v => v.cells.toList), ?_, hel.imp (fun _ _ hx => hst.trK hx)⟩
    have hlen : (vs.flatMap fun v => v.cells.toList).length = q * kd.sz := by
      have := hel.length (fun _ _ h => kd.len h)
      rw [this, hx]
    have hqm : q ≤ maxLen := by simp only [maxLen]; omega
    have := World.ownsRow_lit (base := 0) (e := e) (size := kd.sz) w cur q (Nat.zero_le _) hqm (by rw [hcur]; simpa using hlen)
    rw [hx]
    rw [hcur] at this ⊢
    simpa using this
end
end Go.Sx

namespace Go.Sx
open Go Go.RowKit

section
variable {P : Program} {Q : Exit → Act → World → Prop} {a : Act} {w w' : World} {n : Nat} {l : List (Nat × Value)} {ops : Array Oper} {rest : List Oper}
/-- The world as it was: what φ says of the value. -/
theorem goS {d : Nat} {φ : Value → Prop} {op : Op} {ty : TypeId} {pos : String} {af : Array Edge} (ha : Has n l a) (hd : Nat.ble (d + 1) n = true)
    (h : Does P ⟨some d, op, ty, pos, af, none⟩ a w (fun v w' => w' = w ∧ φ v)) (k : ∀ v a, φ v → Has n ((d, v) :: l) a → wpList P ops Q rest a w) : wpList P ops Q (⟨some d, op, ty, pos, af, none⟩ :: rest) a w :=
  goR ha hd h (fun v w' a hv ha => by obtain ⟨rfl, hv⟩ := hv; exact k v a hv ha)
theorem goOnS {d : Nat} {φ : Value → Prop} {op : Op} {ty : TypeId} {pos : String} {af : Array Edge} {j : Nat} {wt t : Bool} {oj : Oper} {dj : Nat} (ha : Has n l a) (hd : Nat.ble (d + 1) n = true)
    (hj : ops[j]? = some oj) (hdj : oj.dst = some dj) (hv : look dj l = some (.bool t)) (he : t = wt) (h : Does P ⟨some d, op, ty, pos, af, some (j, wt)⟩ a w (fun v w' => w' = w ∧ φ v)) (k : ∀ v a, φ v → Has n ((d, v) :: l) a → wpList P ops Q rest a w) : wpList P ops Q (⟨some d, op, ty, pos, af, some (j, wt)⟩ :: rest) a w :=
  goOnR ha hd hj hdj hv he h (fun v w' a hv ha => by obtain ⟨rfl, hv⟩ := hv; exact k v a hv ha)
theorem goOnR0 {op : Op} {ty : TypeId} {pos : String} {af : Array Edge} {j : Nat} {wt t : Bool} {oj : Oper} {dj : Nat} {R : Value → World → Prop} (ha : Has n l a)
    (hj : ops[j]? = some oj) (hdj : oj.dst = some dj) (hv : look dj l = some (.bool t)) (he : t = wt) (h : Does P ⟨none, op, ty, pos, af, some (j, wt)⟩ a w R) (k : ∀ v w' a, R v w' → Has n l a → wpList P ops Q rest a w') : wpList P ops Q (⟨none, op, ty, pos, af, some (j, wt)⟩ :: rest) a w :=
  goOn rfl ha hj hdj hv he h (fun v1 w1 hv => k v1 w1 _ hv ha)
theorem yield_no {tmps : Array Value} {d : Nat} (h : tmps.getD d undef = undef) (b : Bool) : ¬ tmps[d]? = some (.bool b) := by
  intro hb
  rw [Array.getD_eq_getD_getElem?, hb] at h
  simp [undef] at h
/-- The guard was not done itself. -/
theorem goGone {d : Nat} {op : Op} {ty : TypeId} {pos : String} {af : Array Edge} {j : Nat} {wt : Bool} {oj : Oper} {dj : Nat} (ha : Has n l a) (hd : Nat.ble (d + 1) n = true)
    (hj : ops[j]? = some oj) (hdj : oj.dst = some dj) (hv : look dj l = some undef) (k : ∀ a, Has n ((d, undef) :: l) a → wpList P ops Q rest a w) : wpList P ops Q (⟨some d, op, ty, pos, af, some (j, wt)⟩ :: rest) a w := by
  have hw : Region.wanted ⟨some d, op, ty, pos, af, some (j, wt)⟩ (yielded ops a.tmps) = false := by
    have hg := ha.at_ _ _ hv
    have : yielded ops a.tmps j = none := by
      simp only [yielded, hj, hdj, Option.bind_some]
      split
      · rename_i b hb
        exact absurd hb (yield_no hg b)
      · rfl
    simp [Region.wanted, this]
  unfold wpList
  rw [if_neg (by rw [hw]; simp)]
  exact k _ (ha.put hd undef)
theorem goGone0 {op : Op} {ty : TypeId} {pos : String} {af : Array Edge} {j : Nat} {wt : Bool} {oj : Oper} {dj : Nat} (ha : Has n l a)
    (hj : ops[j]? = some oj) (hdj : oj.dst = some dj) (hv : look dj l = some undef) (k : ∀ a, Has n l a → wpList P ops Q rest a w) : wpList P ops Q (⟨none, op, ty, pos, af, some (j, wt)⟩ :: rest) a w := by
  have hw : Region.wanted ⟨none, op, ty, pos, af, some (j, wt)⟩ (yielded ops a.tmps) = false := by
    have hg := ha.at_ _ _ hv
    have : yielded ops a.tmps j = none := by
      simp only [yielded, hj, hdj, Option.bind_some]
      split
      · rename_i b hb
        exact absurd hb (yield_no hg b)
      · rfl
    simp [Region.wanted, this]
  unfold wpList
  rw [if_neg (by rw [hw]; simp)]
  exact k _ (ha.skip undef)

variable {d : Option Nat} {ty T T' : TypeId} {pos : String} {af : Array Edge} {g : Option (Nat × Bool)} {x y c : Operand} {b o o' : Nat}
theorem d_pick {v : Value} {t : Bool} (ha : Has n l a) (hc : ev l c = some (.bool t)) (ht : t = true) (hx : ev l x = some v) : Does P ⟨d, .pick c x y, ty, pos, af, g⟩ a w (Is v w) := d_pick_t ha (by rw [hc, ht]) hx
theorem d_pickF {v : Value} {t : Bool} (ha : Has n l a) (hc : ev l c = some (.bool t)) (ht : t = false) (hx : ev l y = some v) : Does P ⟨d, .pick c x y, ty, pos, af, g⟩ a w (Is v w) := d_pick_f ha (by rw [hc, ht]) hx
/-- A literal of a struct or an array. -/
theorem d_build {parts : List (Nat × Operand)} {vs : List (Nat × Value)} {cs : List Value} (ha : Has n l a) (hi : ∀ w, (Instr.build T vs.toArray).run P w = .ok (.agg cs.toArray) w)
    (hp : parts.map (fun p => (p.1, ev l p.2)) = vs.map (fun p => (p.1, some p.2))) : Does P ⟨d, .build T parts.toArray, ty, pos, af, g⟩ a w (Is (.agg cs.toArray) w) := by
  have hpe : parts.map (fun p => (p.1, a.eval p.2)) = vs := by
    clear hi
    induction parts generalizing vs with
    | nil => cases vs with
      | nil => rfl
      | cons _ _ => simp at hp
    | cons p ps ih =>
      cases vs with
      | nil => simp at hp
      | cons u us =>
        simp only [List.map_cons, List.cons.injEq, Prod.mk.injEq] at hp ⊢
        exact ⟨Prod.ext hp.1.1 (ha.ev hp.1.2), ih hp.2⟩
  refine Does.val ?_
  have hm : (parts.toArray.map fun (x : Nat × Operand) => (x.1, a.eval x.2)) = vs.toArray := by rw [← hpe]; simp
  simp only [execOp]
  rw [hm]
  simp [hi]
theorem run_loadAgg {cs : List Value} {s : Nat} (hc : At w b o cs) (hg : ∀ w, (isAgg T).run P w = .ok true w) (hs : ∀ w, (sizeOf T).run P w = .ok s w) (hl : cs.length = s) : (loadVar T ⟨b, o, none⟩).run P w = .ok (.agg cs.toArray) w := by
  have hr : (loadCells ⟨b, o, none⟩ s).run P w = .ok cs.toArray w := by
    rw [← hl]
    exact run_loadCells_list w _ cs (fun j v hv => by rw [add_at]; exact hc j v hv)
  simp [loadVar, hg, hs, hr]
theorem At.sub' {cs cs' : List Value} (h : At w b o cs) (i m : Nat) (he : cs' = (cs.drop i).take m) (ho : o' = o + i := by rfl) : At w b o' cs' := by
  rw [he, ho]
  exact h.sub i m
theorem At.cell {cs : List Value} {v : Value} (h : At w b o cs) (i : Nat) (hv : cs[i]? = some v) (ho : o' = o + i := by rfl) : w.cell? ⟨b, o', none⟩ = some v := by
  rw [ho]
  exact h i v hv
end

section
variable {α : Type} {A A' B S0 S : Nat → Prop} {kd : Kd α} {p : Option Addr} {c : Nat} {xs : List α} {w0 w w' : World} {as : List (Option Addr)} {b : Nat} {u : Option Addr}
theorem Step.addB (as : List (Option Addr)) (h : Fr w w' No) (hb : w.heap.size ≤ b) : Step as (some ⟨b, 0, none⟩ :: as) w w' := Step.add as h (fun p hp => by injection hp with hp; subst hp; exact hb)
theorem Ex.addB (h : Ex w0 S0 as w) (hf : Fr w w' No) (hb : w.heap.size ≤ b) (hl : b < w'.heap.size) : Ex w0 S0 (some ⟨b, 0, none⟩ :: as) w' := h.add hf (fun p hp => by injection hp with hp; subst hp; exact ⟨hb, hl⟩)
theorem Ow.rawNo {e : TypeId} (h : Ow A w e kd p c xs) : Raw No kd w.heap p c xs := h.raw (fun _ _ h => h.elim) (fun _ _ h => h)

/-- What lies in the cells alone. -/
structure Kd.Flat (kd : Kd α) : Prop where
  eq : ∀ {A A' h h' x cs}, kd.K A h x cs → kd.K A' h' x cs
theorem Kd.Flat.int (k : IntKind) : (Kd.int k).Flat := ⟨fun h => h⟩
theorem Kd.Flat.bool : Kd.bool.Flat := ⟨fun h => h⟩
theorem Kd.Flat.str : Kd.str.Flat := ⟨fun h => h⟩
theorem Kd.Flat.pair {β : Type} {k1 : Kd α} {k2 : Kd β} (h1 : k1.Flat) (h2 : k2.Flat) : (Kd.pair k1 k2).Flat := ⟨fun ⟨c1, c2, e, a, b⟩ => ⟨c1, c2, e, h1.eq a, h2.eq b⟩⟩
theorem Kd.Flat.arr (n : Nat) (h : kd.Flat) : (Kd.arr n kd).Flat := ⟨fun ⟨e, a⟩ => ⟨e, a.imp (fun _ _ hx => h.eq hx)⟩⟩
theorem Ow.flat {e : TypeId} (f : kd.Flat) (h : Ow A w e kd p c xs) : Ow A' w e kd p c xs := by
  obtain ⟨cells, h1, h2⟩ := h
  exact ⟨cells, h1, h2.imp (fun _ _ hx => f.eq hx)⟩
theorem Ow.rawFlat {e : TypeId} (h : Ow A w e kd p c xs) (f : kd.Flat) (hn : ∀ q, p = some q → ¬ A' q.block) : Raw A' kd w.heap p c xs := (h.flat (A' := A') f).raw (fun _ _ h => h) hn
theorem Ow.alone {e : TypeId} (h : Ow A w e kd p c xs) (f : kd.Flat) : Ow A' w e kd p c xs := h.flat f
theorem Ex.old (h : Ex w0 S0 as w) : ∀ k, k < w0.heap.size → Old w k := fun _ hk => Nat.lt_of_lt_of_le hk h.fr.size
theorem Raw.old (r : Raw (Old w) kd w'.heap p c xs) (h : Ex w0 S0 as w) : Raw (Av as (Old w)) kd w'.heap p c xs := r.mono (fun k _ hk => by
  rcases hk with hk | ⟨p, hp, rfl⟩
  · exact hk
  · exact h.lt p hp)
theorem mem_at {j : Nat} (hj : as[j]? = some u) {q : Addr} (hq : u = some q) : some q ∈ as := hq ▸ List.mem_of_getElem? hj
theorem Ex.newOf (h : Ex w0 No as w) (j : Nat) (hj : as[j]? = some u) : ∀ q, u = some q → ¬ Old w0 q.block := fun q hq hk => by
  rcases h.nw q (mem_at hj hq) with h | h
  · simp only [Old] at hk; omega
  · exact h
theorem Ex.newLt (h : Ex w0 No as w) (j : Nat) (hj : as[j]? = some u) : ∀ q, u = some q → w0.heap.size ≤ q.block ∧ q.block < w.heap.size := fun q hq => by
  rcases h.nw q (mem_at hj hq) with h1 | h1
  · exact ⟨h1, h.lt q (mem_at hj hq)⟩
  · exact h1.elim
theorem Ex.offOld (h : Ex w0 No as w) (m : Nat) (hm : as[m]? = some u) : ∀ q, u = some q → ¬ Av (as.eraseIdx m) (Old w0) q.block := fun q hq hk => by
  rcases hk with hk | ⟨s, hs, hb⟩
  · exact h.newOf m hm q hq hk
  · obtain ⟨i, hi, he⟩ := List.mem_eraseIdx_iff_getElem?.1 hs
    exact h.off i m he hm hi q hq ⟨s, rfl, hb⟩
theorem Fr.blk1 (h : Fr w w' (fun k => k = b)) : Fr w w' (fun k => ∃ p, some (⟨b, 0, none⟩ : Addr) = some p ∧ p.block = k) := h.mono (fun _ _ hk => ⟨_, rfl, hk.symm⟩)
theorem at_split {m : Nat} (hm : as[m]? = some u) : as = as.take m ++ u :: as.drop (m + 1) := by
  obtain ⟨h1, h2⟩ := List.getElem?_eq_some_iff.1 hm
  rw [← h2, List.getElem_cons_drop, List.take_append_drop]
theorem Ex.stepAt (_ : Ex w0 S0 as w) (m : Nat) (hm : as[m]? = some u) (hf : Fr w w' (fun k => ∃ p, u = some p ∧ p.block = k)) : Step as as w w' := by
  have h := Step.wrote (l := as.take m) (r := as.drop (m + 1)) (a' := u) hf (fun p hp => .inl ⟨p, hp, rfl⟩)
  rwa [← at_split hm] at h
theorem Ex.wroteAt (h : Ex w0 S0 as w) (m : Nat) (hm : as[m]? = some u) (hf : Fr w w' (fun k => ∃ p, u = some p ∧ p.block = k)) : Ex w0 S0 as w' := by
  rw [at_split hm] at h ⊢
  exact h.wrote hf (fun p hp => ⟨Nat.lt_of_lt_of_le (h.lt p (by rw [hp]; simp)) hf.size, .inl ⟨p, hp, rfl⟩⟩)
end
end Go.Sx

namespace Go.Sx
open Go Go.RowKit

/-! ### calls: what may be written is handed on, or kept -/
section
variable {α : Type} {A A' B W S0 : Nat → Prop} {kd : Kd α} {p : Option Addr} {c : Nat} {xs : List α} {w0 w w' : World} {as as' as0 rt rr ro as00 : List (Option Addr)} {u : Option Addr}
theorem Ex.sub (h : Ex w0 S0 (as0 ++ rt) w) : Ex w (Av as0 No) as0 w :=
  ⟨Fr.refl _ _, (List.pairwise_append.1 h.dis).1, fun p hp => h.lt p (by simp [hp]), fun p hp => .inr (.inr ⟨p, hp, rfl⟩)⟩
theorem Ex.callOff (h : Ex w0 S0 (as0 ++ rt) w) (hu : u ∈ rt) : ∀ q, u = some q → ¬ Av as0 No q.block := fun q hq hk => by
  rcases hk with hk | ⟨s, hs, hb⟩
  · exact hk
  · exact (List.pairwise_append.1 h.dis).2.2 (some s) hs u hu s q rfl hq hb
theorem Ex.call (h : Ex w0 S0 (as0 ++ rt) w) (hc : Ex w (Av as0 No) as' w') : Ex w0 S0 (as' ++ rt) w' := by
  refine ⟨h.fr.step hc.fr (fun k hk hv => ?_), List.pairwise_append.2 ⟨hc.dis, (List.pairwise_append.1 h.dis).2.1, fun x hx y hy p q hp hq e => ?_⟩, fun p hp => ?_, fun p hp => ?_⟩
  · rcases hv with hv | ⟨p, hp, rfl⟩
    · exact hv.elim
    · rcases h.nw p (by simp [hp]) with h1 | h1
      · omega
      · exact h1
  · rcases hc.nw p (hp ▸ hx) with h1 | h1
    · have := h.lt q (by rw [← hq]; simp [hy]); omega
    · rw [e] at h1; exact h.callOff hy q hq h1
  · rcases List.mem_append.1 hp with hp | hp
    · exact hc.lt p hp
    · exact Nat.lt_of_lt_of_le (h.lt p (by simp [hp])) hc.fr.size
  · rcases List.mem_append.1 hp with hp | hp
    · rcases hc.nw p hp with h1 | h1
      · exact .inl (Nat.le_trans h.fr.size h1)
      · rcases h1 with h1 | ⟨s, hs, hb⟩
        · exact h1.elim
        · rw [← hb]; exact h.nw s (by simp [hs])
    · exact h.nw p (by simp [hp])
theorem Ex.callStep (hc : Ex w (Av as0 No) as' w') (rt : List (Option Addr)) : Step (as0 ++ rt) (as' ++ rt) w w' :=
  ⟨hc.fr.size, fun k hk hp => hc.fr.blk k hk (fun hv => by
    rcases hv with hv | ⟨p, hp', e⟩
    · exact hv
    · exact hp p (by simp [hp']) e), fun p hp => by
    rcases List.mem_append.1 hp with hp | hp
    · rcases hc.nw p hp with h1 | h1
      · exact .inr h1
      · rcases h1 with h1 | ⟨s, hs, hb⟩
        · exact h1.elim
        · exact .inl ⟨s, by simp [hs], hb⟩
    · exact .inl ⟨p, by simp [hp], rfl⟩⟩
/-- What is guarded is apart from what may be written. -/
theorem Ex.wfree (h : Ex w0 (Av as00 No) as w) (hW : ∀ k, W k → k < w0.heap.size) (hW0 : ∀ p, some p ∈ as00 → ¬ W p.block) : ∀ p, some p ∈ as → ¬ W p.block := fun p hp hk => by
  rcases h.nw p hp with h1 | h1
  · have := hW _ hk; omega
  · rcases h1 with h1 | ⟨s, hs, hb⟩
    · exact h1
    · rw [← hb] at hk; exact hW0 s hs hk
theorem Ex.wlt (h : Ex w0 S0 (as0 ++ (rr ++ ro)) w) (hW : ∀ k, W k → k < w0.heap.size) : ∀ k, Av ro W k → k < w.heap.size := fun k hk => by
  rcases hk with hk | ⟨s, hs, hb⟩
  · exact Nat.lt_of_lt_of_le (hW k hk) h.fr.size
  · rw [← hb]; exact h.lt s (by simp [hs])
theorem Ex.wsep (h : Ex w0 (Av as00 No) (as0 ++ (rr ++ ro)) w) (hW : ∀ k, W k → k < w0.heap.size) (hW0 : ∀ p, some p ∈ as00 → ¬ W p.block) : ∀ p, some p ∈ as0 → ¬ Av ro W p.block := fun p hp hk => by
  rcases hk with hk | ⟨s, hs, hb⟩
  · exact h.wfree hW hW0 p (by simp [hp]) hk
  · exact (List.pairwise_append.1 h.dis).2.2 (some p) hp (some s) (by simp [hs]) p s rfl rfl hb.symm
theorem Raw.arg (r : Raw (Av (as0 ++ (rr ++ ro)) B) kd w.heap p c xs) (hB : ∀ k, W k → B k) : Raw (Av as0 (Av ro W)) kd w.heap p c xs := r.mono (fun k _ hk => by
  rcases hk with (hk | ⟨s, hs, hb⟩) | ⟨s, hs, hb⟩
  · exact .inl (hB k hk)
  · exact .inr ⟨s, by simp [hs], hb⟩
  · exact .inr ⟨s, by simp [hs], hb⟩)
theorem Ow.mono {e : TypeId} (h : Ow A w e kd p c xs) (hA : ∀ k, k < w.heap.size → A' k → A k) : Ow A' w e kd p c xs := by
  obtain ⟨cells, h1, h2⟩ := h
  exact ⟨cells, h1, h2.imp (fun _ _ hx => kd.mono hx hA)⟩
theorem Ow.arg {e : TypeId} (h : Ow (Av (as0 ++ (rr ++ ro)) W) w e kd p c xs) : Ow (Av as0 (Av ro W)) w e kd p c xs := h.mono (fun k _ hk => by
  rcases hk with (hk | ⟨s, hs, hb⟩) | ⟨s, hs, hb⟩
  · exact .inl hk
  · exact .inr ⟨s, by simp [hs], hb⟩
  · exact .inr ⟨s, by simp [hs], hb⟩)
theorem Ow.argR {e : TypeId} (h : Ow (Av (as0 ++ (rr ++ ro)) W) w e kd p c xs) (hE : Ex w0 (Av as00 No) (as0 ++ (rr ++ ro)) w) (hW : ∀ k, W k → k < w0.heap.size) (hW0 : ∀ p, some p ∈ as00 → ¬ W p.block) (hp : p ∈ rr) : Raw (Av as0 (Av ro W)) kd w.heap p c xs :=
  h.arg.raw (fun _ _ h => h) (fun q hq hk => by
    rcases hk with (hk | ⟨s, hs, hb⟩) | ⟨s, hs, hb⟩
    · exact hE.wfree hW hW0 q (by rw [← hq]; simp [hp]) hk
    · exact (List.pairwise_append.1 (List.pairwise_append.1 hE.dis).2.1).2.2 p hp (some s) hs q s hq rfl hb.symm
    · exact (List.pairwise_append.1 hE.dis).2.2 (some s) hs p (by simp [hp]) s q rfl hq hb)
/-- a result that is new: whatever else there is -/
theorem Raw.retF (r : Raw (Av as' (Old w)) kd w'.heap p c xs) (h : Ex w0 S0 (as0 ++ rt) w) : Raw (Av (as' ++ rt) (Old w0)) kd w'.heap p c xs := r.mono (fun k _ hk => by
  rcases hk with hk | ⟨s, hs, hb⟩
  · exact .inl (Nat.lt_of_lt_of_le hk h.fr.size)
  · rcases List.mem_append.1 hs with hs | hs
    · exact .inr ⟨s, hs, hb⟩
    · rw [← hb]; exact .inl (h.lt s (by simp [hs])))
theorem Raw.retW (r : Raw (Av as' (Av rt W)) kd w'.heap p c xs) : Raw (Av (as' ++ rt) W) kd w'.heap p c xs := r.mono (fun k _ hk => by
  rcases hk with hk | ⟨s, hs, hb⟩
  · exact .inl (.inl hk)
  · rcases List.mem_append.1 hs with hs | hs
    · exact .inr ⟨s, hs, hb⟩
    · exact .inl (.inr ⟨s, hs, hb⟩))
theorem Ow.retW {e : TypeId} (r : Ow (Av as' (Av rt W)) w' e kd p c xs) : Ow (Av (as' ++ rt) W) w' e kd p c xs := r.mono (fun k _ hk => by
  rcases hk with hk | ⟨s, hs, hb⟩
  · exact .inl (.inl hk)
  · rcases List.mem_append.1 hs with hs | hs
    · exact .inr ⟨s, hs, hb⟩
    · exact .inl (.inr ⟨s, hs, hb⟩))
theorem Raw.toW (r : Raw (Av as (Old w0)) kd w.heap p c xs) (hW : ∀ k, W k → k < w0.heap.size) : Raw (Av as W) kd w.heap p c xs := r.mono (fun k _ hk => by
  rcases hk with hk | hk
  · exact .inl (hW k hk)
  · exact .inr hk)
/-- new memory that a single operation lays -/
theorem Raw.newF (r : Raw (Old w) kd w'.heap p c xs) (h : Ex w0 S0 as w) : Raw (Av as (Old w0)) kd w'.heap p c xs := r.mono (fun k _ hk => by
  rcases hk with hk | ⟨s, hs, hb⟩
  · exact Nat.lt_of_lt_of_le hk h.fr.size
  · rw [← hb]; exact h.lt s hs)

/-! some of them, in another order -/
def pick (is : List Nat) (as : List (Option Addr)) : List (Option Addr) := is.map (fun i => as.getD i none)
theorem mem_pick {is : List Nat} {q : Addr} (h : some q ∈ pick is as) : some q ∈ as := by
  obtain ⟨i, _, hi⟩ := List.mem_map.1 h
  rw [List.getD_eq_getElem?_getD] at hi
  cases hx : as[i]? with
  | none => rw [hx] at hi; simp at hi
  | some v => rw [hx] at hi; simp at hi; rw [← hi]; exact List.mem_of_getElem? hx
theorem Step.pick (as : List (Option Addr)) (w : World) (is : List Nat) : Step as (pick is as) w w := ⟨Nat.le_refl _, fun _ _ _ => rfl, fun p hp => .inl ⟨p, mem_pick hp, rfl⟩⟩
theorem Ex.pick (h : Ex w0 S0 as w) (is : List Nat) (hi : is.Nodup) : Ex w0 S0 (pick is as) w := by
  refine ⟨h.fr, ?_, fun p hp => h.lt p (mem_pick hp), fun p hp => h.nw p (mem_pick hp)⟩
  unfold Sx.pick
  rw [List.pairwise_map]
  refine hi.imp (fun {i j} hij p q hp hq e => ?_)
  have key : ∀ {i : Nat} {p : Addr}, as.getD i none = some p → as[i]? = some (some p) := by
    intro i p hp
    rw [List.getD_eq_getElem?_getD] at hp
    cases hx : as[i]? with
    | none => rw [hx] at hp; simp at hp
    | some v => rw [hx] at hp; simp at hp; rw [hp]
  exact h.off i j (key hp) (key hq) hij q rfl ⟨p, rfl, e⟩
/-- One's own is told as read from here on. -/
theorem Ow.free {e : TypeId} (h : Ow (Av as W) w e kd p c xs) (hE : Ex w0 (Av as00 No) as w) (hW : ∀ k, W k → k < w0.heap.size) (hW0 : ∀ p, some p ∈ as00 → ¬ W p.block) (m : Nat) (hm : as[m]? = some p) : Raw (Av (as.eraseIdx m) W) kd w.heap p c xs :=
  h.raw (fun k _ hk => by
    rcases hk with hk | ⟨s, hs, hb⟩
    · exact .inl hk
    · exact .inr ⟨s, List.mem_of_mem_eraseIdx hs, hb⟩) (fun q hq hk => by
    rcases hk with hk | ⟨s, hs, hb⟩
    · exact hE.wfree hW hW0 q (mem_at hm hq) hk
    · obtain ⟨i, hi, he⟩ := List.mem_eraseIdx_iff_getElem?.1 hs
      exact hE.off i m he hm hi q hq ⟨s, rfl, hb⟩)
/-- .. and it is new. -/
theorem Ow.freeF {e : TypeId} (h : Ow (Av as W) w e kd p c xs) (f : kd.Flat) (hE : Ex w0 (Av [] No) as w) (m : Nat) (hm : as[m]? = some p) : Raw (Av (as.eraseIdx m) (Old w0)) kd w.heap p c xs :=
  h.rawFlat f (fun q hq hk => by
    rcases hk with hk | ⟨s, hs, hb⟩
    · rcases hE.nw q (mem_at hm hq) with h1 | h1
      · simp only [Old] at hk; omega
      · rcases h1 with h1 | ⟨s, hs, _⟩
        · exact h1
        · cases hs
    · obtain ⟨i, hi, he⟩ := List.mem_eraseIdx_iff_getElem?.1 hs
      exact hE.off i m he hm hi q hq ⟨s, rfl, hb⟩)
theorem Ow.get {e : TypeId} (h : Ow A w e kd p c xs) (m : Nat) (hm : m < xs.length) : ∃ b cs, p = some ⟨b, 0, none⟩ ∧ kd.K A w.heap xs[m] cs ∧ At w b (m * kd.sz) cs := by
  obtain ⟨cells, h1, h2⟩ := h
  rcases own_none h1 with ⟨rfl, h, _⟩ | ⟨b, cur, rfl, hg, h3, h4, h5, h6⟩
  · omega
  · obtain ⟨cs, hK, hc⟩ := h2.get (fun _ _ h => kd.len h) m hm
    refine ⟨b, cs, rfl, hK, fun j v hv => ?_⟩
    rw [cell_of_row w b _ cur e (0, 0) hg]
    have h7 := hc j v hv
    rw [← h6, List.getElem?_take] at h7
    split at h7
    · simpa using h7
    · cases h7
end

section
variable {P : Program} {a : Act} {w : World} {n : Nat} {l : List (Nat × Value)}
variable {d : Option Nat} {ty T : TypeId} {pos : String} {af : Array Edge} {g : Option (Nat × Bool)} {x y z : Operand} {k k' : IntKind} {i j : Int}
variable {α : Type} {A : Nat → Prop} {kd : Kd α} {p : Option Addr} {c : Nat} {xs : List α}
theorem d_indexOwR {e : TypeId} (ha : Has n l a) (hx : ev l x = some (.slice p xs.length c)) (hy : ev l y = some (.int k i)) (hT : P.underlying T = some (.slice e)) (hs : ∀ w, (sizeOf e).run P w = .ok kd.sz w) (r : Ow A w e kd p c xs) (h0 : 0 ≤ i ∧ i < xs.length) (z : α) :
    Does P ⟨d, .indexAddr T x y, ty, pos, af, g⟩ a w (fun v w' => w' = w ∧ ∃ b o cs, v = .pointer (some ⟨b, o, none⟩) ∧ kd.K A w.heap (xs.getD i.toNat z) cs ∧ At w b o cs) := by
  have hm : i.toNat < xs.length := by omega
  obtain ⟨b, cs, hp, hK, hat⟩ := r.get i.toNat hm
  refine (d_indexOw ha hx hy hT hs r h0).mono ?_
  rintro v w' ⟨rfl, b', hb, rfl⟩
  rw [hp] at hb
  simp only [Option.some.injEq, Addr.mk.injEq, and_true] at hb
  subst hb
  refine ⟨rfl, b, _, cs, rfl, ?_, hat⟩
  simpa [List.getD_eq_getElem?_getD, hm] using hK
/-- x[:n] of one's own stays one's own. -/
theorem d_sliceOw {e : TypeId} (ha : Has n l a) (hT : P.underlying T = some (.slice e)) (hs : ∀ w, (sizeOf e).run P w = .ok kd.sz w) (hx : ev l x = some (.slice p xs.length c)) (hz : ev l z = some (.int k' j)) (r : Ow A w e kd p c xs) (h : 0 ≤ j ∧ j ≤ xs.length) :
    Does P ⟨d, .slice T x none (some z) none, ty, pos, af, g⟩ a w (fun v w' => w' = w ∧ v = .slice p (xs.take j.toNat).length c ∧ Ow A w e kd p c (xs.take j.toNat)) := by
  have hraw : xs.length ≤ c := by
    obtain ⟨cells, h1, h2⟩ := r
    rcases own_none h1 with ⟨rfl, h, rfl⟩ | ⟨b, cur, rfl, hg, h3, _⟩
    · omega
    · exact h3
  have ej : (j.toNat : Int) = j := Int.toNat_of_nonneg (by omega)
  have hlen : (xs.take j.toNat).length = j.toNat := by rw [List.length_take]; omega
  refine (Does.val (v := .slice p (xs.take j.toNat).length c) (w' := w) ?_).mono ?_
  · have hb : (Instr.sliceBounds true xs.length c none (some (.int k' j)) none).run P w = .ok (0, j.toNat, c) w := by
      simp [Instr.sliceBounds, run_sliceBound, (by omega : 0 ≤ j), (by omega : j ≤ c)]
    simp [execOp, ha.ev hx, Instr.sliceAt, Instr.slice, run_underlying hT, ha.ev hz, hb, hs]
    constructor
    · intro h0; cases p <;> simp
      rename_i q
      obtain ⟨cells, h1, h2⟩ := r
      rcases own_none h1 with ⟨h, _⟩ | ⟨b, cur, h, _⟩
      · cases h
      · injection h with h; subst h; simp [add_at]
    · omega
  · rintro v w' ⟨rfl, rfl⟩
    refine ⟨rfl, rfl, ?_⟩
    obtain ⟨cells, h1, h2⟩ := r
    refine ⟨cells.take (j.toNat * kd.sz), ?_, h2.take (fun _ _ h => kd.len h) j.toNat⟩
    rcases own_none h1 with ⟨rfl, h0, rfl⟩ | ⟨b, cur, rfl, hg, h3, h4, h5, h6⟩
    · have : xs = [] := List.eq_nil_of_length_eq_zero h0
      subst this
      have : cells = [] := List.eq_nil_of_length_eq_zero (by simpa using h1.1)
      subst this
      simpa using h1
    · have hcl := h1.1
      have hjs : j.toNat * kd.sz ≤ xs.length * kd.sz := Nat.mul_le_mul_right _ (by omega)
      refine ⟨by rw [List.length_take, hlen]; omega, .inr ⟨b, c, cur, rfl, Nat.zero_le _, hg, by omega, h4, h5, ?_⟩⟩
      rw [hlen, ← h6, List.take_take, Nat.min_eq_left hjs]
theorem d_min {Ts : Array TypeId} (ha : Has n l a) (hx : ev l x = some (.int k i)) (hy : ev l y = some (.int k j)) : Does P ⟨d, .call { callee := .builtin .min, args := #[x, y], argTypes := Ts }, ty, pos, af, g⟩ a w (Is (.int k (if j < i then j else i)) w) :=
  Does.val (by simp [execOp, ha.ev hx, ha.ev hy, resolve, invoke, builtin, Builtin.min_, Builtin.min2])
theorem d_max {Ts : Array TypeId} (ha : Has n l a) (hx : ev l x = some (.int k i)) (hy : ev l y = some (.int k j)) : Does P ⟨d, .call { callee := .builtin .max, args := #[x, y], argTypes := Ts }, ty, pos, af, g⟩ a w (Is (.int k (if i < j then j else i)) w) :=
  Does.val (by simp [execOp, ha.ev hx, ha.ev hy, resolve, invoke, builtin, Builtin.max_, Builtin.max2])
end

/-! ### drawn regions -/
def lookE (E : List Nat) (t : Nat) (l : List (Nat × Value)) : List (Nat × Nat × Value) → Option Value
  | [] => look t l
  | e :: r => cond (Nat.beq e.2.1 t && E.contains e.1) (some e.2.2) (lookE E t l r)
def lookI (i t : Nat) : List (Nat × Nat × Value) → Option Value
  | [] => none
  | e :: r => cond (Nat.beq e.1 i && Nat.beq e.2.1 t) (some e.2.2) (lookI i t r)
structure HasB (n : Nat) (l : List (Nat × Value)) (L : List (Nat × Nat × Value)) (b : Nat → Bool) (a : Act) : Prop where
  has : Has n l a
  up : ∀ e ∈ L, b e.1 = true → a.tmps.getD e.2.1 undef = e.2.2
section
variable {n : Nat} {l : List (Nat × Value)} {L L' : List (Nat × Nat × Value)} {b : Nat → Bool} {a : Act} {w : World}
theorem HasB.start (ha : Has n l a) {len : Nat} (hL : L.all (fun e => Nat.blt e.1 len) = true) : HasB n l L (fun j => !Nat.blt j len) a :=
  ⟨ha, fun e he hb => by have := List.all_eq_true.1 hL e he; rw [this] at hb; cases hb⟩
theorem HasB.get (h : HasB n l L b a) (E : List Nat) (hE : ∀ i ∈ E, b i = true) (l' : List (Nat × Value)) (hl : l'.map (fun p => lookE E p.1 l L) = l'.map (fun p => some p.2)) : Has n l' a := by
  have key : ∀ (L : List (Nat × Nat × Value)), (∀ e ∈ L, b e.1 = true → a.tmps.getD e.2.1 undef = e.2.2) → ∀ t v, lookE E t l L = some v → a.tmps.getD t undef = v := by
    intro L
    induction L with
    | nil => intro _ t v hv; exact h.has.at_ t v hv
    | cons e r ih =>
      intro hu t v hv
      simp only [lookE] at hv
      cases hc : (Nat.beq e.2.1 t && E.contains e.1) with
      | false => rw [hc] at hv; exact ih (fun e he => hu e (by simp [he])) t v (by simpa using hv)
      | true =>
        rw [hc] at hv
        simp only [cond_true, Option.some.injEq] at hv
        rw [Bool.and_eq_true] at hc
        have h1 := Nat.eq_of_beq_eq_true hc.1
        have h2 := hu e (by simp) (hE _ (by simpa using hc.2))
        rw [← h1, h2, hv]
  refine ⟨h.has.sz, h.has.df, fun t v hv => ?_⟩
  have hm : ∀ p ∈ l', lookE E p.1 l L = some p.2 := List.map_inj_left.1 hl
  clear hl
  induction l' with
  | nil => simp [look] at hv
  | cons p r ih =>
    simp only [look] at hv
    by_cases he : p.1 = t
    · subst he
      rw [beq_self] at hv
      simp at hv
      subst hv
      exact key L h.up _ _ (hm p (by simp))
    · rw [beq_ne he] at hv
      exact ih (by simpa using hv) (fun q hq => hm q (by simp [hq]))
theorem HasB.to (h : HasB n l L b a) (L' : List (Nat × Nat × Value)) (N : List Nat) (hN : ∀ i ∈ N, b i = false) (hl : L'.map (fun e => cond (N.contains e.1) (some e.2.2) (lookI e.1 e.2.1 L)) = L'.map (fun e => some e.2.2)) : HasB n l L' b a := by
  refine ⟨h.has, fun e he hb => ?_⟩
  have hm := List.map_inj_left.1 hl e he
  cases hc : N.contains e.1 with
  | true => have := hN e.1 (by simpa using hc); rw [this] at hb; cases hb
  | false =>
    rw [hc] at hm
    simp only [cond_false] at hm
    have key : ∀ (L : List (Nat × Nat × Value)), (∀ e ∈ L, b e.1 = true → a.tmps.getD e.2.1 undef = e.2.2) → lookI e.1 e.2.1 L = some e.2.2 → a.tmps.getD e.2.1 undef = e.2.2 := by
      intro L
      induction L with
      | nil => intro _ hv; cases hv
      | cons f r ih =>
        intro hu hv
        simp only [lookI] at hv
        cases hq : (Nat.beq f.1 e.1 && Nat.beq f.2.1 e.2.1) with
        | false => rw [hq] at hv; exact ih (fun e he => hu e (by simp [he])) (by simpa using hv)
        | true =>
          rw [hq] at hv
          simp only [cond_true, Option.some.injEq] at hv
          rw [Bool.and_eq_true] at hq
          have h1 := Nat.eq_of_beq_eq_true hq.1
          have h2 := Nat.eq_of_beq_eq_true hq.2
          have h3 := hu f (by simp) (by rw [h1]; exact hb)
          rw [← h2, h3, hv]
    exact key L h.up hm
theorem look_none {d : Nat} : ∀ {l : List (Nat × Value)}, l.all (fun p => !Nat.beq p.1 d) = true → look d l = none
  | [], _ => rfl
  | p :: r, h => by
    simp only [List.all_cons, Bool.and_eq_true, Bool.not_eq_true'] at h
    simp only [look, h.1, cond_false]
    exact look_none h.2
theorem HasB.put (h : HasB n l L b a) {d : Nat} (i : Nat) {v : Value} (hd : Nat.ble (d + 1) n = true) (hl : l.all (fun p => !Nat.beq p.1 d) = true) (hL : L.all (fun e => Nat.beq e.2.1 d == Nat.beq e.1 i) = true)
    (hv : (L.filter (fun e => Nat.beq e.1 i)).map (fun e => e.2.2) = [v]) : HasB n l L (fun j => b j || Nat.beq i j) (a.put (some d) v) := by
  have hp := h.has.put hd v
  refine ⟨⟨hp.sz, hp.df, fun t u hu' => ?_⟩, fun e he hb => ?_⟩
  · have hne : ¬ d = t := by
      rintro rfl
      rw [look_none hl] at hu'
      cases hu'
    exact hp.at_ t u (by simp only [look]; rw [beq_ne hne]; exact hu')
  · have h1 := List.all_eq_true.1 hL e he
    by_cases hi : e.1 = i
    · have h2 : e.2.1 = d := by
        have h3 : Nat.beq e.1 i = true := by rw [hi]; exact beq_self i
        rw [h3] at h1
        exact Nat.eq_of_beq_eq_true (by simpa using h1)
      have h3 : e.2.2 ∈ (L.filter (fun e => Nat.beq e.1 i)).map (fun e => e.2.2) := List.mem_map.2 ⟨e, List.mem_filter.2 ⟨he, by rw [hi]; exact beq_self i⟩, rfl⟩
      rw [hv] at h3
      have h4 : e.2.2 = v := by simpa using h3
      rw [h2, h4]
      exact hp.at_ d v (by simp only [look, beq_self, cond_true])
    · have h3 : Nat.beq e.1 i = false := beq_ne hi
      rw [h3] at h1
      have h2 : ¬ d = e.2.1 := by
        intro hd'
        rw [← hd', beq_self] at h1
        cases h1
      have h5 : b e.1 = true := by
        rw [beq_ne (fun h => hi h.symm), Bool.or_false] at hb
        exact hb
      have h4 := h.up e he h5
      rw [← h4]
      simp only [Act.put, Array.getD_eq_getD_getElem?]
      rw [Array.getElem?_setIfInBounds_ne h2]
theorem HasB.skip (h : HasB n l L b a) (i : Nat) (v : Value) (hL : L.all (fun e => !Nat.beq e.1 i) = true) : HasB n l L (fun j => b j || Nat.beq i j) (a.put none v) :=
  ⟨h.has.skip v, fun e he hb => by
    have h1 := List.all_eq_true.1 hL e he
    refine h.up e he ?_
    have h2 : Nat.beq i e.1 = false := beq_ne (fun h => by rw [h] at h1; rw [beq_self] at h1; cases h1)
    rw [h2, Bool.or_false] at hb
    exact hb⟩
theorem up_t {b : Nat → Bool} {i j : Nat} (h : b j = true) : (b j || Nat.beq i j) = true := by rw [h]; rfl
theorem up_f {b : Nat → Bool} {i j : Nat} (h : b j = false) (hn : Nat.beq i j = false) : (b j || Nat.beq i j) = false := by rw [h, hn]; rfl
theorem up_i {b : Nat → Bool} {i : Nat} : (b i || Nat.beq i i) = true := by rw [beq_self, Bool.or_true]
theorem no_both {c : Bool} {p : Prop} (h : c = false) (h' : c = true) : p := by rw [h] at h'; cases h'
end

section
variable {P : Program} {os : List Oper} {Q : Exit → Act → World → Prop} {a : Act} {w : World} {m : Nat}
theorem drawnC (id : Nat) (hmx : P.follows .mixedOrders = true) (m : Nat) (hok : okR os m = true) (hm : Nat.ble m os.length = true) (I : (Nat → Bool) → Act → World → Prop) (h0 : I (fun j => !Nat.blt j os.length) a w.drew)
    (hs : ∀ i o, os[i]? = some o → i < m → ∀ b a w, I b a w → b i = false → (∀ j ∈ needs o, b j = true) → (∀ j o', os[j]? = some o' → b j = true → ∀ q ∈ needs o', b q = true) → DoesG P os o a w (fun v w' => I (fun j => b j || Nat.beq i j) (a.put o.dst v) w'))
    (hend : ∀ b a w, (∀ j, j < os.length → j < m → b j = true) → I b a w → wpList P os.toArray Q (os.drop m) a w) : (Code.region id os.toArray true).wp P Q a w := by
  refine drawn id hmx m hok hm (fun b a w => I b a w ∧ ∀ j o', os[j]? = some o' → b j = true → ∀ q ∈ needs o', b q = true) ⟨h0, fun j o' ho hb => ?_⟩ (fun i o ho him b a w hI hb hn => ?_) (fun b a w hb hI => hend b a w hb hI.1)
  · have hj := (List.getElem?_eq_some_iff.1 ho).1
    have : Nat.blt j os.length = true := by rw [Nat.blt_eq]; exact hj
    have hb : (!Nat.blt j os.length) = true := hb
    rw [this] at hb
    cases hb
  · have h := hs i o ho him b a w hI.1 hb hn hI.2
    have hcl : ∀ j o', os[j]? = some o' → (b j || Nat.beq i j) = true → ∀ q ∈ needs o', (b q || Nat.beq i q) = true := by
      intro j o' ho' hb' q hq
      by_cases hij : i = j
      · subst hij
        rw [ho] at ho'
        injection ho' with ho'
        subst ho'
        exact up_t (hn q hq)
      · rw [beq_ne hij, Bool.or_false] at hb'
        exact up_t (hI.2 j o' ho' hb' q hq)
    unfold DoesG at h ⊢
    split
    · rename_i hw
      rw [if_pos hw] at h
      exact h.mono (fun v w' hv => ⟨hv, hcl⟩)
    · rename_i hw
      rw [if_neg hw] at h
      exact ⟨h, hcl⟩
theorem mem_needs {o : Oper} {j : Nat} (h : (needs o).contains j = true) : j ∈ needs o := by simpa using h
variable {n : Nat} {l : List (Nat × Value)} {o : Oper} {R : Value → World → Prop}
theorem DoesG.plain (hg : o.guard = none) (h : Does P o a w R) : DoesG P os o a w R := by
  unfold DoesG
  rw [if_pos (by simp [Region.wanted, hg])]
  exact h
theorem DoesG.on {j dj : Nat} {wt t : Bool} {oj : Oper} (hg : o.guard = some (j, wt)) (ha : Has n l a) (hj : os[j]? = some oj) (hdj : oj.dst = some dj) (hv : look dj l = some (.bool t)) (he : t = wt) (h : Does P o a w R) : DoesG P os o a w R := by
  unfold DoesG
  rw [if_pos]
  · exact h
  · simp only [Region.wanted, yielded, hg, List.getElem?_toArray, hj, hdj, Option.bind_some, yield_at (ha.at_ _ _ hv), he]
    cases wt <;> rfl
theorem DoesG.off {j dj : Nat} {wt t : Bool} {oj : Oper} (hg : o.guard = some (j, wt)) (ha : Has n l a) (hj : os[j]? = some oj) (hdj : oj.dst = some dj) (hv : look dj l = some (.bool t)) (he : t = !wt) (h : R undef w) : DoesG P os o a w R := by
  unfold DoesG
  rw [if_neg]
  · exact h
  · simp only [Region.wanted, yielded, hg, List.getElem?_toArray, hj, hdj, Option.bind_some, yield_at (ha.at_ _ _ hv), he]
    cases wt <;> decide
theorem DoesG.gone {j dj : Nat} {wt : Bool} {oj : Oper} (hg : o.guard = some (j, wt)) (ha : Has n l a) (hj : os[j]? = some oj) (hdj : oj.dst = some dj) (hv : look dj l = some undef) (h : R undef w) : DoesG P os o a w R := by
  unfold DoesG
  rw [if_neg]
  · exact h
  · have hgd := ha.at_ _ _ hv
    have : yielded os.toArray a.tmps j = none := by
      simp only [yielded, List.getElem?_toArray, hj, hdj, Option.bind_some]
      split
      · rename_i b hb
        exact absurd hb (yield_no hgd b)
      · rfl
    simp [Region.wanted, hg, this]
/-- the operations one by one -/
inductive EachAt (C : Nat → Oper → Prop) : Nat → Nat → List Oper → Prop where
  | nil {k : Nat} {os : List Oper} : EachAt C k 0 os
  | cons {k m : Nat} {o : Oper} {r : List Oper} : C k o → EachAt C (k + 1) m r → EachAt C k (m + 1) (o :: r)
theorem EachAt.all {C : Nat → Oper → Prop} {k m : Nat} {os : List Oper} (h : EachAt C k m os) : ∀ i o, os[i]? = some o → i < m → C (k + i) o := by
  induction h with
  | nil => intro i o _ hi; omega
  | @cons k m o r h1 _ ih =>
    intro i p hp hi
    cases i with
    | zero => simp at hp; subst hp; exact h1
    | succ i => have := ih i p (by simpa using hp) (by omega); rwa [show k + 1 + i = k + (i + 1) by omega] at this
theorem EachAt.all0 {C : Nat → Oper → Prop} {m : Nat} {os : List Oper} (h : EachAt C 0 m os) (i : Nat) (o : Oper) (ho : os[i]? = some o) (hi : i < m) : C i o := by
  have := h.all i o ho hi
  rwa [Nat.zero_add] at this
/-! facts on slots whose values are not told -/
theorem put_same {a : Act} {d : Nat} {v : Value} (ha : Has n l a) (hd : Nat.ble (d + 1) n = true) : (a.put (some d) v).tmps.getD d undef = v := (ha.put hd v).at_ d v (by simp only [look, beq_self, cond_true])
theorem put_other {a : Act} {d t : Nat} {v : Value} (h : Nat.beq d t = false) : (a.put (some d) v).tmps.getD t undef = a.tmps.getD t undef := by
  have hne : ¬ d = t := fun e => by rw [e, beq_self] at h; cases h
  simp only [Act.put, Array.getD_eq_getD_getElem?]
  rw [Array.getElem?_setIfInBounds_ne hne]
theorem phi_keep {b : Nat → Bool} {i j d t : Nat} {v : Value} {Φ Φ' : Value → Prop} (h : b j = true → Φ (a.tmps.getD t undef)) (hij : Nat.beq i j = false) (hdt : Nat.beq d t = false) (hm : ∀ v, Φ v → Φ' v) : (b j || Nat.beq i j) = true → Φ' ((a.put (some d) v).tmps.getD t undef) := fun hb => by
  rw [hij, Bool.or_false] at hb
  rw [put_other hdt]
  exact hm _ (h hb)
theorem phi_keep0 {b : Nat → Bool} {i j t : Nat} {v : Value} {Φ Φ' : Value → Prop} (h : b j = true → Φ (a.tmps.getD t undef)) (hij : Nat.beq i j = false) (hm : ∀ v, Φ v → Φ' v) : (b j || Nat.beq i j) = true → Φ' ((a.put none v).tmps.getD t undef) := fun hb => by
  rw [hij, Bool.or_false] at hb
  exact hm _ (h hb)
theorem phi_new {b : Nat → Bool} {i d : Nat} {v : Value} {Φ : Value → Prop} (ha : Has n l a) (hd : Nat.ble (d + 1) n = true) (h : Φ v) : (b i || Nat.beq i i) = true → Φ ((a.put (some d) v).tmps.getD d undef) := fun _ => by
  rw [put_same ha hd]
  exact h
theorem Has.know {t : Nat} {v : Value} (ha : Has n l a) (h : a.tmps.getD t undef = v) : Has n ((t, v) :: l) a := ⟨ha.sz, ha.df, fun s u hu => by
  simp only [look] at hu
  by_cases hts : t = s
  · subst hts
    rw [beq_self] at hu
    simp at hu
    rw [← hu]; exact h
  · rw [beq_ne hts] at hu
    exact ha.at_ s u hu⟩
theorem At.stay {b o : Nat} {cs : List Value} {w w' : World} (h : At w b o cs) (hf : Fr w w' No) : At w' b o cs := fun j v hv => by
  have h1 := h j v hv
  have hb : b < w.heap.size := by
    rcases Nat.lt_or_ge b w.heap.size with h | h
    · exact h
    · simp [World.cell?, Array.getElem?_eq_none h] at h1
  have h2 := hf.blk b hb id
  simp only [World.cell?] at h1 ⊢
  rw [h2]
  exact h1
end
end Go.Sx

namespace Go.Sx
open Go Go.RowKit
section
variable {A A' B W S0 : Nat → Prop} {w0 w w' : World} {as as' as0 rt rr ro as00 : List (Option Addr)} {u : Option Addr} {b : Nat}
theorem Ex.roOff (h : Ex w0 (Av as00 No) as w) (hW : ∀ k, W k → k < w0.heap.size) (hW0 : ∀ p, some p ∈ as00 → ¬ W p.block) (hb : W b) (j : Nat) (hj : as[j]? = some u) : ¬ ∃ p, u = some p ∧ p.block = b := fun ⟨p, hp, e⟩ =>
  h.wfree hW hW0 p (mem_at hj hp) (by rw [e]; exact hb)
theorem Ex.roOffC (h : Ex w0 (Av as00 No) (as0 ++ rt) w) (hW : ∀ k, W k → k < w0.heap.size) (hW0 : ∀ p, some p ∈ as00 → ¬ W p.block) (hb : W b) : ¬ Av as0 No b := fun hk => by
  rcases hk with hk | ⟨p, hp, e⟩
  · exact hk
  · exact h.wfree hW hW0 p (by simp [hp]) (by rw [e]; exact hb)
end
section
variable {n : Nat} {l : List (Nat × Value)} {L : List (Nat × Nat × Value)} {b : Nat → Bool} {a : Act} {w : World}
/-- a slot whose value is told elsewhere -/
theorem HasB.putR (h : HasB n l L b a) {d : Nat} (i : Nat) {v : Value} (hd : Nat.ble (d + 1) n = true) (hl : l.all (fun p => !Nat.beq p.1 d) = true) (hL : L.all (fun e => !Nat.beq e.2.1 d && !Nat.beq e.1 i) = true) : HasB n l L (fun j => b j || Nat.beq i j) (a.put (some d) v) := by
  have hp := h.has.put hd v
  refine ⟨⟨hp.sz, hp.df, fun t u hu' => ?_⟩, fun e he hb => ?_⟩
  · have hne : ¬ d = t := by
      rintro rfl
      rw [look_none hl] at hu'
      cases hu'
    exact hp.at_ t u (by simp only [look]; rw [beq_ne hne]; exact hu')
  · have h1 := List.all_eq_true.1 hL e he
    simp only [Bool.and_eq_true, Bool.not_eq_true'] at h1
    have h2 : Nat.beq i e.1 = false := beq_ne (fun h => by rw [h] at h1; rw [beq_self] at h1; cases h1.2)
    rw [h2, Bool.or_false] at hb
    rw [← h.up e he hb]
    refine put_other (beq_ne (fun h => by rw [h] at h1; rw [beq_self] at h1; cases h1.1))
/-- what is told of a slot, when its operation is done -/
def Sl (b : Nat → Bool) (a : Act) (j t : Nat) (Φ : Value → Prop) : Prop := b j = true → Φ (a.tmps.getD t undef)
theorem Sl.start {len j t : Nat} {Φ : Value → Prop} (h : Nat.blt j len = true) : Sl (fun j => !Nat.blt j len) a j t Φ := fun hb => by
  have hb : (!Nat.blt j len) = true := hb
  rw [h] at hb
  cases hb
theorem Sl.keep {i j d t : Nat} {v : Value} {Φ Φ' : Value → Prop} (h : Sl b a j t Φ) (hij : Nat.beq i j = false) (hdt : Nat.beq d t = false) (hm : ∀ v, Φ v → Φ' v) : Sl (fun j => b j || Nat.beq i j) (a.put (some d) v) j t Φ' := phi_keep h hij hdt hm
theorem Sl.new {i d : Nat} {v : Value} {Φ : Value → Prop} (ha : Has n l a) (hd : Nat.ble (d + 1) n = true) (h : Φ v) : Sl (fun j => b j || Nat.beq i j) (a.put (some d) v) i d Φ := phi_new ha hd h
end
end Go.Sx

namespace Go.Sx
open Go Go.RowKit
set_option linter.unusedSimpArgs false
set_option linter.unusedVariables false
section
variable {P : Program}
-- append(v, make([]T, n)...): after the text that the kit's printer writes for a seat
theorem run_append_zeros (w : World) (base : Nat) (t ti ty e : TypeId) (i : TypeInfo) (z : Value) (size bytes : Nat) (ht : P.underlying t = some (.slice e)) {k : IntKind} (hti : P.underlying ti = some (.int k)) (hi : P.info? e = some i) (hz : i.zero = some z)
    (hsize : i.size = size) (hby : i.bytes = bytes) (hzs : z.cells.size = size) (hsz : 0 < size) (hb0 : 0 < bytes)
    (v : Value) (n : Nat) (xs : List Value) (hown : w.ownsRow base e size v n xs) (kx : IntKind) (m : Nat) (h1 : ∀ u ∈ (Builtin.zeroCells z.cells m).toList, u.oneCell' = true)
    (hbytes : (n + m) * bytes ≤ 140737488355328) (hbase : base ≤ w.heap.size) :
    ∃ v' w', (Builtin.append_ #[t, ti] ty #[v, .int kx m]).run P w = .ok v' w' ∧ w'.ownsRow base e size v' (n + m) (xs ++ (Builtin.zeroCells z.cells m).toList) ∧ w.grownBy w' v.ownBlock ∧
      (v'.ownBlock = v.ownBlock ∨ v'.ownBlock = some w.heap.size) := by
  subst hsize
  subst hby
  have hle : n + m ≤ 140737488355328 := Nat.le_trans (Nat.le_mul_of_pos_right _ hb0) hbytes
  have h63 : n + m ≤ maxLen := by simp only [maxLen]; omega
  have hw : IntKind.i64.wrap (m : Int) = m := by rw [IntKind.wrap_i64]; omega
  have hw0 : IntKind.i64.wrap 0 = 0 := by rw [IntKind.wrap_i64]; rfl
  have hneg : ¬ ((m : Int) < 0) := by omega
  have hmb : m * i.bytes ≤ 140737488355328 := Nat.le_trans (Nat.mul_le_mul_right _ (Nat.le_add_left m n)) hbytes
  have hbig : ¬ (281474976710656 < (m : Int) * (i.bytes : Int)) := by
    rw [← Int.natCast_mul]
    omega
  have hsn : i.size ≠ 0 := by omega
  obtain ⟨news, hnews⟩ : ∃ news, news = (Builtin.zeroCells z.cells m).toList := ⟨_, rfl⟩
  rw [← hnews] at h1 ⊢
  have hl : news.length = m * i.size := by rw [hnews, Array.length_toList, size_zeroCells, hzs]
  have hna : Builtin.zeroCells z.cells m = news.toArray := by rw [hnews]
  have hlen : (xs ++ news).length = (n + m) * i.size := by rw [List.length_append, hown.1, hl, Nat.add_mul]
  have hnil : m = 0 → news = [] := fun h => List.eq_nil_of_length_eq_zero (by rw [hl, h, Nat.zero_mul])
  have grown : ∀ (old : Nat), old < n + m → ∀ (row : Option Nat),
      (w.drew.alloc (.cells (xs.toArray ++ news.toArray ++ Builtin.zeroCells z.cells (grownCap w (n + m) old e - (n + m))) e)).ownsRow base e i.size
        (.slice (some ⟨w.heap.size, 0, none⟩) (n + m) (grownCap w (n + m) old e)) (n + m) (xs ++ news) ∧
      w.grownBy (w.drew.alloc (.cells (xs.toArray ++ news.toArray ++ Builtin.zeroCells z.cells (grownCap w (n + m) old e - (n + m))) e)) row := by
    intro old ho row
    have hge := grownCap_ge w (n + m) old e
    have hcm : grownCap w (n + m) old e ≤ maxLen := grownCap_le_maxLen w (n + m) old e h63
    refine ⟨⟨hlen, .inr ⟨w.heap.size, _, _, rfl, hbase, heap_alloc_new w.drew _, hge, hcm, ?_, ?_⟩⟩, ⟨rfl, rfl, rfl, by simp, fun k hk _ => heap_alloc_old w.drew _ hk⟩⟩
    · simp only [Array.size_append, List.size_toArray, size_zeroCells, hzs, hown.1, hl, ← Nat.add_mul]
      congr 1
      omega
    · simp only [Array.toList_append, List.append_assoc]
      rw [← List.append_assoc, ← hlen]
      exact List.take_left
  have runs : ∀ (A : Option Addr) (cap : Nat), cap < n + m → (Builtin.firstCells i.size n (.slice A n cap)).run P w.drew = .ok xs.toArray w.drew → (Builtin.append_ #[t, ti] ty #[.slice A n cap, .int kx m]).run P w =
      .ok (.slice (some ⟨w.heap.size, 0, none⟩) (n + m) (grownCap w (n + m) cap e)) (w.drew.alloc (.cells (xs.toArray ++ news.toArray ++ Builtin.zeroCells z.cells (grownCap w (n + m) cap e - (n + m))) e)) := by
    intro A cap hcap hfo
    have hn : ¬ (n + m ≤ cap) := by omega
    have h63' : ¬ (9223372036854775807 < ((n : Int) + (m : Int))) := by omega
    have hfit := growslice_fits hcap hbytes
    have h48' : ¬ (281474976710656 < Builtin.nextslicecap (n + m) cap * i.bytes) := by omega
    by_cases hm : m = 0
    · have hnl := hnil hm
      subst hm
      rw [hnl]
      simp only [Nat.add_zero] at hn h63' h48' ⊢
      have h63'' : ¬ (9223372036854775807 < (n : Int)) := by omega
      simp [Builtin.append_, run_underlying ht, run_underlying hti, sizeOf, typeInfo, zeroValue, hi, hz, asInt, asIntOf, hw0, hn, h63'', h48', Question.forced, hfo, newRow, grownCap]
    · have hmz : ¬ (m * i.size = 0) := Nat.mul_ne_zero hm hsn
      simp [Builtin.append_, run_underlying ht, run_underlying hti, sizeOf, typeInfo, zeroValue, hi, hz, asInt, asIntOf, hw, hneg, hbig, hn, h63', h48', Question.forced, hfo, newRow, grownCap, hmz, hna]
      congr 2
      apply Array.ext'
      simp [List.append_assoc]
  rcases hown.2 with ⟨rfl, rfl⟩ | ⟨g, cap, cur, rfl, hbg, hg, hnc, hcm, hcs, htake⟩
  · have hx : xs = [] := List.eq_nil_of_length_eq_zero (by simpa using hown.1)
    subst hx
    by_cases hm : m = 0
    · have hnl := hnil hm
      subst hm
      rw [hnl]
      refine ⟨.slice none 0 0, w, ?_, World.ownsRow_nil w base e i.size, ⟨rfl, rfl, rfl, Nat.le_refl _, fun _ _ _ => rfl⟩, Or.inl rfl⟩
      simp [Builtin.append_, run_underlying ht, run_underlying hti, sizeOf, typeInfo, hi, asInt, asIntOf, hw0]
    · have hgr := grown 0 (by omega) (Value.ownBlock (.slice none 0 0))
      exact ⟨_, _, runs none 0 (by omega) (by simp [Builtin.firstCells]), hgr.1, hgr.2, Or.inr rfl⟩
  · by_cases hroom : n + m ≤ cap
    · have hfit : n * i.size + news.length ≤ cur.size := by rw [hl, hcs, ← Nat.add_mul]; exact Nat.mul_le_mul_right _ hroom
      have hst := run_storeCells_at P g (n * i.size) e news 0 cur w hg hfit h1
      simp only [Nat.add_zero] at hst
      refine ⟨.slice (some ⟨g, 0, none⟩) (n + m) cap, w.setRow g (cur.toList.take (n * i.size) ++ news ++ cur.toList.drop (n * i.size + news.length)).toArray, ?_, ⟨hlen, .inr ⟨g, cap, _, rfl, hbg, setRow_heap w g cur _ e _ hg, hroom, hcm, ?_, ?_⟩⟩,
        ⟨rfl, rfl, rfl, by simp, fun k _ hk => setRow_other w g k _ (fun e => hk (by simp [Value.ownBlock, e]))⟩, Or.inl rfl⟩
      · by_cases hm : m = 0
        · have hnl := hnil hm
          subst hm
          rw [hnl] at hst ⊢
          simp [Builtin.append_, run_underlying ht, run_underlying hti, sizeOf, typeInfo, hi, asInt, asIntOf, hw0, hnc, add_at, hst]
        · have hmz : ¬ (m * i.size = 0) := Nat.mul_ne_zero hm hsn
          simp [Builtin.append_, run_underlying ht, run_underlying hti, sizeOf, typeInfo, zeroValue, hi, hz, asInt, asIntOf, hw, hneg, hbig, hroom, hmz, hna, add_at, hst]
      · simp only [List.size_toArray, List.length_append, List.length_take, List.length_drop, Array.length_toList]
        omega
      · have h6 : cur.toList.take (n * i.size) = xs := htake
        rw [h6, ← hlen]
        exact List.take_left
    · have holds : ∀ j u, xs[j]? = some u → w.cell? ((⟨g, 0, none⟩ : Addr).add j) = some u := hown.cells (g := g) rfl
      have hgr := grown cap (by omega) (Value.ownBlock (.slice (some ⟨g, 0, none⟩) n cap))
      exact ⟨_, _, runs (some ⟨g, 0, none⟩) cap (by omega) (run_firstCells_some (P := P) w.drew i.size n _ n cap xs hown.1 (by simpa using holds)), hgr.1, hgr.2, Or.inr rfl⟩
end
section
variable {P : Program} {a : Act} {w w' : World} {n : Nat} {l : List (Nat × Value)}
variable {d : Option Nat} {ty T Ti : TypeId} {pos : String} {af : Array Edge} {g : Option (Nat × Bool)} {x y z : Operand} {k k' : IntKind} {i : Int}
variable {α : Type} {A : Nat → Prop} {kd : Kd α} {p : Option Addr} {c : Nat} {xs : List α}
theorem zeros_els {R : α → List Value → Prop} {z : Array Value} {zx : α} (h : R zx z.toList) : ∀ m, Els R (List.replicate m zx) (Builtin.zeroCells z m).toList := by
  have hrep : ∀ q, (Builtin.zeroCells z (q + 1)).toList = z.toList ++ (Builtin.zeroCells z q).toList := by
    intro q
    apply List.ext_getElem
    · simp [Builtin.zeroCells, Nat.add_mul]; omega
    · intro j h1 h2
      simp only [Builtin.zeroCells, Array.toList_map, List.getElem_map, Array.getElem_toList, Array.getElem_range, List.getElem_append, Array.length_toList]
      split
      · rename_i hj
        rw [Nat.mod_eq_of_lt hj, getElem!_pos z j hj]
      · rename_i hj
        congr 1
        rw [Nat.mod_eq_sub_mod (by omega)]
  intro m
  induction m with
  | zero => simp [Builtin.zeroCells]; exact .nil
  | succ q ih => rw [List.replicate_succ, hrep]; exact .cons h ih
/-- append(v, make([]T, n)...) -/
theorem d_appendZ {e : TypeId} {zv : Value} {zx : α} {bytes : Nat} {B S0 : Nat → Prop} {w0 : World} {lf rt : List (Option Addr)} (fs : Option Addr → List (Option Addr)) (hfs : ∀ q, fs q = lf ++ q :: rt) (ha : Has n l a) (hT : P.underlying T = some (.slice e)) (hi : (P.info? e).map (fun i => (i.zero, i.size, i.bytes)) = some (some zv, kd.sz, bytes)) (hz : zv.cells.size = kd.sz) (hs0 : 0 < kd.sz) (hb0 : 0 < bytes)
    (hx : ev l x = some (.slice p xs.length c)) (hti : P.underlying Ti = some (.int k')) (hzx : ∀ A h, kd.K A h zx zv.cells.toList) (hy : ev l y = some (.int k i)) (hi0 : 0 ≤ i) (hE : Ex w0 S0 (fs p) w) (ho : Ow (Av (fs p) B) w e kd p c xs) (hl : (xs.length + i.toNat) * bytes ≤ 140737488355328) :
    Does P ⟨d, .call { callee := .builtin .append, args := #[x, y], argTypes := #[T, Ti] }, ty, pos, af, g⟩ a w (fun v w' => ∃ p' c', v = .slice p' (xs ++ List.replicate i.toNat zx).length c' ∧ Step (fs p) (fs p') w w' ∧ Ex w0 S0 (fs p') w' ∧
      Fr w w' (fun k => ∃ s, p = some s ∧ s.block = k) ∧ Ow (Av (fs p') B) w' e kd p' c' (xs ++ List.replicate i.toNat zx)) := by
  obtain ⟨i0, hin, hzz⟩ := Option.map_eq_some_iff.1 hi
  simp only [Prod.mk.injEq] at hzz
  obtain ⟨hz0, hz1, hz2⟩ := hzz
  have hE' := hE
  rw [hfs] at hE'
  obtain ⟨cells, h1, h2⟩ := ho
  obtain ⟨m, rfl⟩ := Int.eq_ofNat_of_zero_le hi0
  simp only [Int.toNat_natCast] at hl ⊢
  have hone : ∀ u ∈ (Builtin.zeroCells zv.cells m).toList, u.oneCell' = true := by
    intro u hu
    obtain ⟨x, c, hx, hm⟩ := (zeros_els (R := kd.K (Av (fs p) B) w.heap) (hzx _ _) m).mem hu
    exact kd.one hx u hm
  have hels : Els (kd.K (Av (fs p) B) w.heap) (xs ++ List.replicate m zx) (cells ++ (Builtin.zeroCells zv.cells m).toList) := h2.append (zeros_els (hzx _ _) m)
  obtain ⟨v, w', hr, ho', hg', hat⟩ := run_append_zeros (P := P) w 0 T Ti ty e i0 zv kd.sz bytes hT hti hin hz0 hz1 hz2 hz hs0 hb0 (.slice p xs.length c) xs.length cells h1 k m hone hl (Nat.zero_le _)
  refine (Does.val (v := v) (w' := w') ?_).mono ?_
  · simp [execOp, ha.ev hx, ha.ev hy, resolve, invoke, builtin, hr]
  · rintro v1 w1 ⟨rfl, rfl⟩
    have hlen : (xs ++ List.replicate m zx).length = xs.length + m := by rw [List.length_append, List.length_replicate]
    obtain ⟨p', c', rfl⟩ : ∃ p' c', v1 = .slice p' (xs ++ List.replicate m zx).length c' := by
      rw [hlen]
      rcases ho'.2 with ⟨rfl, h0⟩ | ⟨g, cap, cur, rfl, _⟩
      · rw [h0]; exact ⟨_, _, rfl⟩
      · exact ⟨_, _, rfl⟩
    have hob : ∀ (o : Option Addr) (m c : Nat) (k : Nat), Value.ownBlock (.slice o m c) = some k ↔ ∃ s, o = some s ∧ s.block = k := by
      intro o m c k
      cases o <;> simp [Value.ownBlock]
    have hf : Fr w w1 (fun k => ∃ s, p = some s ∧ s.block = k) := (Fr.grown hg').mono (fun k _ hk => (hob _ _ _ _).1 hk.symm)
    have hnew : ∀ s, p' = some s → s.block < w1.heap.size ∧ ((∃ t, p = some t ∧ t.block = s.block) ∨ w.heap.size ≤ s.block) := by
      intro s hs
      have hlt : s.block < w1.heap.size := by
        rcases ho'.2 with ⟨h, _⟩ | ⟨g, cap, cur, h, _, hg, _⟩
        · simp only [Value.slice.injEq] at h
          rw [h.1] at hs; cases hs
        · simp only [Value.slice.injEq] at h
          rw [h.1] at hs
          injection hs with hs
          subst hs
          exact lt_of_get hg
      refine ⟨hlt, ?_⟩
      have hs' := (hob p' (xs ++ List.replicate m zx).length c' s.block).2 ⟨s, hs, rfl⟩
      rcases hat with hat | hat
      · rw [hs'] at hat
        exact .inl ((hob _ _ _ _).1 hat.symm)
      · rw [hs'] at hat
        injection hat with hat
        exact .inr (by omega)
    have hst : Step (fs p) (fs p') w w1 := by
      rw [hfs, hfs]
      exact Step.wrote hf (fun s hs => (hnew s hs).2)
    refine ⟨p', c', rfl, hst, ?_, hf, cells ++ (Builtin.zeroCells zv.cells m).toList, by rw [hlen] at ho' ⊢; exact ho', hels.imp (fun _ _ hx => hst.trK hx)⟩
    rw [hfs]
    exact hE'.wrote hf hnew

theorem d_capNil {e : TypeId} {m : Nat} (ha : Has n l a) (hT : P.underlying T = some (.slice e)) (hx : ev l x = some (.slice p m c)) : Does P ⟨d, .call { callee := .builtin .cap, args := #[x], argTypes := #[T] }, ty, pos, af, g⟩ a w (Is (.int .i64 (c : Int)) w) :=
  Does.val (by simp [execOp, ha.ev hx, resolve, invoke, builtin, Builtin.cap_, run_underlying hT, goInt])
theorem d_sliceNil {e : TypeId} {s : Nat} (ha : Has n l a) (hT : P.underlying T = some (.slice e)) (hs : ∀ w, (sizeOf e).run P w = .ok s w) (hx : ev l x = some (.slice none 0 0)) (hz : ev l z = some (.int k' 0)) :
    Does P ⟨d, .slice T x none (some z) none, ty, pos, af, g⟩ a w (Is (.slice none 0 0) w) := by
  have hb : (Instr.sliceBounds true 0 0 none (some (.int k' 0)) none).run P w = .ok (0, 0, 0) w := by
    simp [Instr.sliceBounds, run_sliceBound]
  exact Does.val (by simp [execOp, ha.ev hx, Instr.sliceAt, Instr.slice, run_underlying hT, ha.ev hz, hb, hs])
end
/-! ### a range over a string -/
def It (w : World) (b : Nat) (s : ByteArray) (pos : Nat) : Prop := w.heap[b]? = some (.stringIter s pos)
section
variable {P : Program} {a : Act} {w w' : World} {n : Nat} {l : List (Nat × Value)} {b : Nat} {s : ByteArray} {p : Nat}
variable {d : Option Nat} {ty T : TypeId} {pos : String} {af : Array Edge} {g : Option (Nat × Bool)} {x : Operand} {S : Nat → Prop}
theorem It.keep (h : It w b s p) (hf : Fr w w' S) (hb : ¬ S b) : It w' b s p := (hf.blk b (lt_of_get h) hb).trans h
theorem It.stay (h : It w b s p) (hf : Fr w w' No) : It w' b s p := h.keep hf id
theorem d_range (ha : Has n l a) (hT : P.underlying T = some .string) (hx : ev l x = some (.string s)) :
    Does P ⟨d, .range T x, ty, pos, af, g⟩ a w (fun v w' => ∃ b, v = .pointer (some ⟨b, 0, none⟩) ∧ w.heap.size ≤ b ∧ b < w'.heap.size ∧ It w' b s 0 ∧ Fr w w' No) := by
  refine (Does.val (v := .pointer (some ⟨w.heap.size, 0, none⟩)) (w' := w.alloc (.stringIter s 0)) ?_).mono ?_
  · have := run_range_string (P := P) w T s hT
    simp [execOp, ha.ev hx, Instr.range, run_underlying hT]
  · rintro v w' ⟨rfl, rfl⟩
    exact ⟨_, rfl, Nat.le_refl _, by simp, by unfold It; exact heap_alloc_new w _, Fr.alloc _ _ _⟩
theorem d_next (ha : Has n l a) (hx : ev l x = some (.pointer (some ⟨b, 0, none⟩))) (hi : It w b s p) {t : Bool} (hq : decide (p < s.size) = t) (ht : t = true) :
    Does P ⟨d, .next x true, ty, pos, af, g⟩ a w (fun v w' => v = .tuple #[.bool true, .int .i64 p, .int .i32 (Utf8.decode s p).1] ∧ It w' b s (p + (Utf8.decode s p).2) ∧ Fr w w' (fun k => k = b)) := by
  have h : p < s.size := of_decide_eq_true (hq.trans ht)
  refine (Does.val (v := .tuple #[.bool true, .int .i64 p, .int .i32 (Utf8.decode s p).1]) (w' := w.iterAt b s (p + (Utf8.decode s p).2)) ?_).mono ?_
  · simp [execOp, ha.ev hx, Lib.run_next_any_at w b s p ty hi h]
  · rintro v w' ⟨rfl, rfl⟩
    exact ⟨rfl, Lib.iterAt_heap w b s p _ hi, rfl, rfl, rfl, by simp [World.iterAt], fun k _ hk => by simp [World.iterAt, Array.getElem?_setIfInBounds_ne (fun e => hk e.symm)]⟩
theorem d_nextEnd (ha : Has n l a) (hx : ev l x = some (.pointer (some ⟨b, 0, none⟩))) (hi : It w b s p) {t : Bool} (hq : decide (p < s.size) = t) (ht : t = false) :
    Does P ⟨d, .next x true, ty, pos, af, g⟩ a w (Is (.tuple #[.bool false]) w) := by
  have h : ¬ p < s.size := of_decide_eq_false (hq.trans ht)
  exact Does.val (by simp [execOp, ha.ev hx, Lib.run_next_end_at w b s p ty hi h])
end
section
variable {P : Program} {a : Act} {w : World} {n : Nat} {l : List (Nat × Value)}
variable {d : Option Nat} {ty : TypeId} {pos : String} {af : Array Edge} {g : Option (Nat × Bool)}
/-- A call of a function value that is known. -/
theorem d_callV {f : FuncId} {y : Operand} {xs : List Operand} {Ts : Array TypeId} {vs : List Value} {R : Value → World → Prop} (hf : ∀ args w, (callFunc f args).run P w = .ok (.enter f args) w) (ha : Has n l a) (hy : ev l y = some (.func (.func f) #[] #[]))
    (hx : xs.map (ev l) = vs.map some) (hc : Calls P f vs.toArray w (Ret R)) : Does P ⟨d, .call { callee := .value y, args := xs.toArray, argTypes := Ts }, ty, pos, af, g⟩ a w R := by
  refine Does.enter (f := f) (args := vs.toArray) ?_ hc
  simp [execOp, resolve, ha.ev hy, Deferred.ofValue, invoke, evs ha xs vs hx, hf]
end
end Go.Sx

namespace Go.Sx
open Go Go.RowKit

/-! ### what is handed in: read out of the row's data -/
/-- Data of this type are cells of this kind, of which R holds. -/
structure Dt {α : Type} (P : Program) (t : TypeId) (kd : Kd α) (R : α → Prop) : Prop where
  sz : P.cellsOf t = kd.sz
  op : ∀ {H : Type} (enc : TypeId × Value → H) (w : World) (sp : Nat → Bool) (fuel : Nat) (cs : List Value) (x : DataW H × List MemPlace), DataW.trod enc P w 0 sp true fuel t cs = some x → (∀ n ∈ DataW.weights P t x.1, n ≤ reachBytes) → ∃ y, kd.K No w.heap y cs ∧ R y
section
variable {P : Program} {t e : TypeId} {α β : Type} {kd : Kd α} {k2 : Kd β} {R : α → Prop} {R2 : β → Prop}
theorem Dt.int {k : IntKind} (hu : P.underlying t = some (.int k)) (hc : P.cellsOf t = 1) : Dt P t (Kd.int k) (fun i => (Lit.int k i).wf = true) :=
  ⟨hc, fun enc w sp fuel cs x h _ => by obtain ⟨n, rfl, _, hw⟩ := DataW.trod_int hu h; exact ⟨n, rfl, hw⟩⟩
theorem Dt.bool (hu : P.underlying t = some .bool) (hc : P.cellsOf t = 1) : Dt P t Kd.bool (fun _ => True) :=
  ⟨hc, fun enc w sp fuel cs x h _ => by obtain ⟨n, rfl, _⟩ := DataW.trod_bool hu h; exact ⟨n, rfl, trivial⟩⟩
theorem Dt.str (hu : P.underlying t = some .string) (hc : P.cellsOf t = 1) : Dt P t Kd.str (fun s => s.size ≤ 140737488351232) :=
  ⟨hc, fun enc w sp fuel cs x h hw => by obtain ⟨n, rfl, rfl, _⟩ := DataW.trod_string hu h; exact ⟨n, rfl, by have := hw n.data.toList.length (by simp [DataW.weights]); rw [Array.length_toList] at this; exact this⟩⟩
theorem cells?_get {w : World} {a : Addr} {n : Nat} {row : List Value} (h : w.cells? 0 a n = some row) : row.length = n ∧ ∀ j v, row[j]? = some v → w.cell? (a.add j) = some v := by
  unfold World.cells? at h
  rw [if_pos (Nat.zero_le _)] at h
  have key : ∀ (l : List Nat) (row : List Value), (l.mapM fun i => w.cell? (a.add i)) = some row → row.length = l.length ∧ ∀ (j : Nat) (v : Value), row[j]? = some v → ∃ i : Nat, l[j]? = some i ∧ w.cell? (a.add i) = some v := by
    intro l
    induction l with
    | nil => intro row h; simp at h; subst h; simp
    | cons i l ih =>
      intro row h
      rw [List.mapM_cons] at h
      cases h1 : w.cell? (a.add i) with
      | none => rw [h1] at h; cases h
      | some u =>
        cases h2 : (l.mapM fun i => w.cell? (a.add i)) with
        | none => rw [h1, h2] at h; cases h
        | some r =>
          rw [h1, h2] at h
          cases h
          obtain ⟨h3, h4⟩ := ih r h2
          refine ⟨by simp [h3], fun j v hv => ?_⟩
          cases j with
          | zero => simp at hv; subst hv; exact ⟨i, rfl, h1⟩
          | succ j => exact h4 j v (by simpa using hv)
  obtain ⟨h1, h2⟩ := key _ _ h
  refine ⟨by simpa using h1, fun j v hv => ?_⟩
  obtain ⟨i, hi, hv'⟩ := h2 j v hv
  rw [List.getElem?_range (by have := (List.getElem?_eq_some_iff.1 hi).1; simpa using this)] at hi
  cases hi
  exact hv'
theorem cell_spot {w : World} {a : Addr} {v : Value} (h : w.cell? a = some v) : a.spot = none ∧ ∃ C T fr, w.heap[a.block]? = some (.cells C T fr) ∧ C[a.off]? = some v := by
  unfold World.cell? at h
  split at h
  · rename_i C T fr hb
    split at h
    · cases h
    · rename_i hs
      exact ⟨by simpa using hs, C, T, fr, hb, h⟩
  · cases h
theorem mem_weightsAll {H : Type} {ds : List (DataW H)} {d : DataW H} (h : d ∈ ds) {n : Nat} (hn : n ∈ DataW.weights P e d) : n ∈ DataW.weightsAll P e ds := by
  induction ds with
  | nil => cases h
  | cons c r ih =>
    simp only [DataW.weightsAll, List.mem_append]
    rcases List.mem_cons.1 h with rfl | h
    · exact .inl hn
    · exact .inr (ih h)
theorem els_of {K : α → List Value → Prop} : ∀ (m : Nat) (f : Nat → List Value), (∀ i, i < m → ∃ y, K y (f i) ∧ R y) → ∃ ys, Els K ys ((List.range m).flatMap f) ∧ ys.length = m ∧ ∀ y ∈ ys, R y := by
  intro m
  induction m with
  | zero => intro f _; exact ⟨[], by simpa using Els.nil, rfl, fun _ h => by cases h⟩
  | succ m ih =>
    intro f h
    obtain ⟨y, hy, hR⟩ := h 0 (by omega)
    obtain ⟨ys, h1, h2, h3⟩ := ih (fun i => f (i + 1)) (fun i hi => h (i + 1) (by omega))
    refine ⟨y :: ys, ?_, by simp [h2], fun z hz => ?_⟩
    · rw [List.range_succ_eq_map, List.flatMap_cons]
      have : (List.map Nat.succ (List.range m)).flatMap f = (List.range m).flatMap (fun i => f (i + 1)) := by rw [List.flatMap_map]
      rw [this]
      exact .cons hy h1
    · rcases List.mem_cons.1 hz with rfl | hz
      · exact hR
      · exact h3 z hz
theorem flatMap_range_get {s : Nat} {f : Nat → List Value} : ∀ (m : Nat), (∀ i, i < m → (f i).length = s) → ∀ j v, ((List.range m).flatMap f)[j]? = some v → ∃ i r, i < m ∧ j = i * s + r ∧ r < s ∧ (f i)[r]? = some v := by
  intro m
  induction m generalizing f with
  | zero => intro _ j v h; simp at h
  | succ m ih =>
    intro hf j v h
    rw [List.range_succ_eq_map, List.flatMap_cons, List.flatMap_map, List.getElem?_append] at h
    have h0 := hf 0 (by omega)
    split at h
    · rename_i hj
      exact ⟨0, j, by omega, by simp, by omega, h⟩
    · rename_i hj
      obtain ⟨i, r, h1, h2, h3, h4⟩ := ih (f := fun i => f (i + 1)) (fun i hi => hf (i + 1) (by omega)) _ v h
      exact ⟨i + 1, r, by omega, by rw [Nat.succ_mul]; omega, h3, h4⟩
theorem Dt.sl (hu : P.underlying t = some (.slice e)) (hc : P.cellsOf t = 1) (d : Dt P e kd R) (hs : 0 < kd.sz) (hby : 0 < P.bytesOf e) : Dt P t (Kd.sl kd) (fun xs => xs.length ≤ 140737488351232 ∧ ∀ x ∈ xs, R x) :=
  ⟨hc, fun enc w sp fuel cs x h hw => by
    rcases DataW.trod_slice hu h with ⟨rfl, _⟩ | ⟨a, len, cap, elems, rest, n, _, rfl, rfl, _, hl, hm, hlen, hel, _, _⟩
    · exact ⟨[], ⟨none, 0, rfl, Raw.nil _ _ _ _ _ (Nat.zero_le _)⟩, by simp, fun _ h => by cases h⟩
    · have hwe : ∀ i (hi : i < elems.length), ∀ n ∈ DataW.weights P e (elems[i]).1, n ≤ reachBytes := fun i hi n hn => hw n (by
        simp only [DataW.weights, hu, List.mem_cons, List.mem_append]
        exact .inr (.inl (mem_weightsAll (List.mem_map.2 ⟨_, List.getElem_mem hi, rfl⟩) hn)))
      have hlb : len ≤ 140737488351232 := by
        have h1 := hw ((elems.length + rest.length) * P.bytesOf e) (by simp [DataW.weights, hu])
        have h2 : elems.length + rest.length ≤ (elems.length + rest.length) * P.bytesOf e := Nat.le_mul_of_pos_right _ hby
        simp only [reachBytes] at h1
        omega
      have hrow : ∀ i, i < len → ∃ row, w.cells? 0 (a.add (i * kd.sz)) kd.sz = some row ∧ ∃ y, kd.K No w.heap y row ∧ R y := by
        intro i hi
        have h1 := hel i hi
        rw [List.getElem?_eq_getElem (by omega), d.sz] at h1
        cases h2 : w.cells? 0 (a.add (i * kd.sz)) kd.sz with
        | none => rw [h2] at h1; cases h1
        | some row => rw [h2] at h1; exact ⟨row, rfl, d.op _ _ _ _ _ _ h1 (hwe i (by omega))⟩
      obtain ⟨ys, h1, h2, h3⟩ := els_of (R := R) (K := kd.K No w.heap) len (fun i => (w.cells? 0 (a.add (i * kd.sz)) kd.sz).getD []) (fun i hi => by
        obtain ⟨row, hr, y, hy⟩ := hrow i hi
        rw [hr]; exact ⟨y, hy⟩)
      refine ⟨ys, ⟨some a, cap, by rw [h2], by omega, hm, _, h1, fun hne => ?_⟩, by rw [h2]; exact hlb, h3⟩
      have hpos : 0 < len := by
        rcases Nat.eq_zero_or_pos len with h | h
        · rw [h] at h2; exact absurd (List.eq_nil_of_length_eq_zero h2) hne
        · exact h
      have hsa : a.spot = none := by
        obtain ⟨row0, hr0, _⟩ := hrow 0 hpos
        obtain ⟨h5, h6⟩ := cells?_get hr0
        have h7 := h6 0 row0[0] (List.getElem?_eq_getElem (by omega))
        have h8 : (a.add (0 * kd.sz)).add 0 = a := by simp [Addr.add]
        rw [h8] at h7
        exact (cell_spot h7).1
      obtain ⟨b, o, s⟩ := a
      simp only at hsa
      subst hsa
      have hcell : ∀ j v, ((List.range len).flatMap fun i => (w.cells? 0 ((⟨b, o, none⟩ : Addr).add (i * kd.sz)) kd.sz).getD [])[j]? = some v → w.cell? ⟨b, o + j, none⟩ = some v := by
        intro j v hv
        obtain ⟨i, r, hi, hj, hr, hv'⟩ := flatMap_range_get (s := kd.sz) len (fun i hi => by
          obtain ⟨row, hr, _⟩ := hrow i hi
          rw [hr]; exact (cells?_get hr).1) j v hv
        obtain ⟨row, hrw, _⟩ := hrow i hi
        rw [hrw] at hv'
        have h4 := (cells?_get hrw).2 r v (by simpa using hv')
        rw [add_at, add_at] at h4
        rw [hj, ← Nat.add_assoc]
        exact h4
      have h0 : ∃ v, ((List.range len).flatMap fun i => (w.cells? 0 ((⟨b, o, none⟩ : Addr).add (i * kd.sz)) kd.sz).getD [])[0]? = some v := by
        have hl1 := h1.length (fun _ _ h => kd.len h)
        have : 0 < ((List.range len).flatMap fun i => (w.cells? 0 ((⟨b, o, none⟩ : Addr).add (i * kd.sz)) kd.sz).getD []).length := by rw [hl1, h2]; exact Nat.mul_pos hpos hs
        exact ⟨_, List.getElem?_eq_getElem this⟩
      obtain ⟨v0, hv0⟩ := h0
      obtain ⟨_, C, T, fr, hb, _⟩ := cell_spot (hcell 0 v0 hv0)
      refine ⟨b, o, C, T, fr, rfl, id, hb, fun j v hv => ?_⟩
      have h6 := hcell j v hv
      obtain ⟨_, C', T', fr', hb2, hc2⟩ := cell_spot h6
      simp only at hb hb2 hc2
      rw [hb] at hb2
      cases hb2
      exact hc2⟩
/-- the fields from the o-th cell on -/
structure DtF (P : Program) {α : Type} (fs : List Field) (o : Nat) (kd : Kd α) (R : α → Prop) : Prop where
  op : ∀ {H : Type} (enc : TypeId × Value → H) (w : World) (sp : Nat → Bool) (n : Nat) (cs : List Value), cs.length = o + kd.sz → (∀ f ∈ fs, ∃ x, DataW.trod enc P w 0 sp true n f.type ((cs.drop f.offset).take (P.cellsOf f.type)) = some x ∧ ∀ n ∈ DataW.weights P f.type x.1, n ≤ reachBytes) → ∃ y, kd.K No w.heap y (cs.drop o) ∧ R y
theorem DtF.one {f : Field} {o : Nat} (ho : f.offset = o) (d : Dt P f.type kd R) : DtF P [f] o kd R := ⟨fun enc w sp n cs hl h => by
  obtain ⟨x, hx, hw⟩ := h f (by simp)
  rw [ho, d.sz, List.take_of_length_le (by rw [List.length_drop]; omega)] at hx
  exact d.op _ _ _ _ _ _ hx hw⟩
theorem DtF.cons {f : Field} {fs : List Field} {o : Nat} (ho : f.offset = o) (d : Dt P f.type kd R) (r : DtF P fs (o + kd.sz) k2 R2) : DtF P (f :: fs) o (Kd.pair kd k2) (fun x => R x.1 ∧ R2 x.2) := ⟨fun enc w sp n cs hl h => by
  obtain ⟨x, hx, hw⟩ := h f (by simp)
  rw [ho, d.sz] at hx
  obtain ⟨y1, h1, h2⟩ := d.op _ _ _ _ _ _ hx hw
  obtain ⟨y2, h3, h4⟩ := r.op enc w sp n cs (by rw [hl]; show _ = o + kd.sz + k2.sz; show o + (kd.sz + k2.sz) = _; omega) (fun g hg => h g (by simp [hg]))
  refine ⟨(y1, y2), ⟨_, _, ?_, h1, h3⟩, h2, h4⟩
  rw [← List.drop_drop, List.take_append_drop]⟩
theorem Dt.struct {fs : Array Field} (hu : P.underlying t = some (.struct fs)) (hc : P.cellsOf t = kd.sz) (d : DtF P fs.toList 0 kd R) : Dt P t kd R :=
  ⟨hc, fun enc w sp fuel cs x h hw => by
    obtain ⟨xs, n, _, rfl, hl, hx, hf⟩ := DataW.trod_struct hu h
    have := d.op enc w sp n cs (by rw [hl, hc, Nat.zero_add]) (fun f hf' => by
      obtain ⟨i, hi, he⟩ := List.getElem_of_mem hf'
      have h1 := hf i f (by rw [← Array.getElem?_toList, List.getElem?_eq_getElem hi, he])
      have hi2 : i < xs.length := by rw [hx]; simpa using hi
      rw [List.getElem?_eq_getElem hi2] at h1
      refine ⟨_, h1, fun n hn => hw n ?_⟩
      simp only [DataW.weights, hu]
      exact DataW.weights_mem_each (ts := fs.toList.map (·.type)) (j := i) (t := f.type) (d := (xs[i]).1) (by rw [List.getElem?_map, List.getElem?_eq_getElem hi, he]; rfl) (by rw [List.getElem?_map, List.getElem?_eq_getElem hi2]; rfl) n hn)
    simpa using this⟩
theorem Dt.arr {m : Nat} (hu : P.underlying t = some (.array m e)) (hc : P.cellsOf t = m * kd.sz) (d : Dt P e kd R) : Dt P t (Kd.arr m kd) (fun xs => ∀ x ∈ xs, R x) :=
  ⟨hc, fun enc w sp fuel cs x h hw => by
    obtain ⟨xs, n, _, rfl, hl, hx, hf⟩ := DataW.trod_array hu h
    obtain ⟨ys, h1, h2, h3⟩ := els_of (R := R) (K := kd.K No w.heap) m (fun i => (cs.drop (i * kd.sz)).take kd.sz) (fun i hi => by
      have h1 := hf i hi
      rw [List.getElem?_eq_getElem (by rw [hx]; exact hi), d.sz] at h1
      exact d.op _ _ _ _ _ _ h1 (fun n hn => hw n (by
        simp only [DataW.weights, hu]
        exact mem_weightsAll (List.mem_map.2 ⟨_, List.getElem_mem _, rfl⟩) hn)))
    refine ⟨ys, ⟨h2, ?_⟩, h3⟩
    have he : (List.range m).flatMap (fun i => (cs.drop (i * kd.sz)).take kd.sz) = cs := by
      have key : ∀ (m : Nat) (cs : List Value), cs.length = m * kd.sz → (List.range m).flatMap (fun i => (cs.drop (i * kd.sz)).take kd.sz) = cs := by
        intro m
        induction m with
        | zero => intro cs h; simp at h; subst h; rfl
        | succ m ih =>
          intro cs h
          rw [List.range_succ_eq_map, List.flatMap_cons, List.flatMap_map]
          have h2 := ih (cs.drop kd.sz) (by rw [List.length_drop, h, Nat.succ_mul]; omega)
          simp only [List.drop_drop] at h2
          have h3 : (fun i => (cs.drop (i.succ * kd.sz)).take kd.sz) = fun i => (cs.drop (kd.sz + i * kd.sz)).take kd.sz := by
            funext i; rw [Nat.succ_mul, Nat.add_comm]
          rw [h3, h2]
          simp
      exact key m cs (by rw [hl, hc])
    rw [he] at h1
    exact h1⟩
theorem sized_arg {H : Type} {ts : List TypeId} {ds : List (DataW H)} (h : (DataW.weightsEach P ts ds).all (· ≤ reachBytes) = true) {j : Nat} {t : TypeId} {d : DataW H} (ht : ts[j]? = some t) (hd : ds[j]? = some d) : ∀ n ∈ DataW.weights P t d, n ≤ reachBytes := fun n hn => by
  have := List.all_eq_true.1 h n (DataW.weights_mem_each ht hd n hn)
  simpa using this
theorem raw_arg {h : Array Obj} {a : Option Addr} {c : Nat} {xs : List α} (r : Raw No kd h a c xs) : Raw (Av [] No) kd h a c xs := r.mono (fun k _ hk => by
  rcases hk with hk | ⟨_, hk, _⟩
  · exact hk
  · cases hk)
theorem Ex.bel {w w' : World} (h : Ex w (Av [] No) [] w') : Below w.heap.size w w' := (h.fr.mono (S' := No) (fun k _ hk => by
  rcases hk with hk | ⟨_, hk, _⟩
  · exact hk
  · cases hk)).below
end
end Go.Sx

namespace Go.Sx
open Go Go.RowKit

/-! ### structs held against each other -/
structure EqV (P : Program) (d : Nat) (t : TypeId) (x y : Value) (q : Prop) : Prop where
  run : ∀ w, ∃ r : Bool, (Op.equalIn d t x y).run P w = .ok r w ∧ (r = true ↔ q)
structure EqF (P : Program) (d : Nat) (xs ys : Array Value) (fs : List Field) (q : Prop) : Prop where
  run : ∀ w, ∃ r : Bool, (Op.eqFields d xs ys fs).run P w = .ok r w ∧ (r = true ↔ q)
def Pt (P : Program) (t : TypeId) (cs : Array Value) (off : Nat) (v : Value) : Prop := ∀ w, (part t cs off).run P w = .ok v w
section
variable {P : Program} {d : Nat} {t : TypeId} {x y : Value} {p q : Prop} {xs ys : Array Value} {f : Field} {fs : List Field}
theorem EqV.int {k k' : IntKind} {a b : Int} (hu : P.underlying t = some (.int k')) : EqV P (d + 1) t (.int k a) (.int k b) (a = b) := ⟨fun w => ⟨a == b, run_equalIn_int w d t k k' a b hu, by simp⟩⟩
theorem EqV.bool {a b : Bool} (hu : P.underlying t = some .bool) : EqV P (d + 1) t (.bool a) (.bool b) (a = b) := ⟨fun w => ⟨a == b, run_equalIn_bool' w d t a b hu, by simp⟩⟩
theorem EqV.str {a b : ByteArray} (hu : P.underlying t = some .string) : EqV P (d + 1) t (.string a) (.string b) (a = b) := ⟨fun w => by
  refine ⟨decide (a = b), ?_, by simp⟩
  rw [run_equalIn_string w d t a b hu]
  simp [toList_eq_iff]⟩
theorem Pt.cell {cs : Array Value} {off : Nat} {v : Value} (hg : ∀ w, (isAgg t).run P w = .ok false w) (hv : cs[off]? = some v) : Pt P t cs off v := fun w => by simp [part, hg, hv]
theorem Pt.agg {cs : Array Value} {off s : Nat} {l : Array Value} (hg : ∀ w, (isAgg t).run P w = .ok true w) (hs : ∀ w, (sizeOf t).run P w = .ok s w) (hl : cs.extract off (off + s) = l) : Pt P t cs off (.agg l) := fun w => by simp [part, hg, hs, hl]
theorem EqF.cons (hn : f.name ≠ "_") (hx : Pt P f.type xs f.offset x) (hy : Pt P f.type ys f.offset y) (h : EqV P d f.type x y p) (r : EqF P d xs ys fs q) : EqF P d xs ys (f :: fs) (p ∧ q) := ⟨fun w => by
  obtain ⟨r1, h1, h2⟩ := h.run w
  obtain ⟨r2, h3, h4⟩ := r.run w
  cases r1 with
  | false => exact ⟨false, by simp [Op.eqFields, hn, hx w, hy w, h1], by simp [← h2]⟩
  | true => exact ⟨r2, by simp [Op.eqFields, hn, hx w, hy w, h1, h3], by simp [h4, ← h2]⟩⟩
theorem EqF.one (hn : f.name ≠ "_") (hx : Pt P f.type xs f.offset x) (hy : Pt P f.type ys f.offset y) (h : EqV P d f.type x y p) : EqF P d xs ys [f] p := ⟨fun w => by
  obtain ⟨r1, h1, h2⟩ := h.run w
  cases r1 with
  | false => exact ⟨false, by simp [Op.eqFields, hn, hx w, hy w, h1], by simp [← h2]⟩
  | true => exact ⟨true, by simp [Op.eqFields, hn, hx w, hy w, h1], by simp [← h2]⟩⟩
theorem EqV.struct {fs : Array Field} (hu : P.underlying t = some (.struct fs)) (hp : P.stoodInHeld t = false) (h : EqF P d xs ys fs.toList q) : EqV P (d + 1) t (.agg xs) (.agg ys) q := ⟨fun w => by
  have hf : P.fieldsOf t = fs := by simp [Program.fieldsOf, hu]
  rw [run_equalIn_struct w d t xs ys (by rw [hf]; exact hu) hp, hf]
  exact h.run w⟩
end
section
variable {P : Program} {a : Act} {w : World} {n : Nat} {l : List (Nat × Value)}
variable {d : Option Nat} {ty T T' : TypeId} {pos : String} {af : Array Edge} {g : Option (Nat × Bool)} {x y : Operand} {xs ys : Array Value} {q : Prop}
theorem guard_agg {op : BinOp} (hg : P.eqGuardType P.depth T = false) (w : World) : (eqGuard op T x y (.agg xs) (.agg ys)).run P w = .ok () w := by
  cases op <;> simp [eqGuard, hg]
theorem d_eqAg [Decidable q] (ha : Has n l a) (hx : ev l x = some (.agg xs)) (hy : ev l y = some (.agg ys)) (hg : P.eqGuardType P.depth T = false) (h : EqV P 10000 T (.agg xs) (.agg ys) q) : Does P ⟨d, .binOp .eql T x y T', ty, pos, af, g⟩ a w (Is (.bool (decide q)) w) :=
  d_bin ha hx hy (guard_agg hg) (by
    obtain ⟨r, h1, h2⟩ := h.run w
    have h3 : r = decide q := Bool.eq_iff_iff.2 (h2.trans decide_eq_true_iff.symm)
    simp only [binOp, Op.equal, Op.maxDepth, Sem.run_bind, Sem.run_pure, h1, Result.andThen_ok, h3])
theorem d_neAg [Decidable q] (ha : Has n l a) (hx : ev l x = some (.agg xs)) (hy : ev l y = some (.agg ys)) (hg : P.eqGuardType P.depth T = false) (h : EqV P 10000 T (.agg xs) (.agg ys) q) : Does P ⟨d, .binOp .neq T x y T', ty, pos, af, g⟩ a w (Is (.bool (!decide q)) w) :=
  d_bin ha hx hy (guard_agg hg) (by
    obtain ⟨r, h1, h2⟩ := h.run w
    have h3 : r = decide q := Bool.eq_iff_iff.2 (h2.trans decide_eq_true_iff.symm)
    simp only [binOp, Op.equal, Op.maxDepth, Sem.run_bind, Sem.run_pure, h1, Result.andThen_ok, h3])
end
section
variable {P : Program} {a : Act} {w : World} {Q : Exit → Act → World → Prop}
/-- A scope with one label, to which the run jumps back: what holds there, round by round. -/
theorem wscopeJ {c y : Code} (l : Nat) (J : Nat → Act → World → Prop) (k : Nat) (hf : findLabel c l = some (.seq .skip y))
    (hy : ∀ k a w, J k a w → ∀ K : Act → World → Prop, (∀ k' a w, k' < k → J k' a w → K a w) → y.wp P (Exit.jump l K Q) a w)
    (first : ∀ Q' : Exit → Act → World → Prop, (∀ a w, J k a w → y.wp P Q' a w) → c.wp P Q' a w) : (Code.scope c).wp P Q a w := by
  intro b ks cs
  have hg : gotoIn l (.inScope c :: ks) = some (.code (.seq .skip y) :: .inScope c :: ks) := by simp [gotoIn, hf]
  have pass : ∀ k a w, J k a w → (Code.seq .skip y).wp P (Exit.jump l (fun a' w' => ∃ k', k' < k ∧ J k' a' w') Q) a w := fun k a w h =>
    wp_seq (wp_skip (hy k a w h (fun a' w' => ∃ k', k' < k ∧ J k' a' w') (fun k' a w hk hJ => ⟨k', hk, hJ⟩)))
  have key : ∀ n a w, J n a w → ∃ e a' w', Q e a' w' ∧ Arrives P (lone (b.at a (.code (.seq .skip y) :: .inScope c :: ks)) cs w) b ks cs e a' w' := by
    intro n
    induction n using Nat.strongRecOn with
    | _ n ih =>
      intro a w hJ
      obtain ⟨e, a₁, w₁, hq, harr⟩ := pass n a w hJ b (.inScope c :: ks) cs
      cases e with
      | normal => exact ⟨.normal, a₁, w₁, hq, Steps.trans harr (.one step_inScope)⟩
      | exit id => exact ⟨.exit id, a₁, w₁, hq, fun k' hk => harr k' (by simp [exitTo, hk])⟩
      | goto l' =>
        obtain ⟨rfl, k', hlt, hJ'⟩ := hq
        obtain ⟨e₂, a₂, w₂, hq₂, harr₂⟩ := ih k' hlt a₁ w₁ hJ'
        exact ⟨e₂, a₂, w₂, hq₂, .of_steps (harr _ hg) harr₂⟩
      | ret => exact ⟨_, a₁, w₁, hq, harr⟩
      | panic ch => exact ⟨_, a₁, w₁, hq, harr⟩
      | outgrown => exact ⟨_, a₁, w₁, hq, harr⟩
  obtain ⟨e, a₁, w₁, hq, harr⟩ := first (Exit.jump l (fun a' w' => ∃ k', J k' a' w') Q) (fun a w hJ => hy k a w hJ _ (fun k' a w _ hJ => ⟨k', hJ⟩)) b (.inScope c :: ks) cs
  cases e with
  | normal => exact ⟨.normal, a₁, w₁, hq, .head step_scope (Steps.trans harr (.one step_inScope))⟩
  | exit id => exact ⟨.exit id, a₁, w₁, hq, fun k' hk => .head step_scope (harr k' (by simp [exitTo, hk]))⟩
  | goto l' =>
    obtain ⟨rfl, k', hJ'⟩ := hq
    obtain ⟨e₂, a₂, w₂, hq₂, harr₂⟩ := key k' a₁ w₁ hJ'
    exact ⟨e₂, a₂, w₂, hq₂, .of_steps (.head step_scope (harr _ hg)) harr₂⟩
  | ret => exact ⟨_, a₁, w₁, hq, .of_steps (.one step_scope) harr⟩
  | panic ch => exact ⟨_, a₁, w₁, hq, .of_steps (.one step_scope) harr⟩
  | outgrown => exact ⟨_, a₁, w₁, hq, .of_steps (.one step_scope) harr⟩
end
/-! ### a string's constant as bytes: the row that was laid is told as read from here on -/
section
variable {P : Program} {a : Act} {w : World} {n : Nat} {l : List (Nat × Value)}
variable {d : Option Nat} {ty T T' : TypeId} {pos : String} {af : Array Edge} {g : Option (Nat × Bool)} {x : Operand}
variable {α : Type} {A B W : Nat → Prop} {kd : Kd α} {p : Option Addr} {c : Nat} {xs : List α} {w0 : World} {as as00 : List (Option Addr)}
theorem d_cvtMark {e : TypeId} (ha : Has n l a) (hT : P.underlying T = some (.slice e)) (he : P.underlying e = some (.int .u8)) (hx : ev l x = some (.slice p xs.length c)) (ho : Ow A w e kd p c xs) (hf : kd.Flat) (hn : 0 < xs.length)
    (hA : ∀ q, p = some q → ¬ B q.block) :
    Does P ⟨d, .convert T T x, ty, pos, af, g⟩ a w (fun v w' => v = .slice p xs.length c ∧ Fr w w' (fun k => ∃ s, p = some s ∧ s.block = k) ∧ Raw B kd w'.heap p c xs) := by
  obtain ⟨cells, h1, h2⟩ := ho
  have hcl := h1.1
  rcases own_none h1 with ⟨rfl, h, _⟩ | ⟨b, cur, rfl, hg, h3, h4, h5, h6⟩
  · omega
  · refine (Does.val (v := .slice (some ⟨b, 0, none⟩) xs.length c) (w' := w.freeze ⟨b, cur.size, none⟩ 1) ?_).mono ?_
    · have : (convert T T (.slice (some ⟨b, 0, none⟩) xs.length c)).run P w = .ok (.slice (some ⟨b, 0, none⟩) xs.length c) (w.freeze ⟨b, cur.size, none⟩ 1) := by
        simp [convert, run_underlying hT, run_underlying he, markStringish, World.shape?, hg]
      simp [execOp, ha.ev hx, this]
    · rintro v w' ⟨rfl, rfl⟩
      have hb : (w.freeze ⟨b, cur.size, none⟩ 1).heap[b]? = some (.cells cur e (cur.size, cur.size + 1)) := by
        simp [World.freeze, Array.getElem?_modify, hg]
      refine ⟨rfl, ⟨rfl, rfl, rfl, by simp [World.freeze], fun k _ hk => ?_⟩, h3, h4, cells, h2.imp (fun _ _ hx => hf.eq hx), fun _ => ⟨b, 0, cur, e, _, rfl, hA _ rfl, hb, fun j v hv => ?_⟩⟩
      · have hne : ¬ b = k := fun e => hk ⟨_, rfl, e⟩
        simp [World.freeze, Array.getElem?_modify, hne]
      · rw [← h6, List.getElem?_take] at hv
        split at hv
        · simpa using hv
        · cases hv
theorem Ex.offW {u : Option Addr} (h : Ex w0 (Av as00 No) as w) (hW : ∀ k, W k → k < w0.heap.size) (hW0 : ∀ p, some p ∈ as00 → ¬ W p.block) (m : Nat) (hm : as[m]? = some u) : ∀ q, u = some q → ¬ Av (as.eraseIdx m) W q.block := fun q hq hk => by
  rcases hk with hk | ⟨s, hs, hb⟩
  · exact h.wfree hW hW0 q (mem_at hm hq) hk
  · obtain ⟨i, hi, he⟩ := List.mem_eraseIdx_iff_getElem?.1 hs
    exact h.off i m he hm hi q hq ⟨s, rfl, hb⟩
/-! ### a piece of one's own, read for a while -/
theorem Raw.reA {q : Option Addr} {c' : Nat} (r : Raw A kd w.heap q c' xs) (f : kd.Flat) (h : ∀ s, q = some s → ¬ B s.block) : Raw B kd w.heap q c' xs := by
  obtain ⟨h1, h2, cells, he, hm⟩ := r
  refine ⟨h1, h2, cells, he.imp (fun _ _ hx => f.eq hx), fun hne => ?_⟩
  obtain ⟨b, o, C, T, fr, ha, _, hb, hc⟩ := hm hne
  exact ⟨b, o, C, T, fr, ha, h _ ha, hb, hc⟩
/-- .. handed to a call -/
theorem Raw.argP {as0 rr ro : List (Option Addr)} {q : Option Addr} {c' : Nat} {ys : List α} (r : Raw A kd w.heap q c' ys) (f : kd.Flat) (hq : In p q) (hE : Ex w0 (Av as00 No) (as0 ++ (rr ++ ro)) w) (hW : ∀ k, W k → k < w0.heap.size) (hW0 : ∀ p, some p ∈ as00 → ¬ W p.block) (hp : p ∈ rr) : Raw (Av as0 (Av ro W)) kd w.heap q c' ys :=
  r.reA f (fun s hs hk => by
    obtain ⟨t, ht, e⟩ := hq s hs
    rw [← e] at hk
    rcases hk with (hk | ⟨s, hs, hb⟩) | ⟨s, hs, hb⟩
    · exact hE.wfree hW hW0 t (by rw [← ht]; simp [hp]) hk
    · exact (List.pairwise_append.1 (List.pairwise_append.1 hE.dis).2.1).2.2 p hp (some s) hs t s ht rfl hb.symm
    · exact (List.pairwise_append.1 hE.dis).2.2 (some s) hs p (by simp [hp]) s t rfl ht hb)
end
section
variable {P : Program} {a : Act} {w : World} {n : Nat} {l : List (Nat × Value)}
variable {d : Option Nat} {ty T T' : TypeId} {pos : String} {af : Array Edge} {g : Option (Nat × Bool)} {x y : Operand}
theorem d_slnil_eq {p : Option Addr} {m c : Nat} {e : TypeId} (ha : Has n l a) (hT : P.underlying T = some (.slice e)) (hx : ev l x = some (.slice p m c)) (hy : ev l y = some (.slice none 0 0)) : Does P ⟨d, .binOp .eql T x y T', ty, pos, af, g⟩ a w (Is (.bool p.isNone) w) :=
  d_bin ha hx hy guard_slice (by
    have h := run_equalIn_slice_nil (P := P) w 9999 T e p m c hT
    simp only [binOp, Op.equal, Op.maxDepth, Sem.run_bind, Sem.run_pure, h, Result.andThen_ok])
theorem d_slnil_ne {p : Option Addr} {m c : Nat} {e : TypeId} (ha : Has n l a) (hT : P.underlying T = some (.slice e)) (hx : ev l x = some (.slice p m c)) (hy : ev l y = some (.slice none 0 0)) : Does P ⟨d, .binOp .neq T x y T', ty, pos, af, g⟩ a w (Is (.bool (!p.isNone)) w) :=
  d_bin ha hx hy guard_slice (by
    have h := run_equalIn_slice_nil (P := P) w 9999 T e p m c hT
    simp only [binOp, Op.equal, Op.maxDepth, Sem.run_bind, Sem.run_pure, h, Result.andThen_ok])
theorem Raw.nilOf {α : Type} {A : Nat → Prop} {kd : Kd α} {h : Array Obj} {c : Nat} {xs : List α} (r : Raw A kd h none c xs) : xs = [] := by
  obtain ⟨_, _, cells, _, hm⟩ := r
  by_cases hx : xs = []
  · exact hx
  · obtain ⟨b, o, C, T, fr, h, _⟩ := hm hx
    cases h
end
section
variable {B : Nat → Prop} {w w' : World} {as as' : List (Option Addr)} {b o : Nat} {cs : List Value}
theorem Nb.step (h : Nb (Av as B) w b) (hs : Step as as' w w') : Nb (Av as' B) w' b := ⟨fun hv => h.1 (hs.key B b h.2 hv), Nat.lt_of_lt_of_le h.2 hs.size⟩
theorem At.step (h : At w b o cs) (hn : Nb (Av as B) w b) (hs : Step as as' w w') : At w' b o cs := fun j v hv => by
  have h1 := h j v hv
  have h2 := hs.blk b hn.2 (fun p hp e => hn.1 (.inr ⟨p, hp, e⟩))
  simp only [World.cell?] at h1 ⊢
  rw [h2]
  exact h1
end
end Go.Sx

namespace Go.Sx
open Go
/-- items of two arrays, from a list of places -/
structure EqI (P : Program) (d : Nat) (e : TypeId) (c : Nat) (xs ys : Array Value) (is : List Nat) (q : Prop) : Prop where
  run : ∀ w, ∃ r : Bool, (Op.eqItems d e c xs ys is).run P w = .ok r w ∧ (r = true ↔ q)
section
variable {P : Program} {d : Nat} {t e : TypeId} {x y : Value} {p q : Prop} {xs ys : Array Value} {c : Nat} {is : List Nat}
theorem EqI.nil : EqI P d e c xs ys [] True := ⟨fun w => ⟨true, by simp [Op.eqItems], by simp⟩⟩
theorem EqI.cons {i : Nat} (hx : Pt P e xs (i * c) x) (hy : Pt P e ys (i * c) y) (h : EqV P d e x y p) (r : EqI P d e c xs ys is q) : EqI P d e c xs ys (i :: is) (p ∧ q) := ⟨fun w => by
  obtain ⟨r1, h1, h2⟩ := h.run w
  obtain ⟨r2, h3, h4⟩ := r.run w
  cases r1 with
  | false => exact ⟨false, by simp [Op.eqItems, hx w, hy w, h1], by simp [← h2]⟩
  | true => exact ⟨r2, by simp [Op.eqItems, hx w, hy w, h1, h3], by simp [h4, ← h2]⟩⟩
theorem EqV.arr {n : Nat} {i : TypeInfo} (hu : P.underlying t = some (.array n e)) (hi : P.info? e = some i) (h : EqI P d e (P.cellsOf e) xs ys (List.range n) q) : EqV P (d + 1) t (.agg xs) (.agg ys) q := ⟨fun w => by
  rw [run_equalIn_array w d xs ys hu hi]
  exact h.run w⟩
end
end Go.Sx

namespace Go.Sx
open Go Go.RowKit

/-! ### strings.Builder -/
/-- A builder of the call's own that holds these bytes. -/
def Bd (T e : TypeId) (B b : Nat) (xs : List Int) (w : World) : Prop := Lib.IsBuilder T e B b (xs.map (Value.int .u8)) w ∧ ∀ x ∈ xs, 0 ≤ x ∧ x < 256
section
variable {P : Program} {T e : TypeId} {B b : Nat} {xs : List Int} {w w' : World}
theorem Bd.new (h : Bx w b T [.pointer none, .slice none 0 0]) (hB : B ≤ b) (e : TypeId) : Bd T e B b [] w :=
  ⟨.inl ⟨hB, .slice none 0 0, h, World.ownsRow_nil w B e 1, by simp [Value.ownBlock]⟩, fun _ h => by cases h⟩
theorem bd_write {f : FuncId} {c : Int} (hc : ∀ (B b : Nat) (bs : List Value) (c : Int) (w : World), Lib.IsBuilder T e B b bs w → bs.length + 1 ≤ 140737488355328 → B ≤ w.heap.size → Calls P f #[.pointer (some ⟨b, 0, none⟩), .int .u8 c] w fun e' w' => e' = .returned .nilIface ∧ (Lib.BuilderAt T e B b (.pointer (some ⟨b, 0, none⟩)) (bs ++ [.int .u8 c]) w' ∧ Below B w w'))
    (h : Bd T e B b xs w) (h0 : 0 ≤ c ∧ c < 256) (hl : xs.length + 1 ≤ 140737488355328) (hB : B ≤ w.heap.size) :
    Calls P f [.pointer (some ⟨b, 0, none⟩), .int .u8 c].toArray w (Ret fun v w' => v = .nilIface ∧ Bd T e B b (xs ++ [c]) w' ∧ Below B w w') := by
  refine (hc B b _ c w h.1 (by simpa using hl) hB).mono ?_
  rintro e' w' ⟨rfl, h1, h2⟩
  refine ⟨rfl, ⟨.inr (by simpa using h1), fun x hx => ?_⟩, h2⟩
  rcases List.mem_append.1 hx with hx | hx
  · exact h.2 x hx
  · simp at hx; rw [hx]; exact h0
theorem bytes_back (h : ∀ x ∈ xs, 0 ≤ x ∧ x < 256) : xs.map (Value.int .u8) = Lib.byteCells (xs.map fun x => x.toNat.toUInt8) := by
  unfold Lib.byteCells
  rw [List.map_map]
  refine List.map_congr_left (fun x hx => ?_)
  have := h x hx
  simp only [Function.comp]
  congr 1
  have h2 : x.toNat < 256 := by omega
  simp [Nat.mod_eq_of_lt h2]
  omega
theorem bd_string {f : FuncId} (hc : ∀ (B b : Nat) (l : List UInt8) (w : World), Lib.IsBuilder T e B b (Lib.byteCells l) w → B ≤ w.heap.size → Calls P f #[.pointer (some ⟨b, 0, none⟩)] w fun e w' => e = .returned (.string ⟨l.toArray⟩) ∧ Below B w w')
    (h : Bd T e B b xs w) (hB : B ≤ w.heap.size) :
    Calls P f [.pointer (some ⟨b, 0, none⟩)].toArray w (Ret fun v w' => v = .string (strOf xs) ∧ Below B w w') := by
  refine (hc B b (xs.map fun x => x.toNat.toUInt8) w (by rw [← bytes_back h.2]; exact h.1) hB).mono ?_
  rintro e' w' ⟨rfl, h2⟩
  exact ⟨rfl, h2⟩
theorem Ex.below {S0 : Nat → Prop} {w0 : World} (h : Ex w0 S0 [] w) (hb : Below w0.heap.size w w') : Ex w0 S0 [] w' :=
  ⟨⟨hb.os.trans h.fr.os, hb.tape.trans h.fr.tape, hb.output.trans h.fr.output, Nat.le_trans h.fr.size hb.size, fun k hk hn => (hb.block k hk).trans (h.fr.blk k hk hn)⟩, .nil, (fun _ h => by cases h), (fun _ h => by cases h)⟩
/-- What was there when the call began is as it was. -/
theorem Raw.again {α : Type} {kd : Kd α} {A : Nat → Prop} {p : Option Addr} {c : Nat} {xs : List α} {w0 : World} (r : Raw A kd w0.heap p c xs) (h : Ex w0 (Av [] No) [] w) : Raw A kd w.heap p c xs :=
  r.step h.fr.size (fun k hk _ => h.fr.blk k hk (fun hv => by rcases hv with hv | ⟨_, hv, _⟩; exact hv; cases hv))
end
section
variable {P : Program} {a : Act} {w : World} {n : Nat} {l : List (Nat × Value)}
variable {d : Option Nat} {ty T T' : TypeId} {pos : String} {af : Array Edge} {g : Option (Nat × Bool)} {x y : Operand}
theorem d_ptrneSelf {q : Addr} {e : TypeId} (ha : Has n l a) (hT : P.underlying T = some (.pointer e)) (hi : (P.info? e).isSome = true) (hx : ev l x = some (.pointer (some q))) (hy : ev l y = some (.pointer (some q))) : Does P ⟨d, .binOp .neq T x y T', ty, pos, af, g⟩ a w (Is (.bool false) w) :=
  d_bin ha hx hy guard_ptr (by obtain ⟨j, hj⟩ := Option.isSome_iff_exists.1 hi; exact Lib.run_neq_ptr_same w q hT hj)
theorem d_toUnsafe {src dst t TB : TypeId} {s : Nat} {b : Nat} {cs : List Value} (ha : Has n l a) (hs : P.underlying src = some (.pointer t)) (hd : P.underlying dst = some .unsafePointer) (ht : (P.info? t).map (·.size) = some s) (hj : s ≠ 0) (hx : ev l x = some (.pointer (some ⟨b, 0, none⟩))) (hb : Bx w b TB cs) (hc : 0 < cs.length) :
    Does P ⟨d, .convert src dst x, ty, pos, af, g⟩ a w (Is (.pointer (some ⟨b, 0, none⟩)) w) := by
  obtain ⟨j, hj2, rfl⟩ := Option.map_eq_some_iff.1 ht
  exact Does.val (by simp [execOp, ha.ev hx, Lib.run_to_unsafe w ⟨b, 0, none⟩ hs hd hj2 hj (e := TB) (cells := cs.length) (by unfold Bx at hb; simp [World.shape?, hb]) hc])
theorem d_fromUnsafe {src dst u TB : TypeId} {b : Nat} {cs : List Value} (ha : Has n l a) (hs : P.underlying src = some .unsafePointer) (hd : P.underlying dst = some (.pointer u)) (hu : (P.info? u).isSome = true) (hx : ev l x = some (.pointer (some ⟨b, 0, none⟩))) (hb : Bx w b TB cs) (hl : liesAt P P.depth TB (cs.length / P.cellsOf TB) 0 u 1 = true) :
    Does P ⟨d, .convert src dst x, ty, pos, af, g⟩ a w (Is (.pointer (some ⟨b, 0, none⟩)) w) := by
  obtain ⟨j, hu⟩ := Option.isSome_iff_exists.1 hu
  exact Does.val (by simp [execOp, ha.ev hx, Lib.run_from_unsafe w ⟨b, 0, none⟩ hs hd hu (e := TB) (cells := cs.length) (by unfold Bx at hb; simp [World.shape?, hb]) hl])
theorem d_noEscape {f : FuncId} {fn : Func} {v : Value} {Ts : Array TypeId} (hf : P.funcs[f]? = some fn) (hname : (fn.name == "runtime.NumGoroutine") = false) (hb : fn.body.isNone = true) (hn : Extern.findNext fn = none) (he : Extern.find fn = some Extern.AbiNoEscape.same) (ha : Has n l a) (hx : ev l x = some v) :
    Does P ⟨d, .call { callee := .value (.func f), args := [x].toArray, argTypes := Ts }, ty, pos, af, g⟩ a w (Is v w) :=
  Does.val (by simp [execOp, resolve, Deferred.ofValue, Act.eval, invoke, evs ha [x] [v] (by simp [hx]), run_callFunc_extern hf hname hb hn he, Lib.run_noEscape])
/-- The builder, of one's own, as the library's contracts tell it. -/
theorem Bd.mk {TB e : TypeId} {b : Nat} {q p : Option Addr} {c : Nat} {xs : List Int} {A : Nat → Prop} {w0 : World} {rs : List (Option Addr)} (h : Bx w b TB [.pointer q, .slice p xs.length c]) (hq : q = none ∨ q = some ⟨b, 0, none⟩) (o : Ow A w e (Kd.int .u8) p c xs) (hE : Ex w0 (Av [] No) rs w) (i j : Nat) (hi : rs[i]? = some (some ⟨b, 0, none⟩)) (hj : rs[j]? = some p) (hij : i ≠ j) (hr : ∀ x ∈ xs, 0 ≤ x ∧ x < 256) :
    Bd TB e w0.heap.size b xs w := by
  have hnew : ∀ {k : Nat} {u : Option Addr}, rs[k]? = some u → ∀ s, u = some s → w0.heap.size ≤ s.block := by
    intro k u hk s hs
    rcases hE.nw s (mem_at hk hs) with h | h
    · exact h
    · rcases h with h | ⟨_, h, _⟩
      · exact h.elim
      · cases h
  obtain ⟨cells, h1, h2⟩ := o
  have hce : cells = xs.map (Value.int .u8) := els_enc h2
  subst hce
  have hown : w.ownsRow w0.heap.size e 1 (.slice p xs.length c) (xs.map (Value.int .u8)).length (xs.map (Value.int .u8)) := by
    rw [List.length_map]
    refine ⟨h1.1, ?_⟩
    rcases h1.2 with h | ⟨g, cap, cur, hv, hg, r⟩
    · exact .inl h
    · refine .inr ⟨g, cap, cur, hv, ?_, r⟩
      simp only [Value.slice.injEq] at hv
      exact hnew hj _ hv.1
  have hne : Value.ownBlock (.slice p xs.length c) ≠ some b := by
    intro hb
    cases p with
    | none => simp [Value.ownBlock] at hb
    | some s =>
      simp [Value.ownBlock] at hb
      exact hE.off i j hi hj hij s rfl ⟨_, rfl, hb.symm⟩
  refine ⟨?_, hr⟩
  have hB := hnew hi _ rfl
  rcases hq with rfl | rfl
  · exact .inl ⟨hB, _, h, hown, hne⟩
  · exact .inr ⟨hB, _, h, hown, hne⟩
theorem Ex.only {w0 w' : World} {rs : List (Option Addr)} {S0 : Nat → Prop} (h : Ex w0 S0 rs w) (h0 : ∀ k, ¬ S0 k) (hb : Below w0.heap.size w w') : Ex w0 S0 [] w' :=
  ⟨⟨hb.os.trans h.fr.os, hb.tape.trans h.fr.tape, hb.output.trans h.fr.output, Nat.le_trans h.fr.size hb.size, fun k hk _ => (hb.block k hk).trans (h.fr.blk k hk (h0 k))⟩, .nil, (fun _ h => by cases h), (fun _ h => by cases h)⟩
theorem no_av (k : Nat) : ¬ Av [] No k := fun h => by
  rcases h with h | ⟨_, h, _⟩
  · exact h
  · cases h
end
end Go.Sx

namespace Go.Sx
open Go Go.RowKit

/-! ### plain facts -/
theorem wrapS {x : Int} (h : -9223372036854775808 ≤ x ∧ x < 9223372036854775808) : IntKind.i64.wrap x = x := by rw [IntKind.wrap_i64]; omega
theorem wrapB {x : Int} (h : 0 ≤ x ∧ x < 256) : IntKind.u8.wrap x = x := by rw [IntKind.wrap_u8]; omega
theorem wf8 {x : Int} (h : (Lit.int .u8 x).wf = true) : 0 ≤ x ∧ x < 256 := by
  simp [Lit.wf, IntKind.min, IntKind.max, IntKind.signed, IntKind.bits] at h
  omega
theorem wf64 {x : Int} (h : (Lit.int .i64 x).wf = true) : -9223372036854775808 ≤ x ∧ x < 9223372036854775808 := by
  simp [Lit.wf, IntKind.min, IntKind.max, IntKind.signed, IntKind.bits] at h
  omega
theorem wfU64 {x : Int} (h : (Lit.int .u64 x).wf = true) : 0 ≤ x ∧ x < 18446744073709551616 := by
  simp [Lit.wf, IntKind.min, IntKind.max, IntKind.signed, IntKind.bits] at h
  omega
theorem strOf_size (xs : List Int) : (strOf xs).size = xs.length := strOfNums_size xs
theorem strOf_append (xs ys : List Int) : strOf xs ++ strOf ys = strOf (xs ++ ys) := by
  apply ByteArray.ext
  simp [strOf, strOfNums, ByteArray.data_append]
theorem strOf_nil : strOf [] = (⟨#[]⟩ : ByteArray) := rfl
/-- Texts of bytes are the same just if the bytes are. -/
theorem strOf_inj {xs ys : List Int} (hx : ∀ x ∈ xs, 0 ≤ x ∧ x < 256) (hy : ∀ y ∈ ys, 0 ≤ y ∧ y < 256) : strOf xs = strOf ys ↔ xs = ys := by
  constructor
  · intro h
    have h1 : (xs.map fun n => UInt8.ofNat n.toNat) = ys.map fun n => UInt8.ofNat n.toNat := by
      have := congrArg (fun s : ByteArray => s.data.toList) h
      simpa [strOf, strOfNums] using this
    clear h
    induction xs generalizing ys with
    | nil => cases ys with
      | nil => rfl
      | cons _ _ => simp at h1
    | cons x xs ih =>
      cases ys with
      | nil => simp at h1
      | cons y ys =>
        simp only [List.map_cons, List.cons.injEq] at h1
        have h2 := hx x (by simp)
        have h3 := hy y (by simp)
        have h4 := congrArg UInt8.toNat h1.1
        simp at h4
        have h5 : x = y := by omega
        rw [h5, ih (fun z hz => hx z (by simp [hz])) (fun z hz => hy z (by simp [hz])) h1.2]
  · rintro rfl; rfl
theorem getD_mem {α : Type} {xs : List α} {i : Nat} (h : i < xs.length) (d : α) : xs.getD i d ∈ xs := by
  rw [List.getD_eq_getElem?_getD, List.getElem?_eq_getElem h]
  exact List.getElem_mem h
theorem take_succ_getD {xs : List Int} {i : Nat} (h : i < xs.length) : xs.take (i + 1) = xs.take i ++ [xs.getD i 0] := by
  rw [List.take_succ_eq_append_getElem h, List.getD_eq_getElem?_getD, List.getElem?_eq_getElem h]
  rfl
end Go.Sx
