/- Own work. A part of the proof of a law of this seat: The walk library: what is of no program. -/
import Derived.Test.YtmljbiijlljhfaaSx12
import Derived.ChangeArms
import Derived.OpenShut
import Derived.SizedLaws
namespace Go.Sx
open Go Go.RowKit

/-! ### what is handed in: read out of the row's data -/
/-- Data of this type are cells of this kind, of which R holds. -/
structure Dt {α : Type} (P : Program) (t : TypeId) (kd : Kd α) (R : α → Prop) : Prop where
  sz : P.cellsOf t = kd.sz
  op : ∀ {H : Type} (enc : TypeId × Value → H) (w : World) (sp : Nat → Bool) (fuel : Nat) (cs : List Value) (x : DataW H × List MemPlace), DataW.trod enc P w 0 sp true fuel t cs = some x → (∀ n ∈ DataW.weights P t x.1, n ≤ reachBytes) → ∃ y, kd.K No w.heap y cs ∧ R y
section
variable {P : Program} {t e : TypeId} {α β : Type} {kd : Kd α} {k2 : Kd β} {R : α → Prop} {R2 : β → Prop}
theorem Dt.int {k : IntKind} (hu : P.underlying t = some (.int k)) (hc : P.cellsOf t = 1) : Dt P t (Kd.int k) (fun i => (Lit.int k i).wf = true) :=
  ⟨hc, fun enc w sp fuel cs x h _ => by obtain ⟨n, rfl, _, hw⟩ := DataW.trod_int hu h; exact ⟨n, rfl, hw⟩⟩
theorem Dt.bool (hu : P.underlying t = some .bool) (hc : P.cellsOf t = 1) : Dt P t Kd.bool (fun _ => True) :=
  ⟨hc, fun enc w sp fuel cs x h _ => by obtain ⟨n, rfl, _⟩ := DataW.trod_bool hu h; exact ⟨n, rfl, trivial⟩⟩
theorem Dt.str (hu : P.underlying t = some .string) (hc : P.cellsOf t = 1) : Dt P t Kd.str (fun s => s.size ≤ 140737488351232) :=
  ⟨hc, fun enc w sp fuel cs x h hw => by obtain ⟨n, rfl, rfl, _⟩ := DataW.trod_string hu h; exact ⟨n, rfl, by have := hw n.data.toList.length (by simp [DataW.weights]); rw [Array.length_toList] at this; exact this⟩⟩
theorem cells?_get {w : World} {a : Addr} {n : Nat} {row : List Value} (h : w.cells? 0 a n = some row) : row.length = n ∧ ∀ j v, row[j]? = some v → w.cell? (a.add j) = some v := by
  unfold World.cells? at h
  rw [if_pos (Nat.zero_le _)] at h
  have key : ∀ (l : List Nat) (row : List Value), (l.mapM fun i => w.cell? (a.add i)) = some row → row.length = l.length ∧ ∀ (j : Nat) (v : Value), row[j]? = some v → ∃ i : Nat, l[j]? = some i ∧ w.cell? (a.add i) = some v := by
    intro l
    induction l with
    | nil => intro row h; simp at h; subst h; simp
    | cons i l ih =>
      intro row h
      rw [List.mapM_cons] at h
      cases h1 : w.cell? (a.add i) with
      | none => rw [h1] at h; cases h
      | some u =>
        cases h2 : (l.mapM fun i => w.cell? (a.add i)) with
        | none => rw [h1, h2] at h; cases h
        | some r =>
          rw [h1, h2] at h
          cases h
          obtain ⟨h3, h4⟩ := ih r h2
          refine ⟨by simp [h3], fun j v hv => ?_⟩
          cases j with
          | zero => simp at hv; subst hv; exact ⟨i, rfl, h1⟩
          | succ j => exact h4 j v (by simpa using hv)
  obtain ⟨h1, h2⟩ := key _ _ h
  refine ⟨by simpa using h1, fun j v hv => ?_⟩
  obtain ⟨i, hi, hv'⟩ := h2 j v hv
  rw [List.getElem?_range (by have := (List.getElem?_eq_some_iff.1 hi).1; simpa using this)] at hi
  cases hi
  exact hv'
theorem cell_spot {w : World} {a : Addr} {v : Value} (h : w.cell? a = some v) : a.spot = none ∧ ∃ C T fr, w.heap[a.block]? = some (.cells C T fr) ∧ C[a.off]? = some v := by
  unfold World.cell? at h
  split at h
  · rename_i C T fr hb
    split at h
    · cases h
    · rename_i hs
      exact ⟨by simpa using hs, C, T, fr, hb, h⟩
  · cases h
theorem mem_weightsAll {H : Type} {ds : List (DataW H)} {d : DataW H} (h : d ∈ ds) {n : Nat} (hn : n ∈ DataW.weights P e d) : n ∈ DataW.weightsAll P e ds := by
  induction ds with
  | nil => cases h
  | cons c r ih =>
    simp only [DataW.weightsAll, List.mem_append]
    rcases List.mem_cons.1 h with rfl | h
    · exact .inl hn
    · exact .inr (ih h)
theorem els_of {K : α → List Value → Prop} : ∀ (m : Nat) (f : Nat → List Value), (∀ i, i < m → ∃ y, K y (f i) ∧ R y) → ∃ ys, Els K ys ((List.range m).flatMap f) ∧ ys.length = m ∧ ∀ y ∈ ys, R y := by
  intro m
  induction m with
  | zero => intro f _; exact ⟨[], by simpa using Els.nil, rfl, fun _ h => by cases h⟩
  | succ m ih =>
    intro f h
    obtain ⟨y, hy, hR⟩ := h 0 (by omega)
    obtain ⟨ys, h1, h2, h3⟩ := ih (fun i => f (i + 1)) (fun i hi => h (i + 1) (by omega))
    refine ⟨y :: ys, ?_, by simp [h2], fun z hz => ?_⟩
    · rw [List.range_succ_eq_map, List.flatMap_cons]
      have : (List.map Nat.succ (List.range m)).flatMap f = (List.range m).flatMap (fun i => f (i + 1)) := by rw [List.flatMap_map]
      rw [this]
      exact .cons hy h1
    · rcases List.mem_cons.1 hz with rfl | hz
      · exact hR
      · exact h3 z hz
theorem flatMap_range_get {s : Nat} {f : Nat → List Value} : ∀ (m : Nat), (∀ i, i < m → (f i).length = s) → ∀ j v, ((List.range m).flatMap f)[j]? = some v → ∃ i r, i < m ∧ j = i * s + r ∧ r < s ∧ (f i)[r]? = some v := by
  intro m
  induction m generalizing f with
  | zero => intro _ j v h; simp at h
  | succ m ih =>
    intro hf j v h
    rw [List.range_succ_eq_map, List.flatMap_cons, List.flatMap_map, List.getElem?_append] at h
    have h0 := hf 0 (by omega)
    split at h
    · rename_i hj
      exact ⟨0, j, by omega, by simp, by omega, h⟩
    · rename_i hj
      obtain ⟨i, r, h1, h2, h3, h4⟩ := ih (f := fun i => f (i + 1)) (fun i hi => hf (i + 1) (by omega)) _ v h
      exact ⟨i + 1, r, by omega, by rw [Nat.succ_mul]; omega, h3, h4⟩
theorem Dt.sl (hu : P.underlying t = some (.slice e)) (hc : P.cellsOf t = 1) (d : Dt P e kd R) (hs : 0 < kd.sz) (hby : 0 < P.bytesOf e) : Dt P t (Kd.sl kd) (fun xs => xs.length ≤ 140737488351232 ∧ ∀ x ∈ xs, R x) :=
  ⟨hc, fun enc w sp fuel cs x h hw => by
    rcases DataW.trod_slice hu h with ⟨rfl, _⟩ | ⟨a, len, cap, elems, rest, n, _, rfl, rfl, _, hl, hm, hlen, hel, _, _⟩
    · exact ⟨[], ⟨none, 0, rfl, Raw.nil _ _ _ _ _ (Nat.zero_le _)⟩, by simp, fun _ h => by cases h⟩
    · have hwe : ∀ i (hi : i < elems.length), ∀ n ∈ DataW.weights P e (elems[i]).1, n ≤ reachBytes := fun i hi n hn => hw n (by
        simp only [DataW.weights, hu, List.mem_cons, List.mem_append]
        exact .inr (.inl (mem_weightsAll (List.mem_map.2 ⟨_, List.getElem_mem hi, rfl⟩) hn)))
      have hlb : len ≤ 140737488351232 := by
        have h1 := hw ((elems.length + rest.length) * P.bytesOf e) (by simp [DataW.weights, hu])
        have h2 : elems.length + rest.length ≤ (elems.length + rest.length) * P.bytesOf e := Nat.le_mul_of_pos_right _ hby
        simp only [reachBytes] at h1
        omega
      have hrow : ∀ i, i < len → ∃ row, w.cells? 0 (a.add (i * kd.sz)) kd.sz = some row ∧ ∃ y, kd.K No w.heap y row ∧ R y := by
        intro i hi
        have h1 := hel i hi
        rw [List.getElem?_eq_getElem (by omega), d.sz] at h1
        cases h2 : w.cells? 0 (a.add (i * kd.sz)) kd.sz with
        | none => rw [h2] at h1; cases h1
        | some row => rw [h2] at h1; exact ⟨row, rfl, d.op _ _ _ _ _ _ h1 (hwe i (by omega))⟩
      obtain ⟨ys, h1, h2, h3⟩ := els_of (R := R) (K := kd.K No w.heap) len (fun i => (w.cells? 0 (a.add (i * kd.sz)) kd.sz).getD []) (fun i hi => by
        obtain ⟨row, hr, y, hy⟩ := hrow i hi
        rw [hr]; exact ⟨y, hy⟩)
      refine ⟨ys, ⟨some a, cap, by rw [h2], by omega, hm, _, h1, fun hne => ?_⟩, by rw [h2]; exact hlb, h3⟩
      have hpos : 0 < len := by
        rcases Nat.eq_zero_or_pos len with h | h
        · rw [h] at h2; exact absurd (List.eq_nil_of_length_eq_zero h2) hne
        · exact h
      have hsa : a.spot = none := by
        obtain ⟨row0, hr0, _⟩ := hrow 0 hpos
        obtain ⟨h5, h6⟩ := cells?_get hr0
        have h7 := h6 0 row0[0] (List.getElem?_eq_getElem (by omega))
        have h8 : (a.add (0 * kd.sz)).add 0 = a := by simp [Addr.add]
        rw [h8] at h7
        exact (cell_spot h7).1
      obtain ⟨b, o, s⟩ := a
      simp only at hsa
      subst hsa
      have hcell : ∀ j v, ((List.range len).flatMap fun i => (w.cells? 0 ((⟨b, o, none⟩ : Addr).add (i * kd.sz)) kd.sz).getD [])[j]? = some v → w.cell? ⟨b, o + j, none⟩ = some v := by
        intro j v hv
        obtain ⟨i, r, hi, hj, hr, hv'⟩ := flatMap_range_get (s := kd.sz) len (fun i hi => by
          obtain ⟨row, hr, _⟩ := hrow i hi
          rw [hr]; exact (cells?_get hr).1) j v hv
        obtain ⟨row, hrw, _⟩ := hrow i hi
        rw [hrw] at hv'
        have h4 := (cells?_get hrw).2 r v (by simpa using hv')
        rw [add_at, add_at] at h4
        rw [hj, ← Nat.add_assoc]
        exact h4
      have h0 : ∃ v, ((List.range len).flatMap fun i => (w.cells? 0 ((⟨b, o, none⟩ : Addr).add (i * kd.sz)) kd.sz).getD [])[0]? = some v := by
        have hl1 := h1.length (fun _ _ h => kd.len h)
        have : 0 < ((List.range len).flatMap fun i => (w.cells? 0 ((⟨b, o, none⟩ : Addr).add (i * kd.sz)) kd.sz).getD []).length := by rw [hl1, h2]; exact Nat.mul_pos hpos hs
        exact ⟨_, List.getElem?_eq_getElem this⟩
      obtain ⟨v0, hv0⟩ := h0
      obtain ⟨_, C, T, fr, hb, _⟩ := cell_spot (hcell 0 v0 hv0)
      refine ⟨b, o, C, T, fr, rfl, id, hb, fun j v hv => ?_⟩
      have h6 := hcell j v hv
      obtain ⟨_, C', T', fr', hb2, hc2⟩ := cell_spot h6
      simp only at hb hb2 hc2
      rw [hb] at hb2
      cases hb2
      exact hc2⟩
/-- the fields from the o-th cell on -/
structure DtF (P : Program) {α : Type} (fs : List Field) (o : Nat) (kd : Kd α) (R : α → Prop) : Prop where
  op : ∀ {H : Type} (enc : TypeId × Value → H) (w : World) (sp : Nat → Bool) (n : Nat) (cs : List Value), cs.length = o + kd.sz → (∀ f ∈ fs, ∃ x, DataW.trod enc P w 0 sp true n f.type ((cs.drop f.offset).take (P.cellsOf f.type)) = some x ∧ ∀ n ∈ DataW.weights P f.type x.1, n ≤ reachBytes) → ∃ y, kd.K No w.heap y (cs.drop o) ∧ R y
theorem DtF.one {f : Field} {o : Nat} (ho : f.offset = o) (d : Dt P f.type kd R) : DtF P [f] o kd R := ⟨fun enc w sp n cs hl h => by
  obtain ⟨x, hx, hw⟩ := h f (by simp)
  rw [ho, d.sz, List.take_of_length_le (by rw [List.length_drop]; omega)] at hx
  exact d.op _ _ _ _ _ _ hx hw⟩
theorem DtF.cons {f : Field} {fs : List Field} {o : Nat} (ho : f.offset = o) (d : Dt P f.type kd R) (r : DtF P fs (o + kd.sz) k2 R2) : DtF P (f :: fs) o (Kd.pair kd k2) (fun x => R x.1 ∧ R2 x.2) := ⟨fun enc w sp n cs hl h => by
  obtain ⟨x, hx, hw⟩ := h f (by simp)
  rw [ho, d.sz] at hx
  obtain ⟨y1, h1, h2⟩ := d.op _ _ _ _ _ _ hx hw
  obtain ⟨y2, h3, h4⟩ := r.op enc w sp n cs (by rw [hl]; show _ = o + kd.sz + k2.sz; show o + (kd.sz + k2.sz) = _; omega) (fun g hg => h g (by simp [hg]))
  refine ⟨(y1, y2), ⟨_, _, ?_, h1, h3⟩, h2, h4⟩
  rw [← List.drop_drop, List.take_append_drop]⟩
theorem Dt.struct {fs : Array Field} (hu : P.underlying t = some (.struct fs)) (hc : P.cellsOf t = kd.sz) (d : DtF P fs.toList 0 kd R) : Dt P t kd R :=
  ⟨hc, fun enc w sp fuel cs x h hw => by
    obtain ⟨xs, n, _, rfl, hl, hx, hf⟩ := DataW.trod_struct hu h
    have := d.op enc w sp n cs (by rw [hl, hc, Nat.zero_add]) (fun f hf' => by
      obtain ⟨i, hi, he⟩ := List.getElem_of_mem hf'
      have h1 := hf i f (by rw [← Array.getElem?_toList, List.getElem?_eq_getElem hi, he])
      have hi2 : i < xs.length := by rw [hx]; simpa using hi
      rw [List.getElem?_eq_getElem hi2] at h1
      refine ⟨_, h1, fun n hn => hw n ?_⟩
      simp only [DataW.weights, hu]
      exact DataW.weights_mem_each (ts := fs.toList.map (·.type)) (j := i) (t := f.type) (d := (xs[i]).1) (by rw [List.getElem?_map, List.getElem?_eq_getElem hi, he]; rfl) (by rw [List.getElem?_map, List.getElem?_eq_getElem hi2]; rfl) n hn)
    simpa using this⟩
theorem Dt.arr {m : Nat} (hu : P.underlying t = some (.array m e)) (hc : P.cellsOf t = m * kd.sz) (d : Dt P e kd R) : Dt P t (Kd.arr m kd) (fun xs => ∀ x ∈ xs, R x) :=
  ⟨hc, fun enc w sp fuel cs x h hw => by
    obtain ⟨xs, n, _, rfl, hl, hx, hf⟩ := DataW.trod_array hu h
    obtain ⟨ys, h1, h2, h3⟩ := els_of (R := R) (K := kd.K No w.heap) m (fun i => (cs.drop (i * kd.sz)).take kd.sz) (fun i hi => by
      have h1 := hf i hi
      rw [List.getElem?_eq_getElem (by rw [hx]; exact hi), d.sz] at h1
      exact d.op _ _ _ _ _ _ h1 (fun n hn => hw n (by
        simp only [DataW.weights, hu]
        exact mem_weightsAll (List.mem_map.2 ⟨_, List.getElem_mem _, rfl⟩) hn)))
    refine ⟨ys, ⟨h2, ?_⟩, h3⟩
    have he : (List.range m).flatMap (fun i => (cs.drop (i * kd.sz)).take kd.sz) = cs := by
      have key : ∀ (m : Nat) (cs : List Value), cs.length = m * kd.sz → (List.range m).flatMap (fun i => (cs.drop (i * kd.sz)).take kd.sz) = cs := by
        intro m
        induction m with
        | zero => intro cs h; simp at h; subst h; rfl
        | succ m ih =>
          intro cs h
          rw [List.range_succ_eq_map, List.flatMap_cons, List.flatMap_map]
          have h2 := ih (cs.drop kd.sz) (by rw [List.length_drop, h, Nat.succ_mul]; omega)
          simp only [List.drop_drop] at h2
          have h3 : (fun i => (cs.drop (i.succ * kd.sz)).take kd.sz) = fun i => (cs.drop (kd.sz + i * kd.sz)).take kd.sz := by
            funext i; rw [Nat.succ_mul, Nat.add_comm]
          rw [h3, h2]
          simp
      exact key m cs (by rw [hl, hc])
    rw [he] at h1
    exact h1⟩
theorem sized_arg {H : Type} {ts : List TypeId} {ds : List (DataW H)} (h : (DataW.weightsEach P ts ds).all (· ≤ reachBytes) = true) {j : Nat} {t : TypeId} {d : DataW H} (ht : ts[j]? = some t) (hd : ds[j]? = some d) : ∀ n ∈ DataW.weights P t d, n ≤ reachBytes := fun n hn => by
  have := List.all_eq_true.1 h n (DataW.weights_mem_each ht hd n hn)
  simpa using this
theorem raw_arg {h : Array Obj} {a : Option Addr} {c : Nat} {xs : List α} (r : Raw No kd h a c xs) : Raw (Av [] No) kd h a c xs := r.mono (fun k _ hk => by
  rcases hk with hk | ⟨_, hk, _⟩
  · exact hk
  · cases hk)
theorem Ex.bel {w w' : World} (h : Ex w (Av [] No) [] w') : Below w.heap.size w w' := (h.fr.mono (S' := No) (fun k _ hk => by
  rcases hk with hk | ⟨_, hk, _⟩
  · exact hk
  · cases hk)).below
end
end Go.Sx
