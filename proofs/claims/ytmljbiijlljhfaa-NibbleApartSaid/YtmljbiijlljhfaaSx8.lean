/- Own work. A part of the proof of a law of this seat: The walk library: what is of no program. -/
import Derived.Test.YtmljbiijlljhfaaSx7
namespace Go.Sx
open Go Go.RowKit

section
variable {P : Program} {a : Act} {w w' : World} {n : Nat} {l : List (Nat × Value)}
variable {d : Option Nat} {ty T T' : TypeId} {pos : String} {af : Array Edge} {g : Option (Nat × Bool)} {x y z : Operand} {k k' k2 : IntKind} {i j m : Int} {b o o' : Nat}
variable {α : Type} {A B S0 : Nat → Prop} {kd : Kd α} {p : Option Addr} {c : Nat} {xs : List α} {w0 : World} {as : List (Option Addr)}

/-! #### literals -/
theorem fold_put : ∀ (vs : List Value) (o i : Nat) (cs : Array Value), o + i + vs.length ≤ cs.size →
    (vs.zipIdx i).foldl (fun cs (c, j) => cs.setIfInBounds (o + j) c) cs = (cs.toList.take (o + i) ++ vs ++ cs.toList.drop (o + i + vs.length)).toArray
  | [], o, i, cs, _ => by simp
  | v :: vs, o, i, cs, h => by
    rw [List.zipIdx_cons, List.foldl_cons, fold_put vs o (i + 1) _ (by simp at h ⊢; omega)]
    have hlt : o + i < cs.toList.length := by simp at h ⊢; omega
    congr 1
    rw [Array.toList_setIfInBounds, List.length_cons, show o + (i + 1) = o + i + 1 by omega]
    rw [List.take_set, List.drop_set, if_pos (by omega), show o + i + (vs.length + 1) = o + i + 1 + vs.length by omega]
    rw [List.take_succ_eq_append_getElem hlt, List.set_append, if_neg (by simp; omega)]
    have h0 : o + i - (cs.toList.take (o + i)).length = 0 := by rw [List.length_take]; omega
    rw [h0]
    simp
theorem fill_one (place : Nat → Option (Nat × Nat)) (cells : Array Value) (i : Nat) (v : Value) (rest : List (Nat × Value)) {off s : Nat} (hp : place i = some (off, s)) (hv : v.cells.size = s) (hs : off + s ≤ cells.size) :
    Instr.fill place cells ((i, v) :: rest) = Instr.fill place (cells.toList.take off ++ v.cells.toList ++ cells.toList.drop (off + s)).toArray rest := by
  simp only [Instr.fill, hp]
  rw [if_neg (by simp [hv]; omega)]
  congr 1
  have h := fold_put v.cells.toList off 0 cells (by simp [hv]; omega)
  have hz : (v.cells.zipIdx.foldl (fun cs (x : Value × Nat) => cs.setIfInBounds (off + x.2) x.1) cells) = (v.cells.toList.zipIdx 0).foldl (fun cs (x : Value × Nat) => cs.setIfInBounds (off + x.2) x.1) cells := by
    rw [← Array.foldl_toList, Array.toList_zipIdx]
  simp only [Nat.add_zero, Array.length_toList, hv] at h
  exact hz.trans h
/-- The parts of a slice's literal, each in its place. -/
theorem fill_row (s : Nat) : ∀ (vs : List Value) (q : Nat) (pre rest : List Value), (∀ v ∈ vs, v.cells.size = s) → pre.length = q * s → rest.length = vs.length * s →
    Instr.fill (fun i => some (i * s, s)) (pre ++ rest).toArray ((vs.zipIdx q).map fun p => (p.2, p.1)) = some (pre ++ vs.flatMap (fun v => v.cells.toList)).toArray
  | [], q, pre, rest, _, _, h => by
    have : rest = [] := List.eq_nil_of_length_eq_zero (by simpa using h)
    simp [Instr.fill, this]
  | v :: vs, q, pre, rest, hs, hp, hr => by
    have hv := hs v (by simp)
    have hr' : rest.length = vs.length * s + s := by rw [hr, List.length_cons, Nat.succ_mul]
    rw [List.zipIdx_cons, List.map_cons, fill_one (off := q * s) (s := s) _ _ _ _ _ rfl hv (by simp [hp]; omega)]
    have h1 : (pre ++ rest).toArray.toList.take (q * s) = pre := by rw [List.toList_toArray, List.take_append, ← hp]; simp
    have h2 : (pre ++ rest).toArray.toList.drop (q * s + s) = rest.drop s := by rw [List.toList_toArray, List.drop_append, List.drop_of_length_le (by omega), hp]; simp
    rw [h1, h2]
    have := fill_row s vs (q + 1) (pre ++ v.cells.toList) (rest.drop s) (fun u hu => hs u (by simp [hu])) (by simp [hp, hv, Nat.succ_mul]) (by simp [hr'])
    rw [this]
    simp
theorem d_buildSlice {e : TypeId} {zv : Value} {parts : List (Nat × Operand)} {vs : List Value} {q : Nat} (ha : Has n l a) (hT : P.underlying T = some (.slice e)) (hs : ∀ w, (sizeOf e).run P w = .ok kd.sz w) (hz : ∀ w, (zeroValue e).run P w = .ok zv w)
    (hp : parts.map (fun p => (p.1, ev l p.2)) = (vs.zipIdx 0).map (fun p => (p.2, some p.1))) (hel : Els (kd.K (Av as B) w.heap) xs (vs.flatMap fun v => v.cells.toList)) (hv : ∀ v ∈ vs, v.cells.size = kd.sz) (hl : vs.length = q) (hx : xs.length = q) (hl2 : q * kd.sz ≤ 16777216) (hl3 : q ≤ 16777216) (hE : Ex w0 S0 as w) :
    Does P ⟨d, .buildSlice T q parts.toArray, ty, pos, af, g⟩ a w (fun v w' => ∃ p' c', v = .slice p' xs.length c' ∧ Step as (p' :: as) w w' ∧ Ex w0 S0 (p' :: as) w' ∧ Fr w w' No ∧ Ow (Av (p' :: as) B) w' e kd p' c' xs) := by
  have hpe : parts.map (fun p => (p.1, a.eval p.2)) = (vs.zipIdx 0).map (fun p => (p.2, p.1)) := by
    have : ∀ (ps : List (Nat × Operand)) (us : List (Value × Nat)), ps.map (fun p => (p.1, ev l p.2)) = us.map (fun p => (p.2, some p.1)) → ps.map (fun p => (p.1, a.eval p.2)) = us.map (fun p => (p.2, p.1)) := by
      intro ps
      induction ps with
      | nil => intro us h; cases us with
        | nil => rfl
        | cons _ _ => simp at h
      | cons p ps ih =>
        intro us h
        cases us with
        | nil => simp at h
        | cons u us =>
          simp only [List.map_cons, List.cons.injEq, Prod.mk.injEq] at h ⊢
          exact ⟨⟨h.1.1, ha.ev h.1.2⟩, ih us h.2⟩
    exact this _ _ hp
  have hrun : ∃ cur : Array Value, cur = (vs.flatMap fun v => v.cells.toList).toArray ∧ (Instr.buildSlice T q (parts.map (fun p => (p.1, a.eval p.2))).toArray).run P w = .ok (.slice (some ⟨w.heap.size, 0, none⟩) q q) (w.alloc (.cells cur e)) := by
    refine ⟨_, rfl, ?_⟩
    have hf : ∀ zc : Array Value, Instr.fill (fun i => some (i * kd.sz, kd.sz)) ((Array.range (q * kd.sz)).map (zc[· % zc.size]!)) (parts.map (fun p => (p.1, a.eval p.2))) = some (vs.flatMap fun v => v.cells.toList).toArray := by
      intro zc
      have h := fill_row kd.sz vs 0 [] ((Array.range (q * kd.sz)).map (zc[· % zc.size]!)).toList hv (by simp) (by simp [hl])
      simp only [List.nil_append, Array.toArray_toList] at h
      rw [hpe]
      exact h
    have hb : ¬ (q * kd.sz > 2 ^ 24) := by omega
    unfold Instr.buildSlice
    rw [Sem.run_bind, run_underlying hT, Result.andThen_ok]
    simp only [Sem.run_bind, Result.andThen_ok, hs]
    rw [if_neg hb]
    by_cases h : q * kd.sz = 0
    · rw [if_pos h]
      simp only [Sem.run_bind, Sem.run_pure, Result.andThen_ok, hf]
      simp [newRow]
    · rw [if_neg h]
      simp only [Sem.run_bind, Sem.run_pure, Result.andThen_ok, hz, hf]
      simp [newRow]
  obtain ⟨cur, hcur, hr⟩ := hrun
  have hf : Fr w (w.alloc (.cells cur e)) No := Fr.alloc _ _ _
  have hnew : ∀ s, some (⟨w.heap.size, 0, none⟩ : Addr) = some s → w.heap.size ≤ s.block ∧ s.block < (w.alloc (.cells cur e)).heap.size := by
    intro s hs
    injection hs with hs
    subst hs
    exact ⟨Nat.le_refl _, by simp⟩
  refine (Does.val (v := .slice (some ⟨w.heap.size, 0, none⟩) q q) (w' := w.alloc (.cells cur e)) ?_).mono ?_
  · have hm : (parts.toArray.map fun (x : Nat × Operand) => (x.1, a.eval x.2)) = (parts.map (fun p => (p.1, a.eval p.2))).toArray := by simp
    simp only [execOp]
    rw [hm]
    simp [hr]
  · rintro v w' ⟨rfl, rfl⟩
    have hst : Step as (some ⟨w.heap.size, 0, none⟩ :: as) w (w.alloc (.cells cur e)) := Step.add as hf (fun s hs => (hnew s hs).1)
    refine ⟨some ⟨w.heap.size, 0, none⟩, q, by rw [hx], hst, hE.add hf hnew, hf, vs.flatMap (fun v => v.cells.toList), ?_, hel.imp (fun _ _ hx => hst.trK hx)⟩
    have hlen : (vs.flatMap fun v => v.cells.toList).length = q * kd.sz := by
      have := hel.length (fun _ _ h => kd.len h)
      rw [this, hx]
    have hqm : q ≤ maxLen := by simp only [maxLen]; omega
    have := World.ownsRow_lit (base := 0) (e := e) (size := kd.sz) w cur q (Nat.zero_le _) hqm (by rw [hcur]; simpa using hlen)
    rw [hx]
    rw [hcur] at this ⊢
    simpa using this
end
end Go.Sx
