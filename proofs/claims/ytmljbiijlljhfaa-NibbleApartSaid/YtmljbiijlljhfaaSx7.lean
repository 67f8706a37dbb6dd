/- Own work. A part of the proof of a law of this seat: The walk library: what is of no program. -/
import Derived.Test.YtmljbiijlljhfaaSx6
namespace Go.Sx
open Go Go.RowKit

section
variable {P : Program} {a : Act} {w w' : World} {n : Nat} {l : List (Nat × Value)}
variable {d : Option Nat} {ty T T' : TypeId} {pos : String} {af : Array Edge} {g : Option (Nat × Bool)} {x y z : Operand} {k k' k2 : IntKind} {i j m : Int} {b o o' : Nat}
variable {α : Type} {A B S0 : Nat → Prop} {kd : Kd α} {p : Option Addr} {c : Nat} {xs : List α} {w0 : World} {as lf rt : List (Option Addr)}

theorem Ex.off {u v : Option Addr} (h : Ex w0 S0 as w) (i j : Nat) (hi : as[i]? = some u) (hj : as[j]? = some v) (hij : i ≠ j) : ∀ q, v = some q → ¬ ∃ s, u = some s ∧ s.block = q.block := by
  intro q hq ⟨s, hs, hb⟩
  have h2 := List.pairwise_iff_getElem.1 h.dis
  obtain ⟨hi1, hi2⟩ := List.getElem?_eq_some_iff.1 hi
  obtain ⟨hj1, hj2⟩ := List.getElem?_eq_some_iff.1 hj
  rcases Nat.lt_or_ge i j with h | h
  · exact h2 i j hi1 hj1 h s q (hi2.trans hs) (hj2.trans hq) hb
  · exact h2 j i hj1 hi1 (by omega) q s (hj2.trans hq) (hi2.trans hs) hb.symm

/-! #### slices of slices -/
theorem Raw.cut (r : Raw A kd w.heap p c xs) (L H M : Nat) (h1 : L ≤ H) (h2 : H ≤ xs.length) (h3 : H ≤ M) (h4 : M ≤ c) : Raw A kd w.heap (if M = L then p else p.map (·.add (L * kd.sz))) (M - L) ((xs.take H).drop L) := by
  obtain ⟨h5, h6, cells, he, hm⟩ := r
  have hlen : ((xs.take H).drop L).length = H - L := by rw [List.length_drop, List.length_take]; omega
  refine ⟨by omega, by omega, (cells.take (H * kd.sz)).drop (L * kd.sz), (he.take (fun _ _ h => kd.len h) H).drop (fun _ _ h => kd.len h) L, fun hne => ?_⟩
  have hpos : L < H := by
    rcases Nat.lt_or_ge L H with h | h
    · exact h
    · exact absurd (List.eq_nil_of_length_eq_zero (by omega)) hne
  obtain ⟨b, o, C, T, fr, rfl, hA, hb, hc⟩ := hm (by intro e; rw [e] at h2; simp at h2; omega)
  rw [if_neg (by omega)]
  refine ⟨b, o + L * kd.sz, C, T, fr, by simp [add_at], hA, hb, fun j v hv => ?_⟩
  rw [List.getElem?_drop, List.getElem?_take] at hv
  split at hv
  · have := hc _ _ hv
    rwa [← Nat.add_assoc] at this
  · cases hv
theorem cut_len (H L : Nat) (h : H ≤ xs.length) : ((xs.take H).drop L).length = H - L := by rw [List.length_drop, List.length_take]; omega

/-- in the block of p -/
def In (p q : Option Addr) : Prop := ∀ s, q = some s → ∃ r, p = some r ∧ r.block = s.block
theorem In.refl (p : Option Addr) : In p p := fun s h => ⟨s, h, rfl⟩
theorem In.cut (p : Option Addr) (b : Prop) [Decidable b] (m : Nat) : In p (if b then p else p.map (·.add m)) := fun s h => by
  by_cases hb : b
  · rw [if_pos hb] at h; exact ⟨s, h, rfl⟩
  · rw [if_neg hb] at h
    cases p with
    | none => cases h
    | some r =>
      simp only [Option.map_some, Option.some.injEq] at h
      exact ⟨r, rfl, by rw [← h]; unfold Addr.add; split <;> rfl⟩
theorem d_slice {e : TypeId} {lo hi mx : Option Operand} {vlo vhi vmx : Option Value} {L H M : Nat} (ha : Has n l a) (hT : P.underlying T = some (.slice e)) (hs : ∀ w, (sizeOf e).run P w = .ok kd.sz w) (hx : ev l x = some (.slice p xs.length c))
    (h1 : lo.map a.eval = vlo) (h2 : hi.map a.eval = vhi) (h3 : mx.map a.eval = vmx) (hb : (Instr.sliceBounds true xs.length c vlo vhi vmx).run P w = .ok (L, H, M) w) (r : Raw A kd w.heap p c xs) (h : L ≤ H ∧ H ≤ xs.length ∧ H ≤ M ∧ M ≤ c) :
    Does P ⟨d, .slice T x lo hi mx, ty, pos, af, g⟩ a w (fun v w' => w' = w ∧ ∃ p', v = .slice p' ((xs.take H).drop L).length (M - L) ∧ Raw A kd w.heap p' (M - L) ((xs.take H).drop L) ∧ In p p') := by
  refine (Does.val (v := .slice (if M = L then p else p.map (·.add (L * kd.sz))) (H - L) (M - L)) (w' := w) ?_).mono ?_
  · simp [execOp, ha.ev hx, Instr.sliceAt, Instr.slice, run_underlying hT, h1, h2, h3, hb, hs]
  · rintro v w' ⟨rfl, rfl⟩
    exact ⟨rfl, _, by rw [cut_len _ _ h.2.1], r.cut L H M h.1 h.2.1 h.2.2.1 h.2.2.2, In.cut _ _ _⟩
/-- x[i:j] -/
theorem d_slice_lh {e : TypeId} (ha : Has n l a) (hT : P.underlying T = some (.slice e)) (hs : ∀ w, (sizeOf e).run P w = .ok kd.sz w) (hx : ev l x = some (.slice p xs.length c)) (hy : ev l y = some (.int k i)) (hz : ev l z = some (.int k' j)) (r : Raw A kd w.heap p c xs) (h : 0 ≤ i ∧ i ≤ j ∧ j ≤ xs.length) :
    Does P ⟨d, .slice T x (some y) (some z) none, ty, pos, af, g⟩ a w (fun v w' => w' = w ∧ ∃ p' c', v = .slice p' ((xs.take j.toNat).drop i.toNat).length c' ∧ Raw A kd w.heap p' c' ((xs.take j.toNat).drop i.toNat) ∧ In p p') := by
  have hc := r.1
  refine (d_slice (L := i.toNat) (H := j.toNat) (M := c) ha hT hs hx rfl rfl rfl ?_ r (by omega)).mono (fun v w' ⟨e, p', h1, h2, h3⟩ => ⟨e, p', _, h1, h2, h3⟩)
  have ej : (j.toNat : Int) = j := Int.toNat_of_nonneg (by omega)
  simp [ha.ev hy, ha.ev hz, Instr.sliceBounds, run_sliceBound, ej, (by omega : 0 ≤ i), (by omega : 0 ≤ j), (by omega : i ≤ j), (by omega : j ≤ c)]
theorem d_slice_l {e : TypeId} (ha : Has n l a) (hT : P.underlying T = some (.slice e)) (hs : ∀ w, (sizeOf e).run P w = .ok kd.sz w) (hx : ev l x = some (.slice p xs.length c)) (hy : ev l y = some (.int k i)) (r : Raw A kd w.heap p c xs) (h : 0 ≤ i ∧ i ≤ xs.length) :
    Does P ⟨d, .slice T x (some y) none none, ty, pos, af, g⟩ a w (fun v w' => w' = w ∧ ∃ p' c', v = .slice p' (xs.drop i.toNat).length c' ∧ Raw A kd w.heap p' c' (xs.drop i.toNat) ∧ In p p') := by
  have hc := r.1
  have he : (xs.take xs.length).drop i.toNat = xs.drop i.toNat := by rw [List.take_length]
  refine (d_slice (L := i.toNat) (H := xs.length) (M := c) ha hT hs hx rfl rfl rfl ?_ r (by omega)).mono (fun v w' ⟨e, p', h1, h2, h3⟩ => ⟨e, p', _, by rw [← he]; exact h1, by rw [← he]; exact h2, h3⟩)
  simp [ha.ev hy, Instr.sliceBounds, run_sliceBound, (by omega : 0 ≤ i), (by omega : i ≤ xs.length)]
theorem d_slice_h {e : TypeId} (ha : Has n l a) (hT : P.underlying T = some (.slice e)) (hs : ∀ w, (sizeOf e).run P w = .ok kd.sz w) (hx : ev l x = some (.slice p xs.length c)) (hz : ev l z = some (.int k' j)) (r : Raw A kd w.heap p c xs) (h : 0 ≤ j ∧ j ≤ xs.length) :
    Does P ⟨d, .slice T x none (some z) none, ty, pos, af, g⟩ a w (fun v w' => w' = w ∧ ∃ p' c', v = .slice p' (xs.take j.toNat).length c' ∧ Raw A kd w.heap p' c' (xs.take j.toNat) ∧ In p p') := by
  have hc := r.1
  have he : (xs.take j.toNat).drop 0 = xs.take j.toNat := List.drop_zero
  refine (d_slice (L := 0) (H := j.toNat) (M := c) ha hT hs hx rfl rfl rfl ?_ r (by omega)).mono (fun v w' ⟨e, p', h1, h2, h3⟩ => ⟨e, p', _, by rw [← he]; exact h1, by rw [← he]; exact h2, h3⟩)
  simp [ha.ev hz, Instr.sliceBounds, run_sliceBound, (by omega : 0 ≤ j), (by omega : j ≤ c)]
theorem d_slice_hm {e : TypeId} (ha : Has n l a) (hT : P.underlying T = some (.slice e)) (hs : ∀ w, (sizeOf e).run P w = .ok kd.sz w) (hx : ev l x = some (.slice p xs.length c)) (hy : ev l y = some (.int k j)) (hz : ev l z = some (.int k' m)) (r : Raw A kd w.heap p c xs) (h : 0 ≤ j ∧ j ≤ m ∧ m ≤ xs.length) :
    Does P ⟨d, .slice T x none (some y) (some z), ty, pos, af, g⟩ a w (fun v w' => w' = w ∧ ∃ p' c', v = .slice p' (xs.take j.toNat).length c' ∧ Raw A kd w.heap p' c' (xs.take j.toNat) ∧ In p p') := by
  have hc := r.1
  have he : (xs.take j.toNat).drop 0 = xs.take j.toNat := List.drop_zero
  have em : (m.toNat : Int) = m := Int.toNat_of_nonneg (by omega)
  refine (d_slice (L := 0) (H := j.toNat) (M := m.toNat) ha hT hs hx rfl rfl rfl ?_ r (by omega)).mono (fun v w' ⟨e, p', h1, h2, h3⟩ => ⟨e, p', _, by rw [← he]; exact h1, by rw [← he]; exact h2, h3⟩)
  simp [ha.ev hy, ha.ev hz, Instr.sliceBounds, run_sliceBound, em, (by omega : 0 ≤ j), (by omega : 0 ≤ m), (by omega : j ≤ m), (by omega : m ≤ c)]
/-- a string's piece -/
theorem d_substr_lh {s : ByteArray} (ha : Has n l a) (hT : P.underlying T = some .string) (hx : ev l x = some (.string s)) (hy : ev l y = some (.int k i)) (hz : ev l z = some (.int k' j)) (h : 0 ≤ i ∧ i ≤ j ∧ j ≤ s.size) :
    Does P ⟨d, .slice T x (some y) (some z) none, ty, pos, af, g⟩ a w (Is (.string (s.extract i.toNat j.toNat)) w) := by
  refine Does.val ?_
  have ej : (j.toNat : Int) = j := Int.toNat_of_nonneg (by omega)
  simp [execOp, ha.ev hx, ha.ev hy, ha.ev hz, Instr.sliceAt, Instr.slice, run_underlying hT, Instr.sliceBounds, run_sliceBound, ej, (by omega : 0 ≤ i), (by omega : 0 ≤ j), (by omega : i ≤ j), (by omega : j ≤ s.size)]
theorem d_substr_l {s : ByteArray} (ha : Has n l a) (hT : P.underlying T = some .string) (hx : ev l x = some (.string s)) (hy : ev l y = some (.int k i)) (h : 0 ≤ i ∧ i ≤ s.size) :
    Does P ⟨d, .slice T x (some y) none none, ty, pos, af, g⟩ a w (Is (.string (s.extract i.toNat s.size)) w) := by
  refine Does.val ?_
  simp [execOp, ha.ev hx, ha.ev hy, Instr.sliceAt, Instr.slice, run_underlying hT, Instr.sliceBounds, run_sliceBound, (by omega : 0 ≤ i), (by omega : i ≤ s.size)]
theorem d_substr_h {s : ByteArray} (ha : Has n l a) (hT : P.underlying T = some .string) (hx : ev l x = some (.string s)) (hz : ev l z = some (.int k' j)) (h : 0 ≤ j ∧ j ≤ s.size) :
    Does P ⟨d, .slice T x none (some z) none, ty, pos, af, g⟩ a w (Is (.string (s.extract 0 j.toNat)) w) := by
  refine Does.val ?_
  simp [execOp, ha.ev hx, ha.ev hz, Instr.sliceAt, Instr.slice, run_underlying hT, Instr.sliceBounds, run_sliceBound, (by omega : 0 ≤ j), (by omega : j ≤ s.size)]
/-- s[i] of a string -/
def bytesOf (s : ByteArray) : List Int := s.data.toList.map fun u => (u.toNat : Int)
theorem data_len (s : ByteArray) : s.data.toList.length = s.size := by rw [Array.length_toList]; rfl
theorem bytesOf_length (s : ByteArray) : (bytesOf s).length = s.size := by rw [bytesOf, List.length_map, data_len]
theorem d_strIndex {s : ByteArray} (ha : Has n l a) (hT : P.underlying T = some .string) (hx : ev l x = some (.string s)) (hy : ev l y = some (.int k i)) (h : 0 ≤ i ∧ i < s.size) :
    Does P ⟨d, .index T x y, ty, pos, af, g⟩ a w (Is (.int .u8 ((bytesOf s).getD i.toNat 0)) w) := by
  have hi : i.toNat < s.size := by omega
  have hv : (bytesOf s).getD i.toNat 0 = ((s[i.toNat]'hi).toNat : Int) := by
    have h2 : i.toNat < s.data.toList.length := by rw [data_len]; exact hi
    simp only [bytesOf, List.getD_eq_getElem?_getD, List.getElem?_map, List.getElem?_eq_getElem h2, Option.map_some, Option.getD_some]
    rfl
  refine Does.val ?_
  rw [hv]
  simp [execOp, ha.ev hx, ha.ev hy, Instr.index, asIntOf, run_underlying hT, h.1, ByteArray.getElem?_lt' s i.toNat hi]

/-! #### bytes and strings -/
theorem els_enc {enc : α → Value} {cs : List Value} (h : Els (fun x c => c = [enc x]) xs cs) : cs = xs.map enc := by
  induction h with
  | nil => rfl
  | cons hx _ ih => rw [hx, ih]; rfl
def strOf (xs : List Int) : ByteArray := strOfNums xs
theorem d_b2s {e T1 T2 : TypeId} {xs : List Int} (ha : Has n l a) (h1 : P.underlying T1 = some (.slice e)) (he : P.underlying e = some (.int .u8)) (h2 : P.underlying T2 = some .string) (hx : ev l x = some (.slice p xs.length c)) (r : Raw A (Kd.int .u8) w.heap p c xs) :
    Does P ⟨d, .convert T1 T2 x, ty, pos, af, g⟩ a w (Is (.string (strOf xs)) w) := by
  refine Does.val ?_
  have hr : (convert T1 T2 (.slice p xs.length c)).run P w = .ok (.string (strOf xs)) w := by
    by_cases h0 : xs = []
    · subst h0
      cases p with
      | none => exact run_convert_bytes_nil w T1 e h1 he 0 c T2 h2
      | some q =>
        rw [run_convert_bytes_string w T1 T2 e _ _ c h1 he h2]
        simp [Conv.bytesToString, loadCells, loadCellsFrom, strOf, strOfNums]
        rfl
    · obtain ⟨_, _, cells, hel, hm⟩ := r
      obtain ⟨b, o, C, TT, fr, rfl, hA, hb, hc⟩ := hm h0
      have hce : cells = xs.map (Value.int .u8) := els_enc hel
      refine run_convert_bytes_arg w T1 e h1 he b o xs.length c xs rfl (fun i hi => ?_) T2 h2
      rw [cell_of_row w b _ C TT fr hb]
      refine hc i _ ?_
      rw [hce, List.getElem?_map, List.getElem?_eq_getElem hi]
      simp [List.getD_eq_getElem?_getD, hi]
  simp [execOp, ha.ev hx, hr]
theorem els_map {enc : α → Value} : ∀ (xs : List α), Els (fun x c => c = [enc x]) xs (xs.map enc)
  | [] => .nil
  | x :: xs => Els.cons (R := fun x c => c = [enc x]) (x := x) (c := [enc x]) rfl (els_map xs)
theorem d_s2b {e T1 T2 : TypeId} {s : ByteArray} (ha : Has n l a) (h1 : P.underlying T1 = some .string) (h2 : P.underlying T2 = some (.slice e)) (he : P.underlying e = some (.int .u8)) (hx : ev l x = some (.string s)) (hl : s.size ≤ 140737488355328) :
    Does P ⟨d, .convert T1 T2 x, ty, pos, af, g⟩ a w (fun v w' => ∃ p c, v = .slice p (bytesOf s).length c ∧ Fr w w' No ∧ Raw (Old w) (Kd.int .u8) w'.heap p c (bytesOf s)) := by
  have hr := Lib.run_convert_string_bytes (P := P) w T1 T2 e s h1 h2 he
  refine (Does.val (v := .slice (some ⟨w.heap.size, 0, none⟩) s.size (grownCap w s.size 0 e)) (w' := Lib.bytesWorld w e s) ?_).mono ?_
  · simp [execOp, ha.ev hx, hr]
  · rintro v w' ⟨rfl, rfl⟩
    refine ⟨_, _, by rw [bytesOf_length], ⟨rfl, rfl, rfl, by rw [Lib.bytesWorld_size]; omega, fun k hk _ => Lib.bytesWorld_at_old w e s k hk⟩, ?_, ?_, (bytesOf s).map (Value.int .u8), els_map _, fun _ => ⟨w.heap.size, 0, _, e, _, rfl, by simp [Old], Lib.bytesWorld_at_new w e s, fun j v hv => ?_⟩⟩
    · rw [bytesOf_length]; exact grownCap_ge w s.size 0 e
    · exact grownCap_le_maxLen w s.size 0 e (by simp only [maxLen]; omega)
    · rw [Nat.zero_add, Lib.bytesCells, Array.getElem?_append]
      have hj : j < s.size := by
        have := (List.getElem?_eq_some_iff.1 hv).1
        rwa [List.length_map, bytesOf_length] at this
      rw [if_pos (by rw [Array.size_map]; exact hj)]
      simp only [bytesOf, List.map_map, List.getElem?_map] at hv
      rw [Array.getElem?_map, ← Array.getElem?_toList]
      simpa using hv

/-! #### a slice of one's own, written -/
theorem d_indexOw {e : TypeId} (ha : Has n l a) (hx : ev l x = some (.slice p xs.length c)) (hy : ev l y = some (.int k i)) (hT : P.underlying T = some (.slice e)) (hs : ∀ w, (sizeOf e).run P w = .ok kd.sz w) (r : Ow A w e kd p c xs) (h0 : 0 ≤ i ∧ i < xs.length) :
    Does P ⟨d, .indexAddr T x y, ty, pos, af, g⟩ a w (fun v w' => w' = w ∧ ∃ b, p = some ⟨b, 0, none⟩ ∧ v = .pointer (some ⟨b, i.toNat * kd.sz, none⟩)) := by
  obtain ⟨cells, h1, h2⟩ := r
  rcases own_none h1 with ⟨rfl, h, _⟩ | ⟨b, cur, rfl, hg, _⟩
  · omega
  · refine (Does.val (v := .pointer (some ⟨b, i.toNat * kd.sz, none⟩)) (w' := w) ?_).mono ?_
    · simp [execOp, ha.ev hx, ha.ev hy, Instr.indexAt, asIntOf, run_underlying hT, h0, hs, add_at]
    · rintro v w' ⟨rfl, rfl⟩
      exact ⟨rfl, b, rfl, rfl⟩
theorem d_storeOw {e : TypeId} {v : Value} {vs : List Value} {yv : α} {q : Nat} (fs : Option Addr → List (Option Addr)) (hfs : ∀ q, fs q = lf ++ q :: rt) (ha : Has n l a) (hs : ∀ w, (sizeOf T).run P w = .ok kd.sz w) (hp : p = some ⟨b, 0, none⟩) (hx : ev l x = some (.pointer (some ⟨b, q * kd.sz, none⟩))) (hy : ev l y = some v) (hv : v.cells = vs.toArray)
    (hE : Ex w0 S0 (fs p) w) (ho : Ow (Av (fs p) B) w e kd p c xs) (hq : q < xs.length) (hK : kd.K (Av (fs p) B) w.heap yv vs) :
    Does P ⟨d, .store T x y, ty, pos, af, g⟩ a w (fun _ w' => Step (fs p) (fs p) w w' ∧ Ex w0 S0 (fs p) w' ∧ Fr w w' (fun k => ∃ s, p = some s ∧ s.block = k) ∧ Ow (Av (fs p) B) w' e kd p c (xs.set q yv)) := by
  subst hp
  obtain ⟨cells, h1, h2⟩ := ho
  have hE' := hE
  rw [hfs] at hE'
  rcases own_none h1 with ⟨h, _⟩ | ⟨b', cur, h, hg, h3, h4, h5, h6⟩
  · cases h
  · simp only [Option.some.injEq, Addr.mk.injEq, and_true] at h
    subst h
    have hvl : vs.length = kd.sz := kd.len hK
    have hcl : cells.length = xs.length * kd.sz := h1.1
    have hqs : q * kd.sz + kd.sz ≤ xs.length * kd.sz := by rw [← Nat.succ_mul]; exact Nat.mul_le_mul_right _ hq
    have hcc : xs.length * kd.sz ≤ c * kd.sz := Nat.mul_le_mul_right _ h3
    have hst := run_storeCells_at P b (q * kd.sz) e vs 0 cur w hg (by omega) (kd.one hK)
    simp only [Nat.add_zero] at hst
    have hf : Fr w (w.setRow b (cur.toList.take (q * kd.sz) ++ vs ++ cur.toList.drop (q * kd.sz + vs.length)).toArray) (fun k => ∃ s, some (⟨b, 0, none⟩ : Addr) = some s ∧ s.block = k) :=
      (Fr.setRow w b _).mono (fun k _ hk => ⟨_, rfl, hk.symm⟩)
    refine (Does.unit (w' := w.setRow b (cur.toList.take (q * kd.sz) ++ vs ++ cur.toList.drop (q * kd.sz + vs.length)).toArray) ?_).mono ?_
    · have : (storeVar T ⟨b, q * kd.sz, none⟩ v).run P w = .ok () (w.setRow b (cur.toList.take (q * kd.sz) ++ vs ++ cur.toList.drop (q * kd.sz + vs.length)).toArray) := by
        simp only [storeVar, Sem.run_bind, hs, Result.andThen_ok, hv]
        rw [if_neg (by simp [hvl])]
        simpa using hst
      simp [execOp, ha.ev hx, ha.ev hy, Instr.storeAt, Instr.sureAddr, this]
    · rintro u w' ⟨rfl, rfl⟩
      have hnew : ∀ s, some (⟨b, 0, none⟩ : Addr) = some s → s.block < (w.setRow b (cur.toList.take (q * kd.sz) ++ vs ++ cur.toList.drop (q * kd.sz + vs.length)).toArray).heap.size ∧ ((∃ t, some (⟨b, 0, none⟩ : Addr) = some t ∧ t.block = s.block) ∨ w.heap.size ≤ s.block) := by
        intro s hs
        injection hs with hs
        subst hs
        exact ⟨by simpa using lt_of_get hg, .inl ⟨_, rfl, rfl⟩⟩
      have hstep : Step (fs (some ⟨b, 0, none⟩)) (fs (some ⟨b, 0, none⟩)) w (w.setRow b (cur.toList.take (q * kd.sz) ++ vs ++ cur.toList.drop (q * kd.sz + vs.length)).toArray) := by
        rw [hfs]
        exact Step.wrote hf (fun s hs => (hnew s hs).2)
      refine ⟨hstep, by rw [hfs]; exact hE'.wrote hf hnew, hf, cells.take (q * kd.sz) ++ vs ++ cells.drop (q * kd.sz + kd.sz), ?_, ?_⟩
      · refine ⟨?_, .inr ⟨b, c, _, rfl, Nat.zero_le _, setRow_heap w b cur _ e _ hg, by rw [List.length_set]; exact h3, h4, ?_, ?_⟩⟩
        · simp only [List.length_append, List.length_take, List.length_drop, List.length_set]
          omega
        · simp only [List.size_toArray, List.length_append, List.length_take, List.length_drop, Array.length_toList]
          omega
        · have hcut : ∀ r, r ≤ xs.length * kd.sz → cur.toList.take r = cells.take r := by
            intro r hr
            rw [← h6, List.take_take, Nat.min_eq_left hr]
          rw [List.length_set, hcut _ (by omega), hvl]
          have hl1 : (cells.take (q * kd.sz) ++ vs).length = q * kd.sz + kd.sz := by rw [List.length_append, List.length_take, hvl]; omega
          rw [List.take_append, List.take_of_length_le (by omega), hl1]
          congr 1
          rw [← h6, List.drop_take]
      · exact (h2.set (fun _ _ h => kd.len h) q hq hK).imp (fun _ _ hx => hstep.trK hx)
end
end Go.Sx
