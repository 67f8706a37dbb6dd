/- Own work. A part of the proof of a law of this seat: The walk library: what is of no program. -/
import Derived.Test.YtmljbiijlljhfaaSx11
import Derived.Laws.RangeAny
import Derived.Lib.OthersKept
namespace Go.Sx
open Go Go.RowKit
set_option linter.unusedSimpArgs false
set_option linter.unusedVariables false
section
variable {P : Program}
-- append(v, make([]T, n)...): after the text that the kit's printer writes for a seat
theorem run_append_zeros (w : World) (base : Nat) (t ti ty e : TypeId) (i : TypeInfo) (z : Value) (size bytes : Nat) (ht : P.underlying t = some (.slice e)) {k : IntKind} (hti : P.underlying ti = some (.int k)) (hi : P.info? e = some i) (hz : i.zero = some z)
    (hsize : i.size = size) (hby : i.bytes = bytes) (hzs : z.cells.size = size) (hsz : 0 < size) (hb0 : 0 < bytes)
    (v : Value) (n : Nat) (xs : List Value) (hown : w.ownsRow base e size v n xs) (kx : IntKind) (m : Nat) (h1 : ∀ u ∈ (Builtin.zeroCells z.cells m).toList, u.oneCell' = true)
    (hbytes : (n + m) * bytes ≤ 140737488355328) (hbase : base ≤ w.heap.size) :
    ∃ v' w', (Builtin.append_ #[t, ti] ty #[v, .int kx m]).run P w = .ok v' w' ∧ w'.ownsRow base e size v' (n + m) (xs ++ (Builtin.zeroCells z.cells m).toList) ∧ w.grownBy w' v.ownBlock ∧
      (v'.ownBlock = v.ownBlock ∨ v'.ownBlock = some w.heap.size) := by
  subst hsize
  subst hby
  have hle : n + m ≤ 140737488355328 := Nat.le_trans (Nat.le_mul_of_pos_right _ hb0) hbytes
  have h63 : n + m ≤ maxLen := by simp only [maxLen]; omega
  have hw : IntKind.i64.wrap (m : Int) = m := by rw [IntKind.wrap_i64]; omega
  have hw0 : IntKind.i64.wrap 0 = 0 := by rw [IntKind.wrap_i64]; rfl
  have hneg : ¬ ((m : Int) < 0) := by omega
  have hmb : m * i.bytes ≤ 140737488355328 := Nat.le_trans (Nat.mul_le_mul_right _ (Nat.le_add_left m n)) hbytes
  have hbig : ¬ (281474976710656 < (m : Int) * (i.bytes : Int)) := by
    rw [← Int.natCast_mul]
    omega
  have hsn : i.size ≠ 0 := by omega
  obtain ⟨news, hnews⟩ : ∃ news, news = (Builtin.zeroCells z.cells m).toList := ⟨_, rfl⟩
  rw [← hnews] at h1 ⊢
  have hl : news.length = m * i.size := by rw [hnews, Array.length_toList, size_zeroCells, hzs]
  have hna : Builtin.zeroCells z.cells m = news.toArray := by rw [hnews]
  have hlen : (xs ++ news).length = (n + m) * i.size := by rw [List.length_append, hown.1, hl, Nat.add_mul]
  have hnil : m = 0 → news = [] := fun h => List.eq_nil_of_length_eq_zero (by rw [hl, h, Nat.zero_mul])
  have grown : ∀ (old : Nat), old < n + m → ∀ (row : Option Nat),
      (w.drew.alloc (.cells (xs.toArray ++ news.toArray ++ Builtin.zeroCells z.cells (grownCap w (n + m) old e - (n + m))) e)).ownsRow base e i.size
        (.slice (some ⟨w.heap.size, 0, none⟩) (n + m) (grownCap w (n + m) old e)) (n + m) (xs ++ news) ∧
      w.grownBy (w.drew.alloc (.cells (xs.toArray ++ news.toArray ++ Builtin.zeroCells z.cells (grownCap w (n + m) old e - (n + m))) e)) row := by
    intro old ho row
    have hge := grownCap_ge w (n + m) old e
    have hcm : grownCap w (n + m) old e ≤ maxLen := grownCap_le_maxLen w (n + m) old e h63
    refine ⟨⟨hlen, .inr ⟨w.heap.size, _, _, rfl, hbase, heap_alloc_new w.drew _, hge, hcm, ?_, ?_⟩⟩, ⟨rfl, rfl, rfl, by simp, fun k hk _ => heap_alloc_old w.drew _ hk⟩⟩
    · simp only [Array.size_append, List.size_toArray, size_zeroCells, hzs, hown.1, hl, ← Nat.add_mul]
      congr 1
      omega
    · simp only [Array.toList_append, List.append_assoc]
      rw [← List.append_assoc, ← hlen]
      exact List.take_left
  have runs : ∀ (A : Option Addr) (cap : Nat), cap < n + m → (Builtin.firstCells i.size n (.slice A n cap)).run P w.drew = .ok xs.toArray w.drew → (Builtin.append_ #[t, ti] ty #[.slice A n cap, .int kx m]).run P w =
      .ok (.slice (some ⟨w.heap.size, 0, none⟩) (n + m) (grownCap w (n + m) cap e)) (w.drew.alloc (.cells (xs.toArray ++ news.toArray ++ Builtin.zeroCells z.cells (grownCap w (n + m) cap e - (n + m))) e)) := by
    intro A cap hcap hfo
    have hn : ¬ (n + m ≤ cap) := by omega
    have h63' : ¬ (9223372036854775807 < ((n : Int) + (m : Int))) := by omega
    have hfit := growslice_fits hcap hbytes
    have h48' : ¬ (281474976710656 < Builtin.nextslicecap (n + m) cap * i.bytes) := by omega
    by_cases hm : m = 0
    · have hnl := hnil hm
      subst hm
      rw [hnl]
      simp only [Nat.add_zero] at hn h63' h48' ⊢
      have h63'' : ¬ (9223372036854775807 < (n : Int)) := by omega
      simp [Builtin.append_, run_underlying ht, run_underlying hti, sizeOf, typeInfo, zeroValue, hi, hz, asInt, asIntOf, hw0, hn, h63'', h48', Question.forced, hfo, newRow, grownCap]
    · have hmz : ¬ (m * i.size = 0) := Nat.mul_ne_zero hm hsn
      simp [Builtin.append_, run_underlying ht, run_underlying hti, sizeOf, typeInfo, zeroValue, hi, hz, asInt, asIntOf, hw, hneg, hbig, hn, h63', h48', Question.forced, hfo, newRow, grownCap, hmz, hna]
      congr 2
      apply Array.ext'
      simp [List.append_assoc]
  rcases hown.2 with ⟨rfl, rfl⟩ | ⟨g, cap, cur, rfl, hbg, hg, hnc, hcm, hcs, htake⟩
  · have hx : xs = [] := List.eq_nil_of_length_eq_zero (by simpa using hown.1)
    subst hx
    by_cases hm : m = 0
    · have hnl := hnil hm
      subst hm
      rw [hnl]
      refine ⟨.slice none 0 0, w, ?_, World.ownsRow_nil w base e i.size, ⟨rfl, rfl, rfl, Nat.le_refl _, fun _ _ _ => rfl⟩, Or.inl rfl⟩
      simp [Builtin.append_, run_underlying ht, run_underlying hti, sizeOf, typeInfo, hi, asInt, asIntOf, hw0]
    · have hgr := grown 0 (by omega) (Value.ownBlock (.slice none 0 0))
      exact ⟨_, _, runs none 0 (by omega) (by simp [Builtin.firstCells]), hgr.1, hgr.2, Or.inr rfl⟩
  · by_cases hroom : n + m ≤ cap
    · have hfit : n * i.size + news.length ≤ cur.size := by rw [hl, hcs, ← Nat.add_mul]; exact Nat.mul_le_mul_right _ hroom
      have hst := run_storeCells_at P g (n * i.size) e news 0 cur w hg hfit h1
      simp only [Nat.add_zero] at hst
      refine ⟨.slice (some ⟨g, 0, none⟩) (n + m) cap, w.setRow g (cur.toList.take (n * i.size) ++ news ++ cur.toList.drop (n * i.size + news.length)).toArray, ?_, ⟨hlen, .inr ⟨g, cap, _, rfl, hbg, setRow_heap w g cur _ e _ hg, hroom, hcm, ?_, ?_⟩⟩,
        ⟨rfl, rfl, rfl, by simp, fun k _ hk => setRow_other w g k _ (fun e => hk (by simp [Value.ownBlock, e]))⟩, Or.inl rfl⟩
      · by_cases hm : m = 0
        · have hnl := hnil hm
          subst hm
          rw [hnl] at hst ⊢
          simp [Builtin.append_, run_underlying ht, run_underlying hti, sizeOf, typeInfo, hi, asInt, asIntOf, hw0, hnc, add_at, hst]
        · have hmz : ¬ (m * i.size = 0) := Nat.mul_ne_zero hm hsn
          simp [Builtin.append_, run_underlying ht, run_underlying hti, sizeOf, typeInfo, zeroValue, hi, hz, asInt, asIntOf, hw, hneg, hbig, hroom, hmz, hna, add_at, hst]
      · simp only [List.size_toArray, List.length_append, List.length_take, List.length_drop, Array.length_toList]
        omega
      · have h6 : cur.toList.take (n * i.size) = xs := htake
        rw [h6, ← hlen]
        exact List.take_left
    · have holds : ∀ j u, xs[j]? = some u → w.cell? ((⟨g, 0, none⟩ : Addr).add j) = some u := hown.cells (g := g) rfl
      have hgr := grown cap (by omega) (Value.ownBlock (.slice (some ⟨g, 0, none⟩) n cap))
      exact ⟨_, _, runs (some ⟨g, 0, none⟩) cap (by omega) (run_firstCells_some (P := P) w.drew i.size n _ n cap xs hown.1 (by simpa using holds)), hgr.1, hgr.2, Or.inr rfl⟩
end
section
variable {P : Program} {a : Act} {w w' : World} {n : Nat} {l : List (Nat × Value)}
variable {d : Option Nat} {ty T Ti : TypeId} {pos : String} {af : Array Edge} {g : Option (Nat × Bool)} {x y z : Operand} {k k' : IntKind} {i : Int}
variable {α : Type} {A : Nat → Prop} {kd : Kd α} {p : Option Addr} {c : Nat} {xs : List α}
theorem zeros_els {R : α → List Value → Prop} {z : Array Value} {zx : α} (h : R zx z.toList) : ∀ m, Els R (List.replicate m zx) (Builtin.zeroCells z m).toList := by
  have hrep : ∀ q, (Builtin.zeroCells z (q + 1)).toList = z.toList ++ (Builtin.zeroCells z q).toList := by
    intro q
    apply List.ext_getElem
    · simp [Builtin.zeroCells, Nat.add_mul]; omega
    · intro j h1 h2
      simp only [Builtin.zeroCells, Array.toList_map, List.getElem_map, Array.getElem_toList, Array.getElem_range, List.getElem_append, Array.length_toList]
      split
      · rename_i hj
        rw [Nat.mod_eq_of_lt hj, getElem!_pos z j hj]
      · rename_i hj
        congr 1
        rw [Nat.mod_eq_sub_mod (by omega)]
  intro m
  induction m with
  | zero => simp [Builtin.zeroCells]; exact .nil
  | succ q ih => rw [List.replicate_succ, hrep]; exact .cons h ih
/-- append(v, make([]T, n)...) -/
theorem d_appendZ {e : TypeId} {zv : Value} {zx : α} {bytes : Nat} {B S0 : Nat → Prop} {w0 : World} {lf rt : List (Option Addr)} (fs : Option Addr → List (Option Addr)) (hfs : ∀ q, fs q = lf ++ q :: rt) (ha : Has n l a) (hT : P.underlying T = some (.slice e)) (hi : (P.info? e).map (fun i => (i.zero, i.size, i.bytes)) = some (some zv, kd.sz, bytes)) (hz : zv.cells.size = kd.sz) (hs0 : 0 < kd.sz) (hb0 : 0 < bytes)
    (hx : ev l x = some (.slice p xs.length c)) (hti : P.underlying Ti = some (.int k')) (hzx : ∀ A h, kd.K A h zx zv.cells.toList) (hy : ev l y = some (.int k i)) (hi0 : 0 ≤ i) (hE : Ex w0 S0 (fs p) w) (ho : Ow (Av (fs p) B) w e kd p c xs) (hl : (xs.length + i.toNat) * bytes ≤ 140737488355328) :
    Does P ⟨d, .call { callee := .builtin .append, args := #[x, y], argTypes := #[T, Ti] }, ty, pos, af, g⟩ a w (fun v w' => ∃ p' c', v = .slice p' (xs ++ List.replicate i.toNat zx).length c' ∧ Step (fs p) (fs p') w w' ∧ Ex w0 S0 (fs p') w' ∧
      Fr w w' (fun k => ∃ s, p = some s ∧ s.block = k) ∧ Ow (Av (fs p') B) w' e kd p' c' (xs ++ List.replicate i.toNat zx)) := by
  obtain ⟨i0, hin, hzz⟩ := Option.map_eq_some_iff.1 hi
  simp only [Prod.mk.injEq] at hzz
  obtain ⟨hz0, hz1, hz2⟩ := hzz
  have hE' := hE
  rw [hfs] at hE'
  obtain ⟨cells, h1, h2⟩ := ho
  obtain ⟨m, rfl⟩ := Int.eq_ofNat_of_zero_le hi0
  simp only [Int.toNat_natCast] at hl ⊢
  have hone : ∀ u ∈ (Builtin.zeroCells zv.cells m).toList, u.oneCell' = true := by
    intro u hu
    obtain ⟨x, c, hx, hm⟩ := (zeros_els (R := kd.K (Av (fs p) B) w.heap) (hzx _ _) m).mem hu
    exact kd.one hx u hm
  have hels : Els (kd.K (Av (fs p) B) w.heap) (xs ++ List.replicate m zx) (cells ++ (Builtin.zeroCells zv.cells m).toList) := h2.append (zeros_els (hzx _ _) m)
  obtain ⟨v, w', hr, ho', hg', hat⟩ := run_append_zeros (P := P) w 0 T Ti ty e i0 zv kd.sz bytes hT hti hin hz0 hz1 hz2 hz hs0 hb0 (.slice p xs.length c) xs.length cells h1 k m hone hl (Nat.zero_le _)
  refine (Does.val (v := v) (w' := w') ?_).mono ?_
  · simp [execOp, ha.ev hx, ha.ev hy, resolve, invoke, builtin, hr]
  · rintro v1 w1 ⟨rfl, rfl⟩
    have hlen : (xs ++ List.replicate m zx).length = xs.length + m := by rw [List.length_append, List.length_replicate]
    obtain ⟨p', c', rfl⟩ : ∃ p' c', v1 = .slice p' (xs ++ List.replicate m zx).length c' := by
      rw [hlen]
      rcases ho'.2 with ⟨rfl, h0⟩ | ⟨g, cap, cur, rfl, _⟩
      · rw [h0]; exact ⟨_, _, rfl⟩
      · exact ⟨_, _, rfl⟩
    have hob : ∀ (o : Option Addr) (m c : Nat) (k : Nat), Value.ownBlock (.slice o m c) = some k ↔ ∃ s, o = some s ∧ s.block = k := by
      intro o m c k
      cases o <;> simp [Value.ownBlock]
    have hf : Fr w w1 (fun k => ∃ s, p = some s ∧ s.block = k) := (Fr.grown hg').mono (fun k _ hk => (hob _ _ _ _).1 hk.symm)
    have hnew : ∀ s, p' = some s → s.block < w1.heap.size ∧ ((∃ t, p = some t ∧ t.block = s.block) ∨ w.heap.size ≤ s.block) := by
      intro s hs
      have hlt : s.block < w1.heap.size := by
        rcases ho'.2 with ⟨h, _⟩ | ⟨g, cap, cur, h, _, hg, _⟩
        · simp only [Value.slice.injEq] at h
          rw [h.1] at hs; cases hs
        · simp only [Value.slice.injEq] at h
          rw [h.1] at hs
          injection hs with hs
          subst hs
          exact lt_of_get hg
      refine ⟨hlt, ?_⟩
      have hs' := (hob p' (xs ++ List.replicate m zx).length c' s.block).2 ⟨s, hs, rfl⟩
      rcases hat with hat | hat
      · rw [hs'] at hat
        exact .inl ((hob _ _ _ _).1 hat.symm)
      · rw [hs'] at hat
        injection hat with hat
        exact .inr (by omega)
    have hst : Step (fs p) (fs p') w w1 := by
      rw [hfs, hfs]
      exact Step.wrote hf (fun s hs => (hnew s hs).2)
    refine ⟨p', c', rfl, hst, ?_, hf, cells ++ (Builtin.zeroCells zv.cells m).toList, by rw [hlen] at ho' ⊢; exact ho', hels.imp (fun _ _ hx => hst.trK hx)⟩
    rw [hfs]
    exact hE'.wrote hf hnew

theorem d_capNil {e : TypeId} {m : Nat} (ha : Has n l a) (hT : P.underlying T = some (.slice e)) (hx : ev l x = some (.slice p m c)) : Does P ⟨d, .call { callee := .builtin .cap, args := #[x], argTypes := #[T] }, ty, pos, af, g⟩ a w (Is (.int .i64 (c : Int)) w) :=
  Does.val (by simp [execOp, ha.ev hx, resolve, invoke, builtin, Builtin.cap_, run_underlying hT, goInt])
theorem d_sliceNil {e : TypeId} {s : Nat} (ha : Has n l a) (hT : P.underlying T = some (.slice e)) (hs : ∀ w, (sizeOf e).run P w = .ok s w) (hx : ev l x = some (.slice none 0 0)) (hz : ev l z = some (.int k' 0)) :
    Does P ⟨d, .slice T x none (some z) none, ty, pos, af, g⟩ a w (Is (.slice none 0 0) w) := by
  have hb : (Instr.sliceBounds true 0 0 none (some (.int k' 0)) none).run P w = .ok (0, 0, 0) w := by
    simp [Instr.sliceBounds, run_sliceBound]
  exact Does.val (by simp [execOp, ha.ev hx, Instr.sliceAt, Instr.slice, run_underlying hT, ha.ev hz, hb, hs])
end
/-! ### a range over a string -/
def It (w : World) (b : Nat) (s : ByteArray) (pos : Nat) : Prop := w.heap[b]? = some (.stringIter s pos)
section
variable {P : Program} {a : Act} {w w' : World} {n : Nat} {l : List (Nat × Value)} {b : Nat} {s : ByteArray} {p : Nat}
variable {d : Option Nat} {ty T : TypeId} {pos : String} {af : Array Edge} {g : Option (Nat × Bool)} {x : Operand} {S : Nat → Prop}
theorem It.keep (h : It w b s p) (hf : Fr w w' S) (hb : ¬ S b) : It w' b s p := (hf.blk b (lt_of_get h) hb).trans h
theorem It.stay (h : It w b s p) (hf : Fr w w' No) : It w' b s p := h.keep hf id
theorem d_range (ha : Has n l a) (hT : P.underlying T = some .string) (hx : ev l x = some (.string s)) :
    Does P ⟨d, .range T x, ty, pos, af, g⟩ a w (fun v w' => ∃ b, v = .pointer (some ⟨b, 0, none⟩) ∧ w.heap.size ≤ b ∧ b < w'.heap.size ∧ It w' b s 0 ∧ Fr w w' No) := by
  refine (Does.val (v := .pointer (some ⟨w.heap.size, 0, none⟩)) (w' := w.alloc (.stringIter s 0)) ?_).mono ?_
  · have := run_range_string (P := P) w T s hT
    simp [execOp, ha.ev hx, Instr.range, run_underlying hT]
  · rintro v w' ⟨rfl, rfl⟩
    exact ⟨_, rfl, Nat.le_refl _, by simp, by unfold It; exact heap_alloc_new w _, Fr.alloc _ _ _⟩
theorem d_next (ha : Has n l a) (hx : ev l x = some (.pointer (some ⟨b, 0, none⟩))) (hi : It w b s p) {t : Bool} (hq : decide (p < s.size) = t) (ht : t = true) :
    Does P ⟨d, .next x true, ty, pos, af, g⟩ a w (fun v w' => v = .tuple #[.bool true, .int .i64 p, .int .i32 (Utf8.decode s p).1] ∧ It w' b s (p + (Utf8.decode s p).2) ∧ Fr w w' (fun k => k = b)) := by
  have h : p < s.size := of_decide_eq_true (hq.trans ht)
  refine (Does.val (v := .tuple #[.bool true, .int .i64 p, .int .i32 (Utf8.decode s p).1]) (w' := w.iterAt b s (p + (Utf8.decode s p).2)) ?_).mono ?_
  · simp [execOp, ha.ev hx, Lib.run_next_any_at w b s p ty hi h]
  · rintro v w' ⟨rfl, rfl⟩
    exact ⟨rfl, Lib.iterAt_heap w b s p _ hi, rfl, rfl, rfl, by simp [World.iterAt], fun k _ hk => by simp [World.iterAt, Array.getElem?_setIfInBounds_ne (fun e => hk e.symm)]⟩
theorem d_nextEnd (ha : Has n l a) (hx : ev l x = some (.pointer (some ⟨b, 0, none⟩))) (hi : It w b s p) {t : Bool} (hq : decide (p < s.size) = t) (ht : t = false) :
    Does P ⟨d, .next x true, ty, pos, af, g⟩ a w (Is (.tuple #[.bool false]) w) := by
  have h : ¬ p < s.size := of_decide_eq_false (hq.trans ht)
  exact Does.val (by simp [execOp, ha.ev hx, Lib.run_next_end_at w b s p ty hi h])
end
section
variable {P : Program} {a : Act} {w : World} {n : Nat} {l : List (Nat × Value)}
variable {d : Option Nat} {ty : TypeId} {pos : String} {af : Array Edge} {g : Option (Nat × Bool)}
/-- A call of a function value that is known. -/
theorem d_callV {f : FuncId} {y : Operand} {xs : List Operand} {Ts : Array TypeId} {vs : List Value} {R : Value → World → Prop} (hf : ∀ args w, (callFunc f args).run P w = .ok (.enter f args) w) (ha : Has n l a) (hy : ev l y = some (.func (.func f) #[] #[]))
    (hx : xs.map (ev l) = vs.map some) (hc : Calls P f vs.toArray w (Ret R)) : Does P ⟨d, .call { callee := .value y, args := xs.toArray, argTypes := Ts }, ty, pos, af, g⟩ a w R := by
  refine Does.enter (f := f) (args := vs.toArray) ?_ hc
  simp [execOp, resolve, ha.ev hy, Deferred.ofValue, invoke, evs ha xs vs hx, hf]
end
end Go.Sx
