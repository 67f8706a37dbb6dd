/- Own work. A part of the proof of a law of this seat: The walk library: what is of no program. -/
import Derived.Test.YtmljbiijlljhfaaSx3
import Derived.Maps.AppendAt
namespace Go.Sx
open Go Go.RowKit

/-! ### cells -/
/-- These cells lie there. -/
def At (w : World) (b o : Nat) (cs : List Value) : Prop := ∀ j v, cs[j]? = some v → w.cell? ⟨b, o + j, none⟩ = some v
/-- A block of the call's own, whole. -/
def Bx (w : World) (b : Nat) (T : TypeId) (cs : List Value) : Prop := w.heap[b]? = some (.cells cs.toArray T (0, 0))

section
variable {w w' w0 : World} {b o : Nat} {T : TypeId} {cs : List Value} {as as' : List (Option Addr)} {S0 S : Nat → Prop}
theorem Bx.at_ (h : Bx w b T cs) : At w b 0 cs := by
  intro j v hv
  rw [Nat.zero_add, cell_of_row w b j cs.toArray T (0, 0) h]
  simpa using hv
theorem Bx.lt (h : Bx w b T cs) : b < w.heap.size := lt_of_get h
theorem At.sub (h : At w b o cs) (i m : Nat) : At w b (o + i) ((cs.drop i).take m) := by
  intro j v hv
  rw [Nat.add_assoc]
  refine h (i + j) v ?_
  rw [List.getElem?_take] at hv
  split at hv
  · rwa [List.getElem?_drop] at hv
  · cases hv
theorem Bx.frozen (h : Bx w b T cs) (o : Nat) : w.frozen? ⟨b, o, none⟩ = false := frozen_of_row w b o cs.toArray T h
/-- A block lives on where others turn. -/
theorem Bx.keep (h : Bx w b T cs) (hf : Fr w w' S) (hb : ¬ S b) : Bx w' b T cs := (hf.blk b (lt_of_get h) hb).trans h
theorem Bx.stay (h : Bx w b T cs) (hf : Fr w w' No) : Bx w' b T cs := h.keep hf id
theorem Bx.drew (h : Bx w b T cs) : Bx w.drew b T cs := h
end

section
variable {P : Program} {a : Act} {w : World} {n : Nat} {l : List (Nat × Value)}
variable {d : Option Nat} {ty T T' : TypeId} {pos : String} {af : Array Edge} {g : Option (Nat × Bool)} {x y z : Operand} {k k' : IntKind} {i j : Int} {b o o' : Nat}

theorem add_at (b o n : Nat) : (⟨b, o, none⟩ : Addr).add n = ⟨b, o + n, none⟩ := by unfold Addr.add; split <;> simp_all

theorem newCells (w : World) (cs : Array Value) (T : TypeId) : (w.alloc (.cells cs T)).heap[w.heap.size]? = some (.cells cs T (0, 0)) := heap_alloc_new w _

/-- var x T -/
theorem d_alloc {zv : Value} {cs : List Value} (hz : ∀ w, (zeroValue T).run P w = .ok zv w) (hc : zv.cells.toList = cs) :
    Does P ⟨d, .alloc T, ty, pos, af, g⟩ a w (fun v w' => ∃ b, v = .pointer (some ⟨b, 0, none⟩) ∧ w.heap.size ≤ b ∧ b < w'.heap.size ∧ Bx w' b T cs ∧ Fr w w' No) := by
  subst hc
  refine (Does.val (v := .pointer (some ⟨w.heap.size, 0, none⟩)) (w' := w.alloc (.cells zv.cells T)) ?_).mono ?_
  · simp [execOp, Instr.alloc, hz, newVar, newRow]
  · rintro v w' ⟨rfl, rfl⟩
    exact ⟨_, rfl, Nat.le_refl _, by simp, by unfold Bx; simpa using newCells w zv.cells T, Fr.alloc _ _ _⟩
theorem d_box {v0 : Value} {cs : List Value} (ha : Has n l a) (hx : ev l x = some v0) (hc : v0.cells = cs.toArray) :
    Does P ⟨d, .box T x, ty, pos, af, g⟩ a w (fun v w' => ∃ b, v = .pointer (some ⟨b, 0, none⟩) ∧ w.heap.size ≤ b ∧ b < w'.heap.size ∧ Bx w' b T cs ∧ Fr w w' No) := by
  refine (Does.val (v := .pointer (some ⟨w.heap.size, 0, none⟩)) (w' := w.alloc (.cells v0.cells T)) ?_).mono ?_
  · simp [execOp, Instr.box, ha.ev hx, newVar, newRow]
  · rintro v w' ⟨rfl, rfl⟩
    exact ⟨_, rfl, Nat.le_refl _, by simp, by unfold Bx; simpa [hc] using newCells w v0.cells T, Fr.alloc _ _ _⟩

theorem d_fieldAddr {S : TypeId} {fi s : Nat} {fields : Array Field} {f : Field} (ha : Has n l a) (hx : ev l x = some (.pointer (some ⟨b, o, none⟩))) (hu : P.underlying S = some (.struct fields)) (hf : fields[fi]? = some f)
    (hs : ∀ w, (sizeOf f.type).run P w = .ok (s + 1) w) (ho : o + f.offset = o') : Does P ⟨d, .fieldAddr S x fi, ty, pos, af, g⟩ a w (Is (.pointer (some ⟨b, o', none⟩)) w) :=
  Does.val (by simp [execOp, ha.ev hx, Instr.fieldAt, run_underlying hu, hf, Instr.sureAddr, fieldPlace, hs, add_at, ho])

theorem run_load_cell {w : World} {v : Value} (hv : w.cell? ⟨b, o, none⟩ = some v) (hg : ∀ w, (isAgg T).run P w = .ok false w) : (loadVar T ⟨b, o, none⟩).run P w = .ok v w := by
  simp [loadVar, hg, run_load, hv]
/-- A cell is read. -/
theorem d_load {v : Value} (ha : Has n l a) (hx : ev l x = some (.pointer (some ⟨b, o, none⟩))) (hv : w.cell? ⟨b, o, none⟩ = some v) (hg : ∀ w, (isAgg T).run P w = .ok false w) : Does P ⟨d, .load T x, ty, pos, af, g⟩ a w (Is v w) :=
  Does.val (by simp [execOp, ha.ev hx, Instr.loadAt, Instr.sureAddr, run_load_cell hv hg])
/-- A struct or an array is read. -/
theorem d_loadAgg {cs : List Value} {s : Nat} (ha : Has n l a) (hx : ev l x = some (.pointer (some ⟨b, o, none⟩))) (hc : At w b o cs) (hg : ∀ w, (isAgg T).run P w = .ok true w) (hs : ∀ w, (sizeOf T).run P w = .ok s w) (hl : cs.length = s) :
    Does P ⟨d, .load T x, ty, pos, af, g⟩ a w (Is (.agg cs.toArray) w) := by
  refine Does.val ?_
  have hr : (loadCells ⟨b, o, none⟩ s).run P w = .ok cs.toArray w := by
    rw [← hl]
    exact run_loadCells_list w _ cs (fun j v hv => by rw [add_at]; exact hc j v hv)
  simp [execOp, ha.ev hx, Instr.loadAt, Instr.sureAddr, loadVar, hg, hs, hr]

def put (cs : List Value) (o : Nat) (vs : List Value) : List Value := cs.take o ++ vs ++ cs.drop (o + vs.length)
theorem Fr.setRow (w : World) (b : Nat) (cs : Array Value) : Fr w (w.setRow b cs) (fun k => k = b) := ⟨rfl, rfl, rfl, by simp, fun k _ hn => setRow_other w b k _ hn⟩
theorem run_store {w : World} {cs vs : List Value} {v : Value} {s : Nat} {TB : TypeId} (hb : Bx w b TB cs) (hv : v.cells = vs.toArray) (h1 : ∀ u ∈ vs, u.oneCell' = true) (hs : ∀ w, (sizeOf T).run P w = .ok s w) (hl : vs.length = s) (ho : o + s ≤ cs.length) :
    ∃ w', (storeVar T ⟨b, o, none⟩ v).run P w = .ok () w' ∧ Bx w' b TB (put cs o vs) ∧ Fr w w' (fun k => k = b) := by
  have hst := run_storeCells_at P b o TB vs 0 cs.toArray w hb (by simp; omega) h1
  simp only [Nat.add_zero] at hst
  refine ⟨w.setRow b (cs.take o ++ vs ++ cs.drop (o + vs.length)).toArray, ?_, ?_, Fr.setRow w b _⟩
  · simp only [storeVar, Sem.run_bind, hs, Result.andThen_ok, hv]
    rw [if_neg (by simp [hl])]
    simpa using hst
  · unfold Bx put
    exact setRow_heap w b cs.toArray _ TB _ hb
/-- A store into a block of one's own. -/
theorem d_store {cs vs : List Value} {v : Value} {s : Nat} {TB : TypeId} (ha : Has n l a) (hx : ev l x = some (.pointer (some ⟨b, o, none⟩))) (hy : ev l y = some v) (hb : Bx w b TB cs) (hv : v.cells = vs.toArray) (h1 : ∀ u ∈ vs, u.oneCell' = true) (hs : ∀ w, (sizeOf T).run P w = .ok s w) (hl : vs.length = s) (ho : o + s ≤ cs.length) :
    Does P ⟨d, .store T x y, ty, pos, af, g⟩ a w (fun _ w' => Bx w' b TB (put cs o vs) ∧ Fr w w' (fun k => k = b)) := by
  obtain ⟨w', hr, h2, h3⟩ := run_store (P := P) (T := T) hb hv h1 hs hl ho
  refine (Does.unit (w' := w') ?_).mono ?_
  · simp [execOp, ha.ev hx, ha.ev hy, Instr.storeAt, Instr.sureAddr, hr]
  · rintro v w' ⟨rfl, rfl⟩
    exact ⟨h2, h3⟩

/-! ### slices that are read -/
section
variable {α : Type} {A : Nat → Prop} {kd : Kd α} {p : Option Addr} {c : Nat} {xs : List α}
/-- a block that is there, and that is not of A -/
def Nb (A : Nat → Prop) (w : World) (b : Nat) : Prop := ¬ A b ∧ b < w.heap.size
theorem Raw.get (r : Raw A kd w.heap p c xs) (m : Nat) (hm : m < xs.length) : ∃ b o cs, p = some ⟨b, o, none⟩ ∧ Nb A w b ∧ kd.K A w.heap xs[m] cs ∧ At w b (o + m * kd.sz) cs := by
  obtain ⟨_, _, cells, he, hmm⟩ := r
  obtain ⟨b, o, C, T, fr, ha, hA, hb, hc⟩ := hmm (by intro e; rw [e] at hm; simp at hm)
  obtain ⟨cs, hK, hg⟩ := he.get (fun _ _ h => kd.len h) m hm
  refine ⟨b, o, cs, ha, ⟨hA, lt_of_get hb⟩, hK, fun j v hv => ?_⟩
  rw [cell_of_row w b _ C T fr hb, Nat.add_assoc]
  exact hc _ _ (hg j v hv)
theorem d_index {e : TypeId} (ha : Has n l a) (hx : ev l x = some (.slice p xs.length c)) (hy : ev l y = some (.int k i)) (hT : P.underlying T = some (.slice e)) (hs : ∀ w, (sizeOf e).run P w = .ok kd.sz w) (r : Raw A kd w.heap p c xs) (h0 : 0 ≤ i ∧ i < xs.length) (z : α) :
    Does P ⟨d, .indexAddr T x y, ty, pos, af, g⟩ a w (fun v w' => w' = w ∧ ∃ b o cs, v = .pointer (some ⟨b, o, none⟩) ∧ Nb A w b ∧ kd.K A w.heap (xs.getD i.toNat z) cs ∧ At w b o cs) := by
  have hm : i.toNat < xs.length := by omega
  obtain ⟨b, o, cs, rfl, hA, hK, hat⟩ := r.get i.toNat hm
  refine (Does.val (v := .pointer (some ⟨b, o + i.toNat * kd.sz, none⟩)) (w' := w) ?_).mono ?_
  · simp [execOp, ha.ev hx, ha.ev hy, Instr.indexAt, asIntOf, run_underlying hT, h0, hs, add_at]
  · rintro v w' ⟨rfl, rfl⟩
    refine ⟨rfl, b, _, cs, rfl, hA, ?_, hat⟩
    simpa [List.getD_eq_getElem?_getD, hm] using hK

/-! ### a slice of one's own -/
theorem own_none {w : World} {base : Nat} {e : TypeId} {size m : Nat} {a : Option Addr} {c : Nat} {cells : List Value} (h : w.ownsRow base e size (.slice a m c) m cells) : (a = none ∧ m = 0 ∧ c = 0) ∨ ∃ g cur, a = some ⟨g, 0, none⟩ ∧ w.heap[g]? = some (.cells cur e (0, 0)) ∧ m ≤ c ∧ c ≤ maxLen ∧ cur.size = c * size ∧ cur.toList.take (m * size) = cells := by
  rcases h.2 with ⟨h, h0⟩ | ⟨g, cap, cur, h, _, hg, h1, h2, h3, h4⟩
  · simp only [Value.slice.injEq] at h
    exact .inl ⟨h.1, h0, h.2.2⟩
  · simp only [Value.slice.injEq, true_and] at h
    obtain ⟨rfl, rfl⟩ := h
    exact .inr ⟨g, cur, rfl, hg, h1, h2, h3, h4⟩
theorem Ow.lt {e : TypeId} (h : Ow A w e kd p c xs) : ∀ q, p = some q → q.block < w.heap.size := by
  obtain ⟨cells, h1, _⟩ := h
  intro q hq
  rcases own_none h1 with ⟨rfl, _⟩ | ⟨g, cur, rfl, hg, _⟩
  · cases hq
  · injection hq with hq
    subst hq
    exact lt_of_get hg
theorem Ow.len {e : TypeId} (h : Ow A w e kd p c xs) : xs.length ≤ maxLen := by
  obtain ⟨cells, h1, _⟩ := h
  rcases own_none h1 with ⟨_, h0, _⟩ | ⟨g, cur, rfl, hg, h2, h3, _⟩
  · rw [h0]; simp [maxLen]
  · omega
/-- What is one's own may be read: by whom it does not change. -/
theorem Ow.raw {e : TypeId} {A' : Nat → Prop} (h : Ow A w e kd p c xs) (hA : ∀ k, k < w.heap.size → A' k → A k) (hn : ∀ q, p = some q → ¬ A' q.block) : Raw A' kd w.heap p c xs := by
  obtain ⟨cells, h1, h2⟩ := h
  have hl := h1.1
  rcases own_none h1 with ⟨rfl, h0, rfl⟩ | ⟨g, cur, rfl, hg, h3, h4, h5, h6⟩
  · have : xs = [] := List.eq_nil_of_length_eq_zero h0
    subst this
    exact Raw.nil _ _ _ _ _ (Nat.zero_le _)
  · refine ⟨h3, h4, cells, h2.imp (fun _ _ hx => kd.mono hx hA), fun _ => ⟨g, 0, cur, e, (0, 0), rfl, hn _ rfl, hg, fun j v hv => ?_⟩⟩
    rw [← h6, List.getElem?_take] at hv
    split at hv
    · simpa using hv
    · cases hv
theorem Ow.nil (A : Nat → Prop) (w : World) (e : TypeId) (kd : Kd α) : Ow A w e kd none 0 [] := ⟨[], World.ownsRow_nil w 0 e kd.sz, .nil⟩
/-- It lives on where others turn. -/
theorem Ow.keep {w' : World} {S : Nat → Prop} {e : TypeId} {A' : Nat → Prop} (h : Ow A w e kd p c xs) (hf : Fr w w' S) (hp : ∀ q, p = some q → ¬ S q.block) (hK : ∀ x cs, kd.K A w.heap x cs → kd.K A' w'.heap x cs) : Ow A' w' e kd p c xs := by
  obtain ⟨cells, h1, h2⟩ := h
  refine ⟨cells, ⟨h1.1, ?_⟩, h2.imp hK⟩
  rcases h1.2 with h | ⟨g, cap, cur, h, hb, hg, r⟩
  · exact .inl h
  · refine .inr ⟨g, cap, cur, h, hb, ?_, r⟩
    simp only [Value.slice.injEq] at h
    rw [hf.blk g (lt_of_get hg) (hp _ h.1)]
    exact hg

/-- append(v, ys...) onto one's own, what is appended being read. -/
theorem d_append {e : TypeId} {zv : Value} {bytes : Nat} {q : Option Addr} {cq : Nat} {ys : List α} {B B2 S0 : Nat → Prop} {w0 : World} {lf rt : List (Option Addr)} (fs : Option Addr → List (Option Addr)) (hfs : ∀ q, fs q = lf ++ q :: rt) (ha : Has n l a) (hT : P.underlying T = some (.slice e)) (hi : (P.info? e).map (fun i => (i.zero, i.size, i.bytes)) = some (some zv, kd.sz, bytes)) (hz : zv.cells.size = kd.sz) (hs0 : 0 < kd.sz) (hb0 : 0 < bytes)
    (hx : ev l x = some (.slice p xs.length c)) (hy : ev l y = some (.slice q ys.length cq)) (hE : Ex w0 S0 (fs p) w) (ho : Ow (Av (fs p) B) w e kd p c xs) (r : Raw B2 kd w.heap q cq ys) (hB : ∀ x cs, kd.K B2 w.heap x cs → kd.K (Av (fs p) B) w.heap x cs) (hl : (xs.length + ys.length) * bytes ≤ 140737488355328) :
    Does P ⟨d, .call { callee := .builtin .append, args := #[x, y], argTypes := #[T, T] }, ty, pos, af, g⟩ a w (fun v w' => ∃ p' c', v = .slice p' (xs ++ ys).length c' ∧ Step (fs p) (fs p') w w' ∧ Ex w0 S0 (fs p') w' ∧
      Fr w w' (fun k => ∃ s, p = some s ∧ s.block = k) ∧ Ow (Av (fs p') B) w' e kd p' c' (xs ++ ys)) := by
  obtain ⟨i0, hi0, hzz⟩ := Option.map_eq_some_iff.1 hi
  simp only [Prod.mk.injEq] at hzz
  obtain ⟨hz0, hz1, hz2⟩ := hzz
  have hE' := hE
  rw [hfs] at hE'
  obtain ⟨cells, h1, h2⟩ := ho
  obtain ⟨hq1, hq2, news, hn, hm⟩ := r
  have hnl : news.length = ys.length * kd.sz := hn.length (fun _ _ h => kd.len h)
  have hbnd : xs.length + ys.length ≤ 140737488355328 := Nat.le_trans (Nat.le_mul_of_pos_right _ hb0) hl
  have hone : ∀ u ∈ news, u.oneCell' = true := by
    intro u hu
    obtain ⟨x, c, hx, hm⟩ := hn.mem hu
    exact kd.one hx u hm
  have hels : Els (kd.K (Av (fs p) B) w.heap) (xs ++ ys) (cells ++ news) := h2.append (hn.imp hB)
  have run : ∃ v w', (Builtin.append_ #[T, T] ty #[.slice p xs.length c, .slice q ys.length cq]).run P w = .ok v w' ∧ w'.ownsRow 0 e kd.sz v (xs.length + ys.length) (cells ++ news) ∧ w.grownBy w' (Value.ownBlock (.slice p xs.length c)) ∧ (v.ownBlock = Value.ownBlock (.slice p xs.length c) ∨ v.ownBlock = some w.heap.size) := by
    by_cases h0 : ys = []
    · subst h0
      have hne : news = [] := List.eq_nil_of_length_eq_zero (by simpa using hnl)
      subst hne
      refine ⟨.slice p xs.length c, w, ?_, by simpa using h1, ⟨rfl, rfl, rfl, Nat.le_refl _, fun _ _ _ => rfl⟩, .inl rfl⟩
      rcases own_none h1 with ⟨rfl, h0, rfl⟩ | ⟨g, cur, rfl, hg, h3, h4, h5, h6⟩
      · cases q <;> simp [Builtin.append_, run_underlying hT, sizeOf, typeInfo, hi0, Builtin.lenOf, Builtin.firstCells, h0, loadCells, loadCellsFrom]
      · cases q <;> simp [Builtin.append_, run_underlying hT, sizeOf, typeInfo, hi0, Builtin.lenOf, Builtin.firstCells, h3, loadCells, loadCellsFrom, storeCells]
    · obtain ⟨b, o, C, TT, fr, rfl, _, hb, hc⟩ := hm h0
      obtain ⟨v, w', hr, ho', hg', _, hat⟩ := run_append_own_at (P := P) w 0 T ty e i0 zv kd.sz bytes hT hi0 hz0 hz1 hz2 hz hs0 (.slice p xs.length c) xs.length cells h1 ⟨b, o, none⟩ ys.length cq news hnl
        (fun j u hu => by rw [add_at, cell_of_row w b _ C TT fr hb]; exact hc j u hu) hone (by simp only [maxLen]; omega) hl (Nat.zero_le _)
      exact ⟨v, w', hr, ho', hg', hat⟩
  obtain ⟨v, w', hr, ho', hg', hat⟩ := run
  refine (Does.val (v := v) (w' := w') ?_).mono ?_
  · simp [execOp, ha.ev hx, ha.ev hy, resolve, invoke, builtin, hr]
  · rintro v1 w1 ⟨rfl, rfl⟩
    have hlen : (xs ++ ys).length = xs.length + ys.length := List.length_append
    obtain ⟨p', c', rfl⟩ : ∃ p' c', v1 = .slice p' (xs ++ ys).length c' := by
      rw [hlen]
      rcases ho'.2 with ⟨rfl, h0⟩ | ⟨g, cap, cur, rfl, _⟩
      · rw [h0]; exact ⟨_, _, rfl⟩
      · exact ⟨_, _, rfl⟩
    have hob : ∀ (o : Option Addr) (m c : Nat) (k : Nat), Value.ownBlock (.slice o m c) = some k ↔ ∃ s, o = some s ∧ s.block = k := by
      intro o m c k
      cases o <;> simp [Value.ownBlock]
    have hf : Fr w w1 (fun k => ∃ s, p = some s ∧ s.block = k) := (Fr.grown hg').mono (fun k _ hk => (hob _ _ _ _).1 hk.symm)
    have hnew : ∀ s, p' = some s → s.block < w1.heap.size ∧ ((∃ t, p = some t ∧ t.block = s.block) ∨ w.heap.size ≤ s.block) := by
      intro s hs
      have hlt : s.block < w1.heap.size := by
        rcases ho'.2 with ⟨h, _⟩ | ⟨g, cap, cur, h, _, hg, _⟩
        · simp only [Value.slice.injEq] at h
          rw [h.1] at hs; cases hs
        · simp only [Value.slice.injEq] at h
          rw [h.1] at hs
          injection hs with hs
          subst hs
          exact lt_of_get hg
      refine ⟨hlt, ?_⟩
      have hs' := (hob p' (xs ++ ys).length c' s.block).2 ⟨s, hs, rfl⟩
      rcases hat with hat | hat
      · rw [hs'] at hat
        exact .inl ((hob _ _ _ _).1 hat.symm)
      · rw [hs'] at hat
        injection hat with hat
        exact .inr (by omega)
    have hst : Step (fs p) (fs p') w w1 := by
      rw [hfs, hfs]
      exact Step.wrote hf (fun s hs => (hnew s hs).2)
    refine ⟨p', c', rfl, hst, ?_, hf, cells ++ news, by rw [hlen] at ho' ⊢; exact ho', hels.imp (fun _ _ hx => hst.trK hx)⟩
    rw [hfs]
    exact hE'.wrote hf hnew

/-- append(v, y): one element; the box of the variadic is already there. -/
theorem one_raw {B : Nat → Prop} {b : Nat} {e : TypeId} {y : α} {cs : List Value} (hb : Bx w b e cs) (hB : ¬ B b) (hK : kd.K B w.heap y cs) : Raw B kd w.heap (some ⟨b, 0, none⟩) 1 [y] := by
  refine ⟨by simp, by simp [maxLen], cs ++ [], .cons hK .nil, fun _ => ⟨b, 0, cs.toArray, e, (0, 0), rfl, hB, hb, fun j v hv => ?_⟩⟩
  simpa using hv

/-- make([]T, n), n zero elements -/
theorem d_make {e : TypeId} {zv : Value} {zx : α} {bytes : Nat} {S0 B : Nat → Prop} {w0 : World} {as : List (Option Addr)} (ha : Has n l a) (hT : P.underlying T = some (.slice e)) (hi : (P.info? e).map (fun i => (i.zero, i.size, i.bytes)) = some (some zv, kd.sz, bytes)) (hb0 : 0 < bytes)
    (hz : ∀ A h, kd.K A h zx zv.cells.toList) (hx : ev l x = some (.int k i)) (hy : ev l y = some (.int k' i)) (hE : Ex w0 S0 as w) (h0 : 0 ≤ i) (hl : i * bytes ≤ 140737488355328) :
    Does P ⟨d, .makeSlice T x y, ty, pos, af, g⟩ a w (fun v w' => ∃ p' c', v = .slice p' (List.replicate i.toNat zx).length c' ∧ Step as (p' :: as) w w' ∧ Ex w0 S0 (p' :: as) w' ∧ Fr w w' No ∧ Ow (Av (p' :: as) B) w' e kd p' c' (List.replicate i.toNat zx)) := by
  obtain ⟨i0, hi0, hzz⟩ := Option.map_eq_some_iff.1 hi
  simp only [Prod.mk.injEq] at hzz
  obtain ⟨hz0, hz1, hz2⟩ := hzz
  obtain ⟨m, rfl⟩ := Int.eq_ofNat_of_zero_le h0
  have hmb : m * bytes ≤ 140737488355328 := by
    have : ((m * bytes : Nat) : Int) ≤ 140737488355328 := by rw [Int.natCast_mul]; exact hl
    omega
  have hbnd : m ≤ 140737488355328 := Nat.le_trans (Nat.le_mul_of_pos_right _ hb0) hmb
  obtain ⟨w', hr, ho, hg⟩ := run_make_full (P := P) w 0 T e i0 zv kd.sz hT hi0 hz0 hz1 k k' m (by rw [hz2, Nat.mul_comm]; omega) (by simp only [maxLen]; omega) (Nat.zero_le _)
  have hf : Fr w w' No := (Fr.grown hg).mono (fun k _ h => by cases h)
  refine (Does.val (v := .slice (some ⟨w.heap.size, 0, none⟩) m m) (w' := w') ?_).mono ?_
  · simp [execOp, ha.ev hx, ha.ev hy, hr]
  · rintro v1 w1 ⟨rfl, rfl⟩
    have hlt : w.heap.size < w1.heap.size := by
      rcases ho.2 with ⟨h, _⟩ | ⟨g, cap, cur, h, _, hg, _⟩
      · cases h
      · simp only [Value.slice.injEq, Option.some.injEq, Addr.mk.injEq] at h
        rw [h.1.1]
        exact lt_of_get hg
    have hnew : ∀ s, some (⟨w.heap.size, 0, none⟩ : Addr) = some s → w.heap.size ≤ s.block ∧ s.block < w1.heap.size := by
      intro s hs
      injection hs with hs
      subst hs
      exact ⟨Nat.le_refl _, hlt⟩
    refine ⟨some ⟨w.heap.size, 0, none⟩, m, by simp, Step.add as hf (fun s hs => (hnew s hs).1), hE.add hf hnew, hf, _, by simpa using ho, ?_⟩
    have hzl : zv.cells.size = kd.sz := by have := kd.len (hz No #[]); simpa using this
    simp only [Int.toNat_natCast]
    have hrep : ∀ q, (madeCells zv.cells ((q + 1) * kd.sz)).toList = zv.cells.toList ++ (madeCells zv.cells (q * kd.sz)).toList := by
      intro q
      apply List.ext_getElem
      · simp [madeCells, hzl, Nat.add_mul]; omega
      · intro j h1 h2
        simp only [madeCells, Array.toList_map, List.getElem_map, Array.getElem_toList, Array.getElem_range, List.getElem_append, Array.length_toList]
        split
        · rename_i hj
          rw [Nat.mod_eq_of_lt hj, getElem!_pos zv.cells j hj]
        · rename_i hj
          congr 1
          rw [Nat.mod_eq_sub_mod (by omega)]
    clear hr ho hnew hlt hbnd hmb hl h0 hx hy
    induction m with
    | zero => simp [madeCells]; exact .nil
    | succ q ih => rw [List.replicate_succ, hrep]; exact .cons (hz _ _) ih
end
end
end Go.Sx
