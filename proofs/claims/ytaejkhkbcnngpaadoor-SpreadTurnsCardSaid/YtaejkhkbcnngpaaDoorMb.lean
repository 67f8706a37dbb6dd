/- Own work. A part of the proof of a law of this seat: the abstract machine and its soundness. -/
import Derived.Test.YtaejkhkbcnngpaaDoorMa
import Derived.ScopeJumps
import Derived.Laws.RangeAny
import Derived.Lib.OthersKept
import Derived.ChangeArms
import Derived.OpenShut
import Derived.SizedLaws
import Derived.Laws.StructEq
import Derived.Laws.Cover3
set_option linter.unusedVariables false
set_option linter.unusedSimpArgs false
set_option linter.unusedSectionVars false
namespace Go.Sx
open Go Go.RowKit
section
variable {α : Type} {A A' B W S0 : Nat → Prop} {kd : Kd α} {p : Option Addr} {c : Nat} {xs : List α} {w0 w w' : World} {as as' as0 rt rr ro as00 : List (Option Addr)} {u : Option Addr}
theorem Ex.sub (h : Ex w0 S0 (as0 ++ rt) w) : Ex w (Av as0 No) as0 w :=
  ⟨Fr.refl _ _, (List.pairwise_append.1 h.dis).1, fun p hp => h.lt p (by simp [hp]), fun p hp => .inr (.inr ⟨p, hp, rfl⟩)⟩
theorem Ex.callOff (h : Ex w0 S0 (as0 ++ rt) w) (hu : u ∈ rt) : ∀ q, u = some q → ¬ Av as0 No q.block := fun q hq hk => by
  rcases hk with hk | ⟨s, hs, hb⟩
  · exact hk
  · exact (List.pairwise_append.1 h.dis).2.2 (some s) hs u hu s q rfl hq hb
theorem Ex.call (h : Ex w0 S0 (as0 ++ rt) w) (hc : Ex w (Av as0 No) as' w') : Ex w0 S0 (as' ++ rt) w' := by
  refine ⟨h.fr.step hc.fr (fun k hk hv => ?_), List.pairwise_append.2 ⟨hc.dis, (List.pairwise_append.1 h.dis).2.1, fun x hx y hy p q hp hq e => ?_⟩, fun p hp => ?_, fun p hp => ?_⟩
  · rcases hv with hv | ⟨p, hp, rfl⟩
    · exact hv.elim
    · rcases h.nw p (by simp [hp]) with h1 | h1
      · omega
      · exact h1
  · rcases hc.nw p (hp ▸ hx) with h1 | h1
    · have := h.lt q (by rw [← hq]; simp [hy]); omega
    · rw [e] at h1; exact h.callOff hy q hq h1
  · rcases List.mem_append.1 hp with hp | hp
    · exact hc.lt p hp
    · exact Nat.lt_of_lt_of_le (h.lt p (by simp [hp])) hc.fr.size
  · rcases List.mem_append.1 hp with hp | hp
    · rcases hc.nw p hp with h1 | h1
      · exact .inl (Nat.le_trans h.fr.size h1)
      · rcases h1 with h1 | ⟨s, hs, hb⟩
        · exact h1.elim
        · rw [← hb]; exact h.nw s (by simp [hs])
    · exact h.nw p (by simp [hp])
theorem Ex.callStep (hc : Ex w (Av as0 No) as' w') (rt : List (Option Addr)) : Step (as0 ++ rt) (as' ++ rt) w w' :=
  ⟨hc.fr.size, fun k hk hp => hc.fr.blk k hk (fun hv => by
    rcases hv with hv | ⟨p, hp', e⟩
    · exact hv
    · exact hp p (by simp [hp']) e), fun p hp => by
    rcases List.mem_append.1 hp with hp | hp
    · rcases hc.nw p hp with h1 | h1
      · exact .inr h1
      · rcases h1 with h1 | ⟨s, hs, hb⟩
        · exact h1.elim
        · exact .inl ⟨s, by simp [hs], hb⟩
    · exact .inl ⟨p, by simp [hp], rfl⟩⟩
theorem Ex.wfree (h : Ex w0 (Av as00 No) as w) (hW : ∀ k, W k → k < w0.heap.size) (hW0 : ∀ p, some p ∈ as00 → ¬ W p.block) : ∀ p, some p ∈ as → ¬ W p.block := fun p hp hk => by
  rcases h.nw p hp with h1 | h1
  · have := hW _ hk; omega
  · rcases h1 with h1 | ⟨s, hs, hb⟩
    · exact h1
    · rw [← hb] at hk; exact hW0 s hs hk
theorem Ex.wlt (h : Ex w0 S0 (as0 ++ (rr ++ ro)) w) (hW : ∀ k, W k → k < w0.heap.size) : ∀ k, Av ro W k → k < w.heap.size := fun k hk => by
  rcases hk with hk | ⟨s, hs, hb⟩
  · exact Nat.lt_of_lt_of_le (hW k hk) h.fr.size
  · rw [← hb]; exact h.lt s (by simp [hs])
theorem Ex.wsep (h : Ex w0 (Av as00 No) (as0 ++ (rr ++ ro)) w) (hW : ∀ k, W k → k < w0.heap.size) (hW0 : ∀ p, some p ∈ as00 → ¬ W p.block) : ∀ p, some p ∈ as0 → ¬ Av ro W p.block := fun p hp hk => by
  rcases hk with hk | ⟨s, hs, hb⟩
  · exact h.wfree hW hW0 p (by simp [hp]) hk
  · exact (List.pairwise_append.1 h.dis).2.2 (some p) hp (some s) (by simp [hs]) p s rfl rfl hb.symm
theorem Raw.arg (r : Raw (Av (as0 ++ (rr ++ ro)) B) kd w.heap p c xs) (hB : ∀ k, W k → B k) : Raw (Av as0 (Av ro W)) kd w.heap p c xs := r.mono (fun k _ hk => by
  rcases hk with (hk | ⟨s, hs, hb⟩) | ⟨s, hs, hb⟩
  · exact .inl (hB k hk)
  · exact .inr ⟨s, by simp [hs], hb⟩
  · exact .inr ⟨s, by simp [hs], hb⟩)
theorem Ow.mono {e : TypeId} (h : Ow A w e kd p c xs) (hA : ∀ k, k < w.heap.size → A' k → A k) : Ow A' w e kd p c xs := by
  obtain ⟨cells, h1, h2⟩ := h
  exact ⟨cells, h1, h2.imp (fun _ _ hx => kd.mono hx hA)⟩
theorem Ow.arg {e : TypeId} (h : Ow (Av (as0 ++ (rr ++ ro)) W) w e kd p c xs) : Ow (Av as0 (Av ro W)) w e kd p c xs := h.mono (fun k _ hk => by
  rcases hk with (hk | ⟨s, hs, hb⟩) | ⟨s, hs, hb⟩
  · exact .inl hk
  · exact .inr ⟨s, by simp [hs], hb⟩
  · exact .inr ⟨s, by simp [hs], hb⟩)
theorem Ow.argR {e : TypeId} (h : Ow (Av (as0 ++ (rr ++ ro)) W) w e kd p c xs) (hE : Ex w0 (Av as00 No) (as0 ++ (rr ++ ro)) w) (hW : ∀ k, W k → k < w0.heap.size) (hW0 : ∀ p, some p ∈ as00 → ¬ W p.block) (hp : p ∈ rr) : Raw (Av as0 (Av ro W)) kd w.heap p c xs :=
  h.arg.raw (fun _ _ h => h) (fun q hq hk => by
    rcases hk with (hk | ⟨s, hs, hb⟩) | ⟨s, hs, hb⟩
    · exact hE.wfree hW hW0 q (by rw [← hq]; simp [hp]) hk
    · exact (List.pairwise_append.1 (List.pairwise_append.1 hE.dis).2.1).2.2 p hp (some s) hs q s hq rfl hb.symm
    · exact (List.pairwise_append.1 hE.dis).2.2 (some s) hs p (by simp [hp]) s q rfl hq hb)
theorem Raw.retF (r : Raw (Av as' (Old w)) kd w'.heap p c xs) (h : Ex w0 S0 (as0 ++ rt) w) : Raw (Av (as' ++ rt) (Old w0)) kd w'.heap p c xs := r.mono (fun k _ hk => by
  rcases hk with hk | ⟨s, hs, hb⟩
  · exact .inl (Nat.lt_of_lt_of_le hk h.fr.size)
  · rcases List.mem_append.1 hs with hs | hs
    · exact .inr ⟨s, hs, hb⟩
    · rw [← hb]; exact .inl (h.lt s (by simp [hs])))
theorem Raw.retW (r : Raw (Av as' (Av rt W)) kd w'.heap p c xs) : Raw (Av (as' ++ rt) W) kd w'.heap p c xs := r.mono (fun k _ hk => by
  rcases hk with hk | ⟨s, hs, hb⟩
  · exact .inl (.inl hk)
  · rcases List.mem_append.1 hs with hs | hs
    · exact .inr ⟨s, hs, hb⟩
    · exact .inl (.inr ⟨s, hs, hb⟩))
theorem Ow.retW {e : TypeId} (r : Ow (Av as' (Av rt W)) w' e kd p c xs) : Ow (Av (as' ++ rt) W) w' e kd p c xs := r.mono (fun k _ hk => by
  rcases hk with hk | ⟨s, hs, hb⟩
  · exact .inl (.inl hk)
  · rcases List.mem_append.1 hs with hs | hs
    · exact .inr ⟨s, hs, hb⟩
    · exact .inl (.inr ⟨s, hs, hb⟩))
theorem Raw.toW (r : Raw (Av as (Old w0)) kd w.heap p c xs) (hW : ∀ k, W k → k < w0.heap.size) : Raw (Av as W) kd w.heap p c xs := r.mono (fun k _ hk => by
  rcases hk with hk | hk
  · exact .inl (hW k hk)
  · exact .inr hk)
theorem Raw.newF (r : Raw (Old w) kd w'.heap p c xs) (h : Ex w0 S0 as w) : Raw (Av as (Old w0)) kd w'.heap p c xs := r.mono (fun k _ hk => by
  rcases hk with hk | ⟨s, hs, hb⟩
  · exact Nat.lt_of_lt_of_le hk h.fr.size
  · rw [← hb]; exact h.lt s hs)
def pick (is : List Nat) (as : List (Option Addr)) : List (Option Addr) := is.map (fun i => as.getD i none)
theorem mem_pick {is : List Nat} {q : Addr} (h : some q ∈ pick is as) : some q ∈ as := by
  obtain ⟨i, _, hi⟩ := List.mem_map.1 h
  rw [List.getD_eq_getElem?_getD] at hi
  cases hx : as[i]? with
  | none => rw [hx] at hi; simp at hi
  | some v => rw [hx] at hi; simp at hi; rw [← hi]; exact List.mem_of_getElem? hx
theorem Step.pick (as : List (Option Addr)) (w : World) (is : List Nat) : Step as (pick is as) w w := ⟨Nat.le_refl _, fun _ _ _ => rfl, fun p hp => .inl ⟨p, mem_pick hp, rfl⟩⟩
theorem Ex.pick (h : Ex w0 S0 as w) (is : List Nat) (hi : is.Nodup) : Ex w0 S0 (pick is as) w := by
  refine ⟨h.fr, ?_, fun p hp => h.lt p (mem_pick hp), fun p hp => h.nw p (mem_pick hp)⟩
  unfold Sx.pick
  rw [List.pairwise_map]
  refine hi.imp (fun {i j} hij p q hp hq e => ?_)
  have key : ∀ {i : Nat} {p : Addr}, as.getD i none = some p → as[i]? = some (some p) := by
    intro i p hp
    rw [List.getD_eq_getElem?_getD] at hp
    cases hx : as[i]? with
    | none => rw [hx] at hp; simp at hp
    | some v => rw [hx] at hp; simp at hp; rw [hp]
  exact h.off i j (key hp) (key hq) hij q rfl ⟨p, rfl, e⟩
theorem Ow.free {e : TypeId} (h : Ow (Av as W) w e kd p c xs) (hE : Ex w0 (Av as00 No) as w) (hW : ∀ k, W k → k < w0.heap.size) (hW0 : ∀ p, some p ∈ as00 → ¬ W p.block) (m : Nat) (hm : as[m]? = some p) : Raw (Av (as.eraseIdx m) W) kd w.heap p c xs :=
  h.raw (fun k _ hk => by
    rcases hk with hk | ⟨s, hs, hb⟩
    · exact .inl hk
    · exact .inr ⟨s, List.mem_of_mem_eraseIdx hs, hb⟩) (fun q hq hk => by
    rcases hk with hk | ⟨s, hs, hb⟩
    · exact hE.wfree hW hW0 q (mem_at hm hq) hk
    · obtain ⟨i, hi, he⟩ := List.mem_eraseIdx_iff_getElem?.1 hs
      exact hE.off i m he hm hi q hq ⟨s, rfl, hb⟩)
theorem Ow.freeF {e : TypeId} (h : Ow (Av as W) w e kd p c xs) (f : kd.Flat) (hE : Ex w0 (Av [] No) as w) (m : Nat) (hm : as[m]? = some p) : Raw (Av (as.eraseIdx m) (Old w0)) kd w.heap p c xs :=
  h.rawFlat f (fun q hq hk => by
    rcases hk with hk | ⟨s, hs, hb⟩
    · rcases hE.nw q (mem_at hm hq) with h1 | h1
      · simp only [Old] at hk; omega
      · rcases h1 with h1 | ⟨s, hs, _⟩
        · exact h1
        · cases hs
    · obtain ⟨i, hi, he⟩ := List.mem_eraseIdx_iff_getElem?.1 hs
      exact hE.off i m he hm hi q hq ⟨s, rfl, hb⟩)
theorem Ow.get {e : TypeId} (h : Ow A w e kd p c xs) (m : Nat) (hm : m < xs.length) : ∃ b cs, p = some ⟨b, 0, none⟩ ∧ kd.K A w.heap xs[m] cs ∧ At w b (m * kd.sz) cs := by
  obtain ⟨cells, h1, h2⟩ := h
  rcases own_none h1 with ⟨rfl, h, _⟩ | ⟨b, cur, rfl, hg, h3, h4, h5, h6⟩
  · omega
  · obtain ⟨cs, hK, hc⟩ := h2.get (fun _ _ h => kd.len h) m hm
    refine ⟨b, cs, rfl, hK, fun j v hv => ?_⟩
    rw [cell_of_row w b _ cur e (0, 0) hg]
    have h7 := hc j v hv
    rw [← h6, List.getElem?_take] at h7
    split at h7
    · simpa using h7
    · cases h7
end
section
variable {P : Program} {a : Act} {w : World} {n : Nat} {l : List (Nat × Value)}
variable {d : Option Nat} {ty T : TypeId} {pos : String} {af : Array Edge} {g : Option (Nat × Bool)} {x y z : Operand} {k k' : IntKind} {i j : Int}
variable {α : Type} {A : Nat → Prop} {kd : Kd α} {p : Option Addr} {c : Nat} {xs : List α}
theorem d_indexOwR {e : TypeId} (ha : Has n l a) (hx : ev l x = some (.slice p xs.length c)) (hy : ev l y = some (.int k i)) (hT : P.underlying T = some (.slice e)) (hs : ∀ w, (sizeOf e).run P w = .ok kd.sz w) (r : Ow A w e kd p c xs) (h0 : 0 ≤ i ∧ i < xs.length) (z : α) :
    Does P ⟨d, .indexAddr T x y, ty, pos, af, g⟩ a w (fun v w' => w' = w ∧ ∃ b o cs, v = .pointer (some ⟨b, o, none⟩) ∧ kd.K A w.heap (xs.getD i.toNat z) cs ∧ At w b o cs) := by
  have hm : i.toNat < xs.length := by omega
  obtain ⟨b, cs, hp, hK, hat⟩ := r.get i.toNat hm
  refine (d_indexOw ha hx hy hT hs r h0).mono ?_
  rintro v w' ⟨rfl, b', hb, rfl⟩
  rw [hp] at hb
  simp only [Option.some.injEq, Addr.mk.injEq, and_true] at hb
  subst hb
  refine ⟨rfl, b, _, cs, rfl, ?_, hat⟩
  simpa [List.getD_eq_getElem?_getD, hm] using hK
theorem d_sliceOw {e : TypeId} (ha : Has n l a) (hT : P.underlying T = some (.slice e)) (hs : ∀ w, (sizeOf e).run P w = .ok kd.sz w) (hx : ev l x = some (.slice p xs.length c)) (hz : ev l z = some (.int k' j)) (r : Ow A w e kd p c xs) (h : 0 ≤ j ∧ j ≤ xs.length) :
    Does P ⟨d, .slice T x none (some z) none, ty, pos, af, g⟩ a w (fun v w' => w' = w ∧ v = .slice p (xs.take j.toNat).length c ∧ Ow A w e kd p c (xs.take j.toNat)) := by
  have hraw : xs.length ≤ c := by
    obtain ⟨cells, h1, h2⟩ := r
    rcases own_none h1 with ⟨rfl, h, rfl⟩ | ⟨b, cur, rfl, hg, h3, _⟩
    · omega
    · exact h3
  have ej : (j.toNat : Int) = j := Int.toNat_of_nonneg (by omega)
  have hlen : (xs.take j.toNat).length = j.toNat := by rw [List.length_take]; omega
  refine (Does.val (v := .slice p (xs.take j.toNat).length c) (w' := w) ?_).mono ?_
  · have hb : (Instr.sliceBounds true xs.length c none (some (.int k' j)) none).run P w = .ok (0, j.toNat, c) w := by
      simp [Instr.sliceBounds, run_sliceBound, (by omega : 0 ≤ j), (by omega : j ≤ c)]
    simp [execOp, ha.ev hx, Instr.sliceAt, Instr.slice, run_underlying hT, ha.ev hz, hb, hs]
    constructor
    · intro h0; cases p <;> simp
      rename_i q
      obtain ⟨cells, h1, h2⟩ := r
      rcases own_none h1 with ⟨h, _⟩ | ⟨b, cur, h, _⟩
      · cases h
      · injection h with h; subst h; simp [add_at]
    · omega
  · rintro v w' ⟨rfl, rfl⟩
    refine ⟨rfl, rfl, ?_⟩
    obtain ⟨cells, h1, h2⟩ := r
    refine ⟨cells.take (j.toNat * kd.sz), ?_, h2.take (fun _ _ h => kd.len h) j.toNat⟩
    rcases own_none h1 with ⟨rfl, h0, rfl⟩ | ⟨b, cur, rfl, hg, h3, h4, h5, h6⟩
    · have : xs = [] := List.eq_nil_of_length_eq_zero h0
      subst this
      have : cells = [] := List.eq_nil_of_length_eq_zero (by simpa using h1.1)
      subst this
      simpa using h1
    · have hcl := h1.1
      have hjs : j.toNat * kd.sz ≤ xs.length * kd.sz := Nat.mul_le_mul_right _ (by omega)
      refine ⟨by rw [List.length_take, hlen]; omega, .inr ⟨b, c, cur, rfl, Nat.zero_le _, hg, by omega, h4, h5, ?_⟩⟩
      rw [hlen, ← h6, List.take_take, Nat.min_eq_left hjs]
theorem d_min {Ts : Array TypeId} (ha : Has n l a) (hx : ev l x = some (.int k i)) (hy : ev l y = some (.int k j)) : Does P ⟨d, .call { callee := .builtin .min, args := #[x, y], argTypes := Ts }, ty, pos, af, g⟩ a w (Is (.int k (if j < i then j else i)) w) :=
  Does.val (by simp [execOp, ha.ev hx, ha.ev hy, resolve, invoke, builtin, Builtin.min_, Builtin.min2])
theorem d_max {Ts : Array TypeId} (ha : Has n l a) (hx : ev l x = some (.int k i)) (hy : ev l y = some (.int k j)) : Does P ⟨d, .call { callee := .builtin .max, args := #[x, y], argTypes := Ts }, ty, pos, af, g⟩ a w (Is (.int k (if i < j then j else i)) w) :=
  Does.val (by simp [execOp, ha.ev hx, ha.ev hy, resolve, invoke, builtin, Builtin.max_, Builtin.max2])
end
def lookE (E : List Nat) (t : Nat) (l : List (Nat × Value)) : List (Nat × Nat × Value) → Option Value
  | [] => look t l
  | e :: r => cond (Nat.beq e.2.1 t && E.contains e.1) (some e.2.2) (lookE E t l r)
def lookI (i t : Nat) : List (Nat × Nat × Value) → Option Value
  | [] => none
  | e :: r => cond (Nat.beq e.1 i && Nat.beq e.2.1 t) (some e.2.2) (lookI i t r)
structure HasB (n : Nat) (l : List (Nat × Value)) (L : List (Nat × Nat × Value)) (b : Nat → Bool) (a : Act) : Prop where
  has : Has n l a
  up : ∀ e ∈ L, b e.1 = true → a.tmps.getD e.2.1 undef = e.2.2
section
variable {n : Nat} {l : List (Nat × Value)} {L L' : List (Nat × Nat × Value)} {b : Nat → Bool} {a : Act} {w : World}
theorem HasB.start (ha : Has n l a) {len : Nat} (hL : L.all (fun e => Nat.blt e.1 len) = true) : HasB n l L (fun j => !Nat.blt j len) a :=
  ⟨ha, fun e he hb => by have := List.all_eq_true.1 hL e he; rw [this] at hb; cases hb⟩
theorem HasB.get (h : HasB n l L b a) (E : List Nat) (hE : ∀ i ∈ E, b i = true) (l' : List (Nat × Value)) (hl : l'.map (fun p => lookE E p.1 l L) = l'.map (fun p => some p.2)) : Has n l' a := by
  have key : ∀ (L : List (Nat × Nat × Value)), (∀ e ∈ L, b e.1 = true → a.tmps.getD e.2.1 undef = e.2.2) → ∀ t v, lookE E t l L = some v → a.tmps.getD t undef = v := by
    intro L
    induction L with
    | nil => intro _ t v hv; exact h.has.at_ t v hv
    | cons e r ih =>
      intro hu t v hv
      simp only [lookE] at hv
      cases hc : (Nat.beq e.2.1 t && E.contains e.1) with
      | false => rw [hc] at hv; exact ih (fun e he => hu e (by simp [he])) t v (by simpa using hv)
      | true =>
        rw [hc] at hv
        simp only [cond_true, Option.some.injEq] at hv
        rw [Bool.and_eq_true] at hc
        have h1 := Nat.eq_of_beq_eq_true hc.1
        have h2 := hu e (by simp) (hE _ (by simpa using hc.2))
        rw [← h1, h2, hv]
  refine ⟨h.has.sz, h.has.df, fun t v hv => ?_⟩
  have hm : ∀ p ∈ l', lookE E p.1 l L = some p.2 := List.map_inj_left.1 hl
  clear hl
  induction l' with
  | nil => simp [look] at hv
  | cons p r ih =>
    simp only [look] at hv
    by_cases he : p.1 = t
    · subst he
      rw [beq_self] at hv
      simp at hv
      subst hv
      exact key L h.up _ _ (hm p (by simp))
    · rw [beq_ne he] at hv
      exact ih (by simpa using hv) (fun q hq => hm q (by simp [hq]))
theorem HasB.to (h : HasB n l L b a) (L' : List (Nat × Nat × Value)) (N : List Nat) (hN : ∀ i ∈ N, b i = false) (hl : L'.map (fun e => cond (N.contains e.1) (some e.2.2) (lookI e.1 e.2.1 L)) = L'.map (fun e => some e.2.2)) : HasB n l L' b a := by
  refine ⟨h.has, fun e he hb => ?_⟩
  have hm := List.map_inj_left.1 hl e he
  cases hc : N.contains e.1 with
  | true => have := hN e.1 (by simpa using hc); rw [this] at hb; cases hb
  | false =>
    rw [hc] at hm
    simp only [cond_false] at hm
    have key : ∀ (L : List (Nat × Nat × Value)), (∀ e ∈ L, b e.1 = true → a.tmps.getD e.2.1 undef = e.2.2) → lookI e.1 e.2.1 L = some e.2.2 → a.tmps.getD e.2.1 undef = e.2.2 := by
      intro L
      induction L with
      | nil => intro _ hv; cases hv
      | cons f r ih =>
        intro hu hv
        simp only [lookI] at hv
        cases hq : (Nat.beq f.1 e.1 && Nat.beq f.2.1 e.2.1) with
        | false => rw [hq] at hv; exact ih (fun e he => hu e (by simp [he])) (by simpa using hv)
        | true =>
          rw [hq] at hv
          simp only [cond_true, Option.some.injEq] at hv
          rw [Bool.and_eq_true] at hq
          have h1 := Nat.eq_of_beq_eq_true hq.1
          have h2 := Nat.eq_of_beq_eq_true hq.2
          have h3 := hu f (by simp) (by rw [h1]; exact hb)
          rw [← h2, h3, hv]
    exact key L h.up hm
theorem look_none {d : Nat} : ∀ {l : List (Nat × Value)}, l.all (fun p => !Nat.beq p.1 d) = true → look d l = none
  | [], _ => rfl
  | p :: r, h => by
    simp only [List.all_cons, Bool.and_eq_true, Bool.not_eq_true'] at h
    simp only [look, h.1, cond_false]
    exact look_none h.2
theorem HasB.put (h : HasB n l L b a) {d : Nat} (i : Nat) {v : Value} (hd : Nat.ble (d + 1) n = true) (hl : l.all (fun p => !Nat.beq p.1 d) = true) (hL : L.all (fun e => Nat.beq e.2.1 d == Nat.beq e.1 i) = true)
    (hv : (L.filter (fun e => Nat.beq e.1 i)).map (fun e => e.2.2) = [v]) : HasB n l L (fun j => b j || Nat.beq i j) (a.put (some d) v) := by
  have hp := h.has.put hd v
  refine ⟨⟨hp.sz, hp.df, fun t u hu' => ?_⟩, fun e he hb => ?_⟩
  · have hne : ¬ d = t := by
      rintro rfl
      rw [look_none hl] at hu'
      cases hu'
    exact hp.at_ t u (by simp only [look]; rw [beq_ne hne]; exact hu')
  · have h1 := List.all_eq_true.1 hL e he
    by_cases hi : e.1 = i
    · have h2 : e.2.1 = d := by
        have h3 : Nat.beq e.1 i = true := by rw [hi]; exact beq_self i
        rw [h3] at h1
        exact Nat.eq_of_beq_eq_true (by simpa using h1)
      have h3 : e.2.2 ∈ (L.filter (fun e => Nat.beq e.1 i)).map (fun e => e.2.2) := List.mem_map.2 ⟨e, List.mem_filter.2 ⟨he, by rw [hi]; exact beq_self i⟩, rfl⟩
      rw [hv] at h3
      have h4 : e.2.2 = v := by simpa using h3
      rw [h2, h4]
      exact hp.at_ d v (by simp only [look, beq_self, cond_true])
    · have h3 : Nat.beq e.1 i = false := beq_ne hi
      rw [h3] at h1
      have h2 : ¬ d = e.2.1 := by
        intro hd'
        rw [← hd', beq_self] at h1
        cases h1
      have h5 : b e.1 = true := by
        rw [beq_ne (fun h => hi h.symm), Bool.or_false] at hb
        exact hb
      have h4 := h.up e he h5
      rw [← h4]
      simp only [Act.put, Array.getD_eq_getD_getElem?]
      rw [Array.getElem?_setIfInBounds_ne h2]
theorem HasB.skip (h : HasB n l L b a) (i : Nat) (v : Value) (hL : L.all (fun e => !Nat.beq e.1 i) = true) : HasB n l L (fun j => b j || Nat.beq i j) (a.put none v) :=
  ⟨h.has.skip v, fun e he hb => by
    have h1 := List.all_eq_true.1 hL e he
    refine h.up e he ?_
    have h2 : Nat.beq i e.1 = false := beq_ne (fun h => by rw [h] at h1; rw [beq_self] at h1; cases h1)
    rw [h2, Bool.or_false] at hb
    exact hb⟩
theorem up_t {b : Nat → Bool} {i j : Nat} (h : b j = true) : (b j || Nat.beq i j) = true := by rw [h]; rfl
theorem up_f {b : Nat → Bool} {i j : Nat} (h : b j = false) (hn : Nat.beq i j = false) : (b j || Nat.beq i j) = false := by rw [h, hn]; rfl
theorem up_i {b : Nat → Bool} {i : Nat} : (b i || Nat.beq i i) = true := by rw [beq_self, Bool.or_true]
theorem no_both {c : Bool} {p : Prop} (h : c = false) (h' : c = true) : p := by rw [h] at h'; cases h'
end
section
variable {P : Program} {os : List Oper} {Q : Exit → Act → World → Prop} {a : Act} {w : World} {m : Nat}
theorem drawnC (id : Nat) (hmx : P.follows .mixedOrders = true) (m : Nat) (hok : okR os m = true) (hm : Nat.ble m os.length = true) (I : (Nat → Bool) → Act → World → Prop) (h0 : I (fun j => !Nat.blt j os.length) a w.drew)
    (hs : ∀ i o, os[i]? = some o → i < m → ∀ b a w, I b a w → b i = false → (∀ j ∈ needs o, b j = true) → (∀ j o', os[j]? = some o' → b j = true → ∀ q ∈ needs o', b q = true) → DoesG P os o a w (fun v w' => I (fun j => b j || Nat.beq i j) (a.put o.dst v) w'))
    (hend : ∀ b a w, (∀ j, j < os.length → j < m → b j = true) → I b a w → wpList P os.toArray Q (os.drop m) a w) : (Code.region id os.toArray true).wp P Q a w := by
  refine drawn id hmx m hok hm (fun b a w => I b a w ∧ ∀ j o', os[j]? = some o' → b j = true → ∀ q ∈ needs o', b q = true) ⟨h0, fun j o' ho hb => ?_⟩ (fun i o ho him b a w hI hb hn => ?_) (fun b a w hb hI => hend b a w hb hI.1)
  · have hj := (List.getElem?_eq_some_iff.1 ho).1
    have : Nat.blt j os.length = true := by rw [Nat.blt_eq]; exact hj
    have hb : (!Nat.blt j os.length) = true := hb
    rw [this] at hb
    cases hb
  · have h := hs i o ho him b a w hI.1 hb hn hI.2
    have hcl : ∀ j o', os[j]? = some o' → (b j || Nat.beq i j) = true → ∀ q ∈ needs o', (b q || Nat.beq i q) = true := by
      intro j o' ho' hb' q hq
      by_cases hij : i = j
      · subst hij
        rw [ho] at ho'
        injection ho' with ho'
        subst ho'
        exact up_t (hn q hq)
      · rw [beq_ne hij, Bool.or_false] at hb'
        exact up_t (hI.2 j o' ho' hb' q hq)
    unfold DoesG at h ⊢
    split
    · rename_i hw
      rw [if_pos hw] at h
      exact h.mono (fun v w' hv => ⟨hv, hcl⟩)
    · rename_i hw
      rw [if_neg hw] at h
      exact ⟨h, hcl⟩
theorem mem_needs {o : Oper} {j : Nat} (h : (needs o).contains j = true) : j ∈ needs o := by simpa using h
variable {n : Nat} {l : List (Nat × Value)} {o : Oper} {R : Value → World → Prop}
theorem DoesG.plain (hg : o.guard = none) (h : Does P o a w R) : DoesG P os o a w R := by
  unfold DoesG
  rw [if_pos (by simp [Region.wanted, hg])]
  exact h
theorem DoesG.on {j dj : Nat} {wt t : Bool} {oj : Oper} (hg : o.guard = some (j, wt)) (ha : Has n l a) (hj : os[j]? = some oj) (hdj : oj.dst = some dj) (hv : look dj l = some (.bool t)) (he : t = wt) (h : Does P o a w R) : DoesG P os o a w R := by
  unfold DoesG
  rw [if_pos]
  · exact h
  · simp only [Region.wanted, yielded, hg, List.getElem?_toArray, hj, hdj, Option.bind_some, yield_at (ha.at_ _ _ hv), he]
    cases wt <;> rfl
theorem DoesG.off {j dj : Nat} {wt t : Bool} {oj : Oper} (hg : o.guard = some (j, wt)) (ha : Has n l a) (hj : os[j]? = some oj) (hdj : oj.dst = some dj) (hv : look dj l = some (.bool t)) (he : t = !wt) (h : R undef w) : DoesG P os o a w R := by
  unfold DoesG
  rw [if_neg]
  · exact h
  · simp only [Region.wanted, yielded, hg, List.getElem?_toArray, hj, hdj, Option.bind_some, yield_at (ha.at_ _ _ hv), he]
    cases wt <;> decide
theorem DoesG.gone {j dj : Nat} {wt : Bool} {oj : Oper} (hg : o.guard = some (j, wt)) (ha : Has n l a) (hj : os[j]? = some oj) (hdj : oj.dst = some dj) (hv : look dj l = some undef) (h : R undef w) : DoesG P os o a w R := by
  unfold DoesG
  rw [if_neg]
  · exact h
  · have hgd := ha.at_ _ _ hv
    have : yielded os.toArray a.tmps j = none := by
      simp only [yielded, List.getElem?_toArray, hj, hdj, Option.bind_some]
      split
      · rename_i b hb
        exact absurd hb (yield_no hgd b)
      · rfl
    simp [Region.wanted, hg, this]
inductive EachAt (C : Nat → Oper → Prop) : Nat → Nat → List Oper → Prop where
  | nil {k : Nat} {os : List Oper} : EachAt C k 0 os
  | cons {k m : Nat} {o : Oper} {r : List Oper} : C k o → EachAt C (k + 1) m r → EachAt C k (m + 1) (o :: r)
theorem EachAt.all {C : Nat → Oper → Prop} {k m : Nat} {os : List Oper} (h : EachAt C k m os) : ∀ i o, os[i]? = some o → i < m → C (k + i) o := by
  induction h with
  | nil => intro i o _ hi; omega
  | @cons k m o r h1 _ ih =>
    intro i p hp hi
    cases i with
    | zero => simp at hp; subst hp; exact h1
    | succ i => have := ih i p (by simpa using hp) (by omega); rwa [show k + 1 + i = k + (i + 1) by omega] at this
theorem EachAt.all0 {C : Nat → Oper → Prop} {m : Nat} {os : List Oper} (h : EachAt C 0 m os) (i : Nat) (o : Oper) (ho : os[i]? = some o) (hi : i < m) : C i o := by
  have := h.all i o ho hi
  rwa [Nat.zero_add] at this
theorem put_same {a : Act} {d : Nat} {v : Value} (ha : Has n l a) (hd : Nat.ble (d + 1) n = true) : (a.put (some d) v).tmps.getD d undef = v := (ha.put hd v).at_ d v (by simp only [look, beq_self, cond_true])
theorem put_other {a : Act} {d t : Nat} {v : Value} (h : Nat.beq d t = false) : (a.put (some d) v).tmps.getD t undef = a.tmps.getD t undef := by
  have hne : ¬ d = t := fun e => by rw [e, beq_self] at h; cases h
  simp only [Act.put, Array.getD_eq_getD_getElem?]
  rw [Array.getElem?_setIfInBounds_ne hne]
theorem phi_keep {b : Nat → Bool} {i j d t : Nat} {v : Value} {Φ Φ' : Value → Prop} (h : b j = true → Φ (a.tmps.getD t undef)) (hij : Nat.beq i j = false) (hdt : Nat.beq d t = false) (hm : ∀ v, Φ v → Φ' v) : (b j || Nat.beq i j) = true → Φ' ((a.put (some d) v).tmps.getD t undef) := fun hb => by
  rw [hij, Bool.or_false] at hb
  rw [put_other hdt]
  exact hm _ (h hb)
theorem phi_keep0 {b : Nat → Bool} {i j t : Nat} {v : Value} {Φ Φ' : Value → Prop} (h : b j = true → Φ (a.tmps.getD t undef)) (hij : Nat.beq i j = false) (hm : ∀ v, Φ v → Φ' v) : (b j || Nat.beq i j) = true → Φ' ((a.put none v).tmps.getD t undef) := fun hb => by
  rw [hij, Bool.or_false] at hb
  exact hm _ (h hb)
theorem phi_new {b : Nat → Bool} {i d : Nat} {v : Value} {Φ : Value → Prop} (ha : Has n l a) (hd : Nat.ble (d + 1) n = true) (h : Φ v) : (b i || Nat.beq i i) = true → Φ ((a.put (some d) v).tmps.getD d undef) := fun _ => by
  rw [put_same ha hd]
  exact h
theorem Has.know {t : Nat} {v : Value} (ha : Has n l a) (h : a.tmps.getD t undef = v) : Has n ((t, v) :: l) a := ⟨ha.sz, ha.df, fun s u hu => by
  simp only [look] at hu
  by_cases hts : t = s
  · subst hts
    rw [beq_self] at hu
    simp at hu
    rw [← hu]; exact h
  · rw [beq_ne hts] at hu
    exact ha.at_ s u hu⟩
theorem At.stay {b o : Nat} {cs : List Value} {w w' : World} (h : At w b o cs) (hf : Fr w w' No) : At w' b o cs := fun j v hv => by
  have h1 := h j v hv
  have hb : b < w.heap.size := by
    rcases Nat.lt_or_ge b w.heap.size with h | h
    · exact h
    · simp [World.cell?, Array.getElem?_eq_none h] at h1
  have h2 := hf.blk b hb id
  simp only [World.cell?] at h1 ⊢
  rw [h2]
  exact h1
end
end Go.Sx
namespace Go.Sx
open Go Go.RowKit
section
variable {A A' B W S0 : Nat → Prop} {w0 w w' : World} {as as' as0 rt rr ro as00 : List (Option Addr)} {u : Option Addr} {b : Nat}
theorem Ex.roOff (h : Ex w0 (Av as00 No) as w) (hW : ∀ k, W k → k < w0.heap.size) (hW0 : ∀ p, some p ∈ as00 → ¬ W p.block) (hb : W b) (j : Nat) (hj : as[j]? = some u) : ¬ ∃ p, u = some p ∧ p.block = b := fun ⟨p, hp, e⟩ =>
  h.wfree hW hW0 p (mem_at hj hp) (by rw [e]; exact hb)
theorem Ex.roOffC (h : Ex w0 (Av as00 No) (as0 ++ rt) w) (hW : ∀ k, W k → k < w0.heap.size) (hW0 : ∀ p, some p ∈ as00 → ¬ W p.block) (hb : W b) : ¬ Av as0 No b := fun hk => by
  rcases hk with hk | ⟨p, hp, e⟩
  · exact hk
  · exact h.wfree hW hW0 p (by simp [hp]) (by rw [e]; exact hb)
end
section
variable {n : Nat} {l : List (Nat × Value)} {L : List (Nat × Nat × Value)} {b : Nat → Bool} {a : Act} {w : World}
theorem HasB.putR (h : HasB n l L b a) {d : Nat} (i : Nat) {v : Value} (hd : Nat.ble (d + 1) n = true) (hl : l.all (fun p => !Nat.beq p.1 d) = true) (hL : L.all (fun e => !Nat.beq e.2.1 d && !Nat.beq e.1 i) = true) : HasB n l L (fun j => b j || Nat.beq i j) (a.put (some d) v) := by
  have hp := h.has.put hd v
  refine ⟨⟨hp.sz, hp.df, fun t u hu' => ?_⟩, fun e he hb => ?_⟩
  · have hne : ¬ d = t := by
      rintro rfl
      rw [look_none hl] at hu'
      cases hu'
    exact hp.at_ t u (by simp only [look]; rw [beq_ne hne]; exact hu')
  · have h1 := List.all_eq_true.1 hL e he
    simp only [Bool.and_eq_true, Bool.not_eq_true'] at h1
    have h2 : Nat.beq i e.1 = false := beq_ne (fun h => by rw [h] at h1; rw [beq_self] at h1; cases h1.2)
    rw [h2, Bool.or_false] at hb
    rw [← h.up e he hb]
    refine put_other (beq_ne (fun h => by rw [h] at h1; rw [beq_self] at h1; cases h1.1))
def Sl (b : Nat → Bool) (a : Act) (j t : Nat) (Φ : Value → Prop) : Prop := b j = true → Φ (a.tmps.getD t undef)
theorem Sl.start {len j t : Nat} {Φ : Value → Prop} (h : Nat.blt j len = true) : Sl (fun j => !Nat.blt j len) a j t Φ := fun hb => by
  have hb : (!Nat.blt j len) = true := hb
  rw [h] at hb
  cases hb
theorem Sl.keep {i j d t : Nat} {v : Value} {Φ Φ' : Value → Prop} (h : Sl b a j t Φ) (hij : Nat.beq i j = false) (hdt : Nat.beq d t = false) (hm : ∀ v, Φ v → Φ' v) : Sl (fun j => b j || Nat.beq i j) (a.put (some d) v) j t Φ' := phi_keep h hij hdt hm
theorem Sl.new {i d : Nat} {v : Value} {Φ : Value → Prop} (ha : Has n l a) (hd : Nat.ble (d + 1) n = true) (h : Φ v) : Sl (fun j => b j || Nat.beq i j) (a.put (some d) v) i d Φ := phi_new ha hd h
end
end Go.Sx
namespace Go.Sx
open Go Go.RowKit
section
variable {P : Program}
-- append(v, make([]T, n)...): after the text that the kit's printer writes for a seat
theorem run_append_zeros (w : World) (base : Nat) (t ti ty e : TypeId) (i : TypeInfo) (z : Value) (size bytes : Nat) (ht : P.underlying t = some (.slice e)) {k : IntKind} (hti : P.underlying ti = some (.int k)) (hi : P.info? e = some i) (hz : i.zero = some z)
    (hsize : i.size = size) (hby : i.bytes = bytes) (hzs : z.cells.size = size) (hsz : 0 < size) (hb0 : 0 < bytes)
    (v : Value) (n : Nat) (xs : List Value) (hown : w.ownsRow base e size v n xs) (kx : IntKind) (m : Nat) (h1 : ∀ u ∈ (Builtin.zeroCells z.cells m).toList, u.oneCell' = true)
    (hbytes : (n + m) * bytes ≤ 140737488355328) (hbase : base ≤ w.heap.size) :
    ∃ v' w', (Builtin.append_ #[t, ti] ty #[v, .int kx m]).run P w = .ok v' w' ∧ w'.ownsRow base e size v' (n + m) (xs ++ (Builtin.zeroCells z.cells m).toList) ∧ w.grownBy w' v.ownBlock ∧
      (v'.ownBlock = v.ownBlock ∨ v'.ownBlock = some w.heap.size) := by
  subst hsize
  subst hby
  have hle : n + m ≤ 140737488355328 := Nat.le_trans (Nat.le_mul_of_pos_right _ hb0) hbytes
  have h63 : n + m ≤ maxLen := by simp only [maxLen]; omega
  have hw : IntKind.i64.wrap (m : Int) = m := by rw [IntKind.wrap_i64]; omega
  have hw0 : IntKind.i64.wrap 0 = 0 := by rw [IntKind.wrap_i64]; rfl
  have hneg : ¬ ((m : Int) < 0) := by omega
  have hmb : m * i.bytes ≤ 140737488355328 := Nat.le_trans (Nat.mul_le_mul_right _ (Nat.le_add_left m n)) hbytes
  have hbig : ¬ (281474976710656 < (m : Int) * (i.bytes : Int)) := by
    rw [← Int.natCast_mul]
    omega
  have hsn : i.size ≠ 0 := by omega
  obtain ⟨news, hnews⟩ : ∃ news, news = (Builtin.zeroCells z.cells m).toList := ⟨_, rfl⟩
  rw [← hnews] at h1 ⊢
  have hl : news.length = m * i.size := by rw [hnews, Array.length_toList, size_zeroCells, hzs]
  have hna : Builtin.zeroCells z.cells m = news.toArray := by rw [hnews]
  have hlen : (xs ++ news).length = (n + m) * i.size := by rw [List.length_append, hown.1, hl, Nat.add_mul]
  have hnil : m = 0 → news = [] := fun h => List.eq_nil_of_length_eq_zero (by rw [hl, h, Nat.zero_mul])
  have grown : ∀ (old : Nat), old < n + m → ∀ (row : Option Nat),
      (w.drew.alloc (.cells (xs.toArray ++ news.toArray ++ Builtin.zeroCells z.cells (grownCap w (n + m) old e - (n + m))) e)).ownsRow base e i.size
        (.slice (some ⟨w.heap.size, 0, none⟩) (n + m) (grownCap w (n + m) old e)) (n + m) (xs ++ news) ∧
      w.grownBy (w.drew.alloc (.cells (xs.toArray ++ news.toArray ++ Builtin.zeroCells z.cells (grownCap w (n + m) old e - (n + m))) e)) row := by
    intro old ho row
    have hge := grownCap_ge w (n + m) old e
    have hcm : grownCap w (n + m) old e ≤ maxLen := grownCap_le_maxLen w (n + m) old e h63
    refine ⟨⟨hlen, .inr ⟨w.heap.size, _, _, rfl, hbase, heap_alloc_new w.drew _, hge, hcm, ?_, ?_⟩⟩, ⟨rfl, rfl, rfl, by simp, fun k hk _ => heap_alloc_old w.drew _ hk⟩⟩
    · simp only [Array.size_append, List.size_toArray, size_zeroCells, hzs, hown.1, hl, ← Nat.add_mul]
      congr 1
      omega
    · simp only [Array.toList_append, List.append_assoc]
      rw [← List.append_assoc, ← hlen]
      exact List.take_left
  have runs : ∀ (A : Option Addr) (cap : Nat), cap < n + m → (Builtin.firstCells i.size n (.slice A n cap)).run P w.drew = .ok xs.toArray w.drew → (Builtin.append_ #[t, ti] ty #[.slice A n cap, .int kx m]).run P w =
      .ok (.slice (some ⟨w.heap.size, 0, none⟩) (n + m) (grownCap w (n + m) cap e)) (w.drew.alloc (.cells (xs.toArray ++ news.toArray ++ Builtin.zeroCells z.cells (grownCap w (n + m) cap e - (n + m))) e)) := by
    intro A cap hcap hfo
    have hn : ¬ (n + m ≤ cap) := by omega
    have h63' : ¬ (9223372036854775807 < ((n : Int) + (m : Int))) := by omega
    have hfit := growslice_fits hcap hbytes
    have h48' : ¬ (281474976710656 < Builtin.nextslicecap (n + m) cap * i.bytes) := by omega
    by_cases hm : m = 0
    · have hnl := hnil hm
      subst hm
      rw [hnl]
      simp only [Nat.add_zero] at hn h63' h48' ⊢
      have h63'' : ¬ (9223372036854775807 < (n : Int)) := by omega
      simp [Builtin.append_, run_underlying ht, run_underlying hti, sizeOf, typeInfo, zeroValue, hi, hz, asInt, asIntOf, hw0, hn, h63'', h48', Question.forced, hfo, newRow, grownCap]
    · have hmz : ¬ (m * i.size = 0) := Nat.mul_ne_zero hm hsn
      simp [Builtin.append_, run_underlying ht, run_underlying hti, sizeOf, typeInfo, zeroValue, hi, hz, asInt, asIntOf, hw, hneg, hbig, hn, h63', h48', Question.forced, hfo, newRow, grownCap, hmz, hna]
      congr 2
      apply Array.ext'
      simp [List.append_assoc]
  rcases hown.2 with ⟨rfl, rfl⟩ | ⟨g, cap, cur, rfl, hbg, hg, hnc, hcm, hcs, htake⟩
  · have hx : xs = [] := List.eq_nil_of_length_eq_zero (by simpa using hown.1)
    subst hx
    by_cases hm : m = 0
    · have hnl := hnil hm
      subst hm
      rw [hnl]
      refine ⟨.slice none 0 0, w, ?_, World.ownsRow_nil w base e i.size, ⟨rfl, rfl, rfl, Nat.le_refl _, fun _ _ _ => rfl⟩, Or.inl rfl⟩
      simp [Builtin.append_, run_underlying ht, run_underlying hti, sizeOf, typeInfo, hi, asInt, asIntOf, hw0]
    · have hgr := grown 0 (by omega) (Value.ownBlock (.slice none 0 0))
      exact ⟨_, _, runs none 0 (by omega) (by simp [Builtin.firstCells]), hgr.1, hgr.2, Or.inr rfl⟩
  · by_cases hroom : n + m ≤ cap
    · have hfit : n * i.size + news.length ≤ cur.size := by rw [hl, hcs, ← Nat.add_mul]; exact Nat.mul_le_mul_right _ hroom
      have hst := run_storeCells_at P g (n * i.size) e news 0 cur w hg hfit h1
      simp only [Nat.add_zero] at hst
      refine ⟨.slice (some ⟨g, 0, none⟩) (n + m) cap, w.setRow g (cur.toList.take (n * i.size) ++ news ++ cur.toList.drop (n * i.size + news.length)).toArray, ?_, ⟨hlen, .inr ⟨g, cap, _, rfl, hbg, setRow_heap w g cur _ e _ hg, hroom, hcm, ?_, ?_⟩⟩,
        ⟨rfl, rfl, rfl, by simp, fun k _ hk => setRow_other w g k _ (fun e => hk (by simp [Value.ownBlock, e]))⟩, Or.inl rfl⟩
      · by_cases hm : m = 0
        · have hnl := hnil hm
          subst hm
          rw [hnl] at hst ⊢
          simp [Builtin.append_, run_underlying ht, run_underlying hti, sizeOf, typeInfo, hi, asInt, asIntOf, hw0, hnc, add_at, hst]
        · have hmz : ¬ (m * i.size = 0) := Nat.mul_ne_zero hm hsn
          simp [Builtin.append_, run_underlying ht, run_underlying hti, sizeOf, typeInfo, zeroValue, hi, hz, asInt, asIntOf, hw, hneg, hbig, hroom, hmz, hna, add_at, hst]
      · simp only [List.size_toArray, List.length_append, List.length_take, List.length_drop, Array.length_toList]
        omega
      · have h6 : cur.toList.take (n * i.size) = xs := htake
        rw [h6, ← hlen]
        exact List.take_left
    · have holds : ∀ j u, xs[j]? = some u → w.cell? ((⟨g, 0, none⟩ : Addr).add j) = some u := hown.cells (g := g) rfl
      have hgr := grown cap (by omega) (Value.ownBlock (.slice (some ⟨g, 0, none⟩) n cap))
      exact ⟨_, _, runs (some ⟨g, 0, none⟩) cap (by omega) (run_firstCells_some (P := P) w.drew i.size n _ n cap xs hown.1 (by simpa using holds)), hgr.1, hgr.2, Or.inr rfl⟩
end
section
variable {P : Program} {a : Act} {w w' : World} {n : Nat} {l : List (Nat × Value)}
variable {d : Option Nat} {ty T Ti : TypeId} {pos : String} {af : Array Edge} {g : Option (Nat × Bool)} {x y z : Operand} {k k' : IntKind} {i : Int}
variable {α : Type} {A : Nat → Prop} {kd : Kd α} {p : Option Addr} {c : Nat} {xs : List α}
theorem zeros_els {R : α → List Value → Prop} {z : Array Value} {zx : α} (h : R zx z.toList) : ∀ m, Els R (List.replicate m zx) (Builtin.zeroCells z m).toList := by
  have hrep : ∀ q, (Builtin.zeroCells z (q + 1)).toList = z.toList ++ (Builtin.zeroCells z q).toList := by
    intro q
    apply List.ext_getElem
    · simp [Builtin.zeroCells, Nat.add_mul]; omega
    · intro j h1 h2
      simp only [Builtin.zeroCells, Array.toList_map, List.getElem_map, Array.getElem_toList, Array.getElem_range, List.getElem_append, Array.length_toList]
      split
      · rename_i hj
        rw [Nat.mod_eq_of_lt hj, getElem!_pos z j hj]
      · rename_i hj
        congr 1
        rw [Nat.mod_eq_sub_mod (by omega)]
  intro m
  induction m with
  | zero => simp [Builtin.zeroCells]; exact .nil
  | succ q ih => rw [List.replicate_succ, hrep]; exact .cons h ih
theorem d_appendZ {e : TypeId} {zv : Value} {zx : α} {bytes : Nat} {B S0 : Nat → Prop} {w0 : World} {lf rt : List (Option Addr)} (fs : Option Addr → List (Option Addr)) (hfs : ∀ q, fs q = lf ++ q :: rt) (ha : Has n l a) (hT : P.underlying T = some (.slice e)) (hi : (P.info? e).map (fun i => (i.zero, i.size, i.bytes)) = some (some zv, kd.sz, bytes)) (hz : zv.cells.size = kd.sz) (hs0 : 0 < kd.sz) (hb0 : 0 < bytes)
    (hx : ev l x = some (.slice p xs.length c)) (hti : P.underlying Ti = some (.int k')) (hzx : ∀ A h, kd.K A h zx zv.cells.toList) (hy : ev l y = some (.int k i)) (hi0 : 0 ≤ i) (hE : Ex w0 S0 (fs p) w) (ho : Ow (Av (fs p) B) w e kd p c xs) (hl : (xs.length + i.toNat) * bytes ≤ 140737488355328) :
    Does P ⟨d, .call { callee := .builtin .append, args := #[x, y], argTypes := #[T, Ti] }, ty, pos, af, g⟩ a w (fun v w' => ∃ p' c', v = .slice p' (xs ++ List.replicate i.toNat zx).length c' ∧ Step (fs p) (fs p') w w' ∧ Ex w0 S0 (fs p') w' ∧
      Fr w w' (fun k => ∃ s, p = some s ∧ s.block = k) ∧ Ow (Av (fs p') B) w' e kd p' c' (xs ++ List.replicate i.toNat zx)) := by
  obtain ⟨i0, hin, hzz⟩ := Option.map_eq_some_iff.1 hi
  simp only [Prod.mk.injEq] at hzz
  obtain ⟨hz0, hz1, hz2⟩ := hzz
  have hE' := hE
  rw [hfs] at hE'
  obtain ⟨cells, h1, h2⟩ := ho
  obtain ⟨m, rfl⟩ := Int.eq_ofNat_of_zero_le hi0
  simp only [Int.toNat_natCast] at hl ⊢
  have hone : ∀ u ∈ (Builtin.zeroCells zv.cells m).toList, u.oneCell' = true := by
    intro u hu
    obtain ⟨x, c, hx, hm⟩ := (zeros_els (R := kd.K (Av (fs p) B) w.heap) (hzx _ _) m).mem hu
    exact kd.one hx u hm
  have hels : Els (kd.K (Av (fs p) B) w.heap) (xs ++ List.replicate m zx) (cells ++ (Builtin.zeroCells zv.cells m).toList) := h2.append (zeros_els (hzx _ _) m)
  obtain ⟨v, w', hr, ho', hg', hat⟩ := run_append_zeros (P := P) w 0 T Ti ty e i0 zv kd.sz bytes hT hti hin hz0 hz1 hz2 hz hs0 hb0 (.slice p xs.length c) xs.length cells h1 k m hone hl (Nat.zero_le _)
  refine (Does.val (v := v) (w' := w') ?_).mono ?_
  · simp [execOp, ha.ev hx, ha.ev hy, resolve, invoke, builtin, hr]
  · rintro v1 w1 ⟨rfl, rfl⟩
    have hlen : (xs ++ List.replicate m zx).length = xs.length + m := by rw [List.length_append, List.length_replicate]
    obtain ⟨p', c', rfl⟩ : ∃ p' c', v1 = .slice p' (xs ++ List.replicate m zx).length c' := by
      rw [hlen]
      rcases ho'.2 with ⟨rfl, h0⟩ | ⟨g, cap, cur, rfl, _⟩
      · rw [h0]; exact ⟨_, _, rfl⟩
      · exact ⟨_, _, rfl⟩
    have hob : ∀ (o : Option Addr) (m c : Nat) (k : Nat), Value.ownBlock (.slice o m c) = some k ↔ ∃ s, o = some s ∧ s.block = k := by
      intro o m c k
      cases o <;> simp [Value.ownBlock]
    have hf : Fr w w1 (fun k => ∃ s, p = some s ∧ s.block = k) := (Fr.grown hg').mono (fun k _ hk => (hob _ _ _ _).1 hk.symm)
    have hnew : ∀ s, p' = some s → s.block < w1.heap.size ∧ ((∃ t, p = some t ∧ t.block = s.block) ∨ w.heap.size ≤ s.block) := by
      intro s hs
      have hlt : s.block < w1.heap.size := by
        rcases ho'.2 with ⟨h, _⟩ | ⟨g, cap, cur, h, _, hg, _⟩
        · simp only [Value.slice.injEq] at h
          rw [h.1] at hs; cases hs
        · simp only [Value.slice.injEq] at h
          rw [h.1] at hs
          injection hs with hs
          subst hs
          exact lt_of_get hg
      refine ⟨hlt, ?_⟩
      have hs' := (hob p' (xs ++ List.replicate m zx).length c' s.block).2 ⟨s, hs, rfl⟩
      rcases hat with hat | hat
      · rw [hs'] at hat
        exact .inl ((hob _ _ _ _).1 hat.symm)
      · rw [hs'] at hat
        injection hat with hat
        exact .inr (by omega)
    have hst : Step (fs p) (fs p') w w1 := by
      rw [hfs, hfs]
      exact Step.wrote hf (fun s hs => (hnew s hs).2)
    refine ⟨p', c', rfl, hst, ?_, hf, cells ++ (Builtin.zeroCells zv.cells m).toList, by rw [hlen] at ho' ⊢; exact ho', hels.imp (fun _ _ hx => hst.trK hx)⟩
    rw [hfs]
    exact hE'.wrote hf hnew
theorem d_capNil {e : TypeId} {m : Nat} (ha : Has n l a) (hT : P.underlying T = some (.slice e)) (hx : ev l x = some (.slice p m c)) : Does P ⟨d, .call { callee := .builtin .cap, args := #[x], argTypes := #[T] }, ty, pos, af, g⟩ a w (Is (.int .i64 (c : Int)) w) :=
  Does.val (by simp [execOp, ha.ev hx, resolve, invoke, builtin, Builtin.cap_, run_underlying hT, goInt])
theorem d_sliceNil {e : TypeId} {s : Nat} (ha : Has n l a) (hT : P.underlying T = some (.slice e)) (hs : ∀ w, (sizeOf e).run P w = .ok s w) (hx : ev l x = some (.slice none 0 0)) (hz : ev l z = some (.int k' 0)) :
    Does P ⟨d, .slice T x none (some z) none, ty, pos, af, g⟩ a w (Is (.slice none 0 0) w) := by
  have hb : (Instr.sliceBounds true 0 0 none (some (.int k' 0)) none).run P w = .ok (0, 0, 0) w := by
    simp [Instr.sliceBounds, run_sliceBound]
  exact Does.val (by simp [execOp, ha.ev hx, Instr.sliceAt, Instr.slice, run_underlying hT, ha.ev hz, hb, hs])
end
def It (w : World) (b : Nat) (s : ByteArray) (pos : Nat) : Prop := w.heap[b]? = some (.stringIter s pos)
section
variable {P : Program} {a : Act} {w w' : World} {n : Nat} {l : List (Nat × Value)} {b : Nat} {s : ByteArray} {p : Nat}
variable {d : Option Nat} {ty T : TypeId} {pos : String} {af : Array Edge} {g : Option (Nat × Bool)} {x : Operand} {S : Nat → Prop}
theorem It.keep (h : It w b s p) (hf : Fr w w' S) (hb : ¬ S b) : It w' b s p := (hf.blk b (lt_of_get h) hb).trans h
theorem It.stay (h : It w b s p) (hf : Fr w w' No) : It w' b s p := h.keep hf id
theorem d_range (ha : Has n l a) (hT : P.underlying T = some .string) (hx : ev l x = some (.string s)) :
    Does P ⟨d, .range T x, ty, pos, af, g⟩ a w (fun v w' => ∃ b, v = .pointer (some ⟨b, 0, none⟩) ∧ w.heap.size ≤ b ∧ b < w'.heap.size ∧ It w' b s 0 ∧ Fr w w' No) := by
  refine (Does.val (v := .pointer (some ⟨w.heap.size, 0, none⟩)) (w' := w.alloc (.stringIter s 0)) ?_).mono ?_
  · have := run_range_string (P := P) w T s hT
    simp [execOp, ha.ev hx, Instr.range, run_underlying hT]
  · rintro v w' ⟨rfl, rfl⟩
    exact ⟨_, rfl, Nat.le_refl _, by simp, by unfold It; exact heap_alloc_new w _, Fr.alloc _ _ _⟩
theorem d_next (ha : Has n l a) (hx : ev l x = some (.pointer (some ⟨b, 0, none⟩))) (hi : It w b s p) {t : Bool} (hq : decide (p < s.size) = t) (ht : t = true) :
    Does P ⟨d, .next x true, ty, pos, af, g⟩ a w (fun v w' => v = .tuple #[.bool true, .int .i64 p, .int .i32 (Utf8.decode s p).1] ∧ It w' b s (p + (Utf8.decode s p).2) ∧ Fr w w' (fun k => k = b)) := by
  have h : p < s.size := of_decide_eq_true (hq.trans ht)
  refine (Does.val (v := .tuple #[.bool true, .int .i64 p, .int .i32 (Utf8.decode s p).1]) (w' := w.iterAt b s (p + (Utf8.decode s p).2)) ?_).mono ?_
  · simp [execOp, ha.ev hx, Lib.run_next_any_at w b s p ty hi h]
  · rintro v w' ⟨rfl, rfl⟩
    exact ⟨rfl, Lib.iterAt_heap w b s p _ hi, rfl, rfl, rfl, by simp [World.iterAt], fun k _ hk => by simp [World.iterAt, Array.getElem?_setIfInBounds_ne (fun e => hk e.symm)]⟩
theorem d_nextEnd (ha : Has n l a) (hx : ev l x = some (.pointer (some ⟨b, 0, none⟩))) (hi : It w b s p) {t : Bool} (hq : decide (p < s.size) = t) (ht : t = false) :
    Does P ⟨d, .next x true, ty, pos, af, g⟩ a w (Is (.tuple #[.bool false]) w) := by
  have h : ¬ p < s.size := of_decide_eq_false (hq.trans ht)
  exact Does.val (by simp [execOp, ha.ev hx, Lib.run_next_end_at w b s p ty hi h])
end
section
variable {P : Program} {a : Act} {w : World} {n : Nat} {l : List (Nat × Value)}
variable {d : Option Nat} {ty : TypeId} {pos : String} {af : Array Edge} {g : Option (Nat × Bool)}
theorem d_callV {f : FuncId} {y : Operand} {xs : List Operand} {Ts : Array TypeId} {vs : List Value} {R : Value → World → Prop} (hf : ∀ args w, (callFunc f args).run P w = .ok (.enter f args) w) (ha : Has n l a) (hy : ev l y = some (.func (.func f) #[] #[]))
    (hx : xs.map (ev l) = vs.map some) (hc : Calls P f vs.toArray w (Ret R)) : Does P ⟨d, .call { callee := .value y, args := xs.toArray, argTypes := Ts }, ty, pos, af, g⟩ a w R := by
  refine Does.enter (f := f) (args := vs.toArray) ?_ hc
  simp [execOp, resolve, ha.ev hy, Deferred.ofValue, invoke, evs ha xs vs hx, hf]
end
end Go.Sx
namespace Go.Sx
open Go Go.RowKit
structure Dt {α : Type} (P : Program) (t : TypeId) (kd : Kd α) (R : α → Prop) : Prop where
  sz : P.cellsOf t = kd.sz
  op : ∀ {H : Type} (enc : TypeId × Value → H) (w : World) (sp : Nat → Bool) (fuel : Nat) (cs : List Value) (x : DataW H × List MemPlace), DataW.trod enc P w 0 sp true fuel t cs = some x → (∀ n ∈ DataW.weights P t x.1, n ≤ reachBytes) → ∃ y, kd.K No w.heap y cs ∧ R y
section
variable {P : Program} {t e : TypeId} {α β : Type} {kd : Kd α} {k2 : Kd β} {R : α → Prop} {R2 : β → Prop}
theorem Dt.int {k : IntKind} (hu : P.underlying t = some (.int k)) (hc : P.cellsOf t = 1) : Dt P t (Kd.int k) (fun i => (Lit.int k i).wf = true) :=
  ⟨hc, fun enc w sp fuel cs x h _ => by obtain ⟨n, rfl, _, hw⟩ := DataW.trod_int hu h; exact ⟨n, rfl, hw⟩⟩
theorem Dt.bool (hu : P.underlying t = some .bool) (hc : P.cellsOf t = 1) : Dt P t Kd.bool (fun _ => True) :=
  ⟨hc, fun enc w sp fuel cs x h _ => by obtain ⟨n, rfl, _⟩ := DataW.trod_bool hu h; exact ⟨n, rfl, trivial⟩⟩
theorem Dt.str (hu : P.underlying t = some .string) (hc : P.cellsOf t = 1) : Dt P t Kd.str (fun s => s.size ≤ 140737488351232) :=
  ⟨hc, fun enc w sp fuel cs x h hw => by obtain ⟨n, rfl, rfl, _⟩ := DataW.trod_string hu h; exact ⟨n, rfl, by have := hw n.data.toList.length (by simp [DataW.weights]); rw [Array.length_toList] at this; exact this⟩⟩
theorem cells?_get {w : World} {a : Addr} {n : Nat} {row : List Value} (h : w.cells? 0 a n = some row) : row.length = n ∧ ∀ j v, row[j]? = some v → w.cell? (a.add j) = some v := by
  unfold World.cells? at h
  rw [if_pos (Nat.zero_le _)] at h
  have key : ∀ (l : List Nat) (row : List Value), (l.mapM fun i => w.cell? (a.add i)) = some row → row.length = l.length ∧ ∀ (j : Nat) (v : Value), row[j]? = some v → ∃ i : Nat, l[j]? = some i ∧ w.cell? (a.add i) = some v := by
    intro l
    induction l with
    | nil => intro row h; simp at h; subst h; simp
    | cons i l ih =>
      intro row h
      rw [List.mapM_cons] at h
      cases h1 : w.cell? (a.add i) with
      | none => rw [h1] at h; cases h
      | some u =>
        cases h2 : (l.mapM fun i => w.cell? (a.add i)) with
        | none => rw [h1, h2] at h; cases h
        | some r =>
          rw [h1, h2] at h
          cases h
          obtain ⟨h3, h4⟩ := ih r h2
          refine ⟨by simp [h3], fun j v hv => ?_⟩
          cases j with
          | zero => simp at hv; subst hv; exact ⟨i, rfl, h1⟩
          | succ j => exact h4 j v (by simpa using hv)
  obtain ⟨h1, h2⟩ := key _ _ h
  refine ⟨by simpa using h1, fun j v hv => ?_⟩
  obtain ⟨i, hi, hv'⟩ := h2 j v hv
  rw [List.getElem?_range (by have := (List.getElem?_eq_some_iff.1 hi).1; simpa using this)] at hi
  cases hi
  exact hv'
theorem cell_spot {w : World} {a : Addr} {v : Value} (h : w.cell? a = some v) : a.spot = none ∧ ∃ C T fr, w.heap[a.block]? = some (.cells C T fr) ∧ C[a.off]? = some v := by
  unfold World.cell? at h
  split at h
  · rename_i C T fr hb
    split at h
    · cases h
    · rename_i hs
      exact ⟨by simpa using hs, C, T, fr, hb, h⟩
  · cases h
theorem mem_weightsAll {H : Type} {ds : List (DataW H)} {d : DataW H} (h : d ∈ ds) {n : Nat} (hn : n ∈ DataW.weights P e d) : n ∈ DataW.weightsAll P e ds := by
  induction ds with
  | nil => cases h
  | cons c r ih =>
    simp only [DataW.weightsAll, List.mem_append]
    rcases List.mem_cons.1 h with rfl | h
    · exact .inl hn
    · exact .inr (ih h)
theorem els_of {K : α → List Value → Prop} : ∀ (m : Nat) (f : Nat → List Value), (∀ i, i < m → ∃ y, K y (f i) ∧ R y) → ∃ ys, Els K ys ((List.range m).flatMap f) ∧ ys.length = m ∧ ∀ y ∈ ys, R y := by
  intro m
  induction m with
  | zero => intro f _; exact ⟨[], by simpa using Els.nil, rfl, fun _ h => by cases h⟩
  | succ m ih =>
    intro f h
    obtain ⟨y, hy, hR⟩ := h 0 (by omega)
    obtain ⟨ys, h1, h2, h3⟩ := ih (fun i => f (i + 1)) (fun i hi => h (i + 1) (by omega))
    refine ⟨y :: ys, ?_, by simp [h2], fun z hz => ?_⟩
    · rw [List.range_succ_eq_map, List.flatMap_cons]
      have : (List.map Nat.succ (List.range m)).flatMap f = (List.range m).flatMap (fun i => f (i + 1)) := by rw [List.flatMap_map]
      rw [this]
      exact .cons hy h1
    · rcases List.mem_cons.1 hz with rfl | hz
      · exact hR
      · exact h3 z hz
theorem flatMap_range_get {s : Nat} {f : Nat → List Value} : ∀ (m : Nat), (∀ i, i < m → (f i).length = s) → ∀ j v, ((List.range m).flatMap f)[j]? = some v → ∃ i r, i < m ∧ j = i * s + r ∧ r < s ∧ (f i)[r]? = some v := by
  intro m
  induction m generalizing f with
  | zero => intro _ j v h; simp at h
  | succ m ih =>
    intro hf j v h
    rw [List.range_succ_eq_map, List.flatMap_cons, List.flatMap_map, List.getElem?_append] at h
    have h0 := hf 0 (by omega)
    split at h
    · rename_i hj
      exact ⟨0, j, by omega, by simp, by omega, h⟩
    · rename_i hj
      obtain ⟨i, r, h1, h2, h3, h4⟩ := ih (f := fun i => f (i + 1)) (fun i hi => hf (i + 1) (by omega)) _ v h
      exact ⟨i + 1, r, by omega, by rw [Nat.succ_mul]; omega, h3, h4⟩
theorem Dt.sl (hu : P.underlying t = some (.slice e)) (hc : P.cellsOf t = 1) (d : Dt P e kd R) (hs : 0 < kd.sz) (hby : 0 < P.bytesOf e) : Dt P t (Kd.sl kd) (fun xs => xs.length ≤ 140737488351232 ∧ ∀ x ∈ xs, R x) :=
  ⟨hc, fun enc w sp fuel cs x h hw => by
    rcases DataW.trod_slice hu h with ⟨rfl, _⟩ | ⟨a, len, cap, elems, rest, n, _, rfl, rfl, _, hl, hm, hlen, hel, _, _⟩
    · exact ⟨[], ⟨none, 0, rfl, Raw.nil _ _ _ _ _ (Nat.zero_le _)⟩, by simp, fun _ h => by cases h⟩
    · have hwe : ∀ i (hi : i < elems.length), ∀ n ∈ DataW.weights P e (elems[i]).1, n ≤ reachBytes := fun i hi n hn => hw n (by
        simp only [DataW.weights, hu, List.mem_cons, List.mem_append]
        exact .inr (.inl (mem_weightsAll (List.mem_map.2 ⟨_, List.getElem_mem hi, rfl⟩) hn)))
      have hlb : len ≤ 140737488351232 := by
        have h1 := hw ((elems.length + rest.length) * P.bytesOf e) (by simp [DataW.weights, hu])
        have h2 : elems.length + rest.length ≤ (elems.length + rest.length) * P.bytesOf e := Nat.le_mul_of_pos_right _ hby
        simp only [reachBytes] at h1
        omega
      have hrow : ∀ i, i < len → ∃ row, w.cells? 0 (a.add (i * kd.sz)) kd.sz = some row ∧ ∃ y, kd.K No w.heap y row ∧ R y := by
        intro i hi
        have h1 := hel i hi
        rw [List.getElem?_eq_getElem (by omega), d.sz] at h1
        cases h2 : w.cells? 0 (a.add (i * kd.sz)) kd.sz with
        | none => rw [h2] at h1; cases h1
        | some row => rw [h2] at h1; exact ⟨row, rfl, d.op _ _ _ _ _ _ h1 (hwe i (by omega))⟩
      obtain ⟨ys, h1, h2, h3⟩ := els_of (R := R) (K := kd.K No w.heap) len (fun i => (w.cells? 0 (a.add (i * kd.sz)) kd.sz).getD []) (fun i hi => by
        obtain ⟨row, hr, y, hy⟩ := hrow i hi
        rw [hr]; exact ⟨y, hy⟩)
      refine ⟨ys, ⟨some a, cap, by rw [h2], by omega, hm, _, h1, fun hne => ?_⟩, by rw [h2]; exact hlb, h3⟩
      have hpos : 0 < len := by
        rcases Nat.eq_zero_or_pos len with h | h
        · rw [h] at h2; exact absurd (List.eq_nil_of_length_eq_zero h2) hne
        · exact h
      have hsa : a.spot = none := by
        obtain ⟨row0, hr0, _⟩ := hrow 0 hpos
        obtain ⟨h5, h6⟩ := cells?_get hr0
        have h7 := h6 0 row0[0] (List.getElem?_eq_getElem (by omega))
        have h8 : (a.add (0 * kd.sz)).add 0 = a := by simp [Addr.add]
        rw [h8] at h7
        exact (cell_spot h7).1
      obtain ⟨b, o, s⟩ := a
      simp only at hsa
      subst hsa
      have hcell : ∀ j v, ((List.range len).flatMap fun i => (w.cells? 0 ((⟨b, o, none⟩ : Addr).add (i * kd.sz)) kd.sz).getD [])[j]? = some v → w.cell? ⟨b, o + j, none⟩ = some v := by
        intro j v hv
        obtain ⟨i, r, hi, hj, hr, hv'⟩ := flatMap_range_get (s := kd.sz) len (fun i hi => by
          obtain ⟨row, hr, _⟩ := hrow i hi
          rw [hr]; exact (cells?_get hr).1) j v hv
        obtain ⟨row, hrw, _⟩ := hrow i hi
        rw [hrw] at hv'
        have h4 := (cells?_get hrw).2 r v (by simpa using hv')
        rw [add_at, add_at] at h4
        rw [hj, ← Nat.add_assoc]
        exact h4
      have h0 : ∃ v, ((List.range len).flatMap fun i => (w.cells? 0 ((⟨b, o, none⟩ : Addr).add (i * kd.sz)) kd.sz).getD [])[0]? = some v := by
        have hl1 := h1.length (fun _ _ h => kd.len h)
        have : 0 < ((List.range len).flatMap fun i => (w.cells? 0 ((⟨b, o, none⟩ : Addr).add (i * kd.sz)) kd.sz).getD []).length := by rw [hl1, h2]; exact Nat.mul_pos hpos hs
        exact ⟨_, List.getElem?_eq_getElem this⟩
      obtain ⟨v0, hv0⟩ := h0
      obtain ⟨_, C, T, fr, hb, _⟩ := cell_spot (hcell 0 v0 hv0)
      refine ⟨b, o, C, T, fr, rfl, id, hb, fun j v hv => ?_⟩
      have h6 := hcell j v hv
      obtain ⟨_, C', T', fr', hb2, hc2⟩ := cell_spot h6
      simp only at hb hb2 hc2
      rw [hb] at hb2
      cases hb2
      exact hc2⟩
structure DtF (P : Program) {α : Type} (fs : List Field) (o : Nat) (kd : Kd α) (R : α → Prop) : Prop where
  op : ∀ {H : Type} (enc : TypeId × Value → H) (w : World) (sp : Nat → Bool) (n : Nat) (cs : List Value), cs.length = o + kd.sz → (∀ f ∈ fs, ∃ x, DataW.trod enc P w 0 sp true n f.type ((cs.drop f.offset).take (P.cellsOf f.type)) = some x ∧ ∀ n ∈ DataW.weights P f.type x.1, n ≤ reachBytes) → ∃ y, kd.K No w.heap y (cs.drop o) ∧ R y
theorem DtF.one {f : Field} {o : Nat} (ho : f.offset = o) (d : Dt P f.type kd R) : DtF P [f] o kd R := ⟨fun enc w sp n cs hl h => by
  obtain ⟨x, hx, hw⟩ := h f (by simp)
  rw [ho, d.sz, List.take_of_length_le (by rw [List.length_drop]; omega)] at hx
  exact d.op _ _ _ _ _ _ hx hw⟩
theorem DtF.cons {f : Field} {fs : List Field} {o : Nat} (ho : f.offset = o) (d : Dt P f.type kd R) (r : DtF P fs (o + kd.sz) k2 R2) : DtF P (f :: fs) o (Kd.pair kd k2) (fun x => R x.1 ∧ R2 x.2) := ⟨fun enc w sp n cs hl h => by
  obtain ⟨x, hx, hw⟩ := h f (by simp)
  rw [ho, d.sz] at hx
  obtain ⟨y1, h1, h2⟩ := d.op _ _ _ _ _ _ hx hw
  obtain ⟨y2, h3, h4⟩ := r.op enc w sp n cs (by rw [hl]; show _ = o + kd.sz + k2.sz; show o + (kd.sz + k2.sz) = _; omega) (fun g hg => h g (by simp [hg]))
  refine ⟨(y1, y2), ⟨_, _, ?_, h1, h3⟩, h2, h4⟩
  rw [← List.drop_drop, List.take_append_drop]⟩
theorem Dt.struct {fs : Array Field} (hu : P.underlying t = some (.struct fs)) (hc : P.cellsOf t = kd.sz) (d : DtF P fs.toList 0 kd R) : Dt P t kd R :=
  ⟨hc, fun enc w sp fuel cs x h hw => by
    obtain ⟨xs, n, _, rfl, hl, hx, hf⟩ := DataW.trod_struct hu h
    have := d.op enc w sp n cs (by rw [hl, hc, Nat.zero_add]) (fun f hf' => by
      obtain ⟨i, hi, he⟩ := List.getElem_of_mem hf'
      have h1 := hf i f (by rw [← Array.getElem?_toList, List.getElem?_eq_getElem hi, he])
      have hi2 : i < xs.length := by rw [hx]; simpa using hi
      rw [List.getElem?_eq_getElem hi2] at h1
      refine ⟨_, h1, fun n hn => hw n ?_⟩
      simp only [DataW.weights, hu]
      exact DataW.weights_mem_each (ts := fs.toList.map (·.type)) (j := i) (t := f.type) (d := (xs[i]).1) (by rw [List.getElem?_map, List.getElem?_eq_getElem hi, he]; rfl) (by rw [List.getElem?_map, List.getElem?_eq_getElem hi2]; rfl) n hn)
    simpa using this⟩
theorem Dt.arr {m : Nat} (hu : P.underlying t = some (.array m e)) (hc : P.cellsOf t = m * kd.sz) (d : Dt P e kd R) : Dt P t (Kd.arr m kd) (fun xs => ∀ x ∈ xs, R x) :=
  ⟨hc, fun enc w sp fuel cs x h hw => by
    obtain ⟨xs, n, _, rfl, hl, hx, hf⟩ := DataW.trod_array hu h
    obtain ⟨ys, h1, h2, h3⟩ := els_of (R := R) (K := kd.K No w.heap) m (fun i => (cs.drop (i * kd.sz)).take kd.sz) (fun i hi => by
      have h1 := hf i hi
      rw [List.getElem?_eq_getElem (by rw [hx]; exact hi), d.sz] at h1
      exact d.op _ _ _ _ _ _ h1 (fun n hn => hw n (by
        simp only [DataW.weights, hu]
        exact mem_weightsAll (List.mem_map.2 ⟨_, List.getElem_mem _, rfl⟩) hn)))
    refine ⟨ys, ⟨h2, ?_⟩, h3⟩
    have he : (List.range m).flatMap (fun i => (cs.drop (i * kd.sz)).take kd.sz) = cs := by
      have key : ∀ (m : Nat) (cs : List Value), cs.length = m * kd.sz → (List.range m).flatMap (fun i => (cs.drop (i * kd.sz)).take kd.sz) = cs := by
        intro m
        induction m with
        | zero => intro cs h; simp at h; subst h; rfl
        | succ m ih =>
          intro cs h
          rw [List.range_succ_eq_map, List.flatMap_cons, List.flatMap_map]
          have h2 := ih (cs.drop kd.sz) (by rw [List.length_drop, h, Nat.succ_mul]; omega)
          simp only [List.drop_drop] at h2
          have h3 : (fun i => (cs.drop (i.succ * kd.sz)).take kd.sz) = fun i => (cs.drop (kd.sz + i * kd.sz)).take kd.sz := by
            funext i; rw [Nat.succ_mul, Nat.add_comm]
          rw [h3, h2]
          simp
      exact key m cs (by rw [hl, hc])
    rw [he] at h1
    exact h1⟩
theorem sized_arg {H : Type} {ts : List TypeId} {ds : List (DataW H)} (h : (DataW.weightsEach P ts ds).all (· ≤ reachBytes) = true) {j : Nat} {t : TypeId} {d : DataW H} (ht : ts[j]? = some t) (hd : ds[j]? = some d) : ∀ n ∈ DataW.weights P t d, n ≤ reachBytes := fun n hn => by
  have := List.all_eq_true.1 h n (DataW.weights_mem_each ht hd n hn)
  simpa using this
theorem raw_arg {h : Array Obj} {a : Option Addr} {c : Nat} {xs : List α} (r : Raw No kd h a c xs) : Raw (Av [] No) kd h a c xs := r.mono (fun k _ hk => by
  rcases hk with hk | ⟨_, hk, _⟩
  · exact hk
  · cases hk)
theorem Ex.bel {w w' : World} (h : Ex w (Av [] No) [] w') : Below w.heap.size w w' := (h.fr.mono (S' := No) (fun k _ hk => by
  rcases hk with hk | ⟨_, hk, _⟩
  · exact hk
  · cases hk)).below
end
end Go.Sx
namespace Go.Sx
open Go Go.RowKit
structure EqV (P : Program) (d : Nat) (t : TypeId) (x y : Value) (q : Prop) : Prop where
  run : ∀ w, ∃ r : Bool, (Op.equalIn d t x y).run P w = .ok r w ∧ (r = true ↔ q)
structure EqF (P : Program) (d : Nat) (xs ys : Array Value) (fs : List Field) (q : Prop) : Prop where
  run : ∀ w, ∃ r : Bool, (Op.eqFields d xs ys fs).run P w = .ok r w ∧ (r = true ↔ q)
def Pt (P : Program) (t : TypeId) (cs : Array Value) (off : Nat) (v : Value) : Prop := ∀ w, (part t cs off).run P w = .ok v w
section
variable {P : Program} {d : Nat} {t : TypeId} {x y : Value} {p q : Prop} {xs ys : Array Value} {f : Field} {fs : List Field}
theorem EqV.int {k k' : IntKind} {a b : Int} (hu : P.underlying t = some (.int k')) : EqV P (d + 1) t (.int k a) (.int k b) (a = b) := ⟨fun w => ⟨a == b, run_equalIn_int w d t k k' a b hu, by simp⟩⟩
theorem EqV.bool {a b : Bool} (hu : P.underlying t = some .bool) : EqV P (d + 1) t (.bool a) (.bool b) (a = b) := ⟨fun w => ⟨a == b, run_equalIn_bool' w d t a b hu, by simp⟩⟩
theorem EqV.str {a b : ByteArray} (hu : P.underlying t = some .string) : EqV P (d + 1) t (.string a) (.string b) (a = b) := ⟨fun w => by
  refine ⟨decide (a = b), ?_, by simp⟩
  rw [run_equalIn_string w d t a b hu]
  simp [toList_eq_iff]⟩
theorem Pt.cell {cs : Array Value} {off : Nat} {v : Value} (hg : ∀ w, (isAgg t).run P w = .ok false w) (hv : cs[off]? = some v) : Pt P t cs off v := fun w => by simp [part, hg, hv]
theorem Pt.agg {cs : Array Value} {off s : Nat} {l : Array Value} (hg : ∀ w, (isAgg t).run P w = .ok true w) (hs : ∀ w, (sizeOf t).run P w = .ok s w) (hl : cs.extract off (off + s) = l) : Pt P t cs off (.agg l) := fun w => by simp [part, hg, hs, hl]
theorem EqF.cons (hn : f.name ≠ "_") (hx : Pt P f.type xs f.offset x) (hy : Pt P f.type ys f.offset y) (h : EqV P d f.type x y p) (r : EqF P d xs ys fs q) : EqF P d xs ys (f :: fs) (p ∧ q) := ⟨fun w => by
  obtain ⟨r1, h1, h2⟩ := h.run w
  obtain ⟨r2, h3, h4⟩ := r.run w
  cases r1 with
  | false => exact ⟨false, by simp [Op.eqFields, hn, hx w, hy w, h1], by simp [← h2]⟩
  | true => exact ⟨r2, by simp [Op.eqFields, hn, hx w, hy w, h1, h3], by simp [h4, ← h2]⟩⟩
theorem EqF.one (hn : f.name ≠ "_") (hx : Pt P f.type xs f.offset x) (hy : Pt P f.type ys f.offset y) (h : EqV P d f.type x y p) : EqF P d xs ys [f] p := ⟨fun w => by
  obtain ⟨r1, h1, h2⟩ := h.run w
  cases r1 with
  | false => exact ⟨false, by simp [Op.eqFields, hn, hx w, hy w, h1], by simp [← h2]⟩
  | true => exact ⟨true, by simp [Op.eqFields, hn, hx w, hy w, h1], by simp [← h2]⟩⟩
theorem EqV.struct {fs : Array Field} (hu : P.underlying t = some (.struct fs)) (hp : P.stoodInHeld t = false) (h : EqF P d xs ys fs.toList q) : EqV P (d + 1) t (.agg xs) (.agg ys) q := ⟨fun w => by
  have hf : P.fieldsOf t = fs := by simp [Program.fieldsOf, hu]
  rw [run_equalIn_struct w d t xs ys (by rw [hf]; exact hu) hp, hf]
  exact h.run w⟩
end
section
variable {P : Program} {a : Act} {w : World} {n : Nat} {l : List (Nat × Value)}
variable {d : Option Nat} {ty T T' : TypeId} {pos : String} {af : Array Edge} {g : Option (Nat × Bool)} {x y : Operand} {xs ys : Array Value} {q : Prop}
theorem guard_agg {op : BinOp} (hg : P.eqGuardType P.depth T = false) (w : World) : (eqGuard op T x y (.agg xs) (.agg ys)).run P w = .ok () w := by
  cases op <;> simp [eqGuard, hg]
theorem d_eqAg [Decidable q] (ha : Has n l a) (hx : ev l x = some (.agg xs)) (hy : ev l y = some (.agg ys)) (hg : P.eqGuardType P.depth T = false) (h : EqV P 10000 T (.agg xs) (.agg ys) q) : Does P ⟨d, .binOp .eql T x y T', ty, pos, af, g⟩ a w (Is (.bool (decide q)) w) :=
  d_bin ha hx hy (guard_agg hg) (by
    obtain ⟨r, h1, h2⟩ := h.run w
    have h3 : r = decide q := Bool.eq_iff_iff.2 (h2.trans decide_eq_true_iff.symm)
    simp only [binOp, Op.equal, Op.maxDepth, Sem.run_bind, Sem.run_pure, h1, Result.andThen_ok, h3])
theorem d_neAg [Decidable q] (ha : Has n l a) (hx : ev l x = some (.agg xs)) (hy : ev l y = some (.agg ys)) (hg : P.eqGuardType P.depth T = false) (h : EqV P 10000 T (.agg xs) (.agg ys) q) : Does P ⟨d, .binOp .neq T x y T', ty, pos, af, g⟩ a w (Is (.bool (!decide q)) w) :=
  d_bin ha hx hy (guard_agg hg) (by
    obtain ⟨r, h1, h2⟩ := h.run w
    have h3 : r = decide q := Bool.eq_iff_iff.2 (h2.trans decide_eq_true_iff.symm)
    simp only [binOp, Op.equal, Op.maxDepth, Sem.run_bind, Sem.run_pure, h1, Result.andThen_ok, h3])
end
section
variable {P : Program} {a : Act} {w : World} {Q : Exit → Act → World → Prop}
theorem wscopeJ {c y : Code} (l : Nat) (J : Nat → Act → World → Prop) (k : Nat) (hf : findLabel c l = some (.seq .skip y))
    (hy : ∀ k a w, J k a w → ∀ K : Act → World → Prop, (∀ k' a w, k' < k → J k' a w → K a w) → y.wp P (Exit.jump l K Q) a w)
    (first : ∀ Q' : Exit → Act → World → Prop, (∀ a w, J k a w → y.wp P Q' a w) → c.wp P Q' a w) : (Code.scope c).wp P Q a w := by
  intro b ks cs
  have hg : gotoIn l (.inScope c :: ks) = some (.code (.seq .skip y) :: .inScope c :: ks) := by simp [gotoIn, hf]
  have pass : ∀ k a w, J k a w → (Code.seq .skip y).wp P (Exit.jump l (fun a' w' => ∃ k', k' < k ∧ J k' a' w') Q) a w := fun k a w h =>
    wp_seq (wp_skip (hy k a w h (fun a' w' => ∃ k', k' < k ∧ J k' a' w') (fun k' a w hk hJ => ⟨k', hk, hJ⟩)))
  have key : ∀ n a w, J n a w → ∃ e a' w', Q e a' w' ∧ Arrives P (lone (b.at a (.code (.seq .skip y) :: .inScope c :: ks)) cs w) b ks cs e a' w' := by
    intro n
    induction n using Nat.strongRecOn with
    | _ n ih =>
      intro a w hJ
      obtain ⟨e, a₁, w₁, hq, harr⟩ := pass n a w hJ b (.inScope c :: ks) cs
      cases e with
      | normal => exact ⟨.normal, a₁, w₁, hq, Steps.trans harr (.one step_inScope)⟩
      | exit id => exact ⟨.exit id, a₁, w₁, hq, fun k' hk => harr k' (by simp [exitTo, hk])⟩
      | goto l' =>
        obtain ⟨rfl, k', hlt, hJ'⟩ := hq
        obtain ⟨e₂, a₂, w₂, hq₂, harr₂⟩ := ih k' hlt a₁ w₁ hJ'
        exact ⟨e₂, a₂, w₂, hq₂, .of_steps (harr _ hg) harr₂⟩
      | ret => exact ⟨_, a₁, w₁, hq, harr⟩
      | panic ch => exact ⟨_, a₁, w₁, hq, harr⟩
      | outgrown => exact ⟨_, a₁, w₁, hq, harr⟩
  obtain ⟨e, a₁, w₁, hq, harr⟩ := first (Exit.jump l (fun a' w' => ∃ k', J k' a' w') Q) (fun a w hJ => hy k a w hJ _ (fun k' a w _ hJ => ⟨k', hJ⟩)) b (.inScope c :: ks) cs
  cases e with
  | normal => exact ⟨.normal, a₁, w₁, hq, .head step_scope (Steps.trans harr (.one step_inScope))⟩
  | exit id => exact ⟨.exit id, a₁, w₁, hq, fun k' hk => .head step_scope (harr k' (by simp [exitTo, hk]))⟩
  | goto l' =>
    obtain ⟨rfl, k', hJ'⟩ := hq
    obtain ⟨e₂, a₂, w₂, hq₂, harr₂⟩ := key k' a₁ w₁ hJ'
    exact ⟨e₂, a₂, w₂, hq₂, .of_steps (.head step_scope (harr _ hg)) harr₂⟩
  | ret => exact ⟨_, a₁, w₁, hq, .of_steps (.one step_scope) harr⟩
  | panic ch => exact ⟨_, a₁, w₁, hq, .of_steps (.one step_scope) harr⟩
  | outgrown => exact ⟨_, a₁, w₁, hq, .of_steps (.one step_scope) harr⟩
end
section
variable {P : Program} {a : Act} {w : World} {n : Nat} {l : List (Nat × Value)}
variable {d : Option Nat} {ty T T' : TypeId} {pos : String} {af : Array Edge} {g : Option (Nat × Bool)} {x : Operand}
variable {α : Type} {A B W : Nat → Prop} {kd : Kd α} {p : Option Addr} {c : Nat} {xs : List α} {w0 : World} {as as00 : List (Option Addr)}
theorem d_cvtMark {e : TypeId} (ha : Has n l a) (hT : P.underlying T = some (.slice e)) (he : P.underlying e = some (.int .u8)) (hx : ev l x = some (.slice p xs.length c)) (ho : Ow A w e kd p c xs) (hf : kd.Flat) (hn : 0 < xs.length)
    (hA : ∀ q, p = some q → ¬ B q.block) :
    Does P ⟨d, .convert T T x, ty, pos, af, g⟩ a w (fun v w' => v = .slice p xs.length c ∧ Fr w w' (fun k => ∃ s, p = some s ∧ s.block = k) ∧ Raw B kd w'.heap p c xs) := by
  obtain ⟨cells, h1, h2⟩ := ho
  have hcl := h1.1
  rcases own_none h1 with ⟨rfl, h, _⟩ | ⟨b, cur, rfl, hg, h3, h4, h5, h6⟩
  · omega
  · refine (Does.val (v := .slice (some ⟨b, 0, none⟩) xs.length c) (w' := w.freeze ⟨b, cur.size, none⟩ 1) ?_).mono ?_
    · have : (convert T T (.slice (some ⟨b, 0, none⟩) xs.length c)).run P w = .ok (.slice (some ⟨b, 0, none⟩) xs.length c) (w.freeze ⟨b, cur.size, none⟩ 1) := by
        simp [convert, run_underlying hT, run_underlying he, markStringish, World.shape?, hg]
      simp [execOp, ha.ev hx, this]
    · rintro v w' ⟨rfl, rfl⟩
      have hb : (w.freeze ⟨b, cur.size, none⟩ 1).heap[b]? = some (.cells cur e (cur.size, cur.size + 1)) := by
        simp [World.freeze, Array.getElem?_modify, hg]
      refine ⟨rfl, ⟨rfl, rfl, rfl, by simp [World.freeze], fun k _ hk => ?_⟩, h3, h4, cells, h2.imp (fun _ _ hx => hf.eq hx), fun _ => ⟨b, 0, cur, e, _, rfl, hA _ rfl, hb, fun j v hv => ?_⟩⟩
      · have hne : ¬ b = k := fun e => hk ⟨_, rfl, e⟩
        simp [World.freeze, Array.getElem?_modify, hne]
      · rw [← h6, List.getElem?_take] at hv
        split at hv
        · simpa using hv
        · cases hv
theorem Ex.offW {u : Option Addr} (h : Ex w0 (Av as00 No) as w) (hW : ∀ k, W k → k < w0.heap.size) (hW0 : ∀ p, some p ∈ as00 → ¬ W p.block) (m : Nat) (hm : as[m]? = some u) : ∀ q, u = some q → ¬ Av (as.eraseIdx m) W q.block := fun q hq hk => by
  rcases hk with hk | ⟨s, hs, hb⟩
  · exact h.wfree hW hW0 q (mem_at hm hq) hk
  · obtain ⟨i, hi, he⟩ := List.mem_eraseIdx_iff_getElem?.1 hs
    exact h.off i m he hm hi q hq ⟨s, rfl, hb⟩
theorem Raw.reA {q : Option Addr} {c' : Nat} (r : Raw A kd w.heap q c' xs) (f : kd.Flat) (h : ∀ s, q = some s → ¬ B s.block) : Raw B kd w.heap q c' xs := by
  obtain ⟨h1, h2, cells, he, hm⟩ := r
  refine ⟨h1, h2, cells, he.imp (fun _ _ hx => f.eq hx), fun hne => ?_⟩
  obtain ⟨b, o, C, T, fr, ha, _, hb, hc⟩ := hm hne
  exact ⟨b, o, C, T, fr, ha, h _ ha, hb, hc⟩
theorem Raw.argP {as0 rr ro : List (Option Addr)} {q : Option Addr} {c' : Nat} {ys : List α} (r : Raw A kd w.heap q c' ys) (f : kd.Flat) (hq : In p q) (hE : Ex w0 (Av as00 No) (as0 ++ (rr ++ ro)) w) (hW : ∀ k, W k → k < w0.heap.size) (hW0 : ∀ p, some p ∈ as00 → ¬ W p.block) (hp : p ∈ rr) : Raw (Av as0 (Av ro W)) kd w.heap q c' ys :=
  r.reA f (fun s hs hk => by
    obtain ⟨t, ht, e⟩ := hq s hs
    rw [← e] at hk
    rcases hk with (hk | ⟨s, hs, hb⟩) | ⟨s, hs, hb⟩
    · exact hE.wfree hW hW0 t (by rw [← ht]; simp [hp]) hk
    · exact (List.pairwise_append.1 (List.pairwise_append.1 hE.dis).2.1).2.2 p hp (some s) hs t s ht rfl hb.symm
    · exact (List.pairwise_append.1 hE.dis).2.2 (some s) hs p (by simp [hp]) s t rfl ht hb)
end
section
variable {P : Program} {a : Act} {w : World} {n : Nat} {l : List (Nat × Value)}
variable {d : Option Nat} {ty T T' : TypeId} {pos : String} {af : Array Edge} {g : Option (Nat × Bool)} {x y : Operand}
theorem d_slnil_eq {p : Option Addr} {m c : Nat} {e : TypeId} (ha : Has n l a) (hT : P.underlying T = some (.slice e)) (hx : ev l x = some (.slice p m c)) (hy : ev l y = some (.slice none 0 0)) : Does P ⟨d, .binOp .eql T x y T', ty, pos, af, g⟩ a w (Is (.bool p.isNone) w) :=
  d_bin ha hx hy guard_slice (by
    have h := run_equalIn_slice_nil (P := P) w 9999 T e p m c hT
    simp only [binOp, Op.equal, Op.maxDepth, Sem.run_bind, Sem.run_pure, h, Result.andThen_ok])
theorem d_slnil_ne {p : Option Addr} {m c : Nat} {e : TypeId} (ha : Has n l a) (hT : P.underlying T = some (.slice e)) (hx : ev l x = some (.slice p m c)) (hy : ev l y = some (.slice none 0 0)) : Does P ⟨d, .binOp .neq T x y T', ty, pos, af, g⟩ a w (Is (.bool (!p.isNone)) w) :=
  d_bin ha hx hy guard_slice (by
    have h := run_equalIn_slice_nil (P := P) w 9999 T e p m c hT
    simp only [binOp, Op.equal, Op.maxDepth, Sem.run_bind, Sem.run_pure, h, Result.andThen_ok])
theorem Raw.nilOf {α : Type} {A : Nat → Prop} {kd : Kd α} {h : Array Obj} {c : Nat} {xs : List α} (r : Raw A kd h none c xs) : xs = [] := by
  obtain ⟨_, _, cells, _, hm⟩ := r
  by_cases hx : xs = []
  · exact hx
  · obtain ⟨b, o, C, T, fr, h, _⟩ := hm hx
    cases h
end
section
variable {B : Nat → Prop} {w w' : World} {as as' : List (Option Addr)} {b o : Nat} {cs : List Value}
theorem Nb.step (h : Nb (Av as B) w b) (hs : Step as as' w w') : Nb (Av as' B) w' b := ⟨fun hv => h.1 (hs.key B b h.2 hv), Nat.lt_of_lt_of_le h.2 hs.size⟩
theorem At.step (h : At w b o cs) (hn : Nb (Av as B) w b) (hs : Step as as' w w') : At w' b o cs := fun j v hv => by
  have h1 := h j v hv
  have h2 := hs.blk b hn.2 (fun p hp e => hn.1 (.inr ⟨p, hp, e⟩))
  simp only [World.cell?] at h1 ⊢
  rw [h2]
  exact h1
end
end Go.Sx
namespace Go.Mx
open Go Go.RowKit Go.Sx
inductive T where
  | int (k : IntKind)
  | bool
  | str
  | unit
  | flt
  | cpx
  | fn
  | one (t : T)
  | pair (a b : T)
  | arr (n : Nat) (t : T)
  | sl (t : T)
  deriving DecidableEq, Inhabited
@[reducible] def T.den : T → Type
  | .int _ => Int
  | .bool => Bool
  | .str => ByteArray
  | .unit => Unit
  | .flt => Nat
  | .cpx => Nat × Nat
  | .fn => Nat
  | .one t => t.den
  | .pair a b => a.den × b.den
  | .arr _ t => List t.den
  | .sl t => List t.den
def T.sz : T → Nat
  | .unit => 0
  | .one t => t.sz
  | .pair a b => a.sz + b.sz
  | .arr n t => n * t.sz
  | _ => 1
inductive Step where
  | fst
  | snd (k : Nat)
  | one
  | idx (i sz : Nat)
inductive AV where
  | dat (t : T) (x : t.den)
  | pr (a b : AV)
  | one (a : AV)
  | ptr (id : Nat) (p : List Step)
  | nilp
  | rdp (t : T) (x : t.den)
  | view (id : Nat)
  | pre (id n : Nat)
  | tgt (id n : Nat)
  | win (id off n : Nat)
  | nils
  | cut (t : T)
  | nilw (t : T)
  | sln (t : T) (xs : List t.den)
  | mp (id : Nat)
  | nilm
  | fn (f : FuncId) (fs cs : List AV)
  | nilf
  | iface (t : TypeId) (v : AV)
  | nilI
  | tup (l : List AV)
  | undef
inductive Md where
  | own | ro | fz
  deriving DecidableEq
inductive AO where
  | gone
  | box (ty : TypeId) (v : AV) (w : Bool)
  | row (e : TypeId) (t : T) (xs : List t.den) (m : Md)
  | itr (s : ByteArray) (pos : Nat) (w : Bool)
  | map (k v : T) (es : List (k.den × v.den)) (w : Bool)
class Glb where
  gl : Nat → Option ((t : T) × t.den)
def AV.sz : AV → Nat
  | .dat t _ => t.sz
  | .pr a b => a.sz + b.sz
  | .one a => a.sz
  | _ => 1
abbrev Slots := List (Nat × AV)
structure St where
  sl : Slots
  ob : List AO
section
variable {R : Type}
def lookA (t : Nat) : Slots → Option AV
  | [] => none
  | p :: r => cond (Nat.beq p.1 t) (some p.2) (lookA t r)
def mkpr : AV → AV → AV
  | .dat a x, .dat b y => .dat (.pair a b) (x, y)
  | u, v => .pr u v
def mkone : AV → AV
  | .dat a x => .dat (.one a) x
  | u => .one u
def dec : (t : T) → AV → Option t.den
  | t, .dat t' x => if h : t' = t then some (h ▸ x) else none
  | .sl _, .nils => some []
  | .sl _, .cut _ => some []
  | .sl _, .nilw _ => some []
  | .pair a b, .pr u v => (match dec a u with | some x => (match dec b v with | some y => some (x, y) | none => none) | none => none)
  | .one a, .one u => dec a u
  | .fn, .fn f [] [] => some f
  | _, _ => none
def getK : AV → List Step → (AV → Option R) → Option R
  | v, [], K => K v
  | .dat (.pair a _) x, .fst :: p, K => getK (.dat a x.1) p K
  | .dat (.pair a b) x, .snd k :: p, K => cond (Nat.beq k a.sz) (getK (.dat b x.2) p K) none
  | .dat (.one a) x, .one :: p, K => getK (.dat a x) p K
  | .dat (.arr _ t) xs, .idx i s :: p, K => cond (Nat.beq s t.sz) ((xs[i]?).bind fun x => getK (.dat t x) p K) none
  | .pr a _, .fst :: p, K => getK a p K
  | .pr a b, .snd k :: p, K => cond (Nat.beq k a.sz) (getK b p K) none
  | .one a, .one :: p, K => getK a p K
  | _, _ :: _, _ => none
def setK : AV → List Step → AV → (AV → Option R) → Option R
  | v, [], u, K => cond (Nat.beq v.sz u.sz) (K u) none
  | .dat (.pair a b) x, .fst :: p, u, K => setK (.dat a x.1) p u fun y => K (mkpr y (.dat b x.2))
  | .dat (.pair a b) x, .snd k :: p, u, K => cond (Nat.beq k a.sz) (setK (.dat b x.2) p u fun y => K (mkpr (.dat a x.1) y)) none
  | .dat (.one a) x, .one :: p, u, K => setK (.dat a x) p u fun y => K (mkone y)
  | .dat (.arr n t) xs, .idx i s :: p, u, K => cond (Nat.beq s t.sz) ((xs[i]?).bind fun x => setK (.dat t x) p u fun y => match dec t y with
      | some z => K (.dat (.arr n t) (xs.set i z))
      | none => none) none
  | .pr a b, .fst :: p, u, K => setK a p u fun y => K (mkpr y b)
  | .pr a b, .snd k :: p, u, K => cond (Nat.beq k a.sz) (setK b p u fun y => K (mkpr a y)) none
  | .one a, .one :: p, u, K => setK a p u fun y => K (mkone y)
  | _, _ :: _, _, _ => none
mutual
def AV.ids : AV → List Nat
  | .pr a b => a.ids ++ b.ids
  | .one a => a.ids
  | .ptr i _ => [i]
  | .view i => [i]
  | .pre i _ => [i]
  | .tgt i _ => [i]
  | .win i _ _ => [i]
  | .mp i => [i]
  | .fn _ fs cs => AV.idsL fs ++ AV.idsL cs
  | .iface _ v => v.ids
  | .tup l => AV.idsL l
  | _ => []
def AV.idsL : List AV → List Nat
  | [] => []
  | v :: l => v.ids ++ AV.idsL l
end
def AO.ids : AO → List Nat
  | .box _ v _ => v.ids
  | _ => []
def posn (i : Nat) : List Nat → Nat → Option Nat
  | [], _ => none
  | j :: l, n => cond (Nat.beq j i) (some n) (posn i l (n + 1))
mutual
def AV.ren (f : Nat → Option Nat) : AV → Option AV
  | .dat t x => some (.dat t x)
  | .pr a b => match a.ren f with | some a => (match b.ren f with | some b => some (.pr a b) | none => none) | none => none
  | .one a => match a.ren f with | some a => some (.one a) | none => none
  | .ptr i p => match f i with | some i => some (.ptr i p) | none => none
  | .nilp => some .nilp
  | .rdp t x => some (.rdp t x)
  | .view i => match f i with | some i => some (.view i) | none => none
  | .pre i n => match f i with | some i => some (.pre i n) | none => none
  | .tgt i n => match f i with | some i => some (.tgt i n) | none => none
  | .win i o n => match f i with | some i => some (.win i o n) | none => none
  | .nils => some .nils
  | .cut t => some (.cut t)
  | .nilw t => some (.nilw t)
  | .sln t xs => some (.sln t xs)
  | .mp i => match f i with | some i => some (.mp i) | none => none
  | .nilm => some .nilm
  | .fn g fs cs => match AV.renL f fs with | some fs => (match AV.renL f cs with | some cs => some (.fn g fs cs) | none => none) | none => none
  | .nilf => some .nilf
  | .iface t v => match v.ren f with | some v => some (.iface t v) | none => none
  | .nilI => some .nilI
  | .tup l => match AV.renL f l with | some l => some (.tup l) | none => none
  | .undef => some .undef
def AV.renL (f : Nat → Option Nat) : List AV → Option (List AV)
  | [] => some []
  | v :: l => match v.ren f with | some v => (match AV.renL f l with | some l => some (v :: l) | none => none) | none => none
end
def AO.ren (f : Nat → Option Nat) : AO → Option AO
  | .gone => some .gone
  | .box ty v w => match v.ren f with | some v => some (.box ty v w) | none => none
  | .row e t xs m => some (.row e t xs m)
  | .itr s p w => some (.itr s p w)
  | .map k v es w => some (.map k v es w)
def renAll (f : Nat → Option Nat) : List AO → Option (List AO)
  | [] => some []
  | o :: l => match o.ren f with | some o => (match renAll f l with | some l => some (o :: l) | none => none) | none => none
def visit (ob : List AO) : Nat → List Nat → List Nat → List Nat
  | 0, _, L => L
  | _ + 1, [], L => L
  | n + 1, i :: r, L => cond (L.contains i) (visit ob n r L) (visit ob n ((match ob[i]? with | some o => o.ids | none => []) ++ r) (L ++ [i]))
def reachA (ob : List AO) (l : List Nat) : List Nat := visit ob (4 * ob.length + 4 * l.length + 16) l []
def objs (ob : List AO) : List Nat → Option (List AO)
  | [] => some []
  | i :: r => match ob[i]? with | some o => (match objs ob r with | some l => some (o :: l) | none => none) | none => none
def nodupB : List Nat → Bool
  | [] => true
  | i :: r => !r.contains i && nodupB r
def zerF (z : TypeId → Option AV) : List TypeId → Option AV
  | [] => some (.dat .unit ())
  | [t] => (match z t with | some a => some (mkone a) | none => none)
  | t :: r => (match z t with
    | some a => (match r with
      | [u] => (match z u with | some b => some (mkpr a b) | none => none)
      | r => (match zerF z r with | some b => some (mkpr a b) | none => none))
    | none => none)
def zer (P : Program) : Nat → TypeId → Option AV
  | 0, _ => none
  | n + 1, t => match P.underlying t with
    | some .bool => some (.dat .bool false)
    | some (.int k) => some (.dat (.int k) 0)
    | some .string => some (.dat .str ⟨#[]⟩)
    | some (.float .f64) => some (.dat .flt 0)
    | some (.complex .f64) => some (.dat .cpx (0, 0))
    | some (.slice _) => some .nils
    | some (.pointer _) => some .nilp
    | some (.map _ _) => some .nilm
    | some (.func _ _ _) => some .nilf
    | some (.interface _) => some .nilI
    | some (.struct fs) => zerF (zer P n) (fs.toList.map (·.type))
    | some (.array m e) => (match zer P n e with
      | some (.dat t z) => some (.dat (.arr m t) (List.replicate m z))
      | _ => none)
    | _ => none
def tyF (z : TypeId → Option T) : List TypeId → Option T
  | [] => some .unit
  | [t] => (match z t with | some a => some (.one a) | none => none)
  | t :: r => (match z t with
    | some a => (match r with
      | [u] => (match z u with | some b => some (.pair a b) | none => none)
      | r => (match tyF z r with | some b => some (.pair a b) | none => none))
    | none => none)
def tyT (P : Program) : Nat → TypeId → Option T
  | 0, _ => none
  | n + 1, t => match P.underlying t with
    | some .bool => some .bool
    | some (.int k) => some (.int k)
    | some .string => some .str
    | some (.float .f64) => some .flt
    | some (.complex .f64) => some .cpx
    | some (.slice e) => (match tyT P n e with | some t => some (.sl t) | none => none)
    | some (.func _ _ _) => some .fn
    | some (.struct fs) => tyF (tyT P n) (fs.toList.map (·.type))
    | some (.array m e) => (match tyT P n e with | some t => some (.arr m t) | none => none)
    | _ => none
def eqV : Value → Value → Bool
  | .bool a, .bool b => a == b
  | .int k n, .int k' m => decide (k = k') && decide (n = m)
  | .string a, .string b => decide (a = b)
  | .float k a, .float k' b => decide (k = k') && Nat.beq a b
  | .complex k a c, .complex k' b d => decide (k = k') && Nat.beq a b && Nat.beq c d
  | .pointer none, .pointer none => true
  | .slice none 0 0, .slice none 0 0 => true
  | .map none, .map none => true
  | .nilFunc, .nilFunc => true
  | .nilIface, .nilIface => true
  | _, _ => false
def eqVL : List Value → List Value → Bool
  | [], [] => true
  | a :: l, b :: m => eqV a b && eqVL l m
  | _, _ => false
def encT : (t : T) → t.den → Option (List Value)
  | .int k, n => some [.int k n]
  | .bool, b => some [.bool b]
  | .str, s => some [.string s]
  | .unit, _ => some []
  | .flt, n => some [.float .f64 n]
  | .cpx, n => some [.complex .f64 n.1 n.2]
  | .fn, _ => none
  | .one t, x => encT t x
  | .pair a b, x => (match encT a x.1 with | some l => (match encT b x.2 with | some m => some (l ++ m) | none => none) | none => none)
  | .arr n t, xs => cond (Nat.beq xs.length n) (encL (encT t) xs) none
  | .sl _, xs => (match xs with | [] => some [.slice none 0 0] | _ => none)
where encL {α : Type} (e : α → Option (List Value)) : List α → Option (List Value)
  | [] => some []
  | x :: r => (match e x with | some l => (match encL e r with | some m => some (l ++ m) | none => none) | none => none)
def encA : AV → Option (List Value)
  | .dat t x => encT t x
  | .pr a b => (match encA a with | some l => (match encA b with | some m => some (l ++ m) | none => none) | none => none)
  | .one a => encA a
  | .nilp => some [.pointer none]
  | .nils => some [.slice none 0 0]
  | .nilm => some [.map none]
  | .nilf => some [.nilFunc]
  | .nilI => some [.nilIface]
  | _ => none
def zOk (P : Program) (t : TypeId) (v : AV) : Bool := match P.info? t with
  | some i => (match i.zero, encA v with
    | some z, some cs => eqVL z.cells.toList cs
    | _, _ => false)
  | none => false
def zerK {R : Type} (P : Program) (t : TypeId) (K : AV → Option R) : Option R := match zer P 40 t with
  | some v => cond (zOk P t v) (K v) none
  | none => none
def elOk (P : Program) (e : TypeId) (t : T) : Bool := match P.info? e with
  | some i => Nat.beq i.size t.sz && Nat.blt 0 i.bytes && Nat.blt 0 t.sz && decide (t.sz ≤ 1024)
  | none => false
def elK {R : Type} (P : Program) (e : TypeId) (K : (t : T) → t.den → Option R) : Option R := match zer P 40 e, tyT P 40 e with
  | some v, some t => (match dec t v with
    | some z => cond (zOk P e v && elOk P e t) (K t z) none
    | none => none)
  | _, _ => none
def hasZ (P : Program) (e : TypeId) : Bool := match P.info? e with
  | some i => i.zero.isSome
  | none => false
def elU {R : Type} (P : Program) (e : TypeId) (K : (t : T) → Option R) : Option R := match tyT P 40 e with
  | some t => cond (elOk P e t && hasZ P e) (K t) none
  | none => none
def ofConst : Value → Option AV
  | .bool b => some (.dat .bool b)
  | .int k n => some (.dat (.int k) n)
  | .string s => some (.dat .str s)
  | .float .f64 b => some (.dat .flt b)
  | .complex .f64 a b => some (.dat .cpx (a, b))
  | .pointer none => some .nilp
  | .slice none 0 0 => some .nils
  | .map none => some .nilm
  | .nilFunc => some .nilf
  | .nilIface => some .nilI
  | _ => none
def ev [Glb] (s : Slots) : Operand → Option AV
  | .tmp t => lookA t s
  | .const v => ofConst v
  | .func f => some (.fn f [] [])
  | .global g => (match Glb.gl g with | some z => some (.rdp z.1 z.2) | none => none)
def evs [Glb] (s : Slots) : List Operand → Option (List AV)
  | [] => some []
  | x :: r => match ev s x with | some v => (match evs s r with | some l => some (v :: l) | none => none) | none => none
abbrev KV (R : Type) := AV → List AO → Option R
def nanB (b : Nat) : Bool := (Ieee.double.read b).isNaN
def nanC : Nat := 9221120237041090561
def orN : Option Nat → Nat
  | some r => r
  | none => nanC
def fadd (x y : Nat) : Nat := orN (Ieee.double.add x y)
def fsub (x y : Nat) : Nat := orN (Ieee.double.sub x y)
def fmul (x y : Nat) : Nat := orN (Ieee.double.mul x y)
def fdiv (x y : Nat) : Nat := orN (Ieee.double.div x y)
def feq (x y : Nat) : Bool := Ieee.double.order x y == some .eq
def fls (x y : Nat) : Bool := Ieee.double.order x y == some .lt
def fle (x y : Nat) : Bool := Ieee.double.order x y == some .lt || Ieee.double.order x y == some .eq
def fgt (x y : Nat) : Bool := Ieee.double.order x y == some .gt
def fge (x y : Nat) : Bool := Ieee.double.order x y == some .gt || Ieee.double.order x y == some .eq
def fneg (x : Nat) : Nat := Op.negFloat .f64 x
def fofI (n : Int) : Nat := FloatKind.f64.nearest n
def ceq (x y : Nat × Nat) : Bool := feq x.1 y.1 && feq x.2 y.2
def eqL {α : Type} (f : α → α → Option Bool) : List α → List α → Option Bool
  | [], [] => some true
  | x :: xs, y :: ys => (match f x y with | some p => (match eqL f xs ys with | some q => some (p && q) | none => none) | none => none)
  | _, _ => none
def eqv : (t : T) → t.den → t.den → Option Bool
  | .int _, x, y => some (decide (x = y))
  | .bool, x, y => some (x == y)
  | .str, x, y => some (decide (x = y))
  | .one t, x, y => eqv t x y
  | .pair a b, x, y => (match eqv a x.1 y.1 with | some p => (match eqv b x.2 y.2 with | some q => some (p && q) | none => none) | none => none)
  | .unit, _, _ => some true
  | .arr _ t, x, y => eqL (eqv t) x y
  | .flt, x, y => some (feq x y)
  | .cpx, x, y => some (ceq x y)
  | _, _, _ => none
def keyT : T → Bool
  | .int _ => true
  | .bool => true
  | .str => true
  | .unit => true
  | .one t => keyT t
  | .pair a b => keyT a && keyT b
  | _ => false
def eqB : (t : T) → t.den → t.den → Bool
  | .int _, x, y => decide (x = y)
  | .bool, x, y => x == y
  | .str, x, y => decide (x = y)
  | .unit, _, _ => true
  | .one t, x, y => eqB t x y
  | .pair a b, x, y => eqB a x.1 y.1 && eqB b x.2 y.2
  | _, _, _ => false
def getM {V : Type} (t : T) (x : t.den) (z : V) : List (t.den × V) → V
  | [] => z
  | p :: r => cond (eqB t x p.1) p.2 (getM t x z r)
def hasM {V : Type} (t : T) (x : t.den) : List (t.den × V) → Bool
  | [] => false
  | p :: r => cond (eqB t x p.1) true (hasM t x r)
def setM {V : Type} (t : T) (x : t.den) (v : V) : List (t.den × V) → List (t.den × V)
  | [] => [(x, v)]
  | p :: r => cond (eqB t x p.1) ((x, v) :: r) (p :: setM t x v r)
def delM {V : Type} (t : T) (x : t.den) : List (t.den × V) → List (t.den × V)
  | [] => []
  | p :: r => cond (eqB t x p.1) r (p :: delM t x r)
def fnV : AV → AV
  | .dat .fn f => .fn f [] []
  | v => v
def flBin (op : BinOp) (x y : Nat) (ob : List AO) (K : KV R) : Option R :=
  match op with
  | .add => K (.dat .flt (fadd x y)) ob
  | .sub => K (.dat .flt (fsub x y)) ob
  | .mul => K (.dat .flt (fmul x y)) ob
  | .quo => K (.dat .flt (fdiv x y)) ob
  | .eql => K (.dat .bool (feq x y)) ob
  | .neq => K (.dat .bool (!feq x y)) ob
  | .lss => K (.dat .bool (fls x y)) ob
  | .leq => K (.dat .bool (fle x y)) ob
  | .gtr => K (.dat .bool (fgt x y)) ob
  | .geq => K (.dat .bool (fge x y)) ob
  | _ => none
def cpBin (op : BinOp) (x y : Nat × Nat) (ob : List AO) (K : KV R) : Option R :=
  match op with
  | .eql => K (.dat .bool (ceq x y)) ob
  | .neq => K (.dat .bool (!ceq x y)) ob
  | _ => none
def arith (op : BinOp) (k : IntKind) (i j : Int) (ob : List AO) (K : KV R) : Option R :=
  match op with
  | .add => K (.dat (.int k) (k.wrap (i + j))) ob
  | .sub => K (.dat (.int k) (k.wrap (i - j))) ob
  | .mul => K (.dat (.int k) (k.wrap (i * j))) ob
  | .quo => ck (j ≠ 0) (K (.dat (.int k) (k.wrap (i.tdiv j))) ob)
  | .rem => ck (j ≠ 0) (K (.dat (.int k) (i.tmod j)) ob)
  | .and => K (.dat (.int k) (bits .and k i j)) ob
  | .or => K (.dat (.int k) (bits .or k i j)) ob
  | .xor => K (.dat (.int k) (bits .xor k i j)) ob
  | .andNot => K (.dat (.int k) (bits .andNot k i j)) ob
  | .eql => K (.dat .bool (decide (i = j))) ob
  | .neq => K (.dat .bool (!decide (i = j))) ob
  | .lss => K (.dat .bool (decide (i < j))) ob
  | .leq => K (.dat .bool (decide (i ≤ j))) ob
  | .gtr => K (.dat .bool (decide (j < i))) ob
  | .geq => K (.dat .bool (decide (j ≤ i))) ob
  | _ => none
def nilP : AV → Option Bool
  | .ptr _ _ => some false
  | .rdp _ _ => some false
  | .nilp => some true
  | _ => none
def nilS (ob : List AO) : AV → Option Bool
  | .sln _ _ => some false
  | .nilw _ => some true
  | .dat (.sl _) (_ :: _) => some false
  | .view i => (match ob[i]? with | some (.row _ _ (_ :: _) _) => some false | _ => none)
  | .pre i (_ + 1) => (match ob[i]? with | some (.row _ _ _ _) => some false | _ => none)
  | .tgt i (_ + 1) => (match ob[i]? with | some (.row _ _ _ _) => some false | _ => none)
  | .win _ _ (_ + 1) => some false
  | .nils => some true
  | _ => none
def nilF : AV → Option Bool
  | .fn _ _ _ => some false
  | .dat .fn _ => some false
  | .nilf => some true
  | _ => none
def nilI : AV → Option Bool
  | .iface _ _ => some false
  | .nilI => some true
  | _ => none
def nilM : AV → Option Bool
  | .mp _ => some false
  | .nilm => some true
  | _ => none
def samep : List Step → List Step → Option Bool
  | [], [] => some true
  | _, _ => none
def limit : Nat := 140737488355328
def aggB (P : Program) (i : TypeId) : Option Bool :=
  match P.underlying i with
  | some (.struct _) => some true
  | some (.array _ _) => some true
  | some _ => some false
  | none => none
def T.aggB : T → Bool
  | .one _ => true
  | .pair _ _ => true
  | .arr _ _ => true
  | .unit => true
  | _ => false
def fldTy (P : Program) (E : TypeId → T → Bool) (f : Field) (o : Nat) (t : T) : Bool :=
  f.name != "_" && Nat.beq f.offset o && (match P.info? f.type with | some i => Nat.beq i.size t.sz | none => false) && (match aggB P f.type with | some b => b == t.aggB | none => false) && E f.type t
def eqTyF (P : Program) (E : TypeId → T → Bool) : List Field → Nat → T → Bool
  | [f], o, t => fldTy P E f o t
  | f :: r, o, .pair a b => fldTy P E f o a && eqTyF P E r (o + a.sz) b
  | _, _, _ => false
def eqTy (P : Program) : Nat → TypeId → T → Bool
  | 0, _, _ => false
  | n + 1, i, t => match P.underlying i, t with
    | some (.int _), .int _ => true
    | some .bool, .bool => true
    | some .string, .str => true
    | some (.float _), .flt => true
    | some (.complex _), .cpx => true
    | some (.struct fs), .one t => !P.stoodInHeld i && (match fs.toList with | [f] => fldTy P (eqTy P n) f 0 t | _ => false)
    | some (.struct fs), .pair a b => !P.stoodInHeld i && eqTyF P (eqTy P n) fs.toList 0 (.pair a b)
    | some (.array m e), .arr m' t => Nat.beq m m' && (match P.info? e with | some j => Nat.beq j.size t.sz | none => false) && (match aggB P e with | some b => b == t.aggB | none => false) && eqTy P n e t
    | _, _ => false
def bin (P : Program) (T' : TypeId) (op : BinOp) (x y : AV) (ob : List AO) (K : KV R) : Option R :=
  match x, y with
  | .dat (.int k) i, .dat (.int k') j =>
    match op with
    | .shl => ck (0 ≤ j) (K (.dat (.int k) (shl k i j)) ob)
    | .shr => ck (0 ≤ j) (K (.dat (.int k) (shr k i j)) ob)
    | op => if k = k' then arith op k i j ob K else none
  | .dat .str s, .dat .str t =>
    match op with
    | .add => ck (s.size + t.size ≤ limit) (K (.dat .str (s ++ t)) ob)
    | .eql => K (.dat .bool (decide (s = t))) ob
    | .neq => K (.dat .bool (!decide (s = t))) ob
    | _ => none
  | .dat .bool p, .dat .bool q => (match P.underlying T', op with
    | some .bool, .eql => K (.dat .bool (p == q)) ob
    | some .bool, .neq => K (.dat .bool (!(p == q))) ob
    | _, _ => none)
  | .dat .flt x, .dat .flt y => flBin op x y ob K
  | .dat .cpx x, .dat .cpx y => (match P.underlying T' with
    | some (.complex _) => cpBin op x y ob K
    | _ => none)
  | .dat t x, .dat t' y =>
    if h : t' = t then cond (t.aggB && eqTy P 30 T' t && !P.eqGuardType P.depth T') (match eqv t x (h ▸ y) with
      | some q => (match op with
        | .eql => K (.dat .bool q) ob
        | .neq => K (.dat .bool (!q)) ob
        | _ => none)
      | none => none) none
    else none
  | .ptr i p, .ptr j q => (match samep p q, P.underlying T' with
    | some b, some (.pointer e) => cond (Nat.beq i j && b && (P.info? e).isSome) (match op with
      | .neq => K (.dat .bool false) ob
      | _ => none) none
    | _, _ => none)
  | x, .nilp => (match P.underlying T', nilP x with
    | some (.pointer _), some q => (match op with
      | .eql => K (.dat .bool q) ob
      | .neq => K (.dat .bool (!q)) ob
      | _ => none)
    | _, _ => none)
  | x, .nils => (match P.underlying T', nilS ob x with
    | some (.slice _), some q => (match op with
      | .eql => K (.dat .bool q) ob
      | .neq => K (.dat .bool (!q)) ob
      | _ => none)
    | _, _ => none)
  | x, .nilf => (match P.underlying T', nilF x with
    | some (.func _ _ _), some q => (match op with
      | .eql => K (.dat .bool q) ob
      | .neq => K (.dat .bool (!q)) ob
      | _ => none)
    | _, _ => none)
  | x, .nilI => (match P.underlying T', nilI x with
    | some (.interface _), some q => (match op with
      | .eql => K (.dat .bool q) ob
      | .neq => K (.dat .bool (!q)) ob
      | _ => none)
    | _, _ => none)
  | x, .nilm => (match P.underlying T', nilM x with
    | some (.map _ _), some q => (match op with
      | .eql => K (.dat .bool q) ob
      | .neq => K (.dat .bool (!q)) ob
      | _ => none)
    | _, _ => none)
  | _, _ => none
def guardC (u v : AV) (y : Operand) : Bool := match u, v, y with
  | .nilI, .nilI, .const _ => true
  | .nilI, .nilI, _ => false
  | _, _, _ => true
def un (op : UnOp) (x : AV) (ob : List AO) (K : KV R) : Option R :=
  match op, x with
  | .not, .dat .bool b => K (.dat .bool (!b)) ob
  | .neg, .dat (.int k) i => K (.dat (.int k) (k.wrap (0 - i))) ob
  | .xor, .dat (.int k) i => K (.dat (.int k) (bits .xor k (if k.signed then -1 else k.max) i)) ob
  | .neg, .dat .flt x => ck (nanB x = false) (K (.dat .flt (fneg x)) ob)
  | _, _ => none
def fsteps : List T → Nat → List Step
  | [_], 0 => [.one]
  | _, _ => []
def fldp (sz : TypeId → Nat) : List TypeId → Nat → List Step
  | [], _ => []
  | [_], _ => []
  | _ :: _, 0 => [.fst]
  | t :: r, i + 1 => .snd (sz t) :: fldp sz r i
def fldsteps (P : Program) (S : TypeId) (i : Nat) : Option (List Step) :=
  match P.underlying S with
  | some (.struct fs) => (match fs.toList.map (·.type) with
    | [] => none
    | [_] => if i = 0 then some [.one] else none
    | l => if i < l.length then some (fldp P.cellsOf l i) else none)
  | _ => none
def rowOf (ob : List AO) (i : Nat) : Option AO := ob[i]?
def slen (ob : List AO) : AV → Option Nat
  | .dat (.sl _) xs => some xs.length
  | .sln _ xs => some xs.length
  | .nils => some 0
  | .cut _ => some 0
  | .nilw _ => some 0
  | .view i => (match ob[i]? with | some (.row _ _ xs _) => some xs.length | _ => none)
  | .pre _ n => some n
  | .tgt _ n => some n
  | .win _ _ n => some n
  | _ => none
def sdat (ob : List AO) : AV → Option AV
  | .dat (.sl t) xs => some (.dat (.sl t) xs)
  | .sln t xs => some (.dat (.sl t) xs)
  | .cut t => some (.dat (.sl t) [])
  | .nilw t => some (.dat (.sl t) [])
  | .view i => (match ob[i]? with | some (.row _ t xs _) => some (.dat (.sl t) xs) | _ => none)
  | .pre i n => (match ob[i]? with | some (.row _ t xs _) => some (.dat (.sl t) (xs.take n)) | _ => none)
  | .tgt i n => (match ob[i]? with | some (.row _ t xs _) => some (.dat (.sl t) (xs.take n)) | _ => none)
  | .win i o n => (match ob[i]? with | some (.row _ t xs _) => some (.dat (.sl t) ((xs.drop o).take n)) | _ => none)
  | _ => none
def frz (ob : List AO) (v : AV) : AV × List AO :=
  match v with
  | .view i => (match ob[i]? with
    | some (.row e t xs .own) => (.dat (.sl t) xs, ob.set i (.row e t xs .fz))
    | some (.row _ t xs .fz) => (.dat (.sl t) xs, ob)
    | _ => (v, ob))
  | .pre i n => (match ob[i]? with
    | some (.row e t xs .own) => (.dat (.sl t) (xs.take n), ob.set i (.row e t xs .fz))
    | some (.row _ t xs .fz) => (.dat (.sl t) (xs.take n), ob)
    | _ => (v, ob))
  | .tgt i n => (match ob[i]? with
    | some (.row e t xs .own) => (.dat (.sl t) (xs.take n), ob.set i (.row e t xs .fz))
    | some (.row _ t xs .fz) => (.dat (.sl t) (xs.take n), ob)
    | _ => (v, ob))
  | .win i o n => (match ob[i]? with
    | some (.row e t xs .own) => (.dat (.sl t) ((xs.drop o).take n), ob.set i (.row e t xs .fz))
    | some (.row _ t xs .fz) => (.dat (.sl t) ((xs.drop o).take n), ob)
    | _ => (v, ob))
  | .nils => (v, ob)
  | v => (v, ob)
def frzP : AV → List AO → AV × List AO
  | .pr a b, ob => match frzP a ob with | (a, ob) => match frzP b ob with | (b, ob) => (mkpr' a b, ob)
  | .one a, ob => match frzP a ob with | (a, ob) => (mkone a, ob)
  | v, ob => frz ob v
where mkpr' : AV → AV → AV
  | .nils, .dat b y => .pr .nils (.dat b y)
  | u, v => mkpr u v
end
end Go.Mx
namespace Go.Mx
open Go Go.RowKit Go.Sx
variable [Glb]
inductive Prim where
  | clone (e : TypeId)
  | same
  | text
structure Sums where
  prim : FuncId → Option Prim
  call : {R : Type} → FuncId → List AV → List AO → KV R → Option R
  wr : FuncId → List AV → List Nat
section
variable {R : Type}
def offs : List Step → Nat
  | [] => 0
  | .fst :: p => offs p
  | .snd k :: p => k + offs p
  | .one :: p => offs p
  | .idx i s :: p => i * s + offs p
def AV.plain : AV → Bool
  | .tup _ => false
  | .undef => false
  | _ => true
def AV.isAgg : AV → Bool
  | .dat t _ => t.aggB
  | .pr _ _ => true
  | .one _ => true
  | _ => false
def szOk (P : Program) (t : TypeId) (n : Nat) : Bool := match P.info? t with | some i => Nat.beq i.size n | none => false
def elemOf (P : Program) (t : TypeId) : Option TypeId :=
  match P.underlying t with
  | some (.slice e) => some e
  | _ => none
def sdatY (ob : List AO) (t : T) (y : AV) : Option (List t.den) :=
  match y with
  | .nils => some []
  | y => (match sdat ob y with | some d => dec (.sl t) d | none => none)
def newRow (e : TypeId) (t : T) (xs : List t.den) (ob : List AO) (K : KV R) : Option R := K (.view ob.length) (ob ++ [.row e t xs .own])
def appendA (P : Program) (e : TypeId) (x y : AV) (ob : List AO) (K : KV R) : Option R :=
  elK P e fun t _ =>
  match sdatY ob t y with
  | some ys => (match x with
    | .nils => ck (ys.length * P.bytesOf e ≤ limit) (newRow e t ys ob K)
    | .view i => cond (y.ids.contains i) none (match ob[i]? with
      | some (.row e' t' xs .own) => if h : t' = t then cond (Nat.beq e' e) (ck ((xs.length + ys.length) * P.bytesOf e ≤ limit) (newRow e t ((h ▸ xs) ++ ys) (ob.set i .gone) K)) none else none
      | _ => none)
    | .pre i n => cond (y.ids.contains i) none (match ob[i]? with
      | some (.row e' t' xs .own) => if h : t' = t then cond (Nat.beq e' e) (ck ((n + ys.length) * P.bytesOf e ≤ limit) (newRow e t (List.take n (h ▸ xs) ++ ys) (ob.set i .gone) K)) none else none
      | _ => none)
    | .tgt i n => (match ob[i]?, ys with
      | some (.row e' t' xs _), z :: zs => if h : t' = t then cond (Nat.beq e' e) (ck ((n + (z :: zs).length) * P.bytesOf e ≤ limit) (newRow e t (List.take n (h ▸ xs) ++ (z :: zs)) ob K)) none else none
      | some _, [] => K (.tgt i n) ob
      | _, _ => none)
    | .cut t' => (match ys with
      | [] => K (.cut t') ob
      | z :: zs => ck ((z :: zs).length * P.bytesOf e ≤ limit) (newRow e t (z :: zs) ob K))
    | _ => none)
  | none => none
def appendZ (P : Program) (e : TypeId) (x : AV) (n : Int) (ob : List AO) (K : KV R) : Option R :=
  elK P e fun t z =>
  match x with
  | .nils => ck (0 ≤ n ∧ n.toNat * P.bytesOf e ≤ limit) (newRow e t (List.replicate n.toNat z) ob K)
  | .view i => (match ob[i]? with
    | some (.row e' t' xs .own) => if h : t' = t then cond (Nat.beq e' e) (ck (0 ≤ n ∧ (xs.length + n.toNat) * P.bytesOf e ≤ limit) (newRow e t ((h ▸ xs) ++ List.replicate n.toNat z) (ob.set i .gone) K)) none else none
    | _ => none)
  | _ => none
def optI (s : Slots) : Option Operand → Option (Option Int)
  | none => some none
  | some x => (match ev s x with | some (.dat (.int _) i) => some (some i) | _ => none)
def slOk (P : Program) (T' : TypeId) (t : T) : Bool := match P.underlying T' with
  | some (.slice e) => szOk P e t.sz
  | _ => false
def sliceB (lo hi mx : Option Int) (n : Nat) (K : Nat → Nat → Option R) : Option R :=
  match lo, hi, mx with
  | some l, some h, none => ck (0 ≤ l ∧ l ≤ h ∧ h ≤ (n : Int)) (K l.toNat h.toNat)
  | some l, some h, some m => ck (0 ≤ l ∧ l ≤ h ∧ h ≤ m ∧ m ≤ (n : Int)) (K l.toNat h.toNat)
  | some l, none, none => ck (0 ≤ l ∧ l ≤ (n : Int)) (K l.toNat n)
  | none, some h, none => ck (0 ≤ h ∧ h ≤ (n : Int)) (K 0 h.toNat)
  | none, some h, some m => ck (0 ≤ h ∧ h ≤ m ∧ m ≤ (n : Int)) (K 0 h.toNat)
  | none, none, none => K 0 n
  | _, _, _ => none
def cutA {α : Type} (lo hi : Option Int) (xs : List α) : List α :=
  match lo, hi with
  | none, none => xs
  | some l, none => xs.drop l.toNat
  | none, some h => xs.take h.toNat
  | some l, some h => (xs.take h.toNat).drop l.toNat
def noRoom (h : Nat) : Option Int → Bool
  | some m => Nat.beq h 0 && decide (m = 0)
  | none => false
def sliceA (P : Program) (T' : TypeId) (x : AV) (lo hi mx : Option Int) (ob : List AO) (K : KV R) : Option R :=
  match x with
  | .dat .str s => (match P.underlying T' with
    | some .string => (match lo, hi, mx with
      | some l, some h, none => ck (0 ≤ l ∧ l ≤ h ∧ h ≤ (s.size : Int)) (K (.dat .str (s.extract l.toNat h.toNat)) ob)
      | some l, none, none => ck (0 ≤ l ∧ l ≤ (s.size : Int)) (K (.dat .str (s.extract l.toNat s.size)) ob)
      | none, some h, none => ck (0 ≤ h ∧ h ≤ (s.size : Int)) (K (.dat .str (s.extract 0 h.toNat)) ob)
      | _, _, _ => none)
    | _ => none)
  | .nils => (match elemOf P T' with
    | some e => (match P.info? e with
      | some _ => (match lo, hi, mx with
        | none, some h, none => ck (h = 0) (K .nils ob)
        | none, some h, some m => ck (h = 0 ∧ m = 0) (K .nils ob)
        | none, none, none => K .nils ob
        | _, _, _ => none)
      | none => none)
    | none => none)
  | .dat (.sl t) xs => cond (slOk P T' t) (sliceB lo hi mx xs.length fun _ h => cond (noRoom h mx) (K (.cut t) ob) (K (.dat (.sl t) (cutA lo hi xs)) ob)) none
  | .view i => (match ob[i]? with
    | some (.row _ t xs _) => cond (slOk P T' t) (sliceB lo hi mx xs.length fun l h => (match lo, hi, mx with
      | none, none, none => K (.view i) ob
      | none, _, none => K (.pre i h) ob
      | none, some h', some m => ck (h' = m) (K (.tgt i h) ob)
      | _, _, _ => K (.win i l (h - l)) ob)) none
    | _ => none)
  | .pre i n => (match ob[i]? with
    | some (.row _ t _ _) => cond (slOk P T' t) (sliceB lo hi mx n fun l h => (match lo, hi, mx with
      | none, _, none => K (.pre i h) ob
      | none, some h', some m => ck (h' = m) (K (.tgt i h) ob)
      | _, _, _ => K (.win i l (h - l)) ob)) none
    | _ => none)
  | .tgt i n => (match ob[i]? with
    | some (.row _ t _ _) => cond (slOk P T' t) (sliceB lo hi mx n fun l h => (match lo, hi, mx with
      | none, some h', some m => ck (h' = m) (K (.tgt i h) ob)
      | _, _, _ => K (.win i l (h - l)) ob)) none
    | _ => none)
  | .win i o n => (match ob[i]? with
    | some (.row _ t _ _) => cond (slOk P T' t) (sliceB lo hi mx n fun l h => K (.win i (o + l) (h - l)) ob) none
    | _ => none)
  | .ptr i [] => (match ob[i]? with
    | some (.box _ (.dat (.arr n t) xs) true) => (match P.underlying T', lo, hi, mx with
      | some (.array n' e), some l, none, none => cond (Nat.beq n' n && szOk P e t.sz) (ck (0 ≤ l ∧ l < (n : Int) ∧ n ≤ 1000000) (K (.dat (.sl t) (xs.drop l.toNat)) (ob.set i .gone))) none
      | _, _, _, _ => none)
    | _ => none)
  | _ => none
def indexAddrA (P : Program) (T' : TypeId) (x : AV) (i : Int) (ob : List AO) (K : KV R) : Option R :=
  match x with
  | .dat (.sl t) xs => cond (slOk P T' t) (ck (0 ≤ i) ((xs[i.toNat]?).bind fun x => K (.rdp t x) ob)) none
  | .view q => (match ob[q]? with
    | some (.row _ t xs _) => cond (slOk P T' t) (ck (0 ≤ i ∧ i < (xs.length : Int)) (K (.ptr q [.idx i.toNat t.sz]) ob)) none
    | _ => none)
  | .pre q n => (match ob[q]? with
    | some (.row _ t _ _) => cond (slOk P T' t) (ck (0 ≤ i ∧ i < (n : Int)) (K (.ptr q [.idx i.toNat t.sz]) ob)) none
    | _ => none)
  | .tgt q n => (match ob[q]? with
    | some (.row _ t _ _) => cond (slOk P T' t) (ck (0 ≤ i ∧ i < (n : Int)) (K (.ptr q [.idx i.toNat t.sz]) ob)) none
    | _ => none)
  | .win q o n => (match ob[q]? with
    | some (.row _ t _ _) => cond (slOk P T' t) (ck (0 ≤ i ∧ i < (n : Int)) (K (.ptr q [.idx (o + i.toNat) t.sz]) ob)) none
    | _ => none)
  | .ptr q p => (match P.underlying T' with
    | some (.array n e) => (match P.info? e with
      | some j => ck (0 ≤ i ∧ i < (n : Int)) (K (.ptr q (p ++ [.idx i.toNat j.size])) ob)
      | none => none)
    | _ => none)
  | .rdp (.arr _ t) xs => (match P.underlying T' with
    | some (.array n e) => cond (szOk P e t.sz) (ck (0 ≤ i ∧ i < (n : Int)) ((xs[i.toNat]?).bind fun x => K (.rdp t x) ob)) none
    | _ => none)
  | _ => none
def rdstep : AV → List Step → Option AV
  | v, [] => some v
  | .rdp (.pair a _) x, .fst :: p => rdstep (.rdp a x.1) p
  | .rdp (.pair a b) x, .snd k :: p => cond (Nat.beq k a.sz) (rdstep (.rdp b x.2) p) none
  | .rdp (.one a) x, .one :: p => rdstep (.rdp a x) p
  | _, _ => none
def loadOk (P : Program) (t : TypeId) (u : AV) : Bool := match aggB P t with
  | some true => u.isAgg && szOk P t u.sz
  | some false => !u.isAgg
  | none => false
def indexA (P : Program) (T' : TypeId) (x : AV) (i : Int) (ob : List AO) (K : KV R) : Option R :=
  match x with
  | .dat .str s => (match P.underlying T' with
    | some .string => ck (0 ≤ i ∧ i < (s.size : Int)) (((bytesOf s)[i.toNat]?).bind fun x => K (.dat (.int .u8) x) ob)
    | _ => none)
  | .dat (.arr _ t) xs => (match P.underlying T' with
    | some (.array n e) => cond (szOk P e t.sz) (ck (0 ≤ i ∧ i < (n : Int)) ((xs[i.toNat]?).bind fun x => cond (loadOk P e (.dat t x)) (K (.dat t x) ob) none)) none
    | _ => none)
  | _ => none
def loadA (P : Program) (t : TypeId) (x : AV) (ob : List AO) (K : KV R) : Option R :=
  match x with
  | .ptr q p => (match ob[q]? with
    | some (.box _ v _) => getK v p fun u => cond (loadOk P t u) (K u ob) none
    | some (.row _ e xs _) => (match p with
      | .idx i s :: p => cond (Nat.beq s e.sz) ((xs[i]?).bind fun x => getK (.dat e x) p fun u => cond (loadOk P t u) (K u ob) none) none
      | _ => none)
    | _ => none)
  | .rdp e x => cond (loadOk P t (.dat e x)) (K (.dat e x) ob) none
  | _ => none
def storeA (P : Program) (t : TypeId) (x v : AV) (ob : List AO) (K : KV R) : Option R :=
  match x with
  | .ptr q p => (match ob[q]? with
    | some (.box ty u true) => cond (szOk P t v.sz && v.plain) (setK u p v fun u => K .undef (ob.set q (.box ty u true))) none
    | some (.row e t' xs .own) => (match p with
      | .idx i s :: p => cond (Nat.beq s t'.sz && !v.ids.contains q) ((xs[i]?).bind fun x => match frzP v ob with
        | (v, ob) => cond (szOk P t v.sz && v.plain) (setK (.dat t' x) p v fun y => match dec t' y with
          | some z => K .undef (ob.set q (.row e t' (xs.set i z) .own))
          | none => none) none) none
      | _ => none)
    | _ => none)
  | _ => none
def convA (P : Program) (src dst : TypeId) (x : AV) (ob : List AO) (K : KV R) : Option R :=
  match P.underlying src, P.underlying dst, x with
  | some (.pointer t), some .unsafePointer, .ptr i [] => (match ob[i]?, P.info? t with
    | some (.box _ v _), some j => cond (!Nat.beq j.size 0 && Nat.blt 0 v.sz) (K (.ptr i []) ob) none
    | _, _ => none)
  | some .unsafePointer, some (.pointer u), .ptr i [] => (match ob[i]? with
    | some (.box ty v _) => cond ((P.info? u).isSome && liesAt P P.depth ty (v.sz / P.cellsOf ty) 0 u 1) (K (.ptr i []) ob) none
    | _ => none)
  | some _, some (.int k), .dat (.int _) i => K (.dat (.int k) (k.wrap i)) ob
  | some _, some .string, .dat .str s => K (.dat .str s) ob
  | some _, some (.float .f64), .dat (.int _) i => K (.dat .flt (fofI i)) ob
  | some _, some (.float .f64), .dat .flt x => K (.dat .flt x) ob
  | some .string, some (.slice e), .dat .str s => (match P.underlying e with
    | some (.int .u8) => ck (s.size ≤ limit) (K (.view ob.length) (ob ++ [.row e (.int .u8) (bytesOf s) .fz]))
    | _ => none)
  | some (.slice e), some .string, x => (match P.underlying e with
    | some (.int .u8) => (match sdatY ob (.int .u8) x with | some xs => K (.dat .str (strOf xs)) ob | none => none)
    | _ => none)
  | some (.slice e), some (.slice _), .view i => (match P.underlying e, ob[i]? with
    | some (.int .u8), some (.row e' (.int .u8) (x :: xs) .own) => cond (Nat.beq src dst && Nat.beq e' e) (K (.view i) (ob.set i (.row e' (.int .u8) (x :: xs) .fz))) none
    | _, _ => none)
  | _, _, _ => none
def partsA (s : Slots) : List (Nat × Operand) → Option (List (Nat × AV))
  | [] => some []
  | (i, x) :: r => (match ev s x with | some v => (match partsA s r with | some l => some ((i, v) :: l) | none => none) | none => none)
def buildF (P : Program) (t : TypeId) (fs : List Field) (ps : List (Nat × AV)) (z : AV) (K : AV → Option R) : Option R :=
  match ps with
  | [] => K z
  | (i, v) :: r => (match fs[i]?, fldsteps P t i with
    | some f, some st => cond (Nat.beq (offs st) f.offset && szOk P f.type v.sz && v.plain) (setK z st v fun z => buildF P t fs r z K) none
    | _, _ => none)
def buildE (P : Program) (e : TypeId) (s : Nat) (ps : List (Nat × AV)) (z : AV) (K : AV → Option R) : Option R :=
  match ps with
  | [] => K z
  | (i, v) :: r => cond (Nat.beq v.sz s && v.plain) (setK z [.idx i s] v fun z => buildE P e s r z K) none
def buildA (P : Program) (t : TypeId) (ps : List (Nat × AV)) (ob : List AO) (K : KV R) : Option R :=
  zerK P t fun z => match P.underlying t with
  | some (.struct fs) => cond (fs.toList.all fun f => (P.info? f.type).isSome) (buildF P t fs.toList ps z fun v => cond v.isAgg (K v ob) none) none
  | some (.array _ e) => (match P.info? e with | some i => buildE P e i.size ps z fun v => cond v.isAgg (K v ob) none | none => none)
  | _ => none
def decs (t : T) : List AV → Option (List t.den)
  | [] => some []
  | v :: r => (match dec t v with | some x => (match decs t r with | some l => some (x :: l) | none => none) | none => none)
def frzL : List AV → List AO → List AV × List AO
  | [], ob => ([], ob)
  | v :: r, ob => match frzP v ob with | (v, ob) => match frzL r ob with | (r, ob) => (v :: r, ob)
def inRow : Nat → List (Nat × AV) → Bool
  | _, [] => true
  | i, (j, v) :: r => Nat.beq j i && v.plain && inRow (i + 1) r
def buildSliceA (P : Program) (t : TypeId) (n : Nat) (ps : List (Nat × AV)) (ob : List AO) (K : KV R) : Option R :=
  match elemOf P t with
  | some e => elU P e fun t => cond (Nat.beq n 0 && Nat.beq ps.length 0) (K (.cut t) ob) <| cond (Nat.beq ps.length n && inRow 0 ps && decide (n ≤ 16384)) (match frzL (ps.map (·.2)) ob with
      | (vs, ob) => (match decs t vs with | some xs => newRow e t xs ob K | none => none)) none
  | none => none
def makeA (P : Program) (t : TypeId) (n : Int) (ob : List AO) (K : KV R) : Option R :=
  match elemOf P t with
  | some e => elK P e fun t z => ck (0 ≤ n ∧ n.toNat * P.bytesOf e ≤ limit) (newRow e t (List.replicate n.toNat z) ob K)
  | none => none
def AO.lent : AO → AO
  | .box ty v _ => .box ty v false
  | .row e t xs .own => .row e t xs .ro
  | .itr s p _ => .itr s p false
  | .map k v es _ => .map k v es false
  | o => o
def AO.sure : AO → Bool
  | .gone => true
  | .box _ _ w => w
  | .row _ _ _ .ro => false
  | .row _ _ _ _ => true
  | .itr _ _ w => w
  | .map _ _ _ w => w
def AO.mine : AO → Bool
  | .box _ _ w => w
  | .row _ _ _ .own => true
  | .itr _ _ w => w
  | .map _ _ _ w => w
  | _ => false
def backO (old new : AO) : AO := cond new.sure new (cond old.mine .gone old)
def newO (o : AO) : AO := cond o.sure o .gone
def newL : List AO → List AO
  | [] => []
  | o :: r => newO o :: newL r
def passObs (ob : List AO) (wr : List Nat) : List Nat → Nat → Option (List AO)
  | [], _ => some []
  | i :: r, j => (match ob[i]? with
    | some o => (match passObs ob wr r (j + 1) with
      | some l => some ((cond (wr.contains j) o o.lent) :: l)
      | none => none)
    | none => none)
def backObs (wr : List Nat) : List Nat → Nat → List AO → List AO → List AO
  | [], _, new, ob => ob ++ newL new
  | i :: r, j, o :: new, ob => backObs wr r (j + 1) new (cond (wr.contains j) (match ob[i]? with | some old => ob.set i (backO old o) | none => ob) ob)
  | _ :: _, _, [], ob => ob
def callA (Γ : Sums) (f : FuncId) (args : List AV) (ob : List AO) (K : KV R) : Option R :=
  match reachA ob (AV.idsL args) with
  | L => cond (nodupB L) (match AV.renL (fun i => posn i L 0) args with
    | some args' => (match Γ.wr f args' with
      | wr => (match passObs ob wr L 0 with
        | some ob1 => (match renAll (fun i => posn i L 0) ob1 with
          | some ob2 => Γ.call f args' ob2 fun v ob3 => (match v.ren (fun j => match L[j]? with | some i => some i | none => some (ob.length + (j - L.length))) with
            | some v' => (match renAll (fun j => match L[j]? with | some i => some i | none => some (ob.length + (j - L.length))) ob3 with
              | some ob4 => K v' (backObs wr L 0 ob4 ob)
              | none => none)
            | none => none)
          | none => none)
        | none => none))
    | none => none) none
def primA (P : Program) : Prim → List AV → List AO → KV R → Option R
  | .clone e, [x], ob, K => (match tyT P 40 e with
    | some t => (match sdatY ob t x with
      | some ys => ck (ys.length * P.bytesOf e ≤ limit) (newRow e t ys ob K)
      | none => none)
    | none => none)
  | .same, [x], ob, K => K x ob
  | .text, [.ptr i []], ob, K => (match ob[i]? with
    | some (.box _ (.pr _ (.one b)) _) => textA b ob K
    | some (.box _ (.pr _ b) _) => textA b ob K
    | _ => none)
  | _, _, _, _ => none
where textA (b : AV) (ob : List AO) (K : KV R) : Option R :=
  match b with
  | .nils => K (.dat .str ⟨#[]⟩) ob
  | .view i => (match ob[i]? with
    | some (.row e (.int .u8) xs .own) => ck (∀ x ∈ xs, 0 ≤ x ∧ x < 256) (K (.dat .str (strOf xs)) (ob.set i (.row e (.int .u8) xs .fz)))
    | _ => none)
  | _ => none
def mapTy (P : Program) (t : TypeId) : Option (TypeId × TypeId) := match P.underlying t with
  | some (.map k e) => some (k, e)
  | _ => none
def keyOk (P : Program) (k : TypeId) (t : T) : Bool := keyT t && eqTy P 30 k t
def zerM (P : Program) (e : TypeId) (t : T) : Option t.den := match zer P 40 e with
  | some v => (match dec t v, P.info? e with
    | some x, some i => (match i.zero with
      | some z => cond (zOk P e v && (match z with | .agg _ => t.aggB | _ => !t.aggB)) (some x) none
      | none => none)
    | _, _ => none)
  | none => none
def makeMapA (P : Program) (t : TypeId) (ob : List AO) (K : KV R) : Option R := match mapTy P t with
  | some (k, e) => (match tyT P 40 k, tyT P 40 e with
    | some kt, some vt => cond (keyOk P k kt) (K (.mp ob.length) (ob ++ [.map kt vt [] true])) none
    | _, _ => none)
  | none => none
def notI : TypeDesc → Bool
  | .interface _ => false
  | _ => true
def okV (ok : Bool) (v : AV) (b : Bool) : AV := cond ok (.tup [v, .dat .bool b]) v
def lookupA (P : Program) (t : TypeId) (m k : AV) (ok : Bool) (ob : List AO) (K : KV R) : Option R := match mapTy P t with
  | some (kT, e) => (match m with
    | .mp i => (match ob[i]? with
      | some (.map kt vt es _) => cond (keyOk P kT kt) (match dec kt k, zerM P e vt with
        | some x, some z => K (okV ok (.dat vt (getM kt x z es)) (hasM kt x es)) ob
        | _, _ => none) none
      | _ => none)
    | .nilm => (match tyT P 40 kT, tyT P 40 e with
      | some kt, some vt => cond (keyOk P kT kt) (match dec kt k, zerM P e vt with
        | some _, some z => K (okV ok (.dat vt z) false) ob
        | _, _ => none) none
      | _, _ => none)
    | _ => none)
  | none => none
def mapSetA (P : Program) (t : TypeId) (m k v : AV) (ob : List AO) (K : KV R) : Option R := match mapTy P t, m with
  | some (kT, _), .mp i => (match ob[i]? with
    | some (.map kt vt es true) => cond (keyOk P kT kt && !v.ids.contains i && v.plain) (match dec kt k with
      | some x => (match frzP v ob with
        | (v, ob) => (match dec vt v with
          | some y => K .undef (ob.set i (.map kt vt (setM kt x y es) true))
          | none => none))
      | none => none) none
    | _ => none)
  | _, _ => none
def mapDelA (P : Program) (t : TypeId) (m k : AV) (ob : List AO) (K : KV R) : Option R := match mapTy P t with
  | some (kT, _) => (match m with
    | .mp i => (match ob[i]? with
      | some (.map kt vt es true) => cond (keyOk P kT kt) (match dec kt k with
        | some x => K (.tup []) (ob.set i (.map kt vt (delM kt x es) true))
        | none => none) none
      | _ => none)
    | _ => none)
  | none => none
def lenMA (x : AV) (ob : List AO) (K : KV R) : Option R := match x with
  | .nilm => K (.dat (.int .i64) 0) ob
  | .mp i => (match ob[i]? with | some (.map _ _ es _) => K (.dat (.int .i64) (es.length : Int)) ob | _ => none)
  | _ => none
def lenA (P : Program) (T' : TypeId) (x : AV) (ob : List AO) (K : KV R) : Option R :=
  match P.underlying T' with
  | some .string => (match x with
    | .dat .str s => K (.dat (.int .i64) (s.size : Int)) ob
    | _ => none)
  | some (.array n _) => cond x.plain (K (.dat (.int .i64) (n : Int)) ob) none
  | some (.slice _) => (match slen ob x with | some n => K (.dat (.int .i64) (n : Int)) ob | none => none)
  | some (.map _ _) => lenMA x ob K
  | _ => none
def builtinA (P : Program) (b : Builtin) (Ts : List TypeId) (xs : List AV) (ob : List AO) (K : KV R) : Option R :=
  match b, Ts, xs with
  | .len, [t], [x] => lenA P t x ob K
  | .cap, [t], [.nils] => (match elemOf P t with | some _ => K (.dat (.int .i64) 0) ob | none => none)
  | .min, _, [.dat (.int k) i, .dat (.int k') j] => if k = k' then K (.dat (.int k) (if j < i then j else i)) ob else none
  | .max, _, [.dat (.int k) i, .dat (.int k') j] => if k = k' then K (.dat (.int k) (if i < j then j else i)) ob else none
  | .delete, [t, _], [m, k] => mapDelA P t m k ob K
  | .complex, _, [.dat .flt x, .dat .flt y] => K (.dat .cpx (x, y)) ob
  | .real, _, [.dat .cpx z] => K (.dat .flt z.1) ob
  | .imag, _, [.dat .cpx z] => K (.dat .flt z.2) ob
  | .append, [t, t2], [x, y] => (match elemOf P t with
    | some e => (match P.underlying t2, y with
      | some (.int _), .dat (.int _) n => appendZ P e x n ob K
      | some (.slice _), y => cond (Nat.beq t t2) (appendA P e x y ob K) none
      | _, _ => none)
    | none => none)
  | _, _, _ => none
def fldOk (P : Program) (S : TypeId) (i : Nat) (st : List Step) : Bool := match P.underlying S with
  | some (.struct fs) => (match fs[i]? with
    | some f => Nat.beq (offs st) f.offset && (match P.info? f.type with | some j => Nat.blt 0 j.size | none => false)
    | none => false)
  | _ => false
def fldTyp (P : Program) (S : TypeId) (i : Nat) : Option TypeId := match P.underlying S with
  | some (.struct fs) => (match fs[i]? with | some f => some f.type | none => none)
  | _ => none
def opA (P : Program) (Γ : Sums) (o : Oper) (s : Slots) (ob : List AO) (K : KV R) : Option R :=
  match o.op with
  | .move x => (match ev s x with | some v => K v ob | none => none)
  | .assign x => (match ev s x with | some v => K v ob | none => none)
  | .pick c a b => (match ev s c with
    | some (.dat .bool t) => cond t (match ev s a with | some v => K v ob | none => none) (match ev s b with | some v => K v ob | none => none)
    | _ => none)
  | .alloc t => zerK P t fun v => K (.ptr ob.length []) (ob ++ [.box t v true])
  | .box t x => (match ev s x with | some v => cond v.plain (K (.ptr ob.length []) (ob ++ [.box t v true])) none | none => none)
  | .build t ps => (match partsA s ps.toList with | some l => buildA P t l ob K | none => none)
  | .buildSlice t n ps => (match partsA s ps.toList with | some l => buildSliceA P t n l ob K | none => none)
  | .load t x => (match ev s x with | some v => loadA P t v ob K | none => none)
  | .store t x y => (match ev s x, ev s y with | some v, some u => storeA P t v u ob K | _, _ => none)
  | .nilCheck x => (match ev s x with
    | some (.ptr i p) => K (.ptr i p) ob
    | some (.rdp t x) => K (.rdp t x) ob
    | _ => none)
  | .binOp op T' x y _ => (match ev s x, ev s y with | some u, some v => cond (guardC u v y) (bin P T' op u v ob K) none | _, _ => none)
  | .unOp op _ x => (match ev s x with | some v => un op v ob K | none => none)
  | .convert a b x => (match ev s x with | some v => convA P a b v ob K | none => none)
  | .makeFunc (.func f) fs cs => (match evs s fs.toList, evs s cs.toList with | some l, some m => cond (l.all AV.plain && m.all AV.plain) (K (.fn f l m) ob) none | _, _ => none)
  | .makeSlice t n m => (match ev s n, ev s m with
    | some (.dat (.int _) i), some (.dat (.int _) j) => ck (i = j) (makeA P t i ob K)
    | _, _ => none)
  | .slice t x lo hi mx => (match ev s x, optI s lo, optI s hi, optI s mx with
    | some v, some l, some h, some m => sliceA P t v l h m ob K
    | _, _, _, _ => none)
  | .fieldAddr S x i => (match ev s x, fldsteps P S i with
    | some (.ptr q p), some st => cond (fldOk P S i st) (K (.ptr q (p ++ st)) ob) none
    | some (.rdp t x), some st => cond (fldOk P S i st) (match rdstep (.rdp t x) st with | some v => K v ob | none => none) none
    | _, _ => none)
  | .field S x i => (match ev s x, fldsteps P S i with
    | some v, some st => cond (fldOk P S i st && v.isAgg) (match fldTyp P S i with
      | some ft => getK v st fun u => cond (loadOk P ft u) (K u ob) none
      | none => none) none
    | _, _ => none)
  | .indexAddr t x i => (match ev s x, ev s i with
    | some v, some (.dat (.int _) j) => indexAddrA P t v j ob K
    | _, _ => none)
  | .index t x i => (match ev s x, ev s i with
    | some v, some (.dat (.int _) j) => indexA P t v j ob K
    | _, _ => none)
  | .range T' x => (match P.underlying T', ev s x with
    | some .string, some (.dat .str t) => K (.ptr ob.length []) (ob ++ [.itr t 0 true])
    | _, _ => none)
  | .next x true => (match ev s x with
    | some (.ptr q []) => (match ob[q]? with
      | some (.itr t p true) => cond (decide (p < t.size)) (K (.tup [.dat .bool true, .dat (.int .i64) p, .dat (.int .i32) (Utf8.decode t p).1]) (ob.set q (.itr t (p + (Utf8.decode t p).2) true))) (K (.tup [.dat .bool false]) ob)
      | _ => none)
    | _ => none)
  | .extract x i => (match ev s x with
    | some (.tup l) => (match l[i]? with | some v => K v ob | none => none)
    | _ => none)
  | .makeMap t none => makeMapA P t ob K
  | .makeMap t (some x) => (match ev s x with | some (.dat (.int _) _) => makeMapA P t ob K | _ => none)
  | .lookup t m k ok => (match ev s m, ev s k with | some m, some k => lookupA P t m k ok ob K | _, _ => none)
  | .mapUpdate t m k v => (match ev s m, ev s k, ev s v with | some m, some k, some v => mapSetA P t m k v ob K | _, _, _ => none)
  | .insert t m k v => (match ev s m, ev s k, ev s v with | some m, some k, some v => mapSetA P t m k v ob K | _, _, _ => none)
  | .makeInterface t x => (match ev s x, P.underlying t with
    | some v, some d => cond (v.plain && notI d) (K (.iface t v) ob) none
    | _, _ => none)
  | .typeAssert x _ t ok => (match ev s x, P.underlying t with
    | some (.iface u v), some d => cond (Nat.beq u t && notI d) (K (okV ok v true) ob) none
    | _, _ => none)
  | .call c => (match c.callee with
    | .value x => (match (ev s x).map fnV, evs s c.args.toList with
      | some (.fn f fs cs), some l => (match Γ.prim f with
        | some p => primA P p (fs ++ l ++ cs) ob K
        | none => callA Γ f (fs ++ l ++ cs) ob K)
      | _, _ => none)
    | .builtin b => (match evs s c.args.toList with
      | some l => builtinA P b c.argTypes.toList l ob K
      | none => none)
    | _ => none)
  | _ => none
def opnds (c : Op) : List Operand := c.operands.toList
def idsOf (s : Slots) : List Operand → List Nat
  | [] => []
  | x :: r => (match ev s x with | some v => v.ids | none => []) ++ idsOf s r
def storeIds (s : Slots) (ob : List AO) (x y : Operand) : List Nat :=
  match ev s x with
  | some (.ptr q _) => (match ob[q]? with
    | some (.row _ _ _ _) => idsOf s [x, y]
    | _ => [q])
  | _ => []
def touch (o : Oper) (s : Slots) (ob : List AO) : List Nat :=
  match o.op with
  | .call { callee := .value x, args := as, .. } => reachA ob (idsOf s (x :: as.toList))
  | .store _ x y => storeIds s ob x y
  | .move _ | .assign _ | .pick _ _ _ | .alloc _ | .box _ _ | .build _ _ | .nilCheck _ | .binOp _ _ _ _ _ | .unOp _ _ _ | .makeInterface _ _ | .makeFunc _ _ _ | .fieldAddr _ _ _ | .field _ _ _ | .extract _ _ => []
  | op => idsOf s (opnds op)
def wrs (Γ : Sums) (o : Oper) (s : Slots) (ob : List AO) : List Nat :=
  match o.op with
  | .call { callee := .value x, args := as, .. } => (match (ev s x).map fnV, evs s as.toList with
    | some (.fn f fs cs), some l => (match reachA ob (AV.idsL (fs ++ l ++ cs)) with
      | L => (match AV.renL (fun i => posn i L 0) (fs ++ l ++ cs) with
        | some a => (Γ.wr f a).filterMap (fun j => L[j]?)
        | none => []))
    | _, _ => [])
  | .call { callee := .builtin .append, args := as, .. } => (match as.toList with | x :: _ => idsOf s [x] | _ => [])
  | .call { callee := .builtin .delete, args := as, .. } => (match as.toList with | x :: _ => idsOf s [x] | _ => [])
  | .mapUpdate _ m _ v => idsOf s [m, v]
  | .insert _ m _ v => idsOf s [m, v]
  | .store _ x y => storeIds s ob x y
  | .buildSlice _ _ ps => idsOf s (ps.toList.map (·.2))
  | .convert _ _ x => idsOf s [x]
  | .next x _ => idsOf s [x]
  | _ => []
def maskO (ts ws : List Nat) : List AO → Nat → List AO
  | [], _ => []
  | o :: r, i => cond (ws.contains i) o (cond (ts.contains i) o.lent .gone) :: maskO ts ws r (i + 1)
def mergeO (ws : List Nat) : List AO → List AO → Nat → List AO
  | o :: r, n :: l, i => cond (ws.contains i) (newO n) o :: mergeO ws r l (i + 1)
  | [], l, _ => newL l
  | r, [], _ => r
def mineL (ob : List AO) : List Nat → List Nat
  | [] => []
  | i :: r => match ob[i]? with | some o => cond o.mine (i :: mineL ob r) (mineL ob r) | none => mineL ob r
structure Log where
  i : Nat
  ts : List Nat
  ws : List Nat
  lo : Nat
  hi : Nat
  us : List Nat
def disj (a b : List Nat) : Bool := a.all fun i => !b.contains i
def outs (a : Log) (l : List Nat) : Bool := Nat.beq a.lo a.hi || l.all fun x => Nat.blt x a.lo || Nat.ble a.hi x
def bears (a b : Log) : Bool := disj a.ws b.ts && disj a.ws b.ws && outs a b.ts && outs a b.ws && outs a b.us
def apart (T : List (List Nat)) (a b : Log) : Bool := (T.getD a.i []).contains b.i || (T.getD b.i []).contains a.i || (bears a b && bears b a)
def noClash (T : List (List Nat)) : List Log → Bool
  | [] => true
  | a :: r => r.all (apart T a) && noClash T r
def putS (d : Option Tmp) (v : AV) (s : Slots) : Slots := match d with | some d => (d, v) :: s | none => s
def rdT : List Operand → List Nat
  | [] => []
  | .tmp t :: r => t :: rdT r
  | _ :: r => rdT r
def guardT (all : List Oper) (o : Oper) : List Nat := match o.guard with
  | some (j, _) => (match all[j]? with | some oj => (match oj.dst with | some d => [d] | none => []) | none => [])
  | none => []
def reads (all : List Oper) (o : Oper) : List Nat := guardT all o ++ rdT (opnds o.op)
def pickR : List Nat → Slots → Slots
  | [], _ => []
  | t :: r, s => match lookA t s with | some v => (t, v) :: pickR r s | none => pickR r s
def dsts : List Oper → List Nat
  | [] => []
  | o :: r => match o.dst with | some d => d :: dsts r | none => dsts r
def whoSets (t : Nat) : List Oper → Nat → Option Nat
  | [], _ => none
  | o :: r, i => match o.dst with | some d => cond (Nat.beq d t) (some i) (whoSets t r (i + 1)) | none => whoSets t r (i + 1)
def rdOk (all : List Oper) (T : List (List Nat)) : List Oper → Nat → Bool
  | [], _ => true
  | o :: r, i => (reads all o).all (fun t => match whoSets t all 0 with | some k => (T.getD i []).contains k || (T.getD k []).contains i || Nat.beq k i | none => true) && rdOk all T r (i + 1)
def regOk (all : List Oper) : Bool := okR all all.length && nodupB (dsts all) && rdOk all (reachT all []) all 0
def idsM (ws : List Nat) (n : Nat) : List AO → Nat → List Nat
  | [], _ => []
  | o :: r, i => cond (ws.contains i || Nat.ble n i) (o.ids ++ idsM ws n r (i + 1)) (idsM ws n r (i + 1))
def opsA (P : Program) (Γ : Sums) (all : List Oper) (dr : Bool) : List Oper → Nat → St → List Log → (St → List Log → Option R) → Option R
  | [], _, s, l, K => K s l
  | o :: r, i, s, l, K =>
    let go : Slots → Option R := fun sl =>
      cond dr
        (match touch o sl s.ob, mineL s.ob (wrs Γ o sl s.ob) with
          | ts, ws => opA P Γ o (pickR (reads all o) sl) (maskO ts ws s.ob 0) fun v ob => (match v.ids ++ idsM ws s.ob.length ob 0 with
              | us => cond (Nat.ble s.ob.length ob.length && us.all fun x => Nat.blt x ob.length) (opsA P Γ all dr r (i + 1) ⟨putS o.dst v sl, mergeO ws s.ob ob 0⟩ (⟨i, ts, ws, s.ob.length, ob.length, us⟩ :: l) K) none))
        (opA P Γ o sl s.ob fun v ob => opsA P Γ all dr r (i + 1) ⟨putS o.dst v sl, ob⟩ l K)
    let no : Slots → Option R := fun sl => opsA P Γ all dr r (i + 1) ⟨putS o.dst .undef sl, s.ob⟩ l K
    match o.guard with
    | none => go s.sl
    | some (j, want) => (match all[j]? with
      | some oj => (match oj.dst with
        | some d => (match lookA d s.sl with
          | some .undef => no s.sl
          | some (.dat .bool b) => cond b (cond want (go ((d, .dat .bool true) :: s.sl)) (no ((d, .dat .bool true) :: s.sl))) (cond want (no ((d, .dat .bool false) :: s.sl)) (go ((d, .dat .bool false) :: s.sl)))
          | _ => none)
        | none => none)
      | none => none)
def dstC (n : Nat) : Code → Bool
  | .seq a b => dstC n a && dstC n b
  | .cond _ a b => dstC n a && dstC n b
  | .block _ a => dstC n a
  | .loop a => dstC n a
  | .scope a => dstC n a
  | .region _ ops _ => ops.toList.all fun o => match o.dst with | some d => Nat.blt d n | none => true
  | _ => true
def nl : Code → Nat
  | .seq a b => nl a + nl b
  | .cond _ a b => nl a + nl b
  | .block _ a => nl a
  | .loop a => nl a + 1
  | .scope a => nl a + 1
  | _ => 0
def runA (P : Program) (Γ : Sums) (Λ : Nat → St → (Exit → St → Option R) → Option R) : Nat → Code → St → (Exit → St → Option R) → Option R
  | _, .skip, s, K => K .normal s
  | _, .label _, s, K => K .normal s
  | _, .exit i, s, K => K (.exit i) s
  | _, .goto l, s, K => K (.goto l) s
  | _, .ret, s, K => K .ret s
  | n, .seq x y, s, K => runA P Γ Λ n x s fun e s => match e with
    | .normal => runA P Γ Λ (n + nl x) y s K
    | e => K e s
  | n, .cond c x y, s, K => (match c with
    | .tmp t => (match lookA t s.sl with
      | some (.dat .bool b) => cond b (runA P Γ Λ n x ⟨(t, .dat .bool true) :: s.sl, s.ob⟩ K) (runA P Γ Λ (n + nl x) y ⟨(t, .dat .bool false) :: s.sl, s.ob⟩ K)
      | _ => none)
    | c => (match ev s.sl c with
      | some (.dat .bool b) => cond b (runA P Γ Λ n x s K) (runA P Γ Λ (n + nl x) y s K)
      | _ => none))
  | n, .block i c, s, K => runA P Γ Λ n c s fun e s => match e with
    | .exit j => cond (Nat.beq j i) (K .normal s) (K (.exit j) s)
    | e => K e s
  | n, .loop _, s, K => Λ n s K
  | n, .scope _, s, K => Λ n s K
  | _, .region _ ops dr, s, K => opsA P Γ ops.toList dr ops.toList 0 s [] fun s l => cond (!dr || (regOk ops.toList && noClash (reachT ops.toList []) l)) (K .normal s) none
  | _, _, _, _ => none
def pickS : List Nat → Slots → Option Slots
  | [], _ => some []
  | t :: r, s => (match lookA t s with | some v => (match pickS r s with | some l => some ((t, v) :: l) | none => none) | none => none)
def renS (f : Nat → Option Nat) : Slots → Option Slots
  | [] => some []
  | (t, v) :: r => (match v.ren f with | some v => (match renS f r with | some l => some ((t, v) :: l) | none => none) | none => none)
def idsS : Slots → List Nat
  | [] => []
  | (_, v) :: r => v.ids ++ idsS r
def idsOb : List AO → List Nat
  | [] => []
  | o :: r => o.ids ++ idsOb r
def tellA (m : Nat) (live : List Nat) (s : St) (K : St → Option R) : Option R :=
  match pickS live s.sl with
  | some sl => (match visit s.ob (4 * s.ob.length + 4 * (idsS sl).length + 16) (idsOb (s.ob.take m) ++ idsS sl) (List.range m) with
    | L => cond (nodupB L) (match renS (fun i => posn i L 0) sl, objs s.ob L with
      | some sl', some ob => (match renAll (fun i => posn i L 0) ob with | some ob' => K ⟨sl', ob'⟩ | none => none)
      | _, _ => none) none)
  | none => none
def loopA (m : Nat) (live : List Nat) (body : St → (Exit → St → Option R) → Option R) : Nat → St → (Exit → St → Option R) → Option R
  | 0, _, _ => none
  | k + 1, s, K => tellA m live s fun s => body s fun e s => match e with
    | .normal => loopA m live body k s K
    | e => K e s
def resA (P : Program) (s : St) : List ResultVar → (List AV → Option R) → Option R
  | [], K => K []
  | .tmp t :: r, K => (match lookA t s.sl with | some v => resA P s r fun l => K (v :: l) | none => none)
  | .cell p t :: r, K => (match lookA p s.sl with
    | some (.ptr q []) => (match s.ob[q]? with
      | some (.box _ v _) => cond (loadOk P t v) (resA P s r fun l => K (v :: l)) none
      | _ => none)
    | _ => none)
def one1 : List AV → AV
  | [v] => v
  | l => .tup l
def zipS : Nat → List AV → Slots
  | _, [] => []
  | i, v :: r => (i, v) :: zipS (i + 1) r
def resOk : List AV → Bool
  | [_] => true
  | l => l.all AV.plain
def retA (P : Program) (fn : Func) (m : Nat) (s : St) (K : KV R) : Option R :=
  resA P s fn.results.toList fun l => cond (resOk l) (tellA m [0] ⟨[(0, one1 l)], s.ob⟩ fun s => match s.sl with | [(t, v)] => cond (Nat.beq t 0) (K v s.ob) none | _ => none) none
def funA (P : Program) (Γ : Sums) (Λ : Nat → St → (Exit → St → Option R) → Option R) (fn : Func) (args : List AV) (ob : List AO) (K : KV R) : Option R :=
  match fn.body with
  | some c => cond (Nat.ble args.length fn.ntmps && dstC fn.ntmps c) (runA P Γ Λ 0 c ⟨zipS 0 args, ob⟩ fun e s => match e with
    | .ret => retA P fn ob.length s K
    | .normal => (match fn.results.toList with | [] => retA P fn ob.length s K | _ => none)
    | _ => none) none
  | none => none
end
end Go.Mx
namespace Go.Mx
open Go Go.RowKit Go.Sx
variable [Glb]
def loopAt : Code → Nat → Option Code
  | .seq a b, n => cond (Nat.blt n (nl a)) (loopAt a n) (loopAt b (n - nl a))
  | .cond _ a b, n => cond (Nat.blt n (nl a)) (loopAt a n) (loopAt b (n - nl a))
  | .block _ a, n => loopAt a n
  | .loop a, 0 => some (.loop a)
  | .loop a, n + 1 => loopAt a n
  | .scope a, 0 => some (.scope a)
  | .scope a, n + 1 => loopAt a n
  | _, _ => none
def keysS : Slots → List Nat → List Nat
  | [], l => l
  | (t, _) :: r, l => keysS r (cond (l.contains t) l (t :: l))
variable {R : Type}
def liveA (lv : Nat → Option (List Nat)) (q : Nat) (s : St) : List Nat := match lv q with | some l => l | none => keysS s.sl []
def scopeA (m : Nat) (lv : Nat → Option (List Nat)) (find : Nat → Option (Nat × Code)) (run : Nat → Code → St → (Exit → St → Option R) → Option R) : Nat → Nat → Code → St → (Exit → St → Option R) → Option R
  | 0, _, _, _, _ => none
  | k + 1, n, c, s, K => run n c s fun e s => match e with
    | .goto l => (match find l with
      | some (n, c) => tellA m (liveA lv (2 * l + 1) s) s fun s => scopeA m lv find run k n c s K
      | none => K (.goto l) s)
    | e => K e s
def behind (l : Nat) : Code → Nat → Option (Nat × Code)
  | .label q, n => cond (Nat.beq q l) (some (n, .skip)) none
  | .seq a b, n => (match behind l a n with
    | some (m, c) => some (m, .seq c b)
    | none => behind l b (n + nl a))
  | _, _ => none
def lamA (P : Program) (Γ : Sums) (lv : Nat → Option (List Nat)) (k m : Nat) (c : Code) : Nat → Nat → St → (Exit → St → Option R) → Option R
  | 0, _, _, _ => none
  | d + 1, n, s, K => (match loopAt c n with
    | some (.loop b) => loopA m (liveA lv (2 * n) s) (runA P Γ (fun q s K => lamA P Γ lv k m c d q s K) (n + 1) b) k s K
    | some (.scope b) => scopeA m lv (fun l => behind l b (n + 1)) (runA P Γ (fun q s K => lamA P Γ lv k m c d q s K)) k (n + 1) b s K
    | _ => none)
def wideA (P : Program) (F : FuncId → Option Prim) (W : FuncId → List Nat) (k : Nat) : Nat → Sums
  | 0 => ⟨F, fun _ _ _ _ => none, fun f _ => W f⟩
  | d + 1 => ⟨F, fun f args ob K => match P.funcs[f]? with
      | some fn => (match fn.body with
        | some c => funA P (wideA P F W k d) (lamA P (wideA P F W k d) (fun _ => none) k ob.length c 20) fn args ob K
        | none => none)
      | none => none, fun f _ => W f⟩
end Go.Mx
