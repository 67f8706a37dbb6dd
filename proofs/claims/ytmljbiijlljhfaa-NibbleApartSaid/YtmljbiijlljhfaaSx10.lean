/- Own work. A part of the proof of a law of this seat: The walk library: what is of no program. -/
import Derived.Test.YtmljbiijlljhfaaSx9
import Derived.ScopeJumps
namespace Go.Sx
open Go Go.RowKit

/-! ### calls: what may be written is handed on, or kept -/
section
variable {α : Type} {A A' B W S0 : Nat → Prop} {kd : Kd α} {p : Option Addr} {c : Nat} {xs : List α} {w0 w w' : World} {as as' as0 rt rr ro as00 : List (Option Addr)} {u : Option Addr}
theorem Ex.sub (h : Ex w0 S0 (as0 ++ rt) w) : Ex w (Av as0 No) as0 w :=
  ⟨Fr.refl _ _, (List.pairwise_append.1 h.dis).1, fun p hp => h.lt p (by simp [hp]), fun p hp => .inr (.inr ⟨p, hp, rfl⟩)⟩
theorem Ex.callOff (h : Ex w0 S0 (as0 ++ rt) w) (hu : u ∈ rt) : ∀ q, u = some q → ¬ Av as0 No q.block := fun q hq hk => by
  rcases hk with hk | ⟨s, hs, hb⟩
  · exact hk
  · exact (List.pairwise_append.1 h.dis).2.2 (some s) hs u hu s q rfl hq hb
theorem Ex.call (h : Ex w0 S0 (as0 ++ rt) w) (hc : Ex w (Av as0 No) as' w') : Ex w0 S0 (as' ++ rt) w' := by
  refine ⟨h.fr.step hc.fr (fun k hk hv => ?_), List.pairwise_append.2 ⟨hc.dis, (List.pairwise_append.1 h.dis).2.1, fun x hx y hy p q hp hq e => ?_⟩, fun p hp => ?_, fun p hp => ?_⟩
  · rcases hv with hv | ⟨p, hp, rfl⟩
    · exact hv.elim
    · rcases h.nw p (by simp [hp]) with h1 | h1
      · omega
      · exact h1
  · rcases hc.nw p (hp ▸ hx) with h1 | h1
    · have := h.lt q (by rw [← hq]; simp [hy]); omega
    · rw [e] at h1; exact h.callOff hy q hq h1
  · rcases List.mem_append.1 hp with hp | hp
    · exact hc.lt p hp
    · exact Nat.lt_of_lt_of_le (h.lt p (by simp [hp])) hc.fr.size
  · rcases List.mem_append.1 hp with hp | hp
    · rcases hc.nw p hp with h1 | h1
      · exact .inl (Nat.le_trans h.fr.size h1)
      · rcases h1 with h1 | ⟨s, hs, hb⟩
        · exact h1.elim
        · rw [← hb]; exact h.nw s (by simp [hs])
    · exact h.nw p (by simp [hp])
theorem Ex.callStep (hc : Ex w (Av as0 No) as' w') (rt : List (Option Addr)) : Step (as0 ++ rt) (as' ++ rt) w w' :=
  ⟨hc.fr.size, fun k hk hp => hc.fr.blk k hk (fun hv => by
    rcases hv with hv | ⟨p, hp', e⟩
    · exact hv
    · exact hp p (by simp [hp']) e), fun p hp => by
    rcases List.mem_append.1 hp with hp | hp
    · rcases hc.nw p hp with h1 | h1
      · exact .inr h1
      · rcases h1 with h1 | ⟨s, hs, hb⟩
        · exact h1.elim
        · exact .inl ⟨s, by simp [hs], hb⟩
    · exact .inl ⟨p, by simp [hp], rfl⟩⟩
/-- What is guarded is apart from what may be written. -/
theorem Ex.wfree (h : Ex w0 (Av as00 No) as w) (hW : ∀ k, W k → k < w0.heap.size) (hW0 : ∀ p, some p ∈ as00 → ¬ W p.block) : ∀ p, some p ∈ as → ¬ W p.block := fun p hp hk => by
  rcases h.nw p hp with h1 | h1
  · have := hW _ hk; omega
  · rcases h1 with h1 | ⟨s, hs, hb⟩
    · exact h1
    · rw [← hb] at hk; exact hW0 s hs hk
theorem Ex.wlt (h : Ex w0 S0 (as0 ++ (rr ++ ro)) w) (hW : ∀ k, W k → k < w0.heap.size) : ∀ k, Av ro W k → k < w.heap.size := fun k hk => by
  rcases hk with hk | ⟨s, hs, hb⟩
  · exact Nat.lt_of_lt_of_le (hW k hk) h.fr.size
  · rw [← hb]; exact h.lt s (by simp [hs])
theorem Ex.wsep (h : Ex w0 (Av as00 No) (as0 ++ (rr ++ ro)) w) (hW : ∀ k, W k → k < w0.heap.size) (hW0 : ∀ p, some p ∈ as00 → ¬ W p.block) : ∀ p, some p ∈ as0 → ¬ Av ro W p.block := fun p hp hk => by
  rcases hk with hk | ⟨s, hs, hb⟩
  · exact h.wfree hW hW0 p (by simp [hp]) hk
  · exact (List.pairwise_append.1 h.dis).2.2 (some p) hp (some s) (by simp [hs]) p s rfl rfl hb.symm
theorem Raw.arg (r : Raw (Av (as0 ++ (rr ++ ro)) B) kd w.heap p c xs) (hB : ∀ k, W k → B k) : Raw (Av as0 (Av ro W)) kd w.heap p c xs := r.mono (fun k _ hk => by
  rcases hk with (hk | ⟨s, hs, hb⟩) | ⟨s, hs, hb⟩
  · exact .inl (hB k hk)
  · exact .inr ⟨s, by simp [hs], hb⟩
  · exact .inr ⟨s, by simp [hs], hb⟩)
theorem Ow.mono {e : TypeId} (h : Ow A w e kd p c xs) (hA : ∀ k, k < w.heap.size → A' k → A k) : Ow A' w e kd p c xs := by
  obtain ⟨cells, h1, h2⟩ := h
  exact ⟨cells, h1, h2.imp (fun _ _ hx => kd.mono hx hA)⟩
theorem Ow.arg {e : TypeId} (h : Ow (Av (as0 ++ (rr ++ ro)) W) w e kd p c xs) : Ow (Av as0 (Av ro W)) w e kd p c xs := h.mono (fun k _ hk => by
  rcases hk with (hk | ⟨s, hs, hb⟩) | ⟨s, hs, hb⟩
  · exact .inl hk
  · exact .inr ⟨s, by simp [hs], hb⟩
  · exact .inr ⟨s, by simp [hs], hb⟩)
theorem Ow.argR {e : TypeId} (h : Ow (Av (as0 ++ (rr ++ ro)) W) w e kd p c xs) (hE : Ex w0 (Av as00 No) (as0 ++ (rr ++ ro)) w) (hW : ∀ k, W k → k < w0.heap.size) (hW0 : ∀ p, some p ∈ as00 → ¬ W p.block) (hp : p ∈ rr) : Raw (Av as0 (Av ro W)) kd w.heap p c xs :=
  h.arg.raw (fun _ _ h => h) (fun q hq hk => by
    rcases hk with (hk | ⟨s, hs, hb⟩) | ⟨s, hs, hb⟩
    · exact hE.wfree hW hW0 q (by rw [← hq]; simp [hp]) hk
    · exact (List.pairwise_append.1 (List.pairwise_append.1 hE.dis).2.1).2.2 p hp (some s) hs q s hq rfl hb.symm
    · exact (List.pairwise_append.1 hE.dis).2.2 (some s) hs p (by simp [hp]) s q rfl hq hb)
/-- a result that is new: whatever else there is -/
theorem Raw.retF (r : Raw (Av as' (Old w)) kd w'.heap p c xs) (h : Ex w0 S0 (as0 ++ rt) w) : Raw (Av (as' ++ rt) (Old w0)) kd w'.heap p c xs := r.mono (fun k _ hk => by
  rcases hk with hk | ⟨s, hs, hb⟩
  · exact .inl (Nat.lt_of_lt_of_le hk h.fr.size)
  · rcases List.mem_append.1 hs with hs | hs
    · exact .inr ⟨s, hs, hb⟩
    · rw [← hb]; exact .inl (h.lt s (by simp [hs])))
theorem Raw.retW (r : Raw (Av as' (Av rt W)) kd w'.heap p c xs) : Raw (Av (as' ++ rt) W) kd w'.heap p c xs := r.mono (fun k _ hk => by
  rcases hk with hk | ⟨s, hs, hb⟩
  · exact .inl (.inl hk)
  · rcases List.mem_append.1 hs with hs | hs
    · exact .inr ⟨s, hs, hb⟩
    · exact .inl (.inr ⟨s, hs, hb⟩))
theorem Ow.retW {e : TypeId} (r : Ow (Av as' (Av rt W)) w' e kd p c xs) : Ow (Av (as' ++ rt) W) w' e kd p c xs := r.mono (fun k _ hk => by
  rcases hk with hk | ⟨s, hs, hb⟩
  · exact .inl (.inl hk)
  · rcases List.mem_append.1 hs with hs | hs
    · exact .inr ⟨s, hs, hb⟩
    · exact .inl (.inr ⟨s, hs, hb⟩))
theorem Raw.toW (r : Raw (Av as (Old w0)) kd w.heap p c xs) (hW : ∀ k, W k → k < w0.heap.size) : Raw (Av as W) kd w.heap p c xs := r.mono (fun k _ hk => by
  rcases hk with hk | hk
  · exact .inl (hW k hk)
  · exact .inr hk)
/-- new memory that a single operation lays -/
theorem Raw.newF (r : Raw (Old w) kd w'.heap p c xs) (h : Ex w0 S0 as w) : Raw (Av as (Old w0)) kd w'.heap p c xs := r.mono (fun k _ hk => by
  rcases hk with hk | ⟨s, hs, hb⟩
  · exact Nat.lt_of_lt_of_le hk h.fr.size
  · rw [← hb]; exact h.lt s hs)

/-! some of them, in another order -/
def pick (is : List Nat) (as : List (Option Addr)) : List (Option Addr) := is.map (fun i => as.getD i none)
theorem mem_pick {is : List Nat} {q : Addr} (h : some q ∈ pick is as) : some q ∈ as := by
  obtain ⟨i, _, hi⟩ := List.mem_map.1 h
  rw [List.getD_eq_getElem?_getD] at hi
  cases hx : as[i]? with
  | none => rw [hx] at hi; simp at hi
  | some v => rw [hx] at hi; simp at hi; rw [← hi]; exact List.mem_of_getElem? hx
theorem Step.pick (as : List (Option Addr)) (w : World) (is : List Nat) : Step as (pick is as) w w := ⟨Nat.le_refl _, fun _ _ _ => rfl, fun p hp => .inl ⟨p, mem_pick hp, rfl⟩⟩
theorem Ex.pick (h : Ex w0 S0 as w) (is : List Nat) (hi : is.Nodup) : Ex w0 S0 (pick is as) w := by
  refine ⟨h.fr, ?_, fun p hp => h.lt p (mem_pick hp), fun p hp => h.nw p (mem_pick hp)⟩
  unfold Sx.pick
  rw [List.pairwise_map]
  refine hi.imp (fun {i j} hij p q hp hq e => ?_)
  have key : ∀ {i : Nat} {p : Addr}, as.getD i none = some p → as[i]? = some (some p) := by
    intro i p hp
    rw [List.getD_eq_getElem?_getD] at hp
    cases hx : as[i]? with
    | none => rw [hx] at hp; simp at hp
    | some v => rw [hx] at hp; simp at hp; rw [hp]
  exact h.off i j (key hp) (key hq) hij q rfl ⟨p, rfl, e⟩
/-- One's own is told as read from here on. -/
theorem Ow.free {e : TypeId} (h : Ow (Av as W) w e kd p c xs) (hE : Ex w0 (Av as00 No) as w) (hW : ∀ k, W k → k < w0.heap.size) (hW0 : ∀ p, some p ∈ as00 → ¬ W p.block) (m : Nat) (hm : as[m]? = some p) : Raw (Av (as.eraseIdx m) W) kd w.heap p c xs :=
  h.raw (fun k _ hk => by
    rcases hk with hk | ⟨s, hs, hb⟩
    · exact .inl hk
    · exact .inr ⟨s, List.mem_of_mem_eraseIdx hs, hb⟩) (fun q hq hk => by
    rcases hk with hk | ⟨s, hs, hb⟩
    · exact hE.wfree hW hW0 q (mem_at hm hq) hk
    · obtain ⟨i, hi, he⟩ := List.mem_eraseIdx_iff_getElem?.1 hs
      exact hE.off i m he hm hi q hq ⟨s, rfl, hb⟩)
/-- .. and it is new. -/
theorem Ow.freeF {e : TypeId} (h : Ow (Av as W) w e kd p c xs) (f : kd.Flat) (hE : Ex w0 (Av [] No) as w) (m : Nat) (hm : as[m]? = some p) : Raw (Av (as.eraseIdx m) (Old w0)) kd w.heap p c xs :=
  h.rawFlat f (fun q hq hk => by
    rcases hk with hk | ⟨s, hs, hb⟩
    · rcases hE.nw q (mem_at hm hq) with h1 | h1
      · simp only [Old] at hk; omega
      · rcases h1 with h1 | ⟨s, hs, _⟩
        · exact h1
        · cases hs
    · obtain ⟨i, hi, he⟩ := List.mem_eraseIdx_iff_getElem?.1 hs
      exact hE.off i m he hm hi q hq ⟨s, rfl, hb⟩)
theorem Ow.get {e : TypeId} (h : Ow A w e kd p c xs) (m : Nat) (hm : m < xs.length) : ∃ b cs, p = some ⟨b, 0, none⟩ ∧ kd.K A w.heap xs[m] cs ∧ At w b (m * kd.sz) cs := by
  obtain ⟨cells, h1, h2⟩ := h
  rcases own_none h1 with ⟨rfl, h, _⟩ | ⟨b, cur, rfl, hg, h3, h4, h5, h6⟩
  · omega
  · obtain ⟨cs, hK, hc⟩ := h2.get (fun _ _ h => kd.len h) m hm
    refine ⟨b, cs, rfl, hK, fun j v hv => ?_⟩
    rw [cell_of_row w b _ cur e (0, 0) hg]
    have h7 := hc j v hv
    rw [← h6, List.getElem?_take] at h7
    split at h7
    · simpa using h7
    · cases h7
end

section
variable {P : Program} {a : Act} {w : World} {n : Nat} {l : List (Nat × Value)}
variable {d : Option Nat} {ty T : TypeId} {pos : String} {af : Array Edge} {g : Option (Nat × Bool)} {x y z : Operand} {k k' : IntKind} {i j : Int}
variable {α : Type} {A : Nat → Prop} {kd : Kd α} {p : Option Addr} {c : Nat} {xs : List α}
theorem d_indexOwR {e : TypeId} (ha : Has n l a) (hx : ev l x = some (.slice p xs.length c)) (hy : ev l y = some (.int k i)) (hT : P.underlying T = some (.slice e)) (hs : ∀ w, (sizeOf e).run P w = .ok kd.sz w) (r : Ow A w e kd p c xs) (h0 : 0 ≤ i ∧ i < xs.length) (z : α) :
    Does P ⟨d, .indexAddr T x y, ty, pos, af, g⟩ a w (fun v w' => w' = w ∧ ∃ b o cs, v = .pointer (some ⟨b, o, none⟩) ∧ kd.K A w.heap (xs.getD i.toNat z) cs ∧ At w b o cs) := by
  have hm : i.toNat < xs.length := by omega
  obtain ⟨b, cs, hp, hK, hat⟩ := r.get i.toNat hm
  refine (d_indexOw ha hx hy hT hs r h0).mono ?_
  rintro v w' ⟨rfl, b', hb, rfl⟩
  rw [hp] at hb
  simp only [Option.some.injEq, Addr.mk.injEq, and_true] at hb
  subst hb
  refine ⟨rfl, b, _, cs, rfl, ?_, hat⟩
  simpa [List.getD_eq_getElem?_getD, hm] using hK
/-- x[:n] of one's own stays one's own. -/
theorem d_sliceOw {e : TypeId} (ha : Has n l a) (hT : P.underlying T = some (.slice e)) (hs : ∀ w, (sizeOf e).run P w = .ok kd.sz w) (hx : ev l x = some (.slice p xs.length c)) (hz : ev l z = some (.int k' j)) (r : Ow A w e kd p c xs) (h : 0 ≤ j ∧ j ≤ xs.length) :
    Does P ⟨d, .slice T x none (some z) none, ty, pos, af, g⟩ a w (fun v w' => w' = w ∧ v = .slice p (xs.take j.toNat).length c ∧ Ow A w e kd p c (xs.take j.toNat)) := by
  have hraw : xs.length ≤ c := by
    obtain ⟨cells, h1, h2⟩ := r
    rcases own_none h1 with ⟨rfl, h, rfl⟩ | ⟨b, cur, rfl, hg, h3, _⟩
    · omega
    · exact h3
  have ej : (j.toNat : Int) = j := Int.toNat_of_nonneg (by omega)
  have hlen : (xs.take j.toNat).length = j.toNat := by rw [List.length_take]; omega
  refine (Does.val (v := .slice p (xs.take j.toNat).length c) (w' := w) ?_).mono ?_
  · have hb : (Instr.sliceBounds true xs.length c none (some (.int k' j)) none).run P w = .ok (0, j.toNat, c) w := by
      simp [Instr.sliceBounds, run_sliceBound, (by omega : 0 ≤ j), (by omega : j ≤ c)]
    simp [execOp, ha.ev hx, Instr.sliceAt, Instr.slice, run_underlying hT, ha.ev hz, hb, hs]
    constructor
    · intro h0; cases p <;> simp
      rename_i q
      obtain ⟨cells, h1, h2⟩ := r
      rcases own_none h1 with ⟨h, _⟩ | ⟨b, cur, h, _⟩
      · cases h
      · injection h with h; subst h; simp [add_at]
    · omega
  · rintro v w' ⟨rfl, rfl⟩
    refine ⟨rfl, rfl, ?_⟩
    obtain ⟨cells, h1, h2⟩ := r
    refine ⟨cells.take (j.toNat * kd.sz), ?_, h2.take (fun _ _ h => kd.len h) j.toNat⟩
    rcases own_none h1 with ⟨rfl, h0, rfl⟩ | ⟨b, cur, rfl, hg, h3, h4, h5, h6⟩
    · have : xs = [] := List.eq_nil_of_length_eq_zero h0
      subst this
      have : cells = [] := List.eq_nil_of_length_eq_zero (by simpa using h1.1)
      subst this
      simpa using h1
    · have hcl := h1.1
      have hjs : j.toNat * kd.sz ≤ xs.length * kd.sz := Nat.mul_le_mul_right _ (by omega)
      refine ⟨by rw [List.length_take, hlen]; omega, .inr ⟨b, c, cur, rfl, Nat.zero_le _, hg, by omega, h4, h5, ?_⟩⟩
      rw [hlen, ← h6, List.take_take, Nat.min_eq_left hjs]
theorem d_min {Ts : Array TypeId} (ha : Has n l a) (hx : ev l x = some (.int k i)) (hy : ev l y = some (.int k j)) : Does P ⟨d, .call { callee := .builtin .min, args := #[x, y], argTypes := Ts }, ty, pos, af, g⟩ a w (Is (.int k (if j < i then j else i)) w) :=
  Does.val (by simp [execOp, ha.ev hx, ha.ev hy, resolve, invoke, builtin, Builtin.min_, Builtin.min2])
theorem d_max {Ts : Array TypeId} (ha : Has n l a) (hx : ev l x = some (.int k i)) (hy : ev l y = some (.int k j)) : Does P ⟨d, .call { callee := .builtin .max, args := #[x, y], argTypes := Ts }, ty, pos, af, g⟩ a w (Is (.int k (if i < j then j else i)) w) :=
  Does.val (by simp [execOp, ha.ev hx, ha.ev hy, resolve, invoke, builtin, Builtin.max_, Builtin.max2])
end

/-! ### drawn regions -/
def lookE (E : List Nat) (t : Nat) (l : List (Nat × Value)) : List (Nat × Nat × Value) → Option Value
  | [] => look t l
  | e :: r => cond (Nat.beq e.2.1 t && E.contains e.1) (some e.2.2) (lookE E t l r)
def lookI (i t : Nat) : List (Nat × Nat × Value) → Option Value
  | [] => none
  | e :: r => cond (Nat.beq e.1 i && Nat.beq e.2.1 t) (some e.2.2) (lookI i t r)
structure HasB (n : Nat) (l : List (Nat × Value)) (L : List (Nat × Nat × Value)) (b : Nat → Bool) (a : Act) : Prop where
  has : Has n l a
  up : ∀ e ∈ L, b e.1 = true → a.tmps.getD e.2.1 undef = e.2.2
section
variable {n : Nat} {l : List (Nat × Value)} {L L' : List (Nat × Nat × Value)} {b : Nat → Bool} {a : Act} {w : World}
theorem HasB.start (ha : Has n l a) {len : Nat} (hL : L.all (fun e => Nat.blt e.1 len) = true) : HasB n l L (fun j => !Nat.blt j len) a :=
  ⟨ha, fun e he hb => by have := List.all_eq_true.1 hL e he; rw [this] at hb; cases hb⟩
theorem HasB.get (h : HasB n l L b a) (E : List Nat) (hE : ∀ i ∈ E, b i = true) (l' : List (Nat × Value)) (hl : l'.map (fun p => lookE E p.1 l L) = l'.map (fun p => some p.2)) : Has n l' a := by
  have key : ∀ (L : List (Nat × Nat × Value)), (∀ e ∈ L, b e.1 = true → a.tmps.getD e.2.1 undef = e.2.2) → ∀ t v, lookE E t l L = some v → a.tmps.getD t undef = v := by
    intro L
    induction L with
    | nil => intro _ t v hv; exact h.has.at_ t v hv
    | cons e r ih =>
      intro hu t v hv
      simp only [lookE] at hv
      cases hc : (Nat.beq e.2.1 t && E.contains e.1) with
      | false => rw [hc] at hv; exact ih (fun e he => hu e (by simp [he])) t v (by simpa using hv)
      | true =>
        rw [hc] at hv
        simp only [cond_true, Option.some.injEq] at hv
        rw [Bool.and_eq_true] at hc
        have h1 := Nat.eq_of_beq_eq_true hc.1
        have h2 := hu e (by simp) (hE _ (by simpa using hc.2))
        rw [← h1, h2, hv]
  refine ⟨h.has.sz, h.has.df, fun t v hv => ?_⟩
  have hm : ∀ p ∈ l', lookE E p.1 l L = some p.2 := List.map_inj_left.1 hl
  clear hl
  induction l' with
  | nil => simp [look] at hv
  | cons p r ih =>
    simp only [look] at hv
    by_cases he : p.1 = t
    · subst he
      rw [beq_self] at hv
      simp at hv
      subst hv
      exact key L h.up _ _ (hm p (by simp))
    · rw [beq_ne he] at hv
      exact ih (by simpa using hv) (fun q hq => hm q (by simp [hq]))
theorem HasB.to (h : HasB n l L b a) (L' : List (Nat × Nat × Value)) (N : List Nat) (hN : ∀ i ∈ N, b i = false) (hl : L'.map (fun e => cond (N.contains e.1) (some e.2.2) (lookI e.1 e.2.1 L)) = L'.map (fun e => some e.2.2)) : HasB n l L' b a := by
  refine ⟨h.has, fun e he hb => ?_⟩
  have hm := List.map_inj_left.1 hl e he
  cases hc : N.contains e.1 with
  | true => have := hN e.1 (by simpa using hc); rw [this] at hb; cases hb
  | false =>
    rw [hc] at hm
    simp only [cond_false] at hm
    have key : ∀ (L : List (Nat × Nat × Value)), (∀ e ∈ L, b e.1 = true → a.tmps.getD e.2.1 undef = e.2.2) → lookI e.1 e.2.1 L = some e.2.2 → a.tmps.getD e.2.1 undef = e.2.2 := by
      intro L
      induction L with
      | nil => intro _ hv; cases hv
      | cons f r ih =>
        intro hu hv
        simp only [lookI] at hv
        cases hq : (Nat.beq f.1 e.1 && Nat.beq f.2.1 e.2.1) with
        | false => rw [hq] at hv; exact ih (fun e he => hu e (by simp [he])) (by simpa using hv)
        | true =>
          rw [hq] at hv
          simp only [cond_true, Option.some.injEq] at hv
          rw [Bool.and_eq_true] at hq
          have h1 := Nat.eq_of_beq_eq_true hq.1
          have h2 := Nat.eq_of_beq_eq_true hq.2
          have h3 := hu f (by simp) (by rw [h1]; exact hb)
          rw [← h2, h3, hv]
    exact key L h.up hm
theorem look_none {d : Nat} : ∀ {l : List (Nat × Value)}, l.all (fun p => !Nat.beq p.1 d) = true → look d l = none
  | [], _ => rfl
  | p :: r, h => by
    simp only [List.all_cons, Bool.and_eq_true, Bool.not_eq_true'] at h
    simp only [look, h.1, cond_false]
    exact look_none h.2
theorem HasB.put (h : HasB n l L b a) {d : Nat} (i : Nat) {v : Value} (hd : Nat.ble (d + 1) n = true) (hl : l.all (fun p => !Nat.beq p.1 d) = true) (hL : L.all (fun e => Nat.beq e.2.1 d == Nat.beq e.1 i) = true)
    (hv : (L.filter (fun e => Nat.beq e.1 i)).map (fun e => e.2.2) = [v]) : HasB n l L (fun j => b j || Nat.beq i j) (a.put (some d) v) := by
  have hp := h.has.put hd v
  refine ⟨⟨hp.sz, hp.df, fun t u hu' => ?_⟩, fun e he hb => ?_⟩
  · have hne : ¬ d = t := by
      rintro rfl
      rw [look_none hl] at hu'
      cases hu'
    exact hp.at_ t u (by simp only [look]; rw [beq_ne hne]; exact hu')
  · have h1 := List.all_eq_true.1 hL e he
    by_cases hi : e.1 = i
    · have h2 : e.2.1 = d := by
        have h3 : Nat.beq e.1 i = true := by rw [hi]; exact beq_self i
        rw [h3] at h1
        exact Nat.eq_of_beq_eq_true (by simpa using h1)
      have h3 : e.2.2 ∈ (L.filter (fun e => Nat.beq e.1 i)).map (fun e => e.2.2) := List.mem_map.2 ⟨e, List.mem_filter.2 ⟨he, by rw [hi]; exact beq_self i⟩, rfl⟩
      rw [hv] at h3
      have h4 : e.2.2 = v := by simpa using h3
      rw [h2, h4]
      exact hp.at_ d v (by simp only [look, beq_self, cond_true])
    · have h3 : Nat.beq e.1 i = false := beq_ne hi
      rw [h3] at h1
      have h2 : ¬ d = e.2.1 := by
        intro hd'
        rw [← hd', beq_self] at h1
        cases h1
      have h5 : b e.1 = true := by
        rw [beq_ne (fun h => hi h.symm), Bool.or_false] at hb
        exact hb
      have h4 := h.up e he h5
      rw [← h4]
      simp only [Act.put, Array.getD_eq_getD_getElem?]
      rw [Array.getElem?_setIfInBounds_ne h2]
theorem HasB.skip (h : HasB n l L b a) (i : Nat) (v : Value) (hL : L.all (fun e => !Nat.beq e.1 i) = true) : HasB n l L (fun j => b j || Nat.beq i j) (a.put none v) :=
  ⟨h.has.skip v, fun e he hb => by
    have h1 := List.all_eq_true.1 hL e he
    refine h.up e he ?_
    have h2 : Nat.beq i e.1 = false := beq_ne (fun h => by rw [h] at h1; rw [beq_self] at h1; cases h1)
    rw [h2, Bool.or_false] at hb
    exact hb⟩
theorem up_t {b : Nat → Bool} {i j : Nat} (h : b j = true) : (b j || Nat.beq i j) = true := by rw [h]; rfl
theorem up_f {b : Nat → Bool} {i j : Nat} (h : b j = false) (hn : Nat.beq i j = false) : (b j || Nat.beq i j) = false := by rw [h, hn]; rfl
theorem up_i {b : Nat → Bool} {i : Nat} : (b i || Nat.beq i i) = true := by rw [beq_self, Bool.or_true]
theorem no_both {c : Bool} {p : Prop} (h : c = false) (h' : c = true) : p := by rw [h] at h'; cases h'
end

section
variable {P : Program} {os : List Oper} {Q : Exit → Act → World → Prop} {a : Act} {w : World} {m : Nat}
theorem drawnC (id : Nat) (hmx : P.follows .mixedOrders = true) (m : Nat) (hok : okR os m = true) (hm : Nat.ble m os.length = true) (I : (Nat → Bool) → Act → World → Prop) (h0 : I (fun j => !Nat.blt j os.length) a w.drew)
    (hs : ∀ i o, os[i]? = some o → i < m → ∀ b a w, I b a w → b i = false → (∀ j ∈ needs o, b j = true) → (∀ j o', os[j]? = some o' → b j = true → ∀ q ∈ needs o', b q = true) → DoesG P os o a w (fun v w' => I (fun j => b j || Nat.beq i j) (a.put o.dst v) w'))
    (hend : ∀ b a w, (∀ j, j < os.length → j < m → b j = true) → I b a w → wpList P os.toArray Q (os.drop m) a w) : (Code.region id os.toArray true).wp P Q a w := by
  refine drawn id hmx m hok hm (fun b a w => I b a w ∧ ∀ j o', os[j]? = some o' → b j = true → ∀ q ∈ needs o', b q = true) ⟨h0, fun j o' ho hb => ?_⟩ (fun i o ho him b a w hI hb hn => ?_) (fun b a w hb hI => hend b a w hb hI.1)
  · have hj := (List.getElem?_eq_some_iff.1 ho).1
    have : Nat.blt j os.length = true := by rw [Nat.blt_eq]; exact hj
    have hb : (!Nat.blt j os.length) = true := hb
    rw [this] at hb
    cases hb
  · have h := hs i o ho him b a w hI.1 hb hn hI.2
    have hcl : ∀ j o', os[j]? = some o' → (b j || Nat.beq i j) = true → ∀ q ∈ needs o', (b q || Nat.beq i q) = true := by
      intro j o' ho' hb' q hq
      by_cases hij : i = j
      · subst hij
        rw [ho] at ho'
        injection ho' with ho'
        subst ho'
        exact up_t (hn q hq)
      · rw [beq_ne hij, Bool.or_false] at hb'
        exact up_t (hI.2 j o' ho' hb' q hq)
    unfold DoesG at h ⊢
    split
    · rename_i hw
      rw [if_pos hw] at h
      exact h.mono (fun v w' hv => ⟨hv, hcl⟩)
    · rename_i hw
      rw [if_neg hw] at h
      exact ⟨h, hcl⟩
theorem mem_needs {o : Oper} {j : Nat} (h : (needs o).contains j = true) : j ∈ needs o := by simpa using h
variable {n : Nat} {l : List (Nat × Value)} {o : Oper} {R : Value → World → Prop}
theorem DoesG.plain (hg : o.guard = none) (h : Does P o a w R) : DoesG P os o a w R := by
  unfold DoesG
  rw [if_pos (by simp [Region.wanted, hg])]
  exact h
theorem DoesG.on {j dj : Nat} {wt t : Bool} {oj : Oper} (hg : o.guard = some (j, wt)) (ha : Has n l a) (hj : os[j]? = some oj) (hdj : oj.dst = some dj) (hv : look dj l = some (.bool t)) (he : t = wt) (h : Does P o a w R) : DoesG P os o a w R := by
  unfold DoesG
  rw [if_pos]
  · exact h
  · simp only [Region.wanted, yielded, hg, List.getElem?_toArray, hj, hdj, Option.bind_some, yield_at (ha.at_ _ _ hv), he]
    cases wt <;> rfl
theorem DoesG.off {j dj : Nat} {wt t : Bool} {oj : Oper} (hg : o.guard = some (j, wt)) (ha : Has n l a) (hj : os[j]? = some oj) (hdj : oj.dst = some dj) (hv : look dj l = some (.bool t)) (he : t = !wt) (h : R undef w) : DoesG P os o a w R := by
  unfold DoesG
  rw [if_neg]
  · exact h
  · simp only [Region.wanted, yielded, hg, List.getElem?_toArray, hj, hdj, Option.bind_some, yield_at (ha.at_ _ _ hv), he]
    cases wt <;> decide
theorem DoesG.gone {j dj : Nat} {wt : Bool} {oj : Oper} (hg : o.guard = some (j, wt)) (ha : Has n l a) (hj : os[j]? = some oj) (hdj : oj.dst = some dj) (hv : look dj l = some undef) (h : R undef w) : DoesG P os o a w R := by
  unfold DoesG
  rw [if_neg]
  · exact h
  · have hgd := ha.at_ _ _ hv
    have : yielded os.toArray a.tmps j = none := by
      simp only [yielded, List.getElem?_toArray, hj, hdj, Option.bind_some]
      split
      · rename_i b hb
        exact absurd hb (yield_no hgd b)
      · rfl
    simp [Region.wanted, hg, this]
/-- the operations one by one -/
inductive EachAt (C : Nat → Oper → Prop) : Nat → Nat → List Oper → Prop where
  | nil {k : Nat} {os : List Oper} : EachAt C k 0 os
  | cons {k m : Nat} {o : Oper} {r : List Oper} : C k o → EachAt C (k + 1) m r → EachAt C k (m + 1) (o :: r)
theorem EachAt.all {C : Nat → Oper → Prop} {k m : Nat} {os : List Oper} (h : EachAt C k m os) : ∀ i o, os[i]? = some o → i < m → C (k + i) o := by
  induction h with
  | nil => intro i o _ hi; omega
  | @cons k m o r h1 _ ih =>
    intro i p hp hi
    cases i with
    | zero => simp at hp; subst hp; exact h1
    | succ i => have := ih i p (by simpa using hp) (by omega); rwa [show k + 1 + i = k + (i + 1) by omega] at this
theorem EachAt.all0 {C : Nat → Oper → Prop} {m : Nat} {os : List Oper} (h : EachAt C 0 m os) (i : Nat) (o : Oper) (ho : os[i]? = some o) (hi : i < m) : C i o := by
  have := h.all i o ho hi
  rwa [Nat.zero_add] at this
/-! facts on slots whose values are not told -/
theorem put_same {a : Act} {d : Nat} {v : Value} (ha : Has n l a) (hd : Nat.ble (d + 1) n = true) : (a.put (some d) v).tmps.getD d undef = v := (ha.put hd v).at_ d v (by simp only [look, beq_self, cond_true])
theorem put_other {a : Act} {d t : Nat} {v : Value} (h : Nat.beq d t = false) : (a.put (some d) v).tmps.getD t undef = a.tmps.getD t undef := by
  have hne : ¬ d = t := fun e => by rw [e, beq_self] at h; cases h
  simp only [Act.put, Array.getD_eq_getD_getElem?]
  rw [Array.getElem?_setIfInBounds_ne hne]
theorem phi_keep {b : Nat → Bool} {i j d t : Nat} {v : Value} {Φ Φ' : Value → Prop} (h : b j = true → Φ (a.tmps.getD t undef)) (hij : Nat.beq i j = false) (hdt : Nat.beq d t = false) (hm : ∀ v, Φ v → Φ' v) : (b j || Nat.beq i j) = true → Φ' ((a.put (some d) v).tmps.getD t undef) := fun hb => by
  rw [hij, Bool.or_false] at hb
  rw [put_other hdt]
  exact hm _ (h hb)
theorem phi_keep0 {b : Nat → Bool} {i j t : Nat} {v : Value} {Φ Φ' : Value → Prop} (h : b j = true → Φ (a.tmps.getD t undef)) (hij : Nat.beq i j = false) (hm : ∀ v, Φ v → Φ' v) : (b j || Nat.beq i j) = true → Φ' ((a.put none v).tmps.getD t undef) := fun hb => by
  rw [hij, Bool.or_false] at hb
  exact hm _ (h hb)
theorem phi_new {b : Nat → Bool} {i d : Nat} {v : Value} {Φ : Value → Prop} (ha : Has n l a) (hd : Nat.ble (d + 1) n = true) (h : Φ v) : (b i || Nat.beq i i) = true → Φ ((a.put (some d) v).tmps.getD d undef) := fun _ => by
  rw [put_same ha hd]
  exact h
theorem Has.know {t : Nat} {v : Value} (ha : Has n l a) (h : a.tmps.getD t undef = v) : Has n ((t, v) :: l) a := ⟨ha.sz, ha.df, fun s u hu => by
  simp only [look] at hu
  by_cases hts : t = s
  · subst hts
    rw [beq_self] at hu
    simp at hu
    rw [← hu]; exact h
  · rw [beq_ne hts] at hu
    exact ha.at_ s u hu⟩
theorem At.stay {b o : Nat} {cs : List Value} {w w' : World} (h : At w b o cs) (hf : Fr w w' No) : At w' b o cs := fun j v hv => by
  have h1 := h j v hv
  have hb : b < w.heap.size := by
    rcases Nat.lt_or_ge b w.heap.size with h | h
    · exact h
    · simp [World.cell?, Array.getElem?_eq_none h] at h1
  have h2 := hf.blk b hb id
  simp only [World.cell?] at h1 ⊢
  rw [h2]
  exact h1
end
end Go.Sx
