/- Own work. A part of the proof of a law of this seat: a part -/
import Derived.Test.YtidhcbnplgbnoaaMx18
/- Appends. -/
namespace Go.Mx
set_option linter.unusedVariables false
open Go Go.RowKit Go.Sx

/-- a kind as it is in this memory, told without it -/
def ckd {α : Type} (d : Kd α) (A : Nat → Prop) (h : Array Obj) : Kd α where
  sz := d.sz
  K := fun _ _ x cs => d.K A h x cs
  len := fun h => d.len h
  one := fun h => d.one h
  step := fun h _ _ => h
  mono := fun h _ => h
section
variable {R : Type} {P : Program} {W : Nat → Prop} {S : List AO} {ρ : Nat → Geo} {w w' : World} {a : Act}
variable {d : Option Nat} {ty T' T2 : TypeId} {pos : String} {af : Array Edge} {g : Option (Nat × Bool)} {y z : Operand} {K : KV R} {r : R}
def cx0 (w : World) : Cx := ⟨No, w.heap, fun _ => ⟨none, 0, 0, 0⟩, 0⟩
theorem row_r0 (h : Rel W S ρ w) {i : Nat} {e : TypeId} {t : T} {xs : List t.den} {m : Md} (hi : S[i]? = some (.row e t xs m)) : RowR (cx0 w) (cx0 w).A (ckd t.kd (cx W S ρ w).A w.heap) (ρ i).a (ρ i).c xs := by
  obtain ⟨_, _, g3, g4, cells, he, hl⟩ := row_lies h hi
  refine ⟨g3, g4, cells, he, fun hne => ?_⟩
  obtain ⟨b, ha, hL⟩ := hl hne
  exact ⟨b, ha, fun h => h, hL⟩
/-- a slice's data, read -/
def Rd (W : Nat → Prop) (S : List AO) (ρ : Nat → Geo) (w : World) (u : Value) (t : T) (xs : List t.den) : Prop := ∃ q c, u = .slice q xs.length c ∧ Raw No (ckd t.kd (cx W S ρ w).A w.heap) w.heap q c xs
theorem sdat_ok {v d' : AV} {u : Value} (h : Rel W S ρ w) (hv : VR (cx W S ρ w) v u) (hd : sdat S v = some d') : ∃ (t : T) (xs : List t.den), d' = .dat (.sl t) xs ∧ Rd W S ρ w u t xs := by
  have raw : ∀ {t : T} {xs : List t.den} {q : Option Addr} {c : Nat}, Raw (cx W S ρ w).A t.kd w.heap q c xs → Raw No (ckd t.kd (cx W S ρ w).A w.heap) w.heap q c xs := by
    rintro t xs q c ⟨h1, h2, cells, he, hm⟩
    exact ⟨h1, h2, cells, he, fun hne => by obtain ⟨b, o, C, T, fr, e1, _, e2⟩ := hm hne; exact ⟨b, o, C, T, fr, e1, fun h => h, e2⟩⟩
  have win : ∀ {i : Nat} {e : TypeId} {t : T} {xs : List t.den} {m : Md} {o n c : Nat} {q : Option Addr}, S[i]? = some (.row e t xs m) → o + n ≤ (ρ i).n → n ≤ c → c ≤ maxLen → (n ≠ 0 → ∃ b, (ρ i).a = some ⟨b, 0, none⟩ ∧ q = some ⟨b, o * (ρ i).s, none⟩) → u = .slice q n c → Rd W S ρ w u t ((xs.drop o).take n) := by
    intro i e t xs m o n c q hi h1 h2 h3 h4 hu
    obtain ⟨g1, g2, _⟩ := row_lies h hi
    obtain ⟨k1, k2⟩ := raw_sub (row_r0 h hi) (o := o) (n := n) (c' := c) (q := q) (by omega) h2 h3 (fun hn => by
      obtain ⟨b, e1, e2⟩ := h4 hn
      exact ⟨b, e1, by rw [e2, g2, ← T.kd_sz]; rfl⟩)
    exact ⟨q, c, by rw [hu, k2], k1⟩
  have pre : ∀ {i : Nat} {e : TypeId} {t : T} {xs : List t.den} {m : Md} {n c : Nat}, S[i]? = some (.row e t xs m) → n ≤ (ρ i).n → n ≤ c → c ≤ (ρ i).c → u = .slice (ρ i).a n c → Rd W S ρ w u t (xs.take n) := by
    intro i e t xs m n c hi h1 h2 h3 hu
    obtain ⟨g1, _, _, g4, _⟩ := row_lies h hi
    have := win (o := 0) hi (by omega) h2 (by omega) (fun hn => by
      obtain ⟨b, ha⟩ := row_a h hi (by intro e; rw [e] at g1; simp at g1; omega)
      exact ⟨b, ha, by rw [Nat.zero_mul]; exact ha⟩) hu
    rwa [List.drop_zero] at this
  unfold sdat at hd
  split at hd
  · obtain rfl := Option.some.inj hd
    obtain ⟨cs, hr, e⟩ := vr_dat hv
    obtain ⟨q, c, e2, hr⟩ := hr
    exact ⟨_, _, rfl, q, c, by rw [e, e2]; rfl, raw hr⟩
  · obtain rfl := Option.some.inj hd
    obtain ⟨cs, e, hc, _⟩ := hv
    rw [CR] at hc
    obtain ⟨p, c, e2, hr⟩ := hc
    exact ⟨_, _, rfl, some p, c, by rw [e, e2]; rfl, raw hr⟩
  · obtain rfl := Option.some.inj hd
    obtain ⟨cs, e, hc, _⟩ := hv
    rw [CR] at hc
    obtain ⟨q, e2⟩ := hc
    exact ⟨_, [], rfl, q, 0, by rw [e, e2]; rfl, Raw.nil _ _ _ q 0 (Nat.zero_le _)⟩
  · split at hd
    · rename_i hi
      obtain rfl := Option.some.inj hd
      obtain ⟨cs, e, hc, _⟩ := hv
      rw [CR] at hc
      obtain ⟨g1, _, g3, _⟩ := row_lies h hi
      have := pre hi (Nat.le_refl _) (by omega) (Nat.le_refl _) (by rw [e, hc.2]; rfl)
      rw [List.take_of_length_le (by omega)] at this
      exact ⟨_, _, rfl, this⟩
    · cases hd
  · split at hd
    · rename_i hi
      obtain rfl := Option.some.inj hd
      obtain ⟨cs, e, hc, _⟩ := hv
      rw [CR] at hc
      obtain ⟨g1, _, g3, _⟩ := row_lies h hi
      have hn : _ ≤ (ρ _).n := hc.2.1
      exact ⟨_, _, rfl, pre hi hn (by omega) (Nat.le_refl _) (by rw [e, hc.2.2]; rfl)⟩
    · cases hd
  · split at hd
    · rename_i hi
      obtain rfl := Option.some.inj hd
      obtain ⟨cs, e, hc, _⟩ := hv
      rw [CR] at hc
      obtain ⟨g1, _, g3, _⟩ := row_lies h hi
      have hn : _ ≤ (ρ _).n := hc.2.1
      exact ⟨_, _, rfl, pre hi hn (Nat.le_refl _) (by omega) (by rw [e, hc.2.2]; rfl)⟩
    · cases hd
  · split at hd
    · rename_i hi
      obtain rfl := Option.some.inj hd
      obtain ⟨cs, e, hc, _⟩ := hv
      rw [CR] at hc
      obtain ⟨_, c2, q, c, c3, c4, c5, c6⟩ := hc
      exact ⟨_, _, rfl, win hi c2 c3 c4 c5 (by rw [e, c6]; rfl)⟩
    · cases hd
  · cases hd
theorem sdatY_ok {v : AV} {u : Value} {t : T} {ys : List t.den} (h : Rel W S ρ w) (hv : VR (cx W S ρ w) v u) (hd : sdatY S t v = some ys) : Rd W S ρ w u t ys := by
  unfold sdatY at hd
  split at hd
  · obtain rfl := Option.some.inj hd
    exact ⟨none, 0, vr_nils hv, Raw.nil _ _ _ none 0 (Nat.zero_le _)⟩
  · split at hd
    · rename_i d' hs
      obtain ⟨t', xs, rfl, hr⟩ := sdat_ok h hv hs
      rw [dec_dat] at hd
      split at hd
      · rename_i e
        obtain rfl : t' = t := T.sl.inj e
        obtain rfl := Option.some.inj hd
        exact hr
      · cases hd
    · cases hd
/-- an own row, told with its kind as it is -/
theorem ow_c {A B : Nat → Prop} {e : TypeId} {t : T} {p : Option Addr} {c : Nat} {xs : List t.den} (h : Ow A w e t.kd p c xs) : Ow B w e (ckd t.kd A w.heap) p c xs := by
  obtain ⟨cells, h1, h2⟩ := h
  exact ⟨cells, h1, h2⟩
theorem c_ow {A A' B : Nat → Prop} {e : TypeId} {t : T} {p : Option Addr} {c : Nat} {xs : List t.den} (h : Ow B w' e (ckd t.kd A w.heap) p c xs) (hK : ∀ x cs, t.kd.K A w.heap x cs → t.kd.K A' w'.heap x cs) : Ow A' w' e t.kd p c xs := by
  obtain ⟨cells, h1, h2⟩ := h
  exact ⟨cells, h1, h2.imp hK⟩
theorem ex_one {p : Option Addr} (hlt : ∀ q, p = some q → q.block < w.heap.size) : Ex w (Av [p] No) [p] w :=
  ⟨Fr.refl _ _, List.pairwise_singleton _ _, fun q hq => hlt q (List.mem_singleton.1 hq).symm, fun q hq => .inr (.inr ⟨q, hq, rfl⟩)⟩
/-- a row of one's own becomes another one -/
theorem Aft.grow (h : Rel W S ρ w) {i : Nat} {e : TypeId} {t : T} {xs zs : List t.den} (hi : S[i]? = some (.row e t xs .own)) {p' : Option Addr} {c' : Nat} (hf : Fr w w' (fun k => ∃ s, (ρ i).a = some s ∧ s.block = k)) (hs : Sx.Step [(ρ i).a] [p'] w w')
    (ho : Ow (Av [p'] No) w' e (ckd t.kd (cx W S ρ w).A w.heap) p' c' zs) : Aft W S ρ w (S.set i .gone ++ [.row e t zs .own]) (upd ρ S.length ⟨p', zs.length, c', t.sz⟩) w' := by
  refine Aft.move h hi rfl hf (fun _ p hp => ?_) (fun le => ⟨rfl, rfl, c_ow ho (fun x cs hK => le.K (x := cx W S ρ w) hK)⟩)
  rcases hs.new p (by simp [← hp]) with ⟨q, hq, hb⟩ | h1
  · exact .inl ⟨q, (List.mem_singleton.1 hq).symm, hb⟩
  · exact .inr h1
theorem view_vr' {i : Nat} {o : AO} {p : Option Addr} {n c s : Nat} : VR (cx W (S.set i .gone ++ [o]) (upd ρ S.length ⟨p, n, c, s⟩) w') (.view S.length) (.slice p n c) :=
  ⟨[.slice p n c], rfl, by rw [CR]; exact ⟨by show S.length < (S.set i .gone ++ [o]).length; simp, by show _ = [Value.slice (upd ρ S.length _ S.length).a _ _]; rw [upd_same]; show _ = [Value.slice p (upd ρ S.length ⟨p, n, c, s⟩ S.length).n (upd ρ S.length ⟨p, n, c, s⟩ S.length).c]; rw [upd_same]⟩, rfl⟩
theorem Ow.pre {A : Nat → Prop} {e : TypeId} {t : T} {p : Option Addr} {c n : Nat} {xs : List t.den} (h : Ow A w e t.kd p c xs) (hn : n ≤ xs.length) : Ow A w e t.kd p c (xs.take n) := by
  by_cases hx : xs = []
  · subst hx
    rw [List.take_nil]
    exact h
  · obtain ⟨b, cur, e1, hb, h1, h2, h3, h4⟩ := own_bx h hx
    rw [e1]
    have hl : (xs.take n).length = n := by rw [List.length_take]; omega
    refine bx_own hb (by omega) h2 h3 ?_
    have := h4.take (fun _ _ h => t.kd.len h) n
    rw [hl]
    rw [List.take_take, Nat.min_eq_left (Nat.mul_le_mul_right _ hn)] at this
    exact this
/-- a slice without room, and something put behind: a new row -/
theorem append_new {p q : Option Addr} {n cq : Nat} {α : Type} {kd : Kd α} {e : TypeId} {i : TypeInfo} {zv : Value} {xs ys : List α} (hT : P.underlying T' = some (.slice e)) (h1 : P.info? e = some i) (h2 : i.zero = some zv) (h3 : i.size = kd.sz) (h5 : 0 < kd.sz) (h4 : 0 < i.bytes) (h7 : zv.cells.size = kd.sz)
    (hx : Raw No kd w.heap p n xs) (hn : xs.length = n) (hy : Raw No kd w.heap q cq ys) (hys : ys ≠ []) (hl : (n + ys.length) * i.bytes ≤ 140737488355328) :
    ∃ c' w', (Builtin.append_ #[T', T'] ty #[.slice p n n, .slice q ys.length cq]).run P w = .ok (.slice (some ⟨w.heap.size, 0, none⟩) (xs ++ ys).length c') w' ∧ Fr w w' No ∧ ∀ (hK : ∀ x cs, kd.K No w.heap x cs → kd.K No w'.heap x cs), Ow No w' e kd (some ⟨w.heap.size, 0, none⟩) c' (xs ++ ys) := by
  obtain ⟨_, _, olds, he, hm⟩ := hx
  obtain ⟨_, _, news, hne, hm2⟩ := hy
  obtain ⟨b2, o2, C2, T2, f2, rfl, _, hb2, hc2⟩ := hm2 hys
  have ho : olds.length = n * i.size := by rw [he.length (fun _ _ h => kd.len h), hn, h3]
  have hnl : news.length = ys.length * i.size := by rw [hne.length (fun _ _ h => kd.len h), h3]
  have hyl : 0 < ys.length := List.length_pos_iff.2 hys
  have hnews : ∀ j u, news[j]? = some u → w.cell? ((⟨b2, o2, none⟩ : Addr).add j) = some u := fun j u hu => by rw [add_at, cell_of_row w b2 _ C2 T2 f2 hb2]; exact hc2 j u hu
  have hsum : n + ys.length ≤ 140737488355328 := Nat.le_trans (Nat.le_mul_of_pos_right _ h4) hl
  have hml : n + ys.length ≤ maxLen := by simp only [maxLen]; omega
  have hge := grownCap_ge w (n + ys.length) n e
  have hcm := grownCap_le_maxLen w (n + ys.length) n e hml
  have hxl : (xs ++ ys).length = n + ys.length := by rw [List.length_append, hn]
  have run : (Builtin.append_ #[T', T'] ty #[.slice p n n, .slice (some ⟨b2, o2, none⟩) ys.length cq]).run P w = .ok (.slice (some ⟨w.heap.size, 0, none⟩) (n + ys.length) (grownCap w (n + ys.length) n e)) (w.drew.alloc (.cells (olds.toArray ++ news.toArray ++ Builtin.zeroCells zv.cells (grownCap w (n + ys.length) n e - (n + ys.length))) e)) := by
    cases p with
    | some b =>
      refine run_append_grow (P := P) w T' ty e i zv hT h1 h2 b n n olds ho (fun j v hj => ?_) ⟨b2, o2, none⟩ ys.length cq news hnl hnews (by omega) (by omega) (growslice_fits (by omega) hl)
      obtain ⟨b', o', C, TT, fr, e1, _, hb, hc⟩ := hm (by
        intro e0
        subst e0
        cases he
        simp at hj)
      obtain rfl := Option.some.inj e1
      rw [add_at, cell_of_row w b' _ C TT fr hb]
      exact hc j v hj
    | none =>
      have hx0 : xs = [] := Classical.byContradiction fun hne => by
        obtain ⟨b', o', C, TT, fr, e1, _⟩ := hm hne
        cases e1
      subst hx0
      have hn0 : n = 0 := hn.symm
      subst hn0
      cases he
      have := run_append_nil (P := P) w T' ty e i zv hT h1 h2 ⟨b2, o2, none⟩ ys.length cq news hnl hnews hyl (by omega) (by rw [Nat.zero_add] at hl; omega)
      simpa using this
  refine ⟨grownCap w (n + ys.length) n e, w.drew.alloc (.cells (olds.toArray ++ news.toArray ++ Builtin.zeroCells zv.cells (grownCap w (n + ys.length) n e - (n + ys.length))) e), by rw [hxl]; exact run, ⟨rfl, rfl, rfl, by simp, fun k hk _ => heap_alloc_old w.drew _ hk⟩, fun hK => ⟨olds ++ news, ⟨?_, .inr ⟨w.heap.size, _, _, by rw [hxl], Nat.zero_le _, heap_alloc_new w.drew _, by rw [hxl]; exact hge, hcm, ?_, ?_⟩⟩, (he.imp hK).append (hne.imp hK)⟩⟩
  · rw [List.length_append, ho, hnl, hxl, ← Nat.add_mul, h3]
  · simp only [Array.size_append, List.size_toArray, size_zeroCells, h7, ho, hnl, h3, ← Nat.add_mul]
    congr 1
    omega
  · simp only [Array.toList_append, List.append_assoc]
    rw [← List.append_assoc]
    have : (xs ++ ys).length * kd.sz = (olds ++ news).length := by rw [hxl, List.length_append (as := olds), ho, hnl, ← Nat.add_mul, h3]
    rw [this]
    exact List.take_left
/-- nothing is put behind -/
theorem append_none {p q : Option Addr} {n c cq : Nat} {e : TypeId} {i : TypeInfo} (hT : P.underlying T' = some (.slice e)) (h1 : P.info? e = some i) (hc : n ≤ c) :
    (Builtin.append_ #[T', T'] ty #[.slice p n c, .slice q 0 cq]).run P w = .ok (.slice p n c) w := by
  have hf : (Builtin.firstCells i.size 0 (.slice q 0 cq)).run P w = .ok #[] w := by
    cases q with
    | none => simp [Builtin.firstCells]
    | some b =>
      have := run_loadCells_list (P := P) w b [] (fun j v hv => by simp at hv)
      simpa [Builtin.firstCells] using this
  cases p with
  | none => simp [Builtin.append_, run_underlying hT, sizeOf, typeInfo, h1, Builtin.lenOf, hc, hf]
  | some b => simp [Builtin.append_, run_underlying hT, sizeOf, typeInfo, h1, Builtin.lenOf, hc, hf, storeCells]
theorem append_does {s x v : Value} (hr : (Builtin.append_ #[T', T2] ty #[s, x]).run P w = .ok v w') (e1 : a.eval y = s) (e2 : a.eval z = x) : Does P ⟨d, .call { callee := .builtin .append, args := #[y, z], argTypes := #[T', T2] }, ty, pos, af, g⟩ a w (Is v w') :=
  Does.val (by simp [execOp, e1, e2, resolve, invoke, builtin, hr])
theorem append_ok {u v : AV} (h : Rel W S ρ w) (hd : a.defers = []) (hy : VR (cx W S ρ w) u (a.eval y)) (hz : VR (cx W S ρ w) v (a.eval z)) {e : TypeId} (he : elemOf P T' = some e) (hK : appendA P e u v S K = some r) :
    Comes P W S ρ w ⟨d, .call { callee := .builtin .append, args := #[y, z], argTypes := #[T', T'] }, ty, pos, af, g⟩ a K r := by
  have hy0 := hy
  have ha := bnd_has (a := a) (Op1 y + Op1 z) hd
  have ey : Sx.ev (bnd a (Op1 y + Op1 z)) y = some (a.eval y) := bnd_ev (by omega)
  have ez : Sx.ev (bnd a (Op1 y + Op1 z)) z = some (a.eval z) := bnd_ev (by omega)
  unfold appendA at hK
  obtain ⟨t, zx, i, zv, hK, h1, h2, h3, h4, h5, h6, h7, h8, h9⟩ := elK_ok hK
  split at hK
  · rename_i ys hys
    obtain ⟨q, cq, eq, hr⟩ := sdatY_ok h hz hys
    have hinf : (P.info? e).map (fun i => (i.zero, i.size, i.bytes)) = some (some zv, (ckd t.kd (cx W S ρ w).A w.heap).sz, i.bytes) := by rw [h1]; simp only [Option.map_some, h2, h3]; rfl
    -- a row of one's own, or none, and what is put behind
    have main : ∀ {p : Option Addr} {c : Nat} {xs : List t.den}, a.eval y = .slice p xs.length c → Ow (Av [p] No) w e (ckd t.kd (cx W S ρ w).A w.heap) p c xs → (xs.length + ys.length) * P.bytesOf e ≤ limit →
        Does P ⟨d, .call { callee := .builtin .append, args := #[y, z], argTypes := #[T', T'] }, ty, pos, af, g⟩ a w (fun v w' => ∃ p' c', v = .slice p' (xs ++ ys).length c' ∧ Sx.Step [p] [p'] w w' ∧ Fr w w' (fun k => ∃ s, p = some s ∧ s.block = k) ∧ Ow (Av [p'] No) w' e (ckd t.kd (cx W S ρ w).A w.heap) p' c' (xs ++ ys)) := by
      intro p c xs e1 ho hl
      rw [h9] at hl
      exact (d_append (fun q => [q]) (lf := []) (rt := []) (B := No) (B2 := No) (fun _ => rfl) ha (elemOf_ok he) hinf h7 h5 h4 (by rw [ey, e1]) (by rw [ez, eq]) (ex_one ho.lt) ho hr (fun _ _ h => h) hl).mono (fun v w' ⟨p', c', k1, k2, _, k3, k4⟩ => ⟨p', c', k1, k2, k3, k4⟩)
    split at hK
    · obtain ⟨hl, hK⟩ := ck_elim hK
      have e1 := vr_nils hy
      refine (main (p := none) (c := 0) (xs := []) e1 (ow_c (A := (cx W S ρ w).A) (Ow.nil _ _ _ _)) (by simpa using hl)).mono ?_
      rintro u' w' ⟨p', c', k1, k2, k3, k4⟩
      rw [List.nil_append] at k1 k4
      have hf : Fr w w' No := k3.mono (fun k _ ⟨s, hs, _⟩ => by cases hs)
      refine ⟨_, _, _, hK, Aft.push h hf (g := ⟨p', ys.length, c', t.sz⟩) (fun _ p hp => ?_) (fun le => ⟨rfl, rfl, c_ow k4 (fun x cs hK => le.K (x := cx W S ρ w) hK)⟩), by rw [k1]; exact view_vr⟩
      rcases k2.new p (by simp [← hp]) with ⟨q', hq', _⟩ | h1
      · cases List.mem_singleton.1 hq'
      · exact h1
    · rename_i j _
      obtain ⟨cs, e1, hc, _⟩ := hy
      rw [CR] at hc
      cases hj : v.ids.contains j with
      | true => rw [hj] at hK; cases hK
      | false =>
        rw [hj, cond_false] at hK
        split at hK
        · rename_i e' t' xs hi
          split at hK
          · rename_i ht
            subst ht
            cases hee : Nat.beq e' e with
            | false => rw [hee] at hK; cases hK
            | true =>
              rw [hee, cond_true] at hK
              have hee := Nat.eq_of_beq_eq_true hee
              subst hee
              obtain ⟨hl, hK⟩ := ck_elim hK
              obtain ⟨g1, g2, g3⟩ := h.ob j _ hi
              rw [hc.2] at e1
              have e1 : a.eval y = .slice (ρ j).a xs.length (ρ j).c := by rw [← g1]; exact e1
              refine (main e1 (ow_c g3) hl).mono ?_
              rintro u' w' ⟨p', c', k1, k2, k3, k4⟩
              exact ⟨_, _, _, hK, Aft.grow h hi k3 k2 k4, by rw [k1]; rw [show (S.set j AO.gone).length = S.length by simp]; exact view_vr'⟩
          · cases hK
        · cases hK
    · rename_i j n _
      obtain ⟨cs, e1, hc, _⟩ := hy
      rw [CR] at hc
      cases hj : v.ids.contains j with
      | true => rw [hj] at hK; cases hK
      | false =>
        rw [hj, cond_false] at hK
        split at hK
        · rename_i e' t' xs hi
          split at hK
          · rename_i ht
            subst ht
            cases hee : Nat.beq e' e with
            | false => rw [hee] at hK; cases hK
            | true =>
              rw [hee, cond_true] at hK
              have hee := Nat.eq_of_beq_eq_true hee
              subst hee
              obtain ⟨hl, hK⟩ := ck_elim hK
              obtain ⟨g1, g2, g3⟩ := h.ob j _ hi
              obtain ⟨c1, c2, c3⟩ := hc
              have c2 : n ≤ (ρ j).n := c2
              rw [c3] at e1
              have hln : (xs.take n).length = n := by rw [List.length_take]; omega
              have e1 : a.eval y = .slice (ρ j).a (xs.take n).length (ρ j).c := by rw [hln]; exact e1
              refine (main e1 (ow_c (Ow.pre g3 (by omega))) (by rw [hln]; exact hl)).mono ?_
              rintro u' w' ⟨p', c', k1, k2, k3, k4⟩
              exact ⟨_, _, _, hK, Aft.grow h hi k3 k2 k4, by rw [k1]; rw [show (S.set j AO.gone).length = S.length by simp]; exact view_vr'⟩
          · cases hK
        · cases hK
    · rename_i j n _
      obtain ⟨cs, e1, hc, _⟩ := hy
      rw [CR] at hc
      split at hK
      · rename_i e' t' xs m z0 zs hi
        split at hK
        · rename_i ht
          subst ht
          cases hee : Nat.beq e' e with
          | false => rw [hee] at hK; cases hK
          | true =>
            rw [hee, cond_true] at hK
            have hee := Nat.eq_of_beq_eq_true hee
            subst hee
            obtain ⟨hl, hK⟩ := ck_elim hK
            obtain ⟨g1, g2, g3, g4, _⟩ := row_lies h hi
            obtain ⟨c1, c2, c3⟩ := hc
            have c2 : n ≤ (ρ j).n := c2
            rw [c3] at e1
            have e1 : a.eval y = .slice (ρ j).a n n := e1
            have hln : (xs.take n).length = n := by rw [List.length_take]; omega
            have hx : Raw No (ckd t'.kd (cx W S ρ w).A w.heap) w.heap (ρ j).a n (xs.take n) := by
              have := (raw_sub (row_r0 h hi) (o := 0) (n := n) (c' := n) (q := (ρ j).a) (by omega) (Nat.le_refl _) (by omega) (fun hn => by
                obtain ⟨b, ha⟩ := row_a h hi (by intro e; rw [e] at g1; simp at g1; omega)
                exact ⟨b, ha, by rw [Nat.zero_mul]; exact ha⟩)).1
              rwa [List.drop_zero] at this
            rw [h9] at hl
            obtain ⟨c', w', k1, k2, k3⟩ := append_new (ty := ty) (kd := ckd t'.kd (cx W S ρ w).A w.heap) (elemOf_ok he) h1 h2 h3 h5 h4 h7 hx hln hr (by simp) hl
            refine (append_does k1 e1 eq).mono ?_
            rintro u' w'' ⟨eu, ew⟩
            subst ew
            have ko := k3 (fun _ _ h => h)
            refine ⟨_, _, _, hK, Aft.push h k2 (g := ⟨some ⟨w.heap.size, 0, none⟩, (xs.take n ++ (z0 :: zs)).length, c', t'.sz⟩) (fun _ p hp => ?_) (fun le => ⟨rfl, rfl, c_ow ko (fun x cs hK => le.K (x := cx W S ρ w) hK)⟩), by rw [eu]; exact view_vr⟩
            obtain rfl := Option.some.inj hp
            exact Nat.le_refl _
        · cases hK
      · obtain ⟨c1, c2, c3⟩ := hc
        rw [c3] at e1
        have e1 : a.eval y = .slice (ρ j).a n n := e1
        exact Comes.is h (append_does (append_none (elemOf_ok he) h1 (Nat.le_refl _)) e1 eq) hK (by rw [← e1]; exact hy0)
      · cases hK
    · rename_i t' _
      obtain ⟨cs, e1, hc, _⟩ := hy
      rw [CR] at hc
      obtain ⟨q', c3⟩ := hc
      rw [c3] at e1
      have e1 : a.eval y = .slice q' 0 0 := e1
      split at hK
      · exact Comes.is h (append_does (append_none (elemOf_ok he) h1 (Nat.le_refl _)) e1 eq) hK (by rw [← e1]; exact hy0)
      · rename_i z0 zs
        obtain ⟨hl, hK⟩ := ck_elim hK
        rw [h9] at hl
        obtain ⟨c', w', k1, k2, k3⟩ := append_new (ty := ty) (kd := ckd t.kd (cx W S ρ w).A w.heap) (xs := []) (n := 0) (p := q') (elemOf_ok he) h1 h2 h3 h5 h4 h7 ⟨Nat.le_refl _, Nat.zero_le _, [], .nil, fun h => absurd rfl h⟩ rfl hr (by simp) (by rw [Nat.zero_add]; exact hl)
        refine (append_does k1 e1 eq).mono ?_
        rintro u' w'' ⟨eu, ew⟩
        subst ew
        have ko := k3 (fun _ _ h => h)
        refine ⟨_, _, _, hK, Aft.push h k2 (g := ⟨some ⟨w.heap.size, 0, none⟩, (z0 :: zs).length, c', t.sz⟩) (fun _ p hp => ?_) (fun le => ⟨rfl, rfl, c_ow ko (fun x cs hK => le.K (x := cx W S ρ w) hK)⟩), by rw [eu]; exact view_vr⟩
        obtain rfl := Option.some.inj hp
        exact Nat.le_refl _
    · cases hK
  · cases hK
end
end Go.Mx
