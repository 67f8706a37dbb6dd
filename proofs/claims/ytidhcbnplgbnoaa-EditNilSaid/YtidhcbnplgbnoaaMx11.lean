/- Own work. A part of the proof of a law of this seat: a part -/
import Derived.Test.YtidhcbnplgbnoaaMx10
/- What is one's own is told as data: it is written no more. A slice's elements, written. -/
namespace Go.Mx
open Go Go.RowKit Go.Sx

section
variable {x : Cx}
theorem raw_sub {α : Type} {kd : Kd α} {a q : Option Addr} {c c' : Nat} {xs : List α} {o n : Nat} (r : RowR x x.A kd a c xs) (hn : o + n ≤ xs.length) (h1 : n ≤ c') (h2 : c' ≤ maxLen)
    (hq : n ≠ 0 → ∃ b, a = some ⟨b, 0, none⟩ ∧ q = some ⟨b, o * kd.sz, none⟩) : Raw x.A kd x.h q c' ((xs.drop o).take n) ∧ ((xs.drop o).take n).length = n := by
  have hl : ((xs.drop o).take n).length = n := by rw [List.length_take, List.length_drop]; omega
  refine ⟨?_, hl⟩
  obtain ⟨_, _, cells, he, hm⟩ := r
  refine ⟨by omega, h2, (cells.drop (o * kd.sz)).take (n * kd.sz), (he.drop (fun _ _ h => kd.len h) o).take (fun _ _ h => kd.len h) n, fun hne => ?_⟩
  have hn0 : n ≠ 0 := by intro e; subst e; rw [List.take_zero] at hne; exact hne rfl
  obtain ⟨b, ha, hb⟩ := hq hn0
  obtain ⟨b', ha', hA, C, T, fr, hg, hc⟩ := hm (by intro e; rw [e] at hl; simp at hl; omega)
  rw [ha] at ha'
  have := congrArg Addr.block (Option.some.inj ha')
  simp only at this
  subst this
  refine ⟨b, _, C, T, fr, hb, hA, hg, fun j v hj => ?_⟩
  have hlt := (List.getElem?_eq_some_iff.1 hj).1
  rw [List.length_take] at hlt
  rw [List.getElem?_take, if_pos (by omega), List.getElem?_drop] at hj
  have := hc _ _ hj
  rwa [Nat.zero_add] at this
end
section
variable {W : Nat → Prop} {S S' : List AO} {ρ : Nat → Geo} {w : World}
/-- One's own row is written no more. -/
theorem Aft.freeze (h : Rel W S ρ w) {i : Nat} {e : TypeId} {t : T} {xs : List t.den} (hi : S[i]? = some (.row e t xs .own)) : Aft W S ρ w (S.set i (.row e t xs .fz)) ρ w := by
  refine Aft.put h hi (Fr.refl _ _) (fun h => by cases h) (fun le => ?_)
  obtain ⟨h1, h2, h3, h4, cells, he, hl⟩ := row_lies h hi
  refine ⟨h1, h2, h3, h4, cells, he.imp (fun _ _ hK => le.K (x := cx W S ρ w) hK), fun hne => ?_⟩
  obtain ⟨b, ha, hL⟩ := hl hne
  refine ⟨b, ha, ?_, hL⟩
  rintro (hW | ⟨j, o, p, hj, ho, haj, hbj⟩)
  · exact h.wd b ⟨i, _, _, hi, rfl, ha, rfl⟩ hW
  · rcases set_get hj with ⟨hne', hj⟩ | ⟨_, rfl, _⟩
    · exact h.dj j i o _ p _ hne' hj hi ho rfl haj ha hbj
    · cases ho
/-- the data of a frozen row's piece -/
theorem fz_dat (h : Rel W S ρ w) {i : Nat} {e : TypeId} {t : T} {xs : List t.den} (hi : S[i]? = some (.row e t xs .fz)) {o n c' : Nat} {q : Option Addr} (hn : o + n ≤ (ρ i).n) (h1 : n ≤ c') (h2 : c' ≤ maxLen)
    (hq : n ≠ 0 → ∃ b, (ρ i).a = some ⟨b, 0, none⟩ ∧ q = some ⟨b, o * (ρ i).s, none⟩) : CR (cx W S ρ w) (.dat (.sl t) ((xs.drop o).take n)) [.slice q n c'] := by
  obtain ⟨g1, g2, r⟩ := h.ob i _ hi
  obtain ⟨k1, k2⟩ := raw_sub (x := cx W S ρ w) r (o := o) (n := n) (c' := c') (q := q) (by omega) h1 h2 (fun hn0 => by
    obtain ⟨b, e1, e2⟩ := hq hn0
    exact ⟨b, e1, by rw [e2, g2, T.kd_sz]⟩)
  refine (cr_dat (t := .sl t)).2 ⟨q, c', ?_, k1⟩
  show [Value.slice q n c'] = [Value.slice q ((xs.drop o).take n).length c']
  rw [k2]
theorem row_a (h : Rel W S ρ w) {i : Nat} {e : TypeId} {t : T} {xs : List t.den} {m : Md} (hi : S[i]? = some (.row e t xs m)) (hn : xs ≠ []) : ∃ b, (ρ i).a = some ⟨b, 0, none⟩ := by
  obtain ⟨_, _, _, _, _, _, hl⟩ := row_lies h hi
  obtain ⟨b, ha, _⟩ := hl hn
  exact ⟨b, ha⟩
theorem sl_all (h : Rel W S ρ w) {i : Nat} {e : TypeId} {t : T} {xs : List t.den} (hi : S[i]? = some (.row e t xs .fz)) {cs : List Value} (hc : CR (cx W S ρ w) (.view i) cs) : CR (cx W S ρ w) (.dat (.sl t) xs) cs := by
  rw [CR] at hc
  rw [hc.2]
  obtain ⟨g1, g2, g3, g4, _⟩ := row_lies h hi
  have := fz_dat h hi (o := 0) (n := xs.length) (c' := (ρ i).c) (q := (ρ i).a) (by omega) g3 g4 (fun hn => by
    obtain ⟨b, ha⟩ := row_a h hi (by intro e; rw [e] at hn; exact hn rfl)
    exact ⟨b, ha, by rw [Nat.zero_mul]; exact ha⟩)
  rw [List.drop_zero, List.take_length] at this
  show CR _ _ [.slice (ρ i).a (ρ i).n (ρ i).c]
  rw [g1]
  exact this
theorem sl_pre (h : Rel W S ρ w) {i n : Nat} {e : TypeId} {t : T} {xs : List t.den} (hi : S[i]? = some (.row e t xs .fz)) {cs : List Value} (hc : CR (cx W S ρ w) (.pre i n) cs) : CR (cx W S ρ w) (.dat (.sl t) (xs.take n)) cs := by
  rw [CR] at hc
  obtain ⟨_, hn, e⟩ := hc
  rw [e]
  obtain ⟨g1, g2, g3, g4, _⟩ := row_lies h hi
  have hn : n ≤ (ρ i).n := hn
  have := fz_dat h hi (o := 0) (n := n) (c' := (ρ i).c) (q := (ρ i).a) (by omega) (by omega) g4 (fun hn0 => by
    obtain ⟨b, ha⟩ := row_a h hi (by intro e; rw [e] at g1; simp at g1; omega)
    exact ⟨b, ha, by rw [Nat.zero_mul]; exact ha⟩)
  rw [List.drop_zero] at this
  exact this
theorem sl_tgt (h : Rel W S ρ w) {i n : Nat} {e : TypeId} {t : T} {xs : List t.den} (hi : S[i]? = some (.row e t xs .fz)) {cs : List Value} (hc : CR (cx W S ρ w) (.tgt i n) cs) : CR (cx W S ρ w) (.dat (.sl t) (xs.take n)) cs := by
  rw [CR] at hc
  obtain ⟨_, hn, e⟩ := hc
  rw [e]
  obtain ⟨g1, g2, g3, g4, _⟩ := row_lies h hi
  have hn : n ≤ (ρ i).n := hn
  have := fz_dat h hi (o := 0) (n := n) (c' := n) (q := (ρ i).a) (by omega) (Nat.le_refl _) (by omega) (fun hn0 => by
    obtain ⟨b, ha⟩ := row_a h hi (by intro e; rw [e] at g1; simp at g1; omega)
    exact ⟨b, ha, by rw [Nat.zero_mul]; exact ha⟩)
  rw [List.drop_zero] at this
  exact this
theorem sl_win (h : Rel W S ρ w) {i o n : Nat} {e : TypeId} {t : T} {xs : List t.den} (hi : S[i]? = some (.row e t xs .fz)) {cs : List Value} (hc : CR (cx W S ρ w) (.win i o n) cs) : CR (cx W S ρ w) (.dat (.sl t) ((xs.drop o).take n)) cs := by
  rw [CR] at hc
  obtain ⟨_, hn, q, c, h1, h2, h3, e⟩ := hc
  rw [e]
  exact fz_dat h hi hn h1 h2 h3
theorem frz_ok (h : Rel W S ρ w) {v v' : AV} {cs : List Value} (hf : frz S v = (v', S')) (hc : CR (cx W S ρ w) v cs) : Aft W S ρ w S' ρ w ∧ CR (cx W S' ρ w) v' cs ∧ ∀ j, j ∉ v.ids → S'[j]? = S[j]? := by
  have same : (v, S) = (v', S') → Aft W S ρ w S' ρ w ∧ CR (cx W S' ρ w) v' cs ∧ ∀ j, j ∉ v.ids → S'[j]? = S[j]? := by
    intro e
    obtain ⟨rfl, rfl⟩ := Prod.mk.inj e
    exact ⟨Aft.refl h, hc, fun _ _ => rfl⟩
  have turn : ∀ {i : Nat} {e : TypeId} {t : T} {xs : List t.den} {u : AV}, S[i]? = some (.row e t xs .own) → v.ids = [i] → (u, S.set i (.row e t xs .fz)) = (v', S') → (∀ S1, Rel W S1 ρ w → S1[i]? = some (.row e t xs .fz) → CR (cx W S1 ρ w) v cs → CR (cx W S1 ρ w) u cs) → Aft W S ρ w S' ρ w ∧ CR (cx W S' ρ w) v' cs ∧ ∀ j, j ∉ v.ids → S'[j]? = S[j]? := by
    intro i e t xs u hi hids he hu
    obtain ⟨rfl, rfl⟩ := Prod.mk.inj he
    have ht := Aft.freeze h hi
    refine ⟨ht, hu _ ht.rel (List.getElem?_set_self (List.getElem?_eq_some_iff.1 hi).1) (hc.up ht.le), fun j hj => ?_⟩
    rw [hids] at hj
    rw [List.getElem?_set_ne (fun e => hj (by simp [e]))]
  have told : ∀ {u : AV}, (u, S) = (v', S') → CR (cx W S ρ w) u cs → Aft W S ρ w S' ρ w ∧ CR (cx W S' ρ w) v' cs ∧ ∀ j, j ∉ v.ids → S'[j]? = S[j]? := by
    intro u he hu
    obtain ⟨rfl, rfl⟩ := Prod.mk.inj he
    exact ⟨Aft.refl h, hu, fun _ _ => rfl⟩
  unfold frz at hf
  split at hf
  · split at hf
    · rename_i hi; exact turn hi (by rw [AV.ids]) hf (fun S1 h1 h2 h3 => sl_all h1 h2 h3)
    · rename_i hi; exact told hf (sl_all h hi hc)
    · exact same hf
  · split at hf
    · rename_i hi; exact turn hi (by rw [AV.ids]) hf (fun S1 h1 h2 h3 => sl_pre h1 h2 h3)
    · rename_i hi; exact told hf (sl_pre h hi hc)
    · exact same hf
  · split at hf
    · rename_i hi; exact turn hi (by rw [AV.ids]) hf (fun S1 h1 h2 h3 => sl_tgt h1 h2 h3)
    · rename_i hi; exact told hf (sl_tgt h hi hc)
    · exact same hf
  · split at hf
    · rename_i hi; exact turn hi (by rw [AV.ids]) hf (fun S1 h1 h2 h3 => sl_win h1 h2 h3)
    · rename_i hi; exact told hf (sl_win h hi hc)
    · exact same hf
  · exact same hf
  · exact same hf
end
end Go.Mx
