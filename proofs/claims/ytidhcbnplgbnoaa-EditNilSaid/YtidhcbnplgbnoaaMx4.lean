/- Own work. A part of the proof of a law of this seat: a part -/
import Derived.Test.YtidhcbnplgbnoaaMx2
/- What the abstract machine's values and objects are in memory. -/
namespace Go.Mx
open Go Go.RowKit Go.Sx

def Kd.unit : Kd Unit where
  sz := 0
  K := fun _ _ _ cs => cs = []
  len := fun h => by rw [h]; rfl
  one := fun h u hu => by rw [h] at hu; cases hu
  step := fun h _ _ => h
  mono := fun h _ => h
def T.kd : (t : T) → Kd t.den
  | .int k => Kd.int k
  | .bool => Kd.bool
  | .str => Kd.str
  | .unit => Kd.unit
  | .flt => Kd.scalar (Value.float .f64) (fun _ => rfl)
  | .cpx => Kd.scalar (fun x : Nat × Nat => Value.complex .f64 x.1 x.2) (fun _ => rfl)
  | .fn => Kd.scalar (fun f : Nat => Value.func (.func f) #[] #[]) (fun _ => rfl)
  | .one t => t.kd
  | .pair a b => Kd.pair a.kd b.kd
  | .arr n t => Kd.arr n t.kd
  | .sl t => Kd.sl t.kd
theorem T.kd_sz : (t : T) → t.kd.sz = t.sz
  | .int _ | .bool | .str | .unit | .flt | .cpx | .fn | .sl _ => rfl
  | .one t => T.kd_sz t
  | .pair a b => by show a.kd.sz + b.kd.sz = a.sz + b.sz; rw [T.kd_sz a, T.kd_sz b]
  | .arr n t => by show n * t.kd.sz = n * t.sz; rw [T.kd_sz t]

/-- where an object lies: its address, how long it is, how much room there is, how great an element is -/
structure Geo where
  a : Option Addr
  n : Nat
  c : Nat
  s : Nat
/-- what may be written (or is guarded), the memory, where the objects lie, how many there are -/
structure Cx where
  A : Nat → Prop
  h : Array Obj
  g : Nat → Geo
  m : Nat
theorem offs_append : ∀ (p q : List Step), offs (p ++ q) = offs p + offs q
  | [], q => (Nat.zero_add _).symm
  | .fst :: p, q => offs_append p q
  | .snd k :: p, q => by show k + offs (p ++ q) = k + offs p + offs q; rw [offs_append p q, Nat.add_assoc]
  | .one :: p, q => offs_append p q
  | .idx i s :: p, q => by show i * s + offs (p ++ q) = i * s + offs p + offs q; rw [offs_append p q, Nat.add_assoc]
def form (g : Bool) (cs : List Value) : Value := if g then .agg cs.toArray else cs.headD undef
/-- These cells lie there. -/
def Lies (h : Array Obj) (b o : Nat) (cs : List Value) : Prop := ∃ C T fr, h[b]? = some (.cells C T fr) ∧ ∀ j v, cs[j]? = some v → C[o + j]? = some v

mutual
def CR (x : Cx) : AV → List Value → Prop
  | .dat t d, cs => t.kd.K x.A x.h d cs
  | .pr a b, cs => ∃ c1 c2, cs = c1 ++ c2 ∧ CR x a c1 ∧ CR x b c2
  | .one a, cs => CR x a cs
  | .ptr i p, cs => i < x.m ∧ ∃ b, (x.g i).a = some ⟨b, 0, none⟩ ∧ cs = [.pointer (some ⟨b, offs p, none⟩)]
  | .nilp, cs => cs = [.pointer none]
  | .rdp t d, cs => ∃ b o c, cs = [.pointer (some ⟨b, o, none⟩)] ∧ ¬ x.A b ∧ Lies x.h b o c ∧ t.kd.K x.A x.h d c
  | .view i, cs => i < x.m ∧ cs = [.slice (x.g i).a (x.g i).n (x.g i).c]
  | .pre i n, cs => i < x.m ∧ n ≤ (x.g i).n ∧ cs = [.slice (x.g i).a n (x.g i).c]
  | .tgt i n, cs => i < x.m ∧ n ≤ (x.g i).n ∧ cs = [.slice (x.g i).a n n]
  | .win i o n, cs => i < x.m ∧ o + n ≤ (x.g i).n ∧ ∃ q c, n ≤ c ∧ c ≤ maxLen ∧ (n ≠ 0 → ∃ b, (x.g i).a = some ⟨b, 0, none⟩ ∧ q = some ⟨b, o * (x.g i).s, none⟩) ∧ cs = [.slice q n c]
  | .nils, cs => cs = [.slice none 0 0]
  | .cut _, cs => ∃ q, cs = [.slice q 0 0]
  | .sln t d, cs => ∃ p c, cs = [.slice (some p) d.length c] ∧ Raw x.A t.kd x.h (some p) c d
  | .mp i, cs => i < x.m ∧ ∃ b, (x.g i).a = some ⟨b, 0, none⟩ ∧ cs = [.map (some b)]
  | .nilm, cs => cs = [.map none]
  | .fn f fs ks, cs => ∃ l m, cs = [.func (.func f) l.toArray m.toArray] ∧ VRs x fs l ∧ VRs x ks m
  | .nilf, cs => cs = [.nilFunc]
  | .iface t v, cs => ∃ c, cs = [.iface t (form v.isAgg c)] ∧ CR x v c ∧ c.length = v.sz
  | .nilI, cs => cs = [.nilIface]
  | .tup _, _ => False
  | .undef, _ => False
def VRs (x : Cx) : List AV → List Value → Prop
  | [], l => l = []
  | v :: r, l => ∃ c l', l = form v.isAgg c :: l' ∧ CR x v c ∧ c.length = v.sz ∧ VRs x r l'
end
/-- how many cells a value has -/
theorem cr_len {x : Cx} : ∀ {v : AV} {cs : List Value}, CR x v cs → cs.length = v.sz := by
  intro v
  induction v using AV.rec (motive_2 := fun _ => True) with
  | dat t d => intro cs h; rw [CR] at h; rw [AV.sz, ← T.kd_sz]; exact t.kd.len h
  | pr a b ha hb => intro cs h; rw [CR] at h; obtain ⟨c1, c2, e, h1, h2⟩ := h; rw [e, List.length_append, ha h1, hb h2]; rfl
  | one a ha => intro cs h; rw [CR] at h; exact ha h
  | ptr i p => intro cs h; rw [CR] at h; obtain ⟨_, b, _, e⟩ := h; rw [e]; rfl
  | nilp => intro cs h; rw [CR] at h; rw [h]; rfl
  | rdp t d => intro cs h; rw [CR] at h; obtain ⟨b, o, c, e, _⟩ := h; rw [e]; rfl
  | view i => intro cs h; rw [CR] at h; rw [h.2]; rfl
  | pre i n => intro cs h; rw [CR] at h; rw [h.2.2]; rfl
  | tgt i n => intro cs h; rw [CR] at h; rw [h.2.2]; rfl
  | win i o n => intro cs h; rw [CR] at h; obtain ⟨_, _, q, c, _, _, _, e⟩ := h; rw [e]; rfl
  | nils => intro cs h; rw [CR] at h; rw [h]; rfl
  | cut t => intro cs h; rw [CR] at h; obtain ⟨q, e⟩ := h; rw [e]; rfl
  | sln t d => intro cs h; rw [CR] at h; obtain ⟨p, c, e, _⟩ := h; rw [e]; rfl
  | mp i => intro cs h; rw [CR] at h; obtain ⟨_, b, _, e⟩ := h; rw [e]; rfl
  | nilm => intro cs h; rw [CR] at h; rw [h]; rfl
  | fn f fs ks _ _ => intro cs h; rw [CR] at h; obtain ⟨l, m, e, _⟩ := h; rw [e]; rfl
  | nilf => intro cs h; rw [CR] at h; rw [h]; rfl
  | iface t v _ => intro cs h; rw [CR] at h; obtain ⟨c, e, _⟩ := h; rw [e]; rfl
  | nilI => intro cs h; rw [CR] at h; rw [h]; rfl
  | tup l _ => intro cs h; rw [CR] at h; exact h.elim
  | undef => intro cs h; rw [CR] at h; exact h.elim
  | nil => trivial
  | cons _ _ _ _ => trivial
/-- a value, as it is -/
def VR (x : Cx) (v : AV) (u : Value) : Prop :=
  match v with
  | .tup l => ∃ m, u = .tuple m.toArray ∧ VRs x l m
  | .undef => u = undef
  | v => ∃ c, u = form v.isAgg c ∧ CR x v c ∧ c.length = v.sz

/-- From x to y: what may not be written is as it was; nothing old is guarded anew; the objects lie where they lay. -/
structure Cx.Le (x y : Cx) : Prop where
  size : x.h.size ≤ y.h.size
  blk : ∀ k, k < x.h.size → ¬ x.A k → y.h[k]? = x.h[k]?
  new : ∀ k, k < x.h.size → y.A k → x.A k
  geo : ∀ i, i < x.m → y.g i = x.g i
  m : x.m ≤ y.m
theorem Cx.Le.refl (x : Cx) : x.Le x := ⟨Nat.le_refl _, fun _ _ _ => rfl, fun _ _ h => h, fun _ _ => rfl, Nat.le_refl _⟩
theorem Cx.Le.K {x y : Cx} (h : x.Le y) {α : Type} {d : Kd α} {z : α} {cs : List Value} (r : d.K x.A x.h z cs) : d.K y.A y.h z cs :=
  d.mono (d.step (d.mono r (A' := fun k => x.A k ∨ y.A k) (fun k hk hv => hv.elim id (h.new k hk))) h.size (fun k hk hn => h.blk k hk (fun e => hn (.inl e)))) (fun _ _ hv => .inr hv)
theorem lies_lt {h : Array Obj} {b o : Nat} {cs : List Value} (l : Lies h b o cs) : b < h.size := by
  obtain ⟨C, T, fr, e, _⟩ := l
  exact lt_of_get e
mutual
theorem CR.up {x y : Cx} (h : x.Le y) : ∀ (v : AV) (cs : List Value), CR x v cs → CR y v cs
  | .dat t d, cs, r => by rw [CR] at r ⊢; exact h.K r
  | .pr a b, cs, r => by
    rw [CR] at r ⊢
    obtain ⟨c1, c2, e, h1, h2⟩ := r
    exact ⟨c1, c2, e, CR.up h a c1 h1, CR.up h b c2 h2⟩
  | .one a, cs, r => by rw [CR] at r ⊢; exact CR.up h a cs r
  | .ptr i p, cs, r => by
    rw [CR] at r ⊢
    obtain ⟨hi, b, e, hc⟩ := r
    exact ⟨Nat.lt_of_lt_of_le hi h.m, b, by rw [h.geo i hi]; exact e, hc⟩
  | .nilp, cs, r => by rw [CR] at r ⊢; exact r
  | .rdp t d, cs, r => by
    rw [CR] at r ⊢
    obtain ⟨b, o, c, e, hA, hl, hK⟩ := r
    have hb := lies_lt hl
    refine ⟨b, o, c, e, fun hA' => hA (h.new b hb hA'), ?_, h.K hK⟩
    obtain ⟨C, T, fr, e1, e2⟩ := hl
    exact ⟨C, T, fr, by rw [h.blk b hb hA]; exact e1, e2⟩
  | .view i, cs, r => by rw [CR] at r ⊢; rw [h.geo i r.1]; exact ⟨Nat.lt_of_lt_of_le r.1 h.m, r.2⟩
  | .pre i n, cs, r => by rw [CR] at r ⊢; rw [h.geo i r.1]; exact ⟨Nat.lt_of_lt_of_le r.1 h.m, r.2⟩
  | .tgt i n, cs, r => by rw [CR] at r ⊢; rw [h.geo i r.1]; exact ⟨Nat.lt_of_lt_of_le r.1 h.m, r.2⟩
  | .win i o n, cs, r => by rw [CR] at r ⊢; rw [h.geo i r.1]; exact ⟨Nat.lt_of_lt_of_le r.1 h.m, r.2⟩
  | .nils, cs, r => by rw [CR] at r ⊢; exact r
  | .cut t, cs, r => by rw [CR] at r ⊢; exact r
  | .sln t d, cs, r => by
    rw [CR] at r ⊢
    obtain ⟨p, c, e, h1⟩ := r
    obtain ⟨_, _, e2, h2⟩ := h.K (d := (T.sl t).kd) (z := d) (cs := [.slice (some p) d.length c]) ⟨some p, c, rfl, h1⟩
    obtain ⟨e3, e4⟩ : some p = _ ∧ c = _ := by simpa using e2
    subst e4
    exact ⟨p, c, e, by rw [e3]; exact h2⟩
  | .mp i, cs, r => by rw [CR] at r ⊢; rw [h.geo i r.1]; exact ⟨Nat.lt_of_lt_of_le r.1 h.m, r.2⟩
  | .nilm, cs, r => by rw [CR] at r ⊢; exact r
  | .fn f fs ks, cs, r => by
    rw [CR] at r ⊢
    obtain ⟨l, m, e, h1, h2⟩ := r
    exact ⟨l, m, e, VRs.up h fs l h1, VRs.up h ks m h2⟩
  | .nilf, cs, r => by rw [CR] at r ⊢; exact r
  | .iface t v, cs, r => by
    rw [CR] at r ⊢
    obtain ⟨c, e, h1, h2⟩ := r
    exact ⟨c, e, CR.up h v c h1, h2⟩
  | .nilI, cs, r => by rw [CR] at r ⊢; exact r
  | .tup l, cs, r => by rw [CR] at r; exact r.elim
  | .undef, cs, r => by rw [CR] at r; exact r.elim
theorem VRs.up {x y : Cx} (h : x.Le y) : ∀ (l : List AV) (m : List Value), VRs x l m → VRs y l m
  | [], m, r => by rw [VRs] at r ⊢; exact r
  | v :: l, m, r => by
    rw [VRs] at r ⊢
    obtain ⟨c, l', e, h1, h2, h3⟩ := r
    exact ⟨c, l', e, CR.up h v c h1, h2, VRs.up h l l' h3⟩
end
theorem VR.up {x y : Cx} (h : x.Le y) {v : AV} {u : Value} (r : VR x v u) : VR y v u := by
  cases v with
  | tup l => obtain ⟨m, e, h1⟩ := r; exact ⟨m, e, VRs.up h l m h1⟩
  | undef => exact r
  | _ => obtain ⟨c, e, h1, h2⟩ := r; exact ⟨c, e, CR.up h _ c h1, h2⟩
end Go.Mx
