/- Own work. A part of the proof of a law of this seat: a part -/
import Derived.Test.YtidhcbnplgbnoaaMx30
/- A region whose order is drawn: what holds when some are done. -/
namespace Go.Mx
open Go Go.RowKit Go.Sx

section
variable {P : Program} {Γ : Sums} {all : List Oper} {D : Nat → Dat} {b : Nat → Bool}
def Ob (all : List Oper) (D : Nat → Dat) (b : Nat → Bool) (x : Nat) (o : AO) : Prop :=
  (∃ k, k < all.length ∧ b k = true ∧ Wrt D k x ∧ (D (k + 1)).s.ob[x]? = some o ∧ ∀ k', k < k' → k' < all.length → b k' = true → ¬ Wrt D k' x) ∨
  ((∀ k, k < all.length → b k = true → ¬ Wrt D k x) ∧ ((x < nO D 0 ∧ (D 0).s.ob[x]? = some o) ∨ (nO D 0 ≤ x ∧ o = .gone)))
def Sl (all : List Oper) (D : Nat → Dat) (b : Nat → Bool) (t : Nat) (v : AV) : Prop :=
  (∃ (k : Nat) (o : Oper), all[k]? = some o ∧ o.dst = some t ∧ b k = true ∧ v = (D k).v) ∨ ((∀ (k : Nat) (o : Oper), all[k]? = some o → o.dst = some t → b k = false) ∧ lookA t (D 0).s.sl = some v)
def Cr (all : List Oper) (D : Nat → Dat) (b : Nat → Bool) (id : Nat) : Prop := id < nO D 0 ∨ ∃ j, j < all.length ∧ b j = true ∧ (D j).ran = true ∧ nO D j ≤ id ∧ id < nO D (j + 1)
def Cl (all : List Oper) (b : Nat → Bool) : Prop := ∀ (i : Nat) (o : Oper), all[i]? = some o → b i = true → ∀ q ∈ needs o, b q = true
theorem Cl.rel (hc : Cl all b) {i j : Nat} {o : Oper} (ho : all[i]? = some o) (hn : ∀ q ∈ needs o, b q = true) (h : Rl all j i) : b j = true :=
  reach_aux (S := fun j => b j = true) all hc all [] [] rfl rfl (fun i o _ hi => by simp at hi) i o ho hn j h
theorem Cl.done (hc : Cl all b) {i j : Nat} (hi : i < all.length) (hb : b i = true) (h : Rl all j i) : b j = true :=
  hc.rel (List.getElem?_eq_getElem hi) (hc i _ (List.getElem?_eq_getElem hi) hb) h
theorem Txt.obCr (h : Txt P Γ all D) (hc : Cl all b) {x : Nat} {o : AO} (ho : Ob all D b x o) : ∀ id ∈ o.ids, Cr all D b id := by
  intro id hid
  rcases ho with ⟨k, hk, hb, hw, he, _⟩ | ⟨_, ⟨hx, he⟩ | ⟨_, rfl⟩⟩
  · rcases h.usCr hk hw.1 (h.usO hk hw he id hid) with h1 | ⟨j, h1, h2, h3⟩
    · exact .inl h1
    · refine .inr ⟨j, h2, ?_, h3⟩
      rcases h1 with rfl | h1
      · exact hb
      · exact hc.done hk hb h1
  · exact .inl (h.ini x o he id hid)
  · cases hid
theorem Txt.slCr (h : Txt P Γ all D) (hc : Cl all b) {t : Nat} {v : AV} (hv : Sl all D b t v) : ∀ id ∈ v.ids, Cr all D b id := by
  intro id hid
  rcases hv with ⟨k, o, ho, _, hb, rfl⟩ | ⟨_, hl⟩
  · have hk := (List.getElem?_eq_some_iff.1 ho).1
    obtain ⟨o', _, sl, _, _, _, hr | hn⟩ := h.row hk
    · rcases h.usCr hk hr.ran (h.usV hk hr.ran id hid) with h1 | ⟨j, h1, h2, h3⟩
      · exact .inl h1
      · refine .inr ⟨j, h2, ?_, h3⟩
        rcases h1 with rfl | h1
        · exact hb
        · exact hc.done hk hb h1
    · rw [hn.v] at hid; cases hid
  · exact .inl (h.inis t v hl id hid)
theorem Txt.crLt (h : Txt P Γ all D) {id : Nat} (hc : Cr all D b id) : id < nO D all.length := by
  rcases hc with h1 | ⟨j, h1, _, _, _, h2⟩
  · exact Nat.lt_of_lt_of_le h1 (h.mono (Nat.zero_le _) (Nat.le_refl _))
  · exact Nat.lt_of_lt_of_le h2 (h.mono h1 (Nat.le_refl _))
/-- what is made by one that is not done was not met -/
theorem Txt.crOff (h : Txt P Γ all D) {i id : Nat} (hi : i < all.length) (hb : b i = false) (hc : Cr all D b id) : ¬ (nO D i ≤ id ∧ id < nO D (i + 1)) := by
  rintro ⟨h1, h2⟩
  rcases hc with h3 | ⟨j, h3, h4, _, h5, h6⟩
  · have := h.mono (Nat.zero_le i) (Nat.le_of_lt hi); omega
  · have hne : j ≠ i := fun e => by rw [e, hb] at h4; cases h4
    rcases Nat.lt_or_gt_of_ne hne with hl | hl
    · have := h.mono (show j + 1 ≤ i by omega) (by omega); omega
    · have := h.mono (show i + 1 ≤ j by omega) (by omega); omega
theorem Txt.idsO (h : Txt P Γ all D) : ∀ {i : Nat}, i ≤ all.length → ∀ {x : Nat} {o : AO}, (D i).s.ob[x]? = some o → ∀ id ∈ o.ids, id < nO D i
  | 0, _, x, o, ho => h.ini x o ho
  | i + 1, hi, x, o, ho => by
    intro id hid
    by_cases hw : Wrt D i x
    · exact h.us_lt (by omega) hw.1 (h.usO (by omega) hw ho id hid)
    · have hx : x < nO D i := by
        rcases Nat.lt_or_ge x (nO D i) with h1 | h1
        · exact h1
        · exfalso
          have hx := (List.getElem?_eq_some_iff.1 ho).1
          cases hr : (D i).ran with
          | false => rw [(h.n1 (by omega)).2.2 hr] at hx; unfold nO at h1; omega
          | true => exact hw ⟨hr, .inr ⟨h1, hx⟩⟩
      rw [h.keep (by omega) hw hx] at ho
      exact Nat.lt_of_lt_of_le (h.idsO (by omega) ho id hid) (h.n1 (by omega)).1
theorem Txt.idsV (h : Txt P Γ all D) {i : Nat} (hi : i ≤ all.length) {t : Nat} {v : AV} (hv : lookA t (D i).s.sl = some v) : ∀ id ∈ v.ids, id < nO D i := by
  intro id hid
  rcases h.slot hi hv with ⟨k, o, hk, ho, _, rfl⟩ | ⟨_, h2⟩
  · have hkl : k < all.length := by omega
    obtain ⟨o', _, sl, _, _, _, hr | hn⟩ := h.row hkl
    · exact Nat.lt_of_lt_of_le (h.us_lt hkl hr.ran (h.usV hkl hr.ran id hid)) (h.mono hk hi)
    · rw [hn.v] at hid; cases hid
  · exact Nat.lt_of_lt_of_le (h.inis t v h2 id hid) (h.mono (Nat.zero_le _) hi)
/-- what an operation finds -/
theorem Txt.readO (h : Txt P Γ all D) (hc : Cl all b) {i x : Nat} {o : Oper} {q : AO} (ho : all[i]? = some o) (hb : b i = false) (hn : ∀ j ∈ needs o, b j = true) (hr : (D i).ran = true) (hx : x ∈ (D i).g.ts ∨ x ∈ (D i).g.ws) (hl : x < nO D i) (hq : Ob all D b x q) : (D i).s.ob[x]? = some q := by
  have hi := (List.getElem?_eq_some_iff.1 ho).1
  -- whoever writes it, ahead, is done; nobody behind is
  have ahead : ∀ k, k < all.length → Wrt D k x → k < i → b k = true := by
    intro k hk hw hki
    rcases h.clash hk hi hr hw hx (by omega) with h1 | h1
    · exact hc.rel ho hn h1
    · have := Rl.lt h1; omega
  have behind : ∀ k, k < all.length → Wrt D k x → b k = true → k < i := by
    intro k hk hw hbk
    have hne : k ≠ i := fun e => by rw [e, hb] at hbk; cases hbk
    rcases h.clash hk hi hr hw hx hne with h1 | h1
    · exact Rl.lt h1
    · have := hc.done hk hbk h1
      rw [hb] at this; cases this
  rcases hq with ⟨k, hk, hbk, hw, he, hmax⟩ | ⟨hno, ⟨hx0, he⟩ | ⟨hx0, rfl⟩⟩
  · have hki := behind k hk hw hbk
    rw [h.keeps (p := k + 1) (q := i) (h.wlt hk hw) hki (by omega) (fun k' h1 h2 hw' => hmax k' (by omega) (by omega) (ahead k' (by omega) hw' h2) hw'), he]
  · rw [h.keeps (p := 0) (q := i) hx0 (Nat.zero_le _) (by omega) (fun k' h1 h2 hw' => hno k' (by omega) (ahead k' (by omega) hw' h2) hw'), he]
  · exfalso
    rcases h.made (show i ≤ all.length by omega) hl with h1 | ⟨j, h1, h2, h3, h4⟩
    · omega
    · have hw : Wrt D j x := ⟨h2, .inr ⟨h3, h4⟩⟩
      exact hno j (by omega) (ahead j (by omega) hw h1) hw
theorem Txt.parts (h : Txt P Γ all D) : okR all all.length = true ∧ (dsts all).Nodup ∧ rdOk all (reachT all []) all 0 = true := by
  have := h.reg
  unfold regOk at this
  rw [Bool.and_eq_true, Bool.and_eq_true] at this
  exact ⟨this.1.1, nodupB_ok this.1.2, this.2⟩
theorem Txt.readS (h : Txt P Γ all D) (hc : Cl all b) {i t : Nat} {o : Oper} {v : AV} (ho : all[i]? = some o) (hb : b i = false) (hn : ∀ j ∈ needs o, b j = true) (ht : t ∈ reads all o) (hv : lookA t (D i).s.sl = some v) : Sl all D b t v := by
  have hi := (List.getElem?_eq_some_iff.1 ho).1
  obtain ⟨_, hu, hrd⟩ := h.parts
  have who : ∀ (k : Nat) (o' : Oper), all[k]? = some o' → o'.dst = some t → Rl all k i ∨ Rl all i k ∨ k = i := by
    intro k o' hk hd
    cases hw : whoSets t all 0 with
    | none => exact absurd hd (whoSets_none hw k o' hk)
    | some k' =>
      obtain ⟨_, o2, h2, h3⟩ := whoSets_some hw
      have e : k' = k := dsts_uniq hu (i := k') (j := k) h2 hk h3 hd
      subst e
      have := rdOk_ok hrd ho t ht k' hw
      rw [Nat.zero_add] at this
      exact this
  rcases h.slot (Nat.le_of_lt hi) hv with ⟨k, o', hk, ho', hd, e⟩ | ⟨hno, hl⟩
  · refine .inl ⟨k, o', ho', hd, ?_, e⟩
    rcases who k o' ho' hd with h1 | h1 | h1
    · exact hc.rel ho hn h1
    · have := Rl.lt h1; omega
    · omega
  · refine .inr ⟨fun k o' ho' hd => ?_, hl⟩
    cases hbk : b k with
    | false => rfl
    | true =>
      exfalso
      have hk := (List.getElem?_eq_some_iff.1 ho').1
      rcases who k o' ho' hd with h1 | h1 | h1
      · exact hno k o' (Rl.lt h1) ho' hd
      · have := hc.done hk hbk h1
        rw [hb] at this; cases this
      · rw [h1, hb] at hbk; cases hbk

/-- what holds when those of b are done: C is what lies in memory, L where the text's things lie in it -/
structure DrI (P : Program) (Γ : Sums) (all : List Oper) (D : Nat → Dat) (W : Nat → Prop) (ρ0 : Nat → Geo) (w0 : World) (N : Nat) (b : Nat → Bool) (C : List AO) (ρ : Nat → Geo) (L : Nat → Nat) (a : Act) (w : World) : Prop where
  aft : Aft W (D 0).s.ob ρ0 w0 C ρ w
  lt : ∀ x, x < nO D all.length → L x < C.length
  inj : ∀ x y, x < nO D all.length → y < nO D all.length → L x = L y → x = y
  ini : ∀ x, x < nO D 0 → L x = x
  obj : ∀ x, x < nO D all.length → ∃ o o', Ob all D b x o ∧ C[L x]? = some o' ∧ o.ren (fun x => some (L x)) = some o'
  slt : ∀ t v, Sl all D b t v → ∃ v', v.ren (fun x => some (L x)) = some v' ∧ VR (cx W C ρ w) v' (a.tmps.getD t undef)
  cl : Cl all b
  df : a.defers = []
  sz : a.tmps.size = N
def withB (b : Nat → Bool) (i : Nat) : Nat → Bool := fun j => b j || Nat.beq i j
theorem withB_t {i j : Nat} : withB b i j = true ↔ b j = true ∨ j = i := by
  unfold withB
  rw [Bool.or_eq_true]
  constructor
  · exact fun h => h.imp_right (fun h => (Nat.eq_of_beq_eq_true h).symm)
  · exact fun h => h.imp_right (fun h => by rw [h]; exact Nat.beq_refl i)
theorem Cl.with (hc : Cl all b) {i : Nat} {o : Oper} (ho : all[i]? = some o) (hn : ∀ j ∈ needs o, b j = true) : Cl all (withB b i) := by
  intro j p hp hj q hq
  rw [withB_t] at hj ⊢
  rcases hj with hj | rfl
  · exact .inl (hc j p hp hj q hq)
  · rw [ho] at hp
    obtain rfl := Option.some.inj hp
    exact .inl (hn q hq)
theorem Ob.with {i x : Nat} {o : AO} (h : Ob all D b x o) (hw : ¬ Wrt D i x) : Ob all D (withB b i) x o := by
  rcases h with ⟨k, hk, hb, h1, h2, h3⟩ | ⟨h1, h2⟩
  · refine .inl ⟨k, hk, withB_t.2 (.inl hb), h1, h2, fun k' g1 g2 g3 => ?_⟩
    rcases withB_t.1 g3 with g3 | rfl
    · exact h3 k' g1 g2 g3
    · exact hw
  · refine .inr ⟨fun k' g1 g2 => ?_, h2⟩
    rcases withB_t.1 g2 with g2 | rfl
    · exact h1 k' g1 g2
    · exact hw
theorem Sl.with (h : Txt P Γ all D) {i t : Nat} {o : Oper} {v : AV} (ho : all[i]? = some o) (hs : Sl all D (withB b i) t v) : (o.dst = some t ∧ v = (D i).v) ∨ (o.dst ≠ some t ∧ Sl all D b t v) := by
  rcases hs with ⟨k, p, hp, hd, hb, rfl⟩ | ⟨hno, hl⟩
  · by_cases hki : k = i
    · subst hki
      rw [ho] at hp
      obtain rfl := Option.some.inj hp
      exact .inl ⟨hd, rfl⟩
    · refine .inr ⟨fun e => hki (dsts_uniq h.parts.2.1 hp ho hd e), .inl ⟨k, p, hp, hd, ?_, rfl⟩⟩
      exact (withB_t.1 hb).elim id (fun e => absurd e hki)
  · refine .inr ⟨fun e => ?_, .inr ⟨fun k p hp hd => ?_, hl⟩⟩
    · have := hno i o ho e
      rw [withB_t.2 (.inr rfl)] at this; cases this
    · have := hno k p hp hd
      cases hb : b k with
      | false => rfl
      | true => rw [withB_t.2 (.inl hb)] at this; cases this
theorem put_other {a : Act} {d : Option Nat} {t : Nat} {u : Value} (h : d ≠ some t) : (a.put d u).tmps.getD t undef = a.tmps.getD t undef := by
  cases d with
  | none => rfl
  | some d =>
    have : ¬ d = t := fun e => h (by rw [e])
    simp only [Act.put, Array.getD_eq_getD_getElem?, Array.getElem?_setIfInBounds_ne this]
theorem newO_ren {g : Nat → Option Nat} {o o' : AO} (h : o.ren g = some o') : (newO o).ren g = some (newO o') := by
  unfold newO
  rw [(ren_own h).2]
  cases o.sure with
  | true => exact h
  | false => rfl
/-- the part of memory that the text's first n things are -/
theorem part_of {W : Nat → Prop} {ρ0 : Nat → Geo} {w0 w : World} {N : Nat} {C M : List AO} {ρ : Nat → Geo} {L : Nat → Nat} {a : Act} (I : DrI P Γ all D W ρ0 w0 N b C ρ L a w) {n : Nat} (hn : n ≤ nO D all.length) (hM : M.length = n)
    (get : ∀ (j : Nat) (o1 : AO), M[j]? = some o1 → o1 = .gone ∨ ∃ o, (∀ id ∈ o.ids, id < n) ∧ Ob all D b j o ∧ (∀ q, Ob all D b j q → q = o) ∧ (o1 = o ∨ o1 = o.lent)) :
    ∃ f : Nat → Option Nat, (∀ x, x < n → f (L x) = some x) ∧ Prt C ρ M (fun j => ρ (L j)) ((List.range n).map L) f := by
  have at_ : ∀ j, ((List.range n).map L)[j]? = if j < n then some (L j) else none := by
    intro j
    by_cases h : j < n
    · simp [h]
    · simp [h]
  refine ⟨fun c => (List.range n).find? (fun x => Nat.beq (L x) c), ?_, ?_, ?_, ?_, ?_, ?_⟩
  · intro x hx
    show (List.range n).find? (fun y => Nat.beq (L y) (L x)) = some x
    cases hf : (List.range n).find? (fun y => Nat.beq (L y) (L x)) with
    | none =>
      have := List.find?_eq_none.1 hf x (List.mem_range.2 hx)
      rw [Nat.beq_refl] at this
      exact absurd rfl this
    | some y =>
      have h1 := Nat.eq_of_beq_eq_true (List.find?_some (p := fun z => Nat.beq (L z) (L x)) hf)
      have h2 := List.mem_range.1 (List.mem_of_find?_eq_some hf)
      rw [I.inj y x (by omega) (by omega) h1]
  · rw [List.Nodup, List.pairwise_map]
    refine List.Pairwise.imp_of_mem ?_ (List.nodup_range (n := n))
    intro x y hx hy hne e
    have hx := List.mem_range.1 hx
    have hy := List.mem_range.1 hy
    exact hne (I.inj x y (by omega) (by omega) e)
  · simp [hM]
  · intro j o1 hj
    have hjn : j < n := by rw [← hM]; exact (List.getElem?_eq_some_iff.1 hj).1
    obtain ⟨o, o', h1, h2, h3⟩ := I.obj j (by omega)
    refine ⟨L j, o', by rw [at_, if_pos hjn], h2, ?_⟩
    rcases get j o1 hj with rfl | ⟨p, k1, k2, k3, k4⟩
    · exact .inl rfl
    · have e := k3 o h1
      subst e
      have back : o'.ren (fun c => (List.range n).find? (fun x => Nat.beq (L x) c)) = some o := by
        refine oren_back h3 (fun x hx y hy => ?_)
        obtain rfl := Option.some.inj hy
        have hx := k1 x hx
        cases hf : (List.range n).find? (fun y => Nat.beq (L y) (L x)) with
        | none =>
          have := List.find?_eq_none.1 hf x (List.mem_range.2 hx)
          rw [Nat.beq_refl] at this
          exact absurd rfl this
        | some y =>
          have h1 := Nat.eq_of_beq_eq_true (List.find?_some (p := fun z => Nat.beq (L z) (L x)) hf)
          have h2 := List.mem_range.1 (List.mem_of_find?_eq_some hf)
          rw [I.inj y x (by omega) (by omega) h1]
      rcases k4 with rfl | rfl
      · exact .inr (.inl back)
      · exact .inr (.inr (oren_lent back))
  · intro j i hj
    rw [at_] at hj
    split at hj
    · obtain rfl := Option.some.inj hj; rfl
    · cases hj
  · intro i j hf
    have h1 := Nat.eq_of_beq_eq_true (List.find?_some (p := fun z => Nat.beq (L z) i) hf)
    have h2 := List.mem_range.1 (List.mem_of_find?_eq_some hf)
    rw [at_, if_pos h2, h1]
end
end Go.Mx
