/- Own work. A part of the proof of a law of this seat: The walk library: what is of no program. -/
import Derived.Test.YtmljbiijlljhfaaSx4
import Derived.Orders
namespace Go.Sx
open Go Go.RowKit

/-! ### a region that draws its order -/
def needs (o : Oper) : List Nat := (o.after.toList.filter (fun e => Region.binds .any e)).map (·.on)
/-- what each waits for, and what that waits for -/
def reachT : List Oper → List (List Nat) → List (List Nat)
  | [], T => T
  | o :: r, T => reachT r (T ++ [(List.range T.length).filter fun j => (needs o).any fun q => Nat.beq q j || (T.getD q []).contains j])
/-- What an operation waits for stands ahead of it; from the m-th on each waits for all ahead. -/
def okR (os : List Oper) (m : Nat) : Bool :=
  (List.range os.length).all fun i => match os[i]? with
    | some o => (needs o).all (fun j => Nat.blt j i) && (Nat.blt i m || (List.range i).all fun j => ((reachT os []).getD i []).contains j)
    | none => false

section
variable {P : Program} {os : List Oper} {Q : Exit → Act → World → Prop} {a : Act} {w : World} {m : Nat}

theorem reach_aux {S : Nat → Prop} (os : List Oper) (hcl : ∀ i o, os[i]? = some o → S i → ∀ q ∈ needs o, S q) : ∀ (r pre : List Oper) (T : List (List Nat)), os = pre ++ r → T.length = pre.length →
    (∀ i o, os[i]? = some o → i < T.length → (∀ q ∈ needs o, S q) → ∀ j ∈ T.getD i [], S j) → ∀ i o, os[i]? = some o → (∀ q ∈ needs o, S q) → ∀ j ∈ (reachT r T).getD i [], S j := by
  intro r
  induction r with
  | nil =>
    intro pre T he hl h i o ho hn j hj
    refine h i o ho ?_ hn j hj
    have := (List.getElem?_eq_some_iff.1 ho).1
    rw [he] at this
    simp at this
    omega
  | cons p r ih =>
    intro pre T he hl h
    unfold reachT
    refine ih (pre ++ [p]) _ (by rw [he]; simp) (by simp [hl]) ?_
    intro i o ho hi hn j hj
    rcases Nat.lt_or_ge i T.length with hlt | hge
    · refine h i o ho hlt hn j ?_
      rw [List.getD_eq_getElem?_getD, List.getElem?_append, if_pos hlt] at hj
      rwa [List.getD_eq_getElem?_getD]
    · have hiT : i = T.length := by simp at hi; omega
      subst hiT
      rw [List.getD_eq_getElem?_getD, List.getElem?_append, if_neg (by omega), Nat.sub_self] at hj
      simp only [List.getElem?_cons_zero, Option.getD_some, List.mem_filter, List.any_eq_true, Bool.or_eq_true] at hj
      obtain ⟨_, q, hq, hqj⟩ := hj
      have hop : p = o := by
        rw [he, List.getElem?_append, if_neg (by omega), hl, Nat.sub_self] at ho
        simpa using ho
      subst hop
      rcases hqj with hqj | hqj
      · rw [← Nat.eq_of_beq_eq_true hqj]; exact hn q hq
      · have hqj : j ∈ T.getD q [] := by simpa using hqj
        have hqT : q < T.length := by
          rcases Nat.lt_or_ge q T.length with h | h
          · exact h
          · rw [List.getD_eq_getElem?_getD, List.getElem?_eq_none h] at hqj; simp at hqj
        have hqo : q < os.length := by
          have := (List.getElem?_eq_some_iff.1 ho).1
          omega
        exact h q os[q] (List.getElem?_eq_getElem hqo) hqT (hcl q os[q] (List.getElem?_eq_getElem hqo) (hn q hq)) j hqj
theorem okR_row (h : okR os m = true) {i : Nat} {o : Oper} (ho : os[i]? = some o) : (∀ j ∈ needs o, j < i) ∧ (m ≤ i → ∀ S : Nat → Prop, (∀ i o, os[i]? = some o → S i → ∀ q ∈ needs o, S q) → (∀ q ∈ needs o, S q) → ∀ j, j < i → S j) := by
  have h1 := List.all_eq_true.1 h i (List.mem_range.2 (List.getElem?_eq_some_iff.1 ho).1)
  rw [ho] at h1
  simp only [Bool.and_eq_true, List.all_eq_true, Bool.or_eq_true] at h1
  refine ⟨fun j hj => by simpa [Nat.blt_eq] using h1.1 j hj, fun hm S hcl hn j hj => ?_⟩
  rcases h1.2 with h2 | h2
  · rw [Nat.blt_eq] at h2; omega
  · have h3 : j ∈ (reachT os []).getD i [] := by simpa using h2 j (List.mem_range.2 hj)
    exact reach_aux os hcl os [] [] rfl rfl (fun i o _ hi => by simp at hi) i o ho hn j h3

theorem mem_ready {listed : Array Bool} {i : Nat} (h : i ∈ Region.ready .any os.toArray listed) : ∃ o, os[i]? = some o ∧ listed.getD i true = false ∧ ∀ j ∈ needs o, listed.getD j false = true := by
  unfold Region.ready at h
  rw [List.mem_filter] at h
  obtain ⟨h1, h2⟩ := h
  simp only [List.mem_range, List.size_toArray] at h1
  obtain ⟨o, ho⟩ : ∃ o, os[i]? = some o := ⟨_, List.getElem?_eq_getElem h1⟩
  simp only [Bool.and_eq_true, Bool.not_eq_true', List.getElem?_toArray, ho, Option.map_some, Option.getD_some] at h2
  refine ⟨o, ho, h2.1, fun j hj => ?_⟩
  unfold needs at hj
  rw [List.mem_map] at hj
  obtain ⟨e, he, rfl⟩ := hj
  rw [List.mem_filter] at he
  have := Array.all_eq_true'.1 h2.2 e (by simpa using he.1)
  simpa [he.2] using this

theorem ready_nil (hok : okR os m = true) {listed : Array Bool} (hs : listed.size = os.length) (h : Region.ready .any os.toArray listed = []) : ∀ i, i < os.length → listed.getD i true = true := by
  intro i
  induction i using Nat.strongRecOn with
  | _ i ih =>
    intro hi
    cases hl : listed.getD i true with
    | true => rfl
    | false =>
      exfalso
      obtain ⟨o, ho⟩ : ∃ o, os[i]? = some o := ⟨_, List.getElem?_eq_getElem hi⟩
      have : i ∈ Region.ready .any os.toArray listed := by
        unfold Region.ready
        rw [List.mem_filter]
        refine ⟨by simpa using hi, ?_⟩
        simp only [hl, Bool.not_false, Bool.true_and, List.getElem?_toArray, ho, Option.map_some, Option.getD_some]
        rw [Array.all_eq_true']
        intro e he
        cases hb : Region.binds .any e with
        | false => rfl
        | true =>
          have hj : e.on ∈ needs o := List.mem_map.2 ⟨e, List.mem_filter.2 ⟨by simpa using he, hb⟩, rfl⟩
          have h1 := (okR_row hok ho).1 e.on hj
          have h2 := ih e.on h1 (by omega)
          have h3 : e.on < listed.size := by omega
          simp only [Array.getD_eq_getD_getElem?, Array.getElem?_eq_getElem h3, Option.getD_some] at h2 ⊢
          simp [h2]
      rw [h] at this
      cases this

/-- The operation is done if it is wanted: of what comes R holds. -/
def DoesG (P : Program) (os : List Oper) (o : Oper) (a : Act) (w : World) (R : Value → World → Prop) : Prop :=
  if Region.wanted o (yielded os.toArray a.tmps) = true then Does P o a w R else R undef w

def lset (listed : Array Bool) (i : Nat) : Array Bool := listed.setIfInBounds i true
theorem lset_get {listed : Array Bool} {i j : Nat} (hi : i < listed.size) (d : Bool) : (listed.setIfInBounds i true).getD j d = if i = j then true else listed.getD j d := by
  by_cases h : i = j
  · subst h; simp [Array.getD, hi]
  · simp only [Array.getD_eq_getD_getElem?, Array.getElem?_setIfInBounds_ne h, h, if_false]

theorem drawn_aux (hok : okR os m = true) (I : (Nat → Bool) → Act → World → Prop)
    (hs : ∀ i o, os[i]? = some o → i < m → ∀ b a w, I b a w → b i = false → (∀ j ∈ needs o, b j = true) → DoesG P os o a w (fun v w' => I (fun j => b j || Nat.beq i j) (a.put o.dst v) w'))
    (hend : ∀ b a w, (∀ j, j < os.length → j < m → b j = true) → I b a w → wpList P os.toArray Q (os.drop m) a w) (hm : m ≤ os.length) :
    ∀ (c : Nat) (listed : Array Bool) (a : Act) (w : World), listed.size = os.length → (∀ j o', os[j]? = some o' → listed.getD j false = true → ∀ q ∈ needs o', listed.getD q false = true) → ((List.range os.length).filter fun j => !listed.getD j true).length = c → (∀ i, m ≤ i → i < os.length → listed.getD i true = false) → I (fun j => listed.getD j true) a w →
      wpAny P .any os.toArray Q c listed a w := by
  -- from the m-th on: in the text's order
  have tail : ∀ (c : Nat) (listed : Array Bool) (a : Act) (w : World) (q : Nat), listed.size = os.length → q + c = os.length → m ≤ q → (∀ i, i < os.length → (listed.getD i true = true ↔ i < q)) → wpList P os.toArray Q (os.drop q) a w → wpAny P .any os.toArray Q c listed a w := by
    intro c
    induction c with
    | zero =>
      intro listed a w q hsz hq hmq hl h
      have hnil : Region.ready .any os.toArray listed = [] := by
        rw [List.eq_nil_iff_forall_not_mem]
        intro i hi
        obtain ⟨o, ho, h1, _⟩ := mem_ready hi
        have hlt := (List.getElem?_eq_some_iff.1 ho).1
        have := (hl i hlt).2 (by omega)
        rw [h1] at this
        cases this
      rw [List.drop_of_length_le (by omega)] at h
      exact ⟨hnil, h⟩
    | succ c ih =>
      intro listed a w q hsz hq hmq hl h
      have hqlt : q < os.length := by omega
      refine ⟨fun hnil => ?_, fun i hi => ?_⟩
      · have := ready_nil hok hsz hnil q hqlt
        have := (hl q hqlt).1 this
        omega
      · obtain ⟨o, ho, h1, h2⟩ := mem_ready hi
        have hlt := (List.getElem?_eq_some_iff.1 ho).1
        have hge : q ≤ i := by
          rcases Nat.lt_or_ge i q with h | h
          · have := (hl i hlt).2 h
            rw [h1] at this; cases this
          · exact h
        have hiq : i = q := by
          rcases Nat.lt_or_ge q i with h | h
          · have hsame : ∀ j, j < os.length → (listed.getD j false = true ↔ j < q) := fun j hj => by
              rw [← hl j hj]
              have hj' : j < listed.size := by omega
              simp only [Array.getD_eq_getD_getElem?, Array.getElem?_eq_getElem hj', Option.getD_some]
            have h4 := (okR_row hok ho).2 (by omega) (fun j => listed.getD j false = true) (fun j o' ho' hb p hp => by
              have hj := (List.getElem?_eq_some_iff.1 ho').1
              have h5 := (okR_row hok ho').1 p hp
              have h6 := (hsame j hj).1 hb
              exact (hsame p (by omega)).2 (by omega)) h2 q h
            have := (hsame q hqlt).1 h4
            omega
          · omega
        subst hiq
        have hd : os.drop i = o :: os.drop (i + 1) := by
          rw [List.drop_eq_getElem_cons hlt]
          congr 1
          rw [List.getElem?_eq_getElem hlt] at ho
          exact Option.some.inj ho
        rw [hd] at h
        unfold wpOp
        simp only [List.getElem?_toArray, ho]
        unfold wpList at h
        have hnext : ∀ a w, wpList P os.toArray Q (os.drop (i + 1)) a w → wpAny P .any os.toArray Q c (listed.setIfInBounds i true) a w := by
          intro a w h
          refine ih _ a w (i + 1) (by simpa using hsz) (by omega) (by omega) (fun j hj => ?_) h
          rw [lset_get (by omega)]
          by_cases hij : i = j
          · simp [hij]
          · simp only [hij, if_false]
            rw [hl j hj]
            omega
        split at h
        · rename_i hw
          rw [if_pos hw]
          exact h.imp (Oper.wp_mono hnext) id
        · rename_i hw
          rw [if_neg hw]
          exact hnext _ _ h
  intro c
  induction c with
  | zero =>
    intro listed a w hsz hcl hc hl hI
    have hall : ∀ i, i < os.length → listed.getD i true = true := by
      intro i hi
      cases hli : listed.getD i true with
      | true => rfl
      | false =>
        have : i ∈ (List.range os.length).filter fun j => !listed.getD j true := List.mem_filter.2 ⟨List.mem_range.2 hi, by simp [hli]⟩
        rw [List.eq_nil_of_length_eq_zero hc] at this
        cases this
    have hm' : m = os.length := by
      rcases Nat.lt_or_ge m os.length with h | h
      · have := hl m (Nat.le_refl _) h
        rw [hall m h] at this; cases this
      · omega
    refine tail 0 listed a w os.length hsz (by omega) hm (fun i hi => ⟨fun _ => hi, fun _ => hall i hi⟩) ?_
    rw [← hm']
    exact hend _ a w (fun j hj _ => hall j hj) hI
  | succ c ih =>
    intro listed a w hsz hcl hc hl hI
    by_cases hpre : ∀ j, j < os.length → j < m → listed.getD j true = true
    · -- all ahead of the m-th are listed
      refine tail (c + 1) listed a w m hsz ?_ (Nat.le_refl _) (fun i hi => ⟨fun h => ?_, fun h => hpre i hi h⟩) (hend _ a w hpre hI)
      · have hfe : ((List.range os.length).filter fun j => !listed.getD j true) = (List.range os.length).filter fun j => decide (m ≤ j) := by
          refine List.filter_congr (fun j hj => ?_)
          have hj := List.mem_range.1 hj
          by_cases hjm : m ≤ j
          · simp [hl j hjm hj, hjm]
          · simp [hpre j hj (by omega), hjm]
        rw [hfe] at hc
        have hcount : ∀ n, m ≤ n → ((List.range n).filter fun j => decide (m ≤ j)).length = n - m := by
          intro n
          induction n with
          | zero => intro h; simp
          | succ n ihn =>
            intro h
            rw [List.range_succ, List.filter_append, List.length_append]
            by_cases hmn : m ≤ n
            · rw [ihn hmn]; simp [hmn]; omega
            · have : (List.range n).filter (fun j => decide (m ≤ j)) = [] := by
                rw [List.filter_eq_nil_iff]
                intro j hj
                have := List.mem_range.1 hj
                simp; omega
              rw [this]; simp [hmn]; omega
        rw [hcount os.length hm] at hc
        omega
      · rcases Nat.lt_or_ge i m with h' | h'
        · exact h'
        · rw [hl i h' hi] at h; cases h
    · refine ⟨fun hnil => ?_, fun i hi => ?_⟩
      · exact absurd (fun j hj _ => ready_nil hok hsz hnil j hj) hpre
      · obtain ⟨o, ho, h1, h2⟩ := mem_ready hi
        have hlt := (List.getElem?_eq_some_iff.1 ho).1
        have him : i < m := by
          rcases Nat.lt_or_ge i m with h | h
          · exact h
          · exfalso
            apply hpre
            intro j hj hjm
            have h4 := (okR_row hok ho).2 h (fun j => listed.getD j false = true) hcl h2 j (by omega)
            have hj' : j < listed.size := by omega
            simp only [Array.getD_eq_getD_getElem?, Array.getElem?_eq_getElem hj', Option.getD_some] at h4 ⊢
            exact h4
        have hstep := hs i o ho him _ a w hI h1 (fun j hj => by
          have h4 := h2 j hj
          have hj' : j < listed.size := by have := (okR_row hok ho).1 j hj; omega
          simp only [Array.getD_eq_getD_getElem?, Array.getElem?_eq_getElem hj', Option.getD_some] at h4 ⊢
          exact h4)
        have hcnt : ((List.range os.length).filter fun j => !(listed.setIfInBounds i true).getD j true).length = c := by
          have : ∀ n, i < n → n ≤ os.length → ((List.range n).filter fun j => !listed.getD j true).length = ((List.range n).filter fun j => !(listed.setIfInBounds i true).getD j true).length + 1 := by
            intro n
            induction n with
            | zero => intro h; omega
            | succ n ihn =>
              intro hin hn
              rw [List.range_succ, List.filter_append, List.filter_append, List.length_append, List.length_append]
              by_cases hie : i = n
              · subst hie
                have he : ((List.range i).filter fun j => !(listed.setIfInBounds i true).getD j true) = (List.range i).filter fun j => !listed.getD j true := by
                  refine List.filter_congr (fun j hj => ?_)
                  have := List.mem_range.1 hj
                  rw [lset_get (by omega), if_neg (by omega)]
                rw [he]
                have hq : (listed.setIfInBounds i true).getD i true = true := by rw [lset_get (by omega), if_pos rfl]
                rw [List.filter_cons, List.filter_cons]
                simp only [h1, hq, Bool.not_false, Bool.not_true, if_true, List.filter_nil, List.length_cons, List.length_nil, Bool.false_eq_true, if_false]
              · rw [ihn (by omega) (by omega)]
                have : (listed.setIfInBounds i true).getD n true = listed.getD n true := by rw [lset_get (by omega), if_neg hie]
                simp only [List.filter_cons, List.filter_nil, this]
                omega
          have := this os.length hlt (Nat.le_refl _)
          omega
        have hnext : ∀ a' w', I (fun j => listed.getD j true || Nat.beq i j) a' w' → wpAny P .any os.toArray Q c (listed.setIfInBounds i true) a' w' := by
          intro a' w' h
          refine ih _ a' w' (by simpa using hsz) (fun j o' ho' hb q hq => ?_) hcnt (fun j hmj hj => ?_) ?_
          · rw [lset_get (by omega)] at hb ⊢
            by_cases hiq : i = q
            · rw [if_pos hiq]
            · rw [if_neg hiq]
              by_cases hij : i = j
              · subst hij
                rw [ho] at ho'
                injection ho' with ho'
                subst ho'
                exact h2 q hq
              · rw [if_neg hij] at hb
                exact hcl j o' ho' hb q hq
          · rw [lset_get (by omega), if_neg (by omega)]
            exact hl j hmj hj
          · have he : (fun j => (listed.setIfInBounds i true).getD j true) = fun j => listed.getD j true || Nat.beq i j := by
              funext j
              rw [lset_get (by omega)]
              by_cases hij : i = j
              · subst hij; simp
              · simp [hij, beq_ne hij]
            rw [he]
            exact h
        unfold wpOp
        simp only [List.getElem?_toArray, ho]
        unfold DoesG at hstep
        split
        · rename_i hw
          rw [if_pos hw] at hstep
          exact .inl (hstep _ Q (fun v w' hv => hnext _ _ hv))
        · rename_i hw
          rw [if_neg hw] at hstep
          exact hnext _ _ hstep

theorem drawn (id : Nat) (hmx : P.follows .mixedOrders = true) (m : Nat) (hok : okR os m = true) (hm : Nat.ble m os.length = true) (I : (Nat → Bool) → Act → World → Prop) (h0 : I (fun j => !Nat.blt j os.length) a w.drew)
    (hs : ∀ i o, os[i]? = some o → i < m → ∀ b a w, I b a w → b i = false → (∀ j ∈ needs o, b j = true) → DoesG P os o a w (fun v w' => I (fun j => b j || Nat.beq i j) (a.put o.dst v) w'))
    (hend : ∀ b a w, (∀ j, j < os.length → j < m → b j = true) → I b a w → wpList P os.toArray Q (os.drop m) a w) : (Code.region id os.toArray true).wp P Q a w := by
  refine wp_region_any hmx ?_
  have hm' := Nat.le_of_ble_eq_true hm
  have := drawn_aux hok I hs hend hm' os.length (Array.replicate os.length false) a w.drew (by simp) (fun j o' ho' hb => by have hj := (List.getElem?_eq_some_iff.1 ho').1; simp [Array.getD, hj] at hb) ?_ ?_ ?_
  · simpa using this
  · rw [List.filter_eq_self.2]
    · simp
    · intro j hj
      have := List.mem_range.1 hj
      simp [Array.getD, this]
  · intro i _ hi
    simp [Array.getD, hi]
  · have he : (fun j => (Array.replicate os.length false).getD j true) = fun j => !Nat.blt j os.length := by
      funext j
      by_cases hj : j < os.length
      · simp [Array.getD, hj, Nat.blt_eq]
      · have : Nat.blt j os.length = false := by
          rw [Bool.eq_false_iff]; intro h; rw [Nat.blt_eq] at h; exact hj h
        simp [Array.getD, hj, this]
    rw [he]
    exact h0
end
end Go.Sx
