/- Own work. A part of the proof of a law of this seat: The walk library: what is of no program. -/
import Derived.Test.YtmljbiijlljhfaaSx10
namespace Go.Sx
open Go Go.RowKit
section
variable {A A' B W S0 : Nat → Prop} {w0 w w' : World} {as as' as0 rt rr ro as00 : List (Option Addr)} {u : Option Addr} {b : Nat}
theorem Ex.roOff (h : Ex w0 (Av as00 No) as w) (hW : ∀ k, W k → k < w0.heap.size) (hW0 : ∀ p, some p ∈ as00 → ¬ W p.block) (hb : W b) (j : Nat) (hj : as[j]? = some u) : ¬ ∃ p, u = some p ∧ p.block = b := fun ⟨p, hp, e⟩ =>
  h.wfree hW hW0 p (mem_at hj hp) (by rw [e]; exact hb)
theorem Ex.roOffC (h : Ex w0 (Av as00 No) (as0 ++ rt) w) (hW : ∀ k, W k → k < w0.heap.size) (hW0 : ∀ p, some p ∈ as00 → ¬ W p.block) (hb : W b) : ¬ Av as0 No b := fun hk => by
  rcases hk with hk | ⟨p, hp, e⟩
  · exact hk
  · exact h.wfree hW hW0 p (by simp [hp]) (by rw [e]; exact hb)
end
section
variable {n : Nat} {l : List (Nat × Value)} {L : List (Nat × Nat × Value)} {b : Nat → Bool} {a : Act} {w : World}
/-- a slot whose value is told elsewhere -/
theorem HasB.putR (h : HasB n l L b a) {d : Nat} (i : Nat) {v : Value} (hd : Nat.ble (d + 1) n = true) (hl : l.all (fun p => !Nat.beq p.1 d) = true) (hL : L.all (fun e => !Nat.beq e.2.1 d && !Nat.beq e.1 i) = true) : HasB n l L (fun j => b j || Nat.beq i j) (a.put (some d) v) := by
  have hp := h.has.put hd v
  refine ⟨⟨hp.sz, hp.df, fun t u hu' => ?_⟩, fun e he hb => ?_⟩
  · have hne : ¬ d = t := by
      rintro rfl
      rw [look_none hl] at hu'
      cases hu'
    exact hp.at_ t u (by simp only [look]; rw [beq_ne hne]; exact hu')
  · have h1 := List.all_eq_true.1 hL e he
    simp only [Bool.and_eq_true, Bool.not_eq_true'] at h1
    have h2 : Nat.beq i e.1 = false := beq_ne (fun h => by rw [h] at h1; rw [beq_self] at h1; cases h1.2)
    rw [h2, Bool.or_false] at hb
    rw [← h.up e he hb]
    refine put_other (beq_ne (fun h => by rw [h] at h1; rw [beq_self] at h1; cases h1.1))
/-- what is told of a slot, when its operation is done -/
def Sl (b : Nat → Bool) (a : Act) (j t : Nat) (Φ : Value → Prop) : Prop := b j = true → Φ (a.tmps.getD t undef)
theorem Sl.start {len j t : Nat} {Φ : Value → Prop} (h : Nat.blt j len = true) : Sl (fun j => !Nat.blt j len) a j t Φ := fun hb => by
  have hb : (!Nat.blt j len) = true := hb
  rw [h] at hb
  cases hb
theorem Sl.keep {i j d t : Nat} {v : Value} {Φ Φ' : Value → Prop} (h : Sl b a j t Φ) (hij : Nat.beq i j = false) (hdt : Nat.beq d t = false) (hm : ∀ v, Φ v → Φ' v) : Sl (fun j => b j || Nat.beq i j) (a.put (some d) v) j t Φ' := phi_keep h hij hdt hm
theorem Sl.new {i d : Nat} {v : Value} {Φ : Value → Prop} (ha : Has n l a) (hd : Nat.ble (d + 1) n = true) (h : Φ v) : Sl (fun j => b j || Nat.beq i j) (a.put (some d) v) i d Φ := phi_new ha hd h
end
end Go.Sx
