/- Own work. A part of the proof of a law of this seat: this seat's functions, by the machine, and the plain law -/
import Derived.Test.YtmljbiijlljhfaaWf
import Derived.Test.YtmljbiijlljhfaaWh
set_option linter.unusedSimpArgs false
set_option linter.unusedVariables false
namespace Go.Mx
open Go Go.RowKit Go.Sx Go.Proofs
set_option maxRecDepth 100000
theorem known_ok : Go.Proofs.Ytmljbiijlljhfaa.warderlaw02_known 20000 = some true := by kernel_rfl
theorem F10_ok : SumOk Try.prog 10 F10 := by
  refine ⟨?_, ?_⟩
  · intro R R' f args ob K
    unfold F10; dsimp only
    split <;> simp only [bd_none]
  · intro R args ob K r h W ρ w us hr ha
    unfold F10 at h; dsimp only at h
    split at h
    · cases ha
      refine .inr ⟨run_enter noNG_prog (fn := Try.f10) rfl rfl _ _, (Go.Proofs.Ytmljbiijlljhfaa.warderlaw02_known_c 20000 No w (fun _ h => h.elim) true known_ok).mono fun e w' he => ?_⟩
      cases e with
      | returned v =>
        obtain ⟨rfl, hEx⟩ := he
        have hf : Fr w w' No := hEx.fr.mono (fun k _ hk => by
          rcases hk with hk | ⟨p, hp, _⟩
          · exact hk
          · simp at hp)
        refine ⟨.dat .bool true, [], ρ, h, ⟨⟨fun i o hi => by simp at hi, fun i j o o' p q _ hi => by simp at hi, fun k hk => Nat.lt_of_lt_of_le (hr.wl k hk) hf.size, fun k hk => by obtain ⟨i, o, p, hi, _⟩ := hk; simp at hi⟩, hf.mono (fun k _ hk => hk.elim), fun k hk => by obtain ⟨i, o, p, hi, _⟩ := hk; simp at hi, fun i hi => rfl, Nat.le_refl _⟩, vr_boolI true⟩
      | panicked c => exact he.elim
      | outgrown => exact he.elim
    · cases h
/-! ### texts and their bytes -/
theorem bytes_str {b : List Int} (h : Bytes b) : bytesOf (strOf b) = b := by
  unfold bytesOf strOf strOfNums
  simp only [List.map_map]
  have : ∀ x ∈ b, ((fun u : UInt8 => (u.toNat : Int)) ∘ fun n : Int => UInt8.ofNat n.toNat) x = x := by
    intro x hx
    have := h x hx
    simp only [Function.comp]
    rw [UInt8.toNat_ofNat']
    omega
  simpa using List.map_congr_left (g := id) this
theorem str_bytes (s : ByteArray) : strOf (bytesOf s) = s := by
  unfold bytesOf strOf strOfNums
  apply ByteArray.ext
  simp only [List.map_map]
  have : List.map ((fun n : Int => UInt8.ofNat n.toNat) ∘ fun u : UInt8 => (u.toNat : Int)) s.data.toList = s.data.toList := by
    have h : ∀ x ∈ s.data.toList, ((fun n : Int => UInt8.ofNat n.toNat) ∘ fun u : UInt8 => (u.toNat : Int)) x = id x := by
      intro x _
      simp
    rw [List.map_congr_left h, List.map_id]
  rw [this]
theorem nib_or : ∀ a b : Fin 16, bits .or .u8 (shl .u8 ((a.val : Nat) : Int) 4) ((b.val : Nat) : Int) = ((16 * a.val + b.val : Nat) : Int) := by decide +kernel
theorem or_nib {a b : Int} (ha : 0 ≤ a ∧ a ≤ 15) (hb : 0 ≤ b ∧ b ≤ 15) : bits .or .u8 (shl .u8 a 4) b = 16 * a + b := by
  have h := nib_or ⟨a.toNat, by omega⟩ ⟨b.toNat, by omega⟩
  have e1 : ((a.toNat : Nat) : Int) = a := by omega
  have e2 : ((b.toNat : Nat) : Int) = b := by omega
  rw [show (((⟨a.toNat, by omega⟩ : Fin 16).val : Nat) : Int) = a from e1, show (((⟨b.toNat, by omega⟩ : Fin 16).val : Nat) : Int) = b from e2] at h
  rw [h]
  show ((16 * a.toNat + b.toNat : Nat) : Int) = _
  omega
theorem bits_u8 (a b : Int) : 0 ≤ bits .or .u8 a b ∧ bits .or .u8 a b < 256 := by
  have h : ∃ z, bits .or .u8 a b = IntKind.u8.wrap z := ⟨_, rfl⟩
  obtain ⟨z, hz⟩ := h
  rw [hz, IntKind.wrap_u8]; omega
theorem bytesP_range : ∀ l : List Int, Bytes (bytesP l)
  | [] => fun x hx => by simp [bytesP] at hx
  | [_] => fun x hx => by simp [bytesP] at hx
  | hi :: lo :: r => fun x hx => by
    rw [bytesP] at hx
    rcases List.mem_cons.1 hx with rfl | hx
    · exact bits_u8 _ _
    · exact bytesP_range r x hx
theorem bytesP_len : ∀ l : List Int, (bytesP l).length = l.length / 2
  | [] => by simp [bytesP]
  | [_] => by simp [bytesP]
  | hi :: lo :: r => by rw [bytesP, List.length_cons, bytesP_len r, List.length_cons, List.length_cons]; omega
theorem flat_len : ∀ l : List Int, (flat l).length = 2 * l.length
  | [] => rfl
  | c :: r => by rw [flat, List.length_cons, List.length_cons, flat_len r, List.length_cons]; omega
theorem flat_nib : ∀ {l : List Int}, Bytes l → ∀ x ∈ flat l, 0 ≤ x ∧ x ≤ 15
  | [], _ => fun x hx => by simp [flat] at hx
  | c :: r, h => fun x hx => by
    have hc := h c (by simp)
    rw [flat] at hx
    rcases List.mem_cons.1 hx with rfl | hx
    · omega
    · rcases List.mem_cons.1 hx with rfl | hx
      · omega
      · exact flat_nib (fun y hy => h y (by simp [hy])) x hx
theorem bytesP_flat : ∀ {l : List Int}, Bytes l → bytesP (flat l) = l
  | [], _ => by simp [flat, bytesP]
  | c :: r, h => by
    have hc := h c (by simp)
    rw [flat, bytesP, or_nib (by omega) (by omega), bytesP_flat (fun y hy => h y (by simp [hy]))]
    congr 1
    omega
theorem ofV_len (x : XV) : (ofV x).length = 7 + 2 * x.2.size := by
  have : (headV x).length = 7 := rfl
  unfold ofV
  rw [List.length_append, this, flat_len, bytesOf_len]
theorem ofV_bytes {x : XV} (h : mayV x = true) : Bytes (ofV x) := by
  obtain ⟨h1, h2, h3, h4⟩ := may_range h
  have hh := hashv_lt x
  intro y hy
  unfold ofV at hy
  rcases List.mem_append.1 hy with hy | hy
  · unfold headV at hy
    simp only [List.cons_append, List.nil_append, List.mem_cons, List.not_mem_nil, or_false] at hy
    rcases hy with rfl | rfl | rfl | rfl | rfl | rfl | rfl <;> omega
  · have := flat_nib (bytesOf_range x.2) y hy
    omega
theorem ofV_drop (x : XV) : (ofV x).drop 7 = flat (bytesOf x.2) := rfl
theorem ofV_six (x : XV) : (ofV x).getD 6 0 = x.1 := rfl
theorem xP_of (x : XV) : xP (ofV x) = x := by
  unfold xP
  rw [ofV_drop, ofV_six, bytesP_flat (bytesOf_range x.2), str_bytes]
theorem read_of {x : XV} (h : mayV x = true) : readP (ofV x) = some x := by
  unfold readP
  rw [xP_of, if_pos ⟨by rw [ofV_len]; omega, by rw [ofV_len]; omega, h, rfl⟩]
theorem read_some {l : List Int} {x : XV} (h : readP l = some x) : mayV x = true ∧ ofV x = l ∧ x = xP l ∧ l.length % 2 = 1 := by
  unfold readP at h
  split at h
  · rename_i hc
    obtain rfl := Option.some.inj h
    exact ⟨hc.2.2.1, hc.2.2.2, rfl, hc.2.1⟩
  · cases h
end Go.Mx
