/- Own work. A part of the proof of a law of this seat: this seat's functions, by the machine, and the plain law -/
import Derived.Test.YtkmabfamdonfoaaDoorMe
import Derived.Test.YtkmabfamdonfoaaDoorWa
import Derived.Test.YtkmabfamdonfoaaDoorWq
namespace Go.Mx
set_option linter.unusedVariables false
open Go Go.RowKit Go.Sx Go.Proofs
set_option maxRecDepth 100000
theorem pB_leN : ∀ {l : List Int}, Bytes l → l.length ≤ 8 → pB (leN l : Int) l.length = l
  | [], _, _ => rfl
  | x :: l, hb, h8 => by
    have hx := hb x (by simp)
    have hl : Bytes l := fun y hy => hb y (by simp [hy])
    have hlt := leN_lt hl
    have h8' : l.length ≤ 7 := by simpa using h8
    have hp : (256 : Nat) ^ l.length ≤ 256 ^ 7 := Nat.pow_le_pow_right (by decide) h8'
    have h7 : (256 : Nat) ^ 7 = 72057594037927936 := rfl
    have e : leN (x :: l) = x.toNat + 256 * leN l := rfl
    rw [List.length_cons, pB_cons (leN (x :: l)) l.length (by omega) h8']
    rw [show leN (x :: l) % 256 = x.toNat by omega, show leN (x :: l) / 256 = leN l by omega, pB_leN hl (by omega)]
    congr 1
    omega
theorem num_split {b : List Int} (hb : Bytes b) {m : Nat} (h1 : 1 ≤ m) (h8 : m ≤ 7) : (∃ n : Nat, n < 256 ^ m ∧ b = pB (n : Int) m ++ b.drop m ∧ numV ((b, true, false) : RV) (m : Int) = n ∧ numS ((b, true, false) : RV) (m : Int) = (b.drop m, true, false)) ∨ numS ((b, true, false) : RV) (m : Int) = ([], true, true) := by
  by_cases h : m ≤ b.length
  · left
    have ht : (b.take m).length = m := by rw [List.length_take]; omega
    have hbt : Bytes (b.take m) := bytes_take hb m
    have hlt := leN_lt hbt
    have hp := pB_leN hbt (by omega)
    rw [ht] at hlt hp
    have hp7 : (256 : Nat) ^ m ≤ 256 ^ 7 := Nat.pow_le_pow_right (by decide) h8
    have h7 : (256 : Nat) ^ 7 = 72057594037927936 := rfl
    have e : b = pB (leN (b.take m) : Int) m ++ b.drop m := by rw [hp]; exact (List.take_append_drop m b).symm
    obtain ⟨a1, a2⟩ := num_back hlt (by omega) h1 (by omega) (b.drop m)
    rw [← e] at a1 a2
    exact ⟨leN (b.take m), hlt, e, a1, a2⟩
  · right
    have hs : sizeOk (m : Int) = m := by unfold sizeOk; rw [if_neg (by omega)]
    unfold numS
    rw [hs]
    unfold takeS
    rw [if_neg (by simp), if_pos (by right; show (b.length : Int) < m; omega)]
theorem bytesOf_str {l : List Int} (h : Bytes l) : bytesOf (strOf l) = l := by
  refine (strOf_inj (bytesOf_range _) h).1 ?_
  exact strOf_bytes _
theorem bad_end {x : RV} (h : x = ([], true, true)) : endV x = 16 := by subst h; rfl
theorem hears {b : List Int} (hb : Bytes b) (hl : b.length < 100000) (ho : ofOk b = true) : rsBad (ofR b) = false ∧ rsB (ofR b) = b := by
  have hc0 := ho
  unfold ofOk at ho
  rw [Bool.and_eq_true, decide_eq_true_eq, Bool.not_eq_true', decide_eq_false_iff_not] at ho
  obtain ⟨he, h18⟩ := ho
  have bad1 : ∀ n : Int, numS (([], true, true) : RV) n = ([], true, true) := fun n => by unfold numS takeS; rw [if_pos (by rfl)]
  have bad2 : ∀ n : Int, blobS (([], true, true) : RV) n = ([], true, true) := fun n => by unfold blobS; rw [bad1]; unfold takeS; rw [if_pos (by rfl)]
  rcases num_split hb (m := 1) (by omega) (by omega) with ⟨c, c1, c2, c3, c4⟩ | c4
  · rw [show ((1 : Nat) : Int) = 1 from rfl] at c3 c4
    have k1 : of1 b = (b.drop 1, true, false) := c4
    have hb1 : Bytes (b.drop 1) := bytes_drop hb 1
    generalize b.drop 1 = b1 at c2 k1 hb1
    rcases num_split hb1 (m := 4) (by omega) (by omega) with ⟨v, v1, v2, v3, v4⟩ | v4
    · rw [show ((4 : Nat) : Int) = 4 from rfl] at v3 v4
      have k2 : of2 b = (b1.drop 4, true, false) := by unfold of2; rw [k1]; exact v4
      have hb2 : Bytes (b1.drop 4) := bytes_drop hb1 4
      generalize b1.drop 4 = b2 at v2 k2 hb2
      rcases num_split hb2 (m := 2) (by omega) (by omega) with ⟨s, s1, s2, s3, s4⟩ | s4
      · rw [show ((2 : Nat) : Int) = 2 from rfl] at s3 s4
        have hb3 : Bytes (b2.drop 2) := bytes_drop hb2 2
        generalize b2.drop 2 = b3 at s2 s4 hb3
        have s256 : (256 : Nat) ^ 2 = 65536 := rfl
        have v256 : (256 : Nat) ^ 4 = 4294967296 := rfl
        have c256 : (256 : Nat) ^ 1 = 256 := rfl
        have k3 : of3 b = takeS (b3, true, false) (s : Int) := by
          unfold of3 blobS
          rw [k2, show bSize 2 = 2 from rfl, s4, s3, wrapS (by omega)]
        have kt : ofT b = takeV (b3, true, false) (s : Int) := by
          unfold ofT blobV
          rw [k2, show bSize 2 = 2 from rfl, s4, s3, wrapS (by omega)]
        have hlen : b3.length = s := by
          rw [k3] at he
          unfold takeS at he
          rw [if_neg (by simp)] at he
          split at he
          · rename_i hx; exact absurd (show (16 : Int) = 0 from he) (by decide)
          · rename_i hx
            unfold endV at he
            simp only [Bool.not_true, cond_false, List.length_drop] at he
            by_cases h0 : (0 : Int) < ((b3.length - (s : Int).toNat : Nat) : Int)
            · rw [decide_eq_true h0] at he; exact absurd he (by decide)
            · simp only [not_or] at hx
              omega
        have kt' : ofT b = b3 := by
          rw [kt]
          unfold takeV
          rw [if_neg (by simp), if_neg (by show ¬ ((s : Int) < 0 ∨ (b3.length : Int) < s); omega), Int.toNat_natCast]
          exact List.take_of_length_le (show b3.length ≤ s by omega)
        have kc : ofC b = c := by
          unfold ofC
          rw [show numV (newV b) 1 = (c : Int) from c3, wrapS (by omega)]
        have kv : numV (of1 b) 4 = v := by rw [k1]; exact v3
        have kR : ofR b = ((c : Int), wholeV (v : Int), strOf b3) := by
          unfold ofR
          rw [hc0, kc, kv, kt']; rfl
        have hsz : (strOf b3).size = s := by rw [strOf_size, hlen]
        have hw : wholeV (v : Int) = if v < 2147483648 then (v : Int) else (v : Int) - 4294967296 := by
          unfold wholeV
          rw [show IntKind.u32.wrap (v : Int) = (v : Int) by simp [IntKind.wrap, IntKind.bits, IntKind.signed]; omega, IntKind.wrap_i32, wrapS (by omega)]
          split <;> omega
        rw [kR]
        constructor
        · unfold rsBad
          rw [kc] at h18
          dsimp only
          rw [decide_eq_false (show ¬ (c : Int) < 0 by omega), decide_eq_false (show ¬ 18 < (c : Int) from h18), hsz, decide_eq_false (show ¬ 65535 < ((s : Nat) : Int) by omega), hw]
          split
          · rw [decide_eq_false (by omega), decide_eq_false (by omega)]; rfl
          · rw [decide_eq_false (by omega), decide_eq_false (by omega)]; rfl
        · unfold rsB
          dsimp only
          rw [bytesOf_str hb3, hsz, ← s2, wholeN_nat]
          have e2 : (wholeV (v : Int) % 4294967296).toNat = v := by rw [hw]; split <;> omega
          rw [e2, List.append_assoc, ← v2]
          have e0 : ([IntKind.u8.wrap (c : Int)] : List Int) = pB (c : Int) 1 := by
            rw [pB_cons c 0 (by omega) (by omega), IntKind.wrap_u8]
            show [((c : Int) % 256)] = [((c % 256 : Nat) : Int)]
            rw [Int.natCast_emod]; rfl
          rw [e0]
          exact c2.symm
      · exfalso
        rw [show ((2 : Nat) : Int) = 2 from rfl] at s4
        have : of3 b = ([], true, true) := by
          unfold of3 blobS
          rw [k2, show bSize 2 = 2 from rfl, s4]
          unfold takeS; rw [if_pos (by rfl)]
        rw [bad_end this] at he; exact absurd he (by decide)
    · exfalso
      rw [show ((4 : Nat) : Int) = 4 from rfl] at v4
      have : of3 b = ([], true, true) := by
        unfold of3 of2
        rw [k1, v4, bad2]
      rw [bad_end this] at he; exact absurd he (by decide)
  · exfalso
    rw [show ((1 : Nat) : Int) = 1 from rfl] at c4
    have : of3 b = ([], true, true) := by
      unfold of3 of2 of1
      rw [show numS (newV b) 1 = ([], true, true) from c4, bad1, bad2]
    rw [bad_end this] at he; exact absurd he (by decide)
theorem lh_run {R : Type} (K : KV R) (b : List Int) (hb : Bytes b) : (codeX Tryd.prog G4 lvN 0 Tryd.f4).run [.dat BL b] [] K = K (.dat .bool true) [] := by
  refine (lh_0 K b).trans ?_
  by_cases hl : 2000 < (b.length : Int)
  · rw [decide_eq_true hl]; rfl
  obtain ⟨e1, e2, e3⟩ := of_rof hb (show b.length < 100000 by omega)
  rw [decide_eq_false hl, cond_false, ck_pos (by omega), ck_pos ⟨by omega, e3⟩, ← e1, ← e2]
  simp only [decide_true, Bool.and_true, Bool.not_true, cond_false]
  cases ho : ofOk b with
  | false =>
    have : ofE b = 2 := by unfold ofE; rw [ho]; rfl
    rw [this]; rfl
  | true =>
    have : ofE b = 0 := by unfold ofE; rw [ho]; rfl
    obtain ⟨h1, h2⟩ := hears hb (by omega) ho
    have hsz : (ofR b).2.2.size < 400000 := by
      have := rsB_len (ofR b)
      rw [h2] at this; omega
    rw [this, h1, h2, ck_pos hsz]
    simp only [decide_true, Bool.not_true, cond_false, cond_true]
theorem all4 : AllOk Tryd.prog [(9, F9k), (11, F10r), (12, F12o), (13, F13o)] := ⟨F9k_ok, F11r_ok, F12o_ok, F13o_ok, trivial⟩
theorem RequestHears_ok : SumOk Tryd.prog 4 (codeX Tryd.prog G4 lvN 0 Tryd.f4) := codeX_ok mixed noNG_prog (sums_call all4) (sums_prim all4) rfl lvN 0
theorem RequestHears_law (b : List Int) (hb : b.length ≤ 140737488351232 ∧ ∀ x ∈ b, (Lit.int .u8 x).wf = true) : (codeX Tryd.prog G4 lvN 0 Tryd.f4).run [.dat BL b] [] isTrue = some true := lh_run isTrue b (fun x hx => wf8 (hb.2 x hx))
end Go.Mx
