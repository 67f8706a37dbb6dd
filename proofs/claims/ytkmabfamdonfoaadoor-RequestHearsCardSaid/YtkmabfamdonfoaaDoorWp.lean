/- Own work. A part of the proof of a law of this seat: this seat's functions, by the machine, and the plain law -/
import Derived.Test.YtkmabfamdonfoaaDoorMe
import Derived.Test.YtkmabfamdonfoaaDoorWo
namespace Go.Mx
set_option linter.unusedVariables false
set_option linter.unusedSimpArgs false
open Go Go.RowKit Go.Sx Go.Proofs
set_option maxRecDepth 100000
theorem strOf_bytes (s : ByteArray) : strOf (bytesOf s) = s := by
  apply ByteArray.ext
  apply Array.toList_inj.1
  show (bytesOf s).map (fun n => UInt8.ofNat n.toNat) = s.data.toList
  unfold bytesOf
  rw [List.map_map]
  have : ∀ l : List UInt8, l.map ((fun n : Int => UInt8.ofNat n.toNat) ∘ fun u : UInt8 => (u.toNat : Int)) = l := by
    intro l
    induction l with
    | nil => rfl
    | cons u l ih =>
      rw [List.map_cons, ih]
      congr 1
      show UInt8.ofNat ((u.toNat : Int)).toNat = u
      rw [Int.toNat_natCast]
      exact UInt8.ofNat_toNat
  exact this _
theorem of_rs {x : RsV} (hb : rsBad x = false) : ofOk (rsB x) = true ∧ ofR (rsB x) = x := by
  obtain ⟨c, v, s⟩ := x
  unfold rsBad at hb
  simp only [Bool.or_eq_false_iff, decide_eq_false_iff_not] at hb
  obtain ⟨h1, h2, h3, h4, h5⟩ := hb
  obtain ⟨cn, rfl⟩ : ∃ n : Nat, c = n := ⟨c.toNat, by omega⟩
  have e0 : ([IntKind.u8.wrap (cn : Int)] : List Int) = pB (cn : Int) 1 := by
    rw [pB_cons cn 0 (by omega) (by omega), IntKind.wrap_u8]
    show [((cn : Int) % 256)] = [((cn % 256 : Nat) : Int)]
    rw [Int.natCast_emod]; rfl
  have eB : rsB ((cn : Int), v, s) = pB (cn : Int) 1 ++ (pB (((v % 4294967296).toNat : Nat) : Int) 4 ++ (pB ((s.size : Nat) : Int) 2 ++ bytesOf s)) := by
    unfold rsB
    dsimp only
    rw [e0, wholeN_nat, List.append_assoc]
  obtain ⟨a1, a2⟩ := num_back (n := cn) (m := 1) (by omega) (by omega) (by omega) (by omega) (pB (((v % 4294967296).toNat : Nat) : Int) 4 ++ (pB ((s.size : Nat) : Int) 2 ++ bytesOf s))
  obtain ⟨b1, b2⟩ := num_back (n := (v % 4294967296).toNat) (m := 4) (by have : (256 : Nat) ^ 4 = 4294967296 := rfl; omega) (by omega) (by omega) (by omega) (pB ((s.size : Nat) : Int) 2 ++ bytesOf s)
  obtain ⟨c1, c2⟩ := num_back (n := s.size) (m := 2) (by have : (256 : Nat) ^ 2 = 65536 := rfl; omega) (by omega) (by omega) (by omega) (bytesOf s)
  rw [show ((1 : Nat) : Int) = 1 from rfl] at a1 a2
  rw [show ((4 : Nat) : Int) = 4 from rfl] at b1 b2
  rw [show ((2 : Nat) : Int) = 2 from rfl] at c1 c2
  rw [eB]
  generalize hX : pB (cn : Int) 1 ++ (pB (((v % 4294967296).toNat : Nat) : Int) 4 ++ (pB ((s.size : Nat) : Int) 2 ++ bytesOf s)) = X at a1 a2
  have k1 : of1 X = (pB (((v % 4294967296).toNat : Nat) : Int) 4 ++ (pB ((s.size : Nat) : Int) 2 ++ bytesOf s), true, false) := a2
  have k2 : of2 X = (pB ((s.size : Nat) : Int) 2 ++ bytesOf s, true, false) := by unfold of2; rw [k1]; exact b2
  have kc : ofC X = cn := by
    unfold ofC newV
    rw [a1, wrapS (by omega)]
  have kv : wholeV (numV (of1 X) 4) = v := by
    rw [k1, b1]
    unfold wholeV
    rw [show IntKind.u32.wrap ((v % 4294967296).toNat : Int) = ((v % 4294967296).toNat : Int) by simp [IntKind.wrap, IntKind.bits, IntKind.signed]; omega, IntKind.wrap_i32, wrapS (by omega)]
    omega
  have n2 : numV (of2 X) 2 = s.size := by rw [k2]; exact c1
  have s2 : numS (of2 X) 2 = (bytesOf s, true, false) := by rw [k2]; exact c2
  have hz : bSize 2 = 2 := rfl
  have kt : ofT X = bytesOf s := by
    unfold ofT blobV
    rw [hz, n2, s2, wrapS (by omega)]
    unfold takeV
    rw [if_neg (by simp), if_neg (by rw [bytesOf_length]; omega), Int.toNat_natCast, List.take_of_length_le (by rw [bytesOf_length]; omega)]
  have k3 : of3 X = ([], true, false) := by
    unfold of3 blobS
    rw [hz, n2, s2, wrapS (by omega)]
    unfold takeS
    rw [if_neg (by simp), if_neg (by rw [bytesOf_length]; omega), Int.toNat_natCast, List.drop_of_length_le (by rw [bytesOf_length]; omega)]
  have ko : ofOk X = true := by
    unfold ofOk
    rw [k3, kc, decide_eq_false (show ¬ 18 < (cn : Int) by omega)]; rfl
  refine ⟨ko, ?_⟩
  unfold ofR
  rw [ko, kc, kv, kt, strOf_bytes]; rfl
theorem rsB_len (x : RsV) : (rsB x).length = 7 + x.2.2.size := by
  unfold rsB
  rw [List.length_append, List.length_append, List.length_append, pB_len, pB_len, bytesOf_length]
  show 1 + 4 + (2 + _) = _; omega
theorem la_run {R : Type} (K : KV R) (x : RsV) : (codeX Tryd.prog G3 lvN 0 Tryd.f3).run [.dat RsT x] [] K = K (.dat .bool true) [] := by
  refine (la_0 K x).trans ?_
  by_cases hl : 70000 < (x.2.2.size : Int)
  · rw [decide_eq_true hl]; rfl
  rw [decide_eq_false hl, cond_false, ck_pos (show x.2.2.size < 400000 by omega)]
  simp only [ck_pos (show x.2.2.size < 400000 by omega)]
  cases hb : rsBad x with
  | true => rfl
  | false =>
    obtain ⟨h1, h2⟩ := of_rs hb
    have h3 : ofE (rsB x) = 0 := by unfold ofE; rw [h1]; rfl
    simp only [cond_false]
    simp only [decide_true, Bool.not_true, cond_false]
    rw [ck_pos (by rw [rsB_len]; omega), h2, h3, decide_eq_true (Eq.refl (0 : Int)), decide_eq_true (Eq.refl x.1), decide_eq_true (Eq.refl x.2.1), decide_eq_true (Eq.refl x.2.2)]
    rfl
theorem all3 : AllOk Tryd.prog [(9, F9k), (10, F10r), (11, F10r), (12, F12o)] := ⟨F9k_ok, F10r_ok, F11r_ok, F12o_ok, trivial⟩
theorem RequestAnswers_ok : SumOk Tryd.prog 3 (codeX Tryd.prog G3 lvN 0 Tryd.f3) := codeX_ok mixed noNG_prog (sums_call all3) (sums_prim all3) rfl lvN 0
theorem RequestAnswers_law (x : RsV) (_ : (Lit.int .i64 x.1).wf = true ∧ (Lit.int .i64 x.2.1).wf = true ∧ x.2.2.size ≤ 140737488351232) : (codeX Tryd.prog G3 lvN 0 Tryd.f3).run [.dat RsT x] [] isTrue = some true := la_run isTrue x
end Go.Mx
