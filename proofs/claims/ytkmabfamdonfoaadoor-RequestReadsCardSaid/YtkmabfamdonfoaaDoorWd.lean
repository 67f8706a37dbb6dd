/- Own work. A part of the proof of a law of this seat: this seat's functions, by the machine, and the plain law. -/
import Derived.Test.YtkmabfamdonfoaaDoorWc
import Derived.Test.YtkmabfamdonfoaaDoorWb
import Derived.Test.YtkmabfamdonfoaaDoorMf
set_option linter.unusedVariables false
set_option linter.unusedSimpArgs false
set_option linter.unusedSectionVars false
namespace Go.Mx
open Go Go.RowKit Go.Sx
set_option maxRecDepth 100000
abbrev inW (v : Int) : Prop := -2147483648 ≤ v ∧ v ≤ 2147483647
abbrev inB (v : Int) : Prop := 0 ≤ v ∧ v < 256
abbrev inM (v : Int) : Prop := 0 ≤ v ∧ v < 4294967296
abbrev inT (v : Int) : Prop := 0 ≤ v ∧ v < 18446744073709551616
def okP : PK → CV → Prop
  | .key, c => inW c.2.1
  | .ring, c => inW c.2.2.1
  | .to, c => inW c.2.2.2.1
  | .typ, c => inB c.2.2.2.2.1.1
  | .desc, c => ByteArray.size c.2.2.2.2.1.2 < 256
  | .payload, c => ByteArray.size c.2.2.2.2.2.1 < 65536
  | .perm, c => inM c.2.2.2.2.2.2.1
  | .uid, c => inB c.2.2.2.2.2.2.2.1
  | .gid, c => inB c.2.2.2.2.2.2.2.2.1
  | .time, c => inT c.2.2.2.2.2.2.2.2.2.1
  | .restrict, c => inB c.2.2.2.2.2.2.2.2.2.2.1
  | .create, _ => True
def setP : PK → CV → CV → CV
  | .key, d, c => (c.1, d.2.1, c.2.2)
  | .ring, d, c => (c.1, c.2.1, d.2.2.1, c.2.2.2)
  | .to, d, c => (c.1, c.2.1, c.2.2.1, d.2.2.2.1, c.2.2.2.2)
  | .typ, d, c => (c.1, c.2.1, c.2.2.1, c.2.2.2.1, (d.2.2.2.2.1.1, c.2.2.2.2.1.2), c.2.2.2.2.2)
  | .desc, d, c => (c.1, c.2.1, c.2.2.1, c.2.2.2.1, (c.2.2.2.2.1.1, d.2.2.2.2.1.2), c.2.2.2.2.2)
  | .payload, d, c => (c.1, c.2.1, c.2.2.1, c.2.2.2.1, c.2.2.2.2.1, d.2.2.2.2.2.1, c.2.2.2.2.2.2)
  | .perm, d, c => (c.1, c.2.1, c.2.2.1, c.2.2.2.1, c.2.2.2.2.1, c.2.2.2.2.2.1, d.2.2.2.2.2.2.1, c.2.2.2.2.2.2.2)
  | .uid, d, c => (c.1, c.2.1, c.2.2.1, c.2.2.2.1, c.2.2.2.2.1, c.2.2.2.2.2.1, c.2.2.2.2.2.2.1, d.2.2.2.2.2.2.2.1, c.2.2.2.2.2.2.2.2)
  | .gid, d, c => (c.1, c.2.1, c.2.2.1, c.2.2.2.1, c.2.2.2.2.1, c.2.2.2.2.2.1, c.2.2.2.2.2.2.1, c.2.2.2.2.2.2.2.1, d.2.2.2.2.2.2.2.2.1, c.2.2.2.2.2.2.2.2.2)
  | .time, d, c => (c.1, c.2.1, c.2.2.1, c.2.2.2.1, c.2.2.2.2.1, c.2.2.2.2.2.1, c.2.2.2.2.2.2.1, c.2.2.2.2.2.2.2.1, c.2.2.2.2.2.2.2.2.1, d.2.2.2.2.2.2.2.2.2.1, c.2.2.2.2.2.2.2.2.2.2)
  | .restrict, d, c => (c.1, c.2.1, c.2.2.1, c.2.2.2.1, c.2.2.2.2.1, c.2.2.2.2.2.1, c.2.2.2.2.2.2.1, c.2.2.2.2.2.2.2.1, c.2.2.2.2.2.2.2.2.1, c.2.2.2.2.2.2.2.2.2.1, d.2.2.2.2.2.2.2.2.2.2.1, c.2.2.2.2.2.2.2.2.2.2.2)
  | .create, d, c => (c.1, c.2.1, c.2.2.1, c.2.2.2.1, c.2.2.2.2.1, c.2.2.2.2.2.1, c.2.2.2.2.2.2.1, c.2.2.2.2.2.2.2.1, c.2.2.2.2.2.2.2.2.1, c.2.2.2.2.2.2.2.2.2.1, c.2.2.2.2.2.2.2.2.2.2.1, d.2.2.2.2.2.2.2.2.2.2.2)
theorem num_int {v : Int} {m : Nat} (h0 : 0 ≤ v) (hm : v < ((256 ^ m : Nat) : Int)) (h2 : v < 18446744073709551616) (h1 : 1 ≤ m) (h8 : m ≤ 8) (r : List Int) : numV ((pB v m ++ r, true, false) : RV) (m : Int) = v ∧ numS ((pB v m ++ r, true, false) : RV) (m : Int) = (r, true, false) := by
  obtain ⟨n, rfl⟩ : ∃ n : Nat, v = (n : Int) := ⟨v.toNat, by omega⟩
  exact num_back (by omega) (by omega) h1 h8 r
theorem pBad_no2 {v : Int} {m : Nat} (h0 : 0 ≤ v) (hm : v < ((256 ^ m : Nat) : Int)) (h2 : v < 18446744073709551616) (h1 : 1 ≤ m) (h8 : m ≤ 8) : pBad v (m : Int) = false := by
  rw [pBad_eq ⟨h0, h2⟩ (by omega) (by omega), Int.toNat_natCast]
  have : v / (256 : Int) ^ m = 0 := Int.ediv_eq_zero_of_lt h0 (by rw [show (256 : Int) ^ m = ((256 ^ m : Nat) : Int) by simp]; exact hm)
  rw [this]; rfl
theorem whole_int {v : Int} (h : -2147483648 ≤ v ∧ v ≤ 2147483647) (r : List Int) : whBad v = false ∧ wholeV (numV ((pB (wholeN v) 4 ++ r, true, false) : RV) 4) = v ∧ numS ((pB (wholeN v) 4 ++ r, true, false) : RV) 4 = (r, true, false) := by
  have hw : wholeN v = v % 4294967296 := by rw [wholeN_nat]; omega
  obtain ⟨a1, a2⟩ := num_int (v := wholeN v) (m := 4) (by omega) (by rw [show (256 ^ 4 : Nat) = 4294967296 from rfl]; omega) (by omega) (by omega) (by omega) r
  refine ⟨?_, ?_, a2⟩
  · unfold whBad
    rw [decide_eq_false (show ¬ v < -2147483648 by omega), decide_eq_false (show ¬ 2147483647 < v by omega), Bool.false_or, Bool.false_or]
    exact pBad_no2 (m := 4) (by omega) (by rw [show (256 ^ 4 : Nat) = 4294967296 from rfl]; omega) (by omega) (by omega) (by omega)
  · rw [show numV ((pB (wholeN v) 4 ++ r, true, false) : RV) 4 = wholeN v from a1]
    unfold wholeV
    rw [show IntKind.u32.wrap (wholeN v) = wholeN v by rw [IntKind.wrap_u32]; omega, IntKind.wrap_i32, hw, wrapS (by omega)]
    omega
theorem byte_int {v : Int} (h : 0 ≤ v ∧ v < 256) (r : List Int) : pBad (IntKind.wrap .u64 v) 1 = false ∧ IntKind.wrap .i64 (numV ((pB (IntKind.wrap .u64 v) 1 ++ r, true, false) : RV) 1) = v ∧ numS ((pB (IntKind.wrap .u64 v) 1 ++ r, true, false) : RV) 1 = (r, true, false) := by
  have hw : IntKind.wrap .u64 v = v := by rw [IntKind.wrap_u64]; omega
  rw [hw]
  obtain ⟨a1, a2⟩ := num_int (v := v) (m := 1) (by omega) (by rw [show (256 ^ 1 : Nat) = 256 from rfl]; omega) (by omega) (by omega) (by omega) r
  refine ⟨pBad_no2 (m := 1) (by omega) (by rw [show (256 ^ 1 : Nat) = 256 from rfl]; omega) (by omega) (by omega) (by omega), ?_, a2⟩
  rw [show numV ((pB v 1 ++ r, true, false) : RV) 1 = v from a1, wrapS (by omega)]
theorem blob_int {s : ByteArray} {m : Nat} (hm : m = 1 ∨ m = 2) (h : s.size < 256 ^ m) (r : List Int) : blE (bytesOf s) (m : Int) = 0 ∧ blobV ((pB (((bytesOf s).length : Nat) : Int) m ++ bytesOf s ++ r, true, false) : RV) (m : Int) = bytesOf s ∧ blobS ((pB (((bytesOf s).length : Nat) : Int) m ++ bytesOf s ++ r, true, false) : RV) (m : Int) = (r, true, false) := by
  have hl := bytesOf_length s
  have h2 : (256 : Nat) ^ m ≤ 65536 := by rcases hm with rfl | rfl <;> decide
  have hb : bSize (m : Int) = (m : Int) := by unfold bSize; rw [if_neg (by omega)]
  obtain ⟨a1, a2⟩ := num_back (n := (bytesOf s).length) (m := m) (by rw [hl]; exact h) (by omega) (by omega) (by omega) (bytesOf s ++ r)
  rw [List.append_assoc]
  refine ⟨?_, ?_, ?_⟩
  · unfold blE
    have hsh : shl .i64 1 (IntKind.i64.wrap (8 * (m : Int))) = ((256 ^ m : Nat) : Int) := by rcases hm with rfl | rfl <;> decide +kernel
    rw [hsh, decide_eq_false (show ¬ ((256 ^ m : Nat) : Int) ≤ (((bytesOf s).length : Nat) : Int) by omega), cond_false]
    rcases hm with rfl | rfl <;> rfl
  · unfold blobV
    rw [hb, a1, a2, wrapS (by omega)]
    unfold takeV
    rw [if_neg (by simp), if_neg (by show ¬ ((((bytesOf s).length : Nat) : Int) < 0 ∨ (((bytesOf s ++ r).length : Nat) : Int) < (((bytesOf s).length : Nat) : Int)); rw [List.length_append]; omega), Int.toNat_natCast]
    exact List.take_left
  · unfold blobS
    rw [hb, a1, a2, wrapS (by omega)]
    unfold takeS
    rw [if_neg (by simp), if_neg (by show ¬ ((((bytesOf s).length : Nat) : Int) < 0 ∨ (((bytesOf s ++ r).length : Nat) : Int) < (((bytesOf s).length : Nat) : Int)); rw [List.length_append]; omega), Int.toNat_natCast]
    show ((bytesOf s ++ r).drop (bytesOf s).length, true, false) = _
    rw [List.drop_left]
theorem perm_int {v : Int} (h : 0 ≤ v ∧ v < 4294967296) (r : List Int) : IntKind.wrap .u64 v = v ∧ pBad v 4 = false ∧ numV ((pB v 4 ++ r, true, false) : RV) 4 = v ∧ numS ((pB v 4 ++ r, true, false) : RV) 4 = (r, true, false) ∧ IntKind.wrap .u32 v = v := by
  obtain ⟨e2, e3⟩ := num_int (v := v) (m := 4) h.1 (by rw [show (256 ^ 4 : Nat) = 4294967296 from rfl]; omega) (by omega) (by omega) (by omega) r
  exact ⟨by rw [IntKind.wrap_u64]; omega, pBad_no2 (m := 4) h.1 (by rw [show (256 ^ 4 : Nat) = 4294967296 from rfl]; omega) (by omega) (by omega) (by omega), e2, e3, by rw [IntKind.wrap_u32]; omega⟩
theorem time_int {v : Int} (h : 0 ≤ v ∧ v < 18446744073709551616) (r : List Int) : numV ((pB v 8 ++ r, true, false) : RV) 8 = v ∧ numS ((pB v 8 ++ r, true, false) : RV) 8 = (r, true, false) := num_int (v := v) (m := 8) h.1 (by rw [show (256 ^ 8 : Nat) = 18446744073709551616 from rfl]; omega) h.2 (by omega) (by omega) r
theorem rd_enc (p : PK) (c c0 : CV) (h : okP p c) (r : List Int) : rdC p c0 (encP p c ++ r, true, false) = setP p c c0 ∧ rdS p (encP p c ++ r, true, false) = (r, true, false) := by
  obtain ⟨o, key, ring, to, ⟨typ, desc⟩, payload, perm, uid, gid, time, restrict, create⟩ := c
  cases p with
  | key =>
    obtain ⟨e1, e2, e3⟩ := whole_int (v := key) h r
    simp only [encP, rdC, rdS, setP, e1, cond_false, e2, e3, and_self]
  | ring =>
    obtain ⟨e1, e2, e3⟩ := whole_int (v := ring) h r
    simp only [encP, rdC, rdS, setP, e1, cond_false, e2, e3, and_self]
  | to =>
    obtain ⟨e1, e2, e3⟩ := whole_int (v := to) h r
    simp only [encP, rdC, rdS, setP, e1, cond_false, e2, e3, and_self]
  | typ =>
    obtain ⟨e1, e2, e3⟩ := byte_int (v := typ) h r
    simp only [encP, rdC, rdS, setP, e1, cond_false, e2, e3, and_self]
  | uid =>
    obtain ⟨e1, e2, e3⟩ := byte_int (v := uid) h r
    simp only [encP, rdC, rdS, setP, e1, cond_false, e2, e3, and_self]
  | gid =>
    obtain ⟨e1, e2, e3⟩ := byte_int (v := gid) h r
    simp only [encP, rdC, rdS, setP, e1, cond_false, e2, e3, and_self]
  | restrict =>
    obtain ⟨e1, e2, e3⟩ := byte_int (v := restrict) h r
    simp only [encP, rdC, rdS, setP, e1, cond_false, e2, e3, and_self]
  | desc =>
    obtain ⟨e1, e2, e3⟩ := blob_int (s := desc) (m := 1) (.inl rfl) h r
    rw [show ((1 : Nat) : Int) = 1 from rfl] at e1 e2 e3
    simp only [encP, rdC, rdS, setP, e1, decide_true, cond_true, e2, e3, strOf_bytes, and_self]
  | payload =>
    obtain ⟨e1, e2, e3⟩ := blob_int (s := payload) (m := 2) (.inr rfl) h r
    rw [show ((2 : Nat) : Int) = 2 from rfl] at e1 e2 e3
    simp only [encP, rdC, rdS, setP, e1, decide_true, cond_true, e2, e3, strOf_bytes, and_self]
  | perm =>
    obtain ⟨hw, e1, e2, e3, e4⟩ := perm_int (v := perm) h r
    simp only [encP, rdC, rdS, setP, hw, e1, cond_false, e2, e3, e4, and_self]
  | time =>
    obtain ⟨e2, e3⟩ := time_int (v := time) h r
    simp only [encP, rdC, rdS, setP, e2, e3, and_self]
  | create =>
    obtain ⟨e2, e3⟩ := num_int (v := 1) (m := 1) (by omega) (by decide) (by omega) (by omega) (by omega) r
    obtain ⟨e4, e5⟩ := num_int (v := 0) (m := 1) (by omega) (by decide) (by omega) (by omega) (by omega) r
    rw [show ((1 : Nat) : Int) = 1 from rfl] at e2 e3 e4 e5
    cases create with
    | true => simp only [encP, rdC, rdS, setP, cond_true, e2, e3]; exact ⟨rfl, trivial⟩
    | false => simp only [encP, rdC, rdS, setP, cond_false, e4, e5]; exact ⟨rfl, trivial⟩
end Go.Mx
namespace Go.Mx
open Go Go.RowKit Go.Sx
set_option maxRecDepth 100000
theorem takeV_len2 (x : RV) (n : Int) : (takeV x n).length ≤ n.toNat := by
  unfold takeV
  split
  · exact Nat.zero_le _
  · split
    · exact Nat.zero_le _
    · rw [List.length_take]; omega
theorem takeV_bytes {x : RV} (h : Bytes x.1) (n : Int) : Bytes (takeV x n) := by
  unfold takeV
  split
  · intro y hy; cases hy
  · split
    · intro y hy; cases hy
    · exact fun y hy => h y (List.mem_of_mem_take hy)
theorem takeS_bytes {x : RV} (h : Bytes x.1) (n : Int) : Bytes (takeS x n).1 := by
  unfold takeS
  split
  · exact h
  · split
    · intro y hy; cases hy
    · exact fun y hy => h y (List.mem_of_mem_drop hy)
theorem numV_lt {x : RV} (h : Bytes x.1) {m : Nat} (h1 : 1 ≤ m) (h8 : m ≤ 8) : 0 ≤ numV x (m : Int) ∧ numV x (m : Int) < ((256 ^ m : Nat) : Int) := by
  have hs : sizeOk (m : Int) = m := by unfold sizeOk; rw [if_neg (by omega)]
  have hl := takeV_len2 x (m : Int)
  rw [Int.toNat_natCast] at hl
  have hb := takeV_bytes h (m : Int)
  unfold numV
  rw [hs, num_le hb (by omega)]
  have h2 := leN_lt hb
  have h3 : (256 : Nat) ^ (takeV x (m : Int)).length ≤ 256 ^ m := Nat.pow_le_pow_right (by decide) hl
  omega
theorem rdS_bytes {x : RV} (h : Bytes x.1) (p : PK) : Bytes (rdS p x).1 := by
  have hn : ∀ n, Bytes (numS x n).1 := fun n => takeS_bytes h _
  have hb : ∀ n, Bytes (blobS x n).1 := fun n => takeS_bytes (hn _) _
  cases p
  all_goals first | exact hn _ | exact hb _
theorem blobV_lt {x : RV} (h : Bytes x.1) {m : Nat} (hm : m = 1 ∨ m = 2) : (blobV x (m : Int)).length < 256 ^ m := by
  have hb : bSize (m : Int) = (m : Int) := by unfold bSize; rw [if_neg (by omega)]
  obtain ⟨h1, h2⟩ := numV_lt h (m := m) (by omega) (by omega)
  have hl := takeV_len2 (numS x (m : Int)) (IntKind.i64.wrap (numV x (m : Int)))
  have h3 : (256 : Nat) ^ m ≤ 65536 := by rcases hm with rfl | rfl <;> decide
  rw [wrapS (by omega)] at hl
  unfold blobV
  rw [hb, wrapS (by omega)]
  omega
theorem whole_rng (n : Int) : -2147483648 ≤ wholeV n ∧ wholeV n ≤ 2147483647 := by
  unfold wholeV
  rw [IntKind.wrap_i32, wrapS (by omega)]
  omega
theorem rd_ok (p : PK) (c : CV) {x : RV} (h : Bytes x.1) : okP p (rdC p c x) := by
  have b1 : 0 ≤ IntKind.wrap .i64 (numV x 1) ∧ IntKind.wrap .i64 (numV x 1) < 256 := by
    obtain ⟨h1, h2⟩ := numV_lt h (m := 1) (by omega) (by omega)
    rw [show ((1 : Nat) : Int) = 1 from rfl, show ((256 ^ 1 : Nat) : Int) = 256 from rfl] at *
    rw [wrapS (by omega)]
    omega
  cases p with
  | key => exact whole_rng _
  | ring => exact whole_rng _
  | to => exact whole_rng _
  | typ => exact b1
  | uid => exact b1
  | gid => exact b1
  | restrict => exact b1
  | desc =>
    show ByteArray.size (strOf (blobV x 1)) < 256
    rw [strOf_size]
    exact blobV_lt h (m := 1) (.inl rfl)
  | payload =>
    show ByteArray.size (strOf (blobV x 2)) < 65536
    rw [strOf_size]
    exact blobV_lt h (m := 2) (.inr rfl)
  | perm =>
    show 0 ≤ IntKind.wrap .u32 (numV x 4) ∧ IntKind.wrap .u32 (numV x 4) < 4294967296
    rw [IntKind.wrap_u32]
    omega
  | time =>
    obtain ⟨h1, h2⟩ := numV_lt h (m := 8) (by omega) (by omega)
    exact ⟨h1, h2⟩
  | create => trivial
theorem rd_keep (p q : PK) (c : CV) {x : RV} (h : Bytes x.1) (hp : okP p c) : okP p (rdC q c x) := by
  by_cases e : p = q
  · subst e; exact rd_ok p c h
  · cases p <;> cases q <;> first | exact absurd rfl e | exact hp
theorem rdAll_ok : ∀ (l : List PK) (c : CV) {x : RV}, Bytes x.1 → ∀ p, (p ∈ l ∨ okP p c) → okP p (rdAll l c x).1
  | [], c, x, h, p, hp => hp.elim (fun h => by cases h) id
  | q :: l, c, x, h, p, hp => by
    refine rdAll_ok l _ (rdS_bytes h q) p ?_
    rcases hp with hp | hp
    · rcases List.mem_cons.1 hp with e | e
      · subst e; exact .inr (rd_ok p c h)
      · exact .inl e
    · exact .inr (rd_keep p q c h hp)
def copyL (l : List PK) (c c0 : CV) : CV := l.foldl (fun c0 p => setP p c c0) c0
theorem rdAll_enc (c : CV) : ∀ (l : List PK) (c0 : CV) (r : List Int), (∀ p ∈ l, okP p c) → rdAll l c0 (l.flatMap (fun p => encP p c) ++ r, true, false) = (copyL l c c0, (r, true, false))
  | [], c0, r, _ => rfl
  | p :: l, c0, r, h => by
    obtain ⟨h1, h2⟩ := rd_enc p c c0 (h p (by simp)) (l.flatMap (fun p => encP p c) ++ r)
    rw [List.flatMap_cons, List.append_assoc, rdAll, h1, h2]
    exact rdAll_enc c l _ r (fun q hq => h q (by simp [hq]))
theorem fold_enc (c : CV) : ∀ (l : List PK) (xs : List Int), l.foldl (fun xs p => xs ++ encP p c) xs = xs ++ l.flatMap (fun p => encP p c)
  | [], xs => by simp
  | p :: l, xs => by rw [List.foldl_cons, fold_enc c l, List.flatMap_cons, List.append_assoc]
theorem pB_bytes (n : Int) (m : Nat) (h : 0 ≤ n) : Bytes (pB n m) := by
  intro y hy
  unfold pB at hy
  obtain ⟨i, _, rfl⟩ := List.mem_map.1 hy
  unfold byteAt
  rw [IntKind.wrap_u8]
  omega
theorem encP_bytes (p : PK) (c : CV) (ht : (0 : Int) ≤ c.2.2.2.2.2.2.2.2.2.1) : Bytes (encP p c) := by
  have hn : Bytes [] := fun y hy => by cases hy
  have hb : ∀ (b : Bool) (xs ys : List Int), Bytes xs → Bytes ys → Bytes (bif b then xs else ys) := fun b xs ys h1 h2 => by cases b; exact h2; exact h1
  have hu : ∀ v m, Bytes (pB (IntKind.wrap .u64 v) m) := fun v m => pB_bytes _ _ (by rw [IntKind.wrap_u64]; omega)
  have hw : ∀ v m, Bytes (pB (wholeN v) m) := fun v m => pB_bytes _ _ (by rw [wholeN_nat]; omega)
  have hl : ∀ (s : ByteArray) m, Bytes (pB (((bytesOf s).length : Nat) : Int) m ++ bytesOf s) := fun s m y hy => by
    rcases List.mem_append.1 hy with h | h
    · exact pB_bytes _ _ (by omega) y h
    · exact bytesOf_range s y h
  cases p with
  | key => exact hb _ _ _ hn (hw _ _)
  | ring => exact hb _ _ _ hn (hw _ _)
  | to => exact hb _ _ _ hn (hw _ _)
  | desc => exact hb _ _ _ (hl _ _) hn
  | payload => exact hb _ _ _ (hl _ _) hn
  | time => exact pB_bytes _ _ ht
  | create => exact hb _ _ _ (pB_bytes _ _ (by omega)) (pB_bytes _ _ (by omega))
  | _ => exact hb _ _ _ hn (hu _ _)
theorem flat_bytes (c : CV) (ht : (0 : Int) ≤ c.2.2.2.2.2.2.2.2.2.1) (l : List PK) : Bytes (l.flatMap (fun p => encP p c)) := by
  intro y hy
  obtain ⟨p, _, h⟩ := List.mem_flatMap.1 hy
  exact encP_bytes p c ht y h
theorem join_ok (p : PK) (c : CV) (h : okP p c) : okP p (joinT c) := by
  unfold joinT
  cases decide (c.1 = (18 : Int)) with
  | false => exact h
  | true =>
    rw [cond_true]
    cases p <;> first | exact h | (show (0 : Int) ≤ 4 ∧ (4 : Int) < 256; omega)
theorem named_ok (c : CV) (ht : (0 : Int) ≤ c.2.2.2.2.2.2.2.2.2.1) : ∀ p ∈ psOf c.1, okP p (namedM c) := by
  intro p hp
  unfold namedM
  refine join_ok p _ (rdAll_ok _ _ ?_ p (.inl hp))
  show Bytes (encAll (psOf c.1) c)
  unfold encAll
  rw [fold_enc, List.nil_append]
  exact flat_bytes c ht _
theorem named_copy (c : CV) (h : ∀ p ∈ psOf c.1, okP p c) : namedM c = joinT (copyL (psOf c.1) c (zeroC c.1)) := by
  unfold namedM encAll newV
  have e := rdAll_enc c (psOf c.1) (zeroC c.1) [] h
  rw [List.append_nil] at e
  rw [fold_enc, List.nil_append, e]
theorem may_iff (c : CV) (ht : (0 : Int) ≤ c.2.2.2.2.2.2.2.2.2.1) : mayM c = true ↔ ByteArray.size c.2.2.2.2.2.1 ≤ 256 ∧ ByteArray.size c.2.2.2.2.1.2 ≤ 32 ∧ (∀ p ∈ psOf c.1, okP p c) ∧ joinT (copyL (psOf c.1) c (zeroC c.1)) = c ∧ swM c = true := by
  unfold mayM
  by_cases h1 : (256 : Int) < ((ByteArray.size c.2.2.2.2.2.1 : Nat) : Int)
  · rw [decide_eq_true h1, cond_true]
    exact ⟨fun h => (by cases h), fun h => absurd h.1 (by omega)⟩
  by_cases h2 : (32 : Int) < ((ByteArray.size c.2.2.2.2.1.2 : Nat) : Int)
  · rw [decide_eq_false h1, decide_eq_true h2, cond_false, cond_true]
    exact ⟨fun h => (by cases h), fun h => absurd h.2.1 (by omega)⟩
  rw [decide_eq_false h1, decide_eq_false h2, cond_false, cond_false]
  by_cases h3 : namedM c = c
  · have hok : ∀ p ∈ psOf c.1, okP p c := by
      intro p hp
      have := named_ok c ht p hp
      rwa [h3] at this
    have e := named_copy c hok
    rw [h3] at e
    rw [(eqC_iff (namedM c) c).2 h3, Bool.not_true, cond_false]
    exact ⟨fun h => ⟨by omega, by omega, hok, e.symm, h⟩, fun h => h.2.2.2.2⟩
  · have : eqC (namedM c) c = false := by
      rw [Bool.eq_false_iff]
      exact fun h => h3 ((eqC_iff _ _).1 h)
    rw [this, Bool.not_false, cond_true]
    refine ⟨fun h => (by cases h), fun ⟨_, _, hok, he, _⟩ => absurd ?_ h3⟩
    rw [named_copy c hok]
    exact he
end Go.Mx
namespace Go.Mx
open Go Go.RowKit Go.Sx Go.Proofs
set_option maxRecDepth 100000
theorem nb (a b : Bool) : (bif !a then false else b) = (a && b) := by cases a <;> rfl
theorem nc (a b : Bool) : (bif a then b else false) = (a && b) := by cases a <;> rfl
theorem nd (a b : Bool) : (bif a then false else b) = (!a && b) := by cases a <;> rfl
def wfC (c : CV) : Prop := okPerm c ∧ inT c.2.2.2.2.2.2.2.2.2.1
instance (c : CV) : Decidable (wfC c) := inferInstanceAs (Decidable (_ ∧ _ ∧ _))
theorem zsz (s : ByteArray) (h : s = ⟨#[]⟩) : s.size = 0 := by subst h; rfl
theorem zsz' (s : ByteArray) (h : ⟨#[]⟩ = s) : s.size = 0 := zsz s h.symm
theorem mayV_iff (t : Int) (s : ByteArray) : mayV (t, s) = true ↔ 1 ≤ t ∧ t ≤ 4 ∧ 1 ≤ s.size ∧ s.size ≤ 32 ∧ (bytesOf s).any odd = false := by
  unfold mayV
  simp only [Bool.and_eq_true, decide_eq_true_eq, Bool.not_eq_true', and_assoc]
theorem rmb_1 {R : Type} (K : KV R) (c : CR0) (hw : wfC ((1 : Int), c)) : (codeX Tryd.prog G22c lv22c 8 Tryd.f22).run [.dat CT ((1 : Int), c)] [] K = K (.dat .bool (mayM ((1 : Int), c))) [] := by
  refine (rmc_1 K c).trans ?_
  simp only [pk]
  refine pkK K ?_
  rw [Bool.eq_iff_iff, may_iff _ hw.2.1]
  have e1 : psOf (((1 : Int), c) : CV).1 = [.ring, .typ, .desc, .payload] := rfl
  rw [e1]
  obtain ⟨key, ring, to, ⟨typ, desc⟩, payload, perm, uid, gid, time, restrict, create⟩ := c
  have hp0 : 0 ≤ perm := hw.1.1
  have hp1 : perm < 4294967296 := hw.1.2
  have ht0 : 0 ≤ time := hw.2.1
  have ht1 : time < 18446744073709551616 := hw.2.2
  simp only [nb, nc, nd, List.forall_mem_cons, List.not_mem_nil, false_imp_iff, implies_true, okP, copyL, List.foldl, inW, inB, inM, inT, setP, zeroC, joinT, setTyp, swM, leB, ltB, eqI, Bool.and_eq_true, Bool.not_eq_true', Bool.not_eq_false', decide_eq_true_eq, decide_eq_false_iff_not, Prod.mk.injEq, mayV_iff, beq_iff_eq, Int.reduceEq, decide_false, decide_true, cond_false, cond_true, idB, specB, permB, payB, restB, and_true, true_and]
  refine ⟨fun h => ?_, fun h => ?_⟩
  all_goals
    simp only [and_assoc] at h
    iterate 24 (try (have hh := And.left h; replace h := And.right h))
    try have hz1 := zsz payload (by assumption)
    try have hz1 := zsz' payload (by assumption)
    try have hz2 := zsz desc (by assumption)
    try have hz2 := zsz' desc (by assumption)
    repeat' apply And.intro
    all_goals first | omega | assumption | (symm; assumption)
theorem rmb_2 {R : Type} (K : KV R) (c : CR0) (hw : wfC ((2 : Int), c)) : (codeX Tryd.prog G22c lv22c 8 Tryd.f22).run [.dat CT ((2 : Int), c)] [] K = K (.dat .bool (mayM ((2 : Int), c))) [] := by
  refine (rmc_2 K c).trans ?_
  simp only [pk]
  refine pkK K ?_
  rw [Bool.eq_iff_iff, may_iff _ hw.2.1]
  have e1 : psOf (((2 : Int), c) : CV).1 = [.typ, .desc] := rfl
  rw [e1]
  obtain ⟨key, ring, to, ⟨typ, desc⟩, payload, perm, uid, gid, time, restrict, create⟩ := c
  have hp0 : 0 ≤ perm := hw.1.1
  have hp1 : perm < 4294967296 := hw.1.2
  have ht0 : 0 ≤ time := hw.2.1
  have ht1 : time < 18446744073709551616 := hw.2.2
  simp only [nb, nc, nd, List.forall_mem_cons, List.not_mem_nil, false_imp_iff, implies_true, okP, copyL, List.foldl, inW, inB, inM, inT, setP, zeroC, joinT, setTyp, swM, leB, ltB, eqI, Bool.and_eq_true, Bool.not_eq_true', Bool.not_eq_false', decide_eq_true_eq, decide_eq_false_iff_not, Prod.mk.injEq, mayV_iff, beq_iff_eq, Int.reduceEq, decide_false, decide_true, cond_false, cond_true, idB, specB, permB, payB, restB, and_true, true_and]
  refine ⟨fun h => ?_, fun h => ?_⟩
  all_goals
    simp only [and_assoc] at h
    iterate 24 (try (have hh := And.left h; replace h := And.right h))
    try have hz1 := zsz payload (by assumption)
    try have hz1 := zsz' payload (by assumption)
    try have hz2 := zsz desc (by assumption)
    try have hz2 := zsz' desc (by assumption)
    repeat' apply And.intro
    all_goals first | omega | assumption | (symm; assumption)
theorem rmb_3 {R : Type} (K : KV R) (c : CR0) (hw : wfC ((3 : Int), c)) : (codeX Tryd.prog G22c lv22c 8 Tryd.f22).run [.dat CT ((3 : Int), c)] [] K = K (.dat .bool (mayM ((3 : Int), c))) [] := by
  refine (rmc_3 K c).trans ?_
  simp only [pk]
  refine pkK K ?_
  rw [Bool.eq_iff_iff, may_iff _ hw.2.1]
  have e1 : psOf (((3 : Int), c) : CV).1 = [.ring, .typ, .desc] := rfl
  rw [e1]
  obtain ⟨key, ring, to, ⟨typ, desc⟩, payload, perm, uid, gid, time, restrict, create⟩ := c
  have hp0 : 0 ≤ perm := hw.1.1
  have hp1 : perm < 4294967296 := hw.1.2
  have ht0 : 0 ≤ time := hw.2.1
  have ht1 : time < 18446744073709551616 := hw.2.2
  simp only [nb, nc, nd, List.forall_mem_cons, List.not_mem_nil, false_imp_iff, implies_true, okP, copyL, List.foldl, inW, inB, inM, inT, setP, zeroC, joinT, setTyp, swM, leB, ltB, eqI, Bool.and_eq_true, Bool.not_eq_true', Bool.not_eq_false', decide_eq_true_eq, decide_eq_false_iff_not, Prod.mk.injEq, mayV_iff, beq_iff_eq, Int.reduceEq, decide_false, decide_true, cond_false, cond_true, idB, specB, permB, payB, restB, and_true, true_and]
  refine ⟨fun h => ?_, fun h => ?_⟩
  all_goals
    simp only [and_assoc] at h
    iterate 24 (try (have hh := And.left h; replace h := And.right h))
    try have hz1 := zsz payload (by assumption)
    try have hz1 := zsz' payload (by assumption)
    try have hz2 := zsz desc (by assumption)
    try have hz2 := zsz' desc (by assumption)
    repeat' apply And.intro
    all_goals first | omega | assumption | (symm; assumption)
theorem rmb_4 {R : Type} (K : KV R) (c : CR0) (hw : wfC ((4 : Int), c)) : (codeX Tryd.prog G22c lv22c 8 Tryd.f22).run [.dat CT ((4 : Int), c)] [] K = K (.dat .bool (mayM ((4 : Int), c))) [] := by
  refine (rmc_4 K c).trans ?_
  simp only [pk]
  refine pkK K ?_
  rw [Bool.eq_iff_iff, may_iff _ hw.2.1]
  have e1 : psOf (((4 : Int), c) : CV).1 = [.key] := rfl
  rw [e1]
  obtain ⟨key, ring, to, ⟨typ, desc⟩, payload, perm, uid, gid, time, restrict, create⟩ := c
  have hp0 : 0 ≤ perm := hw.1.1
  have hp1 : perm < 4294967296 := hw.1.2
  have ht0 : 0 ≤ time := hw.2.1
  have ht1 : time < 18446744073709551616 := hw.2.2
  simp only [nb, nc, nd, List.forall_mem_cons, List.not_mem_nil, false_imp_iff, implies_true, okP, copyL, List.foldl, inW, inB, inM, inT, setP, zeroC, joinT, setTyp, swM, leB, ltB, eqI, Bool.and_eq_true, Bool.not_eq_true', Bool.not_eq_false', decide_eq_true_eq, decide_eq_false_iff_not, Prod.mk.injEq, mayV_iff, beq_iff_eq, Int.reduceEq, decide_false, decide_true, cond_false, cond_true, idB, specB, permB, payB, restB, and_true, true_and]
  refine ⟨fun h => ?_, fun h => ?_⟩
  all_goals
    simp only [and_assoc] at h
    iterate 24 (try (have hh := And.left h; replace h := And.right h))
    try have hz1 := zsz payload (by assumption)
    try have hz1 := zsz' payload (by assumption)
    try have hz2 := zsz desc (by assumption)
    try have hz2 := zsz' desc (by assumption)
    repeat' apply And.intro
    all_goals first | omega | assumption | (symm; assumption)
theorem rmb_5 {R : Type} (K : KV R) (c : CR0) (hw : wfC ((5 : Int), c)) : (codeX Tryd.prog G22c lv22c 8 Tryd.f22).run [.dat CT ((5 : Int), c)] [] K = K (.dat .bool (mayM ((5 : Int), c))) [] := by
  refine (rmc_5 K c).trans ?_
  simp only [pk]
  refine pkK K ?_
  rw [Bool.eq_iff_iff, may_iff _ hw.2.1]
  have e1 : psOf (((5 : Int), c) : CV).1 = [.key, .payload] := rfl
  rw [e1]
  obtain ⟨key, ring, to, ⟨typ, desc⟩, payload, perm, uid, gid, time, restrict, create⟩ := c
  have hp0 : 0 ≤ perm := hw.1.1
  have hp1 : perm < 4294967296 := hw.1.2
  have ht0 : 0 ≤ time := hw.2.1
  have ht1 : time < 18446744073709551616 := hw.2.2
  simp only [nb, nc, nd, List.forall_mem_cons, List.not_mem_nil, false_imp_iff, implies_true, okP, copyL, List.foldl, inW, inB, inM, inT, setP, zeroC, joinT, setTyp, swM, leB, ltB, eqI, Bool.and_eq_true, Bool.not_eq_true', Bool.not_eq_false', decide_eq_true_eq, decide_eq_false_iff_not, Prod.mk.injEq, mayV_iff, beq_iff_eq, Int.reduceEq, decide_false, decide_true, cond_false, cond_true, idB, specB, permB, payB, restB, and_true, true_and]
  refine ⟨fun h => ?_, fun h => ?_⟩
  all_goals
    simp only [and_assoc] at h
    iterate 24 (try (have hh := And.left h; replace h := And.right h))
    try have hz1 := zsz payload (by assumption)
    try have hz1 := zsz' payload (by assumption)
    try have hz2 := zsz desc (by assumption)
    try have hz2 := zsz' desc (by assumption)
    repeat' apply And.intro
    all_goals first | omega | assumption | (symm; assumption)
theorem rmb_6 {R : Type} (K : KV R) (c : CR0) (hw : wfC ((6 : Int), c)) : (codeX Tryd.prog G22c lv22c 8 Tryd.f22).run [.dat CT ((6 : Int), c)] [] K = K (.dat .bool (mayM ((6 : Int), c))) [] := by
  refine (rmc_6 K c).trans ?_
  simp only [pk]
  refine pkK K ?_
  rw [Bool.eq_iff_iff, may_iff _ hw.2.1]
  have e1 : psOf (((6 : Int), c) : CV).1 = [.key] := rfl
  rw [e1]
  obtain ⟨key, ring, to, ⟨typ, desc⟩, payload, perm, uid, gid, time, restrict, create⟩ := c
  have hp0 : 0 ≤ perm := hw.1.1
  have hp1 : perm < 4294967296 := hw.1.2
  have ht0 : 0 ≤ time := hw.2.1
  have ht1 : time < 18446744073709551616 := hw.2.2
  simp only [nb, nc, nd, List.forall_mem_cons, List.not_mem_nil, false_imp_iff, implies_true, okP, copyL, List.foldl, inW, inB, inM, inT, setP, zeroC, joinT, setTyp, swM, leB, ltB, eqI, Bool.and_eq_true, Bool.not_eq_true', Bool.not_eq_false', decide_eq_true_eq, decide_eq_false_iff_not, Prod.mk.injEq, mayV_iff, beq_iff_eq, Int.reduceEq, decide_false, decide_true, cond_false, cond_true, idB, specB, permB, payB, restB, and_true, true_and]
  refine ⟨fun h => ?_, fun h => ?_⟩
  all_goals
    simp only [and_assoc] at h
    iterate 24 (try (have hh := And.left h; replace h := And.right h))
    try have hz1 := zsz payload (by assumption)
    try have hz1 := zsz' payload (by assumption)
    try have hz2 := zsz desc (by assumption)
    try have hz2 := zsz' desc (by assumption)
    repeat' apply And.intro
    all_goals first | omega | assumption | (symm; assumption)
theorem rmb_7 {R : Type} (K : KV R) (c : CR0) (hw : wfC ((7 : Int), c)) : (codeX Tryd.prog G22c lv22c 8 Tryd.f22).run [.dat CT ((7 : Int), c)] [] K = K (.dat .bool (mayM ((7 : Int), c))) [] := by
  refine (rmc_7 K c).trans ?_
  simp only [pk]
  refine pkK K ?_
  rw [Bool.eq_iff_iff, may_iff _ hw.2.1]
  have e1 : psOf (((7 : Int), c) : CV).1 = [.key, .ring] := rfl
  rw [e1]
  obtain ⟨key, ring, to, ⟨typ, desc⟩, payload, perm, uid, gid, time, restrict, create⟩ := c
  have hp0 : 0 ≤ perm := hw.1.1
  have hp1 : perm < 4294967296 := hw.1.2
  have ht0 : 0 ≤ time := hw.2.1
  have ht1 : time < 18446744073709551616 := hw.2.2
  simp only [nb, nc, nd, List.forall_mem_cons, List.not_mem_nil, false_imp_iff, implies_true, okP, copyL, List.foldl, inW, inB, inM, inT, setP, zeroC, joinT, setTyp, swM, leB, ltB, eqI, Bool.and_eq_true, Bool.not_eq_true', Bool.not_eq_false', decide_eq_true_eq, decide_eq_false_iff_not, Prod.mk.injEq, mayV_iff, beq_iff_eq, Int.reduceEq, decide_false, decide_true, cond_false, cond_true, idB, specB, permB, payB, restB, and_true, true_and]
  refine ⟨fun h => ?_, fun h => ?_⟩
  all_goals
    simp only [and_assoc] at h
    iterate 24 (try (have hh := And.left h; replace h := And.right h))
    try have hz1 := zsz payload (by assumption)
    try have hz1 := zsz' payload (by assumption)
    try have hz2 := zsz desc (by assumption)
    try have hz2 := zsz' desc (by assumption)
    repeat' apply And.intro
    all_goals first | omega | assumption | (symm; assumption)
theorem rmb_8 {R : Type} (K : KV R) (c : CR0) (hw : wfC ((8 : Int), c)) : (codeX Tryd.prog G22c lv22c 8 Tryd.f22).run [.dat CT ((8 : Int), c)] [] K = K (.dat .bool (mayM ((8 : Int), c))) [] := by
  refine (rmc_8 K c).trans ?_
  simp only [pk]
  refine pkK K ?_
  rw [Bool.eq_iff_iff, may_iff _ hw.2.1]
  have e1 : psOf (((8 : Int), c) : CV).1 = [.key, .ring] := rfl
  rw [e1]
  obtain ⟨key, ring, to, ⟨typ, desc⟩, payload, perm, uid, gid, time, restrict, create⟩ := c
  have hp0 : 0 ≤ perm := hw.1.1
  have hp1 : perm < 4294967296 := hw.1.2
  have ht0 : 0 ≤ time := hw.2.1
  have ht1 : time < 18446744073709551616 := hw.2.2
  simp only [nb, nc, nd, List.forall_mem_cons, List.not_mem_nil, false_imp_iff, implies_true, okP, copyL, List.foldl, inW, inB, inM, inT, setP, zeroC, joinT, setTyp, swM, leB, ltB, eqI, Bool.and_eq_true, Bool.not_eq_true', Bool.not_eq_false', decide_eq_true_eq, decide_eq_false_iff_not, Prod.mk.injEq, mayV_iff, beq_iff_eq, Int.reduceEq, decide_false, decide_true, cond_false, cond_true, idB, specB, permB, payB, restB, and_true, true_and]
  refine ⟨fun h => ?_, fun h => ?_⟩
  all_goals
    simp only [and_assoc] at h
    iterate 24 (try (have hh := And.left h; replace h := And.right h))
    try have hz1 := zsz payload (by assumption)
    try have hz1 := zsz' payload (by assumption)
    try have hz2 := zsz desc (by assumption)
    try have hz2 := zsz' desc (by assumption)
    repeat' apply And.intro
    all_goals first | omega | assumption | (symm; assumption)
theorem rmb_9 {R : Type} (K : KV R) (c : CR0) (hw : wfC ((9 : Int), c)) : (codeX Tryd.prog G22c lv22c 8 Tryd.f22).run [.dat CT ((9 : Int), c)] [] K = K (.dat .bool (mayM ((9 : Int), c))) [] := by
  refine (rmc_9 K c).trans ?_
  simp only [pk]
  refine pkK K ?_
  rw [Bool.eq_iff_iff, may_iff _ hw.2.1]
  have e1 : psOf (((9 : Int), c) : CV).1 = [.key, .ring, .to] := rfl
  rw [e1]
  obtain ⟨key, ring, to, ⟨typ, desc⟩, payload, perm, uid, gid, time, restrict, create⟩ := c
  have hp0 : 0 ≤ perm := hw.1.1
  have hp1 : perm < 4294967296 := hw.1.2
  have ht0 : 0 ≤ time := hw.2.1
  have ht1 : time < 18446744073709551616 := hw.2.2
  simp only [nb, nc, nd, List.forall_mem_cons, List.not_mem_nil, false_imp_iff, implies_true, okP, copyL, List.foldl, inW, inB, inM, inT, setP, zeroC, joinT, setTyp, swM, leB, ltB, eqI, Bool.and_eq_true, Bool.not_eq_true', Bool.not_eq_false', decide_eq_true_eq, decide_eq_false_iff_not, Prod.mk.injEq, mayV_iff, beq_iff_eq, Int.reduceEq, decide_false, decide_true, cond_false, cond_true, idB, specB, permB, payB, restB, and_true, true_and]
  refine ⟨fun h => ?_, fun h => ?_⟩
  all_goals
    simp only [and_assoc] at h
    iterate 24 (try (have hh := And.left h; replace h := And.right h))
    try have hz1 := zsz payload (by assumption)
    try have hz1 := zsz' payload (by assumption)
    try have hz2 := zsz desc (by assumption)
    try have hz2 := zsz' desc (by assumption)
    repeat' apply And.intro
    all_goals first | omega | assumption | (symm; assumption)
theorem rmb_10 {R : Type} (K : KV R) (c : CR0) (hw : wfC ((10 : Int), c)) : (codeX Tryd.prog G22c lv22c 8 Tryd.f22).run [.dat CT ((10 : Int), c)] [] K = K (.dat .bool (mayM ((10 : Int), c))) [] := by
  refine (rmc_10 K c).trans ?_
  simp only [pk]
  refine pkK K ?_
  rw [Bool.eq_iff_iff, may_iff _ hw.2.1]
  have e1 : psOf (((10 : Int), c) : CV).1 = [.ring] := rfl
  rw [e1]
  obtain ⟨key, ring, to, ⟨typ, desc⟩, payload, perm, uid, gid, time, restrict, create⟩ := c
  have hp0 : 0 ≤ perm := hw.1.1
  have hp1 : perm < 4294967296 := hw.1.2
  have ht0 : 0 ≤ time := hw.2.1
  have ht1 : time < 18446744073709551616 := hw.2.2
  simp only [nb, nc, nd, List.forall_mem_cons, List.not_mem_nil, false_imp_iff, implies_true, okP, copyL, List.foldl, inW, inB, inM, inT, setP, zeroC, joinT, setTyp, swM, leB, ltB, eqI, Bool.and_eq_true, Bool.not_eq_true', Bool.not_eq_false', decide_eq_true_eq, decide_eq_false_iff_not, Prod.mk.injEq, mayV_iff, beq_iff_eq, Int.reduceEq, decide_false, decide_true, cond_false, cond_true, idB, specB, permB, payB, restB, and_true, true_and]
  refine ⟨fun h => ?_, fun h => ?_⟩
  all_goals
    simp only [and_assoc] at h
    iterate 24 (try (have hh := And.left h; replace h := And.right h))
    try have hz1 := zsz payload (by assumption)
    try have hz1 := zsz' payload (by assumption)
    try have hz2 := zsz desc (by assumption)
    try have hz2 := zsz' desc (by assumption)
    repeat' apply And.intro
    all_goals first | omega | assumption | (symm; assumption)
theorem rmb_11 {R : Type} (K : KV R) (c : CR0) (hw : wfC ((11 : Int), c)) : (codeX Tryd.prog G22c lv22c 8 Tryd.f22).run [.dat CT ((11 : Int), c)] [] K = K (.dat .bool (mayM ((11 : Int), c))) [] := by
  refine (rmc_11 K c).trans ?_
  rw [ck_pos (show 0 ≤ c.2.2.2.2.2.1 ∧ c.2.2.2.2.2.1 < 4294967296 from hw.1)]
  simp only [pk]
  refine pkK K ?_
  rw [Bool.eq_iff_iff, may_iff _ hw.2.1]
  have e1 : psOf (((11 : Int), c) : CV).1 = [.key, .perm] := rfl
  rw [e1]
  obtain ⟨key, ring, to, ⟨typ, desc⟩, payload, perm, uid, gid, time, restrict, create⟩ := c
  have hp0 : 0 ≤ perm := hw.1.1
  have hp1 : perm < 4294967296 := hw.1.2
  have ht0 : 0 ≤ time := hw.2.1
  have ht1 : time < 18446744073709551616 := hw.2.2
  simp only [nb, nc, nd, List.forall_mem_cons, List.not_mem_nil, false_imp_iff, implies_true, okP, copyL, List.foldl, inW, inB, inM, inT, setP, zeroC, joinT, setTyp, swM, leB, ltB, eqI, Bool.and_eq_true, Bool.not_eq_true', Bool.not_eq_false', decide_eq_true_eq, decide_eq_false_iff_not, Prod.mk.injEq, mayV_iff, beq_iff_eq, Int.reduceEq, decide_false, decide_true, cond_false, cond_true, idB, specB, permB, payB, restB, and_true, true_and]
  refine ⟨fun h => ?_, fun h => ?_⟩
  all_goals
    simp only [and_assoc] at h
    iterate 24 (try (have hh := And.left h; replace h := And.right h))
    try have hz1 := zsz payload (by assumption)
    try have hz1 := zsz' payload (by assumption)
    try have hz2 := zsz desc (by assumption)
    try have hz2 := zsz' desc (by assumption)
    repeat' apply And.intro
    all_goals first | omega | assumption | (symm; assumption)
theorem rmb_12 {R : Type} (K : KV R) (c : CR0) (hw : wfC ((12 : Int), c)) : (codeX Tryd.prog G22c lv22c 8 Tryd.f22).run [.dat CT ((12 : Int), c)] [] K = K (.dat .bool (mayM ((12 : Int), c))) [] := by
  refine (rmc_12 K c).trans ?_
  simp only [pk]
  refine pkK K ?_
  rw [Bool.eq_iff_iff, may_iff _ hw.2.1]
  have e1 : psOf (((12 : Int), c) : CV).1 = [.key, .uid, .gid] := rfl
  rw [e1]
  obtain ⟨key, ring, to, ⟨typ, desc⟩, payload, perm, uid, gid, time, restrict, create⟩ := c
  have hp0 : 0 ≤ perm := hw.1.1
  have hp1 : perm < 4294967296 := hw.1.2
  have ht0 : 0 ≤ time := hw.2.1
  have ht1 : time < 18446744073709551616 := hw.2.2
  simp only [nb, nc, nd, List.forall_mem_cons, List.not_mem_nil, false_imp_iff, implies_true, okP, copyL, List.foldl, inW, inB, inM, inT, setP, zeroC, joinT, setTyp, swM, leB, ltB, eqI, Bool.and_eq_true, Bool.not_eq_true', Bool.not_eq_false', decide_eq_true_eq, decide_eq_false_iff_not, Prod.mk.injEq, mayV_iff, beq_iff_eq, Int.reduceEq, decide_false, decide_true, cond_false, cond_true, idB, specB, permB, payB, restB, and_true, true_and]
  refine ⟨fun h => ?_, fun h => ?_⟩
  all_goals
    simp only [and_assoc] at h
    iterate 24 (try (have hh := And.left h; replace h := And.right h))
    try have hz1 := zsz payload (by assumption)
    try have hz1 := zsz' payload (by assumption)
    try have hz2 := zsz desc (by assumption)
    try have hz2 := zsz' desc (by assumption)
    repeat' apply And.intro
    all_goals first | omega | assumption | (symm; assumption)
theorem rmb_13 {R : Type} (K : KV R) (c : CR0) (hw : wfC ((13 : Int), c)) : (codeX Tryd.prog G22c lv22c 8 Tryd.f22).run [.dat CT ((13 : Int), c)] [] K = K (.dat .bool (mayM ((13 : Int), c))) [] := by
  refine (rmc_13 K c).trans ?_
  simp only [pk]
  refine pkK K ?_
  rw [Bool.eq_iff_iff, may_iff _ hw.2.1]
  have e1 : psOf (((13 : Int), c) : CV).1 = [.key, .time] := rfl
  rw [e1]
  obtain ⟨key, ring, to, ⟨typ, desc⟩, payload, perm, uid, gid, time, restrict, create⟩ := c
  have hp0 : 0 ≤ perm := hw.1.1
  have hp1 : perm < 4294967296 := hw.1.2
  have ht0 : 0 ≤ time := hw.2.1
  have ht1 : time < 18446744073709551616 := hw.2.2
  simp only [nb, nc, nd, List.forall_mem_cons, List.not_mem_nil, false_imp_iff, implies_true, okP, copyL, List.foldl, inW, inB, inM, inT, setP, zeroC, joinT, setTyp, swM, leB, ltB, eqI, Bool.and_eq_true, Bool.not_eq_true', Bool.not_eq_false', decide_eq_true_eq, decide_eq_false_iff_not, Prod.mk.injEq, mayV_iff, beq_iff_eq, Int.reduceEq, decide_false, decide_true, cond_false, cond_true, idB, specB, permB, payB, restB, and_true, true_and]
  refine ⟨fun h => ?_, fun h => ?_⟩
  all_goals
    simp only [and_assoc] at h
    iterate 24 (try (have hh := And.left h; replace h := And.right h))
    try have hz1 := zsz payload (by assumption)
    try have hz1 := zsz' payload (by assumption)
    try have hz2 := zsz desc (by assumption)
    try have hz2 := zsz' desc (by assumption)
    repeat' apply And.intro
    all_goals first | omega | assumption | (symm; assumption)
theorem rmb_14 {R : Type} (K : KV R) (c : CR0) (hw : wfC ((14 : Int), c)) : (codeX Tryd.prog G22c lv22c 8 Tryd.f22).run [.dat CT ((14 : Int), c)] [] K = K (.dat .bool (mayM ((14 : Int), c))) [] := by
  refine (rmc_14 K c).trans ?_
  simp only [pk]
  refine pkK K ?_
  rw [Bool.eq_iff_iff, may_iff _ hw.2.1]
  have e1 : psOf (((14 : Int), c) : CV).1 = [.key] := rfl
  rw [e1]
  obtain ⟨key, ring, to, ⟨typ, desc⟩, payload, perm, uid, gid, time, restrict, create⟩ := c
  have hp0 : 0 ≤ perm := hw.1.1
  have hp1 : perm < 4294967296 := hw.1.2
  have ht0 : 0 ≤ time := hw.2.1
  have ht1 : time < 18446744073709551616 := hw.2.2
  simp only [nb, nc, nd, List.forall_mem_cons, List.not_mem_nil, false_imp_iff, implies_true, okP, copyL, List.foldl, inW, inB, inM, inT, setP, zeroC, joinT, setTyp, swM, leB, ltB, eqI, Bool.and_eq_true, Bool.not_eq_true', Bool.not_eq_false', decide_eq_true_eq, decide_eq_false_iff_not, Prod.mk.injEq, mayV_iff, beq_iff_eq, Int.reduceEq, decide_false, decide_true, cond_false, cond_true, idB, specB, permB, payB, restB, and_true, true_and]
  refine ⟨fun h => ?_, fun h => ?_⟩
  all_goals
    simp only [and_assoc] at h
    iterate 24 (try (have hh := And.left h; replace h := And.right h))
    try have hz1 := zsz payload (by assumption)
    try have hz1 := zsz' payload (by assumption)
    try have hz2 := zsz desc (by assumption)
    try have hz2 := zsz' desc (by assumption)
    repeat' apply And.intro
    all_goals first | omega | assumption | (symm; assumption)
theorem rmb_15 {R : Type} (K : KV R) (c : CR0) (hw : wfC ((15 : Int), c)) : (codeX Tryd.prog G22c lv22c 8 Tryd.f22).run [.dat CT ((15 : Int), c)] [] K = K (.dat .bool (mayM ((15 : Int), c))) [] := by
  refine (rmc_15 K c).trans ?_
  simp only [pk]
  refine pkK K ?_
  rw [Bool.eq_iff_iff, may_iff _ hw.2.1]
  have e1 : psOf (((15 : Int), c) : CV).1 = [.key] := rfl
  rw [e1]
  obtain ⟨key, ring, to, ⟨typ, desc⟩, payload, perm, uid, gid, time, restrict, create⟩ := c
  have hp0 : 0 ≤ perm := hw.1.1
  have hp1 : perm < 4294967296 := hw.1.2
  have ht0 : 0 ≤ time := hw.2.1
  have ht1 : time < 18446744073709551616 := hw.2.2
  simp only [nb, nc, nd, List.forall_mem_cons, List.not_mem_nil, false_imp_iff, implies_true, okP, copyL, List.foldl, inW, inB, inM, inT, setP, zeroC, joinT, setTyp, swM, leB, ltB, eqI, Bool.and_eq_true, Bool.not_eq_true', Bool.not_eq_false', decide_eq_true_eq, decide_eq_false_iff_not, Prod.mk.injEq, mayV_iff, beq_iff_eq, Int.reduceEq, decide_false, decide_true, cond_false, cond_true, idB, specB, permB, payB, restB, and_true, true_and]
  refine ⟨fun h => ?_, fun h => ?_⟩
  all_goals
    simp only [and_assoc] at h
    iterate 24 (try (have hh := And.left h; replace h := And.right h))
    try have hz1 := zsz payload (by assumption)
    try have hz1 := zsz' payload (by assumption)
    try have hz2 := zsz desc (by assumption)
    try have hz2 := zsz' desc (by assumption)
    repeat' apply And.intro
    all_goals first | omega | assumption | (symm; assumption)
theorem rmb_16 {R : Type} (K : KV R) (c : CR0) (hw : wfC ((16 : Int), c)) : (codeX Tryd.prog G22c lv22c 8 Tryd.f22).run [.dat CT ((16 : Int), c)] [] K = K (.dat .bool (mayM ((16 : Int), c))) [] := by
  refine (rmc_16 K c).trans ?_
  simp only [pk]
  refine pkK K ?_
  rw [Bool.eq_iff_iff, may_iff _ hw.2.1]
  have e1 : psOf (((16 : Int), c) : CV).1 = [.ring, .restrict] := rfl
  rw [e1]
  obtain ⟨key, ring, to, ⟨typ, desc⟩, payload, perm, uid, gid, time, restrict, create⟩ := c
  have hp0 : 0 ≤ perm := hw.1.1
  have hp1 : perm < 4294967296 := hw.1.2
  have ht0 : 0 ≤ time := hw.2.1
  have ht1 : time < 18446744073709551616 := hw.2.2
  simp only [nb, nc, nd, List.forall_mem_cons, List.not_mem_nil, false_imp_iff, implies_true, okP, copyL, List.foldl, inW, inB, inM, inT, setP, zeroC, joinT, setTyp, swM, leB, ltB, eqI, Bool.and_eq_true, Bool.not_eq_true', Bool.not_eq_false', decide_eq_true_eq, decide_eq_false_iff_not, Prod.mk.injEq, mayV_iff, beq_iff_eq, Int.reduceEq, decide_false, decide_true, cond_false, cond_true, idB, specB, permB, payB, restB, and_true, true_and]
  refine ⟨fun h => ?_, fun h => ?_⟩
  all_goals
    simp only [and_assoc] at h
    iterate 24 (try (have hh := And.left h; replace h := And.right h))
    try have hz1 := zsz payload (by assumption)
    try have hz1 := zsz' payload (by assumption)
    try have hz2 := zsz desc (by assumption)
    try have hz2 := zsz' desc (by assumption)
    repeat' apply And.intro
    all_goals first | omega | assumption | (symm; assumption)
theorem rmb_17 {R : Type} (K : KV R) (c : CR0) (hw : wfC ((17 : Int), c)) : (codeX Tryd.prog G22c lv22c 8 Tryd.f22).run [.dat CT ((17 : Int), c)] [] K = K (.dat .bool (mayM ((17 : Int), c))) [] := by
  refine (rmc_17 K c).trans ?_
  simp only [pk]
  refine pkK K ?_
  rw [Bool.eq_iff_iff, may_iff _ hw.2.1]
  have e1 : psOf (((17 : Int), c) : CV).1 = [.key, .create] := rfl
  rw [e1]
  obtain ⟨key, ring, to, ⟨typ, desc⟩, payload, perm, uid, gid, time, restrict, create⟩ := c
  have hp0 : 0 ≤ perm := hw.1.1
  have hp1 : perm < 4294967296 := hw.1.2
  have ht0 : 0 ≤ time := hw.2.1
  have ht1 : time < 18446744073709551616 := hw.2.2
  simp only [nb, nc, nd, List.forall_mem_cons, List.not_mem_nil, false_imp_iff, implies_true, okP, copyL, List.foldl, inW, inB, inM, inT, setP, zeroC, joinT, setTyp, swM, leB, ltB, eqI, Bool.and_eq_true, Bool.not_eq_true', Bool.not_eq_false', decide_eq_true_eq, decide_eq_false_iff_not, Prod.mk.injEq, mayV_iff, beq_iff_eq, Int.reduceEq, decide_false, decide_true, cond_false, cond_true, idB, specB, permB, payB, restB, and_true, true_and]
  refine ⟨fun h => ?_, fun h => ?_⟩
  all_goals
    simp only [and_assoc] at h
    iterate 24 (try (have hh := And.left h; replace h := And.right h))
    try have hz1 := zsz payload (by assumption)
    try have hz1 := zsz' payload (by assumption)
    try have hz2 := zsz desc (by assumption)
    try have hz2 := zsz' desc (by assumption)
    repeat' apply And.intro
    all_goals first | omega | assumption | (symm; assumption)
theorem rmb_18 {R : Type} (K : KV R) (c : CR0) (hw : wfC ((18 : Int), c)) : (codeX Tryd.prog G22c lv22c 8 Tryd.f22).run [.dat CT ((18 : Int), c)] [] K = K (.dat .bool (mayM ((18 : Int), c))) [] := by
  refine (rmc_18 K c).trans ?_
  simp only [pk]
  refine pkK K ?_
  rw [Bool.eq_iff_iff, may_iff _ hw.2.1]
  have e1 : psOf (((18 : Int), c) : CV).1 = [.desc] := rfl
  rw [e1]
  obtain ⟨key, ring, to, ⟨typ, desc⟩, payload, perm, uid, gid, time, restrict, create⟩ := c
  have hp0 : 0 ≤ perm := hw.1.1
  have hp1 : perm < 4294967296 := hw.1.2
  have ht0 : 0 ≤ time := hw.2.1
  have ht1 : time < 18446744073709551616 := hw.2.2
  simp only [nb, nc, nd, List.forall_mem_cons, List.not_mem_nil, false_imp_iff, implies_true, okP, copyL, List.foldl, inW, inB, inM, inT, setP, zeroC, joinT, setTyp, swM, leB, ltB, eqI, Bool.and_eq_true, Bool.not_eq_true', Bool.not_eq_false', decide_eq_true_eq, decide_eq_false_iff_not, Prod.mk.injEq, mayV_iff, beq_iff_eq, Int.reduceEq, decide_false, decide_true, cond_false, cond_true, idB, specB, permB, payB, restB, and_true, true_and]
  refine ⟨fun h => ?_, fun h => ?_⟩
  all_goals
    simp only [and_assoc] at h
    iterate 24 (try (have hh := And.left h; replace h := And.right h))
    try have hz1 := zsz payload (by assumption)
    try have hz1 := zsz' payload (by assumption)
    try have hz2 := zsz desc (by assumption)
    try have hz2 := zsz' desc (by assumption)
    repeat' apply And.intro
    all_goals first | omega | assumption | (symm; assumption)
end Go.Mx
namespace Go.Mx
open Go Go.RowKit Go.Sx Go.Proofs
set_option maxRecDepth 100000
def Fname0 : Summ := ⟨fun args ob K => match args, ob with
  | [.dat (.int .i64) o], [] => ck (psOf o = []) (K (.dat .str ⟨#[]⟩) [])
  | _, _ => none⟩
theorem ps_none {o : Int} (h : psOf o = []) : o < 1 ∨ 18 < o := by
  by_cases h1 : o < 1
  · exact .inl h1
  by_cases h2 : 18 < o
  · exact .inr h2
  exfalso
  obtain ⟨n, rfl⟩ : ∃ n : Nat, o = (n : Int) := ⟨o.toNat, by omega⟩
  obtain ⟨m, rfl⟩ : ∃ m, n = m + 1 := ⟨n - 1, by omega⟩
  have hm : m < 18 := by omega
  have key : ∀ m : Nat, m < 18 → psOf ((m + 1 : Nat) : Int) ≠ [] := by decide +kernel
  exact key m hm h
theorem Fname0_ok : SumOk Tryd.prog 51 Fname0 := by
  refine (W_ok 51).le (fun f args ob K => by unfold Fname0; dsimp only; split <;> simp only [bd_ck, bd_none]) ?_
  intro R args ob K r h
  unfold Fname0 at h; dsimp only at h
  split at h
  · rename_i o
    obtain ⟨hp, h2⟩ := ck_elim h
    refine (rnames_0 K o).trans (Eq.trans ?_ h2)
    rcases ps_none hp with h1 | h1
    · by_cases h0 : (o : Int) < 0
      · rw [decide_eq_true h0, cond_true]
      · have : o = (0 : Int) := by
          have h0 : ¬ (o : Int) < 0 := h0
          have h1 : (o : Int) < 1 := h1
          exact Int.le_antisymm (Int.lt_add_one_iff.1 h1) (Int.not_lt.1 h0)
        subst this
        rfl
    · have h0 : ¬ (o : Int) < 0 := fun hh => by have h1 : (18 : Int) < o := h1; exact absurd (Int.lt_trans h1 hh) (by decide)
      have h9 : (19 : Int) ≤ o := h1
      rw [decide_eq_false h0, cond_false, decide_eq_true h9, cond_true]
  · cases h
def G22z : Sums := sums all [(51, Fname0)]
theorem al22z : AllOk Tryd.prog [(51, Fname0)] := ⟨Fname0_ok, trivial⟩
theorem al22c : AllOk Tryd.prog [(51, W 51), (52, Fid), (53, Fspec), (54, Fmay), (55, Fpay), (56, Fperm)] := ⟨W_ok 51, id52_ok, spec53_ok, Fmay54_ok, pay55_ok, perm56_ok, trivial⟩
theorem base22 : SumOk Tryd.prog 22 (codeX Tryd.prog G22c lv22c 8 Tryd.f22) := codeX_ok (k := 8) (lv := lv22c) mixed noNG_prog (sums_call (Wr := all) al22c) (sums_prim al22c) (fn := Tryd.f22) rfl
theorem base22z : SumOk Tryd.prog 22 (codeX Tryd.prog G22z lv22c 8 Tryd.f22) := codeX_ok (k := 8) (lv := lv22c) mixed noNG_prog (sums_call (Wr := all) al22z) (sums_prim al22z) (fn := Tryd.f22) rfl
theorem rmc_0 {R : Type} (K : KV R) (c : CV) : (codeX Tryd.prog G22z lv22c 8 Tryd.f22).run [.dat CT c] [] K = ck (psOf c.1 = []) (K (AV.dat T.bool false) []) := by kernel_rfl
theorem sw_out {c : CV} (h : psOf c.1 = []) : swM c = false := by
  have h1 := ps_none h
  obtain ⟨o, c⟩ := c
  have h1 : (o : Int) < 1 ∨ (18 : Int) < o := h1
  have hk : ∀ k : Int, 1 ≤ k ∧ k ≤ 18 → eqI o k = false := fun k hk => decide_eq_false (fun e => by subst e; omega)
  unfold swM
  rw [hk 1 (by decide), hk 2 (by decide), hk 18 (by decide), hk 3 (by decide), hk 4 (by decide), hk 6 (by decide), hk 14 (by decide), hk 15 (by decide), hk 5 (by decide), hk 7 (by decide), hk 8 (by decide), hk 9 (by decide), hk 10 (by decide), hk 11 (by decide), hk 12 (by decide), hk 13 (by decide), hk 16 (by decide), hk 17 (by decide)]
  rfl
theorem may_out {c : CV} (h : psOf c.1 = []) : mayM c = false := by
  unfold mayM
  rw [sw_out h]
  cases decide ((256 : Int) < ((ByteArray.size c.2.2.2.2.2.1 : Nat) : Int)) <;> cases decide ((32 : Int) < ((ByteArray.size c.2.2.2.2.1.2 : Nat) : Int)) <;> cases eqC (namedM c) c <;> rfl
def F22f : Summ := ⟨fun args ob K => match args, ob with
  | [.dat t v], [] => (asD CT (.dat t v)).bind fun c => ck (wfC c) (K (.dat .bool (mayM c)) [])
  | _, _ => none⟩
theorem F22f_ok : SumOk Tryd.prog 22 F22f := by
  refine ⟨?_, ?_⟩
  · intro R R' f args ob K
    unfold F22f; dsimp only
    split <;> simp only [bd_bind, bd_ck, bd_none]
  · intro R args ob K r hK W ρ w us hr ha
    unfold F22f at hK; dsimp only at hK
    split at hK
    · rename_i t v
      obtain ⟨c, hc, h1⟩ := bind_elim hK
      obtain ⟨hp, h2⟩ := ck_elim h1
      clear hK h1
      have e := asD_ok hc
      rw [e] at ha
      by_cases h0 : psOf c.1 = []
      · refine base22z.2 _ [] K r ((rmc_0 K c).trans ?_) W ρ w us hr ha
        rw [ck_pos h0, ← may_out h0]
        exact h2
      · obtain ⟨o, c⟩ := c
        have ho := ps_cases h0
        clear h0
        rcases ho with rfl | rfl | rfl | rfl | rfl | rfl | rfl | rfl | rfl | rfl | rfl | rfl | rfl | rfl | rfl | rfl | rfl | rfl
        · exact base22.2 _ [] K r ((rmb_1 K c hp).trans h2) W ρ w us hr ha
        · exact base22.2 _ [] K r ((rmb_2 K c hp).trans h2) W ρ w us hr ha
        · exact base22.2 _ [] K r ((rmb_3 K c hp).trans h2) W ρ w us hr ha
        · exact base22.2 _ [] K r ((rmb_4 K c hp).trans h2) W ρ w us hr ha
        · exact base22.2 _ [] K r ((rmb_5 K c hp).trans h2) W ρ w us hr ha
        · exact base22.2 _ [] K r ((rmb_6 K c hp).trans h2) W ρ w us hr ha
        · exact base22.2 _ [] K r ((rmb_7 K c hp).trans h2) W ρ w us hr ha
        · exact base22.2 _ [] K r ((rmb_8 K c hp).trans h2) W ρ w us hr ha
        · exact base22.2 _ [] K r ((rmb_9 K c hp).trans h2) W ρ w us hr ha
        · exact base22.2 _ [] K r ((rmb_10 K c hp).trans h2) W ρ w us hr ha
        · exact base22.2 _ [] K r ((rmb_11 K c hp).trans h2) W ρ w us hr ha
        · exact base22.2 _ [] K r ((rmb_12 K c hp).trans h2) W ρ w us hr ha
        · exact base22.2 _ [] K r ((rmb_13 K c hp).trans h2) W ρ w us hr ha
        · exact base22.2 _ [] K r ((rmb_14 K c hp).trans h2) W ρ w us hr ha
        · exact base22.2 _ [] K r ((rmb_15 K c hp).trans h2) W ρ w us hr ha
        · exact base22.2 _ [] K r ((rmb_16 K c hp).trans h2) W ρ w us hr ha
        · exact base22.2 _ [] K r ((rmb_17 K c hp).trans h2) W ρ w us hr ha
        · exact base22.2 _ [] K r ((rmb_18 K c hp).trans h2) W ρ w us hr ha
    · cases hK
noncomputable def C57 : Summ := codeX Tryd.prog (sums all [(29, F12)]) lvN 0 Tryd.f57
noncomputable def C58 : Summ := codeX Tryd.prog (sums all [(63, F63)]) lvN 0 Tryd.f58
theorem C57_ok : SumOk Tryd.prog 57 C57 := codeX_ok mixed noNG_prog (sums_call (Wr := all) (l := [(29, F12)]) ⟨F29_ok, trivial⟩) (sums_prim ⟨F29_ok, trivial⟩) rfl lvN 0
theorem C58_ok : SumOk Tryd.prog 58 C58 := codeX_ok mixed noNG_prog (sums_call (Wr := all) (l := [(63, F63)]) ⟨F63_ok, trivial⟩) (sums_prim ⟨F63_ok, trivial⟩) rfl lvN 0
noncomputable def G23c : Sums := sums all [(51, W 51), (57, C57), (58, C58), (30, F30b)]
def lv23c : Tl := ⟨fun q => match q with | 0 => some [1, 3, 4, 5] | _ => none, []⟩
theorem rby_1 {R : Type} (K : KV R) (c : CR0) : (codeX Tryd.prog G23c lv23c 8 Tryd.f23).run [.dat CT ((1 : Int), c)] [] K = bif whBad c.2.1 then ck (ByteArray.size c.2.2.2.1.2 < (500000 : Nat)) (bif decide (blE (bytesOf c.2.2.2.1.2) (1 : Int) = (0 : Int)) then ck (((1 : Nat) + List.length (pB (↑(ByteArray.size c.2.2.2.1.2) : Int) (1 : Nat) ++ bytesOf c.2.2.2.1.2)) * (1 : Nat) ≤ limit) (ck (((1 : Nat) + List.length ([IntKind.wrap IntKind.u8 c.2.2.2.1.1] ++ (pB (↑(ByteArray.size c.2.2.2.1.2) : Int) (1 : Nat) ++ bytesOf c.2.2.2.1.2))) * (1 : Nat) ≤ limit) (ck (ByteArray.size c.2.2.2.2.1 < (500000 : Nat)) (bif decide (blE (bytesOf c.2.2.2.2.1) (2 : Int) = (0 : Int)) then ck ((List.length ([IntKind.wrap IntKind.u8 (1 : Int)] ++ [] ++ ([IntKind.wrap IntKind.u8 c.2.2.2.1.1] ++ (pB (↑(ByteArray.size c.2.2.2.1.2) : Int) (1 : Nat) ++ bytesOf c.2.2.2.1.2))) + List.length (pB (↑(ByteArray.size c.2.2.2.2.1) : Int) (2 : Nat) ++ bytesOf c.2.2.2.2.1)) * (1 : Nat) ≤ limit) (K (AV.view 0) [AO.row 5 U8 ([IntKind.wrap IntKind.u8 (1 : Int)] ++ [] ++ ([IntKind.wrap IntKind.u8 c.2.2.2.1.1] ++ (pB (↑(ByteArray.size c.2.2.2.1.2) : Int) (1 : Nat) ++ bytesOf c.2.2.2.1.2)) ++ (pB (↑(ByteArray.size c.2.2.2.2.1) : Int) (2 : Nat) ++ bytesOf c.2.2.2.2.1)) Md.own]) else ck ((List.length ([IntKind.wrap IntKind.u8 (1 : Int)] ++ [] ++ ([IntKind.wrap IntKind.u8 c.2.2.2.1.1] ++ (pB (↑(ByteArray.size c.2.2.2.1.2) : Int) (1 : Nat) ++ bytesOf c.2.2.2.1.2))) + (0 : Nat)) * (1 : Nat) ≤ limit) (K (AV.view 0) [AO.row 5 U8 ([IntKind.wrap IntKind.u8 (1 : Int)] ++ [] ++ ([IntKind.wrap IntKind.u8 c.2.2.2.1.1] ++ (pB (↑(ByteArray.size c.2.2.2.1.2) : Int) (1 : Nat) ++ bytesOf c.2.2.2.1.2)) ++ []) Md.own])))) else ck (ByteArray.size c.2.2.2.2.1 < (500000 : Nat)) (bif decide (blE (bytesOf c.2.2.2.2.1) (2 : Int) = (0 : Int)) then ck (((2 : Nat) + List.length (pB (↑(ByteArray.size c.2.2.2.2.1) : Int) (2 : Nat) ++ bytesOf c.2.2.2.2.1)) * (1 : Nat) ≤ limit) (K (AV.view 0) [AO.row 5 U8 ([IntKind.wrap IntKind.u8 (1 : Int)] ++ [] ++ ([IntKind.wrap IntKind.u8 c.2.2.2.1.1] ++ []) ++ (pB (↑(ByteArray.size c.2.2.2.2.1) : Int) (2 : Nat) ++ bytesOf c.2.2.2.2.1)) Md.own]) else K (AV.view 0) [AO.row 5 U8 ([IntKind.wrap IntKind.u8 (1 : Int)] ++ [] ++ ([IntKind.wrap IntKind.u8 c.2.2.2.1.1] ++ []) ++ []) Md.own])) else ck (ByteArray.size c.2.2.2.1.2 < (500000 : Nat)) (bif decide (blE (bytesOf c.2.2.2.1.2) (1 : Int) = (0 : Int)) then ck (((1 : Nat) + List.length (pB (↑(ByteArray.size c.2.2.2.1.2) : Int) (1 : Nat) ++ bytesOf c.2.2.2.1.2)) * (1 : Nat) ≤ limit) (ck (((5 : Nat) + List.length ([IntKind.wrap IntKind.u8 c.2.2.2.1.1] ++ (pB (↑(ByteArray.size c.2.2.2.1.2) : Int) (1 : Nat) ++ bytesOf c.2.2.2.1.2))) * (1 : Nat) ≤ limit) (ck (ByteArray.size c.2.2.2.2.1 < (500000 : Nat)) (bif decide (blE (bytesOf c.2.2.2.2.1) (2 : Int) = (0 : Int)) then ck ((List.length ([IntKind.wrap IntKind.u8 (1 : Int)] ++ pB (wholeN c.2.1) (4 : Nat) ++ ([IntKind.wrap IntKind.u8 c.2.2.2.1.1] ++ (pB (↑(ByteArray.size c.2.2.2.1.2) : Int) (1 : Nat) ++ bytesOf c.2.2.2.1.2))) + List.length (pB (↑(ByteArray.size c.2.2.2.2.1) : Int) (2 : Nat) ++ bytesOf c.2.2.2.2.1)) * (1 : Nat) ≤ limit) (K (AV.view 0) [AO.row 5 U8 ([IntKind.wrap IntKind.u8 (1 : Int)] ++ pB (wholeN c.2.1) (4 : Nat) ++ ([IntKind.wrap IntKind.u8 c.2.2.2.1.1] ++ (pB (↑(ByteArray.size c.2.2.2.1.2) : Int) (1 : Nat) ++ bytesOf c.2.2.2.1.2)) ++ (pB (↑(ByteArray.size c.2.2.2.2.1) : Int) (2 : Nat) ++ bytesOf c.2.2.2.2.1)) Md.own]) else ck ((List.length ([IntKind.wrap IntKind.u8 (1 : Int)] ++ pB (wholeN c.2.1) (4 : Nat) ++ ([IntKind.wrap IntKind.u8 c.2.2.2.1.1] ++ (pB (↑(ByteArray.size c.2.2.2.1.2) : Int) (1 : Nat) ++ bytesOf c.2.2.2.1.2))) + (0 : Nat)) * (1 : Nat) ≤ limit) (K (AV.view 0) [AO.row 5 U8 ([IntKind.wrap IntKind.u8 (1 : Int)] ++ pB (wholeN c.2.1) (4 : Nat) ++ ([IntKind.wrap IntKind.u8 c.2.2.2.1.1] ++ (pB (↑(ByteArray.size c.2.2.2.1.2) : Int) (1 : Nat) ++ bytesOf c.2.2.2.1.2)) ++ []) Md.own])))) else ck (ByteArray.size c.2.2.2.2.1 < (500000 : Nat)) (bif decide (blE (bytesOf c.2.2.2.2.1) (2 : Int) = (0 : Int)) then ck (((6 : Nat) + List.length (pB (↑(ByteArray.size c.2.2.2.2.1) : Int) (2 : Nat) ++ bytesOf c.2.2.2.2.1)) * (1 : Nat) ≤ limit) (K (AV.view 0) [AO.row 5 U8 ([IntKind.wrap IntKind.u8 (1 : Int)] ++ pB (wholeN c.2.1) (4 : Nat) ++ ([IntKind.wrap IntKind.u8 c.2.2.2.1.1] ++ []) ++ (pB (↑(ByteArray.size c.2.2.2.2.1) : Int) (2 : Nat) ++ bytesOf c.2.2.2.2.1)) Md.own]) else K (AV.view 0) [AO.row 5 U8 ([IntKind.wrap IntKind.u8 (1 : Int)] ++ pB (wholeN c.2.1) (4 : Nat) ++ ([IntKind.wrap IntKind.u8 c.2.2.2.1.1] ++ []) ++ []) Md.own])) := by kernel_rfl
theorem rby_2 {R : Type} (K : KV R) (c : CR0) : (codeX Tryd.prog G23c lv23c 8 Tryd.f23).run [.dat CT ((2 : Int), c)] [] K = ck (ByteArray.size c.2.2.2.1.2 < (500000 : Nat)) (bif decide (blE (bytesOf c.2.2.2.1.2) (1 : Int) = (0 : Int)) then ck (((1 : Nat) + List.length (pB (↑(ByteArray.size c.2.2.2.1.2) : Int) (1 : Nat) ++ bytesOf c.2.2.2.1.2)) * (1 : Nat) ≤ limit) (ck (((1 : Nat) + List.length ([IntKind.wrap IntKind.u8 c.2.2.2.1.1] ++ (pB (↑(ByteArray.size c.2.2.2.1.2) : Int) (1 : Nat) ++ bytesOf c.2.2.2.1.2))) * (1 : Nat) ≤ limit) (K (AV.view 0) [AO.row 5 U8 ([IntKind.wrap IntKind.u8 (2 : Int)] ++ ([IntKind.wrap IntKind.u8 c.2.2.2.1.1] ++ (pB (↑(ByteArray.size c.2.2.2.1.2) : Int) (1 : Nat) ++ bytesOf c.2.2.2.1.2))) Md.own])) else K (AV.view 0) [AO.row 5 U8 ([IntKind.wrap IntKind.u8 (2 : Int)] ++ ([IntKind.wrap IntKind.u8 c.2.2.2.1.1] ++ [])) Md.own]) := by kernel_rfl
theorem rby_3 {R : Type} (K : KV R) (c : CR0) : (codeX Tryd.prog G23c lv23c 8 Tryd.f23).run [.dat CT ((3 : Int), c)] [] K = bif whBad c.2.1 then ck (ByteArray.size c.2.2.2.1.2 < (500000 : Nat)) (bif decide (blE (bytesOf c.2.2.2.1.2) (1 : Int) = (0 : Int)) then ck (((1 : Nat) + List.length (pB (↑(ByteArray.size c.2.2.2.1.2) : Int) (1 : Nat) ++ bytesOf c.2.2.2.1.2)) * (1 : Nat) ≤ limit) (ck (((1 : Nat) + List.length ([IntKind.wrap IntKind.u8 c.2.2.2.1.1] ++ (pB (↑(ByteArray.size c.2.2.2.1.2) : Int) (1 : Nat) ++ bytesOf c.2.2.2.1.2))) * (1 : Nat) ≤ limit) (K (AV.view 0) [AO.row 5 U8 ([IntKind.wrap IntKind.u8 (3 : Int)] ++ [] ++ ([IntKind.wrap IntKind.u8 c.2.2.2.1.1] ++ (pB (↑(ByteArray.size c.2.2.2.1.2) : Int) (1 : Nat) ++ bytesOf c.2.2.2.1.2))) Md.own])) else K (AV.view 0) [AO.row 5 U8 ([IntKind.wrap IntKind.u8 (3 : Int)] ++ [] ++ ([IntKind.wrap IntKind.u8 c.2.2.2.1.1] ++ [])) Md.own]) else ck (ByteArray.size c.2.2.2.1.2 < (500000 : Nat)) (bif decide (blE (bytesOf c.2.2.2.1.2) (1 : Int) = (0 : Int)) then ck (((1 : Nat) + List.length (pB (↑(ByteArray.size c.2.2.2.1.2) : Int) (1 : Nat) ++ bytesOf c.2.2.2.1.2)) * (1 : Nat) ≤ limit) (ck (((5 : Nat) + List.length ([IntKind.wrap IntKind.u8 c.2.2.2.1.1] ++ (pB (↑(ByteArray.size c.2.2.2.1.2) : Int) (1 : Nat) ++ bytesOf c.2.2.2.1.2))) * (1 : Nat) ≤ limit) (K (AV.view 0) [AO.row 5 U8 ([IntKind.wrap IntKind.u8 (3 : Int)] ++ pB (wholeN c.2.1) (4 : Nat) ++ ([IntKind.wrap IntKind.u8 c.2.2.2.1.1] ++ (pB (↑(ByteArray.size c.2.2.2.1.2) : Int) (1 : Nat) ++ bytesOf c.2.2.2.1.2))) Md.own])) else K (AV.view 0) [AO.row 5 U8 ([IntKind.wrap IntKind.u8 (3 : Int)] ++ pB (wholeN c.2.1) (4 : Nat) ++ ([IntKind.wrap IntKind.u8 c.2.2.2.1.1] ++ [])) Md.own]) := by kernel_rfl
theorem rby_4 {R : Type} (K : KV R) (c : CR0) : (codeX Tryd.prog G23c lv23c 8 Tryd.f23).run [.dat CT ((4 : Int), c)] [] K = bif whBad c.1 then K (AV.view 0) [AO.row 5 U8 ([IntKind.wrap IntKind.u8 (4 : Int)] ++ []) Md.own] else K (AV.view 0) [AO.row 5 U8 ([IntKind.wrap IntKind.u8 (4 : Int)] ++ pB (wholeN c.1) (4 : Nat)) Md.own] := by kernel_rfl
theorem rby_5 {R : Type} (K : KV R) (c : CR0) : (codeX Tryd.prog G23c lv23c 8 Tryd.f23).run [.dat CT ((5 : Int), c)] [] K = bif whBad c.1 then ck (ByteArray.size c.2.2.2.2.1 < (500000 : Nat)) (bif decide (blE (bytesOf c.2.2.2.2.1) (2 : Int) = (0 : Int)) then ck (((1 : Nat) + List.length (pB (↑(ByteArray.size c.2.2.2.2.1) : Int) (2 : Nat) ++ bytesOf c.2.2.2.2.1)) * (1 : Nat) ≤ limit) (K (AV.view 0) [AO.row 5 U8 ([IntKind.wrap IntKind.u8 (5 : Int)] ++ [] ++ (pB (↑(ByteArray.size c.2.2.2.2.1) : Int) (2 : Nat) ++ bytesOf c.2.2.2.2.1)) Md.own]) else K (AV.view 0) [AO.row 5 U8 ([IntKind.wrap IntKind.u8 (5 : Int)] ++ [] ++ []) Md.own]) else ck (ByteArray.size c.2.2.2.2.1 < (500000 : Nat)) (bif decide (blE (bytesOf c.2.2.2.2.1) (2 : Int) = (0 : Int)) then ck (((5 : Nat) + List.length (pB (↑(ByteArray.size c.2.2.2.2.1) : Int) (2 : Nat) ++ bytesOf c.2.2.2.2.1)) * (1 : Nat) ≤ limit) (K (AV.view 0) [AO.row 5 U8 ([IntKind.wrap IntKind.u8 (5 : Int)] ++ pB (wholeN c.1) (4 : Nat) ++ (pB (↑(ByteArray.size c.2.2.2.2.1) : Int) (2 : Nat) ++ bytesOf c.2.2.2.2.1)) Md.own]) else K (AV.view 0) [AO.row 5 U8 ([IntKind.wrap IntKind.u8 (5 : Int)] ++ pB (wholeN c.1) (4 : Nat) ++ []) Md.own]) := by kernel_rfl
theorem rby_6 {R : Type} (K : KV R) (c : CR0) : (codeX Tryd.prog G23c lv23c 8 Tryd.f23).run [.dat CT ((6 : Int), c)] [] K = bif whBad c.1 then K (AV.view 0) [AO.row 5 U8 ([IntKind.wrap IntKind.u8 (6 : Int)] ++ []) Md.own] else K (AV.view 0) [AO.row 5 U8 ([IntKind.wrap IntKind.u8 (6 : Int)] ++ pB (wholeN c.1) (4 : Nat)) Md.own] := by kernel_rfl
theorem rby_7 {R : Type} (K : KV R) (c : CR0) : (codeX Tryd.prog G23c lv23c 8 Tryd.f23).run [.dat CT ((7 : Int), c)] [] K = bif whBad c.1 then bif whBad c.2.1 then K (AV.view 0) [AO.row 5 U8 ([IntKind.wrap IntKind.u8 (7 : Int)] ++ [] ++ []) Md.own] else K (AV.view 0) [AO.row 5 U8 ([IntKind.wrap IntKind.u8 (7 : Int)] ++ [] ++ pB (wholeN c.2.1) (4 : Nat)) Md.own] else bif whBad c.2.1 then K (AV.view 0) [AO.row 5 U8 ([IntKind.wrap IntKind.u8 (7 : Int)] ++ pB (wholeN c.1) (4 : Nat) ++ []) Md.own] else K (AV.view 0) [AO.row 5 U8 ([IntKind.wrap IntKind.u8 (7 : Int)] ++ pB (wholeN c.1) (4 : Nat) ++ pB (wholeN c.2.1) (4 : Nat)) Md.own] := by kernel_rfl
theorem rby_8 {R : Type} (K : KV R) (c : CR0) : (codeX Tryd.prog G23c lv23c 8 Tryd.f23).run [.dat CT ((8 : Int), c)] [] K = bif whBad c.1 then bif whBad c.2.1 then K (AV.view 0) [AO.row 5 U8 ([IntKind.wrap IntKind.u8 (8 : Int)] ++ [] ++ []) Md.own] else K (AV.view 0) [AO.row 5 U8 ([IntKind.wrap IntKind.u8 (8 : Int)] ++ [] ++ pB (wholeN c.2.1) (4 : Nat)) Md.own] else bif whBad c.2.1 then K (AV.view 0) [AO.row 5 U8 ([IntKind.wrap IntKind.u8 (8 : Int)] ++ pB (wholeN c.1) (4 : Nat) ++ []) Md.own] else K (AV.view 0) [AO.row 5 U8 ([IntKind.wrap IntKind.u8 (8 : Int)] ++ pB (wholeN c.1) (4 : Nat) ++ pB (wholeN c.2.1) (4 : Nat)) Md.own] := by kernel_rfl
theorem rby_9 {R : Type} (K : KV R) (c : CR0) : (codeX Tryd.prog G23c lv23c 8 Tryd.f23).run [.dat CT ((9 : Int), c)] [] K = bif whBad c.1 then bif whBad c.2.1 then bif whBad c.2.2.1 then K (AV.view 0) [AO.row 5 U8 ([IntKind.wrap IntKind.u8 (9 : Int)] ++ [] ++ [] ++ []) Md.own] else K (AV.view 0) [AO.row 5 U8 ([IntKind.wrap IntKind.u8 (9 : Int)] ++ [] ++ [] ++ pB (wholeN c.2.2.1) (4 : Nat)) Md.own] else bif whBad c.2.2.1 then K (AV.view 0) [AO.row 5 U8 ([IntKind.wrap IntKind.u8 (9 : Int)] ++ [] ++ pB (wholeN c.2.1) (4 : Nat) ++ []) Md.own] else K (AV.view 0) [AO.row 5 U8 ([IntKind.wrap IntKind.u8 (9 : Int)] ++ [] ++ pB (wholeN c.2.1) (4 : Nat) ++ pB (wholeN c.2.2.1) (4 : Nat)) Md.own] else bif whBad c.2.1 then bif whBad c.2.2.1 then K (AV.view 0) [AO.row 5 U8 ([IntKind.wrap IntKind.u8 (9 : Int)] ++ pB (wholeN c.1) (4 : Nat) ++ [] ++ []) Md.own] else K (AV.view 0) [AO.row 5 U8 ([IntKind.wrap IntKind.u8 (9 : Int)] ++ pB (wholeN c.1) (4 : Nat) ++ [] ++ pB (wholeN c.2.2.1) (4 : Nat)) Md.own] else bif whBad c.2.2.1 then K (AV.view 0) [AO.row 5 U8 ([IntKind.wrap IntKind.u8 (9 : Int)] ++ pB (wholeN c.1) (4 : Nat) ++ pB (wholeN c.2.1) (4 : Nat) ++ []) Md.own] else K (AV.view 0) [AO.row 5 U8 ([IntKind.wrap IntKind.u8 (9 : Int)] ++ pB (wholeN c.1) (4 : Nat) ++ pB (wholeN c.2.1) (4 : Nat) ++ pB (wholeN c.2.2.1) (4 : Nat)) Md.own] := by kernel_rfl
theorem rby_10 {R : Type} (K : KV R) (c : CR0) : (codeX Tryd.prog G23c lv23c 8 Tryd.f23).run [.dat CT ((10 : Int), c)] [] K = bif whBad c.2.1 then K (AV.view 0) [AO.row 5 U8 ([IntKind.wrap IntKind.u8 (10 : Int)] ++ []) Md.own] else K (AV.view 0) [AO.row 5 U8 ([IntKind.wrap IntKind.u8 (10 : Int)] ++ pB (wholeN c.2.1) (4 : Nat)) Md.own] := by kernel_rfl
theorem rby_11 {R : Type} (K : KV R) (c : CR0) : (codeX Tryd.prog G23c lv23c 8 Tryd.f23).run [.dat CT ((11 : Int), c)] [] K = bif whBad c.1 then bif rPbad (IntKind.wrap IntKind.u64 c.2.2.2.2.2.1) (4 : Int) then K (AV.view 0) [AO.row 5 U8 ([IntKind.wrap IntKind.u8 (11 : Int)] ++ [] ++ []) Md.own] else K (AV.view 0) [AO.row 5 U8 ([IntKind.wrap IntKind.u8 (11 : Int)] ++ [] ++ rB (IntKind.wrap IntKind.u64 c.2.2.2.2.2.1) (4 : Nat)) Md.own] else bif rPbad (IntKind.wrap IntKind.u64 c.2.2.2.2.2.1) (4 : Int) then K (AV.view 0) [AO.row 5 U8 ([IntKind.wrap IntKind.u8 (11 : Int)] ++ pB (wholeN c.1) (4 : Nat) ++ []) Md.own] else K (AV.view 0) [AO.row 5 U8 ([IntKind.wrap IntKind.u8 (11 : Int)] ++ pB (wholeN c.1) (4 : Nat) ++ rB (IntKind.wrap IntKind.u64 c.2.2.2.2.2.1) (4 : Nat)) Md.own] := by kernel_rfl
theorem rby_12 {R : Type} (K : KV R) (c : CR0) : (codeX Tryd.prog G23c lv23c 8 Tryd.f23).run [.dat CT ((12 : Int), c)] [] K = bif whBad c.1 then bif rPbad (IntKind.wrap IntKind.u64 c.2.2.2.2.2.2.1) (1 : Int) then bif rPbad (IntKind.wrap IntKind.u64 c.2.2.2.2.2.2.2.1) (1 : Int) then K (AV.view 0) [AO.row 5 U8 ([IntKind.wrap IntKind.u8 (12 : Int)] ++ [] ++ [] ++ []) Md.own] else K (AV.view 0) [AO.row 5 U8 ([IntKind.wrap IntKind.u8 (12 : Int)] ++ [] ++ [] ++ rB (IntKind.wrap IntKind.u64 c.2.2.2.2.2.2.2.1) (1 : Nat)) Md.own] else bif rPbad (IntKind.wrap IntKind.u64 c.2.2.2.2.2.2.2.1) (1 : Int) then K (AV.view 0) [AO.row 5 U8 ([IntKind.wrap IntKind.u8 (12 : Int)] ++ [] ++ rB (IntKind.wrap IntKind.u64 c.2.2.2.2.2.2.1) (1 : Nat) ++ []) Md.own] else K (AV.view 0) [AO.row 5 U8 ([IntKind.wrap IntKind.u8 (12 : Int)] ++ [] ++ rB (IntKind.wrap IntKind.u64 c.2.2.2.2.2.2.1) (1 : Nat) ++ rB (IntKind.wrap IntKind.u64 c.2.2.2.2.2.2.2.1) (1 : Nat)) Md.own] else bif rPbad (IntKind.wrap IntKind.u64 c.2.2.2.2.2.2.1) (1 : Int) then bif rPbad (IntKind.wrap IntKind.u64 c.2.2.2.2.2.2.2.1) (1 : Int) then K (AV.view 0) [AO.row 5 U8 ([IntKind.wrap IntKind.u8 (12 : Int)] ++ pB (wholeN c.1) (4 : Nat) ++ [] ++ []) Md.own] else K (AV.view 0) [AO.row 5 U8 ([IntKind.wrap IntKind.u8 (12 : Int)] ++ pB (wholeN c.1) (4 : Nat) ++ [] ++ rB (IntKind.wrap IntKind.u64 c.2.2.2.2.2.2.2.1) (1 : Nat)) Md.own] else bif rPbad (IntKind.wrap IntKind.u64 c.2.2.2.2.2.2.2.1) (1 : Int) then K (AV.view 0) [AO.row 5 U8 ([IntKind.wrap IntKind.u8 (12 : Int)] ++ pB (wholeN c.1) (4 : Nat) ++ rB (IntKind.wrap IntKind.u64 c.2.2.2.2.2.2.1) (1 : Nat) ++ []) Md.own] else K (AV.view 0) [AO.row 5 U8 ([IntKind.wrap IntKind.u8 (12 : Int)] ++ pB (wholeN c.1) (4 : Nat) ++ rB (IntKind.wrap IntKind.u64 c.2.2.2.2.2.2.1) (1 : Nat) ++ rB (IntKind.wrap IntKind.u64 c.2.2.2.2.2.2.2.1) (1 : Nat)) Md.own] := by kernel_rfl
theorem rby_13 {R : Type} (K : KV R) (c : CR0) : (codeX Tryd.prog G23c lv23c 8 Tryd.f23).run [.dat CT ((13 : Int), c)] [] K = bif whBad c.1 then bif rPbad c.2.2.2.2.2.2.2.2.1 (8 : Int) then K (AV.view 0) [AO.row 5 U8 ([IntKind.wrap IntKind.u8 (13 : Int)] ++ [] ++ []) Md.own] else K (AV.view 0) [AO.row 5 U8 ([IntKind.wrap IntKind.u8 (13 : Int)] ++ [] ++ rB c.2.2.2.2.2.2.2.2.1 (8 : Nat)) Md.own] else bif rPbad c.2.2.2.2.2.2.2.2.1 (8 : Int) then K (AV.view 0) [AO.row 5 U8 ([IntKind.wrap IntKind.u8 (13 : Int)] ++ pB (wholeN c.1) (4 : Nat) ++ []) Md.own] else K (AV.view 0) [AO.row 5 U8 ([IntKind.wrap IntKind.u8 (13 : Int)] ++ pB (wholeN c.1) (4 : Nat) ++ rB c.2.2.2.2.2.2.2.2.1 (8 : Nat)) Md.own] := by kernel_rfl
theorem rby_14 {R : Type} (K : KV R) (c : CR0) : (codeX Tryd.prog G23c lv23c 8 Tryd.f23).run [.dat CT ((14 : Int), c)] [] K = bif whBad c.1 then K (AV.view 0) [AO.row 5 U8 ([IntKind.wrap IntKind.u8 (14 : Int)] ++ []) Md.own] else K (AV.view 0) [AO.row 5 U8 ([IntKind.wrap IntKind.u8 (14 : Int)] ++ pB (wholeN c.1) (4 : Nat)) Md.own] := by kernel_rfl
theorem rby_15 {R : Type} (K : KV R) (c : CR0) : (codeX Tryd.prog G23c lv23c 8 Tryd.f23).run [.dat CT ((15 : Int), c)] [] K = bif whBad c.1 then K (AV.view 0) [AO.row 5 U8 ([IntKind.wrap IntKind.u8 (15 : Int)] ++ []) Md.own] else K (AV.view 0) [AO.row 5 U8 ([IntKind.wrap IntKind.u8 (15 : Int)] ++ pB (wholeN c.1) (4 : Nat)) Md.own] := by kernel_rfl
theorem rby_16 {R : Type} (K : KV R) (c : CR0) : (codeX Tryd.prog G23c lv23c 8 Tryd.f23).run [.dat CT ((16 : Int), c)] [] K = bif whBad c.2.1 then bif rPbad (IntKind.wrap IntKind.u64 c.2.2.2.2.2.2.2.2.2.1) (1 : Int) then K (AV.view 0) [AO.row 5 U8 ([IntKind.wrap IntKind.u8 (16 : Int)] ++ [] ++ []) Md.own] else K (AV.view 0) [AO.row 5 U8 ([IntKind.wrap IntKind.u8 (16 : Int)] ++ [] ++ rB (IntKind.wrap IntKind.u64 c.2.2.2.2.2.2.2.2.2.1) (1 : Nat)) Md.own] else bif rPbad (IntKind.wrap IntKind.u64 c.2.2.2.2.2.2.2.2.2.1) (1 : Int) then K (AV.view 0) [AO.row 5 U8 ([IntKind.wrap IntKind.u8 (16 : Int)] ++ pB (wholeN c.2.1) (4 : Nat) ++ []) Md.own] else K (AV.view 0) [AO.row 5 U8 ([IntKind.wrap IntKind.u8 (16 : Int)] ++ pB (wholeN c.2.1) (4 : Nat) ++ rB (IntKind.wrap IntKind.u64 c.2.2.2.2.2.2.2.2.2.1) (1 : Nat)) Md.own] := by kernel_rfl
theorem rby_17 {R : Type} (K : KV R) (c : CR0) : (codeX Tryd.prog G23c lv23c 8 Tryd.f23).run [.dat CT ((17 : Int), c)] [] K = bif whBad c.1 then bif c.2.2.2.2.2.2.2.2.2.2 then K (AV.view 0) [AO.row 5 U8 ([IntKind.wrap IntKind.u8 (17 : Int)] ++ [] ++ List.set [(0 : Int)] (0 : Nat) (1 : Int)) Md.own] else K (AV.view 0) [AO.row 5 U8 ([IntKind.wrap IntKind.u8 (17 : Int)] ++ [] ++ [(0 : Int)]) Md.own] else bif c.2.2.2.2.2.2.2.2.2.2 then K (AV.view 0) [AO.row 5 U8 ([IntKind.wrap IntKind.u8 (17 : Int)] ++ pB (wholeN c.1) (4 : Nat) ++ List.set [(0 : Int)] (0 : Nat) (1 : Int)) Md.own] else K (AV.view 0) [AO.row 5 U8 ([IntKind.wrap IntKind.u8 (17 : Int)] ++ pB (wholeN c.1) (4 : Nat) ++ [(0 : Int)]) Md.own] := by kernel_rfl
theorem rby_18 {R : Type} (K : KV R) (c : CR0) : (codeX Tryd.prog G23c lv23c 8 Tryd.f23).run [.dat CT ((18 : Int), c)] [] K = ck (ByteArray.size c.2.2.2.1.2 < (500000 : Nat)) (bif decide (blE (bytesOf c.2.2.2.1.2) (1 : Int) = (0 : Int)) then ck (((1 : Nat) + List.length (pB (↑(ByteArray.size c.2.2.2.1.2) : Int) (1 : Nat) ++ bytesOf c.2.2.2.1.2)) * (1 : Nat) ≤ limit) (K (AV.view 0) [AO.row 5 U8 ([IntKind.wrap IntKind.u8 (18 : Int)] ++ (pB (↑(ByteArray.size c.2.2.2.1.2) : Int) (1 : Nat) ++ bytesOf c.2.2.2.1.2)) Md.own]) else K (AV.view 0) [AO.row 5 U8 ([IntKind.wrap IntKind.u8 (18 : Int)] ++ []) Md.own]) := by kernel_rfl
end Go.Mx
namespace Go.Mx
open Go Go.RowKit Go.Sx Go.Proofs
set_option maxRecDepth 100000
theorem enc_whole {v : Int} (h : inW v) : (bif whBad v then [] else pB (wholeN v) 4) = pB (wholeN v) 4 ∧ whBad v = false := by
  have e := (whole_int h []).1
  rw [e]; exact ⟨rfl, rfl⟩
theorem enc_byte {v : Int} (h : inB v) : (bif pBad (IntKind.wrap .u64 v) 1 then [] else pB (IntKind.wrap .u64 v) 1) = [IntKind.wrap .u8 v] := by
  rw [(byte_int h []).1, cond_false, show IntKind.wrap .u64 v = v by rw [IntKind.wrap_u64]; omega, IntKind.wrap_u8]
  obtain ⟨n, rfl⟩ : ∃ n : Nat, v = (n : Int) := ⟨v.toNat, by omega⟩
  rw [pB_cons n 0 (by omega) (by omega)]
  show [((n % 256 : Nat) : Int)] = _
  rw [Int.natCast_emod]; rfl
theorem enc_rb {v : Int} (h : inB v) : (bif pBad (IntKind.wrap .u64 v) 1 then [] else pB (IntKind.wrap .u64 v) 1) = rB (IntKind.wrap .u64 v) 1 ∧ rPbad (IntKind.wrap .u64 v) 1 = false := by
  have e := (byte_int h []).1
  have hr : 0 ≤ IntKind.wrap .u64 v ∧ IntKind.wrap .u64 v < 18446744073709551616 := by rw [IntKind.wrap_u64]; omega
  rw [rPbad_eq hr, e, cond_false, rB_eq hr (by omega)]
  exact ⟨rfl, rfl⟩
theorem enc_rm {v : Int} (h : inM v) : (bif pBad (IntKind.wrap .u64 v) 4 then [] else pB (IntKind.wrap .u64 v) 4) = rB (IntKind.wrap .u64 v) 4 ∧ rPbad (IntKind.wrap .u64 v) 4 = false := by
  obtain ⟨e0, e, _⟩ := perm_int h []
  have hr : 0 ≤ v ∧ v < 18446744073709551616 := by omega
  rw [e0, rPbad_eq hr, e, cond_false, rB_eq hr (by omega)]
  exact ⟨rfl, rfl⟩
theorem enc_rt {v : Int} (h : inT v) : pB v 8 = rB v 8 ∧ rPbad v 8 = false := by
  rw [rPbad_eq h, rB_eq h (by omega)]
  exact ⟨rfl, pBad_no2 (m := 8) h.1 (by rw [show (256 ^ 8 : Nat) = 18446744073709551616 from rfl]; omega) h.2 (by omega) (by omega)⟩
theorem enc_blob {s : ByteArray} {m : Nat} (hm : m = 1 ∨ m = 2) (h : s.size < 256 ^ m) : (bif decide (blE (bytesOf s) (m : Int) = 0) then pB (((bytesOf s).length : Nat) : Int) m ++ bytesOf s else []) = pB ((s.size : Nat) : Int) m ++ bytesOf s ∧ blE (bytesOf s) (m : Int) = 0 := by
  have e := (blob_int hm h []).1
  rw [e, decide_eq_true rfl, cond_true, bytesOf_length]
  exact ⟨rfl, rfl⟩
theorem enc_create (b : Bool) : (bif b then pB 1 1 else pB 0 1) = bif b then [1] else [0] := by cases b <;> decide +kernel
theorem rbb_1 {R : Type} (K : KV R) (c : CR0) (hw : wfC ((1 : Int), c)) (hmay : mayM ((1 : Int), c) = true) : (codeX Tryd.prog G23c lv23c 8 Tryd.f23).run [.dat CT ((1 : Int), c)] [] K = K (.view 0) [.row 5 U8 (bytesM ((1 : Int), c)) .own] := by
  obtain ⟨m1, m2, mok, _, _⟩ := (may_iff _ hw.2.1).1 hmay
  have m1 : ByteArray.size c.2.2.2.2.1 ≤ 256 := m1
  have m2 : ByteArray.size c.2.2.2.1.2 ≤ 32 := m2
  have mok : ∀ p ∈ ([.ring, .typ, .desc, .payload] : List PK), okP p ((1 : Int), c) := mok
  have o_ring := mok .ring (by decide)
  obtain ⟨a_ring, b_ring⟩ := enc_whole (v := c.2.1) o_ring
  have c_ring : encP .ring ((1 : Int), c) = _ := a_ring
  have o_typ := mok .typ (by decide)
  have c_typ : encP .typ ((1 : Int), c) = _ := enc_byte (v := c.2.2.2.1.1) o_typ
  have o_desc := mok .desc (by decide)
  obtain ⟨a_desc, b_desc⟩ := enc_blob (s := c.2.2.2.1.2) (m := 1) (.inl rfl) o_desc
  have c_desc : encP .desc ((1 : Int), c) = _ := a_desc
  have b_desc : blE (bytesOf c.2.2.2.1.2) 1 = 0 := b_desc
  have o_payload := mok .payload (by decide)
  obtain ⟨a_payload, b_payload⟩ := enc_blob (s := c.2.2.2.2.1) (m := 2) (.inr rfl) o_payload
  have c_payload : encP .payload ((1 : Int), c) = _ := a_payload
  have b_payload : blE (bytesOf c.2.2.2.2.1) 2 = 0 := b_payload
  have eb : bytesM ((1 : Int), c) = [IntKind.wrap .u8 1] ++ encP .ring ((1 : Int), c) ++ encP .typ ((1 : Int), c) ++ encP .desc ((1 : Int), c) ++ encP .payload ((1 : Int), c) := rfl
  rw [eb, c_ring, c_typ, c_desc, c_payload]
  refine (rby_1 K c).trans ?_
  simp only [b_ring, b_desc, b_payload, cond_false, cond_true, decide_true]
  have k1 := bytesOf_length c.2.2.2.1.2
  have k2 := bytesOf_length c.2.2.2.2.1
  refine (ck_pos (by (try simp only [List.length_append, pB_len, List.length_cons, List.length_nil]); (try unfold limit); omega)).trans ?_
  refine (ck_pos (by (try simp only [List.length_append, pB_len, List.length_cons, List.length_nil]); (try unfold limit); omega)).trans ?_
  refine (ck_pos (by (try simp only [List.length_append, pB_len, List.length_cons, List.length_nil]); (try unfold limit); omega)).trans ?_
  refine (ck_pos (by (try simp only [List.length_append, pB_len, List.length_cons, List.length_nil]); (try unfold limit); omega)).trans ?_
  refine (ck_pos (by (try simp only [List.length_append, pB_len, List.length_cons, List.length_nil]); (try unfold limit); omega)).trans ?_
  simp only [List.append_assoc]
theorem rbb_2 {R : Type} (K : KV R) (c : CR0) (hw : wfC ((2 : Int), c)) (hmay : mayM ((2 : Int), c) = true) : (codeX Tryd.prog G23c lv23c 8 Tryd.f23).run [.dat CT ((2 : Int), c)] [] K = K (.view 0) [.row 5 U8 (bytesM ((2 : Int), c)) .own] := by
  obtain ⟨m1, m2, mok, _, _⟩ := (may_iff _ hw.2.1).1 hmay
  have m1 : ByteArray.size c.2.2.2.2.1 ≤ 256 := m1
  have m2 : ByteArray.size c.2.2.2.1.2 ≤ 32 := m2
  have mok : ∀ p ∈ ([.typ, .desc] : List PK), okP p ((2 : Int), c) := mok
  have o_typ := mok .typ (by decide)
  have c_typ : encP .typ ((2 : Int), c) = _ := enc_byte (v := c.2.2.2.1.1) o_typ
  have o_desc := mok .desc (by decide)
  obtain ⟨a_desc, b_desc⟩ := enc_blob (s := c.2.2.2.1.2) (m := 1) (.inl rfl) o_desc
  have c_desc : encP .desc ((2 : Int), c) = _ := a_desc
  have b_desc : blE (bytesOf c.2.2.2.1.2) 1 = 0 := b_desc
  have eb : bytesM ((2 : Int), c) = [IntKind.wrap .u8 2] ++ encP .typ ((2 : Int), c) ++ encP .desc ((2 : Int), c) := rfl
  rw [eb, c_typ, c_desc]
  refine (rby_2 K c).trans ?_
  simp only [b_desc, cond_false, cond_true, decide_true]
  have k1 := bytesOf_length c.2.2.2.1.2
  have k2 := bytesOf_length c.2.2.2.2.1
  refine (ck_pos (by (try simp only [List.length_append, pB_len, List.length_cons, List.length_nil]); (try unfold limit); omega)).trans ?_
  refine (ck_pos (by (try simp only [List.length_append, pB_len, List.length_cons, List.length_nil]); (try unfold limit); omega)).trans ?_
  refine (ck_pos (by (try simp only [List.length_append, pB_len, List.length_cons, List.length_nil]); (try unfold limit); omega)).trans ?_
  simp only [List.append_assoc]
theorem rbb_3 {R : Type} (K : KV R) (c : CR0) (hw : wfC ((3 : Int), c)) (hmay : mayM ((3 : Int), c) = true) : (codeX Tryd.prog G23c lv23c 8 Tryd.f23).run [.dat CT ((3 : Int), c)] [] K = K (.view 0) [.row 5 U8 (bytesM ((3 : Int), c)) .own] := by
  obtain ⟨m1, m2, mok, _, _⟩ := (may_iff _ hw.2.1).1 hmay
  have m1 : ByteArray.size c.2.2.2.2.1 ≤ 256 := m1
  have m2 : ByteArray.size c.2.2.2.1.2 ≤ 32 := m2
  have mok : ∀ p ∈ ([.ring, .typ, .desc] : List PK), okP p ((3 : Int), c) := mok
  have o_ring := mok .ring (by decide)
  obtain ⟨a_ring, b_ring⟩ := enc_whole (v := c.2.1) o_ring
  have c_ring : encP .ring ((3 : Int), c) = _ := a_ring
  have o_typ := mok .typ (by decide)
  have c_typ : encP .typ ((3 : Int), c) = _ := enc_byte (v := c.2.2.2.1.1) o_typ
  have o_desc := mok .desc (by decide)
  obtain ⟨a_desc, b_desc⟩ := enc_blob (s := c.2.2.2.1.2) (m := 1) (.inl rfl) o_desc
  have c_desc : encP .desc ((3 : Int), c) = _ := a_desc
  have b_desc : blE (bytesOf c.2.2.2.1.2) 1 = 0 := b_desc
  have eb : bytesM ((3 : Int), c) = [IntKind.wrap .u8 3] ++ encP .ring ((3 : Int), c) ++ encP .typ ((3 : Int), c) ++ encP .desc ((3 : Int), c) := rfl
  rw [eb, c_ring, c_typ, c_desc]
  refine (rby_3 K c).trans ?_
  simp only [b_ring, b_desc, cond_false, cond_true, decide_true]
  have k1 := bytesOf_length c.2.2.2.1.2
  have k2 := bytesOf_length c.2.2.2.2.1
  refine (ck_pos (by (try simp only [List.length_append, pB_len, List.length_cons, List.length_nil]); (try unfold limit); omega)).trans ?_
  refine (ck_pos (by (try simp only [List.length_append, pB_len, List.length_cons, List.length_nil]); (try unfold limit); omega)).trans ?_
  refine (ck_pos (by (try simp only [List.length_append, pB_len, List.length_cons, List.length_nil]); (try unfold limit); omega)).trans ?_
  simp only [List.append_assoc]
theorem rbb_4 {R : Type} (K : KV R) (c : CR0) (hw : wfC ((4 : Int), c)) (hmay : mayM ((4 : Int), c) = true) : (codeX Tryd.prog G23c lv23c 8 Tryd.f23).run [.dat CT ((4 : Int), c)] [] K = K (.view 0) [.row 5 U8 (bytesM ((4 : Int), c)) .own] := by
  obtain ⟨m1, m2, mok, _, _⟩ := (may_iff _ hw.2.1).1 hmay
  have m1 : ByteArray.size c.2.2.2.2.1 ≤ 256 := m1
  have m2 : ByteArray.size c.2.2.2.1.2 ≤ 32 := m2
  have mok : ∀ p ∈ ([.key] : List PK), okP p ((4 : Int), c) := mok
  have o_key := mok .key (by decide)
  obtain ⟨a_key, b_key⟩ := enc_whole (v := c.1) o_key
  have c_key : encP .key ((4 : Int), c) = _ := a_key
  have eb : bytesM ((4 : Int), c) = [IntKind.wrap .u8 4] ++ encP .key ((4 : Int), c) := rfl
  rw [eb, c_key]
  refine (rby_4 K c).trans ?_
  simp only [b_key, cond_false, cond_true, decide_true]
  all_goals rfl
theorem rbb_5 {R : Type} (K : KV R) (c : CR0) (hw : wfC ((5 : Int), c)) (hmay : mayM ((5 : Int), c) = true) : (codeX Tryd.prog G23c lv23c 8 Tryd.f23).run [.dat CT ((5 : Int), c)] [] K = K (.view 0) [.row 5 U8 (bytesM ((5 : Int), c)) .own] := by
  obtain ⟨m1, m2, mok, _, _⟩ := (may_iff _ hw.2.1).1 hmay
  have m1 : ByteArray.size c.2.2.2.2.1 ≤ 256 := m1
  have m2 : ByteArray.size c.2.2.2.1.2 ≤ 32 := m2
  have mok : ∀ p ∈ ([.key, .payload] : List PK), okP p ((5 : Int), c) := mok
  have o_key := mok .key (by decide)
  obtain ⟨a_key, b_key⟩ := enc_whole (v := c.1) o_key
  have c_key : encP .key ((5 : Int), c) = _ := a_key
  have o_payload := mok .payload (by decide)
  obtain ⟨a_payload, b_payload⟩ := enc_blob (s := c.2.2.2.2.1) (m := 2) (.inr rfl) o_payload
  have c_payload : encP .payload ((5 : Int), c) = _ := a_payload
  have b_payload : blE (bytesOf c.2.2.2.2.1) 2 = 0 := b_payload
  have eb : bytesM ((5 : Int), c) = [IntKind.wrap .u8 5] ++ encP .key ((5 : Int), c) ++ encP .payload ((5 : Int), c) := rfl
  rw [eb, c_key, c_payload]
  refine (rby_5 K c).trans ?_
  simp only [b_key, b_payload, cond_false, cond_true, decide_true]
  have k1 := bytesOf_length c.2.2.2.1.2
  have k2 := bytesOf_length c.2.2.2.2.1
  refine (ck_pos (by (try simp only [List.length_append, pB_len, List.length_cons, List.length_nil]); (try unfold limit); omega)).trans ?_
  refine (ck_pos (by (try simp only [List.length_append, pB_len, List.length_cons, List.length_nil]); (try unfold limit); omega)).trans ?_
  all_goals rfl
theorem rbb_6 {R : Type} (K : KV R) (c : CR0) (hw : wfC ((6 : Int), c)) (hmay : mayM ((6 : Int), c) = true) : (codeX Tryd.prog G23c lv23c 8 Tryd.f23).run [.dat CT ((6 : Int), c)] [] K = K (.view 0) [.row 5 U8 (bytesM ((6 : Int), c)) .own] := by
  obtain ⟨m1, m2, mok, _, _⟩ := (may_iff _ hw.2.1).1 hmay
  have m1 : ByteArray.size c.2.2.2.2.1 ≤ 256 := m1
  have m2 : ByteArray.size c.2.2.2.1.2 ≤ 32 := m2
  have mok : ∀ p ∈ ([.key] : List PK), okP p ((6 : Int), c) := mok
  have o_key := mok .key (by decide)
  obtain ⟨a_key, b_key⟩ := enc_whole (v := c.1) o_key
  have c_key : encP .key ((6 : Int), c) = _ := a_key
  have eb : bytesM ((6 : Int), c) = [IntKind.wrap .u8 6] ++ encP .key ((6 : Int), c) := rfl
  rw [eb, c_key]
  refine (rby_6 K c).trans ?_
  simp only [b_key, cond_false, cond_true, decide_true]
  all_goals rfl
theorem rbb_7 {R : Type} (K : KV R) (c : CR0) (hw : wfC ((7 : Int), c)) (hmay : mayM ((7 : Int), c) = true) : (codeX Tryd.prog G23c lv23c 8 Tryd.f23).run [.dat CT ((7 : Int), c)] [] K = K (.view 0) [.row 5 U8 (bytesM ((7 : Int), c)) .own] := by
  obtain ⟨m1, m2, mok, _, _⟩ := (may_iff _ hw.2.1).1 hmay
  have m1 : ByteArray.size c.2.2.2.2.1 ≤ 256 := m1
  have m2 : ByteArray.size c.2.2.2.1.2 ≤ 32 := m2
  have mok : ∀ p ∈ ([.key, .ring] : List PK), okP p ((7 : Int), c) := mok
  have o_key := mok .key (by decide)
  obtain ⟨a_key, b_key⟩ := enc_whole (v := c.1) o_key
  have c_key : encP .key ((7 : Int), c) = _ := a_key
  have o_ring := mok .ring (by decide)
  obtain ⟨a_ring, b_ring⟩ := enc_whole (v := c.2.1) o_ring
  have c_ring : encP .ring ((7 : Int), c) = _ := a_ring
  have eb : bytesM ((7 : Int), c) = [IntKind.wrap .u8 7] ++ encP .key ((7 : Int), c) ++ encP .ring ((7 : Int), c) := rfl
  rw [eb, c_key, c_ring]
  refine (rby_7 K c).trans ?_
  simp only [b_key, b_ring, cond_false, cond_true, decide_true]
  all_goals rfl
theorem rbb_8 {R : Type} (K : KV R) (c : CR0) (hw : wfC ((8 : Int), c)) (hmay : mayM ((8 : Int), c) = true) : (codeX Tryd.prog G23c lv23c 8 Tryd.f23).run [.dat CT ((8 : Int), c)] [] K = K (.view 0) [.row 5 U8 (bytesM ((8 : Int), c)) .own] := by
  obtain ⟨m1, m2, mok, _, _⟩ := (may_iff _ hw.2.1).1 hmay
  have m1 : ByteArray.size c.2.2.2.2.1 ≤ 256 := m1
  have m2 : ByteArray.size c.2.2.2.1.2 ≤ 32 := m2
  have mok : ∀ p ∈ ([.key, .ring] : List PK), okP p ((8 : Int), c) := mok
  have o_key := mok .key (by decide)
  obtain ⟨a_key, b_key⟩ := enc_whole (v := c.1) o_key
  have c_key : encP .key ((8 : Int), c) = _ := a_key
  have o_ring := mok .ring (by decide)
  obtain ⟨a_ring, b_ring⟩ := enc_whole (v := c.2.1) o_ring
  have c_ring : encP .ring ((8 : Int), c) = _ := a_ring
  have eb : bytesM ((8 : Int), c) = [IntKind.wrap .u8 8] ++ encP .key ((8 : Int), c) ++ encP .ring ((8 : Int), c) := rfl
  rw [eb, c_key, c_ring]
  refine (rby_8 K c).trans ?_
  simp only [b_key, b_ring, cond_false, cond_true, decide_true]
  all_goals rfl
theorem rbb_9 {R : Type} (K : KV R) (c : CR0) (hw : wfC ((9 : Int), c)) (hmay : mayM ((9 : Int), c) = true) : (codeX Tryd.prog G23c lv23c 8 Tryd.f23).run [.dat CT ((9 : Int), c)] [] K = K (.view 0) [.row 5 U8 (bytesM ((9 : Int), c)) .own] := by
  obtain ⟨m1, m2, mok, _, _⟩ := (may_iff _ hw.2.1).1 hmay
  have m1 : ByteArray.size c.2.2.2.2.1 ≤ 256 := m1
  have m2 : ByteArray.size c.2.2.2.1.2 ≤ 32 := m2
  have mok : ∀ p ∈ ([.key, .ring, .to] : List PK), okP p ((9 : Int), c) := mok
  have o_key := mok .key (by decide)
  obtain ⟨a_key, b_key⟩ := enc_whole (v := c.1) o_key
  have c_key : encP .key ((9 : Int), c) = _ := a_key
  have o_ring := mok .ring (by decide)
  obtain ⟨a_ring, b_ring⟩ := enc_whole (v := c.2.1) o_ring
  have c_ring : encP .ring ((9 : Int), c) = _ := a_ring
  have o_to := mok .to (by decide)
  obtain ⟨a_to, b_to⟩ := enc_whole (v := c.2.2.1) o_to
  have c_to : encP .to ((9 : Int), c) = _ := a_to
  have eb : bytesM ((9 : Int), c) = [IntKind.wrap .u8 9] ++ encP .key ((9 : Int), c) ++ encP .ring ((9 : Int), c) ++ encP .to ((9 : Int), c) := rfl
  rw [eb, c_key, c_ring, c_to]
  refine (rby_9 K c).trans ?_
  simp only [b_key, b_ring, b_to, cond_false, cond_true, decide_true]
  all_goals rfl
theorem rbb_10 {R : Type} (K : KV R) (c : CR0) (hw : wfC ((10 : Int), c)) (hmay : mayM ((10 : Int), c) = true) : (codeX Tryd.prog G23c lv23c 8 Tryd.f23).run [.dat CT ((10 : Int), c)] [] K = K (.view 0) [.row 5 U8 (bytesM ((10 : Int), c)) .own] := by
  obtain ⟨m1, m2, mok, _, _⟩ := (may_iff _ hw.2.1).1 hmay
  have m1 : ByteArray.size c.2.2.2.2.1 ≤ 256 := m1
  have m2 : ByteArray.size c.2.2.2.1.2 ≤ 32 := m2
  have mok : ∀ p ∈ ([.ring] : List PK), okP p ((10 : Int), c) := mok
  have o_ring := mok .ring (by decide)
  obtain ⟨a_ring, b_ring⟩ := enc_whole (v := c.2.1) o_ring
  have c_ring : encP .ring ((10 : Int), c) = _ := a_ring
  have eb : bytesM ((10 : Int), c) = [IntKind.wrap .u8 10] ++ encP .ring ((10 : Int), c) := rfl
  rw [eb, c_ring]
  refine (rby_10 K c).trans ?_
  simp only [b_ring, cond_false, cond_true, decide_true]
  all_goals rfl
theorem rbb_11 {R : Type} (K : KV R) (c : CR0) (hw : wfC ((11 : Int), c)) (hmay : mayM ((11 : Int), c) = true) : (codeX Tryd.prog G23c lv23c 8 Tryd.f23).run [.dat CT ((11 : Int), c)] [] K = K (.view 0) [.row 5 U8 (bytesM ((11 : Int), c)) .own] := by
  obtain ⟨m1, m2, mok, _, _⟩ := (may_iff _ hw.2.1).1 hmay
  have m1 : ByteArray.size c.2.2.2.2.1 ≤ 256 := m1
  have m2 : ByteArray.size c.2.2.2.1.2 ≤ 32 := m2
  have mok : ∀ p ∈ ([.key, .perm] : List PK), okP p ((11 : Int), c) := mok
  have o_key := mok .key (by decide)
  obtain ⟨a_key, b_key⟩ := enc_whole (v := c.1) o_key
  have c_key : encP .key ((11 : Int), c) = _ := a_key
  have o_perm := mok .perm (by decide)
  obtain ⟨a_perm, b_perm⟩ := enc_rm (v := c.2.2.2.2.2.1) o_perm
  have c_perm : encP .perm ((11 : Int), c) = _ := a_perm
  have eb : bytesM ((11 : Int), c) = [IntKind.wrap .u8 11] ++ encP .key ((11 : Int), c) ++ encP .perm ((11 : Int), c) := rfl
  rw [eb, c_key, c_perm]
  refine (rby_11 K c).trans ?_
  simp only [b_key, b_perm, cond_false, cond_true, decide_true]
  all_goals rfl
theorem rbb_12 {R : Type} (K : KV R) (c : CR0) (hw : wfC ((12 : Int), c)) (hmay : mayM ((12 : Int), c) = true) : (codeX Tryd.prog G23c lv23c 8 Tryd.f23).run [.dat CT ((12 : Int), c)] [] K = K (.view 0) [.row 5 U8 (bytesM ((12 : Int), c)) .own] := by
  obtain ⟨m1, m2, mok, _, _⟩ := (may_iff _ hw.2.1).1 hmay
  have m1 : ByteArray.size c.2.2.2.2.1 ≤ 256 := m1
  have m2 : ByteArray.size c.2.2.2.1.2 ≤ 32 := m2
  have mok : ∀ p ∈ ([.key, .uid, .gid] : List PK), okP p ((12 : Int), c) := mok
  have o_key := mok .key (by decide)
  obtain ⟨a_key, b_key⟩ := enc_whole (v := c.1) o_key
  have c_key : encP .key ((12 : Int), c) = _ := a_key
  have o_uid := mok .uid (by decide)
  obtain ⟨a_uid, b_uid⟩ := enc_rb (v := c.2.2.2.2.2.2.1) o_uid
  have c_uid : encP .uid ((12 : Int), c) = _ := a_uid
  have o_gid := mok .gid (by decide)
  obtain ⟨a_gid, b_gid⟩ := enc_rb (v := c.2.2.2.2.2.2.2.1) o_gid
  have c_gid : encP .gid ((12 : Int), c) = _ := a_gid
  have eb : bytesM ((12 : Int), c) = [IntKind.wrap .u8 12] ++ encP .key ((12 : Int), c) ++ encP .uid ((12 : Int), c) ++ encP .gid ((12 : Int), c) := rfl
  rw [eb, c_key, c_uid, c_gid]
  refine (rby_12 K c).trans ?_
  simp only [b_key, b_uid, b_gid, cond_false, cond_true, decide_true]
  all_goals rfl
theorem rbb_13 {R : Type} (K : KV R) (c : CR0) (hw : wfC ((13 : Int), c)) (hmay : mayM ((13 : Int), c) = true) : (codeX Tryd.prog G23c lv23c 8 Tryd.f23).run [.dat CT ((13 : Int), c)] [] K = K (.view 0) [.row 5 U8 (bytesM ((13 : Int), c)) .own] := by
  obtain ⟨m1, m2, mok, _, _⟩ := (may_iff _ hw.2.1).1 hmay
  have m1 : ByteArray.size c.2.2.2.2.1 ≤ 256 := m1
  have m2 : ByteArray.size c.2.2.2.1.2 ≤ 32 := m2
  have mok : ∀ p ∈ ([.key, .time] : List PK), okP p ((13 : Int), c) := mok
  have o_key := mok .key (by decide)
  obtain ⟨a_key, b_key⟩ := enc_whole (v := c.1) o_key
  have c_key : encP .key ((13 : Int), c) = _ := a_key
  have o_time := mok .time (by decide)
  obtain ⟨a_time, b_time⟩ := enc_rt (v := c.2.2.2.2.2.2.2.2.1) o_time
  have c_time : encP .time ((13 : Int), c) = _ := a_time
  have eb : bytesM ((13 : Int), c) = [IntKind.wrap .u8 13] ++ encP .key ((13 : Int), c) ++ encP .time ((13 : Int), c) := rfl
  rw [eb, c_key, c_time]
  refine (rby_13 K c).trans ?_
  simp only [b_key, b_time, cond_false, cond_true, decide_true]
  all_goals rfl
theorem rbb_14 {R : Type} (K : KV R) (c : CR0) (hw : wfC ((14 : Int), c)) (hmay : mayM ((14 : Int), c) = true) : (codeX Tryd.prog G23c lv23c 8 Tryd.f23).run [.dat CT ((14 : Int), c)] [] K = K (.view 0) [.row 5 U8 (bytesM ((14 : Int), c)) .own] := by
  obtain ⟨m1, m2, mok, _, _⟩ := (may_iff _ hw.2.1).1 hmay
  have m1 : ByteArray.size c.2.2.2.2.1 ≤ 256 := m1
  have m2 : ByteArray.size c.2.2.2.1.2 ≤ 32 := m2
  have mok : ∀ p ∈ ([.key] : List PK), okP p ((14 : Int), c) := mok
  have o_key := mok .key (by decide)
  obtain ⟨a_key, b_key⟩ := enc_whole (v := c.1) o_key
  have c_key : encP .key ((14 : Int), c) = _ := a_key
  have eb : bytesM ((14 : Int), c) = [IntKind.wrap .u8 14] ++ encP .key ((14 : Int), c) := rfl
  rw [eb, c_key]
  refine (rby_14 K c).trans ?_
  simp only [b_key, cond_false, cond_true, decide_true]
  all_goals rfl
theorem rbb_15 {R : Type} (K : KV R) (c : CR0) (hw : wfC ((15 : Int), c)) (hmay : mayM ((15 : Int), c) = true) : (codeX Tryd.prog G23c lv23c 8 Tryd.f23).run [.dat CT ((15 : Int), c)] [] K = K (.view 0) [.row 5 U8 (bytesM ((15 : Int), c)) .own] := by
  obtain ⟨m1, m2, mok, _, _⟩ := (may_iff _ hw.2.1).1 hmay
  have m1 : ByteArray.size c.2.2.2.2.1 ≤ 256 := m1
  have m2 : ByteArray.size c.2.2.2.1.2 ≤ 32 := m2
  have mok : ∀ p ∈ ([.key] : List PK), okP p ((15 : Int), c) := mok
  have o_key := mok .key (by decide)
  obtain ⟨a_key, b_key⟩ := enc_whole (v := c.1) o_key
  have c_key : encP .key ((15 : Int), c) = _ := a_key
  have eb : bytesM ((15 : Int), c) = [IntKind.wrap .u8 15] ++ encP .key ((15 : Int), c) := rfl
  rw [eb, c_key]
  refine (rby_15 K c).trans ?_
  simp only [b_key, cond_false, cond_true, decide_true]
  all_goals rfl
theorem rbb_16 {R : Type} (K : KV R) (c : CR0) (hw : wfC ((16 : Int), c)) (hmay : mayM ((16 : Int), c) = true) : (codeX Tryd.prog G23c lv23c 8 Tryd.f23).run [.dat CT ((16 : Int), c)] [] K = K (.view 0) [.row 5 U8 (bytesM ((16 : Int), c)) .own] := by
  obtain ⟨m1, m2, mok, _, _⟩ := (may_iff _ hw.2.1).1 hmay
  have m1 : ByteArray.size c.2.2.2.2.1 ≤ 256 := m1
  have m2 : ByteArray.size c.2.2.2.1.2 ≤ 32 := m2
  have mok : ∀ p ∈ ([.ring, .restrict] : List PK), okP p ((16 : Int), c) := mok
  have o_ring := mok .ring (by decide)
  obtain ⟨a_ring, b_ring⟩ := enc_whole (v := c.2.1) o_ring
  have c_ring : encP .ring ((16 : Int), c) = _ := a_ring
  have o_restrict := mok .restrict (by decide)
  obtain ⟨a_restrict, b_restrict⟩ := enc_rb (v := c.2.2.2.2.2.2.2.2.2.1) o_restrict
  have c_restrict : encP .restrict ((16 : Int), c) = _ := a_restrict
  have eb : bytesM ((16 : Int), c) = [IntKind.wrap .u8 16] ++ encP .ring ((16 : Int), c) ++ encP .restrict ((16 : Int), c) := rfl
  rw [eb, c_ring, c_restrict]
  refine (rby_16 K c).trans ?_
  simp only [b_ring, b_restrict, cond_false, cond_true, decide_true]
  all_goals rfl
theorem rbb_17 {R : Type} (K : KV R) (c : CR0) (hw : wfC ((17 : Int), c)) (hmay : mayM ((17 : Int), c) = true) : (codeX Tryd.prog G23c lv23c 8 Tryd.f23).run [.dat CT ((17 : Int), c)] [] K = K (.view 0) [.row 5 U8 (bytesM ((17 : Int), c)) .own] := by
  obtain ⟨m1, m2, mok, _, _⟩ := (may_iff _ hw.2.1).1 hmay
  have m1 : ByteArray.size c.2.2.2.2.1 ≤ 256 := m1
  have m2 : ByteArray.size c.2.2.2.1.2 ≤ 32 := m2
  have mok : ∀ p ∈ ([.key, .create] : List PK), okP p ((17 : Int), c) := mok
  have o_key := mok .key (by decide)
  obtain ⟨a_key, b_key⟩ := enc_whole (v := c.1) o_key
  have c_key : encP .key ((17 : Int), c) = _ := a_key
  have o_create := mok .create (by decide)
  have c_create : encP .create ((17 : Int), c) = _ := enc_create c.2.2.2.2.2.2.2.2.2.2
  have eb : bytesM ((17 : Int), c) = [IntKind.wrap .u8 17] ++ encP .key ((17 : Int), c) ++ encP .create ((17 : Int), c) := rfl
  rw [eb, c_key, c_create]
  refine (rby_17 K c).trans ?_
  simp only [b_key, cond_false, cond_true, decide_true]
  cases c.2.2.2.2.2.2.2.2.2.2 <;> rfl
theorem rbb_18 {R : Type} (K : KV R) (c : CR0) (hw : wfC ((18 : Int), c)) (hmay : mayM ((18 : Int), c) = true) : (codeX Tryd.prog G23c lv23c 8 Tryd.f23).run [.dat CT ((18 : Int), c)] [] K = K (.view 0) [.row 5 U8 (bytesM ((18 : Int), c)) .own] := by
  obtain ⟨m1, m2, mok, _, _⟩ := (may_iff _ hw.2.1).1 hmay
  have m1 : ByteArray.size c.2.2.2.2.1 ≤ 256 := m1
  have m2 : ByteArray.size c.2.2.2.1.2 ≤ 32 := m2
  have mok : ∀ p ∈ ([.desc] : List PK), okP p ((18 : Int), c) := mok
  have o_desc := mok .desc (by decide)
  obtain ⟨a_desc, b_desc⟩ := enc_blob (s := c.2.2.2.1.2) (m := 1) (.inl rfl) o_desc
  have c_desc : encP .desc ((18 : Int), c) = _ := a_desc
  have b_desc : blE (bytesOf c.2.2.2.1.2) 1 = 0 := b_desc
  have eb : bytesM ((18 : Int), c) = [IntKind.wrap .u8 18] ++ encP .desc ((18 : Int), c) := rfl
  rw [eb, c_desc]
  refine (rby_18 K c).trans ?_
  simp only [b_desc, cond_false, cond_true, decide_true]
  have k1 := bytesOf_length c.2.2.2.1.2
  have k2 := bytesOf_length c.2.2.2.2.1
  refine (ck_pos (by (try simp only [List.length_append, pB_len, List.length_cons, List.length_nil]); (try unfold limit); omega)).trans ?_
  refine (ck_pos (by (try simp only [List.length_append, pB_len, List.length_cons, List.length_nil]); (try unfold limit); omega)).trans ?_
  all_goals rfl
def F23f : Summ := ⟨fun args ob K => match args, ob with
  | [.dat t v], [] => (asD CT (.dat t v)).bind fun c => ck (wfC c ∧ mayM c = true) (K (.view 0) [.row 5 U8 (bytesM c) .own])
  | _, _ => none⟩
theorem al23c : AllOk Tryd.prog [(51, W 51), (57, C57), (58, C58), (30, F30b)] := ⟨W_ok 51, C57_ok, C58_ok, F30b_ok, trivial⟩
theorem base23 : SumOk Tryd.prog 23 (codeX Tryd.prog G23c lv23c 8 Tryd.f23) := codeX_ok (k := 8) (lv := lv23c) mixed noNG_prog (sums_call (Wr := all) al23c) (sums_prim al23c) (fn := Tryd.f23) rfl
theorem F23f_ok : SumOk Tryd.prog 23 F23f := by
  refine ⟨?_, ?_⟩
  · intro R R' f args ob K
    unfold F23f; dsimp only
    split <;> simp only [bd_bind, bd_ck, bd_none]
  · intro R args ob K r hK W ρ w us hr ha
    unfold F23f at hK; dsimp only at hK
    split at hK
    · rename_i t v
      obtain ⟨c, hc, h1⟩ := bind_elim hK
      obtain ⟨⟨hp, hm⟩, h2⟩ := ck_elim h1
      clear hK h1
      have e := asD_ok hc
      rw [e] at ha
      by_cases h0 : psOf c.1 = []
      · rw [may_out h0] at hm; cases hm
      · obtain ⟨o, c⟩ := c
        have ho := ps_cases h0
        clear h0
        rcases ho with rfl | rfl | rfl | rfl | rfl | rfl | rfl | rfl | rfl | rfl | rfl | rfl | rfl | rfl | rfl | rfl | rfl | rfl
        · exact base23.2 _ [] K r ((rbb_1 K c hp hm).trans h2) W ρ w us hr ha
        · exact base23.2 _ [] K r ((rbb_2 K c hp hm).trans h2) W ρ w us hr ha
        · exact base23.2 _ [] K r ((rbb_3 K c hp hm).trans h2) W ρ w us hr ha
        · exact base23.2 _ [] K r ((rbb_4 K c hp hm).trans h2) W ρ w us hr ha
        · exact base23.2 _ [] K r ((rbb_5 K c hp hm).trans h2) W ρ w us hr ha
        · exact base23.2 _ [] K r ((rbb_6 K c hp hm).trans h2) W ρ w us hr ha
        · exact base23.2 _ [] K r ((rbb_7 K c hp hm).trans h2) W ρ w us hr ha
        · exact base23.2 _ [] K r ((rbb_8 K c hp hm).trans h2) W ρ w us hr ha
        · exact base23.2 _ [] K r ((rbb_9 K c hp hm).trans h2) W ρ w us hr ha
        · exact base23.2 _ [] K r ((rbb_10 K c hp hm).trans h2) W ρ w us hr ha
        · exact base23.2 _ [] K r ((rbb_11 K c hp hm).trans h2) W ρ w us hr ha
        · exact base23.2 _ [] K r ((rbb_12 K c hp hm).trans h2) W ρ w us hr ha
        · exact base23.2 _ [] K r ((rbb_13 K c hp hm).trans h2) W ρ w us hr ha
        · exact base23.2 _ [] K r ((rbb_14 K c hp hm).trans h2) W ρ w us hr ha
        · exact base23.2 _ [] K r ((rbb_15 K c hp hm).trans h2) W ρ w us hr ha
        · exact base23.2 _ [] K r ((rbb_16 K c hp hm).trans h2) W ρ w us hr ha
        · exact base23.2 _ [] K r ((rbb_17 K c hp hm).trans h2) W ρ w us hr ha
        · exact base23.2 _ [] K r ((rbb_18 K c hp hm).trans h2) W ρ w us hr ha
    · cases hK
end Go.Mx
namespace Go.Mx
open Go Go.RowKit Go.Sx Go.Proofs
set_option maxRecDepth 100000
def Fname (k : Int) (s : ByteArray) : Summ := ⟨fun args ob K => match args, ob with
  | [.dat (.int .i64) o], [] => ck (@Eq Int o k) (K (.dat .str s) [])
  | _, _ => none⟩
theorem Fname_ok {k : Int} {s : ByteArray} (h : ∀ {R : Type} (K : KV R), (W 51).run [.dat I64 k] [] K = K (.dat .str s) []) : SumOk Tryd.prog 51 (Fname k s) := by
  refine (W_ok 51).le (fun f args ob K => by unfold Fname; dsimp only; split <;> simp only [bd_ck, bd_none]) ?_
  intro R args ob K r h'
  unfold Fname at h'; dsimp only at h'
  split at h'
  · rename_i o
    obtain ⟨hp, h2⟩ := ck_elim h'
    have hp : o = k := hp
    subst hp
    exact (h K).trans h2
  · cases h'
noncomputable def G25d (k : Int) (s : ByteArray) : Sums := sums all [(51, Fname k s), (36, inS 36 cl F19), (37, inS 37 cl F21), (38, inS 38 cl F23), (39, inS 39 cl F34), (22, F22f)]
noncomputable def G25z : Sums := sums all [(51, Fname0), (36, inS 36 cl F19), (37, inS 37 cl F21), (38, inS 38 cl F23), (39, inS 39 cl F34), (22, F22f)]
def lv25c : Tl := ⟨fun q => match q with | 0 => some [2, 4, 5, 6, 7] | _ => none, [(75, QT)]⟩
theorem rof_1 {R : Type} (K : KV R) (b : List Int) : (codeX Tryd.prog (G25d 1 ⟨#[114, 105, 112]⟩) lv25c 8 Tryd.f25).run [.dat BL b] [] K = ck (List.length b * (1 : Nat) ≤ limit) (ck (IntKind.wrap IntKind.i64 (rnumV (b, false) (1 : Int)) = (1 : Int)) (ck (List.length ((rnumS (rnumS (rnumS (b, false) (1 : Int)) (4 : Int)) (1 : Int)).1) < (100000 : Nat) ∧ (¬((1 : Int) = (1 : Int) ∨ (1 : Int) = (2 : Int)) ∨ (0 : Int) ≤ rblobN (rnumS (rnumS (rnumS (b, false) (1 : Int)) (4 : Int)) (1 : Int)) (1 : Int))) (bif rbBad (rnumS (rnumS (rnumS (b, false) (1 : Int)) (4 : Int)) (1 : Int)) (1 : Int) then ck (List.length ((rblobS (rnumS (rnumS (rnumS (b, false) (1 : Int)) (4 : Int)) (1 : Int)) (1 : Int)).1) < (100000 : Nat) ∧ (¬((2 : Int) = (1 : Int) ∨ (2 : Int) = (2 : Int)) ∨ (0 : Int) ≤ rblobN (rblobS (rnumS (rnumS (rnumS (b, false) (1 : Int)) (4 : Int)) (1 : Int)) (1 : Int)) (2 : Int))) (bif rbBad (rblobS (rnumS (rnumS (rnumS (b, false) (1 : Int)) (4 : Int)) (1 : Int)) (1 : Int)) (2 : Int) then bif !decide (rendV (rblobS (rblobS (rnumS (rnumS (rnumS (b, false) (1 : Int)) (4 : Int)) (1 : Int)) (1 : Int)) (2 : Int)) = (0 : Int)) then K (AV.tup [AV.dat CT (zeroC 0), AV.dat I64 (2 : Int)]) [] else bif !mayM (IntKind.wrap IntKind.i64 (rnumV (b, false) (1 : Int)), (0 : Int), rwholeV (rnumV (rnumS (b, false) (1 : Int)) (4 : Int)), (0 : Int), (IntKind.wrap IntKind.i64 (rnumV (rnumS (rnumS (b, false) (1 : Int)) (4 : Int)) (1 : Int)), strOf []), strOf [], (0 : Int), (0 : Int), (0 : Int), (0 : Int), (0 : Int), false) then K (AV.tup [AV.dat CT (zeroC 0), AV.dat I64 (2 : Int)]) [] else K (AV.tup [AV.dat CT (IntKind.wrap IntKind.i64 (rnumV (b, false) (1 : Int)), (0 : Int), rwholeV (rnumV (rnumS (b, false) (1 : Int)) (4 : Int)), (0 : Int), (IntKind.wrap IntKind.i64 (rnumV (rnumS (rnumS (b, false) (1 : Int)) (4 : Int)) (1 : Int)), strOf []), strOf [], (0 : Int), (0 : Int), (0 : Int), (0 : Int), (0 : Int), false), AV.dat I64 (0 : Int)]) [] else bif !decide (rendV (rblobS (rblobS (rnumS (rnumS (rnumS (b, false) (1 : Int)) (4 : Int)) (1 : Int)) (1 : Int)) (2 : Int)) = (0 : Int)) then K (AV.tup [AV.dat CT (zeroC 0), AV.dat I64 (2 : Int)]) [] else bif !mayM (IntKind.wrap IntKind.i64 (rnumV (b, false) (1 : Int)), (0 : Int), rwholeV (rnumV (rnumS (b, false) (1 : Int)) (4 : Int)), (0 : Int), (IntKind.wrap IntKind.i64 (rnumV (rnumS (rnumS (b, false) (1 : Int)) (4 : Int)) (1 : Int)), strOf []), strOf (rblobV (rblobS (rnumS (rnumS (rnumS (b, false) (1 : Int)) (4 : Int)) (1 : Int)) (1 : Int)) (2 : Int)), (0 : Int), (0 : Int), (0 : Int), (0 : Int), (0 : Int), false) then K (AV.tup [AV.dat CT (zeroC 0), AV.dat I64 (2 : Int)]) [] else K (AV.tup [AV.dat CT (IntKind.wrap IntKind.i64 (rnumV (b, false) (1 : Int)), (0 : Int), rwholeV (rnumV (rnumS (b, false) (1 : Int)) (4 : Int)), (0 : Int), (IntKind.wrap IntKind.i64 (rnumV (rnumS (rnumS (b, false) (1 : Int)) (4 : Int)) (1 : Int)), strOf []), strOf (rblobV (rblobS (rnumS (rnumS (rnumS (b, false) (1 : Int)) (4 : Int)) (1 : Int)) (1 : Int)) (2 : Int)), (0 : Int), (0 : Int), (0 : Int), (0 : Int), (0 : Int), false), AV.dat I64 (0 : Int)]) []) else ck (List.length ((rblobS (rnumS (rnumS (rnumS (b, false) (1 : Int)) (4 : Int)) (1 : Int)) (1 : Int)).1) < (100000 : Nat) ∧ (¬((2 : Int) = (1 : Int) ∨ (2 : Int) = (2 : Int)) ∨ (0 : Int) ≤ rblobN (rblobS (rnumS (rnumS (rnumS (b, false) (1 : Int)) (4 : Int)) (1 : Int)) (1 : Int)) (2 : Int))) (bif rbBad (rblobS (rnumS (rnumS (rnumS (b, false) (1 : Int)) (4 : Int)) (1 : Int)) (1 : Int)) (2 : Int) then bif !decide (rendV (rblobS (rblobS (rnumS (rnumS (rnumS (b, false) (1 : Int)) (4 : Int)) (1 : Int)) (1 : Int)) (2 : Int)) = (0 : Int)) then K (AV.tup [AV.dat CT (zeroC 0), AV.dat I64 (2 : Int)]) [] else bif !mayM (IntKind.wrap IntKind.i64 (rnumV (b, false) (1 : Int)), (0 : Int), rwholeV (rnumV (rnumS (b, false) (1 : Int)) (4 : Int)), (0 : Int), (IntKind.wrap IntKind.i64 (rnumV (rnumS (rnumS (b, false) (1 : Int)) (4 : Int)) (1 : Int)), strOf (rblobV (rnumS (rnumS (rnumS (b, false) (1 : Int)) (4 : Int)) (1 : Int)) (1 : Int))), strOf [], (0 : Int), (0 : Int), (0 : Int), (0 : Int), (0 : Int), false) then K (AV.tup [AV.dat CT (zeroC 0), AV.dat I64 (2 : Int)]) [] else K (AV.tup [AV.dat CT (IntKind.wrap IntKind.i64 (rnumV (b, false) (1 : Int)), (0 : Int), rwholeV (rnumV (rnumS (b, false) (1 : Int)) (4 : Int)), (0 : Int), (IntKind.wrap IntKind.i64 (rnumV (rnumS (rnumS (b, false) (1 : Int)) (4 : Int)) (1 : Int)), strOf (rblobV (rnumS (rnumS (rnumS (b, false) (1 : Int)) (4 : Int)) (1 : Int)) (1 : Int))), strOf [], (0 : Int), (0 : Int), (0 : Int), (0 : Int), (0 : Int), false), AV.dat I64 (0 : Int)]) [] else bif !decide (rendV (rblobS (rblobS (rnumS (rnumS (rnumS (b, false) (1 : Int)) (4 : Int)) (1 : Int)) (1 : Int)) (2 : Int)) = (0 : Int)) then K (AV.tup [AV.dat CT (zeroC 0), AV.dat I64 (2 : Int)]) [] else bif !mayM (IntKind.wrap IntKind.i64 (rnumV (b, false) (1 : Int)), (0 : Int), rwholeV (rnumV (rnumS (b, false) (1 : Int)) (4 : Int)), (0 : Int), (IntKind.wrap IntKind.i64 (rnumV (rnumS (rnumS (b, false) (1 : Int)) (4 : Int)) (1 : Int)), strOf (rblobV (rnumS (rnumS (rnumS (b, false) (1 : Int)) (4 : Int)) (1 : Int)) (1 : Int))), strOf (rblobV (rblobS (rnumS (rnumS (rnumS (b, false) (1 : Int)) (4 : Int)) (1 : Int)) (1 : Int)) (2 : Int)), (0 : Int), (0 : Int), (0 : Int), (0 : Int), (0 : Int), false) then K (AV.tup [AV.dat CT (zeroC 0), AV.dat I64 (2 : Int)]) [] else K (AV.tup [AV.dat CT (IntKind.wrap IntKind.i64 (rnumV (b, false) (1 : Int)), (0 : Int), rwholeV (rnumV (rnumS (b, false) (1 : Int)) (4 : Int)), (0 : Int), (IntKind.wrap IntKind.i64 (rnumV (rnumS (rnumS (b, false) (1 : Int)) (4 : Int)) (1 : Int)), strOf (rblobV (rnumS (rnumS (rnumS (b, false) (1 : Int)) (4 : Int)) (1 : Int)) (1 : Int))), strOf (rblobV (rblobS (rnumS (rnumS (rnumS (b, false) (1 : Int)) (4 : Int)) (1 : Int)) (1 : Int)) (2 : Int)), (0 : Int), (0 : Int), (0 : Int), (0 : Int), (0 : Int), false), AV.dat I64 (0 : Int)]) [])))) := by kernel_rfl
theorem rof_2 {R : Type} (K : KV R) (b : List Int) : (codeX Tryd.prog (G25d 2 ⟨#[105]⟩) lv25c 8 Tryd.f25).run [.dat BL b] [] K = ck (List.length b * (1 : Nat) ≤ limit) (ck (IntKind.wrap IntKind.i64 (rnumV (b, false) (1 : Int)) = (2 : Int)) (ck (List.length ((rnumS (rnumS (b, false) (1 : Int)) (1 : Int)).1) < (100000 : Nat) ∧ (¬((1 : Int) = (1 : Int) ∨ (1 : Int) = (2 : Int)) ∨ (0 : Int) ≤ rblobN (rnumS (rnumS (b, false) (1 : Int)) (1 : Int)) (1 : Int))) (bif rbBad (rnumS (rnumS (b, false) (1 : Int)) (1 : Int)) (1 : Int) then bif !decide (rendV (rblobS (rnumS (rnumS (b, false) (1 : Int)) (1 : Int)) (1 : Int)) = (0 : Int)) then K (AV.tup [AV.dat CT (zeroC 0), AV.dat I64 (2 : Int)]) [] else bif !mayM (IntKind.wrap IntKind.i64 (rnumV (b, false) (1 : Int)), (0 : Int), (0 : Int), (0 : Int), (IntKind.wrap IntKind.i64 (rnumV (rnumS (b, false) (1 : Int)) (1 : Int)), strOf []), ByteArray.mk #[], (0 : Int), (0 : Int), (0 : Int), (0 : Int), (0 : Int), false) then K (AV.tup [AV.dat CT (zeroC 0), AV.dat I64 (2 : Int)]) [] else K (AV.tup [AV.dat CT (IntKind.wrap IntKind.i64 (rnumV (b, false) (1 : Int)), (0 : Int), (0 : Int), (0 : Int), (IntKind.wrap IntKind.i64 (rnumV (rnumS (b, false) (1 : Int)) (1 : Int)), strOf []), ByteArray.mk #[], (0 : Int), (0 : Int), (0 : Int), (0 : Int), (0 : Int), false), AV.dat I64 (0 : Int)]) [] else bif !decide (rendV (rblobS (rnumS (rnumS (b, false) (1 : Int)) (1 : Int)) (1 : Int)) = (0 : Int)) then K (AV.tup [AV.dat CT (zeroC 0), AV.dat I64 (2 : Int)]) [] else bif !mayM (IntKind.wrap IntKind.i64 (rnumV (b, false) (1 : Int)), (0 : Int), (0 : Int), (0 : Int), (IntKind.wrap IntKind.i64 (rnumV (rnumS (b, false) (1 : Int)) (1 : Int)), strOf (rblobV (rnumS (rnumS (b, false) (1 : Int)) (1 : Int)) (1 : Int))), ByteArray.mk #[], (0 : Int), (0 : Int), (0 : Int), (0 : Int), (0 : Int), false) then K (AV.tup [AV.dat CT (zeroC 0), AV.dat I64 (2 : Int)]) [] else K (AV.tup [AV.dat CT (IntKind.wrap IntKind.i64 (rnumV (b, false) (1 : Int)), (0 : Int), (0 : Int), (0 : Int), (IntKind.wrap IntKind.i64 (rnumV (rnumS (b, false) (1 : Int)) (1 : Int)), strOf (rblobV (rnumS (rnumS (b, false) (1 : Int)) (1 : Int)) (1 : Int))), ByteArray.mk #[], (0 : Int), (0 : Int), (0 : Int), (0 : Int), (0 : Int), false), AV.dat I64 (0 : Int)]) []))) := by kernel_rfl
theorem rof_3 {R : Type} (K : KV R) (b : List Int) : (codeX Tryd.prog (G25d 3 ⟨#[114, 105]⟩) lv25c 8 Tryd.f25).run [.dat BL b] [] K = ck (List.length b * (1 : Nat) ≤ limit) (ck (IntKind.wrap IntKind.i64 (rnumV (b, false) (1 : Int)) = (3 : Int)) (ck (List.length ((rnumS (rnumS (rnumS (b, false) (1 : Int)) (4 : Int)) (1 : Int)).1) < (100000 : Nat) ∧ (¬((1 : Int) = (1 : Int) ∨ (1 : Int) = (2 : Int)) ∨ (0 : Int) ≤ rblobN (rnumS (rnumS (rnumS (b, false) (1 : Int)) (4 : Int)) (1 : Int)) (1 : Int))) (bif rbBad (rnumS (rnumS (rnumS (b, false) (1 : Int)) (4 : Int)) (1 : Int)) (1 : Int) then bif !decide (rendV (rblobS (rnumS (rnumS (rnumS (b, false) (1 : Int)) (4 : Int)) (1 : Int)) (1 : Int)) = (0 : Int)) then K (AV.tup [AV.dat CT (zeroC 0), AV.dat I64 (2 : Int)]) [] else bif !mayM (IntKind.wrap IntKind.i64 (rnumV (b, false) (1 : Int)), (0 : Int), rwholeV (rnumV (rnumS (b, false) (1 : Int)) (4 : Int)), (0 : Int), (IntKind.wrap IntKind.i64 (rnumV (rnumS (rnumS (b, false) (1 : Int)) (4 : Int)) (1 : Int)), strOf []), ByteArray.mk #[], (0 : Int), (0 : Int), (0 : Int), (0 : Int), (0 : Int), false) then K (AV.tup [AV.dat CT (zeroC 0), AV.dat I64 (2 : Int)]) [] else K (AV.tup [AV.dat CT (IntKind.wrap IntKind.i64 (rnumV (b, false) (1 : Int)), (0 : Int), rwholeV (rnumV (rnumS (b, false) (1 : Int)) (4 : Int)), (0 : Int), (IntKind.wrap IntKind.i64 (rnumV (rnumS (rnumS (b, false) (1 : Int)) (4 : Int)) (1 : Int)), strOf []), ByteArray.mk #[], (0 : Int), (0 : Int), (0 : Int), (0 : Int), (0 : Int), false), AV.dat I64 (0 : Int)]) [] else bif !decide (rendV (rblobS (rnumS (rnumS (rnumS (b, false) (1 : Int)) (4 : Int)) (1 : Int)) (1 : Int)) = (0 : Int)) then K (AV.tup [AV.dat CT (zeroC 0), AV.dat I64 (2 : Int)]) [] else bif !mayM (IntKind.wrap IntKind.i64 (rnumV (b, false) (1 : Int)), (0 : Int), rwholeV (rnumV (rnumS (b, false) (1 : Int)) (4 : Int)), (0 : Int), (IntKind.wrap IntKind.i64 (rnumV (rnumS (rnumS (b, false) (1 : Int)) (4 : Int)) (1 : Int)), strOf (rblobV (rnumS (rnumS (rnumS (b, false) (1 : Int)) (4 : Int)) (1 : Int)) (1 : Int))), ByteArray.mk #[], (0 : Int), (0 : Int), (0 : Int), (0 : Int), (0 : Int), false) then K (AV.tup [AV.dat CT (zeroC 0), AV.dat I64 (2 : Int)]) [] else K (AV.tup [AV.dat CT (IntKind.wrap IntKind.i64 (rnumV (b, false) (1 : Int)), (0 : Int), rwholeV (rnumV (rnumS (b, false) (1 : Int)) (4 : Int)), (0 : Int), (IntKind.wrap IntKind.i64 (rnumV (rnumS (rnumS (b, false) (1 : Int)) (4 : Int)) (1 : Int)), strOf (rblobV (rnumS (rnumS (rnumS (b, false) (1 : Int)) (4 : Int)) (1 : Int)) (1 : Int))), ByteArray.mk #[], (0 : Int), (0 : Int), (0 : Int), (0 : Int), (0 : Int), false), AV.dat I64 (0 : Int)]) []))) := by kernel_rfl
theorem rof_4 {R : Type} (K : KV R) (b : List Int) : (codeX Tryd.prog (G25d 4 ⟨#[107]⟩) lv25c 8 Tryd.f25).run [.dat BL b] [] K = ck (List.length b * (1 : Nat) ≤ limit) (ck (IntKind.wrap IntKind.i64 (rnumV (b, false) (1 : Int)) = (4 : Int)) (bif !decide (rendV (rnumS (rnumS (b, false) (1 : Int)) (4 : Int)) = (0 : Int)) then K (AV.tup [AV.dat CT (zeroC 0), AV.dat I64 (2 : Int)]) [] else bif !mayM (IntKind.wrap IntKind.i64 (rnumV (b, false) (1 : Int)), rwholeV (rnumV (rnumS (b, false) (1 : Int)) (4 : Int)), (0 : Int), (0 : Int), ((0 : Int), ByteArray.mk #[]), ByteArray.mk #[], (0 : Int), (0 : Int), (0 : Int), (0 : Int), (0 : Int), false) then K (AV.tup [AV.dat CT (zeroC 0), AV.dat I64 (2 : Int)]) [] else K (AV.tup [AV.dat CT (IntKind.wrap IntKind.i64 (rnumV (b, false) (1 : Int)), rwholeV (rnumV (rnumS (b, false) (1 : Int)) (4 : Int)), (0 : Int), (0 : Int), ((0 : Int), ByteArray.mk #[]), ByteArray.mk #[], (0 : Int), (0 : Int), (0 : Int), (0 : Int), (0 : Int), false), AV.dat I64 (0 : Int)]) [])) := by kernel_rfl
theorem rof_5 {R : Type} (K : KV R) (b : List Int) : (codeX Tryd.prog (G25d 5 ⟨#[107, 112]⟩) lv25c 8 Tryd.f25).run [.dat BL b] [] K = ck (List.length b * (1 : Nat) ≤ limit) (ck (IntKind.wrap IntKind.i64 (rnumV (b, false) (1 : Int)) = (5 : Int)) (ck (List.length ((rnumS (rnumS (b, false) (1 : Int)) (4 : Int)).1) < (100000 : Nat) ∧ (¬((2 : Int) = (1 : Int) ∨ (2 : Int) = (2 : Int)) ∨ (0 : Int) ≤ rblobN (rnumS (rnumS (b, false) (1 : Int)) (4 : Int)) (2 : Int))) (bif rbBad (rnumS (rnumS (b, false) (1 : Int)) (4 : Int)) (2 : Int) then bif !decide (rendV (rblobS (rnumS (rnumS (b, false) (1 : Int)) (4 : Int)) (2 : Int)) = (0 : Int)) then K (AV.tup [AV.dat CT (zeroC 0), AV.dat I64 (2 : Int)]) [] else bif !mayM (IntKind.wrap IntKind.i64 (rnumV (b, false) (1 : Int)), rwholeV (rnumV (rnumS (b, false) (1 : Int)) (4 : Int)), (0 : Int), (0 : Int), ((0 : Int), ByteArray.mk #[]), strOf [], (0 : Int), (0 : Int), (0 : Int), (0 : Int), (0 : Int), false) then K (AV.tup [AV.dat CT (zeroC 0), AV.dat I64 (2 : Int)]) [] else K (AV.tup [AV.dat CT (IntKind.wrap IntKind.i64 (rnumV (b, false) (1 : Int)), rwholeV (rnumV (rnumS (b, false) (1 : Int)) (4 : Int)), (0 : Int), (0 : Int), ((0 : Int), ByteArray.mk #[]), strOf [], (0 : Int), (0 : Int), (0 : Int), (0 : Int), (0 : Int), false), AV.dat I64 (0 : Int)]) [] else bif !decide (rendV (rblobS (rnumS (rnumS (b, false) (1 : Int)) (4 : Int)) (2 : Int)) = (0 : Int)) then K (AV.tup [AV.dat CT (zeroC 0), AV.dat I64 (2 : Int)]) [] else bif !mayM (IntKind.wrap IntKind.i64 (rnumV (b, false) (1 : Int)), rwholeV (rnumV (rnumS (b, false) (1 : Int)) (4 : Int)), (0 : Int), (0 : Int), ((0 : Int), ByteArray.mk #[]), strOf (rblobV (rnumS (rnumS (b, false) (1 : Int)) (4 : Int)) (2 : Int)), (0 : Int), (0 : Int), (0 : Int), (0 : Int), (0 : Int), false) then K (AV.tup [AV.dat CT (zeroC 0), AV.dat I64 (2 : Int)]) [] else K (AV.tup [AV.dat CT (IntKind.wrap IntKind.i64 (rnumV (b, false) (1 : Int)), rwholeV (rnumV (rnumS (b, false) (1 : Int)) (4 : Int)), (0 : Int), (0 : Int), ((0 : Int), ByteArray.mk #[]), strOf (rblobV (rnumS (rnumS (b, false) (1 : Int)) (4 : Int)) (2 : Int)), (0 : Int), (0 : Int), (0 : Int), (0 : Int), (0 : Int), false), AV.dat I64 (0 : Int)]) []))) := by kernel_rfl
theorem rof_6 {R : Type} (K : KV R) (b : List Int) : (codeX Tryd.prog (G25d 6 ⟨#[107]⟩) lv25c 8 Tryd.f25).run [.dat BL b] [] K = ck (List.length b * (1 : Nat) ≤ limit) (ck (IntKind.wrap IntKind.i64 (rnumV (b, false) (1 : Int)) = (6 : Int)) (bif !decide (rendV (rnumS (rnumS (b, false) (1 : Int)) (4 : Int)) = (0 : Int)) then K (AV.tup [AV.dat CT (zeroC 0), AV.dat I64 (2 : Int)]) [] else bif !mayM (IntKind.wrap IntKind.i64 (rnumV (b, false) (1 : Int)), rwholeV (rnumV (rnumS (b, false) (1 : Int)) (4 : Int)), (0 : Int), (0 : Int), ((0 : Int), ByteArray.mk #[]), ByteArray.mk #[], (0 : Int), (0 : Int), (0 : Int), (0 : Int), (0 : Int), false) then K (AV.tup [AV.dat CT (zeroC 0), AV.dat I64 (2 : Int)]) [] else K (AV.tup [AV.dat CT (IntKind.wrap IntKind.i64 (rnumV (b, false) (1 : Int)), rwholeV (rnumV (rnumS (b, false) (1 : Int)) (4 : Int)), (0 : Int), (0 : Int), ((0 : Int), ByteArray.mk #[]), ByteArray.mk #[], (0 : Int), (0 : Int), (0 : Int), (0 : Int), (0 : Int), false), AV.dat I64 (0 : Int)]) [])) := by kernel_rfl
theorem rof_7 {R : Type} (K : KV R) (b : List Int) : (codeX Tryd.prog (G25d 7 ⟨#[107, 114]⟩) lv25c 8 Tryd.f25).run [.dat BL b] [] K = ck (List.length b * (1 : Nat) ≤ limit) (ck (IntKind.wrap IntKind.i64 (rnumV (b, false) (1 : Int)) = (7 : Int)) (bif !decide (rendV (rnumS (rnumS (rnumS (b, false) (1 : Int)) (4 : Int)) (4 : Int)) = (0 : Int)) then K (AV.tup [AV.dat CT (zeroC 0), AV.dat I64 (2 : Int)]) [] else bif !mayM (IntKind.wrap IntKind.i64 (rnumV (b, false) (1 : Int)), rwholeV (rnumV (rnumS (b, false) (1 : Int)) (4 : Int)), rwholeV (rnumV (rnumS (rnumS (b, false) (1 : Int)) (4 : Int)) (4 : Int)), (0 : Int), ((0 : Int), ByteArray.mk #[]), ByteArray.mk #[], (0 : Int), (0 : Int), (0 : Int), (0 : Int), (0 : Int), false) then K (AV.tup [AV.dat CT (zeroC 0), AV.dat I64 (2 : Int)]) [] else K (AV.tup [AV.dat CT (IntKind.wrap IntKind.i64 (rnumV (b, false) (1 : Int)), rwholeV (rnumV (rnumS (b, false) (1 : Int)) (4 : Int)), rwholeV (rnumV (rnumS (rnumS (b, false) (1 : Int)) (4 : Int)) (4 : Int)), (0 : Int), ((0 : Int), ByteArray.mk #[]), ByteArray.mk #[], (0 : Int), (0 : Int), (0 : Int), (0 : Int), (0 : Int), false), AV.dat I64 (0 : Int)]) [])) := by kernel_rfl
theorem rof_8 {R : Type} (K : KV R) (b : List Int) : (codeX Tryd.prog (G25d 8 ⟨#[107, 114]⟩) lv25c 8 Tryd.f25).run [.dat BL b] [] K = ck (List.length b * (1 : Nat) ≤ limit) (ck (IntKind.wrap IntKind.i64 (rnumV (b, false) (1 : Int)) = (8 : Int)) (bif !decide (rendV (rnumS (rnumS (rnumS (b, false) (1 : Int)) (4 : Int)) (4 : Int)) = (0 : Int)) then K (AV.tup [AV.dat CT (zeroC 0), AV.dat I64 (2 : Int)]) [] else bif !mayM (IntKind.wrap IntKind.i64 (rnumV (b, false) (1 : Int)), rwholeV (rnumV (rnumS (b, false) (1 : Int)) (4 : Int)), rwholeV (rnumV (rnumS (rnumS (b, false) (1 : Int)) (4 : Int)) (4 : Int)), (0 : Int), ((0 : Int), ByteArray.mk #[]), ByteArray.mk #[], (0 : Int), (0 : Int), (0 : Int), (0 : Int), (0 : Int), false) then K (AV.tup [AV.dat CT (zeroC 0), AV.dat I64 (2 : Int)]) [] else K (AV.tup [AV.dat CT (IntKind.wrap IntKind.i64 (rnumV (b, false) (1 : Int)), rwholeV (rnumV (rnumS (b, false) (1 : Int)) (4 : Int)), rwholeV (rnumV (rnumS (rnumS (b, false) (1 : Int)) (4 : Int)) (4 : Int)), (0 : Int), ((0 : Int), ByteArray.mk #[]), ByteArray.mk #[], (0 : Int), (0 : Int), (0 : Int), (0 : Int), (0 : Int), false), AV.dat I64 (0 : Int)]) [])) := by kernel_rfl
theorem rof_9 {R : Type} (K : KV R) (b : List Int) : (codeX Tryd.prog (G25d 9 ⟨#[107, 114, 116]⟩) lv25c 8 Tryd.f25).run [.dat BL b] [] K = ck (List.length b * (1 : Nat) ≤ limit) (ck (IntKind.wrap IntKind.i64 (rnumV (b, false) (1 : Int)) = (9 : Int)) (bif !decide (rendV (rnumS (rnumS (rnumS (rnumS (b, false) (1 : Int)) (4 : Int)) (4 : Int)) (4 : Int)) = (0 : Int)) then K (AV.tup [AV.dat CT (zeroC 0), AV.dat I64 (2 : Int)]) [] else bif !mayM (IntKind.wrap IntKind.i64 (rnumV (b, false) (1 : Int)), rwholeV (rnumV (rnumS (b, false) (1 : Int)) (4 : Int)), rwholeV (rnumV (rnumS (rnumS (b, false) (1 : Int)) (4 : Int)) (4 : Int)), rwholeV (rnumV (rnumS (rnumS (rnumS (b, false) (1 : Int)) (4 : Int)) (4 : Int)) (4 : Int)), ((0 : Int), ByteArray.mk #[]), ByteArray.mk #[], (0 : Int), (0 : Int), (0 : Int), (0 : Int), (0 : Int), false) then K (AV.tup [AV.dat CT (zeroC 0), AV.dat I64 (2 : Int)]) [] else K (AV.tup [AV.dat CT (IntKind.wrap IntKind.i64 (rnumV (b, false) (1 : Int)), rwholeV (rnumV (rnumS (b, false) (1 : Int)) (4 : Int)), rwholeV (rnumV (rnumS (rnumS (b, false) (1 : Int)) (4 : Int)) (4 : Int)), rwholeV (rnumV (rnumS (rnumS (rnumS (b, false) (1 : Int)) (4 : Int)) (4 : Int)) (4 : Int)), ((0 : Int), ByteArray.mk #[]), ByteArray.mk #[], (0 : Int), (0 : Int), (0 : Int), (0 : Int), (0 : Int), false), AV.dat I64 (0 : Int)]) [])) := by kernel_rfl
theorem rof_10 {R : Type} (K : KV R) (b : List Int) : (codeX Tryd.prog (G25d 10 ⟨#[114]⟩) lv25c 8 Tryd.f25).run [.dat BL b] [] K = ck (List.length b * (1 : Nat) ≤ limit) (ck (IntKind.wrap IntKind.i64 (rnumV (b, false) (1 : Int)) = (10 : Int)) (bif !decide (rendV (rnumS (rnumS (b, false) (1 : Int)) (4 : Int)) = (0 : Int)) then K (AV.tup [AV.dat CT (zeroC 0), AV.dat I64 (2 : Int)]) [] else bif !mayM (IntKind.wrap IntKind.i64 (rnumV (b, false) (1 : Int)), (0 : Int), rwholeV (rnumV (rnumS (b, false) (1 : Int)) (4 : Int)), (0 : Int), ((0 : Int), ByteArray.mk #[]), ByteArray.mk #[], (0 : Int), (0 : Int), (0 : Int), (0 : Int), (0 : Int), false) then K (AV.tup [AV.dat CT (zeroC 0), AV.dat I64 (2 : Int)]) [] else K (AV.tup [AV.dat CT (IntKind.wrap IntKind.i64 (rnumV (b, false) (1 : Int)), (0 : Int), rwholeV (rnumV (rnumS (b, false) (1 : Int)) (4 : Int)), (0 : Int), ((0 : Int), ByteArray.mk #[]), ByteArray.mk #[], (0 : Int), (0 : Int), (0 : Int), (0 : Int), (0 : Int), false), AV.dat I64 (0 : Int)]) [])) := by kernel_rfl
theorem rof_11 {R : Type} (K : KV R) (b : List Int) : (codeX Tryd.prog (G25d 11 ⟨#[107, 109]⟩) lv25c 8 Tryd.f25).run [.dat BL b] [] K = ck (List.length b * (1 : Nat) ≤ limit) (ck (IntKind.wrap IntKind.i64 (rnumV (b, false) (1 : Int)) = (11 : Int)) (bif !decide (rendV (rnumS (rnumS (rnumS (b, false) (1 : Int)) (4 : Int)) (4 : Int)) = (0 : Int)) then K (AV.tup [AV.dat CT (zeroC 0), AV.dat I64 (2 : Int)]) [] else ck (wfC (IntKind.wrap IntKind.i64 (rnumV (b, false) (1 : Int)), rwholeV (rnumV (rnumS (b, false) (1 : Int)) (4 : Int)), (0 : Int), (0 : Int), ((0 : Int), ByteArray.mk #[]), ByteArray.mk #[], IntKind.wrap IntKind.u32 (rnumV (rnumS (rnumS (b, false) (1 : Int)) (4 : Int)) (4 : Int)), (0 : Int), (0 : Int), (0 : Int), (0 : Int), false)) (bif !mayM (IntKind.wrap IntKind.i64 (rnumV (b, false) (1 : Int)), rwholeV (rnumV (rnumS (b, false) (1 : Int)) (4 : Int)), (0 : Int), (0 : Int), ((0 : Int), ByteArray.mk #[]), ByteArray.mk #[], IntKind.wrap IntKind.u32 (rnumV (rnumS (rnumS (b, false) (1 : Int)) (4 : Int)) (4 : Int)), (0 : Int), (0 : Int), (0 : Int), (0 : Int), false) then K (AV.tup [AV.dat CT (zeroC 0), AV.dat I64 (2 : Int)]) [] else K (AV.tup [AV.dat CT (IntKind.wrap IntKind.i64 (rnumV (b, false) (1 : Int)), rwholeV (rnumV (rnumS (b, false) (1 : Int)) (4 : Int)), (0 : Int), (0 : Int), ((0 : Int), ByteArray.mk #[]), ByteArray.mk #[], IntKind.wrap IntKind.u32 (rnumV (rnumS (rnumS (b, false) (1 : Int)) (4 : Int)) (4 : Int)), (0 : Int), (0 : Int), (0 : Int), (0 : Int), false), AV.dat I64 (0 : Int)]) []))) := by kernel_rfl
theorem rof_12 {R : Type} (K : KV R) (b : List Int) : (codeX Tryd.prog (G25d 12 ⟨#[107, 117, 103]⟩) lv25c 8 Tryd.f25).run [.dat BL b] [] K = ck (List.length b * (1 : Nat) ≤ limit) (ck (IntKind.wrap IntKind.i64 (rnumV (b, false) (1 : Int)) = (12 : Int)) (bif !decide (rendV (rnumS (rnumS (rnumS (rnumS (b, false) (1 : Int)) (4 : Int)) (1 : Int)) (1 : Int)) = (0 : Int)) then K (AV.tup [AV.dat CT (zeroC 0), AV.dat I64 (2 : Int)]) [] else bif !mayM (IntKind.wrap IntKind.i64 (rnumV (b, false) (1 : Int)), rwholeV (rnumV (rnumS (b, false) (1 : Int)) (4 : Int)), (0 : Int), (0 : Int), ((0 : Int), ByteArray.mk #[]), ByteArray.mk #[], (0 : Int), IntKind.wrap IntKind.i64 (rnumV (rnumS (rnumS (b, false) (1 : Int)) (4 : Int)) (1 : Int)), IntKind.wrap IntKind.i64 (rnumV (rnumS (rnumS (rnumS (b, false) (1 : Int)) (4 : Int)) (1 : Int)) (1 : Int)), (0 : Int), (0 : Int), false) then K (AV.tup [AV.dat CT (zeroC 0), AV.dat I64 (2 : Int)]) [] else K (AV.tup [AV.dat CT (IntKind.wrap IntKind.i64 (rnumV (b, false) (1 : Int)), rwholeV (rnumV (rnumS (b, false) (1 : Int)) (4 : Int)), (0 : Int), (0 : Int), ((0 : Int), ByteArray.mk #[]), ByteArray.mk #[], (0 : Int), IntKind.wrap IntKind.i64 (rnumV (rnumS (rnumS (b, false) (1 : Int)) (4 : Int)) (1 : Int)), IntKind.wrap IntKind.i64 (rnumV (rnumS (rnumS (rnumS (b, false) (1 : Int)) (4 : Int)) (1 : Int)) (1 : Int)), (0 : Int), (0 : Int), false), AV.dat I64 (0 : Int)]) [])) := by kernel_rfl
theorem rof_13 {R : Type} (K : KV R) (b : List Int) : (codeX Tryd.prog (G25d 13 ⟨#[107, 115]⟩) lv25c 8 Tryd.f25).run [.dat BL b] [] K = ck (List.length b * (1 : Nat) ≤ limit) (ck (IntKind.wrap IntKind.i64 (rnumV (b, false) (1 : Int)) = (13 : Int)) (bif !decide (rendV (rnumS (rnumS (rnumS (b, false) (1 : Int)) (4 : Int)) (8 : Int)) = (0 : Int)) then K (AV.tup [AV.dat CT (zeroC 0), AV.dat I64 (2 : Int)]) [] else ck (wfC (IntKind.wrap IntKind.i64 (rnumV (b, false) (1 : Int)), rwholeV (rnumV (rnumS (b, false) (1 : Int)) (4 : Int)), (0 : Int), (0 : Int), ((0 : Int), ByteArray.mk #[]), ByteArray.mk #[], (0 : Int), (0 : Int), (0 : Int), rnumV (rnumS (rnumS (b, false) (1 : Int)) (4 : Int)) (8 : Int), (0 : Int), false)) (bif !mayM (IntKind.wrap IntKind.i64 (rnumV (b, false) (1 : Int)), rwholeV (rnumV (rnumS (b, false) (1 : Int)) (4 : Int)), (0 : Int), (0 : Int), ((0 : Int), ByteArray.mk #[]), ByteArray.mk #[], (0 : Int), (0 : Int), (0 : Int), rnumV (rnumS (rnumS (b, false) (1 : Int)) (4 : Int)) (8 : Int), (0 : Int), false) then K (AV.tup [AV.dat CT (zeroC 0), AV.dat I64 (2 : Int)]) [] else K (AV.tup [AV.dat CT (IntKind.wrap IntKind.i64 (rnumV (b, false) (1 : Int)), rwholeV (rnumV (rnumS (b, false) (1 : Int)) (4 : Int)), (0 : Int), (0 : Int), ((0 : Int), ByteArray.mk #[]), ByteArray.mk #[], (0 : Int), (0 : Int), (0 : Int), rnumV (rnumS (rnumS (b, false) (1 : Int)) (4 : Int)) (8 : Int), (0 : Int), false), AV.dat I64 (0 : Int)]) []))) := by kernel_rfl
theorem rof_14 {R : Type} (K : KV R) (b : List Int) : (codeX Tryd.prog (G25d 14 ⟨#[107]⟩) lv25c 8 Tryd.f25).run [.dat BL b] [] K = ck (List.length b * (1 : Nat) ≤ limit) (ck (IntKind.wrap IntKind.i64 (rnumV (b, false) (1 : Int)) = (14 : Int)) (bif !decide (rendV (rnumS (rnumS (b, false) (1 : Int)) (4 : Int)) = (0 : Int)) then K (AV.tup [AV.dat CT (zeroC 0), AV.dat I64 (2 : Int)]) [] else bif !mayM (IntKind.wrap IntKind.i64 (rnumV (b, false) (1 : Int)), rwholeV (rnumV (rnumS (b, false) (1 : Int)) (4 : Int)), (0 : Int), (0 : Int), ((0 : Int), ByteArray.mk #[]), ByteArray.mk #[], (0 : Int), (0 : Int), (0 : Int), (0 : Int), (0 : Int), false) then K (AV.tup [AV.dat CT (zeroC 0), AV.dat I64 (2 : Int)]) [] else K (AV.tup [AV.dat CT (IntKind.wrap IntKind.i64 (rnumV (b, false) (1 : Int)), rwholeV (rnumV (rnumS (b, false) (1 : Int)) (4 : Int)), (0 : Int), (0 : Int), ((0 : Int), ByteArray.mk #[]), ByteArray.mk #[], (0 : Int), (0 : Int), (0 : Int), (0 : Int), (0 : Int), false), AV.dat I64 (0 : Int)]) [])) := by kernel_rfl
theorem rof_15 {R : Type} (K : KV R) (b : List Int) : (codeX Tryd.prog (G25d 15 ⟨#[107]⟩) lv25c 8 Tryd.f25).run [.dat BL b] [] K = ck (List.length b * (1 : Nat) ≤ limit) (ck (IntKind.wrap IntKind.i64 (rnumV (b, false) (1 : Int)) = (15 : Int)) (bif !decide (rendV (rnumS (rnumS (b, false) (1 : Int)) (4 : Int)) = (0 : Int)) then K (AV.tup [AV.dat CT (zeroC 0), AV.dat I64 (2 : Int)]) [] else bif !mayM (IntKind.wrap IntKind.i64 (rnumV (b, false) (1 : Int)), rwholeV (rnumV (rnumS (b, false) (1 : Int)) (4 : Int)), (0 : Int), (0 : Int), ((0 : Int), ByteArray.mk #[]), ByteArray.mk #[], (0 : Int), (0 : Int), (0 : Int), (0 : Int), (0 : Int), false) then K (AV.tup [AV.dat CT (zeroC 0), AV.dat I64 (2 : Int)]) [] else K (AV.tup [AV.dat CT (IntKind.wrap IntKind.i64 (rnumV (b, false) (1 : Int)), rwholeV (rnumV (rnumS (b, false) (1 : Int)) (4 : Int)), (0 : Int), (0 : Int), ((0 : Int), ByteArray.mk #[]), ByteArray.mk #[], (0 : Int), (0 : Int), (0 : Int), (0 : Int), (0 : Int), false), AV.dat I64 (0 : Int)]) [])) := by kernel_rfl
theorem rof_16 {R : Type} (K : KV R) (b : List Int) : (codeX Tryd.prog (G25d 16 ⟨#[114, 120]⟩) lv25c 8 Tryd.f25).run [.dat BL b] [] K = ck (List.length b * (1 : Nat) ≤ limit) (ck (IntKind.wrap IntKind.i64 (rnumV (b, false) (1 : Int)) = (16 : Int)) (bif !decide (rendV (rnumS (rnumS (rnumS (b, false) (1 : Int)) (4 : Int)) (1 : Int)) = (0 : Int)) then K (AV.tup [AV.dat CT (zeroC 0), AV.dat I64 (2 : Int)]) [] else bif !mayM (IntKind.wrap IntKind.i64 (rnumV (b, false) (1 : Int)), (0 : Int), rwholeV (rnumV (rnumS (b, false) (1 : Int)) (4 : Int)), (0 : Int), ((0 : Int), ByteArray.mk #[]), ByteArray.mk #[], (0 : Int), (0 : Int), (0 : Int), (0 : Int), IntKind.wrap IntKind.i64 (rnumV (rnumS (rnumS (b, false) (1 : Int)) (4 : Int)) (1 : Int)), false) then K (AV.tup [AV.dat CT (zeroC 0), AV.dat I64 (2 : Int)]) [] else K (AV.tup [AV.dat CT (IntKind.wrap IntKind.i64 (rnumV (b, false) (1 : Int)), (0 : Int), rwholeV (rnumV (rnumS (b, false) (1 : Int)) (4 : Int)), (0 : Int), ((0 : Int), ByteArray.mk #[]), ByteArray.mk #[], (0 : Int), (0 : Int), (0 : Int), (0 : Int), IntKind.wrap IntKind.i64 (rnumV (rnumS (rnumS (b, false) (1 : Int)) (4 : Int)) (1 : Int)), false), AV.dat I64 (0 : Int)]) [])) := by kernel_rfl
theorem rof_17 {R : Type} (K : KV R) (b : List Int) : (codeX Tryd.prog (G25d 17 ⟨#[107, 99]⟩) lv25c 8 Tryd.f25).run [.dat BL b] [] K = ck (List.length b * (1 : Nat) ≤ limit) (ck (IntKind.wrap IntKind.i64 (rnumV (b, false) (1 : Int)) = (17 : Int)) (bif decide ((1 : Int) < rnumV (rnumS (rnumS (b, false) (1 : Int)) (4 : Int)) (1 : Int)) then K (AV.tup [AV.dat CT (zeroC 0), AV.dat I64 (2 : Int)]) [] else bif !decide (rendV (rnumS (rnumS (rnumS (b, false) (1 : Int)) (4 : Int)) (1 : Int)) = (0 : Int)) then K (AV.tup [AV.dat CT (zeroC 0), AV.dat I64 (2 : Int)]) [] else bif !mayM (IntKind.wrap IntKind.i64 (rnumV (b, false) (1 : Int)), rwholeV (rnumV (rnumS (b, false) (1 : Int)) (4 : Int)), (0 : Int), (0 : Int), ((0 : Int), ByteArray.mk #[]), ByteArray.mk #[], (0 : Int), (0 : Int), (0 : Int), (0 : Int), (0 : Int), decide (rnumV (rnumS (rnumS (b, false) (1 : Int)) (4 : Int)) (1 : Int) = (1 : Int))) then K (AV.tup [AV.dat CT (zeroC 0), AV.dat I64 (2 : Int)]) [] else K (AV.tup [AV.dat CT (IntKind.wrap IntKind.i64 (rnumV (b, false) (1 : Int)), rwholeV (rnumV (rnumS (b, false) (1 : Int)) (4 : Int)), (0 : Int), (0 : Int), ((0 : Int), ByteArray.mk #[]), ByteArray.mk #[], (0 : Int), (0 : Int), (0 : Int), (0 : Int), (0 : Int), decide (rnumV (rnumS (rnumS (b, false) (1 : Int)) (4 : Int)) (1 : Int) = (1 : Int))), AV.dat I64 (0 : Int)]) [])) := by kernel_rfl
theorem rof_18 {R : Type} (K : KV R) (b : List Int) : (codeX Tryd.prog (G25d 18 ⟨#[100]⟩) lv25c 8 Tryd.f25).run [.dat BL b] [] K = ck (List.length b * (1 : Nat) ≤ limit) (ck (IntKind.wrap IntKind.i64 (rnumV (b, false) (1 : Int)) = (18 : Int)) (ck (List.length ((rnumS (b, false) (1 : Int)).1) < (100000 : Nat) ∧ (¬((1 : Int) = (1 : Int) ∨ (1 : Int) = (2 : Int)) ∨ (0 : Int) ≤ rblobN (rnumS (b, false) (1 : Int)) (1 : Int))) (bif rbBad (rnumS (b, false) (1 : Int)) (1 : Int) then bif !decide (rendV (rblobS (rnumS (b, false) (1 : Int)) (1 : Int)) = (0 : Int)) then K (AV.tup [AV.dat CT (zeroC 0), AV.dat I64 (2 : Int)]) [] else bif !mayM (IntKind.wrap IntKind.i64 (rnumV (b, false) (1 : Int)), (0 : Int), (0 : Int), (0 : Int), ((4 : Int), strOf []), ByteArray.mk #[], (0 : Int), (0 : Int), (0 : Int), (0 : Int), (0 : Int), false) then K (AV.tup [AV.dat CT (zeroC 0), AV.dat I64 (2 : Int)]) [] else K (AV.tup [AV.dat CT (IntKind.wrap IntKind.i64 (rnumV (b, false) (1 : Int)), (0 : Int), (0 : Int), (0 : Int), ((4 : Int), strOf []), ByteArray.mk #[], (0 : Int), (0 : Int), (0 : Int), (0 : Int), (0 : Int), false), AV.dat I64 (0 : Int)]) [] else bif !decide (rendV (rblobS (rnumS (b, false) (1 : Int)) (1 : Int)) = (0 : Int)) then K (AV.tup [AV.dat CT (zeroC 0), AV.dat I64 (2 : Int)]) [] else bif !mayM (IntKind.wrap IntKind.i64 (rnumV (b, false) (1 : Int)), (0 : Int), (0 : Int), (0 : Int), ((4 : Int), strOf (rblobV (rnumS (b, false) (1 : Int)) (1 : Int))), ByteArray.mk #[], (0 : Int), (0 : Int), (0 : Int), (0 : Int), (0 : Int), false) then K (AV.tup [AV.dat CT (zeroC 0), AV.dat I64 (2 : Int)]) [] else K (AV.tup [AV.dat CT (IntKind.wrap IntKind.i64 (rnumV (b, false) (1 : Int)), (0 : Int), (0 : Int), (0 : Int), ((4 : Int), strOf (rblobV (rnumS (b, false) (1 : Int)) (1 : Int))), ByteArray.mk #[], (0 : Int), (0 : Int), (0 : Int), (0 : Int), (0 : Int), false), AV.dat I64 (0 : Int)]) []))) := by kernel_rfl
theorem rof_0 {R : Type} (K : KV R) (b : List Int) : (codeX Tryd.prog G25z lv25c 8 Tryd.f25).run [.dat BL b] [] K = ck (List.length b * (1 : Nat) ≤ limit) (ck (psOf (IntKind.wrap IntKind.i64 (rnumV (b, false) (1 : Int))) = []) (bif !decide (rendV (rnumS (b, false) (1 : Int)) = (0 : Int)) then K (AV.tup [AV.dat CT (zeroC 0), AV.dat I64 (2 : Int)]) [] else bif !mayM (IntKind.wrap IntKind.i64 (rnumV (b, false) (1 : Int)), (0 : Int), (0 : Int), (0 : Int), ((0 : Int), ByteArray.mk #[]), ByteArray.mk #[], (0 : Int), (0 : Int), (0 : Int), (0 : Int), (0 : Int), false) then K (AV.tup [AV.dat CT (zeroC 0), AV.dat I64 (2 : Int)]) [] else K (AV.tup [AV.dat CT (IntKind.wrap IntKind.i64 (rnumV (b, false) (1 : Int)), (0 : Int), (0 : Int), (0 : Int), ((0 : Int), ByteArray.mk #[]), ByteArray.mk #[], (0 : Int), (0 : Int), (0 : Int), (0 : Int), (0 : Int), false), AV.dat I64 (0 : Int)]) [])) := by kernel_rfl
end Go.Mx
