/- Own work. A part of the proof of a law of this seat: this seat's functions, by the machine, and the plain law -/
import Derived.Test.YtmljbiijlljhfaaMe
import Derived.Test.YtmljbiijlljhfaaWc
namespace Go.Mx
set_option linter.unusedVariables false
set_option linter.unusedSimpArgs false
open Go Go.RowKit Go.Sx Go.Proofs
set_option maxRecDepth 100000
/-- the sixteen bits' parts, mixed -/
def fx : Nat → Nat → Nat
  | 0, _ => 0
  | j + 1, m => (m % 65536) ^^^ fx j (m / 65536)
theorem fx_zero (j : Nat) : fx j 0 = 0 := by
  induction j with
  | zero => rfl
  | succ j ih => simp [fx, ih]
theorem fx_lt (j m : Nat) : fx j m < 65536 := by
  induction j generalizing m with
  | zero => simp [fx]
  | succ j ih => exact Nat.xor_lt_two_pow (n := 16) (Nat.mod_lt _ (by decide)) (ih _)
theorem fx_four (m : Nat) : (m / 2 ^ 48 ^^^ m / 2 ^ 32 ^^^ m / 2 ^ 16 ^^^ m) % 65536 = fx 4 m := by
  have e : (65536 : Nat) = 2 ^ 16 := by decide
  simp only [fx, e, Nat.xor_mod_two_pow, Nat.div_div_eq_div_mul, ← Nat.pow_add]
  simp only [Nat.xor_zero]
  rw [Nat.xor_comm _ (m % 2 ^ 16), Nat.xor_comm (m / 2 ^ 48 % 2 ^ 16 ^^^ m / 2 ^ 32 % 2 ^ 16) (m / 2 ^ 16 % 2 ^ 16), Nat.xor_comm (m / 2 ^ 48 % 2 ^ 16) (m / 2 ^ 32 % 2 ^ 16)]
def hashv (x : XV) : Nat := fx 4 ((IntKind.u8.wrap x.1 :: bytesOf x.2).foldl step 14695981039346656037).toNat
theorem hashv_lt (x : XV) : hashv x < 65536 := fx_lt _ _
def F18 : Summ := ⟨fun args ob K => match args, ob with
  | [v], [] => (asD XT v).bind fun x => ck (x.2.size < 100000) (K (.dat (.int .u16) (hashv x : Int)) [])
  | _, _ => none⟩
theorem hash_run {R : Type} (K : KV R) (x : XV) (hs : x.2.size < 100000) : (codeX Try.prog G18 lvN 0 Try.f18).run [.dat XT x] [] K = K (.dat (.int .u16) (hashv x : Int)) [] := by
  refine (hash_0 K x).trans ?_
  rw [ck_pos (by unfold limit; omega), ck_pos (by rw [bytesOf_len]; exact hs)]
  have hr := fold_range (bytesOf x.2) ([IntKind.u8.wrap x.1].foldl step 14695981039346656037) (by simp only [List.foldl_cons, List.foldl_nil]; exact step_range _ _)
  obtain ⟨m, hm⟩ := Int.eq_ofNat_of_zero_le hr.1
  have hv : hashv x = fx 4 m := by
    unfold hashv
    rw [List.foldl_cons]
    simp only [List.foldl_cons, List.foldl_nil] at hm
    rw [hm, Int.toNat_natCast]
  rw [hm, hv, ← fx_four]
  have hml : m < 2 ^ 64 := by rw [hm] at hr; have := hr.2; omega
  have sh : ∀ j : Nat, j ≤ 64 → shr .u64 (m : Int) (j : Int) = ((m / 2 ^ j : Nat) : Int) := by
    intro j hj
    unfold shr
    rw [Int.toNat_natCast, show min j IntKind.u64.bits = j by simp only [IntKind.bits]; omega]
    simp
  have lt : ∀ j : Nat, m / 2 ^ j < 2 ^ 64 := fun j => Nat.lt_of_le_of_lt (Nat.div_le_self _ _) hml
  rw [show (48 : Int) = ((48 : Nat) : Int) from rfl, show (32 : Int) = ((32 : Nat) : Int) from rfl, show (16 : Int) = ((16 : Nat) : Int) from rfl, sh 48 (by decide), sh 32 (by decide), sh 16 (by decide)]
  rw [bits_xor_nat (k := .u64) (n := 64) rfl rfl (lt 48) (lt 32), bits_xor_nat (k := .u64) (n := 64) rfl rfl (Nat.xor_lt_two_pow (lt 48) (lt 32)) (lt 16), bits_xor_nat (k := .u64) (n := 64) rfl rfl (Nat.xor_lt_two_pow (Nat.xor_lt_two_pow (lt 48) (lt 32)) (lt 16)) hml]
  rw [IntKind.wrap_u16]
  rfl
theorem F18_ok : SumOk Try.prog 18 F18 := by
  refine (codeX_ok (k := 0) (lv := lvN) mixed noNG_prog (sums_call (Wr := all) all18) (sums_prim all18) (fn := Try.f18) rfl).le ?_ ?_
  · intro R R' f args ob K
    unfold F18; dsimp only
    split <;> simp only [bd_none, bd_bind, bd_ck]
  · intro R args ob K r h
    unfold F18 at h; dsimp only at h
    split at h
    · obtain ⟨x, hx, h2⟩ := Option.bind_eq_some_iff.1 h
      obtain rfl := asD_ok hx
      obtain ⟨hs, h3⟩ := ck_elim h2
      exact (hash_run K x hs).trans h3
    · cases h
theorem rhash_2 {R : Type} (L0 : Nat → St → (Exit → St → Option R) → Option R) (K : KV R) : ∀ (j k m n : Nat), m < 65536 ^ j → m < 18446744073709551616 → n < 65536 → j < k →
    LX Try.prog G33 lv19 0 (codeOf Try.f19) k 2 ⟨[(3, .dat (.int .u64) (m : Int)), (5, .dat (.int .u64) (n : Int))], []⟩ (endX Try.prog G33 lv19 Try.f19 0 L0 K 2) = K (.dat I64 ((n ^^^ fx j m : Nat) : Int)) [] := by
  intro j
  induction j with
  | zero =>
    intro k m n hm _ hn hk
    obtain ⟨k, rfl⟩ : ∃ q, k = q + 1 := ⟨k - 1, by omega⟩
    obtain rfl : m = 0 := by simpa using hm
    refine (rh_s2 _ L0 K _ _).trans ?_
    rw [show decide ((0 : Int) < ((0 : Nat) : Int)) = false from rfl, cond_false, wrapS (by omega)]
    simp [fx]
  | succ j ih =>
    intro k m n hm hm2 hn hk
    obtain ⟨k, rfl⟩ : ∃ q, k = q + 1 := ⟨k - 1, by omega⟩
    refine (rh_s2 _ L0 K _ _).trans ?_
    by_cases h0 : m = 0
    · subst h0
      rw [show decide ((0 : Int) < ((0 : Nat) : Int)) = false from rfl, cond_false, fx_zero, wrapS (by omega), Nat.xor_zero]
    · rw [show decide ((0 : Int) < (m : Int)) = true from decide_eq_true (by omega), cond_true]
      have h1 : IntKind.u64.wrap ((m : Int).tdiv 65536) = ((m / 65536 : Nat) : Int) := by
        rw [Int.tdiv_eq_ediv_of_nonneg (by omega), IntKind.wrap_u64]
        omega
      have h2 : (m : Int).tmod 65536 = ((m % 65536 : Nat) : Int) := by
        rw [Int.tmod_eq_emod_of_nonneg (by omega)]
        omega
      have h3 : m % 65536 < 2 ^ 64 := Nat.lt_of_lt_of_le (Nat.mod_lt _ (by decide)) (by decide)
      rw [h1, h2, bits_xor_nat (k := .u64) (n := 64) rfl rfl (by omega) h3]
      rw [ih k (m / 65536) (n ^^^ m % 65536) (by rw [Nat.pow_succ] at hm; exact Nat.div_lt_of_lt_mul (by rw [Nat.mul_comm]; exact hm)) (by omega) (Nat.xor_lt_two_pow (n := 16) hn (Nat.mod_lt _ (by decide))) (by omega)]
      simp only [fx, Nat.xor_assoc]
theorem rhash_0 {R : Type} (K : KV R) (x : XV) (hs : x.2.size < 100000) : ∀ (n i k : Nat) (h : Int), i + n = x.2.size → n < k → 0 ≤ h ∧ h < 18446744073709551616 →
    LX Try.prog G33 lv19 0 (codeOf Try.f19) k 0 ⟨[(1, .ptr 0 []), (3, .dat (.int .u64) h), (4, .dat I64 (i : Int))], [.box 29 (.dat XT x) true]⟩ (endX Try.prog G33 lv19 Try.f19 0 (LX Try.prog G33 lv19 0 (codeOf Try.f19) 100001) K 0) = K (.dat I64 (fx 4 (((bytesOf x.2).drop i).foldl step h).toNat : Int)) [] := by
  have hl := bytesOf_len x.2
  intro n
  induction n with
  | zero =>
    intro i k h hn hk hh
    obtain ⟨k, rfl⟩ : ∃ q, k = q + 1 := ⟨k - 1, by omega⟩
    refine (rh_s0 _ _ K x h i).trans ?_
    rw [show decide ((i : Int) < (x.2.size : Int)) = false from decide_eq_false (by omega), cond_false, List.drop_of_length_le (by omega), List.foldl_nil]
    obtain ⟨m, rfl⟩ := Int.eq_ofNat_of_zero_le hh.1
    have e := rhash_2 (LX Try.prog G33 lv19 0 (codeOf Try.f19) 100001) K 4 100001 m 0 (by omega) (by omega) (by decide) (by omega)
    rw [Nat.zero_xor] at e
    exact e
  | succ n ih =>
    intro i k h hn hk hh
    obtain ⟨k, rfl⟩ : ∃ q, k = q + 1 := ⟨k - 1, by omega⟩
    refine (rh_s0 _ _ K x h i).trans ?_
    rw [show decide ((i : Int) < (x.2.size : Int)) = true from decide_eq_true (by omega), cond_true, ck_pos (by omega), getq (j := i) rfl (by omega)]
    simp only [Option.bind_some]
    rw [drop_at (show i < (bytesOf x.2).length by omega), List.foldl_cons, wrapS (x := (i : Int) + 1) (by omega)]
    exact ih (i + 1) k _ (by omega) (by omega) (step_range _ _)
def F19 : Summ := ⟨fun args ob K => match args, ob with
  | [v], [] => (asD XT v).bind fun x => ck (x.2.size < 100000) (K (.dat I64 (hashv x : Int)) [])
  | _, _ => none⟩
theorem rhash_run {R : Type} (K : KV R) (x : XV) (hs : x.2.size < 100000) : (codeX Try.prog G33 lv19 100001 Try.f19).run [.dat XT x] [] K = K (.dat I64 (hashv x : Int)) [] := by
  show runX Try.prog G33 lv19 Try.f19 0 (LX Try.prog G33 lv19 0 (codeOf Try.f19) 100001) [.dat XT x] [] K = _
  rw [rh_0]
  have hst : IntKind.u64.wrap (bits .xor .u64 14695981039346656037 ((IntKind.u64.wrap x.1).tmod 256) * 1099511628211) = step 14695981039346656037 (IntKind.u8.wrap x.1) := by
    unfold step
    have : (IntKind.u64.wrap x.1).tmod 256 = IntKind.u64.wrap (IntKind.u8.wrap x.1) := by
      rw [IntKind.wrap_u64, IntKind.wrap_u8, IntKind.wrap_u64, Int.tmod_eq_emod_of_nonneg (by omega)]
      omega
    rw [this]
  rw [hst]
  have e := rhash_0 K x hs x.2.size 0 100001 (step 14695981039346656037 (IntKind.u8.wrap x.1)) (by omega) (by omega) (step_range _ _)
  rw [List.drop_zero] at e
  exact e
theorem F19_ok : SumOk Try.prog 19 F19 := by
  refine (codeX_ok (k := 100001) (lv := lv19) mixed noNG_prog (sums_call (Wr := all) all33) (sums_prim all33) (fn := Try.f19) rfl).le ?_ ?_
  · intro R R' f args ob K
    unfold F19; dsimp only
    split <;> simp only [bd_none, bd_bind, bd_ck]
  · intro R args ob K r h
    unfold F19 at h; dsimp only at h
    split at h
    · obtain ⟨x, hx, h2⟩ := Option.bind_eq_some_iff.1 h
      obtain rfl := asD_ok hx
      obtain ⟨hs, h3⟩ := ck_elim h2
      exact (rhash_run K x hs).trans h3
    · cases h
/-! ### nibbles of numbers -/
theorem shr4 (k : IntKind) (hk : 8 ≤ k.bits) (x : Int) : shr k x 4 = x / 16 := by
  unfold shr
  rw [show min (4 : Int).toNat k.bits = 4 by have : (4 : Int).toNat = 4 := rfl; omega]
  rfl
def F32 : Summ := ⟨fun args ob K => match args, ob with
  | [.dat (.int .u8) n, .dat (.int .i64) m], [] => ck (m = 2 ∧ 0 ≤ n ∧ n < 256) (K (.view 0) [.row 5 U8 [n / 16, n % 16] .own])
  | _, _ => none⟩
def F30 : Summ := ⟨fun args ob K => match args, ob with
  | [.dat (.int .i64) n, .dat (.int .i64) m], [] => ck (m = 2 ∧ 0 ≤ n ∧ n < 256) (K (.view 0) [.row 5 U8 [n / 16, n % 16] .own])
  | _, _ => none⟩
def F31 : Summ := ⟨fun args ob K => match args, ob with
  | [.dat (.int .i64) n, .dat (.int .i64) m], [] => ck (m = 1 ∧ 0 ≤ n ∧ n < 16) (K (.view 0) [.row 5 U8 [n] .own])
  | _, _ => none⟩
def F29 : Summ := ⟨fun args ob K => match args, ob with
  | [.dat (.int .u16) n, .dat (.int .i64) m], [] => ck (m = 4 ∧ 0 ≤ n ∧ n < 65536) (K (.view 0) [.row 5 U8 [n / 4096, n / 256 % 16, n / 16 % 16, n % 16] .own])
  | _, _ => none⟩
theorem cutb_run {R : Type} (K : KV R) (n : Int) (hn : 0 ≤ n ∧ n < 256) : (W 32).run [.dat U8 n, .dat I64 2] [] K = K (.view 0) [.row 5 U8 [n / 16, n % 16] .own] := by
  refine (cutb K n).trans ?_
  have h1 : bits .and .u8 n 15 = n % 16 := bits_and15 (by decide) (by simpa [IntKind.bits] using hn)
  have h2 : bits .and .u8 (n / 16) 15 = n / 16 := by rw [bits_and15 (by decide) (by simp only [IntKind.bits]; omega)]; omega
  rw [shr4 .u8 (by decide), h1, h2]
  rfl
theorem cuti_run {R : Type} (K : KV R) (n : Int) (hn : 0 ≤ n ∧ n < 256) : (W 30).run [.dat I64 n, .dat I64 2] [] K = K (.view 0) [.row 5 U8 [n / 16, n % 16] .own] := by
  refine (cuti K n).trans ?_
  have h1 : bits .and .i64 n 15 = n % 16 := bits_and15 (by decide) (by simp only [IntKind.bits]; omega)
  have h2 : bits .and .i64 (n / 16) 15 = n / 16 := by rw [bits_and15 (by decide) (by simp only [IntKind.bits]; omega)]; omega
  rw [shr4 .i64 (by decide), h1, h2, IntKind.wrap_u8, IntKind.wrap_u8, show n % 16 % 256 = n % 16 by omega, show n / 16 % 256 = n / 16 by omega]
  rfl
theorem cutt_run {R : Type} (K : KV R) (n : Int) (hn : 0 ≤ n ∧ n < 16) : (W 31).run [.dat I64 n, .dat I64 1] [] K = K (.view 0) [.row 5 U8 [n] .own] := by
  refine (cutt K n).trans ?_
  have h1 : bits .and .i64 n 15 = n := by rw [bits_and15 (by decide) (by simp only [IntKind.bits]; omega)]; omega
  rw [h1, IntKind.wrap_u8, show n % 256 = n by omega]
  rfl
theorem cuth_run {R : Type} (K : KV R) (n : Int) (hn : 0 ≤ n ∧ n < 65536) : (W 29).run [.dat (.int .u16) n, .dat I64 4] [] K = K (.view 0) [.row 5 U8 [n / 4096, n / 256 % 16, n / 16 % 16, n % 16] .own] := by
  refine (cuth K n).trans ?_
  have h0 : bits .and .u16 n 15 = n % 16 := bits_and15 (by decide) (by simp only [IntKind.bits]; omega)
  have h1 : bits .and .u16 (n / 16) 15 = n / 16 % 16 := bits_and15 (by decide) (by simp only [IntKind.bits]; omega)
  have h2 : bits .and .u16 (n / 16 / 16) 15 = n / 16 / 16 % 16 := bits_and15 (by decide) (by simp only [IntKind.bits]; omega)
  have h3 : bits .and .u16 (n / 16 / 16 / 16) 15 = n / 16 / 16 / 16 % 16 := bits_and15 (by decide) (by simp only [IntKind.bits]; omega)
  rw [shr4 .u16 (by decide), shr4 .u16 (by decide), shr4 .u16 (by decide), h0, h1, h2, h3, IntKind.wrap_u8, IntKind.wrap_u8, IntKind.wrap_u8, IntKind.wrap_u8]
  rw [show n % 16 % 256 = n % 16 by omega, show n / 16 % 16 % 256 = n / 16 % 16 by omega, show n / 16 / 16 % 16 % 256 = n / 256 % 16 by omega, show n / 16 / 16 / 16 % 16 % 256 = n / 4096 by omega]
  rfl
theorem F32_ok : SumOk Try.prog 32 F32 := by
  refine (W_ok 32).le (fun f args ob K => by unfold F32; dsimp only; split <;> simp only [bd_none, bd_ck]) ?_
  intro R args ob K r h
  unfold F32 at h; dsimp only at h
  split at h
  · obtain ⟨⟨rfl, hn⟩, h2⟩ := ck_elim h
    exact (cutb_run K _ hn).trans h2
  · cases h
theorem F30_ok : SumOk Try.prog 30 F30 := by
  refine (W_ok 30).le (fun f args ob K => by unfold F30; dsimp only; split <;> simp only [bd_none, bd_ck]) ?_
  intro R args ob K r h
  unfold F30 at h; dsimp only at h
  split at h
  · obtain ⟨⟨rfl, hn⟩, h2⟩ := ck_elim h
    exact (cuti_run K _ hn).trans h2
  · cases h
theorem F31_ok : SumOk Try.prog 31 F31 := by
  refine (W_ok 31).le (fun f args ob K => by unfold F31; dsimp only; split <;> simp only [bd_none, bd_ck]) ?_
  intro R args ob K r h
  unfold F31 at h; dsimp only at h
  split at h
  · obtain ⟨⟨rfl, hn⟩, h2⟩ := ck_elim h
    exact (cutt_run K _ hn).trans h2
  · cases h
theorem F29_ok : SumOk Try.prog 29 F29 := by
  refine (W_ok 29).le (fun f args ob K => by unfold F29; dsimp only; split <;> simp only [bd_none, bd_ck]) ?_
  intro R args ob K r h
  unfold F29 at h; dsimp only at h
  split at h
  · obtain ⟨⟨rfl, hn⟩, h2⟩ := ck_elim h
    exact (cuth_run K _ hn).trans h2
  · cases h
theorem conc {R : Type} (K : KV R) (a b c : List Int) : (W 28).run [.view 0] [.row 22 BL [a, b, c] .own] K = bif decide (IntKind.wrap IntKind.i64 ((0 : Int) + (↑(List.length a) : Int)) < (0 : Int)) then none else bif decide (IntKind.wrap IntKind.i64 (IntKind.wrap IntKind.i64 ((0 : Int) + (↑(List.length a) : Int)) + (↑(List.length b) : Int)) < (0 : Int)) then none else bif decide (IntKind.wrap IntKind.i64 (IntKind.wrap IntKind.i64 (IntKind.wrap IntKind.i64 ((0 : Int) + (↑(List.length a) : Int)) + (↑(List.length b) : Int)) + (↑(List.length c) : Int)) < (0 : Int)) then none else bif decide (IntKind.wrap IntKind.i64 (IntKind.wrap IntKind.i64 (IntKind.wrap IntKind.i64 ((0 : Int) + (↑(List.length a) : Int)) + (↑(List.length b) : Int)) + (↑(List.length c) : Int)) < (0 : Int)) then none else bif decide ((0 : Int) < IntKind.wrap IntKind.i64 (IntKind.wrap IntKind.i64 (IntKind.wrap IntKind.i64 (IntKind.wrap IntKind.i64 ((0 : Int) + (↑(List.length a) : Int)) + (↑(List.length b) : Int)) + (↑(List.length c) : Int)) - (0 : Int))) then ck ((0 : Int) ≤ IntKind.wrap IntKind.i64 (IntKind.wrap IntKind.i64 (IntKind.wrap IntKind.i64 (IntKind.wrap IntKind.i64 ((0 : Int) + (↑(List.length a) : Int)) + (↑(List.length b) : Int)) + (↑(List.length c) : Int)) - (0 : Int)) ∧ Int.toNat (IntKind.wrap IntKind.i64 (IntKind.wrap IntKind.i64 (IntKind.wrap IntKind.i64 (IntKind.wrap IntKind.i64 ((0 : Int) + (↑(List.length a) : Int)) + (↑(List.length b) : Int)) + (↑(List.length c) : Int)) - (0 : Int))) * (1 : Nat) ≤ limit) (ck (((0 : Nat) + List.length a) * (1 : Nat) ≤ limit) (ck ((List.length (List.take (0 : Nat) (List.replicate (Int.toNat (IntKind.wrap IntKind.i64 (IntKind.wrap IntKind.i64 (IntKind.wrap IntKind.i64 (IntKind.wrap IntKind.i64 ((0 : Int) + (↑(List.length a) : Int)) + (↑(List.length b) : Int)) + (↑(List.length c) : Int)) - (0 : Int)))) (0 : Int)) ++ a) + List.length b) * (1 : Nat) ≤ limit) (ck ((List.length (List.take (0 : Nat) (List.replicate (Int.toNat (IntKind.wrap IntKind.i64 (IntKind.wrap IntKind.i64 (IntKind.wrap IntKind.i64 (IntKind.wrap IntKind.i64 ((0 : Int) + (↑(List.length a) : Int)) + (↑(List.length b) : Int)) + (↑(List.length c) : Int)) - (0 : Int)))) (0 : Int)) ++ a ++ b) + List.length c) * (1 : Nat) ≤ limit) (K (AV.view (1 : Nat)) [AO.row (22 : Nat) (T.sl (T.int IntKind.u8)) [a, b, c] Md.own, AO.row (5 : Nat) (T.int IntKind.u8) (List.take (0 : Nat) (List.replicate (Int.toNat (IntKind.wrap IntKind.i64 (IntKind.wrap IntKind.i64 (IntKind.wrap IntKind.i64 (IntKind.wrap IntKind.i64 ((0 : Int) + (↑(List.length a) : Int)) + (↑(List.length b) : Int)) + (↑(List.length c) : Int)) - (0 : Int)))) (0 : Int)) ++ a ++ b ++ c) Md.own])))) else ck (List.length a * (1 : Nat) ≤ limit) (ck ((List.length a + List.length b) * (1 : Nat) ≤ limit) (ck ((List.length (a ++ b) + List.length c) * (1 : Nat) ≤ limit) (K (AV.view (1 : Nat)) [AO.row (22 : Nat) (T.sl (T.int IntKind.u8)) [a, b, c] Md.own, AO.row (5 : Nat) (T.int IntKind.u8) (a ++ b ++ c) Md.own]))) := by kernel_rfl
def F28 : Summ := ⟨fun args ob K => match args, ob with
  | [.view 0], [.row 22 (.sl (.int .u8)) [a, b, c] .own] => ck (a.length + b.length + c.length < 1000000) (K (.view 1) [.row 22 BL [a, b, c] .own, .row 5 (.int .u8) (a ++ b ++ c) .own])
  | _, _ => none⟩
theorem conc_run {R : Type} (K : KV R) (a b c : List Int) (hl : a.length + b.length + c.length < 1000000) : (W 28).run [.view 0] [.row 22 BL [a, b, c] .own] K = K (.view 1) [.row 22 BL [a, b, c] .own, .row 5 (.int .u8) (a ++ b ++ c) .own] := by
  refine (conc K a b c).trans ?_
  have e1 : IntKind.i64.wrap ((0 : Int) + (a.length : Int)) = (a.length : Int) := by rw [wrapS (by omega)]; omega
  have e2 : IntKind.i64.wrap ((a.length : Int) + (b.length : Int)) = (a.length : Int) + (b.length : Int) := wrapS (by omega)
  have e3 : IntKind.i64.wrap ((a.length : Int) + (b.length : Int) + (c.length : Int)) = (a.length : Int) + (b.length : Int) + (c.length : Int) := wrapS (by omega)
  rw [e1, e2, e3, wrapS (x := (a.length : Int) + (b.length : Int) + (c.length : Int) - 0) (by omega)]
  rw [show decide ((a.length : Int) < 0) = false from decide_eq_false (by omega), cond_false, show decide ((a.length : Int) + (b.length : Int) < 0) = false from decide_eq_false (by omega), cond_false, show decide ((a.length : Int) + (b.length : Int) + (c.length : Int) < 0) = false from decide_eq_false (by omega), cond_false, cond_false]
  by_cases hp : 0 < (a.length : Int) + (b.length : Int) + (c.length : Int) - 0
  · rw [show decide (0 < (a.length : Int) + (b.length : Int) + (c.length : Int) - 0) = true from decide_eq_true hp, cond_true, ck_pos (by unfold limit; omega), ck_pos (by unfold limit; omega), ck_pos (by unfold limit; simp; omega), ck_pos (by unfold limit; simp; omega)]
    rfl
  · rw [show decide (0 < (a.length : Int) + (b.length : Int) + (c.length : Int) - 0) = false from decide_eq_false hp, cond_false, ck_pos (by unfold limit; omega), ck_pos (by unfold limit; omega), ck_pos (by unfold limit; simp; omega)]
theorem F28_ok : SumOk Try.prog 28 F28 := by
  refine (W_ok 28).le (fun f args ob K => by unfold F28; dsimp only; split <;> simp only [bd_none, bd_ck]) ?_
  intro R args ob K r h
  unfold F28 at h; dsimp only at h
  split at h
  · obtain ⟨hn, h2⟩ := ck_elim h
    exact (conc_run K _ _ _ hn).trans h2
  · cases h
def lv15 : Tl := ⟨fun q => match q with | 0 => some [3, 23, 24, 25] | _ => none, []⟩
def lv20 : Tl := ⟨fun q => match q with | 0 => some [1, 4, 5, 6] | _ => none, []⟩
def lv36 : Tl := ⟨fun q => match q with | 0 => some [0, 1, 12, 13] | _ => none, []⟩
def lv21 : Tl := ⟨fun q => match q with | 0 => some [0, 2, 4, 5, 6] | _ => none, []⟩
def G15 : Sums := sums all [(16, Fmay), (18, F18), (29, F29), (30, F30), (31, F31), (32, F32), (28, F28)]
theorem all15 : AllOk Try.prog [(16, Fmay), (18, F18), (29, F29), (30, F30), (31, F31), (32, F32), (28, F28)] := ⟨F16_ok, F18_ok, F29_ok, F30_ok, F31_ok, F32_ok, F28_ok, trivial⟩
theorem of_0 {R : Type} (L : Nat → St → (Exit → St → Option R) → Option R) (K : KV R) (x : XV) : runX Try.prog G15 lv15 Try.f15 0 L [.dat XT x] [] K = bif !mayV x then K AV.nils [] else ck (ByteArray.size (Prod.snd x) < (100000 : Nat)) (ck ((4 : Int) = (4 : Int) ∧ (0 : Int) ≤ (↑(hashv x) : Int) ∧ (↑(hashv x) : Int) < (65536 : Int)) (ck ((2 : Int) = (2 : Int) ∧ (0 : Int) ≤ (↑(ByteArray.size (Prod.snd x)) : Int) ∧ (↑(ByteArray.size (Prod.snd x)) : Int) < (256 : Int)) (ck ((1 : Int) = (1 : Int) ∧ (0 : Int) ≤ Prod.fst x ∧ Prod.fst x < (16 : Int)) (ck (ByteArray.size (Prod.snd x) ≤ limit) (L (0 : Nat) (St.mk [((3 : Nat), AV.view (0 : Nat)), ((23 : Nat), AV.view (1 : Nat)), ((24 : Nat), AV.dat (T.int IntKind.i64) (↑(List.length (bytesOf (Prod.snd x))) : Int)), ((25 : Nat), AV.dat (T.int IntKind.i64) (0 : Int))] [AO.row (5 : Nat) (T.int IntKind.u8) ([(↑(hashv x) : Int) / (4096 : Int), (↑(hashv x) : Int) / (256 : Int) % (16 : Int), (↑(hashv x) : Int) / (16 : Int) % (16 : Int), (↑(hashv x) : Int) % (16 : Int)] ++ [(↑(ByteArray.size (Prod.snd x)) : Int) / (16 : Int), (↑(ByteArray.size (Prod.snd x)) : Int) % (16 : Int)] ++ [Prod.fst x]) Md.own, AO.row (5 : Nat) (T.int IntKind.u8) (bytesOf (Prod.snd x)) Md.fz]) (endX Try.prog G15 lv15 Try.f15 (0 : Nat) L K (0 : Nat))))))) := by kernel_rfl
def G20 : Sums := sums all [(17, Fmay), (19, F19)]
theorem all20 : AllOk Try.prog [(17, Fmay), (19, F19)] := ⟨F17_ok, F19_ok, trivial⟩
theorem rof_0 {R : Type} (L : Nat → St → (Exit → St → Option R) → Option R) (K : KV R) (x : XV) : runX Try.prog G20 lv20 Try.f20 0 L [.dat XT x] [] K = bif !mayV x then K AV.nils [] else ck (ByteArray.size (Prod.snd x) < 100000) (L 0 (St.mk [(1, AV.ptr 0 []), (4, AV.dat (T.int IntKind.i64) (↑(ByteArray.size (Prod.snd x)) : Int)), (5, AV.view 1), (6, AV.dat (T.int IntKind.i64) 0)] [AO.box 29 (AV.dat (T.pair (T.int IntKind.i64) T.str) x) true, AO.row 5 (T.int IntKind.u8) [IntKind.wrap IntKind.u8 (IntKind.wrap IntKind.i64 (Int.tdiv (↑(hashv x) : Int) 4096)), IntKind.wrap IntKind.u8 (Int.tmod (IntKind.wrap IntKind.i64 (Int.tdiv (↑(hashv x) : Int) 256)) 16), IntKind.wrap IntKind.u8 (Int.tmod (IntKind.wrap IntKind.i64 (Int.tdiv (↑(hashv x) : Int) 16)) 16), IntKind.wrap IntKind.u8 (Int.tmod (↑(hashv x) : Int) 16), IntKind.wrap IntKind.u8 (IntKind.wrap IntKind.i64 (Int.tdiv (↑(ByteArray.size (Prod.snd x)) : Int) 16)), IntKind.wrap IntKind.u8 (Int.tmod (↑(ByteArray.size (Prod.snd x)) : Int) 16), IntKind.wrap IntKind.u8 (Prod.fst x)] Md.own]) (endX Try.prog G20 lv20 Try.f20 0 L K 0)) := by kernel_rfl
theorem of_s {R : Type} (L L0 : Nat → St → (Exit → St → Option R) → Option R) (K : KV R) (o b : List Int) (m i : Int) : stepX Try.prog G15 lv15 0 (codeOf Try.f15) L 0 ⟨[(3, .view 0), (23, .view 1), (24, .dat I64 m), (25, .dat I64 i)], [.row 5 U8 o .own, .row 5 U8 b .fz]⟩ (endX Try.prog G15 lv15 Try.f15 0 L0 K 0) = bif decide (i < m) then ck ((0 : Int) ≤ i ∧ i < (↑(List.length b) : Int)) (Option.bind b[Int.toNat i]? fun x ↦ ck ((2 : Int) = (2 : Int) ∧ (0 : Int) ≤ x ∧ x < (256 : Int)) (ck ((List.length o + (2 : Nat)) * (1 : Nat) ≤ limit) (L (0 : Nat) (St.mk [((3 : Nat), AV.view (0 : Nat)), ((23 : Nat), AV.view (1 : Nat)), ((24 : Nat), AV.dat (T.int IntKind.i64) m), ((25 : Nat), AV.dat (T.int IntKind.i64) (IntKind.wrap IntKind.i64 (i + (1 : Int))))] [AO.row (5 : Nat) (T.int IntKind.u8) (o ++ [x / (16 : Int), x % (16 : Int)]) Md.own, AO.row (5 : Nat) (T.int IntKind.u8) b Md.fz]) (endX Try.prog G15 lv15 Try.f15 (0 : Nat) L0 K (0 : Nat))))) else K (AV.view (0 : Nat)) [AO.row (5 : Nat) (T.int IntKind.u8) o Md.own] := by kernel_rfl
theorem rof_s {R : Type} (L L0 : Nat → St → (Exit → St → Option R) → Option R) (K : KV R) (x : XV) (o : List Int) (m i : Int) : stepX Try.prog G20 lv20 0 (codeOf Try.f20) L 0 ⟨[(1, .ptr 0 []), (4, .dat I64 m), (5, .view 1), (6, .dat I64 i)], [.box 29 (.dat XT x) true, .row 5 U8 o .own]⟩ (endX Try.prog G20 lv20 Try.f20 0 L0 K 0) = bif decide (i < m) then ck (0 ≤ i ∧ i < (↑(ByteArray.size (Prod.snd x)) : Int)) (Option.bind (bytesOf (Prod.snd x))[Int.toNat i]? fun x_1 ↦ ck (0 ≤ i ∧ i < (↑(ByteArray.size (Prod.snd x)) : Int)) (Option.bind (bytesOf (Prod.snd x))[Int.toNat i]? fun x_2 ↦ ck ((List.length o + 2) * 1 ≤ limit) (L 0 (St.mk [(1, AV.ptr 0 []), (4, AV.dat (T.int IntKind.i64) m), (5, AV.view 1), (6, AV.dat (T.int IntKind.i64) (IntKind.wrap IntKind.i64 (i + 1)))] [AO.box 29 (AV.dat (T.pair (T.int IntKind.i64) T.str) x) true, AO.row 5 (T.int IntKind.u8) (o ++ [IntKind.wrap IntKind.u8 (Int.tdiv x_1 16), Int.tmod x_2 16]) Md.own]) (endX Try.prog G20 lv20 Try.f20 0 L0 K 0)))) else K (AV.view 0) [AO.row 5 (T.int IntKind.u8) o Md.own] := by kernel_rfl
theorem eq_vv {R : Type} (L : Nat → St → (Exit → St → Option R) → Option R) (K : KV R) (a b : List Int) : runX Try.prog G33 lv36 Try.f36 2 L [.view 0, .view 1] [.row 5 U8 a .own, .row 5 U8 b .own] K = bif !decide ((↑(List.length a) : Int) = (↑(List.length b) : Int)) then K (AV.dat T.bool false) [AO.row 5 (T.int IntKind.u8) a Md.own, AO.row 5 (T.int IntKind.u8) b Md.own] else L 0 (St.mk [(0, AV.view 0), (1, AV.view 1), (12, AV.dat (T.int IntKind.i64) (↑(List.length a) : Int)), (13, AV.dat (T.int IntKind.i64) 0)] [AO.row 5 (T.int IntKind.u8) a Md.own, AO.row 5 (T.int IntKind.u8) b Md.own]) (endX Try.prog G33 lv36 Try.f36 2 L K 0) := by kernel_rfl
theorem eq_s {R : Type} (L L0 : Nat → St → (Exit → St → Option R) → Option R) (K : KV R) (a b : List Int) (m i : Int) : stepX Try.prog G33 lv36 2 (codeOf Try.f36) L 0 ⟨[(0, .view 0), (1, .view 1), (12, .dat I64 m), (13, .dat I64 i)], [.row 5 U8 a .own, .row 5 U8 b .own]⟩ (endX Try.prog G33 lv36 Try.f36 2 L0 K 0) = bif decide (i < m) then ck (0 ≤ i ∧ i < (↑(List.length a) : Int)) (Option.bind a[Int.toNat i]? fun x ↦ ck (0 ≤ i ∧ i < (↑(List.length b) : Int)) (Option.bind b[Int.toNat i]? fun x_1 ↦ bif !decide (x = x_1) then K (AV.dat T.bool false) [AO.row 5 (T.int IntKind.u8) a Md.own, AO.row 5 (T.int IntKind.u8) b Md.own] else L 0 (St.mk [(0, AV.view 0), (1, AV.view 1), (12, AV.dat (T.int IntKind.i64) m), (13, AV.dat (T.int IntKind.i64) (IntKind.wrap IntKind.i64 (i + 1)))] [AO.row 5 (T.int IntKind.u8) a Md.own, AO.row 5 (T.int IntKind.u8) b Md.own]) (endX Try.prog G33 lv36 Try.f36 2 L0 K 0))) else K (AV.dat T.bool true) [AO.row 5 (T.int IntKind.u8) a Md.own, AO.row 5 (T.int IntKind.u8) b Md.own] := by kernel_rfl
end Go.Mx
