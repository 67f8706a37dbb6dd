/- Own work. A part of the proof of a law of this seat: The walk library: what is of no program. -/
import Derived.Test.YtmljbiijlljhfaaSx12
import Derived.Lib.Builder
import Derived.Lib.UnsafeStr
namespace Go.Sx
open Go Go.RowKit

/-! ### strings.Builder -/
/-- A builder of the call's own that holds these bytes. -/
def Bd (T e : TypeId) (B b : Nat) (xs : List Int) (w : World) : Prop := Lib.IsBuilder T e B b (xs.map (Value.int .u8)) w ∧ ∀ x ∈ xs, 0 ≤ x ∧ x < 256
section
variable {P : Program} {T e : TypeId} {B b : Nat} {xs : List Int} {w w' : World}
theorem Bd.new (h : Bx w b T [.pointer none, .slice none 0 0]) (hB : B ≤ b) (e : TypeId) : Bd T e B b [] w :=
  ⟨.inl ⟨hB, .slice none 0 0, h, World.ownsRow_nil w B e 1, by simp [Value.ownBlock]⟩, fun _ h => by cases h⟩
theorem bd_write {f : FuncId} {c : Int} (hc : ∀ (B b : Nat) (bs : List Value) (c : Int) (w : World), Lib.IsBuilder T e B b bs w → bs.length + 1 ≤ 140737488355328 → B ≤ w.heap.size → Calls P f #[.pointer (some ⟨b, 0, none⟩), .int .u8 c] w fun e' w' => e' = .returned .nilIface ∧ (Lib.BuilderAt T e B b (.pointer (some ⟨b, 0, none⟩)) (bs ++ [.int .u8 c]) w' ∧ Below B w w'))
    (h : Bd T e B b xs w) (h0 : 0 ≤ c ∧ c < 256) (hl : xs.length + 1 ≤ 140737488355328) (hB : B ≤ w.heap.size) :
    Calls P f [.pointer (some ⟨b, 0, none⟩), .int .u8 c].toArray w (Ret fun v w' => v = .nilIface ∧ Bd T e B b (xs ++ [c]) w' ∧ Below B w w') := by
  refine (hc B b _ c w h.1 (by simpa using hl) hB).mono ?_
  rintro e' w' ⟨rfl, h1, h2⟩
  refine ⟨rfl, ⟨.inr (by simpa using h1), fun x hx => ?_⟩, h2⟩
  rcases List.mem_append.1 hx with hx | hx
  · exact h.2 x hx
  · simp at hx; rw [hx]; exact h0
theorem bytes_back (h : ∀ x ∈ xs, 0 ≤ x ∧ x < 256) : xs.map (Value.int .u8) = Lib.byteCells (xs.map fun x => x.toNat.toUInt8) := by
  unfold Lib.byteCells
  rw [List.map_map]
  refine List.map_congr_left (fun x hx => ?_)
  have := h x hx
  simp only [Function.comp]
  congr 1
  have h2 : x.toNat < 256 := by omega
  simp [Nat.mod_eq_of_lt h2]
  omega
theorem bd_string {f : FuncId} (hc : ∀ (B b : Nat) (l : List UInt8) (w : World), Lib.IsBuilder T e B b (Lib.byteCells l) w → B ≤ w.heap.size → Calls P f #[.pointer (some ⟨b, 0, none⟩)] w fun e w' => e = .returned (.string ⟨l.toArray⟩) ∧ Below B w w')
    (h : Bd T e B b xs w) (hB : B ≤ w.heap.size) :
    Calls P f [.pointer (some ⟨b, 0, none⟩)].toArray w (Ret fun v w' => v = .string (strOf xs) ∧ Below B w w') := by
  refine (hc B b (xs.map fun x => x.toNat.toUInt8) w (by rw [← bytes_back h.2]; exact h.1) hB).mono ?_
  rintro e' w' ⟨rfl, h2⟩
  exact ⟨rfl, h2⟩
theorem Ex.below {S0 : Nat → Prop} {w0 : World} (h : Ex w0 S0 [] w) (hb : Below w0.heap.size w w') : Ex w0 S0 [] w' :=
  ⟨⟨hb.os.trans h.fr.os, hb.tape.trans h.fr.tape, hb.output.trans h.fr.output, Nat.le_trans h.fr.size hb.size, fun k hk hn => (hb.block k hk).trans (h.fr.blk k hk hn)⟩, .nil, (fun _ h => by cases h), (fun _ h => by cases h)⟩
/-- What was there when the call began is as it was. -/
theorem Raw.again {α : Type} {kd : Kd α} {A : Nat → Prop} {p : Option Addr} {c : Nat} {xs : List α} {w0 : World} (r : Raw A kd w0.heap p c xs) (h : Ex w0 (Av [] No) [] w) : Raw A kd w.heap p c xs :=
  r.step h.fr.size (fun k hk _ => h.fr.blk k hk (fun hv => by rcases hv with hv | ⟨_, hv, _⟩; exact hv; cases hv))
end
section
variable {P : Program} {a : Act} {w : World} {n : Nat} {l : List (Nat × Value)}
variable {d : Option Nat} {ty T T' : TypeId} {pos : String} {af : Array Edge} {g : Option (Nat × Bool)} {x y : Operand}
theorem d_ptrneSelf {q : Addr} {e : TypeId} (ha : Has n l a) (hT : P.underlying T = some (.pointer e)) (hi : (P.info? e).isSome = true) (hx : ev l x = some (.pointer (some q))) (hy : ev l y = some (.pointer (some q))) : Does P ⟨d, .binOp .neq T x y T', ty, pos, af, g⟩ a w (Is (.bool false) w) :=
  d_bin ha hx hy guard_ptr (by obtain ⟨j, hj⟩ := Option.isSome_iff_exists.1 hi; exact Lib.run_neq_ptr_same w q hT hj)
theorem d_toUnsafe {src dst t TB : TypeId} {s : Nat} {b : Nat} {cs : List Value} (ha : Has n l a) (hs : P.underlying src = some (.pointer t)) (hd : P.underlying dst = some .unsafePointer) (ht : (P.info? t).map (·.size) = some s) (hj : s ≠ 0) (hx : ev l x = some (.pointer (some ⟨b, 0, none⟩))) (hb : Bx w b TB cs) (hc : 0 < cs.length) :
    Does P ⟨d, .convert src dst x, ty, pos, af, g⟩ a w (Is (.pointer (some ⟨b, 0, none⟩)) w) := by
  obtain ⟨j, hj2, rfl⟩ := Option.map_eq_some_iff.1 ht
  exact Does.val (by simp [execOp, ha.ev hx, Lib.run_to_unsafe w ⟨b, 0, none⟩ hs hd hj2 hj (e := TB) (cells := cs.length) (by unfold Bx at hb; simp [World.shape?, hb]) hc])
theorem d_fromUnsafe {src dst u TB : TypeId} {b : Nat} {cs : List Value} (ha : Has n l a) (hs : P.underlying src = some .unsafePointer) (hd : P.underlying dst = some (.pointer u)) (hu : (P.info? u).isSome = true) (hx : ev l x = some (.pointer (some ⟨b, 0, none⟩))) (hb : Bx w b TB cs) (hl : liesAt P P.depth TB (cs.length / P.cellsOf TB) 0 u 1 = true) :
    Does P ⟨d, .convert src dst x, ty, pos, af, g⟩ a w (Is (.pointer (some ⟨b, 0, none⟩)) w) := by
  obtain ⟨j, hu⟩ := Option.isSome_iff_exists.1 hu
  exact Does.val (by simp [execOp, ha.ev hx, Lib.run_from_unsafe w ⟨b, 0, none⟩ hs hd hu (e := TB) (cells := cs.length) (by unfold Bx at hb; simp [World.shape?, hb]) hl])
theorem d_noEscape {f : FuncId} {fn : Func} {v : Value} {Ts : Array TypeId} (hf : P.funcs[f]? = some fn) (hname : (fn.name == "runtime.NumGoroutine") = false) (hb : fn.body.isNone = true) (hn : Extern.findNext fn = none) (he : Extern.find fn = some Extern.AbiNoEscape.same) (ha : Has n l a) (hx : ev l x = some v) :
    Does P ⟨d, .call { callee := .value (.func f), args := [x].toArray, argTypes := Ts }, ty, pos, af, g⟩ a w (Is v w) :=
  Does.val (by simp [execOp, resolve, Deferred.ofValue, Act.eval, invoke, evs ha [x] [v] (by simp [hx]), run_callFunc_extern hf hname hb hn he, Lib.run_noEscape])
/-- The builder, of one's own, as the library's contracts tell it. -/
theorem Bd.mk {TB e : TypeId} {b : Nat} {q p : Option Addr} {c : Nat} {xs : List Int} {A : Nat → Prop} {w0 : World} {rs : List (Option Addr)} (h : Bx w b TB [.pointer q, .slice p xs.length c]) (hq : q = none ∨ q = some ⟨b, 0, none⟩) (o : Ow A w e (Kd.int .u8) p c xs) (hE : Ex w0 (Av [] No) rs w) (i j : Nat) (hi : rs[i]? = some (some ⟨b, 0, none⟩)) (hj : rs[j]? = some p) (hij : i ≠ j) (hr : ∀ x ∈ xs, 0 ≤ x ∧ x < 256) :
    Bd TB e w0.heap.size b xs w := by
  have hnew : ∀ {k : Nat} {u : Option Addr}, rs[k]? = some u → ∀ s, u = some s → w0.heap.size ≤ s.block := by
    intro k u hk s hs
    rcases hE.nw s (mem_at hk hs) with h | h
    · exact h
    · rcases h with h | ⟨_, h, _⟩
      · exact h.elim
      · cases h
  obtain ⟨cells, h1, h2⟩ := o
  have hce : cells = xs.map (Value.int .u8) := els_enc h2
  subst hce
  have hown : w.ownsRow w0.heap.size e 1 (.slice p xs.length c) (xs.map (Value.int .u8)).length (xs.map (Value.int .u8)) := by
    rw [List.length_map]
    refine ⟨h1.1, ?_⟩
    rcases h1.2 with h | ⟨g, cap, cur, hv, hg, r⟩
    · exact .inl h
    · refine .inr ⟨g, cap, cur, hv, ?_, r⟩
      simp only [Value.slice.injEq] at hv
      exact hnew hj _ hv.1
  have hne : Value.ownBlock (.slice p xs.length c) ≠ some b := by
    intro hb
    cases p with
    | none => simp [Value.ownBlock] at hb
    | some s =>
      simp [Value.ownBlock] at hb
      exact hE.off i j hi hj hij s rfl ⟨_, rfl, hb.symm⟩
  refine ⟨?_, hr⟩
  have hB := hnew hi _ rfl
  rcases hq with rfl | rfl
  · exact .inl ⟨hB, _, h, hown, hne⟩
  · exact .inr ⟨hB, _, h, hown, hne⟩
theorem Ex.only {w0 w' : World} {rs : List (Option Addr)} {S0 : Nat → Prop} (h : Ex w0 S0 rs w) (h0 : ∀ k, ¬ S0 k) (hb : Below w0.heap.size w w') : Ex w0 S0 [] w' :=
  ⟨⟨hb.os.trans h.fr.os, hb.tape.trans h.fr.tape, hb.output.trans h.fr.output, Nat.le_trans h.fr.size hb.size, fun k hk _ => (hb.block k hk).trans (h.fr.blk k hk (h0 k))⟩, .nil, (fun _ h => by cases h), (fun _ h => by cases h)⟩
theorem no_av (k : Nat) : ¬ Av [] No k := fun h => by
  rcases h with h | ⟨_, h, _⟩
  · exact h
  · cases h
end
end Go.Sx
