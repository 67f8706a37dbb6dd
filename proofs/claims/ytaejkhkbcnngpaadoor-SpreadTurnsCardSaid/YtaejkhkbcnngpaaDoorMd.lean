/- Own work. A part of the proof of a law of this seat: the abstract machine and its soundness. -/
import Derived.Test.YtaejkhkbcnngpaaDoorMc
import Derived.Test.YtaejkhkbcnngpaaDoorMb
import Derived.Lib.Builder
import Derived.Lib.UnsafeStr
import Derived.ChangeKeysEq
import Derived.Carry
import Derived.MapKept
set_option linter.unusedVariables false
set_option linter.unusedSimpArgs false
set_option linter.unusedSectionVars false
namespace Go.Mx
open Go Go.RowKit Go.Sx
variable [Glb]
section
variable {R : Type} {P : Program} {W : Nat → Prop} {S : List AO} {ρ : Nat → Geo} {w : World} {a : Act}
variable {d : Option Nat} {ty T' T2 : TypeId} {pos : String} {af : Array Edge} {g : Option (Nat × Bool)} {y z : Operand} {K : KV R} {r : R}
theorem part_run {x : Cx} {t : TypeId} {u : AV} {us cs : List Value} {o : Nat} (ho : loadOk P t u = true) (hc : CR x u us) (hs : ∀ j c, us[j]? = some c → cs[o + j]? = some c) (w : World) : (part t cs.toArray o).run P w = .ok (form u.isAgg us) w := by
  obtain ⟨h1, h2⟩ := loadOk_ok ho
  cases hg : u.isAgg with
  | true =>
    rw [hg] at h1
    have hl := cr_len hc
    have hsz := run_size (h2 hg) (P := P)
    simp only [part, Sem.run_bind, run_agg h1, Result.andThen_ok, if_true, hsz, Sem.run_pure]
    congr 2
    apply Array.ext'
    rw [Array.toList_extract]
    apply List.ext_getElem?
    intro k
    show (List.extract cs o (o + u.sz))[k]? = us[k]?
    rw [List.extract_eq_take_drop, List.getElem?_take, List.getElem?_drop]
    by_cases hk : k < u.sz
    · rw [if_pos (by omega)]
      rw [List.getElem?_eq_getElem (l := us) (by omega)]
      exact hs k _ (List.getElem?_eq_getElem (by omega))
    · rw [if_neg (by omega), List.getElem?_eq_none (by omega)]
  | false =>
    rw [hg] at h1
    have hl1 : us.length = 1 := by rw [cr_len hc]; exact agg_sz hc hg
    obtain ⟨c, rfl⟩ : ∃ c, us = [c] := List.length_eq_one_iff.1 hl1
    have := hs 0 c rfl
    rw [Nat.add_zero] at this
    simp [part, run_agg h1, this, form]
theorem index_ok {v : AV} {k : IntKind} {i : Int} (h : Rel W S ρ w) (hd : a.defers = []) (hy : VR (cx W S ρ w) v (a.eval y)) (hz : a.eval z = .int k i) (hK : indexA P T' v i S K = some r) : Comes P W S ρ w ⟨d, .index T' y z, ty, pos, af, g⟩ a K r := by
  unfold indexA at hK
  split at hK
  · rename_i s
    have ey := vr_str hy
    split at hK
    · rename_i hT
      obtain ⟨h0, hK⟩ := ck_elim hK
      obtain ⟨b, hb, hK⟩ := bind_elim hK
      have ha := bnd_has (a := a) (Op1 y + Op1 z) hd
      refine Comes.is h (d_strIndex ha hT (by rw [bnd_ev (by omega), ey]) (by rw [bnd_ev (by omega), hz]) h0) hK ?_
      rw [List.getD_eq_getElem?_getD, hb]
      exact vr_intI _ _
    · cases hK
  · rename_i m t xs
    split at hK
    · rename_i n e hu
      cases hk : szOk P e t.sz with
      | false => rw [hk] at hK; cases hK
      | true =>
        rw [hk] at hK
        obtain ⟨h0, hK⟩ := ck_elim hK
        obtain ⟨z', hz', hK⟩ := bind_elim hK
        obtain ⟨hi, rfl⟩ := List.getElem?_eq_some_iff.1 hz'
        cases ho : loadOk P e (.dat t xs[i.toNat]) with
        | false => rw [ho] at hK; cases hK
        | true =>
          rw [ho] at hK
          obtain ⟨cs, hr, ey⟩ := vr_dat hy
          have hr : xs.length = m ∧ Els (t.kd.K (cx W S ρ w).A (cx W S ρ w).h) xs cs := hr
          obtain ⟨c, hKc, hg⟩ := hr.2.get (fun _ _ h => kd_len h) i.toNat hi
          have hp := part_run (P := P) (o := i.toNat * t.sz) ho (cr_dat.2 hKc) hg w
          have ey : a.eval y = .agg cs.toArray := ey
          refine Comes.is h (Does.val ?_) hK (cr_vr (cr_dat.2 hKc))
          simp only [execOp, ey, hz, Instr.index, asIntOf, Sem.run_bind, Sem.run_pure, Result.andThen_ok, run_underlying hu, h0, and_self, if_true, run_size hk, hp]
    · cases hK
  · cases hK
theorem field_ok {i : Nat} {v : AV} (h : Rel W S ρ w) (hy : VR (cx W S ρ w) v (a.eval y)) (hK : (match some v, fldsteps P T' i with
    | some v, some st => cond (fldOk P T' i st && v.isAgg) (match fldTyp P T' i with
      | some ft => getK v st fun u => cond (loadOk P ft u) (K u S) none
      | none => none) none
    | _, _ => none) = some r) : Comes P W S ρ w ⟨d, .field T' y i, ty, pos, af, g⟩ a K r := by
  split at hK
  · rename_i v' st hv hst
    obtain rfl := Option.some.inj hv
    cases hf : fldOk P T' i st && v.isAgg with
    | false => rw [hf] at hK; cases hK
    | true =>
      rw [hf, cond_true] at hK
      rw [Bool.and_eq_true] at hf
      obtain ⟨fs, f, j, h1, h2, h3, h4, s, h5⟩ := fldOk_ok hf.1
      have hft : fldTyp P T' i = some f.type := by unfold fldTyp; rw [h1]; simp only [h2]
      rw [hft] at hK
      have hp : v.plain = true := by cases v <;> first | rfl | cases hf.2
      obtain ⟨cs, hc, ey⟩ := vr_cr hy hp
      obtain ⟨u, us, k1, k2, k3, k4⟩ := getK_ok st v cs hK hc (cr_len hc)
      cases ho : loadOk P f.type u with
      | false => rw [ho] at k1; cases k1
      | true =>
        rw [ho] at k1
        rw [h3] at k4
        have hpr := part_run (P := P) ho k2 k4 w
        rw [hf.2] at ey
        have ey : a.eval y = .agg cs.toArray := ey
        refine Comes.is h (Does.val ?_) k1 (cr_vr k2)
        simp [execOp, ey, Instr.field, run_underlying h1, h2, asAgg, hpr]
  · cases hK
theorem slen_ok {v : AV} {n : Nat} (h : Rel W S ρ w) (hy : VR (cx W S ρ w) v (a.eval y)) (hn : slen S v = some n) : ∃ q c, a.eval y = .slice q n c := by
  unfold slen at hn
  split at hn
  · obtain rfl := Option.some.inj hn
    obtain ⟨cs, hr, e⟩ := vr_dat hy
    obtain ⟨q, c, e2, _⟩ := hr
    exact ⟨q, c, by rw [e, e2]; rfl⟩
  · obtain rfl := Option.some.inj hn
    obtain ⟨cs, e, hc, _⟩ := hy
    rw [CR] at hc
    obtain ⟨p, c, e2, _⟩ := hc
    exact ⟨some p, c, by rw [e, e2]; rfl⟩
  · obtain rfl := Option.some.inj hn
    exact ⟨none, 0, vr_nils hy⟩
  · obtain rfl := Option.some.inj hn
    obtain ⟨cs, e, hc, _⟩ := hy
    rw [CR] at hc
    obtain ⟨q, e2⟩ := hc
    exact ⟨q, 0, by rw [e, e2]; rfl⟩
  · obtain rfl := Option.some.inj hn
    obtain ⟨cs, e, hc, _⟩ := hy
    rw [CR] at hc
    obtain ⟨q, _, e2⟩ := hc
    exact ⟨none, q, by rw [e, e2]; rfl⟩
  · split at hn
    · rename_i hi
      obtain rfl := Option.some.inj hn
      obtain ⟨cs, e, hc, _⟩ := hy
      rw [CR] at hc
      obtain ⟨g1, _⟩ := row_lies h hi
      exact ⟨_, _, by rw [e, hc.2, ← g1]; rfl⟩
    · cases hn
  · obtain rfl := Option.some.inj hn
    obtain ⟨cs, e, hc, _⟩ := hy
    rw [CR] at hc
    exact ⟨_, _, by rw [e, hc.2.2]; rfl⟩
  · obtain rfl := Option.some.inj hn
    obtain ⟨cs, e, hc, _⟩ := hy
    rw [CR] at hc
    exact ⟨_, _, by rw [e, hc.2.2]; rfl⟩
  · obtain rfl := Option.some.inj hn
    obtain ⟨cs, e, hc, _⟩ := hy
    rw [CR] at hc
    obtain ⟨_, _, q, c, _, _, _, e2⟩ := hc
    exact ⟨q, c, by rw [e, e2]; rfl⟩
  · cases hn
end
end Go.Mx
namespace Go.Sx
open Go Go.RowKit
def Bd (T e : TypeId) (B b : Nat) (xs : List Int) (w : World) : Prop := Lib.IsBuilder T e B b (xs.map (Value.int .u8)) w ∧ ∀ x ∈ xs, 0 ≤ x ∧ x < 256
section
variable {P : Program} {T e : TypeId} {B b : Nat} {xs : List Int} {w w' : World}
theorem Bd.new (h : Bx w b T [.pointer none, .slice none 0 0]) (hB : B ≤ b) (e : TypeId) : Bd T e B b [] w :=
  ⟨.inl ⟨hB, .slice none 0 0, h, World.ownsRow_nil w B e 1, by simp [Value.ownBlock]⟩, fun _ h => by cases h⟩
theorem bd_write {f : FuncId} {c : Int} (hc : ∀ (B b : Nat) (bs : List Value) (c : Int) (w : World), Lib.IsBuilder T e B b bs w → bs.length + 1 ≤ 140737488355328 → B ≤ w.heap.size → Calls P f #[.pointer (some ⟨b, 0, none⟩), .int .u8 c] w fun e' w' => e' = .returned .nilIface ∧ (Lib.BuilderAt T e B b (.pointer (some ⟨b, 0, none⟩)) (bs ++ [.int .u8 c]) w' ∧ Below B w w'))
    (h : Bd T e B b xs w) (h0 : 0 ≤ c ∧ c < 256) (hl : xs.length + 1 ≤ 140737488355328) (hB : B ≤ w.heap.size) :
    Calls P f [.pointer (some ⟨b, 0, none⟩), .int .u8 c].toArray w (Ret fun v w' => v = .nilIface ∧ Bd T e B b (xs ++ [c]) w' ∧ Below B w w') := by
  refine (hc B b _ c w h.1 (by simpa using hl) hB).mono ?_
  rintro e' w' ⟨rfl, h1, h2⟩
  refine ⟨rfl, ⟨.inr (by simpa using h1), fun x hx => ?_⟩, h2⟩
  rcases List.mem_append.1 hx with hx | hx
  · exact h.2 x hx
  · simp at hx; rw [hx]; exact h0
theorem bytes_back (h : ∀ x ∈ xs, 0 ≤ x ∧ x < 256) : xs.map (Value.int .u8) = Lib.byteCells (xs.map fun x => x.toNat.toUInt8) := by
  unfold Lib.byteCells
  rw [List.map_map]
  refine List.map_congr_left (fun x hx => ?_)
  have := h x hx
  simp only [Function.comp]
  congr 1
  have h2 : x.toNat < 256 := by omega
  simp [Nat.mod_eq_of_lt h2]
  omega
theorem bd_string {f : FuncId} (hc : ∀ (B b : Nat) (l : List UInt8) (w : World), Lib.IsBuilder T e B b (Lib.byteCells l) w → B ≤ w.heap.size → Calls P f #[.pointer (some ⟨b, 0, none⟩)] w fun e w' => e = .returned (.string ⟨l.toArray⟩) ∧ Below B w w')
    (h : Bd T e B b xs w) (hB : B ≤ w.heap.size) :
    Calls P f [.pointer (some ⟨b, 0, none⟩)].toArray w (Ret fun v w' => v = .string (strOf xs) ∧ Below B w w') := by
  refine (hc B b (xs.map fun x => x.toNat.toUInt8) w (by rw [← bytes_back h.2]; exact h.1) hB).mono ?_
  rintro e' w' ⟨rfl, h2⟩
  exact ⟨rfl, h2⟩
theorem Ex.below {S0 : Nat → Prop} {w0 : World} (h : Ex w0 S0 [] w) (hb : Below w0.heap.size w w') : Ex w0 S0 [] w' :=
  ⟨⟨hb.os.trans h.fr.os, hb.tape.trans h.fr.tape, hb.output.trans h.fr.output, Nat.le_trans h.fr.size hb.size, fun k hk hn => (hb.block k hk).trans (h.fr.blk k hk hn)⟩, .nil, (fun _ h => by cases h), (fun _ h => by cases h)⟩
theorem Raw.again {α : Type} {kd : Kd α} {A : Nat → Prop} {p : Option Addr} {c : Nat} {xs : List α} {w0 : World} (r : Raw A kd w0.heap p c xs) (h : Ex w0 (Av [] No) [] w) : Raw A kd w.heap p c xs :=
  r.step h.fr.size (fun k hk _ => h.fr.blk k hk (fun hv => by rcases hv with hv | ⟨_, hv, _⟩; exact hv; cases hv))
end
section
variable {P : Program} {a : Act} {w : World} {n : Nat} {l : List (Nat × Value)}
variable {d : Option Nat} {ty T T' : TypeId} {pos : String} {af : Array Edge} {g : Option (Nat × Bool)} {x y : Operand}
theorem d_ptrneSelf {q : Addr} {e : TypeId} (ha : Has n l a) (hT : P.underlying T = some (.pointer e)) (hi : (P.info? e).isSome = true) (hx : ev l x = some (.pointer (some q))) (hy : ev l y = some (.pointer (some q))) : Does P ⟨d, .binOp .neq T x y T', ty, pos, af, g⟩ a w (Is (.bool false) w) :=
  d_bin ha hx hy guard_ptr (by obtain ⟨j, hj⟩ := Option.isSome_iff_exists.1 hi; exact Lib.run_neq_ptr_same w q hT hj)
theorem d_toUnsafe {src dst t TB : TypeId} {s : Nat} {b : Nat} {cs : List Value} (ha : Has n l a) (hs : P.underlying src = some (.pointer t)) (hd : P.underlying dst = some .unsafePointer) (ht : (P.info? t).map (·.size) = some s) (hj : s ≠ 0) (hx : ev l x = some (.pointer (some ⟨b, 0, none⟩))) (hb : Bx w b TB cs) (hc : 0 < cs.length) :
    Does P ⟨d, .convert src dst x, ty, pos, af, g⟩ a w (Is (.pointer (some ⟨b, 0, none⟩)) w) := by
  obtain ⟨j, hj2, rfl⟩ := Option.map_eq_some_iff.1 ht
  exact Does.val (by simp [execOp, ha.ev hx, Lib.run_to_unsafe w ⟨b, 0, none⟩ hs hd hj2 hj (e := TB) (cells := cs.length) (by unfold Bx at hb; simp [World.shape?, hb]) hc])
theorem d_fromUnsafe {src dst u TB : TypeId} {b : Nat} {cs : List Value} (ha : Has n l a) (hs : P.underlying src = some .unsafePointer) (hd : P.underlying dst = some (.pointer u)) (hu : (P.info? u).isSome = true) (hx : ev l x = some (.pointer (some ⟨b, 0, none⟩))) (hb : Bx w b TB cs) (hl : liesAt P P.depth TB (cs.length / P.cellsOf TB) 0 u 1 = true) :
    Does P ⟨d, .convert src dst x, ty, pos, af, g⟩ a w (Is (.pointer (some ⟨b, 0, none⟩)) w) := by
  obtain ⟨j, hu⟩ := Option.isSome_iff_exists.1 hu
  exact Does.val (by simp [execOp, ha.ev hx, Lib.run_from_unsafe w ⟨b, 0, none⟩ hs hd hu (e := TB) (cells := cs.length) (by unfold Bx at hb; simp [World.shape?, hb]) hl])
theorem d_noEscape {f : FuncId} {fn : Func} {v : Value} {Ts : Array TypeId} (hf : P.funcs[f]? = some fn) (hname : (fn.name == "runtime.NumGoroutine") = false) (hb : fn.body.isNone = true) (hn : Extern.findNext fn = none) (he : Extern.find fn = some Extern.AbiNoEscape.same) (ha : Has n l a) (hx : ev l x = some v) :
    Does P ⟨d, .call { callee := .value (.func f), args := [x].toArray, argTypes := Ts }, ty, pos, af, g⟩ a w (Is v w) :=
  Does.val (by simp [execOp, resolve, Deferred.ofValue, Act.eval, invoke, evs ha [x] [v] (by simp [hx]), run_callFunc_extern hf hname hb hn he, Lib.run_noEscape])
theorem Bd.mk {TB e : TypeId} {b : Nat} {q p : Option Addr} {c : Nat} {xs : List Int} {A : Nat → Prop} {w0 : World} {rs : List (Option Addr)} (h : Bx w b TB [.pointer q, .slice p xs.length c]) (hq : q = none ∨ q = some ⟨b, 0, none⟩) (o : Ow A w e (Kd.int .u8) p c xs) (hE : Ex w0 (Av [] No) rs w) (i j : Nat) (hi : rs[i]? = some (some ⟨b, 0, none⟩)) (hj : rs[j]? = some p) (hij : i ≠ j) (hr : ∀ x ∈ xs, 0 ≤ x ∧ x < 256) :
    Bd TB e w0.heap.size b xs w := by
  have hnew : ∀ {k : Nat} {u : Option Addr}, rs[k]? = some u → ∀ s, u = some s → w0.heap.size ≤ s.block := by
    intro k u hk s hs
    rcases hE.nw s (mem_at hk hs) with h | h
    · exact h
    · rcases h with h | ⟨_, h, _⟩
      · exact h.elim
      · cases h
  obtain ⟨cells, h1, h2⟩ := o
  have hce : cells = xs.map (Value.int .u8) := els_enc h2
  subst hce
  have hown : w.ownsRow w0.heap.size e 1 (.slice p xs.length c) (xs.map (Value.int .u8)).length (xs.map (Value.int .u8)) := by
    rw [List.length_map]
    refine ⟨h1.1, ?_⟩
    rcases h1.2 with h | ⟨g, cap, cur, hv, hg, r⟩
    · exact .inl h
    · refine .inr ⟨g, cap, cur, hv, ?_, r⟩
      simp only [Value.slice.injEq] at hv
      exact hnew hj _ hv.1
  have hne : Value.ownBlock (.slice p xs.length c) ≠ some b := by
    intro hb
    cases p with
    | none => simp [Value.ownBlock] at hb
    | some s =>
      simp [Value.ownBlock] at hb
      exact hE.off i j hi hj hij s rfl ⟨_, rfl, hb.symm⟩
  refine ⟨?_, hr⟩
  have hB := hnew hi _ rfl
  rcases hq with rfl | rfl
  · exact .inl ⟨hB, _, h, hown, hne⟩
  · exact .inr ⟨hB, _, h, hown, hne⟩
theorem Ex.only {w0 w' : World} {rs : List (Option Addr)} {S0 : Nat → Prop} (h : Ex w0 S0 rs w) (h0 : ∀ k, ¬ S0 k) (hb : Below w0.heap.size w w') : Ex w0 S0 [] w' :=
  ⟨⟨hb.os.trans h.fr.os, hb.tape.trans h.fr.tape, hb.output.trans h.fr.output, Nat.le_trans h.fr.size hb.size, fun k hk _ => (hb.block k hk).trans (h.fr.blk k hk (h0 k))⟩, .nil, (fun _ h => by cases h), (fun _ h => by cases h)⟩
theorem no_av (k : Nat) : ¬ Av [] No k := fun h => by
  rcases h with h | ⟨_, h, _⟩
  · exact h
  · cases h
end
end Go.Sx
namespace Go.Mx
open Go Go.RowKit Go.Sx
variable [Glb]
theorem nanB_read {b : Nat} (h : nanB b = true) : ∃ s f, Ieee.double.read b = .nan s f := by
  unfold nanB Ieee.Datum.isNaN at h
  split at h
  · exact ⟨_, _, by assumption⟩
  · cases h
theorem sum_nanl {s : Bool} {f : Nat} {y : Ieee.Datum} : (Ieee.Datum.nan s f).sum y = none := rfl
theorem sum_nanr {s : Bool} {f : Nat} {y : Ieee.Datum} : y.sum (Ieee.Datum.nan s f) = none := by cases y <;> rfl
theorem prod_nanl {s : Bool} {f : Nat} {y : Ieee.Datum} : (Ieee.Datum.nan s f).product y = none := rfl
theorem prod_nanr {s : Bool} {f : Nat} {y : Ieee.Datum} : y.product (Ieee.Datum.nan s f) = none := by cases y <;> rfl
theorem quo_nanl {s : Bool} {n f : Nat} {y : Ieee.Datum} : (Ieee.Datum.nan s f).quotient n y = none := rfl
theorem quo_nanr {s : Bool} {n f : Nat} {y : Ieee.Datum} : y.quotient n (Ieee.Datum.nan s f) = none := by cases y <;> rfl
theorem ord_nanl {s : Bool} {f : Nat} {y : Ieee.Datum} : (Ieee.Datum.nan s f).order y = none := rfl
theorem ord_nanr {s : Bool} {f : Nat} {y : Ieee.Datum} : y.order (Ieee.Datum.nan s f) = none := by cases y <;> rfl
def NanF {α : Type} (F : Nat → Nat → Option α) : Prop := (∀ x y, nanB x = true → F x y = none) ∧ ∀ x y, nanB y = true → F x y = none
theorem NanF.same {α : Type} {F : Nat → Nat → Option α} (h : NanF F) {a b x y : Nat} (h1 : SameF a x) (h2 : SameF b y) : F a b = F x y := by
  rcases h1 with rfl | h1
  · rcases h2 with rfl | h2
    · rfl
    · rw [h.2 _ _ h2.1, h.2 _ _ h2.2]
  · rw [h.1 _ _ h1.1, h.1 _ _ h1.2]
theorem nan_add : NanF Ieee.double.add :=
  ⟨fun x y h => by obtain ⟨s, f, e⟩ := nanB_read h; unfold Ieee.Format.add; rw [e, sum_nanl]; rfl, fun x y h => by obtain ⟨s, f, e⟩ := nanB_read h; unfold Ieee.Format.add; rw [e, sum_nanr]; rfl⟩
theorem nan_sub : NanF Ieee.double.sub :=
  ⟨fun x y h => by obtain ⟨s, f, e⟩ := nanB_read h; unfold Ieee.Format.sub; rw [e, sum_nanl]; rfl, fun x y h => by obtain ⟨s, f, e⟩ := nanB_read h; unfold Ieee.Format.sub; rw [e]; exact congrArg (Option.map _) sum_nanr⟩
theorem nan_mul : NanF Ieee.double.mul :=
  ⟨fun x y h => by obtain ⟨s, f, e⟩ := nanB_read h; unfold Ieee.Format.mul; rw [e, prod_nanl]; rfl, fun x y h => by obtain ⟨s, f, e⟩ := nanB_read h; unfold Ieee.Format.mul; rw [e, prod_nanr]; rfl⟩
theorem nan_div : NanF Ieee.double.div :=
  ⟨fun x y h => by obtain ⟨s, f, e⟩ := nanB_read h; unfold Ieee.Format.div; rw [e, quo_nanl]; rfl, fun x y h => by obtain ⟨s, f, e⟩ := nanB_read h; unfold Ieee.Format.div; rw [e, quo_nanr]; rfl⟩
theorem nan_ord : NanF Ieee.double.order :=
  ⟨fun x y h => by obtain ⟨s, f, e⟩ := nanB_read h; unfold Ieee.Format.order; rw [e, ord_nanl], fun x y h => by obtain ⟨s, f, e⟩ := nanB_read h; unfold Ieee.Format.order; rw [e, ord_nanr]⟩
theorem nan_nanC : nanB nanC = true := by decide
theorem nan_drawn (s r : Nat) : nanB (s % 2 * 2 ^ 63 + 0x7ff0000000000000 + 1 + r % (2 ^ 52 - 1)) = true := by
  have h1 : (s % 2 * 2 ^ 63 + 0x7ff0000000000000 + 1 + r % (2 ^ 52 - 1)) % Ieee.double.signWeight = 0x7ff0000000000000 + 1 + r % (2 ^ 52 - 1) := by
    have : Ieee.double.signWeight = 2 ^ 63 := by decide
    rw [this]
    have := Nat.mod_lt r (show 0 < 2 ^ 52 - 1 by decide)
    omega
  have h2 : Ieee.double.infRung = 0x7ff0000000000000 := by decide
  have h3 : Ieee.double.binade = 2 ^ 52 := by decide
  unfold nanB Ieee.Format.read
  simp only [h1, h2, h3]
  have := Nat.mod_lt r (show 0 < 2 ^ 52 - 1 by decide)
  rw [if_neg (by omega), if_neg (by omega), if_neg (by omega)]
  rfl
section
variable {R : Type} {P : Program} {W : Nat → Prop} {S : List AO} {ρ : Nat → Geo} {w : World} {a : Act}
variable {d : Option Nat} {ty T' T2 : TypeId} {pos : String} {af : Array Edge} {g : Option (Nat × Bool)} {y z : Operand} {K : KV R} {r : R}
theorem Aft.quietF {w' : World} (h : Rel W S ρ w) (hf : Fr w w' No) : Aft W S ρ w S ρ w' :=
  Aft.of (O1 := No) h hf (fun _ h => h.elim) (fun _ hk => .inl hk) (fun _ _ => rfl) (Nat.le_refl _) (fun _ i o hi => .inl ⟨hi, fun _ _ _ h => h.elim⟩) h.dj
theorem choose_f64 (x y : Nat) (w : World) : ∃ v, (choose (.nanBits .f64 x y)).run P w = .ok v w.drew ∧ nanB v = true :=
  ⟨_, run_choose_drew .., nan_drawn ..⟩
theorem fl_comes {o : Oper} {p : Option Nat} (h : Rel W S ρ w) (h1 : ∀ v, p = some v → Does P o a w (Is (.float .f64 v) w)) (h2 : p = none → ∃ v, Does P o a w (Is (.float .f64 v) w.drew) ∧ nanB v = true) (hK : K (.dat .flt (orN p)) S = some r) : Comes P W S ρ w o a K r := by
  cases p with
  | some v => exact Comes.is h (h1 v rfl) hK (vr_fltI (.inl rfl))
  | none =>
    obtain ⟨v, h2, h3⟩ := h2 rfl
    exact h2.mono fun u' w' ⟨e1, e2⟩ => by subst e1; subst e2; exact ⟨_, S, ρ, hK, Aft.quietF h (Fr.refl w No).drew, vr_fltI (.inr ⟨h3, nan_nanC⟩)⟩
theorem guard_flt {op : BinOp} {p q : Nat} (w : World) : (eqGuard op T' y z (.float .f64 p) (.float .f64 q)).run P w = .ok () w := by cases op <;> rfl
theorem guard_cpx {op : BinOp} {p q p' q' : Nat} (w : World) : (eqGuard op T' y z (.complex .f64 p q) (.complex .f64 p' q')).run P w = .ok () w := by cases op <;> rfl
theorem d_fl {op : BinOp} {p q : Nat} {v : Value} {w' : World} (e1 : a.eval y = .float .f64 p) (e2 : a.eval z = .float .f64 q) (hr : (binOp op T' (.float .f64 p) (.float .f64 q)).run P w = .ok v w') : Does P ⟨d, .binOp op T' y z T2, ty, pos, af, g⟩ a w (Is v w') :=
  Does.val (by simp [execOp, e1, e2, guard_flt, hr])
theorem d_cp {op : BinOp} {p q p' q' : Nat} {v : Value} {w' : World} (e1 : a.eval y = .complex .f64 p q) (e2 : a.eval z = .complex .f64 p' q') (hr : (binOp op T' (.complex .f64 p q) (.complex .f64 p' q')).run P w = .ok v w') : Does P ⟨d, .binOp op T' y z T2, ty, pos, af, g⟩ a w (Is v w') :=
  Does.val (by simp [execOp, e1, e2, guard_cpx, hr])
theorem ar_ok {op : BinOp} {m n : Nat} (F : Nat → Nat → Option Nat) (hF : NanF F) (hb : ∀ (a b v : Nat) (w : World), F a b = some v → (binOp op T' (.float .f64 a) (.float .f64 b)).run P w = .ok (.float .f64 v) w) (hn : ∀ (a b : Nat) (w : World), F a b = none → (binOp op T' (.float .f64 a) (.float .f64 b)).run P w = .ok (.float .f64 (Question.cut (.nanBits .f64 a b) (w.tape w.drawn (.nanBits .f64 a b)))) w.drew)
    (h : Rel W S ρ w) (hy : VR (cx W S ρ w) (.dat .flt m) (a.eval y)) (hz : VR (cx W S ρ w) (.dat .flt n) (a.eval z)) (hK : K (.dat .flt (orN (F m n))) S = some r) : Comes P W S ρ w ⟨d, .binOp op T' y z T2, ty, pos, af, g⟩ a K r := by
  obtain ⟨x1, e1, s1⟩ := vr_flt hy
  obtain ⟨x2, e2, s2⟩ := vr_flt hz
  rw [← hF.same s1 s2] at hK
  exact fl_comes h (fun v hv => d_fl e1 e2 (hb _ _ _ w hv)) (fun hv => ⟨_, d_fl e1 e2 (hn _ _ w hv), nan_drawn ..⟩) hK
theorem flBin_ok {op : BinOp} {m n : Nat} (h : Rel W S ρ w) (hy : VR (cx W S ρ w) (.dat .flt m) (a.eval y)) (hz : VR (cx W S ρ w) (.dat .flt n) (a.eval z)) (hK : flBin op m n S K = some r) : Comes P W S ρ w ⟨d, .binOp op T' y z T2, ty, pos, af, g⟩ a K r := by
  have hf : FloatKind.f64.format = Ieee.double := rfl
  have cmp : ∀ {x1 x2 : Nat}, SameF x1 m → SameF x2 n → FloatKind.f64.format.order x1 x2 = Ieee.double.order m n := fun s1 s2 => nan_ord.same s1 s2
  have e1 := vr_flt hy
  have e2 := vr_flt hz
  unfold flBin at hK
  split at hK
  · exact ar_ok _ nan_add (fun a b v w hn => by simp [binOp, Op.floatArith, hf, hn]) (fun a b w hn => by simp [binOp, Op.floatArith, hf, hn, run_choose_drew, Question.forced]) h hy hz hK
  · exact ar_ok _ nan_sub (fun a b v w hn => by simp [binOp, Op.floatArith, hf, hn]) (fun a b w hn => by simp [binOp, Op.floatArith, hf, hn, run_choose_drew, Question.forced]) h hy hz hK
  · exact ar_ok _ nan_mul (fun a b v w hn => by simp [binOp, Op.floatArith, hf, hn]) (fun a b w hn => by simp [binOp, Op.floatArith, hf, hn, run_choose_drew, Question.forced]) h hy hz hK
  · exact ar_ok _ nan_div (fun a b v w hn => by simp [binOp, Op.floatArith, hf, hn]) (fun a b w hn => by simp [binOp, Op.floatArith, hf, hn, run_choose_drew, Question.forced]) h hy hz hK
  all_goals first | (obtain ⟨x1, e1, s1⟩ := e1; obtain ⟨x2, e2, s2⟩ := e2; exact Comes.is h (d_fl e1 e2 (by simp [binOp, Op.floatCmp, cmp s1 s2]; rfl)) hK (vr_boolI _)) | cases hK
theorem cpBin_ok {op : BinOp} {m n : Nat × Nat} (h : Rel W S ρ w) (hy : VR (cx W S ρ w) (.dat .cpx m) (a.eval y)) (hz : VR (cx W S ρ w) (.dat .cpx n) (a.eval z)) (hK : cpBin op m n S K = some r) : Comes P W S ρ w ⟨d, .binOp op T' y z T2, ty, pos, af, g⟩ a K r := by
  have cmp : ∀ {x1 x2 m n : Nat}, SameF x1 m → SameF x2 n → FloatKind.f64.format.order x1 x2 = Ieee.double.order m n := fun s1 s2 => nan_ord.same s1 s2
  obtain ⟨x1, y1, e1, s1, t1⟩ := vr_cpx hy
  obtain ⟨x2, y2, e2, s2, t2⟩ := vr_cpx hz
  unfold cpBin at hK
  split at hK
  · exact Comes.is h (d_cp e1 e2 (by simp [binOp, Op.complexOp, Op.Complex.cmp, Op.floatCmp, asBool, cmp s1 s2, cmp t1 t2]; rfl)) hK (vr_boolI _)
  · exact Comes.is h (d_cp e1 e2 (by simp [binOp, Op.complexOp, Op.Complex.cmp, Op.floatCmp, asBool, cmp s1 s2, cmp t1 t2, ceq, feq, Bool.not_and])) hK (vr_boolI _)
  · cases hK
end
end Go.Mx
namespace Go.Sx
open Go
structure EqI (P : Program) (d : Nat) (e : TypeId) (c : Nat) (xs ys : Array Value) (is : List Nat) (q : Prop) : Prop where
  run : ∀ w, ∃ r : Bool, (Op.eqItems d e c xs ys is).run P w = .ok r w ∧ (r = true ↔ q)
section
variable {P : Program} {d : Nat} {t e : TypeId} {x y : Value} {p q : Prop} {xs ys : Array Value} {c : Nat} {is : List Nat}
theorem EqI.nil : EqI P d e c xs ys [] True := ⟨fun w => ⟨true, by simp [Op.eqItems], by simp⟩⟩
theorem EqI.cons {i : Nat} (hx : Pt P e xs (i * c) x) (hy : Pt P e ys (i * c) y) (h : EqV P d e x y p) (r : EqI P d e c xs ys is q) : EqI P d e c xs ys (i :: is) (p ∧ q) := ⟨fun w => by
  obtain ⟨r1, h1, h2⟩ := h.run w
  obtain ⟨r2, h3, h4⟩ := r.run w
  cases r1 with
  | false => exact ⟨false, by simp [Op.eqItems, hx w, hy w, h1], by simp [← h2]⟩
  | true => exact ⟨r2, by simp [Op.eqItems, hx w, hy w, h1, h3], by simp [h4, ← h2]⟩⟩
theorem EqV.arr {n : Nat} {i : TypeInfo} (hu : P.underlying t = some (.array n e)) (hi : P.info? e = some i) (h : EqI P d e (P.cellsOf e) xs ys (List.range n) q) : EqV P (d + 1) t (.agg xs) (.agg ys) q := ⟨fun w => by
  rw [run_equalIn_array w d xs ys hu hi]
  exact h.run w⟩
end
end Go.Sx
namespace Go.Mx
open Go Go.RowKit Go.Sx
variable [Glb]
section
variable {P : Program}
theorem EqV.iff {d : Nat} {t : TypeId} {x y : Value} {p q : Prop} (h : EqV P d t x y p) (e : p ↔ q) : EqV P d t x y q := ⟨fun w => by obtain ⟨r, h1, h2⟩ := h.run w; exact ⟨r, h1, h2.trans e⟩⟩
theorem EqF.iff {d : Nat} {xs ys : Array Value} {fs : List Field} {p q : Prop} (h : EqF P d xs ys fs p) (e : p ↔ q) : EqF P d xs ys fs q := ⟨fun w => by obtain ⟨r, h1, h2⟩ := h.run w; exact ⟨r, h1, h2.trans e⟩⟩
def EqE (P : Program) (E : TypeId → T → Bool) (d : Nat) : Prop := ∀ (i : TypeId) (t : T) (x y : t.den) (q : Bool) (A : Nat → Prop) (hp : Array Obj) (c1 c2 : List Value), E i t = true → eqv t x y = some q → t.kd.K A hp x c1 → t.kd.K A hp y c2 → EqV P d i (form t.aggB c1) (form t.aggB c2) (q = true)
theorem fldTy_ok {E : TypeId → T → Bool} {d : Nat} (hE : EqE P E d) {f : Field} {o : Nat} {t : T} (h : fldTy P E f o t = true) {x y : t.den} {q : Bool} {A : Nat → Prop} {hp : Array Obj} {c1 c2 X Y : List Value} (hq : eqv t x y = some q) (h1 : t.kd.K A hp x c1) (h2 : t.kd.K A hp y c2)
    (g1 : ∀ j v, c1[j]? = some v → X[o + j]? = some v) (g2 : ∀ j v, c2[j]? = some v → Y[o + j]? = some v) :
    f.name ≠ "_" ∧ Pt P f.type X.toArray f.offset (form t.aggB c1) ∧ Pt P f.type Y.toArray f.offset (form t.aggB c2) ∧ EqV P d f.type (form t.aggB c1) (form t.aggB c2) (q = true) := by
  unfold fldTy at h
  simp only [Bool.and_eq_true, bne_iff_ne, ne_eq] at h
  obtain ⟨⟨⟨⟨n1, n2⟩, n3⟩, n4⟩, n5⟩ := h
  have n2 := Nat.eq_of_beq_eq_true n2
  have hl : ∀ z : t.den, loadOk P f.type (.dat t z) = true := by
    intro z
    unfold loadOk
    split at n4
    · rename_i b hb
      rw [hb]
      have : b = t.aggB := by simpa using n4
      subst this
      split
      · rename_i hb'
        have hb' : t.aggB = true := by simpa using hb'
        have : szOk P f.type t.sz = true := n3
        show (t.aggB && szOk P f.type t.sz) = true
        rw [hb', this]; rfl
      · rename_i hb'
        have hb' : t.aggB = false := by simpa using hb'
        show (!t.aggB) = true
        rw [hb']; rfl
      · rename_i hb'; cases hb'
    · cases n4
  refine ⟨n1, fun w => ?_, fun w => ?_, hE _ _ _ _ _ _ _ _ _ n5 hq h1 h2⟩
  · rw [n2]; exact part_run (x := ⟨A, hp, fun _ => ⟨none, 0, 0, 0⟩, 0⟩) (hl x) (cr_dat.2 h1) g1 w
  · rw [n2]; exact part_run (x := ⟨A, hp, fun _ => ⟨none, 0, 0, 0⟩, 0⟩) (hl y) (cr_dat.2 h2) g2 w
theorem eqTyF_ok {E : TypeId → T → Bool} {d : Nat} (hE : EqE P E d) {A : Nat → Prop} {hp : Array Obj} {X Y : List Value} : ∀ (fs : List Field) (o : Nat) (t : T) (x y : t.den) (q : Bool) (c1 c2 : List Value), eqTyF P E fs o t = true → eqv t x y = some q → t.kd.K A hp x c1 → t.kd.K A hp y c2 →
    (∀ j v, c1[j]? = some v → X[o + j]? = some v) → (∀ j v, c2[j]? = some v → Y[o + j]? = some v) → EqF P d X.toArray Y.toArray fs (q = true)
  | [], o, t, x, y, q, c1, c2, h, _, _, _, _, _ => by cases t <;> cases h
  | [f], o, t, x, y, q, c1, c2, h, hq, h1, h2, g1, g2 => by
    have h : fldTy P E f o t = true := by cases t <;> exact h
    obtain ⟨k1, k2, k3, k4⟩ := fldTy_ok hE h hq h1 h2 g1 g2
    exact EqF.one k1 k2 k3 k4
  | f :: f2 :: r, o, .pair ta tb, x, y, q, c1, c2, h, hq, h1, h2, g1, g2 => by
    have h : (fldTy P E f o ta && eqTyF P E (f2 :: r) (o + ta.sz) tb) = true := h
    rw [Bool.and_eq_true] at h
    rw [eqv] at hq
    split at hq
    · rename_i p hp1
      split at hq
      · rename_i q' hq1
        obtain rfl := Option.some.inj hq
        obtain ⟨a1, b1, e1, ka1, kb1⟩ := h1
        obtain ⟨a2, b2, e2, ka2, kb2⟩ := h2
        have l1 : a1.length = ta.sz := kd_len ka1
        have l2 : a2.length = ta.sz := kd_len ka2
        obtain ⟨k1, k2, k3, k4⟩ := fldTy_ok hE h.1 hp1 ka1 ka2 (fun j v hj => g1 j v (by rw [e1, List.getElem?_append, if_pos (List.getElem?_eq_some_iff.1 hj).1]; exact hj)) (fun j v hj => g2 j v (by rw [e2, List.getElem?_append, if_pos (List.getElem?_eq_some_iff.1 hj).1]; exact hj))
        have k5 := eqTyF_ok hE (f2 :: r) (o + ta.sz) tb x.2 y.2 q' b1 b2 h.2 hq1 kb1 kb2
          (fun j v hj => by rw [Nat.add_assoc]; exact g1 _ v (by rw [e1, List.getElem?_append, if_neg (by omega), show ta.sz + j - a1.length = j by omega]; exact hj))
          (fun j v hj => by rw [Nat.add_assoc]; exact g2 _ v (by rw [e2, List.getElem?_append, if_neg (by omega), show ta.sz + j - a2.length = j by omega]; exact hj))
        exact Mx.EqF.iff (EqF.cons k1 k2 k3 k4 k5) (by rw [Bool.and_eq_true])
      · cases hq
    · cases hq
  | _ :: _ :: _, _, .int _, _, _, _, _, _, h, _, _, _, _, _ => by cases h
  | _ :: _ :: _, _, .bool, _, _, _, _, _, h, _, _, _, _, _ => by cases h
  | _ :: _ :: _, _, .str, _, _, _, _, _, h, _, _, _, _, _ => by cases h
  | _ :: _ :: _, _, .unit, _, _, _, _, _, h, _, _, _, _, _ => by cases h
  | _ :: _ :: _, _, .flt, _, _, _, _, _, h, _, _, _, _, _ => by cases h
  | _ :: _ :: _, _, .cpx, _, _, _, _, _, h, _, _, _, _, _ => by cases h
  | _ :: _ :: _, _, .fn, _, _, _, _, _, h, _, _, _, _, _ => by cases h
  | _ :: _ :: _, _, .one _, _, _, _, _, _, h, _, _, _, _, _ => by cases h
  | _ :: _ :: _, _, .arr _ _, _, _, _, _, _, h, _, _, _, _, _ => by cases h
  | _ :: _ :: _, _, .sl _, _, _, _, _, _, h, _, _, _, _, _ => by cases h
theorem eqL_ok {E : TypeId → T → Bool} {d : Nat} (hE : EqE P E d) {e : TypeId} {t : T} (hs : szOk P e t.sz = true) (hg : aggB P e = some t.aggB) (he : E e t = true) {A : Nat → Prop} {hp : Array Obj} {X Y : List Value} : ∀ (xs ys : List t.den) (o : Nat) (q : Bool) (c1 c2 : List Value), eqL (eqv t) xs ys = some q → Els (t.kd.K A hp) xs c1 → Els (t.kd.K A hp) ys c2 →
    (∀ j v, c1[j]? = some v → X[o * t.sz + j]? = some v) → (∀ j v, c2[j]? = some v → Y[o * t.sz + j]? = some v) → EqI P d e t.sz X.toArray Y.toArray (List.range' o xs.length) (q = true)
  | [], [], o, q, c1, c2, hq, _, _, _, _ => by
    obtain rfl := Option.some.inj hq
    exact ⟨fun w => by obtain ⟨r, h1, h2⟩ := (EqI.nil (P := P) (d := d) (e := e) (c := t.sz) (xs := X.toArray) (ys := Y.toArray)).run w; exact ⟨r, h1, h2.trans (by simp)⟩⟩
  | [], _ :: _, _, _, _, _, hq, _, _, _, _ => by cases hq
  | _ :: _, [], _, _, _, _, hq, _, _, _, _ => by cases hq
  | x :: xs, y :: ys, o, q, c1, c2, hq, h1, h2, g1, g2 => by
    rw [eqL] at hq
    split at hq
    · rename_i p hp1
      split at hq
      · rename_i q' hq1
        obtain rfl := Option.some.inj hq
        cases h1 with
        | @cons _ a1 _ b1 ka1 kb1 =>
        cases h2 with
        | @cons _ a2 _ b2 ka2 kb2 =>
        have l1 : a1.length = t.sz := kd_len ka1
        have l2 : a2.length = t.sz := kd_len ka2
        have hl : ∀ z : t.den, loadOk P e (.dat t z) = true := by
          intro z
          unfold loadOk
          rw [hg]
          cases hb : t.aggB with
          | true => show (t.aggB && szOk P e t.sz) = true; rw [hb, hs]; rfl
          | false => show (!t.aggB) = true; rw [hb]; rfl
        have k1 : Pt P e X.toArray (o * t.sz) (form t.aggB a1) := fun w => part_run (x := ⟨A, hp, fun _ => ⟨none, 0, 0, 0⟩, 0⟩) (hl x) (cr_dat.2 ka1) (fun j v hj => g1 j v (by rw [List.getElem?_append, if_pos (List.getElem?_eq_some_iff.1 hj).1]; exact hj)) w
        have k2 : Pt P e Y.toArray (o * t.sz) (form t.aggB a2) := fun w => part_run (x := ⟨A, hp, fun _ => ⟨none, 0, 0, 0⟩, 0⟩) (hl y) (cr_dat.2 ka2) (fun j v hj => g2 j v (by rw [List.getElem?_append, if_pos (List.getElem?_eq_some_iff.1 hj).1]; exact hj)) w
        have k5 := eqL_ok hE hs hg he xs ys (o + 1) q' b1 b2 hq1 kb1 kb2
          (fun j v hj => by rw [Nat.add_mul, Nat.one_mul, Nat.add_assoc]; exact g1 _ v (by rw [List.getElem?_append, if_neg (by omega), show t.sz + j - a1.length = j by omega]; exact hj))
          (fun j v hj => by rw [Nat.add_mul, Nat.one_mul, Nat.add_assoc]; exact g2 _ v (by rw [List.getElem?_append, if_neg (by omega), show t.sz + j - a2.length = j by omega]; exact hj))
        have k6 := EqI.cons k1 k2 (hE _ _ _ _ _ _ _ _ _ he hp1 ka1 ka2) k5
        exact ⟨fun w => by obtain ⟨r, h1, h2⟩ := k6.run w; exact ⟨r, h1, h2.trans (by rw [Bool.and_eq_true])⟩⟩
      · cases hq
    · cases hq
theorem eqTy_ok : ∀ (n k : Nat), EqE P (eqTy P n) (n + k)
  | 0, _ => fun i t x y q A hp c1 c2 h => by cases h
  | n + 1, k => by
    intro i t x y q A hp c1 c2 h hq h1 h2
    have hd : n + 1 + k = (n + k) + 1 := by omega
    rw [hd]
    unfold eqTy at h
    split at h
    · rename_i hu
      have h1 : c1 = [.int _ x] := h1
      have h2 : c2 = [.int _ y] := h2
      obtain rfl := Option.some.inj hq
      rw [h1, h2]
      exact Mx.EqV.iff (EqV.int hu) decide_eq_true_iff.symm
    · rename_i hu
      have h1 : c1 = [.bool x] := h1
      have h2 : c2 = [.bool y] := h2
      obtain rfl := Option.some.inj hq
      rw [h1, h2]
      exact Mx.EqV.iff (EqV.bool hu) beq_iff_eq.symm
    · rename_i hu
      have h1 : c1 = [.string x] := h1
      have h2 : c2 = [.string y] := h2
      obtain rfl := Option.some.inj hq
      rw [h1, h2]
      exact Mx.EqV.iff (EqV.str hu) decide_eq_true_iff.symm
    · rename_i kf hu
      obtain ⟨b1, h1, s1⟩ : ∃ b, c1 = [.float .f64 b] ∧ SameF b x := h1
      obtain ⟨b2, h2, s2⟩ : ∃ b, c2 = [.float .f64 b] ∧ SameF b y := h2
      obtain rfl := Option.some.inj hq
      rw [h1, h2]
      have cmp : FloatKind.f64.format.order b1 b2 = Ieee.double.order x y := nan_ord.same s1 s2
      refine ⟨fun w => ⟨feq x y, ?_, Iff.rfl⟩⟩
      show (Op.equalIn _ _ (.float .f64 b1) (.float .f64 b2)).run P w = _
      simp [Op.equalIn, run_underlying hu, Op.floatEq, cmp, feq]
    · rename_i kf hu
      obtain ⟨a1, b1, h1, s1, t1⟩ : ∃ a b, c1 = [.complex .f64 a b] ∧ SameF a x.1 ∧ SameF b x.2 := h1
      obtain ⟨a2, b2, h2, s2, t2⟩ : ∃ a b, c2 = [.complex .f64 a b] ∧ SameF a y.1 ∧ SameF b y.2 := h2
      obtain rfl := Option.some.inj hq
      rw [h1, h2]
      have cmp1 : FloatKind.f64.format.order a1 a2 = Ieee.double.order x.1 y.1 := nan_ord.same s1 s2
      have cmp2 : FloatKind.f64.format.order b1 b2 = Ieee.double.order x.2 y.2 := nan_ord.same t1 t2
      refine ⟨fun w => ⟨ceq x y, ?_, Iff.rfl⟩⟩
      show (Op.equalIn _ _ (.complex .f64 a1 b1) (.complex .f64 a2 b2)).run P w = _
      simp [Op.equalIn, run_underlying hu, Op.floatEq, cmp1, cmp2, ceq, feq]
    · rename_i fs t hu
      rw [Bool.and_eq_true, Bool.not_eq_true'] at h
      have hq : eqv t x y = some q := hq
      obtain ⟨hs, h⟩ := h
      split at h
      · rename_i f hf
        obtain ⟨k1, k2, k3, k4⟩ := fldTy_ok (P := P) (eqTy_ok n k) h hq h1 h2 (X := c1) (Y := c2) (fun j v hj => by rw [Nat.zero_add]; exact hj) (fun j v hj => by rw [Nat.zero_add]; exact hj)
        refine EqV.struct hu hs ?_
        rw [hf]
        exact EqF.one k1 k2 k3 k4
      · cases h
    · rename_i fs ta tb hu
      rw [Bool.and_eq_true, Bool.not_eq_true'] at h
      refine EqV.struct hu h.1 ?_
      exact eqTyF_ok (eqTy_ok n k) fs.toList 0 (.pair ta tb) x y q c1 c2 h.2 hq h1 h2 (fun j v hj => by rw [Nat.zero_add]; exact hj) (fun j v hj => by rw [Nat.zero_add]; exact hj)
    · rename_i m e m' t hu
      simp only [Bool.and_eq_true] at h
      obtain ⟨⟨⟨n1, n2⟩, n3⟩, n4⟩ := h
      have n1 := Nat.eq_of_beq_eq_true n1
      subst n1
      have hs : szOk P e t.sz = true := n2
      have hg : aggB P e = some t.aggB := by
        split at n3
        · rename_i b hb
          rw [hb]
          have : b = t.aggB := by simpa using n3
          rw [this]
        · cases n3
      have h1 : x.length = m ∧ Els (t.kd.K A hp) x c1 := h1
      have h2 : y.length = m ∧ Els (t.kd.K A hp) y c2 := h2
      have hq : eqL (eqv t) x y = some q := hq
      have k := eqL_ok (eqTy_ok n k) hs hg n4 x y 0 q c1 c2 hq h1.2 h2.2 (X := c1) (Y := c2) (fun j v hj => by rw [Nat.zero_mul, Nat.zero_add]; exact hj) (fun j v hj => by rw [Nat.zero_mul, Nat.zero_add]; exact hj)
      rw [h1.1, ← List.range_eq_range'] at k
      unfold szOk at hs
      split at hs
      · rename_i j hj
        have hs := Nat.eq_of_beq_eq_true hs
        refine EqV.arr (i := j) hu hj ?_
        rw [show P.cellsOf e = t.sz by simp [Program.cellsOf, hj, hs]]
        exact k
      · cases hs
    · cases h
end
section
variable {R : Type} {P : Program} {W : Nat → Prop} {S : List AO} {ρ : Nat → Geo} {w : World} {a : Act}
variable {d : Option Nat} {ty T' T2 : TypeId} {pos : String} {af : Array Edge} {g : Option (Nat × Bool)} {y z : Operand} {K : KV R} {r : R}
theorem nilP_ok {x : Cx} {v : AV} {u : Value} {q : Bool} (hv : VR x v u) (hn : nilP v = some q) : ∃ p, u = .pointer p ∧ p.isNone = q := by
  cases v with
  | ptr i p => obtain rfl := Option.some.inj hn; obtain ⟨_, b, _, e⟩ := vr_ptr hv; exact ⟨_, e, rfl⟩
  | rdp t z => obtain rfl := Option.some.inj hn; obtain ⟨b, o, c, e, _⟩ := vr_rdp hv; exact ⟨_, e, rfl⟩
  | nilp => obtain rfl := Option.some.inj hn; exact ⟨_, vr_nilp hv, rfl⟩
  | _ => cases hn
theorem nilS_ok {v : AV} {u : Value} {q : Bool} (h : Rel W S ρ w) (hv : VR (cx W S ρ w) v u) (hn : nilS S v = some q) : ∃ p n c, u = .slice p n c ∧ p.isNone = q := by
  cases v with
  | dat t z =>
    cases t with
    | sl t =>
      cases z with
      | nil => cases hn
      | cons y z =>
        obtain rfl := Option.some.inj hn
        obtain ⟨cs, hr, e⟩ := vr_dat hv
        obtain ⟨p, c, e2, hr⟩ : ∃ p c, cs = [.slice p (y :: z).length c] ∧ Raw (cx W S ρ w).A t.kd (cx W S ρ w).h p c (y :: z) := hr
        obtain ⟨_, _, _, _, hm⟩ := hr
        obtain ⟨b, o, _, _, _, e3, _⟩ := hm (by simp)
        rw [e2, e3] at e
        exact ⟨_, _, _, e, rfl⟩
    | _ => cases hn
  | view i =>
    obtain ⟨cs, e, hc, _⟩ := hv
    rw [CR] at hc
    rw [nilS] at hn
    split at hn
    · rename_i e' t y z m hi
      obtain rfl := Option.some.inj hn
      obtain ⟨b, ha⟩ := row_a h hi (by simp)
      have ha : ((cx W S ρ w).g i).a = some ⟨b, 0, none⟩ := ha
      rw [hc.2, ha] at e
      exact ⟨_, _, _, e, rfl⟩
    · cases hn
  | pre i n =>
    cases n with
    | zero => cases hn
    | succ n =>
      obtain ⟨cs, e, hc, _⟩ := hv
      rw [CR] at hc
      rw [nilS] at hn
      split at hn
      · rename_i e' t xs m hi
        obtain rfl := Option.some.inj hn
        obtain ⟨g1, _⟩ := row_lies h hi
        have hle : n + 1 ≤ (ρ i).n := hc.2.1
        obtain ⟨b, ha⟩ := row_a h hi (by intro e; rw [e] at g1; simp at g1; omega)
        have ha : ((cx W S ρ w).g i).a = some ⟨b, 0, none⟩ := ha
        rw [hc.2.2, ha] at e
        exact ⟨_, _, _, e, rfl⟩
      · cases hn
  | tgt i n =>
    cases n with
    | zero => cases hn
    | succ n =>
      obtain ⟨cs, e, hc, _⟩ := hv
      rw [CR] at hc
      rw [nilS] at hn
      split at hn
      · rename_i e' t xs m hi
        obtain rfl := Option.some.inj hn
        obtain ⟨g1, _⟩ := row_lies h hi
        have hle : n + 1 ≤ (ρ i).n := hc.2.1
        obtain ⟨b, ha⟩ := row_a h hi (by intro e; rw [e] at g1; simp at g1; omega)
        have ha : ((cx W S ρ w).g i).a = some ⟨b, 0, none⟩ := ha
        rw [hc.2.2, ha] at e
        exact ⟨_, _, _, e, rfl⟩
      · cases hn
  | win i o n =>
    cases n with
    | zero => cases hn
    | succ n =>
      obtain ⟨cs, e, hc, _⟩ := hv
      rw [CR] at hc
      obtain rfl := Option.some.inj hn
      obtain ⟨_, _, q, c, _, _, h1, e2⟩ := hc
      obtain ⟨b, _, h2⟩ := h1 (by omega)
      rw [e2, h2] at e
      exact ⟨_, _, _, e, rfl⟩
  | nils => obtain rfl := Option.some.inj hn; exact ⟨_, _, _, vr_nils hv, rfl⟩
  | nilw t => obtain rfl := Option.some.inj hn; obtain ⟨c, e, hc, _⟩ := hv; rw [CR] at hc; obtain ⟨q, _, e2⟩ := hc; exact ⟨none, _, _, by rw [e, e2]; rfl, rfl⟩
  | sln t z => obtain rfl := Option.some.inj hn; obtain ⟨c, e, hc, _⟩ := hv; rw [CR] at hc; obtain ⟨p, c', e2, _⟩ := hc; exact ⟨some p, _, _, by rw [e, e2]; rfl, rfl⟩
  | _ => cases hn
theorem nilF_ok {x : Cx} {v : AV} {u : Value} {q : Bool} (hv : VR x v u) (hn : nilF v = some q) : (u = .nilFunc ∧ q = true) ∨ (∃ f l m, u = .func f l m ∧ q = false) := by
  cases v with
  | dat t z =>
    cases t with
    | fn =>
      obtain rfl := Option.some.inj hn
      obtain ⟨cs, hc, e⟩ := vr_dat hv
      have hc : cs = [.func (.func z) #[] #[]] := hc
      subst hc
      exact .inr ⟨_, _, _, e, rfl⟩
    | _ => cases hn
  | nilf => obtain rfl := Option.some.inj hn; exact .inl ⟨vr_nilf hv, rfl⟩
  | fn f l m => obtain rfl := Option.some.inj hn; obtain ⟨c, e, hc, _⟩ := hv; rw [CR] at hc; obtain ⟨l', m', e2, _⟩ := hc; exact .inr ⟨_, _, _, by rw [e, e2]; rfl, rfl⟩
  | _ => cases hn
theorem eq_func {f : Fn} {l m : Array Value} {q1 q2 : Array TypeId} {q3 : Bool} (hT : P.underlying T' = some (.func q1 q2 q3)) (n : Nat) (w : World) : (Op.equalIn (n + 1) T' (.func f l m) .nilFunc).run P w = .ok false w := by
  simp [Op.equalIn, run_underlying hT]
theorem eq_nilf {q1 q2 : Array TypeId} {q3 : Bool} (hT : P.underlying T' = some (.func q1 q2 q3)) (n : Nat) (w : World) : (Op.equalIn (n + 1) T' .nilFunc .nilFunc).run P w = .ok true w := by
  simp [Op.equalIn, run_underlying hT]
theorem guard_func {op : BinOp} {f : Fn} {l m : Array Value} {v : Value} (w : World) : (eqGuard op T' y z (.func f l m) v).run P w = .ok () w := by cases op <;> rfl
theorem guard_nilf {op : BinOp} {v : Value} (w : World) : (eqGuard op T' y z .nilFunc v).run P w = .ok () w := by cases op <;> rfl
theorem vr_nilI {x : Cx} {u : Value} (h : VR x .nilI u) : u = .nilIface := by
  obtain ⟨c, e, h1, _⟩ := h
  rw [CR] at h1
  rw [e, h1]; rfl
theorem nilI_ok {x : Cx} {v : AV} {u : Value} {q : Bool} (hv : VR x v u) (hn : nilI v = some q) : (u = .nilIface ∧ q = true) ∨ (∃ t z, u = .iface t z ∧ q = false) := by
  cases v with
  | nilI => obtain rfl := Option.some.inj hn; exact .inl ⟨vr_nilI hv, rfl⟩
  | iface t v => obtain rfl := Option.some.inj hn; obtain ⟨c, e, hc, _⟩ := hv; rw [CR] at hc; obtain ⟨c', e2, _⟩ := hc; exact .inr ⟨_, _, by rw [e, e2]; rfl, rfl⟩
  | _ => cases hn
theorem eq_iface {t : TypeId} {v : Value} {q1 : Array (String × TypeId)} (hT : P.underlying T' = some (.interface q1)) (n : Nat) (w : World) : (Op.equalIn (n + 1) T' (.iface t v) .nilIface).run P w = .ok false w := by
  simp [Op.equalIn, run_underlying hT]
theorem eq_nilI {q1 : Array (String × TypeId)} (hT : P.underlying T' = some (.interface q1)) (n : Nat) (w : World) : (Op.equalIn (n + 1) T' .nilIface .nilIface).run P w = .ok true w := by
  simp [Op.equalIn, run_underlying hT]
theorem guard_iface {op : BinOp} {t : TypeId} {v : Value} (w : World) : (eqGuard op T' y z (.iface t v) .nilIface).run P w = .ok () w := by cases op <;> rfl
theorem guard_nilI {op : BinOp} {c : Value} (w : World) : (eqGuard op T' y (.const c) .nilIface .nilIface).run P w = .ok () w := by cases op <;> simp [eqGuard]
theorem vr_nilm' {x : Cx} {u : Value} (h : VR x .nilm u) : u = .map none := by
  obtain ⟨c, e, h1, _⟩ := h
  rw [CR] at h1
  rw [e, h1]; rfl
theorem nilM_ok {x : Cx} {v : AV} {u : Value} {q : Bool} (hv : VR x v u) (hn : nilM v = some q) : (u = .map none ∧ q = true) ∨ (∃ b, u = .map (some b) ∧ q = false) := by
  cases v with
  | nilm => obtain rfl := Option.some.inj hn; obtain ⟨c, e, hc, _⟩ := hv; rw [CR] at hc; exact .inl ⟨by rw [e, hc]; rfl, rfl⟩
  | mp i => obtain rfl := Option.some.inj hn; obtain ⟨c, e, hc, _⟩ := hv; rw [CR] at hc; obtain ⟨_, b, _, e2⟩ := hc; exact .inr ⟨b, by rw [e, e2]; rfl, rfl⟩
  | _ => cases hn
theorem eq_map {b : Nat} {q1 q2 : TypeId} (hT : P.underlying T' = some (.map q1 q2)) (n : Nat) (w : World) : (Op.equalIn (n + 1) T' (.map (some b)) (.map none)).run P w = .ok false w := by
  simp [Op.equalIn, run_underlying hT]
theorem eq_nilm {q1 q2 : TypeId} (hT : P.underlying T' = some (.map q1 q2)) (n : Nat) (w : World) : (Op.equalIn (n + 1) T' (.map none) (.map none)).run P w = .ok true w := by
  simp [Op.equalIn, run_underlying hT]
theorem guard_map {op : BinOp} {b : Option Nat} {v : Value} (w : World) : (eqGuard op T' y z (.map b) v).run P w = .ok () w := by cases op <;> rfl
theorem bin_ok {op : BinOp} {u v : AV} (h : Rel W S ρ w) (hd : a.defers = []) (hy : VR (cx W S ρ w) u (a.eval y)) (hz : VR (cx W S ρ w) v (a.eval z)) (hc : guardC u v z = true) (hK : bin P T' op u v S K = some r) : Comes P W S ρ w ⟨d, .binOp op T' y z T2, ty, pos, af, g⟩ a K r := by
  have ha := bnd_has (a := a) (Op1 y + Op1 z) hd
  have ey : Sx.ev (bnd a (Op1 y + Op1 z)) y = some (a.eval y) := bnd_ev (by omega)
  have ez : Sx.ev (bnd a (Op1 y + Op1 z)) z = some (a.eval z) := bnd_ev (by omega)
  unfold bin at hK
  split at hK
  · rename_i k i k' j
    have e1 := vr_int hy
    have e2 := vr_int hz
    split at hK
    · obtain ⟨h0, hK⟩ := ck_elim hK
      exact Comes.is h (d_shl ha (by rw [ey, e1]) (by rw [ez, e2]) h0) hK (vr_intI _ _)
    · obtain ⟨h0, hK⟩ := ck_elim hK
      exact Comes.is h (d_shr ha (by rw [ey, e1]) (by rw [ez, e2]) h0) hK (vr_intI _ _)
    · split at hK
      · rename_i hk
        subst hk
        exact arith_ok h hd e1 e2 hK
      · cases hK
  · have e1 := vr_str hy
    have e2 := vr_str hz
    split at hK
    · obtain ⟨h0, hK⟩ := ck_elim hK
      exact Comes.is h (d_sadd ha (by rw [ey, e1]) (by rw [ez, e2]) (Nat.le_trans h0 (by decide))) hK (vr_strI _)
    · exact Comes.is h (d_eqS ha (by rw [ey, e1]) (by rw [ez, e2])) hK (vr_boolI _)
    · exact Comes.is h (d_neS ha (by rw [ey, e1]) (by rw [ez, e2])) hK (vr_boolI _)
    · cases hK
  · have e1 := vr_bool hy
    have e2 := vr_bool hz
    split at hK
    · rename_i hu
      exact Comes.is h (d_eqB ha hu (by rw [ey, e1]) (by rw [ez, e2])) hK (vr_boolI _)
    · rename_i hu
      exact Comes.is h (d_neB ha hu (by rw [ey, e1]) (by rw [ez, e2])) hK (vr_boolI _)
    · cases hK
  · exact flBin_ok h hy hz hK
  · split at hK
    · exact cpBin_ok h hy hz hK
    · cases hK
  · rename_i t x t' x' _ _ _ _ _
    split at hK
    · rename_i ht
      subst ht
      cases hc : t'.aggB && eqTy P 30 T' t' && !P.eqGuardType P.depth T' with
      | false => rw [hc] at hK; cases hK
      | true =>
        rw [hc, cond_true] at hK
        simp only [Bool.and_eq_true, Bool.not_eq_true'] at hc
        obtain ⟨⟨hg, ht⟩, hq⟩ := hc
        obtain ⟨c1, hc1, e1⟩ := vr_dat hy
        obtain ⟨c2, hc2, e2⟩ := vr_dat hz
        split at hK
        · rename_i q he
          have hE := eqTy_ok (P := P) 30 9970 T' t' x x' q _ _ c1 c2 ht he hc1 hc2
          have e1 : a.eval y = form t'.aggB c1 := e1
          have e2 : a.eval z = form t'.aggB c2 := e2
          rw [hg] at hE e1 e2
          split at hK
          · refine Comes.is h (d_eqAg ha (by rw [ey, e1]; rfl) (by rw [ez, e2]; rfl) hq hE) hK ?_
            cases q <;> exact vr_boolI _
          · refine Comes.is h (d_neAg ha (by rw [ey, e1]; rfl) (by rw [ez, e2]; rfl) hq hE) hK ?_
            cases q <;> exact vr_boolI _
          · cases hK
        · cases hK
    · cases hK
  · rename_i i p j q
    split at hK
    · rename_i b e hsp hu
      cases hb : Nat.beq i j && b && (P.info? e).isSome with
      | false => rw [hb] at hK; cases hK
      | true =>
        rw [hb, cond_true] at hK
        rw [Bool.and_eq_true, Bool.and_eq_true] at hb
        have hij := Nat.eq_of_beq_eq_true hb.1.1
        subst hij
        obtain ⟨_, b1, h1, e1⟩ := vr_ptr hy
        obtain ⟨_, b2, h2, e2⟩ := vr_ptr hz
        have hpq : p = [] ∧ q = [] := by
          unfold samep at hsp
          split at hsp
          · exact ⟨rfl, rfl⟩
          · cases hsp
        obtain ⟨rfl, rfl⟩ := hpq
        have hbb : b1 = b2 := by rw [h1] at h2; exact congrArg Addr.block (Option.some.inj h2)
        subst hbb
        split at hK
        · exact Comes.is h (d_ptrneSelf ha hu hb.2 (by rw [ey, e1]) (by rw [ez, e2])) hK (vr_boolI false)
        · cases hK
    · cases hK
  · split at hK
    · rename_i e q hu hn
      have e2 := vr_nilp hz
      obtain ⟨p, e1, hq⟩ := nilP_ok hy hn
      split at hK
      · exact Comes.is h (d_ptrnil_eq ha hu (by rw [ey, e1]) (by rw [ez, e2])) hK (by rw [hq]; exact vr_boolI _)
      · exact Comes.is h (d_ptrnil_ne ha hu (by rw [ey, e1]) (by rw [ez, e2])) hK (by rw [hq]; exact vr_boolI _)
      · cases hK
    · cases hK
  · split at hK
    · rename_i e q hu hn
      have e2 := vr_nils hz
      obtain ⟨p, n, c, e1, hq⟩ := nilS_ok h hy hn
      split at hK
      · exact Comes.is h (d_slnil_eq ha hu (by rw [ey, e1]) (by rw [ez, e2])) hK (by rw [hq]; exact vr_boolI _)
      · exact Comes.is h (d_slnil_ne ha hu (by rw [ey, e1]) (by rw [ez, e2])) hK (by rw [hq]; exact vr_boolI _)
      · cases hK
    · cases hK
  · split at hK
    · rename_i q1 q2 q3 q hu hn
      have e2 := vr_nilf hz
      rcases nilF_ok hy hn with ⟨e1, rfl⟩ | ⟨f, l, m, e1, rfl⟩
      · split at hK
        · exact Comes.is h (d_bin ha (by rw [ey, e1]) (by rw [ez, e2]) guard_nilf (by simp only [binOp, Op.equal, Op.maxDepth, Sem.run_bind, Sem.run_pure, eq_nilf hu 9999 w, Result.andThen_ok])) hK (vr_boolI true)
        · exact Comes.is h (d_bin ha (by rw [ey, e1]) (by rw [ez, e2]) guard_nilf (by simp only [binOp, Op.equal, Op.maxDepth, Sem.run_bind, Sem.run_pure, eq_nilf hu 9999 w, Result.andThen_ok])) hK (vr_boolI (!true))
        · cases hK
      · split at hK
        · exact Comes.is h (d_bin ha (by rw [ey, e1]) (by rw [ez, e2]) guard_func (by simp only [binOp, Op.equal, Op.maxDepth, Sem.run_bind, Sem.run_pure, eq_func hu 9999 w, Result.andThen_ok])) hK (vr_boolI false)
        · exact Comes.is h (d_bin ha (by rw [ey, e1]) (by rw [ez, e2]) guard_func (by simp only [binOp, Op.equal, Op.maxDepth, Sem.run_bind, Sem.run_pure, eq_func hu 9999 w, Result.andThen_ok])) hK (vr_boolI (!false))
        · cases hK
    · cases hK
  · split at hK
    · rename_i q1 q hu hn
      have e2 := vr_nilI hz
      rcases nilI_ok hy hn with ⟨e1, rfl⟩ | ⟨t, v, e1, rfl⟩
      · obtain ⟨c, rfl⟩ : ∃ c, z = .const c := by
          cases u with
          | nilI => cases z with
            | const c => exact ⟨c, rfl⟩
            | _ => cases hc
          | _ => cases hn
        split at hK
        · exact Comes.is h (d_bin ha (by rw [ey, e1]) (by rw [ez, e2]) guard_nilI (by simp only [binOp, Op.equal, Op.maxDepth, Sem.run_bind, Sem.run_pure, eq_nilI hu 9999 w, Result.andThen_ok])) hK (vr_boolI true)
        · exact Comes.is h (d_bin ha (by rw [ey, e1]) (by rw [ez, e2]) guard_nilI (by simp only [binOp, Op.equal, Op.maxDepth, Sem.run_bind, Sem.run_pure, eq_nilI hu 9999 w, Result.andThen_ok])) hK (vr_boolI (!true))
        · cases hK
      · split at hK
        · exact Comes.is h (d_bin ha (by rw [ey, e1]) (by rw [ez, e2]) guard_iface (by simp only [binOp, Op.equal, Op.maxDepth, Sem.run_bind, Sem.run_pure, eq_iface hu 9999 w, Result.andThen_ok])) hK (vr_boolI false)
        · exact Comes.is h (d_bin ha (by rw [ey, e1]) (by rw [ez, e2]) guard_iface (by simp only [binOp, Op.equal, Op.maxDepth, Sem.run_bind, Sem.run_pure, eq_iface hu 9999 w, Result.andThen_ok])) hK (vr_boolI (!false))
        · cases hK
    · cases hK
  · split at hK
    · rename_i q1 q2 q hu hn
      have e2 := vr_nilm' hz
      rcases nilM_ok hy hn with ⟨e1, rfl⟩ | ⟨b, e1, rfl⟩
      · split at hK
        · exact Comes.is h (d_bin ha (by rw [ey, e1]) (by rw [ez, e2]) guard_map (by simp only [binOp, Op.equal, Op.maxDepth, Sem.run_bind, Sem.run_pure, eq_nilm hu 9999 w, Result.andThen_ok])) hK (vr_boolI true)
        · exact Comes.is h (d_bin ha (by rw [ey, e1]) (by rw [ez, e2]) guard_map (by simp only [binOp, Op.equal, Op.maxDepth, Sem.run_bind, Sem.run_pure, eq_nilm hu 9999 w, Result.andThen_ok])) hK (vr_boolI (!true))
        · cases hK
      · split at hK
        · exact Comes.is h (d_bin ha (by rw [ey, e1]) (by rw [ez, e2]) guard_map (by simp only [binOp, Op.equal, Op.maxDepth, Sem.run_bind, Sem.run_pure, eq_map hu 9999 w, Result.andThen_ok])) hK (vr_boolI false)
        · exact Comes.is h (d_bin ha (by rw [ey, e1]) (by rw [ez, e2]) guard_map (by simp only [binOp, Op.equal, Op.maxDepth, Sem.run_bind, Sem.run_pure, eq_map hu 9999 w, Result.andThen_ok])) hK (vr_boolI (!false))
        · cases hK
    · cases hK
  · cases hK
end
end Go.Mx
namespace Go.Mx
open Go Go.RowKit Go.Sx
variable [Glb]
section
variable {R : Type} {P : Program} {W : Nat → Prop} {S : List AO} {ρ : Nat → Geo} {w : World} {a : Act}
variable {d : Option Nat} {ty T' T2 : TypeId} {pos : String} {af : Array Edge} {g : Option (Nat × Bool)} {y z : Operand} {K : KV R} {r : R}
def Parts (x : Cx) (a : Act) (ps : List (Nat × Operand)) (vs : List (Nat × AV)) : Prop := A2 (fun p q => q.1 = p.1 ∧ VR x q.2 (a.eval p.2)) ps vs
theorem partsA_ok {x : Cx} (hg : GlR x) {s : Slots} (hs : SlR x s a) : ∀ {ps : List (Nat × Operand)} {vs : List (Nat × AV)}, partsA s ps = some vs → Parts x a ps vs
  | [], vs, h => by obtain rfl := Option.some.inj h; exact .nil
  | (i, o) :: ps, vs, h => by
    rw [partsA] at h
    split at h
    · rename_i v hv
      split at h
      · rename_i l hl
        obtain rfl := Option.some.inj h
        exact .cons ⟨rfl, ev_ok hg hs hv⟩ (partsA_ok hg hs hl)
      · cases h
    · cases h
theorem places_ok : ∀ {fs : List Field}, (fs.all fun f => (P.info? f.type).isSome) = true → ∃ pl, fs.mapM (fun (f : Field) => (P.info? f.type).map fun i => (f.offset, i.size)) = some pl ∧ ∀ (i : Nat) (f : Field) (j : TypeInfo), fs[i]? = some f → P.info? f.type = some j → pl[i]? = some (f.offset, j.size)
  | [], _ => ⟨[], rfl, fun i f j h => by simp at h⟩
  | f :: fs, h => by
    rw [List.all_cons, Bool.and_eq_true] at h
    obtain ⟨j, hj⟩ := Option.isSome_iff_exists.1 h.1
    obtain ⟨pl, h1, h2⟩ := places_ok h.2
    refine ⟨(f.offset, j.size) :: pl, by simp [List.mapM_cons, hj, h1], fun i f' j' hi hj' => ?_⟩
    cases i with
    | zero =>
      obtain rfl : f = f' := Option.some.inj hi
      rw [hj] at hj'
      obtain rfl := Option.some.inj hj'
      rfl
    | succ i => exact h2 i f' j' hi hj'
theorem fill_step {x : Cx} {place : Nat → Option (Nat × Nat)} {cells : List Value} {i off : Nat} {v : AV} {us : List Value} {rest : List (Nat × Value)} (hp : place i = some (off, us.length)) (hc : CR x v us) (hs : off + us.length ≤ cells.length) :
    Instr.fill place cells.toArray ((i, form v.isAgg us) :: rest) = Instr.fill place (put cells off us).toArray rest := by
  have hf := cr_form hc
  rw [fill_one place cells.toArray i _ rest hp (by rw [hf]; simp) (by simpa using hs), hf]
  rfl
theorem buildF_ok {x : Cx} {fs : List Field} {pl : List (Nat × Nat)} (hpl : ∀ (i : Nat) (f : Field) (j : TypeInfo), fs[i]? = some f → P.info? f.type = some j → pl[i]? = some (f.offset, j.size)) : ∀ (ps : List (Nat × Operand)) (vs : List (Nat × AV)) (z : AV) (cs : List Value) {K : AV → Option R}, Parts x a ps vs → buildF P T' fs vs z K = some r → CR x z cs →
    ∃ v us, K v = some r ∧ CR x v us ∧ Instr.fill (pl.toArray[·]?) cs.toArray (ps.map fun p => (p.1, a.eval p.2)) = some us.toArray
  | [], vs, z, cs, K, hp, h, hc => by
    cases hp
    unfold buildF at h
    exact ⟨z, cs, h, hc, rfl⟩
  | (i, o) :: ps, vs, z, cs, K, hp, h, hc => by
    cases hp with
    | cons h1 h2 =>
      rename_i q vs
      obtain ⟨i', v⟩ := q
      obtain ⟨rfl, hv⟩ := h1
      unfold buildF at h
      split at h
      · rename_i f st hf hst
        cases hk : Nat.beq (offs st) f.offset && szOk P f.type v.sz && v.plain with
        | false => rw [hk] at h; cases h
        | true =>
          rw [hk, cond_true] at h
          simp only [Bool.and_eq_true] at hk
          obtain ⟨⟨k1, k2⟩, k3⟩ := hk
          have k1 := Nat.eq_of_beq_eq_true k1
          obtain ⟨us, hu, eu⟩ := vr_cr hv k3
          obtain ⟨z', m1, m2, m3⟩ := setK_ok st z cs v us h hc hu
          have hsz : ∃ j, P.info? f.type = some j ∧ j.size = us.length := by
            unfold szOk at k2
            split at k2
            · rename_i j hj; exact ⟨j, hj, (Nat.eq_of_beq_eq_true k2).trans (cr_len hu).symm⟩
            · cases k2
          obtain ⟨j, hj, hjs⟩ := hsz
          have hpi := hpl i' f j hf hj
          obtain ⟨v', us', n1, n2, n3⟩ := buildF_ok hpl ps vs z' _ h2 m1 m2
          refine ⟨v', us', n1, n2, ?_⟩
          rw [List.map_cons]
          show Instr.fill _ _ ((i', a.eval o) :: _) = _
          have eu : a.eval o = form v.isAgg us := eu
          rw [eu, fill_step (off := offs st) (by rw [k1, ← hjs]; simpa using hpi) hu m3]
          exact n3
      · cases h
theorem buildE_ok {x : Cx} {e : TypeId} {s : Nat} : ∀ (ps : List (Nat × Operand)) (vs : List (Nat × AV)) (z : AV) (cs : List Value) {K : AV → Option R}, Parts x a ps vs → buildE P e s vs z K = some r → CR x z cs →
    ∃ v us, K v = some r ∧ CR x v us ∧ Instr.fill (fun i => some (i * s, s)) cs.toArray (ps.map fun p => (p.1, a.eval p.2)) = some us.toArray
  | [], vs, z, cs, K, hp, h, hc => by
    cases hp
    unfold buildE at h
    exact ⟨z, cs, h, hc, rfl⟩
  | (i, o) :: ps, vs, z, cs, K, hp, h, hc => by
    cases hp with
    | cons h1 h2 =>
      rename_i q vs
      obtain ⟨i', v⟩ := q
      obtain ⟨rfl, hv⟩ := h1
      unfold buildE at h
      cases hk : Nat.beq v.sz s && v.plain with
      | false => rw [hk] at h; cases h
      | true =>
        rw [hk, cond_true] at h
        simp only [Bool.and_eq_true] at hk
        obtain ⟨k1, k3⟩ := hk
        have k1 := Nat.eq_of_beq_eq_true k1
        obtain ⟨us, hu, eu⟩ := vr_cr hv k3
        obtain ⟨z', m1, m2, m3⟩ := setK_ok [.idx i' s] z cs v us h hc hu
        obtain ⟨v', us', n1, n2, n3⟩ := buildE_ok ps vs z' _ h2 m1 m2
        refine ⟨v', us', n1, n2, ?_⟩
        rw [List.map_cons]
        show Instr.fill _ _ ((i', a.eval o) :: _) = _
        have eu : a.eval o = form v.isAgg us := eu
        have hl := cr_len hu
        rw [eu, fill_step (off := i' * s) (by rw [hl, k1]) hu m3]
        exact n3
theorem build_ok {ps : Array (Nat × Operand)} {vs : List (Nat × AV)} (h : Rel W S ρ w) (hp : Parts (cx W S ρ w) a ps.toList vs) (hK : buildA P T' vs S K = some r) : Comes P W S ρ w ⟨d, .build T' ps, ty, pos, af, g⟩ a K r := by
  unfold buildA at hK
  obtain ⟨z, i, zv, h1, h2, h3, hK⟩ := zerK_ok (x := cx W S ρ w) hK
  have fin : ∀ {v : AV} {us : List Value}, K v S = some r → CR (cx W S ρ w) v us → v.isAgg = true → P.built T' (ps.toList.map fun p => (p.1, a.eval p.2)) = some us.toArray → Comes P W S ρ w ⟨d, .build T' ps, ty, pos, af, g⟩ a K r := by
    intro v us k1 k2 k3 k4
    have := run_build w T' (ps.map fun p => (p.1, a.eval p.2)) us.toArray (by simpa using k4)
    refine Comes.is h (Does.val (v := .agg us.toArray) (by simp only [execOp, this, Sem.run_bind, Sem.run_pure, Result.andThen_ok])) k1 ?_
    have := cr_vr k2
    rw [k3] at this
    exact this
  split at hK
  · rename_i fs hu
    cases ha : fs.toList.all fun f => (P.info? f.type).isSome with
    | false => rw [ha] at hK; cases hK
    | true =>
      rw [ha, cond_true] at hK
      obtain ⟨pl, p1, p2⟩ := places_ok ha
      obtain ⟨v, us, k1, k2, k3⟩ := buildF_ok p2 ps.toList vs z _ hp hK h3
      have hz : zv.cells = zv.cells.toList.toArray := (Array.toArray_toList (xs := zv.cells)).symm
      rw [← hz] at k3
      cases hg : v.isAgg with
      | false => rw [hg] at k1; cases k1
      | true => rw [hg] at k1; exact fin k1 k2 hg (by unfold Program.built; rw [h1, hu]; simp only [h2, p1]; exact k3)
  · rename_i n e hu
    split at hK
    · rename_i j hj
      obtain ⟨v, us, k1, k2, k3⟩ := buildE_ok ps.toList vs z _ hp hK h3
      have hz : zv.cells = zv.cells.toList.toArray := (Array.toArray_toList (xs := zv.cells)).symm
      rw [← hz] at k3
      cases hg : v.isAgg with
      | false => rw [hg] at k1; cases k1
      | true => rw [hg] at k1; exact fin k1 k2 hg (by unfold Program.built; rw [h1, hu]; simp only [h2, hj]; exact k3)
    · cases hK
  · cases hK
end
end Go.Mx
namespace Go.Mx
open Go Go.RowKit Go.Sx
variable [Glb]
section
variable {R : Type} {P : Program} {r : R}
theorem elU_ok {e : TypeId} {K : (t : T) → Option R} (h : elU P e K = some r) : ∃ t i, K t = some r ∧ P.info? e = some i ∧ i.size = t.kd.sz ∧ 0 < i.bytes ∧ 0 < t.kd.sz ∧ t.sz ≤ 1024 ∧ ∃ zv, i.zero = some zv := by
  unfold elU at h
  split at h
  · rename_i t ht
    obtain ⟨h2, h⟩ | ⟨_, h⟩ := cond_elim h
    · rw [Bool.and_eq_true] at h2
      obtain ⟨h2, hz⟩ := h2
      unfold elOk at h2
      split at h2
      · rename_i i hi
        unfold hasZ at hz
        rw [hi] at hz
        simp only [Bool.and_eq_true, decide_eq_true_eq, Nat.blt_eq] at h2
        obtain ⟨⟨⟨g1, g2⟩, g3⟩, g4⟩ := h2
        exact ⟨t, i, h, hi, by rw [T.kd_sz]; exact Nat.eq_of_beq_eq_true g1, g2, by rw [T.kd_sz]; exact g3, g4, Option.isSome_iff_exists.1 hz⟩
      · cases h2
    · cases h
  · cases h
theorem elK_ok {e : TypeId} {K : (t : T) → t.den → Option R} (h : elK P e K = some r) : ∃ t z i zv, K t z = some r ∧ P.info? e = some i ∧ i.zero = some zv ∧ i.size = t.kd.sz ∧ 0 < i.bytes ∧ 0 < t.kd.sz ∧ t.sz ≤ 1024 ∧ zv.cells.size = t.kd.sz ∧ (∀ A hp, t.kd.K A hp z zv.cells.toList) ∧ P.bytesOf e = i.bytes := by
  unfold elK at h
  split at h
  · rename_i v t hv ht
    split at h
    · rename_i z hz
      cases hc : zOk P e v && elOk P e t with
      | false => rw [hc] at h; cases h
      | true =>
        rw [hc, cond_true] at h
        rw [Bool.and_eq_true] at hc
        obtain ⟨h1, h2⟩ := hc
        unfold elOk at h2
        split at h2
        · rename_i i hi
          simp only [Bool.and_eq_true, decide_eq_true_eq, Nat.blt_eq] at h2
          obtain ⟨⟨⟨g1, g2⟩, g3⟩, g4⟩ := h2
          have g1 := Nat.eq_of_beq_eq_true g1
          have hK : ∀ A hp, ∃ zv, i.zero = some zv ∧ t.kd.K A hp z zv.cells.toList := by
            intro A hp
            obtain ⟨i', zv, k1, k2, k3⟩ := zOk_ok (x := ⟨A, hp, fun _ => ⟨none, 0, 0, 0⟩, 0⟩) h1
            rw [hi] at k1
            obtain rfl := Option.some.inj k1
            exact ⟨zv, k2, dec_ok t v _ hz k3⟩
          obtain ⟨zv, k1, k2⟩ := hK (fun _ => False) #[]
          have k3 : ∀ A hp, t.kd.K A hp z zv.cells.toList := by
            intro A hp
            obtain ⟨zv', m1, m2⟩ := hK A hp
            rw [k1] at m1
            obtain rfl := Option.some.inj m1
            exact m2
          refine ⟨t, z, i, zv, h, hi, k1, by rw [T.kd_sz]; exact g1, g2, by rw [T.kd_sz]; exact g3, g4, ?_, k3, ?_⟩
          · have := t.kd.len k2
            simpa using this
          · unfold Program.bytesOf
            rw [hi]
            rfl
        · cases h2
    · cases h
  · cases h
theorem elemOf_ok {T' e : TypeId} (h : elemOf P T' = some e) : P.underlying T' = some (.slice e) := by
  unfold elemOf at h
  split at h
  · rename_i hu; obtain rfl := Option.some.inj h; exact hu
  · cases h
end
section
variable {R : Type} {P : Program} {W : Nat → Prop} {S : List AO} {ρ : Nat → Geo} {w w' : World} {a : Act}
variable {d : Option Nat} {ty T' T2 : TypeId} {pos : String} {af : Array Edge} {g : Option (Nat × Bool)} {y z : Operand} {K : KV R} {r : R}
theorem Aft.row (h : Rel W S ρ w) {e : TypeId} {t : T} {xs : List t.den} {p : Option Addr} {c : Nat} (hf : Fr w w' No) (hn : ∀ q, p = some q → w.heap.size ≤ q.block) (ho : Ow (Av [p] (cx W S ρ w).A) w' e t.kd p c xs) :
    Aft W S ρ w (S ++ [.row e t xs .own]) (upd ρ S.length ⟨p, xs.length, c, t.sz⟩) w' := by
  refine Aft.push h hf (fun _ q hq => hn q hq) (fun _ => ⟨rfl, rfl, ho.mono ?_⟩)
  rintro k _ (hW | ⟨i, o, q, hi, hown, ha, rfl⟩)
  · exact .inl (.inl hW)
  · rcases push_get hi with ⟨hl, gi⟩ | ⟨rfl, rfl⟩
    · rw [upd_other _ _ (Nat.ne_of_lt hl)] at ha
      exact .inl (.inr ⟨i, o, q, gi, hown, ha, rfl⟩)
    · rw [upd_same] at ha
      exact .inr ⟨q, by simp [← ha], rfl⟩
theorem view_vr {S : List AO} {o : AO} {p : Option Addr} {n c s : Nat} : VR (cx W (S ++ [o]) (upd ρ S.length ⟨p, n, c, s⟩) w') (.view S.length) (.slice p n c) :=
  ⟨[.slice p n c], rfl, by rw [CR]; exact ⟨by show S.length < (S ++ [o]).length; simp, by show _ = [Value.slice (upd ρ S.length _ S.length).a _ _]; rw [upd_same]; show _ = [Value.slice p (upd ρ S.length ⟨p, n, c, s⟩ S.length).n (upd ρ S.length ⟨p, n, c, s⟩ S.length).c]; rw [upd_same]⟩, rfl⟩
theorem ex_new {as : List (Option Addr)} {p : Option Addr} (h : Ex w No (p :: as) w') : ∀ q, p = some q → w.heap.size ≤ q.block := fun q hq => (h.nw q (by simp [hq])).elim id (fun h => h.elim)
theorem make_ok {n : Int} {k k' : IntKind} (h : Rel W S ρ w) (hd : a.defers = []) (hy : a.eval y = .int k n) (hz : a.eval z = .int k' n) (hK : makeA P T' n S K = some r) : Comes P W S ρ w ⟨d, .makeSlice T' y z, ty, pos, af, g⟩ a K r := by
  unfold makeA at hK
  split at hK
  · rename_i e he
    obtain ⟨t, zx, i, zv, hK, h1, h2, h3, h4, h5, h6, h7, h8, h9⟩ := elK_ok hK
    obtain ⟨⟨hn, hl⟩, hK⟩ := ck_elim hK
    have ha := bnd_has (a := a) (Op1 y + Op1 z) hd
    rw [h9] at hl
    refine (d_make (B := (cx W S ρ w).A) (kd := t.kd) (zx := zx) (zv := zv) (bytes := i.bytes) ha (elemOf_ok he) (by rw [h1]; simp only [Option.map_some, h2, h3]) h4 h8 (by rw [bnd_ev (by omega), hy]) (by rw [bnd_ev (by omega), hz]) (Ex.refl w No) hn ?_).mono ?_
    · have hl : n.toNat * i.bytes ≤ 140737488355328 := hl
      have e : (n.toNat : Int) = n := Int.toNat_of_nonneg hn
      calc n * (i.bytes : Int) = ((n.toNat * i.bytes : Nat) : Int) := by rw [Int.natCast_mul, e]
        _ ≤ ((140737488355328 : Nat) : Int) := Int.ofNat_le.2 hl
    · rintro u w' ⟨p, c, e1, hs, hE, hf, ho⟩
      exact ⟨_, _, _, hK, Aft.row h hf (ex_new hE) ho, by rw [e1]; exact view_vr⟩
  · cases hK
theorem decs_ok {x : Cx} {t : T} : ∀ {vs : List AV} {xs : List t.den} {css : List (List Value)}, decs t vs = some xs → A2 (fun v cs => CR x v cs) vs css → Els (t.kd.K x.A x.h) xs css.flatten ∧ css.length = xs.length ∧ ∀ c ∈ css, c.length = t.sz
  | [], xs, css, h, hc => by
    obtain rfl := Option.some.inj h
    cases hc
    exact ⟨.nil, rfl, fun c hc => by cases hc⟩
  | v :: vs, xs, css, h, hc => by
    rw [decs] at h
    split at h
    · rename_i d hd
      split at h
      · rename_i l hl
        obtain rfl := Option.some.inj h
        cases hc with
        | cons h1 h2 =>
          have hk := dec_ok t v _ hd h1
          obtain ⟨g1, g2, g3⟩ := decs_ok hl h2
          refine ⟨.cons hk g1, by simp [g2], fun c hc => ?_⟩
          rcases List.mem_cons.1 hc with rfl | hc
          · exact kd_len hk
          · exact g3 c hc
      · cases h
    · cases h
theorem inRow_ok {x : Cx} : ∀ (i : Nat) (ps : List (Nat × Operand)) (vs : List (Nat × AV)), Parts x a ps vs → inRow i vs = true →
    ∃ (us : List Value) (css : List (List Value)), ps.map (fun p => (p.1, a.eval p.2)) = (us.zipIdx i).map (fun p => (p.2, p.1)) ∧ A2 (fun v cs => CR x v cs) (vs.map (·.2)) css ∧ us.flatMap (fun u => u.cells.toList) = css.flatten ∧ us.length = vs.length ∧ us.map (fun u => u.cells.size) = css.map (·.length)
  | i, [], vs, hp, h => by cases hp; exact ⟨[], [], rfl, .nil, rfl, rfl, rfl⟩
  | i, (j, o) :: ps, vs, hp, h => by
    cases hp with
    | cons h1 h2 =>
      rename_i q vs
      obtain ⟨j', v⟩ := q
      obtain ⟨rfl, hv⟩ := h1
      rw [inRow, Bool.and_eq_true, Bool.and_eq_true] at h
      obtain ⟨⟨k1, k2⟩, k3⟩ := h
      have k1 := Nat.eq_of_beq_eq_true k1
      subst k1
      obtain ⟨cs, hc, e⟩ := vr_cr hv k2
      obtain ⟨us, css, g1, g2, g3, g4, g5⟩ := inRow_ok (j' + 1) ps vs h2 k3
      have hf := cr_form hc
      have e : a.eval o = form v.isAgg cs := e
      refine ⟨a.eval o :: us, cs :: css, ?_, .cons hc g2, ?_, by simp [g4], ?_⟩
      · rw [List.map_cons, List.zipIdx_cons, List.map_cons, g1]
      · rw [List.flatMap_cons, List.flatten_cons, g3, e, hf]
      · rw [List.map_cons, List.map_cons, g5, e, hf]
        simp
theorem parts_ev {N : Nat} : ∀ {ps : List (Nat × Operand)} {us : List (Value × Nat)}, (∀ p ∈ ps, Op1 p.2 ≤ N) → ps.map (fun p => (p.1, a.eval p.2)) = us.map (fun p => (p.2, p.1)) → ps.map (fun p => (p.1, Sx.ev (bnd a N) p.2)) = us.map (fun p => (p.2, some p.1))
  | [], us, _, h => by
    cases us with
    | nil => rfl
    | cons _ _ => cases h
  | p :: ps, us, hN, h => by
    cases us with
    | nil => cases h
    | cons u us =>
      rw [List.map_cons, List.map_cons, List.cons.injEq] at h
      obtain ⟨h1, h2⟩ := h
      obtain ⟨e1, e2⟩ := Prod.mk.inj h1
      rw [List.map_cons, List.map_cons, parts_ev (fun q hq => hN q (by simp [hq])) h2, bnd_ev (hN p (by simp)), e1, e2]
theorem ops_top : ∀ (ps : List (Nat × Operand)), ∃ N, ∀ p ∈ ps, Op1 p.2 ≤ N
  | [] => ⟨0, fun p hp => by cases hp⟩
  | p :: ps => by
    obtain ⟨N, h⟩ := ops_top ps
    refine ⟨N + Op1 p.2, fun q hq => ?_⟩
    rcases List.mem_cons.1 hq with rfl | hq
    · omega
    · have := h q hq; omega
theorem parts_len {x : Cx} : ∀ {ps : List (Nat × Operand)} {vs : List (Nat × AV)}, Parts x a ps vs → ps.length = vs.length
  | _, _, .nil => rfl
  | _, _, .cons _ h => by simp [parts_len h]
theorem Aft.quiet {w' : World} (h : Rel W S ρ w) (hf : Fr w w' No) : Aft W S ρ w S ρ w' :=
  Aft.of (O1 := No) h hf (fun _ h => h.elim) (fun _ hk => .inl hk) (fun _ _ => rfl) (Nat.le_refl _) (fun _ i o hi => .inl ⟨hi, fun _ _ _ h => h.elim⟩) h.dj
theorem buildNone_ok {e : TypeId} {s : Nat} {t : T} (h : Rel W S ρ w) (hT : P.underlying T' = some (.slice e)) (hs : ∀ w, (sizeOf e).run P w = .ok s w) (hK : K (.cut t) S = some r) : Comes P W S ρ w ⟨d, .buildSlice T' 0 #[], ty, pos, af, g⟩ a K r := by
  refine (Does.val (v := .slice (some ⟨w.heap.size, 0, none⟩) 0 0) (w' := w.alloc (.cells ((Array.range 0).map fun _ => default) e)) ?_).mono ?_
  · simp [execOp, Instr.buildSlice, run_underlying hT, hs, Instr.fill, Go.newRow]
  · rintro u w' ⟨rfl, rfl⟩
    exact ⟨_, S, ρ, hK, Aft.quiet h (Fr.alloc _ _ _), ⟨[.slice (some ⟨w.heap.size, 0, none⟩) 0 0], rfl, by rw [CR]; exact ⟨_, rfl⟩, rfl⟩⟩
theorem buildSlice_ok {n : Nat} {ps : Array (Nat × Operand)} {vs : List (Nat × AV)} (h : Rel W S ρ w) (hd : a.defers = []) (hp : Parts (cx W S ρ w) a ps.toList vs) (hK : buildSliceA P T' n vs S K = some r) : Comes P W S ρ w ⟨d, .buildSlice T' n ps, ty, pos, af, g⟩ a K r := by
  unfold buildSliceA at hK
  split at hK
  · rename_i e he
    obtain ⟨t, i, hK, h1, h3, h4, h5, h6, zv, h2⟩ := elU_ok hK
    obtain ⟨h0, hK0⟩ | ⟨_, hK0⟩ := cond_elim hK
    · rw [Bool.and_eq_true] at h0
      have e1 := Nat.eq_of_beq_eq_true h0.1
      have e2 := Nat.eq_of_beq_eq_true h0.2
      have e3 : ps = #[] := by
        have := parts_len hp
        have : ps.toList = [] := List.length_eq_zero_iff.1 (by omega)
        simpa using this
      subst e1 e3
      exact buildNone_ok h (elemOf_ok he) (run_size (info_sz h1)) hK0
    replace hK := hK0
    cases hc : Nat.beq vs.length n && inRow 0 vs && decide (n ≤ 16384) with
    | false => rw [hc] at hK; cases hK
    | true =>
      rw [hc, cond_true] at hK
      simp only [Bool.and_eq_true, decide_eq_true_eq] at hc
      obtain ⟨⟨c1, c2⟩, c3⟩ := hc
      have c1 := Nat.eq_of_beq_eq_true c1
      obtain ⟨us, css, g1, g2, g3, g4, g5⟩ := inRow_ok 0 ps.toList vs hp c2
      cases hfz : frzL (vs.map (·.2)) S with
      | mk vs' S1 =>
        rw [hfz] at hK
        simp only at hK
        obtain ⟨A1, k1⟩ := frzL_ok _ h hfz g2
        split at hK
        · rename_i xs hxs
          obtain ⟨m1, m2, m3⟩ := decs_ok hxs k1
          obtain ⟨N, hN⟩ := ops_top ps.toList
          have ha := bnd_has (a := a) N hd
          have hlen : us.length = n := by omega
          have hcl : css.length = us.length := by have := congrArg List.length g5; simpa using this.symm
          have := d_buildSlice (d := d) (ty := ty) (pos := pos) (af := af) (g := g) (B := (cx W S1 ρ w).A) (as := []) (S0 := No) (w0 := w) (kd := t.kd) (xs := xs) (vs := us) (q := n) ha (elemOf_ok he) (fun w => by have := run_size (info_sz h1) w; rwa [h3] at this) (run_zero h1 h2)
            (parts_ev hN g1) (by rw [g3]; exact m1.imp (fun _ _ hk => t.kd.mono hk (fun k _ hv => by rcases hv with hv | ⟨q, hq, _⟩; exact hv; cases hq)))
            (fun v hv => by
              obtain ⟨j, hj⟩ := List.getElem?_of_mem hv
              have e1 : (us.map fun u => u.cells.size)[j]? = some v.cells.size := by rw [List.getElem?_map, hj]; rfl
              rw [g5, List.getElem?_map] at e1
              obtain ⟨c, hc, ec⟩ := Option.map_eq_some_iff.1 e1
              rw [← ec, T.kd_sz]
              exact m3 c (List.mem_of_getElem? hc))
            hlen (by omega) (by rw [T.kd_sz]; calc n * t.sz ≤ 16384 * 1024 := Nat.mul_le_mul c3 h6
              _ = 16777216 := rfl) (by omega) (Ex.refl w No)
          rw [Array.toArray_toList] at this
          refine this.mono ?_
          rintro u w' ⟨p, c, e1, hs, hE, hf, ho⟩
          exact ⟨_, _, _, hK, A1.trans (Aft.row A1.rel hf (ex_new hE) ho), by rw [e1]; exact view_vr⟩
        · cases hK
  · cases hK
end
end Go.Mx
namespace Go.Mx
open Go Go.RowKit Go.Sx
variable [Glb]
def ckd {α : Type} (d : Kd α) (A : Nat → Prop) (h : Array Obj) : Kd α where
  sz := d.sz
  K := fun _ _ x cs => d.K A h x cs
  len := fun h => d.len h
  one := fun h => d.one h
  step := fun h _ _ => h
  mono := fun h _ => h
section
variable {R : Type} {P : Program} {W : Nat → Prop} {S : List AO} {ρ : Nat → Geo} {w w' : World} {a : Act}
variable {d : Option Nat} {ty T' T2 : TypeId} {pos : String} {af : Array Edge} {g : Option (Nat × Bool)} {y z : Operand} {K : KV R} {r : R}
def cx0 (w : World) : Cx := ⟨No, w.heap, fun _ => ⟨none, 0, 0, 0⟩, 0⟩
theorem row_r0 (h : Rel W S ρ w) {i : Nat} {e : TypeId} {t : T} {xs : List t.den} {m : Md} (hi : S[i]? = some (.row e t xs m)) : RowR (cx0 w) (cx0 w).A (ckd t.kd (cx W S ρ w).A w.heap) (ρ i).a (ρ i).c xs := by
  obtain ⟨_, _, g3, g4, cells, he, hl⟩ := row_lies h hi
  refine ⟨g3, g4, cells, he, fun hne => ?_⟩
  obtain ⟨b, ha, hL⟩ := hl hne
  exact ⟨b, ha, fun h => h, hL⟩
def Rd (W : Nat → Prop) (S : List AO) (ρ : Nat → Geo) (w : World) (u : Value) (t : T) (xs : List t.den) : Prop := ∃ q c, u = .slice q xs.length c ∧ Raw No (ckd t.kd (cx W S ρ w).A w.heap) w.heap q c xs
theorem sdat_ok {v d' : AV} {u : Value} (h : Rel W S ρ w) (hv : VR (cx W S ρ w) v u) (hd : sdat S v = some d') : ∃ (t : T) (xs : List t.den), d' = .dat (.sl t) xs ∧ Rd W S ρ w u t xs := by
  have raw : ∀ {t : T} {xs : List t.den} {q : Option Addr} {c : Nat}, Raw (cx W S ρ w).A t.kd w.heap q c xs → Raw No (ckd t.kd (cx W S ρ w).A w.heap) w.heap q c xs := by
    rintro t xs q c ⟨h1, h2, cells, he, hm⟩
    exact ⟨h1, h2, cells, he, fun hne => by obtain ⟨b, o, C, T, fr, e1, _, e2⟩ := hm hne; exact ⟨b, o, C, T, fr, e1, fun h => h, e2⟩⟩
  have win : ∀ {i : Nat} {e : TypeId} {t : T} {xs : List t.den} {m : Md} {o n c : Nat} {q : Option Addr}, S[i]? = some (.row e t xs m) → o + n ≤ (ρ i).n → n ≤ c → c ≤ maxLen → (n ≠ 0 → ∃ b, (ρ i).a = some ⟨b, 0, none⟩ ∧ q = some ⟨b, o * (ρ i).s, none⟩) → u = .slice q n c → Rd W S ρ w u t ((xs.drop o).take n) := by
    intro i e t xs m o n c q hi h1 h2 h3 h4 hu
    obtain ⟨g1, g2, _⟩ := row_lies h hi
    obtain ⟨k1, k2⟩ := raw_sub (row_r0 h hi) (o := o) (n := n) (c' := c) (q := q) (by omega) h2 h3 (fun hn => by
      obtain ⟨b, e1, e2⟩ := h4 hn
      exact ⟨b, e1, by rw [e2, g2, ← T.kd_sz]; rfl⟩)
    exact ⟨q, c, by rw [hu, k2], k1⟩
  have pre : ∀ {i : Nat} {e : TypeId} {t : T} {xs : List t.den} {m : Md} {n c : Nat}, S[i]? = some (.row e t xs m) → n ≤ (ρ i).n → n ≤ c → c ≤ (ρ i).c → u = .slice (ρ i).a n c → Rd W S ρ w u t (xs.take n) := by
    intro i e t xs m n c hi h1 h2 h3 hu
    obtain ⟨g1, _, _, g4, _⟩ := row_lies h hi
    have := win (o := 0) hi (by omega) h2 (by omega) (fun hn => by
      obtain ⟨b, ha⟩ := row_a h hi (by intro e; rw [e] at g1; simp at g1; omega)
      exact ⟨b, ha, by rw [Nat.zero_mul]; exact ha⟩) hu
    rwa [List.drop_zero] at this
  unfold sdat at hd
  split at hd
  · obtain rfl := Option.some.inj hd
    obtain ⟨cs, hr, e⟩ := vr_dat hv
    obtain ⟨q, c, e2, hr⟩ := hr
    exact ⟨_, _, rfl, q, c, by rw [e, e2]; rfl, raw hr⟩
  · obtain rfl := Option.some.inj hd
    obtain ⟨cs, e, hc, _⟩ := hv
    rw [CR] at hc
    obtain ⟨p, c, e2, hr⟩ := hc
    exact ⟨_, _, rfl, some p, c, by rw [e, e2]; rfl, raw hr⟩
  · obtain rfl := Option.some.inj hd
    obtain ⟨cs, e, hc, _⟩ := hv
    rw [CR] at hc
    obtain ⟨q, e2⟩ := hc
    exact ⟨_, [], rfl, q, 0, by rw [e, e2]; rfl, Raw.nil _ _ _ q 0 (Nat.zero_le _)⟩
  · obtain rfl := Option.some.inj hd
    obtain ⟨cs, e, hc, _⟩ := hv
    rw [CR] at hc
    obtain ⟨q, hq, e2⟩ := hc
    exact ⟨_, [], rfl, none, q, by rw [e, e2]; rfl, Raw.nil _ _ _ none q hq⟩
  · split at hd
    · rename_i hi
      obtain rfl := Option.some.inj hd
      obtain ⟨cs, e, hc, _⟩ := hv
      rw [CR] at hc
      obtain ⟨g1, _, g3, _⟩ := row_lies h hi
      have := pre hi (Nat.le_refl _) (by omega) (Nat.le_refl _) (by rw [e, hc.2]; rfl)
      rw [List.take_of_length_le (by omega)] at this
      exact ⟨_, _, rfl, this⟩
    · cases hd
  · split at hd
    · rename_i hi
      obtain rfl := Option.some.inj hd
      obtain ⟨cs, e, hc, _⟩ := hv
      rw [CR] at hc
      obtain ⟨g1, _, g3, _⟩ := row_lies h hi
      have hn : _ ≤ (ρ _).n := hc.2.1
      exact ⟨_, _, rfl, pre hi hn (by omega) (Nat.le_refl _) (by rw [e, hc.2.2]; rfl)⟩
    · cases hd
  · split at hd
    · rename_i hi
      obtain rfl := Option.some.inj hd
      obtain ⟨cs, e, hc, _⟩ := hv
      rw [CR] at hc
      obtain ⟨g1, _, g3, _⟩ := row_lies h hi
      have hn : _ ≤ (ρ _).n := hc.2.1
      exact ⟨_, _, rfl, pre hi hn (Nat.le_refl _) (by omega) (by rw [e, hc.2.2]; rfl)⟩
    · cases hd
  · split at hd
    · rename_i hi
      obtain rfl := Option.some.inj hd
      obtain ⟨cs, e, hc, _⟩ := hv
      rw [CR] at hc
      obtain ⟨_, c2, q, c, c3, c4, c5, c6⟩ := hc
      exact ⟨_, _, rfl, win hi c2 c3 c4 c5 (by rw [e, c6]; rfl)⟩
    · cases hd
  · cases hd
theorem sdatY_ok {v : AV} {u : Value} {t : T} {ys : List t.den} (h : Rel W S ρ w) (hv : VR (cx W S ρ w) v u) (hd : sdatY S t v = some ys) : Rd W S ρ w u t ys := by
  unfold sdatY at hd
  split at hd
  · obtain rfl := Option.some.inj hd
    exact ⟨none, 0, vr_nils hv, Raw.nil _ _ _ none 0 (Nat.zero_le _)⟩
  · split at hd
    · rename_i d' hs
      obtain ⟨t', xs, rfl, hr⟩ := sdat_ok h hv hs
      rw [dec_dat] at hd
      split at hd
      · rename_i e
        obtain rfl : t' = t := T.sl.inj e
        obtain rfl := Option.some.inj hd
        exact hr
      · cases hd
    · cases hd
theorem ow_c {A B : Nat → Prop} {e : TypeId} {t : T} {p : Option Addr} {c : Nat} {xs : List t.den} (h : Ow A w e t.kd p c xs) : Ow B w e (ckd t.kd A w.heap) p c xs := by
  obtain ⟨cells, h1, h2⟩ := h
  exact ⟨cells, h1, h2⟩
theorem c_ow {A A' B : Nat → Prop} {e : TypeId} {t : T} {p : Option Addr} {c : Nat} {xs : List t.den} (h : Ow B w' e (ckd t.kd A w.heap) p c xs) (hK : ∀ x cs, t.kd.K A w.heap x cs → t.kd.K A' w'.heap x cs) : Ow A' w' e t.kd p c xs := by
  obtain ⟨cells, h1, h2⟩ := h
  exact ⟨cells, h1, h2.imp hK⟩
theorem ex_one {p : Option Addr} (hlt : ∀ q, p = some q → q.block < w.heap.size) : Ex w (Av [p] No) [p] w :=
  ⟨Fr.refl _ _, List.pairwise_singleton _ _, fun q hq => hlt q (List.mem_singleton.1 hq).symm, fun q hq => .inr (.inr ⟨q, hq, rfl⟩)⟩
theorem Aft.grow (h : Rel W S ρ w) {i : Nat} {e : TypeId} {t : T} {xs zs : List t.den} (hi : S[i]? = some (.row e t xs .own)) {p' : Option Addr} {c' : Nat} (hf : Fr w w' (fun k => ∃ s, (ρ i).a = some s ∧ s.block = k)) (hs : Sx.Step [(ρ i).a] [p'] w w')
    (ho : Ow (Av [p'] No) w' e (ckd t.kd (cx W S ρ w).A w.heap) p' c' zs) : Aft W S ρ w (S.set i .gone ++ [.row e t zs .own]) (upd ρ S.length ⟨p', zs.length, c', t.sz⟩) w' := by
  refine Aft.move h hi rfl hf (fun _ p hp => ?_) (fun le => ⟨rfl, rfl, c_ow ho (fun x cs hK => le.K (x := cx W S ρ w) hK)⟩)
  rcases hs.new p (by simp [← hp]) with ⟨q, hq, hb⟩ | h1
  · exact .inl ⟨q, (List.mem_singleton.1 hq).symm, hb⟩
  · exact .inr h1
theorem view_vr' {i : Nat} {o : AO} {p : Option Addr} {n c s : Nat} : VR (cx W (S.set i .gone ++ [o]) (upd ρ S.length ⟨p, n, c, s⟩) w') (.view S.length) (.slice p n c) :=
  ⟨[.slice p n c], rfl, by rw [CR]; exact ⟨by show S.length < (S.set i .gone ++ [o]).length; simp, by show _ = [Value.slice (upd ρ S.length _ S.length).a _ _]; rw [upd_same]; show _ = [Value.slice p (upd ρ S.length ⟨p, n, c, s⟩ S.length).n (upd ρ S.length ⟨p, n, c, s⟩ S.length).c]; rw [upd_same]⟩, rfl⟩
theorem Ow.pre {A : Nat → Prop} {e : TypeId} {t : T} {p : Option Addr} {c n : Nat} {xs : List t.den} (h : Ow A w e t.kd p c xs) (hn : n ≤ xs.length) : Ow A w e t.kd p c (xs.take n) := by
  by_cases hx : xs = []
  · subst hx
    rw [List.take_nil]
    exact h
  · obtain ⟨b, cur, e1, hb, h1, h2, h3, h4⟩ := own_bx h hx
    rw [e1]
    have hl : (xs.take n).length = n := by rw [List.length_take]; omega
    refine bx_own hb (by omega) h2 h3 ?_
    have := h4.take (fun _ _ h => t.kd.len h) n
    rw [hl]
    rw [List.take_take, Nat.min_eq_left (Nat.mul_le_mul_right _ hn)] at this
    exact this
theorem append_new {p q : Option Addr} {n cq : Nat} {α : Type} {kd : Kd α} {e : TypeId} {i : TypeInfo} {zv : Value} {xs ys : List α} (hT : P.underlying T' = some (.slice e)) (h1 : P.info? e = some i) (h2 : i.zero = some zv) (h3 : i.size = kd.sz) (h5 : 0 < kd.sz) (h4 : 0 < i.bytes) (h7 : zv.cells.size = kd.sz)
    (hx : Raw No kd w.heap p n xs) (hn : xs.length = n) (hy : Raw No kd w.heap q cq ys) (hys : ys ≠ []) (hl : (n + ys.length) * i.bytes ≤ 140737488355328) :
    ∃ c' w', (Builtin.append_ #[T', T'] ty #[.slice p n n, .slice q ys.length cq]).run P w = .ok (.slice (some ⟨w.heap.size, 0, none⟩) (xs ++ ys).length c') w' ∧ Fr w w' No ∧ ∀ (hK : ∀ x cs, kd.K No w.heap x cs → kd.K No w'.heap x cs), Ow No w' e kd (some ⟨w.heap.size, 0, none⟩) c' (xs ++ ys) := by
  obtain ⟨_, _, olds, he, hm⟩ := hx
  obtain ⟨_, _, news, hne, hm2⟩ := hy
  obtain ⟨b2, o2, C2, T2, f2, rfl, _, hb2, hc2⟩ := hm2 hys
  have ho : olds.length = n * i.size := by rw [he.length (fun _ _ h => kd.len h), hn, h3]
  have hnl : news.length = ys.length * i.size := by rw [hne.length (fun _ _ h => kd.len h), h3]
  have hyl : 0 < ys.length := List.length_pos_iff.2 hys
  have hnews : ∀ j u, news[j]? = some u → w.cell? ((⟨b2, o2, none⟩ : Addr).add j) = some u := fun j u hu => by rw [add_at, cell_of_row w b2 _ C2 T2 f2 hb2]; exact hc2 j u hu
  have hsum : n + ys.length ≤ 140737488355328 := Nat.le_trans (Nat.le_mul_of_pos_right _ h4) hl
  have hml : n + ys.length ≤ maxLen := by simp only [maxLen]; omega
  have hge := grownCap_ge w (n + ys.length) n e
  have hcm := grownCap_le_maxLen w (n + ys.length) n e hml
  have hxl : (xs ++ ys).length = n + ys.length := by rw [List.length_append, hn]
  have run : (Builtin.append_ #[T', T'] ty #[.slice p n n, .slice (some ⟨b2, o2, none⟩) ys.length cq]).run P w = .ok (.slice (some ⟨w.heap.size, 0, none⟩) (n + ys.length) (grownCap w (n + ys.length) n e)) (w.drew.alloc (.cells (olds.toArray ++ news.toArray ++ Builtin.zeroCells zv.cells (grownCap w (n + ys.length) n e - (n + ys.length))) e)) := by
    cases p with
    | some b =>
      refine run_append_grow (P := P) w T' ty e i zv hT h1 h2 b n n olds ho (fun j v hj => ?_) ⟨b2, o2, none⟩ ys.length cq news hnl hnews (by omega) (by omega) (growslice_fits (by omega) hl)
      obtain ⟨b', o', C, TT, fr, e1, _, hb, hc⟩ := hm (by
        intro e0
        subst e0
        cases he
        simp at hj)
      obtain rfl := Option.some.inj e1
      rw [add_at, cell_of_row w b' _ C TT fr hb]
      exact hc j v hj
    | none =>
      have hx0 : xs = [] := Classical.byContradiction fun hne => by
        obtain ⟨b', o', C, TT, fr, e1, _⟩ := hm hne
        cases e1
      subst hx0
      have hn0 : n = 0 := hn.symm
      subst hn0
      cases he
      have := run_append_nil (P := P) w T' ty e i zv hT h1 h2 ⟨b2, o2, none⟩ ys.length cq news hnl hnews hyl (by omega) (by rw [Nat.zero_add] at hl; omega)
      simpa using this
  refine ⟨grownCap w (n + ys.length) n e, w.drew.alloc (.cells (olds.toArray ++ news.toArray ++ Builtin.zeroCells zv.cells (grownCap w (n + ys.length) n e - (n + ys.length))) e), by rw [hxl]; exact run, ⟨rfl, rfl, rfl, by simp, fun k hk _ => heap_alloc_old w.drew _ hk⟩, fun hK => ⟨olds ++ news, ⟨?_, .inr ⟨w.heap.size, _, _, by rw [hxl], Nat.zero_le _, heap_alloc_new w.drew _, by rw [hxl]; exact hge, hcm, ?_, ?_⟩⟩, (he.imp hK).append (hne.imp hK)⟩⟩
  · rw [List.length_append, ho, hnl, hxl, ← Nat.add_mul, h3]
  · simp only [Array.size_append, List.size_toArray, size_zeroCells, h7, ho, hnl, h3, ← Nat.add_mul]
    congr 1
    omega
  · simp only [Array.toList_append, List.append_assoc]
    rw [← List.append_assoc]
    have : (xs ++ ys).length * kd.sz = (olds ++ news).length := by rw [hxl, List.length_append (as := olds), ho, hnl, ← Nat.add_mul, h3]
    rw [this]
    exact List.take_left
theorem append_none {p q : Option Addr} {n c cq : Nat} {e : TypeId} {i : TypeInfo} (hT : P.underlying T' = some (.slice e)) (h1 : P.info? e = some i) (hc : n ≤ c) :
    (Builtin.append_ #[T', T'] ty #[.slice p n c, .slice q 0 cq]).run P w = .ok (.slice p n c) w := by
  have hf : (Builtin.firstCells i.size 0 (.slice q 0 cq)).run P w = .ok #[] w := by
    cases q with
    | none => simp [Builtin.firstCells]
    | some b =>
      have := run_loadCells_list (P := P) w b [] (fun j v hv => by simp at hv)
      simpa [Builtin.firstCells] using this
  cases p with
  | none => simp [Builtin.append_, run_underlying hT, sizeOf, typeInfo, h1, Builtin.lenOf, hc, hf]
  | some b => simp [Builtin.append_, run_underlying hT, sizeOf, typeInfo, h1, Builtin.lenOf, hc, hf, storeCells]
theorem append_does {s x v : Value} (hr : (Builtin.append_ #[T', T2] ty #[s, x]).run P w = .ok v w') (e1 : a.eval y = s) (e2 : a.eval z = x) : Does P ⟨d, .call { callee := .builtin .append, args := #[y, z], argTypes := #[T', T2] }, ty, pos, af, g⟩ a w (Is v w') :=
  Does.val (by simp [execOp, e1, e2, resolve, invoke, builtin, hr])
theorem append_ok {u v : AV} (h : Rel W S ρ w) (hd : a.defers = []) (hy : VR (cx W S ρ w) u (a.eval y)) (hz : VR (cx W S ρ w) v (a.eval z)) {e : TypeId} (he : elemOf P T' = some e) (hK : appendA P e u v S K = some r) :
    Comes P W S ρ w ⟨d, .call { callee := .builtin .append, args := #[y, z], argTypes := #[T', T'] }, ty, pos, af, g⟩ a K r := by
  have hy0 := hy
  have ha := bnd_has (a := a) (Op1 y + Op1 z) hd
  have ey : Sx.ev (bnd a (Op1 y + Op1 z)) y = some (a.eval y) := bnd_ev (by omega)
  have ez : Sx.ev (bnd a (Op1 y + Op1 z)) z = some (a.eval z) := bnd_ev (by omega)
  unfold appendA at hK
  obtain ⟨t, zx, i, zv, hK, h1, h2, h3, h4, h5, h6, h7, h8, h9⟩ := elK_ok hK
  split at hK
  · rename_i ys hys
    obtain ⟨q, cq, eq, hr⟩ := sdatY_ok h hz hys
    have hinf : (P.info? e).map (fun i => (i.zero, i.size, i.bytes)) = some (some zv, (ckd t.kd (cx W S ρ w).A w.heap).sz, i.bytes) := by rw [h1]; simp only [Option.map_some, h2, h3]; rfl
    -- a row of one's own, or none, and what is put behind
    have main : ∀ {p : Option Addr} {c : Nat} {xs : List t.den}, a.eval y = .slice p xs.length c → Ow (Av [p] No) w e (ckd t.kd (cx W S ρ w).A w.heap) p c xs → (xs.length + ys.length) * P.bytesOf e ≤ limit →
        Does P ⟨d, .call { callee := .builtin .append, args := #[y, z], argTypes := #[T', T'] }, ty, pos, af, g⟩ a w (fun v w' => ∃ p' c', v = .slice p' (xs ++ ys).length c' ∧ Sx.Step [p] [p'] w w' ∧ Fr w w' (fun k => ∃ s, p = some s ∧ s.block = k) ∧ Ow (Av [p'] No) w' e (ckd t.kd (cx W S ρ w).A w.heap) p' c' (xs ++ ys)) := by
      intro p c xs e1 ho hl
      rw [h9] at hl
      exact (d_append (fun q => [q]) (lf := []) (rt := []) (B := No) (B2 := No) (fun _ => rfl) ha (elemOf_ok he) hinf h7 h5 h4 (by rw [ey, e1]) (by rw [ez, eq]) (ex_one ho.lt) ho hr (fun _ _ h => h) hl).mono (fun v w' ⟨p', c', k1, k2, _, k3, k4⟩ => ⟨p', c', k1, k2, k3, k4⟩)
    split at hK
    · obtain ⟨hl, hK⟩ := ck_elim hK
      have e1 := vr_nils hy
      refine (main (p := none) (c := 0) (xs := []) e1 (ow_c (A := (cx W S ρ w).A) (Ow.nil _ _ _ _)) (by simpa using hl)).mono ?_
      rintro u' w' ⟨p', c', k1, k2, k3, k4⟩
      rw [List.nil_append] at k1 k4
      have hf : Fr w w' No := k3.mono (fun k _ ⟨s, hs, _⟩ => by cases hs)
      refine ⟨_, _, _, hK, Aft.push h hf (g := ⟨p', ys.length, c', t.sz⟩) (fun _ p hp => ?_) (fun le => ⟨rfl, rfl, c_ow k4 (fun x cs hK => le.K (x := cx W S ρ w) hK)⟩), by rw [k1]; exact view_vr⟩
      rcases k2.new p (by simp [← hp]) with ⟨q', hq', _⟩ | h1
      · cases List.mem_singleton.1 hq'
      · exact h1
    · rename_i j _
      obtain ⟨cs, e1, hc, _⟩ := hy
      rw [CR] at hc
      cases hj : v.ids.contains j with
      | true => rw [hj] at hK; cases hK
      | false =>
        rw [hj, cond_false] at hK
        split at hK
        · rename_i e' t' xs hi
          split at hK
          · rename_i ht
            subst ht
            cases hee : Nat.beq e' e with
            | false => rw [hee] at hK; cases hK
            | true =>
              rw [hee, cond_true] at hK
              have hee := Nat.eq_of_beq_eq_true hee
              subst hee
              obtain ⟨hl, hK⟩ := ck_elim hK
              obtain ⟨g1, g2, g3⟩ := h.ob j _ hi
              rw [hc.2] at e1
              have e1 : a.eval y = .slice (ρ j).a xs.length (ρ j).c := by rw [← g1]; exact e1
              refine (main e1 (ow_c g3) hl).mono ?_
              rintro u' w' ⟨p', c', k1, k2, k3, k4⟩
              exact ⟨_, _, _, hK, Aft.grow h hi k3 k2 k4, by rw [k1]; rw [show (S.set j AO.gone).length = S.length by simp]; exact view_vr'⟩
          · cases hK
        · cases hK
    · rename_i j n _
      obtain ⟨cs, e1, hc, _⟩ := hy
      rw [CR] at hc
      cases hj : v.ids.contains j with
      | true => rw [hj] at hK; cases hK
      | false =>
        rw [hj, cond_false] at hK
        split at hK
        · rename_i e' t' xs hi
          split at hK
          · rename_i ht
            subst ht
            cases hee : Nat.beq e' e with
            | false => rw [hee] at hK; cases hK
            | true =>
              rw [hee, cond_true] at hK
              have hee := Nat.eq_of_beq_eq_true hee
              subst hee
              obtain ⟨hl, hK⟩ := ck_elim hK
              obtain ⟨g1, g2, g3⟩ := h.ob j _ hi
              obtain ⟨c1, c2, c3⟩ := hc
              have c2 : n ≤ (ρ j).n := c2
              rw [c3] at e1
              have hln : (xs.take n).length = n := by rw [List.length_take]; omega
              have e1 : a.eval y = .slice (ρ j).a (xs.take n).length (ρ j).c := by rw [hln]; exact e1
              refine (main e1 (ow_c (Ow.pre g3 (by omega))) (by rw [hln]; exact hl)).mono ?_
              rintro u' w' ⟨p', c', k1, k2, k3, k4⟩
              exact ⟨_, _, _, hK, Aft.grow h hi k3 k2 k4, by rw [k1]; rw [show (S.set j AO.gone).length = S.length by simp]; exact view_vr'⟩
          · cases hK
        · cases hK
    · rename_i j n _
      obtain ⟨cs, e1, hc, _⟩ := hy
      rw [CR] at hc
      split at hK
      · rename_i e' t' xs m z0 zs hi
        split at hK
        · rename_i ht
          subst ht
          cases hee : Nat.beq e' e with
          | false => rw [hee] at hK; cases hK
          | true =>
            rw [hee, cond_true] at hK
            have hee := Nat.eq_of_beq_eq_true hee
            subst hee
            obtain ⟨hl, hK⟩ := ck_elim hK
            obtain ⟨g1, g2, g3, g4, _⟩ := row_lies h hi
            obtain ⟨c1, c2, c3⟩ := hc
            have c2 : n ≤ (ρ j).n := c2
            rw [c3] at e1
            have e1 : a.eval y = .slice (ρ j).a n n := e1
            have hln : (xs.take n).length = n := by rw [List.length_take]; omega
            have hx : Raw No (ckd t'.kd (cx W S ρ w).A w.heap) w.heap (ρ j).a n (xs.take n) := by
              have := (raw_sub (row_r0 h hi) (o := 0) (n := n) (c' := n) (q := (ρ j).a) (by omega) (Nat.le_refl _) (by omega) (fun hn => by
                obtain ⟨b, ha⟩ := row_a h hi (by intro e; rw [e] at g1; simp at g1; omega)
                exact ⟨b, ha, by rw [Nat.zero_mul]; exact ha⟩)).1
              rwa [List.drop_zero] at this
            rw [h9] at hl
            obtain ⟨c', w', k1, k2, k3⟩ := append_new (ty := ty) (kd := ckd t'.kd (cx W S ρ w).A w.heap) (elemOf_ok he) h1 h2 h3 h5 h4 h7 hx hln hr (by simp) hl
            refine (append_does k1 e1 eq).mono ?_
            rintro u' w'' ⟨eu, ew⟩
            subst ew
            have ko := k3 (fun _ _ h => h)
            refine ⟨_, _, _, hK, Aft.push h k2 (g := ⟨some ⟨w.heap.size, 0, none⟩, (xs.take n ++ (z0 :: zs)).length, c', t'.sz⟩) (fun _ p hp => ?_) (fun le => ⟨rfl, rfl, c_ow ko (fun x cs hK => le.K (x := cx W S ρ w) hK)⟩), by rw [eu]; exact view_vr⟩
            obtain rfl := Option.some.inj hp
            exact Nat.le_refl _
        · cases hK
      · obtain ⟨c1, c2, c3⟩ := hc
        rw [c3] at e1
        have e1 : a.eval y = .slice (ρ j).a n n := e1
        exact Comes.is h (append_does (append_none (elemOf_ok he) h1 (Nat.le_refl _)) e1 eq) hK (by rw [← e1]; exact hy0)
      · cases hK
    · rename_i t' _
      obtain ⟨cs, e1, hc, _⟩ := hy
      rw [CR] at hc
      obtain ⟨q', c3⟩ := hc
      rw [c3] at e1
      have e1 : a.eval y = .slice q' 0 0 := e1
      split at hK
      · exact Comes.is h (append_does (append_none (elemOf_ok he) h1 (Nat.le_refl _)) e1 eq) hK (by rw [← e1]; exact hy0)
      · rename_i z0 zs
        obtain ⟨hl, hK⟩ := ck_elim hK
        rw [h9] at hl
        obtain ⟨c', w', k1, k2, k3⟩ := append_new (ty := ty) (kd := ckd t.kd (cx W S ρ w).A w.heap) (xs := []) (n := 0) (p := q') (elemOf_ok he) h1 h2 h3 h5 h4 h7 ⟨Nat.le_refl _, Nat.zero_le _, [], .nil, fun h => absurd rfl h⟩ rfl hr (by simp) (by rw [Nat.zero_add]; exact hl)
        refine (append_does k1 e1 eq).mono ?_
        rintro u' w'' ⟨eu, ew⟩
        subst ew
        have ko := k3 (fun _ _ h => h)
        refine ⟨_, _, _, hK, Aft.push h k2 (g := ⟨some ⟨w.heap.size, 0, none⟩, (z0 :: zs).length, c', t.sz⟩) (fun _ p hp => ?_) (fun le => ⟨rfl, rfl, c_ow ko (fun x cs hK => le.K (x := cx W S ρ w) hK)⟩), by rw [eu]; exact view_vr⟩
        obtain rfl := Option.some.inj hp
        exact Nat.le_refl _
    · cases hK
  · cases hK
end
end Go.Mx
namespace Go.Mx
open Go Go.RowKit Go.Sx
variable [Glb]
theorem plain_dec {t : T} {v : AV} {x : t.den} (h : dec t v = some x) : v.plain = true := by
  cases v with
  | tup l => cases t <;> cases h
  | undef => cases t <;> cases h
  | _ => rfl
theorem agg_dec {t : T} : ∀ {v : AV} {x : t.den}, dec t v = some x → v.isAgg = t.aggB := by
  cases t with
  | sl t =>
    intro v x h
    cases v with
    | dat t' y => rw [dec_dat] at h; split at h; (rename_i e; subst e; rfl); cases h
    | nils => rfl
    | cut _ => rfl
    | nilw _ => rfl
    | fn f fs ks => cases fs <;> cases ks <;> cases h
    | _ => cases h
  | pair a b =>
    intro v x h
    cases v with
    | dat t' y => rw [dec_dat] at h; split at h; (rename_i e; subst e; rfl); cases h
    | pr u v => rfl
    | fn f fs ks => cases fs <;> cases ks <;> cases h
    | _ => cases h
  | one a =>
    intro v x h
    cases v with
    | dat t' y => rw [dec_dat] at h; split at h; (rename_i e; subst e; rfl); cases h
    | one u => rfl
    | fn f fs ks => cases fs <;> cases ks <;> cases h
    | _ => cases h
  | fn =>
    intro v x h
    cases v with
    | dat t' y => rw [dec_dat] at h; split at h; (rename_i e; subst e; rfl); cases h
    | fn f fs ks => rfl
    | _ => cases h
  | _ =>
    intro v x h
    cases v with
    | dat t' y => rw [dec_dat] at h; split at h; (rename_i e; subst e; rfl); cases h
    | fn f fs ks => cases fs <;> cases ks <;> cases h
    | _ => cases h
theorem eqB_iff : ∀ {t : T} {x y : t.den}, keyT t = true → (eqB t x y = true ↔ x = y)
  | .int _, x, y, _ => decide_eq_true_iff
  | .bool, x, y, _ => beq_iff_eq
  | .str, x, y, _ => decide_eq_true_iff
  | .unit, x, y, _ => by simp [eqB]
  | .one t, x, y, h => eqB_iff (t := t) h
  | .pair a b, x, y, h => by
    have h : (keyT a && keyT b) = true := h
    rw [Bool.and_eq_true] at h
    show (eqB a x.1 y.1 && eqB b x.2 y.2) = true ↔ x = y
    rw [Bool.and_eq_true, eqB_iff h.1, eqB_iff h.2]
    exact ⟨fun h => Prod.ext h.1 h.2, fun h => by rw [h]; exact ⟨rfl, rfl⟩⟩
  | .flt, _, _, h | .cpx, _, _, h | .fn, _, _, h | .arr _ _, _, _, h | .sl _, _, _, h => by cases h
theorem eqv_eqB : ∀ {t : T} (x y : t.den), keyT t = true → eqv t x y = some (eqB t x y)
  | .int _, x, y, _ => rfl
  | .bool, x, y, _ => rfl
  | .str, x, y, _ => rfl
  | .unit, x, y, _ => rfl
  | .one t, x, y, h => eqv_eqB (t := t) x y h
  | .pair a b, x, y, h => by
    have h : (keyT a && keyT b) = true := h
    rw [Bool.and_eq_true] at h
    show (match eqv a x.1 y.1 with | some p => (match eqv b x.2 y.2 with | some q => some (p && q) | none => none) | none => none) = _
    rw [eqv_eqB x.1 y.1 h.1, eqv_eqB x.2 y.2 h.2]
    rfl
  | .flt, _, _, h | .cpx, _, _, h | .fn, _, _, h | .arr _ _, _, _, h | .sl _, _, _, h => by cases h
def scalB : Value → Bool
  | .int _ _ => true
  | .bool _ => true
  | .string _ => true
  | _ => false
theorem key_cells : ∀ {t : T} {A A' : Nat → Prop} {h h' : Array Obj} {x : t.den} {c c' : List Value}, keyT t = true → t.kd.K A h x c → t.kd.K A' h' x c' → c = c' ∧ ∀ u ∈ c, scalB u = true
  | .int _, _, _, _, _, _, c, c', _, h1, h2 => by
    have h1 : c = _ := h1
    have h2 : c' = _ := h2
    exact ⟨h1.trans h2.symm, fun u hu => by rw [h1] at hu; simp at hu; rw [hu]; rfl⟩
  | .bool, _, _, _, _, _, c, c', _, h1, h2 => by
    have h1 : c = _ := h1
    have h2 : c' = _ := h2
    exact ⟨h1.trans h2.symm, fun u hu => by rw [h1] at hu; simp at hu; rw [hu]; rfl⟩
  | .str, _, _, _, _, _, c, c', _, h1, h2 => by
    have h1 : c = _ := h1
    have h2 : c' = _ := h2
    exact ⟨h1.trans h2.symm, fun u hu => by rw [h1] at hu; simp at hu; rw [hu]; rfl⟩
  | .unit, _, _, _, _, _, c, c', _, h1, h2 => by
    have h1 : c = _ := h1
    have h2 : c' = _ := h2
    exact ⟨h1.trans h2.symm, fun u hu => by rw [h1] at hu; cases hu⟩
  | .one t, _, _, _, _, x, c, c', hk, h1, h2 => key_cells (t := t) (x := x) hk h1 h2
  | .pair a b, _, _, _, _, x, c, c', hk, h1, h2 => by
    have hk : (keyT a && keyT b) = true := hk
    rw [Bool.and_eq_true] at hk
    obtain ⟨a1, b1, e1, ka1, kb1⟩ := h1
    obtain ⟨a2, b2, e2, ka2, kb2⟩ := h2
    obtain ⟨r1, r2⟩ := key_cells hk.1 ka1 ka2
    obtain ⟨r3, r4⟩ := key_cells hk.2 kb1 kb2
    refine ⟨by rw [e1, e2, r1, r3], fun u hu => ?_⟩
    rw [e1, List.mem_append] at hu
    exact hu.elim (r2 u) (r4 u)
  | .flt, _, _, _, _, _, _, _, h, _, _ | .cpx, _, _, _, _, _, _, _, h, _, _ | .fn, _, _, _, _, _, _, _, h, _, _ | .arr _ _, _, _, _, _, _, _, _, h, _, _ | .sl _, _, _, _, _, _, _, _, h, _, _ => by cases h
theorem bytes_beq (s t : ByteArray) : (s == t) = decide (s = t) := by
  cases s with | mk a => cases t with | mk b =>
  show (a == b) = _
  rw [Bool.eq_iff_iff, beq_iff_eq, decide_eq_true_iff]
  exact ⟨fun h => by rw [h], fun h => by injection h⟩
theorem same_scal {n : Nat} {u : Value} (h : scalB u = true) : Instr.sameBits n u u = true := by
  cases u <;> first | (cases h; done) | (cases n <;> simp [Instr.sameBits, bytes_beq])
theorem same_zip {n : Nat} : ∀ {l : List Value}, (∀ u ∈ l, scalB u = true) → ((l.zip l).all fun (x, y) => Instr.sameBits n x y) = true
  | [], _ => rfl
  | u :: l, h => by
    rw [List.zip_cons_cons, List.all_cons, Bool.and_eq_true]
    exact ⟨same_scal (h u (by simp)), same_zip fun v hv => h v (by simp [hv])⟩
theorem same_form {g : Bool} {c : List Value} (hc : ∀ u ∈ c, scalB u = true) (hl : g = false → c.length = 1) : Instr.sameBits 10000 (form g c) (form g c) = true := by
  cases g with
  | true =>
    show (c.toArray.size == c.toArray.size && ((c.toArray.toList.zip c.toArray.toList).all fun (x, y) => Instr.sameBits 9999 x y)) = true
    rw [beq_self_eq_true, Bool.true_and]
    exact same_zip hc
  | false =>
    obtain ⟨u, rfl⟩ := List.length_eq_one_iff.1 (hl rfl)
    exact same_scal (hc u (by simp))
theorem key_len {t : T} {A : Nat → Prop} {h : Array Obj} {x : t.den} {c : List Value} (k : t.kd.K A h x c) (hg : t.aggB = false) : c.length = 1 := by
  have := kd_len k
  rw [this]
  cases t <;> first | rfl | cases hg
def idxM {V : Type} (t : T) (x : t.den) : List (t.den × V) → Option Nat
  | [] => none
  | p :: r => cond (eqB t x p.1) (some 0) ((idxM t x r).map (· + 1))
section
variable {V : Type} {t : T} {x : t.den}
theorem idxM_none {l : List (t.den × V)} (h : idxM t x l = none) : (∀ z, getM t x z l = z) ∧ hasM t x l = false ∧ (∀ y, setM t x y l = l ++ [(x, y)]) ∧ delM t x l = l := by
  induction l with
  | nil => exact ⟨fun _ => rfl, rfl, fun _ => rfl, rfl⟩
  | cons p r ih =>
    rw [idxM] at h
    cases hb : eqB t x p.1 with
    | true => rw [hb] at h; cases h
    | false =>
      rw [hb, cond_false] at h
      have h : idxM t x r = none := by
        cases hr : idxM t x r with
        | none => rfl
        | some _ => rw [hr] at h; cases h
      obtain ⟨h1, h2, h3, h4⟩ := ih h
      exact ⟨fun z => by rw [getM, hb]; exact h1 z, by rw [hasM, hb]; exact h2, fun y => by rw [setM, hb, cond_false, h3]; rfl, by rw [delM, hb, cond_false, h4]⟩
theorem idxM_some {l : List (t.den × V)} {m : Nat} (h : idxM t x l = some m) : ∃ p, l[m]? = some p ∧ eqB t x p.1 = true ∧ (∀ z, getM t x z l = p.2) ∧ hasM t x l = true ∧ (∀ y, setM t x y l = l.set m (x, y)) ∧ delM t x l = l.eraseIdx m := by
  induction l generalizing m with
  | nil => cases h
  | cons p r ih =>
    rw [idxM] at h
    cases hb : eqB t x p.1 with
    | true =>
      rw [hb, cond_true] at h
      obtain rfl := Option.some.inj h
      exact ⟨p, rfl, hb, fun z => by rw [getM, hb]; rfl, by rw [hasM, hb]; rfl, fun y => by rw [setM, hb]; rfl, by rw [delM, hb]; rfl⟩
    | false =>
      rw [hb, cond_false] at h
      cases hr : idxM t x r with
      | none => rw [hr] at h; cases h
      | some j =>
        rw [hr] at h
        obtain rfl := Option.some.inj h
        obtain ⟨q, h1, h2, h3, h4, h5, h6⟩ := ih hr
        exact ⟨q, h1, h2, fun z => by rw [getM, hb]; exact h3 z, by rw [hasM, hb]; exact h4, fun y => by rw [setM, hb, cond_false, h5]; rfl, by rw [delM, hb, cond_false, h6]; rfl⟩
end
section
variable {P : Program} {x : Cx} {kT : TypeId} {kt vt : T} {w : World}
theorem asking {k : kt.den} {ck : List Value} (hk : keyT kt = true) (he : eqTy P 30 kT kt = true) (hc : kt.kd.K x.A x.h k ck) : ∀ {es : List (kt.den × vt.den)} {l : List MapEntry} (i : Nat), A2 (Ent x kt vt) es l →
    ∃ r, (Instr.findAsking kT (form kt.aggB ck) l i).run P w = .ok r w ∧ (idxM kt k es = none → r = none) ∧ ∀ m, idxM kt k es = some m → ∃ e, l[m]? = some e ∧ r = some (i + m, e.val)
  | _, _, i, .nil => ⟨none, by simp [Instr.findAsking], fun _ => rfl, fun m hm => by cases hm⟩
  | p :: es, e :: l, i, .cons h1 h2 => by
    obtain ⟨c1, c2, e1, k1, e2, k2⟩ := h1
    obtain ⟨b, hb, hq⟩ := (eqTy_ok (P := P) 30 9970 kT kt k p.1 (eqB kt k p.1) _ _ ck c1 he (eqv_eqB k p.1 hk) hc k1).run w
    have hb' : (Op.equal kT (form kt.aggB ck) e.key).run P w = .ok b w := by rw [e1]; exact hb
    have hbq : b = eqB kt k p.1 := Bool.eq_iff_iff.2 hq
    rw [idxM]
    cases hq2 : eqB kt k p.1 with
    | true =>
      rw [hq2] at hbq
      subst hbq
      refine ⟨some (i, e.val), by simp [Instr.findAsking, hb'], fun h => (by cases h), fun m hm => ?_⟩
      obtain rfl := Option.some.inj hm
      exact ⟨e, rfl, rfl⟩
    | false =>
      rw [hq2] at hbq
      subst hbq
      obtain ⟨r, h3, h4, h5⟩ := asking hk he hc (i + 1) h2
      refine ⟨r, by simp [Instr.findAsking, hb', h3], fun h => h4 ?_, fun m hm => ?_⟩
      · rw [cond_false] at h
        cases hr : idxM kt k es with
        | none => rfl
        | some _ => rw [hr] at h; cases h
      · rw [cond_false] at hm
        cases hr : idxM kt k es with
        | none => rw [hr] at hm; cases hm
        | some j =>
          rw [hr] at hm
          obtain rfl := Option.some.inj hm
          obtain ⟨e', h6, h7⟩ := h5 j hr
          exact ⟨e', h6, by rw [h7, show i + 1 + j = i + (j + 1) by omega]⟩
theorem findNow_ok {d : TypeDesc} {k : kt.den} {ck : List Value} (hd : ∀ (y : kt.den) (c : List Value), kt.kd.K x.A x.h y c → Instr.sameNow d (form kt.aggB ck) (form kt.aggB c) = some (eqB kt k y)) : ∀ {es : List (kt.den × vt.den)} {l : List MapEntry} (i : Nat), A2 (Ent x kt vt) es l →
    ∃ r, Instr.findNow d (form kt.aggB ck) l i = some r ∧ (idxM kt k es = none → r = none) ∧ ∀ m, idxM kt k es = some m → ∃ e, l[m]? = some e ∧ r = some (i + m, e.val)
  | _, _, i, .nil => ⟨none, rfl, fun _ => rfl, fun m hm => by cases hm⟩
  | p :: es, e :: l, i, .cons h1 h2 => by
    obtain ⟨c1, c2, e1, k1, e2, k2⟩ := h1
    have hs := hd p.1 c1 k1
    rw [← e1] at hs
    rw [idxM]
    cases hq2 : eqB kt k p.1 with
    | true =>
      rw [hq2] at hs
      refine ⟨some (i, e.val), by rw [Instr.findNow, hs], fun h => (by cases h), fun m hm => ?_⟩
      obtain rfl := Option.some.inj hm
      exact ⟨e, rfl, rfl⟩
    | false =>
      rw [hq2] at hs
      obtain ⟨r, h3, h4, h5⟩ := findNow_ok hd (i + 1) h2
      refine ⟨r, by rw [Instr.findNow, hs]; exact h3, fun h => h4 ?_, fun m hm => ?_⟩
      · rw [cond_false] at h
        cases hr : idxM kt k es with
        | none => rfl
        | some _ => rw [hr] at h; cases h
      · rw [cond_false] at hm
        cases hr : idxM kt k es with
        | none => rw [hr] at hm; cases hm
        | some j =>
          rw [hr] at hm
          obtain rfl := Option.some.inj hm
          obtain ⟨e', h6, h7⟩ := h5 j hr
          exact ⟨e', h6, by rw [h7, show i + 1 + j = i + (j + 1) by omega]⟩
theorem find_ok {k : kt.den} {ck : List Value} (hk : keyOk P kT kt = true) (hc : kt.kd.K x.A x.h k ck) {es : List (kt.den × vt.den)} {l : List MapEntry} (h : A2 (Ent x kt vt) es l) :
    ∃ r, (Instr.findKey kT (form kt.aggB ck) l).run P w = .ok r w ∧ (idxM kt k es = none → r = none) ∧ ∀ m, idxM kt k es = some m → ∃ e, l[m]? = some e ∧ r = some (m, e.val) := by
  unfold keyOk at hk
  rw [Bool.and_eq_true] at hk
  obtain ⟨hk, he⟩ := hk
  have he0 := he
  unfold eqTy at he
  have now : ∀ {d : TypeDesc}, P.underlying kT = some d → (∀ (y : kt.den) (c : List Value), kt.kd.K x.A x.h y c → Instr.sameNow d (form kt.aggB ck) (form kt.aggB c) = some (eqB kt k y)) →
      ∃ r, (Instr.findKey kT (form kt.aggB ck) l).run P w = .ok r w ∧ (idxM kt k es = none → r = none) ∧ ∀ m, idxM kt k es = some m → ∃ e, l[m]? = some e ∧ r = some (m, e.val) := by
    intro d hu hd
    obtain ⟨r, h1, h2, h3⟩ := findNow_ok hd 0 h
    refine ⟨r, by simp [Instr.findKey, run_underlying hu, h1], h2, fun m hm => ?_⟩
    obtain ⟨e, h4, h5⟩ := h3 m hm
    exact ⟨e, h4, by rw [h5, Nat.zero_add]⟩
  have ask : (∀ d, P.underlying kT = some d → ∀ u v, Instr.sameNow d u v = none) → (∃ d, P.underlying kT = some d) →
      ∃ r, (Instr.findKey kT (form kt.aggB ck) l).run P w = .ok r w ∧ (idxM kt k es = none → r = none) ∧ ∀ m, idxM kt k es = some m → ∃ e, l[m]? = some e ∧ r = some (m, e.val) := by
    rintro hn ⟨d, hu⟩
    cases h with
    | nil => exact ⟨none, by simp [Instr.findKey, run_underlying hu, Instr.findNow], fun _ => rfl, fun m hm => by cases hm⟩
    | @cons p e es l h1 h2 =>
      obtain ⟨r, h3, h4, h5⟩ := asking (P := P) (kT := kT) (w := w) hk he0 hc 0 (.cons h1 h2)
      refine ⟨r, by simp [Instr.findKey, run_underlying hu, Instr.findNow, hn d hu, h3], h4, fun m hm => ?_⟩
      obtain ⟨e, h6, h7⟩ := h5 m hm
      exact ⟨e, h6, by rw [h7, Nat.zero_add]⟩
  split at he
  · rename_i hu
    refine now hu fun y c hy => ?_
    have e1 : ck = [.int _ k] := hc
    have e2 : c = [.int _ y] := hy
    rw [e1, e2]
    show (if _ = _ then some (k == y) else none) = some (decide (k = y))
    rw [if_pos rfl]; rfl
  · rename_i hu
    refine now hu fun y c hy => ?_
    have e1 : ck = [.bool k] := hc
    have e2 : c = [.bool y] := hy
    rw [e1, e2]; rfl
  · rename_i hu
    refine now hu fun y c hy => ?_
    have e1 : ck = [.string k] := hc
    have e2 : c = [.string y] := hy
    rw [e1, e2]
    show some (k == y) = some (decide (k = y))
    rw [bytes_beq]
  · cases hk
  · cases hk
  · rename_i fs t' hu
    exact ask (fun d hd u v => by rw [hu] at hd; obtain rfl := Option.some.inj hd; rfl) ⟨_, hu⟩
  · rename_i fs ta tb hu
    exact ask (fun d hd u v => by rw [hu] at hd; obtain rfl := Option.some.inj hd; rfl) ⟨_, hu⟩
  · rename_i m e m' t' hu
    cases hk
  · cases he
theorem chkFlds {em : Bool} {dd : Nat} {E : TypeId → T → Bool} {X : List Value} (hE : ∀ (i : TypeId) (t : T) (c : List Value) (z : t.den), E i t = true → keyT t = true → t.kd.K x.A x.h z c → (Instr.checkKey em dd i (form t.aggB c)).run P w = .ok () w) : ∀ (fs : List Field) (o : Nat) (t : T) (z : t.den) (c : List Value), eqTyF P E fs o t = true → keyT t = true → t.kd.K x.A x.h z c → (∀ j v, c[j]? = some v → X[o + j]? = some v) →
    ∀ f ∈ fs, f.name ≠ "_" ∧ ∃ u, (part f.type X.toArray f.offset).run P w = .ok u w ∧ (Instr.checkKey em dd f.type u).run P w = .ok () w := by
  have one : ∀ (f : Field) (o : Nat) (t : T) (z : t.den) (c : List Value), fldTy P E f o t = true → keyT t = true → t.kd.K x.A x.h z c → (∀ j v, c[j]? = some v → X[o + j]? = some v) → f.name ≠ "_" ∧ ∃ u, (part f.type X.toArray f.offset).run P w = .ok u w ∧ (Instr.checkKey em dd f.type u).run P w = .ok () w := by
    intro f o t z c h hk hc hg
    unfold fldTy at h
    simp only [Bool.and_eq_true, bne_iff_ne, ne_eq] at h
    obtain ⟨⟨⟨⟨n1, n2⟩, n3⟩, n4⟩, n5⟩ := h
    have n2 := Nat.eq_of_beq_eq_true n2
    have hl : loadOk P f.type (.dat t z) = true := by
      unfold loadOk
      split at n4
      · rename_i b hb
        rw [hb]
        have : b = t.aggB := by simpa using n4
        subst this
        split
        · rename_i hb'
          have hb' : t.aggB = true := by simpa using hb'
          have : szOk P f.type t.sz = true := n3
          show (t.aggB && szOk P f.type t.sz) = true
          rw [hb', this]; rfl
        · rename_i hb'
          have hb' : t.aggB = false := by simpa using hb'
          show (!t.aggB) = true
          rw [hb']; rfl
        · rename_i hb'; cases hb'
      · cases n4
    exact ⟨n1, form t.aggB c, by rw [n2]; exact part_run (x := x) hl (cr_dat.2 hc) hg w, hE _ _ _ _ n5 hk hc⟩
  intro fs
  induction fs with
  | nil => intro o t z c h; cases t <;> cases h
  | cons f r ih =>
    cases r with
    | nil =>
      intro o t z c h hk hc hg f' hf
      have h : fldTy P E f o t = true := by cases t <;> exact h
      obtain rfl : f' = f := by simpa using hf
      exact one f' o t z c h hk hc hg
    | cons f2 r =>
      intro o t z c h hk hc hg f' hf
      cases t with
      | pair ta tb =>
        have h : (fldTy P E f o ta && eqTyF P E (f2 :: r) (o + ta.sz) tb) = true := h
        have hk : (keyT ta && keyT tb) = true := hk
        rw [Bool.and_eq_true] at h hk
        obtain ⟨a1, b1, e1, ka1, kb1⟩ := hc
        have l1 : a1.length = ta.sz := kd_len ka1
        rcases List.mem_cons.1 hf with rfl | hf
        · exact one f' o ta z.1 a1 h.1 hk.1 ka1 (fun j v hj => hg j v (by rw [e1, List.getElem?_append, if_pos (List.getElem?_eq_some_iff.1 hj).1]; exact hj))
        · exact ih (o + ta.sz) tb z.2 b1 h.2 hk.2 kb1 (fun j v hj => by rw [Nat.add_assoc]; exact hg _ v (by rw [e1, List.getElem?_append, if_neg (by omega), show ta.sz + j - a1.length = j by omega]; exact hj)) f' hf
      | _ => cases h
theorem chkLoop {em : Bool} {dd : Nat} {X : Array Value} : ∀ (L : List Field), (∀ f ∈ L, f.name ≠ "_" ∧ ∃ u, (part f.type X f.offset).run P w = .ok u w ∧ (Instr.checkKey em dd f.type u).run P w = .ok () w) →
    (forIn L PUnit.unit fun f _ => do
      if f.name ≠ "_" then Instr.checkKey em dd f.type (← part f.type X f.offset)
      pure (ForInStep.yield PUnit.unit) : Sem PUnit).run P w = .ok () w
  | [], _ => by simp
  | f :: L, h => by
    obtain ⟨hn, u, p1, p2⟩ := h f (by simp)
    have ih := chkLoop L (fun y hy => h y (by simp [hy]))
    simp only [List.forIn_cons, Sem.run_bind, hn, ne_eq, not_false_eq_true, if_true, Result.andThen_ok, p1, p2, Sem.run_pure]
    exact ih
theorem chk_ok {em : Bool} : ∀ (n k : Nat) (i : TypeId) (t : T) (c : List Value) (z : t.den), eqTy P n i t = true → keyT t = true → t.kd.K x.A x.h z c → (Instr.checkKey em (n + k) i (form t.aggB c)).run P w = .ok () w
  | 0, _, _, _, _, _, h, _, _ => by cases h
  | n + 1, k, i, t, c, z, h, hk, hc => by
    rw [show n + 1 + k = (n + k) + 1 by omega]
    unfold eqTy at h
    have str : ∀ {fs : Array Field} {X : Array Value}, P.underlying i = some (.struct fs) → (∀ f ∈ fs.toList, f.name ≠ "_" ∧ ∃ u, (part f.type X f.offset).run P w = .ok u w ∧ (Instr.checkKey em (n + k) f.type u).run P w = .ok () w) → (Instr.checkKey em (n + k + 1) i (.agg X)).run P w = .ok () w := by
      intro fs X hu hf
      rw [Instr.checkKey]
      simp only [Sem.run_bind, run_underlying hu, Result.andThen_ok]
      rw [← Array.forIn_toList]
      have := chkLoop (P := P) (w := w) (em := em) (dd := n + k) (X := X) fs.toList hf
      simp only [this, Result.andThen_ok, Sem.run_pure]
    split at h
    · rename_i hu
      have e1 : c = [.int _ z] := hc
      rw [e1, Instr.checkKey]
      simp [form, T.aggB, run_underlying hu]
    · rename_i hu
      have e1 : c = [.bool z] := hc
      rw [e1, Instr.checkKey]
      simp [form, T.aggB, run_underlying hu]
    · rename_i hu
      have e1 : c = [.string z] := hc
      rw [e1, Instr.checkKey]
      simp [form, T.aggB, run_underlying hu]
    · cases hk
    · cases hk
    · rename_i fs t' hu
      rw [Bool.and_eq_true] at h
      obtain ⟨_, h⟩ := h
      split at h
      · rename_i f hf
        refine str hu ?_
        rw [hf]
        have h2 : eqTyF P (eqTy P n) [f] 0 t' = true := by cases t' <;> exact h
        exact chkFlds (em := em) (dd := n + k) (X := c) (fun i t c z h1 h2 h3 => chk_ok n k i t c z h1 h2 h3) [f] 0 t' z c h2 hk hc (fun j v hj => by rw [Nat.zero_add]; exact hj)
      · cases h
    · rename_i fs ta tb hu
      rw [Bool.and_eq_true] at h
      exact str hu (chkFlds (em := em) (dd := n + k) (X := c) (fun i t c z h1 h2 h3 => chk_ok n k i t c z h1 h2 h3) fs.toList 0 (.pair ta tb) z c h.2 hk hc (fun j v hj => by rw [Nat.zero_add]; exact hj))
    · cases hk
    · cases h
end
end Go.Mx
namespace Go.Mx
open Go Go.RowKit Go.Sx
variable [Glb]
section
variable {R : Type} {P : Program} {W : Nat → Prop} {S : List AO} {ρ : Nat → Geo} {w w' : World} {a : Act}
variable {d : Option Nat} {ty T' T2 : TypeId} {pos : String} {af : Array Edge} {g : Option (Nat × Bool)} {y z q : Operand} {K : KV R} {r : R}
theorem mapTy_ok {t k e : TypeId} (h : mapTy P t = some (k, e)) : P.underlying t = some (.map k e) := by
  unfold mapTy at h
  split at h
  · rename_i hu
    cases h; exact hu
  · cases h
theorem zerM_ok {e : TypeId} {t : T} {z : t.den} (h : zerM P e t = some z) : ∃ zv, (∀ w, (zeroValue e).run P w = .ok zv w) ∧ ∀ x : Cx, ∃ cs, zv = form t.aggB cs ∧ t.kd.K x.A x.h z cs := by
  unfold zerM at h
  split at h
  · rename_i v hv
    split at h
    · rename_i x i hx hi
      split at h
      · rename_i zv hz
        obtain ⟨hc, h⟩ | ⟨_, h⟩ := cond_elim h
        · obtain rfl := Option.some.inj h
          rw [Bool.and_eq_true] at hc
          refine ⟨zv, fun w => run_zero hi hz w, fun x0 => ?_⟩
          obtain ⟨i', z', h1, h2, h3⟩ := zOk_ok (x := x0) hc.1
          rw [hi] at h1
          obtain rfl := Option.some.inj h1
          rw [hz] at h2
          obtain rfl := Option.some.inj h2
          refine ⟨zv.cells.toList, ?_, dec_ok t v _ hx h3⟩
          have hf := hc.2
          cases zv with
          | agg xs => have hf : t.aggB = true := hf; rw [hf]; rfl
          | _ => (have hf : (!t.aggB) = true := hf); (have hf : t.aggB = false := by simpa using hf); rw [hf]; rfl
        · cases h
      · cases h
    · cases h
  · cases h
theorem mp_vr {w' : World} {b : Nat} {o : AO} : VR (cx W (S ++ [o]) (upd ρ S.length ⟨some ⟨b, 0, none⟩, 0, 1, 0⟩) w') (.mp S.length) (.map (some b)) :=
  ⟨[.map (some b)], rfl, by rw [CR]; exact ⟨by show S.length < (S ++ [o]).length; simp, b, by show (upd ρ S.length _ S.length).a = _; rw [upd_same], rfl⟩, rfl⟩
theorem vr_mp {x : Cx} {i : Nat} {u : Value} (h : VR x (.mp i) u) : i < x.m ∧ ∃ b, (x.g i).a = some ⟨b, 0, none⟩ ∧ u = .map (some b) := by
  obtain ⟨c, e, h1, _⟩ := h
  rw [CR] at h1
  obtain ⟨h1, b, h2, h3⟩ := h1
  exact ⟨h1, b, h2, by rw [e, h3]; rfl⟩
theorem vr_nilm {x : Cx} {u : Value} (h : VR x .nilm u) : u = .map none := by
  obtain ⟨c, e, h1, _⟩ := h
  rw [CR] at h1
  rw [e, h1]; rfl
theorem mp_at (h : Rel W S ρ w) {i : Nat} {kt vt : T} {es : List (kt.den × vt.den)} {m : Bool} (hi : S[i]? = some (.map kt vt es m)) {u : Value} (hv : VR (cx W S ρ w) (.mp i) u) :
    ∃ b arr clk, u = .map (some b) ∧ (ρ i).a = some ⟨b, 0, none⟩ ∧ w.heap[b]? = some (.map arr clk) ∧ A2 (Ent (cx W S ρ w) kt vt) es arr.toList := by
  obtain ⟨_, b, h2, e⟩ := vr_mp hv
  obtain ⟨b', e1, ⟨arr, clk, h3, h4⟩, _⟩ := h.ob i _ hi
  have h2 : (ρ i).a = _ := h2
  rw [e1] at h2
  obtain rfl : b' = b := congrArg Addr.block (Option.some.inj h2)
  exact ⟨b', arr, clk, e, e1, h3, h4⟩
theorem makeMap_main (h : Rel W S ρ w) (o : Option Operand) (ho : (Instr.makeMap T' (o.map a.eval)).run P w = .ok (.map (some w.heap.size)) (w.alloc (.map #[] 0))) (hK : makeMapA P T' S K = some r) : Comes P W S ρ w ⟨d, .makeMap T' o, ty, pos, af, g⟩ a K r := by
  unfold makeMapA at hK
  split at hK
  · rename_i k e hT
    split at hK
    · rename_i kt vt hk hv
      obtain ⟨_, hK⟩ | ⟨_, hK⟩ := cond_elim hK
      · refine (Does.val (v := .map (some w.heap.size)) (w' := w.alloc (.map #[] 0)) (by simp [execOp, ho])).mono ?_
        rintro u w' ⟨rfl, rfl⟩
        refine ⟨_, _, _, hK, Aft.push h (Fr.alloc _ _ _) (g := ⟨some ⟨w.heap.size, 0, none⟩, 0, 1, 0⟩) (fun _ p hp => by obtain rfl := Option.some.inj hp; exact Nat.le_refl _) (fun le => ⟨_, rfl, ⟨#[], 0, heap_alloc_new w _, .nil⟩, fun hh => by cases hh⟩), mp_vr⟩
      · cases hK
    · cases hK
  · cases hK
theorem makeMap_ok (h : Rel W S ρ w) (hK : makeMapA P T' S K = some r) : Comes P W S ρ w ⟨d, .makeMap T' none, ty, pos, af, g⟩ a K r := makeMap_main h none rfl hK
theorem makeMapN_ok {k : IntKind} {n : Int} (h : Rel W S ρ w) (hy : a.eval y = .int k n) (hK : makeMapA P T' S K = some r) : Comes P W S ρ w ⟨d, .makeMap T' (some y), ty, pos, af, g⟩ a K r := by
  have hK0 := hK
  unfold makeMapA at hK0
  split at hK0
  · rename_i k e hT
    refine makeMap_main h (some y) ?_ hK
    simp [Instr.makeMap, run_underlying (mapTy_ok hT), hy, asInt, asIntOf]
  · cases hK0
def fndV (f : Option (Nat × Value)) (z : Value) : Value := match f with | some p => p.2 | none => z
theorem get_map {b : Nat} {arr : Array MapEntry} {clk : Nat} (hb : w.heap[b]? = some (.map arr clk)) : (getObj b).run P w = .ok (.map arr clk) w := by simp [getObj, Sem.run, hb]
theorem set_map {b : Nat} {arr : Array MapEntry} {clk : Nat} (hb : w.heap[b]? = some (.map arr clk)) (o : Obj) : (setObj b o).run P w = .ok () { w with heap := w.heap.setIfInBounds b o } := by simp [setObj, Sem.run, hb]
theorem run_lookup {b : Nat} {kT e : TypeId} {arr : Array MapEntry} {clk : Nat} {key zv : Value} {ok : Bool} {f : Option (Nat × Value)} (hT : P.underlying T' = some (.map kT e)) (hb : w.heap[b]? = some (.map arr clk)) (hc : (Instr.checkKey arr.isEmpty 10000 kT key).run P w = .ok () w)
    (hf : (Instr.findKey kT key arr.toList).run P w = .ok f w) (hz : (zeroValue e).run P w = .ok zv w) : (Instr.lookup T' (.map (some b)) key ok).run P w = .ok (if ok then .tuple #[fndV f zv, .bool f.isSome] else fndV f zv) w := by
  cases f with
  | none => cases ok <;> simp [Instr.lookup, run_underlying hT, get_map hb, hc, hf, hz, fndV]
  | some p => cases ok <;> simp [Instr.lookup, run_underlying hT, get_map hb, hc, hf, fndV]
theorem ok_vr {x : Cx} {ok b : Bool} {t : T} {v : t.den} {cs : List Value} (h : t.kd.K x.A x.h v cs) : VR x (okV ok (.dat t v) b) (if ok then .tuple #[form t.aggB cs, .bool b] else form t.aggB cs) := by
  cases ok with
  | false => exact ⟨cs, rfl, cr_dat.2 h, kd_len h⟩
  | true =>
    refine ⟨[form t.aggB cs, .bool b], rfl, ?_⟩
    rw [VRs]
    refine ⟨cs, _, rfl, cr_dat.2 h, kd_len h, ?_⟩
    rw [VRs]
    exact ⟨[.bool b], _, rfl, cr_dat.2 rfl, rfl, by rw [VRs]⟩
theorem A2.get {α β : Type} {Q : α → β → Prop} : ∀ {l : List α} {m : List β}, A2 Q l m → ∀ {i : Nat} {x : α}, l[i]? = some x → ∃ y, m[i]? = some y ∧ Q x y
  | _, _, .nil, i, x, h => by simp at h
  | _, _, .cons h1 h2, 0, x, h => by obtain rfl := Option.some.inj h; exact ⟨_, rfl, h1⟩
  | _, _, .cons h1 h2, i + 1, x, h => A2.get h2 (i := i) h
theorem A2.set {α β : Type} {Q : α → β → Prop} {x : α} {y : β} (hq : Q x y) : ∀ {l : List α} {m : List β}, A2 Q l m → ∀ (i : Nat), A2 Q (l.set i x) (m.set i y)
  | _, _, .nil, i => .nil
  | _, _, .cons h1 h2, 0 => .cons hq h2
  | _, _, .cons h1 h2, i + 1 => .cons h1 (A2.set hq h2 i)
theorem A2.push {α β : Type} {Q : α → β → Prop} {x : α} {y : β} (hq : Q x y) : ∀ {l : List α} {m : List β}, A2 Q l m → A2 Q (l ++ [x]) (m ++ [y])
  | _, _, .nil => .cons hq .nil
  | _, _, .cons h1 h2 => .cons h1 (A2.push hq h2)
theorem A2.drop1 {α β : Type} {Q : α → β → Prop} : ∀ {l : List α} {m : List β}, A2 Q l m → ∀ (i : Nat), A2 Q (l.eraseIdx i) (m.eraseIdx i)
  | _, _, .nil, i => .nil
  | _, _, .cons h1 h2, 0 => h2
  | _, _, .cons h1 h2, i + 1 => .cons h1 (A2.drop1 h2 i)
theorem A2.len {α β : Type} {Q : α → β → Prop} : ∀ {l : List α} {m : List β}, A2 Q l m → l.length = m.length
  | _, _, .nil => rfl
  | _, _, .cons _ h2 => congrArg (· + 1) (A2.len h2)
theorem key_run {x : Cx} {kT : TypeId} {kt : T} {k : kt.den} {ck : List Value} {em : Bool} (hk : keyOk P kT kt = true) (hc : kt.kd.K x.A x.h k ck) : (Instr.checkKey em 10000 kT (form kt.aggB ck)).run P w = .ok () w := by
  unfold keyOk at hk
  rw [Bool.and_eq_true] at hk
  exact chk_ok (x := x) 30 9970 kT kt ck k hk.2 hk.1 hc
theorem dec_vr {x : Cx} {t : T} {v : AV} {u : Value} {k : t.den} (h : VR x v u) (hd : dec t v = some k) : ∃ c, u = form t.aggB c ∧ t.kd.K x.A x.h k c := by
  obtain ⟨cs, h1, h2⟩ := vr_cr h (plain_dec hd)
  exact ⟨cs, by rw [h2, agg_dec hd], dec_ok t v cs hd h1⟩
theorem lookup_ok {m k : AV} {ok : Bool} (h : Rel W S ρ w) (hd : a.defers = []) (hy : VR (cx W S ρ w) m (a.eval y)) (hz : VR (cx W S ρ w) k (a.eval z)) (hK : lookupA P T' m k ok S K = some r) : Comes P W S ρ w ⟨d, .lookup T' y z ok, ty, pos, af, g⟩ a K r := by
  unfold lookupA at hK
  split at hK
  · rename_i kT e hT
    have hT := mapTy_ok hT
    split at hK
    · rename_i i
      split at hK
      · rename_i kt vt es md hi
        obtain ⟨hko, hK⟩ | ⟨_, hK⟩ := cond_elim hK
        · split at hK
          · rename_i x zx hx hzx
            obtain ⟨b, arr, clk, e1, _, hb, hent⟩ := mp_at h hi hy
            obtain ⟨ck, e2, hck⟩ := dec_vr hz hx
            obtain ⟨zv, hz1, hz2⟩ := zerM_ok hzx
            obtain ⟨f, hf, f1, f2⟩ := find_ok (P := P) (w := w) hko hck hent
            have hrun := run_lookup (ok := ok) hT hb (key_run (x := cx W S ρ w) hko hck) hf (hz1 w)
            refine Comes.is (u := (if ok then .tuple #[fndV f zv, .bool f.isSome] else fndV f zv)) h (Does.val (by simp only [execOp, e1, e2]; simp [hrun])) hK ?_
            cases hx2 : idxM kt x es with
            | none =>
              obtain ⟨k1, k2, _, _⟩ := idxM_none hx2
              rw [f1 hx2, k1, k2]
              obtain ⟨cs, e3, k3⟩ := hz2 (cx W S ρ w)
              show VR _ _ (if ok = true then Value.tuple #[zv, .bool false] else zv)
              rw [e3]
              exact ok_vr k3
            | some j =>
              obtain ⟨p, k0, _, k1, k2, _, _⟩ := idxM_some hx2
              obtain ⟨en, g1, g2⟩ := f2 j hx2
              rw [g2, k1, k2]
              obtain ⟨en', g3, c1, c2, _, _, e4, k4⟩ := hent.get k0
              rw [g1] at g3
              obtain rfl := Option.some.inj g3
              show VR _ _ (if ok = true then Value.tuple #[en.val, .bool true] else en.val)
              rw [e4]
              exact ok_vr k4
          · cases hK
        · cases hK
      · cases hK
    · split at hK
      · rename_i kt vt hk1 hk2
        obtain ⟨hko, hK⟩ | ⟨_, hK⟩ := cond_elim hK
        · split at hK
          · rename_i x zx hx hzx
            have e1 := vr_nilm hy
            obtain ⟨ck, e2, hck⟩ := dec_vr hz hx
            obtain ⟨zv, hz1, hz2⟩ := zerM_ok hzx
            obtain ⟨f, hf, f1, f2⟩ := find_ok (P := P) (w := w) (x := cx W S ρ w) (vt := vt) hko hck (.nil : A2 (Ent (cx W S ρ w) kt vt) [] [])
            have hf0 := f1 rfl
            subst hf0
            have hck2 := key_run (P := P) (w := w) (x := cx W S ρ w) (em := true) hko hck
            refine Comes.is (u := (if ok then .tuple #[zv, .bool false] else zv)) h (Does.val (by simp only [execOp, e1, e2]; cases ok <;> simp [Instr.lookup, run_underlying hT, hck2, hf, hz1])) hK ?_
            obtain ⟨cs, e3, k3⟩ := hz2 (cx W S ρ w)
            rw [e3]
            exact ok_vr k3
          · cases hK
        · cases hK
      · cases hK
    · cases hK
  · cases hK
def setB (w : World) (b : Nat) (o : Obj) : World := { w with heap := w.heap.setIfInBounds b o }
theorem Fr.setB (w : World) (b : Nat) (o : Obj) : Fr w (setB w b o) (fun k => k = b) := ⟨rfl, rfl, rfl, by simp [Mx.setB], fun k _ hn => by simp [Mx.setB, Array.getElem?_setIfInBounds_ne (fun e => hn e.symm)]⟩
theorem setB_get {b : Nat} {o o' : Obj} (h : w.heap[b]? = some o') : (setB w b o).heap[b]? = some o := by
  have := (Array.getElem?_eq_some_iff.1 h).1
  simp [Mx.setB, this]
theorem mapSet_run {kT e b : Nat} {arr : Array MapEntry} {clk : Nat} {kt vt : T} {k : kt.den} {ck : List Value} {val : Value} {x : Cx} {es : List (kt.den × vt.den)} (hT : P.underlying T' = some (.map kT e)) (hko : keyOk P kT kt = true) (hb : w.heap[b]? = some (.map arr clk)) (hent : A2 (Ent x kt vt) es arr.toList) (hck : kt.kd.K x.A x.h k ck) :
    ∃ arr' clk', (Instr.mapUpdate T' (.map (some b)) (form kt.aggB ck) val).run P w = .ok () (setB w b (.map arr' clk')) ∧ ∀ (y : Cx) (v : vt.den) (cv : List Value), (∀ (z : kt.den) c, kt.kd.K x.A x.h z c → kt.kd.K y.A y.h z c) → (∀ (z : vt.den) c, vt.kd.K x.A x.h z c → vt.kd.K y.A y.h z c) → val = form vt.aggB cv → vt.kd.K y.A y.h v cv → A2 (Ent y kt vt) (setM kt k v es) arr'.toList := by
  obtain ⟨f, hf, f1, f2⟩ := find_ok (P := P) (w := w) hko hck hent
  have hk0 : keyT kt = true := by unfold keyOk at hko; rw [Bool.and_eq_true] at hko; exact hko.1
  have hchk := key_run (P := P) (w := w) (em := false) hko hck
  have upE : ∀ (y : Cx), (∀ (z : kt.den) c, kt.kd.K x.A x.h z c → kt.kd.K y.A y.h z c) → (∀ (z : vt.den) c, vt.kd.K x.A x.h z c → vt.kd.K y.A y.h z c) → A2 (Ent y kt vt) es arr.toList := fun y h1 h2 => hent.imp fun p e ⟨c1, c2, e1, k1, e2, k2⟩ => ⟨c1, c2, e1, h1 _ _ k1, e2, h2 _ _ k2⟩
  cases hx2 : idxM kt k es with
  | none =>
    obtain ⟨_, _, k3, _⟩ := idxM_none hx2
    have hf0 := f1 hx2
    subst hf0
    refine ⟨arr.push { key := form kt.aggB ck, val := val, born := clk }, clk + 1, by simp [Instr.mapUpdate, run_underlying hT, get_map hb, hchk, hf, set_map hb, Mx.setB], fun y v cv h1 h2 h3 h4 => ?_⟩
    rw [k3, Array.toList_push]
    exact A2.push ⟨ck, cv, rfl, h1 _ _ hck, h3, h4⟩ (upE y h1 h2)
  | some j =>
    obtain ⟨p, k0, kb, _, _, k3, _⟩ := idxM_some hx2
    obtain ⟨en, g1, g2⟩ := f2 j hx2
    subst g2
    obtain ⟨en', g3, c1, c2, e3, k4, _, _⟩ := hent.get k0
    rw [g1] at g3
    obtain rfl := Option.some.inj g3
    have hpk : k = p.1 := (eqB_iff hk0).1 kb
    rw [← hpk] at k4
    obtain ⟨hc, hs⟩ := key_cells hk0 hck k4
    have hg : arr[j]? = some en := by rw [← Array.getElem?_toList]; exact g1
    have hsame : (Instr.keyThatStays en.key (form kt.aggB ck)).run P w = .ok (form kt.aggB ck) w := by
      unfold Instr.keyThatStays
      rw [e3, ← hc, same_form hs (key_len hck)]
      simp
    refine ⟨arr.modify j fun e => { e with key := form kt.aggB ck, val := val }, clk, by simp [Instr.mapUpdate, run_underlying hT, get_map hb, hchk, hf, hg, hsame, set_map hb, Mx.setB], fun y v cv h1 h2 h3 h4 => ?_⟩
    rw [k3, Array.toList_modify]
    have hm : arr.toList.modify j (fun e => { e with key := form kt.aggB ck, val := val }) = arr.toList.set j { en with key := form kt.aggB ck, val := val } := by
      rw [List.modify_eq_set]
      rw [g1]; rfl
    rw [hm]
    exact A2.set ⟨ck, cv, rfl, h1 _ _ hck, h3, h4⟩ (upE y h1 h2) j
theorem mapSet_main {m k v : AV} {o : Op} (ho : ∀ ρ : Operand → Value, execOp ρ ⟨d, o, ty, pos, af, g⟩ = (do Instr.mapUpdate T' (ρ y) (ρ z) (ρ q); pure .skip)) (h : Rel W S ρ w) (hd : a.defers = []) (hy : VR (cx W S ρ w) m (a.eval y)) (hz : VR (cx W S ρ w) k (a.eval z)) (hq : VR (cx W S ρ w) v (a.eval q)) (hK : mapSetA P T' m k v S K = some r) : Comes P W S ρ w ⟨d, o, ty, pos, af, g⟩ a K r := by
  unfold mapSetA at hK
  split at hK
  · rename_i kT e i hT
    have hT := mapTy_ok hT
    split at hK
    · rename_i kt vt es hi
      obtain ⟨hko, hK⟩ | ⟨_, hK⟩ := cond_elim hK
      · simp only [Bool.and_eq_true, Bool.not_eq_true'] at hko
        obtain ⟨⟨hko, hni⟩, hpl⟩ := hko
        have hni : i ∉ v.ids := fun hm => by rw [List.contains_iff_mem.2 hm] at hni; cases hni
        split at hK
        · rename_i x hx
          cases hf : frzP v S with
          | mk v' S1 =>
          rw [hf] at hK
          dsimp only at hK
          split at hK
          · rename_i yv hyv
            obtain ⟨cs, hcv, e3⟩ := vr_cr hq hpl
            obtain ⟨A1, hcr', hs⟩ := frzP_ok v h hf hcv
            have hi1 : S1[i]? = some (.map kt vt es true) := by rw [hs i hni]; exact hi
            obtain ⟨b, arr, clk, e1, hρ, hb, hent⟩ := mp_at A1.rel hi1 (hy.up A1.le)
            obtain ⟨ck, e2, hck⟩ := dec_vr (hz.up A1.le) hx
            have hval : a.eval q = form vt.aggB cs := by rw [e3, frz_agg hf hpl, agg_dec hyv]
            have hKv := dec_ok vt v' cs hyv hcr'
            obtain ⟨arr', clk', hrun, hA2⟩ := mapSet_run (P := P) (T' := T') (val := a.eval q) hT hko hb hent hck
            refine (Does.unit (w' := setB w b (.map arr' clk')) (by rw [ho, e1, e2]; simp [hrun])).mono ?_
            rintro u w' ⟨rfl, rfl⟩
            refine ⟨_, _, _, hK, A1.trans (Aft.put A1.rel hi1 (o' := .map kt vt (setM kt x yv es) true) ((Fr.setB w b _).mono fun k _ hk => ⟨rfl, _, hρ, hk.symm⟩) (fun _ => rfl) (fun le => ⟨b, hρ, ⟨arr', clk', setB_get hb, ?_⟩, fun hh => by cases hh⟩)), rfl⟩
            exact hA2 _ _ cs (fun z c hk => le.K hk) (fun z c hk => le.K hk) hval (le.K hKv)
          · cases hK
        · cases hK
      · cases hK
    · cases hK
  · cases hK
theorem mapUpdate_ok {m k v : AV} (h : Rel W S ρ w) (hd : a.defers = []) (hy : VR (cx W S ρ w) m (a.eval y)) (hz : VR (cx W S ρ w) k (a.eval z)) (hq : VR (cx W S ρ w) v (a.eval q)) (hK : mapSetA P T' m k v S K = some r) : Comes P W S ρ w ⟨d, .mapUpdate T' y z q, ty, pos, af, g⟩ a K r := mapSet_main (fun _ => rfl) h hd hy hz hq hK
theorem insert_ok {m k v : AV} (h : Rel W S ρ w) (hd : a.defers = []) (hy : VR (cx W S ρ w) m (a.eval y)) (hz : VR (cx W S ρ w) k (a.eval z)) (hq : VR (cx W S ρ w) v (a.eval q)) (hK : mapSetA P T' m k v S K = some r) : Comes P W S ρ w ⟨d, .insert T' y z q, ty, pos, af, g⟩ a K r := mapSet_main (fun _ => rfl) h hd hy hz hq hK
theorem mapDel_ok {m k : AV} (h : Rel W S ρ w) (hd : a.defers = []) (hy : VR (cx W S ρ w) m (a.eval y)) (hz : VR (cx W S ρ w) k (a.eval z)) (hK : mapDelA P T' m k S K = some r) : Comes P W S ρ w ⟨d, .call { callee := .builtin .delete, args := #[y, z], argTypes := #[T', T2] }, ty, pos, af, g⟩ a K r := by
  unfold mapDelA at hK
  split at hK
  · rename_i kT e hT
    have hT := mapTy_ok hT
    split at hK
    · rename_i i
      split at hK
      · rename_i kt vt es hi
        obtain ⟨hko, hK⟩ | ⟨_, hK⟩ := cond_elim hK
        · split at hK
          · rename_i x hx
            obtain ⟨b, arr, clk, e1, hρ, hb, hent⟩ := mp_at h hi hy
            obtain ⟨ck, e2, hck⟩ := dec_vr hz hx
            obtain ⟨f, hf, f1, f2⟩ := find_ok (P := P) (w := w) hko hck hent
            have hchk := key_run (P := P) (w := w) (em := arr.isEmpty) hko hck
            have fin : ∀ (arr' : Array MapEntry), (Builtin.delete_ #[T', T2] ty #[.map (some b), form kt.aggB ck]).run P w = .ok (.tuple #[]) (setB w b (.map arr' clk)) → A2 (Ent (cx W S ρ w) kt vt) (delM kt x es) arr'.toList →
                Comes P W S ρ w ⟨d, .call { callee := .builtin .delete, args := #[y, z], argTypes := #[T', T2] }, ty, pos, af, g⟩ a K r := by
              intro arr' hrun hA
              refine (Does.val (v := .tuple #[]) (w' := setB w b (.map arr' clk)) (by simp [execOp, resolve, invoke, builtin, e1, e2, hrun])).mono ?_
              rintro u w' ⟨rfl, rfl⟩
              refine ⟨_, _, _, hK, Aft.put h hi (o' := .map kt vt (delM kt x es) true) ((Fr.setB w b _).mono fun k _ hk => ⟨rfl, _, hρ, hk.symm⟩) (fun _ => rfl) (fun le => ⟨b, hρ, ⟨arr', clk, setB_get hb, ?_⟩, fun hh => by cases hh⟩), ⟨[], rfl, by rw [VRs]⟩⟩
              exact hA.imp fun p e ⟨c1, c2, e1, k1, e2, k2⟩ => ⟨c1, c2, e1, le.K k1, e2, le.K k2⟩
            cases hx2 : idxM kt x es with
            | none =>
              obtain ⟨_, _, _, k4⟩ := idxM_none hx2
              have hf0 := f1 hx2
              subst hf0
              exact fin arr (by simp [Builtin.delete_, run_underlying hT, get_map hb, hchk, hf, set_map hb, Mx.setB]) (by rw [k4]; exact hent)
            | some j =>
              obtain ⟨p, _, _, _, _, _, k4⟩ := idxM_some hx2
              obtain ⟨en, g1, g2⟩ := f2 j hx2
              subst g2
              refine fin (arr.eraseIdxIfInBounds j) (by simp [Builtin.delete_, run_underlying hT, get_map hb, hchk, hf, set_map hb, Mx.setB]) ?_
              rw [k4]
              have hj : j < arr.size := by have := (List.getElem?_eq_some_iff.1 g1).1; simpa using this
              have : (arr.eraseIdxIfInBounds j).toList = arr.toList.eraseIdx j := by simp [Array.eraseIdxIfInBounds, hj]
              rw [this]
              exact A2.drop1 hent j
          · cases hK
        · cases hK
      · cases hK
    · cases hK
  · cases hK
theorem lenMap_ok {v : AV} {k e : TypeId} (hT : P.underlying T' = some (.map k e)) (h : Rel W S ρ w) (hy : VR (cx W S ρ w) v (a.eval y)) (hK : lenMA v S K = some r) : Comes P W S ρ w ⟨d, .call { callee := .builtin .len, args := #[y], argTypes := #[T'] }, ty, pos, af, g⟩ a K r := by
  cases v with
  | nilm =>
    have e1 := vr_nilm hy
    exact Comes.is (u := .int .i64 0) h (Does.val (by simp [execOp, resolve, invoke, builtin, e1, Builtin.len_, run_underlying hT, goInt])) hK (vr_intI _ _)
  | mp i =>
    unfold lenMA at hK
    dsimp only at hK
    split at hK
    · rename_i kt vt es m hi
      obtain ⟨b, arr, clk, e1, _, hb, hent⟩ := mp_at h hi hy
      have hl : es.length = arr.size := by rw [hent.len]; simp
      exact Comes.is (u := .int .i64 (es.length : Int)) h (Does.val (by simp [execOp, resolve, invoke, builtin, e1, Builtin.len_, run_underlying hT, goInt, get_map hb, hl])) hK (vr_intI _ _)
    · cases hK
  | _ => cases hK
theorem makeIface_ok {v : AV} {dsc : TypeDesc} (h : Rel W S ρ w) (hy : VR (cx W S ρ w) v (a.eval y)) (hu : P.underlying T' = some dsc) (hK : cond (v.plain && notI dsc) (K (.iface T' v) S) none = some r) : Comes P W S ρ w ⟨d, .makeInterface T' y, ty, pos, af, g⟩ a K r := by
  obtain ⟨hc, hK⟩ | ⟨_, hK⟩ := cond_elim hK
  · rw [Bool.and_eq_true] at hc
    obtain ⟨cs, h1, h2⟩ := vr_cr hy hc.1
    refine Comes.is (u := .iface T' (a.eval y)) h (Does.val ?_) hK ⟨[.iface T' (a.eval y)], rfl, by rw [CR]; exact ⟨cs, by rw [h2], h1, cr_len h1⟩, rfl⟩
    have hd2 := hc.2
    cases dsc with
    | interface _ => cases hd2
    | _ => simp [execOp, Instr.makeInterface, run_underlying hu]
  · cases hK
theorem assert_ok {u : TypeId} {v : AV} {ok : Bool} {dsc : TypeDesc} (h : Rel W S ρ w) (hy : VR (cx W S ρ w) (.iface u v) (a.eval y)) (hu : P.underlying T' = some dsc) (hK : cond (Nat.beq u T' && notI dsc) (K (okV ok v true) S) none = some r) : Comes P W S ρ w ⟨d, .typeAssert y T2 T' ok, ty, pos, af, g⟩ a K r := by
  obtain ⟨hc, hK2⟩ | ⟨_, hK2⟩ := cond_elim hK
  · rw [Bool.and_eq_true] at hc
    have hut := Nat.eq_of_beq_eq_true hc.1
    subst hut
    obtain ⟨c, e, h1, _⟩ := hy
    rw [CR] at h1
    obtain ⟨c', e2, h2, h3⟩ := h1
    have e1 : a.eval y = .iface u (form v.isAgg c') := by rw [e, e2]; rfl
    refine Comes.is (u := if ok then .tuple #[form v.isAgg c', .bool true] else form v.isAgg c') h (Does.val ?_) hK2 ?_
    · have hd2 := hc.2
      cases dsc with
      | interface _ => cases hd2
      | _ => cases ok <;> simp [execOp, Instr.typeAssert, run_underlying hu, e1]
    · have hp : VR (cx W S ρ w) v (form v.isAgg c') := by
        cases v with
        | tup l => rw [CR] at h2; exact h2.elim
        | undef => rw [CR] at h2; exact h2.elim
        | _ => exact ⟨c', rfl, h2, h3⟩
      cases ok with
      | false => exact hp
      | true =>
        refine ⟨[form v.isAgg c', .bool true], rfl, ?_⟩
        rw [VRs]
        refine ⟨c', _, rfl, h2, h3, ?_⟩
        rw [VRs]
        exact ⟨[.bool true], _, rfl, cr_dat.2 rfl, rfl, by rw [VRs]⟩
  · cases hK2
end
end Go.Mx
