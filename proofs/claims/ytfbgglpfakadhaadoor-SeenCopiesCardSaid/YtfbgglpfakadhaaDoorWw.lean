/- Own work. A part of the proof of a law of this seat: this seat's functions, by the machine, and the plain law -/
import Derived.Test.YtfbgglpfakadhaaDoorMe
import Derived.Test.YtfbgglpfakadhaaDoorRows
import Derived.Test.YtfbgglpfakadhaaDoorWc
namespace Go.Mx
set_option linter.unusedVariables false
open Go Go.RowKit Go.Sx Go.Proofs Go.Proofs.YtfbgglpfakadhaaDoor
set_option maxRecDepth 100000
theorem gl_ok {w : World} (h : laidMet Tryd.prog [("math/bits.deBruijn32tab", Rows.laid_math_bits_deBruijn32tab), ("math/bits.deBruijn64tab", Rows.laid_math_bits_deBruijn64tab), ("internal/strconv.uint64pow10", Rows.laid_internal_strconv_uint64pow10), ("unicode.White_Space", Rows.laid_unicode_White_Space), ("strings.asciiSpace", Rows.laid_strings_asciiSpace)] w) : GlR (cx (fun _ => False) [] (fun _ => ⟨none, 0, 0, 0⟩) w) := by
  intro g z hz
  by_cases e0 : g = 0
  · subst e0
    obtain rfl := Option.some.inj (show some (⟨.arr 256 U8, asc⟩ : (t : T) × t.den) = some z from hz)
    exact gl_one h (n := "strings.asciiSpace") (d := Rows.laid_strings_asciiSpace) (by simp) (by kernel_rfl) (t := 104) (T' := (⟨.arr 256 U8, asc⟩ : (t : T) × t.den).1) (x := (⟨.arr 256 U8, asc⟩ : (t : T) × t.den).2) (by kernel_rfl) (Dv.arr Tryd.underlying104 (by kernel_rfl) (Dv.int Tryd.underlying5 (by kernel_rfl))) (by kernel_rfl)
  by_cases e1 : g = 1
  · subst e1
    obtain rfl := Option.some.inj (show some (⟨.arr 20 U64, pow10⟩ : (t : T) × t.den) = some z from hz)
    exact gl_one h (n := "internal/strconv.uint64pow10") (d := Rows.laid_internal_strconv_uint64pow10) (by simp) (by kernel_rfl) (t := 118) (T' := (⟨.arr 20 U64, pow10⟩ : (t : T) × t.den).1) (x := (⟨.arr 20 U64, pow10⟩ : (t : T) × t.den).2) (by kernel_rfl) (Dv.arr Tryd.underlying118 (by kernel_rfl) (Dv.int Tryd.underlying33 (by kernel_rfl))) (by kernel_rfl)
  exfalso
  have : (Glb.gl g : Option ((t : T) × t.den)) = none := by
    show gI.gl g = none
    unfold gI
    dsimp only
    split
    · exact absurd rfl e0
    · exact absurd rfl e1
    · rfl
  rw [this] at hz; cases hz
end Go.Mx
