/-
  No cell of these rows narrows 'for every input' (looked for: loops, veiled, ifaces, maps, wideKeys, modest, calm, conditions, laid).
  DERIVED. THE GIVEN ROWS OF THIS SEAT. 6 by the template 'for every input the law returns true; each argument reads behind the call as it read before'; 0 by the template 'total and deterministic' (their statements: YtidhcbnplgbnoaaTotals.lean).
  GIVEN WITH THE SEED: the statements are not yours to turn. If you find one false, say at which input.
  Laid BY PROGRAM, IN A SANDBOX (cutbox-rows.mjs): the forced cells as the released guide's own fill.sh prints them over the translation 027ffb15962173e6… (all of the seat's roots in one cut). By AI agents, Wed Nov 11 2026. No macro, syntax, notation, axiom, sorry.
-/
import Derived.Test.YtidhcbnplgbnoaaChecked
import GoSem.Claim
import GoSem.ClaimJoined
import GoSem.ClaimMapViews
import Derived.JoinedTies
import Derived.KernelRfl
namespace Go.Proofs.Ytidhcbnplgbnoaa
/- THE CELL 'sum', in the pinned program and in every row, IS THE sha256 OF THE DUMP (.gsa) THAT YtidhcbnplgbnoaaProg.lean LOADS. Nothing in Lean hashes anything: it is a label: what it is worth is what the hold of that sum in a sandbox is worth. -/
noncomputable def Try.pinned : Pinned := { name := "ytidhcbnplgbnoaa", sum := "027ffb15962173e6726616b7ba0d588a9283c0ebe4a979199cfeaf4f211abcad", checked := Try.checked }
namespace Rows
def none {H : Type} : Left H := { results := [], args := [] }

/-- 'warderlaw11.EditWrong': WHATEVER THE INPUT: true; the input reads as it did. -/
def editWrongSpec : ChangeSpec := { name := "editWrong", fn := fun _ => fun
  | [d1, d2, d3] => { results := [.lit (.bool true)], args := [d1, d2, d3] }
  | _ => none }
def editWrongRow : OpenClaim := { program := "ytidhcbnplgbnoaa", sum := "027ffb15962173e6726616b7ba0d588a9283c0ebe4a979199cfeaf4f211abcad", func := "warder/warderlaw11.EditWrong", spec := "editWrong", unfollowed := true, recurses := true, apart := false }
def EditWrongSaid : Prop := editWrongRow.holds Try.pinned (OpenSpec.ofChange editWrongSpec)

/-- ITS FALSE NEIGHBOUR: 'it returns false'. Refute it at one input. -/
def editWrongWrong : ChangeSpec := { name := "editWrong", fn := fun _ => fun
  | [d1, d2, d3] => { results := [.lit (.bool false)], args := [d1, d2, d3] }
  | _ => none }
def EditWrongWrongFalsely : Prop := editWrongRow.holds Try.pinned (OpenSpec.ofChange editWrongWrong)

/-- 'warderlaw11.EditNil': WHATEVER THE INPUT: true; the input reads as it did. -/
def editNilSpec : ChangeSpec := { name := "editNil", fn := fun _ => fun
  | [] => { results := [.lit (.bool true)], args := [] }
  | _ => none }
def editNilRow : OpenClaim := { program := "ytidhcbnplgbnoaa", sum := "027ffb15962173e6726616b7ba0d588a9283c0ebe4a979199cfeaf4f211abcad", func := "warder/warderlaw11.EditNil", spec := "editNil", unfollowed := true, recurses := true, apart := false }
def EditNilSaid : Prop := editNilRow.holds Try.pinned (OpenSpec.ofChange editNilSpec)

/-- ITS FALSE NEIGHBOUR: 'it returns false'. Refute it at one input. -/
def editNilWrong : ChangeSpec := { name := "editNil", fn := fun _ => fun
  | [] => { results := [.lit (.bool false)], args := [] }
  | _ => none }
def EditNilWrongFalsely : Prop := editNilRow.holds Try.pinned (OpenSpec.ofChange editNilWrong)

/-- 'warderlaw11.EditApart': WHATEVER THE INPUT: true; the input reads as it did. -/
def editApartSpec : ChangeSpec := { name := "editApart", fn := fun _ => fun
  | [d1, d2] => { results := [.lit (.bool true)], args := [d1, d2] }
  | _ => none }
def editApartRow : OpenClaim := { program := "ytidhcbnplgbnoaa", sum := "027ffb15962173e6726616b7ba0d588a9283c0ebe4a979199cfeaf4f211abcad", func := "warder/warderlaw11.EditApart", spec := "editApart", unfollowed := true, recurses := true, apart := false }
def EditApartSaid : Prop := editApartRow.holds Try.pinned (OpenSpec.ofChange editApartSpec)

/-- ITS FALSE NEIGHBOUR: 'it returns false'. Refute it at one input. -/
def editApartWrong : ChangeSpec := { name := "editApart", fn := fun _ => fun
  | [d1, d2] => { results := [.lit (.bool false)], args := [d1, d2] }
  | _ => none }
def EditApartWrongFalsely : Prop := editApartRow.holds Try.pinned (OpenSpec.ofChange editApartWrong)

/-- 'warderlaw11.EditPlays': WHATEVER THE INPUT: true; the input reads as it did. -/
def editPlaysSpec : ChangeSpec := { name := "editPlays", fn := fun _ => fun
  | [d1, d2, d3, d4] => { results := [.lit (.bool true)], args := [d1, d2, d3, d4] }
  | _ => none }
def editPlaysRow : OpenClaim := { program := "ytidhcbnplgbnoaa", sum := "027ffb15962173e6726616b7ba0d588a9283c0ebe4a979199cfeaf4f211abcad", func := "warder/warderlaw11.EditPlays", spec := "editPlays", unfollowed := true, recurses := true, apart := false }
def EditPlaysSaid : Prop := editPlaysRow.holds Try.pinned (OpenSpec.ofChange editPlaysSpec)

/-- ITS FALSE NEIGHBOUR: 'it returns false'. Refute it at one input. -/
def editPlaysWrong : ChangeSpec := { name := "editPlays", fn := fun _ => fun
  | [d1, d2, d3, d4] => { results := [.lit (.bool false)], args := [d1, d2, d3, d4] }
  | _ => none }
def EditPlaysWrongFalsely : Prop := editPlaysRow.holds Try.pinned (OpenSpec.ofChange editPlaysWrong)

/-- 'warderlaw11.EditOrders': WHATEVER THE INPUT: true; the input reads as it did. -/
def editOrdersSpec : ChangeSpec := { name := "editOrders", fn := fun _ => fun
  | [d1, d2, d3] => { results := [.lit (.bool true)], args := [d1, d2, d3] }
  | _ => none }
def editOrdersRow : OpenClaim := { program := "ytidhcbnplgbnoaa", sum := "027ffb15962173e6726616b7ba0d588a9283c0ebe4a979199cfeaf4f211abcad", func := "warder/warderlaw11.EditOrders", spec := "editOrders", unfollowed := true, recurses := true, apart := false }
def EditOrdersSaid : Prop := editOrdersRow.holds Try.pinned (OpenSpec.ofChange editOrdersSpec)

/-- ITS FALSE NEIGHBOUR: 'it returns false'. Refute it at one input. -/
def editOrdersWrong : ChangeSpec := { name := "editOrders", fn := fun _ => fun
  | [d1, d2, d3] => { results := [.lit (.bool false)], args := [d1, d2, d3] }
  | _ => none }
def EditOrdersWrongFalsely : Prop := editOrdersRow.holds Try.pinned (OpenSpec.ofChange editOrdersWrong)

/-- 'warderlaw11.EditBack': WHATEVER THE INPUT: true; the input reads as it did. -/
def editBackSpec : ChangeSpec := { name := "editBack", fn := fun _ => fun
  | [d1, d2] => { results := [.lit (.bool true)], args := [d1, d2] }
  | _ => none }
def editBackRow : OpenClaim := { program := "ytidhcbnplgbnoaa", sum := "027ffb15962173e6726616b7ba0d588a9283c0ebe4a979199cfeaf4f211abcad", func := "warder/warderlaw11.EditBack", spec := "editBack", unfollowed := true, recurses := true, apart := false }
def EditBackSaid : Prop := editBackRow.holds Try.pinned (OpenSpec.ofChange editBackSpec)

/-- ITS FALSE NEIGHBOUR: 'it returns false'. Refute it at one input. -/
def editBackWrong : ChangeSpec := { name := "editBack", fn := fun _ => fun
  | [d1, d2] => { results := [.lit (.bool false)], args := [d1, d2] }
  | _ => none }
def EditBackWrongFalsely : Prop := editBackRow.holds Try.pinned (OpenSpec.ofChange editBackWrong)

/- THE SECOND FORM. 'bulk': how many values and letters a reading holds, each counted each time it is reached (what is shared counts as often as it is met; a slice's spare places count too). A statement '..UptoSaid' is the law's where the arguments, and the package variables that the reading takes, are together of bulk at most 1048576: NARROWER than '..Said'. Prove '..Said' where nothing that the law and all that it calls make is longer than what came in: it says more and counts as full. Else prove '..UptoSaid'. A law counts once. -/
mutual
def uptoBulk {H : Type} : DataW H → Nat
  | .lit (.string bytes) => bytes.length + 1
  | .lit _ => 1
  | .nil => 1
  | .ptr d => uptoBulk d + 1
  | .slice elems spare => uptoBulkAll elems + uptoBulkAll spare + 1
  | .agg parts => uptoBulkAll parts + 1
  | .iface _ d => uptoBulk d + 1
  | .map entries => uptoBulkEntries entries + 1
  | .held _ => 1
def uptoBulkAll {H : Type} : List (DataW H) → Nat
  | [] => 0
  | d :: r => uptoBulk d + uptoBulkAll r
def uptoBulkEntries {H : Type} : List (Lit × DataW H) → Nat
  | [] => 0
  | x :: r => uptoBulkEntry x + uptoBulkEntries r
def uptoBulkEntry {H : Type} : Lit × DataW H → Nat
  | (.string bytes, d) => bytes.length + uptoBulk d + 1
  | (_, d) => uptoBulk d + 1
 end
def uptoSmall : (H : Type) → List (DataW H) → Bool := fun _ ds => decide (uptoBulkAll ds ≤ 1048576)
def OpenSpec.upto (s : _root_.Go.ChangeSpec) : _root_.Go.OpenSpec := { _root_.Go.OpenSpec.ofChange s with cond := some uptoSmall }

/-- 'warderlaw11.EditWrong', WHERE WHAT IT READS IS OF BULK AT MOST 1048576: true; the input reads as it did. -/
def editWrongUptoRow : OpenClaim := { program := "ytidhcbnplgbnoaa", sum := "027ffb15962173e6726616b7ba0d588a9283c0ebe4a979199cfeaf4f211abcad", func := "warder/warderlaw11.EditWrong", spec := "editWrong", unfollowed := true, recurses := true, apart := false, narrowed := true }
def EditWrongUptoSaid : Prop := editWrongUptoRow.holds Try.pinned (OpenSpec.upto editWrongSpec)

/-- 'warderlaw11.EditNil', WHERE WHAT IT READS IS OF BULK AT MOST 1048576: true; the input reads as it did. -/
def editNilUptoRow : OpenClaim := { program := "ytidhcbnplgbnoaa", sum := "027ffb15962173e6726616b7ba0d588a9283c0ebe4a979199cfeaf4f211abcad", func := "warder/warderlaw11.EditNil", spec := "editNil", unfollowed := true, recurses := true, apart := false, narrowed := true }
def EditNilUptoSaid : Prop := editNilUptoRow.holds Try.pinned (OpenSpec.upto editNilSpec)

/-- 'warderlaw11.EditApart', WHERE WHAT IT READS IS OF BULK AT MOST 1048576: true; the input reads as it did. -/
def editApartUptoRow : OpenClaim := { program := "ytidhcbnplgbnoaa", sum := "027ffb15962173e6726616b7ba0d588a9283c0ebe4a979199cfeaf4f211abcad", func := "warder/warderlaw11.EditApart", spec := "editApart", unfollowed := true, recurses := true, apart := false, narrowed := true }
def EditApartUptoSaid : Prop := editApartUptoRow.holds Try.pinned (OpenSpec.upto editApartSpec)

/-- 'warderlaw11.EditPlays', WHERE WHAT IT READS IS OF BULK AT MOST 1048576: true; the input reads as it did. -/
def editPlaysUptoRow : OpenClaim := { program := "ytidhcbnplgbnoaa", sum := "027ffb15962173e6726616b7ba0d588a9283c0ebe4a979199cfeaf4f211abcad", func := "warder/warderlaw11.EditPlays", spec := "editPlays", unfollowed := true, recurses := true, apart := false, narrowed := true }
def EditPlaysUptoSaid : Prop := editPlaysUptoRow.holds Try.pinned (OpenSpec.upto editPlaysSpec)

/-- 'warderlaw11.EditOrders', WHERE WHAT IT READS IS OF BULK AT MOST 1048576: true; the input reads as it did. -/
def editOrdersUptoRow : OpenClaim := { program := "ytidhcbnplgbnoaa", sum := "027ffb15962173e6726616b7ba0d588a9283c0ebe4a979199cfeaf4f211abcad", func := "warder/warderlaw11.EditOrders", spec := "editOrders", unfollowed := true, recurses := true, apart := false, narrowed := true }
def EditOrdersUptoSaid : Prop := editOrdersUptoRow.holds Try.pinned (OpenSpec.upto editOrdersSpec)

/-- 'warderlaw11.EditBack', WHERE WHAT IT READS IS OF BULK AT MOST 1048576: true; the input reads as it did. -/
def editBackUptoRow : OpenClaim := { program := "ytidhcbnplgbnoaa", sum := "027ffb15962173e6726616b7ba0d588a9283c0ebe4a979199cfeaf4f211abcad", func := "warder/warderlaw11.EditBack", spec := "editBack", unfollowed := true, recurses := true, apart := false, narrowed := true }
def EditBackUptoSaid : Prop := editBackUptoRow.holds Try.pinned (OpenSpec.upto editBackSpec)

end Rows
end Go.Proofs.Ytidhcbnplgbnoaa
