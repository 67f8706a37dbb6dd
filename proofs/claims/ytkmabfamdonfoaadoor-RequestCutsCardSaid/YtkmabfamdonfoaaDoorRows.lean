/-
  NARROWER THAN 'FOR EVERY INPUT', by the rows' own cells (each row's printed sentence says how): RequestAnswers: laid · RequestHears: laid · RequestNames: laid · RequestBytes: laid · RequestReads: laid · RequestCuts: laid.
  DERIVED. THE GIVEN ROWS OF THIS SEAT. 6 by the template 'for every input the law returns true; each argument reads behind the call as it read before'; 0 by the template 'total and deterministic' (their statements: YtkmabfamdonfoaaDoorTotals.lean).
  GIVEN WITH THE SEED: the statements are not yours to turn. If you find one false, say at which input.
  Laid BY PROGRAM, IN A SANDBOX (cutbox-rows.mjs): the forced cells as the released guide's own fill.sh prints them over the translation c5c1783348df46d3… (all of the seat's roots in one cut). By AI agents, Wed Nov 11 2026. No macro, syntax, notation, axiom, sorry.
-/
import Derived.Test.YtkmabfamdonfoaaDoorChecked
import GoSem.Claim
import GoSem.ClaimJoined
import GoSem.ClaimMapViews
import Derived.JoinedTies
import Derived.KernelRfl
namespace Go.Proofs.YtkmabfamdonfoaaDoor
/- THE CELL 'sum', in the pinned program and in every row, IS THE sha256 OF THE DUMP (.gsa) THAT YtkmabfamdonfoaaDoorProg.lean LOADS. Nothing in Lean hashes anything: it is a label: what it is worth is what the hold of that sum in a sandbox is worth. -/
noncomputable def Tryd.pinned : Pinned := { name := "ytkmabfamdonfoaadoor", sum := "c5c1783348df46d3d4c55a6825eabc32ac3a2ee96e2b3db5969e967ea4b3bca5", checked := Tryd.checked }
namespace Rows
def none {H : Type} : Left H := { results := [], args := [] }

/- WHAT THE LISTED PACKAGE-LEVEL VARIABLES READ AS WHEN THE CALL BEGINS. Each datum BY PROGRAM (the guide's laid-datum.mjs) off the statement by which the dump's own 'gosem.cut.vars' lays the variable. In a bare row this is a premise. The card (YtkmabfamdonfoaaDoorCards.lean) ties it to the program's text. -/
def laid_warder_types_rows {H : Type} : DataW H := .agg [.agg [.lit (.string []), .lit (.int .i64 0), .lit (.int .i64 0), .lit (.int .i64 0)], .agg [.lit (.string [117, 115, 101, 114]), .lit (.int .i64 1), .lit (.int .i64 128), .lit (.int .i64 3)], .agg [.lit (.string [108, 111, 103, 111, 110]), .lit (.int .i64 1), .lit (.int .i64 64), .lit (.int .i64 2)], .agg [.lit (.string [98, 105, 103]), .lit (.int .i64 1), .lit (.int .i64 256), .lit (.int .i64 3)], .agg [.lit (.string [107, 101, 121, 114, 105, 110, 103]), .lit (.int .i64 0), .lit (.int .i64 0), .lit (.int .i64 5)]]

/-- 'warderlaw21.RequestAnswers': WHATEVER THE INPUT: true; the input reads as it did. -/
def requestAnswersSpec : ChangeSpec := { name := "requestAnswers", fn := fun _ => fun
  | [d] => { results := [.lit (.bool true)], args := [d] }
  | _ => none }
def requestAnswersRow : OpenClaim := { program := "ytkmabfamdonfoaadoor", sum := "c5c1783348df46d3d4c55a6825eabc32ac3a2ee96e2b3db5969e967ea4b3bca5", func := "warder/warderlaw21.RequestAnswers", spec := "requestAnswers", unfollowed := true, recurses := true, named := ["warder/types.rows"], apart := false, laid := [("warder/types.rows", laid_warder_types_rows)] }
def RequestAnswersSaid : Prop := requestAnswersRow.holds Tryd.pinned (OpenSpec.ofChange requestAnswersSpec)

/-- ITS FALSE NEIGHBOUR: 'it returns false'. Refute it at one input. -/
def requestAnswersWrong : ChangeSpec := { name := "requestAnswers", fn := fun _ => fun
  | [d] => { results := [.lit (.bool false)], args := [d] }
  | _ => none }
def RequestAnswersWrongFalsely : Prop := requestAnswersRow.holds Tryd.pinned (OpenSpec.ofChange requestAnswersWrong)

/-- 'warderlaw21.RequestHears': WHATEVER THE INPUT: true; the input reads as it did. -/
def requestHearsSpec : ChangeSpec := { name := "requestHears", fn := fun _ => fun
  | [d] => { results := [.lit (.bool true)], args := [d] }
  | _ => none }
def requestHearsRow : OpenClaim := { program := "ytkmabfamdonfoaadoor", sum := "c5c1783348df46d3d4c55a6825eabc32ac3a2ee96e2b3db5969e967ea4b3bca5", func := "warder/warderlaw21.RequestHears", spec := "requestHears", unfollowed := true, recurses := true, named := ["warder/types.rows"], apart := false, laid := [("warder/types.rows", laid_warder_types_rows)] }
def RequestHearsSaid : Prop := requestHearsRow.holds Tryd.pinned (OpenSpec.ofChange requestHearsSpec)

/-- ITS FALSE NEIGHBOUR: 'it returns false'. Refute it at one input. -/
def requestHearsWrong : ChangeSpec := { name := "requestHears", fn := fun _ => fun
  | [d] => { results := [.lit (.bool false)], args := [d] }
  | _ => none }
def RequestHearsWrongFalsely : Prop := requestHearsRow.holds Tryd.pinned (OpenSpec.ofChange requestHearsWrong)

/-- 'warderlaw21.RequestNames': WHATEVER THE INPUT: true; the input reads as it did. -/
def requestNamesSpec : ChangeSpec := { name := "requestNames", fn := fun _ => fun
  | [d1, d2] => { results := [.lit (.bool true)], args := [d1, d2] }
  | _ => none }
def requestNamesRow : OpenClaim := { program := "ytkmabfamdonfoaadoor", sum := "c5c1783348df46d3d4c55a6825eabc32ac3a2ee96e2b3db5969e967ea4b3bca5", func := "warder/warderlaw21.RequestNames", spec := "requestNames", unfollowed := true, recurses := true, named := ["warder/types.rows"], apart := false, laid := [("warder/types.rows", laid_warder_types_rows)] }
def RequestNamesSaid : Prop := requestNamesRow.holds Tryd.pinned (OpenSpec.ofChange requestNamesSpec)

/-- ITS FALSE NEIGHBOUR: 'it returns false'. Refute it at one input. -/
def requestNamesWrong : ChangeSpec := { name := "requestNames", fn := fun _ => fun
  | [d1, d2] => { results := [.lit (.bool false)], args := [d1, d2] }
  | _ => none }
def RequestNamesWrongFalsely : Prop := requestNamesRow.holds Tryd.pinned (OpenSpec.ofChange requestNamesWrong)

/-- 'warderlaw21.RequestBytes': WHATEVER THE INPUT: true; the input reads as it did. -/
def requestBytesSpec : ChangeSpec := { name := "requestBytes", fn := fun _ => fun
  | [d] => { results := [.lit (.bool true)], args := [d] }
  | _ => none }
def requestBytesRow : OpenClaim := { program := "ytkmabfamdonfoaadoor", sum := "c5c1783348df46d3d4c55a6825eabc32ac3a2ee96e2b3db5969e967ea4b3bca5", func := "warder/warderlaw21.RequestBytes", spec := "requestBytes", unfollowed := true, recurses := true, named := ["warder/types.rows"], apart := false, laid := [("warder/types.rows", laid_warder_types_rows)] }
def RequestBytesSaid : Prop := requestBytesRow.holds Tryd.pinned (OpenSpec.ofChange requestBytesSpec)

/-- ITS FALSE NEIGHBOUR: 'it returns false'. Refute it at one input. -/
def requestBytesWrong : ChangeSpec := { name := "requestBytes", fn := fun _ => fun
  | [d] => { results := [.lit (.bool false)], args := [d] }
  | _ => none }
def RequestBytesWrongFalsely : Prop := requestBytesRow.holds Tryd.pinned (OpenSpec.ofChange requestBytesWrong)

/-- 'warderlaw21.RequestReads': WHATEVER THE INPUT: true; the input reads as it did. -/
def requestReadsSpec : ChangeSpec := { name := "requestReads", fn := fun _ => fun
  | [d] => { results := [.lit (.bool true)], args := [d] }
  | _ => none }
def requestReadsRow : OpenClaim := { program := "ytkmabfamdonfoaadoor", sum := "c5c1783348df46d3d4c55a6825eabc32ac3a2ee96e2b3db5969e967ea4b3bca5", func := "warder/warderlaw21.RequestReads", spec := "requestReads", unfollowed := true, recurses := true, named := ["warder/types.rows"], apart := false, laid := [("warder/types.rows", laid_warder_types_rows)] }
def RequestReadsSaid : Prop := requestReadsRow.holds Tryd.pinned (OpenSpec.ofChange requestReadsSpec)

/-- ITS FALSE NEIGHBOUR: 'it returns false'. Refute it at one input. -/
def requestReadsWrong : ChangeSpec := { name := "requestReads", fn := fun _ => fun
  | [d] => { results := [.lit (.bool false)], args := [d] }
  | _ => none }
def RequestReadsWrongFalsely : Prop := requestReadsRow.holds Tryd.pinned (OpenSpec.ofChange requestReadsWrong)

/-- 'warderlaw21.RequestCuts': WHATEVER THE INPUT: true; the input reads as it did. -/
def requestCutsSpec : ChangeSpec := { name := "requestCuts", fn := fun _ => fun
  | [d1, d2, d3] => { results := [.lit (.bool true)], args := [d1, d2, d3] }
  | _ => none }
def requestCutsRow : OpenClaim := { program := "ytkmabfamdonfoaadoor", sum := "c5c1783348df46d3d4c55a6825eabc32ac3a2ee96e2b3db5969e967ea4b3bca5", func := "warder/warderlaw21.RequestCuts", spec := "requestCuts", unfollowed := true, recurses := true, named := ["warder/types.rows"], apart := false, laid := [("warder/types.rows", laid_warder_types_rows)] }
def RequestCutsSaid : Prop := requestCutsRow.holds Tryd.pinned (OpenSpec.ofChange requestCutsSpec)

/-- ITS FALSE NEIGHBOUR: 'it returns false'. Refute it at one input. -/
def requestCutsWrong : ChangeSpec := { name := "requestCuts", fn := fun _ => fun
  | [d1, d2, d3] => { results := [.lit (.bool false)], args := [d1, d2, d3] }
  | _ => none }
def RequestCutsWrongFalsely : Prop := requestCutsRow.holds Tryd.pinned (OpenSpec.ofChange requestCutsWrong)

/- THE SECOND FORM. 'bulk': how many values and letters a reading holds, each counted each time it is reached (what is shared counts as often as it is met; a slice's spare places count too). A statement '..UptoSaid' is the law's where the arguments, and the package variables that the reading takes, are together of bulk at most 1048576: NARROWER than '..Said'. Prove '..Said' where nothing that the law and all that it calls make is longer than what came in: it says more and counts as full. Else prove '..UptoSaid'. A law counts once. -/
mutual
def uptoBulk {H : Type} : DataW H → Nat
  | .lit (.string bytes) => bytes.length + 1
  | .lit _ => 1
  | .nil => 1
  | .ptr d => uptoBulk d + 1
  | .slice elems spare => uptoBulkAll elems + uptoBulkAll spare + 1
  | .agg parts => uptoBulkAll parts + 1
  | .iface _ d => uptoBulk d + 1
  | .map entries => uptoBulkEntries entries + 1
  | .held _ => 1
def uptoBulkAll {H : Type} : List (DataW H) → Nat
  | [] => 0
  | d :: r => uptoBulk d + uptoBulkAll r
def uptoBulkEntries {H : Type} : List (Lit × DataW H) → Nat
  | [] => 0
  | x :: r => uptoBulkEntry x + uptoBulkEntries r
def uptoBulkEntry {H : Type} : Lit × DataW H → Nat
  | (.string bytes, d) => bytes.length + uptoBulk d + 1
  | (_, d) => uptoBulk d + 1
 end
def uptoSmall : (H : Type) → List (DataW H) → Bool := fun _ ds => decide (uptoBulkAll ds ≤ 1048576)
def OpenSpec.upto (s : _root_.Go.ChangeSpec) : _root_.Go.OpenSpec := { _root_.Go.OpenSpec.ofChange s with cond := some uptoSmall }

/-- 'warderlaw21.RequestAnswers', WHERE WHAT IT READS IS OF BULK AT MOST 1048576: true; the input reads as it did. -/
def requestAnswersUptoRow : OpenClaim := { program := "ytkmabfamdonfoaadoor", sum := "c5c1783348df46d3d4c55a6825eabc32ac3a2ee96e2b3db5969e967ea4b3bca5", func := "warder/warderlaw21.RequestAnswers", spec := "requestAnswers", unfollowed := true, recurses := true, named := ["warder/types.rows"], apart := false, laid := [("warder/types.rows", laid_warder_types_rows)], narrowed := true }
def RequestAnswersUptoSaid : Prop := requestAnswersUptoRow.holds Tryd.pinned (OpenSpec.upto requestAnswersSpec)

/-- 'warderlaw21.RequestHears', WHERE WHAT IT READS IS OF BULK AT MOST 1048576: true; the input reads as it did. -/
def requestHearsUptoRow : OpenClaim := { program := "ytkmabfamdonfoaadoor", sum := "c5c1783348df46d3d4c55a6825eabc32ac3a2ee96e2b3db5969e967ea4b3bca5", func := "warder/warderlaw21.RequestHears", spec := "requestHears", unfollowed := true, recurses := true, named := ["warder/types.rows"], apart := false, laid := [("warder/types.rows", laid_warder_types_rows)], narrowed := true }
def RequestHearsUptoSaid : Prop := requestHearsUptoRow.holds Tryd.pinned (OpenSpec.upto requestHearsSpec)

/-- 'warderlaw21.RequestNames', WHERE WHAT IT READS IS OF BULK AT MOST 1048576: true; the input reads as it did. -/
def requestNamesUptoRow : OpenClaim := { program := "ytkmabfamdonfoaadoor", sum := "c5c1783348df46d3d4c55a6825eabc32ac3a2ee96e2b3db5969e967ea4b3bca5", func := "warder/warderlaw21.RequestNames", spec := "requestNames", unfollowed := true, recurses := true, named := ["warder/types.rows"], apart := false, laid := [("warder/types.rows", laid_warder_types_rows)], narrowed := true }
def RequestNamesUptoSaid : Prop := requestNamesUptoRow.holds Tryd.pinned (OpenSpec.upto requestNamesSpec)

/-- 'warderlaw21.RequestBytes', WHERE WHAT IT READS IS OF BULK AT MOST 1048576: true; the input reads as it did. -/
def requestBytesUptoRow : OpenClaim := { program := "ytkmabfamdonfoaadoor", sum := "c5c1783348df46d3d4c55a6825eabc32ac3a2ee96e2b3db5969e967ea4b3bca5", func := "warder/warderlaw21.RequestBytes", spec := "requestBytes", unfollowed := true, recurses := true, named := ["warder/types.rows"], apart := false, laid := [("warder/types.rows", laid_warder_types_rows)], narrowed := true }
def RequestBytesUptoSaid : Prop := requestBytesUptoRow.holds Tryd.pinned (OpenSpec.upto requestBytesSpec)

/-- 'warderlaw21.RequestReads', WHERE WHAT IT READS IS OF BULK AT MOST 1048576: true; the input reads as it did. -/
def requestReadsUptoRow : OpenClaim := { program := "ytkmabfamdonfoaadoor", sum := "c5c1783348df46d3d4c55a6825eabc32ac3a2ee96e2b3db5969e967ea4b3bca5", func := "warder/warderlaw21.RequestReads", spec := "requestReads", unfollowed := true, recurses := true, named := ["warder/types.rows"], apart := false, laid := [("warder/types.rows", laid_warder_types_rows)], narrowed := true }
def RequestReadsUptoSaid : Prop := requestReadsUptoRow.holds Tryd.pinned (OpenSpec.upto requestReadsSpec)

/-- 'warderlaw21.RequestCuts', WHERE WHAT IT READS IS OF BULK AT MOST 1048576: true; the input reads as it did. -/
def requestCutsUptoRow : OpenClaim := { program := "ytkmabfamdonfoaadoor", sum := "c5c1783348df46d3d4c55a6825eabc32ac3a2ee96e2b3db5969e967ea4b3bca5", func := "warder/warderlaw21.RequestCuts", spec := "requestCuts", unfollowed := true, recurses := true, named := ["warder/types.rows"], apart := false, laid := [("warder/types.rows", laid_warder_types_rows)], narrowed := true }
def RequestCutsUptoSaid : Prop := requestCutsUptoRow.holds Tryd.pinned (OpenSpec.upto requestCutsSpec)

end Rows
end Go.Proofs.YtkmabfamdonfoaaDoor
