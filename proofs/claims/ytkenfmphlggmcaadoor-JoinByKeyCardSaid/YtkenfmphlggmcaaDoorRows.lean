/-
  NARROWER THAN 'FOR EVERY INPUT', by the rows' own cells (each row's printed sentence says how): JoinMakes: laid · JoinShaped: laid · JoinByKey: laid · JoinFields: laid · JoinLeast: laid.
  DERIVED. THE GIVEN ROWS OF THIS SEAT. 5 by the template 'for every input the law returns true; each argument reads behind the call as it read before'; 0 by the template 'total and deterministic' (their statements: YtkenfmphlggmcaaDoorTotals.lean).
  GIVEN WITH THE SEED: the statements are not yours to turn. If you find one false, say at which input.
  Laid BY PROGRAM, IN A SANDBOX (cutbox-rows.mjs): the forced cells as the released guide's own fill.sh prints them over the translation 28fa1b66fb38bbeb… (all of the seat's roots in one cut). By AI agents, Wed Nov 11 2026. No macro, syntax, notation, axiom, sorry.
-/
import Derived.Test.YtkenfmphlggmcaaDoorChecked
import GoSem.Claim
import GoSem.ClaimJoined
import GoSem.ClaimMapViews
import Derived.JoinedTies
import Derived.KernelRfl
namespace Go.Proofs.YtkenfmphlggmcaaDoor
/- THE CELL 'sum', in the pinned program and in every row, IS THE sha256 OF THE DUMP (.gsa) THAT YtkenfmphlggmcaaDoorProg.lean LOADS. Nothing in Lean hashes anything: it is a label: what it is worth is what the hold of that sum in a sandbox is worth. -/
noncomputable def Tryd.pinned : Pinned := { name := "ytkenfmphlggmcaadoor", sum := "28fa1b66fb38bbeb6d65c7df11c41a653c43480d660e45b1c88adf830fb96f1b", checked := Tryd.checked }
namespace Rows
def none {H : Type} : Left H := { results := [], args := [] }

/- WHAT THE LISTED PACKAGE-LEVEL VARIABLES READ AS WHEN THE CALL BEGINS. Each datum BY PROGRAM (the guide's laid-datum.mjs) off the statement by which the dump's own 'gosem.cut.vars' lays the variable. In a bare row this is a premise. The card (YtkenfmphlggmcaaDoorCards.lean) ties it to the program's text. -/
def laid_armillary_lex_keys {H : Type} : DataW H := .agg [.lit (.string [109, 111, 100, 117, 108, 101]), .lit (.string [105, 109, 112, 111, 114, 116]), .lit (.string [116, 121, 112, 101]), .lit (.string [102, 110]), .lit (.string [108, 101, 116]), .lit (.string [105, 110]), .lit (.string [105, 102]), .lit (.string [116, 104, 101, 110]), .lit (.string [101, 108, 115, 101]), .lit (.string [105, 115]), .lit (.string [97, 115]), .lit (.string [116, 114, 117, 101]), .lit (.string [102, 97, 108, 115, 101]), .lit (.string [110, 117, 108, 108]), .lit (.string [100, 121, 110]), .lit (.string [98, 111, 111, 108]), .lit (.string [105, 110, 116]), .lit (.string [114, 101, 99])]

/-- 'armillarylaw09.JoinMakes': WHATEVER THE INPUT: true; the input reads as it did. -/
def joinMakesSpec : ChangeSpec := { name := "joinMakes", fn := fun _ => fun
  | [d1, d2, d3] => { results := [.lit (.bool true)], args := [d1, d2, d3] }
  | _ => none }
def joinMakesRow : OpenClaim := { program := "ytkenfmphlggmcaadoor", sum := "28fa1b66fb38bbeb6d65c7df11c41a653c43480d660e45b1c88adf830fb96f1b", func := "armillary/armillarylaw09.JoinMakes", spec := "joinMakes", unfollowed := true, recurses := true, named := ["armillary/lex.keys"], plainKeys := false, apart := false, laid := [("armillary/lex.keys", laid_armillary_lex_keys)] }
def JoinMakesSaid : Prop := joinMakesRow.holds Tryd.pinned (OpenSpec.ofChange joinMakesSpec)

/-- ITS FALSE NEIGHBOUR: 'it returns false'. Refute it at one input. -/
def joinMakesWrong : ChangeSpec := { name := "joinMakes", fn := fun _ => fun
  | [d1, d2, d3] => { results := [.lit (.bool false)], args := [d1, d2, d3] }
  | _ => none }
def JoinMakesWrongFalsely : Prop := joinMakesRow.holds Tryd.pinned (OpenSpec.ofChange joinMakesWrong)

/-- 'armillarylaw09.JoinShaped': WHATEVER THE INPUT: true; the input reads as it did. -/
def joinShapedSpec : ChangeSpec := { name := "joinShaped", fn := fun _ => fun
  | [d1, d2, d3] => { results := [.lit (.bool true)], args := [d1, d2, d3] }
  | _ => none }
def joinShapedRow : OpenClaim := { program := "ytkenfmphlggmcaadoor", sum := "28fa1b66fb38bbeb6d65c7df11c41a653c43480d660e45b1c88adf830fb96f1b", func := "armillary/armillarylaw09.JoinShaped", spec := "joinShaped", unfollowed := true, recurses := true, named := ["armillary/lex.keys"], plainKeys := false, apart := false, laid := [("armillary/lex.keys", laid_armillary_lex_keys)] }
def JoinShapedSaid : Prop := joinShapedRow.holds Tryd.pinned (OpenSpec.ofChange joinShapedSpec)

/-- ITS FALSE NEIGHBOUR: 'it returns false'. Refute it at one input. -/
def joinShapedWrong : ChangeSpec := { name := "joinShaped", fn := fun _ => fun
  | [d1, d2, d3] => { results := [.lit (.bool false)], args := [d1, d2, d3] }
  | _ => none }
def JoinShapedWrongFalsely : Prop := joinShapedRow.holds Tryd.pinned (OpenSpec.ofChange joinShapedWrong)

/-- 'armillarylaw09.JoinByKey': WHATEVER THE INPUT: true; the input reads as it did. -/
def joinByKeySpec : ChangeSpec := { name := "joinByKey", fn := fun _ => fun
  | [d1, d2, d3] => { results := [.lit (.bool true)], args := [d1, d2, d3] }
  | _ => none }
def joinByKeyRow : OpenClaim := { program := "ytkenfmphlggmcaadoor", sum := "28fa1b66fb38bbeb6d65c7df11c41a653c43480d660e45b1c88adf830fb96f1b", func := "armillary/armillarylaw09.JoinByKey", spec := "joinByKey", unfollowed := true, recurses := true, named := ["armillary/lex.keys"], plainKeys := false, apart := false, laid := [("armillary/lex.keys", laid_armillary_lex_keys)] }
def JoinByKeySaid : Prop := joinByKeyRow.holds Tryd.pinned (OpenSpec.ofChange joinByKeySpec)

/-- ITS FALSE NEIGHBOUR: 'it returns false'. Refute it at one input. -/
def joinByKeyWrong : ChangeSpec := { name := "joinByKey", fn := fun _ => fun
  | [d1, d2, d3] => { results := [.lit (.bool false)], args := [d1, d2, d3] }
  | _ => none }
def JoinByKeyWrongFalsely : Prop := joinByKeyRow.holds Tryd.pinned (OpenSpec.ofChange joinByKeyWrong)

/-- 'armillarylaw09.JoinFields': WHATEVER THE INPUT: true; the input reads as it did. -/
def joinFieldsSpec : ChangeSpec := { name := "joinFields", fn := fun _ => fun
  | [d1, d2, d3] => { results := [.lit (.bool true)], args := [d1, d2, d3] }
  | _ => none }
def joinFieldsRow : OpenClaim := { program := "ytkenfmphlggmcaadoor", sum := "28fa1b66fb38bbeb6d65c7df11c41a653c43480d660e45b1c88adf830fb96f1b", func := "armillary/armillarylaw09.JoinFields", spec := "joinFields", unfollowed := true, recurses := true, named := ["armillary/lex.keys"], plainKeys := false, apart := false, laid := [("armillary/lex.keys", laid_armillary_lex_keys)] }
def JoinFieldsSaid : Prop := joinFieldsRow.holds Tryd.pinned (OpenSpec.ofChange joinFieldsSpec)

/-- ITS FALSE NEIGHBOUR: 'it returns false'. Refute it at one input. -/
def joinFieldsWrong : ChangeSpec := { name := "joinFields", fn := fun _ => fun
  | [d1, d2, d3] => { results := [.lit (.bool false)], args := [d1, d2, d3] }
  | _ => none }
def JoinFieldsWrongFalsely : Prop := joinFieldsRow.holds Tryd.pinned (OpenSpec.ofChange joinFieldsWrong)

/-- 'armillarylaw09.JoinLeast': WHATEVER THE INPUT: true; the input reads as it did. -/
def joinLeastSpec : ChangeSpec := { name := "joinLeast", fn := fun _ => fun
  | [d1, d2] => { results := [.lit (.bool true)], args := [d1, d2] }
  | _ => none }
def joinLeastRow : OpenClaim := { program := "ytkenfmphlggmcaadoor", sum := "28fa1b66fb38bbeb6d65c7df11c41a653c43480d660e45b1c88adf830fb96f1b", func := "armillary/armillarylaw09.JoinLeast", spec := "joinLeast", unfollowed := true, recurses := true, named := ["armillary/lex.keys"], plainKeys := false, apart := false, laid := [("armillary/lex.keys", laid_armillary_lex_keys)] }
def JoinLeastSaid : Prop := joinLeastRow.holds Tryd.pinned (OpenSpec.ofChange joinLeastSpec)

/-- ITS FALSE NEIGHBOUR: 'it returns false'. Refute it at one input. -/
def joinLeastWrong : ChangeSpec := { name := "joinLeast", fn := fun _ => fun
  | [d1, d2] => { results := [.lit (.bool false)], args := [d1, d2] }
  | _ => none }
def JoinLeastWrongFalsely : Prop := joinLeastRow.holds Tryd.pinned (OpenSpec.ofChange joinLeastWrong)

/- THE SECOND FORM. 'bulk': how many values and letters a reading holds, each counted each time it is reached (what is shared counts as often as it is met; a slice's spare places count too). A statement '..UptoSaid' is the law's where the arguments, and the package variables that the reading takes, are together of bulk at most 1048576: NARROWER than '..Said'. Prove '..Said' where nothing that the law and all that it calls make is longer than what came in: it says more and counts as full. Else prove '..UptoSaid'. A law counts once. -/
mutual
def uptoBulk {H : Type} : DataW H → Nat
  | .lit (.string bytes) => bytes.length + 1
  | .lit _ => 1
  | .nil => 1
  | .ptr d => uptoBulk d + 1
  | .slice elems spare => uptoBulkAll elems + uptoBulkAll spare + 1
  | .agg parts => uptoBulkAll parts + 1
  | .iface _ d => uptoBulk d + 1
  | .map entries => uptoBulkEntries entries + 1
  | .held _ => 1
def uptoBulkAll {H : Type} : List (DataW H) → Nat
  | [] => 0
  | d :: r => uptoBulk d + uptoBulkAll r
def uptoBulkEntries {H : Type} : List (Lit × DataW H) → Nat
  | [] => 0
  | x :: r => uptoBulkEntry x + uptoBulkEntries r
def uptoBulkEntry {H : Type} : Lit × DataW H → Nat
  | (.string bytes, d) => bytes.length + uptoBulk d + 1
  | (_, d) => uptoBulk d + 1
 end
def uptoSmall : (H : Type) → List (DataW H) → Bool := fun _ ds => decide (uptoBulkAll ds ≤ 1048576)
def OpenSpec.upto (s : _root_.Go.ChangeSpec) : _root_.Go.OpenSpec := { _root_.Go.OpenSpec.ofChange s with cond := some uptoSmall }

/-- 'armillarylaw09.JoinMakes', WHERE WHAT IT READS IS OF BULK AT MOST 1048576: true; the input reads as it did. -/
def joinMakesUptoRow : OpenClaim := { program := "ytkenfmphlggmcaadoor", sum := "28fa1b66fb38bbeb6d65c7df11c41a653c43480d660e45b1c88adf830fb96f1b", func := "armillary/armillarylaw09.JoinMakes", spec := "joinMakes", unfollowed := true, recurses := true, named := ["armillary/lex.keys"], plainKeys := false, apart := false, laid := [("armillary/lex.keys", laid_armillary_lex_keys)], narrowed := true }
def JoinMakesUptoSaid : Prop := joinMakesUptoRow.holds Tryd.pinned (OpenSpec.upto joinMakesSpec)

/-- 'armillarylaw09.JoinShaped', WHERE WHAT IT READS IS OF BULK AT MOST 1048576: true; the input reads as it did. -/
def joinShapedUptoRow : OpenClaim := { program := "ytkenfmphlggmcaadoor", sum := "28fa1b66fb38bbeb6d65c7df11c41a653c43480d660e45b1c88adf830fb96f1b", func := "armillary/armillarylaw09.JoinShaped", spec := "joinShaped", unfollowed := true, recurses := true, named := ["armillary/lex.keys"], plainKeys := false, apart := false, laid := [("armillary/lex.keys", laid_armillary_lex_keys)], narrowed := true }
def JoinShapedUptoSaid : Prop := joinShapedUptoRow.holds Tryd.pinned (OpenSpec.upto joinShapedSpec)

/-- 'armillarylaw09.JoinByKey', WHERE WHAT IT READS IS OF BULK AT MOST 1048576: true; the input reads as it did. -/
def joinByKeyUptoRow : OpenClaim := { program := "ytkenfmphlggmcaadoor", sum := "28fa1b66fb38bbeb6d65c7df11c41a653c43480d660e45b1c88adf830fb96f1b", func := "armillary/armillarylaw09.JoinByKey", spec := "joinByKey", unfollowed := true, recurses := true, named := ["armillary/lex.keys"], plainKeys := false, apart := false, laid := [("armillary/lex.keys", laid_armillary_lex_keys)], narrowed := true }
def JoinByKeyUptoSaid : Prop := joinByKeyUptoRow.holds Tryd.pinned (OpenSpec.upto joinByKeySpec)

/-- 'armillarylaw09.JoinFields', WHERE WHAT IT READS IS OF BULK AT MOST 1048576: true; the input reads as it did. -/
def joinFieldsUptoRow : OpenClaim := { program := "ytkenfmphlggmcaadoor", sum := "28fa1b66fb38bbeb6d65c7df11c41a653c43480d660e45b1c88adf830fb96f1b", func := "armillary/armillarylaw09.JoinFields", spec := "joinFields", unfollowed := true, recurses := true, named := ["armillary/lex.keys"], plainKeys := false, apart := false, laid := [("armillary/lex.keys", laid_armillary_lex_keys)], narrowed := true }
def JoinFieldsUptoSaid : Prop := joinFieldsUptoRow.holds Tryd.pinned (OpenSpec.upto joinFieldsSpec)

/-- 'armillarylaw09.JoinLeast', WHERE WHAT IT READS IS OF BULK AT MOST 1048576: true; the input reads as it did. -/
def joinLeastUptoRow : OpenClaim := { program := "ytkenfmphlggmcaadoor", sum := "28fa1b66fb38bbeb6d65c7df11c41a653c43480d660e45b1c88adf830fb96f1b", func := "armillary/armillarylaw09.JoinLeast", spec := "joinLeast", unfollowed := true, recurses := true, named := ["armillary/lex.keys"], plainKeys := false, apart := false, laid := [("armillary/lex.keys", laid_armillary_lex_keys)], narrowed := true }
def JoinLeastUptoSaid : Prop := joinLeastUptoRow.holds Tryd.pinned (OpenSpec.upto joinLeastSpec)

end Rows
end Go.Proofs.YtkenfmphlggmcaaDoor
