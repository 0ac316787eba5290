/-
  No cell of these rows narrows 'for every input' (looked for: loops, veiled, ifaces, maps, wideKeys, modest, calm, conditions, laid).
  DERIVED. THE GIVEN ROWS OF THIS SEAT. 6 by the template 'for every input the law returns true; each argument reads behind the call as it read before'; 0 by the template 'total and deterministic' (their statements: YtajfamjdfhjdeaaTotals.lean).
  GIVEN WITH THE SEED: the statements are not yours to turn. If you find one false, say at which input.
  Laid BY PROGRAM, IN A SANDBOX (cutbox-rows.mjs): the forced cells as the released guide's own fill.sh prints them over the translation 2385dab55c097bf0… (all of the seat's roots in one cut). By AI agents, Wed Nov 11 2026. No macro, syntax, notation, axiom, sorry.
-/
import Derived.Test.YtajfamjdfhjdeaaChecked
import GoSem.Claim
import GoSem.ClaimJoined
import GoSem.ClaimMapViews
import Derived.JoinedTies
import Derived.KernelRfl
namespace Go.Proofs.Ytajfamjdfhjdeaa
/- THE CELL 'sum', in the pinned program and in every row, IS THE sha256 OF THE DUMP (.gsa) THAT YtajfamjdfhjdeaaProg.lean LOADS. Nothing in Lean hashes anything: it is a label: what it is worth is what the hold of that sum in a sandbox is worth. -/
noncomputable def Try.pinned : Pinned := { name := "ytajfamjdfhjdeaa", sum := "2385dab55c097bf07a2930ca5b1eedaff0540df126813333dbd9814a783ea8bd", checked := Try.checked }
namespace Rows
def none {H : Type} : Left H := { results := [], args := [] }

/-- 'mantlelaw10.SumsByte': WHATEVER THE INPUT: true; the input reads as it did. -/
def sumsByteSpec : ChangeSpec := { name := "sumsByte", fn := fun _ => fun
  | [d1, d2, d3] => { results := [.lit (.bool true)], args := [d1, d2, d3] }
  | _ => none }
def sumsByteRow : OpenClaim := { program := "ytajfamjdfhjdeaa", sum := "2385dab55c097bf07a2930ca5b1eedaff0540df126813333dbd9814a783ea8bd", func := "mantle/mantlelaw10.SumsByte", spec := "sumsByte", unfollowed := true, recurses := true, apart := false }
def SumsByteSaid : Prop := sumsByteRow.holds Try.pinned (OpenSpec.ofChange sumsByteSpec)

/-- ITS FALSE NEIGHBOUR: 'it returns false'. Refute it at one input. -/
def sumsByteWrong : ChangeSpec := { name := "sumsByte", fn := fun _ => fun
  | [d1, d2, d3] => { results := [.lit (.bool false)], args := [d1, d2, d3] }
  | _ => none }
def SumsByteWrongFalsely : Prop := sumsByteRow.holds Try.pinned (OpenSpec.ofChange sumsByteWrong)

/-- 'mantlelaw10.SumsNotice': WHATEVER THE INPUT: true; the input reads as it did. -/
def sumsNoticeSpec : ChangeSpec := { name := "sumsNotice", fn := fun _ => fun
  | [d1, d2, d3, d4, d5] => { results := [.lit (.bool true)], args := [d1, d2, d3, d4, d5] }
  | _ => none }
def sumsNoticeRow : OpenClaim := { program := "ytajfamjdfhjdeaa", sum := "2385dab55c097bf07a2930ca5b1eedaff0540df126813333dbd9814a783ea8bd", func := "mantle/mantlelaw10.SumsNotice", spec := "sumsNotice", unfollowed := true, recurses := true, apart := false }
def SumsNoticeSaid : Prop := sumsNoticeRow.holds Try.pinned (OpenSpec.ofChange sumsNoticeSpec)

/-- ITS FALSE NEIGHBOUR: 'it returns false'. Refute it at one input. -/
def sumsNoticeWrong : ChangeSpec := { name := "sumsNotice", fn := fun _ => fun
  | [d1, d2, d3, d4, d5] => { results := [.lit (.bool false)], args := [d1, d2, d3, d4, d5] }
  | _ => none }
def SumsNoticeWrongFalsely : Prop := sumsNoticeRow.holds Try.pinned (OpenSpec.ofChange sumsNoticeWrong)

/-- 'mantlelaw10.SumsNil': WHATEVER THE INPUT: true; the input reads as it did. -/
def sumsNilSpec : ChangeSpec := { name := "sumsNil", fn := fun _ => fun
  | [d] => { results := [.lit (.bool true)], args := [d] }
  | _ => none }
def sumsNilRow : OpenClaim := { program := "ytajfamjdfhjdeaa", sum := "2385dab55c097bf07a2930ca5b1eedaff0540df126813333dbd9814a783ea8bd", func := "mantle/mantlelaw10.SumsNil", spec := "sumsNil", inPlace := ["slices.overlaps[mantle/span.piece]"], unfollowed := true, recurses := true, apart := false }
def SumsNilSaid : Prop := sumsNilRow.holds Try.pinned (OpenSpec.ofChange sumsNilSpec)

/-- ITS FALSE NEIGHBOUR: 'it returns false'. Refute it at one input. -/
def sumsNilWrong : ChangeSpec := { name := "sumsNil", fn := fun _ => fun
  | [d] => { results := [.lit (.bool false)], args := [d] }
  | _ => none }
def SumsNilWrongFalsely : Prop := sumsNilRow.holds Try.pinned (OpenSpec.ofChange sumsNilWrong)

/-- 'mantlelaw10.SumsPlays': WHATEVER THE INPUT: true; the input reads as it did. -/
def sumsPlaysSpec : ChangeSpec := { name := "sumsPlays", fn := fun _ => fun
  | [d1, d2] => { results := [.lit (.bool true)], args := [d1, d2] }
  | _ => none }
def sumsPlaysRow : OpenClaim := { program := "ytajfamjdfhjdeaa", sum := "2385dab55c097bf07a2930ca5b1eedaff0540df126813333dbd9814a783ea8bd", func := "mantle/mantlelaw10.SumsPlays", spec := "sumsPlays", inPlace := ["slices.overlaps[mantle/span.piece]"], unfollowed := true, recurses := true, apart := false }
def SumsPlaysSaid : Prop := sumsPlaysRow.holds Try.pinned (OpenSpec.ofChange sumsPlaysSpec)

/-- ITS FALSE NEIGHBOUR: 'it returns false'. Refute it at one input. -/
def sumsPlaysWrong : ChangeSpec := { name := "sumsPlays", fn := fun _ => fun
  | [d1, d2] => { results := [.lit (.bool false)], args := [d1, d2] }
  | _ => none }
def SumsPlaysWrongFalsely : Prop := sumsPlaysRow.holds Try.pinned (OpenSpec.ofChange sumsPlaysWrong)

/-- 'mantlelaw10.SumsTables': WHATEVER THE INPUT: true; the input reads as it did. -/
def sumsTablesSpec : ChangeSpec := { name := "sumsTables", fn := fun _ => fun
  | [d1, d2] => { results := [.lit (.bool true)], args := [d1, d2] }
  | _ => none }
def sumsTablesRow : OpenClaim := { program := "ytajfamjdfhjdeaa", sum := "2385dab55c097bf07a2930ca5b1eedaff0540df126813333dbd9814a783ea8bd", func := "mantle/mantlelaw10.SumsTables", spec := "sumsTables", inPlace := ["slices.overlaps[mantle/span.piece]"], unfollowed := true, recurses := true, apart := false }
def SumsTablesSaid : Prop := sumsTablesRow.holds Try.pinned (OpenSpec.ofChange sumsTablesSpec)

/-- ITS FALSE NEIGHBOUR: 'it returns false'. Refute it at one input. -/
def sumsTablesWrong : ChangeSpec := { name := "sumsTables", fn := fun _ => fun
  | [d1, d2] => { results := [.lit (.bool false)], args := [d1, d2] }
  | _ => none }
def SumsTablesWrongFalsely : Prop := sumsTablesRow.holds Try.pinned (OpenSpec.ofChange sumsTablesWrong)

/-- 'mantlelaw10.SumsStay': WHATEVER THE INPUT: true; the input reads as it did. -/
def sumsStaySpec : ChangeSpec := { name := "sumsStay", fn := fun _ => fun
  | [d1, d2] => { results := [.lit (.bool true)], args := [d1, d2] }
  | _ => none }
def sumsStayRow : OpenClaim := { program := "ytajfamjdfhjdeaa", sum := "2385dab55c097bf07a2930ca5b1eedaff0540df126813333dbd9814a783ea8bd", func := "mantle/mantlelaw10.SumsStay", spec := "sumsStay", unfollowed := true, recurses := true, apart := false }
def SumsStaySaid : Prop := sumsStayRow.holds Try.pinned (OpenSpec.ofChange sumsStaySpec)

/-- ITS FALSE NEIGHBOUR: 'it returns false'. Refute it at one input. -/
def sumsStayWrong : ChangeSpec := { name := "sumsStay", fn := fun _ => fun
  | [d1, d2] => { results := [.lit (.bool false)], args := [d1, d2] }
  | _ => none }
def SumsStayWrongFalsely : Prop := sumsStayRow.holds Try.pinned (OpenSpec.ofChange sumsStayWrong)

/- THE SECOND FORM. 'bulk': how many values and letters a reading holds, each counted each time it is reached (what is shared counts as often as it is met; a slice's spare places count too). A statement '..UptoSaid' is the law's where the arguments, and the package variables that the reading takes, are together of bulk at most 1048576: NARROWER than '..Said'. Prove '..Said' where nothing that the law and all that it calls make is longer than what came in: it says more and counts as full. Else prove '..UptoSaid'. A law counts once. -/
mutual
def uptoBulk {H : Type} : DataW H → Nat
  | .lit (.string bytes) => bytes.length + 1
  | .lit _ => 1
  | .nil => 1
  | .ptr d => uptoBulk d + 1
  | .slice elems spare => uptoBulkAll elems + uptoBulkAll spare + 1
  | .agg parts => uptoBulkAll parts + 1
  | .iface _ d => uptoBulk d + 1
  | .map entries => uptoBulkEntries entries + 1
  | .held _ => 1
def uptoBulkAll {H : Type} : List (DataW H) → Nat
  | [] => 0
  | d :: r => uptoBulk d + uptoBulkAll r
def uptoBulkEntries {H : Type} : List (Lit × DataW H) → Nat
  | [] => 0
  | x :: r => uptoBulkEntry x + uptoBulkEntries r
def uptoBulkEntry {H : Type} : Lit × DataW H → Nat
  | (.string bytes, d) => bytes.length + uptoBulk d + 1
  | (_, d) => uptoBulk d + 1
 end
def uptoSmall : (H : Type) → List (DataW H) → Bool := fun _ ds => decide (uptoBulkAll ds ≤ 1048576)
def OpenSpec.upto (s : _root_.Go.ChangeSpec) : _root_.Go.OpenSpec := { _root_.Go.OpenSpec.ofChange s with cond := some uptoSmall }

/-- 'mantlelaw10.SumsByte', WHERE WHAT IT READS IS OF BULK AT MOST 1048576: true; the input reads as it did. -/
def sumsByteUptoRow : OpenClaim := { program := "ytajfamjdfhjdeaa", sum := "2385dab55c097bf07a2930ca5b1eedaff0540df126813333dbd9814a783ea8bd", func := "mantle/mantlelaw10.SumsByte", spec := "sumsByte", unfollowed := true, recurses := true, apart := false, narrowed := true }
def SumsByteUptoSaid : Prop := sumsByteUptoRow.holds Try.pinned (OpenSpec.upto sumsByteSpec)

/-- 'mantlelaw10.SumsNotice', WHERE WHAT IT READS IS OF BULK AT MOST 1048576: true; the input reads as it did. -/
def sumsNoticeUptoRow : OpenClaim := { program := "ytajfamjdfhjdeaa", sum := "2385dab55c097bf07a2930ca5b1eedaff0540df126813333dbd9814a783ea8bd", func := "mantle/mantlelaw10.SumsNotice", spec := "sumsNotice", unfollowed := true, recurses := true, apart := false, narrowed := true }
def SumsNoticeUptoSaid : Prop := sumsNoticeUptoRow.holds Try.pinned (OpenSpec.upto sumsNoticeSpec)

/-- 'mantlelaw10.SumsNil', WHERE WHAT IT READS IS OF BULK AT MOST 1048576: true; the input reads as it did. -/
def sumsNilUptoRow : OpenClaim := { program := "ytajfamjdfhjdeaa", sum := "2385dab55c097bf07a2930ca5b1eedaff0540df126813333dbd9814a783ea8bd", func := "mantle/mantlelaw10.SumsNil", spec := "sumsNil", inPlace := ["slices.overlaps[mantle/span.piece]"], unfollowed := true, recurses := true, apart := false, narrowed := true }
def SumsNilUptoSaid : Prop := sumsNilUptoRow.holds Try.pinned (OpenSpec.upto sumsNilSpec)

/-- 'mantlelaw10.SumsPlays', WHERE WHAT IT READS IS OF BULK AT MOST 1048576: true; the input reads as it did. -/
def sumsPlaysUptoRow : OpenClaim := { program := "ytajfamjdfhjdeaa", sum := "2385dab55c097bf07a2930ca5b1eedaff0540df126813333dbd9814a783ea8bd", func := "mantle/mantlelaw10.SumsPlays", spec := "sumsPlays", inPlace := ["slices.overlaps[mantle/span.piece]"], unfollowed := true, recurses := true, apart := false, narrowed := true }
def SumsPlaysUptoSaid : Prop := sumsPlaysUptoRow.holds Try.pinned (OpenSpec.upto sumsPlaysSpec)

/-- 'mantlelaw10.SumsTables', WHERE WHAT IT READS IS OF BULK AT MOST 1048576: true; the input reads as it did. -/
def sumsTablesUptoRow : OpenClaim := { program := "ytajfamjdfhjdeaa", sum := "2385dab55c097bf07a2930ca5b1eedaff0540df126813333dbd9814a783ea8bd", func := "mantle/mantlelaw10.SumsTables", spec := "sumsTables", inPlace := ["slices.overlaps[mantle/span.piece]"], unfollowed := true, recurses := true, apart := false, narrowed := true }
def SumsTablesUptoSaid : Prop := sumsTablesUptoRow.holds Try.pinned (OpenSpec.upto sumsTablesSpec)

/-- 'mantlelaw10.SumsStay', WHERE WHAT IT READS IS OF BULK AT MOST 1048576: true; the input reads as it did. -/
def sumsStayUptoRow : OpenClaim := { program := "ytajfamjdfhjdeaa", sum := "2385dab55c097bf07a2930ca5b1eedaff0540df126813333dbd9814a783ea8bd", func := "mantle/mantlelaw10.SumsStay", spec := "sumsStay", unfollowed := true, recurses := true, apart := false, narrowed := true }
def SumsStayUptoSaid : Prop := sumsStayUptoRow.holds Try.pinned (OpenSpec.upto sumsStaySpec)

end Rows
end Go.Proofs.Ytajfamjdfhjdeaa
