/-
  No cell of these rows narrows 'for every input' (looked for: loops, veiled, ifaces, maps, wideKeys, modest, calm, conditions, laid).
  DERIVED. THE GIVEN ROWS OF THIS SEAT. 8 by the template 'for every input the law returns true; each argument reads behind the call as it read before'; 0 by the template 'total and deterministic' (their statements: YtpegbplppfbomaaTotals.lean).
  GIVEN WITH THE SEED: the statements are not yours to turn. If you find one false, say at which input.
  Laid BY PROGRAM, IN A SANDBOX (cutbox-rows.mjs): the forced cells as the released guide's own fill.sh prints them over the translation 8bae1943b5b62ee6… (all of the seat's roots in one cut). By AI agents, Wed Nov 11 2026. No macro, syntax, notation, axiom, sorry.
-/
import Derived.Test.YtpegbplppfbomaaChecked
import GoSem.Claim
import GoSem.ClaimJoined
import GoSem.ClaimMapViews
import Derived.JoinedTies
import Derived.KernelRfl
namespace Go.Proofs.Ytpegbplppfbomaa
/- THE CELL 'sum', in the pinned program and in every row, IS THE sha256 OF THE DUMP (.gsa) THAT YtpegbplppfbomaaProg.lean LOADS. Nothing in Lean hashes anything: it is a label: what it is worth is what the hold of that sum in a sandbox is worth. -/
noncomputable def Try.pinned : Pinned := { name := "ytpegbplppfbomaa", sum := "8bae1943b5b62ee66d0577cd9c4e064809ce067e69180b194125895b23cf0ec9", checked := Try.checked }
namespace Rows
def none {H : Type} : Left H := { results := [], args := [] }

/-- 'handcartlaw29.CallOnce': WHATEVER THE INPUT: true; the input reads as it did. -/
def callOnceSpec : ChangeSpec := { name := "callOnce", fn := fun _ => fun
  | [d] => { results := [.lit (.bool true)], args := [d] }
  | _ => none }
def callOnceRow : OpenClaim := { program := "ytpegbplppfbomaa", sum := "8bae1943b5b62ee66d0577cd9c4e064809ce067e69180b194125895b23cf0ec9", func := "handcart/handcartlaw29.CallOnce", spec := "callOnce", plainKeys := false, apart := false }
def CallOnceSaid : Prop := callOnceRow.holds Try.pinned (OpenSpec.ofChange callOnceSpec)

/-- ITS FALSE NEIGHBOUR: 'it returns false'. Refute it at one input. -/
def callOnceWrong : ChangeSpec := { name := "callOnce", fn := fun _ => fun
  | [d] => { results := [.lit (.bool false)], args := [d] }
  | _ => none }
def CallOnceWrongFalsely : Prop := callOnceRow.holds Try.pinned (OpenSpec.ofChange callOnceWrong)

/-- 'handcartlaw01.NumParses': WHATEVER THE INPUT: true; the input reads as it did. -/
def numParsesSpec : ChangeSpec := { name := "numParses", fn := fun _ => fun
  | [d1, d2, d3] => { results := [.lit (.bool true)], args := [d1, d2, d3] }
  | _ => none }
def numParsesRow : OpenClaim := { program := "ytpegbplppfbomaa", sum := "8bae1943b5b62ee66d0577cd9c4e064809ce067e69180b194125895b23cf0ec9", func := "handcart/handcartlaw01.NumParses", spec := "numParses", unfollowed := true, recurses := true, plainKeys := false, apart := false }
def NumParsesSaid : Prop := numParsesRow.holds Try.pinned (OpenSpec.ofChange numParsesSpec)

/-- ITS FALSE NEIGHBOUR: 'it returns false'. Refute it at one input. -/
def numParsesWrong : ChangeSpec := { name := "numParses", fn := fun _ => fun
  | [d1, d2, d3] => { results := [.lit (.bool false)], args := [d1, d2, d3] }
  | _ => none }
def NumParsesWrongFalsely : Prop := numParsesRow.holds Try.pinned (OpenSpec.ofChange numParsesWrong)

/-- 'handcartlaw29.CallDoes': WHATEVER THE INPUT: true; the input reads as it did. -/
def callDoesSpec : ChangeSpec := { name := "callDoes", fn := fun _ => fun
  | [d] => { results := [.lit (.bool true)], args := [d] }
  | _ => none }
def callDoesRow : OpenClaim := { program := "ytpegbplppfbomaa", sum := "8bae1943b5b62ee66d0577cd9c4e064809ce067e69180b194125895b23cf0ec9", func := "handcart/handcartlaw29.CallDoes", spec := "callDoes", plainKeys := false, apart := false }
def CallDoesSaid : Prop := callDoesRow.holds Try.pinned (OpenSpec.ofChange callDoesSpec)

/-- ITS FALSE NEIGHBOUR: 'it returns false'. Refute it at one input. -/
def callDoesWrong : ChangeSpec := { name := "callDoes", fn := fun _ => fun
  | [d] => { results := [.lit (.bool false)], args := [d] }
  | _ => none }
def CallDoesWrongFalsely : Prop := callDoesRow.holds Try.pinned (OpenSpec.ofChange callDoesWrong)

/-- 'handcartlaw29.CallNobody': WHATEVER THE INPUT: true; the input reads as it did. -/
def callNobodySpec : ChangeSpec := { name := "callNobody", fn := fun _ => fun
  | [d1, d2] => { results := [.lit (.bool true)], args := [d1, d2] }
  | _ => none }
def callNobodyRow : OpenClaim := { program := "ytpegbplppfbomaa", sum := "8bae1943b5b62ee66d0577cd9c4e064809ce067e69180b194125895b23cf0ec9", func := "handcart/handcartlaw29.CallNobody", spec := "callNobody", plainKeys := false, apart := false }
def CallNobodySaid : Prop := callNobodyRow.holds Try.pinned (OpenSpec.ofChange callNobodySpec)

/-- ITS FALSE NEIGHBOUR: 'it returns false'. Refute it at one input. -/
def callNobodyWrong : ChangeSpec := { name := "callNobody", fn := fun _ => fun
  | [d1, d2] => { results := [.lit (.bool false)], args := [d1, d2] }
  | _ => none }
def CallNobodyWrongFalsely : Prop := callNobodyRow.holds Try.pinned (OpenSpec.ofChange callNobodyWrong)

/-- 'handcartlaw01.NumSplits': WHATEVER THE INPUT: true; the input reads as it did. -/
def numSplitsSpec : ChangeSpec := { name := "numSplits", fn := fun _ => fun
  | [d1, d2, d3] => { results := [.lit (.bool true)], args := [d1, d2, d3] }
  | _ => none }
def numSplitsRow : OpenClaim := { program := "ytpegbplppfbomaa", sum := "8bae1943b5b62ee66d0577cd9c4e064809ce067e69180b194125895b23cf0ec9", func := "handcart/handcartlaw01.NumSplits", spec := "numSplits", unfollowed := true, recurses := true, plainKeys := false, apart := false }
def NumSplitsSaid : Prop := numSplitsRow.holds Try.pinned (OpenSpec.ofChange numSplitsSpec)

/-- ITS FALSE NEIGHBOUR: 'it returns false'. Refute it at one input. -/
def numSplitsWrong : ChangeSpec := { name := "numSplits", fn := fun _ => fun
  | [d1, d2, d3] => { results := [.lit (.bool false)], args := [d1, d2, d3] }
  | _ => none }
def NumSplitsWrongFalsely : Prop := numSplitsRow.holds Try.pinned (OpenSpec.ofChange numSplitsWrong)

/-- 'handcartlaw01.NumBack': WHATEVER THE INPUT: true; the input reads as it did. -/
def numBackSpec : ChangeSpec := { name := "numBack", fn := fun _ => fun
  | [d1, d2, d3] => { results := [.lit (.bool true)], args := [d1, d2, d3] }
  | _ => none }
def numBackRow : OpenClaim := { program := "ytpegbplppfbomaa", sum := "8bae1943b5b62ee66d0577cd9c4e064809ce067e69180b194125895b23cf0ec9", func := "handcart/handcartlaw01.NumBack", spec := "numBack", unfollowed := true, recurses := true, plainKeys := false, apart := false }
def NumBackSaid : Prop := numBackRow.holds Try.pinned (OpenSpec.ofChange numBackSpec)

/-- ITS FALSE NEIGHBOUR: 'it returns false'. Refute it at one input. -/
def numBackWrong : ChangeSpec := { name := "numBack", fn := fun _ => fun
  | [d1, d2, d3] => { results := [.lit (.bool false)], args := [d1, d2, d3] }
  | _ => none }
def NumBackWrongFalsely : Prop := numBackRow.holds Try.pinned (OpenSpec.ofChange numBackWrong)

/-- 'handcartlaw35.GraphWays': WHATEVER THE INPUT: true; the input reads as it did. -/
def graphWaysSpec : ChangeSpec := { name := "graphWays", fn := fun _ => fun
  | [d1, d2] => { results := [.lit (.bool true)], args := [d1, d2] }
  | _ => none }
def graphWaysRow : OpenClaim := { program := "ytpegbplppfbomaa", sum := "8bae1943b5b62ee66d0577cd9c4e064809ce067e69180b194125895b23cf0ec9", func := "handcart/handcartlaw35.GraphWays", spec := "graphWays", unfollowed := true, recurses := true, plainKeys := false, apart := false }
def GraphWaysSaid : Prop := graphWaysRow.holds Try.pinned (OpenSpec.ofChange graphWaysSpec)

/-- ITS FALSE NEIGHBOUR: 'it returns false'. Refute it at one input. -/
def graphWaysWrong : ChangeSpec := { name := "graphWays", fn := fun _ => fun
  | [d1, d2] => { results := [.lit (.bool false)], args := [d1, d2] }
  | _ => none }
def GraphWaysWrongFalsely : Prop := graphWaysRow.holds Try.pinned (OpenSpec.ofChange graphWaysWrong)

/-- 'handcartlaw35.GraphTurns': WHATEVER THE INPUT: true; the input reads as it did. -/
def graphTurnsSpec : ChangeSpec := { name := "graphTurns", fn := fun _ => fun
  | [d1, d2, d3] => { results := [.lit (.bool true)], args := [d1, d2, d3] }
  | _ => none }
def graphTurnsRow : OpenClaim := { program := "ytpegbplppfbomaa", sum := "8bae1943b5b62ee66d0577cd9c4e064809ce067e69180b194125895b23cf0ec9", func := "handcart/handcartlaw35.GraphTurns", spec := "graphTurns", unfollowed := true, recurses := true, plainKeys := false, apart := false }
def GraphTurnsSaid : Prop := graphTurnsRow.holds Try.pinned (OpenSpec.ofChange graphTurnsSpec)

/-- ITS FALSE NEIGHBOUR: 'it returns false'. Refute it at one input. -/
def graphTurnsWrong : ChangeSpec := { name := "graphTurns", fn := fun _ => fun
  | [d1, d2, d3] => { results := [.lit (.bool false)], args := [d1, d2, d3] }
  | _ => none }
def GraphTurnsWrongFalsely : Prop := graphTurnsRow.holds Try.pinned (OpenSpec.ofChange graphTurnsWrong)

/- THE SECOND FORM. 'bulk': how many values and letters a reading holds, each counted each time it is reached (what is shared counts as often as it is met; a slice's spare places count too). A statement '..UptoSaid' is the law's where the arguments, and the package variables that the reading takes, are together of bulk at most 1048576: NARROWER than '..Said'. Prove '..Said' where nothing that the law and all that it calls make is longer than what came in: it says more and counts as full. Else prove '..UptoSaid'. A law counts once. -/
mutual
def uptoBulk {H : Type} : DataW H → Nat
  | .lit (.string bytes) => bytes.length + 1
  | .lit _ => 1
  | .nil => 1
  | .ptr d => uptoBulk d + 1
  | .slice elems spare => uptoBulkAll elems + uptoBulkAll spare + 1
  | .agg parts => uptoBulkAll parts + 1
  | .iface _ d => uptoBulk d + 1
  | .map entries => uptoBulkEntries entries + 1
  | .held _ => 1
def uptoBulkAll {H : Type} : List (DataW H) → Nat
  | [] => 0
  | d :: r => uptoBulk d + uptoBulkAll r
def uptoBulkEntries {H : Type} : List (Lit × DataW H) → Nat
  | [] => 0
  | x :: r => uptoBulkEntry x + uptoBulkEntries r
def uptoBulkEntry {H : Type} : Lit × DataW H → Nat
  | (.string bytes, d) => bytes.length + uptoBulk d + 1
  | (_, d) => uptoBulk d + 1
 end
def uptoSmall : (H : Type) → List (DataW H) → Bool := fun _ ds => decide (uptoBulkAll ds ≤ 1048576)
def OpenSpec.upto (s : _root_.Go.ChangeSpec) : _root_.Go.OpenSpec := { _root_.Go.OpenSpec.ofChange s with cond := some uptoSmall }

/-- 'handcartlaw29.CallOnce', WHERE WHAT IT READS IS OF BULK AT MOST 1048576: true; the input reads as it did. -/
def callOnceUptoRow : OpenClaim := { program := "ytpegbplppfbomaa", sum := "8bae1943b5b62ee66d0577cd9c4e064809ce067e69180b194125895b23cf0ec9", func := "handcart/handcartlaw29.CallOnce", spec := "callOnce", plainKeys := false, apart := false, narrowed := true }
def CallOnceUptoSaid : Prop := callOnceUptoRow.holds Try.pinned (OpenSpec.upto callOnceSpec)

/-- 'handcartlaw01.NumParses', WHERE WHAT IT READS IS OF BULK AT MOST 1048576: true; the input reads as it did. -/
def numParsesUptoRow : OpenClaim := { program := "ytpegbplppfbomaa", sum := "8bae1943b5b62ee66d0577cd9c4e064809ce067e69180b194125895b23cf0ec9", func := "handcart/handcartlaw01.NumParses", spec := "numParses", unfollowed := true, recurses := true, plainKeys := false, apart := false, narrowed := true }
def NumParsesUptoSaid : Prop := numParsesUptoRow.holds Try.pinned (OpenSpec.upto numParsesSpec)

/-- 'handcartlaw29.CallDoes', WHERE WHAT IT READS IS OF BULK AT MOST 1048576: true; the input reads as it did. -/
def callDoesUptoRow : OpenClaim := { program := "ytpegbplppfbomaa", sum := "8bae1943b5b62ee66d0577cd9c4e064809ce067e69180b194125895b23cf0ec9", func := "handcart/handcartlaw29.CallDoes", spec := "callDoes", plainKeys := false, apart := false, narrowed := true }
def CallDoesUptoSaid : Prop := callDoesUptoRow.holds Try.pinned (OpenSpec.upto callDoesSpec)

/-- 'handcartlaw29.CallNobody', WHERE WHAT IT READS IS OF BULK AT MOST 1048576: true; the input reads as it did. -/
def callNobodyUptoRow : OpenClaim := { program := "ytpegbplppfbomaa", sum := "8bae1943b5b62ee66d0577cd9c4e064809ce067e69180b194125895b23cf0ec9", func := "handcart/handcartlaw29.CallNobody", spec := "callNobody", plainKeys := false, apart := false, narrowed := true }
def CallNobodyUptoSaid : Prop := callNobodyUptoRow.holds Try.pinned (OpenSpec.upto callNobodySpec)

/-- 'handcartlaw01.NumSplits', WHERE WHAT IT READS IS OF BULK AT MOST 1048576: true; the input reads as it did. -/
def numSplitsUptoRow : OpenClaim := { program := "ytpegbplppfbomaa", sum := "8bae1943b5b62ee66d0577cd9c4e064809ce067e69180b194125895b23cf0ec9", func := "handcart/handcartlaw01.NumSplits", spec := "numSplits", unfollowed := true, recurses := true, plainKeys := false, apart := false, narrowed := true }
def NumSplitsUptoSaid : Prop := numSplitsUptoRow.holds Try.pinned (OpenSpec.upto numSplitsSpec)

/-- 'handcartlaw01.NumBack', WHERE WHAT IT READS IS OF BULK AT MOST 1048576: true; the input reads as it did. -/
def numBackUptoRow : OpenClaim := { program := "ytpegbplppfbomaa", sum := "8bae1943b5b62ee66d0577cd9c4e064809ce067e69180b194125895b23cf0ec9", func := "handcart/handcartlaw01.NumBack", spec := "numBack", unfollowed := true, recurses := true, plainKeys := false, apart := false, narrowed := true }
def NumBackUptoSaid : Prop := numBackUptoRow.holds Try.pinned (OpenSpec.upto numBackSpec)

/-- 'handcartlaw35.GraphWays', WHERE WHAT IT READS IS OF BULK AT MOST 1048576: true; the input reads as it did. -/
def graphWaysUptoRow : OpenClaim := { program := "ytpegbplppfbomaa", sum := "8bae1943b5b62ee66d0577cd9c4e064809ce067e69180b194125895b23cf0ec9", func := "handcart/handcartlaw35.GraphWays", spec := "graphWays", unfollowed := true, recurses := true, plainKeys := false, apart := false, narrowed := true }
def GraphWaysUptoSaid : Prop := graphWaysUptoRow.holds Try.pinned (OpenSpec.upto graphWaysSpec)

/-- 'handcartlaw35.GraphTurns', WHERE WHAT IT READS IS OF BULK AT MOST 1048576: true; the input reads as it did. -/
def graphTurnsUptoRow : OpenClaim := { program := "ytpegbplppfbomaa", sum := "8bae1943b5b62ee66d0577cd9c4e064809ce067e69180b194125895b23cf0ec9", func := "handcart/handcartlaw35.GraphTurns", spec := "graphTurns", unfollowed := true, recurses := true, plainKeys := false, apart := false, narrowed := true }
def GraphTurnsUptoSaid : Prop := graphTurnsUptoRow.holds Try.pinned (OpenSpec.upto graphTurnsSpec)

end Rows
end Go.Proofs.Ytpegbplppfbomaa
