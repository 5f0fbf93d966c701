/-
  No cell of these rows narrows 'for every input' (looked for: loops, veiled, ifaces, maps, wideKeys, modest, calm, conditions, laid).
  DERIVED. THE GIVEN ROWS OF THIS SEAT. 12 by the template 'for every input the law returns true; each argument reads behind the call as it read before'; 0 by the template 'total and deterministic' (their statements: YtidneanbjijjjaaTotals.lean).
  GIVEN WITH THE SEED: the statements are not yours to turn. If you find one false, say at which input.
  Laid BY PROGRAM, IN A SANDBOX (cutbox-rows.mjs): the forced cells as the released guide's own fill.sh prints them over the translation 96ffc84412b7b1fe… (all of the seat's roots in one cut). By AI agents, Wed Nov 11 2026. No macro, syntax, notation, axiom, sorry.
-/
import Derived.Test.YtidneanbjijjjaaChecked
import GoSem.Claim
import GoSem.ClaimJoined
import GoSem.ClaimMapViews
import Derived.JoinedTies
import Derived.KernelRfl
namespace Go.Proofs.Ytidneanbjijjjaa
/- THE CELL 'sum', in the pinned program and in every row, IS THE sha256 OF THE DUMP (.gsa) THAT YtidneanbjijjjaaProg.lean LOADS. Nothing in Lean hashes anything: it is a label: what it is worth is what the hold of that sum in a sandbox is worth. -/
noncomputable def Try.pinned : Pinned := { name := "ytidneanbjijjjaa", sum := "96ffc84412b7b1fe0407bf35bfe4ca95eaea346d40e1bc8757ae04ff53d05897", checked := Try.checked }
namespace Rows
def none {H : Type} : Left H := { results := [], args := [] }

/-- 'draylaw5.SpanRuns': WHATEVER THE INPUT: true; the input reads as it did. -/
def spanRunsSpec : ChangeSpec := { name := "spanRuns", fn := fun _ => fun
  | [] => { results := [.lit (.bool true)], args := [] }
  | _ => none }
def spanRunsRow : OpenClaim := { program := "ytidneanbjijjjaa", sum := "96ffc84412b7b1fe0407bf35bfe4ca95eaea346d40e1bc8757ae04ff53d05897", func := "dray/draylaw5.SpanRuns", spec := "spanRuns", apart := false }
def SpanRunsSaid : Prop := spanRunsRow.holds Try.pinned (OpenSpec.ofChange spanRunsSpec)

/-- ITS FALSE NEIGHBOUR: 'it returns false'. Refute it at one input. -/
def spanRunsWrong : ChangeSpec := { name := "spanRuns", fn := fun _ => fun
  | [] => { results := [.lit (.bool false)], args := [] }
  | _ => none }
def SpanRunsWrongFalsely : Prop := spanRunsRow.holds Try.pinned (OpenSpec.ofChange spanRunsWrong)

/-- 'draylaw5.SpanMeets': WHATEVER THE INPUT: true; the input reads as it did. -/
def spanMeetsSpec : ChangeSpec := { name := "spanMeets", fn := fun _ => fun
  | [d] => { results := [.lit (.bool true)], args := [d] }
  | _ => none }
def spanMeetsRow : OpenClaim := { program := "ytidneanbjijjjaa", sum := "96ffc84412b7b1fe0407bf35bfe4ca95eaea346d40e1bc8757ae04ff53d05897", func := "dray/draylaw5.SpanMeets", spec := "spanMeets", apart := false }
def SpanMeetsSaid : Prop := spanMeetsRow.holds Try.pinned (OpenSpec.ofChange spanMeetsSpec)

/-- ITS FALSE NEIGHBOUR: 'it returns false'. Refute it at one input. -/
def spanMeetsWrong : ChangeSpec := { name := "spanMeets", fn := fun _ => fun
  | [d] => { results := [.lit (.bool false)], args := [d] }
  | _ => none }
def SpanMeetsWrongFalsely : Prop := spanMeetsRow.holds Try.pinned (OpenSpec.ofChange spanMeetsWrong)

/-- 'draylaw5.SpanTells': WHATEVER THE INPUT: true; the input reads as it did. -/
def spanTellsSpec : ChangeSpec := { name := "spanTells", fn := fun _ => fun
  | [d1, d2, d3, d4] => { results := [.lit (.bool true)], args := [d1, d2, d3, d4] }
  | _ => none }
def spanTellsRow : OpenClaim := { program := "ytidneanbjijjjaa", sum := "96ffc84412b7b1fe0407bf35bfe4ca95eaea346d40e1bc8757ae04ff53d05897", func := "dray/draylaw5.SpanTells", spec := "spanTells", apart := false }
def SpanTellsSaid : Prop := spanTellsRow.holds Try.pinned (OpenSpec.ofChange spanTellsSpec)

/-- ITS FALSE NEIGHBOUR: 'it returns false'. Refute it at one input. -/
def spanTellsWrong : ChangeSpec := { name := "spanTells", fn := fun _ => fun
  | [d1, d2, d3, d4] => { results := [.lit (.bool false)], args := [d1, d2, d3, d4] }
  | _ => none }
def SpanTellsWrongFalsely : Prop := spanTellsRow.holds Try.pinned (OpenSpec.ofChange spanTellsWrong)

/-- 'draylaw5.SpanMembers': WHATEVER THE INPUT: true; the input reads as it did. -/
def spanMembersSpec : ChangeSpec := { name := "spanMembers", fn := fun _ => fun
  | [d1, d2] => { results := [.lit (.bool true)], args := [d1, d2] }
  | _ => none }
def spanMembersRow : OpenClaim := { program := "ytidneanbjijjjaa", sum := "96ffc84412b7b1fe0407bf35bfe4ca95eaea346d40e1bc8757ae04ff53d05897", func := "dray/draylaw5.SpanMembers", spec := "spanMembers", apart := false }
def SpanMembersSaid : Prop := spanMembersRow.holds Try.pinned (OpenSpec.ofChange spanMembersSpec)

/-- ITS FALSE NEIGHBOUR: 'it returns false'. Refute it at one input. -/
def spanMembersWrong : ChangeSpec := { name := "spanMembers", fn := fun _ => fun
  | [d1, d2] => { results := [.lit (.bool false)], args := [d1, d2] }
  | _ => none }
def SpanMembersWrongFalsely : Prop := spanMembersRow.holds Try.pinned (OpenSpec.ofChange spanMembersWrong)

/-- 'draylaw5.SpanEarly': WHATEVER THE INPUT: true; the input reads as it did. -/
def spanEarlySpec : ChangeSpec := { name := "spanEarly", fn := fun _ => fun
  | [d1, d2, d3] => { results := [.lit (.bool true)], args := [d1, d2, d3] }
  | _ => none }
def spanEarlyRow : OpenClaim := { program := "ytidneanbjijjjaa", sum := "96ffc84412b7b1fe0407bf35bfe4ca95eaea346d40e1bc8757ae04ff53d05897", func := "dray/draylaw5.SpanEarly", spec := "spanEarly", apart := false }
def SpanEarlySaid : Prop := spanEarlyRow.holds Try.pinned (OpenSpec.ofChange spanEarlySpec)

/-- ITS FALSE NEIGHBOUR: 'it returns false'. Refute it at one input. -/
def spanEarlyWrong : ChangeSpec := { name := "spanEarly", fn := fun _ => fun
  | [d1, d2, d3] => { results := [.lit (.bool false)], args := [d1, d2, d3] }
  | _ => none }
def SpanEarlyWrongFalsely : Prop := spanEarlyRow.holds Try.pinned (OpenSpec.ofChange spanEarlyWrong)

/-- 'draylaw5.SpanLate': WHATEVER THE INPUT: true; the input reads as it did. -/
def spanLateSpec : ChangeSpec := { name := "spanLate", fn := fun _ => fun
  | [d1, d2, d3] => { results := [.lit (.bool true)], args := [d1, d2, d3] }
  | _ => none }
def spanLateRow : OpenClaim := { program := "ytidneanbjijjjaa", sum := "96ffc84412b7b1fe0407bf35bfe4ca95eaea346d40e1bc8757ae04ff53d05897", func := "dray/draylaw5.SpanLate", spec := "spanLate", apart := false }
def SpanLateSaid : Prop := spanLateRow.holds Try.pinned (OpenSpec.ofChange spanLateSpec)

/-- ITS FALSE NEIGHBOUR: 'it returns false'. Refute it at one input. -/
def spanLateWrong : ChangeSpec := { name := "spanLate", fn := fun _ => fun
  | [d1, d2, d3] => { results := [.lit (.bool false)], args := [d1, d2, d3] }
  | _ => none }
def SpanLateWrongFalsely : Prop := spanLateRow.holds Try.pinned (OpenSpec.ofChange spanLateWrong)

/-- 'draylaw4.GeoRuns': WHATEVER THE INPUT: true; the input reads as it did. -/
def geoRunsSpec : ChangeSpec := { name := "geoRuns", fn := fun _ => fun
  | [] => { results := [.lit (.bool true)], args := [] }
  | _ => none }
def geoRunsRow : OpenClaim := { program := "ytidneanbjijjjaa", sum := "96ffc84412b7b1fe0407bf35bfe4ca95eaea346d40e1bc8757ae04ff53d05897", func := "dray/draylaw4.GeoRuns", spec := "geoRuns", apart := false }
def GeoRunsSaid : Prop := geoRunsRow.holds Try.pinned (OpenSpec.ofChange geoRunsSpec)

/-- ITS FALSE NEIGHBOUR: 'it returns false'. Refute it at one input. -/
def geoRunsWrong : ChangeSpec := { name := "geoRuns", fn := fun _ => fun
  | [] => { results := [.lit (.bool false)], args := [] }
  | _ => none }
def GeoRunsWrongFalsely : Prop := geoRunsRow.holds Try.pinned (OpenSpec.ofChange geoRunsWrong)

/-- 'draylaw4.GeoLeast': WHATEVER THE INPUT: true; the input reads as it did. -/
def geoLeastSpec : ChangeSpec := { name := "geoLeast", fn := fun _ => fun
  | [d1, d2] => { results := [.lit (.bool true)], args := [d1, d2] }
  | _ => none }
def geoLeastRow : OpenClaim := { program := "ytidneanbjijjjaa", sum := "96ffc84412b7b1fe0407bf35bfe4ca95eaea346d40e1bc8757ae04ff53d05897", func := "dray/draylaw4.GeoLeast", spec := "geoLeast", apart := false }
def GeoLeastSaid : Prop := geoLeastRow.holds Try.pinned (OpenSpec.ofChange geoLeastSpec)

/-- ITS FALSE NEIGHBOUR: 'it returns false'. Refute it at one input. -/
def geoLeastWrong : ChangeSpec := { name := "geoLeast", fn := fun _ => fun
  | [d1, d2] => { results := [.lit (.bool false)], args := [d1, d2] }
  | _ => none }
def GeoLeastWrongFalsely : Prop := geoLeastRow.holds Try.pinned (OpenSpec.ofChange geoLeastWrong)

/-- 'draylaw4.GeoWays': WHATEVER THE INPUT: true; the input reads as it did. -/
def geoWaysSpec : ChangeSpec := { name := "geoWays", fn := fun _ => fun
  | [d1, d2, d3] => { results := [.lit (.bool true)], args := [d1, d2, d3] }
  | _ => none }
def geoWaysRow : OpenClaim := { program := "ytidneanbjijjjaa", sum := "96ffc84412b7b1fe0407bf35bfe4ca95eaea346d40e1bc8757ae04ff53d05897", func := "dray/draylaw4.GeoWays", spec := "geoWays", apart := false }
def GeoWaysSaid : Prop := geoWaysRow.holds Try.pinned (OpenSpec.ofChange geoWaysSpec)

/-- ITS FALSE NEIGHBOUR: 'it returns false'. Refute it at one input. -/
def geoWaysWrong : ChangeSpec := { name := "geoWays", fn := fun _ => fun
  | [d1, d2, d3] => { results := [.lit (.bool false)], args := [d1, d2, d3] }
  | _ => none }
def GeoWaysWrongFalsely : Prop := geoWaysRow.holds Try.pinned (OpenSpec.ofChange geoWaysWrong)

/-- 'draylaw4.GeoMakes': WHATEVER THE INPUT: true; the input reads as it did. -/
def geoMakesSpec : ChangeSpec := { name := "geoMakes", fn := fun _ => fun
  | [d1, d2, d3, d4] => { results := [.lit (.bool true)], args := [d1, d2, d3, d4] }
  | _ => none }
def geoMakesRow : OpenClaim := { program := "ytidneanbjijjjaa", sum := "96ffc84412b7b1fe0407bf35bfe4ca95eaea346d40e1bc8757ae04ff53d05897", func := "dray/draylaw4.GeoMakes", spec := "geoMakes", apart := false }
def GeoMakesSaid : Prop := geoMakesRow.holds Try.pinned (OpenSpec.ofChange geoMakesSpec)

/-- ITS FALSE NEIGHBOUR: 'it returns false'. Refute it at one input. -/
def geoMakesWrong : ChangeSpec := { name := "geoMakes", fn := fun _ => fun
  | [d1, d2, d3, d4] => { results := [.lit (.bool false)], args := [d1, d2, d3, d4] }
  | _ => none }
def GeoMakesWrongFalsely : Prop := geoMakesRow.holds Try.pinned (OpenSpec.ofChange geoMakesWrong)

/-- 'draylaw4.GeoCloses': WHATEVER THE INPUT: true; the input reads as it did. -/
def geoClosesSpec : ChangeSpec := { name := "geoCloses", fn := fun _ => fun
  | [d1, d2] => { results := [.lit (.bool true)], args := [d1, d2] }
  | _ => none }
def geoClosesRow : OpenClaim := { program := "ytidneanbjijjjaa", sum := "96ffc84412b7b1fe0407bf35bfe4ca95eaea346d40e1bc8757ae04ff53d05897", func := "dray/draylaw4.GeoCloses", spec := "geoCloses", apart := false }
def GeoClosesSaid : Prop := geoClosesRow.holds Try.pinned (OpenSpec.ofChange geoClosesSpec)

/-- ITS FALSE NEIGHBOUR: 'it returns false'. Refute it at one input. -/
def geoClosesWrong : ChangeSpec := { name := "geoCloses", fn := fun _ => fun
  | [d1, d2] => { results := [.lit (.bool false)], args := [d1, d2] }
  | _ => none }
def GeoClosesWrongFalsely : Prop := geoClosesRow.holds Try.pinned (OpenSpec.ofChange geoClosesWrong)

/-- 'draylaw4.GeoKept': WHATEVER THE INPUT: true; the input reads as it did. -/
def geoKeptSpec : ChangeSpec := { name := "geoKept", fn := fun _ => fun
  | [d1, d2] => { results := [.lit (.bool true)], args := [d1, d2] }
  | _ => none }
def geoKeptRow : OpenClaim := { program := "ytidneanbjijjjaa", sum := "96ffc84412b7b1fe0407bf35bfe4ca95eaea346d40e1bc8757ae04ff53d05897", func := "dray/draylaw4.GeoKept", spec := "geoKept", unfollowed := true, recurses := true, apart := false }
def GeoKeptSaid : Prop := geoKeptRow.holds Try.pinned (OpenSpec.ofChange geoKeptSpec)

/-- ITS FALSE NEIGHBOUR: 'it returns false'. Refute it at one input. -/
def geoKeptWrong : ChangeSpec := { name := "geoKept", fn := fun _ => fun
  | [d1, d2] => { results := [.lit (.bool false)], args := [d1, d2] }
  | _ => none }
def GeoKeptWrongFalsely : Prop := geoKeptRow.holds Try.pinned (OpenSpec.ofChange geoKeptWrong)

/- THE SECOND FORM. 'bulk': how many values and letters a reading holds, each counted each time it is reached (what is shared counts as often as it is met; a slice's spare places count too). A statement '..UptoSaid' is the law's where the arguments, and the package variables that the reading takes, are together of bulk at most 1048576: NARROWER than '..Said'. Prove '..Said' where nothing that the law and all that it calls make is longer than what came in: it says more and counts as full. Else prove '..UptoSaid'. A law counts once. -/
mutual
def uptoBulk {H : Type} : DataW H → Nat
  | .lit (.string bytes) => bytes.length + 1
  | .lit _ => 1
  | .nil => 1
  | .ptr d => uptoBulk d + 1
  | .slice elems spare => uptoBulkAll elems + uptoBulkAll spare + 1
  | .agg parts => uptoBulkAll parts + 1
  | .iface _ d => uptoBulk d + 1
  | .map entries => uptoBulkEntries entries + 1
  | .held _ => 1
def uptoBulkAll {H : Type} : List (DataW H) → Nat
  | [] => 0
  | d :: r => uptoBulk d + uptoBulkAll r
def uptoBulkEntries {H : Type} : List (Lit × DataW H) → Nat
  | [] => 0
  | x :: r => uptoBulkEntry x + uptoBulkEntries r
def uptoBulkEntry {H : Type} : Lit × DataW H → Nat
  | (.string bytes, d) => bytes.length + uptoBulk d + 1
  | (_, d) => uptoBulk d + 1
 end
def uptoSmall : (H : Type) → List (DataW H) → Bool := fun _ ds => decide (uptoBulkAll ds ≤ 1048576)
def OpenSpec.upto (s : _root_.Go.ChangeSpec) : _root_.Go.OpenSpec := { _root_.Go.OpenSpec.ofChange s with cond := some uptoSmall }

/-- 'draylaw5.SpanRuns', WHERE WHAT IT READS IS OF BULK AT MOST 1048576: true; the input reads as it did. -/
def spanRunsUptoRow : OpenClaim := { program := "ytidneanbjijjjaa", sum := "96ffc84412b7b1fe0407bf35bfe4ca95eaea346d40e1bc8757ae04ff53d05897", func := "dray/draylaw5.SpanRuns", spec := "spanRuns", apart := false, narrowed := true }
def SpanRunsUptoSaid : Prop := spanRunsUptoRow.holds Try.pinned (OpenSpec.upto spanRunsSpec)

/-- 'draylaw5.SpanMeets', WHERE WHAT IT READS IS OF BULK AT MOST 1048576: true; the input reads as it did. -/
def spanMeetsUptoRow : OpenClaim := { program := "ytidneanbjijjjaa", sum := "96ffc84412b7b1fe0407bf35bfe4ca95eaea346d40e1bc8757ae04ff53d05897", func := "dray/draylaw5.SpanMeets", spec := "spanMeets", apart := false, narrowed := true }
def SpanMeetsUptoSaid : Prop := spanMeetsUptoRow.holds Try.pinned (OpenSpec.upto spanMeetsSpec)

/-- 'draylaw5.SpanTells', WHERE WHAT IT READS IS OF BULK AT MOST 1048576: true; the input reads as it did. -/
def spanTellsUptoRow : OpenClaim := { program := "ytidneanbjijjjaa", sum := "96ffc84412b7b1fe0407bf35bfe4ca95eaea346d40e1bc8757ae04ff53d05897", func := "dray/draylaw5.SpanTells", spec := "spanTells", apart := false, narrowed := true }
def SpanTellsUptoSaid : Prop := spanTellsUptoRow.holds Try.pinned (OpenSpec.upto spanTellsSpec)

/-- 'draylaw5.SpanMembers', WHERE WHAT IT READS IS OF BULK AT MOST 1048576: true; the input reads as it did. -/
def spanMembersUptoRow : OpenClaim := { program := "ytidneanbjijjjaa", sum := "96ffc84412b7b1fe0407bf35bfe4ca95eaea346d40e1bc8757ae04ff53d05897", func := "dray/draylaw5.SpanMembers", spec := "spanMembers", apart := false, narrowed := true }
def SpanMembersUptoSaid : Prop := spanMembersUptoRow.holds Try.pinned (OpenSpec.upto spanMembersSpec)

/-- 'draylaw5.SpanEarly', WHERE WHAT IT READS IS OF BULK AT MOST 1048576: true; the input reads as it did. -/
def spanEarlyUptoRow : OpenClaim := { program := "ytidneanbjijjjaa", sum := "96ffc84412b7b1fe0407bf35bfe4ca95eaea346d40e1bc8757ae04ff53d05897", func := "dray/draylaw5.SpanEarly", spec := "spanEarly", apart := false, narrowed := true }
def SpanEarlyUptoSaid : Prop := spanEarlyUptoRow.holds Try.pinned (OpenSpec.upto spanEarlySpec)

/-- 'draylaw5.SpanLate', WHERE WHAT IT READS IS OF BULK AT MOST 1048576: true; the input reads as it did. -/
def spanLateUptoRow : OpenClaim := { program := "ytidneanbjijjjaa", sum := "96ffc84412b7b1fe0407bf35bfe4ca95eaea346d40e1bc8757ae04ff53d05897", func := "dray/draylaw5.SpanLate", spec := "spanLate", apart := false, narrowed := true }
def SpanLateUptoSaid : Prop := spanLateUptoRow.holds Try.pinned (OpenSpec.upto spanLateSpec)

/-- 'draylaw4.GeoRuns', WHERE WHAT IT READS IS OF BULK AT MOST 1048576: true; the input reads as it did. -/
def geoRunsUptoRow : OpenClaim := { program := "ytidneanbjijjjaa", sum := "96ffc84412b7b1fe0407bf35bfe4ca95eaea346d40e1bc8757ae04ff53d05897", func := "dray/draylaw4.GeoRuns", spec := "geoRuns", apart := false, narrowed := true }
def GeoRunsUptoSaid : Prop := geoRunsUptoRow.holds Try.pinned (OpenSpec.upto geoRunsSpec)

/-- 'draylaw4.GeoLeast', WHERE WHAT IT READS IS OF BULK AT MOST 1048576: true; the input reads as it did. -/
def geoLeastUptoRow : OpenClaim := { program := "ytidneanbjijjjaa", sum := "96ffc84412b7b1fe0407bf35bfe4ca95eaea346d40e1bc8757ae04ff53d05897", func := "dray/draylaw4.GeoLeast", spec := "geoLeast", apart := false, narrowed := true }
def GeoLeastUptoSaid : Prop := geoLeastUptoRow.holds Try.pinned (OpenSpec.upto geoLeastSpec)

/-- 'draylaw4.GeoWays', WHERE WHAT IT READS IS OF BULK AT MOST 1048576: true; the input reads as it did. -/
def geoWaysUptoRow : OpenClaim := { program := "ytidneanbjijjjaa", sum := "96ffc84412b7b1fe0407bf35bfe4ca95eaea346d40e1bc8757ae04ff53d05897", func := "dray/draylaw4.GeoWays", spec := "geoWays", apart := false, narrowed := true }
def GeoWaysUptoSaid : Prop := geoWaysUptoRow.holds Try.pinned (OpenSpec.upto geoWaysSpec)

/-- 'draylaw4.GeoMakes', WHERE WHAT IT READS IS OF BULK AT MOST 1048576: true; the input reads as it did. -/
def geoMakesUptoRow : OpenClaim := { program := "ytidneanbjijjjaa", sum := "96ffc84412b7b1fe0407bf35bfe4ca95eaea346d40e1bc8757ae04ff53d05897", func := "dray/draylaw4.GeoMakes", spec := "geoMakes", apart := false, narrowed := true }
def GeoMakesUptoSaid : Prop := geoMakesUptoRow.holds Try.pinned (OpenSpec.upto geoMakesSpec)

/-- 'draylaw4.GeoCloses', WHERE WHAT IT READS IS OF BULK AT MOST 1048576: true; the input reads as it did. -/
def geoClosesUptoRow : OpenClaim := { program := "ytidneanbjijjjaa", sum := "96ffc84412b7b1fe0407bf35bfe4ca95eaea346d40e1bc8757ae04ff53d05897", func := "dray/draylaw4.GeoCloses", spec := "geoCloses", apart := false, narrowed := true }
def GeoClosesUptoSaid : Prop := geoClosesUptoRow.holds Try.pinned (OpenSpec.upto geoClosesSpec)

/-- 'draylaw4.GeoKept', WHERE WHAT IT READS IS OF BULK AT MOST 1048576: true; the input reads as it did. -/
def geoKeptUptoRow : OpenClaim := { program := "ytidneanbjijjjaa", sum := "96ffc84412b7b1fe0407bf35bfe4ca95eaea346d40e1bc8757ae04ff53d05897", func := "dray/draylaw4.GeoKept", spec := "geoKept", unfollowed := true, recurses := true, apart := false, narrowed := true }
def GeoKeptUptoSaid : Prop := geoKeptUptoRow.holds Try.pinned (OpenSpec.upto geoKeptSpec)

end Rows
end Go.Proofs.Ytidneanbjijjjaa
