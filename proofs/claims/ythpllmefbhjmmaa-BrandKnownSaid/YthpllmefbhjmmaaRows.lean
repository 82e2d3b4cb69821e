/-
  No cell of these rows narrows 'for every input' (looked for: loops, veiled, ifaces, maps, wideKeys, modest, calm, conditions, laid).
  DERIVED. THE GIVEN ROWS OF THIS SEAT. 16 by the template 'for every input the law returns true; each argument reads behind the call as it read before'; 0 by the template 'total and deterministic' (their statements: YthpllmefbhjmmaaTotals.lean).
  GIVEN WITH THE SEED: the statements are not yours to turn. If you find one false, say at which input.
  Laid BY PROGRAM, IN A SANDBOX (cutbox-rows.mjs): the forced cells as the released guide's own fill.sh prints them over the translation facc983d15cb9885… (all of the seat's roots in one cut). By AI agents, Wed Nov 11 2026. No macro, syntax, notation, axiom, sorry.
-/
import Derived.Test.YthpllmefbhjmmaaChecked
import GoSem.Claim
import GoSem.ClaimJoined
import GoSem.ClaimMapViews
import Derived.JoinedTies
import Derived.KernelRfl
namespace Go.Proofs.Ythpllmefbhjmmaa
/- THE CELL 'sum', in the pinned program and in every row, IS THE sha256 OF THE DUMP (.gsa) THAT YthpllmefbhjmmaaProg.lean LOADS. Nothing in Lean hashes anything: it is a label: what it is worth is what the hold of that sum in a sandbox is worth. -/
noncomputable def Try.pinned : Pinned := { name := "ythpllmefbhjmmaa", sum := "facc983d15cb988519b5eacee9f65dbc4176080ade84695a93de9781ce602e7a", checked := Try.checked }
namespace Rows
def none {H : Type} : Left H := { results := [], args := [] }

/-- 'drifterlaw07.BrandGrades': WHATEVER THE INPUT: true; the input reads as it did. -/
def brandGradesSpec : ChangeSpec := { name := "brandGrades", fn := fun _ => fun
  | [d1, d2] => { results := [.lit (.bool true)], args := [d1, d2] }
  | _ => none }
def brandGradesRow : OpenClaim := { program := "ythpllmefbhjmmaa", sum := "facc983d15cb988519b5eacee9f65dbc4176080ade84695a93de9781ce602e7a", func := "drifter/drifterlaw07.BrandGrades", spec := "brandGrades", unfollowed := true, recurses := true, plainKeys := false, apart := false }
def BrandGradesSaid : Prop := brandGradesRow.holds Try.pinned (OpenSpec.ofChange brandGradesSpec)

/-- ITS FALSE NEIGHBOUR: 'it returns false'. Refute it at one input. -/
def brandGradesWrong : ChangeSpec := { name := "brandGrades", fn := fun _ => fun
  | [d1, d2] => { results := [.lit (.bool false)], args := [d1, d2] }
  | _ => none }
def BrandGradesWrongFalsely : Prop := brandGradesRow.holds Try.pinned (OpenSpec.ofChange brandGradesWrong)

/-- 'drifterlaw07.BrandOdded': WHATEVER THE INPUT: true; the input reads as it did. -/
def brandOddedSpec : ChangeSpec := { name := "brandOdded", fn := fun _ => fun
  | [d1, d2] => { results := [.lit (.bool true)], args := [d1, d2] }
  | _ => none }
def brandOddedRow : OpenClaim := { program := "ythpllmefbhjmmaa", sum := "facc983d15cb988519b5eacee9f65dbc4176080ade84695a93de9781ce602e7a", func := "drifter/drifterlaw07.BrandOdded", spec := "brandOdded", unfollowed := true, recurses := true, plainKeys := false, apart := false }
def BrandOddedSaid : Prop := brandOddedRow.holds Try.pinned (OpenSpec.ofChange brandOddedSpec)

/-- ITS FALSE NEIGHBOUR: 'it returns false'. Refute it at one input. -/
def brandOddedWrong : ChangeSpec := { name := "brandOdded", fn := fun _ => fun
  | [d1, d2] => { results := [.lit (.bool false)], args := [d1, d2] }
  | _ => none }
def BrandOddedWrongFalsely : Prop := brandOddedRow.holds Try.pinned (OpenSpec.ofChange brandOddedWrong)

/-- 'drifterlaw07.BrandKeeps': WHATEVER THE INPUT: true; the input reads as it did. -/
def brandKeepsSpec : ChangeSpec := { name := "brandKeeps", fn := fun _ => fun
  | [d1, d2, d3] => { results := [.lit (.bool true)], args := [d1, d2, d3] }
  | _ => none }
def brandKeepsRow : OpenClaim := { program := "ythpllmefbhjmmaa", sum := "facc983d15cb988519b5eacee9f65dbc4176080ade84695a93de9781ce602e7a", func := "drifter/drifterlaw07.BrandKeeps", spec := "brandKeeps", unfollowed := true, recurses := true, plainKeys := false, apart := false }
def BrandKeepsSaid : Prop := brandKeepsRow.holds Try.pinned (OpenSpec.ofChange brandKeepsSpec)

/-- ITS FALSE NEIGHBOUR: 'it returns false'. Refute it at one input. -/
def brandKeepsWrong : ChangeSpec := { name := "brandKeeps", fn := fun _ => fun
  | [d1, d2, d3] => { results := [.lit (.bool false)], args := [d1, d2, d3] }
  | _ => none }
def BrandKeepsWrongFalsely : Prop := brandKeepsRow.holds Try.pinned (OpenSpec.ofChange brandKeepsWrong)

/-- 'drifterlaw07.BrandBelows': WHATEVER THE INPUT: true; the input reads as it did. -/
def brandBelowsSpec : ChangeSpec := { name := "brandBelows", fn := fun _ => fun
  | [d1, d2] => { results := [.lit (.bool true)], args := [d1, d2] }
  | _ => none }
def brandBelowsRow : OpenClaim := { program := "ythpllmefbhjmmaa", sum := "facc983d15cb988519b5eacee9f65dbc4176080ade84695a93de9781ce602e7a", func := "drifter/drifterlaw07.BrandBelows", spec := "brandBelows", unfollowed := true, recurses := true, plainKeys := false, apart := false }
def BrandBelowsSaid : Prop := brandBelowsRow.holds Try.pinned (OpenSpec.ofChange brandBelowsSpec)

/-- ITS FALSE NEIGHBOUR: 'it returns false'. Refute it at one input. -/
def brandBelowsWrong : ChangeSpec := { name := "brandBelows", fn := fun _ => fun
  | [d1, d2] => { results := [.lit (.bool false)], args := [d1, d2] }
  | _ => none }
def BrandBelowsWrongFalsely : Prop := brandBelowsRow.holds Try.pinned (OpenSpec.ofChange brandBelowsWrong)

/-- 'driftertop.TopGraded': WHATEVER THE INPUT: true; the input reads as it did. -/
def topGradedSpec : ChangeSpec := { name := "topGraded", fn := fun _ => fun
  | [d1, d2, d3] => { results := [.lit (.bool true)], args := [d1, d2, d3] }
  | _ => none }
def topGradedRow : OpenClaim := { program := "ythpllmefbhjmmaa", sum := "facc983d15cb988519b5eacee9f65dbc4176080ade84695a93de9781ce602e7a", func := "drifter/driftertop.TopGraded", spec := "topGraded", unfollowed := true, recurses := true, plainKeys := false, apart := false }
def TopGradedSaid : Prop := topGradedRow.holds Try.pinned (OpenSpec.ofChange topGradedSpec)

/-- ITS FALSE NEIGHBOUR: 'it returns false'. Refute it at one input. -/
def topGradedWrong : ChangeSpec := { name := "topGraded", fn := fun _ => fun
  | [d1, d2, d3] => { results := [.lit (.bool false)], args := [d1, d2, d3] }
  | _ => none }
def TopGradedWrongFalsely : Prop := topGradedRow.holds Try.pinned (OpenSpec.ofChange topGradedWrong)

/-- 'drifterlaw07.BrandPromises': WHATEVER THE INPUT: true; the input reads as it did. -/
def brandPromisesSpec : ChangeSpec := { name := "brandPromises", fn := fun _ => fun
  | [d] => { results := [.lit (.bool true)], args := [d] }
  | _ => none }
def brandPromisesRow : OpenClaim := { program := "ythpllmefbhjmmaa", sum := "facc983d15cb988519b5eacee9f65dbc4176080ade84695a93de9781ce602e7a", func := "drifter/drifterlaw07.BrandPromises", spec := "brandPromises", unfollowed := true, recurses := true, plainKeys := false, apart := false }
def BrandPromisesSaid : Prop := brandPromisesRow.holds Try.pinned (OpenSpec.ofChange brandPromisesSpec)

/-- ITS FALSE NEIGHBOUR: 'it returns false'. Refute it at one input. -/
def brandPromisesWrong : ChangeSpec := { name := "brandPromises", fn := fun _ => fun
  | [d] => { results := [.lit (.bool false)], args := [d] }
  | _ => none }
def BrandPromisesWrongFalsely : Prop := brandPromisesRow.holds Try.pinned (OpenSpec.ofChange brandPromisesWrong)

/-- 'driftertop.TopPacked': WHATEVER THE INPUT: true; the input reads as it did. -/
def topPackedSpec : ChangeSpec := { name := "topPacked", fn := fun _ => fun
  | [d1, d2, d3] => { results := [.lit (.bool true)], args := [d1, d2, d3] }
  | _ => none }
def topPackedRow : OpenClaim := { program := "ythpllmefbhjmmaa", sum := "facc983d15cb988519b5eacee9f65dbc4176080ade84695a93de9781ce602e7a", func := "drifter/driftertop.TopPacked", spec := "topPacked", unfollowed := true, recurses := true, plainKeys := false, apart := false }
def TopPackedSaid : Prop := topPackedRow.holds Try.pinned (OpenSpec.ofChange topPackedSpec)

/-- ITS FALSE NEIGHBOUR: 'it returns false'. Refute it at one input. -/
def topPackedWrong : ChangeSpec := { name := "topPacked", fn := fun _ => fun
  | [d1, d2, d3] => { results := [.lit (.bool false)], args := [d1, d2, d3] }
  | _ => none }
def TopPackedWrongFalsely : Prop := topPackedRow.holds Try.pinned (OpenSpec.ofChange topPackedWrong)

/-- 'drifterlaw07.BrandCounted': WHATEVER THE INPUT: true; the input reads as it did. -/
def brandCountedSpec : ChangeSpec := { name := "brandCounted", fn := fun _ => fun
  | [d] => { results := [.lit (.bool true)], args := [d] }
  | _ => none }
def brandCountedRow : OpenClaim := { program := "ythpllmefbhjmmaa", sum := "facc983d15cb988519b5eacee9f65dbc4176080ade84695a93de9781ce602e7a", func := "drifter/drifterlaw07.BrandCounted", spec := "brandCounted", unfollowed := true, recurses := true, plainKeys := false, apart := false }
def BrandCountedSaid : Prop := brandCountedRow.holds Try.pinned (OpenSpec.ofChange brandCountedSpec)

/-- ITS FALSE NEIGHBOUR: 'it returns false'. Refute it at one input. -/
def brandCountedWrong : ChangeSpec := { name := "brandCounted", fn := fun _ => fun
  | [d] => { results := [.lit (.bool false)], args := [d] }
  | _ => none }
def BrandCountedWrongFalsely : Prop := brandCountedRow.holds Try.pinned (OpenSpec.ofChange brandCountedWrong)

/-- 'drifterlaw07.BrandFirst': WHATEVER THE INPUT: true; the input reads as it did. -/
def brandFirstSpec : ChangeSpec := { name := "brandFirst", fn := fun _ => fun
  | [d] => { results := [.lit (.bool true)], args := [d] }
  | _ => none }
def brandFirstRow : OpenClaim := { program := "ythpllmefbhjmmaa", sum := "facc983d15cb988519b5eacee9f65dbc4176080ade84695a93de9781ce602e7a", func := "drifter/drifterlaw07.BrandFirst", spec := "brandFirst", unfollowed := true, recurses := true, plainKeys := false, apart := false }
def BrandFirstSaid : Prop := brandFirstRow.holds Try.pinned (OpenSpec.ofChange brandFirstSpec)

/-- ITS FALSE NEIGHBOUR: 'it returns false'. Refute it at one input. -/
def brandFirstWrong : ChangeSpec := { name := "brandFirst", fn := fun _ => fun
  | [d] => { results := [.lit (.bool false)], args := [d] }
  | _ => none }
def BrandFirstWrongFalsely : Prop := brandFirstRow.holds Try.pinned (OpenSpec.ofChange brandFirstWrong)

/-- 'drifterlaw07.BrandFalls': WHATEVER THE INPUT: true; the input reads as it did. -/
def brandFallsSpec : ChangeSpec := { name := "brandFalls", fn := fun _ => fun
  | [d] => { results := [.lit (.bool true)], args := [d] }
  | _ => none }
def brandFallsRow : OpenClaim := { program := "ythpllmefbhjmmaa", sum := "facc983d15cb988519b5eacee9f65dbc4176080ade84695a93de9781ce602e7a", func := "drifter/drifterlaw07.BrandFalls", spec := "brandFalls", unfollowed := true, recurses := true, plainKeys := false, apart := false }
def BrandFallsSaid : Prop := brandFallsRow.holds Try.pinned (OpenSpec.ofChange brandFallsSpec)

/-- ITS FALSE NEIGHBOUR: 'it returns false'. Refute it at one input. -/
def brandFallsWrong : ChangeSpec := { name := "brandFalls", fn := fun _ => fun
  | [d] => { results := [.lit (.bool false)], args := [d] }
  | _ => none }
def BrandFallsWrongFalsely : Prop := brandFallsRow.holds Try.pinned (OpenSpec.ofChange brandFallsWrong)

/-- 'drifterlaw07.BrandFewest': WHATEVER THE INPUT: true; the input reads as it did. -/
def brandFewestSpec : ChangeSpec := { name := "brandFewest", fn := fun _ => fun
  | [d1, d2, d3] => { results := [.lit (.bool true)], args := [d1, d2, d3] }
  | _ => none }
def brandFewestRow : OpenClaim := { program := "ythpllmefbhjmmaa", sum := "facc983d15cb988519b5eacee9f65dbc4176080ade84695a93de9781ce602e7a", func := "drifter/drifterlaw07.BrandFewest", spec := "brandFewest", unfollowed := true, recurses := true, plainKeys := false, apart := false }
def BrandFewestSaid : Prop := brandFewestRow.holds Try.pinned (OpenSpec.ofChange brandFewestSpec)

/-- ITS FALSE NEIGHBOUR: 'it returns false'. Refute it at one input. -/
def brandFewestWrong : ChangeSpec := { name := "brandFewest", fn := fun _ => fun
  | [d1, d2, d3] => { results := [.lit (.bool false)], args := [d1, d2, d3] }
  | _ => none }
def BrandFewestWrongFalsely : Prop := brandFewestRow.holds Try.pinned (OpenSpec.ofChange brandFewestWrong)

/-- 'drifterlaw07.BrandKept': WHATEVER THE INPUT: true; the input reads as it did. -/
def brandKeptSpec : ChangeSpec := { name := "brandKept", fn := fun _ => fun
  | [d1, d2, d3] => { results := [.lit (.bool true)], args := [d1, d2, d3] }
  | _ => none }
def brandKeptRow : OpenClaim := { program := "ythpllmefbhjmmaa", sum := "facc983d15cb988519b5eacee9f65dbc4176080ade84695a93de9781ce602e7a", func := "drifter/drifterlaw07.BrandKept", spec := "brandKept", unfollowed := true, recurses := true, plainKeys := false, apart := false }
def BrandKeptSaid : Prop := brandKeptRow.holds Try.pinned (OpenSpec.ofChange brandKeptSpec)

/-- ITS FALSE NEIGHBOUR: 'it returns false'. Refute it at one input. -/
def brandKeptWrong : ChangeSpec := { name := "brandKept", fn := fun _ => fun
  | [d1, d2, d3] => { results := [.lit (.bool false)], args := [d1, d2, d3] }
  | _ => none }
def BrandKeptWrongFalsely : Prop := brandKeptRow.holds Try.pinned (OpenSpec.ofChange brandKeptWrong)

/-- 'drifterlaw07.BrandDoubt': WHATEVER THE INPUT: true; the input reads as it did. -/
def brandDoubtSpec : ChangeSpec := { name := "brandDoubt", fn := fun _ => fun
  | [d1, d2] => { results := [.lit (.bool true)], args := [d1, d2] }
  | _ => none }
def brandDoubtRow : OpenClaim := { program := "ythpllmefbhjmmaa", sum := "facc983d15cb988519b5eacee9f65dbc4176080ade84695a93de9781ce602e7a", func := "drifter/drifterlaw07.BrandDoubt", spec := "brandDoubt", unfollowed := true, recurses := true, plainKeys := false, apart := false }
def BrandDoubtSaid : Prop := brandDoubtRow.holds Try.pinned (OpenSpec.ofChange brandDoubtSpec)

/-- ITS FALSE NEIGHBOUR: 'it returns false'. Refute it at one input. -/
def brandDoubtWrong : ChangeSpec := { name := "brandDoubt", fn := fun _ => fun
  | [d1, d2] => { results := [.lit (.bool false)], args := [d1, d2] }
  | _ => none }
def BrandDoubtWrongFalsely : Prop := brandDoubtRow.holds Try.pinned (OpenSpec.ofChange brandDoubtWrong)

/-- 'drifterlaw07.BrandGraded': WHATEVER THE INPUT: true; the input reads as it did. -/
def brandGradedSpec : ChangeSpec := { name := "brandGraded", fn := fun _ => fun
  | [d1, d2, d3] => { results := [.lit (.bool true)], args := [d1, d2, d3] }
  | _ => none }
def brandGradedRow : OpenClaim := { program := "ythpllmefbhjmmaa", sum := "facc983d15cb988519b5eacee9f65dbc4176080ade84695a93de9781ce602e7a", func := "drifter/drifterlaw07.BrandGraded", spec := "brandGraded", unfollowed := true, recurses := true, plainKeys := false, apart := false }
def BrandGradedSaid : Prop := brandGradedRow.holds Try.pinned (OpenSpec.ofChange brandGradedSpec)

/-- ITS FALSE NEIGHBOUR: 'it returns false'. Refute it at one input. -/
def brandGradedWrong : ChangeSpec := { name := "brandGraded", fn := fun _ => fun
  | [d1, d2, d3] => { results := [.lit (.bool false)], args := [d1, d2, d3] }
  | _ => none }
def BrandGradedWrongFalsely : Prop := brandGradedRow.holds Try.pinned (OpenSpec.ofChange brandGradedWrong)

/-- 'drifterlaw07.BrandPromised': WHATEVER THE INPUT: true; the input reads as it did. -/
def brandPromisedSpec : ChangeSpec := { name := "brandPromised", fn := fun _ => fun
  | [d1, d2] => { results := [.lit (.bool true)], args := [d1, d2] }
  | _ => none }
def brandPromisedRow : OpenClaim := { program := "ythpllmefbhjmmaa", sum := "facc983d15cb988519b5eacee9f65dbc4176080ade84695a93de9781ce602e7a", func := "drifter/drifterlaw07.BrandPromised", spec := "brandPromised", unfollowed := true, recurses := true, plainKeys := false, apart := false }
def BrandPromisedSaid : Prop := brandPromisedRow.holds Try.pinned (OpenSpec.ofChange brandPromisedSpec)

/-- ITS FALSE NEIGHBOUR: 'it returns false'. Refute it at one input. -/
def brandPromisedWrong : ChangeSpec := { name := "brandPromised", fn := fun _ => fun
  | [d1, d2] => { results := [.lit (.bool false)], args := [d1, d2] }
  | _ => none }
def BrandPromisedWrongFalsely : Prop := brandPromisedRow.holds Try.pinned (OpenSpec.ofChange brandPromisedWrong)

/-- 'drifterlaw07.BrandKnown': WHATEVER THE INPUT: true; the input reads as it did. -/
def brandKnownSpec : ChangeSpec := { name := "brandKnown", fn := fun _ => fun
  | [] => { results := [.lit (.bool true)], args := [] }
  | _ => none }
def brandKnownRow : OpenClaim := { program := "ythpllmefbhjmmaa", sum := "facc983d15cb988519b5eacee9f65dbc4176080ade84695a93de9781ce602e7a", func := "drifter/drifterlaw07.BrandKnown", spec := "brandKnown", unfollowed := true, recurses := true, plainKeys := false, apart := false }
def BrandKnownSaid : Prop := brandKnownRow.holds Try.pinned (OpenSpec.ofChange brandKnownSpec)

/-- ITS FALSE NEIGHBOUR: 'it returns false'. Refute it at one input. -/
def brandKnownWrong : ChangeSpec := { name := "brandKnown", fn := fun _ => fun
  | [] => { results := [.lit (.bool false)], args := [] }
  | _ => none }
def BrandKnownWrongFalsely : Prop := brandKnownRow.holds Try.pinned (OpenSpec.ofChange brandKnownWrong)

/- THE SECOND FORM. 'bulk': how many values and letters a reading holds, each counted each time it is reached (what is shared counts as often as it is met; a slice's spare places count too). A statement '..UptoSaid' is the law's where the arguments, and the package variables that the reading takes, are together of bulk at most 1048576: NARROWER than '..Said'. Prove '..Said' where nothing that the law and all that it calls make is longer than what came in: it says more and counts as full. Else prove '..UptoSaid'. A law counts once. -/
mutual
def uptoBulk {H : Type} : DataW H → Nat
  | .lit (.string bytes) => bytes.length + 1
  | .lit _ => 1
  | .nil => 1
  | .ptr d => uptoBulk d + 1
  | .slice elems spare => uptoBulkAll elems + uptoBulkAll spare + 1
  | .agg parts => uptoBulkAll parts + 1
  | .iface _ d => uptoBulk d + 1
  | .map entries => uptoBulkEntries entries + 1
  | .held _ => 1
def uptoBulkAll {H : Type} : List (DataW H) → Nat
  | [] => 0
  | d :: r => uptoBulk d + uptoBulkAll r
def uptoBulkEntries {H : Type} : List (Lit × DataW H) → Nat
  | [] => 0
  | x :: r => uptoBulkEntry x + uptoBulkEntries r
def uptoBulkEntry {H : Type} : Lit × DataW H → Nat
  | (.string bytes, d) => bytes.length + uptoBulk d + 1
  | (_, d) => uptoBulk d + 1
 end
def uptoSmall : (H : Type) → List (DataW H) → Bool := fun _ ds => decide (uptoBulkAll ds ≤ 1048576)
def OpenSpec.upto (s : _root_.Go.ChangeSpec) : _root_.Go.OpenSpec := { _root_.Go.OpenSpec.ofChange s with cond := some uptoSmall }

/-- 'drifterlaw07.BrandGrades', WHERE WHAT IT READS IS OF BULK AT MOST 1048576: true; the input reads as it did. -/
def brandGradesUptoRow : OpenClaim := { program := "ythpllmefbhjmmaa", sum := "facc983d15cb988519b5eacee9f65dbc4176080ade84695a93de9781ce602e7a", func := "drifter/drifterlaw07.BrandGrades", spec := "brandGrades", unfollowed := true, recurses := true, plainKeys := false, apart := false, narrowed := true }
def BrandGradesUptoSaid : Prop := brandGradesUptoRow.holds Try.pinned (OpenSpec.upto brandGradesSpec)

/-- 'drifterlaw07.BrandOdded', WHERE WHAT IT READS IS OF BULK AT MOST 1048576: true; the input reads as it did. -/
def brandOddedUptoRow : OpenClaim := { program := "ythpllmefbhjmmaa", sum := "facc983d15cb988519b5eacee9f65dbc4176080ade84695a93de9781ce602e7a", func := "drifter/drifterlaw07.BrandOdded", spec := "brandOdded", unfollowed := true, recurses := true, plainKeys := false, apart := false, narrowed := true }
def BrandOddedUptoSaid : Prop := brandOddedUptoRow.holds Try.pinned (OpenSpec.upto brandOddedSpec)

/-- 'drifterlaw07.BrandKeeps', WHERE WHAT IT READS IS OF BULK AT MOST 1048576: true; the input reads as it did. -/
def brandKeepsUptoRow : OpenClaim := { program := "ythpllmefbhjmmaa", sum := "facc983d15cb988519b5eacee9f65dbc4176080ade84695a93de9781ce602e7a", func := "drifter/drifterlaw07.BrandKeeps", spec := "brandKeeps", unfollowed := true, recurses := true, plainKeys := false, apart := false, narrowed := true }
def BrandKeepsUptoSaid : Prop := brandKeepsUptoRow.holds Try.pinned (OpenSpec.upto brandKeepsSpec)

/-- 'drifterlaw07.BrandBelows', WHERE WHAT IT READS IS OF BULK AT MOST 1048576: true; the input reads as it did. -/
def brandBelowsUptoRow : OpenClaim := { program := "ythpllmefbhjmmaa", sum := "facc983d15cb988519b5eacee9f65dbc4176080ade84695a93de9781ce602e7a", func := "drifter/drifterlaw07.BrandBelows", spec := "brandBelows", unfollowed := true, recurses := true, plainKeys := false, apart := false, narrowed := true }
def BrandBelowsUptoSaid : Prop := brandBelowsUptoRow.holds Try.pinned (OpenSpec.upto brandBelowsSpec)

/-- 'driftertop.TopGraded', WHERE WHAT IT READS IS OF BULK AT MOST 1048576: true; the input reads as it did. -/
def topGradedUptoRow : OpenClaim := { program := "ythpllmefbhjmmaa", sum := "facc983d15cb988519b5eacee9f65dbc4176080ade84695a93de9781ce602e7a", func := "drifter/driftertop.TopGraded", spec := "topGraded", unfollowed := true, recurses := true, plainKeys := false, apart := false, narrowed := true }
def TopGradedUptoSaid : Prop := topGradedUptoRow.holds Try.pinned (OpenSpec.upto topGradedSpec)

/-- 'drifterlaw07.BrandPromises', WHERE WHAT IT READS IS OF BULK AT MOST 1048576: true; the input reads as it did. -/
def brandPromisesUptoRow : OpenClaim := { program := "ythpllmefbhjmmaa", sum := "facc983d15cb988519b5eacee9f65dbc4176080ade84695a93de9781ce602e7a", func := "drifter/drifterlaw07.BrandPromises", spec := "brandPromises", unfollowed := true, recurses := true, plainKeys := false, apart := false, narrowed := true }
def BrandPromisesUptoSaid : Prop := brandPromisesUptoRow.holds Try.pinned (OpenSpec.upto brandPromisesSpec)

/-- 'driftertop.TopPacked', WHERE WHAT IT READS IS OF BULK AT MOST 1048576: true; the input reads as it did. -/
def topPackedUptoRow : OpenClaim := { program := "ythpllmefbhjmmaa", sum := "facc983d15cb988519b5eacee9f65dbc4176080ade84695a93de9781ce602e7a", func := "drifter/driftertop.TopPacked", spec := "topPacked", unfollowed := true, recurses := true, plainKeys := false, apart := false, narrowed := true }
def TopPackedUptoSaid : Prop := topPackedUptoRow.holds Try.pinned (OpenSpec.upto topPackedSpec)

/-- 'drifterlaw07.BrandCounted', WHERE WHAT IT READS IS OF BULK AT MOST 1048576: true; the input reads as it did. -/
def brandCountedUptoRow : OpenClaim := { program := "ythpllmefbhjmmaa", sum := "facc983d15cb988519b5eacee9f65dbc4176080ade84695a93de9781ce602e7a", func := "drifter/drifterlaw07.BrandCounted", spec := "brandCounted", unfollowed := true, recurses := true, plainKeys := false, apart := false, narrowed := true }
def BrandCountedUptoSaid : Prop := brandCountedUptoRow.holds Try.pinned (OpenSpec.upto brandCountedSpec)

/-- 'drifterlaw07.BrandFirst', WHERE WHAT IT READS IS OF BULK AT MOST 1048576: true; the input reads as it did. -/
def brandFirstUptoRow : OpenClaim := { program := "ythpllmefbhjmmaa", sum := "facc983d15cb988519b5eacee9f65dbc4176080ade84695a93de9781ce602e7a", func := "drifter/drifterlaw07.BrandFirst", spec := "brandFirst", unfollowed := true, recurses := true, plainKeys := false, apart := false, narrowed := true }
def BrandFirstUptoSaid : Prop := brandFirstUptoRow.holds Try.pinned (OpenSpec.upto brandFirstSpec)

/-- 'drifterlaw07.BrandFalls', WHERE WHAT IT READS IS OF BULK AT MOST 1048576: true; the input reads as it did. -/
def brandFallsUptoRow : OpenClaim := { program := "ythpllmefbhjmmaa", sum := "facc983d15cb988519b5eacee9f65dbc4176080ade84695a93de9781ce602e7a", func := "drifter/drifterlaw07.BrandFalls", spec := "brandFalls", unfollowed := true, recurses := true, plainKeys := false, apart := false, narrowed := true }
def BrandFallsUptoSaid : Prop := brandFallsUptoRow.holds Try.pinned (OpenSpec.upto brandFallsSpec)

/-- 'drifterlaw07.BrandFewest', WHERE WHAT IT READS IS OF BULK AT MOST 1048576: true; the input reads as it did. -/
def brandFewestUptoRow : OpenClaim := { program := "ythpllmefbhjmmaa", sum := "facc983d15cb988519b5eacee9f65dbc4176080ade84695a93de9781ce602e7a", func := "drifter/drifterlaw07.BrandFewest", spec := "brandFewest", unfollowed := true, recurses := true, plainKeys := false, apart := false, narrowed := true }
def BrandFewestUptoSaid : Prop := brandFewestUptoRow.holds Try.pinned (OpenSpec.upto brandFewestSpec)

/-- 'drifterlaw07.BrandKept', WHERE WHAT IT READS IS OF BULK AT MOST 1048576: true; the input reads as it did. -/
def brandKeptUptoRow : OpenClaim := { program := "ythpllmefbhjmmaa", sum := "facc983d15cb988519b5eacee9f65dbc4176080ade84695a93de9781ce602e7a", func := "drifter/drifterlaw07.BrandKept", spec := "brandKept", unfollowed := true, recurses := true, plainKeys := false, apart := false, narrowed := true }
def BrandKeptUptoSaid : Prop := brandKeptUptoRow.holds Try.pinned (OpenSpec.upto brandKeptSpec)

/-- 'drifterlaw07.BrandDoubt', WHERE WHAT IT READS IS OF BULK AT MOST 1048576: true; the input reads as it did. -/
def brandDoubtUptoRow : OpenClaim := { program := "ythpllmefbhjmmaa", sum := "facc983d15cb988519b5eacee9f65dbc4176080ade84695a93de9781ce602e7a", func := "drifter/drifterlaw07.BrandDoubt", spec := "brandDoubt", unfollowed := true, recurses := true, plainKeys := false, apart := false, narrowed := true }
def BrandDoubtUptoSaid : Prop := brandDoubtUptoRow.holds Try.pinned (OpenSpec.upto brandDoubtSpec)

/-- 'drifterlaw07.BrandGraded', WHERE WHAT IT READS IS OF BULK AT MOST 1048576: true; the input reads as it did. -/
def brandGradedUptoRow : OpenClaim := { program := "ythpllmefbhjmmaa", sum := "facc983d15cb988519b5eacee9f65dbc4176080ade84695a93de9781ce602e7a", func := "drifter/drifterlaw07.BrandGraded", spec := "brandGraded", unfollowed := true, recurses := true, plainKeys := false, apart := false, narrowed := true }
def BrandGradedUptoSaid : Prop := brandGradedUptoRow.holds Try.pinned (OpenSpec.upto brandGradedSpec)

/-- 'drifterlaw07.BrandPromised', WHERE WHAT IT READS IS OF BULK AT MOST 1048576: true; the input reads as it did. -/
def brandPromisedUptoRow : OpenClaim := { program := "ythpllmefbhjmmaa", sum := "facc983d15cb988519b5eacee9f65dbc4176080ade84695a93de9781ce602e7a", func := "drifter/drifterlaw07.BrandPromised", spec := "brandPromised", unfollowed := true, recurses := true, plainKeys := false, apart := false, narrowed := true }
def BrandPromisedUptoSaid : Prop := brandPromisedUptoRow.holds Try.pinned (OpenSpec.upto brandPromisedSpec)

/-- 'drifterlaw07.BrandKnown', WHERE WHAT IT READS IS OF BULK AT MOST 1048576: true; the input reads as it did. -/
def brandKnownUptoRow : OpenClaim := { program := "ythpllmefbhjmmaa", sum := "facc983d15cb988519b5eacee9f65dbc4176080ade84695a93de9781ce602e7a", func := "drifter/drifterlaw07.BrandKnown", spec := "brandKnown", unfollowed := true, recurses := true, plainKeys := false, apart := false, narrowed := true }
def BrandKnownUptoSaid : Prop := brandKnownUptoRow.holds Try.pinned (OpenSpec.upto brandKnownSpec)

end Rows
end Go.Proofs.Ythpllmefbhjmmaa
