/-
  No cell of these rows narrows 'for every input' (looked for: loops, veiled, ifaces, maps, wideKeys, modest, calm, conditions, laid).
  DERIVED. THE GIVEN ROWS OF THIS SEAT. 12 by the template 'for every input the law returns true; each argument reads behind the call as it read before'; 0 by the template 'total and deterministic' (their statements: YtphjnhigohhggaaGreatTotals.lean).
  GIVEN WITH THE SEED: the statements are not yours to turn. If you find one false, say at which input.
  Laid BY PROGRAM, IN A SANDBOX (cutbox-rows.mjs): the forced cells as the released guide's own fill.sh prints them over the translation 0decd26b9b4ae5ba… (all of the seat's roots in one cut). By AI agents, Wed Nov 11 2026. No macro, syntax, notation, axiom, sorry.
-/
import Derived.Test.YtphjnhigohhggaaGreatChecked
import GoSem.Claim
import GoSem.ClaimJoined
import GoSem.ClaimMapViews
import Derived.JoinedTies
import Derived.KernelRfl
namespace Go.Proofs.YtphjnhigohhggaaGreat
/- THE CELL 'sum', in the pinned program and in every row, IS THE sha256 OF THE DUMP (.gsa) THAT YtphjnhigohhggaaGreatProg.lean LOADS. Nothing in Lean hashes anything: it is a label: what it is worth is what the hold of that sum in a sandbox is worth. -/
noncomputable def Tryz.pinned : Pinned := { name := "ytphjnhigohhggaagreat", sum := "0decd26b9b4ae5ba8a54ec6d6db21784b33d2f6a20755bb78e8aeb2d1ec36e41", checked := Tryz.checked }
namespace Rows
def none {H : Type} : Left H := { results := [], args := [] }

/-- 'tympanlaw37.PlaceStands': WHATEVER THE INPUT: true; the input reads as it did. -/
def placeStandsSpec : ChangeSpec := { name := "placeStands", fn := fun _ => fun
  | [d1, d2, d3] => { results := [.lit (.bool true)], args := [d1, d2, d3] }
  | _ => none }
def placeStandsRow : OpenClaim := { program := "ytphjnhigohhggaagreat", sum := "0decd26b9b4ae5ba8a54ec6d6db21784b33d2f6a20755bb78e8aeb2d1ec36e41", func := "tympan/tympanlaw37.PlaceStands", spec := "placeStands", unfollowed := true, recurses := true, named := ["math/bits.divideError", "math/bits.overflowError"], plainKeys := false, apart := false }
def PlaceStandsSaid : Prop := placeStandsRow.holds Tryz.pinned (OpenSpec.ofChange placeStandsSpec)

/-- ITS FALSE NEIGHBOUR: 'it returns false'. Refute it at one input. -/
def placeStandsWrong : ChangeSpec := { name := "placeStands", fn := fun _ => fun
  | [d1, d2, d3] => { results := [.lit (.bool false)], args := [d1, d2, d3] }
  | _ => none }
def PlaceStandsWrongFalsely : Prop := placeStandsRow.holds Tryz.pinned (OpenSpec.ofChange placeStandsWrong)

/-- 'tympanlaw48.TallyTells': WHATEVER THE INPUT: true; the input reads as it did. -/
def tallyTellsSpec : ChangeSpec := { name := "tallyTells", fn := fun _ => fun
  | [d1, d2] => { results := [.lit (.bool true)], args := [d1, d2] }
  | _ => none }
def tallyTellsRow : OpenClaim := { program := "ytphjnhigohhggaagreat", sum := "0decd26b9b4ae5ba8a54ec6d6db21784b33d2f6a20755bb78e8aeb2d1ec36e41", func := "tympan/tympanlaw48.TallyTells", spec := "tallyTells", unfollowed := true, recurses := true, plainKeys := false, apart := false }
def TallyTellsSaid : Prop := tallyTellsRow.holds Tryz.pinned (OpenSpec.ofChange tallyTellsSpec)

/-- ITS FALSE NEIGHBOUR: 'it returns false'. Refute it at one input. -/
def tallyTellsWrong : ChangeSpec := { name := "tallyTells", fn := fun _ => fun
  | [d1, d2] => { results := [.lit (.bool false)], args := [d1, d2] }
  | _ => none }
def TallyTellsWrongFalsely : Prop := tallyTellsRow.holds Tryz.pinned (OpenSpec.ofChange tallyTellsWrong)

/-- 'tympanlaw48.TallyAdds': WHATEVER THE INPUT: true; the input reads as it did. -/
def tallyAddsSpec : ChangeSpec := { name := "tallyAdds", fn := fun _ => fun
  | [d1, d2] => { results := [.lit (.bool true)], args := [d1, d2] }
  | _ => none }
def tallyAddsRow : OpenClaim := { program := "ytphjnhigohhggaagreat", sum := "0decd26b9b4ae5ba8a54ec6d6db21784b33d2f6a20755bb78e8aeb2d1ec36e41", func := "tympan/tympanlaw48.TallyAdds", spec := "tallyAdds", unfollowed := true, recurses := true, plainKeys := false, apart := false }
def TallyAddsSaid : Prop := tallyAddsRow.holds Tryz.pinned (OpenSpec.ofChange tallyAddsSpec)

/-- ITS FALSE NEIGHBOUR: 'it returns false'. Refute it at one input. -/
def tallyAddsWrong : ChangeSpec := { name := "tallyAdds", fn := fun _ => fun
  | [d1, d2] => { results := [.lit (.bool false)], args := [d1, d2] }
  | _ => none }
def TallyAddsWrongFalsely : Prop := tallyAddsRow.holds Tryz.pinned (OpenSpec.ofChange tallyAddsWrong)

/-- 'tympanlaw48.TallyWhole': WHATEVER THE INPUT: true; the input reads as it did. -/
def tallyWholeSpec : ChangeSpec := { name := "tallyWhole", fn := fun _ => fun
  | [d1, d2] => { results := [.lit (.bool true)], args := [d1, d2] }
  | _ => none }
def tallyWholeRow : OpenClaim := { program := "ytphjnhigohhggaagreat", sum := "0decd26b9b4ae5ba8a54ec6d6db21784b33d2f6a20755bb78e8aeb2d1ec36e41", func := "tympan/tympanlaw48.TallyWhole", spec := "tallyWhole", unfollowed := true, recurses := true, plainKeys := false, apart := false }
def TallyWholeSaid : Prop := tallyWholeRow.holds Tryz.pinned (OpenSpec.ofChange tallyWholeSpec)

/-- ITS FALSE NEIGHBOUR: 'it returns false'. Refute it at one input. -/
def tallyWholeWrong : ChangeSpec := { name := "tallyWhole", fn := fun _ => fun
  | [d1, d2] => { results := [.lit (.bool false)], args := [d1, d2] }
  | _ => none }
def TallyWholeWrongFalsely : Prop := tallyWholeRow.holds Tryz.pinned (OpenSpec.ofChange tallyWholeWrong)

/-- 'tympanlaw47.BillTells': WHATEVER THE INPUT: true; the input reads as it did. -/
def billTellsSpec : ChangeSpec := { name := "billTells", fn := fun _ => fun
  | [d1, d2, d3] => { results := [.lit (.bool true)], args := [d1, d2, d3] }
  | _ => none }
def billTellsRow : OpenClaim := { program := "ytphjnhigohhggaagreat", sum := "0decd26b9b4ae5ba8a54ec6d6db21784b33d2f6a20755bb78e8aeb2d1ec36e41", func := "tympan/tympanlaw47.BillTells", spec := "billTells", unfollowed := true, recurses := true, plainKeys := false, apart := false }
def BillTellsSaid : Prop := billTellsRow.holds Tryz.pinned (OpenSpec.ofChange billTellsSpec)

/-- ITS FALSE NEIGHBOUR: 'it returns false'. Refute it at one input. -/
def billTellsWrong : ChangeSpec := { name := "billTells", fn := fun _ => fun
  | [d1, d2, d3] => { results := [.lit (.bool false)], args := [d1, d2, d3] }
  | _ => none }
def BillTellsWrongFalsely : Prop := billTellsRow.holds Tryz.pinned (OpenSpec.ofChange billTellsWrong)

/-- 'tympanlaw47.BillSums': WHATEVER THE INPUT: true; the input reads as it did. -/
def billSumsSpec : ChangeSpec := { name := "billSums", fn := fun _ => fun
  | [d] => { results := [.lit (.bool true)], args := [d] }
  | _ => none }
def billSumsRow : OpenClaim := { program := "ytphjnhigohhggaagreat", sum := "0decd26b9b4ae5ba8a54ec6d6db21784b33d2f6a20755bb78e8aeb2d1ec36e41", func := "tympan/tympanlaw47.BillSums", spec := "billSums", unfollowed := true, recurses := true, plainKeys := false, apart := false }
def BillSumsSaid : Prop := billSumsRow.holds Tryz.pinned (OpenSpec.ofChange billSumsSpec)

/-- ITS FALSE NEIGHBOUR: 'it returns false'. Refute it at one input. -/
def billSumsWrong : ChangeSpec := { name := "billSums", fn := fun _ => fun
  | [d] => { results := [.lit (.bool false)], args := [d] }
  | _ => none }
def BillSumsWrongFalsely : Prop := billSumsRow.holds Tryz.pinned (OpenSpec.ofChange billSumsWrong)

/-- 'tympanlaw33.ReachTells': WHATEVER THE INPUT: true; the input reads as it did. -/
def reachTellsSpec : ChangeSpec := { name := "reachTells", fn := fun _ => fun
  | [d1, d2] => { results := [.lit (.bool true)], args := [d1, d2] }
  | _ => none }
def reachTellsRow : OpenClaim := { program := "ytphjnhigohhggaagreat", sum := "0decd26b9b4ae5ba8a54ec6d6db21784b33d2f6a20755bb78e8aeb2d1ec36e41", func := "tympan/tympanlaw33.ReachTells", spec := "reachTells", unfollowed := true, recurses := true, plainKeys := false, apart := false }
def ReachTellsSaid : Prop := reachTellsRow.holds Tryz.pinned (OpenSpec.ofChange reachTellsSpec)

/-- ITS FALSE NEIGHBOUR: 'it returns false'. Refute it at one input. -/
def reachTellsWrong : ChangeSpec := { name := "reachTells", fn := fun _ => fun
  | [d1, d2] => { results := [.lit (.bool false)], args := [d1, d2] }
  | _ => none }
def ReachTellsWrongFalsely : Prop := reachTellsRow.holds Tryz.pinned (OpenSpec.ofChange reachTellsWrong)

/-- 'tympanlaw33.ReachRises': WHATEVER THE INPUT: true; the input reads as it did. -/
def reachRisesSpec : ChangeSpec := { name := "reachRises", fn := fun _ => fun
  | [d1, d2, d3] => { results := [.lit (.bool true)], args := [d1, d2, d3] }
  | _ => none }
def reachRisesRow : OpenClaim := { program := "ytphjnhigohhggaagreat", sum := "0decd26b9b4ae5ba8a54ec6d6db21784b33d2f6a20755bb78e8aeb2d1ec36e41", func := "tympan/tympanlaw33.ReachRises", spec := "reachRises", unfollowed := true, recurses := true, plainKeys := false, apart := false }
def ReachRisesSaid : Prop := reachRisesRow.holds Tryz.pinned (OpenSpec.ofChange reachRisesSpec)

/-- ITS FALSE NEIGHBOUR: 'it returns false'. Refute it at one input. -/
def reachRisesWrong : ChangeSpec := { name := "reachRises", fn := fun _ => fun
  | [d1, d2, d3] => { results := [.lit (.bool false)], args := [d1, d2, d3] }
  | _ => none }
def ReachRisesWrongFalsely : Prop := reachRisesRow.holds Tryz.pinned (OpenSpec.ofChange reachRisesWrong)

/-- 'tympanlaw33.ReachComes': WHATEVER THE INPUT: true; the input reads as it did. -/
def reachComesSpec : ChangeSpec := { name := "reachComes", fn := fun _ => fun
  | [d1, d2] => { results := [.lit (.bool true)], args := [d1, d2] }
  | _ => none }
def reachComesRow : OpenClaim := { program := "ytphjnhigohhggaagreat", sum := "0decd26b9b4ae5ba8a54ec6d6db21784b33d2f6a20755bb78e8aeb2d1ec36e41", func := "tympan/tympanlaw33.ReachComes", spec := "reachComes", unfollowed := true, recurses := true, plainKeys := false, apart := false }
def ReachComesSaid : Prop := reachComesRow.holds Tryz.pinned (OpenSpec.ofChange reachComesSpec)

/-- ITS FALSE NEIGHBOUR: 'it returns false'. Refute it at one input. -/
def reachComesWrong : ChangeSpec := { name := "reachComes", fn := fun _ => fun
  | [d1, d2] => { results := [.lit (.bool false)], args := [d1, d2] }
  | _ => none }
def ReachComesWrongFalsely : Prop := reachComesRow.holds Tryz.pinned (OpenSpec.ofChange reachComesWrong)

/-- 'tympanlaw47.BillAdds': WHATEVER THE INPUT: true; the input reads as it did. -/
def billAddsSpec : ChangeSpec := { name := "billAdds", fn := fun _ => fun
  | [d1, d2] => { results := [.lit (.bool true)], args := [d1, d2] }
  | _ => none }
def billAddsRow : OpenClaim := { program := "ytphjnhigohhggaagreat", sum := "0decd26b9b4ae5ba8a54ec6d6db21784b33d2f6a20755bb78e8aeb2d1ec36e41", func := "tympan/tympanlaw47.BillAdds", spec := "billAdds", unfollowed := true, recurses := true, plainKeys := false, apart := false }
def BillAddsSaid : Prop := billAddsRow.holds Tryz.pinned (OpenSpec.ofChange billAddsSpec)

/-- ITS FALSE NEIGHBOUR: 'it returns false'. Refute it at one input. -/
def billAddsWrong : ChangeSpec := { name := "billAdds", fn := fun _ => fun
  | [d1, d2] => { results := [.lit (.bool false)], args := [d1, d2] }
  | _ => none }
def BillAddsWrongFalsely : Prop := billAddsRow.holds Tryz.pinned (OpenSpec.ofChange billAddsWrong)

/-- 'tympanlaw45.RelaxStep': WHATEVER THE INPUT: true; the input reads as it did. -/
def relaxStepSpec : ChangeSpec := { name := "relaxStep", fn := fun _ => fun
  | [d1, d2] => { results := [.lit (.bool true)], args := [d1, d2] }
  | _ => none }
def relaxStepRow : OpenClaim := { program := "ytphjnhigohhggaagreat", sum := "0decd26b9b4ae5ba8a54ec6d6db21784b33d2f6a20755bb78e8aeb2d1ec36e41", func := "tympan/tympanlaw45.RelaxStep", spec := "relaxStep", unfollowed := true, recurses := true, plainKeys := false, apart := false }
def RelaxStepSaid : Prop := relaxStepRow.holds Tryz.pinned (OpenSpec.ofChange relaxStepSpec)

/-- ITS FALSE NEIGHBOUR: 'it returns false'. Refute it at one input. -/
def relaxStepWrong : ChangeSpec := { name := "relaxStep", fn := fun _ => fun
  | [d1, d2] => { results := [.lit (.bool false)], args := [d1, d2] }
  | _ => none }
def RelaxStepWrongFalsely : Prop := relaxStepRow.holds Tryz.pinned (OpenSpec.ofChange relaxStepWrong)

/-- 'tympanlaw34.BestNone': WHATEVER THE INPUT: true; the input reads as it did. -/
def bestNoneSpec : ChangeSpec := { name := "bestNone", fn := fun _ => fun
  | [d] => { results := [.lit (.bool true)], args := [d] }
  | _ => none }
def bestNoneRow : OpenClaim := { program := "ytphjnhigohhggaagreat", sum := "0decd26b9b4ae5ba8a54ec6d6db21784b33d2f6a20755bb78e8aeb2d1ec36e41", func := "tympan/tympanlaw34.BestNone", spec := "bestNone", unfollowed := true, recurses := true, plainKeys := false, apart := false }
def BestNoneSaid : Prop := bestNoneRow.holds Tryz.pinned (OpenSpec.ofChange bestNoneSpec)

/-- ITS FALSE NEIGHBOUR: 'it returns false'. Refute it at one input. -/
def bestNoneWrong : ChangeSpec := { name := "bestNone", fn := fun _ => fun
  | [d] => { results := [.lit (.bool false)], args := [d] }
  | _ => none }
def BestNoneWrongFalsely : Prop := bestNoneRow.holds Tryz.pinned (OpenSpec.ofChange bestNoneWrong)

/- THE SECOND FORM. 'bulk': how many values and letters a reading holds, each counted each time it is reached (what is shared counts as often as it is met; a slice's spare places count too). A statement '..UptoSaid' is the law's where the arguments, and the package variables that the reading takes, are together of bulk at most 1048576: NARROWER than '..Said'. Prove '..Said' where nothing that the law and all that it calls make is longer than what came in: it says more and counts as full. Else prove '..UptoSaid'. A law counts once. -/
mutual
def uptoBulk {H : Type} : DataW H → Nat
  | .lit (.string bytes) => bytes.length + 1
  | .lit _ => 1
  | .nil => 1
  | .ptr d => uptoBulk d + 1
  | .slice elems spare => uptoBulkAll elems + uptoBulkAll spare + 1
  | .agg parts => uptoBulkAll parts + 1
  | .iface _ d => uptoBulk d + 1
  | .map entries => uptoBulkEntries entries + 1
  | .held _ => 1
def uptoBulkAll {H : Type} : List (DataW H) → Nat
  | [] => 0
  | d :: r => uptoBulk d + uptoBulkAll r
def uptoBulkEntries {H : Type} : List (Lit × DataW H) → Nat
  | [] => 0
  | x :: r => uptoBulkEntry x + uptoBulkEntries r
def uptoBulkEntry {H : Type} : Lit × DataW H → Nat
  | (.string bytes, d) => bytes.length + uptoBulk d + 1
  | (_, d) => uptoBulk d + 1
 end
def uptoSmall : (H : Type) → List (DataW H) → Bool := fun _ ds => decide (uptoBulkAll ds ≤ 1048576)
def OpenSpec.upto (s : _root_.Go.ChangeSpec) : _root_.Go.OpenSpec := { _root_.Go.OpenSpec.ofChange s with cond := some uptoSmall }

/-- 'tympanlaw37.PlaceStands', WHERE WHAT IT READS IS OF BULK AT MOST 1048576: true; the input reads as it did. -/
def placeStandsUptoRow : OpenClaim := { program := "ytphjnhigohhggaagreat", sum := "0decd26b9b4ae5ba8a54ec6d6db21784b33d2f6a20755bb78e8aeb2d1ec36e41", func := "tympan/tympanlaw37.PlaceStands", spec := "placeStands", unfollowed := true, recurses := true, named := ["math/bits.divideError", "math/bits.overflowError"], plainKeys := false, apart := false, narrowed := true }
def PlaceStandsUptoSaid : Prop := placeStandsUptoRow.holds Tryz.pinned (OpenSpec.upto placeStandsSpec)

/-- 'tympanlaw48.TallyTells', WHERE WHAT IT READS IS OF BULK AT MOST 1048576: true; the input reads as it did. -/
def tallyTellsUptoRow : OpenClaim := { program := "ytphjnhigohhggaagreat", sum := "0decd26b9b4ae5ba8a54ec6d6db21784b33d2f6a20755bb78e8aeb2d1ec36e41", func := "tympan/tympanlaw48.TallyTells", spec := "tallyTells", unfollowed := true, recurses := true, plainKeys := false, apart := false, narrowed := true }
def TallyTellsUptoSaid : Prop := tallyTellsUptoRow.holds Tryz.pinned (OpenSpec.upto tallyTellsSpec)

/-- 'tympanlaw48.TallyAdds', WHERE WHAT IT READS IS OF BULK AT MOST 1048576: true; the input reads as it did. -/
def tallyAddsUptoRow : OpenClaim := { program := "ytphjnhigohhggaagreat", sum := "0decd26b9b4ae5ba8a54ec6d6db21784b33d2f6a20755bb78e8aeb2d1ec36e41", func := "tympan/tympanlaw48.TallyAdds", spec := "tallyAdds", unfollowed := true, recurses := true, plainKeys := false, apart := false, narrowed := true }
def TallyAddsUptoSaid : Prop := tallyAddsUptoRow.holds Tryz.pinned (OpenSpec.upto tallyAddsSpec)

/-- 'tympanlaw48.TallyWhole', WHERE WHAT IT READS IS OF BULK AT MOST 1048576: true; the input reads as it did. -/
def tallyWholeUptoRow : OpenClaim := { program := "ytphjnhigohhggaagreat", sum := "0decd26b9b4ae5ba8a54ec6d6db21784b33d2f6a20755bb78e8aeb2d1ec36e41", func := "tympan/tympanlaw48.TallyWhole", spec := "tallyWhole", unfollowed := true, recurses := true, plainKeys := false, apart := false, narrowed := true }
def TallyWholeUptoSaid : Prop := tallyWholeUptoRow.holds Tryz.pinned (OpenSpec.upto tallyWholeSpec)

/-- 'tympanlaw47.BillTells', WHERE WHAT IT READS IS OF BULK AT MOST 1048576: true; the input reads as it did. -/
def billTellsUptoRow : OpenClaim := { program := "ytphjnhigohhggaagreat", sum := "0decd26b9b4ae5ba8a54ec6d6db21784b33d2f6a20755bb78e8aeb2d1ec36e41", func := "tympan/tympanlaw47.BillTells", spec := "billTells", unfollowed := true, recurses := true, plainKeys := false, apart := false, narrowed := true }
def BillTellsUptoSaid : Prop := billTellsUptoRow.holds Tryz.pinned (OpenSpec.upto billTellsSpec)

/-- 'tympanlaw47.BillSums', WHERE WHAT IT READS IS OF BULK AT MOST 1048576: true; the input reads as it did. -/
def billSumsUptoRow : OpenClaim := { program := "ytphjnhigohhggaagreat", sum := "0decd26b9b4ae5ba8a54ec6d6db21784b33d2f6a20755bb78e8aeb2d1ec36e41", func := "tympan/tympanlaw47.BillSums", spec := "billSums", unfollowed := true, recurses := true, plainKeys := false, apart := false, narrowed := true }
def BillSumsUptoSaid : Prop := billSumsUptoRow.holds Tryz.pinned (OpenSpec.upto billSumsSpec)

/-- 'tympanlaw33.ReachTells', WHERE WHAT IT READS IS OF BULK AT MOST 1048576: true; the input reads as it did. -/
def reachTellsUptoRow : OpenClaim := { program := "ytphjnhigohhggaagreat", sum := "0decd26b9b4ae5ba8a54ec6d6db21784b33d2f6a20755bb78e8aeb2d1ec36e41", func := "tympan/tympanlaw33.ReachTells", spec := "reachTells", unfollowed := true, recurses := true, plainKeys := false, apart := false, narrowed := true }
def ReachTellsUptoSaid : Prop := reachTellsUptoRow.holds Tryz.pinned (OpenSpec.upto reachTellsSpec)

/-- 'tympanlaw33.ReachRises', WHERE WHAT IT READS IS OF BULK AT MOST 1048576: true; the input reads as it did. -/
def reachRisesUptoRow : OpenClaim := { program := "ytphjnhigohhggaagreat", sum := "0decd26b9b4ae5ba8a54ec6d6db21784b33d2f6a20755bb78e8aeb2d1ec36e41", func := "tympan/tympanlaw33.ReachRises", spec := "reachRises", unfollowed := true, recurses := true, plainKeys := false, apart := false, narrowed := true }
def ReachRisesUptoSaid : Prop := reachRisesUptoRow.holds Tryz.pinned (OpenSpec.upto reachRisesSpec)

/-- 'tympanlaw33.ReachComes', WHERE WHAT IT READS IS OF BULK AT MOST 1048576: true; the input reads as it did. -/
def reachComesUptoRow : OpenClaim := { program := "ytphjnhigohhggaagreat", sum := "0decd26b9b4ae5ba8a54ec6d6db21784b33d2f6a20755bb78e8aeb2d1ec36e41", func := "tympan/tympanlaw33.ReachComes", spec := "reachComes", unfollowed := true, recurses := true, plainKeys := false, apart := false, narrowed := true }
def ReachComesUptoSaid : Prop := reachComesUptoRow.holds Tryz.pinned (OpenSpec.upto reachComesSpec)

/-- 'tympanlaw47.BillAdds', WHERE WHAT IT READS IS OF BULK AT MOST 1048576: true; the input reads as it did. -/
def billAddsUptoRow : OpenClaim := { program := "ytphjnhigohhggaagreat", sum := "0decd26b9b4ae5ba8a54ec6d6db21784b33d2f6a20755bb78e8aeb2d1ec36e41", func := "tympan/tympanlaw47.BillAdds", spec := "billAdds", unfollowed := true, recurses := true, plainKeys := false, apart := false, narrowed := true }
def BillAddsUptoSaid : Prop := billAddsUptoRow.holds Tryz.pinned (OpenSpec.upto billAddsSpec)

/-- 'tympanlaw45.RelaxStep', WHERE WHAT IT READS IS OF BULK AT MOST 1048576: true; the input reads as it did. -/
def relaxStepUptoRow : OpenClaim := { program := "ytphjnhigohhggaagreat", sum := "0decd26b9b4ae5ba8a54ec6d6db21784b33d2f6a20755bb78e8aeb2d1ec36e41", func := "tympan/tympanlaw45.RelaxStep", spec := "relaxStep", unfollowed := true, recurses := true, plainKeys := false, apart := false, narrowed := true }
def RelaxStepUptoSaid : Prop := relaxStepUptoRow.holds Tryz.pinned (OpenSpec.upto relaxStepSpec)

/-- 'tympanlaw34.BestNone', WHERE WHAT IT READS IS OF BULK AT MOST 1048576: true; the input reads as it did. -/
def bestNoneUptoRow : OpenClaim := { program := "ytphjnhigohhggaagreat", sum := "0decd26b9b4ae5ba8a54ec6d6db21784b33d2f6a20755bb78e8aeb2d1ec36e41", func := "tympan/tympanlaw34.BestNone", spec := "bestNone", unfollowed := true, recurses := true, plainKeys := false, apart := false, narrowed := true }
def BestNoneUptoSaid : Prop := bestNoneUptoRow.holds Tryz.pinned (OpenSpec.upto bestNoneSpec)

end Rows
end Go.Proofs.YtphjnhigohhggaaGreat
