/-
  No cell of these rows narrows 'for every input' (looked for: loops, veiled, ifaces, maps, wideKeys, modest, calm, conditions, laid).
  DERIVED. THE GIVEN ROWS OF THIS SEAT. 12 by the template 'for every input the law returns true; each argument reads behind the call as it read before'; 0 by the template 'total and deterministic' (their statements: YtebbgoklldmkiaaGreatTotals.lean).
  GIVEN WITH THE SEED: the statements are not yours to turn. If you find one false, say at which input.
  Laid BY PROGRAM, IN A SANDBOX (cutbox-rows.mjs): the forced cells as the released guide's own fill.sh prints them over the translation 808738623e8fef6c… (all of the seat's roots in one cut). By AI agents, Wed Nov 11 2026. No macro, syntax, notation, axiom, sorry.
-/
import Derived.Test.YtebbgoklldmkiaaGreatChecked
import GoSem.Claim
import GoSem.ClaimJoined
import GoSem.ClaimMapViews
import Derived.JoinedTies
import Derived.KernelRfl
namespace Go.Proofs.YtebbgoklldmkiaaGreat
/- THE CELL 'sum', in the pinned program and in every row, IS THE sha256 OF THE DUMP (.gsa) THAT YtebbgoklldmkiaaGreatProg.lean LOADS. Nothing in Lean hashes anything: it is a label: what it is worth is what the hold of that sum in a sandbox is worth. -/
noncomputable def Tryz.pinned : Pinned := { name := "ytebbgoklldmkiaagreat", sum := "808738623e8fef6c22830cb7a4b42805efe0413078b5f84afa807467031e4767", checked := Tryz.checked }
namespace Rows
def none {H : Type} : Left H := { results := [], args := [] }

/-- 'merinolaw04.StockStates': WHATEVER THE INPUT: true; the input reads as it did. -/
def stockStatesSpec : ChangeSpec := { name := "stockStates", fn := fun _ => fun
  | [d] => { results := [.lit (.bool true)], args := [d] }
  | _ => none }
def stockStatesRow : OpenClaim := { program := "ytebbgoklldmkiaagreat", sum := "808738623e8fef6c22830cb7a4b42805efe0413078b5f84afa807467031e4767", func := "merino/merinolaw04.StockStates", spec := "stockStates", unfollowed := true, recurses := true, named := ["math/bits.divideError", "math/bits.overflowError"], apart := false }
def StockStatesSaid : Prop := stockStatesRow.holds Tryz.pinned (OpenSpec.ofChange stockStatesSpec)

/-- ITS FALSE NEIGHBOUR: 'it returns false'. Refute it at one input. -/
def stockStatesWrong : ChangeSpec := { name := "stockStates", fn := fun _ => fun
  | [d] => { results := [.lit (.bool false)], args := [d] }
  | _ => none }
def StockStatesWrongFalsely : Prop := stockStatesRow.holds Tryz.pinned (OpenSpec.ofChange stockStatesWrong)

/-- 'merinolaw04.StockMass': WHATEVER THE INPUT: true; the input reads as it did. -/
def stockMassSpec : ChangeSpec := { name := "stockMass", fn := fun _ => fun
  | [d] => { results := [.lit (.bool true)], args := [d] }
  | _ => none }
def stockMassRow : OpenClaim := { program := "ytebbgoklldmkiaagreat", sum := "808738623e8fef6c22830cb7a4b42805efe0413078b5f84afa807467031e4767", func := "merino/merinolaw04.StockMass", spec := "stockMass", unfollowed := true, recurses := true, named := ["math/bits.divideError", "math/bits.overflowError"], apart := false }
def StockMassSaid : Prop := stockMassRow.holds Tryz.pinned (OpenSpec.ofChange stockMassSpec)

/-- ITS FALSE NEIGHBOUR: 'it returns false'. Refute it at one input. -/
def stockMassWrong : ChangeSpec := { name := "stockMass", fn := fun _ => fun
  | [d] => { results := [.lit (.bool false)], args := [d] }
  | _ => none }
def StockMassWrongFalsely : Prop := stockMassRow.holds Tryz.pinned (OpenSpec.ofChange stockMassWrong)

/-- 'merinolaw04.StockPlays': WHATEVER THE INPUT: true; the input reads as it did. -/
def stockPlaysSpec : ChangeSpec := { name := "stockPlays", fn := fun _ => fun
  | [d] => { results := [.lit (.bool true)], args := [d] }
  | _ => none }
def stockPlaysRow : OpenClaim := { program := "ytebbgoklldmkiaagreat", sum := "808738623e8fef6c22830cb7a4b42805efe0413078b5f84afa807467031e4767", func := "merino/merinolaw04.StockPlays", spec := "stockPlays", unfollowed := true, recurses := true, named := ["math/bits.divideError", "math/bits.overflowError"], apart := false }
def StockPlaysSaid : Prop := stockPlaysRow.holds Tryz.pinned (OpenSpec.ofChange stockPlaysSpec)

/-- ITS FALSE NEIGHBOUR: 'it returns false'. Refute it at one input. -/
def stockPlaysWrong : ChangeSpec := { name := "stockPlays", fn := fun _ => fun
  | [d] => { results := [.lit (.bool false)], args := [d] }
  | _ => none }
def StockPlaysWrongFalsely : Prop := stockPlaysRow.holds Tryz.pinned (OpenSpec.ofChange stockPlaysWrong)

/-- 'merinolaw04.StockUndo': WHATEVER THE INPUT: true; the input reads as it did. -/
def stockUndoSpec : ChangeSpec := { name := "stockUndo", fn := fun _ => fun
  | [d1, d2] => { results := [.lit (.bool true)], args := [d1, d2] }
  | _ => none }
def stockUndoRow : OpenClaim := { program := "ytebbgoklldmkiaagreat", sum := "808738623e8fef6c22830cb7a4b42805efe0413078b5f84afa807467031e4767", func := "merino/merinolaw04.StockUndo", spec := "stockUndo", unfollowed := true, recurses := true, named := ["math/bits.divideError", "math/bits.overflowError"], apart := false }
def StockUndoSaid : Prop := stockUndoRow.holds Tryz.pinned (OpenSpec.ofChange stockUndoSpec)

/-- ITS FALSE NEIGHBOUR: 'it returns false'. Refute it at one input. -/
def stockUndoWrong : ChangeSpec := { name := "stockUndo", fn := fun _ => fun
  | [d1, d2] => { results := [.lit (.bool false)], args := [d1, d2] }
  | _ => none }
def StockUndoWrongFalsely : Prop := stockUndoRow.holds Tryz.pinned (OpenSpec.ofChange stockUndoWrong)

/-- 'merinolaw04.StockViews': WHATEVER THE INPUT: true; the input reads as it did. -/
def stockViewsSpec : ChangeSpec := { name := "stockViews", fn := fun _ => fun
  | [d] => { results := [.lit (.bool true)], args := [d] }
  | _ => none }
def stockViewsRow : OpenClaim := { program := "ytebbgoklldmkiaagreat", sum := "808738623e8fef6c22830cb7a4b42805efe0413078b5f84afa807467031e4767", func := "merino/merinolaw04.StockViews", spec := "stockViews", unfollowed := true, recurses := true, named := ["math/bits.divideError", "math/bits.overflowError"], apart := false }
def StockViewsSaid : Prop := stockViewsRow.holds Tryz.pinned (OpenSpec.ofChange stockViewsSpec)

/-- ITS FALSE NEIGHBOUR: 'it returns false'. Refute it at one input. -/
def stockViewsWrong : ChangeSpec := { name := "stockViews", fn := fun _ => fun
  | [d] => { results := [.lit (.bool false)], args := [d] }
  | _ => none }
def StockViewsWrongFalsely : Prop := stockViewsRow.holds Tryz.pinned (OpenSpec.ofChange stockViewsWrong)

/-- 'merinolaw04.StockReplays': WHATEVER THE INPUT: true; the input reads as it did. -/
def stockReplaysSpec : ChangeSpec := { name := "stockReplays", fn := fun _ => fun
  | [d] => { results := [.lit (.bool true)], args := [d] }
  | _ => none }
def stockReplaysRow : OpenClaim := { program := "ytebbgoklldmkiaagreat", sum := "808738623e8fef6c22830cb7a4b42805efe0413078b5f84afa807467031e4767", func := "merino/merinolaw04.StockReplays", spec := "stockReplays", unfollowed := true, recurses := true, named := ["math/bits.divideError", "math/bits.overflowError"], apart := false }
def StockReplaysSaid : Prop := stockReplaysRow.holds Tryz.pinned (OpenSpec.ofChange stockReplaysSpec)

/-- ITS FALSE NEIGHBOUR: 'it returns false'. Refute it at one input. -/
def stockReplaysWrong : ChangeSpec := { name := "stockReplays", fn := fun _ => fun
  | [d] => { results := [.lit (.bool false)], args := [d] }
  | _ => none }
def StockReplaysWrongFalsely : Prop := stockReplaysRow.holds Tryz.pinned (OpenSpec.ofChange stockReplaysWrong)

/-- 'merinolaw04.StockCopies': WHATEVER THE INPUT: true; the input reads as it did. -/
def stockCopiesSpec : ChangeSpec := { name := "stockCopies", fn := fun _ => fun
  | [d1, d2, d3] => { results := [.lit (.bool true)], args := [d1, d2, d3] }
  | _ => none }
def stockCopiesRow : OpenClaim := { program := "ytebbgoklldmkiaagreat", sum := "808738623e8fef6c22830cb7a4b42805efe0413078b5f84afa807467031e4767", func := "merino/merinolaw04.StockCopies", spec := "stockCopies", unfollowed := true, recurses := true, named := ["math/bits.divideError", "math/bits.overflowError"], apart := false }
def StockCopiesSaid : Prop := stockCopiesRow.holds Tryz.pinned (OpenSpec.ofChange stockCopiesSpec)

/-- ITS FALSE NEIGHBOUR: 'it returns false'. Refute it at one input. -/
def stockCopiesWrong : ChangeSpec := { name := "stockCopies", fn := fun _ => fun
  | [d1, d2, d3] => { results := [.lit (.bool false)], args := [d1, d2, d3] }
  | _ => none }
def StockCopiesWrongFalsely : Prop := stockCopiesRow.holds Tryz.pinned (OpenSpec.ofChange stockCopiesWrong)

/-- 'merinolaw04.StockRefuses': WHATEVER THE INPUT: true; the input reads as it did. -/
def stockRefusesSpec : ChangeSpec := { name := "stockRefuses", fn := fun _ => fun
  | [d1, d2, d3] => { results := [.lit (.bool true)], args := [d1, d2, d3] }
  | _ => none }
def stockRefusesRow : OpenClaim := { program := "ytebbgoklldmkiaagreat", sum := "808738623e8fef6c22830cb7a4b42805efe0413078b5f84afa807467031e4767", func := "merino/merinolaw04.StockRefuses", spec := "stockRefuses", unfollowed := true, recurses := true, named := ["math/bits.divideError", "math/bits.overflowError"], apart := false }
def StockRefusesSaid : Prop := stockRefusesRow.holds Tryz.pinned (OpenSpec.ofChange stockRefusesSpec)

/-- ITS FALSE NEIGHBOUR: 'it returns false'. Refute it at one input. -/
def stockRefusesWrong : ChangeSpec := { name := "stockRefuses", fn := fun _ => fun
  | [d1, d2, d3] => { results := [.lit (.bool false)], args := [d1, d2, d3] }
  | _ => none }
def StockRefusesWrongFalsely : Prop := stockRefusesRow.holds Tryz.pinned (OpenSpec.ofChange stockRefusesWrong)

/-- 'merinolaw04.StockLooks': WHATEVER THE INPUT: true; the input reads as it did. -/
def stockLooksSpec : ChangeSpec := { name := "stockLooks", fn := fun _ => fun
  | [d1, d2, d3] => { results := [.lit (.bool true)], args := [d1, d2, d3] }
  | _ => none }
def stockLooksRow : OpenClaim := { program := "ytebbgoklldmkiaagreat", sum := "808738623e8fef6c22830cb7a4b42805efe0413078b5f84afa807467031e4767", func := "merino/merinolaw04.StockLooks", spec := "stockLooks", unfollowed := true, recurses := true, named := ["math/bits.divideError", "math/bits.overflowError"], apart := false }
def StockLooksSaid : Prop := stockLooksRow.holds Tryz.pinned (OpenSpec.ofChange stockLooksSpec)

/-- ITS FALSE NEIGHBOUR: 'it returns false'. Refute it at one input. -/
def stockLooksWrong : ChangeSpec := { name := "stockLooks", fn := fun _ => fun
  | [d1, d2, d3] => { results := [.lit (.bool false)], args := [d1, d2, d3] }
  | _ => none }
def StockLooksWrongFalsely : Prop := stockLooksRow.holds Tryz.pinned (OpenSpec.ofChange stockLooksWrong)

/-- 'merinolaw04.StockDescent': WHATEVER THE INPUT: true; the input reads as it did. -/
def stockDescentSpec : ChangeSpec := { name := "stockDescent", fn := fun _ => fun
  | [d] => { results := [.lit (.bool true)], args := [d] }
  | _ => none }
def stockDescentRow : OpenClaim := { program := "ytebbgoklldmkiaagreat", sum := "808738623e8fef6c22830cb7a4b42805efe0413078b5f84afa807467031e4767", func := "merino/merinolaw04.StockDescent", spec := "stockDescent", unfollowed := true, recurses := true, named := ["math/bits.divideError", "math/bits.overflowError"], apart := false }
def StockDescentSaid : Prop := stockDescentRow.holds Tryz.pinned (OpenSpec.ofChange stockDescentSpec)

/-- ITS FALSE NEIGHBOUR: 'it returns false'. Refute it at one input. -/
def stockDescentWrong : ChangeSpec := { name := "stockDescent", fn := fun _ => fun
  | [d] => { results := [.lit (.bool false)], args := [d] }
  | _ => none }
def StockDescentWrongFalsely : Prop := stockDescentRow.holds Tryz.pinned (OpenSpec.ofChange stockDescentWrong)

/-- 'merinolaw04.StockVersions': WHATEVER THE INPUT: true; the input reads as it did. -/
def stockVersionsSpec : ChangeSpec := { name := "stockVersions", fn := fun _ => fun
  | [d1, d2, d3] => { results := [.lit (.bool true)], args := [d1, d2, d3] }
  | _ => none }
def stockVersionsRow : OpenClaim := { program := "ytebbgoklldmkiaagreat", sum := "808738623e8fef6c22830cb7a4b42805efe0413078b5f84afa807467031e4767", func := "merino/merinolaw04.StockVersions", spec := "stockVersions", unfollowed := true, recurses := true, named := ["math/bits.divideError", "math/bits.overflowError"], apart := false }
def StockVersionsSaid : Prop := stockVersionsRow.holds Tryz.pinned (OpenSpec.ofChange stockVersionsSpec)

/-- ITS FALSE NEIGHBOUR: 'it returns false'. Refute it at one input. -/
def stockVersionsWrong : ChangeSpec := { name := "stockVersions", fn := fun _ => fun
  | [d1, d2, d3] => { results := [.lit (.bool false)], args := [d1, d2, d3] }
  | _ => none }
def StockVersionsWrongFalsely : Prop := stockVersionsRow.holds Tryz.pinned (OpenSpec.ofChange stockVersionsWrong)

/-- 'merinolaw04.StockNobody': WHATEVER THE INPUT: true; the input reads as it did. -/
def stockNobodySpec : ChangeSpec := { name := "stockNobody", fn := fun _ => fun
  | [d1, d2] => { results := [.lit (.bool true)], args := [d1, d2] }
  | _ => none }
def stockNobodyRow : OpenClaim := { program := "ytebbgoklldmkiaagreat", sum := "808738623e8fef6c22830cb7a4b42805efe0413078b5f84afa807467031e4767", func := "merino/merinolaw04.StockNobody", spec := "stockNobody", unfollowed := true, recurses := true, named := ["math/bits.divideError", "math/bits.overflowError"], apart := false }
def StockNobodySaid : Prop := stockNobodyRow.holds Tryz.pinned (OpenSpec.ofChange stockNobodySpec)

/-- ITS FALSE NEIGHBOUR: 'it returns false'. Refute it at one input. -/
def stockNobodyWrong : ChangeSpec := { name := "stockNobody", fn := fun _ => fun
  | [d1, d2] => { results := [.lit (.bool false)], args := [d1, d2] }
  | _ => none }
def StockNobodyWrongFalsely : Prop := stockNobodyRow.holds Tryz.pinned (OpenSpec.ofChange stockNobodyWrong)

/- THE SECOND FORM. 'bulk': how many values and letters a reading holds, each counted each time it is reached (what is shared counts as often as it is met; a slice's spare places count too). A statement '..UptoSaid' is the law's where the arguments, and the package variables that the reading takes, are together of bulk at most 1048576: NARROWER than '..Said'. Prove '..Said' where nothing that the law and all that it calls make is longer than what came in: it says more and counts as full. Else prove '..UptoSaid'. A law counts once. -/
mutual
def uptoBulk {H : Type} : DataW H → Nat
  | .lit (.string bytes) => bytes.length + 1
  | .lit _ => 1
  | .nil => 1
  | .ptr d => uptoBulk d + 1
  | .slice elems spare => uptoBulkAll elems + uptoBulkAll spare + 1
  | .agg parts => uptoBulkAll parts + 1
  | .iface _ d => uptoBulk d + 1
  | .map entries => uptoBulkEntries entries + 1
  | .held _ => 1
def uptoBulkAll {H : Type} : List (DataW H) → Nat
  | [] => 0
  | d :: r => uptoBulk d + uptoBulkAll r
def uptoBulkEntries {H : Type} : List (Lit × DataW H) → Nat
  | [] => 0
  | x :: r => uptoBulkEntry x + uptoBulkEntries r
def uptoBulkEntry {H : Type} : Lit × DataW H → Nat
  | (.string bytes, d) => bytes.length + uptoBulk d + 1
  | (_, d) => uptoBulk d + 1
 end
def uptoSmall : (H : Type) → List (DataW H) → Bool := fun _ ds => decide (uptoBulkAll ds ≤ 1048576)
def OpenSpec.upto (s : _root_.Go.ChangeSpec) : _root_.Go.OpenSpec := { _root_.Go.OpenSpec.ofChange s with cond := some uptoSmall }

/-- 'merinolaw04.StockStates', WHERE WHAT IT READS IS OF BULK AT MOST 1048576: true; the input reads as it did. -/
def stockStatesUptoRow : OpenClaim := { program := "ytebbgoklldmkiaagreat", sum := "808738623e8fef6c22830cb7a4b42805efe0413078b5f84afa807467031e4767", func := "merino/merinolaw04.StockStates", spec := "stockStates", unfollowed := true, recurses := true, named := ["math/bits.divideError", "math/bits.overflowError"], apart := false, narrowed := true }
def StockStatesUptoSaid : Prop := stockStatesUptoRow.holds Tryz.pinned (OpenSpec.upto stockStatesSpec)

/-- 'merinolaw04.StockMass', WHERE WHAT IT READS IS OF BULK AT MOST 1048576: true; the input reads as it did. -/
def stockMassUptoRow : OpenClaim := { program := "ytebbgoklldmkiaagreat", sum := "808738623e8fef6c22830cb7a4b42805efe0413078b5f84afa807467031e4767", func := "merino/merinolaw04.StockMass", spec := "stockMass", unfollowed := true, recurses := true, named := ["math/bits.divideError", "math/bits.overflowError"], apart := false, narrowed := true }
def StockMassUptoSaid : Prop := stockMassUptoRow.holds Tryz.pinned (OpenSpec.upto stockMassSpec)

/-- 'merinolaw04.StockPlays', WHERE WHAT IT READS IS OF BULK AT MOST 1048576: true; the input reads as it did. -/
def stockPlaysUptoRow : OpenClaim := { program := "ytebbgoklldmkiaagreat", sum := "808738623e8fef6c22830cb7a4b42805efe0413078b5f84afa807467031e4767", func := "merino/merinolaw04.StockPlays", spec := "stockPlays", unfollowed := true, recurses := true, named := ["math/bits.divideError", "math/bits.overflowError"], apart := false, narrowed := true }
def StockPlaysUptoSaid : Prop := stockPlaysUptoRow.holds Tryz.pinned (OpenSpec.upto stockPlaysSpec)

/-- 'merinolaw04.StockUndo', WHERE WHAT IT READS IS OF BULK AT MOST 1048576: true; the input reads as it did. -/
def stockUndoUptoRow : OpenClaim := { program := "ytebbgoklldmkiaagreat", sum := "808738623e8fef6c22830cb7a4b42805efe0413078b5f84afa807467031e4767", func := "merino/merinolaw04.StockUndo", spec := "stockUndo", unfollowed := true, recurses := true, named := ["math/bits.divideError", "math/bits.overflowError"], apart := false, narrowed := true }
def StockUndoUptoSaid : Prop := stockUndoUptoRow.holds Tryz.pinned (OpenSpec.upto stockUndoSpec)

/-- 'merinolaw04.StockViews', WHERE WHAT IT READS IS OF BULK AT MOST 1048576: true; the input reads as it did. -/
def stockViewsUptoRow : OpenClaim := { program := "ytebbgoklldmkiaagreat", sum := "808738623e8fef6c22830cb7a4b42805efe0413078b5f84afa807467031e4767", func := "merino/merinolaw04.StockViews", spec := "stockViews", unfollowed := true, recurses := true, named := ["math/bits.divideError", "math/bits.overflowError"], apart := false, narrowed := true }
def StockViewsUptoSaid : Prop := stockViewsUptoRow.holds Tryz.pinned (OpenSpec.upto stockViewsSpec)

/-- 'merinolaw04.StockReplays', WHERE WHAT IT READS IS OF BULK AT MOST 1048576: true; the input reads as it did. -/
def stockReplaysUptoRow : OpenClaim := { program := "ytebbgoklldmkiaagreat", sum := "808738623e8fef6c22830cb7a4b42805efe0413078b5f84afa807467031e4767", func := "merino/merinolaw04.StockReplays", spec := "stockReplays", unfollowed := true, recurses := true, named := ["math/bits.divideError", "math/bits.overflowError"], apart := false, narrowed := true }
def StockReplaysUptoSaid : Prop := stockReplaysUptoRow.holds Tryz.pinned (OpenSpec.upto stockReplaysSpec)

/-- 'merinolaw04.StockCopies', WHERE WHAT IT READS IS OF BULK AT MOST 1048576: true; the input reads as it did. -/
def stockCopiesUptoRow : OpenClaim := { program := "ytebbgoklldmkiaagreat", sum := "808738623e8fef6c22830cb7a4b42805efe0413078b5f84afa807467031e4767", func := "merino/merinolaw04.StockCopies", spec := "stockCopies", unfollowed := true, recurses := true, named := ["math/bits.divideError", "math/bits.overflowError"], apart := false, narrowed := true }
def StockCopiesUptoSaid : Prop := stockCopiesUptoRow.holds Tryz.pinned (OpenSpec.upto stockCopiesSpec)

/-- 'merinolaw04.StockRefuses', WHERE WHAT IT READS IS OF BULK AT MOST 1048576: true; the input reads as it did. -/
def stockRefusesUptoRow : OpenClaim := { program := "ytebbgoklldmkiaagreat", sum := "808738623e8fef6c22830cb7a4b42805efe0413078b5f84afa807467031e4767", func := "merino/merinolaw04.StockRefuses", spec := "stockRefuses", unfollowed := true, recurses := true, named := ["math/bits.divideError", "math/bits.overflowError"], apart := false, narrowed := true }
def StockRefusesUptoSaid : Prop := stockRefusesUptoRow.holds Tryz.pinned (OpenSpec.upto stockRefusesSpec)

/-- 'merinolaw04.StockLooks', WHERE WHAT IT READS IS OF BULK AT MOST 1048576: true; the input reads as it did. -/
def stockLooksUptoRow : OpenClaim := { program := "ytebbgoklldmkiaagreat", sum := "808738623e8fef6c22830cb7a4b42805efe0413078b5f84afa807467031e4767", func := "merino/merinolaw04.StockLooks", spec := "stockLooks", unfollowed := true, recurses := true, named := ["math/bits.divideError", "math/bits.overflowError"], apart := false, narrowed := true }
def StockLooksUptoSaid : Prop := stockLooksUptoRow.holds Tryz.pinned (OpenSpec.upto stockLooksSpec)

/-- 'merinolaw04.StockDescent', WHERE WHAT IT READS IS OF BULK AT MOST 1048576: true; the input reads as it did. -/
def stockDescentUptoRow : OpenClaim := { program := "ytebbgoklldmkiaagreat", sum := "808738623e8fef6c22830cb7a4b42805efe0413078b5f84afa807467031e4767", func := "merino/merinolaw04.StockDescent", spec := "stockDescent", unfollowed := true, recurses := true, named := ["math/bits.divideError", "math/bits.overflowError"], apart := false, narrowed := true }
def StockDescentUptoSaid : Prop := stockDescentUptoRow.holds Tryz.pinned (OpenSpec.upto stockDescentSpec)

/-- 'merinolaw04.StockVersions', WHERE WHAT IT READS IS OF BULK AT MOST 1048576: true; the input reads as it did. -/
def stockVersionsUptoRow : OpenClaim := { program := "ytebbgoklldmkiaagreat", sum := "808738623e8fef6c22830cb7a4b42805efe0413078b5f84afa807467031e4767", func := "merino/merinolaw04.StockVersions", spec := "stockVersions", unfollowed := true, recurses := true, named := ["math/bits.divideError", "math/bits.overflowError"], apart := false, narrowed := true }
def StockVersionsUptoSaid : Prop := stockVersionsUptoRow.holds Tryz.pinned (OpenSpec.upto stockVersionsSpec)

/-- 'merinolaw04.StockNobody', WHERE WHAT IT READS IS OF BULK AT MOST 1048576: true; the input reads as it did. -/
def stockNobodyUptoRow : OpenClaim := { program := "ytebbgoklldmkiaagreat", sum := "808738623e8fef6c22830cb7a4b42805efe0413078b5f84afa807467031e4767", func := "merino/merinolaw04.StockNobody", spec := "stockNobody", unfollowed := true, recurses := true, named := ["math/bits.divideError", "math/bits.overflowError"], apart := false, narrowed := true }
def StockNobodyUptoSaid : Prop := stockNobodyUptoRow.holds Tryz.pinned (OpenSpec.upto stockNobodySpec)

end Rows
end Go.Proofs.YtebbgoklldmkiaaGreat
