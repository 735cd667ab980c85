/-
  No cell of these rows narrows 'for every input' (looked for: loops, veiled, ifaces, maps, wideKeys, modest, calm, conditions, laid).
  DERIVED. THE GIVEN ROWS OF THIS SEAT. 18 by the template 'for every input the law returns true; each argument reads behind the call as it read before'; 0 by the template 'total and deterministic' (their statements: YtlndpljhcempoaaTotals.lean).
  GIVEN WITH THE SEED: the statements are not yours to turn. If you find one false, say at which input.
  Laid BY PROGRAM, IN A SANDBOX (cutbox-rows.mjs): the forced cells as the released guide's own fill.sh prints them over the translation 3a99a62b44a0d326… (all of the seat's roots in one cut). By AI agents, Wed Nov 11 2026. No macro, syntax, notation, axiom, sorry.
-/
import Derived.Test.YtlndpljhcempoaaChecked
import GoSem.Claim
import GoSem.ClaimJoined
import GoSem.ClaimMapViews
import Derived.JoinedTies
import Derived.KernelRfl
namespace Go.Proofs.Ytlndpljhcempoaa
/- THE CELL 'sum', in the pinned program and in every row, IS THE sha256 OF THE DUMP (.gsa) THAT YtlndpljhcempoaaProg.lean LOADS. Nothing in Lean hashes anything: it is a label: what it is worth is what the hold of that sum in a sandbox is worth. -/
noncomputable def Try.pinned : Pinned := { name := "ytlndpljhcempoaa", sum := "3a99a62b44a0d326fa3a5e72108f3d78bd598ad0e16a6495a763a11a47d586f6", checked := Try.checked }
namespace Rows
def none {H : Type} : Left H := { results := [], args := [] }

/-- 'wainscotlaw03.MemAdds': WHATEVER THE INPUT: true; the input reads as it did. -/
def memAddsSpec : ChangeSpec := { name := "memAdds", fn := fun _ => fun
  | [d1, d2] => { results := [.lit (.bool true)], args := [d1, d2] }
  | _ => none }
def memAddsRow : OpenClaim := { program := "ytlndpljhcempoaa", sum := "3a99a62b44a0d326fa3a5e72108f3d78bd598ad0e16a6495a763a11a47d586f6", func := "wainscot/wainscotlaw03.MemAdds", spec := "memAdds", unfollowed := true, recurses := true, plainKeys := false, apart := false }
def MemAddsSaid : Prop := memAddsRow.holds Try.pinned (OpenSpec.ofChange memAddsSpec)

/-- ITS FALSE NEIGHBOUR: 'it returns false'. Refute it at one input. -/
def memAddsWrong : ChangeSpec := { name := "memAdds", fn := fun _ => fun
  | [d1, d2] => { results := [.lit (.bool false)], args := [d1, d2] }
  | _ => none }
def MemAddsWrongFalsely : Prop := memAddsRow.holds Try.pinned (OpenSpec.ofChange memAddsWrong)

/-- 'wainscotlaw03.MemOne': WHATEVER THE INPUT: true; the input reads as it did. -/
def memOneSpec : ChangeSpec := { name := "memOne", fn := fun _ => fun
  | [d1, d2, d3] => { results := [.lit (.bool true)], args := [d1, d2, d3] }
  | _ => none }
def memOneRow : OpenClaim := { program := "ytlndpljhcempoaa", sum := "3a99a62b44a0d326fa3a5e72108f3d78bd598ad0e16a6495a763a11a47d586f6", func := "wainscot/wainscotlaw03.MemOne", spec := "memOne", unfollowed := true, recurses := true, plainKeys := false, apart := false }
def MemOneSaid : Prop := memOneRow.holds Try.pinned (OpenSpec.ofChange memOneSpec)

/-- ITS FALSE NEIGHBOUR: 'it returns false'. Refute it at one input. -/
def memOneWrong : ChangeSpec := { name := "memOne", fn := fun _ => fun
  | [d1, d2, d3] => { results := [.lit (.bool false)], args := [d1, d2, d3] }
  | _ => none }
def MemOneWrongFalsely : Prop := memOneRow.holds Try.pinned (OpenSpec.ofChange memOneWrong)

/-- 'wainscotlaw03.MemOthers': WHATEVER THE INPUT: true; the input reads as it did. -/
def memOthersSpec : ChangeSpec := { name := "memOthers", fn := fun _ => fun
  | [d1, d2] => { results := [.lit (.bool true)], args := [d1, d2] }
  | _ => none }
def memOthersRow : OpenClaim := { program := "ytlndpljhcempoaa", sum := "3a99a62b44a0d326fa3a5e72108f3d78bd598ad0e16a6495a763a11a47d586f6", func := "wainscot/wainscotlaw03.MemOthers", spec := "memOthers", unfollowed := true, recurses := true, plainKeys := false, apart := false }
def MemOthersSaid : Prop := memOthersRow.holds Try.pinned (OpenSpec.ofChange memOthersSpec)

/-- ITS FALSE NEIGHBOUR: 'it returns false'. Refute it at one input. -/
def memOthersWrong : ChangeSpec := { name := "memOthers", fn := fun _ => fun
  | [d1, d2] => { results := [.lit (.bool false)], args := [d1, d2] }
  | _ => none }
def MemOthersWrongFalsely : Prop := memOthersRow.holds Try.pinned (OpenSpec.ofChange memOthersWrong)

/-- 'wainscotlaw03.MemPlays': WHATEVER THE INPUT: true; the input reads as it did. -/
def memPlaysSpec : ChangeSpec := { name := "memPlays", fn := fun _ => fun
  | [d1, d2] => { results := [.lit (.bool true)], args := [d1, d2] }
  | _ => none }
def memPlaysRow : OpenClaim := { program := "ytlndpljhcempoaa", sum := "3a99a62b44a0d326fa3a5e72108f3d78bd598ad0e16a6495a763a11a47d586f6", func := "wainscot/wainscotlaw03.MemPlays", spec := "memPlays", unfollowed := true, recurses := true, plainKeys := false, apart := false }
def MemPlaysSaid : Prop := memPlaysRow.holds Try.pinned (OpenSpec.ofChange memPlaysSpec)

/-- ITS FALSE NEIGHBOUR: 'it returns false'. Refute it at one input. -/
def memPlaysWrong : ChangeSpec := { name := "memPlays", fn := fun _ => fun
  | [d1, d2] => { results := [.lit (.bool false)], args := [d1, d2] }
  | _ => none }
def MemPlaysWrongFalsely : Prop := memPlaysRow.holds Try.pinned (OpenSpec.ofChange memPlaysWrong)

/-- 'wainscotlaw12.ChargeBack': WHATEVER THE INPUT: true; the input reads as it did. -/
def chargeBackSpec : ChangeSpec := { name := "chargeBack", fn := fun _ => fun
  | [d1, d2, d3] => { results := [.lit (.bool true)], args := [d1, d2, d3] }
  | _ => none }
def chargeBackRow : OpenClaim := { program := "ytlndpljhcempoaa", sum := "3a99a62b44a0d326fa3a5e72108f3d78bd598ad0e16a6495a763a11a47d586f6", func := "wainscot/wainscotlaw12.ChargeBack", spec := "chargeBack", unfollowed := true, recurses := true, plainKeys := false, apart := false }
def ChargeBackSaid : Prop := chargeBackRow.holds Try.pinned (OpenSpec.ofChange chargeBackSpec)

/-- ITS FALSE NEIGHBOUR: 'it returns false'. Refute it at one input. -/
def chargeBackWrong : ChangeSpec := { name := "chargeBack", fn := fun _ => fun
  | [d1, d2, d3] => { results := [.lit (.bool false)], args := [d1, d2, d3] }
  | _ => none }
def ChargeBackWrongFalsely : Prop := chargeBackRow.holds Try.pinned (OpenSpec.ofChange chargeBackWrong)

/-- 'wainscotlaw03.MemNames': WHATEVER THE INPUT: true; the input reads as it did. -/
def memNamesSpec : ChangeSpec := { name := "memNames", fn := fun _ => fun
  | [] => { results := [.lit (.bool true)], args := [] }
  | _ => none }
def memNamesRow : OpenClaim := { program := "ytlndpljhcempoaa", sum := "3a99a62b44a0d326fa3a5e72108f3d78bd598ad0e16a6495a763a11a47d586f6", func := "wainscot/wainscotlaw03.MemNames", spec := "memNames", unfollowed := true, recurses := true, plainKeys := false, apart := false }
def MemNamesSaid : Prop := memNamesRow.holds Try.pinned (OpenSpec.ofChange memNamesSpec)

/-- ITS FALSE NEIGHBOUR: 'it returns false'. Refute it at one input. -/
def memNamesWrong : ChangeSpec := { name := "memNames", fn := fun _ => fun
  | [] => { results := [.lit (.bool false)], args := [] }
  | _ => none }
def MemNamesWrongFalsely : Prop := memNamesRow.holds Try.pinned (OpenSpec.ofChange memNamesWrong)

/-- 'wainscotlaw12.ChargeKnown': WHATEVER THE INPUT: true; the input reads as it did. -/
def chargeKnownSpec : ChangeSpec := { name := "chargeKnown", fn := fun _ => fun
  | [] => { results := [.lit (.bool true)], args := [] }
  | _ => none }
def chargeKnownRow : OpenClaim := { program := "ytlndpljhcempoaa", sum := "3a99a62b44a0d326fa3a5e72108f3d78bd598ad0e16a6495a763a11a47d586f6", func := "wainscot/wainscotlaw12.ChargeKnown", spec := "chargeKnown", unfollowed := true, recurses := true, plainKeys := false, apart := false }
def ChargeKnownSaid : Prop := chargeKnownRow.holds Try.pinned (OpenSpec.ofChange chargeKnownSpec)

/-- ITS FALSE NEIGHBOUR: 'it returns false'. Refute it at one input. -/
def chargeKnownWrong : ChangeSpec := { name := "chargeKnown", fn := fun _ => fun
  | [] => { results := [.lit (.bool false)], args := [] }
  | _ => none }
def ChargeKnownWrongFalsely : Prop := chargeKnownRow.holds Try.pinned (OpenSpec.ofChange chargeKnownWrong)

/-- 'wainscotlaw13.StockPlays': WHATEVER THE INPUT: true; the input reads as it did. -/
def stockPlaysSpec : ChangeSpec := { name := "stockPlays", fn := fun _ => fun
  | [d1, d2] => { results := [.lit (.bool true)], args := [d1, d2] }
  | _ => none }
def stockPlaysRow : OpenClaim := { program := "ytlndpljhcempoaa", sum := "3a99a62b44a0d326fa3a5e72108f3d78bd598ad0e16a6495a763a11a47d586f6", func := "wainscot/wainscotlaw13.StockPlays", spec := "stockPlays", plainKeys := false, apart := false }
def StockPlaysSaid : Prop := stockPlaysRow.holds Try.pinned (OpenSpec.ofChange stockPlaysSpec)

/-- ITS FALSE NEIGHBOUR: 'it returns false'. Refute it at one input. -/
def stockPlaysWrong : ChangeSpec := { name := "stockPlays", fn := fun _ => fun
  | [d1, d2] => { results := [.lit (.bool false)], args := [d1, d2] }
  | _ => none }
def StockPlaysWrongFalsely : Prop := stockPlaysRow.holds Try.pinned (OpenSpec.ofChange stockPlaysWrong)

/-- 'wainscotlaw13.StockSums': WHATEVER THE INPUT: true; the input reads as it did. -/
def stockSumsSpec : ChangeSpec := { name := "stockSums", fn := fun _ => fun
  | [d] => { results := [.lit (.bool true)], args := [d] }
  | _ => none }
def stockSumsRow : OpenClaim := { program := "ytlndpljhcempoaa", sum := "3a99a62b44a0d326fa3a5e72108f3d78bd598ad0e16a6495a763a11a47d586f6", func := "wainscot/wainscotlaw13.StockSums", spec := "stockSums", plainKeys := false, apart := false }
def StockSumsSaid : Prop := stockSumsRow.holds Try.pinned (OpenSpec.ofChange stockSumsSpec)

/-- ITS FALSE NEIGHBOUR: 'it returns false'. Refute it at one input. -/
def stockSumsWrong : ChangeSpec := { name := "stockSums", fn := fun _ => fun
  | [d] => { results := [.lit (.bool false)], args := [d] }
  | _ => none }
def StockSumsWrongFalsely : Prop := stockSumsRow.holds Try.pinned (OpenSpec.ofChange stockSumsWrong)

/-- 'wainscotlaw13.StockTakes': WHATEVER THE INPUT: true; the input reads as it did. -/
def stockTakesSpec : ChangeSpec := { name := "stockTakes", fn := fun _ => fun
  | [d1, d2, d3] => { results := [.lit (.bool true)], args := [d1, d2, d3] }
  | _ => none }
def stockTakesRow : OpenClaim := { program := "ytlndpljhcempoaa", sum := "3a99a62b44a0d326fa3a5e72108f3d78bd598ad0e16a6495a763a11a47d586f6", func := "wainscot/wainscotlaw13.StockTakes", spec := "stockTakes", plainKeys := false, apart := false }
def StockTakesSaid : Prop := stockTakesRow.holds Try.pinned (OpenSpec.ofChange stockTakesSpec)

/-- ITS FALSE NEIGHBOUR: 'it returns false'. Refute it at one input. -/
def stockTakesWrong : ChangeSpec := { name := "stockTakes", fn := fun _ => fun
  | [d1, d2, d3] => { results := [.lit (.bool false)], args := [d1, d2, d3] }
  | _ => none }
def StockTakesWrongFalsely : Prop := stockTakesRow.holds Try.pinned (OpenSpec.ofChange stockTakesWrong)

/-- 'wainscotlaw13.StockKnown': WHATEVER THE INPUT: true; the input reads as it did. -/
def stockKnownSpec : ChangeSpec := { name := "stockKnown", fn := fun _ => fun
  | [] => { results := [.lit (.bool true)], args := [] }
  | _ => none }
def stockKnownRow : OpenClaim := { program := "ytlndpljhcempoaa", sum := "3a99a62b44a0d326fa3a5e72108f3d78bd598ad0e16a6495a763a11a47d586f6", func := "wainscot/wainscotlaw13.StockKnown", spec := "stockKnown", plainKeys := false, apart := false }
def StockKnownSaid : Prop := stockKnownRow.holds Try.pinned (OpenSpec.ofChange stockKnownSpec)

/-- ITS FALSE NEIGHBOUR: 'it returns false'. Refute it at one input. -/
def stockKnownWrong : ChangeSpec := { name := "stockKnown", fn := fun _ => fun
  | [] => { results := [.lit (.bool false)], args := [] }
  | _ => none }
def StockKnownWrongFalsely : Prop := stockKnownRow.holds Try.pinned (OpenSpec.ofChange stockKnownWrong)

/-- 'wainscotlaw14.OwnerPlays': WHATEVER THE INPUT: true; the input reads as it did. -/
def ownerPlaysSpec : ChangeSpec := { name := "ownerPlays", fn := fun _ => fun
  | [d1, d2, d3] => { results := [.lit (.bool true)], args := [d1, d2, d3] }
  | _ => none }
def ownerPlaysRow : OpenClaim := { program := "ytlndpljhcempoaa", sum := "3a99a62b44a0d326fa3a5e72108f3d78bd598ad0e16a6495a763a11a47d586f6", func := "wainscot/wainscotlaw14.OwnerPlays", spec := "ownerPlays", plainKeys := false, apart := false }
def OwnerPlaysSaid : Prop := ownerPlaysRow.holds Try.pinned (OpenSpec.ofChange ownerPlaysSpec)

/-- ITS FALSE NEIGHBOUR: 'it returns false'. Refute it at one input. -/
def ownerPlaysWrong : ChangeSpec := { name := "ownerPlays", fn := fun _ => fun
  | [d1, d2, d3] => { results := [.lit (.bool false)], args := [d1, d2, d3] }
  | _ => none }
def OwnerPlaysWrongFalsely : Prop := ownerPlaysRow.holds Try.pinned (OpenSpec.ofChange ownerPlaysWrong)

/-- 'wainscotlaw14.OwnerOnce': WHATEVER THE INPUT: true; the input reads as it did. -/
def ownerOnceSpec : ChangeSpec := { name := "ownerOnce", fn := fun _ => fun
  | [d] => { results := [.lit (.bool true)], args := [d] }
  | _ => none }
def ownerOnceRow : OpenClaim := { program := "ytlndpljhcempoaa", sum := "3a99a62b44a0d326fa3a5e72108f3d78bd598ad0e16a6495a763a11a47d586f6", func := "wainscot/wainscotlaw14.OwnerOnce", spec := "ownerOnce", plainKeys := false, apart := false }
def OwnerOnceSaid : Prop := ownerOnceRow.holds Try.pinned (OpenSpec.ofChange ownerOnceSpec)

/-- ITS FALSE NEIGHBOUR: 'it returns false'. Refute it at one input. -/
def ownerOnceWrong : ChangeSpec := { name := "ownerOnce", fn := fun _ => fun
  | [d] => { results := [.lit (.bool false)], args := [d] }
  | _ => none }
def OwnerOnceWrongFalsely : Prop := ownerOnceRow.holds Try.pinned (OpenSpec.ofChange ownerOnceWrong)

/-- 'wainscotlaw14.OwnerMoves': WHATEVER THE INPUT: true; the input reads as it did. -/
def ownerMovesSpec : ChangeSpec := { name := "ownerMoves", fn := fun _ => fun
  | [d1, d2, d3] => { results := [.lit (.bool true)], args := [d1, d2, d3] }
  | _ => none }
def ownerMovesRow : OpenClaim := { program := "ytlndpljhcempoaa", sum := "3a99a62b44a0d326fa3a5e72108f3d78bd598ad0e16a6495a763a11a47d586f6", func := "wainscot/wainscotlaw14.OwnerMoves", spec := "ownerMoves", plainKeys := false, apart := false }
def OwnerMovesSaid : Prop := ownerMovesRow.holds Try.pinned (OpenSpec.ofChange ownerMovesSpec)

/-- ITS FALSE NEIGHBOUR: 'it returns false'. Refute it at one input. -/
def ownerMovesWrong : ChangeSpec := { name := "ownerMoves", fn := fun _ => fun
  | [d1, d2, d3] => { results := [.lit (.bool false)], args := [d1, d2, d3] }
  | _ => none }
def OwnerMovesWrongFalsely : Prop := ownerMovesRow.holds Try.pinned (OpenSpec.ofChange ownerMovesWrong)

/-- 'wainscotlaw14.OwnerKnown': WHATEVER THE INPUT: true; the input reads as it did. -/
def ownerKnownSpec : ChangeSpec := { name := "ownerKnown", fn := fun _ => fun
  | [] => { results := [.lit (.bool true)], args := [] }
  | _ => none }
def ownerKnownRow : OpenClaim := { program := "ytlndpljhcempoaa", sum := "3a99a62b44a0d326fa3a5e72108f3d78bd598ad0e16a6495a763a11a47d586f6", func := "wainscot/wainscotlaw14.OwnerKnown", spec := "ownerKnown", plainKeys := false, apart := false }
def OwnerKnownSaid : Prop := ownerKnownRow.holds Try.pinned (OpenSpec.ofChange ownerKnownSpec)

/-- ITS FALSE NEIGHBOUR: 'it returns false'. Refute it at one input. -/
def ownerKnownWrong : ChangeSpec := { name := "ownerKnown", fn := fun _ => fun
  | [] => { results := [.lit (.bool false)], args := [] }
  | _ => none }
def OwnerKnownWrongFalsely : Prop := ownerKnownRow.holds Try.pinned (OpenSpec.ofChange ownerKnownWrong)

/-- 'wainscotlaw12.ChargeSums': WHATEVER THE INPUT: true; the input reads as it did. -/
def chargeSumsSpec : ChangeSpec := { name := "chargeSums", fn := fun _ => fun
  | [d] => { results := [.lit (.bool true)], args := [d] }
  | _ => none }
def chargeSumsRow : OpenClaim := { program := "ytlndpljhcempoaa", sum := "3a99a62b44a0d326fa3a5e72108f3d78bd598ad0e16a6495a763a11a47d586f6", func := "wainscot/wainscotlaw12.ChargeSums", spec := "chargeSums", unfollowed := true, recurses := true, plainKeys := false, apart := false }
def ChargeSumsSaid : Prop := chargeSumsRow.holds Try.pinned (OpenSpec.ofChange chargeSumsSpec)

/-- ITS FALSE NEIGHBOUR: 'it returns false'. Refute it at one input. -/
def chargeSumsWrong : ChangeSpec := { name := "chargeSums", fn := fun _ => fun
  | [d] => { results := [.lit (.bool false)], args := [d] }
  | _ => none }
def ChargeSumsWrongFalsely : Prop := chargeSumsRow.holds Try.pinned (OpenSpec.ofChange chargeSumsWrong)

/-- 'wainscotlaw12.ChargePlays': WHATEVER THE INPUT: true; the input reads as it did. -/
def chargePlaysSpec : ChangeSpec := { name := "chargePlays", fn := fun _ => fun
  | [d] => { results := [.lit (.bool true)], args := [d] }
  | _ => none }
def chargePlaysRow : OpenClaim := { program := "ytlndpljhcempoaa", sum := "3a99a62b44a0d326fa3a5e72108f3d78bd598ad0e16a6495a763a11a47d586f6", func := "wainscot/wainscotlaw12.ChargePlays", spec := "chargePlays", unfollowed := true, recurses := true, plainKeys := false, apart := false }
def ChargePlaysSaid : Prop := chargePlaysRow.holds Try.pinned (OpenSpec.ofChange chargePlaysSpec)

/-- ITS FALSE NEIGHBOUR: 'it returns false'. Refute it at one input. -/
def chargePlaysWrong : ChangeSpec := { name := "chargePlays", fn := fun _ => fun
  | [d] => { results := [.lit (.bool false)], args := [d] }
  | _ => none }
def ChargePlaysWrongFalsely : Prop := chargePlaysRow.holds Try.pinned (OpenSpec.ofChange chargePlaysWrong)

/-- 'wainscotlaw12.ChargeBounds': WHATEVER THE INPUT: true; the input reads as it did. -/
def chargeBoundsSpec : ChangeSpec := { name := "chargeBounds", fn := fun _ => fun
  | [d] => { results := [.lit (.bool true)], args := [d] }
  | _ => none }
def chargeBoundsRow : OpenClaim := { program := "ytlndpljhcempoaa", sum := "3a99a62b44a0d326fa3a5e72108f3d78bd598ad0e16a6495a763a11a47d586f6", func := "wainscot/wainscotlaw12.ChargeBounds", spec := "chargeBounds", unfollowed := true, recurses := true, plainKeys := false, apart := false }
def ChargeBoundsSaid : Prop := chargeBoundsRow.holds Try.pinned (OpenSpec.ofChange chargeBoundsSpec)

/-- ITS FALSE NEIGHBOUR: 'it returns false'. Refute it at one input. -/
def chargeBoundsWrong : ChangeSpec := { name := "chargeBounds", fn := fun _ => fun
  | [d] => { results := [.lit (.bool false)], args := [d] }
  | _ => none }
def ChargeBoundsWrongFalsely : Prop := chargeBoundsRow.holds Try.pinned (OpenSpec.ofChange chargeBoundsWrong)

/- THE SECOND FORM. 'bulk': how many values and letters a reading holds, each counted each time it is reached (what is shared counts as often as it is met; a slice's spare places count too). A statement '..UptoSaid' is the law's where the arguments, and the package variables that the reading takes, are together of bulk at most 1048576: NARROWER than '..Said'. Prove '..Said' where nothing that the law and all that it calls make is longer than what came in: it says more and counts as full. Else prove '..UptoSaid'. A law counts once. -/
mutual
def uptoBulk {H : Type} : DataW H → Nat
  | .lit (.string bytes) => bytes.length + 1
  | .lit _ => 1
  | .nil => 1
  | .ptr d => uptoBulk d + 1
  | .slice elems spare => uptoBulkAll elems + uptoBulkAll spare + 1
  | .agg parts => uptoBulkAll parts + 1
  | .iface _ d => uptoBulk d + 1
  | .map entries => uptoBulkEntries entries + 1
  | .held _ => 1
def uptoBulkAll {H : Type} : List (DataW H) → Nat
  | [] => 0
  | d :: r => uptoBulk d + uptoBulkAll r
def uptoBulkEntries {H : Type} : List (Lit × DataW H) → Nat
  | [] => 0
  | x :: r => uptoBulkEntry x + uptoBulkEntries r
def uptoBulkEntry {H : Type} : Lit × DataW H → Nat
  | (.string bytes, d) => bytes.length + uptoBulk d + 1
  | (_, d) => uptoBulk d + 1
 end
def uptoSmall : (H : Type) → List (DataW H) → Bool := fun _ ds => decide (uptoBulkAll ds ≤ 1048576)
def OpenSpec.upto (s : _root_.Go.ChangeSpec) : _root_.Go.OpenSpec := { _root_.Go.OpenSpec.ofChange s with cond := some uptoSmall }

/-- 'wainscotlaw03.MemAdds', WHERE WHAT IT READS IS OF BULK AT MOST 1048576: true; the input reads as it did. -/
def memAddsUptoRow : OpenClaim := { program := "ytlndpljhcempoaa", sum := "3a99a62b44a0d326fa3a5e72108f3d78bd598ad0e16a6495a763a11a47d586f6", func := "wainscot/wainscotlaw03.MemAdds", spec := "memAdds", unfollowed := true, recurses := true, plainKeys := false, apart := false, narrowed := true }
def MemAddsUptoSaid : Prop := memAddsUptoRow.holds Try.pinned (OpenSpec.upto memAddsSpec)

/-- 'wainscotlaw03.MemOne', WHERE WHAT IT READS IS OF BULK AT MOST 1048576: true; the input reads as it did. -/
def memOneUptoRow : OpenClaim := { program := "ytlndpljhcempoaa", sum := "3a99a62b44a0d326fa3a5e72108f3d78bd598ad0e16a6495a763a11a47d586f6", func := "wainscot/wainscotlaw03.MemOne", spec := "memOne", unfollowed := true, recurses := true, plainKeys := false, apart := false, narrowed := true }
def MemOneUptoSaid : Prop := memOneUptoRow.holds Try.pinned (OpenSpec.upto memOneSpec)

/-- 'wainscotlaw03.MemOthers', WHERE WHAT IT READS IS OF BULK AT MOST 1048576: true; the input reads as it did. -/
def memOthersUptoRow : OpenClaim := { program := "ytlndpljhcempoaa", sum := "3a99a62b44a0d326fa3a5e72108f3d78bd598ad0e16a6495a763a11a47d586f6", func := "wainscot/wainscotlaw03.MemOthers", spec := "memOthers", unfollowed := true, recurses := true, plainKeys := false, apart := false, narrowed := true }
def MemOthersUptoSaid : Prop := memOthersUptoRow.holds Try.pinned (OpenSpec.upto memOthersSpec)

/-- 'wainscotlaw03.MemPlays', WHERE WHAT IT READS IS OF BULK AT MOST 1048576: true; the input reads as it did. -/
def memPlaysUptoRow : OpenClaim := { program := "ytlndpljhcempoaa", sum := "3a99a62b44a0d326fa3a5e72108f3d78bd598ad0e16a6495a763a11a47d586f6", func := "wainscot/wainscotlaw03.MemPlays", spec := "memPlays", unfollowed := true, recurses := true, plainKeys := false, apart := false, narrowed := true }
def MemPlaysUptoSaid : Prop := memPlaysUptoRow.holds Try.pinned (OpenSpec.upto memPlaysSpec)

/-- 'wainscotlaw12.ChargeBack', WHERE WHAT IT READS IS OF BULK AT MOST 1048576: true; the input reads as it did. -/
def chargeBackUptoRow : OpenClaim := { program := "ytlndpljhcempoaa", sum := "3a99a62b44a0d326fa3a5e72108f3d78bd598ad0e16a6495a763a11a47d586f6", func := "wainscot/wainscotlaw12.ChargeBack", spec := "chargeBack", unfollowed := true, recurses := true, plainKeys := false, apart := false, narrowed := true }
def ChargeBackUptoSaid : Prop := chargeBackUptoRow.holds Try.pinned (OpenSpec.upto chargeBackSpec)

/-- 'wainscotlaw03.MemNames', WHERE WHAT IT READS IS OF BULK AT MOST 1048576: true; the input reads as it did. -/
def memNamesUptoRow : OpenClaim := { program := "ytlndpljhcempoaa", sum := "3a99a62b44a0d326fa3a5e72108f3d78bd598ad0e16a6495a763a11a47d586f6", func := "wainscot/wainscotlaw03.MemNames", spec := "memNames", unfollowed := true, recurses := true, plainKeys := false, apart := false, narrowed := true }
def MemNamesUptoSaid : Prop := memNamesUptoRow.holds Try.pinned (OpenSpec.upto memNamesSpec)

/-- 'wainscotlaw12.ChargeKnown', WHERE WHAT IT READS IS OF BULK AT MOST 1048576: true; the input reads as it did. -/
def chargeKnownUptoRow : OpenClaim := { program := "ytlndpljhcempoaa", sum := "3a99a62b44a0d326fa3a5e72108f3d78bd598ad0e16a6495a763a11a47d586f6", func := "wainscot/wainscotlaw12.ChargeKnown", spec := "chargeKnown", unfollowed := true, recurses := true, plainKeys := false, apart := false, narrowed := true }
def ChargeKnownUptoSaid : Prop := chargeKnownUptoRow.holds Try.pinned (OpenSpec.upto chargeKnownSpec)

/-- 'wainscotlaw13.StockPlays', WHERE WHAT IT READS IS OF BULK AT MOST 1048576: true; the input reads as it did. -/
def stockPlaysUptoRow : OpenClaim := { program := "ytlndpljhcempoaa", sum := "3a99a62b44a0d326fa3a5e72108f3d78bd598ad0e16a6495a763a11a47d586f6", func := "wainscot/wainscotlaw13.StockPlays", spec := "stockPlays", plainKeys := false, apart := false, narrowed := true }
def StockPlaysUptoSaid : Prop := stockPlaysUptoRow.holds Try.pinned (OpenSpec.upto stockPlaysSpec)

/-- 'wainscotlaw13.StockSums', WHERE WHAT IT READS IS OF BULK AT MOST 1048576: true; the input reads as it did. -/
def stockSumsUptoRow : OpenClaim := { program := "ytlndpljhcempoaa", sum := "3a99a62b44a0d326fa3a5e72108f3d78bd598ad0e16a6495a763a11a47d586f6", func := "wainscot/wainscotlaw13.StockSums", spec := "stockSums", plainKeys := false, apart := false, narrowed := true }
def StockSumsUptoSaid : Prop := stockSumsUptoRow.holds Try.pinned (OpenSpec.upto stockSumsSpec)

/-- 'wainscotlaw13.StockTakes', WHERE WHAT IT READS IS OF BULK AT MOST 1048576: true; the input reads as it did. -/
def stockTakesUptoRow : OpenClaim := { program := "ytlndpljhcempoaa", sum := "3a99a62b44a0d326fa3a5e72108f3d78bd598ad0e16a6495a763a11a47d586f6", func := "wainscot/wainscotlaw13.StockTakes", spec := "stockTakes", plainKeys := false, apart := false, narrowed := true }
def StockTakesUptoSaid : Prop := stockTakesUptoRow.holds Try.pinned (OpenSpec.upto stockTakesSpec)

/-- 'wainscotlaw13.StockKnown', WHERE WHAT IT READS IS OF BULK AT MOST 1048576: true; the input reads as it did. -/
def stockKnownUptoRow : OpenClaim := { program := "ytlndpljhcempoaa", sum := "3a99a62b44a0d326fa3a5e72108f3d78bd598ad0e16a6495a763a11a47d586f6", func := "wainscot/wainscotlaw13.StockKnown", spec := "stockKnown", plainKeys := false, apart := false, narrowed := true }
def StockKnownUptoSaid : Prop := stockKnownUptoRow.holds Try.pinned (OpenSpec.upto stockKnownSpec)

/-- 'wainscotlaw14.OwnerPlays', WHERE WHAT IT READS IS OF BULK AT MOST 1048576: true; the input reads as it did. -/
def ownerPlaysUptoRow : OpenClaim := { program := "ytlndpljhcempoaa", sum := "3a99a62b44a0d326fa3a5e72108f3d78bd598ad0e16a6495a763a11a47d586f6", func := "wainscot/wainscotlaw14.OwnerPlays", spec := "ownerPlays", plainKeys := false, apart := false, narrowed := true }
def OwnerPlaysUptoSaid : Prop := ownerPlaysUptoRow.holds Try.pinned (OpenSpec.upto ownerPlaysSpec)

/-- 'wainscotlaw14.OwnerOnce', WHERE WHAT IT READS IS OF BULK AT MOST 1048576: true; the input reads as it did. -/
def ownerOnceUptoRow : OpenClaim := { program := "ytlndpljhcempoaa", sum := "3a99a62b44a0d326fa3a5e72108f3d78bd598ad0e16a6495a763a11a47d586f6", func := "wainscot/wainscotlaw14.OwnerOnce", spec := "ownerOnce", plainKeys := false, apart := false, narrowed := true }
def OwnerOnceUptoSaid : Prop := ownerOnceUptoRow.holds Try.pinned (OpenSpec.upto ownerOnceSpec)

/-- 'wainscotlaw14.OwnerMoves', WHERE WHAT IT READS IS OF BULK AT MOST 1048576: true; the input reads as it did. -/
def ownerMovesUptoRow : OpenClaim := { program := "ytlndpljhcempoaa", sum := "3a99a62b44a0d326fa3a5e72108f3d78bd598ad0e16a6495a763a11a47d586f6", func := "wainscot/wainscotlaw14.OwnerMoves", spec := "ownerMoves", plainKeys := false, apart := false, narrowed := true }
def OwnerMovesUptoSaid : Prop := ownerMovesUptoRow.holds Try.pinned (OpenSpec.upto ownerMovesSpec)

/-- 'wainscotlaw14.OwnerKnown', WHERE WHAT IT READS IS OF BULK AT MOST 1048576: true; the input reads as it did. -/
def ownerKnownUptoRow : OpenClaim := { program := "ytlndpljhcempoaa", sum := "3a99a62b44a0d326fa3a5e72108f3d78bd598ad0e16a6495a763a11a47d586f6", func := "wainscot/wainscotlaw14.OwnerKnown", spec := "ownerKnown", plainKeys := false, apart := false, narrowed := true }
def OwnerKnownUptoSaid : Prop := ownerKnownUptoRow.holds Try.pinned (OpenSpec.upto ownerKnownSpec)

/-- 'wainscotlaw12.ChargeSums', WHERE WHAT IT READS IS OF BULK AT MOST 1048576: true; the input reads as it did. -/
def chargeSumsUptoRow : OpenClaim := { program := "ytlndpljhcempoaa", sum := "3a99a62b44a0d326fa3a5e72108f3d78bd598ad0e16a6495a763a11a47d586f6", func := "wainscot/wainscotlaw12.ChargeSums", spec := "chargeSums", unfollowed := true, recurses := true, plainKeys := false, apart := false, narrowed := true }
def ChargeSumsUptoSaid : Prop := chargeSumsUptoRow.holds Try.pinned (OpenSpec.upto chargeSumsSpec)

/-- 'wainscotlaw12.ChargePlays', WHERE WHAT IT READS IS OF BULK AT MOST 1048576: true; the input reads as it did. -/
def chargePlaysUptoRow : OpenClaim := { program := "ytlndpljhcempoaa", sum := "3a99a62b44a0d326fa3a5e72108f3d78bd598ad0e16a6495a763a11a47d586f6", func := "wainscot/wainscotlaw12.ChargePlays", spec := "chargePlays", unfollowed := true, recurses := true, plainKeys := false, apart := false, narrowed := true }
def ChargePlaysUptoSaid : Prop := chargePlaysUptoRow.holds Try.pinned (OpenSpec.upto chargePlaysSpec)

/-- 'wainscotlaw12.ChargeBounds', WHERE WHAT IT READS IS OF BULK AT MOST 1048576: true; the input reads as it did. -/
def chargeBoundsUptoRow : OpenClaim := { program := "ytlndpljhcempoaa", sum := "3a99a62b44a0d326fa3a5e72108f3d78bd598ad0e16a6495a763a11a47d586f6", func := "wainscot/wainscotlaw12.ChargeBounds", spec := "chargeBounds", unfollowed := true, recurses := true, plainKeys := false, apart := false, narrowed := true }
def ChargeBoundsUptoSaid : Prop := chargeBoundsUptoRow.holds Try.pinned (OpenSpec.upto chargeBoundsSpec)

end Rows
end Go.Proofs.Ytlndpljhcempoaa
