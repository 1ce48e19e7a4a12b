/-
  No cell of these rows narrows 'for every input' (looked for: loops, veiled, ifaces, maps, wideKeys, modest, calm, conditions, laid).
  DERIVED. THE GIVEN ROWS OF THIS SEAT. 7 by the template 'for every input the law returns true; each argument reads behind the call as it read before'; 0 by the template 'total and deterministic' (their statements: YteggfobeaolafaaTotals.lean).
  GIVEN WITH THE SEED: the statements are not yours to turn. If you find one false, say at which input.
  Laid BY PROGRAM, IN A SANDBOX (cutbox-rows.mjs): the forced cells as the released guide's own fill.sh prints them over the translation 7032f6514e2b6fb4… (all of the seat's roots in one cut). By AI agents, Wed Nov 11 2026. No macro, syntax, notation, axiom, sorry.
-/
import Derived.Test.YteggfobeaolafaaChecked
import GoSem.Claim
import GoSem.ClaimJoined
import GoSem.ClaimMapViews
import Derived.JoinedTies
import Derived.KernelRfl
namespace Go.Proofs.Yteggfobeaolafaa
/- THE CELL 'sum', in the pinned program and in every row, IS THE sha256 OF THE DUMP (.gsa) THAT YteggfobeaolafaaProg.lean LOADS. Nothing in Lean hashes anything: it is a label: what it is worth is what the hold of that sum in a sandbox is worth. -/
noncomputable def Try.pinned : Pinned := { name := "yteggfobeaolafaa", sum := "7032f6514e2b6fb477c323a6a9cbeb7ea8b2bf71399879eb606363d9eb2216b7", checked := Try.checked }
namespace Rows
def none {H : Type} : Left H := { results := [], args := [] }

/-- 'truchmanlaw16.PackoutTells': WHATEVER THE INPUT: true; the input reads as it did. -/
def packoutTellsSpec : ChangeSpec := { name := "packoutTells", fn := fun _ => fun
  | [d] => { results := [.lit (.bool true)], args := [d] }
  | _ => none }
def packoutTellsRow : OpenClaim := { program := "yteggfobeaolafaa", sum := "7032f6514e2b6fb477c323a6a9cbeb7ea8b2bf71399879eb606363d9eb2216b7", func := "truchman/truchmanlaw16.PackoutTells", spec := "packoutTells", apart := false }
def PackoutTellsSaid : Prop := packoutTellsRow.holds Try.pinned (OpenSpec.ofChange packoutTellsSpec)

/-- ITS FALSE NEIGHBOUR: 'it returns false'. Refute it at one input. -/
def packoutTellsWrong : ChangeSpec := { name := "packoutTells", fn := fun _ => fun
  | [d] => { results := [.lit (.bool false)], args := [d] }
  | _ => none }
def PackoutTellsWrongFalsely : Prop := packoutTellsRow.holds Try.pinned (OpenSpec.ofChange packoutTellsWrong)

/-- 'truchmanlaw16.PackoutRefuses': WHATEVER THE INPUT: true; the input reads as it did. -/
def packoutRefusesSpec : ChangeSpec := { name := "packoutRefuses", fn := fun _ => fun
  | [d1, d2, d3] => { results := [.lit (.bool true)], args := [d1, d2, d3] }
  | _ => none }
def packoutRefusesRow : OpenClaim := { program := "yteggfobeaolafaa", sum := "7032f6514e2b6fb477c323a6a9cbeb7ea8b2bf71399879eb606363d9eb2216b7", func := "truchman/truchmanlaw16.PackoutRefuses", spec := "packoutRefuses", unfollowed := true, recurses := true, apart := false }
def PackoutRefusesSaid : Prop := packoutRefusesRow.holds Try.pinned (OpenSpec.ofChange packoutRefusesSpec)

/-- ITS FALSE NEIGHBOUR: 'it returns false'. Refute it at one input. -/
def packoutRefusesWrong : ChangeSpec := { name := "packoutRefuses", fn := fun _ => fun
  | [d1, d2, d3] => { results := [.lit (.bool false)], args := [d1, d2, d3] }
  | _ => none }
def PackoutRefusesWrongFalsely : Prop := packoutRefusesRow.holds Try.pinned (OpenSpec.ofChange packoutRefusesWrong)

/-- 'truchmanlaw16.PackoutEnds': WHATEVER THE INPUT: true; the input reads as it did. -/
def packoutEndsSpec : ChangeSpec := { name := "packoutEnds", fn := fun _ => fun
  | [d1, d2] => { results := [.lit (.bool true)], args := [d1, d2] }
  | _ => none }
def packoutEndsRow : OpenClaim := { program := "yteggfobeaolafaa", sum := "7032f6514e2b6fb477c323a6a9cbeb7ea8b2bf71399879eb606363d9eb2216b7", func := "truchman/truchmanlaw16.PackoutEnds", spec := "packoutEnds", unfollowed := true, recurses := true, apart := false }
def PackoutEndsSaid : Prop := packoutEndsRow.holds Try.pinned (OpenSpec.ofChange packoutEndsSpec)

/-- ITS FALSE NEIGHBOUR: 'it returns false'. Refute it at one input. -/
def packoutEndsWrong : ChangeSpec := { name := "packoutEnds", fn := fun _ => fun
  | [d1, d2] => { results := [.lit (.bool false)], args := [d1, d2] }
  | _ => none }
def PackoutEndsWrongFalsely : Prop := packoutEndsRow.holds Try.pinned (OpenSpec.ofChange packoutEndsWrong)

/-- 'truchmanlaw16.PackoutOpen': WHATEVER THE INPUT: true; the input reads as it did. -/
def packoutOpenSpec : ChangeSpec := { name := "packoutOpen", fn := fun _ => fun
  | [d] => { results := [.lit (.bool true)], args := [d] }
  | _ => none }
def packoutOpenRow : OpenClaim := { program := "yteggfobeaolafaa", sum := "7032f6514e2b6fb477c323a6a9cbeb7ea8b2bf71399879eb606363d9eb2216b7", func := "truchman/truchmanlaw16.PackoutOpen", spec := "packoutOpen", unfollowed := true, recurses := true, apart := false }
def PackoutOpenSaid : Prop := packoutOpenRow.holds Try.pinned (OpenSpec.ofChange packoutOpenSpec)

/-- ITS FALSE NEIGHBOUR: 'it returns false'. Refute it at one input. -/
def packoutOpenWrong : ChangeSpec := { name := "packoutOpen", fn := fun _ => fun
  | [d] => { results := [.lit (.bool false)], args := [d] }
  | _ => none }
def PackoutOpenWrongFalsely : Prop := packoutOpenRow.holds Try.pinned (OpenSpec.ofChange packoutOpenWrong)

/-- 'truchmanlaw16.PackoutWholes': WHATEVER THE INPUT: true; the input reads as it did. -/
def packoutWholesSpec : ChangeSpec := { name := "packoutWholes", fn := fun _ => fun
  | [d] => { results := [.lit (.bool true)], args := [d] }
  | _ => none }
def packoutWholesRow : OpenClaim := { program := "yteggfobeaolafaa", sum := "7032f6514e2b6fb477c323a6a9cbeb7ea8b2bf71399879eb606363d9eb2216b7", func := "truchman/truchmanlaw16.PackoutWholes", spec := "packoutWholes", apart := false }
def PackoutWholesSaid : Prop := packoutWholesRow.holds Try.pinned (OpenSpec.ofChange packoutWholesSpec)

/-- ITS FALSE NEIGHBOUR: 'it returns false'. Refute it at one input. -/
def packoutWholesWrong : ChangeSpec := { name := "packoutWholes", fn := fun _ => fun
  | [d] => { results := [.lit (.bool false)], args := [d] }
  | _ => none }
def PackoutWholesWrongFalsely : Prop := packoutWholesRow.holds Try.pinned (OpenSpec.ofChange packoutWholesWrong)

/-- 'truchmanlaw16.PackoutTexts': WHATEVER THE INPUT: true; the input reads as it did. -/
def packoutTextsSpec : ChangeSpec := { name := "packoutTexts", fn := fun _ => fun
  | [d1, d2, d3] => { results := [.lit (.bool true)], args := [d1, d2, d3] }
  | _ => none }
def packoutTextsRow : OpenClaim := { program := "yteggfobeaolafaa", sum := "7032f6514e2b6fb477c323a6a9cbeb7ea8b2bf71399879eb606363d9eb2216b7", func := "truchman/truchmanlaw16.PackoutTexts", spec := "packoutTexts", apart := false }
def PackoutTextsSaid : Prop := packoutTextsRow.holds Try.pinned (OpenSpec.ofChange packoutTextsSpec)

/-- ITS FALSE NEIGHBOUR: 'it returns false'. Refute it at one input. -/
def packoutTextsWrong : ChangeSpec := { name := "packoutTexts", fn := fun _ => fun
  | [d1, d2, d3] => { results := [.lit (.bool false)], args := [d1, d2, d3] }
  | _ => none }
def PackoutTextsWrongFalsely : Prop := packoutTextsRow.holds Try.pinned (OpenSpec.ofChange packoutTextsWrong)

/-- 'truchmanlaw16.PackoutCounts': WHATEVER THE INPUT: true; the input reads as it did. -/
def packoutCountsSpec : ChangeSpec := { name := "packoutCounts", fn := fun _ => fun
  | [d1, d2] => { results := [.lit (.bool true)], args := [d1, d2] }
  | _ => none }
def packoutCountsRow : OpenClaim := { program := "yteggfobeaolafaa", sum := "7032f6514e2b6fb477c323a6a9cbeb7ea8b2bf71399879eb606363d9eb2216b7", func := "truchman/truchmanlaw16.PackoutCounts", spec := "packoutCounts", apart := false }
def PackoutCountsSaid : Prop := packoutCountsRow.holds Try.pinned (OpenSpec.ofChange packoutCountsSpec)

/-- ITS FALSE NEIGHBOUR: 'it returns false'. Refute it at one input. -/
def packoutCountsWrong : ChangeSpec := { name := "packoutCounts", fn := fun _ => fun
  | [d1, d2] => { results := [.lit (.bool false)], args := [d1, d2] }
  | _ => none }
def PackoutCountsWrongFalsely : Prop := packoutCountsRow.holds Try.pinned (OpenSpec.ofChange packoutCountsWrong)

/- THE SECOND FORM. 'bulk': how many values and letters a reading holds, each counted each time it is reached (what is shared counts as often as it is met; a slice's spare places count too). A statement '..UptoSaid' is the law's where the arguments, and the package variables that the reading takes, are together of bulk at most 1048576: NARROWER than '..Said'. Prove '..Said' where nothing that the law and all that it calls make is longer than what came in: it says more and counts as full. Else prove '..UptoSaid'. A law counts once. -/
mutual
def uptoBulk {H : Type} : DataW H → Nat
  | .lit (.string bytes) => bytes.length + 1
  | .lit _ => 1
  | .nil => 1
  | .ptr d => uptoBulk d + 1
  | .slice elems spare => uptoBulkAll elems + uptoBulkAll spare + 1
  | .agg parts => uptoBulkAll parts + 1
  | .iface _ d => uptoBulk d + 1
  | .map entries => uptoBulkEntries entries + 1
  | .held _ => 1
def uptoBulkAll {H : Type} : List (DataW H) → Nat
  | [] => 0
  | d :: r => uptoBulk d + uptoBulkAll r
def uptoBulkEntries {H : Type} : List (Lit × DataW H) → Nat
  | [] => 0
  | x :: r => uptoBulkEntry x + uptoBulkEntries r
def uptoBulkEntry {H : Type} : Lit × DataW H → Nat
  | (.string bytes, d) => bytes.length + uptoBulk d + 1
  | (_, d) => uptoBulk d + 1
 end
def uptoSmall : (H : Type) → List (DataW H) → Bool := fun _ ds => decide (uptoBulkAll ds ≤ 1048576)
def OpenSpec.upto (s : _root_.Go.ChangeSpec) : _root_.Go.OpenSpec := { _root_.Go.OpenSpec.ofChange s with cond := some uptoSmall }

/-- 'truchmanlaw16.PackoutTells', WHERE WHAT IT READS IS OF BULK AT MOST 1048576: true; the input reads as it did. -/
def packoutTellsUptoRow : OpenClaim := { program := "yteggfobeaolafaa", sum := "7032f6514e2b6fb477c323a6a9cbeb7ea8b2bf71399879eb606363d9eb2216b7", func := "truchman/truchmanlaw16.PackoutTells", spec := "packoutTells", apart := false, narrowed := true }
def PackoutTellsUptoSaid : Prop := packoutTellsUptoRow.holds Try.pinned (OpenSpec.upto packoutTellsSpec)

/-- 'truchmanlaw16.PackoutRefuses', WHERE WHAT IT READS IS OF BULK AT MOST 1048576: true; the input reads as it did. -/
def packoutRefusesUptoRow : OpenClaim := { program := "yteggfobeaolafaa", sum := "7032f6514e2b6fb477c323a6a9cbeb7ea8b2bf71399879eb606363d9eb2216b7", func := "truchman/truchmanlaw16.PackoutRefuses", spec := "packoutRefuses", unfollowed := true, recurses := true, apart := false, narrowed := true }
def PackoutRefusesUptoSaid : Prop := packoutRefusesUptoRow.holds Try.pinned (OpenSpec.upto packoutRefusesSpec)

/-- 'truchmanlaw16.PackoutEnds', WHERE WHAT IT READS IS OF BULK AT MOST 1048576: true; the input reads as it did. -/
def packoutEndsUptoRow : OpenClaim := { program := "yteggfobeaolafaa", sum := "7032f6514e2b6fb477c323a6a9cbeb7ea8b2bf71399879eb606363d9eb2216b7", func := "truchman/truchmanlaw16.PackoutEnds", spec := "packoutEnds", unfollowed := true, recurses := true, apart := false, narrowed := true }
def PackoutEndsUptoSaid : Prop := packoutEndsUptoRow.holds Try.pinned (OpenSpec.upto packoutEndsSpec)

/-- 'truchmanlaw16.PackoutOpen', WHERE WHAT IT READS IS OF BULK AT MOST 1048576: true; the input reads as it did. -/
def packoutOpenUptoRow : OpenClaim := { program := "yteggfobeaolafaa", sum := "7032f6514e2b6fb477c323a6a9cbeb7ea8b2bf71399879eb606363d9eb2216b7", func := "truchman/truchmanlaw16.PackoutOpen", spec := "packoutOpen", unfollowed := true, recurses := true, apart := false, narrowed := true }
def PackoutOpenUptoSaid : Prop := packoutOpenUptoRow.holds Try.pinned (OpenSpec.upto packoutOpenSpec)

/-- 'truchmanlaw16.PackoutWholes', WHERE WHAT IT READS IS OF BULK AT MOST 1048576: true; the input reads as it did. -/
def packoutWholesUptoRow : OpenClaim := { program := "yteggfobeaolafaa", sum := "7032f6514e2b6fb477c323a6a9cbeb7ea8b2bf71399879eb606363d9eb2216b7", func := "truchman/truchmanlaw16.PackoutWholes", spec := "packoutWholes", apart := false, narrowed := true }
def PackoutWholesUptoSaid : Prop := packoutWholesUptoRow.holds Try.pinned (OpenSpec.upto packoutWholesSpec)

/-- 'truchmanlaw16.PackoutTexts', WHERE WHAT IT READS IS OF BULK AT MOST 1048576: true; the input reads as it did. -/
def packoutTextsUptoRow : OpenClaim := { program := "yteggfobeaolafaa", sum := "7032f6514e2b6fb477c323a6a9cbeb7ea8b2bf71399879eb606363d9eb2216b7", func := "truchman/truchmanlaw16.PackoutTexts", spec := "packoutTexts", apart := false, narrowed := true }
def PackoutTextsUptoSaid : Prop := packoutTextsUptoRow.holds Try.pinned (OpenSpec.upto packoutTextsSpec)

/-- 'truchmanlaw16.PackoutCounts', WHERE WHAT IT READS IS OF BULK AT MOST 1048576: true; the input reads as it did. -/
def packoutCountsUptoRow : OpenClaim := { program := "yteggfobeaolafaa", sum := "7032f6514e2b6fb477c323a6a9cbeb7ea8b2bf71399879eb606363d9eb2216b7", func := "truchman/truchmanlaw16.PackoutCounts", spec := "packoutCounts", apart := false, narrowed := true }
def PackoutCountsUptoSaid : Prop := packoutCountsUptoRow.holds Try.pinned (OpenSpec.upto packoutCountsSpec)

end Rows
end Go.Proofs.Yteggfobeaolafaa
