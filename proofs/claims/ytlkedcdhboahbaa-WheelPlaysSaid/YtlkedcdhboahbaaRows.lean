/-
  No cell of these rows narrows 'for every input' (looked for: loops, veiled, ifaces, maps, wideKeys, modest, calm, conditions, laid).
  DERIVED. THE GIVEN ROWS OF THIS SEAT. 6 by the template 'for every input the law returns true; each argument reads behind the call as it read before'; 0 by the template 'total and deterministic' (their statements: YtlkedcdhboahbaaTotals.lean).
  GIVEN WITH THE SEED: the statements are not yours to turn. If you find one false, say at which input.
  Laid BY PROGRAM, IN A SANDBOX (cutbox-rows.mjs): the forced cells as the released guide's own fill.sh prints them over the translation 5e7f7c953d410ada… (all of the seat's roots in one cut). By AI agents, Wed Nov 11 2026. No macro, syntax, notation, axiom, sorry.
-/
import Derived.Test.YtlkedcdhboahbaaChecked
import GoSem.Claim
import GoSem.ClaimJoined
import GoSem.ClaimMapViews
import Derived.JoinedTies
import Derived.KernelRfl
namespace Go.Proofs.Ytlkedcdhboahbaa
/- THE CELL 'sum', in the pinned program and in every row, IS THE sha256 OF THE DUMP (.gsa) THAT YtlkedcdhboahbaaProg.lean LOADS. Nothing in Lean hashes anything: it is a label: what it is worth is what the hold of that sum in a sandbox is worth. -/
noncomputable def Try.pinned : Pinned := { name := "ytlkedcdhboahbaa", sum := "5e7f7c953d410ada514a59baa2009d55e05c36e9859971459aa1e3ea85c9c95b", checked := Try.checked }
namespace Rows
def none {H : Type} : Left H := { results := [], args := [] }

/-- 'truchmanlaw21.WheelPlays': WHATEVER THE INPUT: true; the input reads as it did. -/
def wheelPlaysSpec : ChangeSpec := { name := "wheelPlays", fn := fun _ => fun
  | [d1, d2] => { results := [.lit (.bool true)], args := [d1, d2] }
  | _ => none }
def wheelPlaysRow : OpenClaim := { program := "ytlkedcdhboahbaa", sum := "5e7f7c953d410ada514a59baa2009d55e05c36e9859971459aa1e3ea85c9c95b", func := "truchman/truchmanlaw21.WheelPlays", spec := "wheelPlays", unfollowed := true, recurses := true, apart := false }
def WheelPlaysSaid : Prop := wheelPlaysRow.holds Try.pinned (OpenSpec.ofChange wheelPlaysSpec)

/-- ITS FALSE NEIGHBOUR: 'it returns false'. Refute it at one input. -/
def wheelPlaysWrong : ChangeSpec := { name := "wheelPlays", fn := fun _ => fun
  | [d1, d2] => { results := [.lit (.bool false)], args := [d1, d2] }
  | _ => none }
def WheelPlaysWrongFalsely : Prop := wheelPlaysRow.holds Try.pinned (OpenSpec.ofChange wheelPlaysWrong)

/-- 'truchmanlaw21.WheelFair': WHATEVER THE INPUT: true; the input reads as it did. -/
def wheelFairSpec : ChangeSpec := { name := "wheelFair", fn := fun _ => fun
  | [d1, d2, d3] => { results := [.lit (.bool true)], args := [d1, d2, d3] }
  | _ => none }
def wheelFairRow : OpenClaim := { program := "ytlkedcdhboahbaa", sum := "5e7f7c953d410ada514a59baa2009d55e05c36e9859971459aa1e3ea85c9c95b", func := "truchman/truchmanlaw21.WheelFair", spec := "wheelFair", apart := false }
def WheelFairSaid : Prop := wheelFairRow.holds Try.pinned (OpenSpec.ofChange wheelFairSpec)

/-- ITS FALSE NEIGHBOUR: 'it returns false'. Refute it at one input. -/
def wheelFairWrong : ChangeSpec := { name := "wheelFair", fn := fun _ => fun
  | [d1, d2, d3] => { results := [.lit (.bool false)], args := [d1, d2, d3] }
  | _ => none }
def WheelFairWrongFalsely : Prop := wheelFairRow.holds Try.pinned (OpenSpec.ofChange wheelFairWrong)

/-- 'truchmanlaw21.WheelOrder': WHATEVER THE INPUT: true; the input reads as it did. -/
def wheelOrderSpec : ChangeSpec := { name := "wheelOrder", fn := fun _ => fun
  | [d1, d2, d3] => { results := [.lit (.bool true)], args := [d1, d2, d3] }
  | _ => none }
def wheelOrderRow : OpenClaim := { program := "ytlkedcdhboahbaa", sum := "5e7f7c953d410ada514a59baa2009d55e05c36e9859971459aa1e3ea85c9c95b", func := "truchman/truchmanlaw21.WheelOrder", spec := "wheelOrder", apart := false }
def WheelOrderSaid : Prop := wheelOrderRow.holds Try.pinned (OpenSpec.ofChange wheelOrderSpec)

/-- ITS FALSE NEIGHBOUR: 'it returns false'. Refute it at one input. -/
def wheelOrderWrong : ChangeSpec := { name := "wheelOrder", fn := fun _ => fun
  | [d1, d2, d3] => { results := [.lit (.bool false)], args := [d1, d2, d3] }
  | _ => none }
def WheelOrderWrongFalsely : Prop := wheelOrderRow.holds Try.pinned (OpenSpec.ofChange wheelOrderWrong)

/-- 'truchmanlaw21.WheelNobody': WHATEVER THE INPUT: true; the input reads as it did. -/
def wheelNobodySpec : ChangeSpec := { name := "wheelNobody", fn := fun _ => fun
  | [d1, d2, d3] => { results := [.lit (.bool true)], args := [d1, d2, d3] }
  | _ => none }
def wheelNobodyRow : OpenClaim := { program := "ytlkedcdhboahbaa", sum := "5e7f7c953d410ada514a59baa2009d55e05c36e9859971459aa1e3ea85c9c95b", func := "truchman/truchmanlaw21.WheelNobody", spec := "wheelNobody", apart := false }
def WheelNobodySaid : Prop := wheelNobodyRow.holds Try.pinned (OpenSpec.ofChange wheelNobodySpec)

/-- ITS FALSE NEIGHBOUR: 'it returns false'. Refute it at one input. -/
def wheelNobodyWrong : ChangeSpec := { name := "wheelNobody", fn := fun _ => fun
  | [d1, d2, d3] => { results := [.lit (.bool false)], args := [d1, d2, d3] }
  | _ => none }
def WheelNobodyWrongFalsely : Prop := wheelNobodyRow.holds Try.pinned (OpenSpec.ofChange wheelNobodyWrong)

/-- 'truchmanlaw21.WheelGone': WHATEVER THE INPUT: true; the input reads as it did. -/
def wheelGoneSpec : ChangeSpec := { name := "wheelGone", fn := fun _ => fun
  | [d1, d2, d3] => { results := [.lit (.bool true)], args := [d1, d2, d3] }
  | _ => none }
def wheelGoneRow : OpenClaim := { program := "ytlkedcdhboahbaa", sum := "5e7f7c953d410ada514a59baa2009d55e05c36e9859971459aa1e3ea85c9c95b", func := "truchman/truchmanlaw21.WheelGone", spec := "wheelGone", apart := false }
def WheelGoneSaid : Prop := wheelGoneRow.holds Try.pinned (OpenSpec.ofChange wheelGoneSpec)

/-- ITS FALSE NEIGHBOUR: 'it returns false'. Refute it at one input. -/
def wheelGoneWrong : ChangeSpec := { name := "wheelGone", fn := fun _ => fun
  | [d1, d2, d3] => { results := [.lit (.bool false)], args := [d1, d2, d3] }
  | _ => none }
def WheelGoneWrongFalsely : Prop := wheelGoneRow.holds Try.pinned (OpenSpec.ofChange wheelGoneWrong)

/-- 'truchmanlaw21.WheelTurns': WHATEVER THE INPUT: true; the input reads as it did. -/
def wheelTurnsSpec : ChangeSpec := { name := "wheelTurns", fn := fun _ => fun
  | [d1, d2, d3] => { results := [.lit (.bool true)], args := [d1, d2, d3] }
  | _ => none }
def wheelTurnsRow : OpenClaim := { program := "ytlkedcdhboahbaa", sum := "5e7f7c953d410ada514a59baa2009d55e05c36e9859971459aa1e3ea85c9c95b", func := "truchman/truchmanlaw21.WheelTurns", spec := "wheelTurns", apart := false }
def WheelTurnsSaid : Prop := wheelTurnsRow.holds Try.pinned (OpenSpec.ofChange wheelTurnsSpec)

/-- ITS FALSE NEIGHBOUR: 'it returns false'. Refute it at one input. -/
def wheelTurnsWrong : ChangeSpec := { name := "wheelTurns", fn := fun _ => fun
  | [d1, d2, d3] => { results := [.lit (.bool false)], args := [d1, d2, d3] }
  | _ => none }
def WheelTurnsWrongFalsely : Prop := wheelTurnsRow.holds Try.pinned (OpenSpec.ofChange wheelTurnsWrong)

/- THE SECOND FORM. 'bulk': how many values and letters a reading holds, each counted each time it is reached (what is shared counts as often as it is met; a slice's spare places count too). A statement '..UptoSaid' is the law's where the arguments, and the package variables that the reading takes, are together of bulk at most 1048576: NARROWER than '..Said'. Prove '..Said' where nothing that the law and all that it calls make is longer than what came in: it says more and counts as full. Else prove '..UptoSaid'. A law counts once. -/
mutual
def uptoBulk {H : Type} : DataW H → Nat
  | .lit (.string bytes) => bytes.length + 1
  | .lit _ => 1
  | .nil => 1
  | .ptr d => uptoBulk d + 1
  | .slice elems spare => uptoBulkAll elems + uptoBulkAll spare + 1
  | .agg parts => uptoBulkAll parts + 1
  | .iface _ d => uptoBulk d + 1
  | .map entries => uptoBulkEntries entries + 1
  | .held _ => 1
def uptoBulkAll {H : Type} : List (DataW H) → Nat
  | [] => 0
  | d :: r => uptoBulk d + uptoBulkAll r
def uptoBulkEntries {H : Type} : List (Lit × DataW H) → Nat
  | [] => 0
  | x :: r => uptoBulkEntry x + uptoBulkEntries r
def uptoBulkEntry {H : Type} : Lit × DataW H → Nat
  | (.string bytes, d) => bytes.length + uptoBulk d + 1
  | (_, d) => uptoBulk d + 1
 end
def uptoSmall : (H : Type) → List (DataW H) → Bool := fun _ ds => decide (uptoBulkAll ds ≤ 1048576)
def OpenSpec.upto (s : _root_.Go.ChangeSpec) : _root_.Go.OpenSpec := { _root_.Go.OpenSpec.ofChange s with cond := some uptoSmall }

/-- 'truchmanlaw21.WheelPlays', WHERE WHAT IT READS IS OF BULK AT MOST 1048576: true; the input reads as it did. -/
def wheelPlaysUptoRow : OpenClaim := { program := "ytlkedcdhboahbaa", sum := "5e7f7c953d410ada514a59baa2009d55e05c36e9859971459aa1e3ea85c9c95b", func := "truchman/truchmanlaw21.WheelPlays", spec := "wheelPlays", unfollowed := true, recurses := true, apart := false, narrowed := true }
def WheelPlaysUptoSaid : Prop := wheelPlaysUptoRow.holds Try.pinned (OpenSpec.upto wheelPlaysSpec)

/-- 'truchmanlaw21.WheelFair', WHERE WHAT IT READS IS OF BULK AT MOST 1048576: true; the input reads as it did. -/
def wheelFairUptoRow : OpenClaim := { program := "ytlkedcdhboahbaa", sum := "5e7f7c953d410ada514a59baa2009d55e05c36e9859971459aa1e3ea85c9c95b", func := "truchman/truchmanlaw21.WheelFair", spec := "wheelFair", apart := false, narrowed := true }
def WheelFairUptoSaid : Prop := wheelFairUptoRow.holds Try.pinned (OpenSpec.upto wheelFairSpec)

/-- 'truchmanlaw21.WheelOrder', WHERE WHAT IT READS IS OF BULK AT MOST 1048576: true; the input reads as it did. -/
def wheelOrderUptoRow : OpenClaim := { program := "ytlkedcdhboahbaa", sum := "5e7f7c953d410ada514a59baa2009d55e05c36e9859971459aa1e3ea85c9c95b", func := "truchman/truchmanlaw21.WheelOrder", spec := "wheelOrder", apart := false, narrowed := true }
def WheelOrderUptoSaid : Prop := wheelOrderUptoRow.holds Try.pinned (OpenSpec.upto wheelOrderSpec)

/-- 'truchmanlaw21.WheelNobody', WHERE WHAT IT READS IS OF BULK AT MOST 1048576: true; the input reads as it did. -/
def wheelNobodyUptoRow : OpenClaim := { program := "ytlkedcdhboahbaa", sum := "5e7f7c953d410ada514a59baa2009d55e05c36e9859971459aa1e3ea85c9c95b", func := "truchman/truchmanlaw21.WheelNobody", spec := "wheelNobody", apart := false, narrowed := true }
def WheelNobodyUptoSaid : Prop := wheelNobodyUptoRow.holds Try.pinned (OpenSpec.upto wheelNobodySpec)

/-- 'truchmanlaw21.WheelGone', WHERE WHAT IT READS IS OF BULK AT MOST 1048576: true; the input reads as it did. -/
def wheelGoneUptoRow : OpenClaim := { program := "ytlkedcdhboahbaa", sum := "5e7f7c953d410ada514a59baa2009d55e05c36e9859971459aa1e3ea85c9c95b", func := "truchman/truchmanlaw21.WheelGone", spec := "wheelGone", apart := false, narrowed := true }
def WheelGoneUptoSaid : Prop := wheelGoneUptoRow.holds Try.pinned (OpenSpec.upto wheelGoneSpec)

/-- 'truchmanlaw21.WheelTurns', WHERE WHAT IT READS IS OF BULK AT MOST 1048576: true; the input reads as it did. -/
def wheelTurnsUptoRow : OpenClaim := { program := "ytlkedcdhboahbaa", sum := "5e7f7c953d410ada514a59baa2009d55e05c36e9859971459aa1e3ea85c9c95b", func := "truchman/truchmanlaw21.WheelTurns", spec := "wheelTurns", apart := false, narrowed := true }
def WheelTurnsUptoSaid : Prop := wheelTurnsUptoRow.holds Try.pinned (OpenSpec.upto wheelTurnsSpec)

end Rows
end Go.Proofs.Ytlkedcdhboahbaa
