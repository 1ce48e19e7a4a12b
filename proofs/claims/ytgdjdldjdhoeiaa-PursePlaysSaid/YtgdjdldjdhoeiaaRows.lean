/-
  No cell of these rows narrows 'for every input' (looked for: loops, veiled, ifaces, maps, wideKeys, modest, calm, conditions, laid).
  DERIVED. THE GIVEN ROWS OF THIS SEAT. 6 by the template 'for every input the law returns true; each argument reads behind the call as it read before'; 0 by the template 'total and deterministic' (their statements: YtgdjdldjdhoeiaaTotals.lean).
  GIVEN WITH THE SEED: the statements are not yours to turn. If you find one false, say at which input.
  Laid BY PROGRAM, IN A SANDBOX (cutbox-rows.mjs): the forced cells as the released guide's own fill.sh prints them over the translation e898e4425b755363… (all of the seat's roots in one cut). By AI agents, Wed Nov 11 2026. No macro, syntax, notation, axiom, sorry.
-/
import Derived.Test.YtgdjdldjdhoeiaaChecked
import GoSem.Claim
import GoSem.ClaimJoined
import GoSem.ClaimMapViews
import Derived.JoinedTies
import Derived.KernelRfl
namespace Go.Proofs.Ytgdjdldjdhoeiaa
/- THE CELL 'sum', in the pinned program and in every row, IS THE sha256 OF THE DUMP (.gsa) THAT YtgdjdldjdhoeiaaProg.lean LOADS. Nothing in Lean hashes anything: it is a label: what it is worth is what the hold of that sum in a sandbox is worth. -/
noncomputable def Try.pinned : Pinned := { name := "ytgdjdldjdhoeiaa", sum := "e898e4425b755363a8e0a1d50a143a90567fea9c778762605b00e25382a456c5", checked := Try.checked }
namespace Rows
def none {H : Type} : Left H := { results := [], args := [] }

/-- 'truchmanlaw20.PurseSums': WHATEVER THE INPUT: true; the input reads as it did. -/
def purseSumsSpec : ChangeSpec := { name := "purseSums", fn := fun _ => fun
  | [d1, d2, d3] => { results := [.lit (.bool true)], args := [d1, d2, d3] }
  | _ => none }
def purseSumsRow : OpenClaim := { program := "ytgdjdldjdhoeiaa", sum := "e898e4425b755363a8e0a1d50a143a90567fea9c778762605b00e25382a456c5", func := "truchman/truchmanlaw20.PurseSums", spec := "purseSums", apart := false }
def PurseSumsSaid : Prop := purseSumsRow.holds Try.pinned (OpenSpec.ofChange purseSumsSpec)

/-- ITS FALSE NEIGHBOUR: 'it returns false'. Refute it at one input. -/
def purseSumsWrong : ChangeSpec := { name := "purseSums", fn := fun _ => fun
  | [d1, d2, d3] => { results := [.lit (.bool false)], args := [d1, d2, d3] }
  | _ => none }
def PurseSumsWrongFalsely : Prop := purseSumsRow.holds Try.pinned (OpenSpec.ofChange purseSumsWrong)

/-- 'truchmanlaw20.PurseReserve': WHATEVER THE INPUT: true; the input reads as it did. -/
def purseReserveSpec : ChangeSpec := { name := "purseReserve", fn := fun _ => fun
  | [d1, d2, d3, d4, d5] => { results := [.lit (.bool true)], args := [d1, d2, d3, d4, d5] }
  | _ => none }
def purseReserveRow : OpenClaim := { program := "ytgdjdldjdhoeiaa", sum := "e898e4425b755363a8e0a1d50a143a90567fea9c778762605b00e25382a456c5", func := "truchman/truchmanlaw20.PurseReserve", spec := "purseReserve", apart := false }
def PurseReserveSaid : Prop := purseReserveRow.holds Try.pinned (OpenSpec.ofChange purseReserveSpec)

/-- ITS FALSE NEIGHBOUR: 'it returns false'. Refute it at one input. -/
def purseReserveWrong : ChangeSpec := { name := "purseReserve", fn := fun _ => fun
  | [d1, d2, d3, d4, d5] => { results := [.lit (.bool false)], args := [d1, d2, d3, d4, d5] }
  | _ => none }
def PurseReserveWrongFalsely : Prop := purseReserveRow.holds Try.pinned (OpenSpec.ofChange purseReserveWrong)

/-- 'truchmanlaw20.PurseShares': WHATEVER THE INPUT: true; the input reads as it did. -/
def purseSharesSpec : ChangeSpec := { name := "purseShares", fn := fun _ => fun
  | [d1, d2, d3] => { results := [.lit (.bool true)], args := [d1, d2, d3] }
  | _ => none }
def purseSharesRow : OpenClaim := { program := "ytgdjdldjdhoeiaa", sum := "e898e4425b755363a8e0a1d50a143a90567fea9c778762605b00e25382a456c5", func := "truchman/truchmanlaw20.PurseShares", spec := "purseShares", apart := false }
def PurseSharesSaid : Prop := purseSharesRow.holds Try.pinned (OpenSpec.ofChange purseSharesSpec)

/-- ITS FALSE NEIGHBOUR: 'it returns false'. Refute it at one input. -/
def purseSharesWrong : ChangeSpec := { name := "purseShares", fn := fun _ => fun
  | [d1, d2, d3] => { results := [.lit (.bool false)], args := [d1, d2, d3] }
  | _ => none }
def PurseSharesWrongFalsely : Prop := purseSharesRow.holds Try.pinned (OpenSpec.ofChange purseSharesWrong)

/-- 'truchmanlaw20.PursePlays': WHATEVER THE INPUT: true; the input reads as it did. -/
def pursePlaysSpec : ChangeSpec := { name := "pursePlays", fn := fun _ => fun
  | [d1, d2, d3] => { results := [.lit (.bool true)], args := [d1, d2, d3] }
  | _ => none }
def pursePlaysRow : OpenClaim := { program := "ytgdjdldjdhoeiaa", sum := "e898e4425b755363a8e0a1d50a143a90567fea9c778762605b00e25382a456c5", func := "truchman/truchmanlaw20.PursePlays", spec := "pursePlays", apart := false }
def PursePlaysSaid : Prop := pursePlaysRow.holds Try.pinned (OpenSpec.ofChange pursePlaysSpec)

/-- ITS FALSE NEIGHBOUR: 'it returns false'. Refute it at one input. -/
def pursePlaysWrong : ChangeSpec := { name := "pursePlays", fn := fun _ => fun
  | [d1, d2, d3] => { results := [.lit (.bool false)], args := [d1, d2, d3] }
  | _ => none }
def PursePlaysWrongFalsely : Prop := pursePlaysRow.holds Try.pinned (OpenSpec.ofChange pursePlaysWrong)

/-- 'truchmanlaw20.PurseCloses': WHATEVER THE INPUT: true; the input reads as it did. -/
def purseClosesSpec : ChangeSpec := { name := "purseCloses", fn := fun _ => fun
  | [d1, d2, d3, d4] => { results := [.lit (.bool true)], args := [d1, d2, d3, d4] }
  | _ => none }
def purseClosesRow : OpenClaim := { program := "ytgdjdldjdhoeiaa", sum := "e898e4425b755363a8e0a1d50a143a90567fea9c778762605b00e25382a456c5", func := "truchman/truchmanlaw20.PurseCloses", spec := "purseCloses", apart := false }
def PurseClosesSaid : Prop := purseClosesRow.holds Try.pinned (OpenSpec.ofChange purseClosesSpec)

/-- ITS FALSE NEIGHBOUR: 'it returns false'. Refute it at one input. -/
def purseClosesWrong : ChangeSpec := { name := "purseCloses", fn := fun _ => fun
  | [d1, d2, d3, d4] => { results := [.lit (.bool false)], args := [d1, d2, d3, d4] }
  | _ => none }
def PurseClosesWrongFalsely : Prop := purseClosesRow.holds Try.pinned (OpenSpec.ofChange purseClosesWrong)

/-- 'truchmanlaw20.PurseMay': WHATEVER THE INPUT: true; the input reads as it did. -/
def purseMaySpec : ChangeSpec := { name := "purseMay", fn := fun _ => fun
  | [d1, d2, d3, d4] => { results := [.lit (.bool true)], args := [d1, d2, d3, d4] }
  | _ => none }
def purseMayRow : OpenClaim := { program := "ytgdjdldjdhoeiaa", sum := "e898e4425b755363a8e0a1d50a143a90567fea9c778762605b00e25382a456c5", func := "truchman/truchmanlaw20.PurseMay", spec := "purseMay", apart := false }
def PurseMaySaid : Prop := purseMayRow.holds Try.pinned (OpenSpec.ofChange purseMaySpec)

/-- ITS FALSE NEIGHBOUR: 'it returns false'. Refute it at one input. -/
def purseMayWrong : ChangeSpec := { name := "purseMay", fn := fun _ => fun
  | [d1, d2, d3, d4] => { results := [.lit (.bool false)], args := [d1, d2, d3, d4] }
  | _ => none }
def PurseMayWrongFalsely : Prop := purseMayRow.holds Try.pinned (OpenSpec.ofChange purseMayWrong)

/- THE SECOND FORM. 'bulk': how many values and letters a reading holds, each counted each time it is reached (what is shared counts as often as it is met; a slice's spare places count too). A statement '..UptoSaid' is the law's where the arguments, and the package variables that the reading takes, are together of bulk at most 1048576: NARROWER than '..Said'. Prove '..Said' where nothing that the law and all that it calls make is longer than what came in: it says more and counts as full. Else prove '..UptoSaid'. A law counts once. -/
mutual
def uptoBulk {H : Type} : DataW H → Nat
  | .lit (.string bytes) => bytes.length + 1
  | .lit _ => 1
  | .nil => 1
  | .ptr d => uptoBulk d + 1
  | .slice elems spare => uptoBulkAll elems + uptoBulkAll spare + 1
  | .agg parts => uptoBulkAll parts + 1
  | .iface _ d => uptoBulk d + 1
  | .map entries => uptoBulkEntries entries + 1
  | .held _ => 1
def uptoBulkAll {H : Type} : List (DataW H) → Nat
  | [] => 0
  | d :: r => uptoBulk d + uptoBulkAll r
def uptoBulkEntries {H : Type} : List (Lit × DataW H) → Nat
  | [] => 0
  | x :: r => uptoBulkEntry x + uptoBulkEntries r
def uptoBulkEntry {H : Type} : Lit × DataW H → Nat
  | (.string bytes, d) => bytes.length + uptoBulk d + 1
  | (_, d) => uptoBulk d + 1
 end
def uptoSmall : (H : Type) → List (DataW H) → Bool := fun _ ds => decide (uptoBulkAll ds ≤ 1048576)
def OpenSpec.upto (s : _root_.Go.ChangeSpec) : _root_.Go.OpenSpec := { _root_.Go.OpenSpec.ofChange s with cond := some uptoSmall }

/-- 'truchmanlaw20.PurseSums', WHERE WHAT IT READS IS OF BULK AT MOST 1048576: true; the input reads as it did. -/
def purseSumsUptoRow : OpenClaim := { program := "ytgdjdldjdhoeiaa", sum := "e898e4425b755363a8e0a1d50a143a90567fea9c778762605b00e25382a456c5", func := "truchman/truchmanlaw20.PurseSums", spec := "purseSums", apart := false, narrowed := true }
def PurseSumsUptoSaid : Prop := purseSumsUptoRow.holds Try.pinned (OpenSpec.upto purseSumsSpec)

/-- 'truchmanlaw20.PurseReserve', WHERE WHAT IT READS IS OF BULK AT MOST 1048576: true; the input reads as it did. -/
def purseReserveUptoRow : OpenClaim := { program := "ytgdjdldjdhoeiaa", sum := "e898e4425b755363a8e0a1d50a143a90567fea9c778762605b00e25382a456c5", func := "truchman/truchmanlaw20.PurseReserve", spec := "purseReserve", apart := false, narrowed := true }
def PurseReserveUptoSaid : Prop := purseReserveUptoRow.holds Try.pinned (OpenSpec.upto purseReserveSpec)

/-- 'truchmanlaw20.PurseShares', WHERE WHAT IT READS IS OF BULK AT MOST 1048576: true; the input reads as it did. -/
def purseSharesUptoRow : OpenClaim := { program := "ytgdjdldjdhoeiaa", sum := "e898e4425b755363a8e0a1d50a143a90567fea9c778762605b00e25382a456c5", func := "truchman/truchmanlaw20.PurseShares", spec := "purseShares", apart := false, narrowed := true }
def PurseSharesUptoSaid : Prop := purseSharesUptoRow.holds Try.pinned (OpenSpec.upto purseSharesSpec)

/-- 'truchmanlaw20.PursePlays', WHERE WHAT IT READS IS OF BULK AT MOST 1048576: true; the input reads as it did. -/
def pursePlaysUptoRow : OpenClaim := { program := "ytgdjdldjdhoeiaa", sum := "e898e4425b755363a8e0a1d50a143a90567fea9c778762605b00e25382a456c5", func := "truchman/truchmanlaw20.PursePlays", spec := "pursePlays", apart := false, narrowed := true }
def PursePlaysUptoSaid : Prop := pursePlaysUptoRow.holds Try.pinned (OpenSpec.upto pursePlaysSpec)

/-- 'truchmanlaw20.PurseCloses', WHERE WHAT IT READS IS OF BULK AT MOST 1048576: true; the input reads as it did. -/
def purseClosesUptoRow : OpenClaim := { program := "ytgdjdldjdhoeiaa", sum := "e898e4425b755363a8e0a1d50a143a90567fea9c778762605b00e25382a456c5", func := "truchman/truchmanlaw20.PurseCloses", spec := "purseCloses", apart := false, narrowed := true }
def PurseClosesUptoSaid : Prop := purseClosesUptoRow.holds Try.pinned (OpenSpec.upto purseClosesSpec)

/-- 'truchmanlaw20.PurseMay', WHERE WHAT IT READS IS OF BULK AT MOST 1048576: true; the input reads as it did. -/
def purseMayUptoRow : OpenClaim := { program := "ytgdjdldjdhoeiaa", sum := "e898e4425b755363a8e0a1d50a143a90567fea9c778762605b00e25382a456c5", func := "truchman/truchmanlaw20.PurseMay", spec := "purseMay", apart := false, narrowed := true }
def PurseMayUptoSaid : Prop := purseMayUptoRow.holds Try.pinned (OpenSpec.upto purseMaySpec)

end Rows
end Go.Proofs.Ytgdjdldjdhoeiaa
