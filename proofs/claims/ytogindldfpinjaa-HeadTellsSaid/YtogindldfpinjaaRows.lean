/-
  No cell of these rows narrows 'for every input' (looked for: loops, veiled, ifaces, maps, wideKeys, modest, calm, conditions, laid).
  DERIVED. THE GIVEN ROWS OF THIS SEAT. 5 by the template 'for every input the law returns true; each argument reads behind the call as it read before'; 0 by the template 'total and deterministic' (their statements: YtogindldfpinjaaTotals.lean).
  GIVEN WITH THE SEED: the statements are not yours to turn. If you find one false, say at which input.
  Laid BY PROGRAM, IN A SANDBOX (cutbox-rows.mjs): the forced cells as the released guide's own fill.sh prints them over the translation 010a81182dac3f42… (all of the seat's roots in one cut). By AI agents, Wed Nov 11 2026. No macro, syntax, notation, axiom, sorry.
-/
import Derived.Test.YtogindldfpinjaaChecked
import GoSem.Claim
import GoSem.ClaimJoined
import GoSem.ClaimMapViews
import Derived.JoinedTies
import Derived.KernelRfl
namespace Go.Proofs.Ytogindldfpinjaa
/- THE CELL 'sum', in the pinned program and in every row, IS THE sha256 OF THE DUMP (.gsa) THAT YtogindldfpinjaaProg.lean LOADS. Nothing in Lean hashes anything: it is a label: what it is worth is what the hold of that sum in a sandbox is worth. -/
noncomputable def Try.pinned : Pinned := { name := "ytogindldfpinjaa", sum := "010a81182dac3f42d5d0bd118765d254afa9155f726a2ccbdfbc9e3dafe816d5", checked := Try.checked }
namespace Rows
def none {H : Type} : Left H := { results := [], args := [] }

/-- 'truchmanlaw7.HeadBack': WHATEVER THE INPUT: true; the input reads as it did. -/
def headBackSpec : ChangeSpec := { name := "headBack", fn := fun _ => fun
  | [d1, d2] => { results := [.lit (.bool true)], args := [d1, d2] }
  | _ => none }
def headBackRow : OpenClaim := { program := "ytogindldfpinjaa", sum := "010a81182dac3f42d5d0bd118765d254afa9155f726a2ccbdfbc9e3dafe816d5", func := "truchman/truchmanlaw7.HeadBack", spec := "headBack", apart := false }
def HeadBackSaid : Prop := headBackRow.holds Try.pinned (OpenSpec.ofChange headBackSpec)

/-- ITS FALSE NEIGHBOUR: 'it returns false'. Refute it at one input. -/
def headBackWrong : ChangeSpec := { name := "headBack", fn := fun _ => fun
  | [d1, d2] => { results := [.lit (.bool false)], args := [d1, d2] }
  | _ => none }
def HeadBackWrongFalsely : Prop := headBackRow.holds Try.pinned (OpenSpec.ofChange headBackWrong)

/-- 'truchmanlaw7.HeadSizes': WHATEVER THE INPUT: true; the input reads as it did. -/
def headSizesSpec : ChangeSpec := { name := "headSizes", fn := fun _ => fun
  | [d1, d2, d3] => { results := [.lit (.bool true)], args := [d1, d2, d3] }
  | _ => none }
def headSizesRow : OpenClaim := { program := "ytogindldfpinjaa", sum := "010a81182dac3f42d5d0bd118765d254afa9155f726a2ccbdfbc9e3dafe816d5", func := "truchman/truchmanlaw7.HeadSizes", spec := "headSizes", apart := false }
def HeadSizesSaid : Prop := headSizesRow.holds Try.pinned (OpenSpec.ofChange headSizesSpec)

/-- ITS FALSE NEIGHBOUR: 'it returns false'. Refute it at one input. -/
def headSizesWrong : ChangeSpec := { name := "headSizes", fn := fun _ => fun
  | [d1, d2, d3] => { results := [.lit (.bool false)], args := [d1, d2, d3] }
  | _ => none }
def HeadSizesWrongFalsely : Prop := headSizesRow.holds Try.pinned (OpenSpec.ofChange headSizesWrong)

/-- 'truchmanlaw7.HeadLong': WHATEVER THE INPUT: true; the input reads as it did. -/
def headLongSpec : ChangeSpec := { name := "headLong", fn := fun _ => fun
  | [d1, d2, d3] => { results := [.lit (.bool true)], args := [d1, d2, d3] }
  | _ => none }
def headLongRow : OpenClaim := { program := "ytogindldfpinjaa", sum := "010a81182dac3f42d5d0bd118765d254afa9155f726a2ccbdfbc9e3dafe816d5", func := "truchman/truchmanlaw7.HeadLong", spec := "headLong", apart := false }
def HeadLongSaid : Prop := headLongRow.holds Try.pinned (OpenSpec.ofChange headLongSpec)

/-- ITS FALSE NEIGHBOUR: 'it returns false'. Refute it at one input. -/
def headLongWrong : ChangeSpec := { name := "headLong", fn := fun _ => fun
  | [d1, d2, d3] => { results := [.lit (.bool false)], args := [d1, d2, d3] }
  | _ => none }
def HeadLongWrongFalsely : Prop := headLongRow.holds Try.pinned (OpenSpec.ofChange headLongWrong)

/-- 'truchmanlaw7.HeadTells': WHATEVER THE INPUT: true; the input reads as it did. -/
def headTellsSpec : ChangeSpec := { name := "headTells", fn := fun _ => fun
  | [d1, d2, d3, d4, d5] => { results := [.lit (.bool true)], args := [d1, d2, d3, d4, d5] }
  | _ => none }
def headTellsRow : OpenClaim := { program := "ytogindldfpinjaa", sum := "010a81182dac3f42d5d0bd118765d254afa9155f726a2ccbdfbc9e3dafe816d5", func := "truchman/truchmanlaw7.HeadTells", spec := "headTells", apart := false }
def HeadTellsSaid : Prop := headTellsRow.holds Try.pinned (OpenSpec.ofChange headTellsSpec)

/-- ITS FALSE NEIGHBOUR: 'it returns false'. Refute it at one input. -/
def headTellsWrong : ChangeSpec := { name := "headTells", fn := fun _ => fun
  | [d1, d2, d3, d4, d5] => { results := [.lit (.bool false)], args := [d1, d2, d3, d4, d5] }
  | _ => none }
def HeadTellsWrongFalsely : Prop := headTellsRow.holds Try.pinned (OpenSpec.ofChange headTellsWrong)

/-- 'truchmanlaw7.HeadRuns': WHATEVER THE INPUT: true; the input reads as it did. -/
def headRunsSpec : ChangeSpec := { name := "headRuns", fn := fun _ => fun
  | [d] => { results := [.lit (.bool true)], args := [d] }
  | _ => none }
def headRunsRow : OpenClaim := { program := "ytogindldfpinjaa", sum := "010a81182dac3f42d5d0bd118765d254afa9155f726a2ccbdfbc9e3dafe816d5", func := "truchman/truchmanlaw7.HeadRuns", spec := "headRuns", apart := false }
def HeadRunsSaid : Prop := headRunsRow.holds Try.pinned (OpenSpec.ofChange headRunsSpec)

/-- ITS FALSE NEIGHBOUR: 'it returns false'. Refute it at one input. -/
def headRunsWrong : ChangeSpec := { name := "headRuns", fn := fun _ => fun
  | [d] => { results := [.lit (.bool false)], args := [d] }
  | _ => none }
def HeadRunsWrongFalsely : Prop := headRunsRow.holds Try.pinned (OpenSpec.ofChange headRunsWrong)

/- THE SECOND FORM. 'bulk': how many values and letters a reading holds, each counted each time it is reached (what is shared counts as often as it is met; a slice's spare places count too). A statement '..UptoSaid' is the law's where the arguments, and the package variables that the reading takes, are together of bulk at most 1048576: NARROWER than '..Said'. Prove '..Said' where nothing that the law and all that it calls make is longer than what came in: it says more and counts as full. Else prove '..UptoSaid'. A law counts once. -/
mutual
def uptoBulk {H : Type} : DataW H → Nat
  | .lit (.string bytes) => bytes.length + 1
  | .lit _ => 1
  | .nil => 1
  | .ptr d => uptoBulk d + 1
  | .slice elems spare => uptoBulkAll elems + uptoBulkAll spare + 1
  | .agg parts => uptoBulkAll parts + 1
  | .iface _ d => uptoBulk d + 1
  | .map entries => uptoBulkEntries entries + 1
  | .held _ => 1
def uptoBulkAll {H : Type} : List (DataW H) → Nat
  | [] => 0
  | d :: r => uptoBulk d + uptoBulkAll r
def uptoBulkEntries {H : Type} : List (Lit × DataW H) → Nat
  | [] => 0
  | x :: r => uptoBulkEntry x + uptoBulkEntries r
def uptoBulkEntry {H : Type} : Lit × DataW H → Nat
  | (.string bytes, d) => bytes.length + uptoBulk d + 1
  | (_, d) => uptoBulk d + 1
 end
def uptoSmall : (H : Type) → List (DataW H) → Bool := fun _ ds => decide (uptoBulkAll ds ≤ 1048576)
def OpenSpec.upto (s : _root_.Go.ChangeSpec) : _root_.Go.OpenSpec := { _root_.Go.OpenSpec.ofChange s with cond := some uptoSmall }

/-- 'truchmanlaw7.HeadBack', WHERE WHAT IT READS IS OF BULK AT MOST 1048576: true; the input reads as it did. -/
def headBackUptoRow : OpenClaim := { program := "ytogindldfpinjaa", sum := "010a81182dac3f42d5d0bd118765d254afa9155f726a2ccbdfbc9e3dafe816d5", func := "truchman/truchmanlaw7.HeadBack", spec := "headBack", apart := false, narrowed := true }
def HeadBackUptoSaid : Prop := headBackUptoRow.holds Try.pinned (OpenSpec.upto headBackSpec)

/-- 'truchmanlaw7.HeadSizes', WHERE WHAT IT READS IS OF BULK AT MOST 1048576: true; the input reads as it did. -/
def headSizesUptoRow : OpenClaim := { program := "ytogindldfpinjaa", sum := "010a81182dac3f42d5d0bd118765d254afa9155f726a2ccbdfbc9e3dafe816d5", func := "truchman/truchmanlaw7.HeadSizes", spec := "headSizes", apart := false, narrowed := true }
def HeadSizesUptoSaid : Prop := headSizesUptoRow.holds Try.pinned (OpenSpec.upto headSizesSpec)

/-- 'truchmanlaw7.HeadLong', WHERE WHAT IT READS IS OF BULK AT MOST 1048576: true; the input reads as it did. -/
def headLongUptoRow : OpenClaim := { program := "ytogindldfpinjaa", sum := "010a81182dac3f42d5d0bd118765d254afa9155f726a2ccbdfbc9e3dafe816d5", func := "truchman/truchmanlaw7.HeadLong", spec := "headLong", apart := false, narrowed := true }
def HeadLongUptoSaid : Prop := headLongUptoRow.holds Try.pinned (OpenSpec.upto headLongSpec)

/-- 'truchmanlaw7.HeadTells', WHERE WHAT IT READS IS OF BULK AT MOST 1048576: true; the input reads as it did. -/
def headTellsUptoRow : OpenClaim := { program := "ytogindldfpinjaa", sum := "010a81182dac3f42d5d0bd118765d254afa9155f726a2ccbdfbc9e3dafe816d5", func := "truchman/truchmanlaw7.HeadTells", spec := "headTells", apart := false, narrowed := true }
def HeadTellsUptoSaid : Prop := headTellsUptoRow.holds Try.pinned (OpenSpec.upto headTellsSpec)

/-- 'truchmanlaw7.HeadRuns', WHERE WHAT IT READS IS OF BULK AT MOST 1048576: true; the input reads as it did. -/
def headRunsUptoRow : OpenClaim := { program := "ytogindldfpinjaa", sum := "010a81182dac3f42d5d0bd118765d254afa9155f726a2ccbdfbc9e3dafe816d5", func := "truchman/truchmanlaw7.HeadRuns", spec := "headRuns", apart := false, narrowed := true }
def HeadRunsUptoSaid : Prop := headRunsUptoRow.holds Try.pinned (OpenSpec.upto headRunsSpec)

end Rows
end Go.Proofs.Ytogindldfpinjaa
