/-
  No cell of these rows narrows 'for every input' (looked for: loops, veiled, ifaces, maps, wideKeys, modest, calm, conditions, laid).
  DERIVED. THE GIVEN ROWS OF THIS SEAT. 7 by the template 'for every input the law returns true; each argument reads behind the call as it read before'; 0 by the template 'total and deterministic' (their statements: YtjegeoeebbfajaaTotals.lean).
  GIVEN WITH THE SEED: the statements are not yours to turn. If you find one false, say at which input.
  Laid BY PROGRAM, IN A SANDBOX (cutbox-rows.mjs): the forced cells as the released guide's own fill.sh prints them over the translation f043ff19cf0e4217… (all of the seat's roots in one cut). By AI agents, Wed Nov 11 2026. No macro, syntax, notation, axiom, sorry.
-/
import Derived.Test.YtjegeoeebbfajaaChecked
import GoSem.Claim
import GoSem.ClaimJoined
import GoSem.ClaimMapViews
import Derived.JoinedTies
import Derived.KernelRfl
namespace Go.Proofs.Ytjegeoeebbfajaa
/- THE CELL 'sum', in the pinned program and in every row, IS THE sha256 OF THE DUMP (.gsa) THAT YtjegeoeebbfajaaProg.lean LOADS. Nothing in Lean hashes anything: it is a label: what it is worth is what the hold of that sum in a sandbox is worth. -/
noncomputable def Try.pinned : Pinned := { name := "ytjegeoeebbfajaa", sum := "f043ff19cf0e42178b8cf05273e51edb7f3fcbb54dd6cdcb61995eb41bcc19a3", checked := Try.checked }
namespace Rows
def none {H : Type} : Left H := { results := [], args := [] }

/-- 'truchmanlaw14.CboroutTells': WHATEVER THE INPUT: true; the input reads as it did. -/
def cboroutTellsSpec : ChangeSpec := { name := "cboroutTells", fn := fun _ => fun
  | [d] => { results := [.lit (.bool true)], args := [d] }
  | _ => none }
def cboroutTellsRow : OpenClaim := { program := "ytjegeoeebbfajaa", sum := "f043ff19cf0e42178b8cf05273e51edb7f3fcbb54dd6cdcb61995eb41bcc19a3", func := "truchman/truchmanlaw14.CboroutTells", spec := "cboroutTells", apart := false }
def CboroutTellsSaid : Prop := cboroutTellsRow.holds Try.pinned (OpenSpec.ofChange cboroutTellsSpec)

/-- ITS FALSE NEIGHBOUR: 'it returns false'. Refute it at one input. -/
def cboroutTellsWrong : ChangeSpec := { name := "cboroutTells", fn := fun _ => fun
  | [d] => { results := [.lit (.bool false)], args := [d] }
  | _ => none }
def CboroutTellsWrongFalsely : Prop := cboroutTellsRow.holds Try.pinned (OpenSpec.ofChange cboroutTellsWrong)

/-- 'truchmanlaw14.CboroutRefuses': WHATEVER THE INPUT: true; the input reads as it did. -/
def cboroutRefusesSpec : ChangeSpec := { name := "cboroutRefuses", fn := fun _ => fun
  | [d1, d2, d3] => { results := [.lit (.bool true)], args := [d1, d2, d3] }
  | _ => none }
def cboroutRefusesRow : OpenClaim := { program := "ytjegeoeebbfajaa", sum := "f043ff19cf0e42178b8cf05273e51edb7f3fcbb54dd6cdcb61995eb41bcc19a3", func := "truchman/truchmanlaw14.CboroutRefuses", spec := "cboroutRefuses", unfollowed := true, recurses := true, apart := false }
def CboroutRefusesSaid : Prop := cboroutRefusesRow.holds Try.pinned (OpenSpec.ofChange cboroutRefusesSpec)

/-- ITS FALSE NEIGHBOUR: 'it returns false'. Refute it at one input. -/
def cboroutRefusesWrong : ChangeSpec := { name := "cboroutRefuses", fn := fun _ => fun
  | [d1, d2, d3] => { results := [.lit (.bool false)], args := [d1, d2, d3] }
  | _ => none }
def CboroutRefusesWrongFalsely : Prop := cboroutRefusesRow.holds Try.pinned (OpenSpec.ofChange cboroutRefusesWrong)

/-- 'truchmanlaw14.CboroutEnds': WHATEVER THE INPUT: true; the input reads as it did. -/
def cboroutEndsSpec : ChangeSpec := { name := "cboroutEnds", fn := fun _ => fun
  | [d1, d2] => { results := [.lit (.bool true)], args := [d1, d2] }
  | _ => none }
def cboroutEndsRow : OpenClaim := { program := "ytjegeoeebbfajaa", sum := "f043ff19cf0e42178b8cf05273e51edb7f3fcbb54dd6cdcb61995eb41bcc19a3", func := "truchman/truchmanlaw14.CboroutEnds", spec := "cboroutEnds", unfollowed := true, recurses := true, apart := false }
def CboroutEndsSaid : Prop := cboroutEndsRow.holds Try.pinned (OpenSpec.ofChange cboroutEndsSpec)

/-- ITS FALSE NEIGHBOUR: 'it returns false'. Refute it at one input. -/
def cboroutEndsWrong : ChangeSpec := { name := "cboroutEnds", fn := fun _ => fun
  | [d1, d2] => { results := [.lit (.bool false)], args := [d1, d2] }
  | _ => none }
def CboroutEndsWrongFalsely : Prop := cboroutEndsRow.holds Try.pinned (OpenSpec.ofChange cboroutEndsWrong)

/-- 'truchmanlaw14.CboroutShort': WHATEVER THE INPUT: true; the input reads as it did. -/
def cboroutShortSpec : ChangeSpec := { name := "cboroutShort", fn := fun _ => fun
  | [d] => { results := [.lit (.bool true)], args := [d] }
  | _ => none }
def cboroutShortRow : OpenClaim := { program := "ytjegeoeebbfajaa", sum := "f043ff19cf0e42178b8cf05273e51edb7f3fcbb54dd6cdcb61995eb41bcc19a3", func := "truchman/truchmanlaw14.CboroutShort", spec := "cboroutShort", unfollowed := true, recurses := true, apart := false }
def CboroutShortSaid : Prop := cboroutShortRow.holds Try.pinned (OpenSpec.ofChange cboroutShortSpec)

/-- ITS FALSE NEIGHBOUR: 'it returns false'. Refute it at one input. -/
def cboroutShortWrong : ChangeSpec := { name := "cboroutShort", fn := fun _ => fun
  | [d] => { results := [.lit (.bool false)], args := [d] }
  | _ => none }
def CboroutShortWrongFalsely : Prop := cboroutShortRow.holds Try.pinned (OpenSpec.ofChange cboroutShortWrong)

/-- 'truchmanlaw14.CboroutWholes': WHATEVER THE INPUT: true; the input reads as it did. -/
def cboroutWholesSpec : ChangeSpec := { name := "cboroutWholes", fn := fun _ => fun
  | [d] => { results := [.lit (.bool true)], args := [d] }
  | _ => none }
def cboroutWholesRow : OpenClaim := { program := "ytjegeoeebbfajaa", sum := "f043ff19cf0e42178b8cf05273e51edb7f3fcbb54dd6cdcb61995eb41bcc19a3", func := "truchman/truchmanlaw14.CboroutWholes", spec := "cboroutWholes", apart := false }
def CboroutWholesSaid : Prop := cboroutWholesRow.holds Try.pinned (OpenSpec.ofChange cboroutWholesSpec)

/-- ITS FALSE NEIGHBOUR: 'it returns false'. Refute it at one input. -/
def cboroutWholesWrong : ChangeSpec := { name := "cboroutWholes", fn := fun _ => fun
  | [d] => { results := [.lit (.bool false)], args := [d] }
  | _ => none }
def CboroutWholesWrongFalsely : Prop := cboroutWholesRow.holds Try.pinned (OpenSpec.ofChange cboroutWholesWrong)

/-- 'truchmanlaw14.CboroutCounts': WHATEVER THE INPUT: true; the input reads as it did. -/
def cboroutCountsSpec : ChangeSpec := { name := "cboroutCounts", fn := fun _ => fun
  | [d1, d2, d3] => { results := [.lit (.bool true)], args := [d1, d2, d3] }
  | _ => none }
def cboroutCountsRow : OpenClaim := { program := "ytjegeoeebbfajaa", sum := "f043ff19cf0e42178b8cf05273e51edb7f3fcbb54dd6cdcb61995eb41bcc19a3", func := "truchman/truchmanlaw14.CboroutCounts", spec := "cboroutCounts", apart := false }
def CboroutCountsSaid : Prop := cboroutCountsRow.holds Try.pinned (OpenSpec.ofChange cboroutCountsSpec)

/-- ITS FALSE NEIGHBOUR: 'it returns false'. Refute it at one input. -/
def cboroutCountsWrong : ChangeSpec := { name := "cboroutCounts", fn := fun _ => fun
  | [d1, d2, d3] => { results := [.lit (.bool false)], args := [d1, d2, d3] }
  | _ => none }
def CboroutCountsWrongFalsely : Prop := cboroutCountsRow.holds Try.pinned (OpenSpec.ofChange cboroutCountsWrong)

/-- 'truchmanlaw14.CboroutTexts': WHATEVER THE INPUT: true; the input reads as it did. -/
def cboroutTextsSpec : ChangeSpec := { name := "cboroutTexts", fn := fun _ => fun
  | [d1, d2] => { results := [.lit (.bool true)], args := [d1, d2] }
  | _ => none }
def cboroutTextsRow : OpenClaim := { program := "ytjegeoeebbfajaa", sum := "f043ff19cf0e42178b8cf05273e51edb7f3fcbb54dd6cdcb61995eb41bcc19a3", func := "truchman/truchmanlaw14.CboroutTexts", spec := "cboroutTexts", apart := false }
def CboroutTextsSaid : Prop := cboroutTextsRow.holds Try.pinned (OpenSpec.ofChange cboroutTextsSpec)

/-- ITS FALSE NEIGHBOUR: 'it returns false'. Refute it at one input. -/
def cboroutTextsWrong : ChangeSpec := { name := "cboroutTexts", fn := fun _ => fun
  | [d1, d2] => { results := [.lit (.bool false)], args := [d1, d2] }
  | _ => none }
def CboroutTextsWrongFalsely : Prop := cboroutTextsRow.holds Try.pinned (OpenSpec.ofChange cboroutTextsWrong)

/- THE SECOND FORM. 'bulk': how many values and letters a reading holds, each counted each time it is reached (what is shared counts as often as it is met; a slice's spare places count too). A statement '..UptoSaid' is the law's where the arguments, and the package variables that the reading takes, are together of bulk at most 1048576: NARROWER than '..Said'. Prove '..Said' where nothing that the law and all that it calls make is longer than what came in: it says more and counts as full. Else prove '..UptoSaid'. A law counts once. -/
mutual
def uptoBulk {H : Type} : DataW H → Nat
  | .lit (.string bytes) => bytes.length + 1
  | .lit _ => 1
  | .nil => 1
  | .ptr d => uptoBulk d + 1
  | .slice elems spare => uptoBulkAll elems + uptoBulkAll spare + 1
  | .agg parts => uptoBulkAll parts + 1
  | .iface _ d => uptoBulk d + 1
  | .map entries => uptoBulkEntries entries + 1
  | .held _ => 1
def uptoBulkAll {H : Type} : List (DataW H) → Nat
  | [] => 0
  | d :: r => uptoBulk d + uptoBulkAll r
def uptoBulkEntries {H : Type} : List (Lit × DataW H) → Nat
  | [] => 0
  | x :: r => uptoBulkEntry x + uptoBulkEntries r
def uptoBulkEntry {H : Type} : Lit × DataW H → Nat
  | (.string bytes, d) => bytes.length + uptoBulk d + 1
  | (_, d) => uptoBulk d + 1
 end
def uptoSmall : (H : Type) → List (DataW H) → Bool := fun _ ds => decide (uptoBulkAll ds ≤ 1048576)
def OpenSpec.upto (s : _root_.Go.ChangeSpec) : _root_.Go.OpenSpec := { _root_.Go.OpenSpec.ofChange s with cond := some uptoSmall }

/-- 'truchmanlaw14.CboroutTells', WHERE WHAT IT READS IS OF BULK AT MOST 1048576: true; the input reads as it did. -/
def cboroutTellsUptoRow : OpenClaim := { program := "ytjegeoeebbfajaa", sum := "f043ff19cf0e42178b8cf05273e51edb7f3fcbb54dd6cdcb61995eb41bcc19a3", func := "truchman/truchmanlaw14.CboroutTells", spec := "cboroutTells", apart := false, narrowed := true }
def CboroutTellsUptoSaid : Prop := cboroutTellsUptoRow.holds Try.pinned (OpenSpec.upto cboroutTellsSpec)

/-- 'truchmanlaw14.CboroutRefuses', WHERE WHAT IT READS IS OF BULK AT MOST 1048576: true; the input reads as it did. -/
def cboroutRefusesUptoRow : OpenClaim := { program := "ytjegeoeebbfajaa", sum := "f043ff19cf0e42178b8cf05273e51edb7f3fcbb54dd6cdcb61995eb41bcc19a3", func := "truchman/truchmanlaw14.CboroutRefuses", spec := "cboroutRefuses", unfollowed := true, recurses := true, apart := false, narrowed := true }
def CboroutRefusesUptoSaid : Prop := cboroutRefusesUptoRow.holds Try.pinned (OpenSpec.upto cboroutRefusesSpec)

/-- 'truchmanlaw14.CboroutEnds', WHERE WHAT IT READS IS OF BULK AT MOST 1048576: true; the input reads as it did. -/
def cboroutEndsUptoRow : OpenClaim := { program := "ytjegeoeebbfajaa", sum := "f043ff19cf0e42178b8cf05273e51edb7f3fcbb54dd6cdcb61995eb41bcc19a3", func := "truchman/truchmanlaw14.CboroutEnds", spec := "cboroutEnds", unfollowed := true, recurses := true, apart := false, narrowed := true }
def CboroutEndsUptoSaid : Prop := cboroutEndsUptoRow.holds Try.pinned (OpenSpec.upto cboroutEndsSpec)

/-- 'truchmanlaw14.CboroutShort', WHERE WHAT IT READS IS OF BULK AT MOST 1048576: true; the input reads as it did. -/
def cboroutShortUptoRow : OpenClaim := { program := "ytjegeoeebbfajaa", sum := "f043ff19cf0e42178b8cf05273e51edb7f3fcbb54dd6cdcb61995eb41bcc19a3", func := "truchman/truchmanlaw14.CboroutShort", spec := "cboroutShort", unfollowed := true, recurses := true, apart := false, narrowed := true }
def CboroutShortUptoSaid : Prop := cboroutShortUptoRow.holds Try.pinned (OpenSpec.upto cboroutShortSpec)

/-- 'truchmanlaw14.CboroutWholes', WHERE WHAT IT READS IS OF BULK AT MOST 1048576: true; the input reads as it did. -/
def cboroutWholesUptoRow : OpenClaim := { program := "ytjegeoeebbfajaa", sum := "f043ff19cf0e42178b8cf05273e51edb7f3fcbb54dd6cdcb61995eb41bcc19a3", func := "truchman/truchmanlaw14.CboroutWholes", spec := "cboroutWholes", apart := false, narrowed := true }
def CboroutWholesUptoSaid : Prop := cboroutWholesUptoRow.holds Try.pinned (OpenSpec.upto cboroutWholesSpec)

/-- 'truchmanlaw14.CboroutCounts', WHERE WHAT IT READS IS OF BULK AT MOST 1048576: true; the input reads as it did. -/
def cboroutCountsUptoRow : OpenClaim := { program := "ytjegeoeebbfajaa", sum := "f043ff19cf0e42178b8cf05273e51edb7f3fcbb54dd6cdcb61995eb41bcc19a3", func := "truchman/truchmanlaw14.CboroutCounts", spec := "cboroutCounts", apart := false, narrowed := true }
def CboroutCountsUptoSaid : Prop := cboroutCountsUptoRow.holds Try.pinned (OpenSpec.upto cboroutCountsSpec)

/-- 'truchmanlaw14.CboroutTexts', WHERE WHAT IT READS IS OF BULK AT MOST 1048576: true; the input reads as it did. -/
def cboroutTextsUptoRow : OpenClaim := { program := "ytjegeoeebbfajaa", sum := "f043ff19cf0e42178b8cf05273e51edb7f3fcbb54dd6cdcb61995eb41bcc19a3", func := "truchman/truchmanlaw14.CboroutTexts", spec := "cboroutTexts", apart := false, narrowed := true }
def CboroutTextsUptoSaid : Prop := cboroutTextsUptoRow.holds Try.pinned (OpenSpec.upto cboroutTextsSpec)

end Rows
end Go.Proofs.Ytjegeoeebbfajaa
