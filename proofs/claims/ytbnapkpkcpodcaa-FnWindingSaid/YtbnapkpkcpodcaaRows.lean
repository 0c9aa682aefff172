/-
  No cell of these rows narrows 'for every input' (looked for: loops, veiled, ifaces, maps, wideKeys, modest, calm, conditions, laid).
  DERIVED. THE GIVEN ROWS OF THIS SEAT. 4 by the template 'for every input the law returns true; each argument reads behind the call as it read before'; 0 by the template 'total and deterministic' (their statements: YtbnapkpkcpodcaaTotals.lean).
  GIVEN WITH THE SEED: the statements are not yours to turn. If you find one false, say at which input.
  Laid BY PROGRAM, IN A SANDBOX (cutbox-rows.mjs): the forced cells as the released guide's own fill.sh prints them over the translation b5ff66fa9c4700e9… (all of the seat's roots in one cut). By AI agents, Wed Nov 11 2026. No macro, syntax, notation, axiom, sorry.
-/
import Derived.Test.YtbnapkpkcpodcaaChecked
import GoSem.Claim
import GoSem.ClaimJoined
import GoSem.ClaimMapViews
import Derived.JoinedTies
import Derived.KernelRfl
namespace Go.Proofs.Ytbnapkpkcpodcaa
/- THE CELL 'sum', in the pinned program and in every row, IS THE sha256 OF THE DUMP (.gsa) THAT YtbnapkpkcpodcaaProg.lean LOADS. Nothing in Lean hashes anything: it is a label: what it is worth is what the hold of that sum in a sandbox is worth. -/
noncomputable def Try.pinned : Pinned := { name := "ytbnapkpkcpodcaa", sum := "b5ff66fa9c4700e9a9b23aa8be0e4c25f2218acae704b6f378112eedd49a685f", checked := Try.checked }
namespace Rows
def none {H : Type} : Left H := { results := [], args := [] }

/-- 'laws.FnCoverConj': WHATEVER THE INPUT: true; the input reads as it did. -/
def fnCoverConjSpec : ChangeSpec := { name := "fnCoverConj", fn := fun _ => fun
  | [d] => { results := [.lit (.bool true)], args := [d] }
  | _ => none }
def fnCoverConjRow : OpenClaim := { program := "ytbnapkpkcpodcaa", sum := "b5ff66fa9c4700e9a9b23aa8be0e4c25f2218acae704b6f378112eedd49a685f", func := "loop.example/surfacemaps/laws.FnCoverConj", spec := "fnCoverConj", apart := false }
def FnCoverConjSaid : Prop := fnCoverConjRow.holds Try.pinned (OpenSpec.ofChange fnCoverConjSpec)

/-- ITS FALSE NEIGHBOUR: 'it returns false'. Refute it at one input. -/
def fnCoverConjWrong : ChangeSpec := { name := "fnCoverConj", fn := fun _ => fun
  | [d] => { results := [.lit (.bool false)], args := [d] }
  | _ => none }
def FnCoverConjWrongFalsely : Prop := fnCoverConjRow.holds Try.pinned (OpenSpec.ofChange fnCoverConjWrong)

/-- 'laws.FnCoverTree': WHATEVER THE INPUT: true; the input reads as it did. -/
def fnCoverTreeSpec : ChangeSpec := { name := "fnCoverTree", fn := fun _ => fun
  | [d] => { results := [.lit (.bool true)], args := [d] }
  | _ => none }
def fnCoverTreeRow : OpenClaim := { program := "ytbnapkpkcpodcaa", sum := "b5ff66fa9c4700e9a9b23aa8be0e4c25f2218acae704b6f378112eedd49a685f", func := "loop.example/surfacemaps/laws.FnCoverTree", spec := "fnCoverTree", apart := false }
def FnCoverTreeSaid : Prop := fnCoverTreeRow.holds Try.pinned (OpenSpec.ofChange fnCoverTreeSpec)

/-- ITS FALSE NEIGHBOUR: 'it returns false'. Refute it at one input. -/
def fnCoverTreeWrong : ChangeSpec := { name := "fnCoverTree", fn := fun _ => fun
  | [d] => { results := [.lit (.bool false)], args := [d] }
  | _ => none }
def FnCoverTreeWrongFalsely : Prop := fnCoverTreeRow.holds Try.pinned (OpenSpec.ofChange fnCoverTreeWrong)

/-- 'laws.FnCover': WHATEVER THE INPUT: true; the input reads as it did. -/
def fnCoverSpec : ChangeSpec := { name := "fnCover", fn := fun _ => fun
  | [d] => { results := [.lit (.bool true)], args := [d] }
  | _ => none }
def fnCoverRow : OpenClaim := { program := "ytbnapkpkcpodcaa", sum := "b5ff66fa9c4700e9a9b23aa8be0e4c25f2218acae704b6f378112eedd49a685f", func := "loop.example/surfacemaps/laws.FnCover", spec := "fnCover", recurses := true, apart := false }
def FnCoverSaid : Prop := fnCoverRow.holds Try.pinned (OpenSpec.ofChange fnCoverSpec)

/-- ITS FALSE NEIGHBOUR: 'it returns false'. Refute it at one input. -/
def fnCoverWrong : ChangeSpec := { name := "fnCover", fn := fun _ => fun
  | [d] => { results := [.lit (.bool false)], args := [d] }
  | _ => none }
def FnCoverWrongFalsely : Prop := fnCoverRow.holds Try.pinned (OpenSpec.ofChange fnCoverWrong)

/-- 'laws.FnWinding': WHATEVER THE INPUT: true; the input reads as it did. -/
def fnWindingSpec : ChangeSpec := { name := "fnWinding", fn := fun _ => fun
  | [d] => { results := [.lit (.bool true)], args := [d] }
  | _ => none }
def fnWindingRow : OpenClaim := { program := "ytbnapkpkcpodcaa", sum := "b5ff66fa9c4700e9a9b23aa8be0e4c25f2218acae704b6f378112eedd49a685f", func := "loop.example/surfacemaps/laws.FnWinding", spec := "fnWinding", recurses := true, apart := false }
def FnWindingSaid : Prop := fnWindingRow.holds Try.pinned (OpenSpec.ofChange fnWindingSpec)

/-- ITS FALSE NEIGHBOUR: 'it returns false'. Refute it at one input. -/
def fnWindingWrong : ChangeSpec := { name := "fnWinding", fn := fun _ => fun
  | [d] => { results := [.lit (.bool false)], args := [d] }
  | _ => none }
def FnWindingWrongFalsely : Prop := fnWindingRow.holds Try.pinned (OpenSpec.ofChange fnWindingWrong)

/- THE SECOND FORM. 'bulk': how many values and letters a reading holds, each counted each time it is reached (what is shared counts as often as it is met; a slice's spare places count too). A statement '..UptoSaid' is the law's where the arguments, and the package variables that the reading takes, are together of bulk at most 1048576: NARROWER than '..Said'. Prove '..Said' where nothing that the law and all that it calls make is longer than what came in: it says more and counts as full. Else prove '..UptoSaid'. A law counts once. -/
mutual
def uptoBulk {H : Type} : DataW H → Nat
  | .lit (.string bytes) => bytes.length + 1
  | .lit _ => 1
  | .nil => 1
  | .ptr d => uptoBulk d + 1
  | .slice elems spare => uptoBulkAll elems + uptoBulkAll spare + 1
  | .agg parts => uptoBulkAll parts + 1
  | .iface _ d => uptoBulk d + 1
  | .map entries => uptoBulkEntries entries + 1
  | .held _ => 1
def uptoBulkAll {H : Type} : List (DataW H) → Nat
  | [] => 0
  | d :: r => uptoBulk d + uptoBulkAll r
def uptoBulkEntries {H : Type} : List (Lit × DataW H) → Nat
  | [] => 0
  | x :: r => uptoBulkEntry x + uptoBulkEntries r
def uptoBulkEntry {H : Type} : Lit × DataW H → Nat
  | (.string bytes, d) => bytes.length + uptoBulk d + 1
  | (_, d) => uptoBulk d + 1
 end
def uptoSmall : (H : Type) → List (DataW H) → Bool := fun _ ds => decide (uptoBulkAll ds ≤ 1048576)
def OpenSpec.upto (s : _root_.Go.ChangeSpec) : _root_.Go.OpenSpec := { _root_.Go.OpenSpec.ofChange s with cond := some uptoSmall }

/-- 'laws.FnCoverConj', WHERE WHAT IT READS IS OF BULK AT MOST 1048576: true; the input reads as it did. -/
def fnCoverConjUptoRow : OpenClaim := { program := "ytbnapkpkcpodcaa", sum := "b5ff66fa9c4700e9a9b23aa8be0e4c25f2218acae704b6f378112eedd49a685f", func := "loop.example/surfacemaps/laws.FnCoverConj", spec := "fnCoverConj", apart := false, narrowed := true }
def FnCoverConjUptoSaid : Prop := fnCoverConjUptoRow.holds Try.pinned (OpenSpec.upto fnCoverConjSpec)

/-- 'laws.FnCoverTree', WHERE WHAT IT READS IS OF BULK AT MOST 1048576: true; the input reads as it did. -/
def fnCoverTreeUptoRow : OpenClaim := { program := "ytbnapkpkcpodcaa", sum := "b5ff66fa9c4700e9a9b23aa8be0e4c25f2218acae704b6f378112eedd49a685f", func := "loop.example/surfacemaps/laws.FnCoverTree", spec := "fnCoverTree", apart := false, narrowed := true }
def FnCoverTreeUptoSaid : Prop := fnCoverTreeUptoRow.holds Try.pinned (OpenSpec.upto fnCoverTreeSpec)

/-- 'laws.FnCover', WHERE WHAT IT READS IS OF BULK AT MOST 1048576: true; the input reads as it did. -/
def fnCoverUptoRow : OpenClaim := { program := "ytbnapkpkcpodcaa", sum := "b5ff66fa9c4700e9a9b23aa8be0e4c25f2218acae704b6f378112eedd49a685f", func := "loop.example/surfacemaps/laws.FnCover", spec := "fnCover", recurses := true, apart := false, narrowed := true }
def FnCoverUptoSaid : Prop := fnCoverUptoRow.holds Try.pinned (OpenSpec.upto fnCoverSpec)

/-- 'laws.FnWinding', WHERE WHAT IT READS IS OF BULK AT MOST 1048576: true; the input reads as it did. -/
def fnWindingUptoRow : OpenClaim := { program := "ytbnapkpkcpodcaa", sum := "b5ff66fa9c4700e9a9b23aa8be0e4c25f2218acae704b6f378112eedd49a685f", func := "loop.example/surfacemaps/laws.FnWinding", spec := "fnWinding", recurses := true, apart := false, narrowed := true }
def FnWindingUptoSaid : Prop := fnWindingUptoRow.holds Try.pinned (OpenSpec.upto fnWindingSpec)

end Rows
end Go.Proofs.Ytbnapkpkcpodcaa
