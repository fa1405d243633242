/-
  No cell of these rows narrows 'for every input' (looked for: loops, veiled, ifaces, maps, wideKeys, modest, calm, conditions, laid).
  DERIVED. THE GIVEN ROWS OF THIS SEAT. 5 by the template 'for every input the law returns true; each argument reads behind the call as it read before'; 0 by the template 'total and deterministic' (their statements: YtbofkbhobcahiaaGreatTotals.lean).
  GIVEN WITH THE SEED: the statements are not yours to turn. If you find one false, say at which input.
  Laid BY PROGRAM, IN A SANDBOX (cutbox-rows.mjs): the forced cells as the released guide's own fill.sh prints them over the translation 5b9c3ea1c07c5f02… (all of the seat's roots in one cut). By AI agents, Wed Nov 11 2026. No macro, syntax, notation, axiom, sorry.
-/
import Derived.Test.YtbofkbhobcahiaaGreatChecked
import GoSem.Claim
import GoSem.ClaimJoined
import GoSem.ClaimMapViews
import Derived.JoinedTies
import Derived.KernelRfl
namespace Go.Proofs.YtbofkbhobcahiaaGreat
/- THE CELL 'sum', in the pinned program and in every row, IS THE sha256 OF THE DUMP (.gsa) THAT YtbofkbhobcahiaaGreatProg.lean LOADS. Nothing in Lean hashes anything: it is a label: what it is worth is what the hold of that sum in a sandbox is worth. -/
noncomputable def Tryz.pinned : Pinned := { name := "ytbofkbhobcahiaagreat", sum := "5b9c3ea1c07c5f028ac7ab36628d637a1ea8a859d3fb465fc95f14f51da835a9", checked := Tryz.checked }
namespace Rows
def none {H : Type} : Left H := { results := [], args := [] }

/-- 'pianolalaw15.BusNumbers': WHATEVER THE INPUT: true; the input reads as it did. -/
def busNumbersSpec : ChangeSpec := { name := "busNumbers", fn := fun _ => fun
  | [] => { results := [.lit (.bool true)], args := [] }
  | _ => none }
def busNumbersRow : OpenClaim := { program := "ytbofkbhobcahiaagreat", sum := "5b9c3ea1c07c5f028ac7ab36628d637a1ea8a859d3fb465fc95f14f51da835a9", func := "pianola/pianolalaw15.BusNumbers", spec := "busNumbers", unfollowed := true, recurses := true, apart := false }
def BusNumbersSaid : Prop := busNumbersRow.holds Tryz.pinned (OpenSpec.ofChange busNumbersSpec)

/-- ITS FALSE NEIGHBOUR: 'it returns false'. Refute it at one input. -/
def busNumbersWrong : ChangeSpec := { name := "busNumbers", fn := fun _ => fun
  | [] => { results := [.lit (.bool false)], args := [] }
  | _ => none }
def BusNumbersWrongFalsely : Prop := busNumbersRow.holds Tryz.pinned (OpenSpec.ofChange busNumbersWrong)

/-- 'pianolalaw21.BlockNumbers': WHATEVER THE INPUT: true; the input reads as it did. -/
def blockNumbersSpec : ChangeSpec := { name := "blockNumbers", fn := fun _ => fun
  | [] => { results := [.lit (.bool true)], args := [] }
  | _ => none }
def blockNumbersRow : OpenClaim := { program := "ytbofkbhobcahiaagreat", sum := "5b9c3ea1c07c5f028ac7ab36628d637a1ea8a859d3fb465fc95f14f51da835a9", func := "pianola/pianolalaw21.BlockNumbers", spec := "blockNumbers", unfollowed := true, recurses := true, apart := false }
def BlockNumbersSaid : Prop := blockNumbersRow.holds Tryz.pinned (OpenSpec.ofChange blockNumbersSpec)

/-- ITS FALSE NEIGHBOUR: 'it returns false'. Refute it at one input. -/
def blockNumbersWrong : ChangeSpec := { name := "blockNumbers", fn := fun _ => fun
  | [] => { results := [.lit (.bool false)], args := [] }
  | _ => none }
def BlockNumbersWrongFalsely : Prop := blockNumbersRow.holds Tryz.pinned (OpenSpec.ofChange blockNumbersWrong)

/-- 'pianolalaw21.BlockTells': WHATEVER THE INPUT: true; the input reads as it did. -/
def blockTellsSpec : ChangeSpec := { name := "blockTells", fn := fun _ => fun
  | [d1, d2, d3, d4, d5] => { results := [.lit (.bool true)], args := [d1, d2, d3, d4, d5] }
  | _ => none }
def blockTellsRow : OpenClaim := { program := "ytbofkbhobcahiaagreat", sum := "5b9c3ea1c07c5f028ac7ab36628d637a1ea8a859d3fb465fc95f14f51da835a9", func := "pianola/pianolalaw21.BlockTells", spec := "blockTells", unfollowed := true, recurses := true, apart := false }
def BlockTellsSaid : Prop := blockTellsRow.holds Tryz.pinned (OpenSpec.ofChange blockTellsSpec)

/-- ITS FALSE NEIGHBOUR: 'it returns false'. Refute it at one input. -/
def blockTellsWrong : ChangeSpec := { name := "blockTells", fn := fun _ => fun
  | [d1, d2, d3, d4, d5] => { results := [.lit (.bool false)], args := [d1, d2, d3, d4, d5] }
  | _ => none }
def BlockTellsWrongFalsely : Prop := blockTellsRow.holds Tryz.pinned (OpenSpec.ofChange blockTellsWrong)

/-- 'pianolalaw21.BlockEnds': WHATEVER THE INPUT: true; the input reads as it did. -/
def blockEndsSpec : ChangeSpec := { name := "blockEnds", fn := fun _ => fun
  | [d1, d2, d3, d4] => { results := [.lit (.bool true)], args := [d1, d2, d3, d4] }
  | _ => none }
def blockEndsRow : OpenClaim := { program := "ytbofkbhobcahiaagreat", sum := "5b9c3ea1c07c5f028ac7ab36628d637a1ea8a859d3fb465fc95f14f51da835a9", func := "pianola/pianolalaw21.BlockEnds", spec := "blockEnds", unfollowed := true, recurses := true, apart := false }
def BlockEndsSaid : Prop := blockEndsRow.holds Tryz.pinned (OpenSpec.ofChange blockEndsSpec)

/-- ITS FALSE NEIGHBOUR: 'it returns false'. Refute it at one input. -/
def blockEndsWrong : ChangeSpec := { name := "blockEnds", fn := fun _ => fun
  | [d1, d2, d3, d4] => { results := [.lit (.bool false)], args := [d1, d2, d3, d4] }
  | _ => none }
def BlockEndsWrongFalsely : Prop := blockEndsRow.holds Tryz.pinned (OpenSpec.ofChange blockEndsWrong)

/-- 'pianolalaw21.BlockSame': WHATEVER THE INPUT: true; the input reads as it did. -/
def blockSameSpec : ChangeSpec := { name := "blockSame", fn := fun _ => fun
  | [d1, d2, d3, d4] => { results := [.lit (.bool true)], args := [d1, d2, d3, d4] }
  | _ => none }
def blockSameRow : OpenClaim := { program := "ytbofkbhobcahiaagreat", sum := "5b9c3ea1c07c5f028ac7ab36628d637a1ea8a859d3fb465fc95f14f51da835a9", func := "pianola/pianolalaw21.BlockSame", spec := "blockSame", unfollowed := true, recurses := true, apart := false }
def BlockSameSaid : Prop := blockSameRow.holds Tryz.pinned (OpenSpec.ofChange blockSameSpec)

/-- ITS FALSE NEIGHBOUR: 'it returns false'. Refute it at one input. -/
def blockSameWrong : ChangeSpec := { name := "blockSame", fn := fun _ => fun
  | [d1, d2, d3, d4] => { results := [.lit (.bool false)], args := [d1, d2, d3, d4] }
  | _ => none }
def BlockSameWrongFalsely : Prop := blockSameRow.holds Tryz.pinned (OpenSpec.ofChange blockSameWrong)

/- THE SECOND FORM. 'bulk': how many values and letters a reading holds, each counted each time it is reached (what is shared counts as often as it is met; a slice's spare places count too). A statement '..UptoSaid' is the law's where the arguments, and the package variables that the reading takes, are together of bulk at most 1048576: NARROWER than '..Said'. Prove '..Said' where nothing that the law and all that it calls make is longer than what came in: it says more and counts as full. Else prove '..UptoSaid'. A law counts once. -/
mutual
def uptoBulk {H : Type} : DataW H → Nat
  | .lit (.string bytes) => bytes.length + 1
  | .lit _ => 1
  | .nil => 1
  | .ptr d => uptoBulk d + 1
  | .slice elems spare => uptoBulkAll elems + uptoBulkAll spare + 1
  | .agg parts => uptoBulkAll parts + 1
  | .iface _ d => uptoBulk d + 1
  | .map entries => uptoBulkEntries entries + 1
  | .held _ => 1
def uptoBulkAll {H : Type} : List (DataW H) → Nat
  | [] => 0
  | d :: r => uptoBulk d + uptoBulkAll r
def uptoBulkEntries {H : Type} : List (Lit × DataW H) → Nat
  | [] => 0
  | x :: r => uptoBulkEntry x + uptoBulkEntries r
def uptoBulkEntry {H : Type} : Lit × DataW H → Nat
  | (.string bytes, d) => bytes.length + uptoBulk d + 1
  | (_, d) => uptoBulk d + 1
 end
def uptoSmall : (H : Type) → List (DataW H) → Bool := fun _ ds => decide (uptoBulkAll ds ≤ 1048576)
def OpenSpec.upto (s : _root_.Go.ChangeSpec) : _root_.Go.OpenSpec := { _root_.Go.OpenSpec.ofChange s with cond := some uptoSmall }

/-- 'pianolalaw15.BusNumbers', WHERE WHAT IT READS IS OF BULK AT MOST 1048576: true; the input reads as it did. -/
def busNumbersUptoRow : OpenClaim := { program := "ytbofkbhobcahiaagreat", sum := "5b9c3ea1c07c5f028ac7ab36628d637a1ea8a859d3fb465fc95f14f51da835a9", func := "pianola/pianolalaw15.BusNumbers", spec := "busNumbers", unfollowed := true, recurses := true, apart := false, narrowed := true }
def BusNumbersUptoSaid : Prop := busNumbersUptoRow.holds Tryz.pinned (OpenSpec.upto busNumbersSpec)

/-- 'pianolalaw21.BlockNumbers', WHERE WHAT IT READS IS OF BULK AT MOST 1048576: true; the input reads as it did. -/
def blockNumbersUptoRow : OpenClaim := { program := "ytbofkbhobcahiaagreat", sum := "5b9c3ea1c07c5f028ac7ab36628d637a1ea8a859d3fb465fc95f14f51da835a9", func := "pianola/pianolalaw21.BlockNumbers", spec := "blockNumbers", unfollowed := true, recurses := true, apart := false, narrowed := true }
def BlockNumbersUptoSaid : Prop := blockNumbersUptoRow.holds Tryz.pinned (OpenSpec.upto blockNumbersSpec)

/-- 'pianolalaw21.BlockTells', WHERE WHAT IT READS IS OF BULK AT MOST 1048576: true; the input reads as it did. -/
def blockTellsUptoRow : OpenClaim := { program := "ytbofkbhobcahiaagreat", sum := "5b9c3ea1c07c5f028ac7ab36628d637a1ea8a859d3fb465fc95f14f51da835a9", func := "pianola/pianolalaw21.BlockTells", spec := "blockTells", unfollowed := true, recurses := true, apart := false, narrowed := true }
def BlockTellsUptoSaid : Prop := blockTellsUptoRow.holds Tryz.pinned (OpenSpec.upto blockTellsSpec)

/-- 'pianolalaw21.BlockEnds', WHERE WHAT IT READS IS OF BULK AT MOST 1048576: true; the input reads as it did. -/
def blockEndsUptoRow : OpenClaim := { program := "ytbofkbhobcahiaagreat", sum := "5b9c3ea1c07c5f028ac7ab36628d637a1ea8a859d3fb465fc95f14f51da835a9", func := "pianola/pianolalaw21.BlockEnds", spec := "blockEnds", unfollowed := true, recurses := true, apart := false, narrowed := true }
def BlockEndsUptoSaid : Prop := blockEndsUptoRow.holds Tryz.pinned (OpenSpec.upto blockEndsSpec)

/-- 'pianolalaw21.BlockSame', WHERE WHAT IT READS IS OF BULK AT MOST 1048576: true; the input reads as it did. -/
def blockSameUptoRow : OpenClaim := { program := "ytbofkbhobcahiaagreat", sum := "5b9c3ea1c07c5f028ac7ab36628d637a1ea8a859d3fb465fc95f14f51da835a9", func := "pianola/pianolalaw21.BlockSame", spec := "blockSame", unfollowed := true, recurses := true, apart := false, narrowed := true }
def BlockSameUptoSaid : Prop := blockSameUptoRow.holds Tryz.pinned (OpenSpec.upto blockSameSpec)

end Rows
end Go.Proofs.YtbofkbhobcahiaaGreat
