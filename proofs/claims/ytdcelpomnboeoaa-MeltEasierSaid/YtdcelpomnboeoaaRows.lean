/-
  No cell of these rows narrows 'for every input' (looked for: loops, veiled, ifaces, maps, wideKeys, modest, calm, conditions, laid).
  DERIVED. THE GIVEN ROWS OF THIS SEAT. 10 by the template 'for every input the law returns true; each argument reads behind the call as it read before'; 0 by the template 'total and deterministic' (their statements: YtdcelpomnboeoaaTotals.lean).
  GIVEN WITH THE SEED: the statements are not yours to turn. If you find one false, say at which input.
  Laid BY PROGRAM, IN A SANDBOX (cutbox-rows.mjs): the forced cells as the released guide's own fill.sh prints them over the translation efb1a93b3c9e7f9d… (all of the seat's roots in one cut). By AI agents, Wed Nov 11 2026. No macro, syntax, notation, axiom, sorry.
-/
import Derived.Test.YtdcelpomnboeoaaChecked
import GoSem.Claim
import GoSem.ClaimJoined
import GoSem.ClaimMapViews
import Derived.JoinedTies
import Derived.KernelRfl
namespace Go.Proofs.Ytdcelpomnboeoaa
/- THE CELL 'sum', in the pinned program and in every row, IS THE sha256 OF THE DUMP (.gsa) THAT YtdcelpomnboeoaaProg.lean LOADS. Nothing in Lean hashes anything: it is a label: what it is worth is what the hold of that sum in a sandbox is worth. -/
noncomputable def Try.pinned : Pinned := { name := "ytdcelpomnboeoaa", sum := "efb1a93b3c9e7f9d440683ae4a6bf7a12c692e7462008d105a84bb4445c77e4c", checked := Try.checked }
namespace Rows
def none {H : Type} : Left H := { results := [], args := [] }

/-- 'swarflaw06.MeltCheapest': WHATEVER THE INPUT: true; the input reads as it did. -/
def meltCheapestSpec : ChangeSpec := { name := "meltCheapest", fn := fun _ => fun
  | [d1, d2] => { results := [.lit (.bool true)], args := [d1, d2] }
  | _ => none }
def meltCheapestRow : OpenClaim := { program := "ytdcelpomnboeoaa", sum := "efb1a93b3c9e7f9d440683ae4a6bf7a12c692e7462008d105a84bb4445c77e4c", func := "swarf/swarflaw06.MeltCheapest", spec := "meltCheapest", unfollowed := true, recurses := true, apart := false }
def MeltCheapestSaid : Prop := meltCheapestRow.holds Try.pinned (OpenSpec.ofChange meltCheapestSpec)

/-- ITS FALSE NEIGHBOUR: 'it returns false'. Refute it at one input. -/
def meltCheapestWrong : ChangeSpec := { name := "meltCheapest", fn := fun _ => fun
  | [d1, d2] => { results := [.lit (.bool false)], args := [d1, d2] }
  | _ => none }
def MeltCheapestWrongFalsely : Prop := meltCheapestRow.holds Try.pinned (OpenSpec.ofChange meltCheapestWrong)

/-- 'swarflaw06.MeltTrue': WHATEVER THE INPUT: true; the input reads as it did. -/
def meltTrueSpec : ChangeSpec := { name := "meltTrue", fn := fun _ => fun
  | [d] => { results := [.lit (.bool true)], args := [d] }
  | _ => none }
def meltTrueRow : OpenClaim := { program := "ytdcelpomnboeoaa", sum := "efb1a93b3c9e7f9d440683ae4a6bf7a12c692e7462008d105a84bb4445c77e4c", func := "swarf/swarflaw06.MeltTrue", spec := "meltTrue", unfollowed := true, recurses := true, apart := false }
def MeltTrueSaid : Prop := meltTrueRow.holds Try.pinned (OpenSpec.ofChange meltTrueSpec)

/-- ITS FALSE NEIGHBOUR: 'it returns false'. Refute it at one input. -/
def meltTrueWrong : ChangeSpec := { name := "meltTrue", fn := fun _ => fun
  | [d] => { results := [.lit (.bool false)], args := [d] }
  | _ => none }
def MeltTrueWrongFalsely : Prop := meltTrueRow.holds Try.pinned (OpenSpec.ofChange meltTrueWrong)

/-- 'swarflaw06.MeltEnds': WHATEVER THE INPUT: true; the input reads as it did. -/
def meltEndsSpec : ChangeSpec := { name := "meltEnds", fn := fun _ => fun
  | [d] => { results := [.lit (.bool true)], args := [d] }
  | _ => none }
def meltEndsRow : OpenClaim := { program := "ytdcelpomnboeoaa", sum := "efb1a93b3c9e7f9d440683ae4a6bf7a12c692e7462008d105a84bb4445c77e4c", func := "swarf/swarflaw06.MeltEnds", spec := "meltEnds", unfollowed := true, recurses := true, apart := false }
def MeltEndsSaid : Prop := meltEndsRow.holds Try.pinned (OpenSpec.ofChange meltEndsSpec)

/-- ITS FALSE NEIGHBOUR: 'it returns false'. Refute it at one input. -/
def meltEndsWrong : ChangeSpec := { name := "meltEnds", fn := fun _ => fun
  | [d] => { results := [.lit (.bool false)], args := [d] }
  | _ => none }
def MeltEndsWrongFalsely : Prop := meltEndsRow.holds Try.pinned (OpenSpec.ofChange meltEndsWrong)

/-- 'swarflaw06.MeltEasier': WHATEVER THE INPUT: true; the input reads as it did. -/
def meltEasierSpec : ChangeSpec := { name := "meltEasier", fn := fun _ => fun
  | [d] => { results := [.lit (.bool true)], args := [d] }
  | _ => none }
def meltEasierRow : OpenClaim := { program := "ytdcelpomnboeoaa", sum := "efb1a93b3c9e7f9d440683ae4a6bf7a12c692e7462008d105a84bb4445c77e4c", func := "swarf/swarflaw06.MeltEasier", spec := "meltEasier", unfollowed := true, recurses := true, apart := false }
def MeltEasierSaid : Prop := meltEasierRow.holds Try.pinned (OpenSpec.ofChange meltEasierSpec)

/-- ITS FALSE NEIGHBOUR: 'it returns false'. Refute it at one input. -/
def meltEasierWrong : ChangeSpec := { name := "meltEasier", fn := fun _ => fun
  | [d] => { results := [.lit (.bool false)], args := [d] }
  | _ => none }
def MeltEasierWrongFalsely : Prop := meltEasierRow.holds Try.pinned (OpenSpec.ofChange meltEasierWrong)

/-- 'swarflaw06.MeltScaled': WHATEVER THE INPUT: true; the input reads as it did. -/
def meltScaledSpec : ChangeSpec := { name := "meltScaled", fn := fun _ => fun
  | [d] => { results := [.lit (.bool true)], args := [d] }
  | _ => none }
def meltScaledRow : OpenClaim := { program := "ytdcelpomnboeoaa", sum := "efb1a93b3c9e7f9d440683ae4a6bf7a12c692e7462008d105a84bb4445c77e4c", func := "swarf/swarflaw06.MeltScaled", spec := "meltScaled", unfollowed := true, recurses := true, apart := false }
def MeltScaledSaid : Prop := meltScaledRow.holds Try.pinned (OpenSpec.ofChange meltScaledSpec)

/-- ITS FALSE NEIGHBOUR: 'it returns false'. Refute it at one input. -/
def meltScaledWrong : ChangeSpec := { name := "meltScaled", fn := fun _ => fun
  | [d] => { results := [.lit (.bool false)], args := [d] }
  | _ => none }
def MeltScaledWrongFalsely : Prop := meltScaledRow.holds Try.pinned (OpenSpec.ofChange meltScaledWrong)

/-- 'swarflaw06.MeltBlends': WHATEVER THE INPUT: true; the input reads as it did. -/
def meltBlendsSpec : ChangeSpec := { name := "meltBlends", fn := fun _ => fun
  | [d1, d2, d3] => { results := [.lit (.bool true)], args := [d1, d2, d3] }
  | _ => none }
def meltBlendsRow : OpenClaim := { program := "ytdcelpomnboeoaa", sum := "efb1a93b3c9e7f9d440683ae4a6bf7a12c692e7462008d105a84bb4445c77e4c", func := "swarf/swarflaw06.MeltBlends", spec := "meltBlends", unfollowed := true, recurses := true, apart := false }
def MeltBlendsSaid : Prop := meltBlendsRow.holds Try.pinned (OpenSpec.ofChange meltBlendsSpec)

/-- ITS FALSE NEIGHBOUR: 'it returns false'. Refute it at one input. -/
def meltBlendsWrong : ChangeSpec := { name := "meltBlends", fn := fun _ => fun
  | [d1, d2, d3] => { results := [.lit (.bool false)], args := [d1, d2, d3] }
  | _ => none }
def MeltBlendsWrongFalsely : Prop := meltBlendsRow.holds Try.pinned (OpenSpec.ofChange meltBlendsWrong)

/-- 'swarflaw06.MeltBest': WHATEVER THE INPUT: true; the input reads as it did. -/
def meltBestSpec : ChangeSpec := { name := "meltBest", fn := fun _ => fun
  | [d] => { results := [.lit (.bool true)], args := [d] }
  | _ => none }
def meltBestRow : OpenClaim := { program := "ytdcelpomnboeoaa", sum := "efb1a93b3c9e7f9d440683ae4a6bf7a12c692e7462008d105a84bb4445c77e4c", func := "swarf/swarflaw06.MeltBest", spec := "meltBest", unfollowed := true, recurses := true, apart := false }
def MeltBestSaid : Prop := meltBestRow.holds Try.pinned (OpenSpec.ofChange meltBestSpec)

/-- ITS FALSE NEIGHBOUR: 'it returns false'. Refute it at one input. -/
def meltBestWrong : ChangeSpec := { name := "meltBest", fn := fun _ => fun
  | [d] => { results := [.lit (.bool false)], args := [d] }
  | _ => none }
def MeltBestWrongFalsely : Prop := meltBestRow.holds Try.pinned (OpenSpec.ofChange meltBestWrong)

/-- 'swarflaw06.MeltProofs': WHATEVER THE INPUT: true; the input reads as it did. -/
def meltProofsSpec : ChangeSpec := { name := "meltProofs", fn := fun _ => fun
  | [d1, d2, d3, d4, d5, d6] => { results := [.lit (.bool true)], args := [d1, d2, d3, d4, d5, d6] }
  | _ => none }
def meltProofsRow : OpenClaim := { program := "ytdcelpomnboeoaa", sum := "efb1a93b3c9e7f9d440683ae4a6bf7a12c692e7462008d105a84bb4445c77e4c", func := "swarf/swarflaw06.MeltProofs", spec := "meltProofs", unfollowed := true, recurses := true, apart := false }
def MeltProofsSaid : Prop := meltProofsRow.holds Try.pinned (OpenSpec.ofChange meltProofsSpec)

/-- ITS FALSE NEIGHBOUR: 'it returns false'. Refute it at one input. -/
def meltProofsWrong : ChangeSpec := { name := "meltProofs", fn := fun _ => fun
  | [d1, d2, d3, d4, d5, d6] => { results := [.lit (.bool false)], args := [d1, d2, d3, d4, d5, d6] }
  | _ => none }
def MeltProofsWrongFalsely : Prop := meltProofsRow.holds Try.pinned (OpenSpec.ofChange meltProofsWrong)

/-- 'swarflaw06.MeltProved': WHATEVER THE INPUT: true; the input reads as it did. -/
def meltProvedSpec : ChangeSpec := { name := "meltProved", fn := fun _ => fun
  | [d] => { results := [.lit (.bool true)], args := [d] }
  | _ => none }
def meltProvedRow : OpenClaim := { program := "ytdcelpomnboeoaa", sum := "efb1a93b3c9e7f9d440683ae4a6bf7a12c692e7462008d105a84bb4445c77e4c", func := "swarf/swarflaw06.MeltProved", spec := "meltProved", unfollowed := true, recurses := true, apart := false }
def MeltProvedSaid : Prop := meltProvedRow.holds Try.pinned (OpenSpec.ofChange meltProvedSpec)

/-- ITS FALSE NEIGHBOUR: 'it returns false'. Refute it at one input. -/
def meltProvedWrong : ChangeSpec := { name := "meltProved", fn := fun _ => fun
  | [d] => { results := [.lit (.bool false)], args := [d] }
  | _ => none }
def MeltProvedWrongFalsely : Prop := meltProvedRow.holds Try.pinned (OpenSpec.ofChange meltProvedWrong)

/-- 'swarflaw06.MeltSound': WHATEVER THE INPUT: true; the input reads as it did. -/
def meltSoundSpec : ChangeSpec := { name := "meltSound", fn := fun _ => fun
  | [d] => { results := [.lit (.bool true)], args := [d] }
  | _ => none }
def meltSoundRow : OpenClaim := { program := "ytdcelpomnboeoaa", sum := "efb1a93b3c9e7f9d440683ae4a6bf7a12c692e7462008d105a84bb4445c77e4c", func := "swarf/swarflaw06.MeltSound", spec := "meltSound", unfollowed := true, recurses := true, apart := false }
def MeltSoundSaid : Prop := meltSoundRow.holds Try.pinned (OpenSpec.ofChange meltSoundSpec)

/-- ITS FALSE NEIGHBOUR: 'it returns false'. Refute it at one input. -/
def meltSoundWrong : ChangeSpec := { name := "meltSound", fn := fun _ => fun
  | [d] => { results := [.lit (.bool false)], args := [d] }
  | _ => none }
def MeltSoundWrongFalsely : Prop := meltSoundRow.holds Try.pinned (OpenSpec.ofChange meltSoundWrong)

/- THE SECOND FORM. 'bulk': how many values and letters a reading holds, each counted each time it is reached (what is shared counts as often as it is met; a slice's spare places count too). A statement '..UptoSaid' is the law's where the arguments, and the package variables that the reading takes, are together of bulk at most 1048576: NARROWER than '..Said'. Prove '..Said' where nothing that the law and all that it calls make is longer than what came in: it says more and counts as full. Else prove '..UptoSaid'. A law counts once. -/
mutual
def uptoBulk {H : Type} : DataW H → Nat
  | .lit (.string bytes) => bytes.length + 1
  | .lit _ => 1
  | .nil => 1
  | .ptr d => uptoBulk d + 1
  | .slice elems spare => uptoBulkAll elems + uptoBulkAll spare + 1
  | .agg parts => uptoBulkAll parts + 1
  | .iface _ d => uptoBulk d + 1
  | .map entries => uptoBulkEntries entries + 1
  | .held _ => 1
def uptoBulkAll {H : Type} : List (DataW H) → Nat
  | [] => 0
  | d :: r => uptoBulk d + uptoBulkAll r
def uptoBulkEntries {H : Type} : List (Lit × DataW H) → Nat
  | [] => 0
  | x :: r => uptoBulkEntry x + uptoBulkEntries r
def uptoBulkEntry {H : Type} : Lit × DataW H → Nat
  | (.string bytes, d) => bytes.length + uptoBulk d + 1
  | (_, d) => uptoBulk d + 1
 end
def uptoSmall : (H : Type) → List (DataW H) → Bool := fun _ ds => decide (uptoBulkAll ds ≤ 1048576)
def OpenSpec.upto (s : _root_.Go.ChangeSpec) : _root_.Go.OpenSpec := { _root_.Go.OpenSpec.ofChange s with cond := some uptoSmall }

/-- 'swarflaw06.MeltCheapest', WHERE WHAT IT READS IS OF BULK AT MOST 1048576: true; the input reads as it did. -/
def meltCheapestUptoRow : OpenClaim := { program := "ytdcelpomnboeoaa", sum := "efb1a93b3c9e7f9d440683ae4a6bf7a12c692e7462008d105a84bb4445c77e4c", func := "swarf/swarflaw06.MeltCheapest", spec := "meltCheapest", unfollowed := true, recurses := true, apart := false, narrowed := true }
def MeltCheapestUptoSaid : Prop := meltCheapestUptoRow.holds Try.pinned (OpenSpec.upto meltCheapestSpec)

/-- 'swarflaw06.MeltTrue', WHERE WHAT IT READS IS OF BULK AT MOST 1048576: true; the input reads as it did. -/
def meltTrueUptoRow : OpenClaim := { program := "ytdcelpomnboeoaa", sum := "efb1a93b3c9e7f9d440683ae4a6bf7a12c692e7462008d105a84bb4445c77e4c", func := "swarf/swarflaw06.MeltTrue", spec := "meltTrue", unfollowed := true, recurses := true, apart := false, narrowed := true }
def MeltTrueUptoSaid : Prop := meltTrueUptoRow.holds Try.pinned (OpenSpec.upto meltTrueSpec)

/-- 'swarflaw06.MeltEnds', WHERE WHAT IT READS IS OF BULK AT MOST 1048576: true; the input reads as it did. -/
def meltEndsUptoRow : OpenClaim := { program := "ytdcelpomnboeoaa", sum := "efb1a93b3c9e7f9d440683ae4a6bf7a12c692e7462008d105a84bb4445c77e4c", func := "swarf/swarflaw06.MeltEnds", spec := "meltEnds", unfollowed := true, recurses := true, apart := false, narrowed := true }
def MeltEndsUptoSaid : Prop := meltEndsUptoRow.holds Try.pinned (OpenSpec.upto meltEndsSpec)

/-- 'swarflaw06.MeltEasier', WHERE WHAT IT READS IS OF BULK AT MOST 1048576: true; the input reads as it did. -/
def meltEasierUptoRow : OpenClaim := { program := "ytdcelpomnboeoaa", sum := "efb1a93b3c9e7f9d440683ae4a6bf7a12c692e7462008d105a84bb4445c77e4c", func := "swarf/swarflaw06.MeltEasier", spec := "meltEasier", unfollowed := true, recurses := true, apart := false, narrowed := true }
def MeltEasierUptoSaid : Prop := meltEasierUptoRow.holds Try.pinned (OpenSpec.upto meltEasierSpec)

/-- 'swarflaw06.MeltScaled', WHERE WHAT IT READS IS OF BULK AT MOST 1048576: true; the input reads as it did. -/
def meltScaledUptoRow : OpenClaim := { program := "ytdcelpomnboeoaa", sum := "efb1a93b3c9e7f9d440683ae4a6bf7a12c692e7462008d105a84bb4445c77e4c", func := "swarf/swarflaw06.MeltScaled", spec := "meltScaled", unfollowed := true, recurses := true, apart := false, narrowed := true }
def MeltScaledUptoSaid : Prop := meltScaledUptoRow.holds Try.pinned (OpenSpec.upto meltScaledSpec)

/-- 'swarflaw06.MeltBlends', WHERE WHAT IT READS IS OF BULK AT MOST 1048576: true; the input reads as it did. -/
def meltBlendsUptoRow : OpenClaim := { program := "ytdcelpomnboeoaa", sum := "efb1a93b3c9e7f9d440683ae4a6bf7a12c692e7462008d105a84bb4445c77e4c", func := "swarf/swarflaw06.MeltBlends", spec := "meltBlends", unfollowed := true, recurses := true, apart := false, narrowed := true }
def MeltBlendsUptoSaid : Prop := meltBlendsUptoRow.holds Try.pinned (OpenSpec.upto meltBlendsSpec)

/-- 'swarflaw06.MeltBest', WHERE WHAT IT READS IS OF BULK AT MOST 1048576: true; the input reads as it did. -/
def meltBestUptoRow : OpenClaim := { program := "ytdcelpomnboeoaa", sum := "efb1a93b3c9e7f9d440683ae4a6bf7a12c692e7462008d105a84bb4445c77e4c", func := "swarf/swarflaw06.MeltBest", spec := "meltBest", unfollowed := true, recurses := true, apart := false, narrowed := true }
def MeltBestUptoSaid : Prop := meltBestUptoRow.holds Try.pinned (OpenSpec.upto meltBestSpec)

/-- 'swarflaw06.MeltProofs', WHERE WHAT IT READS IS OF BULK AT MOST 1048576: true; the input reads as it did. -/
def meltProofsUptoRow : OpenClaim := { program := "ytdcelpomnboeoaa", sum := "efb1a93b3c9e7f9d440683ae4a6bf7a12c692e7462008d105a84bb4445c77e4c", func := "swarf/swarflaw06.MeltProofs", spec := "meltProofs", unfollowed := true, recurses := true, apart := false, narrowed := true }
def MeltProofsUptoSaid : Prop := meltProofsUptoRow.holds Try.pinned (OpenSpec.upto meltProofsSpec)

/-- 'swarflaw06.MeltProved', WHERE WHAT IT READS IS OF BULK AT MOST 1048576: true; the input reads as it did. -/
def meltProvedUptoRow : OpenClaim := { program := "ytdcelpomnboeoaa", sum := "efb1a93b3c9e7f9d440683ae4a6bf7a12c692e7462008d105a84bb4445c77e4c", func := "swarf/swarflaw06.MeltProved", spec := "meltProved", unfollowed := true, recurses := true, apart := false, narrowed := true }
def MeltProvedUptoSaid : Prop := meltProvedUptoRow.holds Try.pinned (OpenSpec.upto meltProvedSpec)

/-- 'swarflaw06.MeltSound', WHERE WHAT IT READS IS OF BULK AT MOST 1048576: true; the input reads as it did. -/
def meltSoundUptoRow : OpenClaim := { program := "ytdcelpomnboeoaa", sum := "efb1a93b3c9e7f9d440683ae4a6bf7a12c692e7462008d105a84bb4445c77e4c", func := "swarf/swarflaw06.MeltSound", spec := "meltSound", unfollowed := true, recurses := true, apart := false, narrowed := true }
def MeltSoundUptoSaid : Prop := meltSoundUptoRow.holds Try.pinned (OpenSpec.upto meltSoundSpec)

end Rows
end Go.Proofs.Ytdcelpomnboeoaa
