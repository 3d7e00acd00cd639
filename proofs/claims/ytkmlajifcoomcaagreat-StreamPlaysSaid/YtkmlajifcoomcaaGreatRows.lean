/-
  No cell of these rows narrows 'for every input' (looked for: loops, veiled, ifaces, maps, wideKeys, modest, calm, conditions, laid).
  DERIVED. THE GIVEN ROWS OF THIS SEAT. 5 by the template 'for every input the law returns true; each argument reads behind the call as it read before'; 0 by the template 'total and deterministic' (their statements: YtkmlajifcoomcaaGreatTotals.lean).
  GIVEN WITH THE SEED: the statements are not yours to turn. If you find one false, say at which input.
  Laid BY PROGRAM, IN A SANDBOX (cutbox-rows.mjs): the forced cells as the released guide's own fill.sh prints them over the translation 0611a8d3aa3d40c9… (all of the seat's roots in one cut). By AI agents, Wed Nov 11 2026. No macro, syntax, notation, axiom, sorry.
-/
import Derived.Test.YtkmlajifcoomcaaGreatChecked
import GoSem.Claim
import GoSem.ClaimJoined
import GoSem.ClaimMapViews
import Derived.JoinedTies
import Derived.KernelRfl
namespace Go.Proofs.YtkmlajifcoomcaaGreat
/- THE CELL 'sum', in the pinned program and in every row, IS THE sha256 OF THE DUMP (.gsa) THAT YtkmlajifcoomcaaGreatProg.lean LOADS. Nothing in Lean hashes anything: it is a label: what it is worth is what the hold of that sum in a sandbox is worth. -/
noncomputable def Tryz.pinned : Pinned := { name := "ytkmlajifcoomcaagreat", sum := "0611a8d3aa3d40c907bfdf4da07efa60f17f7e2887175be9a788cbe81195873d", checked := Tryz.checked }
namespace Rows
def none {H : Type} : Left H := { results := [], args := [] }

/-- 'flumelaw19.StreamFetched': WHATEVER THE INPUT: true; the input reads as it did. -/
def streamFetchedSpec : ChangeSpec := { name := "streamFetched", fn := fun _ => fun
  | [d1, d2] => { results := [.lit (.bool true)], args := [d1, d2] }
  | _ => none }
def streamFetchedRow : OpenClaim := { program := "ytkmlajifcoomcaagreat", sum := "0611a8d3aa3d40c907bfdf4da07efa60f17f7e2887175be9a788cbe81195873d", func := "flume/flumelaw19.StreamFetched", spec := "streamFetched", unfollowed := true, recurses := true, apart := false }
def StreamFetchedSaid : Prop := streamFetchedRow.holds Tryz.pinned (OpenSpec.ofChange streamFetchedSpec)

/-- ITS FALSE NEIGHBOUR: 'it returns false'. Refute it at one input. -/
def streamFetchedWrong : ChangeSpec := { name := "streamFetched", fn := fun _ => fun
  | [d1, d2] => { results := [.lit (.bool false)], args := [d1, d2] }
  | _ => none }
def StreamFetchedWrongFalsely : Prop := streamFetchedRow.holds Tryz.pinned (OpenSpec.ofChange streamFetchedWrong)

/-- 'flumelaw19.StreamWords': WHATEVER THE INPUT: true; the input reads as it did. -/
def streamWordsSpec : ChangeSpec := { name := "streamWords", fn := fun _ => fun
  | [d1, d2] => { results := [.lit (.bool true)], args := [d1, d2] }
  | _ => none }
def streamWordsRow : OpenClaim := { program := "ytkmlajifcoomcaagreat", sum := "0611a8d3aa3d40c907bfdf4da07efa60f17f7e2887175be9a788cbe81195873d", func := "flume/flumelaw19.StreamWords", spec := "streamWords", unfollowed := true, recurses := true, apart := false }
def StreamWordsSaid : Prop := streamWordsRow.holds Tryz.pinned (OpenSpec.ofChange streamWordsSpec)

/-- ITS FALSE NEIGHBOUR: 'it returns false'. Refute it at one input. -/
def streamWordsWrong : ChangeSpec := { name := "streamWords", fn := fun _ => fun
  | [d1, d2] => { results := [.lit (.bool false)], args := [d1, d2] }
  | _ => none }
def StreamWordsWrongFalsely : Prop := streamWordsRow.holds Tryz.pinned (OpenSpec.ofChange streamWordsWrong)

/-- 'flumelaw19.StreamCuts': WHATEVER THE INPUT: true; the input reads as it did. -/
def streamCutsSpec : ChangeSpec := { name := "streamCuts", fn := fun _ => fun
  | [d1, d2] => { results := [.lit (.bool true)], args := [d1, d2] }
  | _ => none }
def streamCutsRow : OpenClaim := { program := "ytkmlajifcoomcaagreat", sum := "0611a8d3aa3d40c907bfdf4da07efa60f17f7e2887175be9a788cbe81195873d", func := "flume/flumelaw19.StreamCuts", spec := "streamCuts", unfollowed := true, recurses := true, apart := false }
def StreamCutsSaid : Prop := streamCutsRow.holds Tryz.pinned (OpenSpec.ofChange streamCutsSpec)

/-- ITS FALSE NEIGHBOUR: 'it returns false'. Refute it at one input. -/
def streamCutsWrong : ChangeSpec := { name := "streamCuts", fn := fun _ => fun
  | [d1, d2] => { results := [.lit (.bool false)], args := [d1, d2] }
  | _ => none }
def StreamCutsWrongFalsely : Prop := streamCutsRow.holds Tryz.pinned (OpenSpec.ofChange streamCutsWrong)

/-- 'flumelaw19.StreamPlays': WHATEVER THE INPUT: true; the input reads as it did. -/
def streamPlaysSpec : ChangeSpec := { name := "streamPlays", fn := fun _ => fun
  | [d1, d2] => { results := [.lit (.bool true)], args := [d1, d2] }
  | _ => none }
def streamPlaysRow : OpenClaim := { program := "ytkmlajifcoomcaagreat", sum := "0611a8d3aa3d40c907bfdf4da07efa60f17f7e2887175be9a788cbe81195873d", func := "flume/flumelaw19.StreamPlays", spec := "streamPlays", unfollowed := true, recurses := true, apart := false }
def StreamPlaysSaid : Prop := streamPlaysRow.holds Tryz.pinned (OpenSpec.ofChange streamPlaysSpec)

/-- ITS FALSE NEIGHBOUR: 'it returns false'. Refute it at one input. -/
def streamPlaysWrong : ChangeSpec := { name := "streamPlays", fn := fun _ => fun
  | [d1, d2] => { results := [.lit (.bool false)], args := [d1, d2] }
  | _ => none }
def StreamPlaysWrongFalsely : Prop := streamPlaysRow.holds Tryz.pinned (OpenSpec.ofChange streamPlaysWrong)

/-- 'flumelaw19.StreamOnce': WHATEVER THE INPUT: true; the input reads as it did. -/
def streamOnceSpec : ChangeSpec := { name := "streamOnce", fn := fun _ => fun
  | [d1, d2] => { results := [.lit (.bool true)], args := [d1, d2] }
  | _ => none }
def streamOnceRow : OpenClaim := { program := "ytkmlajifcoomcaagreat", sum := "0611a8d3aa3d40c907bfdf4da07efa60f17f7e2887175be9a788cbe81195873d", func := "flume/flumelaw19.StreamOnce", spec := "streamOnce", unfollowed := true, recurses := true, apart := false }
def StreamOnceSaid : Prop := streamOnceRow.holds Tryz.pinned (OpenSpec.ofChange streamOnceSpec)

/-- ITS FALSE NEIGHBOUR: 'it returns false'. Refute it at one input. -/
def streamOnceWrong : ChangeSpec := { name := "streamOnce", fn := fun _ => fun
  | [d1, d2] => { results := [.lit (.bool false)], args := [d1, d2] }
  | _ => none }
def StreamOnceWrongFalsely : Prop := streamOnceRow.holds Tryz.pinned (OpenSpec.ofChange streamOnceWrong)

/- THE SECOND FORM. 'bulk': how many values and letters a reading holds, each counted each time it is reached (what is shared counts as often as it is met; a slice's spare places count too). A statement '..UptoSaid' is the law's where the arguments, and the package variables that the reading takes, are together of bulk at most 1048576: NARROWER than '..Said'. Prove '..Said' where nothing that the law and all that it calls make is longer than what came in: it says more and counts as full. Else prove '..UptoSaid'. A law counts once. -/
mutual
def uptoBulk {H : Type} : DataW H → Nat
  | .lit (.string bytes) => bytes.length + 1
  | .lit _ => 1
  | .nil => 1
  | .ptr d => uptoBulk d + 1
  | .slice elems spare => uptoBulkAll elems + uptoBulkAll spare + 1
  | .agg parts => uptoBulkAll parts + 1
  | .iface _ d => uptoBulk d + 1
  | .map entries => uptoBulkEntries entries + 1
  | .held _ => 1
def uptoBulkAll {H : Type} : List (DataW H) → Nat
  | [] => 0
  | d :: r => uptoBulk d + uptoBulkAll r
def uptoBulkEntries {H : Type} : List (Lit × DataW H) → Nat
  | [] => 0
  | x :: r => uptoBulkEntry x + uptoBulkEntries r
def uptoBulkEntry {H : Type} : Lit × DataW H → Nat
  | (.string bytes, d) => bytes.length + uptoBulk d + 1
  | (_, d) => uptoBulk d + 1
 end
def uptoSmall : (H : Type) → List (DataW H) → Bool := fun _ ds => decide (uptoBulkAll ds ≤ 1048576)
def OpenSpec.upto (s : _root_.Go.ChangeSpec) : _root_.Go.OpenSpec := { _root_.Go.OpenSpec.ofChange s with cond := some uptoSmall }

/-- 'flumelaw19.StreamFetched', WHERE WHAT IT READS IS OF BULK AT MOST 1048576: true; the input reads as it did. -/
def streamFetchedUptoRow : OpenClaim := { program := "ytkmlajifcoomcaagreat", sum := "0611a8d3aa3d40c907bfdf4da07efa60f17f7e2887175be9a788cbe81195873d", func := "flume/flumelaw19.StreamFetched", spec := "streamFetched", unfollowed := true, recurses := true, apart := false, narrowed := true }
def StreamFetchedUptoSaid : Prop := streamFetchedUptoRow.holds Tryz.pinned (OpenSpec.upto streamFetchedSpec)

/-- 'flumelaw19.StreamWords', WHERE WHAT IT READS IS OF BULK AT MOST 1048576: true; the input reads as it did. -/
def streamWordsUptoRow : OpenClaim := { program := "ytkmlajifcoomcaagreat", sum := "0611a8d3aa3d40c907bfdf4da07efa60f17f7e2887175be9a788cbe81195873d", func := "flume/flumelaw19.StreamWords", spec := "streamWords", unfollowed := true, recurses := true, apart := false, narrowed := true }
def StreamWordsUptoSaid : Prop := streamWordsUptoRow.holds Tryz.pinned (OpenSpec.upto streamWordsSpec)

/-- 'flumelaw19.StreamCuts', WHERE WHAT IT READS IS OF BULK AT MOST 1048576: true; the input reads as it did. -/
def streamCutsUptoRow : OpenClaim := { program := "ytkmlajifcoomcaagreat", sum := "0611a8d3aa3d40c907bfdf4da07efa60f17f7e2887175be9a788cbe81195873d", func := "flume/flumelaw19.StreamCuts", spec := "streamCuts", unfollowed := true, recurses := true, apart := false, narrowed := true }
def StreamCutsUptoSaid : Prop := streamCutsUptoRow.holds Tryz.pinned (OpenSpec.upto streamCutsSpec)

/-- 'flumelaw19.StreamPlays', WHERE WHAT IT READS IS OF BULK AT MOST 1048576: true; the input reads as it did. -/
def streamPlaysUptoRow : OpenClaim := { program := "ytkmlajifcoomcaagreat", sum := "0611a8d3aa3d40c907bfdf4da07efa60f17f7e2887175be9a788cbe81195873d", func := "flume/flumelaw19.StreamPlays", spec := "streamPlays", unfollowed := true, recurses := true, apart := false, narrowed := true }
def StreamPlaysUptoSaid : Prop := streamPlaysUptoRow.holds Tryz.pinned (OpenSpec.upto streamPlaysSpec)

/-- 'flumelaw19.StreamOnce', WHERE WHAT IT READS IS OF BULK AT MOST 1048576: true; the input reads as it did. -/
def streamOnceUptoRow : OpenClaim := { program := "ytkmlajifcoomcaagreat", sum := "0611a8d3aa3d40c907bfdf4da07efa60f17f7e2887175be9a788cbe81195873d", func := "flume/flumelaw19.StreamOnce", spec := "streamOnce", unfollowed := true, recurses := true, apart := false, narrowed := true }
def StreamOnceUptoSaid : Prop := streamOnceUptoRow.holds Tryz.pinned (OpenSpec.upto streamOnceSpec)

end Rows
end Go.Proofs.YtkmlajifcoomcaaGreat
