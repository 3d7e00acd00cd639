/-
  No cell of these rows narrows 'for every input' (looked for: loops, veiled, ifaces, maps, wideKeys, modest, calm, conditions, laid).
  DERIVED. THE GIVEN ROWS OF THIS SEAT. 4 by the template 'for every input the law returns true; each argument reads behind the call as it read before'; 0 by the template 'total and deterministic' (their statements: YtnockfncodafeaaGreatTotals.lean).
  GIVEN WITH THE SEED: the statements are not yours to turn. If you find one false, say at which input.
  Laid BY PROGRAM, IN A SANDBOX (cutbox-rows.mjs): the forced cells as the released guide's own fill.sh prints them over the translation 6f5f7d049ed3600b… (all of the seat's roots in one cut). By AI agents, Wed Nov 11 2026. No macro, syntax, notation, axiom, sorry.
-/
import Derived.Test.YtnockfncodafeaaGreatChecked
import GoSem.Claim
import GoSem.ClaimJoined
import GoSem.ClaimMapViews
import Derived.JoinedTies
import Derived.KernelRfl
namespace Go.Proofs.YtnockfncodafeaaGreat
/- THE CELL 'sum', in the pinned program and in every row, IS THE sha256 OF THE DUMP (.gsa) THAT YtnockfncodafeaaGreatProg.lean LOADS. Nothing in Lean hashes anything: it is a label: what it is worth is what the hold of that sum in a sandbox is worth. -/
noncomputable def Tryz.pinned : Pinned := { name := "ytnockfncodafeaagreat", sum := "6f5f7d049ed3600b31aebfcad9dcfe438618809db4e390513cbbfb45b314f9c6", checked := Tryz.checked }
namespace Rows
def none {H : Type} : Left H := { results := [], args := [] }

/-- 'flumelaw17.RingHoles': WHATEVER THE INPUT: true; the input reads as it did. -/
def ringHolesSpec : ChangeSpec := { name := "ringHoles", fn := fun _ => fun
  | [d1, d2] => { results := [.lit (.bool true)], args := [d1, d2] }
  | _ => none }
def ringHolesRow : OpenClaim := { program := "ytnockfncodafeaagreat", sum := "6f5f7d049ed3600b31aebfcad9dcfe438618809db4e390513cbbfb45b314f9c6", func := "flume/flumelaw17.RingHoles", spec := "ringHoles", unfollowed := true, recurses := true, apart := false }
def RingHolesSaid : Prop := ringHolesRow.holds Tryz.pinned (OpenSpec.ofChange ringHolesSpec)

/-- ITS FALSE NEIGHBOUR: 'it returns false'. Refute it at one input. -/
def ringHolesWrong : ChangeSpec := { name := "ringHoles", fn := fun _ => fun
  | [d1, d2] => { results := [.lit (.bool false)], args := [d1, d2] }
  | _ => none }
def RingHolesWrongFalsely : Prop := ringHolesRow.holds Tryz.pinned (OpenSpec.ofChange ringHolesWrong)

/-- 'flumelaw17.RingAlone': WHATEVER THE INPUT: true; the input reads as it did. -/
def ringAloneSpec : ChangeSpec := { name := "ringAlone", fn := fun _ => fun
  | [d1, d2, d3] => { results := [.lit (.bool true)], args := [d1, d2, d3] }
  | _ => none }
def ringAloneRow : OpenClaim := { program := "ytnockfncodafeaagreat", sum := "6f5f7d049ed3600b31aebfcad9dcfe438618809db4e390513cbbfb45b314f9c6", func := "flume/flumelaw17.RingAlone", spec := "ringAlone", unfollowed := true, recurses := true, apart := false }
def RingAloneSaid : Prop := ringAloneRow.holds Tryz.pinned (OpenSpec.ofChange ringAloneSpec)

/-- ITS FALSE NEIGHBOUR: 'it returns false'. Refute it at one input. -/
def ringAloneWrong : ChangeSpec := { name := "ringAlone", fn := fun _ => fun
  | [d1, d2, d3] => { results := [.lit (.bool false)], args := [d1, d2, d3] }
  | _ => none }
def RingAloneWrongFalsely : Prop := ringAloneRow.holds Tryz.pinned (OpenSpec.ofChange ringAloneWrong)

/-- 'flumelaw17.RingSpace': WHATEVER THE INPUT: true; the input reads as it did. -/
def ringSpaceSpec : ChangeSpec := { name := "ringSpace", fn := fun _ => fun
  | [d1, d2] => { results := [.lit (.bool true)], args := [d1, d2] }
  | _ => none }
def ringSpaceRow : OpenClaim := { program := "ytnockfncodafeaagreat", sum := "6f5f7d049ed3600b31aebfcad9dcfe438618809db4e390513cbbfb45b314f9c6", func := "flume/flumelaw17.RingSpace", spec := "ringSpace", unfollowed := true, recurses := true, apart := false }
def RingSpaceSaid : Prop := ringSpaceRow.holds Tryz.pinned (OpenSpec.ofChange ringSpaceSpec)

/-- ITS FALSE NEIGHBOUR: 'it returns false'. Refute it at one input. -/
def ringSpaceWrong : ChangeSpec := { name := "ringSpace", fn := fun _ => fun
  | [d1, d2] => { results := [.lit (.bool false)], args := [d1, d2] }
  | _ => none }
def RingSpaceWrongFalsely : Prop := ringSpaceRow.holds Tryz.pinned (OpenSpec.ofChange ringSpaceWrong)

/-- 'flumelaw17.RingTurns': WHATEVER THE INPUT: true; the input reads as it did. -/
def ringTurnsSpec : ChangeSpec := { name := "ringTurns", fn := fun _ => fun
  | [d1, d2] => { results := [.lit (.bool true)], args := [d1, d2] }
  | _ => none }
def ringTurnsRow : OpenClaim := { program := "ytnockfncodafeaagreat", sum := "6f5f7d049ed3600b31aebfcad9dcfe438618809db4e390513cbbfb45b314f9c6", func := "flume/flumelaw17.RingTurns", spec := "ringTurns", unfollowed := true, recurses := true, apart := false }
def RingTurnsSaid : Prop := ringTurnsRow.holds Tryz.pinned (OpenSpec.ofChange ringTurnsSpec)

/-- ITS FALSE NEIGHBOUR: 'it returns false'. Refute it at one input. -/
def ringTurnsWrong : ChangeSpec := { name := "ringTurns", fn := fun _ => fun
  | [d1, d2] => { results := [.lit (.bool false)], args := [d1, d2] }
  | _ => none }
def RingTurnsWrongFalsely : Prop := ringTurnsRow.holds Tryz.pinned (OpenSpec.ofChange ringTurnsWrong)

/- THE SECOND FORM. 'bulk': how many values and letters a reading holds, each counted each time it is reached (what is shared counts as often as it is met; a slice's spare places count too). A statement '..UptoSaid' is the law's where the arguments, and the package variables that the reading takes, are together of bulk at most 1048576: NARROWER than '..Said'. Prove '..Said' where nothing that the law and all that it calls make is longer than what came in: it says more and counts as full. Else prove '..UptoSaid'. A law counts once. -/
mutual
def uptoBulk {H : Type} : DataW H → Nat
  | .lit (.string bytes) => bytes.length + 1
  | .lit _ => 1
  | .nil => 1
  | .ptr d => uptoBulk d + 1
  | .slice elems spare => uptoBulkAll elems + uptoBulkAll spare + 1
  | .agg parts => uptoBulkAll parts + 1
  | .iface _ d => uptoBulk d + 1
  | .map entries => uptoBulkEntries entries + 1
  | .held _ => 1
def uptoBulkAll {H : Type} : List (DataW H) → Nat
  | [] => 0
  | d :: r => uptoBulk d + uptoBulkAll r
def uptoBulkEntries {H : Type} : List (Lit × DataW H) → Nat
  | [] => 0
  | x :: r => uptoBulkEntry x + uptoBulkEntries r
def uptoBulkEntry {H : Type} : Lit × DataW H → Nat
  | (.string bytes, d) => bytes.length + uptoBulk d + 1
  | (_, d) => uptoBulk d + 1
 end
def uptoSmall : (H : Type) → List (DataW H) → Bool := fun _ ds => decide (uptoBulkAll ds ≤ 1048576)
def OpenSpec.upto (s : _root_.Go.ChangeSpec) : _root_.Go.OpenSpec := { _root_.Go.OpenSpec.ofChange s with cond := some uptoSmall }

/-- 'flumelaw17.RingHoles', WHERE WHAT IT READS IS OF BULK AT MOST 1048576: true; the input reads as it did. -/
def ringHolesUptoRow : OpenClaim := { program := "ytnockfncodafeaagreat", sum := "6f5f7d049ed3600b31aebfcad9dcfe438618809db4e390513cbbfb45b314f9c6", func := "flume/flumelaw17.RingHoles", spec := "ringHoles", unfollowed := true, recurses := true, apart := false, narrowed := true }
def RingHolesUptoSaid : Prop := ringHolesUptoRow.holds Tryz.pinned (OpenSpec.upto ringHolesSpec)

/-- 'flumelaw17.RingAlone', WHERE WHAT IT READS IS OF BULK AT MOST 1048576: true; the input reads as it did. -/
def ringAloneUptoRow : OpenClaim := { program := "ytnockfncodafeaagreat", sum := "6f5f7d049ed3600b31aebfcad9dcfe438618809db4e390513cbbfb45b314f9c6", func := "flume/flumelaw17.RingAlone", spec := "ringAlone", unfollowed := true, recurses := true, apart := false, narrowed := true }
def RingAloneUptoSaid : Prop := ringAloneUptoRow.holds Tryz.pinned (OpenSpec.upto ringAloneSpec)

/-- 'flumelaw17.RingSpace', WHERE WHAT IT READS IS OF BULK AT MOST 1048576: true; the input reads as it did. -/
def ringSpaceUptoRow : OpenClaim := { program := "ytnockfncodafeaagreat", sum := "6f5f7d049ed3600b31aebfcad9dcfe438618809db4e390513cbbfb45b314f9c6", func := "flume/flumelaw17.RingSpace", spec := "ringSpace", unfollowed := true, recurses := true, apart := false, narrowed := true }
def RingSpaceUptoSaid : Prop := ringSpaceUptoRow.holds Tryz.pinned (OpenSpec.upto ringSpaceSpec)

/-- 'flumelaw17.RingTurns', WHERE WHAT IT READS IS OF BULK AT MOST 1048576: true; the input reads as it did. -/
def ringTurnsUptoRow : OpenClaim := { program := "ytnockfncodafeaagreat", sum := "6f5f7d049ed3600b31aebfcad9dcfe438618809db4e390513cbbfb45b314f9c6", func := "flume/flumelaw17.RingTurns", spec := "ringTurns", unfollowed := true, recurses := true, apart := false, narrowed := true }
def RingTurnsUptoSaid : Prop := ringTurnsUptoRow.holds Tryz.pinned (OpenSpec.upto ringTurnsSpec)

end Rows
end Go.Proofs.YtnockfncodafeaaGreat
