/-
  No cell of these rows narrows 'for every input' (looked for: loops, veiled, ifaces, maps, wideKeys, modest, calm, conditions, laid).
  DERIVED. THE GIVEN ROWS OF THIS SEAT. 6 by the template 'for every input the law returns true; each argument reads behind the call as it read before'; 0 by the template 'total and deterministic' (their statements: YtnopcebdncdbgaaGreatTotals.lean).
  GIVEN WITH THE SEED: the statements are not yours to turn. If you find one false, say at which input.
  Laid BY PROGRAM, IN A SANDBOX (cutbox-rows.mjs): the forced cells as the released guide's own fill.sh prints them over the translation c329cd506424cf59… (all of the seat's roots in one cut). By AI agents, Wed Nov 11 2026. No macro, syntax, notation, axiom, sorry.
-/
import Derived.Test.YtnopcebdncdbgaaGreatChecked
import GoSem.Claim
import GoSem.ClaimJoined
import GoSem.ClaimMapViews
import Derived.JoinedTies
import Derived.KernelRfl
namespace Go.Proofs.YtnopcebdncdbgaaGreat
/- THE CELL 'sum', in the pinned program and in every row, IS THE sha256 OF THE DUMP (.gsa) THAT YtnopcebdncdbgaaGreatProg.lean LOADS. Nothing in Lean hashes anything: it is a label: what it is worth is what the hold of that sum in a sandbox is worth. -/
noncomputable def Tryz.pinned : Pinned := { name := "ytnopcebdncdbgaagreat", sum := "c329cd506424cf598cc71d15969fe127f75daeb2ce1e175ba95d97a5c84c76ec", checked := Tryz.checked }
namespace Rows
def none {H : Type} : Left H := { results := [], args := [] }

/-- 'flumelaw25.HelpDecides': WHATEVER THE INPUT: true; the input reads as it did. -/
def helpDecidesSpec : ChangeSpec := { name := "helpDecides", fn := fun _ => fun
  | [d1, d2] => { results := [.lit (.bool true)], args := [d1, d2] }
  | _ => none }
def helpDecidesRow : OpenClaim := { program := "ytnopcebdncdbgaagreat", sum := "c329cd506424cf598cc71d15969fe127f75daeb2ce1e175ba95d97a5c84c76ec", func := "flume/flumelaw25.HelpDecides", spec := "helpDecides", unfollowed := true, recurses := true, apart := false }
def HelpDecidesSaid : Prop := helpDecidesRow.holds Tryz.pinned (OpenSpec.ofChange helpDecidesSpec)

/-- ITS FALSE NEIGHBOUR: 'it returns false'. Refute it at one input. -/
def helpDecidesWrong : ChangeSpec := { name := "helpDecides", fn := fun _ => fun
  | [d1, d2] => { results := [.lit (.bool false)], args := [d1, d2] }
  | _ => none }
def HelpDecidesWrongFalsely : Prop := helpDecidesRow.holds Tryz.pinned (OpenSpec.ofChange helpDecidesWrong)

/-- 'flumelaw25.HelpStalled': WHATEVER THE INPUT: true; the input reads as it did. -/
def helpStalledSpec : ChangeSpec := { name := "helpStalled", fn := fun _ => fun
  | [d1, d2, d3] => { results := [.lit (.bool true)], args := [d1, d2, d3] }
  | _ => none }
def helpStalledRow : OpenClaim := { program := "ytnopcebdncdbgaagreat", sum := "c329cd506424cf598cc71d15969fe127f75daeb2ce1e175ba95d97a5c84c76ec", func := "flume/flumelaw25.HelpStalled", spec := "helpStalled", unfollowed := true, recurses := true, apart := false }
def HelpStalledSaid : Prop := helpStalledRow.holds Tryz.pinned (OpenSpec.ofChange helpStalledSpec)

/-- ITS FALSE NEIGHBOUR: 'it returns false'. Refute it at one input. -/
def helpStalledWrong : ChangeSpec := { name := "helpStalled", fn := fun _ => fun
  | [d1, d2, d3] => { results := [.lit (.bool false)], args := [d1, d2, d3] }
  | _ => none }
def HelpStalledWrongFalsely : Prop := helpStalledRow.holds Tryz.pinned (OpenSpec.ofChange helpStalledWrong)

/-- 'flumelaw25.HelpLate': WHATEVER THE INPUT: true; the input reads as it did. -/
def helpLateSpec : ChangeSpec := { name := "helpLate", fn := fun _ => fun
  | [d1, d2] => { results := [.lit (.bool true)], args := [d1, d2] }
  | _ => none }
def helpLateRow : OpenClaim := { program := "ytnopcebdncdbgaagreat", sum := "c329cd506424cf598cc71d15969fe127f75daeb2ce1e175ba95d97a5c84c76ec", func := "flume/flumelaw25.HelpLate", spec := "helpLate", unfollowed := true, recurses := true, apart := false }
def HelpLateSaid : Prop := helpLateRow.holds Tryz.pinned (OpenSpec.ofChange helpLateSpec)

/-- ITS FALSE NEIGHBOUR: 'it returns false'. Refute it at one input. -/
def helpLateWrong : ChangeSpec := { name := "helpLate", fn := fun _ => fun
  | [d1, d2] => { results := [.lit (.bool false)], args := [d1, d2] }
  | _ => none }
def HelpLateWrongFalsely : Prop := helpLateRow.holds Tryz.pinned (OpenSpec.ofChange helpLateWrong)

/-- 'flumelaw25.HelpTells': WHATEVER THE INPUT: true; the input reads as it did. -/
def helpTellsSpec : ChangeSpec := { name := "helpTells", fn := fun _ => fun
  | [d1, d2, d3] => { results := [.lit (.bool true)], args := [d1, d2, d3] }
  | _ => none }
def helpTellsRow : OpenClaim := { program := "ytnopcebdncdbgaagreat", sum := "c329cd506424cf598cc71d15969fe127f75daeb2ce1e175ba95d97a5c84c76ec", func := "flume/flumelaw25.HelpTells", spec := "helpTells", unfollowed := true, recurses := true, apart := false }
def HelpTellsSaid : Prop := helpTellsRow.holds Tryz.pinned (OpenSpec.ofChange helpTellsSpec)

/-- ITS FALSE NEIGHBOUR: 'it returns false'. Refute it at one input. -/
def helpTellsWrong : ChangeSpec := { name := "helpTells", fn := fun _ => fun
  | [d1, d2, d3] => { results := [.lit (.bool false)], args := [d1, d2, d3] }
  | _ => none }
def HelpTellsWrongFalsely : Prop := helpTellsRow.holds Tryz.pinned (OpenSpec.ofChange helpTellsWrong)

/-- 'flumelaw25.HelpOnce': WHATEVER THE INPUT: true; the input reads as it did. -/
def helpOnceSpec : ChangeSpec := { name := "helpOnce", fn := fun _ => fun
  | [d1, d2] => { results := [.lit (.bool true)], args := [d1, d2] }
  | _ => none }
def helpOnceRow : OpenClaim := { program := "ytnopcebdncdbgaagreat", sum := "c329cd506424cf598cc71d15969fe127f75daeb2ce1e175ba95d97a5c84c76ec", func := "flume/flumelaw25.HelpOnce", spec := "helpOnce", unfollowed := true, recurses := true, apart := false }
def HelpOnceSaid : Prop := helpOnceRow.holds Tryz.pinned (OpenSpec.ofChange helpOnceSpec)

/-- ITS FALSE NEIGHBOUR: 'it returns false'. Refute it at one input. -/
def helpOnceWrong : ChangeSpec := { name := "helpOnce", fn := fun _ => fun
  | [d1, d2] => { results := [.lit (.bool false)], args := [d1, d2] }
  | _ => none }
def HelpOnceWrongFalsely : Prop := helpOnceRow.holds Tryz.pinned (OpenSpec.ofChange helpOnceWrong)

/-- 'flumelaw25.HelpPlays': WHATEVER THE INPUT: true; the input reads as it did. -/
def helpPlaysSpec : ChangeSpec := { name := "helpPlays", fn := fun _ => fun
  | [d1, d2] => { results := [.lit (.bool true)], args := [d1, d2] }
  | _ => none }
def helpPlaysRow : OpenClaim := { program := "ytnopcebdncdbgaagreat", sum := "c329cd506424cf598cc71d15969fe127f75daeb2ce1e175ba95d97a5c84c76ec", func := "flume/flumelaw25.HelpPlays", spec := "helpPlays", unfollowed := true, recurses := true, apart := false }
def HelpPlaysSaid : Prop := helpPlaysRow.holds Tryz.pinned (OpenSpec.ofChange helpPlaysSpec)

/-- ITS FALSE NEIGHBOUR: 'it returns false'. Refute it at one input. -/
def helpPlaysWrong : ChangeSpec := { name := "helpPlays", fn := fun _ => fun
  | [d1, d2] => { results := [.lit (.bool false)], args := [d1, d2] }
  | _ => none }
def HelpPlaysWrongFalsely : Prop := helpPlaysRow.holds Tryz.pinned (OpenSpec.ofChange helpPlaysWrong)

/- THE SECOND FORM. 'bulk': how many values and letters a reading holds, each counted each time it is reached (what is shared counts as often as it is met; a slice's spare places count too). A statement '..UptoSaid' is the law's where the arguments, and the package variables that the reading takes, are together of bulk at most 1048576: NARROWER than '..Said'. Prove '..Said' where nothing that the law and all that it calls make is longer than what came in: it says more and counts as full. Else prove '..UptoSaid'. A law counts once. -/
mutual
def uptoBulk {H : Type} : DataW H → Nat
  | .lit (.string bytes) => bytes.length + 1
  | .lit _ => 1
  | .nil => 1
  | .ptr d => uptoBulk d + 1
  | .slice elems spare => uptoBulkAll elems + uptoBulkAll spare + 1
  | .agg parts => uptoBulkAll parts + 1
  | .iface _ d => uptoBulk d + 1
  | .map entries => uptoBulkEntries entries + 1
  | .held _ => 1
def uptoBulkAll {H : Type} : List (DataW H) → Nat
  | [] => 0
  | d :: r => uptoBulk d + uptoBulkAll r
def uptoBulkEntries {H : Type} : List (Lit × DataW H) → Nat
  | [] => 0
  | x :: r => uptoBulkEntry x + uptoBulkEntries r
def uptoBulkEntry {H : Type} : Lit × DataW H → Nat
  | (.string bytes, d) => bytes.length + uptoBulk d + 1
  | (_, d) => uptoBulk d + 1
 end
def uptoSmall : (H : Type) → List (DataW H) → Bool := fun _ ds => decide (uptoBulkAll ds ≤ 1048576)
def OpenSpec.upto (s : _root_.Go.ChangeSpec) : _root_.Go.OpenSpec := { _root_.Go.OpenSpec.ofChange s with cond := some uptoSmall }

/-- 'flumelaw25.HelpDecides', WHERE WHAT IT READS IS OF BULK AT MOST 1048576: true; the input reads as it did. -/
def helpDecidesUptoRow : OpenClaim := { program := "ytnopcebdncdbgaagreat", sum := "c329cd506424cf598cc71d15969fe127f75daeb2ce1e175ba95d97a5c84c76ec", func := "flume/flumelaw25.HelpDecides", spec := "helpDecides", unfollowed := true, recurses := true, apart := false, narrowed := true }
def HelpDecidesUptoSaid : Prop := helpDecidesUptoRow.holds Tryz.pinned (OpenSpec.upto helpDecidesSpec)

/-- 'flumelaw25.HelpStalled', WHERE WHAT IT READS IS OF BULK AT MOST 1048576: true; the input reads as it did. -/
def helpStalledUptoRow : OpenClaim := { program := "ytnopcebdncdbgaagreat", sum := "c329cd506424cf598cc71d15969fe127f75daeb2ce1e175ba95d97a5c84c76ec", func := "flume/flumelaw25.HelpStalled", spec := "helpStalled", unfollowed := true, recurses := true, apart := false, narrowed := true }
def HelpStalledUptoSaid : Prop := helpStalledUptoRow.holds Tryz.pinned (OpenSpec.upto helpStalledSpec)

/-- 'flumelaw25.HelpLate', WHERE WHAT IT READS IS OF BULK AT MOST 1048576: true; the input reads as it did. -/
def helpLateUptoRow : OpenClaim := { program := "ytnopcebdncdbgaagreat", sum := "c329cd506424cf598cc71d15969fe127f75daeb2ce1e175ba95d97a5c84c76ec", func := "flume/flumelaw25.HelpLate", spec := "helpLate", unfollowed := true, recurses := true, apart := false, narrowed := true }
def HelpLateUptoSaid : Prop := helpLateUptoRow.holds Tryz.pinned (OpenSpec.upto helpLateSpec)

/-- 'flumelaw25.HelpTells', WHERE WHAT IT READS IS OF BULK AT MOST 1048576: true; the input reads as it did. -/
def helpTellsUptoRow : OpenClaim := { program := "ytnopcebdncdbgaagreat", sum := "c329cd506424cf598cc71d15969fe127f75daeb2ce1e175ba95d97a5c84c76ec", func := "flume/flumelaw25.HelpTells", spec := "helpTells", unfollowed := true, recurses := true, apart := false, narrowed := true }
def HelpTellsUptoSaid : Prop := helpTellsUptoRow.holds Tryz.pinned (OpenSpec.upto helpTellsSpec)

/-- 'flumelaw25.HelpOnce', WHERE WHAT IT READS IS OF BULK AT MOST 1048576: true; the input reads as it did. -/
def helpOnceUptoRow : OpenClaim := { program := "ytnopcebdncdbgaagreat", sum := "c329cd506424cf598cc71d15969fe127f75daeb2ce1e175ba95d97a5c84c76ec", func := "flume/flumelaw25.HelpOnce", spec := "helpOnce", unfollowed := true, recurses := true, apart := false, narrowed := true }
def HelpOnceUptoSaid : Prop := helpOnceUptoRow.holds Tryz.pinned (OpenSpec.upto helpOnceSpec)

/-- 'flumelaw25.HelpPlays', WHERE WHAT IT READS IS OF BULK AT MOST 1048576: true; the input reads as it did. -/
def helpPlaysUptoRow : OpenClaim := { program := "ytnopcebdncdbgaagreat", sum := "c329cd506424cf598cc71d15969fe127f75daeb2ce1e175ba95d97a5c84c76ec", func := "flume/flumelaw25.HelpPlays", spec := "helpPlays", unfollowed := true, recurses := true, apart := false, narrowed := true }
def HelpPlaysUptoSaid : Prop := helpPlaysUptoRow.holds Tryz.pinned (OpenSpec.upto helpPlaysSpec)

end Rows
end Go.Proofs.YtnopcebdncdbgaaGreat
