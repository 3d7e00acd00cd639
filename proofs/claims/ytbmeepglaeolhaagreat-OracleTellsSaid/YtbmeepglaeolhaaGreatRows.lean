/-
  No cell of these rows narrows 'for every input' (looked for: loops, veiled, ifaces, maps, wideKeys, modest, calm, conditions, laid).
  DERIVED. THE GIVEN ROWS OF THIS SEAT. 5 by the template 'for every input the law returns true; each argument reads behind the call as it read before'; 0 by the template 'total and deterministic' (their statements: YtbmeepglaeolhaaGreatTotals.lean).
  GIVEN WITH THE SEED: the statements are not yours to turn. If you find one false, say at which input.
  Laid BY PROGRAM, IN A SANDBOX (cutbox-rows.mjs): the forced cells as the released guide's own fill.sh prints them over the translation 265fa83f45595aab… (all of the seat's roots in one cut). By AI agents, Wed Nov 11 2026. No macro, syntax, notation, axiom, sorry.
-/
import Derived.Test.YtbmeepglaeolhaaGreatChecked
import GoSem.Claim
import GoSem.ClaimJoined
import GoSem.ClaimMapViews
import Derived.JoinedTies
import Derived.KernelRfl
namespace Go.Proofs.YtbmeepglaeolhaaGreat
/- THE CELL 'sum', in the pinned program and in every row, IS THE sha256 OF THE DUMP (.gsa) THAT YtbmeepglaeolhaaGreatProg.lean LOADS. Nothing in Lean hashes anything: it is a label: what it is worth is what the hold of that sum in a sandbox is worth. -/
noncomputable def Tryz.pinned : Pinned := { name := "ytbmeepglaeolhaagreat", sum := "265fa83f45595aabe607357c44758b536dfd9aaf99b15e54d7daf5d08331f927", checked := Tryz.checked }
namespace Rows
def none {H : Type} : Left H := { results := [], args := [] }

/-- 'flumelaw23.OracleFloors': WHATEVER THE INPUT: true; the input reads as it did. -/
def oracleFloorsSpec : ChangeSpec := { name := "oracleFloors", fn := fun _ => fun
  | [d] => { results := [.lit (.bool true)], args := [d] }
  | _ => none }
def oracleFloorsRow : OpenClaim := { program := "ytbmeepglaeolhaagreat", sum := "265fa83f45595aabe607357c44758b536dfd9aaf99b15e54d7daf5d08331f927", func := "flume/flumelaw23.OracleFloors", spec := "oracleFloors", unfollowed := true, recurses := true, apart := false }
def OracleFloorsSaid : Prop := oracleFloorsRow.holds Tryz.pinned (OpenSpec.ofChange oracleFloorsSpec)

/-- ITS FALSE NEIGHBOUR: 'it returns false'. Refute it at one input. -/
def oracleFloorsWrong : ChangeSpec := { name := "oracleFloors", fn := fun _ => fun
  | [d] => { results := [.lit (.bool false)], args := [d] }
  | _ => none }
def OracleFloorsWrongFalsely : Prop := oracleFloorsRow.holds Tryz.pinned (OpenSpec.ofChange oracleFloorsWrong)

/-- 'flumelaw23.OracleQuiet': WHATEVER THE INPUT: true; the input reads as it did. -/
def oracleQuietSpec : ChangeSpec := { name := "oracleQuiet", fn := fun _ => fun
  | [d1, d2, d3] => { results := [.lit (.bool true)], args := [d1, d2, d3] }
  | _ => none }
def oracleQuietRow : OpenClaim := { program := "ytbmeepglaeolhaagreat", sum := "265fa83f45595aabe607357c44758b536dfd9aaf99b15e54d7daf5d08331f927", func := "flume/flumelaw23.OracleQuiet", spec := "oracleQuiet", unfollowed := true, recurses := true, apart := false }
def OracleQuietSaid : Prop := oracleQuietRow.holds Tryz.pinned (OpenSpec.ofChange oracleQuietSpec)

/-- ITS FALSE NEIGHBOUR: 'it returns false'. Refute it at one input. -/
def oracleQuietWrong : ChangeSpec := { name := "oracleQuiet", fn := fun _ => fun
  | [d1, d2, d3] => { results := [.lit (.bool false)], args := [d1, d2, d3] }
  | _ => none }
def OracleQuietWrongFalsely : Prop := oracleQuietRow.holds Tryz.pinned (OpenSpec.ofChange oracleQuietWrong)

/-- 'flumelaw23.OracleAlone': WHATEVER THE INPUT: true; the input reads as it did. -/
def oracleAloneSpec : ChangeSpec := { name := "oracleAlone", fn := fun _ => fun
  | [d1, d2] => { results := [.lit (.bool true)], args := [d1, d2] }
  | _ => none }
def oracleAloneRow : OpenClaim := { program := "ytbmeepglaeolhaagreat", sum := "265fa83f45595aabe607357c44758b536dfd9aaf99b15e54d7daf5d08331f927", func := "flume/flumelaw23.OracleAlone", spec := "oracleAlone", unfollowed := true, recurses := true, apart := false }
def OracleAloneSaid : Prop := oracleAloneRow.holds Tryz.pinned (OpenSpec.ofChange oracleAloneSpec)

/-- ITS FALSE NEIGHBOUR: 'it returns false'. Refute it at one input. -/
def oracleAloneWrong : ChangeSpec := { name := "oracleAlone", fn := fun _ => fun
  | [d1, d2] => { results := [.lit (.bool false)], args := [d1, d2] }
  | _ => none }
def OracleAloneWrongFalsely : Prop := oracleAloneRow.holds Tryz.pinned (OpenSpec.ofChange oracleAloneWrong)

/-- 'flumelaw23.OraclePlays': WHATEVER THE INPUT: true; the input reads as it did. -/
def oraclePlaysSpec : ChangeSpec := { name := "oraclePlays", fn := fun _ => fun
  | [d] => { results := [.lit (.bool true)], args := [d] }
  | _ => none }
def oraclePlaysRow : OpenClaim := { program := "ytbmeepglaeolhaagreat", sum := "265fa83f45595aabe607357c44758b536dfd9aaf99b15e54d7daf5d08331f927", func := "flume/flumelaw23.OraclePlays", spec := "oraclePlays", unfollowed := true, recurses := true, apart := false }
def OraclePlaysSaid : Prop := oraclePlaysRow.holds Tryz.pinned (OpenSpec.ofChange oraclePlaysSpec)

/-- ITS FALSE NEIGHBOUR: 'it returns false'. Refute it at one input. -/
def oraclePlaysWrong : ChangeSpec := { name := "oraclePlays", fn := fun _ => fun
  | [d] => { results := [.lit (.bool false)], args := [d] }
  | _ => none }
def OraclePlaysWrongFalsely : Prop := oraclePlaysRow.holds Tryz.pinned (OpenSpec.ofChange oraclePlaysWrong)

/-- 'flumelaw23.OracleTells': WHATEVER THE INPUT: true; the input reads as it did. -/
def oracleTellsSpec : ChangeSpec := { name := "oracleTells", fn := fun _ => fun
  | [d1, d2, d3] => { results := [.lit (.bool true)], args := [d1, d2, d3] }
  | _ => none }
def oracleTellsRow : OpenClaim := { program := "ytbmeepglaeolhaagreat", sum := "265fa83f45595aabe607357c44758b536dfd9aaf99b15e54d7daf5d08331f927", func := "flume/flumelaw23.OracleTells", spec := "oracleTells", unfollowed := true, recurses := true, apart := false }
def OracleTellsSaid : Prop := oracleTellsRow.holds Tryz.pinned (OpenSpec.ofChange oracleTellsSpec)

/-- ITS FALSE NEIGHBOUR: 'it returns false'. Refute it at one input. -/
def oracleTellsWrong : ChangeSpec := { name := "oracleTells", fn := fun _ => fun
  | [d1, d2, d3] => { results := [.lit (.bool false)], args := [d1, d2, d3] }
  | _ => none }
def OracleTellsWrongFalsely : Prop := oracleTellsRow.holds Tryz.pinned (OpenSpec.ofChange oracleTellsWrong)

/- THE SECOND FORM. 'bulk': how many values and letters a reading holds, each counted each time it is reached (what is shared counts as often as it is met; a slice's spare places count too). A statement '..UptoSaid' is the law's where the arguments, and the package variables that the reading takes, are together of bulk at most 1048576: NARROWER than '..Said'. Prove '..Said' where nothing that the law and all that it calls make is longer than what came in: it says more and counts as full. Else prove '..UptoSaid'. A law counts once. -/
mutual
def uptoBulk {H : Type} : DataW H → Nat
  | .lit (.string bytes) => bytes.length + 1
  | .lit _ => 1
  | .nil => 1
  | .ptr d => uptoBulk d + 1
  | .slice elems spare => uptoBulkAll elems + uptoBulkAll spare + 1
  | .agg parts => uptoBulkAll parts + 1
  | .iface _ d => uptoBulk d + 1
  | .map entries => uptoBulkEntries entries + 1
  | .held _ => 1
def uptoBulkAll {H : Type} : List (DataW H) → Nat
  | [] => 0
  | d :: r => uptoBulk d + uptoBulkAll r
def uptoBulkEntries {H : Type} : List (Lit × DataW H) → Nat
  | [] => 0
  | x :: r => uptoBulkEntry x + uptoBulkEntries r
def uptoBulkEntry {H : Type} : Lit × DataW H → Nat
  | (.string bytes, d) => bytes.length + uptoBulk d + 1
  | (_, d) => uptoBulk d + 1
 end
def uptoSmall : (H : Type) → List (DataW H) → Bool := fun _ ds => decide (uptoBulkAll ds ≤ 1048576)
def OpenSpec.upto (s : _root_.Go.ChangeSpec) : _root_.Go.OpenSpec := { _root_.Go.OpenSpec.ofChange s with cond := some uptoSmall }

/-- 'flumelaw23.OracleFloors', WHERE WHAT IT READS IS OF BULK AT MOST 1048576: true; the input reads as it did. -/
def oracleFloorsUptoRow : OpenClaim := { program := "ytbmeepglaeolhaagreat", sum := "265fa83f45595aabe607357c44758b536dfd9aaf99b15e54d7daf5d08331f927", func := "flume/flumelaw23.OracleFloors", spec := "oracleFloors", unfollowed := true, recurses := true, apart := false, narrowed := true }
def OracleFloorsUptoSaid : Prop := oracleFloorsUptoRow.holds Tryz.pinned (OpenSpec.upto oracleFloorsSpec)

/-- 'flumelaw23.OracleQuiet', WHERE WHAT IT READS IS OF BULK AT MOST 1048576: true; the input reads as it did. -/
def oracleQuietUptoRow : OpenClaim := { program := "ytbmeepglaeolhaagreat", sum := "265fa83f45595aabe607357c44758b536dfd9aaf99b15e54d7daf5d08331f927", func := "flume/flumelaw23.OracleQuiet", spec := "oracleQuiet", unfollowed := true, recurses := true, apart := false, narrowed := true }
def OracleQuietUptoSaid : Prop := oracleQuietUptoRow.holds Tryz.pinned (OpenSpec.upto oracleQuietSpec)

/-- 'flumelaw23.OracleAlone', WHERE WHAT IT READS IS OF BULK AT MOST 1048576: true; the input reads as it did. -/
def oracleAloneUptoRow : OpenClaim := { program := "ytbmeepglaeolhaagreat", sum := "265fa83f45595aabe607357c44758b536dfd9aaf99b15e54d7daf5d08331f927", func := "flume/flumelaw23.OracleAlone", spec := "oracleAlone", unfollowed := true, recurses := true, apart := false, narrowed := true }
def OracleAloneUptoSaid : Prop := oracleAloneUptoRow.holds Tryz.pinned (OpenSpec.upto oracleAloneSpec)

/-- 'flumelaw23.OraclePlays', WHERE WHAT IT READS IS OF BULK AT MOST 1048576: true; the input reads as it did. -/
def oraclePlaysUptoRow : OpenClaim := { program := "ytbmeepglaeolhaagreat", sum := "265fa83f45595aabe607357c44758b536dfd9aaf99b15e54d7daf5d08331f927", func := "flume/flumelaw23.OraclePlays", spec := "oraclePlays", unfollowed := true, recurses := true, apart := false, narrowed := true }
def OraclePlaysUptoSaid : Prop := oraclePlaysUptoRow.holds Tryz.pinned (OpenSpec.upto oraclePlaysSpec)

/-- 'flumelaw23.OracleTells', WHERE WHAT IT READS IS OF BULK AT MOST 1048576: true; the input reads as it did. -/
def oracleTellsUptoRow : OpenClaim := { program := "ytbmeepglaeolhaagreat", sum := "265fa83f45595aabe607357c44758b536dfd9aaf99b15e54d7daf5d08331f927", func := "flume/flumelaw23.OracleTells", spec := "oracleTells", unfollowed := true, recurses := true, apart := false, narrowed := true }
def OracleTellsUptoSaid : Prop := oracleTellsUptoRow.holds Tryz.pinned (OpenSpec.upto oracleTellsSpec)

end Rows
end Go.Proofs.YtbmeepglaeolhaaGreat
