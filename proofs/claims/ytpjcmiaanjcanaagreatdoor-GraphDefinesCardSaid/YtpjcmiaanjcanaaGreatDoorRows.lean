/-
  NARROWER THAN 'FOR EVERY INPUT', by the rows' own cells (each row's printed sentence says how): GraphDefines: loops, laid.
  DERIVED. THE GIVEN ROWS OF THIS SEAT. 1 by the template 'for every input the law returns true; each argument reads behind the call as it read before'; 0 by the template 'total and deterministic' (their statements: YtpjcmiaanjcanaaGreatDoorTotals.lean).
  GIVEN WITH THE SEED: the statements are not yours to turn. If you find one false, say at which input.
  Laid BY PROGRAM, IN A SANDBOX (cutbox-rows.mjs): the forced cells as the released guide's own fill.sh prints them over the translation 210a8ddca1fa325a… (all of the seat's roots in one cut). By AI agents, Wed Nov 11 2026. No macro, syntax, notation, axiom, sorry.
-/
import Derived.Test.YtpjcmiaanjcanaaGreatDoorChecked
import GoSem.Claim
import GoSem.ClaimJoined
import GoSem.ClaimMapViews
import Derived.JoinedTies
import Derived.KernelRfl
namespace Go.Proofs.YtpjcmiaanjcanaaGreatDoor
/- THE CELL 'sum', in the pinned program and in every row, IS THE sha256 OF THE DUMP (.gsa) THAT YtpjcmiaanjcanaaGreatDoorProg.lean LOADS. Nothing in Lean hashes anything: it is a label: what it is worth is what the hold of that sum in a sandbox is worth. -/
noncomputable def Tryz.pinned : Pinned := { name := "ytpjcmiaanjcanaagreatdoor", sum := "210a8ddca1fa325a01a357b334a55c6a5eed4b6033918b78b6fa447d377b0daa", checked := Tryz.checked }
namespace Rows
def none {H : Type} : Left H := { results := [], args := [] }

/- WHAT THE LISTED PACKAGE-LEVEL VARIABLES READ AS WHEN THE CALL BEGINS. Each datum BY PROGRAM (the guide's laid-datum.mjs) off the statement by which the dump's own 'gosem.cut.vars' lays the variable. In a bare row this is a premise. The card (YtpjcmiaanjcanaaGreatDoorCards.lean) ties it to the program's text. -/
def laid_sheafworks_nest_counters {H : Type} : DataW H := .iface "func table" (.agg [.iface "func" (.lit (.string [40, 42, 115, 104, 101, 97, 102, 119, 111, 114, 107, 115, 47, 110, 101, 115, 116, 46, 108, 97, 121, 111, 117, 116, 41, 46, 110, 111, 110, 101])), .iface "func" (.lit (.string [40, 42, 115, 104, 101, 97, 102, 119, 111, 114, 107, 115, 47, 110, 101, 115, 116, 46, 108, 97, 121, 111, 117, 116, 41, 46, 111, 110, 101])), .iface "func" (.lit (.string [40, 42, 115, 104, 101, 97, 102, 119, 111, 114, 107, 115, 47, 110, 101, 115, 116, 46, 108, 97, 121, 111, 117, 116, 41, 46, 98, 111, 116, 104])), .iface "func" (.lit (.string [40, 42, 115, 104, 101, 97, 102, 119, 111, 114, 107, 115, 47, 110, 101, 115, 116, 46, 108, 97, 121, 111, 117, 116, 41, 46, 115, 117, 109])), .iface "func" (.lit (.string [40, 42, 115, 104, 101, 97, 102, 119, 111, 114, 107, 115, 47, 110, 101, 115, 116, 46, 108, 97, 121, 111, 117, 116, 41, 46, 115, 101, 113]))])
def laid_sheafworks_nest_arity {H : Type} : DataW H := .agg [.lit (.int .i64 0), .lit (.int .i64 0), .lit (.int .i64 2), .lit (.int .i64 2), .lit (.int .i64 1)]
def laid_sheafworks_nest_kinds {H : Type} : DataW H := .agg [.lit (.int .i64 0), .lit (.int .i64 1), .lit (.int .i64 2), .lit (.int .i64 3), .lit (.int .i64 4)]
def laid_sheafworks_libg_nobody {H : Type} : DataW H := .agg [.lit (.int .i64 1099511627776), .lit (.int .i64 1099511627776)]
def laid_sheafworks_libg_names {H : Type} : DataW H := .slice [.lit (.string [99, 111, 109, 112, 115]), .lit (.string [100, 105, 115, 116]), .lit (.string [108, 101, 118, 101, 108]), .lit (.string [115, 112, 109, 118]), .lit (.string [119, 97, 108, 107]), .lit (.string [104, 117, 108, 108])] []

/-- 'sheafworkslaw35.GraphDefines': WHATEVER THE INPUT: true; the input reads as it did. -/
def graphDefinesSpec : ChangeSpec := { name := "graphDefines", fn := fun _ => fun
  | [d1, d2] => { results := [.lit (.bool true)], args := [d1, d2] }
  | _ => none }
def graphDefinesRow : OpenClaim := { program := "ytpjcmiaanjcanaagreatdoor", sum := "210a8ddca1fa325a01a357b334a55c6a5eed4b6033918b78b6fa447d377b0daa", func := "sheafworks/sheafworkslaw35.GraphDefines", spec := "graphDefines", unfollowed := true, recurses := true, named := ["sheafworks/libg.nobody", "sheafworks/nest.arity", "sheafworks/nest.counters", "sheafworks/nest.kinds", "sheafworks/libg.names"], loops := true, apart := false, laid := [("sheafworks/nest.counters", laid_sheafworks_nest_counters), ("sheafworks/nest.arity", laid_sheafworks_nest_arity), ("sheafworks/nest.kinds", laid_sheafworks_nest_kinds), ("sheafworks/libg.nobody", laid_sheafworks_libg_nobody), ("sheafworks/libg.names", laid_sheafworks_libg_names)] }
def GraphDefinesSaid : Prop := graphDefinesRow.holds Tryz.pinned (OpenSpec.ofChange graphDefinesSpec)

/-- ITS FALSE NEIGHBOUR: 'it returns false'. Refute it at one input. -/
def graphDefinesWrong : ChangeSpec := { name := "graphDefines", fn := fun _ => fun
  | [d1, d2] => { results := [.lit (.bool false)], args := [d1, d2] }
  | _ => none }
def GraphDefinesWrongFalsely : Prop := graphDefinesRow.holds Tryz.pinned (OpenSpec.ofChange graphDefinesWrong)

/- THE SECOND FORM. 'bulk': how many values and letters a reading holds, each counted each time it is reached (what is shared counts as often as it is met; a slice's spare places count too). A statement '..UptoSaid' is the law's where the arguments, and the package variables that the reading takes, are together of bulk at most 1048576: NARROWER than '..Said'. Prove '..Said' where nothing that the law and all that it calls make is longer than what came in: it says more and counts as full. Else prove '..UptoSaid'. A law counts once. -/
mutual
def uptoBulk {H : Type} : DataW H → Nat
  | .lit (.string bytes) => bytes.length + 1
  | .lit _ => 1
  | .nil => 1
  | .ptr d => uptoBulk d + 1
  | .slice elems spare => uptoBulkAll elems + uptoBulkAll spare + 1
  | .agg parts => uptoBulkAll parts + 1
  | .iface _ d => uptoBulk d + 1
  | .map entries => uptoBulkEntries entries + 1
  | .held _ => 1
def uptoBulkAll {H : Type} : List (DataW H) → Nat
  | [] => 0
  | d :: r => uptoBulk d + uptoBulkAll r
def uptoBulkEntries {H : Type} : List (Lit × DataW H) → Nat
  | [] => 0
  | x :: r => uptoBulkEntry x + uptoBulkEntries r
def uptoBulkEntry {H : Type} : Lit × DataW H → Nat
  | (.string bytes, d) => bytes.length + uptoBulk d + 1
  | (_, d) => uptoBulk d + 1
 end
def uptoSmall : (H : Type) → List (DataW H) → Bool := fun _ ds => decide (uptoBulkAll ds ≤ 1048576)
def OpenSpec.upto (s : _root_.Go.ChangeSpec) : _root_.Go.OpenSpec := { _root_.Go.OpenSpec.ofChange s with cond := some uptoSmall }

/-- 'sheafworkslaw35.GraphDefines', WHERE WHAT IT READS IS OF BULK AT MOST 1048576: true; the input reads as it did. -/
def graphDefinesUptoRow : OpenClaim := { program := "ytpjcmiaanjcanaagreatdoor", sum := "210a8ddca1fa325a01a357b334a55c6a5eed4b6033918b78b6fa447d377b0daa", func := "sheafworks/sheafworkslaw35.GraphDefines", spec := "graphDefines", unfollowed := true, recurses := true, named := ["sheafworks/libg.nobody", "sheafworks/nest.arity", "sheafworks/nest.counters", "sheafworks/nest.kinds", "sheafworks/libg.names"], loops := true, apart := false, laid := [("sheafworks/nest.counters", laid_sheafworks_nest_counters), ("sheafworks/nest.arity", laid_sheafworks_nest_arity), ("sheafworks/nest.kinds", laid_sheafworks_nest_kinds), ("sheafworks/libg.nobody", laid_sheafworks_libg_nobody), ("sheafworks/libg.names", laid_sheafworks_libg_names)], narrowed := true }
def GraphDefinesUptoSaid : Prop := graphDefinesUptoRow.holds Tryz.pinned (OpenSpec.upto graphDefinesSpec)

end Rows
end Go.Proofs.YtpjcmiaanjcanaaGreatDoor
