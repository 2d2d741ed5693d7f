/-
  NARROWER THAN 'FOR EVERY INPUT', by the rows' own cells (each row's printed sentence says how): GraphComps: laid · GraphDists: laid · GraphLevels: laid · GraphSums: laid · GraphHull: laid.
  DERIVED. THE GIVEN ROWS OF THIS SEAT. 5 by the template 'for every input the law returns true; each argument reads behind the call as it read before'; 0 by the template 'total and deterministic' (their statements: YtjgigcaelcapdaaDoorTotals.lean).
  GIVEN WITH THE SEED: the statements are not yours to turn. If you find one false, say at which input.
  Laid BY PROGRAM, IN A SANDBOX (cutbox-rows.mjs): the forced cells as the released guide's own fill.sh prints them over the translation 9ed3417eb9f026ed… (all of the seat's roots in one cut). By AI agents, Wed Nov 11 2026. No macro, syntax, notation, axiom, sorry.
-/
import Derived.Test.YtjgigcaelcapdaaDoorChecked
import GoSem.Claim
import GoSem.ClaimJoined
import GoSem.ClaimMapViews
import Derived.JoinedTies
import Derived.KernelRfl
namespace Go.Proofs.YtjgigcaelcapdaaDoor
/- THE CELL 'sum', in the pinned program and in every row, IS THE sha256 OF THE DUMP (.gsa) THAT YtjgigcaelcapdaaDoorProg.lean LOADS. Nothing in Lean hashes anything: it is a label: what it is worth is what the hold of that sum in a sandbox is worth. -/
noncomputable def Tryd.pinned : Pinned := { name := "ytjgigcaelcapdaadoor", sum := "9ed3417eb9f026edd18b7f6e7411c10c7cd733d7b41723e1d326fa1704b61a54", checked := Tryd.checked }
namespace Rows
def none {H : Type} : Left H := { results := [], args := [] }

/- WHAT THE LISTED PACKAGE-LEVEL VARIABLES READ AS WHEN THE CALL BEGINS. Each datum BY PROGRAM (the guide's laid-datum.mjs) off the statement by which the dump's own 'gosem.cut.vars' lays the variable. In a bare row this is a premise. The card (YtjgigcaelcapdaaDoorCards.lean) ties it to the program's text. -/
def laid_sheafworks_nest_counters {H : Type} : DataW H := .iface "func table" (.agg [.iface "func" (.lit (.string [40, 42, 115, 104, 101, 97, 102, 119, 111, 114, 107, 115, 47, 110, 101, 115, 116, 46, 108, 97, 121, 111, 117, 116, 41, 46, 110, 111, 110, 101])), .iface "func" (.lit (.string [40, 42, 115, 104, 101, 97, 102, 119, 111, 114, 107, 115, 47, 110, 101, 115, 116, 46, 108, 97, 121, 111, 117, 116, 41, 46, 111, 110, 101])), .iface "func" (.lit (.string [40, 42, 115, 104, 101, 97, 102, 119, 111, 114, 107, 115, 47, 110, 101, 115, 116, 46, 108, 97, 121, 111, 117, 116, 41, 46, 98, 111, 116, 104])), .iface "func" (.lit (.string [40, 42, 115, 104, 101, 97, 102, 119, 111, 114, 107, 115, 47, 110, 101, 115, 116, 46, 108, 97, 121, 111, 117, 116, 41, 46, 115, 117, 109])), .iface "func" (.lit (.string [40, 42, 115, 104, 101, 97, 102, 119, 111, 114, 107, 115, 47, 110, 101, 115, 116, 46, 108, 97, 121, 111, 117, 116, 41, 46, 115, 101, 113]))])
def laid_sheafworks_nest_arity {H : Type} : DataW H := .agg [.lit (.int .i64 0), .lit (.int .i64 0), .lit (.int .i64 2), .lit (.int .i64 2), .lit (.int .i64 1)]
def laid_sheafworks_nest_kinds {H : Type} : DataW H := .agg [.lit (.int .i64 0), .lit (.int .i64 1), .lit (.int .i64 2), .lit (.int .i64 3), .lit (.int .i64 4)]
def laid_sheafworks_libg_nobody {H : Type} : DataW H := .agg [.lit (.int .i64 1099511627776), .lit (.int .i64 1099511627776)]

/-- 'sheafworkslaw35.GraphComps': WHATEVER THE INPUT: true; the input reads as it did. -/
def graphCompsSpec : ChangeSpec := { name := "graphComps", fn := fun _ => fun
  | [d1, d2] => { results := [.lit (.bool true)], args := [d1, d2] }
  | _ => none }
def graphCompsRow : OpenClaim := { program := "ytjgigcaelcapdaadoor", sum := "9ed3417eb9f026edd18b7f6e7411c10c7cd733d7b41723e1d326fa1704b61a54", func := "sheafworks/sheafworkslaw35.GraphComps", spec := "graphComps", unfollowed := true, recurses := true, named := ["sheafworks/libg.nobody", "sheafworks/nest.arity", "sheafworks/nest.counters", "sheafworks/nest.kinds"], apart := false, laid := [("sheafworks/nest.counters", laid_sheafworks_nest_counters), ("sheafworks/nest.arity", laid_sheafworks_nest_arity), ("sheafworks/nest.kinds", laid_sheafworks_nest_kinds), ("sheafworks/libg.nobody", laid_sheafworks_libg_nobody)] }
def GraphCompsSaid : Prop := graphCompsRow.holds Tryd.pinned (OpenSpec.ofChange graphCompsSpec)

/-- ITS FALSE NEIGHBOUR: 'it returns false'. Refute it at one input. -/
def graphCompsWrong : ChangeSpec := { name := "graphComps", fn := fun _ => fun
  | [d1, d2] => { results := [.lit (.bool false)], args := [d1, d2] }
  | _ => none }
def GraphCompsWrongFalsely : Prop := graphCompsRow.holds Tryd.pinned (OpenSpec.ofChange graphCompsWrong)

/-- 'sheafworkslaw35.GraphDists': WHATEVER THE INPUT: true; the input reads as it did. -/
def graphDistsSpec : ChangeSpec := { name := "graphDists", fn := fun _ => fun
  | [d1, d2] => { results := [.lit (.bool true)], args := [d1, d2] }
  | _ => none }
def graphDistsRow : OpenClaim := { program := "ytjgigcaelcapdaadoor", sum := "9ed3417eb9f026edd18b7f6e7411c10c7cd733d7b41723e1d326fa1704b61a54", func := "sheafworks/sheafworkslaw35.GraphDists", spec := "graphDists", unfollowed := true, recurses := true, named := ["sheafworks/libg.nobody", "sheafworks/nest.arity", "sheafworks/nest.counters", "sheafworks/nest.kinds"], apart := false, laid := [("sheafworks/nest.counters", laid_sheafworks_nest_counters), ("sheafworks/nest.arity", laid_sheafworks_nest_arity), ("sheafworks/nest.kinds", laid_sheafworks_nest_kinds), ("sheafworks/libg.nobody", laid_sheafworks_libg_nobody)] }
def GraphDistsSaid : Prop := graphDistsRow.holds Tryd.pinned (OpenSpec.ofChange graphDistsSpec)

/-- ITS FALSE NEIGHBOUR: 'it returns false'. Refute it at one input. -/
def graphDistsWrong : ChangeSpec := { name := "graphDists", fn := fun _ => fun
  | [d1, d2] => { results := [.lit (.bool false)], args := [d1, d2] }
  | _ => none }
def GraphDistsWrongFalsely : Prop := graphDistsRow.holds Tryd.pinned (OpenSpec.ofChange graphDistsWrong)

/-- 'sheafworkslaw35.GraphLevels': WHATEVER THE INPUT: true; the input reads as it did. -/
def graphLevelsSpec : ChangeSpec := { name := "graphLevels", fn := fun _ => fun
  | [d1, d2] => { results := [.lit (.bool true)], args := [d1, d2] }
  | _ => none }
def graphLevelsRow : OpenClaim := { program := "ytjgigcaelcapdaadoor", sum := "9ed3417eb9f026edd18b7f6e7411c10c7cd733d7b41723e1d326fa1704b61a54", func := "sheafworks/sheafworkslaw35.GraphLevels", spec := "graphLevels", unfollowed := true, recurses := true, named := ["sheafworks/libg.nobody", "sheafworks/nest.arity", "sheafworks/nest.counters", "sheafworks/nest.kinds"], apart := false, laid := [("sheafworks/nest.counters", laid_sheafworks_nest_counters), ("sheafworks/nest.arity", laid_sheafworks_nest_arity), ("sheafworks/nest.kinds", laid_sheafworks_nest_kinds), ("sheafworks/libg.nobody", laid_sheafworks_libg_nobody)] }
def GraphLevelsSaid : Prop := graphLevelsRow.holds Tryd.pinned (OpenSpec.ofChange graphLevelsSpec)

/-- ITS FALSE NEIGHBOUR: 'it returns false'. Refute it at one input. -/
def graphLevelsWrong : ChangeSpec := { name := "graphLevels", fn := fun _ => fun
  | [d1, d2] => { results := [.lit (.bool false)], args := [d1, d2] }
  | _ => none }
def GraphLevelsWrongFalsely : Prop := graphLevelsRow.holds Tryd.pinned (OpenSpec.ofChange graphLevelsWrong)

/-- 'sheafworkslaw35.GraphSums': WHATEVER THE INPUT: true; the input reads as it did. -/
def graphSumsSpec : ChangeSpec := { name := "graphSums", fn := fun _ => fun
  | [d1, d2, d3] => { results := [.lit (.bool true)], args := [d1, d2, d3] }
  | _ => none }
def graphSumsRow : OpenClaim := { program := "ytjgigcaelcapdaadoor", sum := "9ed3417eb9f026edd18b7f6e7411c10c7cd733d7b41723e1d326fa1704b61a54", func := "sheafworks/sheafworkslaw35.GraphSums", spec := "graphSums", unfollowed := true, recurses := true, named := ["sheafworks/libg.nobody", "sheafworks/nest.arity", "sheafworks/nest.counters", "sheafworks/nest.kinds"], apart := false, laid := [("sheafworks/nest.counters", laid_sheafworks_nest_counters), ("sheafworks/nest.arity", laid_sheafworks_nest_arity), ("sheafworks/nest.kinds", laid_sheafworks_nest_kinds), ("sheafworks/libg.nobody", laid_sheafworks_libg_nobody)] }
def GraphSumsSaid : Prop := graphSumsRow.holds Tryd.pinned (OpenSpec.ofChange graphSumsSpec)

/-- ITS FALSE NEIGHBOUR: 'it returns false'. Refute it at one input. -/
def graphSumsWrong : ChangeSpec := { name := "graphSums", fn := fun _ => fun
  | [d1, d2, d3] => { results := [.lit (.bool false)], args := [d1, d2, d3] }
  | _ => none }
def GraphSumsWrongFalsely : Prop := graphSumsRow.holds Tryd.pinned (OpenSpec.ofChange graphSumsWrong)

/-- 'sheafworkslaw35.GraphHull': WHATEVER THE INPUT: true; the input reads as it did. -/
def graphHullSpec : ChangeSpec := { name := "graphHull", fn := fun _ => fun
  | [d1, d2] => { results := [.lit (.bool true)], args := [d1, d2] }
  | _ => none }
def graphHullRow : OpenClaim := { program := "ytjgigcaelcapdaadoor", sum := "9ed3417eb9f026edd18b7f6e7411c10c7cd733d7b41723e1d326fa1704b61a54", func := "sheafworks/sheafworkslaw35.GraphHull", spec := "graphHull", unfollowed := true, recurses := true, named := ["sheafworks/libg.nobody", "sheafworks/nest.arity", "sheafworks/nest.counters", "sheafworks/nest.kinds"], apart := false, laid := [("sheafworks/nest.counters", laid_sheafworks_nest_counters), ("sheafworks/nest.arity", laid_sheafworks_nest_arity), ("sheafworks/nest.kinds", laid_sheafworks_nest_kinds), ("sheafworks/libg.nobody", laid_sheafworks_libg_nobody)] }
def GraphHullSaid : Prop := graphHullRow.holds Tryd.pinned (OpenSpec.ofChange graphHullSpec)

/-- ITS FALSE NEIGHBOUR: 'it returns false'. Refute it at one input. -/
def graphHullWrong : ChangeSpec := { name := "graphHull", fn := fun _ => fun
  | [d1, d2] => { results := [.lit (.bool false)], args := [d1, d2] }
  | _ => none }
def GraphHullWrongFalsely : Prop := graphHullRow.holds Tryd.pinned (OpenSpec.ofChange graphHullWrong)

/- THE SECOND FORM. 'bulk': how many values and letters a reading holds, each counted each time it is reached (what is shared counts as often as it is met; a slice's spare places count too). A statement '..UptoSaid' is the law's where the arguments, and the package variables that the reading takes, are together of bulk at most 1048576: NARROWER than '..Said'. Prove '..Said' where nothing that the law and all that it calls make is longer than what came in: it says more and counts as full. Else prove '..UptoSaid'. A law counts once. -/
mutual
def uptoBulk {H : Type} : DataW H → Nat
  | .lit (.string bytes) => bytes.length + 1
  | .lit _ => 1
  | .nil => 1
  | .ptr d => uptoBulk d + 1
  | .slice elems spare => uptoBulkAll elems + uptoBulkAll spare + 1
  | .agg parts => uptoBulkAll parts + 1
  | .iface _ d => uptoBulk d + 1
  | .map entries => uptoBulkEntries entries + 1
  | .held _ => 1
def uptoBulkAll {H : Type} : List (DataW H) → Nat
  | [] => 0
  | d :: r => uptoBulk d + uptoBulkAll r
def uptoBulkEntries {H : Type} : List (Lit × DataW H) → Nat
  | [] => 0
  | x :: r => uptoBulkEntry x + uptoBulkEntries r
def uptoBulkEntry {H : Type} : Lit × DataW H → Nat
  | (.string bytes, d) => bytes.length + uptoBulk d + 1
  | (_, d) => uptoBulk d + 1
 end
def uptoSmall : (H : Type) → List (DataW H) → Bool := fun _ ds => decide (uptoBulkAll ds ≤ 1048576)
def OpenSpec.upto (s : _root_.Go.ChangeSpec) : _root_.Go.OpenSpec := { _root_.Go.OpenSpec.ofChange s with cond := some uptoSmall }

/-- 'sheafworkslaw35.GraphComps', WHERE WHAT IT READS IS OF BULK AT MOST 1048576: true; the input reads as it did. -/
def graphCompsUptoRow : OpenClaim := { program := "ytjgigcaelcapdaadoor", sum := "9ed3417eb9f026edd18b7f6e7411c10c7cd733d7b41723e1d326fa1704b61a54", func := "sheafworks/sheafworkslaw35.GraphComps", spec := "graphComps", unfollowed := true, recurses := true, named := ["sheafworks/libg.nobody", "sheafworks/nest.arity", "sheafworks/nest.counters", "sheafworks/nest.kinds"], apart := false, laid := [("sheafworks/nest.counters", laid_sheafworks_nest_counters), ("sheafworks/nest.arity", laid_sheafworks_nest_arity), ("sheafworks/nest.kinds", laid_sheafworks_nest_kinds), ("sheafworks/libg.nobody", laid_sheafworks_libg_nobody)], narrowed := true }
def GraphCompsUptoSaid : Prop := graphCompsUptoRow.holds Tryd.pinned (OpenSpec.upto graphCompsSpec)

/-- 'sheafworkslaw35.GraphDists', WHERE WHAT IT READS IS OF BULK AT MOST 1048576: true; the input reads as it did. -/
def graphDistsUptoRow : OpenClaim := { program := "ytjgigcaelcapdaadoor", sum := "9ed3417eb9f026edd18b7f6e7411c10c7cd733d7b41723e1d326fa1704b61a54", func := "sheafworks/sheafworkslaw35.GraphDists", spec := "graphDists", unfollowed := true, recurses := true, named := ["sheafworks/libg.nobody", "sheafworks/nest.arity", "sheafworks/nest.counters", "sheafworks/nest.kinds"], apart := false, laid := [("sheafworks/nest.counters", laid_sheafworks_nest_counters), ("sheafworks/nest.arity", laid_sheafworks_nest_arity), ("sheafworks/nest.kinds", laid_sheafworks_nest_kinds), ("sheafworks/libg.nobody", laid_sheafworks_libg_nobody)], narrowed := true }
def GraphDistsUptoSaid : Prop := graphDistsUptoRow.holds Tryd.pinned (OpenSpec.upto graphDistsSpec)

/-- 'sheafworkslaw35.GraphLevels', WHERE WHAT IT READS IS OF BULK AT MOST 1048576: true; the input reads as it did. -/
def graphLevelsUptoRow : OpenClaim := { program := "ytjgigcaelcapdaadoor", sum := "9ed3417eb9f026edd18b7f6e7411c10c7cd733d7b41723e1d326fa1704b61a54", func := "sheafworks/sheafworkslaw35.GraphLevels", spec := "graphLevels", unfollowed := true, recurses := true, named := ["sheafworks/libg.nobody", "sheafworks/nest.arity", "sheafworks/nest.counters", "sheafworks/nest.kinds"], apart := false, laid := [("sheafworks/nest.counters", laid_sheafworks_nest_counters), ("sheafworks/nest.arity", laid_sheafworks_nest_arity), ("sheafworks/nest.kinds", laid_sheafworks_nest_kinds), ("sheafworks/libg.nobody", laid_sheafworks_libg_nobody)], narrowed := true }
def GraphLevelsUptoSaid : Prop := graphLevelsUptoRow.holds Tryd.pinned (OpenSpec.upto graphLevelsSpec)

/-- 'sheafworkslaw35.GraphSums', WHERE WHAT IT READS IS OF BULK AT MOST 1048576: true; the input reads as it did. -/
def graphSumsUptoRow : OpenClaim := { program := "ytjgigcaelcapdaadoor", sum := "9ed3417eb9f026edd18b7f6e7411c10c7cd733d7b41723e1d326fa1704b61a54", func := "sheafworks/sheafworkslaw35.GraphSums", spec := "graphSums", unfollowed := true, recurses := true, named := ["sheafworks/libg.nobody", "sheafworks/nest.arity", "sheafworks/nest.counters", "sheafworks/nest.kinds"], apart := false, laid := [("sheafworks/nest.counters", laid_sheafworks_nest_counters), ("sheafworks/nest.arity", laid_sheafworks_nest_arity), ("sheafworks/nest.kinds", laid_sheafworks_nest_kinds), ("sheafworks/libg.nobody", laid_sheafworks_libg_nobody)], narrowed := true }
def GraphSumsUptoSaid : Prop := graphSumsUptoRow.holds Tryd.pinned (OpenSpec.upto graphSumsSpec)

/-- 'sheafworkslaw35.GraphHull', WHERE WHAT IT READS IS OF BULK AT MOST 1048576: true; the input reads as it did. -/
def graphHullUptoRow : OpenClaim := { program := "ytjgigcaelcapdaadoor", sum := "9ed3417eb9f026edd18b7f6e7411c10c7cd733d7b41723e1d326fa1704b61a54", func := "sheafworks/sheafworkslaw35.GraphHull", spec := "graphHull", unfollowed := true, recurses := true, named := ["sheafworks/libg.nobody", "sheafworks/nest.arity", "sheafworks/nest.counters", "sheafworks/nest.kinds"], apart := false, laid := [("sheafworks/nest.counters", laid_sheafworks_nest_counters), ("sheafworks/nest.arity", laid_sheafworks_nest_arity), ("sheafworks/nest.kinds", laid_sheafworks_nest_kinds), ("sheafworks/libg.nobody", laid_sheafworks_libg_nobody)], narrowed := true }
def GraphHullUptoSaid : Prop := graphHullUptoRow.holds Tryd.pinned (OpenSpec.upto graphHullSpec)

end Rows
end Go.Proofs.YtjgigcaelcapdaaDoor
