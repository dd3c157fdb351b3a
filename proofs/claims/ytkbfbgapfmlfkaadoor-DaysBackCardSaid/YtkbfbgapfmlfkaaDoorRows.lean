/-
  NARROWER THAN 'FOR EVERY INPUT', by the rows' own cells (each row's printed sentence says how): DaysMonths: laid · DaysWithin: laid · DaysDates: laid · DaysYears: laid · DaysTexts: laid · DaysBack: laid.
  DERIVED. THE GIVEN ROWS OF THIS SEAT. 6 by the template 'for every input the law returns true; each argument reads behind the call as it read before'; 0 by the template 'total and deterministic' (their statements: YtkbfbgapfmlfkaaDoorTotals.lean).
  GIVEN WITH THE SEED: the statements are not yours to turn. If you find one false, say at which input.
  Laid BY PROGRAM, IN A SANDBOX (cutbox-rows.mjs): the forced cells as the released guide's own fill.sh prints them over the translation 4c1e9af6d4bd046b… (all of the seat's roots in one cut). By AI agents, Wed Nov 11 2026. No macro, syntax, notation, axiom, sorry.
-/
import Derived.Test.YtkbfbgapfmlfkaaDoorChecked
import GoSem.Claim
import GoSem.ClaimJoined
import GoSem.ClaimMapViews
import Derived.JoinedTies
import Derived.KernelRfl
namespace Go.Proofs.YtkbfbgapfmlfkaaDoor
/- THE CELL 'sum', in the pinned program and in every row, IS THE sha256 OF THE DUMP (.gsa) THAT YtkbfbgapfmlfkaaDoorProg.lean LOADS. Nothing in Lean hashes anything: it is a label: what it is worth is what the hold of that sum in a sandbox is worth. -/
noncomputable def Tryd.pinned : Pinned := { name := "ytkbfbgapfmlfkaadoor", sum := "4c1e9af6d4bd046bf6e35e94da0e64b61d35836325f4d39348f683304be08573", checked := Tryd.checked }
namespace Rows
def none {H : Type} : Left H := { results := [], args := [] }

/- WHAT THE LISTED PACKAGE-LEVEL VARIABLES READ AS WHEN THE CALL BEGINS. Each datum BY PROGRAM (the guide's laid-datum.mjs) off the statement by which the dump's own 'gosem.cut.vars' lays the variable. In a bare row this is a premise. The card (YtkbfbgapfmlfkaaDoorCards.lean) ties it to the program's text. -/
def laid_chattel_days_ahead {H : Type} : DataW H := .agg [.lit (.int .i64 0), .lit (.int .i64 31), .lit (.int .i64 59), .lit (.int .i64 90), .lit (.int .i64 120), .lit (.int .i64 151), .lit (.int .i64 181), .lit (.int .i64 212), .lit (.int .i64 243), .lit (.int .i64 273), .lit (.int .i64 304), .lit (.int .i64 334), .lit (.int .i64 365)]

/-- 'chattellaw04.DaysMonths': WHATEVER THE INPUT: true; the input reads as it did. -/
def daysMonthsSpec : ChangeSpec := { name := "daysMonths", fn := fun _ => fun
  | [d1, d2, d3] => { results := [.lit (.bool true)], args := [d1, d2, d3] }
  | _ => none }
def daysMonthsRow : OpenClaim := { program := "ytkbfbgapfmlfkaadoor", sum := "4c1e9af6d4bd046bf6e35e94da0e64b61d35836325f4d39348f683304be08573", func := "chattel/chattellaw04.DaysMonths", spec := "daysMonths", unfollowed := true, recurses := true, named := ["chattel/days.ahead"], apart := false, laid := [("chattel/days.ahead", laid_chattel_days_ahead)] }
def DaysMonthsSaid : Prop := daysMonthsRow.holds Tryd.pinned (OpenSpec.ofChange daysMonthsSpec)

/-- ITS FALSE NEIGHBOUR: 'it returns false'. Refute it at one input. -/
def daysMonthsWrong : ChangeSpec := { name := "daysMonths", fn := fun _ => fun
  | [d1, d2, d3] => { results := [.lit (.bool false)], args := [d1, d2, d3] }
  | _ => none }
def DaysMonthsWrongFalsely : Prop := daysMonthsRow.holds Tryd.pinned (OpenSpec.ofChange daysMonthsWrong)

/-- 'chattellaw04.DaysWithin': WHATEVER THE INPUT: true; the input reads as it did. -/
def daysWithinSpec : ChangeSpec := { name := "daysWithin", fn := fun _ => fun
  | [d1, d2] => { results := [.lit (.bool true)], args := [d1, d2] }
  | _ => none }
def daysWithinRow : OpenClaim := { program := "ytkbfbgapfmlfkaadoor", sum := "4c1e9af6d4bd046bf6e35e94da0e64b61d35836325f4d39348f683304be08573", func := "chattel/chattellaw04.DaysWithin", spec := "daysWithin", unfollowed := true, recurses := true, named := ["chattel/days.ahead"], apart := false, laid := [("chattel/days.ahead", laid_chattel_days_ahead)] }
def DaysWithinSaid : Prop := daysWithinRow.holds Tryd.pinned (OpenSpec.ofChange daysWithinSpec)

/-- ITS FALSE NEIGHBOUR: 'it returns false'. Refute it at one input. -/
def daysWithinWrong : ChangeSpec := { name := "daysWithin", fn := fun _ => fun
  | [d1, d2] => { results := [.lit (.bool false)], args := [d1, d2] }
  | _ => none }
def DaysWithinWrongFalsely : Prop := daysWithinRow.holds Tryd.pinned (OpenSpec.ofChange daysWithinWrong)

/-- 'chattellaw04.DaysDates': WHATEVER THE INPUT: true; the input reads as it did. -/
def daysDatesSpec : ChangeSpec := { name := "daysDates", fn := fun _ => fun
  | [d1, d2] => { results := [.lit (.bool true)], args := [d1, d2] }
  | _ => none }
def daysDatesRow : OpenClaim := { program := "ytkbfbgapfmlfkaadoor", sum := "4c1e9af6d4bd046bf6e35e94da0e64b61d35836325f4d39348f683304be08573", func := "chattel/chattellaw04.DaysDates", spec := "daysDates", unfollowed := true, recurses := true, named := ["chattel/days.ahead"], apart := false, laid := [("chattel/days.ahead", laid_chattel_days_ahead)] }
def DaysDatesSaid : Prop := daysDatesRow.holds Tryd.pinned (OpenSpec.ofChange daysDatesSpec)

/-- ITS FALSE NEIGHBOUR: 'it returns false'. Refute it at one input. -/
def daysDatesWrong : ChangeSpec := { name := "daysDates", fn := fun _ => fun
  | [d1, d2] => { results := [.lit (.bool false)], args := [d1, d2] }
  | _ => none }
def DaysDatesWrongFalsely : Prop := daysDatesRow.holds Tryd.pinned (OpenSpec.ofChange daysDatesWrong)

/-- 'chattellaw04.DaysYears': WHATEVER THE INPUT: true; the input reads as it did. -/
def daysYearsSpec : ChangeSpec := { name := "daysYears", fn := fun _ => fun
  | [d] => { results := [.lit (.bool true)], args := [d] }
  | _ => none }
def daysYearsRow : OpenClaim := { program := "ytkbfbgapfmlfkaadoor", sum := "4c1e9af6d4bd046bf6e35e94da0e64b61d35836325f4d39348f683304be08573", func := "chattel/chattellaw04.DaysYears", spec := "daysYears", unfollowed := true, recurses := true, named := ["chattel/days.ahead"], apart := false, laid := [("chattel/days.ahead", laid_chattel_days_ahead)] }
def DaysYearsSaid : Prop := daysYearsRow.holds Tryd.pinned (OpenSpec.ofChange daysYearsSpec)

/-- ITS FALSE NEIGHBOUR: 'it returns false'. Refute it at one input. -/
def daysYearsWrong : ChangeSpec := { name := "daysYears", fn := fun _ => fun
  | [d] => { results := [.lit (.bool false)], args := [d] }
  | _ => none }
def DaysYearsWrongFalsely : Prop := daysYearsRow.holds Tryd.pinned (OpenSpec.ofChange daysYearsWrong)

/-- 'chattellaw04.DaysTexts': WHATEVER THE INPUT: true; the input reads as it did. -/
def daysTextsSpec : ChangeSpec := { name := "daysTexts", fn := fun _ => fun
  | [d1, d2] => { results := [.lit (.bool true)], args := [d1, d2] }
  | _ => none }
def daysTextsRow : OpenClaim := { program := "ytkbfbgapfmlfkaadoor", sum := "4c1e9af6d4bd046bf6e35e94da0e64b61d35836325f4d39348f683304be08573", func := "chattel/chattellaw04.DaysTexts", spec := "daysTexts", unfollowed := true, recurses := true, named := ["chattel/days.ahead"], apart := false, laid := [("chattel/days.ahead", laid_chattel_days_ahead)] }
def DaysTextsSaid : Prop := daysTextsRow.holds Tryd.pinned (OpenSpec.ofChange daysTextsSpec)

/-- ITS FALSE NEIGHBOUR: 'it returns false'. Refute it at one input. -/
def daysTextsWrong : ChangeSpec := { name := "daysTexts", fn := fun _ => fun
  | [d1, d2] => { results := [.lit (.bool false)], args := [d1, d2] }
  | _ => none }
def DaysTextsWrongFalsely : Prop := daysTextsRow.holds Tryd.pinned (OpenSpec.ofChange daysTextsWrong)

/-- 'chattellaw04.DaysBack': WHATEVER THE INPUT: true; the input reads as it did. -/
def daysBackSpec : ChangeSpec := { name := "daysBack", fn := fun _ => fun
  | [d1, d2] => { results := [.lit (.bool true)], args := [d1, d2] }
  | _ => none }
def daysBackRow : OpenClaim := { program := "ytkbfbgapfmlfkaadoor", sum := "4c1e9af6d4bd046bf6e35e94da0e64b61d35836325f4d39348f683304be08573", func := "chattel/chattellaw04.DaysBack", spec := "daysBack", unfollowed := true, recurses := true, named := ["chattel/days.ahead"], apart := false, laid := [("chattel/days.ahead", laid_chattel_days_ahead)] }
def DaysBackSaid : Prop := daysBackRow.holds Tryd.pinned (OpenSpec.ofChange daysBackSpec)

/-- ITS FALSE NEIGHBOUR: 'it returns false'. Refute it at one input. -/
def daysBackWrong : ChangeSpec := { name := "daysBack", fn := fun _ => fun
  | [d1, d2] => { results := [.lit (.bool false)], args := [d1, d2] }
  | _ => none }
def DaysBackWrongFalsely : Prop := daysBackRow.holds Tryd.pinned (OpenSpec.ofChange daysBackWrong)

/- THE SECOND FORM. 'bulk': how many values and letters a reading holds, each counted each time it is reached (what is shared counts as often as it is met; a slice's spare places count too). A statement '..UptoSaid' is the law's where the arguments, and the package variables that the reading takes, are together of bulk at most 1048576: NARROWER than '..Said'. Prove '..Said' where nothing that the law and all that it calls make is longer than what came in: it says more and counts as full. Else prove '..UptoSaid'. A law counts once. -/
mutual
def uptoBulk {H : Type} : DataW H → Nat
  | .lit (.string bytes) => bytes.length + 1
  | .lit _ => 1
  | .nil => 1
  | .ptr d => uptoBulk d + 1
  | .slice elems spare => uptoBulkAll elems + uptoBulkAll spare + 1
  | .agg parts => uptoBulkAll parts + 1
  | .iface _ d => uptoBulk d + 1
  | .map entries => uptoBulkEntries entries + 1
  | .held _ => 1
def uptoBulkAll {H : Type} : List (DataW H) → Nat
  | [] => 0
  | d :: r => uptoBulk d + uptoBulkAll r
def uptoBulkEntries {H : Type} : List (Lit × DataW H) → Nat
  | [] => 0
  | x :: r => uptoBulkEntry x + uptoBulkEntries r
def uptoBulkEntry {H : Type} : Lit × DataW H → Nat
  | (.string bytes, d) => bytes.length + uptoBulk d + 1
  | (_, d) => uptoBulk d + 1
 end
def uptoSmall : (H : Type) → List (DataW H) → Bool := fun _ ds => decide (uptoBulkAll ds ≤ 1048576)
def OpenSpec.upto (s : _root_.Go.ChangeSpec) : _root_.Go.OpenSpec := { _root_.Go.OpenSpec.ofChange s with cond := some uptoSmall }

/-- 'chattellaw04.DaysMonths', WHERE WHAT IT READS IS OF BULK AT MOST 1048576: true; the input reads as it did. -/
def daysMonthsUptoRow : OpenClaim := { program := "ytkbfbgapfmlfkaadoor", sum := "4c1e9af6d4bd046bf6e35e94da0e64b61d35836325f4d39348f683304be08573", func := "chattel/chattellaw04.DaysMonths", spec := "daysMonths", unfollowed := true, recurses := true, named := ["chattel/days.ahead"], apart := false, laid := [("chattel/days.ahead", laid_chattel_days_ahead)], narrowed := true }
def DaysMonthsUptoSaid : Prop := daysMonthsUptoRow.holds Tryd.pinned (OpenSpec.upto daysMonthsSpec)

/-- 'chattellaw04.DaysWithin', WHERE WHAT IT READS IS OF BULK AT MOST 1048576: true; the input reads as it did. -/
def daysWithinUptoRow : OpenClaim := { program := "ytkbfbgapfmlfkaadoor", sum := "4c1e9af6d4bd046bf6e35e94da0e64b61d35836325f4d39348f683304be08573", func := "chattel/chattellaw04.DaysWithin", spec := "daysWithin", unfollowed := true, recurses := true, named := ["chattel/days.ahead"], apart := false, laid := [("chattel/days.ahead", laid_chattel_days_ahead)], narrowed := true }
def DaysWithinUptoSaid : Prop := daysWithinUptoRow.holds Tryd.pinned (OpenSpec.upto daysWithinSpec)

/-- 'chattellaw04.DaysDates', WHERE WHAT IT READS IS OF BULK AT MOST 1048576: true; the input reads as it did. -/
def daysDatesUptoRow : OpenClaim := { program := "ytkbfbgapfmlfkaadoor", sum := "4c1e9af6d4bd046bf6e35e94da0e64b61d35836325f4d39348f683304be08573", func := "chattel/chattellaw04.DaysDates", spec := "daysDates", unfollowed := true, recurses := true, named := ["chattel/days.ahead"], apart := false, laid := [("chattel/days.ahead", laid_chattel_days_ahead)], narrowed := true }
def DaysDatesUptoSaid : Prop := daysDatesUptoRow.holds Tryd.pinned (OpenSpec.upto daysDatesSpec)

/-- 'chattellaw04.DaysYears', WHERE WHAT IT READS IS OF BULK AT MOST 1048576: true; the input reads as it did. -/
def daysYearsUptoRow : OpenClaim := { program := "ytkbfbgapfmlfkaadoor", sum := "4c1e9af6d4bd046bf6e35e94da0e64b61d35836325f4d39348f683304be08573", func := "chattel/chattellaw04.DaysYears", spec := "daysYears", unfollowed := true, recurses := true, named := ["chattel/days.ahead"], apart := false, laid := [("chattel/days.ahead", laid_chattel_days_ahead)], narrowed := true }
def DaysYearsUptoSaid : Prop := daysYearsUptoRow.holds Tryd.pinned (OpenSpec.upto daysYearsSpec)

/-- 'chattellaw04.DaysTexts', WHERE WHAT IT READS IS OF BULK AT MOST 1048576: true; the input reads as it did. -/
def daysTextsUptoRow : OpenClaim := { program := "ytkbfbgapfmlfkaadoor", sum := "4c1e9af6d4bd046bf6e35e94da0e64b61d35836325f4d39348f683304be08573", func := "chattel/chattellaw04.DaysTexts", spec := "daysTexts", unfollowed := true, recurses := true, named := ["chattel/days.ahead"], apart := false, laid := [("chattel/days.ahead", laid_chattel_days_ahead)], narrowed := true }
def DaysTextsUptoSaid : Prop := daysTextsUptoRow.holds Tryd.pinned (OpenSpec.upto daysTextsSpec)

/-- 'chattellaw04.DaysBack', WHERE WHAT IT READS IS OF BULK AT MOST 1048576: true; the input reads as it did. -/
def daysBackUptoRow : OpenClaim := { program := "ytkbfbgapfmlfkaadoor", sum := "4c1e9af6d4bd046bf6e35e94da0e64b61d35836325f4d39348f683304be08573", func := "chattel/chattellaw04.DaysBack", spec := "daysBack", unfollowed := true, recurses := true, named := ["chattel/days.ahead"], apart := false, laid := [("chattel/days.ahead", laid_chattel_days_ahead)], narrowed := true }
def DaysBackUptoSaid : Prop := daysBackUptoRow.holds Tryd.pinned (OpenSpec.upto daysBackSpec)

end Rows
end Go.Proofs.YtkbfbgapfmlfkaaDoor
