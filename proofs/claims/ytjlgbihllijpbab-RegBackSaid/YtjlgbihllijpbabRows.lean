/-
  No cell of these rows narrows 'for every input' (looked for: loops, veiled, ifaces, maps, wideKeys, modest, calm, conditions, laid).
  DERIVED. THE GIVEN ROWS OF THIS SEAT. 9 by the template 'for every input the law returns true; each argument reads behind the call as it read before'; 0 by the template 'total and deterministic' (their statements: YtjlgbihllijpbabTotals.lean).
  GIVEN WITH THE SEED: the statements are not yours to turn. If you find one false, say at which input.
  Laid BY PROGRAM, IN A SANDBOX (cutbox-rows.mjs): the forced cells as the released guide's own fill.sh prints them over the translation 2e9c80b2c1025161… (all of the seat's roots in one cut). By AI agents, Wed Nov 11 2026. No macro, syntax, notation, axiom, sorry.
-/
import Derived.Test.YtjlgbihllijpbabChecked
import GoSem.Claim
import GoSem.ClaimJoined
import GoSem.ClaimMapViews
import Derived.JoinedTies
import Derived.KernelRfl
namespace Go.Proofs.Ytjlgbihllijpbab
/- THE CELL 'sum', in the pinned program and in every row, IS THE sha256 OF THE DUMP (.gsa) THAT YtjlgbihllijpbabProg.lean LOADS. Nothing in Lean hashes anything: it is a label: what it is worth is what the hold of that sum in a sandbox is worth. -/
noncomputable def Try.pinned : Pinned := { name := "ytjlgbihllijpbab", sum := "2e9c80b2c1025161cc4cc1954eb4b1c1dc0063ca9fce57e5d743c291d95aec17", checked := Try.checked }
namespace Rows
def none {H : Type} : Left H := { results := [], args := [] }

/-- 'cellaretlaw09.GeomSupers': WHATEVER THE INPUT: true; the input reads as it did. -/
def geomSupersSpec : ChangeSpec := { name := "geomSupers", fn := fun _ => fun
  | [d1, d2, d3] => { results := [.lit (.bool true)], args := [d1, d2, d3] }
  | _ => none }
def geomSupersRow : OpenClaim := { program := "ytjlgbihllijpbab", sum := "2e9c80b2c1025161cc4cc1954eb4b1c1dc0063ca9fce57e5d743c291d95aec17", func := "cellaret/cellaretlaw09.GeomSupers", spec := "geomSupers", unfollowed := true, recurses := true, apart := false }
def GeomSupersSaid : Prop := geomSupersRow.holds Try.pinned (OpenSpec.ofChange geomSupersSpec)

/-- ITS FALSE NEIGHBOUR: 'it returns false'. Refute it at one input. -/
def geomSupersWrong : ChangeSpec := { name := "geomSupers", fn := fun _ => fun
  | [d1, d2, d3] => { results := [.lit (.bool false)], args := [d1, d2, d3] }
  | _ => none }
def GeomSupersWrongFalsely : Prop := geomSupersRow.holds Try.pinned (OpenSpec.ofChange geomSupersWrong)

/-- 'cellaretlaw11.RegPuts': WHATEVER THE INPUT: true; the input reads as it did. -/
def regPutsSpec : ChangeSpec := { name := "regPuts", fn := fun _ => fun
  | [d] => { results := [.lit (.bool true)], args := [d] }
  | _ => none }
def regPutsRow : OpenClaim := { program := "ytjlgbihllijpbab", sum := "2e9c80b2c1025161cc4cc1954eb4b1c1dc0063ca9fce57e5d743c291d95aec17", func := "cellaret/cellaretlaw11.RegPuts", spec := "regPuts", unfollowed := true, recurses := true, apart := false }
def RegPutsSaid : Prop := regPutsRow.holds Try.pinned (OpenSpec.ofChange regPutsSpec)

/-- ITS FALSE NEIGHBOUR: 'it returns false'. Refute it at one input. -/
def regPutsWrong : ChangeSpec := { name := "regPuts", fn := fun _ => fun
  | [d] => { results := [.lit (.bool false)], args := [d] }
  | _ => none }
def RegPutsWrongFalsely : Prop := regPutsRow.holds Try.pinned (OpenSpec.ofChange regPutsWrong)

/-- 'cellaretlaw11.RegGets': WHATEVER THE INPUT: true; the input reads as it did. -/
def regGetsSpec : ChangeSpec := { name := "regGets", fn := fun _ => fun
  | [d] => { results := [.lit (.bool true)], args := [d] }
  | _ => none }
def regGetsRow : OpenClaim := { program := "ytjlgbihllijpbab", sum := "2e9c80b2c1025161cc4cc1954eb4b1c1dc0063ca9fce57e5d743c291d95aec17", func := "cellaret/cellaretlaw11.RegGets", spec := "regGets", unfollowed := true, recurses := true, apart := false }
def RegGetsSaid : Prop := regGetsRow.holds Try.pinned (OpenSpec.ofChange regGetsSpec)

/-- ITS FALSE NEIGHBOUR: 'it returns false'. Refute it at one input. -/
def regGetsWrong : ChangeSpec := { name := "regGets", fn := fun _ => fun
  | [d] => { results := [.lit (.bool false)], args := [d] }
  | _ => none }
def RegGetsWrongFalsely : Prop := regGetsRow.holds Try.pinned (OpenSpec.ofChange regGetsWrong)

/-- 'cellaretlaw11.RegBack': WHATEVER THE INPUT: true; the input reads as it did. -/
def regBackSpec : ChangeSpec := { name := "regBack", fn := fun _ => fun
  | [d1, d2] => { results := [.lit (.bool true)], args := [d1, d2] }
  | _ => none }
def regBackRow : OpenClaim := { program := "ytjlgbihllijpbab", sum := "2e9c80b2c1025161cc4cc1954eb4b1c1dc0063ca9fce57e5d743c291d95aec17", func := "cellaret/cellaretlaw11.RegBack", spec := "regBack", unfollowed := true, recurses := true, apart := false }
def RegBackSaid : Prop := regBackRow.holds Try.pinned (OpenSpec.ofChange regBackSpec)

/-- ITS FALSE NEIGHBOUR: 'it returns false'. Refute it at one input. -/
def regBackWrong : ChangeSpec := { name := "regBack", fn := fun _ => fun
  | [d1, d2] => { results := [.lit (.bool false)], args := [d1, d2] }
  | _ => none }
def RegBackWrongFalsely : Prop := regBackRow.holds Try.pinned (OpenSpec.ofChange regBackWrong)

/-- 'cellaretlaw22.SlotsDo': WHATEVER THE INPUT: true; the input reads as it did. -/
def slotsDoSpec : ChangeSpec := { name := "slotsDo", fn := fun _ => fun
  | [d1, d2] => { results := [.lit (.bool true)], args := [d1, d2] }
  | _ => none }
def slotsDoRow : OpenClaim := { program := "ytjlgbihllijpbab", sum := "2e9c80b2c1025161cc4cc1954eb4b1c1dc0063ca9fce57e5d743c291d95aec17", func := "cellaret/cellaretlaw22.SlotsDo", spec := "slotsDo", unfollowed := true, recurses := true, apart := false }
def SlotsDoSaid : Prop := slotsDoRow.holds Try.pinned (OpenSpec.ofChange slotsDoSpec)

/-- ITS FALSE NEIGHBOUR: 'it returns false'. Refute it at one input. -/
def slotsDoWrong : ChangeSpec := { name := "slotsDo", fn := fun _ => fun
  | [d1, d2] => { results := [.lit (.bool false)], args := [d1, d2] }
  | _ => none }
def SlotsDoWrongFalsely : Prop := slotsDoRow.holds Try.pinned (OpenSpec.ofChange slotsDoWrong)

/-- 'cellaretlaw22.SlotsOne': WHATEVER THE INPUT: true; the input reads as it did. -/
def slotsOneSpec : ChangeSpec := { name := "slotsOne", fn := fun _ => fun
  | [d1, d2] => { results := [.lit (.bool true)], args := [d1, d2] }
  | _ => none }
def slotsOneRow : OpenClaim := { program := "ytjlgbihllijpbab", sum := "2e9c80b2c1025161cc4cc1954eb4b1c1dc0063ca9fce57e5d743c291d95aec17", func := "cellaret/cellaretlaw22.SlotsOne", spec := "slotsOne", unfollowed := true, recurses := true, apart := false }
def SlotsOneSaid : Prop := slotsOneRow.holds Try.pinned (OpenSpec.ofChange slotsOneSpec)

/-- ITS FALSE NEIGHBOUR: 'it returns false'. Refute it at one input. -/
def slotsOneWrong : ChangeSpec := { name := "slotsOne", fn := fun _ => fun
  | [d1, d2] => { results := [.lit (.bool false)], args := [d1, d2] }
  | _ => none }
def SlotsOneWrongFalsely : Prop := slotsOneRow.holds Try.pinned (OpenSpec.ofChange slotsOneWrong)

/-- 'cellaretlaw22.SlotsNone': WHATEVER THE INPUT: true; the input reads as it did. -/
def slotsNoneSpec : ChangeSpec := { name := "slotsNone", fn := fun _ => fun
  | [d] => { results := [.lit (.bool true)], args := [d] }
  | _ => none }
def slotsNoneRow : OpenClaim := { program := "ytjlgbihllijpbab", sum := "2e9c80b2c1025161cc4cc1954eb4b1c1dc0063ca9fce57e5d743c291d95aec17", func := "cellaret/cellaretlaw22.SlotsNone", spec := "slotsNone", unfollowed := true, recurses := true, apart := false }
def SlotsNoneSaid : Prop := slotsNoneRow.holds Try.pinned (OpenSpec.ofChange slotsNoneSpec)

/-- ITS FALSE NEIGHBOUR: 'it returns false'. Refute it at one input. -/
def slotsNoneWrong : ChangeSpec := { name := "slotsNone", fn := fun _ => fun
  | [d] => { results := [.lit (.bool false)], args := [d] }
  | _ => none }
def SlotsNoneWrongFalsely : Prop := slotsNoneRow.holds Try.pinned (OpenSpec.ofChange slotsNoneWrong)

/-- 'cellaretlaw22.SlotsReads': WHATEVER THE INPUT: true; the input reads as it did. -/
def slotsReadsSpec : ChangeSpec := { name := "slotsReads", fn := fun _ => fun
  | [d1, d2] => { results := [.lit (.bool true)], args := [d1, d2] }
  | _ => none }
def slotsReadsRow : OpenClaim := { program := "ytjlgbihllijpbab", sum := "2e9c80b2c1025161cc4cc1954eb4b1c1dc0063ca9fce57e5d743c291d95aec17", func := "cellaret/cellaretlaw22.SlotsReads", spec := "slotsReads", unfollowed := true, recurses := true, apart := false }
def SlotsReadsSaid : Prop := slotsReadsRow.holds Try.pinned (OpenSpec.ofChange slotsReadsSpec)

/-- ITS FALSE NEIGHBOUR: 'it returns false'. Refute it at one input. -/
def slotsReadsWrong : ChangeSpec := { name := "slotsReads", fn := fun _ => fun
  | [d1, d2] => { results := [.lit (.bool false)], args := [d1, d2] }
  | _ => none }
def SlotsReadsWrongFalsely : Prop := slotsReadsRow.holds Try.pinned (OpenSpec.ofChange slotsReadsWrong)

/-- 'cellaretlaw22.SlotsBack': WHATEVER THE INPUT: true; the input reads as it did. -/
def slotsBackSpec : ChangeSpec := { name := "slotsBack", fn := fun _ => fun
  | [d1, d2, d3] => { results := [.lit (.bool true)], args := [d1, d2, d3] }
  | _ => none }
def slotsBackRow : OpenClaim := { program := "ytjlgbihllijpbab", sum := "2e9c80b2c1025161cc4cc1954eb4b1c1dc0063ca9fce57e5d743c291d95aec17", func := "cellaret/cellaretlaw22.SlotsBack", spec := "slotsBack", unfollowed := true, recurses := true, apart := false }
def SlotsBackSaid : Prop := slotsBackRow.holds Try.pinned (OpenSpec.ofChange slotsBackSpec)

/-- ITS FALSE NEIGHBOUR: 'it returns false'. Refute it at one input. -/
def slotsBackWrong : ChangeSpec := { name := "slotsBack", fn := fun _ => fun
  | [d1, d2, d3] => { results := [.lit (.bool false)], args := [d1, d2, d3] }
  | _ => none }
def SlotsBackWrongFalsely : Prop := slotsBackRow.holds Try.pinned (OpenSpec.ofChange slotsBackWrong)

/- THE SECOND FORM. 'bulk': how many values and letters a reading holds, each counted each time it is reached (what is shared counts as often as it is met; a slice's spare places count too). A statement '..UptoSaid' is the law's where the arguments, and the package variables that the reading takes, are together of bulk at most 1048576: NARROWER than '..Said'. Prove '..Said' where nothing that the law and all that it calls make is longer than what came in: it says more and counts as full. Else prove '..UptoSaid'. A law counts once. -/
mutual
def uptoBulk {H : Type} : DataW H → Nat
  | .lit (.string bytes) => bytes.length + 1
  | .lit _ => 1
  | .nil => 1
  | .ptr d => uptoBulk d + 1
  | .slice elems spare => uptoBulkAll elems + uptoBulkAll spare + 1
  | .agg parts => uptoBulkAll parts + 1
  | .iface _ d => uptoBulk d + 1
  | .map entries => uptoBulkEntries entries + 1
  | .held _ => 1
def uptoBulkAll {H : Type} : List (DataW H) → Nat
  | [] => 0
  | d :: r => uptoBulk d + uptoBulkAll r
def uptoBulkEntries {H : Type} : List (Lit × DataW H) → Nat
  | [] => 0
  | x :: r => uptoBulkEntry x + uptoBulkEntries r
def uptoBulkEntry {H : Type} : Lit × DataW H → Nat
  | (.string bytes, d) => bytes.length + uptoBulk d + 1
  | (_, d) => uptoBulk d + 1
 end
def uptoSmall : (H : Type) → List (DataW H) → Bool := fun _ ds => decide (uptoBulkAll ds ≤ 1048576)
def OpenSpec.upto (s : _root_.Go.ChangeSpec) : _root_.Go.OpenSpec := { _root_.Go.OpenSpec.ofChange s with cond := some uptoSmall }

/-- 'cellaretlaw09.GeomSupers', WHERE WHAT IT READS IS OF BULK AT MOST 1048576: true; the input reads as it did. -/
def geomSupersUptoRow : OpenClaim := { program := "ytjlgbihllijpbab", sum := "2e9c80b2c1025161cc4cc1954eb4b1c1dc0063ca9fce57e5d743c291d95aec17", func := "cellaret/cellaretlaw09.GeomSupers", spec := "geomSupers", unfollowed := true, recurses := true, apart := false, narrowed := true }
def GeomSupersUptoSaid : Prop := geomSupersUptoRow.holds Try.pinned (OpenSpec.upto geomSupersSpec)

/-- 'cellaretlaw11.RegPuts', WHERE WHAT IT READS IS OF BULK AT MOST 1048576: true; the input reads as it did. -/
def regPutsUptoRow : OpenClaim := { program := "ytjlgbihllijpbab", sum := "2e9c80b2c1025161cc4cc1954eb4b1c1dc0063ca9fce57e5d743c291d95aec17", func := "cellaret/cellaretlaw11.RegPuts", spec := "regPuts", unfollowed := true, recurses := true, apart := false, narrowed := true }
def RegPutsUptoSaid : Prop := regPutsUptoRow.holds Try.pinned (OpenSpec.upto regPutsSpec)

/-- 'cellaretlaw11.RegGets', WHERE WHAT IT READS IS OF BULK AT MOST 1048576: true; the input reads as it did. -/
def regGetsUptoRow : OpenClaim := { program := "ytjlgbihllijpbab", sum := "2e9c80b2c1025161cc4cc1954eb4b1c1dc0063ca9fce57e5d743c291d95aec17", func := "cellaret/cellaretlaw11.RegGets", spec := "regGets", unfollowed := true, recurses := true, apart := false, narrowed := true }
def RegGetsUptoSaid : Prop := regGetsUptoRow.holds Try.pinned (OpenSpec.upto regGetsSpec)

/-- 'cellaretlaw11.RegBack', WHERE WHAT IT READS IS OF BULK AT MOST 1048576: true; the input reads as it did. -/
def regBackUptoRow : OpenClaim := { program := "ytjlgbihllijpbab", sum := "2e9c80b2c1025161cc4cc1954eb4b1c1dc0063ca9fce57e5d743c291d95aec17", func := "cellaret/cellaretlaw11.RegBack", spec := "regBack", unfollowed := true, recurses := true, apart := false, narrowed := true }
def RegBackUptoSaid : Prop := regBackUptoRow.holds Try.pinned (OpenSpec.upto regBackSpec)

/-- 'cellaretlaw22.SlotsDo', WHERE WHAT IT READS IS OF BULK AT MOST 1048576: true; the input reads as it did. -/
def slotsDoUptoRow : OpenClaim := { program := "ytjlgbihllijpbab", sum := "2e9c80b2c1025161cc4cc1954eb4b1c1dc0063ca9fce57e5d743c291d95aec17", func := "cellaret/cellaretlaw22.SlotsDo", spec := "slotsDo", unfollowed := true, recurses := true, apart := false, narrowed := true }
def SlotsDoUptoSaid : Prop := slotsDoUptoRow.holds Try.pinned (OpenSpec.upto slotsDoSpec)

/-- 'cellaretlaw22.SlotsOne', WHERE WHAT IT READS IS OF BULK AT MOST 1048576: true; the input reads as it did. -/
def slotsOneUptoRow : OpenClaim := { program := "ytjlgbihllijpbab", sum := "2e9c80b2c1025161cc4cc1954eb4b1c1dc0063ca9fce57e5d743c291d95aec17", func := "cellaret/cellaretlaw22.SlotsOne", spec := "slotsOne", unfollowed := true, recurses := true, apart := false, narrowed := true }
def SlotsOneUptoSaid : Prop := slotsOneUptoRow.holds Try.pinned (OpenSpec.upto slotsOneSpec)

/-- 'cellaretlaw22.SlotsNone', WHERE WHAT IT READS IS OF BULK AT MOST 1048576: true; the input reads as it did. -/
def slotsNoneUptoRow : OpenClaim := { program := "ytjlgbihllijpbab", sum := "2e9c80b2c1025161cc4cc1954eb4b1c1dc0063ca9fce57e5d743c291d95aec17", func := "cellaret/cellaretlaw22.SlotsNone", spec := "slotsNone", unfollowed := true, recurses := true, apart := false, narrowed := true }
def SlotsNoneUptoSaid : Prop := slotsNoneUptoRow.holds Try.pinned (OpenSpec.upto slotsNoneSpec)

/-- 'cellaretlaw22.SlotsReads', WHERE WHAT IT READS IS OF BULK AT MOST 1048576: true; the input reads as it did. -/
def slotsReadsUptoRow : OpenClaim := { program := "ytjlgbihllijpbab", sum := "2e9c80b2c1025161cc4cc1954eb4b1c1dc0063ca9fce57e5d743c291d95aec17", func := "cellaret/cellaretlaw22.SlotsReads", spec := "slotsReads", unfollowed := true, recurses := true, apart := false, narrowed := true }
def SlotsReadsUptoSaid : Prop := slotsReadsUptoRow.holds Try.pinned (OpenSpec.upto slotsReadsSpec)

/-- 'cellaretlaw22.SlotsBack', WHERE WHAT IT READS IS OF BULK AT MOST 1048576: true; the input reads as it did. -/
def slotsBackUptoRow : OpenClaim := { program := "ytjlgbihllijpbab", sum := "2e9c80b2c1025161cc4cc1954eb4b1c1dc0063ca9fce57e5d743c291d95aec17", func := "cellaret/cellaretlaw22.SlotsBack", spec := "slotsBack", unfollowed := true, recurses := true, apart := false, narrowed := true }
def SlotsBackUptoSaid : Prop := slotsBackUptoRow.holds Try.pinned (OpenSpec.upto slotsBackSpec)

end Rows
end Go.Proofs.Ytjlgbihllijpbab
