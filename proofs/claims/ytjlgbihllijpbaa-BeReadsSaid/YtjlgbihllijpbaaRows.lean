/-
  No cell of these rows narrows 'for every input' (looked for: loops, veiled, ifaces, maps, wideKeys, modest, calm, conditions, laid).
  DERIVED. THE GIVEN ROWS OF THIS SEAT. 10 by the template 'for every input the law returns true; each argument reads behind the call as it read before'; 0 by the template 'total and deterministic' (their statements: YtjlgbihllijpbaaTotals.lean).
  GIVEN WITH THE SEED: the statements are not yours to turn. If you find one false, say at which input.
  Laid BY PROGRAM, IN A SANDBOX (cutbox-rows.mjs): the forced cells as the released guide's own fill.sh prints them over the translation 7eb9f8e7053749ae… (all of the seat's roots in one cut). By AI agents, Wed Nov 11 2026. No macro, syntax, notation, axiom, sorry.
-/
import Derived.Test.YtjlgbihllijpbaaChecked
import GoSem.Claim
import GoSem.ClaimJoined
import GoSem.ClaimMapViews
import Derived.JoinedTies
import Derived.KernelRfl
namespace Go.Proofs.Ytjlgbihllijpbaa
/- THE CELL 'sum', in the pinned program and in every row, IS THE sha256 OF THE DUMP (.gsa) THAT YtjlgbihllijpbaaProg.lean LOADS. Nothing in Lean hashes anything: it is a label: what it is worth is what the hold of that sum in a sandbox is worth. -/
noncomputable def Try.pinned : Pinned := { name := "ytjlgbihllijpbaa", sum := "7eb9f8e7053749ae4f4c4a279ab25be2f17a85bb6759914a277622a9d257a25c", checked := Try.checked }
namespace Rows
def none {H : Type} : Left H := { results := [], args := [] }

/-- 'cellaretlaw09.GeomSpans': WHATEVER THE INPUT: true; the input reads as it did. -/
def geomSpansSpec : ChangeSpec := { name := "geomSpans", fn := fun _ => fun
  | [d1, d2, d3] => { results := [.lit (.bool true)], args := [d1, d2, d3] }
  | _ => none }
def geomSpansRow : OpenClaim := { program := "ytjlgbihllijpbaa", sum := "7eb9f8e7053749ae4f4c4a279ab25be2f17a85bb6759914a277622a9d257a25c", func := "cellaret/cellaretlaw09.GeomSpans", spec := "geomSpans", unfollowed := true, recurses := true, apart := false }
def GeomSpansSaid : Prop := geomSpansRow.holds Try.pinned (OpenSpec.ofChange geomSpansSpec)

/-- ITS FALSE NEIGHBOUR: 'it returns false'. Refute it at one input. -/
def geomSpansWrong : ChangeSpec := { name := "geomSpans", fn := fun _ => fun
  | [d1, d2, d3] => { results := [.lit (.bool false)], args := [d1, d2, d3] }
  | _ => none }
def GeomSpansWrongFalsely : Prop := geomSpansRow.holds Try.pinned (OpenSpec.ofChange geomSpansWrong)

/-- 'cellaretlaw09.GeomWhat': WHATEVER THE INPUT: true; the input reads as it did. -/
def geomWhatSpec : ChangeSpec := { name := "geomWhat", fn := fun _ => fun
  | [d] => { results := [.lit (.bool true)], args := [d] }
  | _ => none }
def geomWhatRow : OpenClaim := { program := "ytjlgbihllijpbaa", sum := "7eb9f8e7053749ae4f4c4a279ab25be2f17a85bb6759914a277622a9d257a25c", func := "cellaret/cellaretlaw09.GeomWhat", spec := "geomWhat", unfollowed := true, recurses := true, apart := false }
def GeomWhatSaid : Prop := geomWhatRow.holds Try.pinned (OpenSpec.ofChange geomWhatSpec)

/-- ITS FALSE NEIGHBOUR: 'it returns false'. Refute it at one input. -/
def geomWhatWrong : ChangeSpec := { name := "geomWhat", fn := fun _ => fun
  | [d] => { results := [.lit (.bool false)], args := [d] }
  | _ => none }
def GeomWhatWrongFalsely : Prop := geomWhatRow.holds Try.pinned (OpenSpec.ofChange geomWhatWrong)

/-- 'cellaretlaw01.BePuts': WHATEVER THE INPUT: true; the input reads as it did. -/
def bePutsSpec : ChangeSpec := { name := "bePuts", fn := fun _ => fun
  | [d1, d2, d3] => { results := [.lit (.bool true)], args := [d1, d2, d3] }
  | _ => none }
def bePutsRow : OpenClaim := { program := "ytjlgbihllijpbaa", sum := "7eb9f8e7053749ae4f4c4a279ab25be2f17a85bb6759914a277622a9d257a25c", func := "cellaret/cellaretlaw01.BePuts", spec := "bePuts", apart := false }
def BePutsSaid : Prop := bePutsRow.holds Try.pinned (OpenSpec.ofChange bePutsSpec)

/-- ITS FALSE NEIGHBOUR: 'it returns false'. Refute it at one input. -/
def bePutsWrong : ChangeSpec := { name := "bePuts", fn := fun _ => fun
  | [d1, d2, d3] => { results := [.lit (.bool false)], args := [d1, d2, d3] }
  | _ => none }
def BePutsWrongFalsely : Prop := bePutsRow.holds Try.pinned (OpenSpec.ofChange bePutsWrong)

/-- 'cellaretlaw01.BeXors': WHATEVER THE INPUT: true; the input reads as it did. -/
def beXorsSpec : ChangeSpec := { name := "beXors", fn := fun _ => fun
  | [d1, d2] => { results := [.lit (.bool true)], args := [d1, d2] }
  | _ => none }
def beXorsRow : OpenClaim := { program := "ytjlgbihllijpbaa", sum := "7eb9f8e7053749ae4f4c4a279ab25be2f17a85bb6759914a277622a9d257a25c", func := "cellaret/cellaretlaw01.BeXors", spec := "beXors", apart := false }
def BeXorsSaid : Prop := beXorsRow.holds Try.pinned (OpenSpec.ofChange beXorsSpec)

/-- ITS FALSE NEIGHBOUR: 'it returns false'. Refute it at one input. -/
def beXorsWrong : ChangeSpec := { name := "beXors", fn := fun _ => fun
  | [d1, d2] => { results := [.lit (.bool false)], args := [d1, d2] }
  | _ => none }
def BeXorsWrongFalsely : Prop := beXorsRow.holds Try.pinned (OpenSpec.ofChange beXorsWrong)

/-- 'cellaretlaw01.BeOrders': WHATEVER THE INPUT: true; the input reads as it did. -/
def beOrdersSpec : ChangeSpec := { name := "beOrders", fn := fun _ => fun
  | [d1, d2, d3] => { results := [.lit (.bool true)], args := [d1, d2, d3] }
  | _ => none }
def beOrdersRow : OpenClaim := { program := "ytjlgbihllijpbaa", sum := "7eb9f8e7053749ae4f4c4a279ab25be2f17a85bb6759914a277622a9d257a25c", func := "cellaret/cellaretlaw01.BeOrders", spec := "beOrders", apart := false }
def BeOrdersSaid : Prop := beOrdersRow.holds Try.pinned (OpenSpec.ofChange beOrdersSpec)

/-- ITS FALSE NEIGHBOUR: 'it returns false'. Refute it at one input. -/
def beOrdersWrong : ChangeSpec := { name := "beOrders", fn := fun _ => fun
  | [d1, d2, d3] => { results := [.lit (.bool false)], args := [d1, d2, d3] }
  | _ => none }
def BeOrdersWrongFalsely : Prop := beOrdersRow.holds Try.pinned (OpenSpec.ofChange beOrdersWrong)

/-- 'cellaretlaw09.GeomPlaces': WHATEVER THE INPUT: true; the input reads as it did. -/
def geomPlacesSpec : ChangeSpec := { name := "geomPlaces", fn := fun _ => fun
  | [d1, d2] => { results := [.lit (.bool true)], args := [d1, d2] }
  | _ => none }
def geomPlacesRow : OpenClaim := { program := "ytjlgbihllijpbaa", sum := "7eb9f8e7053749ae4f4c4a279ab25be2f17a85bb6759914a277622a9d257a25c", func := "cellaret/cellaretlaw09.GeomPlaces", spec := "geomPlaces", unfollowed := true, recurses := true, apart := false }
def GeomPlacesSaid : Prop := geomPlacesRow.holds Try.pinned (OpenSpec.ofChange geomPlacesSpec)

/-- ITS FALSE NEIGHBOUR: 'it returns false'. Refute it at one input. -/
def geomPlacesWrong : ChangeSpec := { name := "geomPlaces", fn := fun _ => fun
  | [d1, d2] => { results := [.lit (.bool false)], args := [d1, d2] }
  | _ => none }
def GeomPlacesWrongFalsely : Prop := geomPlacesRow.holds Try.pinned (OpenSpec.ofChange geomPlacesWrong)

/-- 'cellaretlaw01.BePads': WHATEVER THE INPUT: true; the input reads as it did. -/
def bePadsSpec : ChangeSpec := { name := "bePads", fn := fun _ => fun
  | [d1, d2, d3] => { results := [.lit (.bool true)], args := [d1, d2, d3] }
  | _ => none }
def bePadsRow : OpenClaim := { program := "ytjlgbihllijpbaa", sum := "7eb9f8e7053749ae4f4c4a279ab25be2f17a85bb6759914a277622a9d257a25c", func := "cellaret/cellaretlaw01.BePads", spec := "bePads", unfollowed := true, recurses := true, apart := false }
def BePadsSaid : Prop := bePadsRow.holds Try.pinned (OpenSpec.ofChange bePadsSpec)

/-- ITS FALSE NEIGHBOUR: 'it returns false'. Refute it at one input. -/
def bePadsWrong : ChangeSpec := { name := "bePads", fn := fun _ => fun
  | [d1, d2, d3] => { results := [.lit (.bool false)], args := [d1, d2, d3] }
  | _ => none }
def BePadsWrongFalsely : Prop := bePadsRow.holds Try.pinned (OpenSpec.ofChange bePadsWrong)

/-- 'cellaretlaw01.BeBack': WHATEVER THE INPUT: true; the input reads as it did. -/
def beBackSpec : ChangeSpec := { name := "beBack", fn := fun _ => fun
  | [d1, d2, d3] => { results := [.lit (.bool true)], args := [d1, d2, d3] }
  | _ => none }
def beBackRow : OpenClaim := { program := "ytjlgbihllijpbaa", sum := "7eb9f8e7053749ae4f4c4a279ab25be2f17a85bb6759914a277622a9d257a25c", func := "cellaret/cellaretlaw01.BeBack", spec := "beBack", unfollowed := true, recurses := true, apart := false }
def BeBackSaid : Prop := beBackRow.holds Try.pinned (OpenSpec.ofChange beBackSpec)

/-- ITS FALSE NEIGHBOUR: 'it returns false'. Refute it at one input. -/
def beBackWrong : ChangeSpec := { name := "beBack", fn := fun _ => fun
  | [d1, d2, d3] => { results := [.lit (.bool false)], args := [d1, d2, d3] }
  | _ => none }
def BeBackWrongFalsely : Prop := beBackRow.holds Try.pinned (OpenSpec.ofChange beBackWrong)

/-- 'cellaretlaw01.BeReads': WHATEVER THE INPUT: true; the input reads as it did. -/
def beReadsSpec : ChangeSpec := { name := "beReads", fn := fun _ => fun
  | [d1, d2] => { results := [.lit (.bool true)], args := [d1, d2] }
  | _ => none }
def beReadsRow : OpenClaim := { program := "ytjlgbihllijpbaa", sum := "7eb9f8e7053749ae4f4c4a279ab25be2f17a85bb6759914a277622a9d257a25c", func := "cellaret/cellaretlaw01.BeReads", spec := "beReads", unfollowed := true, recurses := true, apart := false }
def BeReadsSaid : Prop := beReadsRow.holds Try.pinned (OpenSpec.ofChange beReadsSpec)

/-- ITS FALSE NEIGHBOUR: 'it returns false'. Refute it at one input. -/
def beReadsWrong : ChangeSpec := { name := "beReads", fn := fun _ => fun
  | [d1, d2] => { results := [.lit (.bool false)], args := [d1, d2] }
  | _ => none }
def BeReadsWrongFalsely : Prop := beReadsRow.holds Try.pinned (OpenSpec.ofChange beReadsWrong)

/-- 'cellaretlaw01.BeNone': WHATEVER THE INPUT: true; the input reads as it did. -/
def beNoneSpec : ChangeSpec := { name := "beNone", fn := fun _ => fun
  | [d] => { results := [.lit (.bool true)], args := [d] }
  | _ => none }
def beNoneRow : OpenClaim := { program := "ytjlgbihllijpbaa", sum := "7eb9f8e7053749ae4f4c4a279ab25be2f17a85bb6759914a277622a9d257a25c", func := "cellaret/cellaretlaw01.BeNone", spec := "beNone", unfollowed := true, recurses := true, apart := false }
def BeNoneSaid : Prop := beNoneRow.holds Try.pinned (OpenSpec.ofChange beNoneSpec)

/-- ITS FALSE NEIGHBOUR: 'it returns false'. Refute it at one input. -/
def beNoneWrong : ChangeSpec := { name := "beNone", fn := fun _ => fun
  | [d] => { results := [.lit (.bool false)], args := [d] }
  | _ => none }
def BeNoneWrongFalsely : Prop := beNoneRow.holds Try.pinned (OpenSpec.ofChange beNoneWrong)

/- THE SECOND FORM. 'bulk': how many values and letters a reading holds, each counted each time it is reached (what is shared counts as often as it is met; a slice's spare places count too). A statement '..UptoSaid' is the law's where the arguments, and the package variables that the reading takes, are together of bulk at most 1048576: NARROWER than '..Said'. Prove '..Said' where nothing that the law and all that it calls make is longer than what came in: it says more and counts as full. Else prove '..UptoSaid'. A law counts once. -/
mutual
def uptoBulk {H : Type} : DataW H → Nat
  | .lit (.string bytes) => bytes.length + 1
  | .lit _ => 1
  | .nil => 1
  | .ptr d => uptoBulk d + 1
  | .slice elems spare => uptoBulkAll elems + uptoBulkAll spare + 1
  | .agg parts => uptoBulkAll parts + 1
  | .iface _ d => uptoBulk d + 1
  | .map entries => uptoBulkEntries entries + 1
  | .held _ => 1
def uptoBulkAll {H : Type} : List (DataW H) → Nat
  | [] => 0
  | d :: r => uptoBulk d + uptoBulkAll r
def uptoBulkEntries {H : Type} : List (Lit × DataW H) → Nat
  | [] => 0
  | x :: r => uptoBulkEntry x + uptoBulkEntries r
def uptoBulkEntry {H : Type} : Lit × DataW H → Nat
  | (.string bytes, d) => bytes.length + uptoBulk d + 1
  | (_, d) => uptoBulk d + 1
 end
def uptoSmall : (H : Type) → List (DataW H) → Bool := fun _ ds => decide (uptoBulkAll ds ≤ 1048576)
def OpenSpec.upto (s : _root_.Go.ChangeSpec) : _root_.Go.OpenSpec := { _root_.Go.OpenSpec.ofChange s with cond := some uptoSmall }

/-- 'cellaretlaw09.GeomSpans', WHERE WHAT IT READS IS OF BULK AT MOST 1048576: true; the input reads as it did. -/
def geomSpansUptoRow : OpenClaim := { program := "ytjlgbihllijpbaa", sum := "7eb9f8e7053749ae4f4c4a279ab25be2f17a85bb6759914a277622a9d257a25c", func := "cellaret/cellaretlaw09.GeomSpans", spec := "geomSpans", unfollowed := true, recurses := true, apart := false, narrowed := true }
def GeomSpansUptoSaid : Prop := geomSpansUptoRow.holds Try.pinned (OpenSpec.upto geomSpansSpec)

/-- 'cellaretlaw09.GeomWhat', WHERE WHAT IT READS IS OF BULK AT MOST 1048576: true; the input reads as it did. -/
def geomWhatUptoRow : OpenClaim := { program := "ytjlgbihllijpbaa", sum := "7eb9f8e7053749ae4f4c4a279ab25be2f17a85bb6759914a277622a9d257a25c", func := "cellaret/cellaretlaw09.GeomWhat", spec := "geomWhat", unfollowed := true, recurses := true, apart := false, narrowed := true }
def GeomWhatUptoSaid : Prop := geomWhatUptoRow.holds Try.pinned (OpenSpec.upto geomWhatSpec)

/-- 'cellaretlaw01.BePuts', WHERE WHAT IT READS IS OF BULK AT MOST 1048576: true; the input reads as it did. -/
def bePutsUptoRow : OpenClaim := { program := "ytjlgbihllijpbaa", sum := "7eb9f8e7053749ae4f4c4a279ab25be2f17a85bb6759914a277622a9d257a25c", func := "cellaret/cellaretlaw01.BePuts", spec := "bePuts", apart := false, narrowed := true }
def BePutsUptoSaid : Prop := bePutsUptoRow.holds Try.pinned (OpenSpec.upto bePutsSpec)

/-- 'cellaretlaw01.BeXors', WHERE WHAT IT READS IS OF BULK AT MOST 1048576: true; the input reads as it did. -/
def beXorsUptoRow : OpenClaim := { program := "ytjlgbihllijpbaa", sum := "7eb9f8e7053749ae4f4c4a279ab25be2f17a85bb6759914a277622a9d257a25c", func := "cellaret/cellaretlaw01.BeXors", spec := "beXors", apart := false, narrowed := true }
def BeXorsUptoSaid : Prop := beXorsUptoRow.holds Try.pinned (OpenSpec.upto beXorsSpec)

/-- 'cellaretlaw01.BeOrders', WHERE WHAT IT READS IS OF BULK AT MOST 1048576: true; the input reads as it did. -/
def beOrdersUptoRow : OpenClaim := { program := "ytjlgbihllijpbaa", sum := "7eb9f8e7053749ae4f4c4a279ab25be2f17a85bb6759914a277622a9d257a25c", func := "cellaret/cellaretlaw01.BeOrders", spec := "beOrders", apart := false, narrowed := true }
def BeOrdersUptoSaid : Prop := beOrdersUptoRow.holds Try.pinned (OpenSpec.upto beOrdersSpec)

/-- 'cellaretlaw09.GeomPlaces', WHERE WHAT IT READS IS OF BULK AT MOST 1048576: true; the input reads as it did. -/
def geomPlacesUptoRow : OpenClaim := { program := "ytjlgbihllijpbaa", sum := "7eb9f8e7053749ae4f4c4a279ab25be2f17a85bb6759914a277622a9d257a25c", func := "cellaret/cellaretlaw09.GeomPlaces", spec := "geomPlaces", unfollowed := true, recurses := true, apart := false, narrowed := true }
def GeomPlacesUptoSaid : Prop := geomPlacesUptoRow.holds Try.pinned (OpenSpec.upto geomPlacesSpec)

/-- 'cellaretlaw01.BePads', WHERE WHAT IT READS IS OF BULK AT MOST 1048576: true; the input reads as it did. -/
def bePadsUptoRow : OpenClaim := { program := "ytjlgbihllijpbaa", sum := "7eb9f8e7053749ae4f4c4a279ab25be2f17a85bb6759914a277622a9d257a25c", func := "cellaret/cellaretlaw01.BePads", spec := "bePads", unfollowed := true, recurses := true, apart := false, narrowed := true }
def BePadsUptoSaid : Prop := bePadsUptoRow.holds Try.pinned (OpenSpec.upto bePadsSpec)

/-- 'cellaretlaw01.BeBack', WHERE WHAT IT READS IS OF BULK AT MOST 1048576: true; the input reads as it did. -/
def beBackUptoRow : OpenClaim := { program := "ytjlgbihllijpbaa", sum := "7eb9f8e7053749ae4f4c4a279ab25be2f17a85bb6759914a277622a9d257a25c", func := "cellaret/cellaretlaw01.BeBack", spec := "beBack", unfollowed := true, recurses := true, apart := false, narrowed := true }
def BeBackUptoSaid : Prop := beBackUptoRow.holds Try.pinned (OpenSpec.upto beBackSpec)

/-- 'cellaretlaw01.BeReads', WHERE WHAT IT READS IS OF BULK AT MOST 1048576: true; the input reads as it did. -/
def beReadsUptoRow : OpenClaim := { program := "ytjlgbihllijpbaa", sum := "7eb9f8e7053749ae4f4c4a279ab25be2f17a85bb6759914a277622a9d257a25c", func := "cellaret/cellaretlaw01.BeReads", spec := "beReads", unfollowed := true, recurses := true, apart := false, narrowed := true }
def BeReadsUptoSaid : Prop := beReadsUptoRow.holds Try.pinned (OpenSpec.upto beReadsSpec)

/-- 'cellaretlaw01.BeNone', WHERE WHAT IT READS IS OF BULK AT MOST 1048576: true; the input reads as it did. -/
def beNoneUptoRow : OpenClaim := { program := "ytjlgbihllijpbaa", sum := "7eb9f8e7053749ae4f4c4a279ab25be2f17a85bb6759914a277622a9d257a25c", func := "cellaret/cellaretlaw01.BeNone", spec := "beNone", unfollowed := true, recurses := true, apart := false, narrowed := true }
def BeNoneUptoSaid : Prop := beNoneUptoRow.holds Try.pinned (OpenSpec.upto beNoneSpec)

end Rows
end Go.Proofs.Ytjlgbihllijpbaa
