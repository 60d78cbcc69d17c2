/-
  No cell of these rows narrows 'for every input' (looked for: loops, veiled, ifaces, maps, wideKeys, modest, calm, conditions, laid).
  DERIVED. THE GIVEN ROWS OF THIS SEAT. 5 by the template 'for every input the law returns true; each argument reads behind the call as it read before'; 0 by the template 'total and deterministic' (their statements: YtkjamonkohpcnaaGreatTotals.lean).
  GIVEN WITH THE SEED: the statements are not yours to turn. If you find one false, say at which input.
  Laid BY PROGRAM, IN A SANDBOX (cutbox-rows.mjs): the forced cells as the released guide's own fill.sh prints them over the translation bd4b7a39bedade2f… (all of the seat's roots in one cut). By AI agents, Wed Nov 11 2026. No macro, syntax, notation, axiom, sorry.
-/
import Derived.Test.YtkjamonkohpcnaaGreatChecked
import GoSem.Claim
import GoSem.ClaimJoined
import GoSem.ClaimMapViews
import Derived.JoinedTies
import Derived.KernelRfl
namespace Go.Proofs.YtkjamonkohpcnaaGreat
/- THE CELL 'sum', in the pinned program and in every row, IS THE sha256 OF THE DUMP (.gsa) THAT YtkjamonkohpcnaaGreatProg.lean LOADS. Nothing in Lean hashes anything: it is a label: what it is worth is what the hold of that sum in a sandbox is worth. -/
noncomputable def Tryz.pinned : Pinned := { name := "ytkjamonkohpcnaagreat", sum := "bd4b7a39bedade2fc8083577d3b3d36e86ff944aa087cd645136f84d085619c7", checked := Tryz.checked }
namespace Rows
def none {H : Type} : Left H := { results := [], args := [] }

/-- 'cellaretlaw19.StoreDoes': WHATEVER THE INPUT: true; the input reads as it did. -/
def storeDoesSpec : ChangeSpec := { name := "storeDoes", fn := fun _ => fun
  | [d] => { results := [.lit (.bool true)], args := [d] }
  | _ => none }
def storeDoesRow : OpenClaim := { program := "ytkjamonkohpcnaagreat", sum := "bd4b7a39bedade2fc8083577d3b3d36e86ff944aa087cd645136f84d085619c7", func := "cellaret/cellaretlaw19.StoreDoes", spec := "storeDoes", inPlace := ["internal/abi.NoEscape", "internal/bytealg.MakeNoZero"], unfollowed := true, recurses := true, apart := false }
def StoreDoesSaid : Prop := storeDoesRow.holds Tryz.pinned (OpenSpec.ofChange storeDoesSpec)

/-- ITS FALSE NEIGHBOUR: 'it returns false'. Refute it at one input. -/
def storeDoesWrong : ChangeSpec := { name := "storeDoes", fn := fun _ => fun
  | [d] => { results := [.lit (.bool false)], args := [d] }
  | _ => none }
def StoreDoesWrongFalsely : Prop := storeDoesRow.holds Tryz.pinned (OpenSpec.ofChange storeDoesWrong)

/-- 'cellaretlaw23.MetaTampers': WHATEVER THE INPUT: true; the input reads as it did. -/
def metaTampersSpec : ChangeSpec := { name := "metaTampers", fn := fun _ => fun
  | [d1, d2, d3] => { results := [.lit (.bool true)], args := [d1, d2, d3] }
  | _ => none }
def metaTampersRow : OpenClaim := { program := "ytkjamonkohpcnaagreat", sum := "bd4b7a39bedade2fc8083577d3b3d36e86ff944aa087cd645136f84d085619c7", func := "cellaret/cellaretlaw23.MetaTampers", spec := "metaTampers", inPlace := ["internal/abi.NoEscape", "internal/bytealg.MakeNoZero"], unfollowed := true, recurses := true, apart := false }
def MetaTampersSaid : Prop := metaTampersRow.holds Tryz.pinned (OpenSpec.ofChange metaTampersSpec)

/-- ITS FALSE NEIGHBOUR: 'it returns false'. Refute it at one input. -/
def metaTampersWrong : ChangeSpec := { name := "metaTampers", fn := fun _ => fun
  | [d1, d2, d3] => { results := [.lit (.bool false)], args := [d1, d2, d3] }
  | _ => none }
def MetaTampersWrongFalsely : Prop := metaTampersRow.holds Tryz.pinned (OpenSpec.ofChange metaTampersWrong)

/-- 'cellaretlaw21.AuthDoes': WHATEVER THE INPUT: true; the input reads as it did. -/
def authDoesSpec : ChangeSpec := { name := "authDoes", fn := fun _ => fun
  | [d] => { results := [.lit (.bool true)], args := [d] }
  | _ => none }
def authDoesRow : OpenClaim := { program := "ytkjamonkohpcnaagreat", sum := "bd4b7a39bedade2fc8083577d3b3d36e86ff944aa087cd645136f84d085619c7", func := "cellaret/cellaretlaw21.AuthDoes", spec := "authDoes", inPlace := ["internal/abi.NoEscape", "internal/bytealg.MakeNoZero"], unfollowed := true, recurses := true, apart := false }
def AuthDoesSaid : Prop := authDoesRow.holds Tryz.pinned (OpenSpec.ofChange authDoesSpec)

/-- ITS FALSE NEIGHBOUR: 'it returns false'. Refute it at one input. -/
def authDoesWrong : ChangeSpec := { name := "authDoes", fn := fun _ => fun
  | [d] => { results := [.lit (.bool false)], args := [d] }
  | _ => none }
def AuthDoesWrongFalsely : Prop := authDoesRow.holds Tryz.pinned (OpenSpec.ofChange authDoesWrong)

/-- 'cellaretlaw21.AuthOnce': WHATEVER THE INPUT: true; the input reads as it did. -/
def authOnceSpec : ChangeSpec := { name := "authOnce", fn := fun _ => fun
  | [d1, d2] => { results := [.lit (.bool true)], args := [d1, d2] }
  | _ => none }
def authOnceRow : OpenClaim := { program := "ytkjamonkohpcnaagreat", sum := "bd4b7a39bedade2fc8083577d3b3d36e86ff944aa087cd645136f84d085619c7", func := "cellaret/cellaretlaw21.AuthOnce", spec := "authOnce", inPlace := ["internal/abi.NoEscape", "internal/bytealg.MakeNoZero"], unfollowed := true, recurses := true, apart := false }
def AuthOnceSaid : Prop := authOnceRow.holds Tryz.pinned (OpenSpec.ofChange authOnceSpec)

/-- ITS FALSE NEIGHBOUR: 'it returns false'. Refute it at one input. -/
def authOnceWrong : ChangeSpec := { name := "authOnce", fn := fun _ => fun
  | [d1, d2] => { results := [.lit (.bool false)], args := [d1, d2] }
  | _ => none }
def AuthOnceWrongFalsely : Prop := authOnceRow.holds Tryz.pinned (OpenSpec.ofChange authOnceWrong)

/-- 'cellaretlaw23.MetaSaves': WHATEVER THE INPUT: true; the input reads as it did. -/
def metaSavesSpec : ChangeSpec := { name := "metaSaves", fn := fun _ => fun
  | [d] => { results := [.lit (.bool true)], args := [d] }
  | _ => none }
def metaSavesRow : OpenClaim := { program := "ytkjamonkohpcnaagreat", sum := "bd4b7a39bedade2fc8083577d3b3d36e86ff944aa087cd645136f84d085619c7", func := "cellaret/cellaretlaw23.MetaSaves", spec := "metaSaves", inPlace := ["internal/abi.NoEscape", "internal/bytealg.MakeNoZero"], unfollowed := true, recurses := true, apart := false }
def MetaSavesSaid : Prop := metaSavesRow.holds Tryz.pinned (OpenSpec.ofChange metaSavesSpec)

/-- ITS FALSE NEIGHBOUR: 'it returns false'. Refute it at one input. -/
def metaSavesWrong : ChangeSpec := { name := "metaSaves", fn := fun _ => fun
  | [d] => { results := [.lit (.bool false)], args := [d] }
  | _ => none }
def MetaSavesWrongFalsely : Prop := metaSavesRow.holds Tryz.pinned (OpenSpec.ofChange metaSavesWrong)

/- THE SECOND FORM. 'bulk': how many values and letters a reading holds, each counted each time it is reached (what is shared counts as often as it is met; a slice's spare places count too). A statement '..UptoSaid' is the law's where the arguments, and the package variables that the reading takes, are together of bulk at most 1048576: NARROWER than '..Said'. Prove '..Said' where nothing that the law and all that it calls make is longer than what came in: it says more and counts as full. Else prove '..UptoSaid'. A law counts once. -/
mutual
def uptoBulk {H : Type} : DataW H → Nat
  | .lit (.string bytes) => bytes.length + 1
  | .lit _ => 1
  | .nil => 1
  | .ptr d => uptoBulk d + 1
  | .slice elems spare => uptoBulkAll elems + uptoBulkAll spare + 1
  | .agg parts => uptoBulkAll parts + 1
  | .iface _ d => uptoBulk d + 1
  | .map entries => uptoBulkEntries entries + 1
  | .held _ => 1
def uptoBulkAll {H : Type} : List (DataW H) → Nat
  | [] => 0
  | d :: r => uptoBulk d + uptoBulkAll r
def uptoBulkEntries {H : Type} : List (Lit × DataW H) → Nat
  | [] => 0
  | x :: r => uptoBulkEntry x + uptoBulkEntries r
def uptoBulkEntry {H : Type} : Lit × DataW H → Nat
  | (.string bytes, d) => bytes.length + uptoBulk d + 1
  | (_, d) => uptoBulk d + 1
 end
def uptoSmall : (H : Type) → List (DataW H) → Bool := fun _ ds => decide (uptoBulkAll ds ≤ 1048576)
def OpenSpec.upto (s : _root_.Go.ChangeSpec) : _root_.Go.OpenSpec := { _root_.Go.OpenSpec.ofChange s with cond := some uptoSmall }

/-- 'cellaretlaw19.StoreDoes', WHERE WHAT IT READS IS OF BULK AT MOST 1048576: true; the input reads as it did. -/
def storeDoesUptoRow : OpenClaim := { program := "ytkjamonkohpcnaagreat", sum := "bd4b7a39bedade2fc8083577d3b3d36e86ff944aa087cd645136f84d085619c7", func := "cellaret/cellaretlaw19.StoreDoes", spec := "storeDoes", inPlace := ["internal/abi.NoEscape", "internal/bytealg.MakeNoZero"], unfollowed := true, recurses := true, apart := false, narrowed := true }
def StoreDoesUptoSaid : Prop := storeDoesUptoRow.holds Tryz.pinned (OpenSpec.upto storeDoesSpec)

/-- 'cellaretlaw23.MetaTampers', WHERE WHAT IT READS IS OF BULK AT MOST 1048576: true; the input reads as it did. -/
def metaTampersUptoRow : OpenClaim := { program := "ytkjamonkohpcnaagreat", sum := "bd4b7a39bedade2fc8083577d3b3d36e86ff944aa087cd645136f84d085619c7", func := "cellaret/cellaretlaw23.MetaTampers", spec := "metaTampers", inPlace := ["internal/abi.NoEscape", "internal/bytealg.MakeNoZero"], unfollowed := true, recurses := true, apart := false, narrowed := true }
def MetaTampersUptoSaid : Prop := metaTampersUptoRow.holds Tryz.pinned (OpenSpec.upto metaTampersSpec)

/-- 'cellaretlaw21.AuthDoes', WHERE WHAT IT READS IS OF BULK AT MOST 1048576: true; the input reads as it did. -/
def authDoesUptoRow : OpenClaim := { program := "ytkjamonkohpcnaagreat", sum := "bd4b7a39bedade2fc8083577d3b3d36e86ff944aa087cd645136f84d085619c7", func := "cellaret/cellaretlaw21.AuthDoes", spec := "authDoes", inPlace := ["internal/abi.NoEscape", "internal/bytealg.MakeNoZero"], unfollowed := true, recurses := true, apart := false, narrowed := true }
def AuthDoesUptoSaid : Prop := authDoesUptoRow.holds Tryz.pinned (OpenSpec.upto authDoesSpec)

/-- 'cellaretlaw21.AuthOnce', WHERE WHAT IT READS IS OF BULK AT MOST 1048576: true; the input reads as it did. -/
def authOnceUptoRow : OpenClaim := { program := "ytkjamonkohpcnaagreat", sum := "bd4b7a39bedade2fc8083577d3b3d36e86ff944aa087cd645136f84d085619c7", func := "cellaret/cellaretlaw21.AuthOnce", spec := "authOnce", inPlace := ["internal/abi.NoEscape", "internal/bytealg.MakeNoZero"], unfollowed := true, recurses := true, apart := false, narrowed := true }
def AuthOnceUptoSaid : Prop := authOnceUptoRow.holds Tryz.pinned (OpenSpec.upto authOnceSpec)

/-- 'cellaretlaw23.MetaSaves', WHERE WHAT IT READS IS OF BULK AT MOST 1048576: true; the input reads as it did. -/
def metaSavesUptoRow : OpenClaim := { program := "ytkjamonkohpcnaagreat", sum := "bd4b7a39bedade2fc8083577d3b3d36e86ff944aa087cd645136f84d085619c7", func := "cellaret/cellaretlaw23.MetaSaves", spec := "metaSaves", inPlace := ["internal/abi.NoEscape", "internal/bytealg.MakeNoZero"], unfollowed := true, recurses := true, apart := false, narrowed := true }
def MetaSavesUptoSaid : Prop := metaSavesUptoRow.holds Tryz.pinned (OpenSpec.upto metaSavesSpec)

end Rows
end Go.Proofs.YtkjamonkohpcnaaGreat
