/-
  No cell of these rows narrows 'for every input' (looked for: loops, veiled, ifaces, maps, wideKeys, modest, calm, conditions, laid).
  DERIVED. THE GIVEN ROWS OF THIS SEAT. 12 by the template 'for every input the law returns true; each argument reads behind the call as it read before'; 0 by the template 'total and deterministic' (their statements: YtohefdmfnllehaaGreatTotals.lean).
  GIVEN WITH THE SEED: the statements are not yours to turn. If you find one false, say at which input.
  Laid BY PROGRAM, IN A SANDBOX (cutbox-rows.mjs): the forced cells as the released guide's own fill.sh prints them over the translation 06203b61e1994abf… (all of the seat's roots in one cut). By AI agents, Wed Nov 11 2026. No macro, syntax, notation, axiom, sorry.
-/
import Derived.Test.YtohefdmfnllehaaGreatChecked
import GoSem.Claim
import GoSem.ClaimJoined
import GoSem.ClaimMapViews
import Derived.JoinedTies
import Derived.KernelRfl
namespace Go.Proofs.YtohefdmfnllehaaGreat
/- THE CELL 'sum', in the pinned program and in every row, IS THE sha256 OF THE DUMP (.gsa) THAT YtohefdmfnllehaaGreatProg.lean LOADS. Nothing in Lean hashes anything: it is a label: what it is worth is what the hold of that sum in a sandbox is worth. -/
noncomputable def Tryz.pinned : Pinned := { name := "ytohefdmfnllehaagreat", sum := "06203b61e1994abffd6bac30952ce9384d969692311785171f45834581c5413d", checked := Tryz.checked }
namespace Rows
def none {H : Type} : Left H := { results := [], args := [] }

/-- 'cellaretlaw21.AuthErrors': WHATEVER THE INPUT: true; the input reads as it did. -/
def authErrorsSpec : ChangeSpec := { name := "authErrors", fn := fun _ => fun
  | [d1, d2] => { results := [.lit (.bool true)], args := [d1, d2] }
  | _ => none }
def authErrorsRow : OpenClaim := { program := "ytohefdmfnllehaagreat", sum := "06203b61e1994abffd6bac30952ce9384d969692311785171f45834581c5413d", func := "cellaret/cellaretlaw21.AuthErrors", spec := "authErrors", inPlace := ["internal/abi.NoEscape", "internal/bytealg.MakeNoZero"], unfollowed := true, recurses := true, plainKeys := false, apart := false }
def AuthErrorsSaid : Prop := authErrorsRow.holds Tryz.pinned (OpenSpec.ofChange authErrorsSpec)

/-- ITS FALSE NEIGHBOUR: 'it returns false'. Refute it at one input. -/
def authErrorsWrong : ChangeSpec := { name := "authErrors", fn := fun _ => fun
  | [d1, d2] => { results := [.lit (.bool false)], args := [d1, d2] }
  | _ => none }
def AuthErrorsWrongFalsely : Prop := authErrorsRow.holds Tryz.pinned (OpenSpec.ofChange authErrorsWrong)

/-- 'cellaretlaw21.AuthNone': WHATEVER THE INPUT: true; the input reads as it did. -/
def authNoneSpec : ChangeSpec := { name := "authNone", fn := fun _ => fun
  | [d1, d2] => { results := [.lit (.bool true)], args := [d1, d2] }
  | _ => none }
def authNoneRow : OpenClaim := { program := "ytohefdmfnllehaagreat", sum := "06203b61e1994abffd6bac30952ce9384d969692311785171f45834581c5413d", func := "cellaret/cellaretlaw21.AuthNone", spec := "authNone", inPlace := ["internal/abi.NoEscape", "internal/bytealg.MakeNoZero"], unfollowed := true, recurses := true, plainKeys := false, apart := false }
def AuthNoneSaid : Prop := authNoneRow.holds Tryz.pinned (OpenSpec.ofChange authNoneSpec)

/-- ITS FALSE NEIGHBOUR: 'it returns false'. Refute it at one input. -/
def authNoneWrong : ChangeSpec := { name := "authNone", fn := fun _ => fun
  | [d1, d2] => { results := [.lit (.bool false)], args := [d1, d2] }
  | _ => none }
def AuthNoneWrongFalsely : Prop := authNoneRow.holds Tryz.pinned (OpenSpec.ofChange authNoneWrong)

/-- 'cellaretlaw19.StoreDoes': WHATEVER THE INPUT: true; the input reads as it did. -/
def storeDoesSpec : ChangeSpec := { name := "storeDoes", fn := fun _ => fun
  | [d] => { results := [.lit (.bool true)], args := [d] }
  | _ => none }
def storeDoesRow : OpenClaim := { program := "ytohefdmfnllehaagreat", sum := "06203b61e1994abffd6bac30952ce9384d969692311785171f45834581c5413d", func := "cellaret/cellaretlaw19.StoreDoes", spec := "storeDoes", inPlace := ["internal/abi.NoEscape", "internal/bytealg.MakeNoZero"], unfollowed := true, recurses := true, plainKeys := false, apart := false }
def StoreDoesSaid : Prop := storeDoesRow.holds Tryz.pinned (OpenSpec.ofChange storeDoesSpec)

/-- ITS FALSE NEIGHBOUR: 'it returns false'. Refute it at one input. -/
def storeDoesWrong : ChangeSpec := { name := "storeDoes", fn := fun _ => fun
  | [d] => { results := [.lit (.bool false)], args := [d] }
  | _ => none }
def StoreDoesWrongFalsely : Prop := storeDoesRow.holds Tryz.pinned (OpenSpec.ofChange storeDoesWrong)

/-- 'cellaretlaw21.AuthFails': WHATEVER THE INPUT: true; the input reads as it did. -/
def authFailsSpec : ChangeSpec := { name := "authFails", fn := fun _ => fun
  | [d1, d2] => { results := [.lit (.bool true)], args := [d1, d2] }
  | _ => none }
def authFailsRow : OpenClaim := { program := "ytohefdmfnllehaagreat", sum := "06203b61e1994abffd6bac30952ce9384d969692311785171f45834581c5413d", func := "cellaret/cellaretlaw21.AuthFails", spec := "authFails", inPlace := ["internal/abi.NoEscape", "internal/bytealg.MakeNoZero"], unfollowed := true, recurses := true, plainKeys := false, apart := false }
def AuthFailsSaid : Prop := authFailsRow.holds Tryz.pinned (OpenSpec.ofChange authFailsSpec)

/-- ITS FALSE NEIGHBOUR: 'it returns false'. Refute it at one input. -/
def authFailsWrong : ChangeSpec := { name := "authFails", fn := fun _ => fun
  | [d1, d2] => { results := [.lit (.bool false)], args := [d1, d2] }
  | _ => none }
def AuthFailsWrongFalsely : Prop := authFailsRow.holds Tryz.pinned (OpenSpec.ofChange authFailsWrong)

/-- 'cellaretlaw19.StoreFaults': WHATEVER THE INPUT: true; the input reads as it did. -/
def storeFaultsSpec : ChangeSpec := { name := "storeFaults", fn := fun _ => fun
  | [d1, d2, d3] => { results := [.lit (.bool true)], args := [d1, d2, d3] }
  | _ => none }
def storeFaultsRow : OpenClaim := { program := "ytohefdmfnllehaagreat", sum := "06203b61e1994abffd6bac30952ce9384d969692311785171f45834581c5413d", func := "cellaret/cellaretlaw19.StoreFaults", spec := "storeFaults", inPlace := ["internal/abi.NoEscape", "internal/bytealg.MakeNoZero"], unfollowed := true, recurses := true, plainKeys := false, apart := false }
def StoreFaultsSaid : Prop := storeFaultsRow.holds Tryz.pinned (OpenSpec.ofChange storeFaultsSpec)

/-- ITS FALSE NEIGHBOUR: 'it returns false'. Refute it at one input. -/
def storeFaultsWrong : ChangeSpec := { name := "storeFaults", fn := fun _ => fun
  | [d1, d2, d3] => { results := [.lit (.bool false)], args := [d1, d2, d3] }
  | _ => none }
def StoreFaultsWrongFalsely : Prop := storeFaultsRow.holds Tryz.pinned (OpenSpec.ofChange storeFaultsWrong)

/-- 'cellaretlaw19.StoreCrashes': WHATEVER THE INPUT: true; the input reads as it did. -/
def storeCrashesSpec : ChangeSpec := { name := "storeCrashes", fn := fun _ => fun
  | [d] => { results := [.lit (.bool true)], args := [d] }
  | _ => none }
def storeCrashesRow : OpenClaim := { program := "ytohefdmfnllehaagreat", sum := "06203b61e1994abffd6bac30952ce9384d969692311785171f45834581c5413d", func := "cellaret/cellaretlaw19.StoreCrashes", spec := "storeCrashes", inPlace := ["internal/abi.NoEscape", "internal/bytealg.MakeNoZero"], unfollowed := true, recurses := true, plainKeys := false, apart := false }
def StoreCrashesSaid : Prop := storeCrashesRow.holds Tryz.pinned (OpenSpec.ofChange storeCrashesSpec)

/-- ITS FALSE NEIGHBOUR: 'it returns false'. Refute it at one input. -/
def storeCrashesWrong : ChangeSpec := { name := "storeCrashes", fn := fun _ => fun
  | [d] => { results := [.lit (.bool false)], args := [d] }
  | _ => none }
def StoreCrashesWrongFalsely : Prop := storeCrashesRow.holds Tryz.pinned (OpenSpec.ofChange storeCrashesWrong)

/-- 'cellaretlaw19.StoreRebuilds': WHATEVER THE INPUT: true; the input reads as it did. -/
def storeRebuildsSpec : ChangeSpec := { name := "storeRebuilds", fn := fun _ => fun
  | [d1, d2, d3] => { results := [.lit (.bool true)], args := [d1, d2, d3] }
  | _ => none }
def storeRebuildsRow : OpenClaim := { program := "ytohefdmfnllehaagreat", sum := "06203b61e1994abffd6bac30952ce9384d969692311785171f45834581c5413d", func := "cellaret/cellaretlaw19.StoreRebuilds", spec := "storeRebuilds", inPlace := ["internal/abi.NoEscape", "internal/bytealg.MakeNoZero"], unfollowed := true, recurses := true, plainKeys := false, apart := false }
def StoreRebuildsSaid : Prop := storeRebuildsRow.holds Tryz.pinned (OpenSpec.ofChange storeRebuildsSpec)

/-- ITS FALSE NEIGHBOUR: 'it returns false'. Refute it at one input. -/
def storeRebuildsWrong : ChangeSpec := { name := "storeRebuilds", fn := fun _ => fun
  | [d1, d2, d3] => { results := [.lit (.bool false)], args := [d1, d2, d3] }
  | _ => none }
def StoreRebuildsWrongFalsely : Prop := storeRebuildsRow.holds Tryz.pinned (OpenSpec.ofChange storeRebuildsWrong)

/-- 'cellaretlaw19.StoreTampers': WHATEVER THE INPUT: true; the input reads as it did. -/
def storeTampersSpec : ChangeSpec := { name := "storeTampers", fn := fun _ => fun
  | [d] => { results := [.lit (.bool true)], args := [d] }
  | _ => none }
def storeTampersRow : OpenClaim := { program := "ytohefdmfnllehaagreat", sum := "06203b61e1994abffd6bac30952ce9384d969692311785171f45834581c5413d", func := "cellaret/cellaretlaw19.StoreTampers", spec := "storeTampers", inPlace := ["internal/abi.NoEscape", "internal/bytealg.MakeNoZero"], unfollowed := true, recurses := true, plainKeys := false, apart := false }
def StoreTampersSaid : Prop := storeTampersRow.holds Tryz.pinned (OpenSpec.ofChange storeTampersSpec)

/-- ITS FALSE NEIGHBOUR: 'it returns false'. Refute it at one input. -/
def storeTampersWrong : ChangeSpec := { name := "storeTampers", fn := fun _ => fun
  | [d] => { results := [.lit (.bool false)], args := [d] }
  | _ => none }
def StoreTampersWrongFalsely : Prop := storeTampersRow.holds Tryz.pinned (OpenSpec.ofChange storeTampersWrong)

/-- 'cellaretlaw23.MetaTampers': WHATEVER THE INPUT: true; the input reads as it did. -/
def metaTampersSpec : ChangeSpec := { name := "metaTampers", fn := fun _ => fun
  | [d1, d2, d3] => { results := [.lit (.bool true)], args := [d1, d2, d3] }
  | _ => none }
def metaTampersRow : OpenClaim := { program := "ytohefdmfnllehaagreat", sum := "06203b61e1994abffd6bac30952ce9384d969692311785171f45834581c5413d", func := "cellaret/cellaretlaw23.MetaTampers", spec := "metaTampers", inPlace := ["internal/abi.NoEscape", "internal/bytealg.MakeNoZero"], unfollowed := true, recurses := true, plainKeys := false, apart := false }
def MetaTampersSaid : Prop := metaTampersRow.holds Tryz.pinned (OpenSpec.ofChange metaTampersSpec)

/-- ITS FALSE NEIGHBOUR: 'it returns false'. Refute it at one input. -/
def metaTampersWrong : ChangeSpec := { name := "metaTampers", fn := fun _ => fun
  | [d1, d2, d3] => { results := [.lit (.bool false)], args := [d1, d2, d3] }
  | _ => none }
def MetaTampersWrongFalsely : Prop := metaTampersRow.holds Tryz.pinned (OpenSpec.ofChange metaTampersWrong)

/-- 'cellaretlaw21.AuthDoes': WHATEVER THE INPUT: true; the input reads as it did. -/
def authDoesSpec : ChangeSpec := { name := "authDoes", fn := fun _ => fun
  | [d] => { results := [.lit (.bool true)], args := [d] }
  | _ => none }
def authDoesRow : OpenClaim := { program := "ytohefdmfnllehaagreat", sum := "06203b61e1994abffd6bac30952ce9384d969692311785171f45834581c5413d", func := "cellaret/cellaretlaw21.AuthDoes", spec := "authDoes", inPlace := ["internal/abi.NoEscape", "internal/bytealg.MakeNoZero"], unfollowed := true, recurses := true, plainKeys := false, apart := false }
def AuthDoesSaid : Prop := authDoesRow.holds Tryz.pinned (OpenSpec.ofChange authDoesSpec)

/-- ITS FALSE NEIGHBOUR: 'it returns false'. Refute it at one input. -/
def authDoesWrong : ChangeSpec := { name := "authDoes", fn := fun _ => fun
  | [d] => { results := [.lit (.bool false)], args := [d] }
  | _ => none }
def AuthDoesWrongFalsely : Prop := authDoesRow.holds Tryz.pinned (OpenSpec.ofChange authDoesWrong)

/-- 'cellaretlaw21.AuthOnce': WHATEVER THE INPUT: true; the input reads as it did. -/
def authOnceSpec : ChangeSpec := { name := "authOnce", fn := fun _ => fun
  | [d1, d2] => { results := [.lit (.bool true)], args := [d1, d2] }
  | _ => none }
def authOnceRow : OpenClaim := { program := "ytohefdmfnllehaagreat", sum := "06203b61e1994abffd6bac30952ce9384d969692311785171f45834581c5413d", func := "cellaret/cellaretlaw21.AuthOnce", spec := "authOnce", inPlace := ["internal/abi.NoEscape", "internal/bytealg.MakeNoZero"], unfollowed := true, recurses := true, plainKeys := false, apart := false }
def AuthOnceSaid : Prop := authOnceRow.holds Tryz.pinned (OpenSpec.ofChange authOnceSpec)

/-- ITS FALSE NEIGHBOUR: 'it returns false'. Refute it at one input. -/
def authOnceWrong : ChangeSpec := { name := "authOnce", fn := fun _ => fun
  | [d1, d2] => { results := [.lit (.bool false)], args := [d1, d2] }
  | _ => none }
def AuthOnceWrongFalsely : Prop := authOnceRow.holds Tryz.pinned (OpenSpec.ofChange authOnceWrong)

/-- 'cellaretlaw23.MetaSaves': WHATEVER THE INPUT: true; the input reads as it did. -/
def metaSavesSpec : ChangeSpec := { name := "metaSaves", fn := fun _ => fun
  | [d] => { results := [.lit (.bool true)], args := [d] }
  | _ => none }
def metaSavesRow : OpenClaim := { program := "ytohefdmfnllehaagreat", sum := "06203b61e1994abffd6bac30952ce9384d969692311785171f45834581c5413d", func := "cellaret/cellaretlaw23.MetaSaves", spec := "metaSaves", inPlace := ["internal/abi.NoEscape", "internal/bytealg.MakeNoZero"], unfollowed := true, recurses := true, plainKeys := false, apart := false }
def MetaSavesSaid : Prop := metaSavesRow.holds Tryz.pinned (OpenSpec.ofChange metaSavesSpec)

/-- ITS FALSE NEIGHBOUR: 'it returns false'. Refute it at one input. -/
def metaSavesWrong : ChangeSpec := { name := "metaSaves", fn := fun _ => fun
  | [d] => { results := [.lit (.bool false)], args := [d] }
  | _ => none }
def MetaSavesWrongFalsely : Prop := metaSavesRow.holds Tryz.pinned (OpenSpec.ofChange metaSavesWrong)

/- THE SECOND FORM. 'bulk': how many values and letters a reading holds, each counted each time it is reached (what is shared counts as often as it is met; a slice's spare places count too). A statement '..UptoSaid' is the law's where the arguments, and the package variables that the reading takes, are together of bulk at most 1048576: NARROWER than '..Said'. Prove '..Said' where nothing that the law and all that it calls make is longer than what came in: it says more and counts as full. Else prove '..UptoSaid'. A law counts once. -/
mutual
def uptoBulk {H : Type} : DataW H → Nat
  | .lit (.string bytes) => bytes.length + 1
  | .lit _ => 1
  | .nil => 1
  | .ptr d => uptoBulk d + 1
  | .slice elems spare => uptoBulkAll elems + uptoBulkAll spare + 1
  | .agg parts => uptoBulkAll parts + 1
  | .iface _ d => uptoBulk d + 1
  | .map entries => uptoBulkEntries entries + 1
  | .held _ => 1
def uptoBulkAll {H : Type} : List (DataW H) → Nat
  | [] => 0
  | d :: r => uptoBulk d + uptoBulkAll r
def uptoBulkEntries {H : Type} : List (Lit × DataW H) → Nat
  | [] => 0
  | x :: r => uptoBulkEntry x + uptoBulkEntries r
def uptoBulkEntry {H : Type} : Lit × DataW H → Nat
  | (.string bytes, d) => bytes.length + uptoBulk d + 1
  | (_, d) => uptoBulk d + 1
 end
def uptoSmall : (H : Type) → List (DataW H) → Bool := fun _ ds => decide (uptoBulkAll ds ≤ 1048576)
def OpenSpec.upto (s : _root_.Go.ChangeSpec) : _root_.Go.OpenSpec := { _root_.Go.OpenSpec.ofChange s with cond := some uptoSmall }

/-- 'cellaretlaw21.AuthErrors', WHERE WHAT IT READS IS OF BULK AT MOST 1048576: true; the input reads as it did. -/
def authErrorsUptoRow : OpenClaim := { program := "ytohefdmfnllehaagreat", sum := "06203b61e1994abffd6bac30952ce9384d969692311785171f45834581c5413d", func := "cellaret/cellaretlaw21.AuthErrors", spec := "authErrors", inPlace := ["internal/abi.NoEscape", "internal/bytealg.MakeNoZero"], unfollowed := true, recurses := true, plainKeys := false, apart := false, narrowed := true }
def AuthErrorsUptoSaid : Prop := authErrorsUptoRow.holds Tryz.pinned (OpenSpec.upto authErrorsSpec)

/-- 'cellaretlaw21.AuthNone', WHERE WHAT IT READS IS OF BULK AT MOST 1048576: true; the input reads as it did. -/
def authNoneUptoRow : OpenClaim := { program := "ytohefdmfnllehaagreat", sum := "06203b61e1994abffd6bac30952ce9384d969692311785171f45834581c5413d", func := "cellaret/cellaretlaw21.AuthNone", spec := "authNone", inPlace := ["internal/abi.NoEscape", "internal/bytealg.MakeNoZero"], unfollowed := true, recurses := true, plainKeys := false, apart := false, narrowed := true }
def AuthNoneUptoSaid : Prop := authNoneUptoRow.holds Tryz.pinned (OpenSpec.upto authNoneSpec)

/-- 'cellaretlaw19.StoreDoes', WHERE WHAT IT READS IS OF BULK AT MOST 1048576: true; the input reads as it did. -/
def storeDoesUptoRow : OpenClaim := { program := "ytohefdmfnllehaagreat", sum := "06203b61e1994abffd6bac30952ce9384d969692311785171f45834581c5413d", func := "cellaret/cellaretlaw19.StoreDoes", spec := "storeDoes", inPlace := ["internal/abi.NoEscape", "internal/bytealg.MakeNoZero"], unfollowed := true, recurses := true, plainKeys := false, apart := false, narrowed := true }
def StoreDoesUptoSaid : Prop := storeDoesUptoRow.holds Tryz.pinned (OpenSpec.upto storeDoesSpec)

/-- 'cellaretlaw21.AuthFails', WHERE WHAT IT READS IS OF BULK AT MOST 1048576: true; the input reads as it did. -/
def authFailsUptoRow : OpenClaim := { program := "ytohefdmfnllehaagreat", sum := "06203b61e1994abffd6bac30952ce9384d969692311785171f45834581c5413d", func := "cellaret/cellaretlaw21.AuthFails", spec := "authFails", inPlace := ["internal/abi.NoEscape", "internal/bytealg.MakeNoZero"], unfollowed := true, recurses := true, plainKeys := false, apart := false, narrowed := true }
def AuthFailsUptoSaid : Prop := authFailsUptoRow.holds Tryz.pinned (OpenSpec.upto authFailsSpec)

/-- 'cellaretlaw19.StoreFaults', WHERE WHAT IT READS IS OF BULK AT MOST 1048576: true; the input reads as it did. -/
def storeFaultsUptoRow : OpenClaim := { program := "ytohefdmfnllehaagreat", sum := "06203b61e1994abffd6bac30952ce9384d969692311785171f45834581c5413d", func := "cellaret/cellaretlaw19.StoreFaults", spec := "storeFaults", inPlace := ["internal/abi.NoEscape", "internal/bytealg.MakeNoZero"], unfollowed := true, recurses := true, plainKeys := false, apart := false, narrowed := true }
def StoreFaultsUptoSaid : Prop := storeFaultsUptoRow.holds Tryz.pinned (OpenSpec.upto storeFaultsSpec)

/-- 'cellaretlaw19.StoreCrashes', WHERE WHAT IT READS IS OF BULK AT MOST 1048576: true; the input reads as it did. -/
def storeCrashesUptoRow : OpenClaim := { program := "ytohefdmfnllehaagreat", sum := "06203b61e1994abffd6bac30952ce9384d969692311785171f45834581c5413d", func := "cellaret/cellaretlaw19.StoreCrashes", spec := "storeCrashes", inPlace := ["internal/abi.NoEscape", "internal/bytealg.MakeNoZero"], unfollowed := true, recurses := true, plainKeys := false, apart := false, narrowed := true }
def StoreCrashesUptoSaid : Prop := storeCrashesUptoRow.holds Tryz.pinned (OpenSpec.upto storeCrashesSpec)

/-- 'cellaretlaw19.StoreRebuilds', WHERE WHAT IT READS IS OF BULK AT MOST 1048576: true; the input reads as it did. -/
def storeRebuildsUptoRow : OpenClaim := { program := "ytohefdmfnllehaagreat", sum := "06203b61e1994abffd6bac30952ce9384d969692311785171f45834581c5413d", func := "cellaret/cellaretlaw19.StoreRebuilds", spec := "storeRebuilds", inPlace := ["internal/abi.NoEscape", "internal/bytealg.MakeNoZero"], unfollowed := true, recurses := true, plainKeys := false, apart := false, narrowed := true }
def StoreRebuildsUptoSaid : Prop := storeRebuildsUptoRow.holds Tryz.pinned (OpenSpec.upto storeRebuildsSpec)

/-- 'cellaretlaw19.StoreTampers', WHERE WHAT IT READS IS OF BULK AT MOST 1048576: true; the input reads as it did. -/
def storeTampersUptoRow : OpenClaim := { program := "ytohefdmfnllehaagreat", sum := "06203b61e1994abffd6bac30952ce9384d969692311785171f45834581c5413d", func := "cellaret/cellaretlaw19.StoreTampers", spec := "storeTampers", inPlace := ["internal/abi.NoEscape", "internal/bytealg.MakeNoZero"], unfollowed := true, recurses := true, plainKeys := false, apart := false, narrowed := true }
def StoreTampersUptoSaid : Prop := storeTampersUptoRow.holds Tryz.pinned (OpenSpec.upto storeTampersSpec)

/-- 'cellaretlaw23.MetaTampers', WHERE WHAT IT READS IS OF BULK AT MOST 1048576: true; the input reads as it did. -/
def metaTampersUptoRow : OpenClaim := { program := "ytohefdmfnllehaagreat", sum := "06203b61e1994abffd6bac30952ce9384d969692311785171f45834581c5413d", func := "cellaret/cellaretlaw23.MetaTampers", spec := "metaTampers", inPlace := ["internal/abi.NoEscape", "internal/bytealg.MakeNoZero"], unfollowed := true, recurses := true, plainKeys := false, apart := false, narrowed := true }
def MetaTampersUptoSaid : Prop := metaTampersUptoRow.holds Tryz.pinned (OpenSpec.upto metaTampersSpec)

/-- 'cellaretlaw21.AuthDoes', WHERE WHAT IT READS IS OF BULK AT MOST 1048576: true; the input reads as it did. -/
def authDoesUptoRow : OpenClaim := { program := "ytohefdmfnllehaagreat", sum := "06203b61e1994abffd6bac30952ce9384d969692311785171f45834581c5413d", func := "cellaret/cellaretlaw21.AuthDoes", spec := "authDoes", inPlace := ["internal/abi.NoEscape", "internal/bytealg.MakeNoZero"], unfollowed := true, recurses := true, plainKeys := false, apart := false, narrowed := true }
def AuthDoesUptoSaid : Prop := authDoesUptoRow.holds Tryz.pinned (OpenSpec.upto authDoesSpec)

/-- 'cellaretlaw21.AuthOnce', WHERE WHAT IT READS IS OF BULK AT MOST 1048576: true; the input reads as it did. -/
def authOnceUptoRow : OpenClaim := { program := "ytohefdmfnllehaagreat", sum := "06203b61e1994abffd6bac30952ce9384d969692311785171f45834581c5413d", func := "cellaret/cellaretlaw21.AuthOnce", spec := "authOnce", inPlace := ["internal/abi.NoEscape", "internal/bytealg.MakeNoZero"], unfollowed := true, recurses := true, plainKeys := false, apart := false, narrowed := true }
def AuthOnceUptoSaid : Prop := authOnceUptoRow.holds Tryz.pinned (OpenSpec.upto authOnceSpec)

/-- 'cellaretlaw23.MetaSaves', WHERE WHAT IT READS IS OF BULK AT MOST 1048576: true; the input reads as it did. -/
def metaSavesUptoRow : OpenClaim := { program := "ytohefdmfnllehaagreat", sum := "06203b61e1994abffd6bac30952ce9384d969692311785171f45834581c5413d", func := "cellaret/cellaretlaw23.MetaSaves", spec := "metaSaves", inPlace := ["internal/abi.NoEscape", "internal/bytealg.MakeNoZero"], unfollowed := true, recurses := true, plainKeys := false, apart := false, narrowed := true }
def MetaSavesUptoSaid : Prop := metaSavesUptoRow.holds Tryz.pinned (OpenSpec.upto metaSavesSpec)

end Rows
end Go.Proofs.YtohefdmfnllehaaGreat
