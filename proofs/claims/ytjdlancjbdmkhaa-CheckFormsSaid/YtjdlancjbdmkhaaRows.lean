/-
  No cell of these rows narrows 'for every input' (looked for: loops, veiled, ifaces, maps, wideKeys, modest, calm, conditions, laid).
  DERIVED. THE GIVEN ROWS OF THIS SEAT. 4 by the template 'for every input the law returns true; each argument reads behind the call as it read before'; 0 by the template 'total and deterministic' (their statements: YtjdlancjbdmkhaaTotals.lean).
  GIVEN WITH THE SEED: the statements are not yours to turn. If you find one false, say at which input.
  Laid BY PROGRAM, IN A SANDBOX (cutbox-rows.mjs): the forced cells as the released guide's own fill.sh prints them over the translation e37f086b08860ed3… (all of the seat's roots in one cut). By AI agents, Wed Nov 11 2026. No macro, syntax, notation, axiom, sorry.
-/
import Derived.Test.YtjdlancjbdmkhaaChecked
import GoSem.Claim
import GoSem.ClaimJoined
import GoSem.ClaimMapViews
import Derived.JoinedTies
import Derived.KernelRfl
namespace Go.Proofs.Ytjdlancjbdmkhaa
/- THE CELL 'sum', in the pinned program and in every row, IS THE sha256 OF THE DUMP (.gsa) THAT YtjdlancjbdmkhaaProg.lean LOADS. Nothing in Lean hashes anything: it is a label: what it is worth is what the hold of that sum in a sandbox is worth. -/
noncomputable def Try.pinned : Pinned := { name := "ytjdlancjbdmkhaa", sum := "e37f086b08860ed3bce40add92e81f2a4cbdde3f9d81e4c16855f094a1f43468", checked := Try.checked }
namespace Rows
def none {H : Type} : Left H := { results := [], args := [] }

/-- 'bournelaw22.CheckBack': WHATEVER THE INPUT: true; the input reads as it did. -/
def checkBackSpec : ChangeSpec := { name := "checkBack", fn := fun _ => fun
  | [d1, d2] => { results := [.lit (.bool true)], args := [d1, d2] }
  | _ => none }
def checkBackRow : OpenClaim := { program := "ytjdlancjbdmkhaa", sum := "e37f086b08860ed3bce40add92e81f2a4cbdde3f9d81e4c16855f094a1f43468", func := "bourne/bournelaw22.CheckBack", spec := "checkBack", unfollowed := true, recurses := true, apart := false }
def CheckBackSaid : Prop := checkBackRow.holds Try.pinned (OpenSpec.ofChange checkBackSpec)

/-- ITS FALSE NEIGHBOUR: 'it returns false'. Refute it at one input. -/
def checkBackWrong : ChangeSpec := { name := "checkBack", fn := fun _ => fun
  | [d1, d2] => { results := [.lit (.bool false)], args := [d1, d2] }
  | _ => none }
def CheckBackWrongFalsely : Prop := checkBackRow.holds Try.pinned (OpenSpec.ofChange checkBackWrong)

/-- 'bournelaw22.CheckTurns': WHATEVER THE INPUT: true; the input reads as it did. -/
def checkTurnsSpec : ChangeSpec := { name := "checkTurns", fn := fun _ => fun
  | [d1, d2] => { results := [.lit (.bool true)], args := [d1, d2] }
  | _ => none }
def checkTurnsRow : OpenClaim := { program := "ytjdlancjbdmkhaa", sum := "e37f086b08860ed3bce40add92e81f2a4cbdde3f9d81e4c16855f094a1f43468", func := "bourne/bournelaw22.CheckTurns", spec := "checkTurns", unfollowed := true, recurses := true, apart := false }
def CheckTurnsSaid : Prop := checkTurnsRow.holds Try.pinned (OpenSpec.ofChange checkTurnsSpec)

/-- ITS FALSE NEIGHBOUR: 'it returns false'. Refute it at one input. -/
def checkTurnsWrong : ChangeSpec := { name := "checkTurns", fn := fun _ => fun
  | [d1, d2] => { results := [.lit (.bool false)], args := [d1, d2] }
  | _ => none }
def CheckTurnsWrongFalsely : Prop := checkTurnsRow.holds Try.pinned (OpenSpec.ofChange checkTurnsWrong)

/-- 'bournelaw22.CheckForms': WHATEVER THE INPUT: true; the input reads as it did. -/
def checkFormsSpec : ChangeSpec := { name := "checkForms", fn := fun _ => fun
  | [d1, d2] => { results := [.lit (.bool true)], args := [d1, d2] }
  | _ => none }
def checkFormsRow : OpenClaim := { program := "ytjdlancjbdmkhaa", sum := "e37f086b08860ed3bce40add92e81f2a4cbdde3f9d81e4c16855f094a1f43468", func := "bourne/bournelaw22.CheckForms", spec := "checkForms", unfollowed := true, recurses := true, apart := false }
def CheckFormsSaid : Prop := checkFormsRow.holds Try.pinned (OpenSpec.ofChange checkFormsSpec)

/-- ITS FALSE NEIGHBOUR: 'it returns false'. Refute it at one input. -/
def checkFormsWrong : ChangeSpec := { name := "checkForms", fn := fun _ => fun
  | [d1, d2] => { results := [.lit (.bool false)], args := [d1, d2] }
  | _ => none }
def CheckFormsWrongFalsely : Prop := checkFormsRow.holds Try.pinned (OpenSpec.ofChange checkFormsWrong)

/-- 'bournelaw22.CheckUnlike': WHATEVER THE INPUT: true; the input reads as it did. -/
def checkUnlikeSpec : ChangeSpec := { name := "checkUnlike", fn := fun _ => fun
  | [d1, d2] => { results := [.lit (.bool true)], args := [d1, d2] }
  | _ => none }
def checkUnlikeRow : OpenClaim := { program := "ytjdlancjbdmkhaa", sum := "e37f086b08860ed3bce40add92e81f2a4cbdde3f9d81e4c16855f094a1f43468", func := "bourne/bournelaw22.CheckUnlike", spec := "checkUnlike", unfollowed := true, recurses := true, apart := false }
def CheckUnlikeSaid : Prop := checkUnlikeRow.holds Try.pinned (OpenSpec.ofChange checkUnlikeSpec)

/-- ITS FALSE NEIGHBOUR: 'it returns false'. Refute it at one input. -/
def checkUnlikeWrong : ChangeSpec := { name := "checkUnlike", fn := fun _ => fun
  | [d1, d2] => { results := [.lit (.bool false)], args := [d1, d2] }
  | _ => none }
def CheckUnlikeWrongFalsely : Prop := checkUnlikeRow.holds Try.pinned (OpenSpec.ofChange checkUnlikeWrong)

/- THE SECOND FORM. 'bulk': how many values and letters a reading holds, each counted each time it is reached (what is shared counts as often as it is met; a slice's spare places count too). A statement '..UptoSaid' is the law's where the arguments, and the package variables that the reading takes, are together of bulk at most 1048576: NARROWER than '..Said'. Prove '..Said' where nothing that the law and all that it calls make is longer than what came in: it says more and counts as full. Else prove '..UptoSaid'. A law counts once. -/
mutual
def uptoBulk {H : Type} : DataW H → Nat
  | .lit (.string bytes) => bytes.length + 1
  | .lit _ => 1
  | .nil => 1
  | .ptr d => uptoBulk d + 1
  | .slice elems spare => uptoBulkAll elems + uptoBulkAll spare + 1
  | .agg parts => uptoBulkAll parts + 1
  | .iface _ d => uptoBulk d + 1
  | .map entries => uptoBulkEntries entries + 1
  | .held _ => 1
def uptoBulkAll {H : Type} : List (DataW H) → Nat
  | [] => 0
  | d :: r => uptoBulk d + uptoBulkAll r
def uptoBulkEntries {H : Type} : List (Lit × DataW H) → Nat
  | [] => 0
  | x :: r => uptoBulkEntry x + uptoBulkEntries r
def uptoBulkEntry {H : Type} : Lit × DataW H → Nat
  | (.string bytes, d) => bytes.length + uptoBulk d + 1
  | (_, d) => uptoBulk d + 1
 end
def uptoSmall : (H : Type) → List (DataW H) → Bool := fun _ ds => decide (uptoBulkAll ds ≤ 1048576)
def OpenSpec.upto (s : _root_.Go.ChangeSpec) : _root_.Go.OpenSpec := { _root_.Go.OpenSpec.ofChange s with cond := some uptoSmall }

/-- 'bournelaw22.CheckBack', WHERE WHAT IT READS IS OF BULK AT MOST 1048576: true; the input reads as it did. -/
def checkBackUptoRow : OpenClaim := { program := "ytjdlancjbdmkhaa", sum := "e37f086b08860ed3bce40add92e81f2a4cbdde3f9d81e4c16855f094a1f43468", func := "bourne/bournelaw22.CheckBack", spec := "checkBack", unfollowed := true, recurses := true, apart := false, narrowed := true }
def CheckBackUptoSaid : Prop := checkBackUptoRow.holds Try.pinned (OpenSpec.upto checkBackSpec)

/-- 'bournelaw22.CheckTurns', WHERE WHAT IT READS IS OF BULK AT MOST 1048576: true; the input reads as it did. -/
def checkTurnsUptoRow : OpenClaim := { program := "ytjdlancjbdmkhaa", sum := "e37f086b08860ed3bce40add92e81f2a4cbdde3f9d81e4c16855f094a1f43468", func := "bourne/bournelaw22.CheckTurns", spec := "checkTurns", unfollowed := true, recurses := true, apart := false, narrowed := true }
def CheckTurnsUptoSaid : Prop := checkTurnsUptoRow.holds Try.pinned (OpenSpec.upto checkTurnsSpec)

/-- 'bournelaw22.CheckForms', WHERE WHAT IT READS IS OF BULK AT MOST 1048576: true; the input reads as it did. -/
def checkFormsUptoRow : OpenClaim := { program := "ytjdlancjbdmkhaa", sum := "e37f086b08860ed3bce40add92e81f2a4cbdde3f9d81e4c16855f094a1f43468", func := "bourne/bournelaw22.CheckForms", spec := "checkForms", unfollowed := true, recurses := true, apart := false, narrowed := true }
def CheckFormsUptoSaid : Prop := checkFormsUptoRow.holds Try.pinned (OpenSpec.upto checkFormsSpec)

/-- 'bournelaw22.CheckUnlike', WHERE WHAT IT READS IS OF BULK AT MOST 1048576: true; the input reads as it did. -/
def checkUnlikeUptoRow : OpenClaim := { program := "ytjdlancjbdmkhaa", sum := "e37f086b08860ed3bce40add92e81f2a4cbdde3f9d81e4c16855f094a1f43468", func := "bourne/bournelaw22.CheckUnlike", spec := "checkUnlike", unfollowed := true, recurses := true, apart := false, narrowed := true }
def CheckUnlikeUptoSaid : Prop := checkUnlikeUptoRow.holds Try.pinned (OpenSpec.upto checkUnlikeSpec)

end Rows
end Go.Proofs.Ytjdlancjbdmkhaa
