/-
  No cell of these rows narrows 'for every input' (looked for: loops, veiled, ifaces, maps, wideKeys, modest, calm, conditions, laid).
  DERIVED. THE GIVEN ROWS OF THIS SEAT. 9 by the template 'for every input the law returns true; each argument reads behind the call as it read before'; 0 by the template 'total and deterministic' (their statements: YtohnakoineakdaaGreatTotals.lean).
  GIVEN WITH THE SEED: the statements are not yours to turn. If you find one false, say at which input.
  Laid BY PROGRAM, IN A SANDBOX (cutbox-rows.mjs): the forced cells as the released guide's own fill.sh prints them over the translation 0c12a3e12e2b36c2… (all of the seat's roots in one cut). By AI agents, Wed Nov 11 2026. No macro, syntax, notation, axiom, sorry.
-/
import Derived.Test.YtohnakoineakdaaGreatChecked
import GoSem.Claim
import GoSem.ClaimJoined
import GoSem.ClaimMapViews
import Derived.JoinedTies
import Derived.KernelRfl
namespace Go.Proofs.YtohnakoineakdaaGreat
/- THE CELL 'sum', in the pinned program and in every row, IS THE sha256 OF THE DUMP (.gsa) THAT YtohnakoineakdaaGreatProg.lean LOADS. Nothing in Lean hashes anything: it is a label: what it is worth is what the hold of that sum in a sandbox is worth. -/
noncomputable def Tryz.pinned : Pinned := { name := "ytohnakoineakdaagreat", sum := "0c12a3e12e2b36c2115c24420d85b19736232312ae840b583d1187c470744940", checked := Tryz.checked }
namespace Rows
def none {H : Type} : Left H := { results := [], args := [] }

/-- 'bournelaw21.Specs': WHATEVER THE INPUT: true; the input reads as it did. -/
def specsSpec : ChangeSpec := { name := "specs", fn := fun _ => fun
  | [d1, d2, d3, d4] => { results := [.lit (.bool true)], args := [d1, d2, d3, d4] }
  | _ => none }
def specsRow : OpenClaim := { program := "ytohnakoineakdaagreat", sum := "0c12a3e12e2b36c2115c24420d85b19736232312ae840b583d1187c470744940", func := "bourne/bournelaw21.Specs", spec := "specs", unfollowed := true, recurses := true, apart := false }
def SpecsSaid : Prop := specsRow.holds Tryz.pinned (OpenSpec.ofChange specsSpec)

/-- ITS FALSE NEIGHBOUR: 'it returns false'. Refute it at one input. -/
def specsWrong : ChangeSpec := { name := "specs", fn := fun _ => fun
  | [d1, d2, d3, d4] => { results := [.lit (.bool false)], args := [d1, d2, d3, d4] }
  | _ => none }
def SpecsWrongFalsely : Prop := specsRow.holds Tryz.pinned (OpenSpec.ofChange specsWrong)

/-- 'bournelaw21.SpecSteps': WHATEVER THE INPUT: true; the input reads as it did. -/
def specStepsSpec : ChangeSpec := { name := "specSteps", fn := fun _ => fun
  | [d1, d2, d3, d4, d5] => { results := [.lit (.bool true)], args := [d1, d2, d3, d4, d5] }
  | _ => none }
def specStepsRow : OpenClaim := { program := "ytohnakoineakdaagreat", sum := "0c12a3e12e2b36c2115c24420d85b19736232312ae840b583d1187c470744940", func := "bourne/bournelaw21.SpecSteps", spec := "specSteps", unfollowed := true, recurses := true, apart := false }
def SpecStepsSaid : Prop := specStepsRow.holds Tryz.pinned (OpenSpec.ofChange specStepsSpec)

/-- ITS FALSE NEIGHBOUR: 'it returns false'. Refute it at one input. -/
def specStepsWrong : ChangeSpec := { name := "specSteps", fn := fun _ => fun
  | [d1, d2, d3, d4, d5] => { results := [.lit (.bool false)], args := [d1, d2, d3, d4, d5] }
  | _ => none }
def SpecStepsWrongFalsely : Prop := specStepsRow.holds Tryz.pinned (OpenSpec.ofChange specStepsWrong)

/-- 'bournelaw21.SpecHeld': WHATEVER THE INPUT: true; the input reads as it did. -/
def specHeldSpec : ChangeSpec := { name := "specHeld", fn := fun _ => fun
  | [d1, d2, d3] => { results := [.lit (.bool true)], args := [d1, d2, d3] }
  | _ => none }
def specHeldRow : OpenClaim := { program := "ytohnakoineakdaagreat", sum := "0c12a3e12e2b36c2115c24420d85b19736232312ae840b583d1187c470744940", func := "bourne/bournelaw21.SpecHeld", spec := "specHeld", unfollowed := true, recurses := true, apart := false }
def SpecHeldSaid : Prop := specHeldRow.holds Tryz.pinned (OpenSpec.ofChange specHeldSpec)

/-- ITS FALSE NEIGHBOUR: 'it returns false'. Refute it at one input. -/
def specHeldWrong : ChangeSpec := { name := "specHeld", fn := fun _ => fun
  | [d1, d2, d3] => { results := [.lit (.bool false)], args := [d1, d2, d3] }
  | _ => none }
def SpecHeldWrongFalsely : Prop := specHeldRow.holds Tryz.pinned (OpenSpec.ofChange specHeldWrong)

/-- 'bournelaw21.SpecRows': WHATEVER THE INPUT: true; the input reads as it did. -/
def specRowsSpec : ChangeSpec := { name := "specRows", fn := fun _ => fun
  | [d1, d2, d3, d4] => { results := [.lit (.bool true)], args := [d1, d2, d3, d4] }
  | _ => none }
def specRowsRow : OpenClaim := { program := "ytohnakoineakdaagreat", sum := "0c12a3e12e2b36c2115c24420d85b19736232312ae840b583d1187c470744940", func := "bourne/bournelaw21.SpecRows", spec := "specRows", unfollowed := true, recurses := true, apart := false }
def SpecRowsSaid : Prop := specRowsRow.holds Tryz.pinned (OpenSpec.ofChange specRowsSpec)

/-- ITS FALSE NEIGHBOUR: 'it returns false'. Refute it at one input. -/
def specRowsWrong : ChangeSpec := { name := "specRows", fn := fun _ => fun
  | [d1, d2, d3, d4] => { results := [.lit (.bool false)], args := [d1, d2, d3, d4] }
  | _ => none }
def SpecRowsWrongFalsely : Prop := specRowsRow.holds Tryz.pinned (OpenSpec.ofChange specRowsWrong)

/-- 'bournelaw21.SpecSlides': WHATEVER THE INPUT: true; the input reads as it did. -/
def specSlidesSpec : ChangeSpec := { name := "specSlides", fn := fun _ => fun
  | [d1, d2, d3, d4] => { results := [.lit (.bool true)], args := [d1, d2, d3, d4] }
  | _ => none }
def specSlidesRow : OpenClaim := { program := "ytohnakoineakdaagreat", sum := "0c12a3e12e2b36c2115c24420d85b19736232312ae840b583d1187c470744940", func := "bourne/bournelaw21.SpecSlides", spec := "specSlides", unfollowed := true, recurses := true, apart := false }
def SpecSlidesSaid : Prop := specSlidesRow.holds Tryz.pinned (OpenSpec.ofChange specSlidesSpec)

/-- ITS FALSE NEIGHBOUR: 'it returns false'. Refute it at one input. -/
def specSlidesWrong : ChangeSpec := { name := "specSlides", fn := fun _ => fun
  | [d1, d2, d3, d4] => { results := [.lit (.bool false)], args := [d1, d2, d3, d4] }
  | _ => none }
def SpecSlidesWrongFalsely : Prop := specSlidesRow.holds Tryz.pinned (OpenSpec.ofChange specSlidesWrong)

/-- 'bournelaw21.SpecApart': WHATEVER THE INPUT: true; the input reads as it did. -/
def specApartSpec : ChangeSpec := { name := "specApart", fn := fun _ => fun
  | [d1, d2, d3, d4] => { results := [.lit (.bool true)], args := [d1, d2, d3, d4] }
  | _ => none }
def specApartRow : OpenClaim := { program := "ytohnakoineakdaagreat", sum := "0c12a3e12e2b36c2115c24420d85b19736232312ae840b583d1187c470744940", func := "bourne/bournelaw21.SpecApart", spec := "specApart", unfollowed := true, recurses := true, apart := false }
def SpecApartSaid : Prop := specApartRow.holds Tryz.pinned (OpenSpec.ofChange specApartSpec)

/-- ITS FALSE NEIGHBOUR: 'it returns false'. Refute it at one input. -/
def specApartWrong : ChangeSpec := { name := "specApart", fn := fun _ => fun
  | [d1, d2, d3, d4] => { results := [.lit (.bool false)], args := [d1, d2, d3, d4] }
  | _ => none }
def SpecApartWrongFalsely : Prop := specApartRow.holds Tryz.pinned (OpenSpec.ofChange specApartWrong)

/-- 'bournelaw21.SpecQueries': WHATEVER THE INPUT: true; the input reads as it did. -/
def specQueriesSpec : ChangeSpec := { name := "specQueries", fn := fun _ => fun
  | [d1, d2, d3] => { results := [.lit (.bool true)], args := [d1, d2, d3] }
  | _ => none }
def specQueriesRow : OpenClaim := { program := "ytohnakoineakdaagreat", sum := "0c12a3e12e2b36c2115c24420d85b19736232312ae840b583d1187c470744940", func := "bourne/bournelaw21.SpecQueries", spec := "specQueries", unfollowed := true, recurses := true, apart := false }
def SpecQueriesSaid : Prop := specQueriesRow.holds Tryz.pinned (OpenSpec.ofChange specQueriesSpec)

/-- ITS FALSE NEIGHBOUR: 'it returns false'. Refute it at one input. -/
def specQueriesWrong : ChangeSpec := { name := "specQueries", fn := fun _ => fun
  | [d1, d2, d3] => { results := [.lit (.bool false)], args := [d1, d2, d3] }
  | _ => none }
def SpecQueriesWrongFalsely : Prop := specQueriesRow.holds Tryz.pinned (OpenSpec.ofChange specQueriesWrong)

/-- 'bournelaw21.SpecForms': WHATEVER THE INPUT: true; the input reads as it did. -/
def specFormsSpec : ChangeSpec := { name := "specForms", fn := fun _ => fun
  | [d1, d2] => { results := [.lit (.bool true)], args := [d1, d2] }
  | _ => none }
def specFormsRow : OpenClaim := { program := "ytohnakoineakdaagreat", sum := "0c12a3e12e2b36c2115c24420d85b19736232312ae840b583d1187c470744940", func := "bourne/bournelaw21.SpecForms", spec := "specForms", unfollowed := true, recurses := true, apart := false }
def SpecFormsSaid : Prop := specFormsRow.holds Tryz.pinned (OpenSpec.ofChange specFormsSpec)

/-- ITS FALSE NEIGHBOUR: 'it returns false'. Refute it at one input. -/
def specFormsWrong : ChangeSpec := { name := "specForms", fn := fun _ => fun
  | [d1, d2] => { results := [.lit (.bool false)], args := [d1, d2] }
  | _ => none }
def SpecFormsWrongFalsely : Prop := specFormsRow.holds Tryz.pinned (OpenSpec.ofChange specFormsWrong)

/-- 'bournelaw21.SpecTold': WHATEVER THE INPUT: true; the input reads as it did. -/
def specToldSpec : ChangeSpec := { name := "specTold", fn := fun _ => fun
  | [d1, d2, d3] => { results := [.lit (.bool true)], args := [d1, d2, d3] }
  | _ => none }
def specToldRow : OpenClaim := { program := "ytohnakoineakdaagreat", sum := "0c12a3e12e2b36c2115c24420d85b19736232312ae840b583d1187c470744940", func := "bourne/bournelaw21.SpecTold", spec := "specTold", unfollowed := true, recurses := true, apart := false }
def SpecToldSaid : Prop := specToldRow.holds Tryz.pinned (OpenSpec.ofChange specToldSpec)

/-- ITS FALSE NEIGHBOUR: 'it returns false'. Refute it at one input. -/
def specToldWrong : ChangeSpec := { name := "specTold", fn := fun _ => fun
  | [d1, d2, d3] => { results := [.lit (.bool false)], args := [d1, d2, d3] }
  | _ => none }
def SpecToldWrongFalsely : Prop := specToldRow.holds Tryz.pinned (OpenSpec.ofChange specToldWrong)

/- THE SECOND FORM. 'bulk': how many values and letters a reading holds, each counted each time it is reached (what is shared counts as often as it is met; a slice's spare places count too). A statement '..UptoSaid' is the law's where the arguments, and the package variables that the reading takes, are together of bulk at most 1048576: NARROWER than '..Said'. Prove '..Said' where nothing that the law and all that it calls make is longer than what came in: it says more and counts as full. Else prove '..UptoSaid'. A law counts once. -/
mutual
def uptoBulk {H : Type} : DataW H → Nat
  | .lit (.string bytes) => bytes.length + 1
  | .lit _ => 1
  | .nil => 1
  | .ptr d => uptoBulk d + 1
  | .slice elems spare => uptoBulkAll elems + uptoBulkAll spare + 1
  | .agg parts => uptoBulkAll parts + 1
  | .iface _ d => uptoBulk d + 1
  | .map entries => uptoBulkEntries entries + 1
  | .held _ => 1
def uptoBulkAll {H : Type} : List (DataW H) → Nat
  | [] => 0
  | d :: r => uptoBulk d + uptoBulkAll r
def uptoBulkEntries {H : Type} : List (Lit × DataW H) → Nat
  | [] => 0
  | x :: r => uptoBulkEntry x + uptoBulkEntries r
def uptoBulkEntry {H : Type} : Lit × DataW H → Nat
  | (.string bytes, d) => bytes.length + uptoBulk d + 1
  | (_, d) => uptoBulk d + 1
 end
def uptoSmall : (H : Type) → List (DataW H) → Bool := fun _ ds => decide (uptoBulkAll ds ≤ 1048576)
def OpenSpec.upto (s : _root_.Go.ChangeSpec) : _root_.Go.OpenSpec := { _root_.Go.OpenSpec.ofChange s with cond := some uptoSmall }

/-- 'bournelaw21.Specs', WHERE WHAT IT READS IS OF BULK AT MOST 1048576: true; the input reads as it did. -/
def specsUptoRow : OpenClaim := { program := "ytohnakoineakdaagreat", sum := "0c12a3e12e2b36c2115c24420d85b19736232312ae840b583d1187c470744940", func := "bourne/bournelaw21.Specs", spec := "specs", unfollowed := true, recurses := true, apart := false, narrowed := true }
def SpecsUptoSaid : Prop := specsUptoRow.holds Tryz.pinned (OpenSpec.upto specsSpec)

/-- 'bournelaw21.SpecSteps', WHERE WHAT IT READS IS OF BULK AT MOST 1048576: true; the input reads as it did. -/
def specStepsUptoRow : OpenClaim := { program := "ytohnakoineakdaagreat", sum := "0c12a3e12e2b36c2115c24420d85b19736232312ae840b583d1187c470744940", func := "bourne/bournelaw21.SpecSteps", spec := "specSteps", unfollowed := true, recurses := true, apart := false, narrowed := true }
def SpecStepsUptoSaid : Prop := specStepsUptoRow.holds Tryz.pinned (OpenSpec.upto specStepsSpec)

/-- 'bournelaw21.SpecHeld', WHERE WHAT IT READS IS OF BULK AT MOST 1048576: true; the input reads as it did. -/
def specHeldUptoRow : OpenClaim := { program := "ytohnakoineakdaagreat", sum := "0c12a3e12e2b36c2115c24420d85b19736232312ae840b583d1187c470744940", func := "bourne/bournelaw21.SpecHeld", spec := "specHeld", unfollowed := true, recurses := true, apart := false, narrowed := true }
def SpecHeldUptoSaid : Prop := specHeldUptoRow.holds Tryz.pinned (OpenSpec.upto specHeldSpec)

/-- 'bournelaw21.SpecRows', WHERE WHAT IT READS IS OF BULK AT MOST 1048576: true; the input reads as it did. -/
def specRowsUptoRow : OpenClaim := { program := "ytohnakoineakdaagreat", sum := "0c12a3e12e2b36c2115c24420d85b19736232312ae840b583d1187c470744940", func := "bourne/bournelaw21.SpecRows", spec := "specRows", unfollowed := true, recurses := true, apart := false, narrowed := true }
def SpecRowsUptoSaid : Prop := specRowsUptoRow.holds Tryz.pinned (OpenSpec.upto specRowsSpec)

/-- 'bournelaw21.SpecSlides', WHERE WHAT IT READS IS OF BULK AT MOST 1048576: true; the input reads as it did. -/
def specSlidesUptoRow : OpenClaim := { program := "ytohnakoineakdaagreat", sum := "0c12a3e12e2b36c2115c24420d85b19736232312ae840b583d1187c470744940", func := "bourne/bournelaw21.SpecSlides", spec := "specSlides", unfollowed := true, recurses := true, apart := false, narrowed := true }
def SpecSlidesUptoSaid : Prop := specSlidesUptoRow.holds Tryz.pinned (OpenSpec.upto specSlidesSpec)

/-- 'bournelaw21.SpecApart', WHERE WHAT IT READS IS OF BULK AT MOST 1048576: true; the input reads as it did. -/
def specApartUptoRow : OpenClaim := { program := "ytohnakoineakdaagreat", sum := "0c12a3e12e2b36c2115c24420d85b19736232312ae840b583d1187c470744940", func := "bourne/bournelaw21.SpecApart", spec := "specApart", unfollowed := true, recurses := true, apart := false, narrowed := true }
def SpecApartUptoSaid : Prop := specApartUptoRow.holds Tryz.pinned (OpenSpec.upto specApartSpec)

/-- 'bournelaw21.SpecQueries', WHERE WHAT IT READS IS OF BULK AT MOST 1048576: true; the input reads as it did. -/
def specQueriesUptoRow : OpenClaim := { program := "ytohnakoineakdaagreat", sum := "0c12a3e12e2b36c2115c24420d85b19736232312ae840b583d1187c470744940", func := "bourne/bournelaw21.SpecQueries", spec := "specQueries", unfollowed := true, recurses := true, apart := false, narrowed := true }
def SpecQueriesUptoSaid : Prop := specQueriesUptoRow.holds Tryz.pinned (OpenSpec.upto specQueriesSpec)

/-- 'bournelaw21.SpecForms', WHERE WHAT IT READS IS OF BULK AT MOST 1048576: true; the input reads as it did. -/
def specFormsUptoRow : OpenClaim := { program := "ytohnakoineakdaagreat", sum := "0c12a3e12e2b36c2115c24420d85b19736232312ae840b583d1187c470744940", func := "bourne/bournelaw21.SpecForms", spec := "specForms", unfollowed := true, recurses := true, apart := false, narrowed := true }
def SpecFormsUptoSaid : Prop := specFormsUptoRow.holds Tryz.pinned (OpenSpec.upto specFormsSpec)

/-- 'bournelaw21.SpecTold', WHERE WHAT IT READS IS OF BULK AT MOST 1048576: true; the input reads as it did. -/
def specToldUptoRow : OpenClaim := { program := "ytohnakoineakdaagreat", sum := "0c12a3e12e2b36c2115c24420d85b19736232312ae840b583d1187c470744940", func := "bourne/bournelaw21.SpecTold", spec := "specTold", unfollowed := true, recurses := true, apart := false, narrowed := true }
def SpecToldUptoSaid : Prop := specToldUptoRow.holds Tryz.pinned (OpenSpec.upto specToldSpec)

end Rows
end Go.Proofs.YtohnakoineakdaaGreat
