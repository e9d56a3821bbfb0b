/-
  No cell of these rows narrows 'for every input' (looked for: loops, veiled, ifaces, maps, wideKeys, modest, calm, conditions, laid).
  DERIVED. THE GIVEN ROWS OF THIS SEAT. 12 by the template 'for every input the law returns true; each argument reads behind the call as it read before'; 0 by the template 'total and deterministic' (their statements: YtoffmcfaeolcjaaTotals.lean).
  GIVEN WITH THE SEED: the statements are not yours to turn. If you find one false, say at which input.
  Laid BY PROGRAM, IN A SANDBOX (cutbox-rows.mjs): the forced cells as the released guide's own fill.sh prints them over the translation 8a5cf7886aa1f202… (all of the seat's roots in one cut). By AI agents, Wed Nov 11 2026. No macro, syntax, notation, axiom, sorry.
-/
import Derived.Test.YtoffmcfaeolcjaaChecked
import GoSem.Claim
import GoSem.ClaimJoined
import GoSem.ClaimMapViews
import Derived.JoinedTies
import Derived.KernelRfl
namespace Go.Proofs.Ytoffmcfaeolcjaa
/- THE CELL 'sum', in the pinned program and in every row, IS THE sha256 OF THE DUMP (.gsa) THAT YtoffmcfaeolcjaaProg.lean LOADS. Nothing in Lean hashes anything: it is a label: what it is worth is what the hold of that sum in a sandbox is worth. -/
noncomputable def Try.pinned : Pinned := { name := "ytoffmcfaeolcjaa", sum := "8a5cf7886aa1f202af4473bc9c6fcfaeeda6b7f51e3a622ef117eb947a710fc9", checked := Try.checked }
namespace Rows
def none {H : Type} : Left H := { results := [], args := [] }

/-- 'bournelaw12.Registries': WHATEVER THE INPUT: true; the input reads as it did. -/
def registriesSpec : ChangeSpec := { name := "registries", fn := fun _ => fun
  | [d1, d2] => { results := [.lit (.bool true)], args := [d1, d2] }
  | _ => none }
def registriesRow : OpenClaim := { program := "ytoffmcfaeolcjaa", sum := "8a5cf7886aa1f202af4473bc9c6fcfaeeda6b7f51e3a622ef117eb947a710fc9", func := "bourne/bournelaw12.Registries", spec := "registries", apart := false }
def RegistriesSaid : Prop := registriesRow.holds Try.pinned (OpenSpec.ofChange registriesSpec)

/-- ITS FALSE NEIGHBOUR: 'it returns false'. Refute it at one input. -/
def registriesWrong : ChangeSpec := { name := "registries", fn := fun _ => fun
  | [d1, d2] => { results := [.lit (.bool false)], args := [d1, d2] }
  | _ => none }
def RegistriesWrongFalsely : Prop := registriesRow.holds Try.pinned (OpenSpec.ofChange registriesWrong)

/-- 'bournelaw12.RegistryRow': WHATEVER THE INPUT: true; the input reads as it did. -/
def registryRowSpec : ChangeSpec := { name := "registryRow", fn := fun _ => fun
  | [d1, d2] => { results := [.lit (.bool true)], args := [d1, d2] }
  | _ => none }
def registryRowRow : OpenClaim := { program := "ytoffmcfaeolcjaa", sum := "8a5cf7886aa1f202af4473bc9c6fcfaeeda6b7f51e3a622ef117eb947a710fc9", func := "bourne/bournelaw12.RegistryRow", spec := "registryRow", apart := false }
def RegistryRowSaid : Prop := registryRowRow.holds Try.pinned (OpenSpec.ofChange registryRowSpec)

/-- ITS FALSE NEIGHBOUR: 'it returns false'. Refute it at one input. -/
def registryRowWrong : ChangeSpec := { name := "registryRow", fn := fun _ => fun
  | [d1, d2] => { results := [.lit (.bool false)], args := [d1, d2] }
  | _ => none }
def RegistryRowWrongFalsely : Prop := registryRowRow.holds Try.pinned (OpenSpec.ofChange registryRowWrong)

/-- 'bournelaw12.RegistryForms': WHATEVER THE INPUT: true; the input reads as it did. -/
def registryFormsSpec : ChangeSpec := { name := "registryForms", fn := fun _ => fun
  | [d] => { results := [.lit (.bool true)], args := [d] }
  | _ => none }
def registryFormsRow : OpenClaim := { program := "ytoffmcfaeolcjaa", sum := "8a5cf7886aa1f202af4473bc9c6fcfaeeda6b7f51e3a622ef117eb947a710fc9", func := "bourne/bournelaw12.RegistryForms", spec := "registryForms", apart := false }
def RegistryFormsSaid : Prop := registryFormsRow.holds Try.pinned (OpenSpec.ofChange registryFormsSpec)

/-- ITS FALSE NEIGHBOUR: 'it returns false'. Refute it at one input. -/
def registryFormsWrong : ChangeSpec := { name := "registryForms", fn := fun _ => fun
  | [d] => { results := [.lit (.bool false)], args := [d] }
  | _ => none }
def RegistryFormsWrongFalsely : Prop := registryFormsRow.holds Try.pinned (OpenSpec.ofChange registryFormsWrong)

/-- 'bournelaw13.Marks': WHATEVER THE INPUT: true; the input reads as it did. -/
def marksSpec : ChangeSpec := { name := "marks", fn := fun _ => fun
  | [d1, d2] => { results := [.lit (.bool true)], args := [d1, d2] }
  | _ => none }
def marksRow : OpenClaim := { program := "ytoffmcfaeolcjaa", sum := "8a5cf7886aa1f202af4473bc9c6fcfaeeda6b7f51e3a622ef117eb947a710fc9", func := "bourne/bournelaw13.Marks", spec := "marks", apart := false }
def MarksSaid : Prop := marksRow.holds Try.pinned (OpenSpec.ofChange marksSpec)

/-- ITS FALSE NEIGHBOUR: 'it returns false'. Refute it at one input. -/
def marksWrong : ChangeSpec := { name := "marks", fn := fun _ => fun
  | [d1, d2] => { results := [.lit (.bool false)], args := [d1, d2] }
  | _ => none }
def MarksWrongFalsely : Prop := marksRow.holds Try.pinned (OpenSpec.ofChange marksWrong)

/-- 'bournelaw13.MarksLeast': WHATEVER THE INPUT: true; the input reads as it did. -/
def marksLeastSpec : ChangeSpec := { name := "marksLeast", fn := fun _ => fun
  | [d1, d2] => { results := [.lit (.bool true)], args := [d1, d2] }
  | _ => none }
def marksLeastRow : OpenClaim := { program := "ytoffmcfaeolcjaa", sum := "8a5cf7886aa1f202af4473bc9c6fcfaeeda6b7f51e3a622ef117eb947a710fc9", func := "bourne/bournelaw13.MarksLeast", spec := "marksLeast", apart := false }
def MarksLeastSaid : Prop := marksLeastRow.holds Try.pinned (OpenSpec.ofChange marksLeastSpec)

/-- ITS FALSE NEIGHBOUR: 'it returns false'. Refute it at one input. -/
def marksLeastWrong : ChangeSpec := { name := "marksLeast", fn := fun _ => fun
  | [d1, d2] => { results := [.lit (.bool false)], args := [d1, d2] }
  | _ => none }
def MarksLeastWrongFalsely : Prop := marksLeastRow.holds Try.pinned (OpenSpec.ofChange marksLeastWrong)

/-- 'bournelaw13.MarksForms': WHATEVER THE INPUT: true; the input reads as it did. -/
def marksFormsSpec : ChangeSpec := { name := "marksForms", fn := fun _ => fun
  | [d1, d2] => { results := [.lit (.bool true)], args := [d1, d2] }
  | _ => none }
def marksFormsRow : OpenClaim := { program := "ytoffmcfaeolcjaa", sum := "8a5cf7886aa1f202af4473bc9c6fcfaeeda6b7f51e3a622ef117eb947a710fc9", func := "bourne/bournelaw13.MarksForms", spec := "marksForms", apart := false }
def MarksFormsSaid : Prop := marksFormsRow.holds Try.pinned (OpenSpec.ofChange marksFormsSpec)

/-- ITS FALSE NEIGHBOUR: 'it returns false'. Refute it at one input. -/
def marksFormsWrong : ChangeSpec := { name := "marksForms", fn := fun _ => fun
  | [d1, d2] => { results := [.lit (.bool false)], args := [d1, d2] }
  | _ => none }
def MarksFormsWrongFalsely : Prop := marksFormsRow.holds Try.pinned (OpenSpec.ofChange marksFormsWrong)

/-- 'bournelaw6.Sessions': WHATEVER THE INPUT: true; the input reads as it did. -/
def sessionsSpec : ChangeSpec := { name := "sessions", fn := fun _ => fun
  | [d1, d2, d3, d4] => { results := [.lit (.bool true)], args := [d1, d2, d3, d4] }
  | _ => none }
def sessionsRow : OpenClaim := { program := "ytoffmcfaeolcjaa", sum := "8a5cf7886aa1f202af4473bc9c6fcfaeeda6b7f51e3a622ef117eb947a710fc9", func := "bourne/bournelaw6.Sessions", spec := "sessions", inPlace := ["slices.overlaps[bourne/api.Session]"], unfollowed := true, recurses := true, apart := false }
def SessionsSaid : Prop := sessionsRow.holds Try.pinned (OpenSpec.ofChange sessionsSpec)

/-- ITS FALSE NEIGHBOUR: 'it returns false'. Refute it at one input. -/
def sessionsWrong : ChangeSpec := { name := "sessions", fn := fun _ => fun
  | [d1, d2, d3, d4] => { results := [.lit (.bool false)], args := [d1, d2, d3, d4] }
  | _ => none }
def SessionsWrongFalsely : Prop := sessionsRow.holds Try.pinned (OpenSpec.ofChange sessionsWrong)

/-- 'bournelaw6.SessionRows': WHATEVER THE INPUT: true; the input reads as it did. -/
def sessionRowsSpec : ChangeSpec := { name := "sessionRows", fn := fun _ => fun
  | [d1, d2] => { results := [.lit (.bool true)], args := [d1, d2] }
  | _ => none }
def sessionRowsRow : OpenClaim := { program := "ytoffmcfaeolcjaa", sum := "8a5cf7886aa1f202af4473bc9c6fcfaeeda6b7f51e3a622ef117eb947a710fc9", func := "bourne/bournelaw6.SessionRows", spec := "sessionRows", inPlace := ["slices.overlaps[bourne/api.Session]"], unfollowed := true, recurses := true, apart := false }
def SessionRowsSaid : Prop := sessionRowsRow.holds Try.pinned (OpenSpec.ofChange sessionRowsSpec)

/-- ITS FALSE NEIGHBOUR: 'it returns false'. Refute it at one input. -/
def sessionRowsWrong : ChangeSpec := { name := "sessionRows", fn := fun _ => fun
  | [d1, d2] => { results := [.lit (.bool false)], args := [d1, d2] }
  | _ => none }
def SessionRowsWrongFalsely : Prop := sessionRowsRow.holds Try.pinned (OpenSpec.ofChange sessionRowsWrong)

/-- 'bournelaw6.SessionForms': WHATEVER THE INPUT: true; the input reads as it did. -/
def sessionFormsSpec : ChangeSpec := { name := "sessionForms", fn := fun _ => fun
  | [d1, d2] => { results := [.lit (.bool true)], args := [d1, d2] }
  | _ => none }
def sessionFormsRow : OpenClaim := { program := "ytoffmcfaeolcjaa", sum := "8a5cf7886aa1f202af4473bc9c6fcfaeeda6b7f51e3a622ef117eb947a710fc9", func := "bourne/bournelaw6.SessionForms", spec := "sessionForms", inPlace := ["slices.overlaps[bourne/api.Session]"], unfollowed := true, recurses := true, apart := false }
def SessionFormsSaid : Prop := sessionFormsRow.holds Try.pinned (OpenSpec.ofChange sessionFormsSpec)

/-- ITS FALSE NEIGHBOUR: 'it returns false'. Refute it at one input. -/
def sessionFormsWrong : ChangeSpec := { name := "sessionForms", fn := fun _ => fun
  | [d1, d2] => { results := [.lit (.bool false)], args := [d1, d2] }
  | _ => none }
def SessionFormsWrongFalsely : Prop := sessionFormsRow.holds Try.pinned (OpenSpec.ofChange sessionFormsWrong)

/-- 'bournelaw6.SessionBridge': WHATEVER THE INPUT: true; the input reads as it did. -/
def sessionBridgeSpec : ChangeSpec := { name := "sessionBridge", fn := fun _ => fun
  | [d1, d2, d3] => { results := [.lit (.bool true)], args := [d1, d2, d3] }
  | _ => none }
def sessionBridgeRow : OpenClaim := { program := "ytoffmcfaeolcjaa", sum := "8a5cf7886aa1f202af4473bc9c6fcfaeeda6b7f51e3a622ef117eb947a710fc9", func := "bourne/bournelaw6.SessionBridge", spec := "sessionBridge", inPlace := ["slices.overlaps[bourne/api.Session]"], unfollowed := true, recurses := true, apart := false }
def SessionBridgeSaid : Prop := sessionBridgeRow.holds Try.pinned (OpenSpec.ofChange sessionBridgeSpec)

/-- ITS FALSE NEIGHBOUR: 'it returns false'. Refute it at one input. -/
def sessionBridgeWrong : ChangeSpec := { name := "sessionBridge", fn := fun _ => fun
  | [d1, d2, d3] => { results := [.lit (.bool false)], args := [d1, d2, d3] }
  | _ => none }
def SessionBridgeWrongFalsely : Prop := sessionBridgeRow.holds Try.pinned (OpenSpec.ofChange sessionBridgeWrong)

/-- 'bournelaw6.SessionSplits': WHATEVER THE INPUT: true; the input reads as it did. -/
def sessionSplitsSpec : ChangeSpec := { name := "sessionSplits", fn := fun _ => fun
  | [d1, d2] => { results := [.lit (.bool true)], args := [d1, d2] }
  | _ => none }
def sessionSplitsRow : OpenClaim := { program := "ytoffmcfaeolcjaa", sum := "8a5cf7886aa1f202af4473bc9c6fcfaeeda6b7f51e3a622ef117eb947a710fc9", func := "bourne/bournelaw6.SessionSplits", spec := "sessionSplits", inPlace := ["slices.overlaps[bourne/api.Session]"], unfollowed := true, recurses := true, apart := false }
def SessionSplitsSaid : Prop := sessionSplitsRow.holds Try.pinned (OpenSpec.ofChange sessionSplitsSpec)

/-- ITS FALSE NEIGHBOUR: 'it returns false'. Refute it at one input. -/
def sessionSplitsWrong : ChangeSpec := { name := "sessionSplits", fn := fun _ => fun
  | [d1, d2] => { results := [.lit (.bool false)], args := [d1, d2] }
  | _ => none }
def SessionSplitsWrongFalsely : Prop := sessionSplitsRow.holds Try.pinned (OpenSpec.ofChange sessionSplitsWrong)

/-- 'bournelaw6.SessionChain': WHATEVER THE INPUT: true; the input reads as it did. -/
def sessionChainSpec : ChangeSpec := { name := "sessionChain", fn := fun _ => fun
  | [d1, d2] => { results := [.lit (.bool true)], args := [d1, d2] }
  | _ => none }
def sessionChainRow : OpenClaim := { program := "ytoffmcfaeolcjaa", sum := "8a5cf7886aa1f202af4473bc9c6fcfaeeda6b7f51e3a622ef117eb947a710fc9", func := "bourne/bournelaw6.SessionChain", spec := "sessionChain", inPlace := ["slices.overlaps[bourne/api.Session]"], unfollowed := true, recurses := true, apart := false }
def SessionChainSaid : Prop := sessionChainRow.holds Try.pinned (OpenSpec.ofChange sessionChainSpec)

/-- ITS FALSE NEIGHBOUR: 'it returns false'. Refute it at one input. -/
def sessionChainWrong : ChangeSpec := { name := "sessionChain", fn := fun _ => fun
  | [d1, d2] => { results := [.lit (.bool false)], args := [d1, d2] }
  | _ => none }
def SessionChainWrongFalsely : Prop := sessionChainRow.holds Try.pinned (OpenSpec.ofChange sessionChainWrong)

/- THE SECOND FORM. 'bulk': how many values and letters a reading holds, each counted each time it is reached (what is shared counts as often as it is met; a slice's spare places count too). A statement '..UptoSaid' is the law's where the arguments, and the package variables that the reading takes, are together of bulk at most 1048576: NARROWER than '..Said'. Prove '..Said' where nothing that the law and all that it calls make is longer than what came in: it says more and counts as full. Else prove '..UptoSaid'. A law counts once. -/
mutual
def uptoBulk {H : Type} : DataW H → Nat
  | .lit (.string bytes) => bytes.length + 1
  | .lit _ => 1
  | .nil => 1
  | .ptr d => uptoBulk d + 1
  | .slice elems spare => uptoBulkAll elems + uptoBulkAll spare + 1
  | .agg parts => uptoBulkAll parts + 1
  | .iface _ d => uptoBulk d + 1
  | .map entries => uptoBulkEntries entries + 1
  | .held _ => 1
def uptoBulkAll {H : Type} : List (DataW H) → Nat
  | [] => 0
  | d :: r => uptoBulk d + uptoBulkAll r
def uptoBulkEntries {H : Type} : List (Lit × DataW H) → Nat
  | [] => 0
  | x :: r => uptoBulkEntry x + uptoBulkEntries r
def uptoBulkEntry {H : Type} : Lit × DataW H → Nat
  | (.string bytes, d) => bytes.length + uptoBulk d + 1
  | (_, d) => uptoBulk d + 1
 end
def uptoSmall : (H : Type) → List (DataW H) → Bool := fun _ ds => decide (uptoBulkAll ds ≤ 1048576)
def OpenSpec.upto (s : _root_.Go.ChangeSpec) : _root_.Go.OpenSpec := { _root_.Go.OpenSpec.ofChange s with cond := some uptoSmall }

/-- 'bournelaw12.Registries', WHERE WHAT IT READS IS OF BULK AT MOST 1048576: true; the input reads as it did. -/
def registriesUptoRow : OpenClaim := { program := "ytoffmcfaeolcjaa", sum := "8a5cf7886aa1f202af4473bc9c6fcfaeeda6b7f51e3a622ef117eb947a710fc9", func := "bourne/bournelaw12.Registries", spec := "registries", apart := false, narrowed := true }
def RegistriesUptoSaid : Prop := registriesUptoRow.holds Try.pinned (OpenSpec.upto registriesSpec)

/-- 'bournelaw12.RegistryRow', WHERE WHAT IT READS IS OF BULK AT MOST 1048576: true; the input reads as it did. -/
def registryRowUptoRow : OpenClaim := { program := "ytoffmcfaeolcjaa", sum := "8a5cf7886aa1f202af4473bc9c6fcfaeeda6b7f51e3a622ef117eb947a710fc9", func := "bourne/bournelaw12.RegistryRow", spec := "registryRow", apart := false, narrowed := true }
def RegistryRowUptoSaid : Prop := registryRowUptoRow.holds Try.pinned (OpenSpec.upto registryRowSpec)

/-- 'bournelaw12.RegistryForms', WHERE WHAT IT READS IS OF BULK AT MOST 1048576: true; the input reads as it did. -/
def registryFormsUptoRow : OpenClaim := { program := "ytoffmcfaeolcjaa", sum := "8a5cf7886aa1f202af4473bc9c6fcfaeeda6b7f51e3a622ef117eb947a710fc9", func := "bourne/bournelaw12.RegistryForms", spec := "registryForms", apart := false, narrowed := true }
def RegistryFormsUptoSaid : Prop := registryFormsUptoRow.holds Try.pinned (OpenSpec.upto registryFormsSpec)

/-- 'bournelaw13.Marks', WHERE WHAT IT READS IS OF BULK AT MOST 1048576: true; the input reads as it did. -/
def marksUptoRow : OpenClaim := { program := "ytoffmcfaeolcjaa", sum := "8a5cf7886aa1f202af4473bc9c6fcfaeeda6b7f51e3a622ef117eb947a710fc9", func := "bourne/bournelaw13.Marks", spec := "marks", apart := false, narrowed := true }
def MarksUptoSaid : Prop := marksUptoRow.holds Try.pinned (OpenSpec.upto marksSpec)

/-- 'bournelaw13.MarksLeast', WHERE WHAT IT READS IS OF BULK AT MOST 1048576: true; the input reads as it did. -/
def marksLeastUptoRow : OpenClaim := { program := "ytoffmcfaeolcjaa", sum := "8a5cf7886aa1f202af4473bc9c6fcfaeeda6b7f51e3a622ef117eb947a710fc9", func := "bourne/bournelaw13.MarksLeast", spec := "marksLeast", apart := false, narrowed := true }
def MarksLeastUptoSaid : Prop := marksLeastUptoRow.holds Try.pinned (OpenSpec.upto marksLeastSpec)

/-- 'bournelaw13.MarksForms', WHERE WHAT IT READS IS OF BULK AT MOST 1048576: true; the input reads as it did. -/
def marksFormsUptoRow : OpenClaim := { program := "ytoffmcfaeolcjaa", sum := "8a5cf7886aa1f202af4473bc9c6fcfaeeda6b7f51e3a622ef117eb947a710fc9", func := "bourne/bournelaw13.MarksForms", spec := "marksForms", apart := false, narrowed := true }
def MarksFormsUptoSaid : Prop := marksFormsUptoRow.holds Try.pinned (OpenSpec.upto marksFormsSpec)

/-- 'bournelaw6.Sessions', WHERE WHAT IT READS IS OF BULK AT MOST 1048576: true; the input reads as it did. -/
def sessionsUptoRow : OpenClaim := { program := "ytoffmcfaeolcjaa", sum := "8a5cf7886aa1f202af4473bc9c6fcfaeeda6b7f51e3a622ef117eb947a710fc9", func := "bourne/bournelaw6.Sessions", spec := "sessions", inPlace := ["slices.overlaps[bourne/api.Session]"], unfollowed := true, recurses := true, apart := false, narrowed := true }
def SessionsUptoSaid : Prop := sessionsUptoRow.holds Try.pinned (OpenSpec.upto sessionsSpec)

/-- 'bournelaw6.SessionRows', WHERE WHAT IT READS IS OF BULK AT MOST 1048576: true; the input reads as it did. -/
def sessionRowsUptoRow : OpenClaim := { program := "ytoffmcfaeolcjaa", sum := "8a5cf7886aa1f202af4473bc9c6fcfaeeda6b7f51e3a622ef117eb947a710fc9", func := "bourne/bournelaw6.SessionRows", spec := "sessionRows", inPlace := ["slices.overlaps[bourne/api.Session]"], unfollowed := true, recurses := true, apart := false, narrowed := true }
def SessionRowsUptoSaid : Prop := sessionRowsUptoRow.holds Try.pinned (OpenSpec.upto sessionRowsSpec)

/-- 'bournelaw6.SessionForms', WHERE WHAT IT READS IS OF BULK AT MOST 1048576: true; the input reads as it did. -/
def sessionFormsUptoRow : OpenClaim := { program := "ytoffmcfaeolcjaa", sum := "8a5cf7886aa1f202af4473bc9c6fcfaeeda6b7f51e3a622ef117eb947a710fc9", func := "bourne/bournelaw6.SessionForms", spec := "sessionForms", inPlace := ["slices.overlaps[bourne/api.Session]"], unfollowed := true, recurses := true, apart := false, narrowed := true }
def SessionFormsUptoSaid : Prop := sessionFormsUptoRow.holds Try.pinned (OpenSpec.upto sessionFormsSpec)

/-- 'bournelaw6.SessionBridge', WHERE WHAT IT READS IS OF BULK AT MOST 1048576: true; the input reads as it did. -/
def sessionBridgeUptoRow : OpenClaim := { program := "ytoffmcfaeolcjaa", sum := "8a5cf7886aa1f202af4473bc9c6fcfaeeda6b7f51e3a622ef117eb947a710fc9", func := "bourne/bournelaw6.SessionBridge", spec := "sessionBridge", inPlace := ["slices.overlaps[bourne/api.Session]"], unfollowed := true, recurses := true, apart := false, narrowed := true }
def SessionBridgeUptoSaid : Prop := sessionBridgeUptoRow.holds Try.pinned (OpenSpec.upto sessionBridgeSpec)

/-- 'bournelaw6.SessionSplits', WHERE WHAT IT READS IS OF BULK AT MOST 1048576: true; the input reads as it did. -/
def sessionSplitsUptoRow : OpenClaim := { program := "ytoffmcfaeolcjaa", sum := "8a5cf7886aa1f202af4473bc9c6fcfaeeda6b7f51e3a622ef117eb947a710fc9", func := "bourne/bournelaw6.SessionSplits", spec := "sessionSplits", inPlace := ["slices.overlaps[bourne/api.Session]"], unfollowed := true, recurses := true, apart := false, narrowed := true }
def SessionSplitsUptoSaid : Prop := sessionSplitsUptoRow.holds Try.pinned (OpenSpec.upto sessionSplitsSpec)

/-- 'bournelaw6.SessionChain', WHERE WHAT IT READS IS OF BULK AT MOST 1048576: true; the input reads as it did. -/
def sessionChainUptoRow : OpenClaim := { program := "ytoffmcfaeolcjaa", sum := "8a5cf7886aa1f202af4473bc9c6fcfaeeda6b7f51e3a622ef117eb947a710fc9", func := "bourne/bournelaw6.SessionChain", spec := "sessionChain", inPlace := ["slices.overlaps[bourne/api.Session]"], unfollowed := true, recurses := true, apart := false, narrowed := true }
def SessionChainUptoSaid : Prop := sessionChainUptoRow.holds Try.pinned (OpenSpec.upto sessionChainSpec)

end Rows
end Go.Proofs.Ytoffmcfaeolcjaa
