/- Plain lists: what slices.Insert and slices.Replace come to (as the evaluator tells them), and what that is. -/
import Derived.Test.YtoffmcfaeolcjaaQEvW
import Derived.Laws.BitsLemmas
namespace Go.Ev
set_option linter.unusedVariables false
set_option maxRecDepth 100000

def insG {α : Type} (z : α) (bz : Nat) (a0 : List (Option α) × Int) (a1 : Int) (a2 : List α) : Option (List α) :=
  if (0 : Int) ≤ a1 ∧ a1 ≤ a0.snd ∧ a0.snd ≤ (↑a0.fst.length : Int) - (0 : Int) then bif (↑a2.length : Int) == (0 : Int) then if (0 : Int) = (0 : Int) ∧ (0 : Int) ≤ a0.snd then (Go.Ev.allS (List.take a0.snd.toNat a0.fst)).bind fun r0 ↦ Option.some r0 else Option.none else bif a1 == a0.snd then if (0 : Int) = (0 : Int) ∧ (0 : Int) ≤ a0.snd then if a0.snd + (↑a2.length : Int) ≤ (↑a0.fst.length : Int) then if (0 : Int) = (0 : Int) ∧ (0 : Int) ≤ a0.snd + (↑a2.length : Int) then (Go.Ev.allS (List.take (a0.snd + (↑a2.length : Int)).toNat (Go.Ev.splc a0.fst a0.snd.toNat (List.map Option.some a2)))).bind fun r1 ↦ Option.some r1 else Option.none else (Go.Ev.allS (List.take a0.snd.toNat a0.fst)).bind fun r2 ↦ if (r2.length + a2.length) * bz ≤ (140737488355328 : Nat) then Option.some (r2 ++ a2) else Option.none else Option.none else bif Decidable.decide (Go.IntKind.i64.wrap (a0.snd + (↑a2.length : Int)) > (↑a0.fst.length : Int) - (0 : Int)) then if (0 : Int) ≤ (0 : Int) ∧ (0 : Int) ≤ a1 ∧ a1 ≤ (↑a0.fst.length : Int) - (0 : Int) then if (0 : Int) + (0 : Int) = (0 : Int) ∧ (0 : Int) ≤ a1 - (0 : Int) ∧ (0 : Int) ≤ Go.IntKind.i64.wrap (Go.IntKind.i64.wrap (a0.snd + (↑a2.length : Int)) - a1) ∧ (↑a0.fst.length : Int) < a1 - (0 : Int) + Go.IntKind.i64.wrap (Go.IntKind.i64.wrap (a0.snd + (↑a2.length : Int)) - a1) then (Go.Ev.allS (List.take (a1 - (0 : Int)).toNat a0.fst)).bind fun r3 ↦ if (r3.length + (Go.IntKind.i64.wrap (Go.IntKind.i64.wrap (a0.snd + (↑a2.length : Int)) - a1)).toNat) * bz ≤ (140737488355328 : Nat) then if (0 : Int) ≤ a1 ∧ a1 ≤ (↑(r3 ++ List.replicate (Go.IntKind.i64.wrap (Go.IntKind.i64.wrap (a0.snd + (↑a2.length : Int)) - a1)).toNat z).length : Int) ∧ (↑(r3 ++ List.replicate (Go.IntKind.i64.wrap (Go.IntKind.i64.wrap (a0.snd + (↑a2.length : Int)) - a1)).toNat z).length : Int) ≤ (↑(r3 ++ List.replicate (Go.IntKind.i64.wrap (Go.IntKind.i64.wrap (a0.snd + (↑a2.length : Int)) - a1)).toNat z).length : Int) then if Bool.true = Bool.true ∧ (0 : Int) ≤ (0 : Int) + a1 ∧ (0 : Int) ≤ (↑(r3 ++ List.replicate (Go.IntKind.i64.wrap (Go.IntKind.i64.wrap (a0.snd + (↑a2.length : Int)) - a1)).toNat z).length : Int) - a1 ∧ (0 : Int) + a1 + ((↑(r3 ++ List.replicate (Go.IntKind.i64.wrap (Go.IntKind.i64.wrap (a0.snd + (↑a2.length : Int)) - a1)).toNat z).length : Int) - a1) ≤ (↑(r3 ++ List.replicate (Go.IntKind.i64.wrap (Go.IntKind.i64.wrap (a0.snd + (↑a2.length : Int)) - a1)).toNat z).length : Int) then (Go.Ev.allS (List.take ((List.map Option.some a2).length.min ((↑(r3 ++ List.replicate (Go.IntKind.i64.wrap (Go.IntKind.i64.wrap (a0.snd + (↑a2.length : Int)) - a1)).toNat z).length : Int) - a1).toNat) (List.map Option.some a2))).bind fun r4 ↦ if (0 : Int) ≤ Go.IntKind.i64.wrap (a1 + (↑a2.length : Int)) ∧ Go.IntKind.i64.wrap (a1 + (↑a2.length : Int)) ≤ (↑(Go.Ev.splc (r3 ++ List.replicate (Go.IntKind.i64.wrap (Go.IntKind.i64.wrap (a0.snd + (↑a2.length : Int)) - a1)).toNat z) ((0 : Int) + a1).toNat r4).length : Int) ∧ (↑(Go.Ev.splc (r3 ++ List.replicate (Go.IntKind.i64.wrap (Go.IntKind.i64.wrap (a0.snd + (↑a2.length : Int)) - a1)).toNat z) ((0 : Int) + a1).toNat r4).length : Int) ≤ (↑(Go.Ev.splc (r3 ++ List.replicate (Go.IntKind.i64.wrap (Go.IntKind.i64.wrap (a0.snd + (↑a2.length : Int)) - a1)).toNat z) ((0 : Int) + a1).toNat r4).length : Int) then if (0 : Int) ≤ a1 ∧ a1 ≤ a0.snd ∧ a0.snd ≤ (↑a0.fst.length : Int) - (0 : Int) then if Decidable.decide ((0 : Int) ≤ (0 : Int) + a1 ∧ (0 : Int) ≤ a0.snd - a1 ∧ (0 : Int) + a1 + (a0.snd - a1) ≤ (↑a0.fst.length : Int)) = Bool.true ∧ (0 : Int) ≤ (0 : Int) + Go.IntKind.i64.wrap (a1 + (↑a2.length : Int)) ∧ (0 : Int) ≤ (↑(Go.Ev.splc (r3 ++ List.replicate (Go.IntKind.i64.wrap (Go.IntKind.i64.wrap (a0.snd + (↑a2.length : Int)) - a1)).toNat z) ((0 : Int) + a1).toNat r4).length : Int) - Go.IntKind.i64.wrap (a1 + (↑a2.length : Int)) ∧ (0 : Int) + Go.IntKind.i64.wrap (a1 + (↑a2.length : Int)) + ((↑(Go.Ev.splc (r3 ++ List.replicate (Go.IntKind.i64.wrap (Go.IntKind.i64.wrap (a0.snd + (↑a2.length : Int)) - a1)).toNat z) ((0 : Int) + a1).toNat r4).length : Int) - Go.IntKind.i64.wrap (a1 + (↑a2.length : Int))) ≤ (↑(Go.Ev.splc (r3 ++ List.replicate (Go.IntKind.i64.wrap (Go.IntKind.i64.wrap (a0.snd + (↑a2.length : Int)) - a1)).toNat z) ((0 : Int) + a1).toNat r4).length : Int) then (Go.Ev.allS (List.take ((List.take (a0.snd - a1).toNat (List.drop ((0 : Int) + a1).toNat a0.fst)).length.min ((↑(Go.Ev.splc (r3 ++ List.replicate (Go.IntKind.i64.wrap (Go.IntKind.i64.wrap (a0.snd + (↑a2.length : Int)) - a1)).toNat z) ((0 : Int) + a1).toNat r4).length : Int) - Go.IntKind.i64.wrap (a1 + (↑a2.length : Int))).toNat) (List.take (a0.snd - a1).toNat (List.drop ((0 : Int) + a1).toNat a0.fst)))).bind fun r5 ↦ Option.some (Go.Ev.splc (Go.Ev.splc (r3 ++ List.replicate (Go.IntKind.i64.wrap (Go.IntKind.i64.wrap (a0.snd + (↑a2.length : Int)) - a1)).toNat z) ((0 : Int) + a1).toNat r4) ((0 : Int) + Go.IntKind.i64.wrap (a1 + (↑a2.length : Int))).toNat r5) else Option.none else Option.none else Option.none else Option.none else Option.none else Option.none else Option.none else Option.none else if (0 : Int) ≤ (0 : Int) ∧ (0 : Int) ≤ Go.IntKind.i64.wrap (a0.snd + (↑a2.length : Int)) ∧ Go.IntKind.i64.wrap (a0.snd + (↑a2.length : Int)) ≤ (↑a0.fst.length : Int) - (0 : Int) then if (0 : Int) ≤ Go.IntKind.i64.wrap (a1 + (↑a2.length : Int)) ∧ Go.IntKind.i64.wrap (a1 + (↑a2.length : Int)) ≤ Go.IntKind.i64.wrap (a0.snd + (↑a2.length : Int)) - (0 : Int) ∧ Go.IntKind.i64.wrap (a0.snd + (↑a2.length : Int)) - (0 : Int) ≤ (↑a0.fst.length : Int) - ((0 : Int) + (0 : Int)) then if (0 : Int) < Go.IntKind.i64.wrap (a0.snd + (↑a2.length : Int)) - (0 : Int) - Go.IntKind.i64.wrap (a1 + (↑a2.length : Int)) then if (0 : Int) ≤ Go.IntKind.i64.wrap (a1 + (↑a2.length : Int)) ∧ Go.IntKind.i64.wrap (a1 + (↑a2.length : Int)) ≤ Go.IntKind.i64.wrap (a0.snd + (↑a2.length : Int)) - (0 : Int) ∧ Go.IntKind.i64.wrap (a0.snd + (↑a2.length : Int)) - (0 : Int) ≤ (↑a0.fst.length : Int) - ((0 : Int) + (0 : Int)) then if (0 : Int) ≤ a1 ∧ a1 ≤ Go.IntKind.i64.wrap (a0.snd + (↑a2.length : Int)) - (0 : Int) ∧ Go.IntKind.i64.wrap (a0.snd + (↑a2.length : Int)) - (0 : Int) ≤ (↑a0.fst.length : Int) - ((0 : Int) + (0 : Int)) then if Decidable.decide ((0 : Int) ≤ (0 : Int) + (0 : Int) + a1 ∧ (0 : Int) ≤ Go.IntKind.i64.wrap (a0.snd + (↑a2.length : Int)) - (0 : Int) - a1 ∧ (0 : Int) + (0 : Int) + a1 + (Go.IntKind.i64.wrap (a0.snd + (↑a2.length : Int)) - (0 : Int) - a1) ≤ (↑a0.fst.length : Int)) = Bool.true ∧ (0 : Int) ≤ (0 : Int) + (0 : Int) + Go.IntKind.i64.wrap (a1 + (↑a2.length : Int)) ∧ (0 : Int) ≤ Go.IntKind.i64.wrap (a0.snd + (↑a2.length : Int)) - (0 : Int) - Go.IntKind.i64.wrap (a1 + (↑a2.length : Int)) ∧ (0 : Int) + (0 : Int) + Go.IntKind.i64.wrap (a1 + (↑a2.length : Int)) + (Go.IntKind.i64.wrap (a0.snd + (↑a2.length : Int)) - (0 : Int) - Go.IntKind.i64.wrap (a1 + (↑a2.length : Int))) ≤ (↑a0.fst.length : Int) then (Go.Ev.allS (List.take ((List.take (Go.IntKind.i64.wrap (a0.snd + (↑a2.length : Int)) - (0 : Int) - a1).toNat (List.drop ((0 : Int) + (0 : Int) + a1).toNat a0.fst)).length.min (Go.IntKind.i64.wrap (a0.snd + (↑a2.length : Int)) - (0 : Int) - Go.IntKind.i64.wrap (a1 + (↑a2.length : Int))).toNat) (List.take (Go.IntKind.i64.wrap (a0.snd + (↑a2.length : Int)) - (0 : Int) - a1).toNat (List.drop ((0 : Int) + (0 : Int) + a1).toNat a0.fst)))).bind fun r6 ↦ if (0 : Int) ≤ a1 ∧ a1 ≤ Go.IntKind.i64.wrap (a0.snd + (↑a2.length : Int)) - (0 : Int) ∧ Go.IntKind.i64.wrap (a0.snd + (↑a2.length : Int)) - (0 : Int) ≤ (↑(Go.Ev.splc a0.fst ((0 : Int) + (0 : Int) + Go.IntKind.i64.wrap (a1 + (↑a2.length : Int))).toNat (List.map Option.some r6)).length : Int) - ((0 : Int) + (0 : Int)) then if Bool.true = Bool.true ∧ (0 : Int) ≤ (0 : Int) + (0 : Int) + a1 ∧ (0 : Int) ≤ Go.IntKind.i64.wrap (a0.snd + (↑a2.length : Int)) - (0 : Int) - a1 ∧ (0 : Int) + (0 : Int) + a1 + (Go.IntKind.i64.wrap (a0.snd + (↑a2.length : Int)) - (0 : Int) - a1) ≤ (↑(Go.Ev.splc a0.fst ((0 : Int) + (0 : Int) + Go.IntKind.i64.wrap (a1 + (↑a2.length : Int))).toNat (List.map Option.some r6)).length : Int) then (Go.Ev.allS (List.take ((List.map Option.some a2).length.min (Go.IntKind.i64.wrap (a0.snd + (↑a2.length : Int)) - (0 : Int) - a1).toNat) (List.map Option.some a2))).bind fun r7 ↦ if (0 : Int) + (0 : Int) = (0 : Int) ∧ (0 : Int) ≤ Go.IntKind.i64.wrap (a0.snd + (↑a2.length : Int)) - (0 : Int) then (Go.Ev.allS (List.take (Go.IntKind.i64.wrap (a0.snd + (↑a2.length : Int)) - (0 : Int)).toNat (Go.Ev.splc (Go.Ev.splc a0.fst ((0 : Int) + (0 : Int) + Go.IntKind.i64.wrap (a1 + (↑a2.length : Int))).toNat (List.map Option.some r6)) ((0 : Int) + (0 : Int) + a1).toNat (List.map Option.some r7)))).bind fun r8 ↦ Option.some r8 else Option.none else Option.none else Option.none else Option.none else Option.none else Option.none else Option.none else Option.none else Option.none else Option.none
def repG_j0_step {α : Type} (z : α) (bz : Nat) (a1 : Int) (a3 : List α) (u0_2 : List (Option α)) : Option (List α) :=
  if (0 : Int) = (0 : Int) ∧ (0 : Int) ≤ a1 - (0 : Int) + (↑a3.length : Int) then (Go.Ev.allS (List.take (a1 - (0 : Int) + (↑a3.length : Int)).toNat u0_2)).bind fun r1 ↦ Option.some r1 else Option.none
def repG_j0 {α : Type} (z : α) (bz : Nat) (a1 : Int) (a3 : List α) (u0_2 : List (Option α)) : Option (List α) := repG_j0_step z bz a1 a3 u0_2
def repG_j1_step {α : Type} (z : α) (bz : Nat) (a3 : List α) (r2 : List α) : Option (List α) :=
  Option.some (r2 ++ a3)
def repG_j1 {α : Type} (z : α) (bz : Nat) (a3 : List α) (r2 : List α) : Option (List α) := repG_j1_step z bz a3 r2
def repG_h {α : Type} (z : α) (bz : Nat) (h0 : (Int) → (List α) → (List (Option α)) → Option (List α)) (h1 : (List α) → (List α) → Option (List α)) (a0 : List (Option α) × Int) (a1 : Int) (a2 : Int) (a3 : List α) : Option (List α) :=
  if (0 : Int) ≤ a1 ∧ a1 ≤ a2 ∧ a2 ≤ (↑a0.fst.length : Int) - (0 : Int) then bif a1 == a2 then (insG z bz a0 a1 a3).bind fun r0 ↦ Option.some r0 else bif a2 == a0.snd then if (0 : Int) ≤ (0 : Int) ∧ (0 : Int) ≤ a1 ∧ a1 ≤ (↑a0.fst.length : Int) - (0 : Int) then if (0 : Int) + (0 : Int) = (0 : Int) ∧ (0 : Int) ≤ a1 - (0 : Int) then if a1 - (0 : Int) + (↑a3.length : Int) ≤ (↑a0.fst.length : Int) then bif Decidable.decide (a1 - (0 : Int) + (↑a3.length : Int) < a0.snd) then if (0 : Int) ≤ a1 - (0 : Int) + (↑a3.length : Int) ∧ a1 - (0 : Int) + (↑a3.length : Int) ≤ a0.snd ∧ a0.snd ≤ (↑(Go.Ev.splc a0.fst (a1 - (0 : Int)).toNat (List.map Option.some a3)).length : Int) - (0 : Int) then if (0 : Int) ≤ (0 : Int) + (a1 - (0 : Int) + (↑a3.length : Int)) ∧ (0 : Int) ≤ a0.snd - (a1 - (0 : Int) + (↑a3.length : Int)) ∧ (0 : Int) + (a1 - (0 : Int) + (↑a3.length : Int)) + (a0.snd - (a1 - (0 : Int) + (↑a3.length : Int))) ≤ (↑(Go.Ev.splc a0.fst (a1 - (0 : Int)).toNat (List.map Option.some a3)).length : Int) then h0 a1 a3 (Go.Ev.splc (Go.Ev.splc a0.fst (a1 - (0 : Int)).toNat (List.map Option.some a3)) ((0 : Int) + (a1 - (0 : Int) + (↑a3.length : Int))).toNat (List.map Option.some (List.replicate (a0.snd - (a1 - (0 : Int) + (↑a3.length : Int))).toNat z))) else Option.none else Option.none else h0 a1 a3 (Go.Ev.splc a0.fst (a1 - (0 : Int)).toNat (List.map Option.some a3)) else (Go.Ev.allS (List.take (a1 - (0 : Int)).toNat a0.fst)).bind fun r2 ↦ if (r2.length + a3.length) * bz ≤ (140737488355328 : Nat) then bif Decidable.decide ((↑(r2 ++ a3).length : Int) < a0.snd) then if (0 : Int) ≤ (↑(r2 ++ a3).length : Int) ∧ (↑(r2 ++ a3).length : Int) ≤ a0.snd ∧ a0.snd ≤ (↑a0.fst.length : Int) - (0 : Int) then if (0 : Int) ≤ (0 : Int) + (↑(r2 ++ a3).length : Int) ∧ (0 : Int) ≤ a0.snd - (↑(r2 ++ a3).length : Int) ∧ (0 : Int) + (↑(r2 ++ a3).length : Int) + (a0.snd - (↑(r2 ++ a3).length : Int)) ≤ (↑a0.fst.length : Int) then h1 a3 r2 else Option.none else Option.none else h1 a3 r2 else Option.none else Option.none else Option.none else if (0 : Int) ≤ (0 : Int) ∧ (0 : Int) ≤ a1 ∧ a1 ≤ (↑a0.fst.length : Int) - (0 : Int) then if (0 : Int) ≤ a2 ∧ a2 ≤ a0.snd ∧ a0.snd ≤ (↑a0.fst.length : Int) - (0 : Int) then bif Decidable.decide (Go.IntKind.i64.wrap (Go.IntKind.i64.wrap (a1 - (0 : Int) + (↑a3.length : Int)) + (a0.snd - a2)) > (↑a0.fst.length : Int) - (0 : Int)) then if (0 : Int) ≤ (0 : Int) ∧ (0 : Int) ≤ a1 ∧ a1 ≤ (↑a0.fst.length : Int) - (0 : Int) then if (0 : Int) + (0 : Int) = (0 : Int) ∧ (0 : Int) ≤ a1 - (0 : Int) ∧ (0 : Int) ≤ Go.IntKind.i64.wrap (Go.IntKind.i64.wrap (Go.IntKind.i64.wrap (a1 - (0 : Int) + (↑a3.length : Int)) + (a0.snd - a2)) - a1) ∧ (↑a0.fst.length : Int) < a1 - (0 : Int) + Go.IntKind.i64.wrap (Go.IntKind.i64.wrap (Go.IntKind.i64.wrap (a1 - (0 : Int) + (↑a3.length : Int)) + (a0.snd - a2)) - a1) then (Go.Ev.allS (List.take (a1 - (0 : Int)).toNat a0.fst)).bind fun r3 ↦ if (r3.length + (Go.IntKind.i64.wrap (Go.IntKind.i64.wrap (Go.IntKind.i64.wrap (a1 - (0 : Int) + (↑a3.length : Int)) + (a0.snd - a2)) - a1)).toNat) * bz ≤ (140737488355328 : Nat) then if (0 : Int) ≤ a1 ∧ a1 ≤ (↑(r3 ++ List.replicate (Go.IntKind.i64.wrap (Go.IntKind.i64.wrap (Go.IntKind.i64.wrap (a1 - (0 : Int) + (↑a3.length : Int)) + (a0.snd - a2)) - a1)).toNat z).length : Int) ∧ (↑(r3 ++ List.replicate (Go.IntKind.i64.wrap (Go.IntKind.i64.wrap (Go.IntKind.i64.wrap (a1 - (0 : Int) + (↑a3.length : Int)) + (a0.snd - a2)) - a1)).toNat z).length : Int) ≤ (↑(r3 ++ List.replicate (Go.IntKind.i64.wrap (Go.IntKind.i64.wrap (Go.IntKind.i64.wrap (a1 - (0 : Int) + (↑a3.length : Int)) + (a0.snd - a2)) - a1)).toNat z).length : Int) then if Bool.true = Bool.true ∧ (0 : Int) ≤ (0 : Int) + a1 ∧ (0 : Int) ≤ (↑(r3 ++ List.replicate (Go.IntKind.i64.wrap (Go.IntKind.i64.wrap (Go.IntKind.i64.wrap (a1 - (0 : Int) + (↑a3.length : Int)) + (a0.snd - a2)) - a1)).toNat z).length : Int) - a1 ∧ (0 : Int) + a1 + ((↑(r3 ++ List.replicate (Go.IntKind.i64.wrap (Go.IntKind.i64.wrap (Go.IntKind.i64.wrap (a1 - (0 : Int) + (↑a3.length : Int)) + (a0.snd - a2)) - a1)).toNat z).length : Int) - a1) ≤ (↑(r3 ++ List.replicate (Go.IntKind.i64.wrap (Go.IntKind.i64.wrap (Go.IntKind.i64.wrap (a1 - (0 : Int) + (↑a3.length : Int)) + (a0.snd - a2)) - a1)).toNat z).length : Int) then (Go.Ev.allS (List.take ((List.map Option.some a3).length.min ((↑(r3 ++ List.replicate (Go.IntKind.i64.wrap (Go.IntKind.i64.wrap (Go.IntKind.i64.wrap (a1 - (0 : Int) + (↑a3.length : Int)) + (a0.snd - a2)) - a1)).toNat z).length : Int) - a1).toNat) (List.map Option.some a3))).bind fun r4 ↦ if (0 : Int) ≤ Go.IntKind.i64.wrap (a1 + (↑a3.length : Int)) ∧ Go.IntKind.i64.wrap (a1 + (↑a3.length : Int)) ≤ (↑(Go.Ev.splc (r3 ++ List.replicate (Go.IntKind.i64.wrap (Go.IntKind.i64.wrap (Go.IntKind.i64.wrap (a1 - (0 : Int) + (↑a3.length : Int)) + (a0.snd - a2)) - a1)).toNat z) ((0 : Int) + a1).toNat r4).length : Int) ∧ (↑(Go.Ev.splc (r3 ++ List.replicate (Go.IntKind.i64.wrap (Go.IntKind.i64.wrap (Go.IntKind.i64.wrap (a1 - (0 : Int) + (↑a3.length : Int)) + (a0.snd - a2)) - a1)).toNat z) ((0 : Int) + a1).toNat r4).length : Int) ≤ (↑(Go.Ev.splc (r3 ++ List.replicate (Go.IntKind.i64.wrap (Go.IntKind.i64.wrap (Go.IntKind.i64.wrap (a1 - (0 : Int) + (↑a3.length : Int)) + (a0.snd - a2)) - a1)).toNat z) ((0 : Int) + a1).toNat r4).length : Int) then if (0 : Int) ≤ a2 ∧ a2 ≤ a0.snd ∧ a0.snd ≤ (↑a0.fst.length : Int) - (0 : Int) then if Decidable.decide ((0 : Int) ≤ (0 : Int) + a2 ∧ (0 : Int) ≤ a0.snd - a2 ∧ (0 : Int) + a2 + (a0.snd - a2) ≤ (↑a0.fst.length : Int)) = Bool.true ∧ (0 : Int) ≤ (0 : Int) + Go.IntKind.i64.wrap (a1 + (↑a3.length : Int)) ∧ (0 : Int) ≤ (↑(Go.Ev.splc (r3 ++ List.replicate (Go.IntKind.i64.wrap (Go.IntKind.i64.wrap (Go.IntKind.i64.wrap (a1 - (0 : Int) + (↑a3.length : Int)) + (a0.snd - a2)) - a1)).toNat z) ((0 : Int) + a1).toNat r4).length : Int) - Go.IntKind.i64.wrap (a1 + (↑a3.length : Int)) ∧ (0 : Int) + Go.IntKind.i64.wrap (a1 + (↑a3.length : Int)) + ((↑(Go.Ev.splc (r3 ++ List.replicate (Go.IntKind.i64.wrap (Go.IntKind.i64.wrap (Go.IntKind.i64.wrap (a1 - (0 : Int) + (↑a3.length : Int)) + (a0.snd - a2)) - a1)).toNat z) ((0 : Int) + a1).toNat r4).length : Int) - Go.IntKind.i64.wrap (a1 + (↑a3.length : Int))) ≤ (↑(Go.Ev.splc (r3 ++ List.replicate (Go.IntKind.i64.wrap (Go.IntKind.i64.wrap (Go.IntKind.i64.wrap (a1 - (0 : Int) + (↑a3.length : Int)) + (a0.snd - a2)) - a1)).toNat z) ((0 : Int) + a1).toNat r4).length : Int) then (Go.Ev.allS (List.take ((List.take (a0.snd - a2).toNat (List.drop ((0 : Int) + a2).toNat a0.fst)).length.min ((↑(Go.Ev.splc (r3 ++ List.replicate (Go.IntKind.i64.wrap (Go.IntKind.i64.wrap (Go.IntKind.i64.wrap (a1 - (0 : Int) + (↑a3.length : Int)) + (a0.snd - a2)) - a1)).toNat z) ((0 : Int) + a1).toNat r4).length : Int) - Go.IntKind.i64.wrap (a1 + (↑a3.length : Int))).toNat) (List.take (a0.snd - a2).toNat (List.drop ((0 : Int) + a2).toNat a0.fst)))).bind fun r5 ↦ Option.some (Go.Ev.splc (Go.Ev.splc (r3 ++ List.replicate (Go.IntKind.i64.wrap (Go.IntKind.i64.wrap (Go.IntKind.i64.wrap (a1 - (0 : Int) + (↑a3.length : Int)) + (a0.snd - a2)) - a1)).toNat z) ((0 : Int) + a1).toNat r4) ((0 : Int) + Go.IntKind.i64.wrap (a1 + (↑a3.length : Int))).toNat r5) else Option.none else Option.none else Option.none else Option.none else Option.none else Option.none else Option.none else Option.none else if (0 : Int) ≤ (0 : Int) ∧ (0 : Int) ≤ Go.IntKind.i64.wrap (Go.IntKind.i64.wrap (a1 - (0 : Int) + (↑a3.length : Int)) + (a0.snd - a2)) ∧ Go.IntKind.i64.wrap (Go.IntKind.i64.wrap (a1 - (0 : Int) + (↑a3.length : Int)) + (a0.snd - a2)) ≤ (↑a0.fst.length : Int) - (0 : Int) then bif Decidable.decide (Go.IntKind.i64.wrap (a1 + (↑a3.length : Int)) ≤ a2) then if (0 : Int) ≤ a1 ∧ a1 ≤ Go.IntKind.i64.wrap (Go.IntKind.i64.wrap (a1 - (0 : Int) + (↑a3.length : Int)) + (a0.snd - a2)) - (0 : Int) ∧ Go.IntKind.i64.wrap (Go.IntKind.i64.wrap (a1 - (0 : Int) + (↑a3.length : Int)) + (a0.snd - a2)) - (0 : Int) ≤ (↑a0.fst.length : Int) - ((0 : Int) + (0 : Int)) then if Bool.true = Bool.true ∧ (0 : Int) ≤ (0 : Int) + (0 : Int) + a1 ∧ (0 : Int) ≤ Go.IntKind.i64.wrap (Go.IntKind.i64.wrap (a1 - (0 : Int) + (↑a3.length : Int)) + (a0.snd - a2)) - (0 : Int) - a1 ∧ (0 : Int) + (0 : Int) + a1 + (Go.IntKind.i64.wrap (Go.IntKind.i64.wrap (a1 - (0 : Int) + (↑a3.length : Int)) + (a0.snd - a2)) - (0 : Int) - a1) ≤ (↑a0.fst.length : Int) then (Go.Ev.allS (List.take ((List.map Option.some a3).length.min (Go.IntKind.i64.wrap (Go.IntKind.i64.wrap (a1 - (0 : Int) + (↑a3.length : Int)) + (a0.snd - a2)) - (0 : Int) - a1).toNat) (List.map Option.some a3))).bind fun r6 ↦ if (0 : Int) ≤ Go.IntKind.i64.wrap (a1 + (↑a3.length : Int)) ∧ Go.IntKind.i64.wrap (a1 + (↑a3.length : Int)) ≤ Go.IntKind.i64.wrap (Go.IntKind.i64.wrap (a1 - (0 : Int) + (↑a3.length : Int)) + (a0.snd - a2)) - (0 : Int) ∧ Go.IntKind.i64.wrap (Go.IntKind.i64.wrap (a1 - (0 : Int) + (↑a3.length : Int)) + (a0.snd - a2)) - (0 : Int) ≤ (↑(Go.Ev.splc a0.fst ((0 : Int) + (0 : Int) + a1).toNat (List.map Option.some r6)).length : Int) - ((0 : Int) + (0 : Int)) then if (0 : Int) ≤ a2 ∧ a2 ≤ a0.snd ∧ a0.snd ≤ (↑(Go.Ev.splc a0.fst ((0 : Int) + (0 : Int) + a1).toNat (List.map Option.some r6)).length : Int) - (0 : Int) then if Decidable.decide ((0 : Int) ≤ (0 : Int) + a2 ∧ (0 : Int) ≤ a0.snd - a2 ∧ (0 : Int) + a2 + (a0.snd - a2) ≤ (↑(Go.Ev.splc a0.fst ((0 : Int) + (0 : Int) + a1).toNat (List.map Option.some r6)).length : Int)) = Bool.true ∧ (0 : Int) ≤ (0 : Int) + (0 : Int) + Go.IntKind.i64.wrap (a1 + (↑a3.length : Int)) ∧ (0 : Int) ≤ Go.IntKind.i64.wrap (Go.IntKind.i64.wrap (a1 - (0 : Int) + (↑a3.length : Int)) + (a0.snd - a2)) - (0 : Int) - Go.IntKind.i64.wrap (a1 + (↑a3.length : Int)) ∧ (0 : Int) + (0 : Int) + Go.IntKind.i64.wrap (a1 + (↑a3.length : Int)) + (Go.IntKind.i64.wrap (Go.IntKind.i64.wrap (a1 - (0 : Int) + (↑a3.length : Int)) + (a0.snd - a2)) - (0 : Int) - Go.IntKind.i64.wrap (a1 + (↑a3.length : Int))) ≤ (↑(Go.Ev.splc a0.fst ((0 : Int) + (0 : Int) + a1).toNat (List.map Option.some r6)).length : Int) then (Go.Ev.allS (List.take ((List.take (a0.snd - a2).toNat (List.drop ((0 : Int) + a2).toNat (Go.Ev.splc a0.fst ((0 : Int) + (0 : Int) + a1).toNat (List.map Option.some r6)))).length.min (Go.IntKind.i64.wrap (Go.IntKind.i64.wrap (a1 - (0 : Int) + (↑a3.length : Int)) + (a0.snd - a2)) - (0 : Int) - Go.IntKind.i64.wrap (a1 + (↑a3.length : Int))).toNat) (List.take (a0.snd - a2).toNat (List.drop ((0 : Int) + a2).toNat (Go.Ev.splc a0.fst ((0 : Int) + (0 : Int) + a1).toNat (List.map Option.some r6)))))).bind fun r7 ↦ if (0 : Int) ≤ Go.IntKind.i64.wrap (Go.IntKind.i64.wrap (a1 - (0 : Int) + (↑a3.length : Int)) + (a0.snd - a2)) ∧ Go.IntKind.i64.wrap (Go.IntKind.i64.wrap (a1 - (0 : Int) + (↑a3.length : Int)) + (a0.snd - a2)) ≤ a0.snd ∧ a0.snd ≤ (↑(Go.Ev.splc (Go.Ev.splc a0.fst ((0 : Int) + (0 : Int) + a1).toNat (List.map Option.some r6)) ((0 : Int) + (0 : Int) + Go.IntKind.i64.wrap (a1 + (↑a3.length : Int))).toNat (List.map Option.some r7)).length : Int) - (0 : Int) then if (0 : Int) ≤ (0 : Int) + Go.IntKind.i64.wrap (Go.IntKind.i64.wrap (a1 - (0 : Int) + (↑a3.length : Int)) + (a0.snd - a2)) ∧ (0 : Int) ≤ a0.snd - Go.IntKind.i64.wrap (Go.IntKind.i64.wrap (a1 - (0 : Int) + (↑a3.length : Int)) + (a0.snd - a2)) ∧ (0 : Int) + Go.IntKind.i64.wrap (Go.IntKind.i64.wrap (a1 - (0 : Int) + (↑a3.length : Int)) + (a0.snd - a2)) + (a0.snd - Go.IntKind.i64.wrap (Go.IntKind.i64.wrap (a1 - (0 : Int) + (↑a3.length : Int)) + (a0.snd - a2))) ≤ (↑(Go.Ev.splc (Go.Ev.splc a0.fst ((0 : Int) + (0 : Int) + a1).toNat (List.map Option.some r6)) ((0 : Int) + (0 : Int) + Go.IntKind.i64.wrap (a1 + (↑a3.length : Int))).toNat (List.map Option.some r7)).length : Int) then if (0 : Int) + (0 : Int) = (0 : Int) ∧ (0 : Int) ≤ Go.IntKind.i64.wrap (Go.IntKind.i64.wrap (a1 - (0 : Int) + (↑a3.length : Int)) + (a0.snd - a2)) - (0 : Int) then (Go.Ev.allS (List.take (Go.IntKind.i64.wrap (Go.IntKind.i64.wrap (a1 - (0 : Int) + (↑a3.length : Int)) + (a0.snd - a2)) - (0 : Int)).toNat (Go.Ev.splc (Go.Ev.splc (Go.Ev.splc a0.fst ((0 : Int) + (0 : Int) + a1).toNat (List.map Option.some r6)) ((0 : Int) + (0 : Int) + Go.IntKind.i64.wrap (a1 + (↑a3.length : Int))).toNat (List.map Option.some r7)) ((0 : Int) + Go.IntKind.i64.wrap (Go.IntKind.i64.wrap (a1 - (0 : Int) + (↑a3.length : Int)) + (a0.snd - a2))).toNat (List.map Option.some (List.replicate (a0.snd - Go.IntKind.i64.wrap (Go.IntKind.i64.wrap (a1 - (0 : Int) + (↑a3.length : Int)) + (a0.snd - a2))).toNat z))))).bind fun r8 ↦ Option.some r8 else Option.none else Option.none else Option.none else Option.none else Option.none else Option.none else Option.none else Option.none else if (0 : Int) ≤ Go.IntKind.i64.wrap (a1 + (↑a3.length : Int)) ∧ Go.IntKind.i64.wrap (a1 + (↑a3.length : Int)) ≤ Go.IntKind.i64.wrap (Go.IntKind.i64.wrap (a1 - (0 : Int) + (↑a3.length : Int)) + (a0.snd - a2)) - (0 : Int) ∧ Go.IntKind.i64.wrap (Go.IntKind.i64.wrap (a1 - (0 : Int) + (↑a3.length : Int)) + (a0.snd - a2)) - (0 : Int) ≤ (↑a0.fst.length : Int) - ((0 : Int) + (0 : Int)) then Option.none else Option.none else Option.none else Option.none else Option.none else Option.none
def repG {α : Type} (z : α) (bz : Nat) (a0 : List (Option α) × Int) (a1 : Int) (a2 : Int) (a3 : List α) : Option (List α) := repG_h z bz (fun (a1 : Int) (a3 : List α) (u0_2 : List (Option α)) => repG_j0 z bz a1 a3 u0_2) (fun (a3 : List α) (r2 : List α) => repG_j1 z bz a3 r2) a0 a1 a2 a3

theorem wrap_id {x : Int} (h0 : -9223372036854775808 ≤ x) (h1 : x ≤ 9223372036854775807) : Go.IntKind.i64.wrap x = x := by rw [IntKind.wrap_i64]; omega

section
variable {α : Type}

theorem len_buf (xs : List α) (s : Nat) : (bufOf xs s).length = xs.length + s := by simp [bufOf]
theorem buf_get (xs : List α) (s j : Nat) : (bufOf xs s)[j]? = if j < xs.length then (xs[j]?).map some else if j < xs.length + s then some none else none := by
  unfold bufOf
  by_cases h : j < xs.length
  · rw [if_pos h, List.getElem?_append_left (by simpa using h), List.getElem?_map]
  · rw [if_neg h, List.getElem?_append_right (by simpa using h), List.getElem?_replicate, List.length_map]
    by_cases h2 : j < xs.length + s
    · rw [if_pos h2, if_pos (by omega)]
    · rw [if_neg h2, if_neg (by omega)]
theorem take_buf (xs : List α) (s p : Nat) (h : p ≤ xs.length) : List.take p (bufOf xs s) = (xs.take p).map some := by
  unfold bufOf
  rw [List.take_append_of_le_length (by simpa using h), List.map_take]
theorem drop_buf (xs : List α) (s i m : Nat) (h : i + m ≤ xs.length) : List.take m (List.drop i (bufOf xs s)) = ((xs.drop i).take m).map some := by
  unfold bufOf
  rw [List.drop_append_of_le_length (by simp; omega), List.take_append_of_le_length (by simp; omega), List.map_take, List.map_drop]
theorem ins_fin (xs vs : List α) (s i : Nat) (hi : i ≤ xs.length) (hs : vs.length ≤ s) : List.take (xs.length + vs.length) (splc (splc (bufOf xs s) (i + vs.length) ((xs.drop i).map some)) i (vs.map some)) = (xs.take i ++ vs ++ xs.drop i).map some := by
  apply List.ext_getElem?
  intro j
  have h1 : (splc (bufOf xs s) (i + vs.length) ((xs.drop i).map some)).length = xs.length + s := by
    rw [splc_length _ _ _ (by rw [len_buf, List.length_map, List.length_drop]; omega), len_buf]
  rw [List.getElem?_take, splc_get _ _ _ _ (by rw [h1, List.length_map]; omega), splc_get _ _ _ _ (by rw [len_buf, List.length_map, List.length_drop]; omega), buf_get]
  simp only [List.length_map, List.length_drop, List.getElem?_map, List.map_append, List.getElem?_append, List.length_append, List.length_take, List.map_take, List.map_drop, List.getElem?_take, List.getElem?_drop]
  have e1 : min i xs.length = i := by omega
  rw [e1]
  by_cases hj : j < i
  · have e2 : j < xs.length + vs.length := by omega
    have e3 : j < i + vs.length := by omega
    have e4 : j < xs.length := by omega
    simp only [e2, hj, e3, e4, if_true]
  · by_cases hj2 : j < i + vs.length
    · have e2 : j < xs.length + vs.length := by omega
      simp only [e2, hj, hj2, if_true, if_false]
    · by_cases hj3 : j < xs.length + vs.length
      · have e2 : j < i + vs.length + (xs.length - i) := by omega
        simp only [hj3, hj, hj2, e2, if_true, if_false]
      · simp only [hj3, hj, hj2, if_false]
        rw [List.getElem?_eq_none (by omega)]
        rfl

theorem splc_row (xs : List α) (k : Nat) (z : α) (vs : List α) (i : Nat) (hi : i ≤ xs.length) (hk : k = xs.length - i + vs.length) : splc (splc (xs.take i ++ List.replicate k z) i vs) (i + vs.length) (xs.drop i) = xs.take i ++ vs ++ xs.drop i := by
  have h1 : (xs.take i).length = i := by rw [List.length_take]; omega
  unfold splc
  have e1 : List.take i (xs.take i ++ List.replicate k z) = xs.take i := by rw [List.take_append_of_le_length (by omega), List.take_take, Nat.min_self]
  rw [e1]
  have e2 : List.take (i + vs.length) (xs.take i ++ vs ++ List.drop (i + vs.length) (xs.take i ++ List.replicate k z)) = xs.take i ++ vs := by
    rw [List.take_append_of_le_length (by rw [List.length_append]; omega), List.take_of_length_le (by rw [List.length_append]; omega)]
  have e3 : List.drop (i + vs.length + (xs.drop i).length) (xs.take i ++ vs ++ List.drop (i + vs.length) (xs.take i ++ List.replicate k z)) = [] := by
    apply List.drop_eq_nil_of_le
    simp only [List.length_append, List.length_drop, List.length_take, List.length_replicate]
    omega
  rw [e2, e3, List.append_nil]

theorem insG_eq (z : α) (bz : Nat) (xs vs : List α) (s : Nat) (i : Int) (h0 : 0 ≤ i) (h1 : i ≤ xs.length) (hb : 0 < bz) (hfit : (xs.length + vs.length) * bz ≤ 140737488355328) :
    insG z bz (bufOf xs s, (xs.length : Int)) i vs = some (xs.take i.toNat ++ vs ++ xs.drop i.toNat) := by
  have hN : xs.length + vs.length ≤ 140737488355328 := Nat.le_trans (Nat.le_mul_of_pos_right _ hb) hfit
  have hi : i.toNat ≤ xs.length := by omega
  have w1 : Go.IntKind.i64.wrap ((xs.length : Int) + (vs.length : Int)) = (xs.length : Int) + (vs.length : Int) := wrap_id (by omega) (by omega)
  have w2 : Go.IntKind.i64.wrap (i + (vs.length : Int)) = i + (vs.length : Int) := wrap_id (by omega) (by omega)
  have w3 : Go.IntKind.i64.wrap ((xs.length : Int) + (vs.length : Int) - i) = (xs.length : Int) + (vs.length : Int) - i := wrap_id (by omega) (by omega)
  unfold insG
  dsimp only
  simp only [w1, w2, w3, len_buf, Int.sub_zero, Int.zero_add, Int.add_zero]
  rw [if_pos ⟨h0, h1, by omega⟩]
  by_cases hm : vs.length = 0
  · have hv : vs = [] := List.eq_nil_of_length_eq_zero hm
    subst hv
    simp only [List.length_nil, Int.ofNat_zero, beq_self_eq_true, cond_true]
    rw [if_pos ⟨trivial, by omega⟩, take_buf _ _ _ (by omega), allS_map]
    simp
  · have e1 : ((vs.length : Int) == 0) = false := by rw [beq_eq_false_iff_ne]; omega
    rw [e1, cond_false]
    by_cases hin : i = (xs.length : Int)
    · have e2 : (i == (xs.length : Int)) = true := by simpa using hin
      rw [e2, cond_true, if_pos ⟨trivial, by omega⟩]
      subst hin
      by_cases hf : (xs.length : Int) + (vs.length : Int) ≤ ((xs.length + s : Nat) : Int)
      · rw [if_pos hf, if_pos ⟨trivial, by omega⟩]
        have := ins_fin xs vs s xs.length (Nat.le_refl _) (by omega)
        simp only [List.drop_length, List.map_nil, splc_nil] at this
        rw [show ((xs.length : Int) + (vs.length : Int)).toNat = xs.length + vs.length by omega, show ((xs.length : Nat) : Int).toNat = xs.length by omega, this, allS_map]
        simp
      · rw [if_neg hf, take_buf _ _ _ (by omega), allS_map]
        simp only [Option.bind_some]
        rw [if_pos (by rw [List.length_take]; simpa using hfit)]
        simp
    · have e2 : (i == (xs.length : Int)) = false := by simpa using hin
      rw [e2, cond_false]
      by_cases hg : (xs.length : Int) + (vs.length : Int) > ((xs.length + s : Nat) : Int)
      · rw [decide_eq_true hg, cond_true, if_pos ⟨by omega, h0, by omega⟩, if_pos ⟨trivial, h0, by omega, by omega⟩, take_buf _ _ _ hi, allS_map]
        simp only [Option.bind_some]
        have hl1 : (List.take i.toNat xs).length = i.toNat := by rw [List.length_take]; omega
        have hk : ((xs.length : Int) + (vs.length : Int) - i).toNat = xs.length - i.toNat + vs.length := by omega
        have hl2 : (List.take i.toNat xs ++ List.replicate ((xs.length : Int) + (vs.length : Int) - i).toNat z).length = xs.length + vs.length := by rw [List.length_append, hl1, List.length_replicate]; omega
        have hl3 : (splc (List.take i.toNat xs ++ List.replicate ((xs.length : Int) + (vs.length : Int) - i).toNat z) i.toNat vs).length = xs.length + vs.length := by rw [splc_length _ _ _ (by rw [hl2]; omega), hl2]
        rw [if_pos (by rw [hl1]; refine Nat.le_trans (Nat.mul_le_mul_right _ ?_) hfit; omega)]
        simp only [hl2]
        rw [if_pos ⟨h0, by omega, by omega⟩, if_pos ⟨trivial, h0, by omega, by omega⟩]
        have hmin : (List.map some vs).length.min (((xs.length + vs.length : Nat) : Int) - i).toNat = vs.length := by rw [List.length_map]; exact Nat.min_eq_left (by omega)
        rw [hmin, show List.take vs.length (List.map some vs) = List.map some vs from List.take_of_length_le (by simp), allS_map]
        simp only [Option.bind_some, hl3]
        rw [if_pos ⟨by omega, by omega, by omega⟩, if_pos ⟨h0, by omega, by omega⟩, if_pos ⟨decide_eq_true ⟨h0, by omega, by omega⟩, by omega, by omega, by omega⟩]
        have hd : List.take ((xs.length : Int) - i).toNat (List.drop i.toNat (bufOf xs s)) = (xs.drop i.toNat).map some := by
          rw [drop_buf _ _ _ _ (by omega), List.take_of_length_le (by rw [List.length_drop]; omega)]
        rw [hd]
        have hmin2 : (List.map some (List.drop i.toNat xs)).length.min (((xs.length + vs.length : Nat) : Int) - (i + (vs.length : Int))).toNat = (List.map some (List.drop i.toNat xs)).length := by
          rw [List.length_map, List.length_drop]; exact Nat.min_eq_left (by omega)
        rw [hmin2, List.take_length, allS_map]
        simp only [Option.bind_some]
        rw [show (i + (vs.length : Int)).toNat = i.toNat + vs.length by omega, splc_row _ _ _ _ _ hi hk]
      · rw [decide_eq_false hg, cond_false, if_pos ⟨by omega, by omega, by omega⟩, if_pos ⟨by omega, by omega, by omega⟩, if_pos (by omega), if_pos ⟨by omega, by omega, by omega⟩, if_pos ⟨h0, by omega, by omega⟩, if_pos ⟨decide_eq_true ⟨h0, by omega, by omega⟩, by omega, by omega, by omega⟩]
        have hd : List.take ((List.take ((xs.length : Int) + (vs.length : Int) - i).toNat (List.drop i.toNat (bufOf xs s))).length.min ((xs.length : Int) + (vs.length : Int) - (i + (vs.length : Int))).toNat) (List.take ((xs.length : Int) + (vs.length : Int) - i).toNat (List.drop i.toNat (bufOf xs s))) = (xs.drop i.toNat).map some := by
          have e3 : (List.take ((xs.length : Int) + (vs.length : Int) - i).toNat (List.drop i.toNat (bufOf xs s))).length.min ((xs.length : Int) + (vs.length : Int) - (i + (vs.length : Int))).toNat = xs.length - i.toNat := by
            rw [List.length_take, List.length_drop, len_buf]
            have : ((xs.length : Int) + (vs.length : Int) - (i + (vs.length : Int))).toNat = xs.length - i.toNat := by omega
            rw [this]
            exact Nat.min_eq_right (by omega)
          rw [e3, List.take_take, Nat.min_eq_left (by omega), drop_buf _ _ _ _ (by omega), List.take_of_length_le (by rw [List.length_drop]; omega)]
        rw [hd, allS_map]
        simp only [Option.bind_some]
        have hl4 : (splc (bufOf xs s) (i + (vs.length : Int)).toNat (List.map some (List.drop i.toNat xs))).length = xs.length + s := by
          rw [splc_length _ _ _ (by rw [len_buf, List.length_map, List.length_drop]; omega), len_buf]
        simp only [hl4]
        rw [if_pos ⟨h0, by omega, by omega⟩, if_pos ⟨trivial, h0, by omega, by omega⟩]
        have hmin : (List.map some vs).length.min ((xs.length : Int) + (vs.length : Int) - i).toNat = vs.length := by rw [List.length_map]; exact Nat.min_eq_left (by omega)
        rw [hmin, show List.take vs.length (List.map some vs) = List.map some vs from List.take_of_length_le (by simp), allS_map]
        simp only [Option.bind_some]
        rw [if_pos ⟨trivial, by omega⟩, show ((xs.length : Int) + (vs.length : Int)).toNat = xs.length + vs.length by omega, show (i + (vs.length : Int)).toNat = i.toNat + vs.length by omega, ins_fin _ _ _ _ hi (by omega), allS_map]
        rfl

theorem splc_take_lt (l v : List α) (p n : Nat) (h : n ≤ p) (hl : p + v.length ≤ l.length) : List.take n (splc l p v) = List.take n l := by
  apply List.ext_getElem?
  intro j
  rw [List.getElem?_take, List.getElem?_take]
  by_cases hj : j < n
  · rw [if_pos hj, if_pos hj, splc_get _ _ _ _ hl, if_pos (by omega)]
  · rw [if_neg hj, if_neg hj]
theorem splc_drop_ge (l v : List α) (p n : Nat) (h : p + v.length ≤ n) (hl : p + v.length ≤ l.length) : List.drop n (splc l p v) = List.drop n l := by
  apply List.ext_getElem?
  intro j
  rw [List.getElem?_drop, List.getElem?_drop, splc_get _ _ _ _ hl, if_neg (by omega), if_neg (by omega)]
theorem splc_take_end (l v : List α) (p : Nat) (h : p ≤ l.length) : List.take (p + v.length) (splc l p v) = List.take p l ++ v := by
  have h1 : (List.take p l).length = p := by rw [List.length_take]; omega
  unfold splc
  rw [List.take_append_of_le_length (by rw [List.length_append]; omega), List.take_of_length_le (by rw [List.length_append]; omega)]

theorem repG_eq (z : α) (bz : Nat) (xs : List α) (v : α) (s : Nat) (i j : Int) (h0 : 0 ≤ i) (h1 : i ≤ j) (h2 : j ≤ xs.length) (hb : 0 < bz) (hfit : (xs.length + 1) * bz ≤ 140737488355328) :
    repG z bz (bufOf xs s, (xs.length : Int)) i j [v] = some (xs.take i.toNat ++ [v] ++ xs.drop j.toNat) := by
  have hN : xs.length + 1 ≤ 140737488355328 := Nat.le_trans (Nat.le_mul_of_pos_right _ hb) hfit
  have hi : i.toNat ≤ xs.length := by omega
  unfold repG repG_h
  dsimp only
  rw [if_pos ⟨h0, h1, by rw [len_buf]; omega⟩]
  by_cases hij : i = j
  · subst hij
    rw [beq_self_eq_true, cond_true, insG_eq z bz xs [v] s i h0 h2 hb hfit]
    rfl
  have e1 : (i == j) = false := by rw [beq_eq_false_iff_ne]; exact hij
  rw [e1, cond_false]
  have hB1 : (splc (bufOf xs s) i.toNat [some v]).length = xs.length + s := by rw [splc_length _ _ _ (by rw [len_buf]; simp; omega), len_buf]
  have hT1 : List.take (i.toNat + 1) (splc (bufOf xs s) i.toNat [some v]) = (xs.take i.toNat ++ [v]).map some := by
    have := splc_take_end (bufOf xs s) [some v] i.toNat (by rw [len_buf]; omega)
    rw [show ([some v] : List (Option α)).length = 1 from rfl] at this
    rw [this, take_buf _ _ _ hi]
    simp
  have w2 : Go.IntKind.i64.wrap (i + 1) = i + 1 := wrap_id (by omega) (by omega)
  have w1 : Go.IntKind.i64.wrap (i + 1 + ((xs.length : Int) - j)) = i + 1 + ((xs.length : Int) - j) := wrap_id (by omega) (by omega)
  have hM : ((([v] : List α).length : Nat) : Int) = 1 := rfl
  simp only [hM, len_buf, Int.sub_zero, Int.zero_add, Int.add_zero, w2, w1, List.map_cons, List.map_nil]
  by_cases hj : j = (xs.length : Int)
  · have e2 : (j == (xs.length : Int)) = true := by simpa using hj
    rw [e2, cond_true, if_pos ⟨by omega, h0, by omega⟩, if_pos ⟨trivial, h0⟩, if_pos (by omega)]
    have hd : List.drop j.toNat xs = [] := List.drop_eq_nil_of_le (by omega)
    rw [hd, List.append_nil]
    by_cases hc : i + 1 < (xs.length : Int)
    · rw [decide_eq_true hc, cond_true, if_pos ⟨by omega, by omega, by rw [hB1]; omega⟩, if_pos ⟨by omega, by omega, by rw [hB1]; omega⟩]
      unfold repG_j0 repG_j0_step
      simp only [hM, Int.sub_zero]
      rw [if_pos ⟨trivial, by omega⟩, splc_take_lt _ _ _ _ (Nat.le_refl _) (by rw [hB1, List.length_map, List.length_replicate]; omega), show (i + 1).toNat = i.toNat + 1 by omega, hT1, allS_map]
      rfl
    · rw [decide_eq_false hc, cond_false]
      unfold repG_j0 repG_j0_step
      simp only [hM, Int.sub_zero]
      rw [if_pos ⟨trivial, by omega⟩, show (i + 1).toNat = i.toNat + 1 by omega, hT1, allS_map]
      rfl
  · have e2 : (j == (xs.length : Int)) = false := by rw [beq_eq_false_iff_ne]; exact hj
    have hc : ¬ (i + 1 + ((xs.length : Int) - j) > ((xs.length + s : Nat) : Int)) := by omega
    rw [e2, cond_false, if_pos ⟨by omega, h0, by omega⟩, if_pos ⟨by omega, by omega, by omega⟩, decide_eq_false hc, cond_false, if_pos ⟨by omega, by omega, by omega⟩, decide_eq_true (show i + 1 ≤ j by omega), cond_true,
      if_pos ⟨h0, by omega, by omega⟩, if_pos ⟨trivial, h0, by omega, by omega⟩]
    have hmin : ([some v] : List (Option α)).length.min (i + 1 + ((xs.length : Int) - j) - i).toNat = 1 := by
      rw [show ([some v] : List (Option α)).length = 1 from rfl]; exact Nat.min_eq_left (by omega)
    rw [hmin, show List.take 1 [some v] = [v].map some from rfl, allS_map]
    simp only [Option.bind_some, List.map_cons, List.map_nil, hB1]
    have hd : List.take ((xs.length : Int) - j).toNat (List.drop j.toNat (splc (bufOf xs s) i.toNat [some v])) = (xs.drop j.toNat).map some := by
      rw [splc_drop_ge _ _ _ _ (by simp; omega) (by rw [len_buf]; simp; omega), drop_buf _ _ _ _ (by omega), List.take_of_length_le (by rw [List.length_drop]; omega)]
    have hmin2 : (List.map some (List.drop j.toNat xs)).length.min (i + 1 + ((xs.length : Int) - j) - (i + 1)).toNat = (List.map some (List.drop j.toNat xs)).length := by
      rw [List.length_map, List.length_drop]; exact Nat.min_eq_left (by omega)
    rw [if_pos ⟨by omega, by omega, by omega⟩, if_pos ⟨by omega, by omega, by omega⟩, if_pos ⟨decide_eq_true ⟨by omega, by omega, by omega⟩, by omega, by omega, by omega⟩, hd, hmin2, List.take_length, allS_map]
    simp only [Option.bind_some]
    have hB2 : (splc (splc (bufOf xs s) i.toNat [some v]) (i + 1).toNat (List.map some (List.drop j.toNat xs))).length = xs.length + s := by
      rw [splc_length _ _ _ (by rw [hB1, List.length_map, List.length_drop]; omega), hB1]
    simp only [hB2]
    have hT2 : List.take (i + 1 + ((xs.length : Int) - j)).toNat (splc (splc (bufOf xs s) i.toNat [some v]) (i + 1).toNat (List.map some (List.drop j.toNat xs))) = (xs.take i.toNat ++ [v] ++ xs.drop j.toNat).map some := by
      have := splc_take_end (splc (bufOf xs s) i.toNat [some v]) (List.map some (List.drop j.toNat xs)) (i + 1).toNat (by rw [hB1]; omega)
      rw [List.length_map, List.length_drop] at this
      rw [show (i + 1 + ((xs.length : Int) - j)).toNat = (i + 1).toNat + (xs.length - j.toNat) by omega, this, show (i + 1).toNat = i.toNat + 1 by omega, hT1]
      simp
    rw [if_pos ⟨by omega, by omega, by omega⟩, if_pos ⟨by omega, by omega, by omega⟩, if_pos ⟨trivial, by omega⟩, splc_take_lt _ _ _ _ (Nat.le_refl _) (by rw [hB2, List.length_map, List.length_replicate]; omega), hT2, allS_map]
    rfl

/-- slices.Replace(xs, i, j, v). -/
def repF (bz : Nat) (xs : List α) (i j : Int) : List α → Option (List α)
  | [v] => if 0 ≤ i ∧ i ≤ j ∧ j ≤ (xs.length : Int) ∧ (xs.length + 1) * bz ≤ 140737488355328 then some (xs.take i.toNat ++ [v] ++ xs.drop j.toNat) else none
  | _ => none
theorem repF_ok (z : α) {bz : Nat} (hb : 0 < bz) {xs : List α} {i j : Int} {vs y : List α} (h : repF bz xs i j vs = some y) (s : Nat) : repG z bz (bufOf xs s, (xs.length : Int)) i j vs = some y := by
  unfold repF at h
  split at h
  · obtain ⟨⟨h0, h1, h2, h3⟩, h⟩ := ite_some h rfl
    rw [repG_eq z bz xs _ s i j h0 h1 h2 hb h3, h]
  · cases h
/-- slices.Insert(xs, i, vs...). -/
def insF (bz : Nat) (xs : List α) (i : Int) (vs : List α) : Option (List α) :=
  if 0 ≤ i ∧ i ≤ (xs.length : Int) ∧ (xs.length + vs.length) * bz ≤ 140737488355328 then some (xs.take i.toNat ++ vs ++ xs.drop i.toNat) else none
theorem insF_ok (z : α) {bz : Nat} (hb : 0 < bz) {xs : List α} {i : Int} {vs y : List α} (h : insF bz xs i vs = some y) (s : Nat) : insG z bz (bufOf xs s, (xs.length : Int)) i vs = some y := by
  unfold insF at h
  obtain ⟨⟨h0, h1, h3⟩, h⟩ := ite_some h rfl
  rw [insG_eq z bz xs vs s i h0 h1 hb h3, h]
end
end Go.Ev
