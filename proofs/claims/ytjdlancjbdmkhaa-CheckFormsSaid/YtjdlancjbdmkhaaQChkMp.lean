/- The equations of the printed functions, with the callees by name. -/
import Derived.Test.YtjdlancjbdmkhaaQChkM
namespace Go.Proofs.Ytjdlancjbdmkhaa
open Go Go.Ev
set_option maxRecDepth 100000
set_option linter.unusedVariables false
theorem spec_may_l0_S (n:Nat) (m0:Nat) (a0:tC) (a1:List tI) (a2:List Int) (v0_5:Int) (v0_6:List (Int×Bool)):spec_may_l0 n c42.F c20.F c39.F c70.F a0 a1 a2 (m0 + 1) v0_5 v0_6=(bif decide (v0_5 < (a1.length:Int)) then if (0:Int)≤v0_5∧v0_5 < (a1.length:Int) then Option.bind (α:=Bool) (acc_ItemMay n (a1.getD v0_5.toNat ((0:Int),(0:Int),(0:Int),(0:Int)))) fun r0↦bif !r0 then some false else if wfI (a1.getD v0_5.toNat ((0:Int),(0:Int),(0:Int),(0:Int))).snd.snd.fst=true then bif mget v0_6 (a1.getD v0_5.toNat ((0:Int),(0:Int),(0:Int),(0:Int))).snd.snd.fst then some false else if wfI (a1.getD v0_5.toNat ((0:Int),(0:Int),(0:Int),(0:Int))).snd.snd.fst=true then (spec_may_l0 n c42.F c20.F c39.F c70.F a0 a1 a2 m0) (IntKind.i64.wrap (v0_5 + (1:Int))) (((a1.getD v0_5.toNat ((0:Int),(0:Int),(0:Int),(0:Int))).snd.snd.fst,true) :: v0_6) else none else none else none else Option.bind (α:=Bool) (admit_May n (a0)) fun r1↦bif r1 then bif decide ((a1.length:Int)≤(8192:Int)) then Option.bind (α:=Bool) (slices_ContainsFunc_int_int n (a2) (())) fun r2↦bif !r2 then Option.bind (α:=Bool) (slices_IsSorted_int_int n (a2)) fun r3↦some r3 else some false else some false else some false):=by kernel_rfl
theorem spec_may_S (n:Nat) (a0:tC) (a1:List tI) (a2:List Int):spec_may n a0 a1 a2=((fun a0 a1 a2 m v0_5 v0_6=>spec_may_l0 n c42.F c20.F c39.F c70.F a0 a1 a2 m v0_5 v0_6) a0 a1 a2 n (0:Int) (nl (Int×Bool))):=by kernel_rfl
end Go.Proofs.Ytjdlancjbdmkhaa
