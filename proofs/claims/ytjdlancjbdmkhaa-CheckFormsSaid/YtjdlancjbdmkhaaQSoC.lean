/- slices.SortFunc by the program's comparisons, as contracts. -/
import Derived.Test.YtjdlancjbdmkhaaQSoL
import Derived.Test.YtjdlancjbdmkhaaQSoWi
import Derived.Test.YtjdlancjbdmkhaaQSpecZ
namespace Go.Proofs.Ytjdlancjbdmkhaa
open Go Go.Ev Go.Shelf Go.Sort
set_option maxRecDepth 100000
theorem rd4 {I:Nat→Prop} {w:World} {x:Int×Int×Int×Int} {vs:List Value} (h:RdC I w (.pair (.int .i64) (.pair (.int .i64) (.pair (.int .i64) (.int .i64)))) x vs):vs=[.int .i64 x.1,.int .i64 x.2.1,.int .i64 x.2.2.1,.int .i64 x.2.2.2]:=by
 obtain ⟨v1,v2,e1,h1,v3,v4,e2,h2,v5,v6,e3,h3,h4⟩:=h
 rw [e1,e2,e3,show v1=_ from h1,show v3=_ from h2,show v5=_ from h3,show v6=_ from h4]
 rfl
theorem rd7 {I:Nat→Prop} {w:World} {x:Int×Int×(Int×Int)×Int×Bool×List Int} {vs:List Value} {e:TypeId} (h:RdC I w (.pair (.int .i64) (.pair (.int .i64) (.pair (.pair (.int .i64) (.int .i64)) (.pair (.int .i64) (.pair .bool (.seq e (.int .i64))))))) x vs):∃ o h,vs=[.int .i64 x.1,.int .i64 x.2.1,.int .i64 x.2.2.1.1,.int .i64 x.2.2.1.2,.int .i64 x.2.2.2.1,o,h]:=by
 obtain ⟨v1,v2,e1,h1,v3,v4,e2,h2,v5,v6,e3,⟨v7,v8,e4,h3,h4⟩,v9,v10,e5,h5,v11,v12,e6,h6,⟨a,c,e7,_⟩⟩:=h
 refine ⟨.bool x.2.2.2.2.1,.slice a x.2.2.2.2.2.length c,?_⟩
 rw [e1,e2,e3,e4,e5,e6,e7,show v1=_ from h1,show v3=_ from h2,show v7=_ from h3,show v8=_ from h4,show v9=_ from h5,show v11=_ from h6]
 rfl
def cfOrd (x y:Int×Int×Int×Int):Int:=ordI x.2.1 x.2.2.1 y.2.1 y.2.2.1
def cfRow (x y:Int×Int×Int×Int):Int:=orI (cmpI x.1 y.1) (cfOrd x y)
def cfRes (x y:Int×Int×(Int×Int)×Int×Bool×List Int):Int:=orI (cmpI x.2.2.1.2 y.2.2.1.2) (orI (cmpI x.1 y.1) (orI (cmpI x.2.1 y.2.1) (cmpI x.2.2.1.1 y.2.2.1.1)))
theorem orI_neg (a b:Int):orI a b < 0 ↔ a < 0 ∨ a=0∧b < 0:=by unfold orI; by_cases h:a=0 <;> simp [h]
theorem cmpI_neg (a b:Int):cmpI a b < 0 ↔ a < b:=by unfold cmpI; by_cases h:a < b; simp [h]; by_cases h2:b < a <;> simp [h,h2]
theorem cmpI_zero (a b:Int):cmpI a b=0 ↔ a=b:=by unfold cmpI; by_cases h:a < b; (simp [h]; omega); by_cases h2:b < a; (simp [h,h2]; omega); simp [h,h2]; omega
theorem cfOrd_neg (x y:Int×Int×Int×Int):cfOrd x y < 0 ↔ x.2.1 < y.2.1 ∨ x.2.1=y.2.1∧x.2.2.1 < y.2.2.1:=by simp only [cfOrd,ordI,orI_neg,cmpI_neg,cmpI_zero]
theorem cfRow_neg (x y:Int×Int×Int×Int):cfRow x y < 0 ↔ x.1 < y.1 ∨ x.1=y.1∧(x.2.1 < y.2.1 ∨ x.2.1=y.2.1∧x.2.2.1 < y.2.2.1):=by simp only [cfRow,cfOrd_neg,orI_neg,cmpI_neg,cmpI_zero]
theorem cfRes_neg (x y:Int×Int×(Int×Int)×Int×Bool×List Int):cfRes x y < 0 ↔ x.2.2.1.2 < y.2.2.1.2 ∨ x.2.2.1.2=y.2.2.1.2∧(x.1 < y.1 ∨ x.1=y.1∧(x.2.1 < y.2.1 ∨ x.2.1=y.2.1∧x.2.2.1.1 < y.2.2.1.1)):=by simp only [cfRes,orI_neg,cmpI_neg,cmpI_zero]
noncomputable def slices_SortFunc_row (n:Nat) (a0:List (Int×Int×Int×Int)) (a1:PUnit):Option (List (Int×Int×Int×Int)):=sortCF cfRow a0
noncomputable def c64a:Con:=⟨[.iov 44 (.pair (.int .i64) (.pair (.int .i64) (.pair (.int .i64) (.int .i64)))),.clo 71 []],[],fun n x=>slices_SortFunc_row n x.1 x.2.1⟩
theorem c64a_F (n:Nat) (a0:List (Int×Int×Int×Int)) (a1:PUnit):c64a.F n (a0,a1,())=slices_SortFunc_row n a0 a1:=rfl
theorem c64a_ok:ConOK Try.prog 64 c64a:=sort_con sortItems (k:=(.pair (.int .i64) (.pair (.int .i64) (.pair (.int .i64) (.int .i64))))) (by decide) Try.isAgg44 Try.sizeOf44 44 (g:=71) (enters_of Try.func71 (by kernel_rfl) rfl) cfRow
 (fun x=>by simp only [cfRow_neg]; simp) (fun x y z=>by simp only [cfRow_neg,decide_eq_true_eq]; omega) (fun x y z=>by simp only [cfRow_neg,decide_eq_false_iff_not]; omega)
 (fun I w x y vx vy h1 h2=>by rw [rd4 h1,rd4 h2]; exact row1_any _ _ _ _ _ _ _ _ w)
 c64za_ok 100 (fun x=>by kernel_rfl)
noncomputable def slices_SortFunc_ord (n:Nat) (a0:List (Int×Int×Int×Int)) (a1:PUnit):Option (List (Int×Int×Int×Int)):=sortCF cfOrd a0
noncomputable def c64b:Con:=⟨[.iov 44 (.pair (.int .i64) (.pair (.int .i64) (.pair (.int .i64) (.int .i64)))),.clo 65 []],[],fun n x=>slices_SortFunc_ord n x.1 x.2.1⟩
theorem c64b_F (n:Nat) (a0:List (Int×Int×Int×Int)) (a1:PUnit):c64b.F n (a0,a1,())=slices_SortFunc_ord n a0 a1:=rfl
theorem c64b_ok:ConOK Try.prog 64 c64b:=sort_con sortItems (k:=(.pair (.int .i64) (.pair (.int .i64) (.pair (.int .i64) (.int .i64))))) (by decide) Try.isAgg44 Try.sizeOf44 44 (g:=65) (enters_of Try.func65 (by kernel_rfl) rfl) cfOrd
 (fun x=>by simp only [cfOrd_neg]; simp) (fun x y z=>by simp only [cfOrd_neg,decide_eq_true_eq]; omega) (fun x y z=>by simp only [cfOrd_neg,decide_eq_false_iff_not]; omega)
 (fun I w x y vx vy h1 h2=>by rw [rd4 h1,rd4 h2]; exact order_any _ _ _ _ _ _ _ _ w)
 c64zb_ok 100 (fun x=>by kernel_rfl)
end Go.Proofs.Ytjdlancjbdmkhaa
