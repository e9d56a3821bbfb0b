/- slices.SortFunc's family and bits.Len at this program. -/
import Derived.Test.YtjdlancjbdmkhaaQTy
import Derived.Test.YtjdlancjbdmkhaaQEvSo
namespace Go.Proofs.Ytjdlancjbdmkhaa
open Go Go.Ev Go.Shelf
set_option maxRecDepth 100000
def sortItems_ren:Ren:=⟨fun | 6=>64 | 15=>78 | 14=>77 | 28=>93 | 29=>94 | 20=>85 | 21=>86 | 22=>87 | 23=>88 | 24=>89 | 25=>90 | 26=>91 | 27=>92 | 46=>96 | 47=>97 | 48=>98 | 49=>99 | 50=>100 | 57=>102 | n=>n,fun | 22=>26 | 24=>44 | 25=>110 | 3=>3 | 39=>39 | 0=>0 | 53=>136 | 55=>71 | 4=>4 | 46=>129 | 45=>128 | 50=>133 | 5=>5 | 9=>9 | 66=>138 | 70=>142 | 76=>144 | 77=>145 | n=>n,fun n=>n⟩
theorem sortItems:SlLaysF0.n6 Try.prog sortItems_ren where
 mixed:=mixed
 f6 := ⟨ "slices.SortFunc[[]bourne/api.Item,bourne/api.Item]", by decide, Try.func64.trans (congrArg some (by kernel_rfl))⟩
 f14 := ⟨ "slices.pdqsortCmpFunc[bourne/api.Item]", by decide, Try.func77.trans (congrArg some (by kernel_rfl))⟩
 f15:=Try.func78.trans (congrArg some (by kernel_rfl))
 f20 := ⟨ "slices.insertionSortCmpFunc[bourne/api.Item]", by decide, Try.func85.trans (congrArg some (by kernel_rfl))⟩
 f21 := ⟨ "slices.heapSortCmpFunc[bourne/api.Item]", by decide, Try.func86.trans (congrArg some (by kernel_rfl))⟩
 f22 := ⟨ "slices.breakPatternsCmpFunc[bourne/api.Item]", by decide, Try.func87.trans (congrArg some (by kernel_rfl))⟩
 f23 := ⟨ "slices.choosePivotCmpFunc[bourne/api.Item]", by decide, Try.func88.trans (congrArg some (by kernel_rfl))⟩
 f24 := ⟨ "slices.reverseRangeCmpFunc[bourne/api.Item]", by decide, Try.func89.trans (congrArg some (by kernel_rfl))⟩
 f25 := ⟨ "slices.partialInsertionSortCmpFunc[bourne/api.Item]", by decide, Try.func90.trans (congrArg some (by kernel_rfl))⟩
 f26 := ⟨ "slices.partitionEqualCmpFunc[bourne/api.Item]", by decide, Try.func91.trans (congrArg some (by kernel_rfl))⟩
 f27 := ⟨ "slices.partitionCmpFunc[bourne/api.Item]", by decide, Try.func92.trans (congrArg some (by kernel_rfl))⟩
 f28:=Try.func93.trans (congrArg some (by kernel_rfl))
 f29:=Try.func94.trans (congrArg some (by kernel_rfl))
 f46 := ⟨ "slices.siftDownCmpFunc[bourne/api.Item]", by decide, Try.func96.trans (congrArg some (by kernel_rfl))⟩
 f47:=Try.func97.trans (congrArg some (by kernel_rfl))
 f48:=Try.func98.trans (congrArg some (by kernel_rfl))
 f49 := ⟨ "slices.medianAdjacentCmpFunc[bourne/api.Item]", by decide, Try.func99.trans (congrArg some (by kernel_rfl))⟩
 f50 := ⟨ "slices.medianCmpFunc[bourne/api.Item]", by decide, Try.func100.trans (congrArg some (by kernel_rfl))⟩
 f57 := ⟨ "slices.order2CmpFunc[bourne/api.Item]", by decide, Try.func102.trans (congrArg some (by kernel_rfl))⟩
 t0:=Try.underlying0
 a0:=Try.isAgg0
 z0:=Try.sizeOf0
 v0:=Try.zeroValue0
 t3:=Try.underlying3
 a3:=Try.isAgg3
 z3:=Try.sizeOf3
 v3:=Try.zeroValue3
 t4:=Try.underlying4
 a4:=Try.isAgg4
 z4:=Try.sizeOf4
 v4:=Try.zeroValue4
 t5:=Try.underlying5
 a5:=Try.isAgg5
 z5:=Try.sizeOf5
 v5:=Try.zeroValue5
 t9:=Try.underlying9
 a9:=Try.isAgg9
 z9:=Try.sizeOf9
 v9:=Try.zeroValue9
 t22:=Try.underlying26
 a22:=Try.isAgg26
 z22:=Try.sizeOf26
 v22:=Try.zeroValue26
 t25:=Try.underlying110
 a25:=Try.isAgg110
 z25:=Try.sizeOf110
 v25:=Try.zeroValue110
 t39:=Try.underlying39
 a39:=Try.isAgg39
 z39:=Try.sizeOf39
 v39:=Try.zeroValue39
 t45:=Try.underlying128
 a45:=Try.isAgg128
 z45:=Try.sizeOf128
 v45:=Try.zeroValue128
 t46:=Try.underlying129
 a46:=Try.isAgg129
 z46:=Try.sizeOf129
 v46:=Try.zeroValue129
 t50:=Try.underlying133
 a50:=Try.isAgg133
 z50:=Try.sizeOf133
 v50:=Try.zeroValue133
 t53:=Try.underlying136
 a53:=Try.isAgg136
 z53:=Try.sizeOf136
 v53:=Try.zeroValue136
 t55:=Try.underlying71
 a55:=Try.isAgg71
 z55:=Try.sizeOf71
 v55:=Try.zeroValue71
 t66:=Try.underlying138
 a66:=Try.isAgg138
 z66:=Try.sizeOf138
 v66:=Try.zeroValue138
 t70:=Try.underlying142
 a70:=Try.isAgg142
 z70:=Try.sizeOf142
 v70:=Try.zeroValue142
 t76:=Try.underlying144
 a76:=Try.isAgg144
 z76:=Try.sizeOf144
 v76:=Try.zeroValue144
 t77:=Try.underlying145
 a77:=Try.isAgg145
 z77:=Try.sizeOf145
 v77:=Try.zeroValue145
noncomputable def bits_Len (n:Nat) (a0:Int):Option Int:=if 0 ≤ a0∧a0 ≤ 18446744073709551615 then some (Lib.bitLen a0.toNat:Nat) else none
noncomputable def c78:Con:=⟨[.val false (.int .u64)],[(false,.val (.int .i64))],fun n x=>bits_Len n x.1⟩
theorem c78_F (n:Nat) (a0:Int):c78.F n (a0,())=bits_Len n a0:=rfl
theorem c78_ok:ConOK Try.prog 78 c78:=by
 refine ⟨enters_of Try.func78 (by kernel_rfl) rfl,fun n x y hy w J I vals B hlt hBn hBs hpre=>?_⟩
 obtain ⟨a0,_⟩:=x
 obtain ⟨v,vs1,B1,B2,rfl,rfl,⟨⟨vs,h1,h2⟩,rfl⟩,rfl,rfl⟩:=hpre
 rw [show vs=_ from h1] at h2
 have h2:[_]=[v]:=h2
 simp only [List.cons.injEq,and_true] at h2
 subst h2
 have hy:(if 0 ≤ a0∧a0 ≤ 18446744073709551615 then some ((Lib.bitLen a0.toNat:Nat):Int) else none)=some y:=hy
 by_cases hc:0 ≤ a0∧a0 ≤ 18446744073709551615
 ·rw [if_pos hc] at hy
  have hb:=Any.bits_Len (SlLaysF0.n15.bits (P:=Try.prog) (ρ:=sortItems_ren) { sortItems with }) a0 w hc.1 hc.2
  refine hb.mono ?_
  rintro e w' ⟨rfl,rfl⟩
  cases hy
  exact ⟨[_],I,[],[],rfl,⟨_,[_],rfl,⟨rfl,rfl⟩,rfl⟩,⟨rfl,rfl⟩,OnlyP.refl _ _,fun _ h=>h,fun b h=>⟨.inl h,hlt b (.inl h)⟩,by simp,by simp⟩
 ·rw [if_neg hc] at hy; cases hy
end Go.Proofs.Ytjdlancjbdmkhaa
