/- slices.SortFunc's family and bits.Len at this program. -/
import Derived.Test.YtohnakoineakdaaGreatQTy
import Derived.Test.YtohnakoineakdaaGreatQEvSo
namespace Go.Proofs.YtohnakoineakdaaGreat
open Go Go.Ev Go.Shelf
set_option maxRecDepth 100000
def sortItems_ren:Ren:=⟨fun | 6=>48 | 15=>81 | 14=>80 | 28=>114 | 29=>115 | 20=>106 | 21=>107 | 22=>108 | 23=>109 | 24=>110 | 25=>111 | 26=>112 | 27=>113 | 46=>139 | 47=>140 | 48=>141 | 49=>142 | 50=>143 | 57=>150 | n=>n,fun | 22=>25 | 24=>60 | 25=>94 | 3=>3 | 39=>46 | 0=>0 | 53=>152 | 55=>154 | 4=>4 | 46=>145 | 45=>144 | 50=>149 | 5=>5 | 9=>9 | 66=>164 | 70=>168 | 76=>175 | 77=>138 | n=>n,fun n=>n⟩
theorem sortItems:SlLaysF0.n6 Tryz.prog sortItems_ren where
 mixed:=mixed
 f6 := ⟨ "slices.SortFunc[[]bourne/api.Item,bourne/api.Item]", by decide, Tryz.func48.trans (congrArg some (by kernel_rfl))⟩
 f14 := ⟨ "slices.pdqsortCmpFunc[bourne/api.Item]", by decide, Tryz.func80.trans (congrArg some (by kernel_rfl))⟩
 f15:=Tryz.func81.trans (congrArg some (by kernel_rfl))
 f20 := ⟨ "slices.insertionSortCmpFunc[bourne/api.Item]", by decide, Tryz.func106.trans (congrArg some (by kernel_rfl))⟩
 f21 := ⟨ "slices.heapSortCmpFunc[bourne/api.Item]", by decide, Tryz.func107.trans (congrArg some (by kernel_rfl))⟩
 f22 := ⟨ "slices.breakPatternsCmpFunc[bourne/api.Item]", by decide, Tryz.func108.trans (congrArg some (by kernel_rfl))⟩
 f23 := ⟨ "slices.choosePivotCmpFunc[bourne/api.Item]", by decide, Tryz.func109.trans (congrArg some (by kernel_rfl))⟩
 f24 := ⟨ "slices.reverseRangeCmpFunc[bourne/api.Item]", by decide, Tryz.func110.trans (congrArg some (by kernel_rfl))⟩
 f25 := ⟨ "slices.partialInsertionSortCmpFunc[bourne/api.Item]", by decide, Tryz.func111.trans (congrArg some (by kernel_rfl))⟩
 f26 := ⟨ "slices.partitionEqualCmpFunc[bourne/api.Item]", by decide, Tryz.func112.trans (congrArg some (by kernel_rfl))⟩
 f27 := ⟨ "slices.partitionCmpFunc[bourne/api.Item]", by decide, Tryz.func113.trans (congrArg some (by kernel_rfl))⟩
 f28:=Tryz.func114.trans (congrArg some (by kernel_rfl))
 f29:=Tryz.func115.trans (congrArg some (by kernel_rfl))
 f46 := ⟨ "slices.siftDownCmpFunc[bourne/api.Item]", by decide, Tryz.func139.trans (congrArg some (by kernel_rfl))⟩
 f47:=Tryz.func140.trans (congrArg some (by kernel_rfl))
 f48:=Tryz.func141.trans (congrArg some (by kernel_rfl))
 f49 := ⟨ "slices.medianAdjacentCmpFunc[bourne/api.Item]", by decide, Tryz.func142.trans (congrArg some (by kernel_rfl))⟩
 f50 := ⟨ "slices.medianCmpFunc[bourne/api.Item]", by decide, Tryz.func143.trans (congrArg some (by kernel_rfl))⟩
 f57 := ⟨ "slices.order2CmpFunc[bourne/api.Item]", by decide, Tryz.func150.trans (congrArg some (by kernel_rfl))⟩
 t0:=Tryz.underlying0
 a0:=Tryz.isAgg0
 z0:=Tryz.sizeOf0
 v0:=Tryz.zeroValue0
 t3:=Tryz.underlying3
 a3:=Tryz.isAgg3
 z3:=Tryz.sizeOf3
 v3:=Tryz.zeroValue3
 t4:=Tryz.underlying4
 a4:=Tryz.isAgg4
 z4:=Tryz.sizeOf4
 v4:=Tryz.zeroValue4
 t5:=Tryz.underlying5
 a5:=Tryz.isAgg5
 z5:=Tryz.sizeOf5
 v5:=Tryz.zeroValue5
 t9:=Tryz.underlying9
 a9:=Tryz.isAgg9
 z9:=Tryz.sizeOf9
 v9:=Tryz.zeroValue9
 t22:=Tryz.underlying25
 a22:=Tryz.isAgg25
 z22:=Tryz.sizeOf25
 v22:=Tryz.zeroValue25
 t25:=Tryz.underlying94
 a25:=Tryz.isAgg94
 z25:=Tryz.sizeOf94
 v25:=Tryz.zeroValue94
 t39:=Tryz.underlying46
 a39:=Tryz.isAgg46
 z39:=Tryz.sizeOf46
 v39:=Tryz.zeroValue46
 t45:=Tryz.underlying144
 a45:=Tryz.isAgg144
 z45:=Tryz.sizeOf144
 v45:=Tryz.zeroValue144
 t46:=Tryz.underlying145
 a46:=Tryz.isAgg145
 z46:=Tryz.sizeOf145
 v46:=Tryz.zeroValue145
 t50:=Tryz.underlying149
 a50:=Tryz.isAgg149
 z50:=Tryz.sizeOf149
 v50:=Tryz.zeroValue149
 t53:=Tryz.underlying152
 a53:=Tryz.isAgg152
 z53:=Tryz.sizeOf152
 v53:=Tryz.zeroValue152
 t55:=Tryz.underlying154
 a55:=Tryz.isAgg154
 z55:=Tryz.sizeOf154
 v55:=Tryz.zeroValue154
 t66:=Tryz.underlying164
 a66:=Tryz.isAgg164
 z66:=Tryz.sizeOf164
 v66:=Tryz.zeroValue164
 t70:=Tryz.underlying168
 a70:=Tryz.isAgg168
 z70:=Tryz.sizeOf168
 v70:=Tryz.zeroValue168
 t76:=Tryz.underlying175
 a76:=Tryz.isAgg175
 z76:=Tryz.sizeOf175
 v76:=Tryz.zeroValue175
 t77:=Tryz.underlying138
 a77:=Tryz.isAgg138
 z77:=Tryz.sizeOf138
 v77:=Tryz.zeroValue138
def sortResults_ren:Ren:=⟨fun | 6=>67 | 15=>81 | 14=>98 | 28=>114 | 29=>115 | 20=>131 | 21=>132 | 22=>133 | 23=>134 | 24=>135 | 25=>136 | 26=>137 | 27=>138 | 46=>147 | 47=>140 | 48=>141 | 49=>148 | 50=>149 | 57=>151 | n=>n,fun | 22=>28 | 24=>53 | 25=>112 | 3=>3 | 39=>46 | 0=>0 | 53=>152 | 55=>154 | 4=>4 | 46=>145 | 45=>144 | 50=>149 | 5=>5 | 9=>9 | 66=>164 | 70=>168 | 76=>175 | 77=>138 | n=>n,fun n=>n⟩
theorem sortResults:SlLaysF0.n6 Tryz.prog sortResults_ren where
 mixed:=mixed
 f6 := ⟨ "slices.SortFunc[[]bourne/api.Result,bourne/api.Result]", by decide, Tryz.func67.trans (congrArg some (by kernel_rfl))⟩
 f14 := ⟨ "slices.pdqsortCmpFunc[bourne/api.Result]", by decide, Tryz.func98.trans (congrArg some (by kernel_rfl))⟩
 f15:=Tryz.func81.trans (congrArg some (by kernel_rfl))
 f20 := ⟨ "slices.insertionSortCmpFunc[bourne/api.Result]", by decide, Tryz.func131.trans (congrArg some (by kernel_rfl))⟩
 f21 := ⟨ "slices.heapSortCmpFunc[bourne/api.Result]", by decide, Tryz.func132.trans (congrArg some (by kernel_rfl))⟩
 f22 := ⟨ "slices.breakPatternsCmpFunc[bourne/api.Result]", by decide, Tryz.func133.trans (congrArg some (by kernel_rfl))⟩
 f23 := ⟨ "slices.choosePivotCmpFunc[bourne/api.Result]", by decide, Tryz.func134.trans (congrArg some (by kernel_rfl))⟩
 f24 := ⟨ "slices.reverseRangeCmpFunc[bourne/api.Result]", by decide, Tryz.func135.trans (congrArg some (by kernel_rfl))⟩
 f25 := ⟨ "slices.partialInsertionSortCmpFunc[bourne/api.Result]", by decide, Tryz.func136.trans (congrArg some (by kernel_rfl))⟩
 f26 := ⟨ "slices.partitionEqualCmpFunc[bourne/api.Result]", by decide, Tryz.func137.trans (congrArg some (by kernel_rfl))⟩
 f27 := ⟨ "slices.partitionCmpFunc[bourne/api.Result]", by decide, Tryz.func138.trans (congrArg some (by kernel_rfl))⟩
 f28:=Tryz.func114.trans (congrArg some (by kernel_rfl))
 f29:=Tryz.func115.trans (congrArg some (by kernel_rfl))
 f46 := ⟨ "slices.siftDownCmpFunc[bourne/api.Result]", by decide, Tryz.func147.trans (congrArg some (by kernel_rfl))⟩
 f47:=Tryz.func140.trans (congrArg some (by kernel_rfl))
 f48:=Tryz.func141.trans (congrArg some (by kernel_rfl))
 f49 := ⟨ "slices.medianAdjacentCmpFunc[bourne/api.Result]", by decide, Tryz.func148.trans (congrArg some (by kernel_rfl))⟩
 f50 := ⟨ "slices.medianCmpFunc[bourne/api.Result]", by decide, Tryz.func149.trans (congrArg some (by kernel_rfl))⟩
 f57 := ⟨ "slices.order2CmpFunc[bourne/api.Result]", by decide, Tryz.func151.trans (congrArg some (by kernel_rfl))⟩
 t0:=Tryz.underlying0
 a0:=Tryz.isAgg0
 z0:=Tryz.sizeOf0
 v0:=Tryz.zeroValue0
 t3:=Tryz.underlying3
 a3:=Tryz.isAgg3
 z3:=Tryz.sizeOf3
 v3:=Tryz.zeroValue3
 t4:=Tryz.underlying4
 a4:=Tryz.isAgg4
 z4:=Tryz.sizeOf4
 v4:=Tryz.zeroValue4
 t5:=Tryz.underlying5
 a5:=Tryz.isAgg5
 z5:=Tryz.sizeOf5
 v5:=Tryz.zeroValue5
 t9:=Tryz.underlying9
 a9:=Tryz.isAgg9
 z9:=Tryz.sizeOf9
 v9:=Tryz.zeroValue9
 t22:=Tryz.underlying28
 a22:=Tryz.isAgg28
 z22:=Tryz.sizeOf28
 v22:=Tryz.zeroValue28
 t25:=Tryz.underlying112
 a25:=Tryz.isAgg112
 z25:=Tryz.sizeOf112
 v25:=Tryz.zeroValue112
 t39:=Tryz.underlying46
 a39:=Tryz.isAgg46
 z39:=Tryz.sizeOf46
 v39:=Tryz.zeroValue46
 t45:=Tryz.underlying144
 a45:=Tryz.isAgg144
 z45:=Tryz.sizeOf144
 v45:=Tryz.zeroValue144
 t46:=Tryz.underlying145
 a46:=Tryz.isAgg145
 z46:=Tryz.sizeOf145
 v46:=Tryz.zeroValue145
 t50:=Tryz.underlying149
 a50:=Tryz.isAgg149
 z50:=Tryz.sizeOf149
 v50:=Tryz.zeroValue149
 t53:=Tryz.underlying152
 a53:=Tryz.isAgg152
 z53:=Tryz.sizeOf152
 v53:=Tryz.zeroValue152
 t55:=Tryz.underlying154
 a55:=Tryz.isAgg154
 z55:=Tryz.sizeOf154
 v55:=Tryz.zeroValue154
 t66:=Tryz.underlying164
 a66:=Tryz.isAgg164
 z66:=Tryz.sizeOf164
 v66:=Tryz.zeroValue164
 t70:=Tryz.underlying168
 a70:=Tryz.isAgg168
 z70:=Tryz.sizeOf168
 v70:=Tryz.zeroValue168
 t76:=Tryz.underlying175
 a76:=Tryz.isAgg175
 z76:=Tryz.sizeOf175
 v76:=Tryz.zeroValue175
 t77:=Tryz.underlying138
 a77:=Tryz.isAgg138
 z77:=Tryz.sizeOf138
 v77:=Tryz.zeroValue138
noncomputable def bits_Len (n:Nat) (a0:Int):Option Int:=if 0 ≤ a0∧a0 ≤ 18446744073709551615 then some (Lib.bitLen a0.toNat:Nat) else none
noncomputable def c81:Con:=⟨[.val false (.int .u64)],[(false,.val (.int .i64))],fun n x=>bits_Len n x.1⟩
theorem c81_F (n:Nat) (a0:Int):c81.F n (a0,())=bits_Len n a0:=rfl
theorem c81_ok:ConOK Tryz.prog 81 c81:=by
 refine ⟨enters_of Tryz.func81 (by kernel_rfl) rfl,fun n x y hy w J I vals B hlt hBn hBs hpre=>?_⟩
 obtain ⟨a0,_⟩:=x
 obtain ⟨v,vs1,B1,B2,rfl,rfl,⟨⟨vs,h1,h2⟩,rfl⟩,rfl,rfl⟩:=hpre
 rw [show vs=_ from h1] at h2
 have h2:[_]=[v]:=h2
 simp only [List.cons.injEq,and_true] at h2
 subst h2
 have hy:(if 0 ≤ a0∧a0 ≤ 18446744073709551615 then some ((Lib.bitLen a0.toNat:Nat):Int) else none)=some y:=hy
 by_cases hc:0 ≤ a0∧a0 ≤ 18446744073709551615
 ·rw [if_pos hc] at hy
  have hb:=Any.bits_Len (SlLaysF0.n15.bits (P:=Tryz.prog) (ρ:=sortItems_ren) { sortItems with }) a0 w hc.1 hc.2
  refine hb.mono ?_
  rintro e w' ⟨rfl,rfl⟩
  cases hy
  exact ⟨[_],I,[],[],rfl,⟨_,[_],rfl,⟨rfl,rfl⟩,rfl⟩,⟨rfl,rfl⟩,OnlyP.refl _ _,fun _ h=>h,fun b h=>⟨.inl h,hlt b (.inl h)⟩,by simp,by simp⟩
 ·rw [if_neg hc] at hy; cases hy
end Go.Proofs.YtohnakoineakdaaGreat
