/- What the rows use: arguments read out of the row's reading, and the call out of a contract. -/
import Derived.Test.YtjdlancjbdmkhaaQEvQ
import Derived.Test.YtjdlancjbdmkhaaQEvRd
import Derived.Test.YtjdlancjbdmkhaaQTy
import Derived.SizedLaws
import Derived.ChangeSlices
import Derived.OpenShut
import Derived.Below
namespace Go.Proofs.Ytjdlancjbdmkhaa
open Go Go.Ev Go.RowKit Go.ChangeShapes Go.WideShapes
set_option linter.unusedVariables false
theorem ints_rd {H:Type} {enc:TypeId×Value→H} {W:World} {a:Option Addr} {len cap:Nat} {d:DataW H} {ps:List MemPlace} {base:Nat} {spare:Nat→Bool}
  (h:DataW.Trod enc Try.prog W base spare true 25 (.slice a len cap) d ps) :
  ∃ zs,RdC (fun b=>b < W.heap.size) W (.seq 3 (.int .i64)) zs [.slice a len cap]:=by
 obtain ⟨fuel,hf⟩:=h
 rcases open_ints Try.underlying25 Try.underlying3 (by kernel_rfl) hf with ⟨hcs,_⟩ | ⟨x,l,c,zs,hcs,_,hlc,hm,hz,_,hcell,hwz⟩
 ·simp [Value.cells] at hcs
  obtain ⟨rfl,rfl,rfl⟩:=hcs
  exact ⟨[],none,0,rfl,Nat.le_refl _,.inl rfl⟩
 ·simp [Value.cells] at hcs
  obtain ⟨rfl,rfl,rfl⟩:=hcs
  have hln:len ≤ zs.length:=by
   rw [hz]
   split
   ·exact hlc
   ·exact Nat.le_refl _
  have hlt:(zs.take len).length=len:=List.length_take_of_le hln
  refine ⟨zs.take len,some x,cap,by rw [hlt],by rw [hlt]; exact hlc,?_⟩
  by_cases h0:len=0
  ·left
   rw [h0]
   rfl
  ·right
   obtain ⟨b,off,rfl,hc⟩:=ints_at hcell (by omega)
   have cells:∀ j u,((zs.take len).map (Value.int .i64))[j]?=some u→W.cell? ⟨b,off + j,none⟩=some u:=by
    intro j u hu
    rw [List.getElem?_map,Option.map_eq_some_iff] at hu
    obtain ⟨z,hz1,rfl⟩:=hu
    have hj:j < len:=by
     have:=(List.getElem?_eq_some_iff.1 hz1).1
     omega
    rw [List.getElem?_take,if_pos hj] at hz1
    rw [hc j (by omega),List.getD_eq_getElem?_getD,hz1]; rfl
   refine ⟨b,off,_,rfl,?_,?_,cells⟩
   ·have:0 < (zs.take len).length:=by omega
    exact World.block_lt_of_cell? _ _ (cells 0 _ (by rw [List.getElem?_map,List.getElem?_eq_getElem this]; rfl))
   ·clear hc cells hlt
    generalize zs.take len=ys
    induction ys with
    | nil=>rfl
    | cons y ys ih=>exact ⟨[.int .i64 y],_,rfl,rfl,ih⟩
end Go.Proofs.Ytjdlancjbdmkhaa
