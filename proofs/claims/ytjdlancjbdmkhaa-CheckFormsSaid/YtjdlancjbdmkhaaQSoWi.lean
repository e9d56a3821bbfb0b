/- How the program's comparisons walk: what they answer, and that they turn nothing but lay new blocks. -/
import Derived.Test.YtjdlancjbdmkhaaProg
import Derived.WalkKit
import Derived.Lib.Hide
import Derived.Deep.QuietTactic
import Derived.BigQuiet
import Derived.WalkSpells
import Derived.WalkLawsBesides
import Derived.Deep.RegionHeld3
import Derived.Deep.DeepFit
import Derived.Sort.Grow
namespace Go.Proofs.Ytjdlancjbdmkhaa
open Go.RowKit Go.Sort
theorem cell_of_block {w:World} {b:Nat} {cs:Array Value} {t:TypeId} {fr:Nat×Nat} (h:w.heap[b]?=some (.cells cs t fr)) (j:Nat):w.cell? ⟨b,j,none⟩=cs[j]?:=by
 rw [cell_of_row w b j cs t fr h]
def Grew (w w':World):Prop:=∃ q os,w'=grow (w.drewN q) os
theorem Grew.refl (w:World):Grew w w:=⟨0,#[],by rw [grow_empty]; rfl⟩
theorem Grew.alloc {a w:World} (h:Grew a w) (o:Obj):Grew a (w.alloc o):=by
 obtain ⟨q,os,rfl⟩:=h
 exact ⟨q,os ++ #[o],by rw [alloc_eq_grow,grow_grow]⟩
theorem Grew.drew {a w:World} (h:Grew a w):Grew a w.drew:=by
 obtain ⟨q,os,rfl⟩:=h
 exact ⟨q + 1,os,rfl⟩
theorem Grew.trans {a b c:World} (h:Grew a b) (k:Grew b c):Grew a c:=by
 obtain ⟨q,os,rfl⟩:=h
 obtain ⟨q',os',rfl⟩:=k
 exact ⟨q + q',os ++ os',by rw [show (grow (a.drewN q) os).drewN q'=grow ((a.drewN q).drewN q') os from rfl,grow_grow,World.drewN_drewN]⟩
theorem Grew.heap {w w':World} (h:Grew w w') {b:Nat} (hb:b < w.heap.size):w'.heap[b]?=w.heap[b]?:=by
 obtain ⟨q,os,rfl⟩:=h
 exact Array.getElem?_append_left hb
theorem Grew.cell {w w':World} (h:Grew w w') {p:Addr} {v:Value} (hc:w.cell? p=some v):w'.cell? p=some v :=
 (World.cell?_of_block (h.heap (World.block_lt_of_cell? w p hc))).trans hc
theorem ret_int {k:IntKind} {a b:Int} (h:a=b):Ending.returned (.int k a)=.returned (.int k b):=by rw [h]
def cmpI (a b:Int):Int:=if a < b then -1 else if b < a then 1 else 0
def orI (a b:Int):Int:=if a=0 then b else a
theorem compare_any (a b:Int) (w:World):Calls Try.prog 73 #[.int .i64 a,.int .i64 b] w fun e w'=>e=.returned (.int .i64 (cmpI a b))∧w=w':=by
 obtain ⟨c,hc⟩:∃ c,cmpI a b=c:=⟨_,rfl⟩
 rw [hc]
 have HC:=Lib.hid hc
 clear hc
 go_enter Try.func73,Try.ntmps73
 go_wp2
 all_goals
  go_ret
  refine ⟨ret_int ?_,rfl⟩
  rw [← HC.out]
  simp [cmpI]
  try omega
theorem or_two (a b:Int) {g:Nat} {w:World} (h0:w.cell? ⟨g,0,none⟩=some (.int .i64 a)) (h1:w.cell? ⟨g,1,none⟩=some (.int .i64 b)) :
  Calls Try.prog 72 #[.slice (some ⟨g,0,none⟩) 2 2] w fun e w'=>e=.returned (.int .i64 (orI a b))∧w=w':=by
 unfold orI
 by_cases ha:a=0
 ·subst ha
  rw [if_pos rfl]
  go_enter Try.func72,Try.ntmps72
  go_wp2
  refine wp_loop_rounds 3 ?_
  rw [rounds_succ]
  go_wp2
  rw [rounds_succ]
  by_cases hb:b=0
  ·subst hb
   go_wp2
   rw [rounds_succ]
   go_wp2
   go_ret
   exact ⟨rfl,rfl⟩
  ·have hb':(b != 0)=true:=by rw [bne_iff_ne]; exact hb
   clear hb
   go_wp2
   go_ret
   exact ⟨rfl,rfl⟩
 ·rw [if_neg ha]
  have ha':(a != 0)=true:=by rw [bne_iff_ne]; exact ha
  clear ha
  go_enter Try.func72,Try.ntmps72
  go_wp2
  refine wp_loop_rounds 1 ?_
  rw [rounds_succ]
  go_wp2
  go_ret
  exact ⟨rfl,rfl⟩
def ordI (t q t2 q2:Int):Int:=orI (cmpI t t2) (cmpI q q2)
set_option maxHeartbeats 1000000 in
set_option maxRecDepth 100000 in
theorem order_any (s t q v s2 t2 q2 v2:Int) (w:World):Calls Try.prog 65 #[.agg #[.int .i64 s,.int .i64 t,.int .i64 q,.int .i64 v],.agg #[.int .i64 s2,.int .i64 t2,.int .i64 q2,.int .i64 v2]] w fun e w'=>e=.returned (.int .i64 (ordI t q t2 q2))∧Grew w w':=by
 obtain ⟨b,hb⟩:∃ b,ordI t q t2 q2=b:=⟨_,rfl⟩
 rw [hb]
 have HB:=Lib.hid hb
 clear hb
 go_enter Try.func65,Try.ntmps65
 go_wp2_with fail
 go_region_held3 (fun w'=>w'.cell? ⟨w.heap.size,1,none⟩=some (.int .i64 t)∧w'.cell? ⟨w.heap.size,2,none⟩=some (.int .i64 q)∧w'.cell? ⟨w.heap.size + 1,1,none⟩=some (.int .i64 t2)∧w'.cell? ⟨w.heap.size + 1,2,none⟩=some (.int .i64 q2)) (go_keep) ((first | (go_at_call 73; refine (compare_any _ _ _).mono ?_; rintro e w' ⟨rfl,rfl⟩) | (go_at_call 72; refine (or_two (cmpI t t2) (cmpI q q2) (by go_simp) (by go_simp)).mono ?_; rintro e w' ⟨rfl,rfl⟩)))
 go_wp2
 go_ret
 refine ⟨ret_int ?_,((((Grew.refl _).alloc _).alloc _).alloc _).drew⟩
 rw [← HB.out]
 rfl
set_option maxHeartbeats 2000000 in
set_option maxRecDepth 100000 in
theorem row1_any (s t q v s2 t2 q2 v2:Int) (w:World):Calls Try.prog 71 #[.agg #[.int .i64 s,.int .i64 t,.int .i64 q,.int .i64 v],.agg #[.int .i64 s2,.int .i64 t2,.int .i64 q2,.int .i64 v2]] w fun e w'=>e=.returned (.int .i64 (orI (cmpI s s2) (ordI t q t2 q2)))∧Grew w w':=by
 obtain ⟨b,hb⟩:∃ b,orI (cmpI s s2) (ordI t q t2 q2)=b:=⟨_,rfl⟩
 rw [hb]
 have HB:=Lib.hid hb
 clear hb
 go_enter Try.func71,Try.ntmps71
 go_wp2_with fail
 go_region_held3 (fun w'=>Grew w w'∧w'.cell? ⟨w.heap.size,0,none⟩=some (.int .i64 s)∧w'.cell? ⟨w.heap.size,1,none⟩=some (.int .i64 t)∧w'.cell? ⟨w.heap.size,2,none⟩=some (.int .i64 q)∧w'.cell? ⟨w.heap.size,3,none⟩=some (.int .i64 v)∧w'.cell? ⟨w.heap.size + 1,0,none⟩=some (.int .i64 s2)∧w'.cell? ⟨w.heap.size + 1,1,none⟩=some (.int .i64 t2)∧w'.cell? ⟨w.heap.size + 1,2,none⟩=some (.int .i64 q2)∧w'.cell? ⟨w.heap.size + 1,3,none⟩=some (.int .i64 v2)) (((first | (obtain ⟨k1,k2,k3,k4,k5,k6,k7,k8,k9⟩:=(by assumption:Grew w _∧_)) | skip); (refine ⟨?_,?_,?_,?_,?_,?_,?_,?_,?_⟩ <;> first | go_keep | assumption | exact ((Grew.refl _).alloc _ |>.alloc _).drew | (refine Grew.alloc ?_ _; assumption) | (refine Grew.trans ?_ (by assumption); assumption) | (refine Grew.cell (by assumption) ?_; assumption)))) ((first | (go_at_call 73; refine (compare_any _ _ _).mono ?_; rintro e w' ⟨rfl,rfl⟩) | (go_at_call 65; refine (order_any _ _ _ _ _ _ _ _ _).mono ?_; rintro e w' ⟨rfl,hg⟩) | (go_at_call 72; refine (or_two (cmpI s s2) (ordI t q t2 q2) (by go_simp) (by go_simp)).mono ?_; rintro e w' ⟨rfl,rfl⟩)))
 go_wp2
 go_ret
 exact ⟨congrArg (fun z=>Ending.returned (.int .i64 z)) HB.out,And.left (by assumption)⟩
end Go.Proofs.Ytjdlancjbdmkhaa
