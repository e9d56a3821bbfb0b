/- What the functions come to, in plain Lean, and what holds of it. -/
import Derived.Test.YtohnakoineakdaaGreatQSpecAp
import Derived.Test.YtohnakoineakdaaGreatQSpecCp
import Derived.Test.YtohnakoineakdaaGreatQSpecFp
import Derived.Test.YtohnakoineakdaaGreatQSpecV
import Derived.Test.YtohnakoineakdaaGreatQSpecW
import Derived.Test.YtohnakoineakdaaGreatQSpecDp
import Derived.Test.YtohnakoineakdaaGreatQSpecBp
import Derived.Test.YtohnakoineakdaaGreatQSpecEp
import Derived.Test.YtohnakoineakdaaGreatQSpecHp
namespace Go.Proofs.YtohnakoineakdaaGreat
open Go Go.Ev
set_option linter.unusedVariables false
set_option linter.unusedSimpArgs false
abbrev IT:=Int×Int×Int×Int
abbrev AC:=Int×Int×Int×Int×IT×IT×List Int
def IT0:IT:=(0,0,0,0)
def AC0:AC:=(0,0,0,0,(0,0,0,0),(0,0,0,0),[])
theorem wrapOK {x:Int} (h0:-9223372036854775808 ≤ x) (h1:x ≤ 9223372036854775807):Go.IntKind.i64.wrap x=x:=by
 rw [IntKind.wrap_i64]; omega
theorem wrapS {i:Nat} (h:i < 4611686018427387904):Go.IntKind.i64.wrap ((i:Int) + 1)=((i + 1:Nat):Int):=by
 rw [wrapOK] <;> omega
theorem wrapP {i:Nat} (h0:0 < i) (h:i < 4611686018427387904):Go.IntKind.i64.wrap ((i:Int) - 1)=((i - 1:Nat):Int):=by
 rw [wrapOK] <;> omega
theorem getLt {α:Type} {xs:List α} {i:Nat} (h:i < xs.length) (d:α):xs.getD i d=xs[i]:=by
 simp [List.getD,h]
theorem dropLt {α:Type} {xs:List α} {i:Nat} (h:i < xs.length):xs.drop i=xs[i] :: xs.drop (i + 1):=List.drop_eq_getElem_cons h
theorem sucM {k m:Nat} (h:k < m):∃ m',m=m' + 1∧k ≤ m':=⟨m - 1,by omega,by omega⟩
theorem decLe (x y:Int):decide (x ≤ y)=!decide (y < x):=by by_cases h:x ≤ y <;> simp [h] <;> omega
theorem decLt (x y:Int):decide (x < y)=!decide (y ≤ x):=by by_cases h:x < y <;> simp [h] <;> omega
def inV (x:Int):Bool:=decide (-1099511627776 ≤ x∧x ≤ 1099511627776)
theorem within_eq (n:Nat) (x:Int):acc_within n x 1099511627776=some (inV x):=by
 have w:Go.IntKind.i64.wrap (0 - 1099511627776)=-1099511627776:=by rw [wrapOK] <;> omega
 unfold acc_within inV
 rw [w]
 by_cases h:-1099511627776 ≤ x <;> simp [h,GE.ge]
def itemMay (x:IT):Bool:=decide (0 ≤ x.1) && (decide (x.1 ≤ 1048575) && (inV x.2.1 && (decide (1 ≤ x.2.2.1) && (decide (x.2.2.1 ≤ 1073741823) && inV x.2.2.2))))
theorem ItemMay_eq (n:Nat) (x:IT):acc_ItemMay n x=some (itemMay x):=by
 unfold itemMay
 simp only [acc_ItemMay_S,within_eq,Option.bind_some,GE.ge]
 cases decide (0 ≤ x.1) <;> cases decide (x.1 ≤ 1048575) <;> cases inV x.2.1 <;> cases decide (1 ≤ x.2.2.1) <;> cases decide (x.2.2.1 ≤ 1073741823) <;> rfl
def cmpA (a b:Int):Int:=if a < b then -1 else if b < a then 1 else 0
theorem Compare_eq (n:Nat) (a b:Int):cmp_Compare_int n a b=some (cmpA a b):=by
 unfold cmpA
 simp only [cmp_Compare_int_S,cmp_isNaN_int,bne_self_eq_false,Option.bind_some,cond_false,GT.gt]
 by_cases h:a < b
 ·simp [h]
 ·by_cases g:b < a <;> simp [h,g]
theorem Or_eq (n:Nat) (hn:3 ≤ n) (a b:Int):cmp_Or_int n [a,b]=some (if a=0 then b else a):=by
 obtain ⟨n,rfl⟩:∃ k,n=k + 3:=⟨n - 3,by omega⟩
 have w1:Go.IntKind.i64.wrap (0 + 1)=1:=by rw [wrapOK] <;> omega
 have w2:Go.IntKind.i64.wrap (1 + 1)=2:=by rw [wrapOK] <;> omega
 simp only [cmp_Or_int_S,cmp_Or_int_l0_S,w1,w2]
 by_cases h:a=0
 ·by_cases g:b=0
  ·simp [h,g]
  ·have gb:(b != 0)=true:=by simp [g]
   simp [h,gb]
 ·have gb:(a != 0)=true:=by simp [h]
  simp [h,gb]
def ord (a b:IT):Int:=if cmpA a.2.1 b.2.1=0 then cmpA a.2.2.1 b.2.2.1 else cmpA a.2.1 b.2.1
theorem Order_eq (n:Nat) (hn:3 ≤ n) (a b:IT):acc_Order n a b=some (ord a b):=by
 have e (x y:Int):((List.replicate 2 (0:Int)).set 0 x).set 1 y=[x,y]:=rfl
 simp only [acc_Order_S,ord,Compare_eq,e,Or_eq n hn,Option.bind_some]
def bndFrom (p:Option Int):List Int→Bool
 | []=>true
 | b :: bs=>inV b && ((match p with | none=>true | some q=>decide (q < b)) && bndFrom (some b) bs)
def boundsMay (bs:List Int):Bool:=decide (bs.length ≤ 8) && bndFrom none bs
theorem bnd_l0 (n:Nat) (bs:List Int) (hb:bs.length ≤ 8):∀ (k m i:Nat),i + k=bs.length→k < m→acc_BoundsMay_l0 n c82.F bs m (i:Int)=some (bndFrom (if i=0 then none else some (bs.getD (i - 1) 0)) (bs.drop i)):=by
 intro k
 induction k with
 | zero =>
  intro m i hi hm
  obtain ⟨m,rfl,hm⟩:=sucM hm
  rw [acc_BoundsMay_l0_S]
  have:bs.drop i=[]:=List.drop_eq_nil_of_le (by omega)
  have h1:¬ ((i:Int) < (bs.length:Int)):=by omega
  simp [this,h1,bndFrom]
 | succ k ih =>
  intro m i hi hm
  obtain ⟨m,rfl,hm⟩:=sucM hm
  have hlt:i < bs.length:=by omega
  rw [acc_BoundsMay_l0_S,dropLt hlt]
  have h1:((i:Int) < (bs.length:Int)):=by omega
  have h2:(0:Int) ≤ (i:Int):=by omega
  have ih':=ih m (i + 1) (by omega) (by omega)
  simp only [within_eq,Option.bind_some,h1,h2,and_self,if_true,decide_true,cond_true,Int.toNat_natCast,getLt hlt,wrapS (i:=i) (by omega),ih',bndFrom]
  rw [if_neg (by omega:¬ i + 1=0)]
  have e1:bs.getD (i + 1 - 1) 0=bs[i]:=by simp [List.getD,hlt]
  rw [e1]
  by_cases h0:i=0
  ·subst h0
   cases inV bs[0] <;> simp
  ·have hp:(0:Int) < (i:Int):=by omega
   have hq:(0:Int) ≤ ((i - 1:Nat):Int)∧((i - 1:Nat):Int) < (bs.length:Int):=by omega
   simp only [GT.gt,hp,decide_true,cond_true,wrapP (i:=i) (by omega) (by omega),hq,and_self,if_true,Int.toNat_natCast,if_neg h0]
   have:decide (bs.getD (i - 1) 0 ≥ bs[i])=! decide (bs.getD (i - 1) 0 < bs[i]):=decLe _ _
   rw [this]
   cases inV bs[i] <;> cases decide (bs.getD (i - 1) 0 < bs[i]) <;> simp
theorem BoundsMay_eq (n:Nat) (hn:10 ≤ n) (bs:List Int):acc_BoundsMay n bs=some (boundsMay bs):=by
 rw [acc_BoundsMay_S]; unfold boundsMay
 by_cases h:bs.length ≤ 8
 ·have h1:¬ ((8:Int) < (bs.length:Int)):=by omega
  have:=bnd_l0 n bs h bs.length n 0 (by omega) (by omega)
  simp [GT.gt,h1,h] at this ⊢
  exact this
 ·have h1:((8:Int) < (bs.length:Int)):=by omega
  simp [GT.gt,h1,h]
def inN (x:Int):Bool:=decide (0 ≤ x) && decide (x ≤ 8192)
def histMay (a:AC) (bs:List Int):Bool:=a.2.2.2.2.2.2.all inN && (decide (a.2.2.2.2.2.2.length=bs.length + 1) && decide (a.2.2.2.2.2.2.sum=a.1))
theorem hist_l0 (n:Nat) (a:AC) (bs:List Int) (ha:a.2.2.2.2.2.2.length ≤ 9) (hb:bs.length ≤ 8):∀ (k m i:Nat) (s:Int),i + k=a.2.2.2.2.2.2.length→k < m→0 ≤ s→s ≤ 8192 * i→acc_hist_l0 n a bs m s (i:Int)=some ((a.2.2.2.2.2.2.drop i).all inN && (decide (a.2.2.2.2.2.2.length=bs.length + 1) && decide (s + (a.2.2.2.2.2.2.drop i).sum=a.1))):=by
 intro k
 induction k with
 | zero =>
  intro m i s hi hm h0 hs
  obtain ⟨m,rfl,hm⟩:=sucM hm
  rw [acc_hist_l0_S]
  have:a.2.2.2.2.2.2.drop i=[]:=List.drop_eq_nil_of_le (by omega)
  have h1:¬ ((i:Int) < (a.2.2.2.2.2.2.length:Int)):=by omega
  rw [wrapS (i:=bs.length) (by omega)]
  simp only [this,h1,decide_false,cond_false,List.all_nil,Bool.true_and,List.sum_nil,Int.add_zero]
  by_cases h:a.2.2.2.2.2.2.length=bs.length + 1
  ·have e:((a.2.2.2.2.2.2.length:Int) == ((bs.length + 1:Nat):Int))=true:=by simp; omega
   rw [e]
   simp only [cond_true,h,decide_true,Bool.true_and]
   congr 1
  ·have e:((a.2.2.2.2.2.2.length:Int) == ((bs.length + 1:Nat):Int))=false:=by simp; omega
   rw [e]
   simp [h]
 | succ k ih =>
  intro m i s hi hm h0 hs
  obtain ⟨m,rfl,hm⟩:=sucM hm
  have hlt:i < a.2.2.2.2.2.2.length:=by omega
  rw [acc_hist_l0_S,dropLt hlt]
  have h1:((i:Int) < (a.2.2.2.2.2.2.length:Int)):=by omega
  have h2:(0:Int) ≤ (i:Int):=by omega
  simp only [h1,h2,and_self,if_true,decide_true,cond_true,Int.toNat_natCast,getLt hlt,wrapS (i:=i) (by omega),List.all_cons,List.sum_cons]
  by_cases g0:a.2.2.2.2.2.2[i] < 0
  ·simp [inN,g0,Int.not_le.2 g0]
  by_cases g1:a.2.2.2.2.2.2[i] > 8192
  case pos =>
   have:¬ a.2.2.2.2.2.2[i] ≤ 8192:=by omega
   simp [inN,g0,g1,this]
  ·have e:inN a.2.2.2.2.2.2[i]=true:=by simp [inN]; omega
   simp only [g0,g1,decide_false,cond_false,e,Bool.true_and]
   rw [wrapOK (by omega) (by omega),ih m (i + 1) _ (by omega) (by omega) (by omega) (by omega)]; simp only [Int.add_assoc]; rfl
theorem hist_eq (n:Nat) (hn:20 ≤ n) (a:AC) (bs:List Int) (ha:a.2.2.2.2.2.2.length ≤ 9) (hb:bs.length ≤ 8):acc_hist n a bs=some (histMay a bs):=by
 rw [acc_hist_S]; unfold histMay
 have:=hist_l0 n a bs ha hb a.2.2.2.2.2.2.length n 0 0 (by omega) (by omega) (by omega) (by omega)
 simp only [List.drop_zero,Int.zero_add] at this
 exact this
def isI0 (x:IT):Bool:=x.1 == 0 && (x.2.1 == 0 && (x.2.2.1 == 0 && (x.2.2.2 == 0 && true)))
def bareA (a:AC):Bool:=a.2.1 == 0 && (a.2.2.1 == 0 && (a.2.2.2.1 == 0 && (isI0 a.2.2.2.2.1 && isI0 a.2.2.2.2.2.1)))
theorem bare_eq (n:Nat) (a:AC):acc_bare n a=some (bareA a):=by
 unfold acc_bare bareA isI0
 cases a.2.1 == 0 <;> cases a.2.2.1 == 0 <;> cases a.2.2.2.1 == 0 <;> try rfl
 cases (a.2.2.2.2.1.1 == 0 && (a.2.2.2.2.1.2.1 == 0 && (a.2.2.2.2.1.2.2.1 == 0 && (a.2.2.2.2.1.2.2.2 == 0 && true)))) <;> rfl
def endMay (a:AC) (x:IT):Bool:=itemMay x && (decide (a.2.2.1 ≤ x.2.2.2) && decide (x.2.2.2 ≤ a.2.2.2.1))
def endsMay (a:AC):Bool:=endMay a a.2.2.2.2.1 && (endMay a a.2.2.2.2.2.1 && (a.2.2.2.2.1.1 == a.2.2.2.2.2.1.1 && decide (ord a.2.2.2.2.1 a.2.2.2.2.2.1 ≤ 0)))
theorem ends_l0 (n:Nat) (hn:3 ≤ n) (a:AC):∀ m,3 ≤ m→acc_ends_l0 n c53.F c49.F a m 0=some (endsMay a):=by
 intro m hm
 obtain ⟨m,rfl⟩:∃ k,m=k + 3:=⟨m - 3,by omega⟩
 have w1:Go.IntKind.i64.wrap (0 + 1)=1:=by rw [wrapOK] <;> omega
 have w2:Go.IntKind.i64.wrap (1 + 1)=2:=by rw [wrapOK] <;> omega
 have e0:((List.replicate 2 ((0:Int),(0:Int),(0:Int),(0:Int))).set 0 a.2.2.2.2.1).set 1 a.2.2.2.2.2.1=[a.2.2.2.2.1,a.2.2.2.2.2.1]:=rfl
 simp only [acc_ends_l0_S,e0,w1,w2,ItemMay_eq,Order_eq n hn,Option.bind_some]
 have t1:Int.toNat 1=1:=rfl
 simp only [List.length_cons,List.length_nil,Int.toNat_zero,t1,List.getD_cons_zero,List.getD_cons_succ]
 simp only [GT.gt,decLt,endsMay,endMay]
 cases itemMay a.2.2.2.2.1 <;> cases decide (a.2.2.1 ≤ a.2.2.2.2.1.2.2.2) <;> cases decide (a.2.2.2.2.1.2.2.2 ≤ a.2.2.2.1) <;> cases itemMay a.2.2.2.2.2.1 <;> cases decide (a.2.2.1 ≤ a.2.2.2.2.2.1.2.2.2) <;> cases decide (a.2.2.2.2.2.1.2.2.2 ≤ a.2.2.2.1) <;> cases (a.2.2.2.2.1.1 == a.2.2.2.2.2.1.1) <;> simp
theorem ends_eq (n:Nat) (hn:3 ≤ n) (a:AC):acc_ends n a=some (endsMay a):=by
 rw [acc_ends_S]
 exact ends_l0 n hn a n hn
def accBody (a:AC):Bool:=inV a.2.2.1 && (inV a.2.2.2.1 && (decide (a.2.2.1 ≤ a.2.2.2.1) && (endsMay a && (decide (a.1 * a.2.2.1 ≤ a.2.1) && decide (a.2.1 ≤ a.1 * a.2.2.2.1)))))
def accMay (a:AC) (bs:List Int):Bool:=boundsMay bs && (histMay a bs && (inN a.1 && (if a.1=0 then bareA a else accBody a)))
theorem mulB {c v:Int} (h0:0 ≤ c) (h1:c ≤ 8192) (h2:-1099511627776 ≤ v) (h3:v ≤ 1099511627776):-9007199254740992 ≤ c * v∧c * v ≤ 9007199254740992:=by
 constructor
 ·have:c * (-v) ≤ 8192 * 1099511627776:=Int.le_trans (Int.mul_le_mul_of_nonneg_left (by omega:-v ≤ 1099511627776) h0) (Int.mul_le_mul_of_nonneg_right h1 (by omega))
  rw [Int.mul_neg] at this; omega
 ·have:c * v ≤ 8192 * 1099511627776:=Int.le_trans (Int.mul_le_mul_of_nonneg_left h3 h0) (Int.mul_le_mul_of_nonneg_right h1 (by omega))
  omega
theorem May_eq (n:Nat) (hn:20 ≤ n) (a:AC) (bs:List Int):acc_May n a bs=some (accMay a bs):=by
 rw [acc_May_S]
 unfold accMay
 simp only [BoundsMay_eq n (by omega),bare_eq,within_eq,ends_eq n (by omega),Option.bind_some]
 cases hb:boundsMay bs with
 | false=>rfl
 | true =>
  have hb8:bs.length ≤ 8:=by simp [boundsMay] at hb; exact hb.1
  simp only [Bool.not_true,cond_false,Bool.true_and,wrapS (i:=bs.length) (by omega)]
  by_cases hl:(a.2.2.2.2.2.2.length:Int) > ((bs.length + 1:Nat):Int)
  ·have:¬ a.2.2.2.2.2.2.length=bs.length + 1:=by omega
   have hd:decide ((a.2.2.2.2.2.2.length:Int) > ((bs.length + 1:Nat):Int))=true:=decide_eq_true hl
   simp only [hd,cond_true,histMay,this,decide_false,Bool.false_and,Bool.and_false]
  ·rw [hist_eq n hn a bs (by omega) hb8]
   simp only [hl,decide_false,cond_false,Option.bind_some]
   cases histMay a bs with
   | false=>rfl
   | true =>
    simp only [Bool.not_true,cond_false,Bool.true_and,inN]
    by_cases h0:a.1 < 0
    ·have:¬ 0 ≤ a.1:=by omega
     simp [h0,this]
    by_cases h1:a.1 > 8192
    ·have:¬ a.1 ≤ 8192:=by omega
     simp [h0,h1,this]
    have h0':0 ≤ a.1:=by omega
    have h1':a.1 ≤ 8192:=by omega
    by_cases hz:a.1=0
    ·simp [hz]
    simp only [h0,h1,h0',h1',decide_false,cond_false,decide_true,Bool.true_and,hz,if_false]
    have:(a.1 == 0)=false:=by simp [hz]
    simp only [this,cond_false,accBody]
    cases hv:inV a.2.2.1 with
    | false=>rfl
    | true =>
     cases hw:inV a.2.2.2.1 with
     | false=>rfl
     | true =>
      simp only [inV,decide_eq_true_eq] at hv hw
      have m1:=mulB h0' h1' hv.1 hv.2
      have m2:=mulB h0' h1' hw.1 hw.2
      simp only [cond_true,GE.ge]
      rw [wrapOK (by omega) (by omega),wrapOK (by omega) (by omega)]
      cases decide (a.2.2.1 ≤ a.2.2.2.1) <;> cases endsMay a <;> cases decide (a.1 * a.2.2.1 ≤ a.2.1) <;> rfl
def buck (bs:List Int) (v:Int):Nat:=bs.findIdx fun b=>decide (v ≤ b)
theorem bucket_l0 (n:Nat) (bs:List Int) (v:Int) (hb:bs.length ≤ 8):∀ (k m i:Nat),i + k=bs.length→k < m→acc_bucket_l0 n bs v m (i:Int)=some ((i + buck (bs.drop i) v:Nat):Int):=by
 intro k
 induction k with
 | zero =>
  intro m i hi hm
  obtain ⟨m,rfl,hm⟩:=sucM hm
  have:bs.drop i=[]:=List.drop_eq_nil_of_le (by omega)
  have h1:¬ ((i:Int) < (bs.length:Int)):=by omega
  have h2:i=bs.length:=by omega
  rw [acc_bucket_l0_S]
  simp [this,h1,buck,h2]
 | succ k ih =>
  intro m i hi hm
  obtain ⟨m,rfl,hm⟩:=sucM hm
  have hlt:i < bs.length:=by omega
  have h1:((i:Int) < (bs.length:Int)):=by omega
  have h2:(0:Int) ≤ (i:Int):=by omega
  rw [acc_bucket_l0_S,dropLt hlt]
  have ih':=ih m (i + 1) (by omega) (by omega)
  simp only [h1,h2,and_self,if_true,decide_true,cond_true,Int.toNat_natCast,getLt hlt,wrapS (i:=i) (by omega),ih',buck,List.findIdx_cons]
  by_cases h:v ≤ bs[i]
  ·simp [h]
  ·simp [h]; omega
theorem buck_le (bs:List Int) (v:Int):buck bs v ≤ bs.length:=List.findIdx_le_length
theorem bucket_eq (n:Nat) (hn:20 ≤ n) (bs:List Int) (hb:bs.length ≤ 8) (v:Int):acc_bucket n bs v=some (buck bs v:Int):=by
 have:=bucket_l0 n bs v hb bs.length n 0 (by omega) (by omega)
 rw [acc_bucket_S]
 simpa using this
def oneA (x:IT) (bs:List Int):AC:=(1,x.2.2.2,x.2.2.2,x.2.2.2,x,x,(List.replicate (bs.length + 1) (0:Int)).set (buck bs x.2.2.2) 1)
theorem bnd8 {bs:List Int} (h:boundsMay bs=true):bs.length ≤ 8:=by simp [boundsMay] at h; exact h.1
theorem One_eq (n:Nat) (hn:20 ≤ n) (x:IT) (bs:List Int):acc_One n x bs=some (if itemMay x=true∧boundsMay bs=true then (oneA x bs,0) else (AC0,100)):=by
 simp only [acc_One_S,ItemMay_eq,BoundsMay_eq n (by omega),Option.bind_some]
 cases hx:itemMay x with
 | false=>simp [AC0,nl]
 | true =>
  cases hb:boundsMay bs with
  | false=>simp [AC0,nl]
  | true =>
   have h8:=bnd8 hb
   have hk:=buck_le bs x.2.2.2
   simp only [Bool.not_true,cond_false,wrapS (i:=bs.length) (by omega),bucket_eq n hn bs h8,Option.bind_some,Int.toNat_natCast,List.length_replicate,if_true,and_self]
   rw [if_pos (by omega),if_pos (by omega)]
   rfl
def allFrom (bs:List Int):Int→List AC→Bool
 | _,[]=>boundsMay bs
 | f,a :: cs=>accMay a bs && (!(decide (0 < a.1) && (decide (0 ≤ f) && a.2.2.2.2.1.1 != f)) && allFrom bs (if 0 < a.1 then a.2.2.2.2.1.1 else f) cs)
theorem allMay_l0 (n:Nat) (hn:20 ≤ n) (bs:List Int) (cs:List AC) (ha:cs.length ≤ 1073741824):∀ (k m i:Nat) (f:Int),i + k=cs.length→k < m→acc_allMay_l0 n c97.F c92.F bs cs m f (i:Int)=some (allFrom bs f (cs.drop i)):=by
 intro k
 induction k with
 | zero =>
  intro m i f hi hm
  obtain ⟨m,rfl,hm⟩:=sucM hm
  have:cs.drop i=[]:=List.drop_eq_nil_of_le (by omega)
  have h1:¬ ((i:Int) < (cs.length:Int)):=by omega
  rw [acc_allMay_l0_S]
  simp [this,h1,allFrom,BoundsMay_eq n (by omega)]
 | succ k ih =>
  intro m i f hi hm
  obtain ⟨m,rfl,hm⟩:=sucM hm
  have hlt:i < cs.length:=by omega
  have h1:((i:Int) < (cs.length:Int)):=by omega
  have h2:(0:Int) ≤ (i:Int):=by omega
  rw [acc_allMay_l0_S,dropLt hlt]
  simp only [h1,h2,and_self,if_true,decide_true,cond_true,Int.toNat_natCast,getLt hlt,acc_allMay_j1_S,wrapS (i:=i) (by omega),ih m (i + 1) _ (by omega) (by omega),May_eq n hn,Option.bind_some,allFrom,GT.gt,GE.ge]
  cases accMay cs[i] bs with
  | false=>rfl
  | true =>
   by_cases h0:0 < cs[i].1
   ·by_cases hf:0 ≤ f
    ·cases hs:cs[i].2.2.2.2.1.1 != f <;> simp [h0,hf,hs]
    ·simp [h0,hf]
   ·simp [h0]
theorem allMay_eq (n:Nat) (hn:20 ≤ n) (bs:List Int) (cs:List AC) (ha:cs.length ≤ 1073741824) (hm:cs.length < n):acc_allMay n bs cs=some (allFrom bs (-1) cs):=by
 have:=allMay_l0 n hn bs cs ha cs.length n 0 (-1) (by omega) hm
 rw [acc_allMay_S]
 simpa using this
theorem allFrom_mem {bs:List Int}:∀ {cs:List AC} {f:Int},allFrom bs f cs=true→∀ a ∈ cs,accMay a bs=true
 | [],_,_,_,h=>by simp at h
 | a :: cs,f,h,b,hb=>by
  simp only [allFrom,Bool.and_eq_true] at h
  rcases List.mem_cons.1 hb with rfl | hb
  ·exact h.1
  ·exact allFrom_mem h.2.2 b hb
theorem allFrom_bnd {bs:List Int}:∀ {cs:List AC} {f:Int},allFrom bs f cs=true→boundsMay bs=true
 | [],_,h=>h
 | a :: cs,f,h=>by simp only [allFrom,Bool.and_eq_true] at h; exact allFrom_bnd h.2.2
def addA (o a:AC):AC :=
 let p:AC:=if o.1=0 then (0,0,a.2.2.1,a.2.2.2.1,a.2.2.2.2.1,a.2.2.2.2.2.1,[]) else o
 (o.1 + a.1,o.2.1 + a.2.1,if a.2.2.1 < p.2.2.1 then a.2.2.1 else p.2.2.1,if p.2.2.2.1 < a.2.2.2.1 then a.2.2.2.1 else p.2.2.2.1,
  if ord a.2.2.2.2.1 p.2.2.2.2.1 < 0 then a.2.2.2.2.1 else p.2.2.2.2.1,if 0 ≤ ord a.2.2.2.2.2.1 p.2.2.2.2.2.1 then a.2.2.2.2.2.1 else p.2.2.2.2.2.1,
  List.zipWith (· + ·) o.2.2.2.2.2.2 a.2.2.2.2.2.2)
theorem setTake {xs ys:List Int} {i:Nat} (h:i < xs.length) (g:i < ys.length) (v:Int) (hv:v=xs[i] + ys[i]):(xs.set i v).take (i + 1) ++ List.zipWith (· + ·) ((xs.set i v).drop (i + 1)) (ys.drop (i + 1))=xs.take i ++ List.zipWith (· + ·) (xs.drop i) (ys.drop i):=by
 subst hv
 rw [dropLt h,dropLt g]
 simp only [List.zipWith_cons_cons]
 rw [List.drop_set_of_lt (by omega)]
 have:(xs.set i (xs[i] + ys[i])).take (i + 1)=xs.take i ++ [xs[i] + ys[i]]:=by
  rw [List.take_succ_eq_append_getElem (by simpa using h)]
  simp [List.take_set_of_le]
 rw [this]; simp
theorem add_l3 (n:Nat) (o a:AC) (h1 h2 h3 h4 h5 h6 h7 h8 h9 h10:Int) (hs:a.2.2.2.2.2.2.length ≤ 1073741824) (ha:∀ x ∈ a.2.2.2.2.2.2,0 ≤ x∧x ≤ 8192) :
  ∀ (k m i:Nat) (xs:List Int),i + k=a.2.2.2.2.2.2.length→k < m→xs.length=a.2.2.2.2.2.2.length→(∀ j,i ≤ j→∀ (h:j < xs.length),0 ≤ xs[j]∧xs[j] ≤ 8192) →
  acc_add_l3 n c49.F o a h1 h2 h3 h4 h5 h6 h7 h8 h9 h10 m (i:Int) xs=some (Go.IntKind.i64.wrap (o.1 + a.1),Go.IntKind.i64.wrap (o.2.1 + a.2.1),(if a.2.2.1 < h1 then a.2.2.1 else h1),(if h2 < a.2.2.2.1 then a.2.2.2.1 else h2),(h3,h4,h5,h6),(h7,h8,h9,h10),xs.take i ++ List.zipWith (· + ·) (xs.drop i) (a.2.2.2.2.2.2.drop i)):=by
 intro k
 induction k with
 | zero =>
  intro m i xs hi hm hl hx
  obtain ⟨m,rfl,hm⟩:=sucM hm
  have e1:a.2.2.2.2.2.2.drop i=[]:=List.drop_eq_nil_of_le (by omega)
  have e2:xs.take i=xs:=List.take_of_length_le (by omega)
  have hlt:¬ ((i:Int) < (a.2.2.2.2.2.2.length:Int)):=by omega
  rw [acc_add_l3_S]
  simp [e1,e2,hlt]
 | succ k ih =>
  intro m i xs hi hm hl hx
  obtain ⟨m,rfl,hm⟩:=sucM hm
  have hlt:i < a.2.2.2.2.2.2.length:=by omega
  have hlx:i < xs.length:=by omega
  have g1:((i:Int) < (a.2.2.2.2.2.2.length:Int)):=by omega
  have g2:(0:Int) ≤ (i:Int):=by omega
  have g3:((i:Int) < (xs.length:Int)):=by omega
  have b1:=ha _ (List.getElem_mem hlt)
  have b2:=hx i (Nat.le_refl i) hlx
  rw [acc_add_l3_S]
  simp only [g1,g2,g3,and_self,if_true,decide_true,cond_true,Int.toNat_natCast,getLt hlt,getLt hlx,wrapS (i:=i) (by omega)]
  rw [wrapOK (x:=xs[i] + _) (by omega) (by omega)]
  rw [ih m (i + 1) _ (by omega) (by omega) (by simpa using hl) (fun j hj h=>by
   have hj':j < xs.length:=by simpa using h
   rw [List.getElem_set_ne (by omega)]
   exact hx j (by omega) hj'),setTake hlx hlt _ rfl]
def smA (a:AC):Prop:=0 ≤ a.1∧a.1 ≤ 8192∧-9007199254740992 ≤ a.2.1∧a.2.1 ≤ 9007199254740992∧∀ x ∈ a.2.2.2.2.2.2,0 ≤ x∧x ≤ 8192
theorem add_eq (n:Nat) (hn:20 ≤ n) (o a:AC) (hl:o.2.2.2.2.2.2.length=a.2.2.2.2.2.2.length) (h9:a.2.2.2.2.2.2.length ≤ 9) (ho:smA o) (ha:smA a):acc_add n o a=some (addA o a):=by
 have L:=fun p1 p2 p3 p4 p5 p6 p7 p8 p9 p10=>add_l3 n o a p1 p2 p3 p4 p5 p6 p7 p8 p9 p10 (by omega) ha.2.2.2.2 a.2.2.2.2.2.2.length n 0 o.2.2.2.2.2.2 (by omega) (by omega) hl (fun j _ h=>ho.2.2.2.2 _ (List.getElem_mem h))
 obtain ⟨o1,o2,o3,o4,-⟩:=ho
 obtain ⟨a1,a2,a3,a4,-⟩:=ha
 have w1:Go.IntKind.i64.wrap (o.1 + a.1)=o.1 + a.1:=wrapOK (by omega) (by omega)
 have w2:Go.IntKind.i64.wrap (o.2.1 + a.2.1)=o.2.1 + a.2.1:=wrapOK (by omega) (by omega)
 simp only [w1,w2,List.take_zero,List.drop_zero,List.nil_append,Int.cast_ofNat_Int] at L
 simp only [acc_add_S,acc_add_j0_S,acc_add_j1_S,acc_add_j2_S,Order_eq n (by omega),Option.bind_some]
 simp only [L,addA]
 by_cases h0:o.1=0
 ·have e0:(o.1 == 0)=true:=by simp [h0]
  rw [e0]
  simp only [cond_true,if_pos h0]
  by_cases c1:ord a.2.2.2.2.1 (a.2.2.2.2.1.1,a.2.2.2.2.1.2.1,a.2.2.2.2.1.2.2.1,a.2.2.2.2.1.2.2.2) < 0 <;>
  by_cases c2:ord a.2.2.2.2.2.1 (a.2.2.2.2.2.1.1,a.2.2.2.2.2.1.2.1,a.2.2.2.2.2.1.2.2.1,a.2.2.2.2.2.1.2.2.2) ≥ 0 <;>
  simp [c1,c2,h0]
 ·have e0:(o.1 == 0)=false:=by simp [h0]
  rw [e0]
  simp only [cond_false,if_neg h0]
  by_cases c1:ord a.2.2.2.2.1 (o.2.2.2.2.1.1,o.2.2.2.2.1.2.1,o.2.2.2.2.1.2.2.1,o.2.2.2.2.1.2.2.2) < 0 <;>
  by_cases c2:ord a.2.2.2.2.2.1 (o.2.2.2.2.2.1.1,o.2.2.2.2.2.1.2.1,o.2.2.2.2.2.1.2.2.1,o.2.2.2.2.2.1.2.2.2) ≥ 0 <;>
  simp [c1,c2]
def okA (bs:List Int) (a:AC):Prop:=a.2.2.2.2.2.2.length=bs.length + 1∧0 ≤ a.1∧-(a.1 * 1099511627776) ≤ a.2.1∧a.2.1 ≤ a.1 * 1099511627776∧∀ x ∈ a.2.2.2.2.2.2,0 ≤ x∧x ≤ a.1
theorem leSum:∀ {xs:List Int},(∀ x ∈ xs,0 ≤ x)→0 ≤ xs.sum∧∀ x ∈ xs,x ≤ xs.sum
 | [],_=>by simp
 | y :: ys,h=>by
  have r:=leSum (fun x hx=>h x (List.mem_cons_of_mem _ hx))
  have hy:=h y List.mem_cons_self
  rw [List.sum_cons]
  refine ⟨by omega,fun x hx=>?_⟩
  rcases List.mem_cons.1 hx with rfl | hx
  ·omega
  ·have:=r.2 x hx; omega
theorem okA_smA {bs:List Int} {a:AC} (h:okA bs a) (h8:a.1 ≤ 8192):smA a:=by
 obtain ⟨h0,h1,h2,h3,h4⟩:=h
 refine ⟨h1,h8,by omega,by omega,fun x hx=>?_⟩
 have:=h4 x hx; omega
theorem accMay_okA {bs:List Int} {a:AC} (h:accMay a bs=true):okA bs a∧a.1 ≤ 8192:=by
 simp only [accMay,Bool.and_eq_true] at h
 obtain ⟨hb,hh,hn,hr⟩:=h
 simp only [histMay,Bool.and_eq_true,List.all_eq_true,decide_eq_true_eq,inN] at hh hn
 obtain ⟨hall,hlen,hsum⟩:=hh
 have ls:=leSum (fun x hx=>(hall x hx).1)
 have key:-(a.1 * 1099511627776) ≤ a.2.1∧a.2.1 ≤ a.1 * 1099511627776:=by
  by_cases hz:a.1=0
  ·rw [if_pos hz] at hr
   simp only [bareA,Bool.and_eq_true,beq_iff_eq] at hr
   have:=hr.1; omega
  ·rw [if_neg hz] at hr
   simp only [accBody,Bool.and_eq_true,decide_eq_true_eq,inV] at hr
   obtain ⟨b1,b2,-,-,b3,b4⟩:=hr
   have m1:a.1 * (-1099511627776) ≤ a.1 * a.2.2.1:=Int.mul_le_mul_of_nonneg_left b1.1 hn.1
   have m2:a.1 * a.2.2.2.1 ≤ a.1 * 1099511627776:=Int.mul_le_mul_of_nonneg_left b2.2 hn.1
   omega
 refine ⟨⟨hlen,hn.1,key.1,key.2,fun x hx=>⟨(hall x hx).1,?_⟩⟩,hn.2⟩
 rw [← hsum]; exact ls.2 x hx
theorem memZip {xs ys:List Int} {z:Int} (h:z ∈ List.zipWith (· + ·) xs ys):∃ x ∈ xs,∃ y ∈ ys,z=x + y:=by
 induction xs generalizing ys with
 | nil=>simp at h
 | cons x xs ih =>
  cases ys with
  | nil=>simp at h
  | cons y ys =>
   simp only [List.zipWith_cons_cons,List.mem_cons] at h
   rcases h with rfl | h
   ·exact ⟨x,List.mem_cons_self,y,List.mem_cons_self,rfl⟩
   ·obtain ⟨a,ha,b,hb,e⟩:=ih h
    exact ⟨a,List.mem_cons_of_mem _ ha,b,List.mem_cons_of_mem _ hb,e⟩
theorem okA_add {bs:List Int} {o a:AC} (ho:okA bs o) (ha:okA bs a):okA bs (addA o a):=by
 obtain ⟨o0,o1,o2,o3,o4⟩:=ho
 obtain ⟨a0,a1,a2,a3,a4⟩:=ha
 refine ⟨?_,?_,?_,?_,fun x hx=>?_⟩
 ·show (List.zipWith _ _ _).length=_
  rw [List.length_zipWith]; omega
 ·show 0 ≤ o.1 + a.1
  omega
 ·show -((o.1 + a.1) * 1099511627776) ≤ o.2.1 + a.2.1
  omega
 ·show o.2.1 + a.2.1 ≤ (o.1 + a.1) * 1099511627776
  omega
 ·obtain ⟨y,hy,z,hz,rfl⟩:=memZip hx
  have:=o4 y hy; have:=a4 z hz
  show 0 ≤ y + z∧y + z ≤ o.1 + a.1
  omega
def tot (cs:List AC):Int:=(cs.map fun a=>a.1).sum
def addIf (o a:AC):AC:=if 0 < a.1 then addA o a else o
def zeroA (bs:List Int):AC:=(0,0,0,0,(0,0,0,0),(0,0,0,0),List.replicate (bs.length + 1) 0)
def joinA (bs:List Int) (cs:List AC):AC×Int:=if allFrom bs (-1) cs=true then (if 8192 < tot cs then (AC0,101) else (cs.foldl addIf (zeroA bs),0)) else (AC0,100)
theorem tot_cons (a:AC) (cs:List AC):tot (a :: cs)=a.1 + tot cs:=by simp [tot]
theorem tot_nonneg {cs:List AC} (h:∀ a ∈ cs,0 ≤ a.1):0 ≤ tot cs:=by
 induction cs with
 | nil=>simp [tot]
 | cons a cs ih =>
  rw [tot_cons]
  have:=h a List.mem_cons_self
  have:=ih fun b hb=>h b (List.mem_cons_of_mem _ hb)
  omega
theorem Join_l1 (n:Nat) (hn:20 ≤ n) (bs:List Int) (hb:bs.length ≤ 8) (cs:List AC) (hc:cs.length ≤ 1073741824) (hm:∀ a ∈ cs,accMay a bs=true) :
  ∀ (k m i:Nat) (o:AC),i + k=cs.length→k < m→okA bs o→o.1 + tot (cs.drop i) ≤ 8192 →
  acc_Join_l1 n c94.F c95.F cs m (i:Int) o.1 o.2.1 o.2.2.1 o.2.2.2.1 o.2.2.2.2.1.1 o.2.2.2.2.1.2.1 o.2.2.2.2.1.2.2.1 o.2.2.2.2.1.2.2.2 o.2.2.2.2.2.1.1 o.2.2.2.2.2.1.2.1 o.2.2.2.2.2.1.2.2.1 o.2.2.2.2.2.1.2.2.2 o.2.2.2.2.2.2=some ((cs.drop i).foldl addIf o,0):=by
 intro k
 induction k with
 | zero =>
  intro m i o hi hm ho ht
  obtain ⟨m,rfl,hm⟩:=sucM hm
  have:cs.drop i=[]:=List.drop_eq_nil_of_le (by omega)
  have h1:¬ ((i:Int) < (cs.length:Int)):=by omega
  rw [acc_Join_l1_S]
  simp [this,h1]
 | succ k ih =>
  intro m i o hi hmm ho ht
  obtain ⟨m,rfl,hmm⟩:=sucM hmm
  have hlt:i < cs.length:=by omega
  have h1:((i:Int) < (cs.length:Int)):=by omega
  have h2:(0:Int) ≤ (i:Int):=by omega
  have ha:=accMay_okA (hm _ (List.getElem_mem hlt))
  have tn:0 ≤ tot (cs.drop (i + 1)):=tot_nonneg fun a h=>(accMay_okA (hm _ (List.mem_of_mem_drop h))).1.2.1
  rw [dropLt hlt,tot_cons] at ht
  have a0:=ha.1.2.1
  rw [acc_Join_l1_S,dropLt hlt]
  simp only [h1,h2,and_self,if_true,decide_true,cond_true,Int.toNat_natCast,getLt hlt,acc_Join_j2_S,wrapS (i:=i) (by omega),List.foldl_cons,GT.gt]
  by_cases h0:0 < cs[i].1
  ·have e:addIf o cs[i]=addA o cs[i]:=if_pos h0
   rw [e,← ih m (i + 1) (addA o cs[i]) (by omega) (by omega) (okA_add ho ha.1) (by show o.1 + cs[i].1 + _ ≤ _; omega)]
   have ae:=add_eq n hn o cs[i] (by rw [ho.1,ha.1.1]) (by rw [ha.1.1]; omega) (okA_smA ho (by omega)) (okA_smA ha.1 ha.2)
   simp only [h0,decide_true,cond_true]
   rw [show (o.1,o.2.1,o.2.2.1,o.2.2.2.1,(o.2.2.2.2.1.1,o.2.2.2.2.1.2.1,o.2.2.2.2.1.2.2.1,o.2.2.2.2.1.2.2.2),(o.2.2.2.2.2.1.1,o.2.2.2.2.2.1.2.1,o.2.2.2.2.2.1.2.2.1,o.2.2.2.2.2.1.2.2.2),o.2.2.2.2.2.2)=o from rfl,ae]
   rfl
  ·have e:addIf o cs[i]=o:=if_neg h0
   rw [e]
   simp only [h0,decide_false,cond_false]
   exact ih m (i + 1) o (by omega) (by omega) ho (by omega)
theorem Join_l0 (n:Nat) (hn:20 ≤ n) (bs:List Int) (hb:bs.length ≤ 8) (cs:List AC) (hc:cs.length ≤ 1073741824) (hm:∀ a ∈ cs,accMay a bs=true) (hl:cs.length < n) :
  ∀ (k m i:Nat) (s:Int),i + k=cs.length→k < m→0 ≤ s→s ≤ 8192 * i→s + tot (cs.drop i)=tot cs →
  acc_Join_l0 n c94.F c95.F bs cs m s (i:Int)=some (if 8192 < tot cs then (AC0,101) else (cs.foldl addIf (zeroA bs),0)):=by
 intro k
 induction k with
 | zero =>
  intro m i s hi hmm h0 hs ht
  obtain ⟨m,rfl,hmm⟩:=sucM hmm
  have:cs.drop i=[]:=List.drop_eq_nil_of_le (by omega)
  have h1:¬ ((i:Int) < (cs.length:Int)):=by omega
  rw [this] at ht
  have ht:s=tot cs:=by simpa [tot] using ht
  rw [acc_Join_l0_S]
  simp only [h1,decide_false,cond_false,GT.gt,ht]
  by_cases h8:8192 < tot cs
  ·simp [h8,AC0,nl]
  ·simp only [h8,decide_false,cond_false,wrapS (i:=bs.length) (by omega),if_true,Int.toNat_natCast,if_false]
   rw [if_pos (by omega)]
   have z:okA bs (zeroA bs):=⟨by simp [zeroA],by simp [zeroA],by simp [zeroA],by simp [zeroA],fun x hx=>by simp only [zeroA,List.mem_replicate] at hx; simp only [zeroA]; omega⟩
   have:=Join_l1 n hn bs hb cs hc hm cs.length n 0 (zeroA bs) (by omega) hl z (by simp only [List.drop_zero]; show 0 + tot cs ≤ 8192; omega)
   simp only [List.drop_zero] at this
   exact this
 | succ k ih =>
  intro m i s hi hmm h0 hs ht
  obtain ⟨m,rfl,hmm⟩:=sucM hmm
  have hlt:i < cs.length:=by omega
  have h1:((i:Int) < (cs.length:Int)):=by omega
  have h2:(0:Int) ≤ (i:Int):=by omega
  have ha:=accMay_okA (hm _ (List.getElem_mem hlt))
  have a0:=ha.1.2.1
  have a1:=ha.2
  rw [dropLt hlt,tot_cons] at ht
  rw [acc_Join_l0_S]
  simp only [h1,h2,and_self,if_true,decide_true,cond_true,Int.toNat_natCast,getLt hlt,wrapS (i:=i) (by omega)]
  rw [wrapOK (by omega) (by omega)]
  exact ih m (i + 1) _ (by omega) (by omega) (by omega) (by omega) (by omega)
theorem Join_eq (n:Nat) (hn:20 ≤ n) (bs:List Int) (cs:List AC) (hc:cs.length ≤ 1073741824) (hl:cs.length < n):acc_Join n bs cs=some (joinA bs cs):=by
 rw [acc_Join_S,allMay_eq n hn bs cs hc hl]
 unfold joinA
 cases h:allFrom bs (-1) cs with
 | false=>simp [AC0,nl]
 | true =>
  simp only [Option.bind_some,Bool.not_true,cond_false,if_true]
  exact Join_l0 n hn bs (bnd8 (allFrom_bnd h)) cs hc (allFrom_mem h) hl cs.length n 0 0 (by omega) hl (by omega) (by omega) (by simp)
theorem Clone_int_eq (n:Nat) (xs:List Int) (h:xs.length ≤ 1073741824):slices_Clone_int_int n xs=some xs:=by
 unfold slices_Clone_int_int slices_Clone_int_int_n
 cases xs with
 | nil=>rfl
 | cons x xs =>
  simp only [List.isEmpty_cons,cond_false,Bool.not_false,cond_true,List.length_replicate,Nat.zero_add]
  rw [if_pos (by simp only [List.length_cons] at h ⊢; omega)]; rfl
abbrev QY:=Int×Int×Int×Int×List Int×Int
abbrev CF:=List QY×Int×Int×Int×Int
theorem isNaN_eq (n:Nat) (a:Int):cmp_isNaN_int n a=some false:=by unfold cmp_isNaN_int; simp
theorem Less_eq (n:Nat) (a b:Int):cmp_Less_int n a b=some (decide (a < b)):=by rw [cmp_Less_int_S]; simp [isNaN_eq]
def markMay (m:Int):Bool:=decide (-4398046511104 ≤ m) && decide (m ≤ 4398046511104)
theorem LeastMay_eq (n:Nat) (m:Int):admit_LeastMay n m=some (markMay m):=by
 unfold admit_LeastMay markMay
 by_cases h:-4398046511104 ≤ m <;> simp [h,GE.ge]
theorem idx_int_l0 (n:Nat) (xs:List Int) (hx:xs.length ≤ 1073741824):∀ (k m i:Nat),i + k=xs.length→k < m→∃ r:Int,slices_IndexFunc_int_int_l0 n c54.F xs m (i:Int)=some r∧(0 ≤ r ↔ ((xs.drop i).all markMay)=false):=by
 intro k
 induction k with
 | zero =>
  intro m i hi hm
  obtain ⟨m,rfl,hm⟩:=sucM hm
  rw [slices_IndexFunc_int_int_l0_S]
  have:xs.drop i=[]:=List.drop_eq_nil_of_le (by omega)
  have h1:¬ ((i:Int) < (xs.length:Int)):=by omega
  exact ⟨-1,by simp [h1],by simp [this]⟩
 | succ k ih =>
  intro m i hi hm
  obtain ⟨m,rfl,hm⟩:=sucM hm
  have hlt:i < xs.length:=by omega
  rw [slices_IndexFunc_int_int_l0_S,dropLt hlt]
  have h1:((i:Int) < (xs.length:Int)):=by omega
  have h2:(0:Int) ≤ (i:Int):=by omega
  obtain ⟨r,e1,e2⟩:=ih m (i + 1) (by omega) (by omega)
  simp only [spec_may_1_S,LeastMay_eq,Option.bind_some,h1,h2,and_self,if_true,decide_true,cond_true,Int.toNat_natCast,getLt hlt,wrapS (i:=i) (by omega),e1,List.all_cons]
  cases hm:markMay xs[i] with
  | true=>exact ⟨r,by simp,by simpa using e2⟩
  | false=>exact ⟨i,by simp,by simp⟩
theorem Contains_int (n:Nat) (xs:List Int) (hx:xs.length ≤ 1073741824) (hn:xs.length < n):slices_ContainsFunc_int_int n xs ()=some (!(xs.all markMay)):=by
 obtain ⟨r,e1,e2⟩:=idx_int_l0 n xs hx xs.length n 0 (by omega) (by omega)
 rw [slices_ContainsFunc_int_int_S,slices_IndexFunc_int_int_S]
 have e1:slices_IndexFunc_int_int_l0 n c54.F xs n 0=some r:=e1
 simp only [e1,Option.bind_some]
 rw [List.drop_zero] at e2
 cases h:xs.all markMay with
 | true=>simp [h] at e2; simp [GE.ge]; omega
 | false=>simp [h] at e2; simp [GE.ge,e2]
def rising:List Int→Bool
 | []=>true
 | x :: l=>match l with
  | []=>true
  | y :: _=>decide (x ≤ y) && rising l
theorem sorted_two (n:Nat) (hn:10 ≤ n) (a b:Int):slices_IsSorted_int_int n [a,b]=some (decide (a ≤ b)):=by
 rw [slices_IsSorted_int_int_S]
 obtain ⟨n1,rfl⟩:∃ n1,n=n1 + 2:=⟨n - 2,by omega⟩
 have e0:Go.IntKind.i64.wrap ((([a,b]:List Int).length:Int) - 1)=1:=by rw [wrapOK] <;> simp
 simp only [e0]
 rw [slices_IsSorted_int_int_l0_S]
 have e1:Go.IntKind.i64.wrap (1 - 1:Int)=0:=by rw [wrapOK] <;> simp
 simp only [e1,Less_eq,Option.bind_some]
 have e2:decide (a ≤ b)=!decide (b < a):=decLe _ _
 rw [e2]
 rw [show (n1 + 1)=(n1 + 1) from rfl,slices_IsSorted_int_int_l0_S]
 by_cases h:b < a <;> simp [h]
theorem gcd_l0 (n:Nat):∀ (b m:Nat) (a:Nat),b < m→floor_Gcd_l0 n m (a:Int) (b:Int)=some (((Nat.gcd a b:Nat):Int),0):=by
 intro b
 induction b using Nat.strongRecOn with
 | ind b ih =>
  intro m a hm
  obtain ⟨m,rfl,hm⟩:=sucM hm
  rw [floor_Gcd_l0_S]
  by_cases h0:b=0
  ·subst h0; simp
  ·have h1:(0:Int) < (b:Int):=by omega
   have h2:(b:Int) ≠ 0:=by omega
   have e:(a:Int).tmod (b:Int)=((a % b:Nat):Int):=(Int.ofNat_tmod a b).symm
   have ih':=ih (a % b) (Nat.mod_lt _ (by omega)) m b (by have:=Nat.mod_lt a (show 0 < b by omega); omega)
   simp only [GT.gt,h1,decide_true,cond_true,ne_eq,h2,not_false_eq_true,e,ih']
   rw [Nat.gcd_comm b,← Nat.gcd_rec,Nat.gcd_comm]
def slidingB (q:QY):Bool:=decide (1 ≤ q.2.2.2.1) && (decide (q.2.2.2.1 ≤ q.2.2.1) && (decide ((q.2.2.1 - 1).tdiv q.2.2.2.1 < 64) && decide (q.2.2.1.tdiv (Nat.gcd q.2.2.1.toNat q.2.2.2.1.toNat:Nat) ≤ 256)))
theorem tdivIn {a b:Int} (ha:0 ≤ a) (h1:a ≤ 4611686018427387904) (hb:0 ≤ b):0 ≤ a.tdiv b∧a.tdiv b ≤ 4611686018427387904:=by
 rw [Int.tdiv_eq_ediv_of_nonneg ha]
 refine ⟨Int.ediv_nonneg ha hb,?_⟩
 have:=Int.ediv_le_self b ha
 omega
theorem sliding_eq (n:Nat) (hn:1073741825 < n) (q:QY) (h1:1 ≤ q.2.2.1) (h2:q.2.2.1 ≤ 1073741824):window_sliding n q=some (slidingB q):=by
 obtain ⟨kd,ag,sz,sl,bs,rk⟩:=q
 simp only at h1 h2
 rw [window_sliding_S]
 unfold slidingB
 simp only [GT.gt,GE.ge]
 by_cases a1:sl < 1
 ·have:¬ 1 ≤ sl:=by omega
  simp [a1,this]
 have a1':1 ≤ sl:=by omega
 by_cases a2:sz < sl
 ·have:¬ sl ≤ sz:=by omega
  simp [a1,a1',a2,this]
 have a2':sl ≤ sz:=by omega
 have a3:sl ≠ 0:=by omega
 have e1:Go.IntKind.i64.wrap (sz - 1)=sz - 1:=wrapOK (by omega) (by omega)
 have t1:=tdivIn (a:=sz - 1) (b:=sl) (by omega) (by omega) (by omega)
 have e2:Go.IntKind.i64.wrap ((sz - 1).tdiv sl)=(sz - 1).tdiv sl:=wrapOK (by omega) (by omega)
 have g1:(sz:Int)=(sz.toNat:Int):=by omega
 have g2:(sl:Int)=(sl.toNat:Int):=by omega
 have gg:floor_Gcd n sz sl=some (((Nat.gcd sz.toNat sl.toNat:Nat):Int),0):=by
  rw [floor_Gcd_S]
  have b1:¬ sz < 1:=by omega
  simp only [b1,a1,decide_false,cond_false]
  rw [g1,g2]
  exact gcd_l0 n sl.toNat n sz.toNat (by omega)
 have gp:0 < Nat.gcd sz.toNat sl.toNat:=Nat.gcd_pos_of_pos_left _ (by omega)
 have gn:((Nat.gcd sz.toNat sl.toNat:Nat):Int) ≠ 0:=by omega
 have t2:=tdivIn (a:=sz) (b:=((Nat.gcd sz.toNat sl.toNat:Nat):Int)) (by omega) (by omega) (by omega)
 have e3:Go.IntKind.i64.wrap (sz.tdiv ((Nat.gcd sz.toNat sl.toNat:Nat):Int))=sz.tdiv ((Nat.gcd sz.toNat sl.toNat:Nat):Int):=wrapOK (by omega) (by omega)
 simp only [a1,a2,a1',a2',decide_false,decide_true,cond_false,cond_true,ne_eq,a3,not_false_eq_true,e1,e2,gg,Option.bind_some,gn,e3,Bool.true_and]
 by_cases a4:64 ≤ (sz - 1).tdiv sl
 ·have:¬ (sz - 1).tdiv sl < 64:=by omega
  simp [a4,this]
 ·have:(sz - 1).tdiv sl < 64:=by omega
  simp [a4,this]
def asksB (q:QY):Bool:=decide (0 ≤ q.2.1) && (decide (q.2.1 ≤ 7) && ((q.2.1 == 7 || q.2.2.2.2.2 == 0) && (decide (0 ≤ q.2.2.2.2.2) && (decide (q.2.2.2.2.2 ≤ 1000) && ((q.2.1 == 6 || q.2.1 == 7) == decide (0 < q.2.2.2.2.1.length) && boundsMay q.2.2.2.2.1)))))
theorem asks_eq (n:Nat) (hn:10 ≤ n) (q:QY):window_asks n q=some (asksB q):=by
 obtain ⟨kd,ag,sz,sl,bs,rk⟩:=q
 rw [window_asks_S]
 unfold asksB
 simp only [GT.gt,BoundsMay_eq n hn,Option.bind_some]
 have el:decide ((0:Int) < (bs.length:Int))=decide (0 < bs.length):=by congr 1; exact propext ⟨fun h=>by omega,fun h=>by omega⟩
 simp only [el]
 by_cases a1:ag < 0
 ·have:¬ 0 ≤ ag:=by omega
  simp [a1,this]
 have a1':0 ≤ ag:=by omega
 by_cases a2:7 < ag
 ·have:¬ ag ≤ 7:=by omega
  simp [a1,a1',a2,this]
 have a2':ag ≤ 7:=by omega
 by_cases a3:ag=7
 ·subst a3
  by_cases b1:rk < 0
  ·have:¬ 0 ≤ rk:=by omega
   simp [b1,this]
  have b1':0 ≤ rk:=by omega
  by_cases b2:1000 < rk
  ·have:¬ rk ≤ 1000:=by omega
   simp [b1,b1',b2,this]
  have b2':rk ≤ 1000:=by omega
  simp [b1,b2,b1',b2']
  cases decide (0 < bs.length) <;> simp
 ·have a3':(ag != 7)=true:=by simp [a3]
  have a3'':(ag == 7)=false:=by simp [a3]
  by_cases b0:rk=0
  ·subst b0
   simp [a1,a1',a2,a2',a3',a3'']
   by_cases a4:ag=6
   ·subst a4; cases decide (0 < bs.length) <;> simp
   ·have:(ag == 6)=false:=by simp [a4]
    simp [this]
    cases decide (0 < bs.length) <;> simp
  ·have b0':(rk != 0)=true:=by simp [b0]
   have b0'':(rk == 0)=false:=by simp [b0]
   simp [a1,a1',a2,a2',a3',a3'',b0',b0'']
def qMay (q:QY):Bool:=decide (1 ≤ q.2.2.1) && (decide (q.2.2.1 ≤ 1073741824) && (asksB q && (if q.1=1 then slidingB q else (q.1 == 0 || q.1 == 2) && q.2.2.2.1 == 0)))
theorem wMay_eq (n:Nat) (hn:1073741825 < n) (q:QY):window_May n q=some (qMay q):=by
 rw [window_May_S]
 unfold qMay
 simp only [GT.gt,asks_eq n (by omega),Option.bind_some,window_May_j0_S]
 by_cases a1:q.2.2.1 < 1
 ·have:¬ 1 ≤ q.2.2.1:=by omega
  simp [a1,this]
 have a1':1 ≤ q.2.2.1:=by omega
 by_cases a2:1073741824 < q.2.2.1
 ·have:¬ q.2.2.1 ≤ 1073741824:=by omega
  simp [a1,a1',a2,this]
 have a2':q.2.2.1 ≤ 1073741824:=by omega
 simp only [a1,a2,a1',a2',decide_false,decide_true,cond_false,cond_true,Bool.true_and]
 cases asksB q with
 | false=>simp
 | true =>
  by_cases k1:q.1=1
  ·simp [k1,sliding_eq n hn q a1' a2']
  ·have k1':(q.1 == 1)=false:=by simp [k1]
   by_cases k0:q.1=0
   ·simp [k0,k1']
   ·have k0':(q.1 == 0)=false:=by simp [k0]
    by_cases k2:q.1=2
    ·simp [k2]
    ·have k2':(q.1 == 2)=false:=by simp [k2]
     simp [k1,k1',k0',k2']
theorem idx_q_l0 (n:Nat) (hn:1073741825 < n) (xs:List QY) (hx:xs.length ≤ 1073741824):∀ (k m i:Nat),i + k=xs.length→k < m→∃ r:Int,slices_IndexFunc_api_Query_l0 n c84.F xs m (i:Int)=some r∧(0 ≤ r ↔ ((xs.drop i).all qMay)=false):=by
 intro k
 induction k with
 | zero =>
  intro m i hi hm
  obtain ⟨m,rfl,hm⟩:=sucM hm
  rw [slices_IndexFunc_api_Query_l0_S]
  have:xs.drop i=[]:=List.drop_eq_nil_of_le (by omega)
  have h1:¬ ((i:Int) < (xs.length:Int)):=by omega
  exact ⟨-1,by simp [h1],by simp [this]⟩
 | succ k ih =>
  intro m i hi hm
  obtain ⟨m,rfl,hm⟩:=sucM hm
  have hlt:i < xs.length:=by omega
  rw [slices_IndexFunc_api_Query_l0_S,dropLt hlt]
  have h1:((i:Int) < (xs.length:Int)):=by omega
  have h2:(0:Int) ≤ (i:Int):=by omega
  obtain ⟨r,e1,e2⟩:=ih m (i + 1) (by omega) (by omega)
  simp only [admit_May_1_S,wMay_eq n hn,Option.bind_some,h1,h2,and_self,if_true,decide_true,cond_true,Int.toNat_natCast,getLt hlt,wrapS (i:=i) (by omega),e1,List.all_cons]
  cases hm:qMay xs[i] with
  | true=>exact ⟨r,by simp,by simpa using e2⟩
  | false=>exact ⟨i,by simp,by simp⟩
theorem Contains_q (n:Nat) (hn:1073741825 < n) (xs:List QY) (hx:xs.length ≤ 1073741824):slices_ContainsFunc_api_Query n xs ()=some (!(xs.all qMay)):=by
 obtain ⟨r,e1,e2⟩:=idx_q_l0 n hn xs hx xs.length n 0 (by omega) (by omega)
 rw [slices_ContainsFunc_api_Query_S,slices_IndexFunc_api_Query_S]
 have e1:slices_IndexFunc_api_Query_l0 n c84.F xs n 0=some r:=e1
 simp only [e1,Option.bind_some]
 rw [List.drop_zero] at e2
 cases h:xs.all qMay with
 | true=>simp [h] at e2; simp [GE.ge]; omega
 | false=>simp [h] at e2; simp [GE.ge,e2]
def inR (a b x:Int):Bool:=decide (a ≤ x) && decide (x ≤ b)
def cfgMay (c:CF):Bool:=decide (1 ≤ c.1.length∧c.1.length ≤ 8) && (c.1.all qMay && (inR 0 1073741824 c.2.1 && (inR 1 4096 c.2.2.1 && (inR 1 64 c.2.2.2.1 && inR 1 8 c.2.2.2.2))))
theorem aMay_eq (n:Nat) (hn:1073741825 < n) (c:CF):admit_May n c=some (cfgMay c):=by
 obtain ⟨qs,la,ro,se,so⟩:=c
 rw [admit_May_S]
 unfold cfgMay
 simp only [GT.gt,GE.ge]
 by_cases a1:qs.length < 1
 ·have:((qs.length:Nat):Int) < 1:=by omega
  have h2:¬ (1 ≤ qs.length∧qs.length ≤ 8):=by omega
  simp [this,h2]
 by_cases a2:8 < qs.length
 ·have h1:¬ ((qs.length:Nat):Int) < 1:=by omega
  have h3:(8:Int) < ((qs.length:Nat):Int):=by omega
  have h2:¬ (1 ≤ qs.length∧qs.length ≤ 8):=by omega
  simp [h1,h2,h3]
 have h1:¬ ((qs.length:Nat):Int) < 1:=by omega
 have h3:¬ (8:Int) < ((qs.length:Nat):Int):=by omega
 have h2:1 ≤ qs.length∧qs.length ≤ 8:=by omega
 simp only [h1,h3,h2,decide_false,cond_false,Contains_q n hn qs (by omega),Option.bind_some,and_self,decide_true,Bool.true_and]
 cases qs.all qMay with
 | false=>simp
 | true =>
  simp only [Bool.not_true,cond_false,Bool.true_and,inR]
  cases decide (0 ≤ la) <;> cases decide (la ≤ 1073741824) <;> cases decide (1 ≤ ro) <;> cases decide (ro ≤ 4096) <;> cases decide (1 ≤ se) <;> cases decide (se ≤ 64) <;> cases decide (1 ≤ so) <;> simp
def itemsGo (seen:List Int):List IT→Bool
 | []=>true
 | x :: xs=>itemMay x && (!(seen.contains x.2.2.1) && itemsGo (x.2.2.1 :: seen) xs)
def mayS (c:CF) (xs:List IT) (ms:List Int):Bool:=itemsGo [] xs && (cfgMay c && (decide (xs.length ≤ 8192) && (ms.all markMay && rising ms)))
theorem mget_seen (s:Int):∀ seen:List Int,mget (seen.map fun x=>(x,true)) s=seen.contains s
 | []=>rfl
 | x :: l=>by
  have ih:=mget_seen s l
  unfold mget at ih ⊢
  simp only [List.map_cons,List.lookup,List.contains_cons]
  cases h:s == x with
  | true=>simp
  | false=>simpa using ih
theorem itemMay_seq {x:IT} (h:itemMay x=true):1 ≤ x.2.2.1∧x.2.2.1 ≤ 1073741823:=by
 simp only [itemMay,Bool.and_eq_true,decide_eq_true_eq] at h
 exact ⟨h.2.2.2.1,h.2.2.2.2.1⟩
theorem wfSeq {x:IT} (h:itemMay x=true):wfI x.2.2.1=true:=by
 have:=itemMay_seq h
 simp [wfI]; omega
theorem may_l0 (n:Nat) (hn:1073741825 < n) (c:CF) (xs:List IT) (hx:xs.length ≤ 4398046511104) (ms:List Int) (hm1:ms.length ≤ 1073741824) (hs:slices_IsSorted_int_int n ms=some (rising ms)) :
  ∀ (k m i:Nat) (seen:List Int),i + k=xs.length→k < m→spec_may_l0 n c53.F c56.F c57.F c58.F c xs ms m (i:Int) (seen.map fun x=>(x,true))=some (itemsGo seen (xs.drop i) && (cfgMay c && (decide (xs.length ≤ 8192) && (ms.all markMay && rising ms)))):=by
 intro k
 induction k with
 | zero =>
  intro m i seen hi hm
  obtain ⟨m,rfl,hm⟩:=sucM hm
  rw [spec_may_l0_S]
  have:xs.drop i=[]:=List.drop_eq_nil_of_le (by omega)
  have h1:¬ ((i:Int) < (xs.length:Int)):=by omega
  have h2:decide ((xs.length:Int) ≤ 8192)=decide (xs.length ≤ 8192):=by congr 1; exact propext ⟨fun h=>by omega,fun h=>by omega⟩
  simp only [this,h1,decide_false,cond_false,aMay_eq n hn,Option.bind_some,itemsGo,Bool.true_and,h2,Contains_int n ms hm1 (by omega),hs]
  cases cfgMay c <;> cases decide (xs.length ≤ 8192) <;> cases ms.all markMay <;> simp
 | succ k ih =>
  intro m i seen hi hm
  obtain ⟨m,rfl,hm⟩:=sucM hm
  have hlt:i < xs.length:=by omega
  rw [spec_may_l0_S,dropLt hlt]
  have h1:((i:Int) < (xs.length:Int)):=by omega
  have h2:(0:Int) ≤ (i:Int):=by omega
  have ih':=ih m (i + 1) (xs[i].2.2.1 :: seen) (by omega) (by omega)
  rw [List.map_cons] at ih'
  simp only [ItemMay_eq,Option.bind_some,h1,h2,and_self,if_true,decide_true,cond_true,Int.toNat_natCast,getLt hlt,wrapS (i:=i) (by omega),ih',itemsGo,mget_seen]
  cases hi:itemMay xs[i] with
  | false=>simp
  | true =>
   rw [if_pos (wfSeq hi)]
   cases seen.contains xs[i].2.2.1 with
   | true=>simp
   | false=>simp [wfSeq hi]
theorem may_eqL (n:Nat) (hn:1099511627776 < n) (c:CF) (xs:List IT) (hx:xs.length ≤ 4398046511104) (hxn:xs.length < n) (ms:List Int) (hm1:ms.length ≤ 1073741824) (hs:slices_IsSorted_int_int n ms=some (rising ms)) :
  spec_may n c xs ms=some (mayS c xs ms):=by
 rw [spec_may_S]
 have:=may_l0 n (by omega) c xs hx ms hm1 hs xs.length n 0 [] (by omega) (by omega)
 rw [List.drop_zero] at this
 exact this
theorem may_eq (n:Nat) (hn:1099511627776 < n) (c:CF) (xs:List IT) (hx:xs.length ≤ 1099511627776) (ms:List Int) (hm1:ms.length ≤ 1073741824) (hs:slices_IsSorted_int_int n ms=some (rising ms)) :
  spec_may n c xs ms=some (mayS c xs ms):=may_eqL n hn c xs (by omega) (by omega) ms hm1 hs
theorem may_two (n:Nat) (hn:1099511627776 < n) (c:CF) (xs:List IT) (hx:xs.length ≤ 1099511627776) (a b:Int):spec_may n c xs [a,b]=some (mayS c xs [a,b]) :=
 may_eq n hn c xs hx _ (by simp) (by rw [sorted_two n (by omega)]; simp [rising])
abbrev RE:=Int×Int×(Int×Int)×Int×Bool×List Int
theorem maskP (a:Int) (k:Nat) (hk:k ≤ 62) (m:Int) (hm:m=2 ^ k - 1):Go.IntKind.i64.wrap (((BitVec.ofInt Go.IntKind.i64.bits a &&& BitVec.ofInt Go.IntKind.i64.bits m).toNat:Nat):Int)=((((a % 18446744073709551616).toNat) % 2 ^ k:Nat):Int):=by
 have hb:Go.IntKind.i64.bits=64:=rfl
 have p0:(2:Nat) ^ k ≤ 2 ^ 62:=Nat.pow_le_pow_right (by decide) hk
 have p1:0 < (2:Nat) ^ k:=Nat.pow_pos (by decide)
 have pc:((2:Int) ^ k)=(((2:Nat) ^ k:Nat):Int):=by simp
 have e:(BitVec.ofInt Go.IntKind.i64.bits a &&& BitVec.ofInt Go.IntKind.i64.bits m).toNat=(a % 18446744073709551616).toNat % 2 ^ k:=by
  rw [BitVec.toNat_and,BitVec.toNat_ofInt,BitVec.toNat_ofInt,hb]
  have e1:(m % ((2 ^ 64:Nat):Int)).toNat=2 ^ k - 1:=by rw [hm,pc]; omega
  rw [e1,Nat.and_two_pow_sub_one_eq_mod]
  rfl
 rw [e]
 have:=Nat.mod_lt (a % 18446744073709551616).toNat p1
 exact wrapOK (by omega) (by omega)
theorem mask15 (a:Int):Go.IntKind.i64.wrap (((BitVec.ofInt Go.IntKind.i64.bits a &&& BitVec.ofInt Go.IntKind.i64.bits 15).toNat:Nat):Int)=a % 16:=by
 rw [maskP a 4 (by decide) 15 rfl]; omega
theorem mask63 (a:Int):Go.IntKind.i64.wrap (((BitVec.ofInt Go.IntKind.i64.bits a &&& BitVec.ofInt Go.IntKind.i64.bits 63).toNat:Nat):Int)=a % 64:=by
 rw [maskP a 6 (by decide) 63 rfl]; omega
theorem mask127 (a:Int):Go.IntKind.i64.wrap (((BitVec.ofInt Go.IntKind.i64.bits a &&& BitVec.ofInt Go.IntKind.i64.bits 127).toNat:Nat):Int)=a % 128:=by
 rw [maskP a 7 (by decide) 127 rfl]; omega
theorem awake_eq (n:Nat):c25.F n PUnit.unit=some true:=rfl
def grpAdd (gs:List (List IT)) (x:IT):Bool→List (List IT)
 | true=>gs ++ [[x]]
 | false=>gs.dropLast ++ [gs.getLast?.getD [] ++ [x]]
def newGrp (ys:List IT) (i:Nat):Bool:=i == 0 || (ys.getD (i - 1) IT0).1 != (ys.getD i IT0).1
def grpGo (ys:List IT):Nat→List (List IT)
 | 0=>[]
 | i + 1=>grpAdd (grpGo ys i) (ys.getD i IT0) (newGrp ys i)
def rowOf (ys:List IT):List (List IT):=grpGo ys ys.length
theorem grpGo_ne (ys:List IT) (i:Nat) (h:0 < i):grpGo ys i ≠ []:=by
 cases i with
 | zero=>omega
 | succ i =>
  simp only [grpGo]
  cases newGrp ys i <;> simp [grpAdd]
theorem last_split {α:Type} {l:List α} (h:l ≠ []) (d:α):l=l.dropLast ++ [l.getLast?.getD d]:=by
 rw [List.getLast?_eq_some_getLast h]
 exact (List.dropLast_concat_getLast h).symm
theorem grpGo_len (ys:List IT):∀ i,(grpGo ys i).length ≤ i
 | 0=>by simp [grpGo]
 | i + 1=>by
  have ih:=grpGo_len ys i
  simp only [grpGo]
  cases hb:newGrp ys i with
  | true=>simp [grpAdd]; omega
  | false =>
   simp [grpAdd]
   omega
theorem grpGo_flat (ys:List IT):∀ i,i ≤ ys.length→(grpGo ys i).flatten=ys.take i
 | 0,_=>by simp [grpGo]
 | i + 1,h=>by
  have ih:=grpGo_flat ys i (by omega)
  have hlt:i < ys.length:=by omega
  have e:ys.getD i IT0=ys[i]:=getLt hlt _
  rw [List.take_succ_eq_append_getElem hlt]
  simp only [grpGo,e]
  cases hb:newGrp ys i with
  | true=>simp [grpAdd,ih]
  | false =>
   have hi:0 < i:=by
    rcases Nat.eq_zero_or_pos i with h0 | h0
    ·subst h0; simp [newGrp] at hb
    ·exact h0
   have hs:=last_split (grpGo_ne ys i hi) []
   simp only [grpAdd]
   have:((grpGo ys i).dropLast ++ [(grpGo ys i).getLast?.getD [] ++ [ys[i]]]).flatten=((grpGo ys i).dropLast ++ [(grpGo ys i).getLast?.getD []]).flatten ++ [ys[i]]:=by simp
   rw [this,← hs,ih]
theorem grpGo_mem (ys:List IT) (i:Nat) (h:i ≤ ys.length):∀ g ∈ grpGo ys i,g.length ≤ i:=by
 intro g hg
 have h1:(grpGo ys i).flatten.length=i:=by rw [grpGo_flat ys i h,List.length_take]; omega
 have h2:g.length ≤ (grpGo ys i).flatten.length:=(List.sublist_flatten_of_mem hg).length_le
 omega
abbrev GU:=PUnit×List IT
def gu (g:List IT):GU:=((),g)
theorem row_j1 (n:Nat) (ys:List IT) (i:Nat) (hi:i < ys.length) (h9:ys.length ≤ 8192) (ih:Int→List GU→Option (List (List IT))) (L:List GU) (g:List IT) (hL:L.length ≤ 8192) (hg:g.length ≤ 8192) :
  spec_row_j1 n c46.F c48a.F ys (i:Int) ih (L ++ [gu g])=ih ((i + 1:Nat):Int) (L ++ [gu (g ++ [ys[i]])]):=by
 rw [spec_row_j1_S]
 have e1:Go.IntKind.i64.wrap (((L ++ [gu g]).length:Int) - 1)=(L.length:Int):=by
  rw [wrapOK] <;> simp <;> omega
 have e2:(L ++ [gu g]).getD L.length ((),Go.Ev.nl IT)=gu g:=by simp [List.getD]
 have e3:((List.replicate (1:Nat) ((0:Int),(0:Int),(0:Int),(0:Int))).set (0:Nat) (ys.getD i ((0:Int),(0:Int),(0:Int),(0:Int))))=[ys[i]]:=by
  rw [getLt hi]; rfl
 have c1:(0:Int) ≤ (L.length:Int)∧(L.length:Int) < ((L ++ [gu g]).length:Int):=by simp; omega
 have c2:((gu g).snd.length + [ys[i]].length) * 32 ≤ 140737488355328∧0 < 32:=by simp [gu]; omega
 simp only [e1,Int.toNat_natCast,e2,e3]
 simp only [if_pos c1,if_pos c2,if_true]
 rw [wrapS (by omega)]
 congr 1
 rw [List.set_append_right _ _ (Nat.le_refl _)]
 simp [gu]
theorem row_l0 (n:Nat) (ys:List IT) (h9:ys.length ≤ 8192):∀ (k m i:Nat),i + k=ys.length→k < m→spec_row_l0 n c46.F c48a.F ys m (i:Int) ((grpGo ys i).map gu)=some (rowOf ys):=by
 intro k
 induction k with
 | zero =>
  intro m i hi hm
  obtain ⟨m,rfl,hm⟩:=sucM hm
  rw [spec_row_l0_S]
  have h1:¬ ((i:Int) < (ys.length:Int)):=by omega
  have:i=ys.length:=by omega
  subst this
  simp only [h1,decide_false,cond_false,List.map_map]
  congr 1
  exact (List.map_congr_left fun g _=>rfl).trans (List.map_id _)
 | succ k ih =>
  intro m i hi hm
  obtain ⟨m,rfl,hm⟩:=sucM hm
  have hlt:i < ys.length:=by omega
  have h1:((i:Int) < (ys.length:Int)):=by omega
  have h2:(0:Int) ≤ (i:Int)∧(i:Int) < (ys.length:Int):=by omega
  have ih':=ih m (i + 1) (by omega) (by omega)
  have hl:=grpGo_len ys i
  have c1:(((grpGo ys i).map gu).length + [((),Go.Ev.nl IT)].length) * 24 ≤ 140737488355328∧0 < 24:=by simp; omega
  rw [spec_row_l0_S]
  simp only [show decide ((i:Int) < (ys.length:Int))=true by simpa using h1,cond_true,if_pos h2,if_pos c1]
  have new:spec_row_j1 n c46.F c48a.F ys (i:Int) (spec_row_l0 n c46.F c48a.F ys m) ((grpGo ys i).map gu ++ [((),Go.Ev.nl IT)])=spec_row_l0 n c46.F c48a.F ys m ((i + 1:Nat):Int) ((grpAdd (grpGo ys i) (ys.getD i IT0) true).map gu):=by
   have:=row_j1 n ys i hlt h9 (spec_row_l0 n c46.F c48a.F ys m) ((grpGo ys i).map gu) [] (by simp; omega) (by simp)
   rw [show ((),Go.Ev.nl IT)=gu [] from rfl,this,getLt hlt]
   simp [grpAdd,gu]
  have e0:grpGo ys (i + 1)=grpAdd (grpGo ys i) (ys.getD i IT0) (newGrp ys i):=rfl
  by_cases h0:i=0
  ·subst h0
   have:newGrp ys 0=true:=by simp [newGrp]
   rw [e0,this] at ih'
   rw [show (((0:Nat):Int) == 0)=true from rfl]
   simp only [cond_true]
   rw [new,ih']
  ·have h3:((i:Int) == 0)=false:=by simp [h0]
   have h4:Go.IntKind.i64.wrap ((i:Int) - 1)=((i - 1:Nat):Int):=wrapP (by omega) (by omega)
   have h5:(0:Int) ≤ ((i - 1:Nat):Int)∧((i - 1:Nat):Int) < (ys.length:Int):=by omega
   simp only [h3,cond_false,h4,if_pos h5,Int.toNat_natCast]
   have hb:newGrp ys i=((ys.getD (i - 1) ((0:Int),(0:Int),(0:Int),(0:Int))).1 != (ys.getD i ((0:Int),(0:Int),(0:Int),(0:Int))).1):=by
    simp only [newGrp,IT0]
    rw [show (i == 0)=false by simp [h0],Bool.false_or]
   rw [← hb]
   cases hn:newGrp ys i with
   | true =>
    rw [e0,hn] at ih'
    simp only [cond_true]
    rw [new,ih']
   | false =>
    rw [e0,hn] at ih'
    simp only [cond_false]
    have hs:=last_split (grpGo_ne ys i (by omega)) []
    have hmem:(grpGo ys i).getLast?.getD [] ∈ grpGo ys i:=by
     rw [List.getLast?_eq_some_getLast (grpGo_ne ys i (by omega))]
     exact List.getLast_mem _
    have hg:=grpGo_mem ys i (by omega) _ hmem
    have hd:((grpGo ys i).dropLast.map gu).length ≤ 8192:=by simp; omega
    have:=row_j1 n ys i hlt h9 (spec_row_l0 n c46.F c48a.F ys m) ((grpGo ys i).dropLast.map gu) ((grpGo ys i).getLast?.getD []) hd (by omega)
    have e1:(grpGo ys i).map gu=(grpGo ys i).dropLast.map gu ++ [gu ((grpGo ys i).getLast?.getD [])]:=by
     conv=>lhs; rw [hs]
     simp
    rw [e1,this,← ih',getLt hlt]
    simp [grpAdd]
def ltRow (x y:IT):Bool:=decide (cfRow x y < 0)
theorem ltRow_iff (x y:IT):ltRow x y=true ↔ x.1 < y.1 ∨ x.1=y.1∧(x.2.1 < y.2.1 ∨ x.2.1=y.2.1∧x.2.2.1 < y.2.2.1):=by
 unfold ltRow; rw [decide_eq_true_eq,cfRow_neg]
theorem Clone_item_eq (n:Nat) (xs:List IT) (h:xs.length ≤ 1073741824):slices_Clone_api_Item n xs=some xs:=by
 unfold slices_Clone_api_Item slices_Clone_api_Item_n
 cases xs with
 | nil=>rfl
 | cons x xs =>
  simp only [List.isEmpty_cons,cond_false,Bool.not_false,cond_true,List.length_replicate,Nat.zero_add]
  rw [if_pos (by simp only [List.length_cons] at h ⊢; omega)]; rfl
theorem row_eq (n:Nat) (hn:1099511627776 < n) (xs:List IT) (h9:xs.length ≤ 8192) (hs:ascL ltRow (isortL ltRow xs)=true):spec_row n xs=some (rowOf (isortL ltRow xs)):=by
 rw [spec_row_S,Clone_item_eq n xs (by omega)]
 have e1:slices_SortFunc_row n xs ()=some (isortL ltRow xs):=by
  have:slices_SortFunc_row n xs ()=(bif decide (xs.length < 4611686018427387904) then sortS ltRow xs else none):=rfl
  rw [this]
  have:decide (xs.length < 4611686018427387904)=true:=by simp; omega
  rw [this]
  simp [sortS,hs]
 have hl:(isortL ltRow xs).length=xs.length:=(isortL_perm ltRow xs).length_eq
 simp only [Option.bind_some,e1]
 exact row_l0 n (isortL ltRow xs) (by omega) (isortL ltRow xs).length n 0 (by omega) (by omega)
abbrev FO:=(Int×Int)×List IT
def FO0:FO:=((0,0),[])
def sesAdd (fs:List FO) (sz:Int) (x:IT):Bool→List FO
 | true=>fs ++ [((x.2.1,x.2.1 + sz),[x])]
 | false=>fs.dropLast ++ [(((fs.getLast?.getD FO0).1.1,x.2.1 + sz),(fs.getLast?.getD FO0).2 ++ [x])]
def newSes (g:List IT) (sz:Int) (i:Nat):Bool:=i == 0 || decide (sz ≤ (g.getD i IT0).2.1 - (g.getD (i - 1) IT0).2.1)
def sesGo (g:List IT) (sz:Int):Nat→List FO
 | 0=>[]
 | i + 1=>sesAdd (sesGo g sz i) sz (g.getD i IT0) (newSes g sz i)
def sesOf (q:QY) (g:List IT):List FO:=sesGo g q.2.2.1 g.length
theorem sesGo_ne (g:List IT) (sz:Int) (i:Nat) (h:0 < i):sesGo g sz i ≠ []:=by
 cases i with
 | zero=>omega
 | succ i =>
  simp only [sesGo]
  cases newSes g sz i <;> simp [sesAdd]
theorem sesGo_len (g:List IT) (sz:Int):∀ i,(sesGo g sz i).length ≤ i
 | 0=>by simp [sesGo]
 | i + 1=>by
  have ih:=sesGo_len g sz i
  simp only [sesGo]
  cases hb:newSes g sz i with
  | true=>simp [sesAdd]; omega
  | false=>simp [sesAdd]; omega
theorem sesGo_flat (g:List IT) (sz:Int):∀ i,i ≤ g.length→((sesGo g sz i).map Prod.snd).flatten=g.take i
 | 0,_=>by simp [sesGo]
 | i + 1,h=>by
  have ih:=sesGo_flat g sz i (by omega)
  have hlt:i < g.length:=by omega
  have e:g.getD i IT0=g[i]:=getLt hlt _
  rw [List.take_succ_eq_append_getElem hlt]
  simp only [sesGo,e]
  cases hb:newSes g sz i with
  | true=>simp [sesAdd,ih]
  | false =>
   have hi:0 < i:=by
    rcases Nat.eq_zero_or_pos i with h0 | h0
    ·subst h0; simp [newSes] at hb
    ·exact h0
   have hs:=last_split (sesGo_ne g sz i hi) FO0
   rw [hs] at ih
   simp only [sesAdd]
   simp only [List.map_append,List.map_cons,List.map_nil,List.flatten_append,List.flatten_cons,List.flatten_nil,List.append_nil] at ih ⊢
   rw [← List.append_assoc,ih]
theorem sesGo_mem (g:List IT) (sz:Int) (i:Nat) (h:i ≤ g.length):∀ f ∈ sesGo g sz i,f.2.length ≤ i:=by
 intro f hf
 have h1:((sesGo g sz i).map Prod.snd).flatten.length=i:=by rw [sesGo_flat g sz i h,List.length_take]; omega
 have h2:f.2.length ≤ ((sesGo g sz i).map Prod.snd).flatten.length:=(List.sublist_flatten_of_mem (List.mem_map_of_mem hf)).length_le
 omega
def timeIn (x:IT):Prop:=-1099511627776 ≤ x.2.1∧x.2.1 ≤ 1099511627776
theorem ses_j1 (n:Nat) (q:QY) (g:List IT) (i:Nat) (hi:i < g.length) (h9:g.length ≤ 8192) (hq:0 ≤ q.2.2.1∧q.2.2.1 ≤ 1073741824) (ht:timeIn g[i]) (ih:Int→List FO→Option (List FO)) (L:List FO) (st en:Int) (xs:List IT) (hL:L.length ≤ 8192) (hg:xs.length ≤ 8192) :
  spec_sessions_j1 n q g (i:Int) ih (L ++ [((st,en),xs)])=ih ((i + 1:Nat):Int) (L ++ [((st,g[i].2.1 + q.2.2.1),xs ++ [g[i]])]):=by
 rw [spec_sessions_j1_S]
 have e1:Go.IntKind.i64.wrap (((L ++ [((st,en),xs)]).length:Int) - 1)=(L.length:Int):=by
  rw [wrapOK] <;> simp <;> omega
 have e2:(L ++ [((st,en),xs)]).getD L.length (((0:Int),(0:Int)),Go.Ev.nl IT)=((st,en),xs):=by simp [List.getD]
 have e4:g.getD i ((0:Int),(0:Int),(0:Int),(0:Int))=g[i]:=getLt hi _
 have e3:((List.replicate (1:Nat) ((0:Int),(0:Int),(0:Int),(0:Int))).set (0:Nat) g[i])=[g[i]]:=rfl
 have c1:(0:Int) ≤ (L.length:Int)∧(L.length:Int) < ((L ++ [((st,en),xs)]).length:Int):=by simp; omega
 have c2:(xs.length + [g[i]].length) * 32 ≤ 140737488355328∧0 < 32:=by simp; omega
 have e5:Go.IntKind.i64.wrap (g[i].2.1 + q.2.2.1)=g[i].2.1 + q.2.2.1:=by
  obtain ⟨a,b⟩:=ht
  exact wrapOK (by omega) (by omega)
 have e6:∀ v:FO,(L ++ [((st,en),xs)]).set L.length v=L ++ [v]:=by
  intro v
  rw [List.set_append_right _ _ (Nat.le_refl _)]
  simp
 have e7:∀ v w:FO,(L ++ [v]).set L.length w=L ++ [w]:=by
  intro v w
  rw [List.set_append_right _ _ (Nat.le_refl _)]
  simp
 have e8:∀ v:FO,(L ++ [v]).getD L.length (((0:Int),(0:Int)),Go.Ev.nl IT)=v:=by intro v; simp [List.getD]
 simp only [e1,Int.toNat_natCast,e4,e3,e2,e5]
 simp only [if_pos c1,if_pos c2,if_true,e6,e7,e8]
 rw [wrapS (by omega)]
theorem ses_l0 (n:Nat) (q:QY) (g:List IT) (h9:g.length ≤ 8192) (hq:0 ≤ q.2.2.1∧q.2.2.1 ≤ 1073741824) (ht:∀ x ∈ g,timeIn x):∀ (k m i:Nat),i + k=g.length→k < m→spec_sessions_l0 n q g m (i:Int) (sesGo g q.2.2.1 i)=some (sesOf q g):=by
 intro k
 induction k with
 | zero =>
  intro m i hi hm
  obtain ⟨m,rfl,hm⟩:=sucM hm
  rw [spec_sessions_l0_S]
  have h1:¬ ((i:Int) < (g.length:Int)):=by omega
  have:i=g.length:=by omega
  subst this
  simp only [h1,decide_false,cond_false]
  rfl
 | succ k ih =>
  intro m i hi hm
  obtain ⟨m,rfl,hm⟩:=sucM hm
  have hlt:i < g.length:=by omega
  have h1:((i:Int) < (g.length:Int)):=by omega
  have h2:(0:Int) ≤ (i:Int)∧(i:Int) < (g.length:Int):=by omega
  have ih':=ih m (i + 1) (by omega) (by omega)
  have hl:=sesGo_len g q.2.2.1 i
  have hti:=ht g[i] (List.getElem_mem hlt)
  have e4:g.getD i ((0:Int),(0:Int),(0:Int),(0:Int))=g[i]:=getLt hlt _
  have c1:((sesGo g q.2.2.1 i).length + [((g[i].2.1,(0:Int)),Go.Ev.nl IT)].length) * 40 ≤ 140737488355328∧0 < 40:=by simp; omega
  rw [spec_sessions_l0_S]
  simp only [show decide ((i:Int) < (g.length:Int))=true by simpa using h1,cond_true,if_pos h2,Int.toNat_natCast,e4,if_pos c1]
  have new:spec_sessions_j1 n q g (i:Int) (spec_sessions_l0 n q g m) (sesGo g q.2.2.1 i ++ [((g[i].2.1,(0:Int)),Go.Ev.nl IT)])=spec_sessions_l0 n q g m ((i + 1:Nat):Int) (sesAdd (sesGo g q.2.2.1 i) q.2.2.1 (g.getD i IT0) true):=by
   rw [ses_j1 n q g i hlt h9 hq hti _ _ _ _ _ (by omega) (by simp [nl]),getLt hlt]
   simp [sesAdd,nl]
  have e0:sesGo g q.2.2.1 (i + 1)=sesAdd (sesGo g q.2.2.1 i) q.2.2.1 (g.getD i IT0) (newSes g q.2.2.1 i):=rfl
  by_cases h0:i=0
  ·subst h0
   have:newSes g q.2.2.1 0=true:=by simp [newSes]
   rw [e0,this] at ih'
   rw [show (((0:Nat):Int) == 0)=true from rfl]
   simp only [cond_true]
   rw [new,ih']
  ·have h3:((i:Int) == 0)=false:=by simp [h0]
   have h4:Go.IntKind.i64.wrap ((i:Int) - 1)=((i - 1:Nat):Int):=wrapP (by omega) (by omega)
   have h5:(0:Int) ≤ ((i - 1:Nat):Int)∧((i - 1:Nat):Int) < (g.length:Int):=by omega
   have hlt1:i - 1 < g.length:=by omega
   have e5:g.getD (i - 1) ((0:Int),(0:Int),(0:Int),(0:Int))=g[i - 1]:=getLt hlt1 _
   have ht1:=ht g[i - 1] (List.getElem_mem hlt1)
   have e6:Go.IntKind.i64.wrap (g[i].2.1 - g[i - 1].2.1)=g[i].2.1 - g[i - 1].2.1:=by
    obtain ⟨a,b⟩:=hti
    obtain ⟨c,d⟩:=ht1
    exact wrapOK (by omega) (by omega)
   simp only [h3,cond_false,h4,if_pos h5,Int.toNat_natCast,e5,e6]
   have hb:newSes g q.2.2.1 i=decide (g[i].2.1 - g[i - 1].2.1 ≥ q.2.2.1):=by
    simp only [newSes]
    rw [show (i == 0)=false by simp [h0],Bool.false_or,getLt hlt,getLt hlt1]
   rw [← hb]
   cases hn:newSes g q.2.2.1 i with
   | true =>
    rw [e0,hn] at ih'
    simp only [cond_true]
    rw [new,ih']
   | false =>
    rw [e0,hn] at ih'
    simp only [cond_false]
    have hs:=last_split (sesGo_ne g q.2.2.1 i (by omega)) FO0
    have hmem:(sesGo g q.2.2.1 i).getLast?.getD FO0 ∈ sesGo g q.2.2.1 i:=by
     rw [List.getLast?_eq_some_getLast (sesGo_ne g q.2.2.1 i (by omega))]
     exact List.getLast_mem _
    have hg:=sesGo_mem g q.2.2.1 i (by omega) _ hmem
    have hd:(sesGo g q.2.2.1 i).dropLast.length ≤ 8192:=by simp; omega
    have:=ses_j1 n q g i hlt h9 hq hti (spec_sessions_l0 n q g m) (sesGo g q.2.2.1 i).dropLast ((sesGo g q.2.2.1 i).getLast?.getD FO0).1.1 ((sesGo g q.2.2.1 i).getLast?.getD FO0).1.2 ((sesGo g q.2.2.1 i).getLast?.getD FO0).2 hd (by omega)
    have e1:sesGo g q.2.2.1 i=(sesGo g q.2.2.1 i).dropLast ++ [((((sesGo g q.2.2.1 i).getLast?.getD FO0).1.1,((sesGo g q.2.2.1 i).getLast?.getD FO0).1.2),((sesGo g q.2.2.1 i).getLast?.getD FO0).2)]:=hs
    rw [getLt hlt] at ih'
    conv=>lhs; rw [e1]
    rw [this,← ih']
    rfl
theorem sessions_eq (n:Nat) (q:QY) (g:List IT) (h9:g.length ≤ 8192) (hn:8192 < n) (hq:0 ≤ q.2.2.1∧q.2.2.1 ≤ 1073741824) (ht:∀ x ∈ g,timeIn x):spec_sessions n q g=some (sesOf q g):=by
 rw [spec_sessions_S]
 exact ses_l0 n q g h9 hq ht g.length n 0 (by omega) (by omega)
theorem floor_spec (a b:Int) (hb:0 < b):(if a.tmod b < 0 then a.tdiv b - 1 else a.tdiv b)=a / b:=by
 have h1:=Int.mul_tdiv_add_tmod a b
 have h2:=Int.tmod_lt_of_pos a hb
 have h3:-b < a.tmod b:=by
  have:=Int.lt_tmod_of_pos a hb
  exact this
 by_cases h:a.tmod b < 0
 ·rw [if_pos h]
  refine (Int.ediv_emod_unique (r:=a.tmod b + b) hb |>.2 ⟨?_,by omega,by omega⟩).1.symm
  rw [Int.mul_sub,Int.mul_one]; omega
 ·rw [if_neg h]
  exact (Int.ediv_emod_unique (r:=a.tmod b) hb |>.2 ⟨by omega,by omega,h2⟩).1.symm
theorem ediv_in {a b:Int} (hb:0 < b) (h1:-4398046511104 ≤ a) (h2:a ≤ 4398046511104):-4398046511104 ≤ a / b∧a / b ≤ 4398046511104:=by
 constructor
 ·exact (Int.le_ediv_iff_mul_le hb).2 (by omega)
 ·rcases Int.lt_or_le a 0 with h | h
  ·have:=Int.ediv_neg_of_neg_of_pos h hb; omega
  ·have:=Int.ediv_le_self b h; omega
theorem Div_eq (n:Nat) (a b:Int) (hb:1 ≤ b) (h1:-4398046511104 ≤ a) (h2:a ≤ 4398046511104):floor_Div n a b=some (a / b,0):=by
 rw [floor_Div_S]
 have e1:¬ b < 1:=by omega
 have e2:b ≠ 0:=by omega
 have hs:=floor_spec a b (by omega)
 have hd:=ediv_in (a:=a) (b:=b) (by omega) h1 h2
 simp only [floor_Div_j0_S,e1,decide_false,cond_false,ne_eq,e2,not_false_eq_true,decide_true,cond_true]
 by_cases h:a.tmod b < 0
 ·rw [if_pos h] at hs
  have w1:Go.IntKind.i64.wrap (a.tdiv b)=a.tdiv b:=wrapOK (by omega) (by omega)
  have w2:Go.IntKind.i64.wrap (a.tdiv b - 1)=a.tdiv b - 1:=wrapOK (by omega) (by omega)
  have w3:Go.IntKind.i64.wrap (a / b)=a / b:=wrapOK (by omega) (by omega)
  simp only [h,decide_true,cond_true,w1,w2,hs,w3]
 ·rw [if_neg h] at hs
  have w1:Go.IntKind.i64.wrap (a.tdiv b)=a.tdiv b:=wrapOK (by omega) (by omega)
  have w3:Go.IntKind.i64.wrap (a / b)=a / b:=wrapOK (by omega) (by omega)
  simp only [h,decide_false,cond_false,w1,hs,w3]
def stepOf (q:QY):Int:=if q.1=1 then q.2.2.2.1 else q.2.2.1
theorem Step_eq (n:Nat) (q:QY):window_Step n q=some (stepOf q):=by
 unfold window_Step stepOf
 by_cases h:q.1=1
 ·simp [h]
 ·rw [show (q.1 == 1)=false by simp [h],if_neg h]; rfl
structure FixQ (q:QY):Prop where
 step:1 ≤ stepOf q∧stepOf q ≤ q.2.2.1
 size:q.2.2.1 ≤ 1073741824
theorem FixQ.of {q:QY} (h:qMay q=true) (h2:q.1 ≠ 2):FixQ q:=by
 simp only [qMay,Bool.and_eq_true,decide_eq_true_eq] at h
 obtain ⟨h3,h4,_,h5⟩:=h
 refine ⟨?_,h4⟩
 unfold stepOf
 by_cases k:q.1=1
 ·rw [if_pos k] at h5 ⊢
  simp only [slidingB,Bool.and_eq_true,decide_eq_true_eq] at h5
  exact ⟨h5.1,h5.2.1⟩
 ·rw [if_neg k]
  exact ⟨h3,Int.le_refl _⟩
def firstK (q:QY) (t:Int):Int:=(t - q.2.2.1) / stepOf q + 1
def cntK (q:QY) (t:Int):Nat:=(t / stepOf q - (t - q.2.2.1) / stepOf q).toNat
def spanAt (q:QY) (k:Int):Int×Int:=(k * stepOf q,k * stepOf q + q.2.2.1)
def spansOf (q:QY) (t:Int):List (Int×Int):=(List.range (cntK q t)).map fun j:Nat=>spanAt q (firstK q t + j)
theorem mul_in {q:QY} (hq:FixQ q) {k:Int} {t:Int} (ht:-1099511627776 ≤ t∧t ≤ 1099511627776) (h1:(t - q.2.2.1) / stepOf q ≤ k) (h2:k ≤ t / stepOf q + 1) :
  t - q.2.2.1 - stepOf q < k * stepOf q∧k * stepOf q ≤ t + stepOf q:=by
 have hs:0 < stepOf q:=by have:=hq.step; omega
 constructor
 ·have a:=Int.lt_ediv_add_one_mul_self (t - q.2.2.1) hs
  have b:(t - q.2.2.1) / stepOf q * stepOf q ≤ k * stepOf q:=Int.mul_le_mul_of_nonneg_right h1 (by omega)
  rw [Int.add_mul,Int.one_mul] at a
  omega
 ·have a:=Int.ediv_mul_le t (show stepOf q ≠ 0 by omega)
  have b:k * stepOf q ≤ (t / stepOf q + 1) * stepOf q:=Int.mul_le_mul_of_nonneg_right h2 (by omega)
  rw [Int.add_mul,Int.one_mul] at b
  omega
theorem LastOf_eq (n:Nat) (q:QY) (hq:FixQ q) (t:Int) (h1:-2199023255552 ≤ t) (h2:t ≤ 2199023255552):window_LastOf n q t=some (t / stepOf q * stepOf q):=by
 have hs:=hq.step
 rw [window_LastOf_S,Step_eq]
 simp only [Option.bind_some]
 rw [Div_eq n t (stepOf q) hs.1 (by omega) (by omega)]
 simp only [Option.bind_some]
 have a:=Int.ediv_mul_le t (show stepOf q ≠ 0 by omega)
 have b:=Int.lt_ediv_add_one_mul_self t (show 0 < stepOf q by omega)
 rw [Int.add_mul,Int.one_mul] at b
 have hsz:=hq.size
 rw [wrapOK (by omega) (by omega)]
theorem FirstOf_eq (n:Nat) (q:QY) (hq:FixQ q) (t:Int) (ht:-1099511627776 ≤ t∧t ≤ 1099511627776):window_FirstOf n q t=some (firstK q t * stepOf q):=by
 have hs:=hq.step
 have hsz:=hq.size
 rw [window_FirstOf_S]
 rw [wrapOK (x:=t - q.2.2.1) (by omega) (by omega),LastOf_eq n q hq _ (by omega) (by omega)]
 simp only [Option.bind_some,Step_eq]
 have a:=Int.ediv_mul_le (t - q.2.2.1) (show stepOf q ≠ 0 by omega)
 have b:=Int.lt_ediv_add_one_mul_self (t - q.2.2.1) (show 0 < stepOf q by omega)
 rw [Int.add_mul,Int.one_mul] at b
 rw [wrapOK (by omega) (by omega),firstK,Int.add_mul,Int.one_mul]
theorem ediv_41 {a b:Int} (hb:0 < b) (h1:-2199023255552 ≤ a) (h2:a ≤ 2199023255552):-2199023255552 ≤ a / b∧a / b ≤ 2199023255552:=by
 constructor
 ·exact (Int.le_ediv_iff_mul_le hb).2 (by omega)
 ·rcases Int.lt_or_le a 0 with h | h
  ·have:=Int.ediv_neg_of_neg_of_pos h hb; omega
  ·have:=Int.ediv_le_self b h; omega
theorem spans_range (q:QY) (t:Int) (j:Nat):(List.range (j + 1)).map (fun j:Nat=>spanAt q (firstK q t + j))=(List.range j).map (fun j:Nat=>spanAt q (firstK q t + j)) ++ [spanAt q (firstK q t + j)]:=by
 rw [List.range_succ,List.map_append]; rfl
theorem Of_l0 (n:Nat) (q:QY) (hq:FixQ q) (t:Int) (ht:-1099511627776 ≤ t∧t ≤ 1099511627776):∀ (k m j:Nat),j + k=cntK q t→k < m →
  window_Of_l0 n c85.F c89.F c90.F c91.F q t m ((firstK q t + j) * stepOf q) ((List.range j).map fun j:Nat=>spanAt q (firstK q t + j))=some (spansOf q t,0):=by
 have hs:=hq.step
 have hsz:=hq.size
 have d1:=ediv_41 (a:=t) (b:=stepOf q) (by omega) (by omega) (by omega)
 have d2:=ediv_41 (a:=t - q.2.2.1) (b:=stepOf q) (by omega) (by omega) (by omega)
 intro k
 induction k with
 | zero =>
  intro m j hi hm
  obtain ⟨m,rfl,hm⟩:=sucM hm
  rw [window_Of_l0_S]
  have h1:¬ ((firstK q t + j) * stepOf q ≤ t):=by
   rw [← Int.le_ediv_iff_mul_le (show 0 < stepOf q by omega)]
   simp only [firstK,cntK] at hi ⊢
   omega
  have:j=cntK q t:=by omega
  subst this
  simp only [h1,decide_false,cond_false]
  rfl
 | succ k ih =>
  intro m j hi hm
  obtain ⟨m,rfl,hm⟩:=sucM hm
  have hk:firstK q t + j ≤ t / stepOf q:=by simp only [firstK,cntK] at hi ⊢; omega
  have h1:(firstK q t + j) * stepOf q ≤ t:=by
   rw [← Int.le_ediv_iff_mul_le (show 0 < stepOf q by omega)]; exact hk
  have hb:=mul_in hq (k:=firstK q t + j) ht (by simp only [firstK]; omega) (by omega)
  have ih':=ih m (j + 1) (by omega) (by omega)
  rw [spans_range] at ih'
  have hj:j ≤ 4398046511104:=by simp only [cntK] at hi; omega
  have e1:Go.IntKind.i64.wrap ((firstK q t + j) * stepOf q + q.2.2.1)=(firstK q t + j) * stepOf q + q.2.2.1:=wrapOK (by omega) (by omega)
  have e2:Go.IntKind.i64.wrap ((firstK q t + j) * stepOf q + stepOf q)=(firstK q t + ((j + 1:Nat):Int)) * stepOf q:=by
   have e3:(firstK q t + ((j + 1:Nat):Int)) * stepOf q=(firstK q t + j) * stepOf q + stepOf q:=by
    rw [show firstK q t + ((j + 1:Nat):Int)=(firstK q t + j) + 1 by omega,Int.add_mul,Int.one_mul]
   rw [e3]
   exact wrapOK (by omega) (by omega)
  have c1:(((List.range j).map fun j:Nat=>spanAt q (firstK q t + j)).length + ((List.replicate (1:Nat) ((0:Int),(0:Int))).set (0:Nat) ((firstK q t + j) * stepOf q,(firstK q t + j) * stepOf q + q.2.2.1)).length) * 16 ≤ 140737488355328∧0 < 16:=by simp; omega
  rw [window_Of_l0_S]
  simp only [h1,decide_true,cond_true,e1,Step_eq,Option.bind_some,e2]
  rw [if_pos c1]
  exact ih'
theorem TimeMay_eq (n:Nat) (t:Int) (ht:-1099511627776 ≤ t∧t ≤ 1099511627776):window_TimeMay n t=some true:=by
 unfold window_TimeMay
 simp [ht.1,ht.2,GE.ge]
theorem Of_eq (n:Nat) (hn:9007199254740992 < n) (q:QY) (hm:qMay q=true) (h2:q.1 ≠ 2) (t:Int) (ht:-1099511627776 ≤ t∧t ≤ 1099511627776):window_Of n q t=some (spansOf q t,0):=by
 have hq:=FixQ.of hm h2
 have hs:=hq.step
 have hsz:=hq.size
 have d1:=ediv_41 (a:=t) (b:=stepOf q) (by omega) (by omega) (by omega)
 have d2:=ediv_41 (a:=t - q.2.2.1) (b:=stepOf q) (by omega) (by omega) (by omega)
 have h:=Of_l0 n q hq t ht (cntK q t) n 0 (by omega) (by simp only [cntK]; omega)
 rw [window_Of_S,wMay_eq n (by omega),hm,TimeMay_eq n t ht,FirstOf_eq n q hq t ht]
 rw [show ((0:Nat):Int)=0 from rfl,Int.add_zero] at h
 have h2':(q.1 == 2)=false:=by simp [h2]
 simp only [Option.bind_some,Bool.not_true,cond_false,h2']
 exact h
def putF (s:Int×Int) (x:IT):List FO→List FO
 | []=>[(s,[x])]
 | f :: fs=>if f.1.1 < s.1 then f :: putF s x fs else (f.1,f.2 ++ [x]) :: fs
def posF (s:Int×Int):List FO→Nat
 | []=>0
 | f :: fs=>if f.1.1 < s.1 then posF s fs + 1 else 0
theorem posF_le (s:Int×Int):∀ l:List FO,posF s l ≤ l.length
 | []=>Nat.le_refl _
 | f :: fs=>by
  have:=posF_le s fs
  simp only [posF,List.length_cons]
  split <;> omega
theorem posF_lt {s:Int×Int}:∀ {l:List FO} {j:Nat} (hj:j < posF s l) (hl:j < l.length),l[j].1.1 < s.1
 | [],j,hj,hl=>by simp at hl
 | f :: fs,0,hj,hl=>by
  simp only [posF] at hj
  split at hj
  ·assumption
  ·omega
 | f :: fs,j + 1,hj,hl=>by
  simp only [posF] at hj
  split at hj
  ·have:=posF_lt (s:=s) (l:=fs) (j:=j) (by omega) (by simpa using hl)
   simpa using this
  ·omega
theorem posF_at {s:Int×Int}:∀ {l:List FO} (hl:posF s l < l.length),¬ l[posF s l].1.1 < s.1
 | [],hl=>by simp [posF] at hl
 | f :: fs,hl=>by
  by_cases h:f.1.1 < s.1
  ·have e:posF s (f :: fs)=posF s fs + 1:=by simp [posF,h]
   have:=posF_at (l:=fs) (s:=s) (by rw [e] at hl; simpa using hl)
   simp only [e,List.getElem_cons_succ]
   exact this
  ·have e:posF s (f :: fs)=0:=by simp [posF,h]
   simp only [e,List.getElem_cons_zero]
   exact h
theorem putF_end {s:Int×Int} {x:IT}:∀ {l:List FO},posF s l=l.length→putF s x l=l ++ [(s,[x])]
 | [],_=>rfl
 | f :: fs,h=>by
  by_cases hf:f.1.1 < s.1
  ·have e:posF s (f :: fs)=posF s fs + 1:=by simp [posF,hf]
   have:=putF_end (s:=s) (x:=x) (l:=fs) (by rw [e] at h; simpa using h)
   simp [putF,hf,this]
  ·have e:posF s (f :: fs)=0:=by simp [posF,hf]
   rw [e] at h; simp at h
theorem putF_at {s:Int×Int} {x:IT}:∀ {l:List FO} (h:posF s l < l.length),putF s x l=l.set (posF s l) (l[posF s l].1,l[posF s l].2 ++ [x])
 | [],h=>by simp [posF] at h
 | f :: fs,h=>by
  by_cases hf:f.1.1 < s.1
  ·have e:posF s (f :: fs)=posF s fs + 1:=by simp [posF,hf]
   have:=putF_at (s:=s) (x:=x) (l:=fs) (by rw [e] at h; simpa using h)
   simp only [putF,hf,if_true,this,e,List.set_cons_succ,List.getElem_cons_succ]
  ·have e:posF s (f :: fs)=0:=by simp [posF,hf]
   simp only [putF,hf,if_false,e,List.set_cons_zero,List.getElem_cons_zero]
theorem putF_len (s:Int×Int) (x:IT):∀ l:List FO,l.length ≤ (putF s x l).length∧(putF s x l).length ≤ l.length + 1
 | []=>by simp [putF]
 | f :: fs=>by
  have:=putF_len s x fs
  simp only [putF]
  split <;> simp <;> omega
theorem putF_span {s:Int×Int} {x:IT}:∀ {l:List FO} {j:Nat} (hj:j < l.length) (hj':j < (putF s x l).length),(putF s x l)[j].1=l[j].1
 | [],j,hj,_=>by simp at hj
 | f :: fs,0,_,hj'=>by
  by_cases hf:f.1.1 < s.1 <;> simp [putF,hf]
 | f :: fs,j + 1,hj,hj'=>by
  by_cases hf:f.1.1 < s.1
  ·simp only [putF,hf,if_true,List.getElem_cons_succ]
   exact putF_span (by simpa using hj) _
  ·simp [putF,hf]
theorem putF_items (s:Int×Int) (x:IT) (c:Nat):∀ {l:List FO},(∀ f ∈ l,f.2.length ≤ c)→∀ f ∈ putF s x l,f.2.length ≤ c + 1
 | [],h=>by simp [putF]
 | g :: fs,h=>by
  intro f hf
  simp only [putF] at hf
  split at hf
  ·rcases List.mem_cons.1 hf with rfl | hf
   ·have:=h f List.mem_cons_self; omega
   ·exact putF_items s x c (fun f hf=>h f (List.mem_cons_of_mem _ hf)) f hf
  ·rcases List.mem_cons.1 hf with rfl | hf
   ·have:=h g List.mem_cons_self; simp; omega
   ·have:=h f (List.mem_cons_of_mem _ hf); omega
theorem folds_j4 (n:Nat) (q:QY) (low:Int) (xs:List IT) (a b c:Int) (j:Nat) (hj:j < 1073741824) (x:IT) (sp:List (Int×Int)) (p:Nat) (ih:QY→Int→Int→List IT→Int→Int→Int→Int→List FO→Int→Int→Int→Int→List (Int×Int)→Option (List FO)) (l:List FO) (hp:p < l.length) (hi:l[p].2.length ≤ 1073741824) :
  spec_folds_j4 n c62.F c63.F q low xs a b c (j:Int) x.1 x.2.1 x.2.2.1 x.2.2.2 sp (p:Int) ih l=ih q low (p:Int) xs a b c ((j + 1:Nat):Int) (l.set p (l[p].1,l[p].2 ++ [x])) x.1 x.2.1 x.2.2.1 x.2.2.2 sp:=by
 rw [spec_folds_j4_S]
 have c1:(0:Int) ≤ (p:Int)∧(p:Int) < (l.length:Int):=by omega
 have e1:l.getD p (((0:Int),(0:Int)),Go.Ev.nl IT)=l[p]:=getLt hp _
 have e2:((List.replicate (1:Nat) ((0:Int),(0:Int),(0:Int),(0:Int))).set (0:Nat) (x.1,x.2.1,x.2.2.1,x.2.2.2))=[x]:=rfl
 have c2:(l[p].2.length + [x].length) * 32 ≤ 140737488355328∧0 < 32:=by simp; omega
 simp only [Int.toNat_natCast,e1,e2,if_pos c1,if_pos c2,if_true,wrapS (i:=j) (by omega)]
theorem folds_l3 (n:Nat) (q:QY) (low:Int) (xs:List IT) (a b c:Int) (j:Nat) (hj:j < 1073741824) (x:IT) (sp:List (Int×Int)) (s:Int×Int) (hs:sp.getD j (0,0)=s) (ih:QY→Int→Int→List IT→Int→Int→Int→Int→List FO→Int→Int→Int→Int→List (Int×Int)→Option (List FO)) (l:List FO) (hll:l.length ≤ 1073741824) (hi:∀ f ∈ l,f.2.length ≤ 1073741823) :
  ∀ (k m p:Nat),p + k=posF s l→k < m→spec_folds_l3 n c62.F c63.F q low xs a b c (j:Int) l x.1 x.2.1 x.2.2.1 x.2.2.2 sp ih m (p:Int)=ih q low (posF s l:Int) xs a b c ((j + 1:Nat):Int) (putF s x l) x.1 x.2.1 x.2.2.1 x.2.2.2 sp:=by
 have hpl:=posF_le s l
 have hs':sp.getD (j:Int).toNat ((0:Int),(0:Int))=s:=by rw [Int.toNat_natCast]; exact hs
 intro k
 induction k with
 | zero =>
  intro m p hp hm
  obtain ⟨m,rfl,hm⟩:=sucM hm
  rw [Nat.add_zero] at hp
  rw [spec_folds_l3_S]
  simp only [hs']
  rcases Nat.lt_or_ge p l.length with hlt | hge
  ·have h1:(0:Int) ≤ (p:Int)∧(p:Int) < (l.length:Int):=by omega
   have hd:decide ((p:Int) < (l.length:Int))=true:=by simpa using h1.2
   have hne:((p:Int) == (l.length:Int))=false:=by simp; omega
   have hat:=posF_at (s:=s) (l:=l) (by omega)
   have e1:l.getD (p:Int).toNat (((0:Int),(0:Int)),Go.Ev.nl IT)=l[p]:=by rw [Int.toNat_natCast,getLt hlt]
   have h3:¬ l[p].1.1 < s.1:=by subst hp; exact hat
   simp only [hd,cond_true,if_pos h1,e1,h3,decide_false,cond_false,hne]
   rw [folds_j4 n q low xs a b c j hj x sp p ih l hlt (by have:=hi _ (List.getElem_mem hlt); omega)]
   subst hp
   rw [putF_at (by omega)]
  ·have hpe:p=l.length:=by omega
   have hd:decide ((p:Int) < (l.length:Int))=false:=by simp; omega
   have heq:((p:Int) == (l.length:Int))=true:=by simp; omega
   have c1:(l.length + [(s,Go.Ev.nl IT)].length) * 40 ≤ 140737488355328∧0 < 40:=by simp; omega
   simp only [hd,cond_false,heq,cond_true,if_pos c1]
   have hlt:p < (l ++ [(s,Go.Ev.nl IT)]).length:=by simp; omega
   have e2:(l ++ [(s,Go.Ev.nl IT)])[p]=(s,[]):=by subst hpe; simp [nl]
   rw [folds_j4 n q low xs a b c j hj x sp p ih (l ++ [(s,Go.Ev.nl IT)]) hlt (by rw [e2]; simp)]
   have e3:(l ++ [(s,Go.Ev.nl IT)]).set p (s,[x])=l ++ [(s,[x])]:=by
    subst hpe
    rw [List.set_append_right _ _ (Nat.le_refl _)]; simp
   rw [e2]
   simp only [List.nil_append]
   rw [e3,putF_end (by omega),hp]
 | succ k ihk =>
  intro m p hp hm
  obtain ⟨m,rfl,hm⟩:=sucM hm
  have hlt:p < l.length:=by omega
  rw [spec_folds_l3_S]
  simp only [hs']
  have h1:(0:Int) ≤ (p:Int)∧(p:Int) < (l.length:Int):=by omega
  have hd:decide ((p:Int) < (l.length:Int))=true:=by simpa using h1.2
  have e1:l.getD (p:Int).toNat (((0:Int),(0:Int)),Go.Ev.nl IT)=l[p]:=by rw [Int.toNat_natCast,getLt hlt]
  have h3:l[p].1.1 < s.1:=posF_lt (by omega) hlt
  simp only [hd,cond_true,if_pos h1,e1,h3,decide_true,wrapS (i:=p) (by omega)]
  exact ihk m (p + 1) (by omega) (by omega)
theorem folds_j7 (n:Nat) (q:QY) (low:Int) (xs:List IT) (a b c:Int) (j:Nat) (hj:j < 1073741824) (x:IT) (sp:List (Int×Int)) (p:Nat) (ih:QY→Int→Int→List IT→Int→Int→Int→Int→List FO→Int→Int→Int→Int→List (Int×Int)→Option (List FO)) (l:List FO) (hp:p < l.length) (hi:l[p].2.length ≤ 1073741824) :
  spec_folds_j7 n c62.F c63.F q low xs a b c (j:Int) x.1 x.2.1 x.2.2.1 x.2.2.2 sp (p:Int) ih l=ih q low (p:Int) xs a b c ((j + 1:Nat):Int) (l.set p (l[p].1,l[p].2 ++ [x])) x.1 x.2.1 x.2.2.1 x.2.2.2 sp:=by
 rw [spec_folds_j7_S]
 have c1:(0:Int) ≤ (p:Int)∧(p:Int) < (l.length:Int):=by omega
 have e1:l.getD p (((0:Int),(0:Int)),Go.Ev.nl IT)=l[p]:=getLt hp _
 have e2:((List.replicate (1:Nat) ((0:Int),(0:Int),(0:Int),(0:Int))).set (0:Nat) (x.1,x.2.1,x.2.2.1,x.2.2.2))=[x]:=rfl
 have c2:(l[p].2.length + [x].length) * 32 ≤ 140737488355328∧0 < 32:=by simp; omega
 simp only [Int.toNat_natCast,e1,e2,if_pos c1,if_pos c2,if_true,wrapS (i:=j) (by omega)]
theorem folds_l6 (n:Nat) (q:QY) (low:Int) (xs:List IT) (a b c:Int) (j:Nat) (hj:j < 1073741824) (x:IT) (sp:List (Int×Int)) (s:Int×Int) (hs:sp.getD j (0,0)=s) (ih:QY→Int→Int→List IT→Int→Int→Int→Int→List FO→Int→Int→Int→Int→List (Int×Int)→Option (List FO)) (l:List FO) (hll:l.length ≤ 1073741824) (hi:∀ f ∈ l,f.2.length ≤ 1073741823) :
  ∀ (k m p:Nat),p + k=posF s l→k < m→spec_folds_l6 n c62.F c63.F q low xs a b c (j:Int) l x.1 x.2.1 x.2.2.1 x.2.2.2 sp ih m (p:Int)=ih q low (posF s l:Int) xs a b c ((j + 1:Nat):Int) (putF s x l) x.1 x.2.1 x.2.2.1 x.2.2.2 sp:=by
 have hpl:=posF_le s l
 have hs':sp.getD (j:Int).toNat ((0:Int),(0:Int))=s:=by rw [Int.toNat_natCast]; exact hs
 intro k
 induction k with
 | zero =>
  intro m p hp hm
  obtain ⟨m,rfl,hm⟩:=sucM hm
  rw [Nat.add_zero] at hp
  rw [spec_folds_l6_S]
  simp only [hs']
  rcases Nat.lt_or_ge p l.length with hlt | hge
  ·have h1:(0:Int) ≤ (p:Int)∧(p:Int) < (l.length:Int):=by omega
   have hd:decide ((p:Int) < (l.length:Int))=true:=by simpa using h1.2
   have hne:((p:Int) == (l.length:Int))=false:=by simp; omega
   have hat:=posF_at (s:=s) (l:=l) (by omega)
   have e1:l.getD (p:Int).toNat (((0:Int),(0:Int)),Go.Ev.nl IT)=l[p]:=by rw [Int.toNat_natCast,getLt hlt]
   have h3:¬ l[p].1.1 < s.1:=by subst hp; exact hat
   simp only [hd,cond_true,if_pos h1,e1,h3,decide_false,cond_false,hne]
   rw [folds_j7 n q low xs a b c j hj x sp p ih l hlt (by have:=hi _ (List.getElem_mem hlt); omega)]
   subst hp
   rw [putF_at (by omega)]
  ·have hpe:p=l.length:=by omega
   have hd:decide ((p:Int) < (l.length:Int))=false:=by simp; omega
   have heq:((p:Int) == (l.length:Int))=true:=by simp; omega
   have c1:(l.length + [(s,Go.Ev.nl IT)].length) * 40 ≤ 140737488355328∧0 < 40:=by simp; omega
   simp only [hd,cond_false,heq,cond_true,if_pos c1]
   have hlt:p < (l ++ [(s,Go.Ev.nl IT)]).length:=by simp; omega
   have e2:(l ++ [(s,Go.Ev.nl IT)])[p]=(s,[]):=by subst hpe; simp [nl]
   rw [folds_j7 n q low xs a b c j hj x sp p ih (l ++ [(s,Go.Ev.nl IT)]) hlt (by rw [e2]; simp)]
   have e3:(l ++ [(s,Go.Ev.nl IT)]).set p (s,[x])=l ++ [(s,[x])]:=by
    subst hpe
    rw [List.set_append_right _ _ (Nat.le_refl _)]; simp
   rw [e2]
   simp only [List.nil_append]
   rw [e3,putF_end (by omega),hp]
 | succ k ihk =>
  intro m p hp hm
  obtain ⟨m,rfl,hm⟩:=sucM hm
  have hlt:p < l.length:=by omega
  rw [spec_folds_l6_S]
  simp only [hs']
  have h1:(0:Int) ≤ (p:Int)∧(p:Int) < (l.length:Int):=by omega
  have hd:decide ((p:Int) < (l.length:Int))=true:=by simpa using h1.2
  have e1:l.getD (p:Int).toNat (((0:Int),(0:Int)),Go.Ev.nl IT)=l[p]:=by rw [Int.toNat_natCast,getLt hlt]
  have h3:l[p].1.1 < s.1:=posF_lt (by omega) hlt
  simp only [hd,cond_true,if_pos h1,e1,h3,decide_true,wrapS (i:=p) (by omega)]
  exact ihk m (p + 1) (by omega) (by omega)
theorem posF_mono {s s':Int×Int} (h:s.1 ≤ s'.1) (x:IT):∀ l:List FO,posF s l ≤ posF s' (putF s x l)
 | []=>by simp [posF]
 | f :: fs=>by
  have ih:=posF_mono h x fs
  by_cases hf:f.1.1 < s.1
  ·have h2:f.1.1 < s'.1:=by omega
   simp [posF,putF,hf,h2,ih]
  ·simp [posF,hf]
def addAll (x:IT) (l:List FO) (sp:List (Int×Int)):List FO:=sp.foldl (fun o s=>putF s x o) l
theorem folds_l2 (n:Nat) (hn:4294967296 < n) (q:QY) (low:Int) (xs:List IT) (a b:Int) (hb:0 ≤ b∧b ≤ 1073741824) (x:IT) (sp:List (Int×Int)) (hsp:sp.Pairwise fun s s'=>s.1 < s'.1) (hs9:sp.length ≤ 1000) (ih:QY→Int→List IT→Int→Int→List FO→Option (List FO)) :
  ∀ (k m j at0:Nat) (l:List FO),j + k=sp.length→k < m→l.length + k ≤ 1073741824→(∃ c,(∀ f ∈ l,f.2.length ≤ c)∧c + k ≤ 1073741823)→(∀ h:j < sp.length,at0 ≤ posF sp[j] l) →
   spec_folds_l2 n c62.F c63.F ih m q low (at0:Int) xs a b (sp.length:Int) (j:Int) l x.1 x.2.1 x.2.2.1 x.2.2.2 sp=ih q low xs a (b + 1) (addAll x l (sp.drop j)):=by
 intro k
 induction k with
 | zero =>
  intro m j at0 l hj hm hl hc hat
  obtain ⟨m,rfl,hm⟩:=sucM hm
  rw [spec_folds_l2_S]
  have hd:decide ((j:Int) < (sp.length:Int))=false:=by simp; omega
  have e:sp.drop j=[]:=List.drop_eq_nil_of_le (by omega)
  simp only [hd,cond_false,e,addAll,List.foldl_nil]
  rw [wrapOK (by omega) (by omega)]
 | succ k ihk =>
  intro m j at0 l hj hm hl hc hat
  obtain ⟨m,rfl,hm⟩:=sucM hm
  have hlt:j < sp.length:=by omega
  rw [spec_folds_l2_S]
  have h1:(0:Int) ≤ (j:Int)∧(j:Int) < (sp.length:Int):=by omega
  have hd:decide ((j:Int) < (sp.length:Int))=true:=by simpa using h1.2
  obtain ⟨c,hc1,hc2⟩:=hc
  have hp:=hat hlt
  have hpl:=posF_le sp[j] l
  have hlen:=putF_len sp[j] x l
  simp only [hd,cond_true,if_pos h1]
  rw [folds_l3 n q low xs a b (sp.length:Int) j (by omega) x sp sp[j] (getLt hlt _) _ l (by omega) (fun f hf=>by have:=hc1 f hf; omega) (posF sp[j] l - at0) n at0 (by omega) (by omega)]
  rw [ihk m (j + 1) (posF sp[j] l) (putF sp[j] x l) (by omega) (by omega) (by omega) ⟨c + 1,putF_items sp[j] x c hc1,by omega⟩ (fun h=>?_)]
  ·rw [dropLt hlt]; rfl
  ·refine posF_mono ?_ x l
   have:=List.pairwise_iff_getElem.1 hsp j (j + 1) hlt h (by omega)
   omega
theorem folds_l5 (n:Nat) (hn:4294967296 < n) (q:QY) (low:Int) (xs:List IT) (a b:Int) (hb:0 ≤ b∧b ≤ 1073741824) (x:IT) (sp:List (Int×Int)) (hsp:sp.Pairwise fun s s'=>s.1 < s'.1) (hs9:sp.length ≤ 1000) (ih:QY→Int→List IT→Int→Int→List FO→Option (List FO)) :
  ∀ (k m j at0:Nat) (l:List FO),j + k=sp.length→k < m→l.length + k ≤ 1073741824→(∃ c,(∀ f ∈ l,f.2.length ≤ c)∧c + k ≤ 1073741823)→(∀ h:j < sp.length,at0 ≤ posF sp[j] l) →
   spec_folds_l5 n c62.F c63.F ih m q low (at0:Int) xs a b (sp.length:Int) (j:Int) l x.1 x.2.1 x.2.2.1 x.2.2.2 sp=ih q low xs a (b + 1) (addAll x l (sp.drop j)):=by
 intro k
 induction k with
 | zero =>
  intro m j at0 l hj hm hl hc hat
  obtain ⟨m,rfl,hm⟩:=sucM hm
  rw [spec_folds_l5_S]
  have hd:decide ((j:Int) < (sp.length:Int))=false:=by simp; omega
  have e:sp.drop j=[]:=List.drop_eq_nil_of_le (by omega)
  simp only [hd,cond_false,e,addAll,List.foldl_nil]
  rw [wrapOK (by omega) (by omega)]
 | succ k ihk =>
  intro m j at0 l hj hm hl hc hat
  obtain ⟨m,rfl,hm⟩:=sucM hm
  have hlt:j < sp.length:=by omega
  rw [spec_folds_l5_S]
  have h1:(0:Int) ≤ (j:Int)∧(j:Int) < (sp.length:Int):=by omega
  have hd:decide ((j:Int) < (sp.length:Int))=true:=by simpa using h1.2
  obtain ⟨c,hc1,hc2⟩:=hc
  have hp:=hat hlt
  have hpl:=posF_le sp[j] l
  have hlen:=putF_len sp[j] x l
  simp only [hd,cond_true,if_pos h1]
  rw [folds_l6 n q low xs a b (sp.length:Int) j (by omega) x sp sp[j] (getLt hlt _) _ l (by omega) (fun f hf=>by have:=hc1 f hf; omega) (posF sp[j] l - at0) n at0 (by omega) (by omega)]
  rw [ihk m (j + 1) (posF sp[j] l) (putF sp[j] x l) (by omega) (by omega) (by omega) ⟨c + 1,putF_items sp[j] x c hc1,by omega⟩ (fun h=>?_)]
  ·rw [dropLt hlt]; rfl
  ·refine posF_mono ?_ x l
   have:=List.pairwise_iff_getElem.1 hsp j (j + 1) hlt h (by omega)
   omega
def lowF (t:Int):List FO→Nat
 | []=>0
 | f :: fs=>if f.1.2 ≤ t then lowF t fs + 1 else 0
theorem lowF_le (t:Int):∀ l:List FO,lowF t l ≤ l.length
 | []=>Nat.le_refl _
 | f :: fs=>by
  have:=lowF_le t fs
  simp only [lowF,List.length_cons]
  split <;> omega
theorem lowF_lt {t:Int}:∀ {l:List FO} {j:Nat} (hj:j < lowF t l) (hl:j < l.length),l[j].1.2 ≤ t
 | [],j,hj,hl=>by simp at hl
 | f :: fs,0,hj,hl=>by
  simp only [lowF] at hj
  split at hj
  ·assumption
  ·omega
 | f :: fs,j + 1,hj,hl=>by
  simp only [lowF] at hj
  split at hj
  ·have:=lowF_lt (t:=t) (l:=fs) (j:=j) (by omega) (by simpa using hl)
   simpa using this
  ·omega
theorem lowF_at {t:Int}:∀ {l:List FO} (hl:lowF t l < l.length),¬ l[lowF t l].1.2 ≤ t
 | [],hl=>by simp [lowF] at hl
 | f :: fs,hl=>by
  by_cases h:f.1.2 ≤ t
  ·have e:lowF t (f :: fs)=lowF t fs + 1:=by simp [lowF,h]
   have:=lowF_at (l:=fs) (t:=t) (by rw [e] at hl; simpa using hl)
   simp only [e,List.getElem_cons_succ]
   exact this
  ·have e:lowF t (f :: fs)=0:=by simp [lowF,h]
   simp only [e,List.getElem_cons_zero]
   exact h
theorem lowF_ge {t:Int}:∀ {l:List FO} {p:Nat} (hp:p ≤ l.length),(∀ (j:Nat) (hj:j < p),(l[j]'(by omega)).1.2 ≤ t)→p ≤ lowF t l
 | [],p,hp,h=>by
  have:p=0:=by simpa using hp
  omega
 | f :: fs,0,hp,h=>Nat.zero_le _
 | f :: fs,p + 1,hp,h=>by
  have h0:=h 0 (by omega)
  have h0:f.1.2 ≤ t:=h0
  have:=lowF_ge (t:=t) (l:=fs) (p:=p) (by simpa using hp) (fun j hj=>by have:=h (j + 1) (by omega); simpa using this)
  simp [lowF,h0,this]
theorem posF_ge {s:Int×Int}:∀ {l:List FO} {p:Nat} (hp:p ≤ l.length),(∀ (j:Nat) (hj:j < p),(l[j]'(by omega)).1.1 < s.1)→p ≤ posF s l
 | [],p,hp,h=>by
  have:p=0:=by simpa using hp
  omega
 | f :: fs,0,hp,h=>Nat.zero_le _
 | f :: fs,p + 1,hp,h=>by
  have h0:f.1.1 < s.1:=h 0 (by omega)
  have:=posF_ge (s:=s) (l:=fs) (p:=p) (by simpa using hp) (fun j hj=>by have:=h (j + 1) (by omega); simpa using this)
  simp [posF,h0,this]
def Wide (q:QY) (l:List FO):Prop:=∀ f ∈ l,f.1.2=f.1.1 + q.2.2.1
theorem putF_mem {s:Int×Int} {x:IT}:∀ {l:List FO},∀ f ∈ putF s x l,f.1=s ∨ ∃ g ∈ l,f.1=g.1
 | [],f,h=>by simp [putF] at h; exact .inl (by rw [h])
 | g :: fs,f,h=>by
  simp only [putF] at h
  split at h
  ·rcases List.mem_cons.1 h with rfl | h
   ·exact .inr ⟨_,List.mem_cons_self,rfl⟩
   ·rcases putF_mem f h with h | ⟨g',h1,h2⟩
    ·exact .inl h
    ·exact .inr ⟨g',List.mem_cons_of_mem _ h1,h2⟩
  ·rcases List.mem_cons.1 h with rfl | h
   ·exact .inr ⟨g,List.mem_cons_self,rfl⟩
   ·exact .inr ⟨f,List.mem_cons_of_mem _ h,rfl⟩
theorem Wide.put {q:QY} {l:List FO} (h:Wide q l) {s:Int×Int} (hs:s.2=s.1 + q.2.2.1) (x:IT):Wide q (putF s x l):=by
 intro f hf
 rcases putF_mem f hf with e | ⟨g,hg,e⟩
 ·rw [e]; exact hs
 ·rw [e]; exact h g hg
theorem Wide.all {q:QY} (x:IT):∀ {sp:List (Int×Int)} {l:List FO},Wide q l→(∀ s ∈ sp,s.2=s.1 + q.2.2.1)→Wide q (addAll x l sp)
 | [],l,h,_=>h
 | s :: sp,l,h,hs=>Wide.all x (sp:=sp) (h.put (hs s List.mem_cons_self) x) (fun s h=>hs s (List.mem_cons_of_mem _ h))
theorem addAll_len (x:IT):∀ (sp:List (Int×Int)) (l:List FO),l.length ≤ (addAll x l sp).length∧(addAll x l sp).length ≤ l.length + sp.length
 | [],l=>by simp [addAll]
 | s :: sp,l=>by
  have h1:=putF_len s x l
  have h2:=addAll_len x sp (putF s x l)
  simp only [addAll,List.foldl_cons,List.length_cons] at h2 ⊢
  omega
theorem addAll_span (x:IT):∀ (sp:List (Int×Int)) (l:List FO) (j:Nat) (hj:j < l.length) (hj':j < (addAll x l sp).length),(addAll x l sp)[j].1=l[j].1
 | [],l,j,hj,_=>rfl
 | s :: sp,l,j,hj,hj'=>by
  have h1:=putF_len s x l
  have h2:=addAll_span x sp (putF s x l) j (by omega) hj'
  exact h2.trans (putF_span hj (by omega))
theorem addAll_items (x:IT):∀ (sp:List (Int×Int)) (l:List FO) (c:Nat),(∀ f ∈ l,f.2.length ≤ c)→∀ f ∈ addAll x l sp,f.2.length ≤ c + sp.length
 | [],l,c,h=>by simpa [addAll] using h
 | s :: sp,l,c,h=>by
  intro f hf
  have:=addAll_items x sp (putF s x l) (c + 1) (putF_items s x c h) f hf
  simp only [List.length_cons]
  omega
theorem cnt_le (q:QY) (hm:qMay q=true) (h2:q.1 ≠ 2) (t:Int):cntK q t ≤ 64:=by
 have hq:=FixQ.of hm h2
 have hs:=hq.step
 have hz:q.2.2.1 ≤ 64 * stepOf q:=by
  unfold stepOf at hs ⊢
  by_cases k:q.1=1
  ·rw [if_pos k] at hs ⊢
   simp only [qMay,Bool.and_eq_true,if_pos k,slidingB,decide_eq_true_eq] at hm
   have h3:=hm.2.2.2.2.2.1
   rw [Int.tdiv_eq_ediv_of_nonneg (by omega)] at h3
   have a:=Int.lt_ediv_add_one_mul_self (q.2.2.1 - 1) (show 0 < q.2.2.2.1 by omega)
   have b:((q.2.2.1 - 1) / q.2.2.2.1 + 1) * q.2.2.2.1 ≤ 64 * q.2.2.2.1:=Int.mul_le_mul_of_nonneg_right (by omega) (by omega)
   omega
  ·rw [if_neg k] at hs ⊢
   omega
 have h3:t / stepOf q - 64 ≤ (t - q.2.2.1) / stepOf q:=by
  rw [Int.le_ediv_iff_mul_le (show 0 < stepOf q by omega),Int.sub_mul]
  have:=Int.ediv_mul_le t (show stepOf q ≠ 0 by omega)
  omega
 simp only [cntK]
 omega
theorem spans_len (q:QY) (t:Int):(spansOf q t).length=cntK q t:=by simp [spansOf]
theorem spans_wide (q:QY) (t:Int):∀ s ∈ spansOf q t,s.2=s.1 + q.2.2.1:=by
 intro s hs
 simp only [spansOf,List.mem_map] at hs
 obtain ⟨j,_,rfl⟩:=hs
 rfl
theorem spans_up (q:QY) (hq:FixQ q) (t:Int):(spansOf q t).Pairwise fun s s'=>s.1 < s'.1:=by
 unfold spansOf
 rw [List.pairwise_map]
 refine List.Pairwise.imp ?_ List.pairwise_lt_range
 intro a b hab
 have hs:=hq.step
 simp only [spanAt]
 exact Int.mul_lt_mul_of_pos_right (by omega) (by omega)
theorem spans_gt (q:QY) (hq:FixQ q) (t:Int):∀ s ∈ spansOf q t,t - q.2.2.1 < s.1:=by
 intro s hs
 simp only [spansOf,List.mem_map] at hs
 obtain ⟨j,_,rfl⟩:=hs
 have h:=hq.step
 simp only [spanAt]
 have a:=Int.lt_ediv_add_one_mul_self (t - q.2.2.1) (show 0 < stepOf q by omega)
 have b:((t - q.2.2.1) / stepOf q + 1) * stepOf q ≤ (firstK q t + j) * stepOf q:=Int.mul_le_mul_of_nonneg_right (by simp only [firstK]; omega) (by omega)
 omega
theorem folds_l1 (n:Nat) (hn:4294967296 < n) (q:QY) (xs:List IT) (a:Int) (i:Nat) (hi:i < xs.length) (h9:xs.length ≤ 8192) (sp:List (Int×Int)) (e:Int) (hsp:sp.Pairwise fun s s'=>s.1 < s'.1) (hs9:sp.length ≤ 1000) (ih:QY→Int→List IT→Int→Int→List FO→Option (List FO))
  (l:List FO) (hl:l.length ≤ 67108864) (hc:∃ c,(∀ f ∈ l,f.2.length ≤ c)∧c ≤ 67108864) (hat:∀ h:0 < sp.length,lowF xs[i].2.1 l ≤ posF sp[0] l) :
  ∀ (k m p:Nat),p + k=lowF xs[i].2.1 l→k < m→spec_folds_l1 n c62.F c63.F q xs a (i:Int) l (sp,e) ih ih m (p:Int)=ih q (lowF xs[i].2.1 l:Int) xs a ((i:Int) + 1) (addAll xs[i] l sp):=by
 have hll:=lowF_le xs[i].2.1 l
 have hx:xs.getD i ((0:Int),(0:Int),(0:Int),(0:Int))=xs[i]:=getLt hi _
 obtain ⟨c,hc1,hc2⟩:=hc
 intro k
 induction k with
 | zero =>
  intro m p hp hm
  obtain ⟨m,rfl,hm⟩:=sucM hm
  rw [Nat.add_zero] at hp
  rw [spec_folds_l1_S (ih0:=ih)]
  rcases Nat.lt_or_ge p l.length with hlt | hge
  ·have h1:(0:Int) ≤ (p:Int)∧(p:Int) < (l.length:Int):=by omega
   have hd:decide ((p:Int) < (l.length:Int))=true:=by simpa using h1.2
   have h3:¬ l[p].1.2 ≤ xs[i].2.1:=by subst hp; exact lowF_at _
   simp only [hd,cond_true,if_pos h1,Int.toNat_natCast,hx,getLt hlt,h3,decide_false,cond_false]
   subst hp
   have:=folds_l2 n hn q (lowF xs[i].2.1 l:Int) xs a (i:Int) (by omega) xs[i] sp hsp hs9 ih sp.length n 0 (lowF xs[i].2.1 l) l (by omega) (by omega) (by omega) ⟨c,hc1,by omega⟩ (fun h=>hat h)
   rw [List.drop_zero] at this
   exact this
  ·have hd:decide ((p:Int) < (l.length:Int))=false:=by simp; omega
   simp only [hd,cond_false,Int.toNat_natCast,hx]
   subst hp
   have:=folds_l5 n hn q (lowF xs[i].2.1 l:Int) xs a (i:Int) (by omega) xs[i] sp hsp hs9 ih sp.length n 0 (lowF xs[i].2.1 l) l (by omega) (by omega) (by omega) ⟨c,hc1,by omega⟩ (fun h=>hat h)
   rw [List.drop_zero] at this
   exact this
 | succ k ihk =>
  intro m p hp hm
  obtain ⟨m,rfl,hm⟩:=sucM hm
  have hlt:p < l.length:=by omega
  rw [spec_folds_l1_S (ih0:=ih)]
  have h1:(0:Int) ≤ (p:Int)∧(p:Int) < (l.length:Int):=by omega
  have hd:decide ((p:Int) < (l.length:Int))=true:=by simpa using h1.2
  have h3:l[p].1.2 ≤ xs[i].2.1:=lowF_lt (by omega) hlt
  simp only [hd,cond_true,if_pos h1,Int.toNat_natCast,hx,getLt hlt,h3,decide_true,wrapS (i:=p) (by omega)]
  exact ihk m (p + 1) (by omega) (by omega)
def winGo (q:QY) (g:List IT):Nat→List FO
 | 0=>[]
 | i + 1=>addAll (g.getD i IT0) (winGo q g i) (spansOf q (g.getD i IT0).2.1)
def winOf (q:QY) (g:List IT):List FO:=winGo q g g.length
def foldsOf (q:QY) (g:List IT):List FO:=if q.1=2 then sesOf q g else winOf q g
theorem win_len (q:QY) (hm:qMay q=true) (h2:q.1 ≠ 2) (g:List IT):∀ i,(winGo q g i).length ≤ i * 64
 | 0=>by simp [winGo]
 | i + 1=>by
  have h1:=win_len q hm h2 g i
  have h3:=addAll_len (g.getD i IT0) (spansOf q (g.getD i IT0).2.1) (winGo q g i)
  rw [spans_len] at h3
  have h4:=cnt_le q hm h2 (g.getD i IT0).2.1
  simp only [winGo]
  omega
theorem win_items (q:QY) (hm:qMay q=true) (h2:q.1 ≠ 2) (g:List IT):∀ i,∀ f ∈ winGo q g i,f.2.length ≤ i * 64
 | 0=>by simp [winGo]
 | i + 1=>by
  have h1:=win_items q hm h2 g i
  have h4:=cnt_le q hm h2 (g.getD i IT0).2.1
  intro f hf
  have:=addAll_items (g.getD i IT0) (spansOf q (g.getD i IT0).2.1) (winGo q g i) (i * 64) h1 f hf
  rw [spans_len] at this
  omega
theorem win_wide (q:QY) (g:List IT):∀ i,Wide q (winGo q g i)
 | 0=>by simp [winGo,Wide]
 | i + 1=>(win_wide q g i).all _ (spans_wide q _)
theorem folds_l0 (n:Nat) (hn:9007199254740992 < n) (q:QY) (hm:qMay q=true) (h2:q.1 ≠ 2) (g:List IT) (h9:g.length ≤ 8192) (ht:∀ x ∈ g,timeIn x) (hup:g.Pairwise fun x y=>x.2.1 ≤ y.2.1) :
  ∀ (k m i low:Nat),i + k=g.length→k < m→(∀ h:i < g.length,low ≤ lowF g[i].2.1 (winGo q g i))→low ≤ (winGo q g i).length→spec_folds_l0 n c62.F c63.F m q (low:Int) g (g.length:Int) (i:Int) (winGo q g i)=some (winOf q g):=by
 have hq:=FixQ.of hm h2
 intro k
 induction k with
 | zero =>
  intro m i low hi hm' _ _
  obtain ⟨m,rfl,hm'⟩:=sucM hm'
  rw [spec_folds_l0_S]
  have hd:decide ((i:Int) < (g.length:Int))=false:=by simp; omega
  have:i=g.length:=by omega
  subst this
  simp only [hd,cond_false]
  rfl
 | succ k ihk =>
  intro m i low hi hm' hlow hlen
  obtain ⟨m,rfl,hm'⟩:=sucM hm'
  have hlt:i < g.length:=by omega
  rw [spec_folds_l0_S]
  have h1:(0:Int) ≤ (i:Int)∧(i:Int) < (g.length:Int):=by omega
  have hd:decide ((i:Int) < (g.length:Int))=true:=by simpa using h1.2
  have hx:g.getD i ((0:Int),(0:Int),(0:Int),(0:Int))=g[i]:=getLt hlt _
  have hx0:g.getD i IT0=g[i]:=getLt hlt _
  have hti:=ht g[i] (List.getElem_mem hlt)
  have hwl:=win_len q hm h2 g i
  have hwi:=win_items q hm h2 g i
  have hww:=win_wide q g i
  have hcl:=cnt_le q hm h2 g[i].2.1
  have hsl:=spans_len q g[i].2.1
  simp only [hd,cond_true,if_pos h1,Int.toNat_natCast,hx,Of_eq n hn q hm h2 g[i].2.1 hti,Option.bind_some]
  have hlo:=hlow hlt
  have hle:=lowF_le g[i].2.1 (winGo q g i)
  rw [folds_l1 n (by omega) q g (g.length:Int) i hlt h9 (spansOf q g[i].2.1) 0 (spans_up q hq _) (by omega) _ (winGo q g i) (by omega) ⟨i * 64,hwi,by omega⟩ (fun h=>?_) (lowF g[i].2.1 (winGo q g i) - low) n low (by omega) (by omega)]
  ·have e0:winGo q g (i + 1)=addAll g[i] (winGo q g i) (spansOf q g[i].2.1):=by simp only [winGo,hx0]
   have hal:=addAll_len g[i] (spansOf q g[i].2.1) (winGo q g i)
   have:=ihk m (i + 1) (lowF g[i].2.1 (winGo q g i)) (by omega) (by omega) (fun h=>?_) (by rw [e0]; omega)
   ·rw [e0] at this
    rw [show (i:Int) + 1=((i + 1:Nat):Int) by omega]
    exact this
   ·rw [e0]
    refine lowF_ge (by omega) fun j hj=>?_
    have e1:=addAll_span g[i] (spansOf q g[i].2.1) (winGo q g i) j (by omega) (by omega)
    rw [e1]
    have h3:=lowF_lt hj (by omega)
    have h4:=List.pairwise_iff_getElem.1 hup i (i + 1) hlt h (by omega)
    omega
  ·refine posF_ge hle fun j hj=>?_
   have h3:=lowF_lt hj (by omega)
   have h4:=hww _ (List.getElem_mem (show j < (winGo q g i).length by omega))
   have h5:=spans_gt q hq g[i].2.1 _ (List.getElem_mem h)
   omega
theorem folds_eq (n:Nat) (hn:9007199254740992 < n) (q:QY) (hm:qMay q=true) (g:List IT) (h9:g.length ≤ 8192) (ht:∀ x ∈ g,timeIn x) (hup:g.Pairwise fun x y=>x.2.1 ≤ y.2.1):spec_folds n q g=some (foldsOf q g):=by
 rw [spec_folds_S]
 unfold foldsOf
 by_cases h2:q.1=2
 ·have e:(q.1 == 2)=true:=by simp [h2]
  have hz:0 ≤ q.2.2.1∧q.2.2.1 ≤ 1073741824:=by
   simp only [qMay,Bool.and_eq_true,decide_eq_true_eq] at hm
   omega
  rw [if_pos h2,e,cond_true,sessions_eq n q g h9 (by omega) hz ht]
  rfl
 ·have e:(q.1 == 2)=false:=by simp [h2]
  rw [if_neg h2,e,cond_false]
  exact folds_l0 n hn q hm h2 g h9 ht hup g.length n 0 0 (by omega) (by omega) (fun _=>Nat.zero_le _) (Nat.zero_le _)
abbrev OU:=Int×Bool×List Int
def rankGo (mx:Int):Int→List Int→List Int→Int
 | k,b :: bs,h :: hs=>if k - h ≤ 0 then b else rankGo mx (k - h) bs hs
 | _,_,_=>mx
theorem rank_l0 (n:Nat) (q:QY) (a:AC) (hb:q.2.2.2.2.1.length ≤ 8) (hl:a.2.2.2.2.2.2.length=q.2.2.2.2.1.length + 1) (hh:∀ x ∈ a.2.2.2.2.2.2,0 ≤ x∧x ≤ 8192) :
  ∀ (k m i:Nat) (c:Int),i + k=q.2.2.2.2.1.length→k < m→0 ≤ c→c ≤ 1073741824→low_rank_l0 n q a m c (i:Int)=some (rankGo a.2.2.2.1 c (q.2.2.2.2.1.drop i) (a.2.2.2.2.2.2.drop i),false,[]):=by
 intro k
 induction k with
 | zero =>
  intro m i c hi hm h0 h1
  obtain ⟨m,rfl,hm⟩:=sucM hm
  rw [low_rank_l0_S]
  have hd:decide ((i:Int) < (q.2.2.2.2.1.length:Int))=false:=by simp; omega
  have e:q.2.2.2.2.1.drop i=[]:=List.drop_eq_nil_of_le (by omega)
  simp only [hd,cond_false,e,nl]
  simp [rankGo]
 | succ k ihk =>
  intro m i c hi hm h0 h1
  obtain ⟨m,rfl,hm⟩:=sucM hm
  have hlt:i < q.2.2.2.2.1.length:=by omega
  have hlt2:i < a.2.2.2.2.2.2.length:=by omega
  rw [low_rank_l0_S]
  have c1:(0:Int) ≤ (i:Int)∧(i:Int) < (q.2.2.2.2.1.length:Int):=by omega
  have c2:(0:Int) ≤ (i:Int)∧(i:Int) < (a.2.2.2.2.2.2.length:Int):=by omega
  have hd:decide ((i:Int) < (q.2.2.2.2.1.length:Int))=true:=by simpa using c1.2
  have hx:=hh _ (List.getElem_mem hlt2)
  have hw:Go.IntKind.i64.wrap (c - a.2.2.2.2.2.2[i])=c - a.2.2.2.2.2.2[i]:=wrapOK (by omega) (by omega)
  simp only [hd,cond_true,if_pos c1,if_pos c2,Int.toNat_natCast,getLt hlt,getLt hlt2,hw,wrapS (i:=i) (by omega)]
  rw [dropLt hlt,dropLt hlt2]
  simp only [rankGo]
  by_cases h:c - a.2.2.2.2.2.2[i] ≤ 0
  ·simp [h,nl]
  ·simp only [h,decide_false,cond_false,if_false]
   exact ihk m (i + 1) (c - a.2.2.2.2.2.2[i]) (by omega) (by omega) (by omega) (by omega)
def rankK (q:QY) (a:AC):Int:=if 1 < (q.2.2.2.2.2 * a.1 + 1000 - 1).tdiv 1000 then (q.2.2.2.2.2 * a.1 + 1000 - 1).tdiv 1000 else 1
def aggS (q:QY) (a:AC):OU :=
 if q.2.1=0 then (a.1,false,[])
 else if q.2.1=1 then (if a.2.1 < -1125899906842624 ∨ a.2.1 > 1125899906842624 then (0,true,[]) else (a.2.1,false,[]))
 else if q.2.1=2 then (a.2.2.1,false,[])
 else if q.2.1=3 then (a.2.2.2.1,false,[])
 else if q.2.1=4 then (a.2.2.2.2.1.2.2.2,false,[])
 else if q.2.1=5 then (a.2.2.2.2.2.1.2.2.2,false,[])
 else if q.2.1=6 then (0,false,a.2.2.2.2.2.2)
 else (rankGo a.2.2.2.1 (rankK q a) q.2.2.2.2.1 a.2.2.2.2.2.2,false,[])
theorem sum_eq (n:Nat) (q:QY) (a:AC):low_sum n q a=some (if a.2.1 < -1125899906842624 ∨ a.2.1 > 1125899906842624 then (0,true,[]) else (a.2.1,false,[])):=by
 unfold low_sum
 by_cases h1:a.2.1 < -1125899906842624
 ·simp [h1,nl]
 ·by_cases h2:a.2.1 > 1125899906842624
  ·have h2':1125899906842624 < a.2.1:=h2
   simp [h1,h2',nl]
  ·have h2':¬ 1125899906842624 < a.2.1:=h2
   simp [h1,h2',nl]
theorem rank_eq (n:Nat) (hn:20 < n) (q:QY) (a:AC) (hb:q.2.2.2.2.1.length ≤ 8) (hl:a.2.2.2.2.2.2.length=q.2.2.2.2.1.length + 1) (hh:∀ x ∈ a.2.2.2.2.2.2,0 ≤ x∧x ≤ 8192) (hr:0 ≤ q.2.2.2.2.2∧q.2.2.2.2.2 ≤ 1000) (hc:0 ≤ a.1∧a.1 ≤ 8192) :
  low_rank n q a=some (rankGo a.2.2.2.1 (rankK q a) q.2.2.2.2.1 a.2.2.2.2.2.2,false,[]):=by
 rw [low_rank_S]
 have p0:0 ≤ q.2.2.2.2.2 * a.1:=Int.mul_nonneg hr.1 hc.1
 have p1:q.2.2.2.2.2 * a.1 ≤ 8192000:=by
  have h1:q.2.2.2.2.2 * a.1 ≤ 1000 * a.1:=Int.mul_le_mul_of_nonneg_right hr.2 hc.1
  omega
 have e1:Go.IntKind.i64.wrap (q.2.2.2.2.2 * a.1)=q.2.2.2.2.2 * a.1:=wrapOK (by omega) (by omega)
 have e2:Go.IntKind.i64.wrap (q.2.2.2.2.2 * a.1 + 1000)=q.2.2.2.2.2 * a.1 + 1000:=wrapOK (by omega) (by omega)
 have e3:Go.IntKind.i64.wrap (q.2.2.2.2.2 * a.1 + 1000 - 1)=q.2.2.2.2.2 * a.1 + 1000 - 1:=wrapOK (by omega) (by omega)
 have t1:=tdivIn (a:=q.2.2.2.2.2 * a.1 + 1000 - 1) (b:=1000) (by omega) (by omega) (by omega)
 have t2:(q.2.2.2.2.2 * a.1 + 1000 - 1).tdiv 1000 ≤ 1073741824:=by
  rw [Int.tdiv_eq_ediv_of_nonneg (by omega)]
  omega
 have e4:Go.IntKind.i64.wrap ((q.2.2.2.2.2 * a.1 + 1000 - 1).tdiv 1000)=(q.2.2.2.2.2 * a.1 + 1000 - 1).tdiv 1000:=wrapOK (by omega) (by omega)
 simp only [e1,e2,e3,e4]
 have hk:0 ≤ rankK q a∧rankK q a ≤ 1073741824:=by unfold rankK; split <;> omega
 have:=rank_l0 n q a hb hl hh q.2.2.2.2.1.length n 0 (rankK q a) (by omega) (by omega) hk.1 hk.2
 rw [List.drop_zero,List.drop_zero] at this
 exact this
theorem table_eq (n:Nat):c96.F n PUnit.unit=some [some 120,some 121,some 122,some 123,some 124,some 125,some 126,some 127]:=rfl
theorem accMay_facts {a:AC} {bs:List Int} (h:accMay a bs=true):a.2.2.2.2.2.2.length=bs.length + 1∧(∀ x ∈ a.2.2.2.2.2.2,0 ≤ x∧x ≤ 8192)∧0 ≤ a.1∧a.1 ≤ 8192∧bs.length ≤ 8:=by
 simp only [accMay,histMay,inN,boundsMay,Bool.and_eq_true,decide_eq_true_eq,List.all_eq_true] at h
 exact ⟨h.2.1.2.1,fun x hx=>h.2.1.1 x hx,h.2.2.1.1,h.2.2.1.2,h.1.1⟩
theorem Value_eq (n:Nat) (hn:20 < n) (q:QY) (hq:asksB q=true) (a:AC) (ha:accMay a q.2.2.2.2.1=true) (h0:a.1 ≠ 0):low_Value n q a=some (aggS q a,0):=by
 obtain ⟨f1,f2,f3,f4,f5⟩:=accMay_facts ha
 simp only [asksB,Bool.and_eq_true,decide_eq_true_eq] at hq
 obtain ⟨q0,q1,q2,q3,q4,q5,q6⟩:=hq
 have hrk:=rank_eq n hn q a f5 f1 f2 ⟨q3,q4⟩ ⟨f3,f4⟩
 have hcl:slices_Clone_int_int n a.2.2.2.2.2.2=some a.2.2.2.2.2.2:=Clone_int_eq n _ (by omega)
 obtain ⟨kd,ag,sz,sl,bs,rk⟩:=q
 simp only at q0 q1 q2 q3 q4 q5 q6 f1 f5 ha hrk
 have h0':(a.1 == 0)=false:=by simp [h0]
 have g1:¬ ag < 0:=by omega
 have g2:¬ (8:Int) ≤ ag:=by omega
 have g3:¬ rk < 0:=by omega
 have g4:¬ (1000:Int) < rk:=by omega
 rw [low_Value_S]
 simp only [table_eq,Option.bind_some,List.length_cons,List.length_nil,GT.gt,GE.ge,g1,g3,g4,decide_false,cond_false,May_eq n (by omega),ha,Bool.not_true,h0']
 have g2':decide ((((0 + 1 + 1 + 1 + 1 + 1 + 1 + 1 + 1:Nat)):Int) ≤ ag)=false:=by simp; omega
 rw [g2']
 simp only [cond_false]
 have g5:(0:Int) ≤ ag∧ag < (((0 + 1 + 1 + 1 + 1 + 1 + 1 + 1 + 1:Nat)):Int):=by simp; omega
 have hag:ag=0 ∨ ag=1 ∨ ag=2 ∨ ag=3 ∨ ag=4 ∨ ag=5 ∨ ag=6 ∨ ag=7:=by omega
 rcases hag with rfl | rfl | rfl | rfl | rfl | rfl | rfl | rfl
 ·rfl
 ·show Option.bind (low_sum n _ a) _=_
  rw [sum_eq]; rfl
 ·rfl
 ·rfl
 ·rfl
 ·rfl
 ·show Option.bind (low_hist n _ a) _=_
  rw [low_hist_S,hcl]; rfl
 ·have hb:((bs.length:Int) == 0)=false:=by
   have h3:0 < bs.length:=by simpa using q5
   simp; intro e; rw [e] at h3; simp at h3
  show (bif ((bs.length:Int) == 0) then _ else Option.bind (low_rank n _ a) _)=_
  rw [hb,cond_false,hrk]; rfl
def leI (x y:IT):Prop:=x.2.1 < y.2.1 ∨ (x.2.1=y.2.1∧x.2.2.1 ≤ y.2.2.1)
theorem ord_lt {x y:IT}:ord x y < 0 ↔ ¬ leI y x:=by
 unfold ord cmpA leI
 split <;> split <;> (try split) <;> (try split) <;> omega
theorem ord_le {x y:IT}:ord x y ≤ 0 ↔ leI x y:=by
 unfold ord cmpA leI
 split <;> split <;> (try split) <;> (try split) <;> omega
theorem ord_ge {x y:IT}:0 ≤ ord x y ↔ leI y x:=by
 unfold ord cmpA leI
 split <;> split <;> (try split) <;> (try split) <;> omega
theorem leI_refl (x:IT):leI x x:=Or.inr ⟨rfl,Int.le_refl _⟩
theorem leI_trans {x y z:IT} (h:leI x y) (g:leI y z):leI x z:=by unfold leI at *; omega
theorem leI_total {x y:IT} (h:¬ leI x y):leI y x:=by unfold leI at *; omega
def cntB (bs:List Int) (p:List IT) (k:Nat):Int:=(p.countP fun x=>buck bs x.2.2.2 == k:Nat)
def histOf (bs:List Int) (p:List IT):List Int:=(List.range (bs.length + 1)).map (cntB bs p)
structure AccIs (bs:List Int) (a:AC) (p:List IT):Prop where
 cnt:a.1=p.length
 sum:a.2.1=(p.map fun x=>x.2.2.2).sum
 mn:∀ x ∈ p,a.2.2.1 ≤ x.2.2.2
 mnE:∃ x ∈ p,a.2.2.1=x.2.2.2
 mx:∀ x ∈ p,x.2.2.2 ≤ a.2.2.2.1
 mxE:∃ x ∈ p,a.2.2.2.1=x.2.2.2
 fm:a.2.2.2.2.1 ∈ p
 fl:∀ x ∈ p,leI a.2.2.2.2.1 x
 lm:a.2.2.2.2.2.1 ∈ p
 ll:∀ x ∈ p,leI x a.2.2.2.2.2.1
 hist:a.2.2.2.2.2.2=histOf bs p
theorem AccIs.pos {bs:List Int} {a:AC} {p:List IT} (h:AccIs bs a p):0 < a.1:=by
 have:=List.length_pos_of_mem h.fm
 rw [h.cnt]; omega
theorem cntB_one (bs:List Int) (x:IT) (k:Nat):cntB bs [x] k=if buck bs x.2.2.2=k then 1 else 0:=by
 unfold cntB
 by_cases h:buck bs x.2.2.2=k <;> simp [h]
theorem AccIs.one (bs:List Int) (x:IT):AccIs bs (oneA x bs) [x] where
 cnt:=by simp [oneA]
 sum:=by simp [oneA]
 mn:=by simp [oneA]
 mnE:=⟨x,by simp,rfl⟩
 mx:=by simp [oneA]
 mxE:=⟨x,by simp,rfl⟩
 fm:=by simp [oneA]
 fl:=by simp [oneA,leI_refl]
 lm:=by simp [oneA]
 ll:=by simp [oneA,leI_refl]
 hist:=by
  show (List.replicate (bs.length + 1) (0:Int)).set (buck bs x.2.2.2) 1=_
  apply List.ext_getElem
  ·simp [histOf]
  ·intro k h1 h2
   simp only [histOf,List.getElem_map,List.getElem_range,List.getElem_set,List.getElem_replicate,cntB_one]
theorem zip_range (f g:Nat→Int) (n:Nat):List.zipWith (· + ·) ((List.range n).map f) ((List.range n).map g)=(List.range n).map fun k=>f k + g k:=by
 apply List.ext_getElem
 ·simp
 ·intro k h1 h2; simp
theorem AccIs.add {bs:List Int} {o a:AC} {p q:List IT} (h:AccIs bs o p) (g:AccIs bs a q):AccIs bs (addA o a) (p ++ q):=by
 have ho:¬ o.1=0:=by have:=h.pos; omega
 have e:addA o a=(o.1 + a.1,o.2.1 + a.2.1,if a.2.2.1 < o.2.2.1 then a.2.2.1 else o.2.2.1,if o.2.2.2.1 < a.2.2.2.1 then a.2.2.2.1 else o.2.2.2.1,
   if ord a.2.2.2.2.1 o.2.2.2.2.1 < 0 then a.2.2.2.2.1 else o.2.2.2.2.1,if 0 ≤ ord a.2.2.2.2.2.1 o.2.2.2.2.2.1 then a.2.2.2.2.2.1 else o.2.2.2.2.2.1,
   List.zipWith (· + ·) o.2.2.2.2.2.2 a.2.2.2.2.2.2):=by simp only [addA,if_neg ho]
 rw [e]
 constructor
 ·simp only [h.cnt,g.cnt,List.length_append]; omega
 ·simp only [h.sum,g.sum,List.map_append,List.sum_append]
 ·intro x hx
  rcases List.mem_append.1 hx with hx | hx
  ·have:=h.mn x hx; simp only; split <;> omega
  ·have:=g.mn x hx; simp only; split <;> omega
 ·simp only
  split
  ·obtain ⟨x,hx,ex⟩:=g.mnE; exact ⟨x,List.mem_append_right _ hx,ex⟩
  ·obtain ⟨x,hx,ex⟩:=h.mnE; exact ⟨x,List.mem_append_left _ hx,ex⟩
 ·intro x hx
  rcases List.mem_append.1 hx with hx | hx
  ·have:=h.mx x hx; simp only; split <;> omega
  ·have:=g.mx x hx; simp only; split <;> omega
 ·simp only
  split
  ·obtain ⟨x,hx,ex⟩:=g.mxE; exact ⟨x,List.mem_append_right _ hx,ex⟩
  ·obtain ⟨x,hx,ex⟩:=h.mxE; exact ⟨x,List.mem_append_left _ hx,ex⟩
 ·simp only
  split
  ·exact List.mem_append_right _ g.fm
  ·exact List.mem_append_left _ h.fm
 ·intro x hx
  simp only
  split
  ·rename_i c
   have c':=leI_total (ord_lt.1 c)
   rcases List.mem_append.1 hx with hx | hx
   ·exact leI_trans c' (h.fl x hx)
   ·exact g.fl x hx
  ·rename_i c
   have c':leI o.2.2.2.2.1 a.2.2.2.2.1:=Classical.not_not.1 fun hn=>c (ord_lt.2 hn)
   rcases List.mem_append.1 hx with hx | hx
   ·exact h.fl x hx
   ·exact leI_trans c' (g.fl x hx)
 ·simp only
  split
  ·exact List.mem_append_right _ g.lm
  ·exact List.mem_append_left _ h.lm
 ·intro x hx
  simp only
  split
  ·rename_i c
   have c':=ord_ge.1 c
   rcases List.mem_append.1 hx with hx | hx
   ·exact leI_trans (h.ll x hx) c'
   ·exact g.ll x hx
  ·rename_i c
   have c':=leI_total fun hn=>c (ord_ge.2 hn)
   rcases List.mem_append.1 hx with hx | hx
   ·exact h.ll x hx
   ·exact leI_trans (g.ll x hx) c'
 ·show List.zipWith _ o.2.2.2.2.2.2 a.2.2.2.2.2.2=_
  rw [h.hist,g.hist]
  unfold histOf
  rw [zip_range]
  exact List.map_congr_left fun k _=>by unfold cntB; rw [List.countP_append]; omega
theorem zipZero (ys:List Int) (n:Nat) (h:ys.length=n):List.zipWith (· + ·) (List.replicate n (0:Int)) ys=ys:=by
 apply List.ext_getElem
 ·simp [h]
 ·intro k h1 h2; simp
theorem add_zero {bs:List Int} {a:AC} (h:a.2.2.2.2.2.2.length=bs.length + 1):addA (zeroA bs) a=a:=by
 have z:(zeroA bs).1=0:=rfl
 simp only [addA,if_pos z,Int.lt_irrefl,if_false]
 have e1:¬ ord a.2.2.2.2.1 a.2.2.2.2.1 < 0:=fun hh=>ord_lt.1 hh (leI_refl _)
 have e2:0 ≤ ord a.2.2.2.2.2.1 a.2.2.2.2.2.1:=ord_ge.2 (leI_refl _)
 simp only [e1,e2,if_true,if_false,zeroA,Int.zero_add,zipZero _ _ h]
theorem sumZip:∀ {xs ys:List Int},xs.length=ys.length→(List.zipWith (· + ·) xs ys).sum=xs.sum + ys.sum
 | [],[],_=>by simp
 | x :: xs,y :: ys,h=>by
  have:=sumZip (xs:=xs) (ys:=ys) (by simpa using h)
  simp only [List.zipWith_cons_cons,List.sum_cons,this]; omega
 | [],_ :: _,h=>by simp at h
 | _ :: _,[],h=>by simp at h
theorem sumRep (n:Nat):(List.replicate n (0:Int)).sum=0:=by
 induction n with
 | zero=>rfl
 | succ n ih=>rw [List.replicate_succ,List.sum_cons,ih]; rfl
theorem sumSet:∀ (n k:Nat),k < n→((List.replicate n (0:Int)).set k 1).sum=1
 | 0,_,h=>by omega
 | n + 1,0,_=>by rw [List.replicate_succ,List.set_cons_zero,List.sum_cons,sumRep]; rfl
 | n + 1,k + 1,h=>by rw [List.replicate_succ,List.set_cons_succ,List.sum_cons,sumSet n k (by omega)]; rfl
theorem oneA_may {bs:List Int} {x:IT} (hb:boundsMay bs=true) (hx:itemMay x=true):accMay (oneA x bs) bs=true:=by
 have hk:=buck_le bs x.2.2.2
 have hv:inV x.2.2.2=true:=by simp only [itemMay,Bool.and_eq_true] at hx; exact hx.2.2.2.2.2
 have hm:histMay (oneA x bs) bs=true:=by
  simp only [histMay,oneA,Bool.and_eq_true,List.all_eq_true,decide_eq_true_eq]
  refine ⟨fun y hy=>?_,by simp,decide_eq_true (sumSet _ _ (by omega))⟩
  rcases List.mem_or_eq_of_mem_set hy with hy | rfl
  ·have:=(List.mem_replicate.1 hy).2; subst this; rfl
  ·rfl
 have he:endMay (oneA x bs) x=true:=by simp [endMay,oneA,hx]
 have ho:ord x x ≤ 0:=ord_le.2 (leI_refl x)
 simp only [accMay,hb,hm,Bool.true_and,Bool.and_eq_true]
 refine ⟨rfl,?_⟩
 rw [if_neg (by simp [oneA])]
 simp only [accBody,endsMay,Bool.and_eq_true]
 refine ⟨hv,hv,by simp [oneA],⟨he,he,by simp [oneA],decide_eq_true ho⟩,by simp [oneA],by simp [oneA]⟩
theorem accMay_iff {a:AC} {bs:List Int} (h0:0 < a.1):accMay a bs=true ↔ boundsMay bs=true∧histMay a bs=true∧a.1 ≤ 8192∧inV a.2.2.1=true∧inV a.2.2.2.1=true∧a.2.2.1 ≤ a.2.2.2.1∧endMay a a.2.2.2.2.1=true∧endMay a a.2.2.2.2.2.1=true∧a.2.2.2.2.1.1=a.2.2.2.2.2.1.1∧leI a.2.2.2.2.1 a.2.2.2.2.2.1∧a.1 * a.2.2.1 ≤ a.2.1∧a.2.1 ≤ a.1 * a.2.2.2.1:=by
 have hz:¬ a.1=0:=by omega
 simp only [accMay,if_neg hz,accBody,endsMay,inN,Bool.and_eq_true,decide_eq_true_eq,beq_iff_eq,ord_le]
 constructor
 ·rintro ⟨h1,h2,⟨h3,h4⟩,h5,h6,h7,⟨h8,h9,h10,h11⟩,h12,h13⟩
  exact ⟨h1,h2,h4,h5,h6,h7,h8,h9,h10,h11,h12,h13⟩
 ·rintro ⟨h1,h2,h4,h5,h6,h7,h8,h9,h10,h11,h12,h13⟩
  exact ⟨h1,h2,⟨by omega,h4⟩,h5,h6,h7,⟨h8,h9,h10,h11⟩,h12,h13⟩
theorem endMay_mono {a b:AC} {x:IT} (h:endMay a x=true) (h1:b.2.2.1 ≤ a.2.2.1) (h2:a.2.2.2.1 ≤ b.2.2.2.1):endMay b x=true:=by
 simp only [endMay,Bool.and_eq_true,decide_eq_true_eq] at h ⊢
 exact ⟨h.1,by omega,by omega⟩
theorem accMay_add {bs:List Int} {o a:AC} (ho:0 < o.1) (ha:0 < a.1) (h:accMay o bs=true) (g:accMay a bs=true) (hs:o.2.2.2.2.1.1=a.2.2.2.2.1.1) (ht:o.1 + a.1 ≤ 8192):accMay (addA o a) bs=true∧(addA o a).2.2.2.2.1.1=o.2.2.2.2.1.1:=by
 have hz:¬ o.1=0:=by omega
 have ok:=okA_add (accMay_okA h).1 (accMay_okA g).1
 have oo:=(accMay_okA h).1.1
 have oa:=(accMay_okA g).1.1
 obtain ⟨o1,o2,o3,o4,o5,o6,o7,o8,o9,o10,o11,o12⟩:=(accMay_iff ho).1 h
 obtain ⟨a1,a2,a3,a4,a5,a6,a7,a8,a9,a10,a11,a12⟩:=(accMay_iff ha).1 g
 have s1:o.2.2.2.2.2.2.sum=o.1:=by simp only [histMay,Bool.and_eq_true,decide_eq_true_eq] at o2; exact o2.2.2
 have s2:a.2.2.2.2.2.2.sum=a.1:=by simp only [histMay,Bool.and_eq_true,decide_eq_true_eq] at a2; exact a2.2.2
 have hm:histMay (addA o a) bs=true:=by
  simp only [histMay,Bool.and_eq_true,List.all_eq_true,decide_eq_true_eq,inN]
  refine ⟨fun x hx=>?_,ok.1,?_⟩
  ·have:=ok.2.2.2.2 x hx
   have e:(addA o a).1=o.1 + a.1:=rfl
   rw [e] at this; omega
  ·show (List.zipWith _ _ _).sum=o.1 + a.1
   rw [sumZip (by omega),s1,s2]
 have e:addA o a=(o.1 + a.1,o.2.1 + a.2.1,if a.2.2.1 < o.2.2.1 then a.2.2.1 else o.2.2.1,if o.2.2.2.1 < a.2.2.2.1 then a.2.2.2.1 else o.2.2.2.1,
   if ord a.2.2.2.2.1 o.2.2.2.2.1 < 0 then a.2.2.2.2.1 else o.2.2.2.2.1,if 0 ≤ ord a.2.2.2.2.2.1 o.2.2.2.2.2.1 then a.2.2.2.2.2.1 else o.2.2.2.2.2.1,
   List.zipWith (· + ·) o.2.2.2.2.2.2 a.2.2.2.2.2.2):=by simp only [addA,if_neg hz]
 have n1:(addA o a).2.2.1 ≤ o.2.2.1:=by rw [e]; simp only; split <;> omega
 have n2:(addA o a).2.2.1 ≤ a.2.2.1:=by rw [e]; simp only; split <;> omega
 have n3:o.2.2.2.1 ≤ (addA o a).2.2.2.1:=by rw [e]; simp only; split <;> omega
 have n4:a.2.2.2.1 ≤ (addA o a).2.2.2.1:=by rw [e]; simp only; split <;> omega
 have n5:inV (addA o a).2.2.1=true:=by rw [e]; simp only; split <;> assumption
 have n6:inV (addA o a).2.2.2.1=true:=by rw [e]; simp only; split <;> assumption
 have ser:(addA o a).2.2.2.2.1.1=o.2.2.2.2.1.1:=by rw [e]; simp only; split <;> simp [hs]
 refine ⟨(accMay_iff (by show 0 < o.1 + a.1; omega)).2 ⟨o1,hm,ht,n5,n6,by omega,?_,?_,?_,?_,?_,?_⟩,ser⟩
 ·have:(addA o a).2.2.2.2.1=a.2.2.2.2.1 ∨ (addA o a).2.2.2.2.1=o.2.2.2.2.1:=by rw [e]; simp only; split <;> simp
  rcases this with h | h <;> rw [h]
  ·exact endMay_mono a7 n2 n4
  ·exact endMay_mono o7 n1 n3
 ·have:(addA o a).2.2.2.2.2.1=a.2.2.2.2.2.1 ∨ (addA o a).2.2.2.2.2.1=o.2.2.2.2.2.1:=by rw [e]; simp only; split <;> simp
  rcases this with h | h <;> rw [h]
  ·exact endMay_mono a8 n2 n4
  ·exact endMay_mono o8 n1 n3
 ·rw [ser,e]; simp only; split
  ·omega
  ·exact o9
 ·rw [e]; simp only
  split
  ·rename_i c
   have c':=leI_total (ord_lt.1 c)
   split
   ·exact a10
   ·exact leI_trans c' o10
  ·rename_i c
   have c':leI o.2.2.2.2.1 a.2.2.2.2.1:=Classical.not_not.1 fun hn=>c (ord_lt.2 hn)
   split
   ·exact leI_trans c' a10
   ·exact o10
 ·show (o.1 + a.1) * (addA o a).2.2.1 ≤ o.2.1 + a.2.1
  have:=Int.mul_le_mul_of_nonneg_left n1 (Int.le_of_lt ho)
  have:=Int.mul_le_mul_of_nonneg_left n2 (Int.le_of_lt ha)
  rw [Int.add_mul]; omega
 ·show o.2.1 + a.2.1 ≤ (o.1 + a.1) * (addA o a).2.2.2.1
  have:=Int.mul_le_mul_of_nonneg_left n3 (Int.le_of_lt ho)
  have:=Int.mul_le_mul_of_nonneg_left n4 (Int.le_of_lt ha)
  rw [Int.add_mul]; omega
theorem allFrom_true {bs:List Int} {σ:Int} (hb:boundsMay bs=true):∀ {cs:List AC} {f:Int},(f=-1 ∨ f=σ)→(∀ a ∈ cs,accMay a bs=true∧a.2.2.2.2.1.1=σ)→allFrom bs f cs=true
 | [],f,_,_=>hb
 | a :: cs,f,hf,h=>by
  have ⟨h1,h2⟩:=h a List.mem_cons_self
  simp only [allFrom,h1,Bool.true_and,Bool.and_eq_true]
  refine ⟨?_,allFrom_true hb ?_ fun b hb=>h b (List.mem_cons_of_mem _ hb)⟩
  ·rcases hf with rfl | rfl
   ·simp
   ·simp [h2]
  ·split
   ·exact Or.inr h2
   ·exact hf
structure Piece (bs:List Int) (σ:Int) (a:AC) (p:List IT):Prop where
 is:AccIs bs a p
 may:accMay a bs=true
 ser:a.2.2.2.2.1.1=σ
theorem fold_piece {bs:List Int} {σ:Int}:∀ (zs:List (AC×List IT)) (o:AC) (p:List IT),Piece bs σ o p→(∀ z ∈ zs,Piece bs σ z.1 z.2)→p.length + (zs.map (·.2)).flatten.length ≤ 8192→Piece bs σ ((zs.map (·.1)).foldl addIf o) (p ++ (zs.map (·.2)).flatten)
 | [],o,p,h,_,_=>by simpa using h
 | z :: zs,o,p,h,g,hl=>by
  have gz:=g z List.mem_cons_self
  have e:addIf o z.1=addA o z.1:=if_pos gz.is.pos
  simp only [List.map_cons,List.flatten_cons,List.length_append] at hl
  have m:=accMay_add h.is.pos gz.is.pos h.may gz.may (by rw [h.ser,gz.ser]) (by rw [h.is.cnt,gz.is.cnt]; omega)
  have r:=fold_piece zs (addA o z.1) (p ++ z.2) ⟨h.is.add gz.is,m.1,by rw [m.2,h.ser]⟩ (fun y hy=>g y (List.mem_cons_of_mem _ hy)) (by rw [List.length_append]; omega)
  simp only [List.map_cons,List.foldl_cons,e,List.flatten_cons]
  rw [List.append_assoc] at r
  exact r
theorem join_piece {bs:List Int} {σ:Int} (hb:boundsMay bs=true) (zs:List (AC×List IT)) (h0:zs ≠ []) (g:∀ z ∈ zs,Piece bs σ z.1 z.2) (hl:(zs.map (·.2)).flatten.length ≤ 8192):(joinA bs (zs.map (·.1))).2=0∧Piece bs σ (joinA bs (zs.map (·.1))).1 (zs.map (·.2)).flatten:=by
 have ha:allFrom bs (-1) (zs.map (·.1))=true:=allFrom_true hb (Or.inl rfl) fun a ha=>by
  obtain ⟨z,hz,rfl⟩:=List.mem_map.1 ha
  exact ⟨(g z hz).may,(g z hz).ser⟩
 have ht:∀ (zs:List (AC×List IT)),(∀ z ∈ zs,Piece bs σ z.1 z.2)→tot (zs.map (·.1))=((zs.map (·.2)).flatten.length:Nat):=by
  intro zs
  induction zs with
  | nil=>intro _; rfl
  | cons z zs ih =>
   intro g
   rw [List.map_cons,tot_cons,ih fun y hy=>g y (List.mem_cons_of_mem _ hy),(g z List.mem_cons_self).is.cnt]
   simp only [List.map_cons,List.flatten_cons,List.length_append]; omega
 have hn:¬ 8192 < tot (zs.map (·.1)):=by rw [ht zs g]; omega
 cases zs with
 | nil=>exact absurd rfl h0
 | cons z zs =>
  have gz:=g z List.mem_cons_self
  have e:addIf (zeroA bs) z.1=z.1:=(if_pos gz.is.pos).trans (add_zero (accMay_okA gz.may).1.1)
  simp only [joinA,ha,if_true,if_neg hn]
  refine ⟨trivial,?_⟩
  simp only [List.map_cons,List.foldl_cons,e,List.flatten_cons]
  exact fold_piece zs z.1 z.2 gz (fun y hy=>g y (List.mem_cons_of_mem _ hy)) (by simpa using hl)
theorem qMay_asks {q:QY} (h:qMay q=true):asksB q=true:=by
 simp only [qMay,Bool.and_eq_true] at h; exact h.2.2.1
theorem qMay_bnd {q:QY} (h:qMay q=true):boundsMay q.2.2.2.2.1=true:=by
 have:=qMay_asks h
 simp only [asksB,Bool.and_eq_true] at this
 exact this.2.2.2.2.2.2
def accOf (q:QY) (xs:List IT):AC:=(joinA q.2.2.2.2.1 (xs.map fun x=>oneA x q.2.2.2.2.1)).1
def toldS (q:QY) (xs:List IT):OU:=aggS q (accOf q xs)
theorem flat_one (q:QY):∀ xs:List IT,((xs.map fun x=>(oneA x q.2.2.2.2.1,[x])).map (·.2)).flatten=xs
 | []=>rfl
 | x :: xs=>by
  have ih:=flat_one q xs
  simp only [List.map_cons,List.flatten_cons,ih]; rfl
theorem accOf_is (q:QY) (hm:qMay q=true) (xs:List IT) (h0:xs ≠ []) (h9:xs.length ≤ 8192) (hi:∀ x ∈ xs,itemMay x=true) (σ:Int) (hs:∀ x ∈ xs,x.1=σ):Piece q.2.2.2.2.1 σ (accOf q xs) xs:=by
 have hb:=qMay_bnd hm
 have hz:=join_piece (σ:=σ) hb (xs.map fun x=>(oneA x q.2.2.2.2.1,[x])) (by simpa using h0) (fun z hz=>?_) ?_
 ·have e1:(xs.map fun x=>(oneA x q.2.2.2.2.1,[x])).map (·.1)=xs.map fun x=>oneA x q.2.2.2.2.1:=by rw [List.map_map]; rfl
  have e2:=flat_one q xs
  rw [e1,e2] at hz
  exact hz.2
 ·obtain ⟨x,hx,rfl⟩:=List.mem_map.1 hz
  exact ⟨AccIs.one _ x,oneA_may hb (hi x hx),hs x hx⟩
 ·rw [flat_one]; exact h9
theorem told_l0 (n:Nat) (hn:1099511627776 < n) (q:QY) (hm:qMay q=true) (xs:List IT) (h0:xs ≠ []) (h9:xs.length ≤ 8192) (hi:∀ x ∈ xs,itemMay x=true) (σ:Int) (hs:∀ x ∈ xs,x.1=σ) :
  ∀ (k m i:Nat),i + k=xs.length→k < m→spec_told_l0 n c64.F c65.F c66.F q xs m (i:Int) ((xs.take i).map fun x=>oneA x q.2.2.2.2.1)=some (toldS q xs):=by
 have hb:=qMay_bnd hm
 intro k
 induction k with
 | zero =>
  intro m i hk hm'
  obtain ⟨m,rfl,hm'⟩:=sucM hm'
  rw [spec_told_l0_S]
  have hd:decide ((i:Int) < (xs.length:Int))=false:=by simp; omega
  have e:xs.take i=xs:=List.take_of_length_le (by omega)
  have hp:=accOf_is q hm xs h0 h9 hi σ hs
  have hl:(xs.map fun x=>oneA x q.2.2.2.2.1).length=xs.length:=List.length_map _
  simp only [hd,cond_false,e,Join_eq n (by omega) q.2.2.2.2.1 _ (by rw [hl]; omega) (by rw [hl]; omega),Option.bind_some]
  have hv:=Value_eq n (by omega) q (qMay_asks hm) (accOf q xs) hp.may (by have:=hp.is.pos; omega)
  have hv:low_Value n q (joinA q.2.2.2.2.1 (xs.map fun x=>oneA x q.2.2.2.2.1)).fst=some (toldS q xs,0):=hv
  rw [hv]; rfl
 | succ k ihk =>
  intro m i hk hm'
  obtain ⟨m,rfl,hm'⟩:=sucM hm'
  have hlt:i < xs.length:=by omega
  rw [spec_told_l0_S]
  have c1:(0:Int) ≤ (i:Int)∧(i:Int) < (xs.length:Int):=by omega
  have hd:decide ((i:Int) < (xs.length:Int))=true:=by simpa using c1.2
  have hx:xs.getD i ((0:Int),(0:Int),(0:Int),(0:Int))=xs[i]:=getLt hlt _
  have hone:acc_One n xs[i] q.2.2.2.2.1=some (oneA xs[i] q.2.2.2.2.1,0):=by
   rw [One_eq n (by omega),if_pos ⟨hi _ (List.getElem_mem hlt),hb⟩]
  have e1:((List.replicate (1:Nat) ((0:Int),(0:Int),(0:Int),(0:Int),((0:Int),(0:Int),(0:Int),(0:Int)),((0:Int),(0:Int),(0:Int),(0:Int)),Go.Ev.nl Int)).set (0:Nat) (oneA xs[i] q.2.2.2.2.1))=[oneA xs[i] q.2.2.2.2.1]:=rfl
  have c2:(((xs.take i).map fun x=>oneA x q.2.2.2.2.1).length + [oneA xs[i] q.2.2.2.2.1].length) * 120 ≤ 140737488355328∧0 < 120:=by simp; omega
  simp only [hd,cond_true,if_pos c1,Int.toNat_natCast,hx,hone,Option.bind_some,e1,if_pos c2,wrapS (i:=i) (by omega)]
  have:=ihk m (i + 1) (by omega) (by omega)
  rw [List.take_succ_eq_append_getElem hlt,List.map_append] at this
  exact this
theorem told_eq (n:Nat) (hn:1099511627776 < n) (q:QY) (hm:qMay q=true) (xs:List IT) (h0:xs ≠ []) (h9:xs.length ≤ 8192) (hi:∀ x ∈ xs,itemMay x=true) (σ:Int) (hs:∀ x ∈ xs,x.1=σ):spec_told n q xs=some (toldS q xs):=by
 rw [spec_told_S]
 exact told_l0 n hn q hm xs h0 h9 hi σ hs xs.length n 0 (by omega) (by omega)
def isOutS (la:Int) (s:Int×Int) (mark:Int):Bool:=decide (s.2 + la ≤ mark)
def endIn (s:Int×Int):Prop:=-4398046511104 ≤ s.2∧s.2 ≤ 4398046511104
theorem isOut_eq (n:Nat) (c:CF) (hla:0 ≤ c.2.1∧c.2.1 ≤ 1073741824) (s:Int×Int) (hs:endIn s) (mark:Int):spec_isOut n c s mark=some (isOutS c.2.1 s mark):=by
 unfold spec_isOut isOutS
 obtain ⟨a,b⟩:=hs
 rw [wrapOK (by omega) (by omega)]
def selR (la a b:Int) (f:FO):Bool:=isOutS la f.1 b && !isOutS la f.1 a
def mkR (i:Int) (ser:Int) (q:QY) (f:FO):RE:=(i,ser,f.1,toldS q f.2)
def resF (la a b:Int) (i ser:Int) (q:QY) (fs:List FO):List RE:=(fs.filter (selR la a b)).map (mkR i ser q)
theorem resF_cons (la a b i ser:Int) (q:QY) (f:FO) (l:List FO):resF la a b i ser q (f :: l)=if selR la a b f=true then mkR i ser q f :: resF la a b i ser q l else resF la a b i ser q l:=by
 unfold resF
 rw [List.filter_cons]
 split <;> rfl
theorem res_l2 (n:Nat) (a b:Int) (g:List IT) (hg:0 < g.length) (rows:List (List IT)) (nr ri nq:Int) (qs:List QY) (i:Nat) (hi:i < qs.length) (h9:qs.length ≤ 8) (la ro se so:Int) (hla:0 ≤ la∧la ≤ 1073741824) (fs:List FO) (hf:∀ f ∈ fs,endIn f.1∧spec_told n qs[i] f.2=some (toldS qs[i] f.2)) (hf9:fs.length ≤ 67108864)
  (ih:Int→Int→List IT→List (List IT)→Int→Int→Int→Int→List QY→Int→Int→Int→Int→List RE→Option (List RE×Int)) :
  ∀ (k m j:Nat) (out:List RE),j + k=fs.length→k < m→out.length + k ≤ 1073741824 →
   spec_Results_l2 n c30.F c31.F c32.F c33.F c34.F c35.F a b g rows nr ri nq (i:Int) qs la ro se so fs ih m (j:Int) out=ih a b g rows nr ri nq ((i + 1:Nat):Int) qs la ro se so (out ++ resF la a b (i:Int) (g.getD 0 IT0).1 qs[i] (fs.drop j)):=by
 intro k
 induction k with
 | zero =>
  intro m j out hj hm ho
  obtain ⟨m,rfl,hm⟩:=sucM hm
  rw [spec_Results_l2_S]
  have hd:decide ((j:Int) < (fs.length:Int))=false:=by simp; omega
  have e:fs.drop j=[]:=List.drop_eq_nil_of_le (by omega)
  simp only [hd,cond_false,e,resF,List.filter_nil,List.map_nil,List.append_nil,wrapS (i:=i) (by omega)]
 | succ k ihk =>
  intro m j out hj hm ho
  obtain ⟨m,rfl,hm⟩:=sucM hm
  have hlt:j < fs.length:=by omega
  rw [spec_Results_l2_S]
  have c1:(0:Int) ≤ (j:Int)∧(j:Int) < (fs.length:Int):=by omega
  have hd:decide ((j:Int) < (fs.length:Int))=true:=by simpa using c1.2
  obtain ⟨he,ht⟩:=hf fs[j] (List.getElem_mem hlt)
  have hfj:fs.getD j (((0:Int),(0:Int)),Go.Ev.nl IT)=fs[j]:=getLt hlt _
  have hq:qs.getD i ((0:Int),(0:Int),(0:Int),(0:Int),Go.Ev.nl Int,(0:Int))=qs[i]:=getLt hi _
  have hgd:g.getD 0 ((0:Int),(0:Int),(0:Int),(0:Int))=g.getD 0 IT0:=rfl
  have c3:(0:Int) ≤ 0∧(0:Int) < (g.length:Int):=by omega
  have o1:=isOut_eq n (qs,la,ro,se,so) hla fs[j].1 he b
  have o2:=isOut_eq n (qs,la,ro,se,so) hla fs[j].1 he a
  simp only [hd,cond_true,if_pos c1,Int.toNat_natCast,hfj,o1,o2,Option.bind_some,hq,ht,if_pos c3,spec_Results_j3_S,wrapS (i:=j) (by omega)]
  rw [dropLt hlt]
  have hsel:selR la a b fs[j]=(isOutS la fs[j].1 b && !isOutS la fs[j].1 a):=rfl
  cases h1:isOutS la fs[j].1 b with
  | false =>
   have hr:resF la a b (i:Int) (g.getD 0 IT0).1 qs[i] (fs[j] :: fs.drop (j + 1))=resF la a b (i:Int) (g.getD 0 IT0).1 qs[i] (fs.drop (j + 1)):=by
    rw [resF_cons,if_neg (by rw [hsel,h1]; simp)]
   simp only [cond_false]
   rw [hr]
   exact ihk m (j + 1) out (by omega) (by omega) (by omega)
  | true =>
   simp only [cond_true]
   cases h2:isOutS la fs[j].1 a with
   | true =>
    have hr:resF la a b (i:Int) (g.getD 0 IT0).1 qs[i] (fs[j] :: fs.drop (j + 1))=resF la a b (i:Int) (g.getD 0 IT0).1 qs[i] (fs.drop (j + 1)):=by
     rw [resF_cons,if_neg (by rw [hsel,h1,h2]; simp)]
    simp only [Bool.not_true,cond_false]
    rw [hr]
    exact ihk m (j + 1) out (by omega) (by omega) (by omega)
   | false =>
    have hr:resF la a b (i:Int) (g.getD 0 IT0).1 qs[i] (fs[j] :: fs.drop (j + 1))=mkR (i:Int) (g.getD 0 IT0).1 qs[i] fs[j] :: resF la a b (i:Int) (g.getD 0 IT0).1 qs[i] (fs.drop (j + 1)):=by
     rw [resF_cons,if_pos (by rw [hsel,h1,h2]; simp)]
    have e1:((List.replicate (1:Nat) ((0:Int),(0:Int),((0:Int),(0:Int)),(0:Int),false,Go.Ev.nl Int)).set (0:Nat) ((i:Int),(g.getD 0 IT0).1,fs[j].1,toldS qs[i] fs[j].2))=[mkR (i:Int) (g.getD 0 IT0).1 qs[i] fs[j]]:=rfl
    have c2:(out.length + [mkR (i:Int) (g.getD 0 IT0).1 qs[i] fs[j]].length) * 72 ≤ 140737488355328∧0 < 72:=by simp; omega
    simp only [Bool.not_false,cond_true]
    rw [show g.getD (Int.toNat 0) ((0:Int),(0:Int),(0:Int),(0:Int))=g.getD 0 IT0 from rfl,e1,if_pos c2,hr]
    have:=ihk m (j + 1) (out ++ [mkR (i:Int) (g.getD 0 IT0).1 qs[i] fs[j]]) (by omega) (by omega) (by simp; omega)
    rw [List.append_assoc] at this
    exact this
def inW (s:Int×Int) (x:IT):Bool:=decide (s.1 ≤ x.2.1) && decide (x.2.1 < s.2)
theorem mem_spans (q:QY) (hq:FixQ q) (x:IT) (k:Int):spanAt q k ∈ spansOf q x.2.1 ↔ inW (spanAt q k) x=true:=by
 have hs:=hq.step
 have e1:k * stepOf q ≤ x.2.1 ↔ k ≤ x.2.1 / stepOf q:=(Int.le_ediv_iff_mul_le (show 0 < stepOf q by omega)).symm
 have e2:x.2.1 < k * stepOf q + q.2.2.1 ↔ (x.2.1 - q.2.2.1) / stepOf q < k:=by
  rw [Int.ediv_lt_iff_lt_mul (show 0 < stepOf q by omega)]
  omega
 simp only [spansOf,List.mem_map,List.mem_range,inW,spanAt,Bool.and_eq_true,decide_eq_true_eq,e1,e2]
 constructor
 ·rintro ⟨j,hj,he⟩
  have:firstK q x.2.1 + (j:Int)=k:=by
   have h1:=congrArg Prod.fst he
   have h1:(firstK q x.2.1 + (j:Int)) * stepOf q=k * stepOf q:=h1
   exact Int.eq_of_mul_eq_mul_right (by omega) h1
  simp only [firstK,cntK] at this hj
  omega
 ·rintro ⟨h1,h2⟩
  refine ⟨(k - firstK q x.2.1).toNat,?_,?_⟩
  ·simp only [firstK,cntK]; omega
  ·have:firstK q x.2.1 + ((k - firstK q x.2.1).toNat:Int)=k:=by simp only [firstK]; omega
   rw [this]
structure WinMid (q:QY) (p:List IT) (x:IT) (dn:List (Int×Int)) (l:List FO):Prop where
 up:l.Pairwise fun f g=>f.1.1 < g.1.1
 each:∀ f ∈ l,∃ k,f.1=spanAt q k∧f.2=p.filter (inW f.1) ++ (if f.1 ∈ dn then [x] else [])∧f.2 ≠ []
 all:∀ k,(p.filter (inW (spanAt q k)) ≠ [] ∨ spanAt q k ∈ dn)→∃ f ∈ l,f.1=spanAt q k
theorem putF_is {q:QY} {p:List IT} {x:IT} {dn:List (Int×Int)} {l:List FO} (h:WinMid q p x dn l) {k:Int} (hk:inW (spanAt q k) x=true) (hlt:∀ s ∈ dn,s.1 < (spanAt q k).1) (hp:∀ y ∈ p,y.2.1 ≤ x.2.1):WinMid q p x (dn ++ [spanAt q k]) (putF (spanAt q k) x l):=by
 have hnd:spanAt q k ∉ dn:=fun hm=>by have:=hlt _ hm; omega
 have hkx:(spanAt q k).1 ≤ x.2.1∧x.2.1 < (spanAt q k).2:=by simpa [inW] using hk
 have inj:∀ k',(spanAt q k').1=(spanAt q k).1→spanAt q k'=spanAt q k:=by
  intro k' e
  have e:k' * stepOf q=k * stepOf q:=e
  simp only [spanAt,e]
 rcases Nat.lt_or_ge (posF (spanAt q k) l) l.length with hpos | hpos
 ·
  have hat:=posF_at hpos
  obtain ⟨k',e1,e2,e3⟩:=h.each _ (List.getElem_mem hpos)
  have hsame:l[posF (spanAt q k) l].1=spanAt q k:=by
   rcases Int.lt_or_le (spanAt q k).1 l[posF (spanAt q k) l].1.1 with hgt | hle
   ·
    exfalso
    have hnot:l[posF (spanAt q k) l].1 ∉ dn:=fun hm=>by have:=hlt _ hm; omega
    rw [if_neg hnot,List.append_nil] at e2
    obtain ⟨y,hy⟩:=List.exists_mem_of_ne_nil _ (e2 ▸ e3)
    obtain ⟨hy1,hy2⟩:=List.mem_filter.1 hy
    have hy3:l[posF (spanAt q k) l].1.1 ≤ y.2.1:=by simp only [inW,Bool.and_eq_true,decide_eq_true_eq] at hy2; exact hy2.1
    have hy4:=hp y hy1
    have hin:inW (spanAt q k) y=true:=by simp only [inW,Bool.and_eq_true,decide_eq_true_eq]; omega
    obtain ⟨f,hf,hfe⟩:=h.all k (.inl (List.ne_nil_of_mem (List.mem_filter.2 ⟨hy1,hin⟩)))
    obtain ⟨i,hi,rfl⟩:=List.getElem_of_mem hf
    rcases Nat.lt_trichotomy i (posF (spanAt q k) l) with hc | hc | hc
    ·have:=posF_lt hc hi
     rw [hfe] at this; omega
    ·subst hc; rw [hfe] at hgt; omega
    ·have:=List.pairwise_iff_getElem.1 h.up _ _ hpos hi hc
     rw [hfe] at this; omega
   ·have:l[posF (spanAt q k) l].1.1=(spanAt q k).1:=by omega
    rw [e1] at this ⊢
    exact inj k' this
  rw [putF_at hpos]
  have hother:∀ (i:Nat) (hi:i < l.length),i ≠ posF (spanAt q k) l→l[i].1 ≠ spanAt q k:=by
   intro i hi hne he
   rcases Nat.lt_trichotomy i (posF (spanAt q k) l) with hc | hc | hc
   ·have:=List.pairwise_iff_getElem.1 h.up _ _ hi hpos hc
    rw [he,hsame] at this; omega
   ·exact hne hc
   ·have:=List.pairwise_iff_getElem.1 h.up _ _ hpos hi hc
    rw [he,hsame] at this; omega
  refine ⟨?_,?_,?_⟩
  ·rw [List.pairwise_iff_getElem]
   intro i j hi hj hij
   rw [List.length_set] at hi hj
   have h0:=List.pairwise_iff_getElem.1 h.up i j hi hj hij
   rw [List.getElem_set,List.getElem_set]
   split <;> split <;> rename_i g1 g2 <;> (try subst g1) <;> (try subst g2) <;> first | exact h0 | omega
  ·intro f hf
   obtain ⟨i,hi,rfl⟩:=List.getElem_of_mem hf
   rw [List.length_set] at hi
   rw [List.getElem_set]
   split
   ·rename_i g1
    refine ⟨k,hsame,?_,by simp⟩
    have hnot:l[posF (spanAt q k) l].1 ∉ dn:=by rw [hsame]; exact hnd
    rw [if_neg hnot,List.append_nil] at e2
    show l[posF (spanAt q k) l].2 ++ [x]=p.filter (inW l[posF (spanAt q k) l].1) ++ (if l[posF (spanAt q k) l].1 ∈ dn ++ [spanAt q k] then [x] else [])
    rw [if_pos (by rw [hsame]; simp),← e2]
   ·rename_i g1
    obtain ⟨k2,f1,f2,f3⟩:=h.each _ (List.getElem_mem hi)
    refine ⟨k2,f1,?_,f3⟩
    have hne:=hother i hi (fun e=>g1 e.symm)
    rw [f2]
    congr 1
    simp [hne]
  ·intro k2 hk2
   have:∃ f ∈ l,f.1=spanAt q k2:=by
    rcases hk2 with hk2 | hk2
    ·exact h.all k2 (.inl hk2)
    ·rcases List.mem_append.1 hk2 with hk2 | hk2
     ·exact h.all k2 (.inr hk2)
     ·rw [List.mem_singleton] at hk2
      exact ⟨_,List.getElem_mem hpos,by rw [hsame,hk2]⟩
   obtain ⟨f,hf,hfe⟩:=this
   obtain ⟨i,hi,rfl⟩:=List.getElem_of_mem hf
   refine ⟨_,List.getElem_mem (show i < (l.set (posF (spanAt q k) l) (l[posF (spanAt q k) l].1,l[posF (spanAt q k) l].2 ++ [x])).length by rw [List.length_set]; exact hi),?_⟩
   rw [List.getElem_set]
   split
   ·rename_i g1; subst g1; exact hfe
   ·exact hfe
 ·
  have hpe:posF (spanAt q k) l=l.length:=by have:=posF_le (spanAt q k) l; omega
  have hall:∀ f ∈ l,f.1.1 < (spanAt q k).1:=by
   intro f hf
   obtain ⟨i,hi,rfl⟩:=List.getElem_of_mem hf
   exact posF_lt (by omega) hi
  have hnone:p.filter (inW (spanAt q k))=[]:=by
   apply Classical.byContradiction
   intro hne
   obtain ⟨f,hf,hfe⟩:=h.all k (.inl hne)
   have:=hall f hf
   rw [hfe] at this; omega
  rw [putF_end hpe]
  refine ⟨?_,?_,?_⟩
  ·rw [List.pairwise_append]
   exact ⟨h.up,List.pairwise_singleton _ _,fun f hf g hg=>by rw [List.mem_singleton.1 hg]; exact hall f hf⟩
  ·intro f hf
   rcases List.mem_append.1 hf with hf | hf
   ·obtain ⟨k2,f1,f2,f3⟩:=h.each f hf
    refine ⟨k2,f1,?_,f3⟩
    have hne:f.1 ≠ spanAt q k:=fun e=>by have:=hall f hf; rw [e] at this; omega
    rw [f2]
    congr 1
    simp [hne]
   ·rw [List.mem_singleton.1 hf]
    refine ⟨k,rfl,?_,by simp⟩
    rw [if_pos (by simp),hnone]; rfl
  ·intro k2 hk2
   rcases hk2 with hk2 | hk2
   ·obtain ⟨f,hf,hfe⟩:=h.all k2 (.inl hk2)
    exact ⟨f,List.mem_append_left _ hf,hfe⟩
   ·rcases List.mem_append.1 hk2 with hk2 | hk2
    ·obtain ⟨f,hf,hfe⟩:=h.all k2 (.inr hk2)
     exact ⟨f,List.mem_append_left _ hf,hfe⟩
    ·rw [List.mem_singleton] at hk2
     exact ⟨_,List.mem_append_right _ List.mem_cons_self,hk2.symm⟩
structure WinIs (q:QY) (p:List IT) (l:List FO):Prop where
 up:l.Pairwise fun f g=>f.1.1 < g.1.1
 each:∀ f ∈ l,∃ k,f.1=spanAt q k∧f.2=p.filter (inW f.1)∧f.2 ≠ []
 all:∀ k,p.filter (inW (spanAt q k)) ≠ []→∃ f ∈ l,f.1=spanAt q k
theorem WinIs.mid {q:QY} {p:List IT} {l:List FO} (h:WinIs q p l) (x:IT):WinMid q p x [] l where
 up:=h.up
 each:=fun f hf=>let ⟨k,e1,e2,e3⟩:=h.each f hf; ⟨k,e1,by simpa using e2,e3⟩
 all:=fun k hk=>h.all k (by simpa using hk)
theorem addAll_is {q:QY} {p:List IT} {x:IT} (hp:∀ y ∈ p,y.2.1 ≤ x.2.1):∀ (sp dn:List (Int×Int)) (l:List FO),WinMid q p x dn l→(∀ s ∈ sp,∃ k,s=spanAt q k∧inW s x=true)→(sp.Pairwise fun s s'=>s.1 < s'.1)→(∀ s ∈ dn,∀ s' ∈ sp,s.1 < s'.1)→WinMid q p x (dn ++ sp) (addAll x l sp)
 | [],dn,l,h,_,_,_=>by simpa [addAll] using h
 | s :: sp,dn,l,h,hs,hup,hlt=>by
  obtain ⟨k,rfl,hk⟩:=hs s List.mem_cons_self
  have h1:=putF_is h hk (fun s hs'=>hlt s hs' _ List.mem_cons_self) hp
  have h2:=addAll_is hp sp (dn ++ [spanAt q k]) (putF (spanAt q k) x l) h1 (fun s hs'=>hs s (List.mem_cons_of_mem _ hs')) (List.Pairwise.of_cons hup) (fun s hs' s' hs''=>by
   rcases List.mem_append.1 hs' with h3 | h3
   ·exact hlt s h3 s' (List.mem_cons_of_mem _ hs'')
   ·rw [List.mem_singleton.1 h3]
    exact List.rel_of_pairwise_cons hup hs'')
  rw [List.append_assoc] at h2
  exact h2
theorem WinMid.is {q:QY} (hq:FixQ q) {p:List IT} {x:IT} {l:List FO} (h:WinMid q p x (spansOf q x.2.1) l):WinIs q (p ++ [x]) l where
 up:=h.up
 each:=fun f hf=>by
  obtain ⟨k,e1,e2,e3⟩:=h.each f hf
  refine ⟨k,e1,?_,e3⟩
  rw [e2,List.filter_append]
  congr 1
  by_cases hx:inW f.1 x=true
  ·rw [if_pos (by rw [e1] at hx ⊢; exact (mem_spans q hq x k).2 hx)]
   simp [hx]
  ·rw [if_neg (fun hm=>hx (by rw [e1] at hm ⊢; exact (mem_spans q hq x k).1 hm))]
   simp [hx]
 all:=fun k hk=>by
  rw [List.filter_append] at hk
  by_cases h1:p.filter (inW (spanAt q k))=[]
  ·rw [h1,List.nil_append] at hk
   refine h.all k (.inr ((mem_spans q hq x k).2 ?_))
   obtain ⟨y,hy⟩:=List.exists_mem_of_ne_nil _ hk
   obtain ⟨h2,h3⟩:=List.mem_filter.1 hy
   rw [List.mem_singleton.1 h2] at h3
   exact h3
  ·exact h.all k (.inl h1)
theorem win_is (q:QY) (hq:FixQ q) (g:List IT) (hup:g.Pairwise fun x y=>x.2.1 ≤ y.2.1):∀ i,i ≤ g.length→WinIs q (g.take i) (winGo q g i)
 | 0,_=>⟨List.Pairwise.nil,by simp [winGo],by simp⟩
 | i + 1,h=>by
  have hlt:i < g.length:=by omega
  have ih:=win_is q hq g hup i (by omega)
  have hx:g.getD i IT0=g[i]:=getLt hlt _
  have hp:∀ y ∈ g.take i,y.2.1 ≤ g[i].2.1:=by
   intro y hy
   obtain ⟨j,hj,rfl⟩:=List.getElem_of_mem hy
   rw [List.length_take] at hj
   rw [List.getElem_take]
   exact List.pairwise_iff_getElem.1 hup j i (by omega) hlt (by omega)
  have h1:=addAll_is hp (spansOf q g[i].2.1) [] (winGo q g i) (ih.mid g[i]) (fun s hs=>by
   have hs':=hs
   simp only [spansOf,List.mem_map] at hs'
   obtain ⟨j,_,rfl⟩:=hs'
   exact ⟨_,rfl,(mem_spans q hq g[i] _).1 hs⟩) (spans_up q hq _) (by simp)
  rw [List.nil_append] at h1
  have h2:=h1.is hq
  rw [List.take_succ_eq_append_getElem hlt]
  simp only [winGo,hx]
  exact h2
theorem winOf_is (q:QY) (hq:FixQ q) (g:List IT) (hup:g.Pairwise fun x y=>x.2.1 ≤ y.2.1):WinIs q g (winOf q g):=by
 have:=win_is q hq g hup g.length (Nat.le_refl _)
 rwa [List.take_length] at this
structure SesOK (sz:Int) (t:Int) (l:List FO):Prop where
 up:l.Pairwise fun f g=>f.1.1 < g.1.1
 each:∀ f ∈ l,f.2 ≠ []∧(∃ x ∈ f.2,f.1.1=x.2.1)∧(∃ y ∈ f.2,f.1.2=y.2.1 + sz)∧f.1.1 ≤ t
theorem sesGo_ok (sz:Int) (hsz:1 ≤ sz) (g:List IT) (hup:g.Pairwise fun x y=>x.2.1 ≤ y.2.1):∀ i,i < g.length→SesOK sz (g.getD i IT0).2.1 (sesGo g sz (i + 1))
 | 0,h=>by
  have hb:newSes g sz 0=true:=by simp [newSes]
  simp only [sesGo,hb,sesAdd,List.nil_append]
  exact ⟨List.pairwise_singleton _ _,fun f hf=>by
   rw [List.mem_singleton.1 hf]
   exact ⟨by simp,⟨_,List.mem_cons_self,rfl⟩,⟨_,List.mem_cons_self,rfl⟩,Int.le_refl _⟩⟩
 | i + 1,h=>by
  have ih:=sesGo_ok sz hsz g hup i (by omega)
  have h1:g.getD (i + 1) IT0=g[i + 1]:=getLt h _
  have h2:g.getD i IT0=g[i]:=getLt (by omega) _
  have hle:=List.pairwise_iff_getElem.1 hup i (i + 1) (by omega) h (by omega)
  rw [show sesGo g sz (i + 1 + 1)=sesAdd (sesGo g sz (i + 1)) sz (g.getD (i + 1) IT0) (newSes g sz (i + 1)) from rfl]
  rw [h2] at ih
  rw [h1]
  cases hb:newSes g sz (i + 1) with
  | true =>
   have hgap:sz ≤ g[i + 1].2.1 - g[i].2.1:=by
    simp only [newSes,Nat.add_sub_cancel,h1,h2] at hb
    simpa using hb
   simp only [sesAdd]
   refine ⟨?_,fun f hf=>?_⟩
   ·rw [List.pairwise_append]
    refine ⟨ih.up,List.pairwise_singleton _ _,fun f hf g' hg'=>?_⟩
    rw [List.mem_singleton.1 hg']
    have:=(ih.each f hf).2.2.2
    show f.1.1 < g[i + 1].2.1
    omega
   ·rcases List.mem_append.1 hf with hf | hf
    ·obtain ⟨a,b,c,d⟩:=ih.each f hf
     exact ⟨a,b,c,by omega⟩
    ·rw [List.mem_singleton.1 hf]
     exact ⟨by simp,⟨_,List.mem_cons_self,rfl⟩,⟨_,List.mem_cons_self,rfl⟩,Int.le_refl _⟩
  | false =>
   have hs:=last_split (sesGo_ne g sz (i + 1) (by omega)) FO0
   rw [hs] at ih
   simp only [sesAdd]
   have hu:=ih.up
   rw [List.pairwise_append] at hu
   obtain ⟨u1,_,u3⟩:=hu
   refine ⟨?_,fun f hf=>?_⟩
   ·rw [List.pairwise_append]
    refine ⟨u1,List.pairwise_singleton _ _,fun f hf g' hg'=>?_⟩
    rw [List.mem_singleton.1 hg']
    have:=u3 f hf ((sesGo g sz (i + 1)).getLast?.getD FO0) List.mem_cons_self
    exact this
   ·rcases List.mem_append.1 hf with hf | hf
    ·obtain ⟨a,b,c,d⟩:=ih.each f (List.mem_append_left _ hf)
     exact ⟨a,b,c,by omega⟩
    ·rw [List.mem_singleton.1 hf]
     obtain ⟨a,⟨x,hx,e⟩,c,d⟩:=ih.each _ (List.mem_append_right _ List.mem_cons_self)
     exact ⟨by simp,⟨x,List.mem_append_left _ hx,e⟩,⟨g[i + 1],by simp,rfl⟩,by
      show ((sesGo g sz (i + 1)).getLast?.getD FO0).1.1 ≤ _
      omega⟩
structure FoldsOK (g:List IT) (l:List FO):Prop where
 up:l.Pairwise fun f f'=>f.1.1 < f'.1.1
 each:∀ f ∈ l,f.2 ≠ []∧(∀ x ∈ f.2,x ∈ g)∧f.2.length ≤ g.length∧endIn f.1
theorem folds_ok (q:QY) (hm:qMay q=true) (g:List IT) (ht:∀ x ∈ g,timeIn x) (hup:g.Pairwise fun x y=>x.2.1 ≤ y.2.1):FoldsOK g (foldsOf q g):=by
 have hz:1 ≤ q.2.2.1∧q.2.2.1 ≤ 1073741824:=by
  simp only [qMay,Bool.and_eq_true,decide_eq_true_eq] at hm
  exact ⟨hm.1,hm.2.1⟩
 unfold foldsOf
 by_cases h2:q.1=2
 ·rw [if_pos h2]
  unfold sesOf
  rcases Nat.eq_zero_or_pos g.length with h0 | h0
  ·rw [h0]; exact ⟨List.Pairwise.nil,by simp [sesGo]⟩
  ·obtain ⟨i,hi⟩:∃ i,g.length=i + 1:=⟨g.length - 1,by omega⟩
   have h1:=sesGo_ok q.2.2.1 hz.1 g hup i (by omega)
   rw [← hi] at h1
   have hfl:=sesGo_flat g q.2.2.1 g.length (Nat.le_refl _)
   rw [List.take_length] at hfl
   refine ⟨h1.up,fun f hf=>?_⟩
   obtain ⟨a,_,⟨y,hy,e⟩,_⟩:=h1.each f hf
   have hsub:∀ x ∈ f.2,x ∈ g:=fun x hx=>by
    rw [← hfl]
    exact List.mem_flatten.2 ⟨f.2,List.mem_map_of_mem hf,hx⟩
   refine ⟨a,hsub,sesGo_mem g q.2.2.1 g.length (Nat.le_refl _) f hf,?_⟩
   obtain ⟨t1,t2⟩:=ht y (hsub y hy)
   unfold endIn
   omega
 ·rw [if_neg h2]
  have hw:=winOf_is q (FixQ.of hm h2) g hup
  refine ⟨hw.up,fun f hf=>?_⟩
  obtain ⟨k,e1,e2,e3⟩:=hw.each f hf
  have hsub:∀ x ∈ f.2,x ∈ g:=fun x hx=>by rw [e2] at hx; exact (List.mem_filter.1 hx).1
  refine ⟨e3,hsub,by rw [e2]; exact List.length_filter_le _ _,?_⟩
  obtain ⟨y,hy⟩:=List.exists_mem_of_ne_nil _ e3
  have hy':=hy
  rw [e2] at hy'
  have hin:=(List.mem_filter.1 hy').2
  simp only [inW,Bool.and_eq_true,decide_eq_true_eq] at hin
  obtain ⟨t1,t2⟩:=ht y (hsub y hy)
  have hs2:f.1.2=f.1.1 + q.2.2.1:=by rw [e1]; rfl
  unfold endIn
  omega
structure GrpOK (σ:Int) (gs:List (List IT)):Prop where
 up:gs.Pairwise fun g h=>∀ x ∈ g,∀ y ∈ h,x.1 < y.1
 each:∀ g ∈ gs,g ≠ []∧∃ τ,τ ≤ σ∧∀ x ∈ g,x.1=τ
 last:∀ x ∈ gs.getLast?.getD [],x.1=σ
theorem grp_ok (ys:List IT) (hup:ys.Pairwise fun x y=>x.1 ≤ y.1):∀ i,i < ys.length→GrpOK (ys.getD i IT0).1 (grpGo ys (i + 1))
 | 0,h=>by
  have hb:newGrp ys 0=true:=by simp [newGrp]
  simp only [grpGo,hb,grpAdd,List.nil_append]
  exact ⟨List.pairwise_singleton _ _,fun g hg=>by
   rw [List.mem_singleton.1 hg]
   exact ⟨by simp,_,Int.le_refl _,fun x hx=>by rw [List.mem_singleton.1 hx]⟩,fun x hx=>by
   have:x=ys.getD 0 IT0:=by simpa using hx
   rw [this]⟩
 | i + 1,h=>by
  have ih:=grp_ok ys hup i (by omega)
  have h1:ys.getD (i + 1) IT0=ys[i + 1]:=getLt h _
  have h2:ys.getD i IT0=ys[i]:=getLt (by omega) _
  have hle:=List.pairwise_iff_getElem.1 hup i (i + 1) (by omega) h (by omega)
  rw [show grpGo ys (i + 1 + 1)=grpAdd (grpGo ys (i + 1)) (ys.getD (i + 1) IT0) (newGrp ys (i + 1)) from rfl]
  rw [h2] at ih
  rw [h1]
  cases hb:newGrp ys (i + 1) with
  | true =>
   have hne:ys[i].1 ≠ ys[i + 1].1:=by
    simp only [newGrp,Nat.add_sub_cancel,h1,h2] at hb
    simpa using hb
   simp only [grpAdd]
   refine ⟨?_,fun g hg=>?_,?_⟩
   ·rw [List.pairwise_append]
    refine ⟨ih.up,List.pairwise_singleton _ _,fun g hg g' hg' x hx y hy=>?_⟩
    rw [List.mem_singleton.1 hg'] at hy
    rw [List.mem_singleton.1 hy]
    obtain ⟨_,τ,t1,t2⟩:=ih.each g hg
    have:=t2 x hx
    omega
   ·rcases List.mem_append.1 hg with hg | hg
    ·obtain ⟨a,τ,t1,t2⟩:=ih.each g hg
     exact ⟨a,τ,by omega,t2⟩
    ·rw [List.mem_singleton.1 hg]
     exact ⟨by simp,_,Int.le_refl _,fun x hx=>by rw [List.mem_singleton.1 hx]⟩
   ·intro x hx
    have:x=ys[i + 1]:=by simpa using hx
    rw [this]
  | false =>
   have heq:ys[i].1=ys[i + 1].1:=by
    simp only [newGrp,Nat.add_sub_cancel,h1,h2] at hb
    simpa using hb
   have hs:=last_split (grpGo_ne ys (i + 1) (by omega)) []
   have hlast:=ih.last
   rw [hs] at ih
   simp only [grpAdd]
   have hu:=ih.up
   rw [List.pairwise_append] at hu
   obtain ⟨u1,_,u3⟩:=hu
   refine ⟨?_,fun g hg=>?_,?_⟩
   ·rw [List.pairwise_append]
    refine ⟨u1,List.pairwise_singleton _ _,fun g hg g' hg' x hx y hy=>?_⟩
    rw [List.mem_singleton.1 hg'] at hy
    rcases List.mem_append.1 hy with hy | hy
    ·exact u3 g hg _ List.mem_cons_self x hx y hy
    ·rw [List.mem_singleton.1 hy]
     obtain ⟨a,τ,t1,t2⟩:=ih.each _ (List.mem_append_right _ List.mem_cons_self)
     obtain ⟨z,hz⟩:=List.exists_mem_of_ne_nil _ a
     have h3:=u3 g hg _ List.mem_cons_self x hx z hz
     have h4:=hlast z hz
     omega
   ·rcases List.mem_append.1 hg with hg | hg
    ·obtain ⟨a,τ,t1,t2⟩:=ih.each g (List.mem_append_left _ hg)
     exact ⟨a,τ,by omega,t2⟩
    ·rw [List.mem_singleton.1 hg]
     refine ⟨by simp,ys[i + 1].1,Int.le_refl _,fun x hx=>?_⟩
     rcases List.mem_append.1 hx with hx | hx
     ·rw [hlast x hx,heq]
     ·rw [List.mem_singleton.1 hx]
   ·intro x hx
    have hx:x ∈ (grpGo ys (i + 1)).getLast?.getD [] ++ [ys[i + 1]]:=by simpa using hx
    rcases List.mem_append.1 hx with hx | hx
    ·rw [hlast x hx,heq]
    ·rw [List.mem_singleton.1 hx]
structure RowsOK (ys:List IT) (gs:List (List IT)):Prop where
 flat:gs.flatten=ys
 up:gs.Pairwise fun g h=>∀ x ∈ g,∀ y ∈ h,x.1 < y.1
 each:∀ g ∈ gs,g ≠ []∧(∃ τ,∀ x ∈ g,x.1=τ)∧g.Sublist ys∧g.Pairwise fun x y=>x.2.1 < y.2.1 ∨ x.2.1=y.2.1∧x.2.2.1 < y.2.2.1
theorem rows_ok (ys:List IT) (hup:ys.Pairwise fun x y=>ltRow x y=true):RowsOK ys (rowOf ys):=by
 have hfl:=grpGo_flat ys ys.length (Nat.le_refl _)
 rw [List.take_length] at hfl
 have hser:ys.Pairwise fun x y=>x.1 ≤ y.1:=hup.imp fun {x y} h=>by rw [ltRow_iff] at h; omega
 unfold rowOf
 rcases Nat.eq_zero_or_pos ys.length with h0 | h0
 ·refine ⟨hfl,?_,?_⟩ <;> rw [h0] <;> simp [grpGo]
 ·obtain ⟨i,hi⟩:∃ i,ys.length=i + 1:=⟨ys.length - 1,by omega⟩
  have h1:=grp_ok ys hser i (by omega)
  rw [← hi] at h1
  refine ⟨hfl,h1.up,fun g hg=>?_⟩
  obtain ⟨a,τ,_,t2⟩:=h1.each g hg
  have hsub:g.Sublist ys:=by rw [← hfl]; exact List.sublist_flatten_of_mem hg
  refine ⟨a,⟨τ,t2⟩,hsub,?_⟩
  have hp:=hup.sublist hsub
  refine List.Pairwise.imp_of_mem ?_ hp
  intro x y hx hy h
  rw [ltRow_iff,t2 x hx,t2 y hy] at h
  omega
theorem pairwise_asc {α:Type} {lt:α→α→Bool}:∀ {l:List α},l.Pairwise (fun x y=>lt x y=true)→ascL lt l=true
 | [],_=>rfl
 | [x],_=>rfl
 | x :: y :: l,h=>by
  simp only [ascL,Bool.and_eq_true]
  exact ⟨List.rel_of_pairwise_cons h List.mem_cons_self,pairwise_asc (List.Pairwise.of_cons h)⟩
theorem insL_up {α:Type} {lt:α→α→Bool} (ht:∀ x y z,lt x y=true→lt y z=true→lt x z=true) (x:α):∀ {l:List α},l.Pairwise (fun x y=>lt x y=true)→(∀ y ∈ l,lt x y=true ∨ lt y x=true)→(insL lt x l).Pairwise (fun x y=>lt x y=true)
 | [],_,_=>List.pairwise_singleton _ _
 | y :: l,h,hx=>by
  simp only [insL]
  cases hxy:lt x y with
  | true =>
   simp only [cond_true]
   refine List.Pairwise.cons (fun z hz=>?_) h
   rcases List.mem_cons.1 hz with rfl | hz
   ·exact hxy
   ·exact ht _ _ _ hxy (List.rel_of_pairwise_cons h hz)
  | false =>
   simp only [cond_false]
   have hyx:lt y x=true:=by
    rcases hx y List.mem_cons_self with h1 | h1
    ·rw [hxy] at h1; cases h1
    ·exact h1
   refine List.Pairwise.cons (fun z hz=>?_) (insL_up ht x (List.Pairwise.of_cons h) fun z hz=>hx z (List.mem_cons_of_mem _ hz))
   have hz:=(insL_perm lt x l).mem_iff.1 hz
   rcases List.mem_cons.1 hz with rfl | hz
   ·exact hyx
   ·exact List.rel_of_pairwise_cons h hz
theorem isortL_up {α:Type} {lt:α→α→Bool} (ht:∀ x y z,lt x y=true→lt y z=true→lt x z=true):∀ {l:List α},l.Pairwise (fun x y=>lt x y=true ∨ lt y x=true)→(isortL lt l).Pairwise (fun x y=>lt x y=true)
 | [],_=>List.Pairwise.nil
 | x :: l,h=>insL_up ht x (isortL_up ht (List.Pairwise.of_cons h)) fun y hy=>List.rel_of_pairwise_cons h ((isortL_perm lt l).mem_iff.1 hy)
theorem itemsGo_facts:∀ {xs:List IT} {seen:List Int},itemsGo seen xs=true→(∀ x ∈ xs,itemMay x=true)∧(xs.Pairwise fun x y=>x.2.2.1 ≠ y.2.2.1)∧∀ x ∈ xs,x.2.2.1 ∉ seen
 | [],seen,_=>⟨by simp,List.Pairwise.nil,by simp⟩
 | x :: xs,seen,h=>by
  simp only [itemsGo,Bool.and_eq_true,Bool.not_eq_true'] at h
  obtain ⟨h1,h2,h3⟩:=h
  obtain ⟨f1,f2,f3⟩:=itemsGo_facts h3
  have h2:x.2.2.1 ∉ seen:=by simpa using h2
  refine ⟨fun y hy=>?_,List.Pairwise.cons (fun y hy e=>f3 y hy (by rw [e]; exact List.mem_cons_self)) f2,fun y hy=>?_⟩
  ·rcases List.mem_cons.1 hy with rfl | hy
   ·exact h1
   ·exact f1 y hy
  ·rcases List.mem_cons.1 hy with rfl | hy
   ·exact h2
   ·exact fun hm=>f3 y hy (List.mem_cons_of_mem _ hm)
theorem itemsGo_of {xs:List IT}:∀ {seen:List Int},(∀ x ∈ xs,itemMay x=true)→(xs.Pairwise fun x y=>x.2.2.1 ≠ y.2.2.1)→(∀ x ∈ xs,x.2.2.1 ∉ seen)→itemsGo seen xs=true:=by
 induction xs with
 | nil=>intros; rfl
 | cons x xs ih =>
  intro seen h1 h2 h3
  simp only [itemsGo,Bool.and_eq_true,Bool.not_eq_true']
  refine ⟨h1 x List.mem_cons_self,by simpa using h3 x List.mem_cons_self,ih (fun y hy=>h1 y (List.mem_cons_of_mem _ hy)) (List.Pairwise.of_cons h2) fun y hy hm=>?_⟩
  rcases List.mem_cons.1 hm with e | hm
  ·exact List.rel_of_pairwise_cons h2 hy e.symm
  ·exact h3 y (List.mem_cons_of_mem _ hy) hm
theorem ltRow_trans (x y z:IT) (h1:ltRow x y=true) (h2:ltRow y z=true):ltRow x z=true:=by
 rw [ltRow_iff] at *; omega
theorem row_up {xs:List IT} (h:xs.Pairwise fun x y=>x.2.2.1 ≠ y.2.2.1):(isortL ltRow xs).Pairwise (fun x y=>ltRow x y=true):=by
 refine isortL_up ltRow_trans (h.imp fun {x y} hne=>?_)
 rw [ltRow_iff,ltRow_iff]
 omega
structure RowG (g:List IT):Prop where
 ne:g ≠ []
 len:g.length ≤ 8192
 may:∀ x ∈ g,itemMay x=true
 ser:∃ τ,∀ x ∈ g,x.1=τ
 up:g.Pairwise fun x y=>x.2.1 ≤ y.2.1
theorem itemMay_timeIn {x:IT} (h:itemMay x=true):timeIn x:=by
 simp only [itemMay,inV,Bool.and_eq_true,decide_eq_true_eq] at h
 exact ⟨h.2.2.1.1,h.2.2.1.2⟩
theorem RowG.time {g:List IT} (h:RowG g):∀ x ∈ g,timeIn x:=fun x hx=>itemMay_timeIn (h.may x hx)
theorem RowG.pos {g:List IT} (h:RowG g):0 < g.length:=List.length_pos_iff.2 h.ne
theorem folds_len (q:QY) (hm:qMay q=true) (g:List IT):(foldsOf q g).length ≤ g.length * 64:=by
 unfold foldsOf
 by_cases h2:q.1=2
 ·rw [if_pos h2]
  have:=sesGo_len g q.2.2.1 g.length
  unfold sesOf
  omega
 ·rw [if_neg h2]
  exact win_len q hm h2 g g.length
theorem folds_told (n:Nat) (hn:1099511627776 < n) (q:QY) (hm:qMay q=true) (g:List IT) (hg:RowG g):∀ f ∈ foldsOf q g,endIn f.1∧spec_told n q f.2=some (toldS q f.2):=by
 intro f hf
 obtain ⟨a,b,c,d⟩:=(folds_ok q hm g hg.time hg.up).each f hf
 obtain ⟨τ,ht⟩:=hg.ser
 have:=hg.len
 exact ⟨d,told_eq n hn q hm f.2 a (by omega) (fun x hx=>hg.may x (b x hx)) τ (fun x hx=>ht x (b x hx))⟩
def resQ (la a b ser:Int) (g:List IT):Nat→List QY→List RE
 | _,[]=>[]
 | i,q :: qs=>resF la a b (i:Int) ser q (foldsOf q g) ++ resQ la a b ser g (i + 1) qs
theorem resQ_len (la a b ser:Int) (g:List IT):∀ (qs:List QY) (i:Nat),(∀ q ∈ qs,qMay q=true)→(resQ la a b ser g i qs).length ≤ qs.length * (g.length * 64)
 | [],i,_=>by simp [resQ]
 | q :: qs,i,h=>by
  have h1:=resQ_len la a b ser g qs (i + 1) fun q hq=>h q (List.mem_cons_of_mem _ hq)
  have h2:=folds_len q (h q List.mem_cons_self) g
  have h3:(resF la a b (i:Int) ser q (foldsOf q g)).length ≤ (foldsOf q g).length:=by
   simp only [resF,List.length_map]; exact List.length_filter_le _ _
  simp only [resQ,List.length_append,List.length_cons,Nat.add_mul,Nat.one_mul]
  omega
theorem res_l1 (n:Nat) (hn:9007199254740992 < n) (a b:Int) (g:List IT) (hg:RowG g) (rows:List (List IT)) (nr:Int) (ri:Nat) (hri:ri < 1073741824) (qs:List QY) (h9:qs.length ≤ 8) (hq:∀ q ∈ qs,qMay q=true) (la ro se so:Int) (hla:0 ≤ la∧la ≤ 1073741824)
  (ih:Int→Int→List (List IT)→Int→Int→List QY→Int→Int→Int→Int→List RE→Option (List RE×Int)) :
  ∀ (k m i:Nat) (out:List RE),i + k=qs.length→k < m→out.length + k * (g.length * 64) ≤ 536870912 →
   spec_Results_l1 n c30.F c31.F c32.F c33.F c34.F c35.F ih m a b g rows nr (ri:Int) (qs.length:Int) (i:Int) qs la ro se so out=ih a b rows nr ((ri + 1:Nat):Int) qs la ro se so (out ++ resQ la a b (g.getD 0 IT0).1 g i (qs.drop i)):=by
 have hgl:=hg.len
 intro k
 induction k with
 | zero =>
  intro m i out hi hm ho
  obtain ⟨m,rfl,hm⟩:=sucM hm
  rw [spec_Results_l1_S]
  have hd:decide ((i:Int) < (qs.length:Int))=false:=by simp; omega
  have e:qs.drop i=[]:=List.drop_eq_nil_of_le (by omega)
  simp only [hd,cond_false,e,resQ,List.append_nil,wrapS (i:=ri) (by omega)]
 | succ k ihk =>
  intro m i out hi hm ho
  obtain ⟨m,rfl,hm⟩:=sucM hm
  have hlt:i < qs.length:=by omega
  rw [spec_Results_l1_S]
  have c1:(0:Int) ≤ (i:Int)∧(i:Int) < (qs.length:Int):=by omega
  have hd:decide ((i:Int) < (qs.length:Int))=true:=by simpa using c1.2
  have hqi:=hq _ (List.getElem_mem hlt)
  have hqd:qs.getD i ((0:Int),(0:Int),(0:Int),(0:Int),Go.Ev.nl Int,(0:Int))=qs[i]:=getLt hlt _
  have hfl:=folds_len qs[i] hqi g
  rw [Nat.add_mul,Nat.one_mul] at ho
  simp only [hd,cond_true,if_pos c1,Int.toNat_natCast,hqd,folds_eq n hn qs[i] hqi g hgl hg.time hg.up,Option.bind_some]
  have h2:=res_l2 n a b g hg.pos rows nr (ri:Int) (qs.length:Int) qs i hlt h9 la ro se so hla (foldsOf qs[i] g) (folds_told n (by omega) qs[i] hqi g hg) (by omega) (spec_Results_l1 n c30.F c31.F c32.F c33.F c34.F c35.F ih m) (foldsOf qs[i] g).length n 0 out (by omega) (by omega) (by omega)
  rw [List.drop_zero] at h2
  have h2':spec_Results_l2 n c30.F c31.F c32.F c33.F c34.F c35.F a b g rows nr (ri:Int) (qs.length:Int) (i:Int) qs la ro se so (foldsOf qs[i] g) (spec_Results_l1 n c30.F c31.F c32.F c33.F c34.F c35.F ih m) n 0 out=_:=h2
  rw [h2']
  have h3:(resF la a b (i:Int) (g.getD 0 IT0).1 qs[i] (foldsOf qs[i] g)).length ≤ (foldsOf qs[i] g).length:=by
   simp only [resF,List.length_map]; exact List.length_filter_le _ _
  have:=ihk m (i + 1) (out ++ resF la a b (i:Int) (g.getD 0 IT0).1 qs[i] (foldsOf qs[i] g)) (by omega) (by omega) (by rw [List.length_append]; omega)
  rw [this,dropLt hlt,resQ,List.append_assoc]
def resAll (la a b:Int) (qs:List QY):List (List IT)→List RE
 | []=>[]
 | g :: gs=>resQ la a b (g.getD 0 IT0).1 g 0 qs ++ resAll la a b qs gs
theorem res_l0 (n:Nat) (hn:9007199254740992 < n) (a b:Int) (rows:List (List IT)) (hr:∀ g ∈ rows,RowG g) (hr9:rows.length ≤ 8192) (qs:List QY) (h9:qs.length ≤ 8) (hq:∀ q ∈ qs,qMay q=true) (la ro se so:Int) (hla:0 ≤ la∧la ≤ 1073741824) :
  ∀ (k m r:Nat) (out:List RE),r + k=rows.length→k < m→out.length + (rows.drop r).flatten.length * 512 ≤ 536870912 →
   spec_Results_l0 n c30.F c31.F c32.F c33.F c34.F c35.F m a b rows (rows.length:Int) (r:Int) qs la ro se so out=Option.bind (admit_Sort n (out ++ resAll la a b qs (rows.drop r))) fun r6=>some (r6,0):=by
 intro k
 induction k with
 | zero =>
  intro m r out hi hm ho
  obtain ⟨m,rfl,hm⟩:=sucM hm
  rw [spec_Results_l0_S]
  have hd:decide ((r:Int) < (rows.length:Int))=false:=by simp; omega
  have e:rows.drop r=[]:=List.drop_eq_nil_of_le (by omega)
  simp only [hd,cond_false,e,resAll,List.append_nil]
 | succ k ihk =>
  intro m r out hi hm ho
  obtain ⟨m,rfl,hm⟩:=sucM hm
  have hlt:r < rows.length:=by omega
  rw [spec_Results_l0_S]
  have c1:(0:Int) ≤ (r:Int)∧(r:Int) < (rows.length:Int):=by omega
  have hd:decide ((r:Int) < (rows.length:Int))=true:=by simpa using c1.2
  have hg:=hr _ (List.getElem_mem hlt)
  have hgd:rows.getD r (Go.Ev.nl IT)=rows[r]:=getLt hlt _
  rw [dropLt hlt,List.flatten_cons,List.length_append] at ho
  have hk:qs.length * (rows[r].length * 64) ≤ rows[r].length * 512:=by
   have:=Nat.mul_le_mul_right (rows[r].length * 64) h9
   omega
  simp only [hd,cond_true,if_pos c1,Int.toNat_natCast,hgd]
  have h2:=res_l1 n hn a b rows[r] hg rows (rows.length:Int) r (by omega) qs h9 hq la ro se so hla (spec_Results_l0 n c30.F c31.F c32.F c33.F c34.F c35.F m) qs.length n 0 out (by omega) (by omega) (by omega)
  rw [List.drop_zero] at h2
  have h2':spec_Results_l1 n c30.F c31.F c32.F c33.F c34.F c35.F (spec_Results_l0 n c30.F c31.F c32.F c33.F c34.F c35.F m) n a b rows[r] rows (rows.length:Int) (r:Int) (qs.length:Int) 0 qs la ro se so out=_:=h2
  rw [h2']
  have hl:=resQ_len la a b (rows[r].getD 0 IT0).1 rows[r] qs 0 hq
  have:=ihk m (r + 1) (out ++ resQ la a b (rows[r].getD 0 IT0).1 rows[r] 0 qs) (by omega) (by omega) (by rw [List.length_append]; omega)
  rw [this,dropLt hlt,resAll,List.append_assoc]
def ltRes (x y:RE):Bool:=decide (cfRes x y < 0)
theorem ltRes_iff (x y:RE):ltRes x y=true ↔ x.2.2.1.2 < y.2.2.1.2 ∨ x.2.2.1.2=y.2.2.1.2∧(x.1 < y.1 ∨ x.1=y.1∧(x.2.1 < y.2.1 ∨ x.2.1=y.2.1∧x.2.2.1.1 < y.2.2.1.1)):=by
 unfold ltRes; rw [decide_eq_true_eq,cfRes_neg]
theorem ltRes_trans (x y z:RE) (h1:ltRes x y=true) (h2:ltRes y z=true):ltRes x z=true:=by
 rw [ltRes_iff] at *; omega
def apartR (x y:RE):Prop:=¬ (x.1=y.1∧x.2.1=y.2.1∧x.2.2.1.1=y.2.2.1.1)
theorem apart_lt {x y:RE} (h:apartR x y):ltRes x y=true ∨ ltRes y x=true:=by
 unfold apartR at h; rw [ltRes_iff,ltRes_iff]; omega
theorem resF_mem {la a b i ser:Int} {q:QY} {l:List FO} {x:RE} (h:x ∈ resF la a b i ser q l):x.1=i∧x.2.1=ser:=by
 simp only [resF,List.mem_map] at h
 obtain ⟨f,_,rfl⟩:=h
 exact ⟨rfl,rfl⟩
theorem resF_apart {la a b i ser:Int} {q:QY} {l:List FO} (h:l.Pairwise fun f g=>f.1.1 < g.1.1):(resF la a b i ser q l).Pairwise apartR:=by
 unfold resF
 rw [List.pairwise_map]
 refine (h.filter _).imp fun {f g} hfg=>?_
 rintro ⟨_,_,e⟩
 have e:f.1.1=g.1.1:=e
 omega
theorem resQ_mem {la a b ser:Int} {g:List IT}:∀ {qs:List QY} {i:Nat} {x:RE},x ∈ resQ la a b ser g i qs→(i:Int) ≤ x.1∧x.2.1=ser
 | [],i,x,h=>by simp [resQ] at h
 | q :: qs,i,x,h=>by
  simp only [resQ,List.mem_append] at h
  rcases h with h | h
  ·have:=resF_mem h; omega
  ·have:=resQ_mem h; omega
theorem resQ_apart {la a b ser:Int} {g:List IT} (hg:RowG g):∀ {qs:List QY} {i:Nat},(∀ q ∈ qs,qMay q=true)→(resQ la a b ser g i qs).Pairwise apartR
 | [],i,_=>by simp [resQ]
 | q :: qs,i,h=>by
  simp only [resQ]
  rw [List.pairwise_append]
  refine ⟨resF_apart (folds_ok q (h q List.mem_cons_self) g hg.time hg.up).up,resQ_apart hg fun q hq=>h q (List.mem_cons_of_mem _ hq),fun x hx y hy=>?_⟩
  have h1:=resF_mem hx
  have h2:=resQ_mem hy
  rintro ⟨e,_⟩
  omega
theorem resAll_mem {la a b:Int} {qs:List QY}:∀ {gs:List (List IT)} {x:RE},x ∈ resAll la a b qs gs→∃ g ∈ gs,x.2.1=(g.getD 0 IT0).1
 | [],x,h=>by simp [resAll] at h
 | g :: gs,x,h=>by
  simp only [resAll,List.mem_append] at h
  rcases h with h | h
  ·exact ⟨g,List.mem_cons_self,(resQ_mem h).2⟩
  ·obtain ⟨g',h1,h2⟩:=resAll_mem h
   exact ⟨g',List.mem_cons_of_mem _ h1,h2⟩
theorem head_mem {g:List IT} (h:g ≠ []):g.getD 0 IT0 ∈ g:=by
 cases g with
 | nil=>exact absurd rfl h
 | cons x g=>exact List.mem_cons_self
theorem resAll_apart {la a b:Int} {qs:List QY} (hq:∀ q ∈ qs,qMay q=true):∀ {gs:List (List IT)},(∀ g ∈ gs,RowG g)→(gs.Pairwise fun g h=>∀ x ∈ g,∀ y ∈ h,x.1 < y.1)→(resAll la a b qs gs).Pairwise apartR
 | [],_,_=>by simp [resAll]
 | g :: gs,hr,hup=>by
  simp only [resAll]
  rw [List.pairwise_append]
  refine ⟨resQ_apart (hr g List.mem_cons_self) hq,resAll_apart hq (fun g hg=>hr g (List.mem_cons_of_mem _ hg)) (List.Pairwise.of_cons hup),fun x hx y hy=>?_⟩
  have h1:=(resQ_mem hx).2
  obtain ⟨g',h2,h3⟩:=resAll_mem hy
  have h4:=List.rel_of_pairwise_cons hup h2 _ (head_mem (hr g List.mem_cons_self).ne) _ (head_mem (hr g' (List.mem_cons_of_mem _ h2)).ne)
  rintro ⟨_,e,_⟩
  omega
def resS (c:CF) (xs:List IT) (a b:Int):List RE:=isortL ltRes (resAll c.2.1 a b c.1 (rowOf (isortL ltRow xs)))
theorem Results_eq (n:Nat) (hn:9007199254740992 < n) (c:CF) (xs:List IT) (a b:Int) (h:mayS c xs [a,b]=true):spec_Results n c xs a b=some (resS c xs a b,0):=by
 have h':=h
 simp only [mayS,cfgMay,inR,Bool.and_eq_true,decide_eq_true_eq,List.all_eq_true] at h
 obtain ⟨hi,⟨hq1,hq2,hla,_⟩,h9,_⟩:=h
 obtain ⟨f1,f2,_⟩:=itemsGo_facts hi
 have hup:=row_up f2
 have hro:=rows_ok (isortL ltRow xs) hup
 have hlen:(isortL ltRow xs).length=xs.length:=(isortL_perm ltRow xs).length_eq
 have hrows:∀ g ∈ rowOf (isortL ltRow xs),RowG g:=by
  intro g hg
  obtain ⟨g1,g2,g3,g4⟩:=hro.each g hg
  exact ⟨g1,by have:=g3.length_le; omega,fun x hx=>f1 x ((isortL_perm ltRow xs).mem_iff.1 (g3.subset hx)),g2,g4.imp fun {x y} h=>by omega⟩
 have hrl:(rowOf (isortL ltRow xs)).length ≤ 8192:=by
  have:=grpGo_len (isortL ltRow xs) (isortL ltRow xs).length
  unfold rowOf; omega
 have hsort:admit_Sort n (resAll c.2.1 a b c.1 (rowOf (isortL ltRow xs)))=some (resS c xs a b):=by
  rw [admit_Sort_S]
  have hap:=resAll_apart (la:=c.2.1) (a:=a) (b:=b) hq2 hrows hro.up
  have hasc:ascL ltRes (resS c xs a b)=true:=pairwise_asc (isortL_up ltRes_trans (hap.imp fun {x y} h=>apart_lt h))
  have e1:slices_SortFunc_res n (resAll c.2.1 a b c.1 (rowOf (isortL ltRow xs))) ()=(bif decide ((resAll c.2.1 a b c.1 (rowOf (isortL ltRow xs))).length < 4611686018427387904) then (bif ascL ltRes (resS c xs a b) then some (resS c xs a b) else none) else none):=rfl
  have hl:∀ gs:List (List IT),(resAll c.2.1 a b c.1 gs).length ≤ gs.flatten.length * 512:=by
   intro gs
   induction gs with
   | nil=>simp [resAll]
   | cons g gs ih =>
    have h1:=resQ_len c.2.1 a b (g.getD 0 IT0).1 g c.1 0 hq2
    have h2:=Nat.mul_le_mul_right (g.length * 64) hq1.2
    simp only [resAll,List.length_append,List.flatten_cons]
    omega
  have hl2:=hl (rowOf (isortL ltRow xs))
  rw [hro.flat,hlen] at hl2
  rw [e1,hasc,show decide ((resAll c.2.1 a b c.1 (rowOf (isortL ltRow xs))).length < 4611686018427387904)=true by simp; omega]
  rfl
 rw [spec_Results_S]
 have e:((List.replicate (2:Nat) (0:Int)).set (0:Nat) a).set (1:Nat) b=[a,b]:=rfl
 rw [e,may_two n (by omega) c xs (by omega),h']
 simp only [Option.bind_some,Bool.not_true,cond_false,row_eq n (by omega) xs h9 (pairwise_asc hup)]
 have:=res_l0 n hn a b (rowOf (isortL ltRow xs)) hrows hrl c.1 hq1.2 hq2 c.2.1 c.2.2.1 c.2.2.2.1 c.2.2.2.2 ⟨hla.1,hla.2⟩ (rowOf (isortL ltRow xs)).length n 0 [] (by omega) (by omega) (by rw [List.drop_zero,hro.flat,hlen]; simp; omega)
 rw [List.drop_zero,List.nil_append,hsort] at this
 exact this
theorem sameInts_l0 (n:Nat) (xs:List Int) (h9:xs.length ≤ 1073741824):∀ (k m i:Nat),i + k=xs.length→k < m→bournelaw0_SameInts_l0 n xs xs m (i:Int)=some true:=by
 intro k
 induction k with
 | zero =>
  intro m i hi hm
  obtain ⟨m,rfl,hm⟩:=sucM hm
  rw [bournelaw0_SameInts_l0_S]
  have hd:decide ((i:Int) < (xs.length:Int))=false:=by simp; omega
  simp only [hd,cond_false]
 | succ k ihk =>
  intro m i hi hm
  obtain ⟨m,rfl,hm⟩:=sucM hm
  rw [bournelaw0_SameInts_l0_S]
  have c1:(0:Int) ≤ (i:Int)∧(i:Int) < (xs.length:Int):=by omega
  have hd:decide ((i:Int) < (xs.length:Int))=true:=by simpa using c1.2
  simp only [hd,cond_true,if_pos c1,bne_self_eq_false,cond_false,wrapS (i:=i) (by omega)]
  exact ihk m (i + 1) (by omega) (by omega)
theorem SameInts_refl (n:Nat) (hn:1073741825 < n) (xs:List Int) (h9:xs.length ≤ 1073741824):bournelaw0_SameInts n xs xs=some true:=by
 rw [bournelaw0_SameInts_S,bne_self_eq_false,cond_false]
 exact sameInts_l0 n xs h9 xs.length n 0 (by omega) (by omega)
theorem SameOut_refl (n:Nat) (hn:1073741825 < n) (x:OU) (h9:x.2.2.length ≤ 1073741824):bournelaw0_SameOut n x x=some true:=by
 rw [bournelaw0_SameOut_S,beq_self_eq_true,beq_self_eq_true,SameInts_refl n hn _ h9]; rfl
theorem Num_eq (n:Nat) (x:Int):bournelaw0_Num n x=some x:=rfl
def rowT (xs:List IT) (τ:Int):List IT:=(isortL ltRow xs).filter fun x=>x.1 == τ
theorem rowT_perm (xs:List IT) (τ:Int):(rowT xs τ).Perm (xs.filter fun x=>x.1 == τ):=(isortL_perm ltRow xs).filter _
theorem rowT_mem {xs:List IT} {τ:Int} {x:IT}:x ∈ rowT xs τ ↔ x ∈ xs∧x.1=τ:=by
 rw [(rowT_perm xs τ).mem_iff,List.mem_filter,beq_iff_eq]
theorem rows_filter {ys:List IT} {gs:List (List IT)} (h:RowsOK ys gs) {g:List IT} (hg:g ∈ gs):g=ys.filter fun x=>x.1 == (g.getD 0 IT0).1:=by
 obtain ⟨hne,⟨τ,ht⟩,_,_⟩:=h.each g hg
 have e0:(g.getD 0 IT0).1=τ:=ht _ (head_mem hne)
 rw [e0]
 obtain ⟨pre,post,rfl⟩:=List.append_of_mem hg
 have hup:=h.up
 rw [List.pairwise_append,List.pairwise_cons] at hup
 obtain ⟨_,⟨u1,_⟩,u2⟩:=hup
 rw [← h.flat]
 simp only [List.flatten_append,List.flatten_cons,List.filter_append]
 have e1:pre.flatten.filter (fun x=>x.1 == τ)=[]:=by
  rw [List.filter_eq_nil_iff]
  intro x hx
  obtain ⟨g',h1,h2⟩:=List.mem_flatten.1 hx
  have:=u2 g' h1 g List.mem_cons_self x h2 _ (head_mem hne)
  rw [beq_iff_eq]; omega
 have e2:post.flatten.filter (fun x=>x.1 == τ)=[]:=by
  rw [List.filter_eq_nil_iff]
  intro x hx
  obtain ⟨g',h1,h2⟩:=List.mem_flatten.1 hx
  have:=u1 g' h1 _ (head_mem hne) x h2
  rw [beq_iff_eq]; omega
 have e3:g.filter (fun x=>x.1 == τ)=g:=by
  rw [List.filter_eq_self]
  intro x hx
  rw [beq_iff_eq]; exact ht x hx
 rw [e1,e2,e3]; simp
structure MayOK (c:CF) (xs:List IT):Prop where
 qs:∀ q ∈ c.1,qMay q=true
 ql:c.1.length ≤ 8
 late:0 ≤ c.2.1∧c.2.1 ≤ 1073741824
 may:∀ x ∈ xs,itemMay x=true
 dif:xs.Pairwise fun x y=>x.2.2.1 ≠ y.2.2.1
 len:xs.length ≤ 8192
theorem mayS_ok {c:CF} {xs:List IT} {ms:List Int} (h:mayS c xs ms=true):MayOK c xs:=by
 simp only [mayS,cfgMay,inR,Bool.and_eq_true,decide_eq_true_eq,List.all_eq_true] at h
 obtain ⟨hi,⟨hq1,hq2,hla,_⟩,h9,_⟩:=h
 obtain ⟨f1,f2,_⟩:=itemsGo_facts hi
 exact ⟨hq2,by omega,by omega,f1,f2,by omega⟩
theorem MayOK.rowsOK {c:CF} {xs:List IT} (h:MayOK c xs):RowsOK (isortL ltRow xs) (rowOf (isortL ltRow xs)):=rows_ok _ (row_up h.dif)
theorem MayOK.rowG {c:CF} {xs:List IT} (h:MayOK c xs):∀ g ∈ rowOf (isortL ltRow xs),RowG g:=by
 intro g hg
 have hlen:(isortL ltRow xs).length=xs.length:=(isortL_perm ltRow xs).length_eq
 obtain ⟨g1,g2,g3,g4⟩:=h.rowsOK.each g hg
 exact ⟨g1,by have:=g3.length_le; have:=h.len; omega,fun x hx=>h.may x ((isortL_perm ltRow xs).mem_iff.1 (g3.subset hx)),g2,g4.imp fun {x y} h=>by omega⟩
theorem MayOK.rows_mem {c:CF} {xs:List IT} (h:MayOK c xs) {g:List IT}:g ∈ rowOf (isortL ltRow xs) ↔ ∃ τ,rowT xs τ ≠ []∧g=rowT xs τ:=by
 have hr:=h.rowsOK
 constructor
 ·intro hg
  have:=rows_filter hr hg
  exact ⟨_,by unfold rowT; rw [← this]; exact (hr.each g hg).1,this⟩
 ·rintro ⟨τ,h1,rfl⟩
  obtain ⟨x,hx⟩:=List.exists_mem_of_ne_nil _ h1
  have hx1:x ∈ isortL ltRow xs:=(List.mem_filter.1 hx).1
  have hx2:=(rowT_mem.1 hx).2
  rw [← hr.flat] at hx1
  obtain ⟨g,hg,hxg⟩:=List.mem_flatten.1 hx1
  have e:=rows_filter hr hg
  obtain ⟨τ',ht⟩:=(hr.each g hg).2.1
  have e2:(g.getD 0 IT0).1=τ:=by rw [ht _ (head_mem (hr.each g hg).1),← ht x hxg,hx2]
  rw [e2] at e
  have e3:g=rowT xs τ:=e
  rw [← e3]; exact hg
theorem MayOK.rowTG {c:CF} {xs:List IT} (h:MayOK c xs) {τ:Int} (hn:rowT xs τ ≠ []):RowG (rowT xs τ):=h.rowG _ (h.rows_mem.2 ⟨τ,hn,rfl⟩)
theorem head_rowT {xs:List IT} {τ:Int} (hn:rowT xs τ ≠ []):((rowT xs τ).getD 0 IT0).1=τ:=(rowT_mem.1 (head_mem hn)).2
theorem resQ_iff {la a b ser:Int} {g:List IT} {x:RE}:∀ {qs:List QY} {i:Nat},x ∈ resQ la a b ser g i qs ↔ ∃ k,∃ h:k < qs.length,∃ f ∈ foldsOf qs[k] g,selR la a b f=true∧x=mkR ((i + k:Nat):Int) ser qs[k] f
 | [],i=>by simp [resQ]
 | q :: qs,i=>by
  simp only [resQ,List.mem_append,resQ_iff (qs:=qs)]
  constructor
  ·rintro (h | ⟨k,h,f,h1,h2,rfl⟩)
   ·simp only [resF,List.mem_map,List.mem_filter] at h
    obtain ⟨f,⟨h1,h2⟩,rfl⟩:=h
    exact ⟨0,by simp,f,h1,h2,rfl⟩
   ·exact ⟨k + 1,by simpa using h,f,h1,h2,by rw [show i + (k + 1)=i + 1 + k by omega]; rfl⟩
  ·rintro ⟨k,h,f,h1,h2,rfl⟩
   cases k with
   | zero=>exact .inl (by simp only [resF,List.mem_map,List.mem_filter]; exact ⟨f,⟨h1,h2⟩,rfl⟩)
   | succ k=>exact .inr ⟨k,by simpa using h,f,h1,h2,by rw [show i + (k + 1)=i + 1 + k by omega]; rfl⟩
theorem resAll_iff {la a b:Int} {qs:List QY} {x:RE}:∀ {gs:List (List IT)},x ∈ resAll la a b qs gs ↔ ∃ g ∈ gs,x ∈ resQ la a b (g.getD 0 IT0).1 g 0 qs
 | []=>by simp [resAll]
 | g :: gs=>by simp [resAll,resAll_iff (gs:=gs)]
theorem resS_mem {c:CF} {xs:List IT} (h:MayOK c xs) {a b:Int} {x:RE}:x ∈ resS c xs a b ↔ ∃ τ,rowT xs τ ≠ []∧∃ k,∃ hk:k < c.1.length,∃ f ∈ foldsOf c.1[k] (rowT xs τ),selR c.2.1 a b f=true∧x=mkR (k:Int) τ c.1[k] f:=by
 unfold resS
 rw [(isortL_perm ltRes _).mem_iff,resAll_iff]
 constructor
 ·rintro ⟨g,hg,hx⟩
  obtain ⟨τ,h1,rfl⟩:=h.rows_mem.1 hg
  rw [head_rowT h1,resQ_iff] at hx
  obtain ⟨k,hk,f,h2,h3,h4⟩:=hx
  exact ⟨τ,h1,k,hk,f,h2,h3,by rw [h4,Nat.zero_add]⟩
 ·rintro ⟨τ,h1,k,hk,f,h2,h3,h4⟩
  exact ⟨_,h.rows_mem.2 ⟨τ,h1,rfl⟩,by rw [head_rowT h1,resQ_iff]; exact ⟨k,hk,f,h2,h3,by rw [h4,Nat.zero_add]⟩⟩
theorem resS_up {c:CF} {xs:List IT} (h:MayOK c xs) (a b:Int):(resS c xs a b).Pairwise fun x y=>ltRes x y=true :=
 isortL_up ltRes_trans ((resAll_apart h.qs h.rowG h.rowsOK.up).imp fun {x y} h=>apart_lt h)
theorem resS_len {c:CF} {xs:List IT} (h:MayOK c xs) (a b:Int):(resS c xs a b).length ≤ 4194304:=by
 have hlen:(isortL ltRow xs).length=xs.length:=(isortL_perm ltRow xs).length_eq
 have hl:∀ gs:List (List IT),(resAll c.2.1 a b c.1 gs).length ≤ gs.flatten.length * 512:=by
  intro gs
  induction gs with
  | nil=>simp [resAll]
  | cons g gs ih =>
   have h1:=resQ_len c.2.1 a b (g.getD 0 IT0).1 g c.1 0 h.qs
   have h2:=Nat.mul_le_mul_right (g.length * 64) h.ql
   simp only [resAll,List.length_append,List.flatten_cons]
   omega
 have hl2:=hl (rowOf (isortL ltRow xs))
 rw [h.rowsOK.flat,hlen] at hl2
 unfold resS
 rw [(isortL_perm ltRes _).length_eq]
 have:=h.len
 omega
theorem up_ext {α:Type} {lt:α→α→Bool} (ht:∀ x y z,lt x y=true→lt y z=true→lt x z=true) (hs:∀ x,lt x x=false) :
  ∀ {xs ys:List α},(xs.Pairwise fun x y=>lt x y=true)→(ys.Pairwise fun x y=>lt x y=true)→(∀ x,x ∈ xs ↔ x ∈ ys)→xs=ys
 | [],[],_,_,_=>rfl
 | [],y :: ys,_,_,h=>by have:=(h y).2 List.mem_cons_self; simp at this
 | x :: xs,[],_,_,h=>by have:=(h x).1 List.mem_cons_self; simp at this
 | x :: xs,y :: ys,hx,hy,h=>by
  rw [List.pairwise_cons] at hx hy
  have no:∀ {a b},lt a b=true→lt b a=true→False:=fun h1 h2=>by have:=ht _ _ _ h1 h2; rw [hs] at this; cases this
  have e:x=y:=by
   rcases List.mem_cons.1 ((h x).1 List.mem_cons_self) with e | h1
   ·exact e
   rcases List.mem_cons.1 ((h y).2 List.mem_cons_self) with e | h2
   ·exact e.symm
   exact (no (hy.1 x h1) (hx.1 y h2)).elim
  subst e
  congr 1
  refine up_ext ht hs hx.2 hy.2 fun z=>⟨fun hz=>?_,fun hz=>?_⟩
  ·rcases List.mem_cons.1 ((h z).1 (List.mem_cons_of_mem _ hz)) with e | h1
   ·subst e; have:=hx.1 z hz; rw [hs] at this; cases this
   ·exact h1
  ·rcases List.mem_cons.1 ((h z).2 (List.mem_cons_of_mem _ hz)) with e | h1
   ·subst e; have:=hy.1 z hz; rw [hs] at this; cases this
   ·exact h1
theorem ltRes_self (x:RE):ltRes x x=false:=by
 cases hx:ltRes x x with
 | false=>rfl
 | true=>rw [ltRes_iff] at hx; omega
theorem res_ext {xs ys:List RE} (hx:xs.Pairwise fun x y=>ltRes x y=true) (hy:ys.Pairwise fun x y=>ltRes x y=true) (h:∀ x,x ∈ xs ↔ x ∈ ys):xs=ys:=up_ext ltRes_trans ltRes_self hx hy h
theorem MayOK.one {c:CF} {xs:List IT} (h:MayOK c xs) {k:Nat} (hk:k < c.1.length):MayOK ([c.1[k]],c.2) xs :=
 ⟨fun q hq=>by rw [List.mem_singleton.1 hq]; exact h.qs _ (List.getElem_mem hk),by simp,h.late,h.may,h.dif,h.len⟩
theorem filter_take_succ {α:Type} (p:α→Bool) {l:List α} {k:Nat} (hk:k < l.length):((l.take (k + 1)).filter p).length=((l.take k).filter p).length + (if p l[k]=true then 1 else 0):=by
 rw [List.take_succ_eq_append_getElem hk,List.filter_append,List.length_append,List.filter_cons]
 split <;> rfl
theorem toldS_cnt {q:QY} (hm:qMay q=true) (h0:q.2.1=0) {g:List IT} (hg:RowG g) {l:List IT} (hne:l ≠ []) (hs:∀ x ∈ l,x ∈ g) (hl:l.length ≤ g.length):toldS q l=((l.length:Int),false,[]):=by
 obtain ⟨τ,ht⟩:=hg.ser
 have h9:=hg.len
 have:=accOf_is q hm l hne (by omega) (fun x hx=>hg.may x (hs x hx)) τ (fun x hx=>ht x (hs x hx))
 unfold toldS aggS
 rw [if_pos h0,this.is.cnt]
def sq (k m:Int):QY:=(1,0,m,k,[],0)
def cS (k m:Int):CF:=([sq k m],0,100,2,1)
structure SlIn (xs:List IT):Prop where
 ser:∀ x ∈ xs,x.1=0 ∨ x.1=1
 time:∀ x ∈ xs,-30 ≤ x.2.1∧x.2.1 ≤ 33
def many (xs:List IT) (σ s e:Int):Nat:=(xs.filter fun x=>x.1 == σ && inW (s,e) x).length
def slOne (xs:List IT) (s m σ:Int):List RE:=if many xs σ s (s + m)=0 then [] else [(0,σ,(s,s + m),((many xs σ s (s + m):Nat):Int),false,[])]
def slAt (xs:List IT) (k m mark s:Int):List RE:=if s.tmod k=0∧s + m ≤ mark then slOne xs s m 0 ++ slOne xs s m 1 else []
def slAll (xs:List IT) (k m mark a:Int):Nat→List RE
 | 0=>[]
 | n + 1=>slAt xs k m mark a ++ slAll xs k m mark (a + 1) n
theorem slOne_mem {xs:List IT} {s m σ:Int} {x:RE}:x ∈ slOne xs s m σ ↔ many xs σ s (s + m) ≠ 0∧x=(0,σ,(s,s + m),((many xs σ s (s + m):Nat):Int),false,[]):=by
 unfold slOne
 split
 ·rename_i h; simp [h]
 ·rename_i h; simp [h]
theorem slAt_mem {xs:List IT} {k m mark s:Int} {x:RE}:x ∈ slAt xs k m mark s ↔ (s.tmod k=0∧s + m ≤ mark)∧∃ σ,(σ=0 ∨ σ=1)∧many xs σ s (s + m) ≠ 0∧x=(0,σ,(s,s + m),((many xs σ s (s + m):Nat):Int),false,[]):=by
 unfold slAt
 split
 ·rename_i h
  rw [List.mem_append,slOne_mem,slOne_mem]
  constructor
  ·rintro (h1 | h1)
   ·exact ⟨h,0,.inl rfl,h1⟩
   ·exact ⟨h,1,.inr rfl,h1⟩
  ·rintro ⟨_,σ,rfl | rfl,h1⟩
   ·exact .inl h1
   ·exact .inr h1
 ·rename_i h
  simp [h]
theorem slAll_mem {xs:List IT} {k m mark:Int} {x:RE}:∀ {n:Nat} {a:Int},x ∈ slAll xs k m mark a n ↔ ∃ s,a ≤ s∧s < a + n∧x ∈ slAt xs k m mark s
 | 0,a=>by
  simp only [slAll,List.not_mem_nil,false_iff]
  rintro ⟨s,h1,h2,_⟩
  simp at h2; omega
 | n + 1,a=>by
  simp only [slAll,List.mem_append,slAll_mem (n:=n)]
  constructor
  ·rintro (h | ⟨s,h1,h2,h3⟩)
   ·exact ⟨a,Int.le_refl _,by omega,h⟩
   ·exact ⟨s,by omega,by omega,h3⟩
  ·rintro ⟨s,h1,h2,h3⟩
   by_cases e:s=a
   ·subst e; exact .inl h3
   ·exact .inr ⟨s,by omega,by omega,h3⟩
theorem slAt_end {xs:List IT} {k m mark s:Int} {x:RE} (h:x ∈ slAt xs k m mark s):x.1=0∧x.2.2.1=(s,s + m):=by
 obtain ⟨_,σ,_,_,rfl⟩:=slAt_mem.1 h
 exact ⟨rfl,rfl⟩
theorem slAt_up (xs:List IT) (k m mark s:Int):(slAt xs k m mark s).Pairwise fun x y=>ltRes x y=true:=by
 unfold slAt
 split
 ·rw [List.pairwise_append]
  refine ⟨?_,?_,?_⟩
  ·unfold slOne; split <;> simp
  ·unfold slOne; split <;> simp
  ·intro x hx y hy
   obtain ⟨_,rfl⟩:=slOne_mem.1 hx
   obtain ⟨_,rfl⟩:=slOne_mem.1 hy
   rw [ltRes_iff]
   simp
 ·exact List.Pairwise.nil
theorem slAll_up (xs:List IT) (k m mark:Int):∀ (n:Nat) (a:Int),(slAll xs k m mark a n).Pairwise fun x y=>ltRes x y=true
 | 0,_=>List.Pairwise.nil
 | n + 1,a=>by
  simp only [slAll]
  rw [List.pairwise_append]
  refine ⟨slAt_up ..,slAll_up xs k m mark n (a + 1),fun x hx y hy=>?_⟩
  obtain ⟨s,h1,_,h3⟩:=slAll_mem.1 hy
  have e1:=slAt_end hx
  have e2:=slAt_end h3
  rw [ltRes_iff,e1.2,e2.2]
  left
  show a + m < s + m
  omega
theorem many_perm {xs:List IT} (σ s e:Int):many xs σ s e=((rowT xs σ).filter (inW (s,e))).length:=by
 unfold many
 have h:(rowT xs σ).filter (inW (s,e)) |>.Perm ((xs.filter fun x=>x.1 == σ).filter (inW (s,e))):=(rowT_perm xs σ).filter _
 rw [h.length_eq,List.filter_filter]
 congr 1
 exact List.filter_congr fun x _=>Bool.and_comm _ _
theorem resS_slides {xs:List IT} {k m mark:Int} (hk:1 ≤ k∧k ≤ 8) (hmm:k ≤ m∧m ≤ k + 15) (hq:qMay (sq k m)=true) (h:MayOK (cS k m) xs) (hx:SlIn xs) :
  resS (cS k m) xs (-4398046511104) mark=slAll xs k m mark (-30 - 2 * m - k) (71 + 2 * m + k).toNat:=by
 refine res_ext (resS_up h _ _) (slAll_up ..) fun x=>?_
 rw [resS_mem h,slAll_mem]
 have hst:stepOf (sq k m)=k:=rfl
 have hsp:∀ j,spanAt (sq k m) j=(j * k,j * k + m):=fun j=>rfl
 have hfo:∀ g,foldsOf (sq k m) g=winOf (sq k m) g:=fun g=>rfl
 have hfix:FixQ (sq k m):=FixQ.of hq (show (1:Int) ≠ 2 by decide)
 constructor
 ·rintro ⟨τ,e1,i,hi,f,e2,e3,rfl⟩
  obtain rfl:i=0:=by
   have hl:(cS k m).1.length=1:=rfl
   omega
  have hg:=h.rowTG e1
  have e2:f ∈ winOf (sq k m) (rowT xs τ):=e2
  obtain ⟨j,f1,f2,f3⟩:=(winOf_is (sq k m) hfix _ hg.up).each f e2
  have hto:=toldS_cnt (q:=sq k m) hq rfl hg f3 (fun x hx=>by rw [f2] at hx; exact (List.mem_filter.1 hx).1) (by rw [f2]; exact List.length_filter_le _ _)
  rw [hsp] at f1
  have hc:f.2.length=many xs τ (j * k) (j * k + m):=by rw [many_perm,f2,f1]
  obtain ⟨y,hy⟩:=List.exists_mem_of_ne_nil _ f3
  rw [f2,f1] at hy
  obtain ⟨hy1,hy2⟩:=List.mem_filter.1 hy
  obtain ⟨hy3,hy4⟩:=rowT_mem.1 hy1
  have ht:=hx.time y hy3
  simp only [inW,Bool.and_eq_true,decide_eq_true_eq] at hy2
  have hs:=hx.ser y hy3
  rw [hy4] at hs
  refine ⟨j * k,by omega,by omega,slAt_mem.2 ⟨⟨Int.mul_tmod_left _ _,?_⟩,τ,hs,?_,?_⟩⟩
  ·unfold selR isOutS at e3
   rw [Bool.and_eq_true,decide_eq_true_eq,f1] at e3
   have:=e3.1
   have e0:(cS k m).2.1=0:=rfl
   rw [e0] at this
   simpa using this
  ·rw [← hc]
   exact fun h0=>f3 (List.length_eq_zero_iff.1 h0)
  ·show (((0:Nat):Int),τ,f.1,toldS (sq k m) f.2)=_
   rw [hto,hc,f1]; rfl
 ·rintro ⟨s,h1,h2,h3⟩
  obtain ⟨⟨h4,h5⟩,σ,hσ,h6,rfl⟩:=slAt_mem.1 h3
  obtain ⟨j,rfl⟩:∃ j,s=j * k:=by
   obtain ⟨j,hj⟩:=Int.dvd_of_tmod_eq_zero h4
   exact ⟨j,by rw [hj,Int.mul_comm]⟩
  rw [many_perm] at h6
  have hne:(rowT xs σ).filter (inW (spanAt (sq k m) j)) ≠ []:=fun h0=>h6 (by rw [← hsp j,h0]; rfl)
  have hn:rowT xs σ ≠ []:=fun h0=>hne (by rw [h0]; rfl)
  have hg:=h.rowTG hn
  have hw:=winOf_is (sq k m) hfix _ hg.up
  obtain ⟨f,hf,f1⟩:=hw.all j hne
  obtain ⟨j',g1,g2,g3⟩:=hw.each f hf
  have hto:=toldS_cnt (q:=sq k m) hq rfl hg g3 (fun x hx=>by rw [g2] at hx; exact (List.mem_filter.1 hx).1) (by rw [g2]; exact List.length_filter_le _ _)
  have hc:f.2.length=many xs σ (j * k) (j * k + m):=by rw [many_perm,g2,f1,hsp]
  refine ⟨σ,hn,0,by show 0 < 1; omega,f,hf,?_,?_⟩
  ·unfold selR isOutS
   have e0:(cS k m).2.1=0:=rfl
   rw [f1,hsp,e0]
   simp only [Bool.and_eq_true,decide_eq_true_eq,Bool.not_eq_true',decide_eq_false_iff_not]
   omega
  ·show _=(((0:Nat):Int),σ,f.1,toldS (sq k m) f.2)
   rw [hto,hc,f1,hsp]; rfl
theorem marks_mk {a b:Int} (ha:-4398046511104 ≤ a∧a ≤ 4398046511104) (hb:-4398046511104 ≤ b∧b ≤ 4398046511104) (h:a ≤ b):([a,b].all markMay && rising [a,b])=true:=by
 simp [markMay,rising,ha.1,ha.2,hb.1,hb.2,h]
def inS (σ s m:Int) (x:IT):Bool:=x.1 == σ && inW (s,s + m) x
theorem many_inS (xs:List IT) (σ s m:Int):many xs σ s (s + m)=(xs.filter (inS σ s m)).length:=rfl
theorem slides_4 (n:Nat) (hn:1073741825 < n) (k m mark s σ:Int) (hm:1 ≤ m∧m ≤ 64) (hs:-1000 ≤ s∧s ≤ 1000) (hσ:0 ≤ σ∧σ ≤ 1) (xs:List IT) (hx:xs.length ≤ 20) (pre post:List RE) (h9:(pre ++ slOne xs s m σ ++ post).length ≤ 4194304)
  (ih3:Int→Int→Int→List RE→Int→Int→Int→List IT→Option Bool) :
  ∀ (kk mm i:Nat),i + kk=xs.length→kk < mm→bournelaw21_SpecSlides_v_l4 n c25.F c27v.F c28.F c14w.F c19.F c29.F c16w.F c12v.F k m mark (pre ++ slOne xs s m σ ++ post) (pre.length:Int) s σ xs ih3 mm ((((xs.take i).filter (inS σ s m)).length:Nat):Int) (i:Int)
   = ih3 k m mark (pre ++ slOne xs s m σ ++ post) ((pre.length + (slOne xs s m σ).length:Nat):Int) s (σ + 1) xs:=by
 have wσ:Go.IntKind.i64.wrap (σ + 1)=σ + 1:=wrapOK (by omega) (by omega)
 have ws:Go.IntKind.i64.wrap (s + m)=s + m:=wrapOK (by omega) (by omega)
 intro kk
 induction kk with
 | zero =>
  intro mm i hi hmm
  obtain ⟨mm,rfl,hmm⟩:=sucM hmm
  rw [bournelaw21_SpecSlides_v_l4_S]
  have hd:decide ((i:Int) < (xs.length:Int))=false:=by simp; omega
  have e1:i=xs.length:=by omega
  subst e1
  have hlf:=List.length_filter_le (inS σ s m) xs
  simp only [hd,cond_false,List.take_length]
  by_cases h0:(xs.filter (inS σ s m)).length=0
  ·have e2:slOne xs s m σ=[]:=by unfold slOne; rw [if_pos (by rw [many_inS]; exact h0)]
   have e3:((((xs.filter (inS σ s m)).length:Nat):Int) == 0)=true:=by rw [h0]; rfl
   rw [e3]
   simp only [cond_true,bournelaw21_SpecSlides_v_j6_S,wσ]
   rw [e2,List.length_nil,Nat.add_zero]
  ·have e2:slOne xs s m σ=[(0,σ,(s,s + m),(((xs.filter (inS σ s m)).length:Nat):Int),false,[])]:=by unfold slOne; rw [if_neg (by rw [many_inS]; exact h0)]; rfl
   have e3:((((xs.filter (inS σ s m)).length:Nat):Int) == 0)=false:=by rw [beq_eq_false_iff_ne]; omega
   rw [e2] at h9 ⊢
   have hl:(pre ++ [((0:Int),σ,(s,s + m),(((xs.filter (inS σ s m)).length:Nat):Int),false,([]:List Int))] ++ post).length=pre.length + 1 + post.length:=by simp; omega
   have hlt:pre.length < (pre ++ [((0:Int),σ,(s,s + m),(((xs.filter (inS σ s m)).length:Nat):Int),false,([]:List Int))] ++ post).length:=by omega
   have eg:(pre ++ [((0:Int),σ,(s,s + m),(((xs.filter (inS σ s m)).length:Nat):Int),false,([]:List Int))] ++ post).getD pre.length ((0:Int),(0:Int),((0:Int),(0:Int)),(0:Int),Bool.false,Go.Ev.nl Int)=((0:Int),σ,(s,s + m),(((xs.filter (inS σ s m)).length:Nat):Int),false,([]:List Int)):=by
    rw [List.getD_eq_getElem?_getD,List.append_assoc,List.getElem?_append_right (Nat.le_refl _),Nat.sub_self]; rfl
   have d1:decide ((pre.length:Int) ≥ ((pre ++ [((0:Int),σ,(s,s + m),(((xs.filter (inS σ s m)).length:Nat):Int),false,([]:List Int))] ++ post).length:Int))=false:=by rw [decide_eq_false_iff_not]; omega
   have c1:(0:Int) ≤ (pre.length:Int)∧(pre.length:Int) < ((pre ++ [((0:Int),σ,(s,s + m),(((xs.filter (inS σ s m)).length:Nat):Int),false,([]:List Int))] ++ post).length:Int):=by omega
   have so:bournelaw0_SameOut n ((((xs.filter (inS σ s m)).length:Nat):Int),false,([]:List Int)) ((((xs.filter (inS σ s m)).length:Nat):Int),false,Go.Ev.nl Int)=some true:=SameOut_refl n hn ((((xs.filter (inS σ s m)).length:Nat):Int),false,([]:List Int)) (by simp)
   rw [e3]
   simp only [cond_false,d1,if_pos c1,Int.toNat_natCast,eg,ws,beq_self_eq_true,Bool.and_self,Bool.not_true,bne_self_eq_false,so,Option.bind_some,bournelaw21_SpecSlides_v_j6_S,wσ]
   rw [wrapS (i:=pre.length) (by omega)]
   rfl
 | succ kk ih =>
  intro mm i hi hmm
  obtain ⟨mm,rfl,hmm⟩:=sucM hmm
  have hlt:i < xs.length:=by omega
  rw [bournelaw21_SpecSlides_v_l4_S]
  have hd:decide ((i:Int) < (xs.length:Int))=true:=by simp; omega
  have c1:(0:Int) ≤ (i:Int)∧(i:Int) < (xs.length:Int):=by omega
  have e4:xs.getD i ((0:Int),(0:Int),(0:Int),(0:Int))=xs[i]:=getLt hlt _
  have ih':=ih mm (i + 1) (by omega) (by omega)
  have f1:=filter_take_succ (inS σ s m) hlt
  have hlf:=List.length_filter_le (inS σ s m) (xs.take i)
  have hlt2:(xs.take i).length ≤ 20:=by rw [List.length_take]; omega
  simp only [hd,cond_true,if_pos c1,Int.toNat_natCast,e4,ws]
  have key:inS σ s m xs[i]=(xs[i].1 == σ && (decide (s ≤ xs[i].2.1) && decide (xs[i].2.1 < s + m))):=rfl
  rw [key] at f1
  cases h1:(xs[i].1 == σ) with
  | false =>
   rw [h1] at f1
   simp only [Bool.false_and,Bool.false_eq_true,if_false,Nat.add_zero] at f1
   rw [f1] at ih'
   simp only [cond_false,bournelaw21_SpecSlides_v_j5_S]
   rw [wrapS (i:=i) (by omega)]
   exact ih'
  | true =>
   rw [h1] at f1
   have g1:decide (xs[i].2.1 ≥ s)=decide (s ≤ xs[i].2.1):=rfl
   simp only [cond_true,g1]
   cases h2:decide (s ≤ xs[i].2.1) with
   | false =>
    rw [h2] at f1
    simp only [Bool.true_and,Bool.false_and,Bool.false_eq_true,if_false,Nat.add_zero] at f1
    rw [f1] at ih'
    simp only [cond_false,bournelaw21_SpecSlides_v_j5_S]
    rw [wrapS (i:=i) (by omega)]
    exact ih'
   | true =>
    rw [h2] at f1
    simp only [cond_true]
    cases h3:decide (xs[i].2.1 < s + m) with
    | false =>
     rw [h3] at f1
     simp only [Bool.true_and,Bool.false_eq_true,if_false,Nat.add_zero] at f1
     rw [f1] at ih'
     simp only [cond_false,bournelaw21_SpecSlides_v_j5_S]
     rw [wrapS (i:=i) (by omega)]
     exact ih'
    | true =>
     rw [h3] at f1
     simp only [Bool.true_and,if_true] at f1
     rw [f1] at ih'
     simp only [cond_true,bournelaw21_SpecSlides_v_j5_S]
     rw [wrapS (i:=i) (by omega),wrapS (i:=((xs.take i).filter (inS σ s m)).length) (by omega)]
     exact ih'
theorem slides_3 (n:Nat) (hn:1073741825 < n) (k m mark s:Int) (hm:1 ≤ m∧m ≤ 64) (hs:-1000 ≤ s∧s ≤ 1000) (xs:List IT) (hx:xs.length ≤ 20) (pre post:List RE) (h9:(pre ++ (slOne xs s m 0 ++ slOne xs s m 1) ++ post).length ≤ 4194304)
  (ih1:Int→Int→Int→List RE→Int→Int→List IT→Option Bool) :
  ∀ mm,2 < mm→bournelaw21_SpecSlides_v_l3 n c25.F c27v.F c28.F c14w.F c19.F c29.F c16w.F c12v.F ih1 mm k m mark (pre ++ (slOne xs s m 0 ++ slOne xs s m 1) ++ post) (pre.length:Int) s 0 xs=ih1 k m mark (pre ++ (slOne xs s m 0 ++ slOne xs s m 1) ++ post) ((pre.length + (slOne xs s m 0 ++ slOne xs s m 1).length:Nat):Int) (s + 1) xs:=by
 intro mm hmm
 obtain ⟨m0,rfl,hmm⟩:=sucM hmm
 obtain ⟨m1,rfl,hmm⟩:=sucM (show 1 < m0 by omega)
 obtain ⟨m2,rfl,hmm⟩:=sucM (show 0 < m1 by omega)
 have e0:pre ++ (slOne xs s m 0 ++ slOne xs s m 1) ++ post=pre ++ slOne xs s m 0 ++ (slOne xs s m 1 ++ post):=by simp
 have e1:pre ++ (slOne xs s m 0 ++ slOne xs s m 1) ++ post=(pre ++ slOne xs s m 0) ++ slOne xs s m 1 ++ post:=by simp
 have a0:=slides_4 n hn k m mark s 0 hm hs (by omega) xs hx pre (slOne xs s m 1 ++ post) (by rw [← e0]; exact h9) (bournelaw21_SpecSlides_v_l3 n c25.F c27v.F c28.F c14w.F c19.F c29.F c16w.F c12v.F ih1 (m2 + 1 + 1)) xs.length n 0 (by omega) (by omega)
 have a1:=slides_4 n hn k m mark s 1 hm hs (by omega) xs hx (pre ++ slOne xs s m 0) post (by rw [← e1]; exact h9) (bournelaw21_SpecSlides_v_l3 n c25.F c27v.F c28.F c14w.F c19.F c29.F c16w.F c12v.F ih1 (m2 + 1)) xs.length n 0 (by omega) (by omega)
 rw [← e0] at a0
 rw [← e1] at a1
 generalize pre ++ (slOne xs s m 0 ++ slOne xs s m 1) ++ post=rs at *
 have a0':bournelaw21_SpecSlides_v_l4 n c25.F c27v.F c28.F c14w.F c19.F c29.F c16w.F c12v.F k m mark rs (pre.length:Int) s 0 xs (bournelaw21_SpecSlides_v_l3 n c25.F c27v.F c28.F c14w.F c19.F c29.F c16w.F c12v.F ih1 (m2 + 1 + 1)) n 0 0=_:=a0
 have a1':bournelaw21_SpecSlides_v_l4 n c25.F c27v.F c28.F c14w.F c19.F c29.F c16w.F c12v.F k m mark rs (((pre ++ slOne xs s m 0).length:Nat):Int) s 1 xs (bournelaw21_SpecSlides_v_l3 n c25.F c27v.F c28.F c14w.F c19.F c29.F c16w.F c12v.F ih1 (m2 + 1)) n 0 0=_:=a1
 rw [bournelaw21_SpecSlides_v_l3_S]
 simp only [show decide ((0:Int) < 2)=true from rfl,cond_true]
 rw [a0',show (0:Int) + 1=1 from rfl,bournelaw21_SpecSlides_v_l3_S]
 simp only [show decide ((1:Int) < 2)=true from rfl,cond_true]
 rw [← List.length_append,a1',show (1:Int) + 1=2 from rfl,bournelaw21_SpecSlides_v_l3_S]
 simp only [show decide ((2:Int) < 2)=false from rfl,cond_false,bournelaw21_SpecSlides_v_j2_S]
 rw [wrapOK (x:=s + 1) (by omega) (by omega),List.length_append,List.length_append,Nat.add_assoc]
theorem slides_1 (n:Nat) (hn:1073741825 < n) (k m mark:Int) (hk:1 ≤ k∧k ≤ 64) (hm:1 ≤ m∧m ≤ 64) (xs:List IT) (hx:xs.length ≤ 20):∀ (cnt mm:Nat) (s:Int) (pre:List RE),-500 ≤ s→s + cnt=41→cnt < mm→(pre ++ slAll xs k m mark s cnt).length ≤ 4194304 →
  bournelaw21_SpecSlides_v_l1 n c25.F c27v.F c28.F c14w.F c19.F c29.F c16w.F c12v.F mm k m mark (pre ++ slAll xs k m mark s cnt) (pre.length:Int) s xs=some true:=by
 intro cnt
 induction cnt with
 | zero =>
  intro mm s pre h0 h1 h2 h9
  obtain ⟨mm,rfl,hmm⟩:=sucM h2
  rw [bournelaw21_SpecSlides_v_l1_S]
  have hd:decide (s ≤ 40)=false:=by rw [decide_eq_false_iff_not]; omega
  simp only [hd,cond_false,slAll,List.append_nil,beq_self_eq_true]
 | succ cnt ih =>
  intro mm s pre h0 h1 h2 h9
  obtain ⟨mm,rfl,hmm⟩:=sucM h2
  rw [bournelaw21_SpecSlides_v_l1_S]
  have hd:decide (s ≤ 40)=true:=by rw [decide_eq_true_eq]; omega
  have hk0:decide (k ≠ 0)=true:=by rw [decide_eq_true_eq]; omega
  have w1:Go.IntKind.i64.wrap (s + 1)=s + 1:=wrapOK (by omega) (by omega)
  have w2:Go.IntKind.i64.wrap (s + m)=s + m:=wrapOK (by omega) (by omega)
  simp only [hd,cond_true,hk0,w2]
  by_cases hp:s.tmod k=0
  ·have b1:(s.tmod k != 0)=false:=by rw [hp]; rfl
   simp only [b1,cond_false]
   by_cases hq:s + m ≤ mark
   ·have b2:decide (s + m > mark)=false:=by rw [decide_eq_false_iff_not]; omega
    have e0:slAll xs k m mark s (cnt + 1)=(slOne xs s m 0 ++ slOne xs s m 1) ++ slAll xs k m mark (s + 1) cnt:=by
     simp only [slAll,slAt,if_pos (And.intro hp hq)]
    simp only [b2,cond_false]
    rw [e0] at h9 ⊢
    rw [← List.append_assoc] at h9 ⊢
    have ih':=ih mm (s + 1) (pre ++ (slOne xs s m 0 ++ slOne xs s m 1)) (by omega) (by omega) (by omega) h9
    have a:=slides_3 n hn k m mark s hm (by omega) xs hx pre (slAll xs k m mark (s + 1) cnt) h9 (bournelaw21_SpecSlides_v_l1 n c25.F c27v.F c28.F c14w.F c19.F c29.F c16w.F c12v.F mm) n (by omega)
    rw [a,← List.length_append]
    exact ih'
   ·have b2:decide (s + m > mark)=true:=by rw [decide_eq_true_eq]; omega
    have e0:slAll xs k m mark s (cnt + 1)=slAll xs k m mark (s + 1) cnt:=by
     simp only [slAll,slAt]; rw [if_neg (fun h=>hq h.2),List.nil_append]
    simp only [b2,cond_true,bournelaw21_SpecSlides_v_j2_S,w1]
    rw [e0] at h9 ⊢
    exact ih mm (s + 1) pre (by omega) (by omega) (by omega) h9
  ·have b1:(s.tmod k != 0)=true:=by rw [bne_iff_ne]; exact hp
   have e0:slAll xs k m mark s (cnt + 1)=slAll xs k m mark (s + 1) cnt:=by
    simp only [slAll,slAt]; rw [if_neg (fun h=>hp h.1),List.nil_append]
   simp only [b1,cond_true,bournelaw21_SpecSlides_v_j2_S,w1]
   rw [e0] at h9 ⊢
   exact ih mm (s + 1) pre (by omega) (by omega) (by omega) h9
theorem slides_10 (n:Nat) (hn:1073741825 < n) (k m mark s σ:Int) (hm:1 ≤ m∧m ≤ 64) (hs:-1000 ≤ s∧s ≤ 1000) (hσ:0 ≤ σ∧σ ≤ 1) (xs:List IT) (hx:xs.length ≤ 20) (pre post:List RE) (h9:(pre ++ slOne xs s m σ ++ post).length ≤ 4194304)
  (ih3:Int→Int→Int→List RE→Int→Int→Int→List IT→Option Bool) :
  ∀ (kk mm i:Nat),i + kk=xs.length→kk < mm→bournelaw21_SpecSlides_v_l10 n c25.F c27v.F c28.F c14w.F c19.F c29.F c16w.F c12v.F k m mark (pre ++ slOne xs s m σ ++ post) (pre.length:Int) s σ xs ih3 mm ((((xs.take i).filter (inS σ s m)).length:Nat):Int) (i:Int)
   = ih3 k m mark (pre ++ slOne xs s m σ ++ post) ((pre.length + (slOne xs s m σ).length:Nat):Int) s (σ + 1) xs:=by
 have wσ:Go.IntKind.i64.wrap (σ + 1)=σ + 1:=wrapOK (by omega) (by omega)
 have ws:Go.IntKind.i64.wrap (s + m)=s + m:=wrapOK (by omega) (by omega)
 intro kk
 induction kk with
 | zero =>
  intro mm i hi hmm
  obtain ⟨mm,rfl,hmm⟩:=sucM hmm
  rw [bournelaw21_SpecSlides_v_l10_S]
  have hd:decide ((i:Int) < (xs.length:Int))=false:=by simp; omega
  have e1:i=xs.length:=by omega
  subst e1
  have hlf:=List.length_filter_le (inS σ s m) xs
  simp only [hd,cond_false,List.take_length]
  by_cases h0:(xs.filter (inS σ s m)).length=0
  ·have e2:slOne xs s m σ=[]:=by unfold slOne; rw [if_pos (by rw [many_inS]; exact h0)]
   have e3:((((xs.filter (inS σ s m)).length:Nat):Int) == 0)=true:=by rw [h0]; rfl
   rw [e3]
   simp only [cond_true,bournelaw21_SpecSlides_v_j12_S,wσ]
   rw [e2,List.length_nil,Nat.add_zero]
  ·have e2:slOne xs s m σ=[(0,σ,(s,s + m),(((xs.filter (inS σ s m)).length:Nat):Int),false,[])]:=by unfold slOne; rw [if_neg (by rw [many_inS]; exact h0)]; rfl
   have e3:((((xs.filter (inS σ s m)).length:Nat):Int) == 0)=false:=by rw [beq_eq_false_iff_ne]; omega
   rw [e2] at h9 ⊢
   have hl:(pre ++ [((0:Int),σ,(s,s + m),(((xs.filter (inS σ s m)).length:Nat):Int),false,([]:List Int))] ++ post).length=pre.length + 1 + post.length:=by simp; omega
   have hlt:pre.length < (pre ++ [((0:Int),σ,(s,s + m),(((xs.filter (inS σ s m)).length:Nat):Int),false,([]:List Int))] ++ post).length:=by omega
   have eg:(pre ++ [((0:Int),σ,(s,s + m),(((xs.filter (inS σ s m)).length:Nat):Int),false,([]:List Int))] ++ post).getD pre.length ((0:Int),(0:Int),((0:Int),(0:Int)),(0:Int),Bool.false,Go.Ev.nl Int)=((0:Int),σ,(s,s + m),(((xs.filter (inS σ s m)).length:Nat):Int),false,([]:List Int)):=by
    rw [List.getD_eq_getElem?_getD,List.append_assoc,List.getElem?_append_right (Nat.le_refl _),Nat.sub_self]; rfl
   have d1:decide ((pre.length:Int) ≥ ((pre ++ [((0:Int),σ,(s,s + m),(((xs.filter (inS σ s m)).length:Nat):Int),false,([]:List Int))] ++ post).length:Int))=false:=by rw [decide_eq_false_iff_not]; omega
   have c1:(0:Int) ≤ (pre.length:Int)∧(pre.length:Int) < ((pre ++ [((0:Int),σ,(s,s + m),(((xs.filter (inS σ s m)).length:Nat):Int),false,([]:List Int))] ++ post).length:Int):=by omega
   have so:bournelaw0_SameOut n ((((xs.filter (inS σ s m)).length:Nat):Int),false,([]:List Int)) ((((xs.filter (inS σ s m)).length:Nat):Int),false,Go.Ev.nl Int)=some true:=SameOut_refl n hn ((((xs.filter (inS σ s m)).length:Nat):Int),false,([]:List Int)) (by simp)
   rw [e3]
   simp only [cond_false,d1,if_pos c1,Int.toNat_natCast,eg,ws,beq_self_eq_true,Bool.and_self,Bool.not_true,bne_self_eq_false,so,Option.bind_some,bournelaw21_SpecSlides_v_j12_S,wσ]
   rw [wrapS (i:=pre.length) (by omega)]
   rfl
 | succ kk ih =>
  intro mm i hi hmm
  obtain ⟨mm,rfl,hmm⟩:=sucM hmm
  have hlt:i < xs.length:=by omega
  rw [bournelaw21_SpecSlides_v_l10_S]
  have hd:decide ((i:Int) < (xs.length:Int))=true:=by simp; omega
  have c1:(0:Int) ≤ (i:Int)∧(i:Int) < (xs.length:Int):=by omega
  have e4:xs.getD i ((0:Int),(0:Int),(0:Int),(0:Int))=xs[i]:=getLt hlt _
  have ih':=ih mm (i + 1) (by omega) (by omega)
  have f1:=filter_take_succ (inS σ s m) hlt
  have hlf:=List.length_filter_le (inS σ s m) (xs.take i)
  have hlt2:(xs.take i).length ≤ 20:=by rw [List.length_take]; omega
  simp only [hd,cond_true,if_pos c1,Int.toNat_natCast,e4,ws]
  have key:inS σ s m xs[i]=(xs[i].1 == σ && (decide (s ≤ xs[i].2.1) && decide (xs[i].2.1 < s + m))):=rfl
  rw [key] at f1
  cases h1:(xs[i].1 == σ) with
  | false =>
   rw [h1] at f1
   simp only [Bool.false_and,Bool.false_eq_true,if_false,Nat.add_zero] at f1
   rw [f1] at ih'
   simp only [cond_false,bournelaw21_SpecSlides_v_j11_S]
   rw [wrapS (i:=i) (by omega)]
   exact ih'
  | true =>
   rw [h1] at f1
   have g1:decide (xs[i].2.1 ≥ s)=decide (s ≤ xs[i].2.1):=rfl
   simp only [cond_true,g1]
   cases h2:decide (s ≤ xs[i].2.1) with
   | false =>
    rw [h2] at f1
    simp only [Bool.true_and,Bool.false_and,Bool.false_eq_true,if_false,Nat.add_zero] at f1
    rw [f1] at ih'
    simp only [cond_false,bournelaw21_SpecSlides_v_j11_S]
    rw [wrapS (i:=i) (by omega)]
    exact ih'
   | true =>
    rw [h2] at f1
    simp only [cond_true]
    cases h3:decide (xs[i].2.1 < s + m) with
    | false =>
     rw [h3] at f1
     simp only [Bool.true_and,Bool.false_eq_true,if_false,Nat.add_zero] at f1
     rw [f1] at ih'
     simp only [cond_false,bournelaw21_SpecSlides_v_j11_S]
     rw [wrapS (i:=i) (by omega)]
     exact ih'
    | true =>
     rw [h3] at f1
     simp only [Bool.true_and,if_true] at f1
     rw [f1] at ih'
     simp only [cond_true,bournelaw21_SpecSlides_v_j11_S]
     rw [wrapS (i:=i) (by omega),wrapS (i:=((xs.take i).filter (inS σ s m)).length) (by omega)]
     exact ih'
theorem slides_9 (n:Nat) (hn:1073741825 < n) (k m mark s:Int) (hm:1 ≤ m∧m ≤ 64) (hs:-1000 ≤ s∧s ≤ 1000) (xs:List IT) (hx:xs.length ≤ 20) (pre post:List RE) (h9:(pre ++ (slOne xs s m 0 ++ slOne xs s m 1) ++ post).length ≤ 4194304)
  (ih1:Int→Int→Int→List RE→Int→Int→List IT→Option Bool) :
  ∀ mm,2 < mm→bournelaw21_SpecSlides_v_l9 n c25.F c27v.F c28.F c14w.F c19.F c29.F c16w.F c12v.F ih1 mm k m mark (pre ++ (slOne xs s m 0 ++ slOne xs s m 1) ++ post) (pre.length:Int) s 0 xs=ih1 k m mark (pre ++ (slOne xs s m 0 ++ slOne xs s m 1) ++ post) ((pre.length + (slOne xs s m 0 ++ slOne xs s m 1).length:Nat):Int) (s + 1) xs:=by
 intro mm hmm
 obtain ⟨m0,rfl,hmm⟩:=sucM hmm
 obtain ⟨m1,rfl,hmm⟩:=sucM (show 1 < m0 by omega)
 obtain ⟨m2,rfl,hmm⟩:=sucM (show 0 < m1 by omega)
 have e0:pre ++ (slOne xs s m 0 ++ slOne xs s m 1) ++ post=pre ++ slOne xs s m 0 ++ (slOne xs s m 1 ++ post):=by simp
 have e1:pre ++ (slOne xs s m 0 ++ slOne xs s m 1) ++ post=(pre ++ slOne xs s m 0) ++ slOne xs s m 1 ++ post:=by simp
 have a0:=slides_10 n hn k m mark s 0 hm hs (by omega) xs hx pre (slOne xs s m 1 ++ post) (by rw [← e0]; exact h9) (bournelaw21_SpecSlides_v_l9 n c25.F c27v.F c28.F c14w.F c19.F c29.F c16w.F c12v.F ih1 (m2 + 1 + 1)) xs.length n 0 (by omega) (by omega)
 have a1:=slides_10 n hn k m mark s 1 hm hs (by omega) xs hx (pre ++ slOne xs s m 0) post (by rw [← e1]; exact h9) (bournelaw21_SpecSlides_v_l9 n c25.F c27v.F c28.F c14w.F c19.F c29.F c16w.F c12v.F ih1 (m2 + 1)) xs.length n 0 (by omega) (by omega)
 rw [← e0] at a0
 rw [← e1] at a1
 generalize pre ++ (slOne xs s m 0 ++ slOne xs s m 1) ++ post=rs at *
 have a0':bournelaw21_SpecSlides_v_l10 n c25.F c27v.F c28.F c14w.F c19.F c29.F c16w.F c12v.F k m mark rs (pre.length:Int) s 0 xs (bournelaw21_SpecSlides_v_l9 n c25.F c27v.F c28.F c14w.F c19.F c29.F c16w.F c12v.F ih1 (m2 + 1 + 1)) n 0 0=_:=a0
 have a1':bournelaw21_SpecSlides_v_l10 n c25.F c27v.F c28.F c14w.F c19.F c29.F c16w.F c12v.F k m mark rs (((pre ++ slOne xs s m 0).length:Nat):Int) s 1 xs (bournelaw21_SpecSlides_v_l9 n c25.F c27v.F c28.F c14w.F c19.F c29.F c16w.F c12v.F ih1 (m2 + 1)) n 0 0=_:=a1
 rw [bournelaw21_SpecSlides_v_l9_S]
 simp only [show decide ((0:Int) < 2)=true from rfl,cond_true]
 rw [a0',show (0:Int) + 1=1 from rfl,bournelaw21_SpecSlides_v_l9_S]
 simp only [show decide ((1:Int) < 2)=true from rfl,cond_true]
 rw [← List.length_append,a1',show (1:Int) + 1=2 from rfl,bournelaw21_SpecSlides_v_l9_S]
 simp only [show decide ((2:Int) < 2)=false from rfl,cond_false,bournelaw21_SpecSlides_v_j8_S]
 rw [wrapOK (x:=s + 1) (by omega) (by omega),List.length_append,List.length_append,Nat.add_assoc]
theorem slides_7 (n:Nat) (hn:1073741825 < n) (k m mark:Int) (hk:1 ≤ k∧k ≤ 64) (hm:1 ≤ m∧m ≤ 64) (xs:List IT) (hx:xs.length ≤ 20):∀ (cnt mm:Nat) (s:Int) (pre:List RE),-500 ≤ s→s + cnt=41→cnt < mm→(pre ++ slAll xs k m mark s cnt).length ≤ 4194304 →
  bournelaw21_SpecSlides_v_l7 n c25.F c27v.F c28.F c14w.F c19.F c29.F c16w.F c12v.F mm k m mark (pre ++ slAll xs k m mark s cnt) (pre.length:Int) s xs=some true:=by
 intro cnt
 induction cnt with
 | zero =>
  intro mm s pre h0 h1 h2 h9
  obtain ⟨mm,rfl,hmm⟩:=sucM h2
  rw [bournelaw21_SpecSlides_v_l7_S]
  have hd:decide (s ≤ 40)=false:=by rw [decide_eq_false_iff_not]; omega
  simp only [hd,cond_false,slAll,List.append_nil,beq_self_eq_true]
 | succ cnt ih =>
  intro mm s pre h0 h1 h2 h9
  obtain ⟨mm,rfl,hmm⟩:=sucM h2
  rw [bournelaw21_SpecSlides_v_l7_S]
  have hd:decide (s ≤ 40)=true:=by rw [decide_eq_true_eq]; omega
  have hk0:decide (k ≠ 0)=true:=by rw [decide_eq_true_eq]; omega
  have w1:Go.IntKind.i64.wrap (s + 1)=s + 1:=wrapOK (by omega) (by omega)
  have w2:Go.IntKind.i64.wrap (s + m)=s + m:=wrapOK (by omega) (by omega)
  simp only [hd,cond_true,hk0,w2]
  by_cases hp:s.tmod k=0
  ·have b1:(s.tmod k != 0)=false:=by rw [hp]; rfl
   simp only [b1,cond_false]
   by_cases hq:s + m ≤ mark
   ·have b2:decide (s + m > mark)=false:=by rw [decide_eq_false_iff_not]; omega
    have e0:slAll xs k m mark s (cnt + 1)=(slOne xs s m 0 ++ slOne xs s m 1) ++ slAll xs k m mark (s + 1) cnt:=by
     simp only [slAll,slAt,if_pos (And.intro hp hq)]
    simp only [b2,cond_false]
    rw [e0] at h9 ⊢
    rw [← List.append_assoc] at h9 ⊢
    have ih':=ih mm (s + 1) (pre ++ (slOne xs s m 0 ++ slOne xs s m 1)) (by omega) (by omega) (by omega) h9
    have a:=slides_9 n hn k m mark s hm (by omega) xs hx pre (slAll xs k m mark (s + 1) cnt) h9 (bournelaw21_SpecSlides_v_l7 n c25.F c27v.F c28.F c14w.F c19.F c29.F c16w.F c12v.F mm) n (by omega)
    rw [a,← List.length_append]
    exact ih'
   ·have b2:decide (s + m > mark)=true:=by rw [decide_eq_true_eq]; omega
    have e0:slAll xs k m mark s (cnt + 1)=slAll xs k m mark (s + 1) cnt:=by
     simp only [slAll,slAt]; rw [if_neg (fun h=>hq h.2),List.nil_append]
    simp only [b2,cond_true,bournelaw21_SpecSlides_v_j8_S,w1]
    rw [e0] at h9 ⊢
    exact ih mm (s + 1) pre (by omega) (by omega) (by omega) h9
  ·have b1:(s.tmod k != 0)=true:=by rw [bne_iff_ne]; exact hp
   have e0:slAll xs k m mark s (cnt + 1)=slAll xs k m mark (s + 1) cnt:=by
    simp only [slAll,slAt]; rw [if_neg (fun h=>hp h.1),List.nil_append]
   simp only [b1,cond_true,bournelaw21_SpecSlides_v_j8_S,w1]
   rw [e0] at h9 ⊢
   exact ih mm (s + 1) pre (by omega) (by omega) (by omega) h9
def itI (i:Nat) (t:Int):IT:=((t.fdiv 64) % 2,t % 64 - 30,((i + 1:Nat):Int),1)
def itL (ts:List Int):Nat→List IT
 | 0=>[]
 | i + 1=>itL ts i ++ [itI i (ts.getD i 0)]
theorem itL_len (ts:List Int):∀ i,(itL ts i).length=i
 | 0=>rfl
 | i + 1=>by simp [itL,itL_len ts i]
theorem itL_mem (ts:List Int) {x:IT}:∀ {i:Nat},x ∈ itL ts i→∃ j,j < i∧x=itI j (ts.getD j 0)
 | 0,h=>by simp [itL] at h
 | i + 1,h=>by
  simp only [itL,List.mem_append,List.mem_singleton] at h
  rcases h with h | h
  ·obtain ⟨j,h1,h2⟩:=itL_mem ts h
   exact ⟨j,by omega,h2⟩
  ·exact ⟨i,by omega,h⟩
theorem itL_dif (ts:List Int):∀ i,(itL ts i).Pairwise fun x y=>x.2.2.1 ≠ y.2.2.1
 | 0=>List.Pairwise.nil
 | i + 1=>by
  simp only [itL]
  rw [List.pairwise_append]
  refine ⟨itL_dif ts i,List.pairwise_singleton _ _,fun x hx y hy=>?_⟩
  obtain ⟨j,h1,rfl⟩:=itL_mem ts hx
  rw [List.mem_singleton.1 hy]
  show ((j + 1:Nat):Int) ≠ ((i + 1:Nat):Int)
  omega
theorem itL_in (ts:List Int) (i:Nat):SlIn (itL ts i) where
 ser:=fun x hx=>by
  obtain ⟨j,h1,rfl⟩:=itL_mem ts hx
  show (ts.getD j 0).fdiv 64 % 2=0 ∨ (ts.getD j 0).fdiv 64 % 2=1
  omega
 time:=fun x hx=>by
  obtain ⟨j,h1,rfl⟩:=itL_mem ts hx
  show -30 ≤ ts.getD j 0 % 64 - 30∧ts.getD j 0 % 64 - 30 ≤ 33
  omega
theorem sq_may (a d:Int) (ha:0 ≤ a∧a < 8) (hd:0 ≤ d∧d < 16):qMay (sq (1 + a) (1 + a + d))=true:=by
 have:∀ a:Fin 8,∀ d:Fin 16,qMay (sq (1 + ((a:Nat):Int)) (1 + ((a:Nat):Int) + ((d:Nat):Int)))=true:=by decide +kernel
 have h:=this ⟨a.toNat,by omega⟩ ⟨d.toNat,by omega⟩
 have e1:((a.toNat:Nat):Int)=a:=by omega
 have e2:((d.toNat:Nat):Int)=d:=by omega
 simp only [e1,e2] at h
 exact h
theorem sl_may (ts:List Int) (i:Nat) (hi:i ≤ 20) (a d mark:Int) (ha:0 ≤ a∧a < 8) (hd:0 ≤ d∧d < 16) (hm:-4398046511104 ≤ mark∧mark ≤ 4398046511104):mayS (cS (1 + a) (1 + a + d)) (itL ts i) [-4398046511104,mark]=true:=by
 have hl:=itL_len ts i
 have h1:itemsGo [] (itL ts i)=true:=by
  refine itemsGo_of (fun x hx=>?_) (itL_dif ts i) (fun x hx=>by simp)
  obtain ⟨j,h1,rfl⟩:=itL_mem ts hx
  have e1:0 ≤ (ts.getD j 0).fdiv 64 % 2∧(ts.getD j 0).fdiv 64 % 2 < 2:=by omega
  have e2:0 ≤ ts.getD j 0 % 64∧ts.getD j 0 % 64 < 64:=by omega
  simp only [itemMay,itI,inV,Bool.and_eq_true,decide_eq_true_eq]
  exact ⟨decide_eq_true e1.1,decide_eq_true (by omega),decide_eq_true (by omega),decide_eq_true (by omega),decide_eq_true (by omega),decide_eq_true (by omega)⟩
 have h2:cfgMay (cS (1 + a) (1 + a + d))=true:=by
  have:=sq_may a d ha hd
  simp only [cfgMay,cS,List.all_cons,List.all_nil,this,Bool.and_true]
  rfl
 unfold mayS
 rw [h1,h2,marks_mk (by omega) hm (by omega),show decide ((itL ts i).length ≤ 8192)=true by rw [decide_eq_true_eq]; omega]
 rfl
theorem mask1 (a:Int):Go.IntKind.i64.wrap (((BitVec.ofInt Go.IntKind.i64.bits a &&& BitVec.ofInt Go.IntKind.i64.bits 1).toNat:Nat):Int)=a % 2:=by
 rw [maskP a 1 (by decide) 1 rfl]; omega
theorem mask7 (a:Int):Go.IntKind.i64.wrap (((BitVec.ofInt Go.IntKind.i64.bits a &&& BitVec.ofInt Go.IntKind.i64.bits 7).toNat:Nat):Int)=a % 8:=by
 rw [maskP a 3 (by decide) 7 rfl]; omega
theorem pow64:(2:Int) ^ min (Int.toNat (6:Int)) Go.IntKind.i64.bits=64:=by decide
theorem slides_l0 (n:Nat) (hn:9007199254741092 < n) (ts:List Int) (a1 a2 a3:Int) (hts:ts.length < 4611686018427387904):∀ (kk mm i:Nat),i + kk=min ts.length 20→kk < mm →
  bournelaw21_SpecSlides_v_l0 n c25.F c27v.F c28.F c14w.F c19.F c29.F c16w.F c12v.F ts a1 a2 a3 ([(0,0,10,0,[],0)],0,100,2,1) mm (i:Int) (itL ts i)=some true:=by
 have hk:Go.IntKind.i64.wrap ((1:Int) + a2 % 8)=1 + a2 % 8:=wrapOK (by omega) (by omega)
 have hm:Go.IntKind.i64.wrap (1 + a2 % 8 + a1 % 16)=1 + a2 % 8 + a1 % 16:=wrapOK (by omega) (by omega)
 have hmk:Go.IntKind.i64.wrap (a3 % 128 - 50)=a3 % 128 - 50:=wrapOK (by omega) (by omega)
 have h2m:Go.IntKind.i64.wrap (2 * (1 + a2 % 8 + a1 % 16))=2 * (1 + a2 % 8 + a1 % 16):=wrapOK (by omega) (by omega)
 have h3m:Go.IntKind.i64.wrap (-30 - 2 * (1 + a2 % 8 + a1 % 16))=-30 - 2 * (1 + a2 % 8 + a1 % 16):=wrapOK (by omega) (by omega)
 have h4m:Go.IntKind.i64.wrap (-30 - 2 * (1 + a2 % 8 + a1 % 16) - (1 + a2 % 8))=-30 - 2 * (1 + a2 % 8 + a1 % 16) - (1 + a2 % 8):=wrapOK (by omega) (by omega)
 have hset:([((0:Int),(0:Int),(10:Int),(0:Int),([]:List Int),(0:Int))].set (Int.toNat (0:Int)) ((1:Int),(0:Int),1 + a2 % 8 + a1 % 16,1 + a2 % 8,Go.Ev.nl Int,(0:Int)),(0:Int),(100:Int),(2:Int),(1:Int))=cS (1 + a2 % 8) (1 + a2 % 8 + a1 % 16):=rfl
 intro kk
 induction kk with
 | zero =>
  intro mm i hi hmm
  obtain ⟨mm,rfl,hmm⟩:=sucM hmm
  have hi20:i ≤ 20:=by omega
  have hmay:=sl_may ts i hi20 (a2 % 8) (a1 % 16) (a3 % 128 - 50) (by omega) (by omega) (by omega)
  have hM:=mayS_ok hmay
  have hr:=Results_eq n (by omega) _ (itL ts i) _ _ hmay
  have hl:=resS_len hM (-4398046511104) (a3 % 128 - 50)
  have hq:=sq_may (a2 % 8) (a1 % 16) (by omega) (by omega)
  have hS:=resS_slides (k:=1 + a2 % 8) (m:=1 + a2 % 8 + a1 % 16) (mark:=a3 % 128 - 50) (by omega) (by omega) hq hM (itL_in ts i)
  rw [hS] at hr hl
  have hlen:=itL_len ts i
  have hcnt:(-30 - 2 * (1 + a2 % 8 + a1 % 16) - (1 + a2 % 8)) + (((71 + 2 * (1 + a2 % 8 + a1 % 16) + (1 + a2 % 8)).toNat:Nat):Int)=41:=by omega
  have t1:=slides_1 n (by omega) (1 + a2 % 8) (1 + a2 % 8 + a1 % 16) (a3 % 128 - 50) (by omega) (by omega) (itL ts i) (by omega) (71 + 2 * (1 + a2 % 8 + a1 % 16) + (1 + a2 % 8)).toNat n (-30 - 2 * (1 + a2 % 8 + a1 % 16) - (1 + a2 % 8)) [] (by omega) hcnt (by omega) hl
  have t7:=slides_7 n (by omega) (1 + a2 % 8) (1 + a2 % 8 + a1 % 16) (a3 % 128 - 50) (by omega) (by omega) (itL ts i) (by omega) (71 + 2 * (1 + a2 % 8 + a1 % 16) + (1 + a2 % 8)).toNat n (-30 - 2 * (1 + a2 % 8 + a1 % 16) - (1 + a2 % 8)) [] (by omega) hcnt (by omega) hl
  rw [bournelaw21_SpecSlides_v_l0_S]
  simp only [mask7,mask15,mask127,hk,hm,hmk,h2m,h3m,h4m,hset,hr,Option.bind_some,Num_eq,show ((0:Int) != 0)=false from rfl,cond_false]
  by_cases h1:i < ts.length
  ·have hd:decide ((i:Int) < (ts.length:Int))=true:=by rw [decide_eq_true_eq]; omega
   have hd2:decide ((i:Int) < 20)=false:=by rw [decide_eq_false_iff_not]; omega
   simp only [hd,hd2,cond_true,cond_false]
   exact t1
  ·have hd:decide ((i:Int) < (ts.length:Int))=false:=by rw [decide_eq_false_iff_not]; omega
   simp only [hd,cond_false]
   exact t7
 | succ kk ih =>
  intro mm i hi hmm
  obtain ⟨mm,rfl,hmm⟩:=sucM hmm
  have hlt:i < ts.length:=by omega
  have ih':=ih mm (i + 1) (by omega) (by omega)
  rw [bournelaw21_SpecSlides_v_l0_S]
  have hd:decide ((i:Int) < (ts.length:Int))=true:=by rw [decide_eq_true_eq]; omega
  have hd2:decide ((i:Int) < 20)=true:=by rw [decide_eq_true_eq]; omega
  have c1:(0:Int) ≤ (i:Int)∧(i:Int) < (ts.length:Int):=by omega
  have w30:Go.IntKind.i64.wrap (ts.getD i 0 % 64 - 30)=ts.getD i 0 % 64 - 30:=wrapOK (by omega) (by omega)
  have e3:∀ v:IT,((List.replicate (1:Nat) ((0:Int),(0:Int),(0:Int),(0:Int))).set (0:Nat) v)=[v]:=fun v=>rfl
  have hlen:=itL_len ts i
  have c2:∀ v:IT,((itL ts i).length + [v].length) * 32 ≤ 140737488355328∧0 < 32:=fun v=>by simp only [List.length_cons,List.length_nil]; omega
  have hit:∀ a b c d:Int,bournelaw21_item n a b c d=some (a,b,c,d):=fun a b c d=>rfl
  simp only [hd,hd2,cond_true,if_pos c1,Int.toNat_natCast,pow64,mask1,mask63,w30,hit,Option.bind_some,e3,if_pos (c2 _)]
  rw [wrapS (i:=i) (by omega)]
  exact ih'
theorem Slides_true (n:Nat) (hn:9007199254741092 < n) (ts:List Int) (hts:ts.length < 4611686018427387904) (a1 a2 a3:Int):bournelaw21_SpecSlides_v n ts a1 a2 a3=some true:=by
 rw [bournelaw21_SpecSlides_v_S,awake_eq]
 have hc:bournelaw21_count_v n 0 100=some ([(0,0,10,0,[],0)],0,100,2,1):=rfl
 have c1:(0:Int) ≤ (0:Int)∧(0:Int) < (([((0:Int),(0:Int),(10:Int),(0:Int),([]:List Int),(0:Int))].length:Nat):Int):=by decide
 simp only [Option.bind_some,Bool.not_true,cond_false,hc,if_pos c1]
 exact slides_l0 n hn ts a1 a2 a3 hts (min ts.length 20) n 0 (by omega) (by omega)
end Go.Proofs.YtohnakoineakdaaGreat
