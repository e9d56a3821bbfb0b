/- What the functions come to, in plain Lean, and what holds of it. -/
import Derived.Test.YtjdlancjbdmkhaaQChkAp
import Derived.Test.YtjdlancjbdmkhaaQChkBp
import Derived.Test.YtjdlancjbdmkhaaQChkMp
import Derived.Test.YtjdlancjbdmkhaaQChkDp
import Derived.Test.YtjdlancjbdmkhaaQChkFp
import Derived.Test.YtjdlancjbdmkhaaQChkEp
import Derived.Test.YtjdlancjbdmkhaaQChkLp
import Derived.Test.YtjdlancjbdmkhaaQEvRd
namespace Go.Proofs.Ytjdlancjbdmkhaa
open Go.IntKind (i64 u64 u8)
open Go Go.Ev
set_option linter.unusedVariables false
set_option linter.unusedSimpArgs false
def bs (s:ByteArray):List Nat:=s.data.toList.map UInt8.toNat
theorem bs_len (s:ByteArray):(bs s).length=s.size:=by
 unfold bs; rw [List.length_map,Array.length_toList]; rfl
theorem bs_lt (s:ByteArray):∀ x ∈ bs s,x < 256:=by
 intro x hx
 obtain ⟨b,_,rfl⟩:=List.mem_map.1 hx
 exact b.toNat_lt
theorem bs_cat (a b:ByteArray):bs (catS a b)=bs a ++ bs b:=by
 simp [bs,catS]
theorem bs_sub (s:ByteArray) (l h:Nat):bs (subS s l h)=((bs s).take h).drop l:=by
 simp [bs,subS,List.map_take,List.map_drop]
theorem bs_ofB (l:List Int):bs (ofB l)=l.map fun n=>n.toNat % 256:=by
 unfold bs ofB
 rw [List.map_map]
 rfl
theorem bs_nil:bs (ByteArray.mk #[])=[]:=rfl
theorem bs_inj {a b:ByteArray} (h:bs a=bs b):a=b:=by
 apply Go.WideShapes.bytes_inj
 unfold bs at h
 exact (List.map_inj_right (fun x y h=>UInt8.toNat_inj.1 h)).1 h
theorem eqS_bs (a b:ByteArray):eqS a b=decide (bs a=bs b):=by
 unfold eqS
 by_cases h:bs a=bs b
 ·rw [bs_inj h,decide_eq_true rfl,beq_self_eq_true]
 ·have:¬ a.data.toList=b.data.toList:=fun e=>h (by unfold bs; rw [e])
  rw [decide_eq_false h,beq_eq_false_iff_ne]; exact this
theorem bs_getD (s:ByteArray) (i:Nat):(s.data.getD i (0:UInt8)).toNat=(bs s).getD i 0:=by
 unfold bs
 rw [List.getD_eq_getElem?_getD,List.getElem?_map]
 simp only [Array.getD_eq_getD_getElem?,Array.getElem?_toList]
 cases s.data[i]? <;> rfl
def zz (x:Int):Nat:=if 0 ≤ x then (2 * x).toNat else (-2 * x - 1).toNat
def uz (u:Nat):Int:=if u % 2=0 then ((u / 2:Nat):Int) else -((u / 2:Nat):Int) - 1
theorem uz_zz (x:Int):uz (zz x)=x:=by
 unfold uz zz
 split <;> split <;> omega
theorem zz_uz (u:Nat):zz (uz u)=u:=by
 unfold uz zz
 split <;> split <;> omega
def wf64 (x:Int):Prop:=-9223372036854775808 ≤ x∧x ≤ 9223372036854775807
theorem zz_lt {x:Int} (h:wf64 x):zz x < 18446744073709551616:=by
 unfold zz; obtain ⟨a,b⟩:=h
 split <;> omega
theorem uz_wf {u:Nat} (h:u < 18446744073709551616):wf64 (uz u):=by
 unfold uz wf64
 split <;> omega
def enc:Nat→Nat→List Nat
 | 0,_=>[]
 | k + 1,u=>if u < 128 then [u] else (u % 128 + 128) :: enc k (u / 128)
def dec:List Nat→Nat
 | []=>0
 | b :: l=>b % 128 + 128 * dec l
def endL:Nat→List Nat→Nat
 | 0,_=>0
 | _,[]=>0
 | k + 1,b :: l=>if b < 128 then 1 else (match endL k l with
  | 0=>0
  | n + 1=>n + 2)
theorem enc_len (k u:Nat) (h:u < 128 ^ k):(enc k u).length ≤ k∧0 < (enc k u).length ∨ k=0:=by
 induction k generalizing u with
 | zero=>exact .inr rfl
 | succ k ih =>
  left
  simp only [enc]
  split
  ·simp
  ·rename_i h1
   have hu:u / 128 < 128 ^ k:=by
    rw [Nat.pow_succ] at h
    exact Nat.div_lt_of_lt_mul (by omega)
   rcases ih (u / 128) hu with h2 | h2
   ·simp only [List.length_cons]; omega
   ·subst h2; simp at hu; omega
theorem dec_enc (k u:Nat) (h:u < 128 ^ k):dec (enc k u)=u:=by
 induction k generalizing u with
 | zero=>simp at h; subst h; rfl
 | succ k ih =>
  simp only [enc]
  split
  ·rename_i h1; simp only [dec]; omega
  ·rename_i h1
   have hu:u / 128 < 128 ^ k:=by
    rw [Nat.pow_succ] at h
    exact Nat.div_lt_of_lt_mul (by omega)
   simp only [dec,ih _ hu]
   omega
theorem endL_enc (k u:Nat) (h:u < 128 ^ k) (hk:0 < k) (C:List Nat):endL k (enc k u ++ C)=(enc k u).length:=by
 induction k generalizing u with
 | zero=>omega
 | succ k ih =>
  simp only [enc]
  split
  ·rename_i h1; simp only [List.cons_append,endL,if_pos h1,List.length_cons,List.length_nil]
  ·rename_i h1
   have hu:u / 128 < 128 ^ k:=by
    rw [Nat.pow_succ] at h
    exact Nat.div_lt_of_lt_mul (by omega)
   have hk:0 < k:=by
    rcases Nat.eq_zero_or_pos k with e | e
    ·subst e; simp at hu; omega
    ·exact e
   have h2:=ih _ hu hk
   have h3:=enc_len k (u / 128) hu
   have h4:¬ u % 128 + 128 < 128:=by omega
   simp only [List.cons_append,endL,if_neg h4,List.length_cons,h2]
   split
   ·rename_i e; rcases h3 with h3 | h3 <;> omega
   ·rename_i n e; omega
theorem endL_le (k:Nat):∀ l:List Nat,endL k l ≤ k∧endL k l ≤ l.length:=by
 induction k with
 | zero=>intro l; simp [endL]
 | succ k ih =>
  intro l
  cases l with
  | nil=>simp [endL]
  | cons b l =>
   simp only [endL]
   have:=ih l
   split
   ·simp
   ·split
    ·simp
    ·rename_i n e; simp only [List.length_cons]; omega
def lastB (l:List Nat):Nat:=l.getD (l.length - 1) 0
theorem lastB_cons (b c:Nat) (l:List Nat):lastB (b :: c :: l)=lastB (c :: l):=by
 simp [lastB]
theorem enc_last (k u:Nat) (h:u < 128 ^ k) (hk:0 < k):(1 < (enc k u).length→lastB (enc k u) ≠ 0)∧lastB (enc k u) < 128:=by
 induction k generalizing u with
 | zero=>omega
 | succ k ih =>
  simp only [enc]
  split
  ·rename_i h1; exact ⟨fun h=>by simp at h,h1⟩
  ·rename_i h1
   have hu:u / 128 < 128 ^ k:=by
    rw [Nat.pow_succ] at h
    exact Nat.div_lt_of_lt_mul (by omega)
   have hk:0 < k:=by
    rcases Nat.eq_zero_or_pos k with e | e
    ·subst e; simp at hu; omega
    ·exact e
   have h2:=ih _ hu hk
   have hd:=dec_enc k (u / 128) hu
   cases he:enc k (u / 128) with
   | nil =>
    rcases enc_len k _ hu with h3 | h3
    ·rw [he] at h3; simp at h3
    ·omega
   | cons c l =>
    rw [he] at h2 hd
    rw [lastB_cons]
    refine ⟨fun _=>?_,h2.2⟩
    cases l with
    | nil =>
     have:lastB [c]=c:=rfl
     rw [this]
     simp only [dec] at hd
     intro e; omega
    | cons d l=>exact h2.1 (by simp)
theorem enc_dec (k:Nat):∀ (r:List Nat),(∀ x ∈ r,x < 256)→endL k r ≠ 0→(1 < endL k r→lastB (r.take (endL k r)) ≠ 0)→enc k (dec (r.take (endL k r)))=r.take (endL k r)∧dec (r.take (endL k r)) < 128 ^ endL k r∧(1 < endL k r→128 ^ (endL k r - 1) ≤ dec (r.take (endL k r))):=by
 induction k with
 | zero=>intro r _ h; simp [endL] at h
 | succ k ih =>
  intro r hr h hl
  cases r with
  | nil=>simp [endL] at h
  | cons b l =>
   by_cases hb:b < 128
   ·have e:endL (k + 1) (b :: l)=1:=by simp [endL,hb]
    rw [e]
    have e2:(b :: l).take 1=[b]:=rfl
    rw [e2]
    have e3:dec [b]=b:=by simp [dec]; omega
    rw [e3]
    refine ⟨by simp [enc,hb],by simpa using hb,fun h=>by omega⟩
   ·cases hn:endL k l with
    | zero=>simp [endL,hb,hn] at h
    | succ n =>
     have e:endL (k + 1) (b :: l)=n + 2:=by simp [endL,hb,hn]
     rw [e] at hl ⊢
     have e2:(b :: l).take (n + 2)=b :: l.take (n + 1):=rfl
     rw [e2] at hl ⊢
     have hle:=endL_le k l
     rw [hn] at hle
     have hne:(l.take (n + 1)).length=n + 1:=by rw [List.length_take]; omega
     have hlast:lastB (b :: l.take (n + 1))=lastB (l.take (n + 1)):=by
      cases hc:l.take (n + 1) with
      | nil=>rw [hc] at hne; simp at hne
      | cons c l'=>exact lastB_cons b c l'
     rw [hlast] at hl
     have hih:=ih l (fun x hx=>hr x (List.mem_cons_of_mem _ hx)) (by omega)
     rw [hn] at hih
     have h1:=hih (fun _=>hl (by omega))
     obtain ⟨a1,a2,a3⟩:=h1
     have hb2:=hr b List.mem_cons_self
     have hpos:1 ≤ dec (l.take (n + 1)):=by
      rcases Nat.eq_zero_or_pos n with h0 | h0
      ·subst h0
       have hz:=hl (by omega)
       cases hc:l.take 1 with
       | nil=>rw [hc] at hne; simp at hne
       | cons c l' =>
        rw [hc] at hne hz
        have hl':l'=[]:=by simpa using hne
        subst hl'
        have hz:c ≠ 0:=hz
        have hcl:c < 128:=by
         have:dec [c] < 128 ^ 1:=by rw [← hc]; exact a2
         cases l with
         | nil=>simp at hc
         | cons d l2 =>
          have hdc:d=c:=by simpa using hc
          subst hdc
          cases k with
          | zero=>simp [endL] at hn
          | succ k =>
           by_cases hd:d < 128
           ·exact hd
           ·simp only [endL,if_neg hd] at hn
            split at hn <;> omega
        simp only [dec]; omega
      ·have:=a3 (by omega)
       exact Nat.le_trans (Nat.pow_pos (by decide)) this
     refine ⟨?_,?_,fun _=>?_⟩
     ·have hD:dec (b :: l.take (n + 1))=b % 128 + 128 * dec (l.take (n + 1)):=rfl
      rw [hD]
      have h2:¬ b % 128 + 128 * dec (l.take (n + 1)) < 128:=by omega
      have h3:(b % 128 + 128 * dec (l.take (n + 1))) / 128=dec (l.take (n + 1)):=by omega
      have h4:(b % 128 + 128 * dec (l.take (n + 1))) % 128 + 128=b:=by omega
      unfold enc
      rw [if_neg h2,h3,h4,a1]
     ·simp only [dec]
      rw [show n + 2=(n + 1) + 1 from rfl,Nat.pow_succ]
      omega
     ·simp only [dec]
      rw [show n + 2 - 1=n + 1 from rfl]
      rcases Nat.eq_zero_or_pos n with h0 | h0
      ·subst h0
       rw [show 0 + 1=1 from rfl] at hpos ⊢
       rw [Nat.pow_one]; omega
      ·have:=a3 (by omega)
       rw [show n + 1 - 1=n from rfl] at this
       rw [Nat.pow_succ]
       omega
abbrev IT:=Int×Int×Int×Int
abbrev AC:=Int×Int×Int×Int×IT×IT×List Int
def IT0:IT:=(0,0,0,0)
theorem wrapOK {x:Int} (h0:-9223372036854775808 ≤ x) (h1:x ≤ 9223372036854775807):i64.wrap x=x:=by
 rw [IntKind.wrap_i64]; omega
theorem wrapS {i:Nat} (h:i < 4611686018427387904):i64.wrap ((i:Int) + 1)=((i + 1:Nat):Int):=by
 rw [wrapOK] <;> omega
theorem wrapP {i:Nat} (h0:0 < i) (h:i < 4611686018427387904):i64.wrap ((i:Int) - 1)=((i - 1:Nat):Int):=by
 rw [wrapOK] <;> omega
theorem getLt {α:Type} {xs:List α} {i:Nat} (h:i < xs.length) (d:α):xs.getD i d=xs[i]:=by
 simp [List.getD,h]
theorem dropLt {α:Type} {xs:List α} {i:Nat} (h:i < xs.length):xs.drop i=xs[i] :: xs.drop (i + 1):=List.drop_eq_getElem_cons h
theorem sucM {k m:Nat} (h:k < m):∃ m',m=m' + 1∧k ≤ m':=⟨m - 1,by omega,by omega⟩
theorem decLe (x y:Int):decide (x ≤ y)=!decide (y < x):=by by_cases h:x ≤ y <;> simp [h] <;> omega
def inV (x:Int):Bool:=decide (-1099511627776 ≤ x∧x ≤ 1099511627776)
theorem within_eq (n:Nat) (x:Int):acc_within n x 1099511627776=some (inV x):=by
 have w:i64.wrap (0 - 1099511627776)=-1099511627776:=by rw [wrapOK] <;> omega
 unfold acc_within inV
 rw [w]
 by_cases h:-1099511627776 ≤ x <;> simp [h,GE.ge]
def itemMay (x:IT):Bool:=decide (0 ≤ x.1) && (decide (x.1 ≤ 1048575) && (inV x.2.1 && (decide (1 ≤ x.2.2.1) && (decide (x.2.2.1 ≤ 1073741823) && inV x.2.2.2))))
theorem ItemMay_eq (n:Nat) (x:IT):acc_ItemMay n x=some (itemMay x):=by
 unfold itemMay
 simp only [acc_ItemMay_S,within_eq,Option.bind_some,GE.ge]
 cases decide (0 ≤ x.1) <;> cases decide (x.1 ≤ 1048575) <;> cases inV x.2.1 <;> cases decide (1 ≤ x.2.2.1) <;> cases decide (x.2.2.1 ≤ 1073741823) <;> rfl
def bndFrom (p:Option Int):List Int→Bool
 | []=>true
 | b :: bs=>inV b && ((match p with | none=>true | some q=>decide (q < b)) && bndFrom (some b) bs)
def boundsMay (bs:List Int):Bool:=decide (bs.length ≤ 8) && bndFrom none bs
theorem bnd_l0 (n:Nat) (bs:List Int) (hb:bs.length ≤ 8):∀ (k m i:Nat),i + k=bs.length→k < m→acc_BoundsMay_l0 n c56.F bs m (i:Int)=some (bndFrom (if i=0 then none else some (bs.getD (i - 1) 0)) (bs.drop i)):=by
 intro k
 induction k with
 | zero =>
  intro m i hi hm
  obtain ⟨m,rfl,hm⟩:=sucM hm
  rw [acc_BoundsMay_l0_S]
  have:bs.drop i=[]:=List.drop_eq_nil_of_le (by omega)
  have h1:¬ ((i:Int) < (bs.length:Int)):=by omega
  simp [this,h1,bndFrom]
 | succ k ih =>
  intro m i hi hm
  obtain ⟨m,rfl,hm⟩:=sucM hm
  have hlt:i < bs.length:=by omega
  rw [acc_BoundsMay_l0_S,dropLt hlt]
  have h1:((i:Int) < (bs.length:Int)):=by omega
  have h2:(0:Int) ≤ (i:Int):=by omega
  have ih':=ih m (i + 1) (by omega) (by omega)
  simp only [within_eq,Option.bind_some,h1,h2,and_self,if_true,decide_true,cond_true,Int.toNat_natCast,getLt hlt,wrapS (i:=i) (by omega),ih',bndFrom]
  rw [if_neg (by omega:¬ i + 1=0)]
  have e1:bs.getD (i + 1 - 1) 0=bs[i]:=by simp [List.getD,hlt]
  rw [e1]
  by_cases h0:i=0
  ·subst h0
   cases inV bs[0] <;> simp
  ·have hp:(0:Int) < (i:Int):=by omega
   have hq:(0:Int) ≤ ((i - 1:Nat):Int)∧((i - 1:Nat):Int) < (bs.length:Int):=by omega
   simp only [GT.gt,hp,decide_true,cond_true,wrapP (i:=i) (by omega) (by omega),hq,and_self,if_true,Int.toNat_natCast,if_neg h0]
   have:decide (bs.getD (i - 1) 0 ≥ bs[i])=! decide (bs.getD (i - 1) 0 < bs[i]):=decLe _ _
   rw [this]
   cases inV bs[i] <;> cases decide (bs.getD (i - 1) 0 < bs[i]) <;> simp
theorem BoundsMay_eq (n:Nat) (hn:10 ≤ n) (bs:List Int):acc_BoundsMay n bs=some (boundsMay bs):=by
 rw [acc_BoundsMay_S]; unfold boundsMay
 by_cases h:bs.length ≤ 8
 ·have h1:¬ ((8:Int) < (bs.length:Int)):=by omega
  have:=bnd_l0 n bs h bs.length n 0 (by omega) (by omega)
  simp [GT.gt,h1,h] at this ⊢
  exact this
 ·have h1:((8:Int) < (bs.length:Int)):=by omega
  simp [GT.gt,h1,h]
def buck (bs:List Int) (v:Int):Nat:=bs.findIdx fun b=>decide (v ≤ b)
def oneA (x:IT) (bs:List Int):AC:=(1,x.2.2.2,x.2.2.2,x.2.2.2,x,x,(List.replicate (bs.length + 1) (0:Int)).set (buck bs x.2.2.2) 1)
abbrev QY:=Int×Int×Int×Int×List Int×Int
abbrev CF:=List QY×Int×Int×Int×Int
def markMay (m:Int):Bool:=decide (-4398046511104 ≤ m) && decide (m ≤ 4398046511104)
theorem LeastMay_eq (n:Nat) (m:Int):admit_LeastMay n m=some (markMay m):=by
 unfold admit_LeastMay markMay
 by_cases h:-4398046511104 ≤ m <;> simp [h,GE.ge]
theorem idx_int_l0 (n:Nat) (xs:List Int) (hx:xs.length ≤ 1073741824):∀ (k m i:Nat),i + k=xs.length→k < m→∃ r:Int,slices_IndexFunc_int_int_l0 n c69.F xs m (i:Int)=some r∧(0 ≤ r ↔ ((xs.drop i).all markMay)=false):=by
 intro k
 induction k with
 | zero =>
  intro m i hi hm
  obtain ⟨m,rfl,hm⟩:=sucM hm
  rw [slices_IndexFunc_int_int_l0_S]
  have:xs.drop i=[]:=List.drop_eq_nil_of_le (by omega)
  have h1:¬ ((i:Int) < (xs.length:Int)):=by omega
  exact ⟨-1,by simp [h1],by simp [this]⟩
 | succ k ih =>
  intro m i hi hm
  obtain ⟨m,rfl,hm⟩:=sucM hm
  have hlt:i < xs.length:=by omega
  rw [slices_IndexFunc_int_int_l0_S,dropLt hlt]
  have h1:((i:Int) < (xs.length:Int)):=by omega
  have h2:(0:Int) ≤ (i:Int):=by omega
  obtain ⟨r,e1,e2⟩:=ih m (i + 1) (by omega) (by omega)
  simp only [spec_may_1_S,LeastMay_eq,Option.bind_some,h1,h2,and_self,if_true,decide_true,cond_true,Int.toNat_natCast,getLt hlt,wrapS (i:=i) (by omega),e1,List.all_cons]
  cases hm:markMay xs[i] with
  | true=>exact ⟨r,by simp,by simpa using e2⟩
  | false=>exact ⟨i,by simp,by simp⟩
theorem Contains_int (n:Nat) (xs:List Int) (hx:xs.length ≤ 1073741824) (hn:xs.length < n):slices_ContainsFunc_int_int n xs ()=some (!(xs.all markMay)):=by
 obtain ⟨r,e1,e2⟩:=idx_int_l0 n xs hx xs.length n 0 (by omega) (by omega)
 rw [slices_ContainsFunc_int_int_S,slices_IndexFunc_int_int_S]
 have e1:slices_IndexFunc_int_int_l0 n c69.F xs n 0=some r:=e1
 simp only [e1,Option.bind_some]
 rw [List.drop_zero] at e2
 cases h:xs.all markMay with
 | true=>simp [h] at e2; simp [GE.ge]; omega
 | false=>simp [h] at e2; simp [GE.ge,e2]
def rising:List Int→Bool
 | []=>true
 | x :: l=>match l with
  | []=>true
  | y :: _=>decide (x ≤ y) && rising l
theorem sorted_one (n:Nat) (hn:10 ≤ n) (a:Int):slices_IsSorted_int_int n [a]=some true:=by
 rw [slices_IsSorted_int_int_S]
 obtain ⟨n1,rfl⟩:∃ n1,n=n1 + 2:=⟨n - 2,by omega⟩
 have e0:i64.wrap ((([a]:List Int).length:Int) - 1)=0:=by rw [wrapOK] <;> simp
 simp only [e0]
 rw [slices_IsSorted_int_int_l0_S]
 simp
theorem gcd_l0 (n:Nat):∀ (b m:Nat) (a:Nat),b < m→floor_Gcd_l0 n m (a:Int) (b:Int)=some (((Nat.gcd a b:Nat):Int),0):=by
 intro b
 induction b using Nat.strongRecOn with
 | ind b ih =>
  intro m a hm
  obtain ⟨m,rfl,hm⟩:=sucM hm
  rw [floor_Gcd_l0_S]
  by_cases h0:b=0
  ·subst h0; simp
  ·have h1:(0:Int) < (b:Int):=by omega
   have h2:(b:Int) ≠ 0:=by omega
   have e:(a:Int).tmod (b:Int)=((a % b:Nat):Int):=(Int.ofNat_tmod a b).symm
   have ih':=ih (a % b) (Nat.mod_lt _ (by omega)) m b (by have:=Nat.mod_lt a (show 0 < b by omega); omega)
   simp only [GT.gt,h1,decide_true,cond_true,ne_eq,h2,not_false_eq_true,e,ih']
   rw [Nat.gcd_comm b,← Nat.gcd_rec,Nat.gcd_comm]
def slidingB (q:QY):Bool:=decide (1 ≤ q.2.2.2.1) && (decide (q.2.2.2.1 ≤ q.2.2.1) && (decide ((q.2.2.1 - 1).tdiv q.2.2.2.1 < 64) && decide (q.2.2.1.tdiv (Nat.gcd q.2.2.1.toNat q.2.2.2.1.toNat:Nat) ≤ 256)))
theorem tdivIn {a b:Int} (ha:0 ≤ a) (h1:a ≤ 4611686018427387904) (hb:0 ≤ b):0 ≤ a.tdiv b∧a.tdiv b ≤ 4611686018427387904:=by
 rw [Int.tdiv_eq_ediv_of_nonneg ha]
 refine ⟨Int.ediv_nonneg ha hb,?_⟩
 have:=Int.ediv_le_self b ha
 omega
theorem sliding_eq (n:Nat) (hn:1073741825 < n) (q:QY) (h1:1 ≤ q.2.2.1) (h2:q.2.2.1 ≤ 1073741824):window_sliding n q=some (slidingB q):=by
 obtain ⟨kd,ag,sz,sl,bs,rk⟩:=q
 simp only at h1 h2
 rw [window_sliding_S]
 unfold slidingB
 simp only [GT.gt,GE.ge]
 by_cases a1:sl < 1
 ·have:¬ 1 ≤ sl:=by omega
  simp [a1,this]
 have a1':1 ≤ sl:=by omega
 by_cases a2:sz < sl
 ·have:¬ sl ≤ sz:=by omega
  simp [a1,a1',a2,this]
 have a2':sl ≤ sz:=by omega
 have a3:sl ≠ 0:=by omega
 have e1:i64.wrap (sz - 1)=sz - 1:=wrapOK (by omega) (by omega)
 have t1:=tdivIn (a:=sz - 1) (b:=sl) (by omega) (by omega) (by omega)
 have e2:i64.wrap ((sz - 1).tdiv sl)=(sz - 1).tdiv sl:=wrapOK (by omega) (by omega)
 have g1:(sz:Int)=(sz.toNat:Int):=by omega
 have g2:(sl:Int)=(sl.toNat:Int):=by omega
 have gg:floor_Gcd n sz sl=some (((Nat.gcd sz.toNat sl.toNat:Nat):Int),0):=by
  rw [floor_Gcd_S]
  have b1:¬ sz < 1:=by omega
  simp only [b1,a1,decide_false,cond_false]
  rw [g1,g2]
  exact gcd_l0 n sl.toNat n sz.toNat (by omega)
 have gp:0 < Nat.gcd sz.toNat sl.toNat:=Nat.gcd_pos_of_pos_left _ (by omega)
 have gn:((Nat.gcd sz.toNat sl.toNat:Nat):Int) ≠ 0:=by omega
 have t2:=tdivIn (a:=sz) (b:=((Nat.gcd sz.toNat sl.toNat:Nat):Int)) (by omega) (by omega) (by omega)
 have e3:i64.wrap (sz.tdiv ((Nat.gcd sz.toNat sl.toNat:Nat):Int))=sz.tdiv ((Nat.gcd sz.toNat sl.toNat:Nat):Int):=wrapOK (by omega) (by omega)
 simp only [a1,a2,a1',a2',decide_false,decide_true,cond_false,cond_true,ne_eq,a3,not_false_eq_true,e1,e2,gg,Option.bind_some,gn,e3,Bool.true_and]
 by_cases a4:64 ≤ (sz - 1).tdiv sl
 ·have:¬ (sz - 1).tdiv sl < 64:=by omega
  simp [a4,this]
 ·have:(sz - 1).tdiv sl < 64:=by omega
  simp [a4,this]
def asksB (q:QY):Bool:=decide (0 ≤ q.2.1) && (decide (q.2.1 ≤ 7) && ((q.2.1 == 7 || q.2.2.2.2.2 == 0) && (decide (0 ≤ q.2.2.2.2.2) && (decide (q.2.2.2.2.2 ≤ 1000) && ((q.2.1 == 6 || q.2.1 == 7) == decide (0 < q.2.2.2.2.1.length) && boundsMay q.2.2.2.2.1)))))
theorem asks_eq (n:Nat) (hn:10 ≤ n) (q:QY):window_asks n q=some (asksB q):=by
 obtain ⟨kd,ag,sz,sl,bs,rk⟩:=q
 rw [window_asks_S]
 unfold asksB
 simp only [GT.gt,BoundsMay_eq n hn,Option.bind_some]
 have el:decide ((0:Int) < (bs.length:Int))=decide (0 < bs.length):=by congr 1; exact propext ⟨fun h=>by omega,fun h=>by omega⟩
 simp only [el]
 by_cases a1:ag < 0
 ·have:¬ 0 ≤ ag:=by omega
  simp [a1,this]
 have a1':0 ≤ ag:=by omega
 by_cases a2:7 < ag
 ·have:¬ ag ≤ 7:=by omega
  simp [a1,a1',a2,this]
 have a2':ag ≤ 7:=by omega
 by_cases a3:ag=7
 ·subst a3
  by_cases b1:rk < 0
  ·have:¬ 0 ≤ rk:=by omega
   simp [b1,this]
  have b1':0 ≤ rk:=by omega
  by_cases b2:1000 < rk
  ·have:¬ rk ≤ 1000:=by omega
   simp [b1,b1',b2,this]
  have b2':rk ≤ 1000:=by omega
  simp [b1,b2,b1',b2']
  cases decide (0 < bs.length) <;> simp
 ·have a3':(ag != 7)=true:=by simp [a3]
  have a3'':(ag == 7)=false:=by simp [a3]
  by_cases b0:rk=0
  ·subst b0
   simp [a1,a1',a2,a2',a3',a3'']
   by_cases a4:ag=6
   ·subst a4; cases decide (0 < bs.length) <;> simp
   ·have:(ag == 6)=false:=by simp [a4]
    simp [this]
    cases decide (0 < bs.length) <;> simp
  ·have b0':(rk != 0)=true:=by simp [b0]
   have b0'':(rk == 0)=false:=by simp [b0]
   simp [a1,a1',a2,a2',a3',a3'',b0',b0'']
def qMay (q:QY):Bool:=decide (1 ≤ q.2.2.1) && (decide (q.2.2.1 ≤ 1073741824) && (asksB q && (if q.1=1 then slidingB q else (q.1 == 0 || q.1 == 2) && q.2.2.2.1 == 0)))
theorem wMay_eq (n:Nat) (hn:1073741825 < n) (q:QY):window_May n q=some (qMay q):=by
 rw [window_May_S]
 unfold qMay
 simp only [GT.gt,asks_eq n (by omega),Option.bind_some,window_May_j0_S]
 by_cases a1:q.2.2.1 < 1
 ·have:¬ 1 ≤ q.2.2.1:=by omega
  simp [a1,this]
 have a1':1 ≤ q.2.2.1:=by omega
 by_cases a2:1073741824 < q.2.2.1
 ·have:¬ q.2.2.1 ≤ 1073741824:=by omega
  simp [a1,a1',a2,this]
 have a2':q.2.2.1 ≤ 1073741824:=by omega
 simp only [a1,a2,a1',a2',decide_false,decide_true,cond_false,cond_true,Bool.true_and]
 cases asksB q with
 | false=>simp
 | true =>
  by_cases k1:q.1=1
  ·simp [k1,sliding_eq n hn q a1' a2']
  ·have k1':(q.1 == 1)=false:=by simp [k1]
   by_cases k0:q.1=0
   ·simp [k0,k1']
   ·have k0':(q.1 == 0)=false:=by simp [k0]
    by_cases k2:q.1=2
    ·simp [k2]
    ·have k2':(q.1 == 2)=false:=by simp [k2]
     simp [k1,k1',k0',k2']
theorem idx_q_l0 (n:Nat) (hn:1073741825 < n) (xs:List QY) (hx:xs.length ≤ 1073741824):∀ (k m i:Nat),i + k=xs.length→k < m→∃ r:Int,slices_IndexFunc_api_Query_l0 n c34.F xs m (i:Int)=some r∧(0 ≤ r ↔ ((xs.drop i).all qMay)=false):=by
 intro k
 induction k with
 | zero =>
  intro m i hi hm
  obtain ⟨m,rfl,hm⟩:=sucM hm
  rw [slices_IndexFunc_api_Query_l0_S]
  have:xs.drop i=[]:=List.drop_eq_nil_of_le (by omega)
  have h1:¬ ((i:Int) < (xs.length:Int)):=by omega
  exact ⟨-1,by simp [h1],by simp [this]⟩
 | succ k ih =>
  intro m i hi hm
  obtain ⟨m,rfl,hm⟩:=sucM hm
  have hlt:i < xs.length:=by omega
  rw [slices_IndexFunc_api_Query_l0_S,dropLt hlt]
  have h1:((i:Int) < (xs.length:Int)):=by omega
  have h2:(0:Int) ≤ (i:Int):=by omega
  obtain ⟨r,e1,e2⟩:=ih m (i + 1) (by omega) (by omega)
  simp only [admit_May_1_S,wMay_eq n hn,Option.bind_some,h1,h2,and_self,if_true,decide_true,cond_true,Int.toNat_natCast,getLt hlt,wrapS (i:=i) (by omega),e1,List.all_cons]
  cases hm:qMay xs[i] with
  | true=>exact ⟨r,by simp,by simpa using e2⟩
  | false=>exact ⟨i,by simp,by simp⟩
theorem Contains_q (n:Nat) (hn:1073741825 < n) (xs:List QY) (hx:xs.length ≤ 1073741824):slices_ContainsFunc_api_Query n xs ()=some (!(xs.all qMay)):=by
 obtain ⟨r,e1,e2⟩:=idx_q_l0 n hn xs hx xs.length n 0 (by omega) (by omega)
 rw [slices_ContainsFunc_api_Query_S,slices_IndexFunc_api_Query_S]
 have e1:slices_IndexFunc_api_Query_l0 n c34.F xs n 0=some r:=e1
 simp only [e1,Option.bind_some]
 rw [List.drop_zero] at e2
 cases h:xs.all qMay with
 | true=>simp [h] at e2; simp [GE.ge]; omega
 | false=>simp [h] at e2; simp [GE.ge,e2]
def inR (a b x:Int):Bool:=decide (a ≤ x) && decide (x ≤ b)
def cfgMay (c:CF):Bool:=decide (1 ≤ c.1.length∧c.1.length ≤ 8) && (c.1.all qMay && (inR 0 1073741824 c.2.1 && (inR 1 4096 c.2.2.1 && (inR 1 64 c.2.2.2.1 && inR 1 8 c.2.2.2.2))))
theorem aMay_eq (n:Nat) (hn:1073741825 < n) (c:CF):admit_May n c=some (cfgMay c):=by
 obtain ⟨qs,la,ro,se,so⟩:=c
 rw [admit_May_S]
 unfold cfgMay
 simp only [GT.gt,GE.ge]
 by_cases a1:qs.length < 1
 ·have:((qs.length:Nat):Int) < 1:=by omega
  have h2:¬ (1 ≤ qs.length∧qs.length ≤ 8):=by omega
  simp [this,h2]
 by_cases a2:8 < qs.length
 ·have h1:¬ ((qs.length:Nat):Int) < 1:=by omega
  have h3:(8:Int) < ((qs.length:Nat):Int):=by omega
  have h2:¬ (1 ≤ qs.length∧qs.length ≤ 8):=by omega
  simp [h1,h2,h3]
 have h1:¬ ((qs.length:Nat):Int) < 1:=by omega
 have h3:¬ (8:Int) < ((qs.length:Nat):Int):=by omega
 have h2:1 ≤ qs.length∧qs.length ≤ 8:=by omega
 simp only [h1,h3,h2,decide_false,cond_false,Contains_q n hn qs (by omega),Option.bind_some,and_self,decide_true,Bool.true_and]
 cases qs.all qMay with
 | false=>simp
 | true =>
  simp only [Bool.not_true,cond_false,Bool.true_and,inR]
  cases decide (0 ≤ la) <;> cases decide (la ≤ 1073741824) <;> cases decide (1 ≤ ro) <;> cases decide (ro ≤ 4096) <;> cases decide (1 ≤ se) <;> cases decide (se ≤ 64) <;> cases decide (1 ≤ so) <;> simp
def itemsGo (seen:List Int):List IT→Bool
 | []=>true
 | x :: xs=>itemMay x && (!(seen.contains x.2.2.1) && itemsGo (x.2.2.1 :: seen) xs)
def mayS (c:CF) (xs:List IT) (ms:List Int):Bool:=itemsGo [] xs && (cfgMay c && (decide (xs.length ≤ 8192) && (ms.all markMay && rising ms)))
theorem mget_seen (s:Int):∀ seen:List Int,mget (seen.map fun x=>(x,true)) s=seen.contains s
 | []=>rfl
 | x :: l=>by
  have ih:=mget_seen s l
  unfold mget at ih ⊢
  simp only [List.map_cons,List.lookup,List.contains_cons]
  cases h:s == x with
  | true=>simp
  | false=>simpa using ih
theorem itemMay_seq {x:IT} (h:itemMay x=true):1 ≤ x.2.2.1∧x.2.2.1 ≤ 1073741823:=by
 simp only [itemMay,Bool.and_eq_true,decide_eq_true_eq] at h
 exact ⟨h.2.2.2.1,h.2.2.2.2.1⟩
theorem wfSeq {x:IT} (h:itemMay x=true):wfI x.2.2.1=true:=by
 have:=itemMay_seq h
 simp [wfI]; omega
theorem may_l0 (n:Nat) (hn:1073741825 < n) (c:CF) (xs:List IT) (hx:xs.length ≤ 4398046511104) (ms:List Int) (hm1:ms.length ≤ 1073741824) (hs:slices_IsSorted_int_int n ms=some (rising ms)) :
  ∀ (k m i:Nat) (seen:List Int),i + k=xs.length→k < m→spec_may_l0 n c42.F c20.F c39.F c70.F c xs ms m (i:Int) (seen.map fun x=>(x,true))=some (itemsGo seen (xs.drop i) && (cfgMay c && (decide (xs.length ≤ 8192) && (ms.all markMay && rising ms)))):=by
 intro k
 induction k with
 | zero =>
  intro m i seen hi hm
  obtain ⟨m,rfl,hm⟩:=sucM hm
  rw [spec_may_l0_S]
  have:xs.drop i=[]:=List.drop_eq_nil_of_le (by omega)
  have h1:¬ ((i:Int) < (xs.length:Int)):=by omega
  have h2:decide ((xs.length:Int) ≤ 8192)=decide (xs.length ≤ 8192):=by congr 1; exact propext ⟨fun h=>by omega,fun h=>by omega⟩
  simp only [this,h1,decide_false,cond_false,aMay_eq n hn,Option.bind_some,itemsGo,Bool.true_and,h2,Contains_int n ms hm1 (by omega),hs]
  cases cfgMay c <;> cases decide (xs.length ≤ 8192) <;> cases ms.all markMay <;> simp
 | succ k ih =>
  intro m i seen hi hm
  obtain ⟨m,rfl,hm⟩:=sucM hm
  have hlt:i < xs.length:=by omega
  rw [spec_may_l0_S,dropLt hlt]
  have h1:((i:Int) < (xs.length:Int)):=by omega
  have h2:(0:Int) ≤ (i:Int):=by omega
  have ih':=ih m (i + 1) (xs[i].2.2.1 :: seen) (by omega) (by omega)
  rw [List.map_cons] at ih'
  simp only [ItemMay_eq,Option.bind_some,h1,h2,and_self,if_true,decide_true,cond_true,Int.toNat_natCast,getLt hlt,wrapS (i:=i) (by omega),ih',itemsGo,mget_seen]
  cases hi:itemMay xs[i] with
  | false=>simp
  | true =>
   rw [if_pos (wfSeq hi)]
   cases seen.contains xs[i].2.2.1 with
   | true=>simp
   | false=>simp [wfSeq hi]
theorem may_eqL (n:Nat) (hn:1099511627776 < n) (c:CF) (xs:List IT) (hx:xs.length ≤ 4398046511104) (hxn:xs.length < n) (ms:List Int) (hm1:ms.length ≤ 1073741824) (hs:slices_IsSorted_int_int n ms=some (rising ms)) :
  spec_may n c xs ms=some (mayS c xs ms):=by
 rw [spec_may_S]
 have:=may_l0 n (by omega) c xs hx ms hm1 hs xs.length n 0 [] (by omega) (by omega)
 rw [List.drop_zero] at this
 exact this
theorem may_eq (n:Nat) (hn:1099511627776 < n) (c:CF) (xs:List IT) (hx:xs.length ≤ 1099511627776) (ms:List Int) (hm1:ms.length ≤ 1073741824) (hs:slices_IsSorted_int_int n ms=some (rising ms)) :
  spec_may n c xs ms=some (mayS c xs ms):=may_eqL n hn c xs (by omega) (by omega) ms hm1 hs
theorem may_oneL (n:Nat) (hn:1099511627776 < n) (c:CF) (xs:List IT) (hx:xs.length ≤ 4398046511104) (hxn:xs.length < n) (a:Int):spec_may n c xs [a]=some (mayS c xs [a]) :=
 may_eqL n hn c xs hx hxn _ (by simp) (by rw [sorted_one n (by omega)]; rfl)
theorem may_one (n:Nat) (hn:1099511627776 < n) (c:CF) (xs:List IT) (hx:xs.length ≤ 1099511627776) (a:Int):spec_may n c xs [a]=some (mayS c xs [a]) :=
 may_eq n hn c xs hx _ (by simp) (by rw [sorted_one n (by omega)]; rfl)
theorem Held_badL (n:Nat) (hn:4398046511104 < n) (c:CF) (xs:List IT) (hx:xs.length ≤ 4398046511104) (a:Int) (h:mayS c xs [a]=false):spec_Held n c xs a=some ([],2100):=by
 rw [spec_Held_S]
 have e:(List.replicate (1:Nat) (0:Int)).set (0:Nat) a=[a]:=rfl
 rw [e,may_oneL n (by omega) c xs hx (by omega),h]
 rfl
def grpAdd (gs:List (List IT)) (x:IT):Bool→List (List IT)
 | true=>gs ++ [[x]]
 | false=>gs.dropLast ++ [gs.getLast?.getD [] ++ [x]]
def newGrp (ys:List IT) (i:Nat):Bool:=i == 0 || (ys.getD (i - 1) IT0).1 != (ys.getD i IT0).1
def grpGo (ys:List IT):Nat→List (List IT)
 | 0=>[]
 | i + 1=>grpAdd (grpGo ys i) (ys.getD i IT0) (newGrp ys i)
def rowOf (ys:List IT):List (List IT):=grpGo ys ys.length
theorem grpGo_ne (ys:List IT) (i:Nat) (h:0 < i):grpGo ys i ≠ []:=by
 cases i with
 | zero=>omega
 | succ i =>
  simp only [grpGo]
  cases newGrp ys i <;> simp [grpAdd]
theorem last_split {α:Type} {l:List α} (h:l ≠ []) (d:α):l=l.dropLast ++ [l.getLast?.getD d]:=by
 rw [List.getLast?_eq_some_getLast h]
 exact (List.dropLast_concat_getLast h).symm
theorem grpGo_len (ys:List IT):∀ i,(grpGo ys i).length ≤ i
 | 0=>by simp [grpGo]
 | i + 1=>by
  have ih:=grpGo_len ys i
  simp only [grpGo]
  cases hb:newGrp ys i with
  | true=>simp [grpAdd]; omega
  | false =>
   simp [grpAdd]
   omega
theorem grpGo_flat (ys:List IT):∀ i,i ≤ ys.length→(grpGo ys i).flatten=ys.take i
 | 0,_=>by simp [grpGo]
 | i + 1,h=>by
  have ih:=grpGo_flat ys i (by omega)
  have hlt:i < ys.length:=by omega
  have e:ys.getD i IT0=ys[i]:=getLt hlt _
  rw [List.take_succ_eq_append_getElem hlt]
  simp only [grpGo,e]
  cases hb:newGrp ys i with
  | true=>simp [grpAdd,ih]
  | false =>
   have hi:0 < i:=by
    rcases Nat.eq_zero_or_pos i with h0 | h0
    ·subst h0; simp [newGrp] at hb
    ·exact h0
   have hs:=last_split (grpGo_ne ys i hi) []
   simp only [grpAdd]
   have:((grpGo ys i).dropLast ++ [(grpGo ys i).getLast?.getD [] ++ [ys[i]]]).flatten=((grpGo ys i).dropLast ++ [(grpGo ys i).getLast?.getD []]).flatten ++ [ys[i]]:=by simp
   rw [this,← hs,ih]
theorem grpGo_mem (ys:List IT) (i:Nat) (h:i ≤ ys.length):∀ g ∈ grpGo ys i,g.length ≤ i:=by
 intro g hg
 have h1:(grpGo ys i).flatten.length=i:=by rw [grpGo_flat ys i h,List.length_take]; omega
 have h2:g.length ≤ (grpGo ys i).flatten.length:=(List.sublist_flatten_of_mem hg).length_le
 omega
abbrev GU:=PUnit×List IT
def gu (g:List IT):GU:=((),g)
theorem row_j1 (n:Nat) (ys:List IT) (i:Nat) (hi:i < ys.length) (h9:ys.length ≤ 8192) (ih:Int→List GU→Option (List (List IT))) (L:List GU) (g:List IT) (hL:L.length ≤ 8192) (hg:g.length ≤ 8192) :
  spec_row_j1 n c62.F c64a.F ys (i:Int) ih (L ++ [gu g])=ih ((i + 1:Nat):Int) (L ++ [gu (g ++ [ys[i]])]):=by
 rw [spec_row_j1_S]
 have e1:i64.wrap (((L ++ [gu g]).length:Int) - 1)=(L.length:Int):=by
  rw [wrapOK] <;> simp <;> omega
 have e2:(L ++ [gu g]).getD L.length ((),Go.Ev.nl IT)=gu g:=by simp [List.getD]
 have e3:((List.replicate (1:Nat) ((0:Int),(0:Int),(0:Int),(0:Int))).set (0:Nat) (ys.getD i ((0:Int),(0:Int),(0:Int),(0:Int))))=[ys[i]]:=by
  rw [getLt hi]; rfl
 have c1:(0:Int) ≤ (L.length:Int)∧(L.length:Int) < ((L ++ [gu g]).length:Int):=by simp; omega
 have c2:((gu g).snd.length + [ys[i]].length) * 32 ≤ 140737488355328∧0 < 32:=by simp [gu]; omega
 simp only [e1,Int.toNat_natCast,e2,e3]
 simp only [if_pos c1,if_pos c2,if_true]
 rw [wrapS (by omega)]
 congr 1
 rw [List.set_append_right _ _ (Nat.le_refl _)]
 simp [gu]
theorem row_l0 (n:Nat) (ys:List IT) (h9:ys.length ≤ 8192):∀ (k m i:Nat),i + k=ys.length→k < m→spec_row_l0 n c62.F c64a.F ys m (i:Int) ((grpGo ys i).map gu)=some (rowOf ys):=by
 intro k
 induction k with
 | zero =>
  intro m i hi hm
  obtain ⟨m,rfl,hm⟩:=sucM hm
  rw [spec_row_l0_S]
  have h1:¬ ((i:Int) < (ys.length:Int)):=by omega
  have:i=ys.length:=by omega
  subst this
  simp only [h1,decide_false,cond_false,List.map_map]
  congr 1
  exact (List.map_congr_left fun g _=>rfl).trans (List.map_id _)
 | succ k ih =>
  intro m i hi hm
  obtain ⟨m,rfl,hm⟩:=sucM hm
  have hlt:i < ys.length:=by omega
  have h1:((i:Int) < (ys.length:Int)):=by omega
  have h2:(0:Int) ≤ (i:Int)∧(i:Int) < (ys.length:Int):=by omega
  have ih':=ih m (i + 1) (by omega) (by omega)
  have hl:=grpGo_len ys i
  have c1:(((grpGo ys i).map gu).length + [((),Go.Ev.nl IT)].length) * 24 ≤ 140737488355328∧0 < 24:=by simp; omega
  rw [spec_row_l0_S]
  simp only [show decide ((i:Int) < (ys.length:Int))=true by simpa using h1,cond_true,if_pos h2,if_pos c1]
  have new:spec_row_j1 n c62.F c64a.F ys (i:Int) (spec_row_l0 n c62.F c64a.F ys m) ((grpGo ys i).map gu ++ [((),Go.Ev.nl IT)])=spec_row_l0 n c62.F c64a.F ys m ((i + 1:Nat):Int) ((grpAdd (grpGo ys i) (ys.getD i IT0) true).map gu):=by
   have:=row_j1 n ys i hlt h9 (spec_row_l0 n c62.F c64a.F ys m) ((grpGo ys i).map gu) [] (by simp; omega) (by simp)
   rw [show ((),Go.Ev.nl IT)=gu [] from rfl,this,getLt hlt]
   simp [grpAdd,gu]
  have e0:grpGo ys (i + 1)=grpAdd (grpGo ys i) (ys.getD i IT0) (newGrp ys i):=rfl
  by_cases h0:i=0
  ·subst h0
   have:newGrp ys 0=true:=by simp [newGrp]
   rw [e0,this] at ih'
   rw [show (((0:Nat):Int) == 0)=true from rfl]
   simp only [cond_true]
   rw [new,ih']
  ·have h3:((i:Int) == 0)=false:=by simp [h0]
   have h4:i64.wrap ((i:Int) - 1)=((i - 1:Nat):Int):=wrapP (by omega) (by omega)
   have h5:(0:Int) ≤ ((i - 1:Nat):Int)∧((i - 1:Nat):Int) < (ys.length:Int):=by omega
   simp only [h3,cond_false,h4,if_pos h5,Int.toNat_natCast]
   have hb:newGrp ys i=((ys.getD (i - 1) ((0:Int),(0:Int),(0:Int),(0:Int))).1 != (ys.getD i ((0:Int),(0:Int),(0:Int),(0:Int))).1):=by
    simp only [newGrp,IT0]
    rw [show (i == 0)=false by simp [h0],Bool.false_or]
   rw [← hb]
   cases hn:newGrp ys i with
   | true =>
    rw [e0,hn] at ih'
    simp only [cond_true]
    rw [new,ih']
   | false =>
    rw [e0,hn] at ih'
    simp only [cond_false]
    have hs:=last_split (grpGo_ne ys i (by omega)) []
    have hmem:(grpGo ys i).getLast?.getD [] ∈ grpGo ys i:=by
     rw [List.getLast?_eq_some_getLast (grpGo_ne ys i (by omega))]
     exact List.getLast_mem _
    have hg:=grpGo_mem ys i (by omega) _ hmem
    have hd:((grpGo ys i).dropLast.map gu).length ≤ 8192:=by simp; omega
    have:=row_j1 n ys i hlt h9 (spec_row_l0 n c62.F c64a.F ys m) ((grpGo ys i).dropLast.map gu) ((grpGo ys i).getLast?.getD []) hd (by omega)
    have e1:(grpGo ys i).map gu=(grpGo ys i).dropLast.map gu ++ [gu ((grpGo ys i).getLast?.getD [])]:=by
     conv=>lhs; rw [hs]
     simp
    rw [e1,this,← ih',getLt hlt]
    simp [grpAdd]
def ltRow (x y:IT):Bool:=decide (cfRow x y < 0)
theorem ltRow_iff (x y:IT):ltRow x y=true ↔ x.1 < y.1 ∨ x.1=y.1∧(x.2.1 < y.2.1 ∨ x.2.1=y.2.1∧x.2.2.1 < y.2.2.1):=by
 unfold ltRow; rw [decide_eq_true_eq,cfRow_neg]
theorem Clone_item_eq (n:Nat) (xs:List IT) (h:xs.length ≤ 1073741824):slices_Clone_api_Item n xs=some xs:=by
 unfold slices_Clone_api_Item slices_Clone_api_Item_n
 cases xs with
 | nil=>rfl
 | cons x xs =>
  simp only [List.isEmpty_cons,cond_false,Bool.not_false,cond_true,List.length_replicate,Nat.zero_add]
  rw [if_pos (by simp only [List.length_cons] at h ⊢; omega)]; rfl
theorem row_eq (n:Nat) (hn:1099511627776 < n) (xs:List IT) (h9:xs.length ≤ 8192) (hs:ascL ltRow (isortL ltRow xs)=true):spec_row n xs=some (rowOf (isortL ltRow xs)):=by
 rw [spec_row_S,Clone_item_eq n xs (by omega)]
 have e1:slices_SortFunc_row n xs ()=some (isortL ltRow xs):=by
  have:slices_SortFunc_row n xs ()=(bif decide (xs.length < 4611686018427387904) then sortS ltRow xs else none):=rfl
  rw [this]
  have:decide (xs.length < 4611686018427387904)=true:=by simp; omega
  rw [this]
  simp [sortS,hs]
 have hl:(isortL ltRow xs).length=xs.length:=(isortL_perm ltRow xs).length_eq
 simp only [Option.bind_some,e1]
 exact row_l0 n (isortL ltRow xs) (by omega) (isortL ltRow xs).length n 0 (by omega) (by omega)
abbrev FO:=(Int×Int)×List IT
def FO0:FO:=((0,0),[])
def sesAdd (fs:List FO) (sz:Int) (x:IT):Bool→List FO
 | true=>fs ++ [((x.2.1,x.2.1 + sz),[x])]
 | false=>fs.dropLast ++ [(((fs.getLast?.getD FO0).1.1,x.2.1 + sz),(fs.getLast?.getD FO0).2 ++ [x])]
def newSes (g:List IT) (sz:Int) (i:Nat):Bool:=i == 0 || decide (sz ≤ (g.getD i IT0).2.1 - (g.getD (i - 1) IT0).2.1)
def sesGo (g:List IT) (sz:Int):Nat→List FO
 | 0=>[]
 | i + 1=>sesAdd (sesGo g sz i) sz (g.getD i IT0) (newSes g sz i)
def sesOf (q:QY) (g:List IT):List FO:=sesGo g q.2.2.1 g.length
theorem sesGo_ne (g:List IT) (sz:Int) (i:Nat) (h:0 < i):sesGo g sz i ≠ []:=by
 cases i with
 | zero=>omega
 | succ i =>
  simp only [sesGo]
  cases newSes g sz i <;> simp [sesAdd]
theorem sesGo_len (g:List IT) (sz:Int):∀ i,(sesGo g sz i).length ≤ i
 | 0=>by simp [sesGo]
 | i + 1=>by
  have ih:=sesGo_len g sz i
  simp only [sesGo]
  cases hb:newSes g sz i with
  | true=>simp [sesAdd]; omega
  | false=>simp [sesAdd]; omega
theorem sesGo_flat (g:List IT) (sz:Int):∀ i,i ≤ g.length→((sesGo g sz i).map Prod.snd).flatten=g.take i
 | 0,_=>by simp [sesGo]
 | i + 1,h=>by
  have ih:=sesGo_flat g sz i (by omega)
  have hlt:i < g.length:=by omega
  have e:g.getD i IT0=g[i]:=getLt hlt _
  rw [List.take_succ_eq_append_getElem hlt]
  simp only [sesGo,e]
  cases hb:newSes g sz i with
  | true=>simp [sesAdd,ih]
  | false =>
   have hi:0 < i:=by
    rcases Nat.eq_zero_or_pos i with h0 | h0
    ·subst h0; simp [newSes] at hb
    ·exact h0
   have hs:=last_split (sesGo_ne g sz i hi) FO0
   rw [hs] at ih
   simp only [sesAdd]
   simp only [List.map_append,List.map_cons,List.map_nil,List.flatten_append,List.flatten_cons,List.flatten_nil,List.append_nil] at ih ⊢
   rw [← List.append_assoc,ih]
theorem sesGo_mem (g:List IT) (sz:Int) (i:Nat) (h:i ≤ g.length):∀ f ∈ sesGo g sz i,f.2.length ≤ i:=by
 intro f hf
 have h1:((sesGo g sz i).map Prod.snd).flatten.length=i:=by rw [sesGo_flat g sz i h,List.length_take]; omega
 have h2:f.2.length ≤ ((sesGo g sz i).map Prod.snd).flatten.length:=(List.sublist_flatten_of_mem (List.mem_map_of_mem hf)).length_le
 omega
def timeIn (x:IT):Prop:=-1099511627776 ≤ x.2.1∧x.2.1 ≤ 1099511627776
theorem ses_j1 (n:Nat) (q:QY) (g:List IT) (i:Nat) (hi:i < g.length) (h9:g.length ≤ 8192) (hq:0 ≤ q.2.2.1∧q.2.2.1 ≤ 1073741824) (ht:timeIn g[i]) (ih:Int→List FO→Option (List FO)) (L:List FO) (st en:Int) (xs:List IT) (hL:L.length ≤ 8192) (hg:xs.length ≤ 8192) :
  spec_sessions_j1 n q g (i:Int) ih (L ++ [((st,en),xs)])=ih ((i + 1:Nat):Int) (L ++ [((st,g[i].2.1 + q.2.2.1),xs ++ [g[i]])]):=by
 rw [spec_sessions_j1_S]
 have e1:i64.wrap (((L ++ [((st,en),xs)]).length:Int) - 1)=(L.length:Int):=by
  rw [wrapOK] <;> simp <;> omega
 have e2:(L ++ [((st,en),xs)]).getD L.length (((0:Int),(0:Int)),Go.Ev.nl IT)=((st,en),xs):=by simp [List.getD]
 have e4:g.getD i ((0:Int),(0:Int),(0:Int),(0:Int))=g[i]:=getLt hi _
 have e3:((List.replicate (1:Nat) ((0:Int),(0:Int),(0:Int),(0:Int))).set (0:Nat) g[i])=[g[i]]:=rfl
 have c1:(0:Int) ≤ (L.length:Int)∧(L.length:Int) < ((L ++ [((st,en),xs)]).length:Int):=by simp; omega
 have c2:(xs.length + [g[i]].length) * 32 ≤ 140737488355328∧0 < 32:=by simp; omega
 have e5:i64.wrap (g[i].2.1 + q.2.2.1)=g[i].2.1 + q.2.2.1:=by
  obtain ⟨a,b⟩:=ht
  exact wrapOK (by omega) (by omega)
 have e6:∀ v:FO,(L ++ [((st,en),xs)]).set L.length v=L ++ [v]:=by
  intro v
  rw [List.set_append_right _ _ (Nat.le_refl _)]
  simp
 have e7:∀ v w:FO,(L ++ [v]).set L.length w=L ++ [w]:=by
  intro v w
  rw [List.set_append_right _ _ (Nat.le_refl _)]
  simp
 have e8:∀ v:FO,(L ++ [v]).getD L.length (((0:Int),(0:Int)),Go.Ev.nl IT)=v:=by intro v; simp [List.getD]
 simp only [e1,Int.toNat_natCast,e4,e3,e2,e5]
 simp only [if_pos c1,if_pos c2,if_true,e6,e7,e8]
 rw [wrapS (by omega)]
theorem ses_l0 (n:Nat) (q:QY) (g:List IT) (h9:g.length ≤ 8192) (hq:0 ≤ q.2.2.1∧q.2.2.1 ≤ 1073741824) (ht:∀ x ∈ g,timeIn x):∀ (k m i:Nat),i + k=g.length→k < m→spec_sessions_l0 n q g m (i:Int) (sesGo g q.2.2.1 i)=some (sesOf q g):=by
 intro k
 induction k with
 | zero =>
  intro m i hi hm
  obtain ⟨m,rfl,hm⟩:=sucM hm
  rw [spec_sessions_l0_S]
  have h1:¬ ((i:Int) < (g.length:Int)):=by omega
  have:i=g.length:=by omega
  subst this
  simp only [h1,decide_false,cond_false]
  rfl
 | succ k ih =>
  intro m i hi hm
  obtain ⟨m,rfl,hm⟩:=sucM hm
  have hlt:i < g.length:=by omega
  have h1:((i:Int) < (g.length:Int)):=by omega
  have h2:(0:Int) ≤ (i:Int)∧(i:Int) < (g.length:Int):=by omega
  have ih':=ih m (i + 1) (by omega) (by omega)
  have hl:=sesGo_len g q.2.2.1 i
  have hti:=ht g[i] (List.getElem_mem hlt)
  have e4:g.getD i ((0:Int),(0:Int),(0:Int),(0:Int))=g[i]:=getLt hlt _
  have c1:((sesGo g q.2.2.1 i).length + [((g[i].2.1,(0:Int)),Go.Ev.nl IT)].length) * 40 ≤ 140737488355328∧0 < 40:=by simp; omega
  rw [spec_sessions_l0_S]
  simp only [show decide ((i:Int) < (g.length:Int))=true by simpa using h1,cond_true,if_pos h2,Int.toNat_natCast,e4,if_pos c1]
  have new:spec_sessions_j1 n q g (i:Int) (spec_sessions_l0 n q g m) (sesGo g q.2.2.1 i ++ [((g[i].2.1,(0:Int)),Go.Ev.nl IT)])=spec_sessions_l0 n q g m ((i + 1:Nat):Int) (sesAdd (sesGo g q.2.2.1 i) q.2.2.1 (g.getD i IT0) true):=by
   rw [ses_j1 n q g i hlt h9 hq hti _ _ _ _ _ (by omega) (by simp [nl]),getLt hlt]
   simp [sesAdd,nl]
  have e0:sesGo g q.2.2.1 (i + 1)=sesAdd (sesGo g q.2.2.1 i) q.2.2.1 (g.getD i IT0) (newSes g q.2.2.1 i):=rfl
  by_cases h0:i=0
  ·subst h0
   have:newSes g q.2.2.1 0=true:=by simp [newSes]
   rw [e0,this] at ih'
   rw [show (((0:Nat):Int) == 0)=true from rfl]
   simp only [cond_true]
   rw [new,ih']
  ·have h3:((i:Int) == 0)=false:=by simp [h0]
   have h4:i64.wrap ((i:Int) - 1)=((i - 1:Nat):Int):=wrapP (by omega) (by omega)
   have h5:(0:Int) ≤ ((i - 1:Nat):Int)∧((i - 1:Nat):Int) < (g.length:Int):=by omega
   have hlt1:i - 1 < g.length:=by omega
   have e5:g.getD (i - 1) ((0:Int),(0:Int),(0:Int),(0:Int))=g[i - 1]:=getLt hlt1 _
   have ht1:=ht g[i - 1] (List.getElem_mem hlt1)
   have e6:i64.wrap (g[i].2.1 - g[i - 1].2.1)=g[i].2.1 - g[i - 1].2.1:=by
    obtain ⟨a,b⟩:=hti
    obtain ⟨c,d⟩:=ht1
    exact wrapOK (by omega) (by omega)
   simp only [h3,cond_false,h4,if_pos h5,Int.toNat_natCast,e5,e6]
   have hb:newSes g q.2.2.1 i=decide (g[i].2.1 - g[i - 1].2.1 ≥ q.2.2.1):=by
    simp only [newSes]
    rw [show (i == 0)=false by simp [h0],Bool.false_or,getLt hlt,getLt hlt1]
   rw [← hb]
   cases hn:newSes g q.2.2.1 i with
   | true =>
    rw [e0,hn] at ih'
    simp only [cond_true]
    rw [new,ih']
   | false =>
    rw [e0,hn] at ih'
    simp only [cond_false]
    have hs:=last_split (sesGo_ne g q.2.2.1 i (by omega)) FO0
    have hmem:(sesGo g q.2.2.1 i).getLast?.getD FO0 ∈ sesGo g q.2.2.1 i:=by
     rw [List.getLast?_eq_some_getLast (sesGo_ne g q.2.2.1 i (by omega))]
     exact List.getLast_mem _
    have hg:=sesGo_mem g q.2.2.1 i (by omega) _ hmem
    have hd:(sesGo g q.2.2.1 i).dropLast.length ≤ 8192:=by simp; omega
    have:=ses_j1 n q g i hlt h9 hq hti (spec_sessions_l0 n q g m) (sesGo g q.2.2.1 i).dropLast ((sesGo g q.2.2.1 i).getLast?.getD FO0).1.1 ((sesGo g q.2.2.1 i).getLast?.getD FO0).1.2 ((sesGo g q.2.2.1 i).getLast?.getD FO0).2 hd (by omega)
    have e1:sesGo g q.2.2.1 i=(sesGo g q.2.2.1 i).dropLast ++ [((((sesGo g q.2.2.1 i).getLast?.getD FO0).1.1,((sesGo g q.2.2.1 i).getLast?.getD FO0).1.2),((sesGo g q.2.2.1 i).getLast?.getD FO0).2)]:=hs
    rw [getLt hlt] at ih'
    conv=>lhs; rw [e1]
    rw [this,← ih']
    rfl
theorem sessions_eq (n:Nat) (q:QY) (g:List IT) (h9:g.length ≤ 8192) (hn:8192 < n) (hq:0 ≤ q.2.2.1∧q.2.2.1 ≤ 1073741824) (ht:∀ x ∈ g,timeIn x):spec_sessions n q g=some (sesOf q g):=by
 rw [spec_sessions_S]
 exact ses_l0 n q g h9 hq ht g.length n 0 (by omega) (by omega)
theorem floor_spec (a b:Int) (hb:0 < b):(if a.tmod b < 0 then a.tdiv b - 1 else a.tdiv b)=a / b:=by
 have h1:=Int.mul_tdiv_add_tmod a b
 have h2:=Int.tmod_lt_of_pos a hb
 have h3:-b < a.tmod b:=by
  have:=Int.lt_tmod_of_pos a hb
  exact this
 by_cases h:a.tmod b < 0
 ·rw [if_pos h]
  refine (Int.ediv_emod_unique (r:=a.tmod b + b) hb |>.2 ⟨?_,by omega,by omega⟩).1.symm
  rw [Int.mul_sub,Int.mul_one]; omega
 ·rw [if_neg h]
  exact (Int.ediv_emod_unique (r:=a.tmod b) hb |>.2 ⟨by omega,by omega,h2⟩).1.symm
theorem ediv_in {a b:Int} (hb:0 < b) (h1:-4398046511104 ≤ a) (h2:a ≤ 4398046511104):-4398046511104 ≤ a / b∧a / b ≤ 4398046511104:=by
 constructor
 ·exact (Int.le_ediv_iff_mul_le hb).2 (by omega)
 ·rcases Int.lt_or_le a 0 with h | h
  ·have:=Int.ediv_neg_of_neg_of_pos h hb; omega
  ·have:=Int.ediv_le_self b h; omega
theorem Div_eq (n:Nat) (a b:Int) (hb:1 ≤ b) (h1:-4398046511104 ≤ a) (h2:a ≤ 4398046511104):floor_Div n a b=some (a / b,0):=by
 rw [floor_Div_S]
 have e1:¬ b < 1:=by omega
 have e2:b ≠ 0:=by omega
 have hs:=floor_spec a b (by omega)
 have hd:=ediv_in (a:=a) (b:=b) (by omega) h1 h2
 simp only [floor_Div_j0_S,e1,decide_false,cond_false,ne_eq,e2,not_false_eq_true,decide_true,cond_true]
 by_cases h:a.tmod b < 0
 ·rw [if_pos h] at hs
  have w1:i64.wrap (a.tdiv b)=a.tdiv b:=wrapOK (by omega) (by omega)
  have w2:i64.wrap (a.tdiv b - 1)=a.tdiv b - 1:=wrapOK (by omega) (by omega)
  have w3:i64.wrap (a / b)=a / b:=wrapOK (by omega) (by omega)
  simp only [h,decide_true,cond_true,w1,w2,hs,w3]
 ·rw [if_neg h] at hs
  have w1:i64.wrap (a.tdiv b)=a.tdiv b:=wrapOK (by omega) (by omega)
  have w3:i64.wrap (a / b)=a / b:=wrapOK (by omega) (by omega)
  simp only [h,decide_false,cond_false,w1,hs,w3]
def stepOf (q:QY):Int:=if q.1=1 then q.2.2.2.1 else q.2.2.1
theorem Step_eq (n:Nat) (q:QY):window_Step n q=some (stepOf q):=by
 unfold window_Step stepOf
 by_cases h:q.1=1
 ·simp [h]
 ·rw [show (q.1 == 1)=false by simp [h],if_neg h]; rfl
structure FixQ (q:QY):Prop where
 step:1 ≤ stepOf q∧stepOf q ≤ q.2.2.1
 size:q.2.2.1 ≤ 1073741824
theorem FixQ.of {q:QY} (h:qMay q=true) (h2:q.1 ≠ 2):FixQ q:=by
 simp only [qMay,Bool.and_eq_true,decide_eq_true_eq] at h
 obtain ⟨h3,h4,_,h5⟩:=h
 refine ⟨?_,h4⟩
 unfold stepOf
 by_cases k:q.1=1
 ·rw [if_pos k] at h5 ⊢
  simp only [slidingB,Bool.and_eq_true,decide_eq_true_eq] at h5
  exact ⟨h5.1,h5.2.1⟩
 ·rw [if_neg k]
  exact ⟨h3,Int.le_refl _⟩
def firstK (q:QY) (t:Int):Int:=(t - q.2.2.1) / stepOf q + 1
def cntK (q:QY) (t:Int):Nat:=(t / stepOf q - (t - q.2.2.1) / stepOf q).toNat
def spanAt (q:QY) (k:Int):Int×Int:=(k * stepOf q,k * stepOf q + q.2.2.1)
def spansOf (q:QY) (t:Int):List (Int×Int):=(List.range (cntK q t)).map fun j:Nat=>spanAt q (firstK q t + j)
theorem mul_in {q:QY} (hq:FixQ q) {k:Int} {t:Int} (ht:-1099511627776 ≤ t∧t ≤ 1099511627776) (h1:(t - q.2.2.1) / stepOf q ≤ k) (h2:k ≤ t / stepOf q + 1) :
  t - q.2.2.1 - stepOf q < k * stepOf q∧k * stepOf q ≤ t + stepOf q:=by
 have hs:0 < stepOf q:=by have:=hq.step; omega
 constructor
 ·have a:=Int.lt_ediv_add_one_mul_self (t - q.2.2.1) hs
  have b:(t - q.2.2.1) / stepOf q * stepOf q ≤ k * stepOf q:=Int.mul_le_mul_of_nonneg_right h1 (by omega)
  rw [Int.add_mul,Int.one_mul] at a
  omega
 ·have a:=Int.ediv_mul_le t (show stepOf q ≠ 0 by omega)
  have b:k * stepOf q ≤ (t / stepOf q + 1) * stepOf q:=Int.mul_le_mul_of_nonneg_right h2 (by omega)
  rw [Int.add_mul,Int.one_mul] at b
  omega
theorem LastOf_eq (n:Nat) (q:QY) (hq:FixQ q) (t:Int) (h1:-2199023255552 ≤ t) (h2:t ≤ 2199023255552):window_LastOf n q t=some (t / stepOf q * stepOf q):=by
 have hs:=hq.step
 rw [window_LastOf_S,Step_eq]
 simp only [Option.bind_some]
 rw [Div_eq n t (stepOf q) hs.1 (by omega) (by omega)]
 simp only [Option.bind_some]
 have a:=Int.ediv_mul_le t (show stepOf q ≠ 0 by omega)
 have b:=Int.lt_ediv_add_one_mul_self t (show 0 < stepOf q by omega)
 rw [Int.add_mul,Int.one_mul] at b
 have hsz:=hq.size
 rw [wrapOK (by omega) (by omega)]
theorem FirstOf_eq (n:Nat) (q:QY) (hq:FixQ q) (t:Int) (ht:-1099511627776 ≤ t∧t ≤ 1099511627776):window_FirstOf n q t=some (firstK q t * stepOf q):=by
 have hs:=hq.step
 have hsz:=hq.size
 rw [window_FirstOf_S]
 rw [wrapOK (x:=t - q.2.2.1) (by omega) (by omega),LastOf_eq n q hq _ (by omega) (by omega)]
 simp only [Option.bind_some,Step_eq]
 have a:=Int.ediv_mul_le (t - q.2.2.1) (show stepOf q ≠ 0 by omega)
 have b:=Int.lt_ediv_add_one_mul_self (t - q.2.2.1) (show 0 < stepOf q by omega)
 rw [Int.add_mul,Int.one_mul] at b
 rw [wrapOK (by omega) (by omega),firstK,Int.add_mul,Int.one_mul]
theorem ediv_41 {a b:Int} (hb:0 < b) (h1:-2199023255552 ≤ a) (h2:a ≤ 2199023255552):-2199023255552 ≤ a / b∧a / b ≤ 2199023255552:=by
 constructor
 ·exact (Int.le_ediv_iff_mul_le hb).2 (by omega)
 ·rcases Int.lt_or_le a 0 with h | h
  ·have:=Int.ediv_neg_of_neg_of_pos h hb; omega
  ·have:=Int.ediv_le_self b h; omega
theorem spans_range (q:QY) (t:Int) (j:Nat):(List.range (j + 1)).map (fun j:Nat=>spanAt q (firstK q t + j))=(List.range j).map (fun j:Nat=>spanAt q (firstK q t + j)) ++ [spanAt q (firstK q t + j)]:=by
 rw [List.range_succ,List.map_append]; rfl
theorem Of_l0 (n:Nat) (q:QY) (hq:FixQ q) (t:Int) (ht:-1099511627776 ≤ t∧t ≤ 1099511627776):∀ (k m j:Nat),j + k=cntK q t→k < m →
  window_Of_l0 n c35.F c82.F c83.F c84.F q t m ((firstK q t + j) * stepOf q) ((List.range j).map fun j:Nat=>spanAt q (firstK q t + j))=some (spansOf q t,0):=by
 have hs:=hq.step
 have hsz:=hq.size
 have d1:=ediv_41 (a:=t) (b:=stepOf q) (by omega) (by omega) (by omega)
 have d2:=ediv_41 (a:=t - q.2.2.1) (b:=stepOf q) (by omega) (by omega) (by omega)
 intro k
 induction k with
 | zero =>
  intro m j hi hm
  obtain ⟨m,rfl,hm⟩:=sucM hm
  rw [window_Of_l0_S]
  have h1:¬ ((firstK q t + j) * stepOf q ≤ t):=by
   rw [← Int.le_ediv_iff_mul_le (show 0 < stepOf q by omega)]
   simp only [firstK,cntK] at hi ⊢
   omega
  have:j=cntK q t:=by omega
  subst this
  simp only [h1,decide_false,cond_false]
  rfl
 | succ k ih =>
  intro m j hi hm
  obtain ⟨m,rfl,hm⟩:=sucM hm
  have hk:firstK q t + j ≤ t / stepOf q:=by simp only [firstK,cntK] at hi ⊢; omega
  have h1:(firstK q t + j) * stepOf q ≤ t:=by
   rw [← Int.le_ediv_iff_mul_le (show 0 < stepOf q by omega)]; exact hk
  have hb:=mul_in hq (k:=firstK q t + j) ht (by simp only [firstK]; omega) (by omega)
  have ih':=ih m (j + 1) (by omega) (by omega)
  rw [spans_range] at ih'
  have hj:j ≤ 4398046511104:=by simp only [cntK] at hi; omega
  have e1:i64.wrap ((firstK q t + j) * stepOf q + q.2.2.1)=(firstK q t + j) * stepOf q + q.2.2.1:=wrapOK (by omega) (by omega)
  have e2:i64.wrap ((firstK q t + j) * stepOf q + stepOf q)=(firstK q t + ((j + 1:Nat):Int)) * stepOf q:=by
   have e3:(firstK q t + ((j + 1:Nat):Int)) * stepOf q=(firstK q t + j) * stepOf q + stepOf q:=by
    rw [show firstK q t + ((j + 1:Nat):Int)=(firstK q t + j) + 1 by omega,Int.add_mul,Int.one_mul]
   rw [e3]
   exact wrapOK (by omega) (by omega)
  have c1:(((List.range j).map fun j:Nat=>spanAt q (firstK q t + j)).length + ((List.replicate (1:Nat) ((0:Int),(0:Int))).set (0:Nat) ((firstK q t + j) * stepOf q,(firstK q t + j) * stepOf q + q.2.2.1)).length) * 16 ≤ 140737488355328∧0 < 16:=by simp; omega
  rw [window_Of_l0_S]
  simp only [h1,decide_true,cond_true,e1,Step_eq,Option.bind_some,e2]
  rw [if_pos c1]
  exact ih'
theorem TimeMay_eq (n:Nat) (t:Int) (ht:-1099511627776 ≤ t∧t ≤ 1099511627776):window_TimeMay n t=some true:=by
 unfold window_TimeMay
 simp [ht.1,ht.2,GE.ge]
theorem Of_eq (n:Nat) (hn:9007199254740992 < n) (q:QY) (hm:qMay q=true) (h2:q.1 ≠ 2) (t:Int) (ht:-1099511627776 ≤ t∧t ≤ 1099511627776):window_Of n q t=some (spansOf q t,0):=by
 have hq:=FixQ.of hm h2
 have hs:=hq.step
 have hsz:=hq.size
 have d1:=ediv_41 (a:=t) (b:=stepOf q) (by omega) (by omega) (by omega)
 have d2:=ediv_41 (a:=t - q.2.2.1) (b:=stepOf q) (by omega) (by omega) (by omega)
 have h:=Of_l0 n q hq t ht (cntK q t) n 0 (by omega) (by simp only [cntK]; omega)
 rw [window_Of_S,wMay_eq n (by omega),hm,TimeMay_eq n t ht,FirstOf_eq n q hq t ht]
 rw [show ((0:Nat):Int)=0 from rfl,Int.add_zero] at h
 have h2':(q.1 == 2)=false:=by simp [h2]
 simp only [Option.bind_some,Bool.not_true,cond_false,h2']
 exact h
def putF (s:Int×Int) (x:IT):List FO→List FO
 | []=>[(s,[x])]
 | f :: fs=>if f.1.1 < s.1 then f :: putF s x fs else (f.1,f.2 ++ [x]) :: fs
def posF (s:Int×Int):List FO→Nat
 | []=>0
 | f :: fs=>if f.1.1 < s.1 then posF s fs + 1 else 0
theorem posF_le (s:Int×Int):∀ l:List FO,posF s l ≤ l.length
 | []=>Nat.le_refl _
 | f :: fs=>by
  have:=posF_le s fs
  simp only [posF,List.length_cons]
  split <;> omega
theorem posF_lt {s:Int×Int}:∀ {l:List FO} {j:Nat} (hj:j < posF s l) (hl:j < l.length),l[j].1.1 < s.1
 | [],j,hj,hl=>by simp at hl
 | f :: fs,0,hj,hl=>by
  simp only [posF] at hj
  split at hj
  ·assumption
  ·omega
 | f :: fs,j + 1,hj,hl=>by
  simp only [posF] at hj
  split at hj
  ·have:=posF_lt (s:=s) (l:=fs) (j:=j) (by omega) (by simpa using hl)
   simpa using this
  ·omega
theorem posF_at {s:Int×Int}:∀ {l:List FO} (hl:posF s l < l.length),¬ l[posF s l].1.1 < s.1
 | [],hl=>by simp [posF] at hl
 | f :: fs,hl=>by
  by_cases h:f.1.1 < s.1
  ·have e:posF s (f :: fs)=posF s fs + 1:=by simp [posF,h]
   have:=posF_at (l:=fs) (s:=s) (by rw [e] at hl; simpa using hl)
   simp only [e,List.getElem_cons_succ]
   exact this
  ·have e:posF s (f :: fs)=0:=by simp [posF,h]
   simp only [e,List.getElem_cons_zero]
   exact h
theorem putF_end {s:Int×Int} {x:IT}:∀ {l:List FO},posF s l=l.length→putF s x l=l ++ [(s,[x])]
 | [],_=>rfl
 | f :: fs,h=>by
  by_cases hf:f.1.1 < s.1
  ·have e:posF s (f :: fs)=posF s fs + 1:=by simp [posF,hf]
   have:=putF_end (s:=s) (x:=x) (l:=fs) (by rw [e] at h; simpa using h)
   simp [putF,hf,this]
  ·have e:posF s (f :: fs)=0:=by simp [posF,hf]
   rw [e] at h; simp at h
theorem putF_at {s:Int×Int} {x:IT}:∀ {l:List FO} (h:posF s l < l.length),putF s x l=l.set (posF s l) (l[posF s l].1,l[posF s l].2 ++ [x])
 | [],h=>by simp [posF] at h
 | f :: fs,h=>by
  by_cases hf:f.1.1 < s.1
  ·have e:posF s (f :: fs)=posF s fs + 1:=by simp [posF,hf]
   have:=putF_at (s:=s) (x:=x) (l:=fs) (by rw [e] at h; simpa using h)
   simp only [putF,hf,if_true,this,e,List.set_cons_succ,List.getElem_cons_succ]
  ·have e:posF s (f :: fs)=0:=by simp [posF,hf]
   simp only [putF,hf,if_false,e,List.set_cons_zero,List.getElem_cons_zero]
theorem putF_len (s:Int×Int) (x:IT):∀ l:List FO,l.length ≤ (putF s x l).length∧(putF s x l).length ≤ l.length + 1
 | []=>by simp [putF]
 | f :: fs=>by
  have:=putF_len s x fs
  simp only [putF]
  split <;> simp <;> omega
theorem putF_span {s:Int×Int} {x:IT}:∀ {l:List FO} {j:Nat} (hj:j < l.length) (hj':j < (putF s x l).length),(putF s x l)[j].1=l[j].1
 | [],j,hj,_=>by simp at hj
 | f :: fs,0,_,hj'=>by
  by_cases hf:f.1.1 < s.1 <;> simp [putF,hf]
 | f :: fs,j + 1,hj,hj'=>by
  by_cases hf:f.1.1 < s.1
  ·simp only [putF,hf,if_true,List.getElem_cons_succ]
   exact putF_span (by simpa using hj) _
  ·simp [putF,hf]
theorem putF_items (s:Int×Int) (x:IT) (c:Nat):∀ {l:List FO},(∀ f ∈ l,f.2.length ≤ c)→∀ f ∈ putF s x l,f.2.length ≤ c + 1
 | [],h=>by simp [putF]
 | g :: fs,h=>by
  intro f hf
  simp only [putF] at hf
  split at hf
  ·rcases List.mem_cons.1 hf with rfl | hf
   ·have:=h f List.mem_cons_self; omega
   ·exact putF_items s x c (fun f hf=>h f (List.mem_cons_of_mem _ hf)) f hf
  ·rcases List.mem_cons.1 hf with rfl | hf
   ·have:=h g List.mem_cons_self; simp; omega
   ·have:=h f (List.mem_cons_of_mem _ hf); omega
theorem folds_j4 (n:Nat) (q:QY) (low:Int) (xs:List IT) (a b c:Int) (j:Nat) (hj:j < 1073741824) (x:IT) (sp:List (Int×Int)) (p:Nat) (ih:QY→Int→Int→List IT→Int→Int→Int→Int→List FO→Int→Int→Int→Int→List (Int×Int)→Option (List FO)) (l:List FO) (hp:p < l.length) (hi:l[p].2.length ≤ 1073741824) :
  spec_folds_j4 n c74.F c75.F q low xs a b c (j:Int) x.1 x.2.1 x.2.2.1 x.2.2.2 sp (p:Int) ih l=ih q low (p:Int) xs a b c ((j + 1:Nat):Int) (l.set p (l[p].1,l[p].2 ++ [x])) x.1 x.2.1 x.2.2.1 x.2.2.2 sp:=by
 rw [spec_folds_j4_S]
 have c1:(0:Int) ≤ (p:Int)∧(p:Int) < (l.length:Int):=by omega
 have e1:l.getD p (((0:Int),(0:Int)),Go.Ev.nl IT)=l[p]:=getLt hp _
 have e2:((List.replicate (1:Nat) ((0:Int),(0:Int),(0:Int),(0:Int))).set (0:Nat) (x.1,x.2.1,x.2.2.1,x.2.2.2))=[x]:=rfl
 have c2:(l[p].2.length + [x].length) * 32 ≤ 140737488355328∧0 < 32:=by simp; omega
 simp only [Int.toNat_natCast,e1,e2,if_pos c1,if_pos c2,if_true,wrapS (i:=j) (by omega)]
theorem folds_l3 (n:Nat) (q:QY) (low:Int) (xs:List IT) (a b c:Int) (j:Nat) (hj:j < 1073741824) (x:IT) (sp:List (Int×Int)) (s:Int×Int) (hs:sp.getD j (0,0)=s) (ih:QY→Int→Int→List IT→Int→Int→Int→Int→List FO→Int→Int→Int→Int→List (Int×Int)→Option (List FO)) (l:List FO) (hll:l.length ≤ 1073741824) (hi:∀ f ∈ l,f.2.length ≤ 1073741823) :
  ∀ (k m p:Nat),p + k=posF s l→k < m→spec_folds_l3 n c74.F c75.F q low xs a b c (j:Int) l x.1 x.2.1 x.2.2.1 x.2.2.2 sp ih m (p:Int)=ih q low (posF s l:Int) xs a b c ((j + 1:Nat):Int) (putF s x l) x.1 x.2.1 x.2.2.1 x.2.2.2 sp:=by
 have hpl:=posF_le s l
 have hs':sp.getD (j:Int).toNat ((0:Int),(0:Int))=s:=by rw [Int.toNat_natCast]; exact hs
 intro k
 induction k with
 | zero =>
  intro m p hp hm
  obtain ⟨m,rfl,hm⟩:=sucM hm
  rw [Nat.add_zero] at hp
  rw [spec_folds_l3_S]
  simp only [hs']
  rcases Nat.lt_or_ge p l.length with hlt | hge
  ·have h1:(0:Int) ≤ (p:Int)∧(p:Int) < (l.length:Int):=by omega
   have hd:decide ((p:Int) < (l.length:Int))=true:=by simpa using h1.2
   have hne:((p:Int) == (l.length:Int))=false:=by simp; omega
   have hat:=posF_at (s:=s) (l:=l) (by omega)
   have e1:l.getD (p:Int).toNat (((0:Int),(0:Int)),Go.Ev.nl IT)=l[p]:=by rw [Int.toNat_natCast,getLt hlt]
   have h3:¬ l[p].1.1 < s.1:=by subst hp; exact hat
   simp only [hd,cond_true,if_pos h1,e1,h3,decide_false,cond_false,hne]
   rw [folds_j4 n q low xs a b c j hj x sp p ih l hlt (by have:=hi _ (List.getElem_mem hlt); omega)]
   subst hp
   rw [putF_at (by omega)]
  ·have hpe:p=l.length:=by omega
   have hd:decide ((p:Int) < (l.length:Int))=false:=by simp; omega
   have heq:((p:Int) == (l.length:Int))=true:=by simp; omega
   have c1:(l.length + [(s,Go.Ev.nl IT)].length) * 40 ≤ 140737488355328∧0 < 40:=by simp; omega
   simp only [hd,cond_false,heq,cond_true,if_pos c1]
   have hlt:p < (l ++ [(s,Go.Ev.nl IT)]).length:=by simp; omega
   have e2:(l ++ [(s,Go.Ev.nl IT)])[p]=(s,[]):=by subst hpe; simp [nl]
   rw [folds_j4 n q low xs a b c j hj x sp p ih (l ++ [(s,Go.Ev.nl IT)]) hlt (by rw [e2]; simp)]
   have e3:(l ++ [(s,Go.Ev.nl IT)]).set p (s,[x])=l ++ [(s,[x])]:=by
    subst hpe
    rw [List.set_append_right _ _ (Nat.le_refl _)]; simp
   rw [e2]
   simp only [List.nil_append]
   rw [e3,putF_end (by omega),hp]
 | succ k ihk =>
  intro m p hp hm
  obtain ⟨m,rfl,hm⟩:=sucM hm
  have hlt:p < l.length:=by omega
  rw [spec_folds_l3_S]
  simp only [hs']
  have h1:(0:Int) ≤ (p:Int)∧(p:Int) < (l.length:Int):=by omega
  have hd:decide ((p:Int) < (l.length:Int))=true:=by simpa using h1.2
  have e1:l.getD (p:Int).toNat (((0:Int),(0:Int)),Go.Ev.nl IT)=l[p]:=by rw [Int.toNat_natCast,getLt hlt]
  have h3:l[p].1.1 < s.1:=posF_lt (by omega) hlt
  simp only [hd,cond_true,if_pos h1,e1,h3,decide_true,wrapS (i:=p) (by omega)]
  exact ihk m (p + 1) (by omega) (by omega)
theorem folds_j7 (n:Nat) (q:QY) (low:Int) (xs:List IT) (a b c:Int) (j:Nat) (hj:j < 1073741824) (x:IT) (sp:List (Int×Int)) (p:Nat) (ih:QY→Int→Int→List IT→Int→Int→Int→Int→List FO→Int→Int→Int→Int→List (Int×Int)→Option (List FO)) (l:List FO) (hp:p < l.length) (hi:l[p].2.length ≤ 1073741824) :
  spec_folds_j7 n c74.F c75.F q low xs a b c (j:Int) x.1 x.2.1 x.2.2.1 x.2.2.2 sp (p:Int) ih l=ih q low (p:Int) xs a b c ((j + 1:Nat):Int) (l.set p (l[p].1,l[p].2 ++ [x])) x.1 x.2.1 x.2.2.1 x.2.2.2 sp:=by
 rw [spec_folds_j7_S]
 have c1:(0:Int) ≤ (p:Int)∧(p:Int) < (l.length:Int):=by omega
 have e1:l.getD p (((0:Int),(0:Int)),Go.Ev.nl IT)=l[p]:=getLt hp _
 have e2:((List.replicate (1:Nat) ((0:Int),(0:Int),(0:Int),(0:Int))).set (0:Nat) (x.1,x.2.1,x.2.2.1,x.2.2.2))=[x]:=rfl
 have c2:(l[p].2.length + [x].length) * 32 ≤ 140737488355328∧0 < 32:=by simp; omega
 simp only [Int.toNat_natCast,e1,e2,if_pos c1,if_pos c2,if_true,wrapS (i:=j) (by omega)]
theorem folds_l6 (n:Nat) (q:QY) (low:Int) (xs:List IT) (a b c:Int) (j:Nat) (hj:j < 1073741824) (x:IT) (sp:List (Int×Int)) (s:Int×Int) (hs:sp.getD j (0,0)=s) (ih:QY→Int→Int→List IT→Int→Int→Int→Int→List FO→Int→Int→Int→Int→List (Int×Int)→Option (List FO)) (l:List FO) (hll:l.length ≤ 1073741824) (hi:∀ f ∈ l,f.2.length ≤ 1073741823) :
  ∀ (k m p:Nat),p + k=posF s l→k < m→spec_folds_l6 n c74.F c75.F q low xs a b c (j:Int) l x.1 x.2.1 x.2.2.1 x.2.2.2 sp ih m (p:Int)=ih q low (posF s l:Int) xs a b c ((j + 1:Nat):Int) (putF s x l) x.1 x.2.1 x.2.2.1 x.2.2.2 sp:=by
 have hpl:=posF_le s l
 have hs':sp.getD (j:Int).toNat ((0:Int),(0:Int))=s:=by rw [Int.toNat_natCast]; exact hs
 intro k
 induction k with
 | zero =>
  intro m p hp hm
  obtain ⟨m,rfl,hm⟩:=sucM hm
  rw [Nat.add_zero] at hp
  rw [spec_folds_l6_S]
  simp only [hs']
  rcases Nat.lt_or_ge p l.length with hlt | hge
  ·have h1:(0:Int) ≤ (p:Int)∧(p:Int) < (l.length:Int):=by omega
   have hd:decide ((p:Int) < (l.length:Int))=true:=by simpa using h1.2
   have hne:((p:Int) == (l.length:Int))=false:=by simp; omega
   have hat:=posF_at (s:=s) (l:=l) (by omega)
   have e1:l.getD (p:Int).toNat (((0:Int),(0:Int)),Go.Ev.nl IT)=l[p]:=by rw [Int.toNat_natCast,getLt hlt]
   have h3:¬ l[p].1.1 < s.1:=by subst hp; exact hat
   simp only [hd,cond_true,if_pos h1,e1,h3,decide_false,cond_false,hne]
   rw [folds_j7 n q low xs a b c j hj x sp p ih l hlt (by have:=hi _ (List.getElem_mem hlt); omega)]
   subst hp
   rw [putF_at (by omega)]
  ·have hpe:p=l.length:=by omega
   have hd:decide ((p:Int) < (l.length:Int))=false:=by simp; omega
   have heq:((p:Int) == (l.length:Int))=true:=by simp; omega
   have c1:(l.length + [(s,Go.Ev.nl IT)].length) * 40 ≤ 140737488355328∧0 < 40:=by simp; omega
   simp only [hd,cond_false,heq,cond_true,if_pos c1]
   have hlt:p < (l ++ [(s,Go.Ev.nl IT)]).length:=by simp; omega
   have e2:(l ++ [(s,Go.Ev.nl IT)])[p]=(s,[]):=by subst hpe; simp [nl]
   rw [folds_j7 n q low xs a b c j hj x sp p ih (l ++ [(s,Go.Ev.nl IT)]) hlt (by rw [e2]; simp)]
   have e3:(l ++ [(s,Go.Ev.nl IT)]).set p (s,[x])=l ++ [(s,[x])]:=by
    subst hpe
    rw [List.set_append_right _ _ (Nat.le_refl _)]; simp
   rw [e2]
   simp only [List.nil_append]
   rw [e3,putF_end (by omega),hp]
 | succ k ihk =>
  intro m p hp hm
  obtain ⟨m,rfl,hm⟩:=sucM hm
  have hlt:p < l.length:=by omega
  rw [spec_folds_l6_S]
  simp only [hs']
  have h1:(0:Int) ≤ (p:Int)∧(p:Int) < (l.length:Int):=by omega
  have hd:decide ((p:Int) < (l.length:Int))=true:=by simpa using h1.2
  have e1:l.getD (p:Int).toNat (((0:Int),(0:Int)),Go.Ev.nl IT)=l[p]:=by rw [Int.toNat_natCast,getLt hlt]
  have h3:l[p].1.1 < s.1:=posF_lt (by omega) hlt
  simp only [hd,cond_true,if_pos h1,e1,h3,decide_true,wrapS (i:=p) (by omega)]
  exact ihk m (p + 1) (by omega) (by omega)
theorem posF_mono {s s':Int×Int} (h:s.1 ≤ s'.1) (x:IT):∀ l:List FO,posF s l ≤ posF s' (putF s x l)
 | []=>by simp [posF]
 | f :: fs=>by
  have ih:=posF_mono h x fs
  by_cases hf:f.1.1 < s.1
  ·have h2:f.1.1 < s'.1:=by omega
   simp [posF,putF,hf,h2,ih]
  ·simp [posF,hf]
def addAll (x:IT) (l:List FO) (sp:List (Int×Int)):List FO:=sp.foldl (fun o s=>putF s x o) l
theorem folds_l2 (n:Nat) (hn:4294967296 < n) (q:QY) (low:Int) (xs:List IT) (a b:Int) (hb:0 ≤ b∧b ≤ 1073741824) (x:IT) (sp:List (Int×Int)) (hsp:sp.Pairwise fun s s'=>s.1 < s'.1) (hs9:sp.length ≤ 1000) (ih:QY→Int→List IT→Int→Int→List FO→Option (List FO)) :
  ∀ (k m j at0:Nat) (l:List FO),j + k=sp.length→k < m→l.length + k ≤ 1073741824→(∃ c,(∀ f ∈ l,f.2.length ≤ c)∧c + k ≤ 1073741823)→(∀ h:j < sp.length,at0 ≤ posF sp[j] l) →
   spec_folds_l2 n c74.F c75.F ih m q low (at0:Int) xs a b (sp.length:Int) (j:Int) l x.1 x.2.1 x.2.2.1 x.2.2.2 sp=ih q low xs a (b + 1) (addAll x l (sp.drop j)):=by
 intro k
 induction k with
 | zero =>
  intro m j at0 l hj hm hl hc hat
  obtain ⟨m,rfl,hm⟩:=sucM hm
  rw [spec_folds_l2_S]
  have hd:decide ((j:Int) < (sp.length:Int))=false:=by simp; omega
  have e:sp.drop j=[]:=List.drop_eq_nil_of_le (by omega)
  simp only [hd,cond_false,e,addAll,List.foldl_nil]
  rw [wrapOK (by omega) (by omega)]
 | succ k ihk =>
  intro m j at0 l hj hm hl hc hat
  obtain ⟨m,rfl,hm⟩:=sucM hm
  have hlt:j < sp.length:=by omega
  rw [spec_folds_l2_S]
  have h1:(0:Int) ≤ (j:Int)∧(j:Int) < (sp.length:Int):=by omega
  have hd:decide ((j:Int) < (sp.length:Int))=true:=by simpa using h1.2
  obtain ⟨c,hc1,hc2⟩:=hc
  have hp:=hat hlt
  have hpl:=posF_le sp[j] l
  have hlen:=putF_len sp[j] x l
  simp only [hd,cond_true,if_pos h1]
  rw [folds_l3 n q low xs a b (sp.length:Int) j (by omega) x sp sp[j] (getLt hlt _) _ l (by omega) (fun f hf=>by have:=hc1 f hf; omega) (posF sp[j] l - at0) n at0 (by omega) (by omega)]
  rw [ihk m (j + 1) (posF sp[j] l) (putF sp[j] x l) (by omega) (by omega) (by omega) ⟨c + 1,putF_items sp[j] x c hc1,by omega⟩ (fun h=>?_)]
  ·rw [dropLt hlt]; rfl
  ·refine posF_mono ?_ x l
   have:=List.pairwise_iff_getElem.1 hsp j (j + 1) hlt h (by omega)
   omega
theorem folds_l5 (n:Nat) (hn:4294967296 < n) (q:QY) (low:Int) (xs:List IT) (a b:Int) (hb:0 ≤ b∧b ≤ 1073741824) (x:IT) (sp:List (Int×Int)) (hsp:sp.Pairwise fun s s'=>s.1 < s'.1) (hs9:sp.length ≤ 1000) (ih:QY→Int→List IT→Int→Int→List FO→Option (List FO)) :
  ∀ (k m j at0:Nat) (l:List FO),j + k=sp.length→k < m→l.length + k ≤ 1073741824→(∃ c,(∀ f ∈ l,f.2.length ≤ c)∧c + k ≤ 1073741823)→(∀ h:j < sp.length,at0 ≤ posF sp[j] l) →
   spec_folds_l5 n c74.F c75.F ih m q low (at0:Int) xs a b (sp.length:Int) (j:Int) l x.1 x.2.1 x.2.2.1 x.2.2.2 sp=ih q low xs a (b + 1) (addAll x l (sp.drop j)):=by
 intro k
 induction k with
 | zero =>
  intro m j at0 l hj hm hl hc hat
  obtain ⟨m,rfl,hm⟩:=sucM hm
  rw [spec_folds_l5_S]
  have hd:decide ((j:Int) < (sp.length:Int))=false:=by simp; omega
  have e:sp.drop j=[]:=List.drop_eq_nil_of_le (by omega)
  simp only [hd,cond_false,e,addAll,List.foldl_nil]
  rw [wrapOK (by omega) (by omega)]
 | succ k ihk =>
  intro m j at0 l hj hm hl hc hat
  obtain ⟨m,rfl,hm⟩:=sucM hm
  have hlt:j < sp.length:=by omega
  rw [spec_folds_l5_S]
  have h1:(0:Int) ≤ (j:Int)∧(j:Int) < (sp.length:Int):=by omega
  have hd:decide ((j:Int) < (sp.length:Int))=true:=by simpa using h1.2
  obtain ⟨c,hc1,hc2⟩:=hc
  have hp:=hat hlt
  have hpl:=posF_le sp[j] l
  have hlen:=putF_len sp[j] x l
  simp only [hd,cond_true,if_pos h1]
  rw [folds_l6 n q low xs a b (sp.length:Int) j (by omega) x sp sp[j] (getLt hlt _) _ l (by omega) (fun f hf=>by have:=hc1 f hf; omega) (posF sp[j] l - at0) n at0 (by omega) (by omega)]
  rw [ihk m (j + 1) (posF sp[j] l) (putF sp[j] x l) (by omega) (by omega) (by omega) ⟨c + 1,putF_items sp[j] x c hc1,by omega⟩ (fun h=>?_)]
  ·rw [dropLt hlt]; rfl
  ·refine posF_mono ?_ x l
   have:=List.pairwise_iff_getElem.1 hsp j (j + 1) hlt h (by omega)
   omega
def lowF (t:Int):List FO→Nat
 | []=>0
 | f :: fs=>if f.1.2 ≤ t then lowF t fs + 1 else 0
theorem lowF_le (t:Int):∀ l:List FO,lowF t l ≤ l.length
 | []=>Nat.le_refl _
 | f :: fs=>by
  have:=lowF_le t fs
  simp only [lowF,List.length_cons]
  split <;> omega
theorem lowF_lt {t:Int}:∀ {l:List FO} {j:Nat} (hj:j < lowF t l) (hl:j < l.length),l[j].1.2 ≤ t
 | [],j,hj,hl=>by simp at hl
 | f :: fs,0,hj,hl=>by
  simp only [lowF] at hj
  split at hj
  ·assumption
  ·omega
 | f :: fs,j + 1,hj,hl=>by
  simp only [lowF] at hj
  split at hj
  ·have:=lowF_lt (t:=t) (l:=fs) (j:=j) (by omega) (by simpa using hl)
   simpa using this
  ·omega
theorem lowF_at {t:Int}:∀ {l:List FO} (hl:lowF t l < l.length),¬ l[lowF t l].1.2 ≤ t
 | [],hl=>by simp [lowF] at hl
 | f :: fs,hl=>by
  by_cases h:f.1.2 ≤ t
  ·have e:lowF t (f :: fs)=lowF t fs + 1:=by simp [lowF,h]
   have:=lowF_at (l:=fs) (t:=t) (by rw [e] at hl; simpa using hl)
   simp only [e,List.getElem_cons_succ]
   exact this
  ·have e:lowF t (f :: fs)=0:=by simp [lowF,h]
   simp only [e,List.getElem_cons_zero]
   exact h
theorem lowF_ge {t:Int}:∀ {l:List FO} {p:Nat} (hp:p ≤ l.length),(∀ (j:Nat) (hj:j < p),(l[j]'(by omega)).1.2 ≤ t)→p ≤ lowF t l
 | [],p,hp,h=>by
  have:p=0:=by simpa using hp
  omega
 | f :: fs,0,hp,h=>Nat.zero_le _
 | f :: fs,p + 1,hp,h=>by
  have h0:=h 0 (by omega)
  have h0:f.1.2 ≤ t:=h0
  have:=lowF_ge (t:=t) (l:=fs) (p:=p) (by simpa using hp) (fun j hj=>by have:=h (j + 1) (by omega); simpa using this)
  simp [lowF,h0,this]
theorem posF_ge {s:Int×Int}:∀ {l:List FO} {p:Nat} (hp:p ≤ l.length),(∀ (j:Nat) (hj:j < p),(l[j]'(by omega)).1.1 < s.1)→p ≤ posF s l
 | [],p,hp,h=>by
  have:p=0:=by simpa using hp
  omega
 | f :: fs,0,hp,h=>Nat.zero_le _
 | f :: fs,p + 1,hp,h=>by
  have h0:f.1.1 < s.1:=h 0 (by omega)
  have:=posF_ge (s:=s) (l:=fs) (p:=p) (by simpa using hp) (fun j hj=>by have:=h (j + 1) (by omega); simpa using this)
  simp [posF,h0,this]
def Wide (q:QY) (l:List FO):Prop:=∀ f ∈ l,f.1.2=f.1.1 + q.2.2.1
theorem putF_mem {s:Int×Int} {x:IT}:∀ {l:List FO},∀ f ∈ putF s x l,f.1=s ∨ ∃ g ∈ l,f.1=g.1
 | [],f,h=>by simp [putF] at h; exact .inl (by rw [h])
 | g :: fs,f,h=>by
  simp only [putF] at h
  split at h
  ·rcases List.mem_cons.1 h with rfl | h
   ·exact .inr ⟨_,List.mem_cons_self,rfl⟩
   ·rcases putF_mem f h with h | ⟨g',h1,h2⟩
    ·exact .inl h
    ·exact .inr ⟨g',List.mem_cons_of_mem _ h1,h2⟩
  ·rcases List.mem_cons.1 h with rfl | h
   ·exact .inr ⟨g,List.mem_cons_self,rfl⟩
   ·exact .inr ⟨f,List.mem_cons_of_mem _ h,rfl⟩
theorem Wide.put {q:QY} {l:List FO} (h:Wide q l) {s:Int×Int} (hs:s.2=s.1 + q.2.2.1) (x:IT):Wide q (putF s x l):=by
 intro f hf
 rcases putF_mem f hf with e | ⟨g,hg,e⟩
 ·rw [e]; exact hs
 ·rw [e]; exact h g hg
theorem Wide.all {q:QY} (x:IT):∀ {sp:List (Int×Int)} {l:List FO},Wide q l→(∀ s ∈ sp,s.2=s.1 + q.2.2.1)→Wide q (addAll x l sp)
 | [],l,h,_=>h
 | s :: sp,l,h,hs=>Wide.all x (sp:=sp) (h.put (hs s List.mem_cons_self) x) (fun s h=>hs s (List.mem_cons_of_mem _ h))
theorem addAll_len (x:IT):∀ (sp:List (Int×Int)) (l:List FO),l.length ≤ (addAll x l sp).length∧(addAll x l sp).length ≤ l.length + sp.length
 | [],l=>by simp [addAll]
 | s :: sp,l=>by
  have h1:=putF_len s x l
  have h2:=addAll_len x sp (putF s x l)
  simp only [addAll,List.foldl_cons,List.length_cons] at h2 ⊢
  omega
theorem addAll_span (x:IT):∀ (sp:List (Int×Int)) (l:List FO) (j:Nat) (hj:j < l.length) (hj':j < (addAll x l sp).length),(addAll x l sp)[j].1=l[j].1
 | [],l,j,hj,_=>rfl
 | s :: sp,l,j,hj,hj'=>by
  have h1:=putF_len s x l
  have h2:=addAll_span x sp (putF s x l) j (by omega) hj'
  exact h2.trans (putF_span hj (by omega))
theorem addAll_items (x:IT):∀ (sp:List (Int×Int)) (l:List FO) (c:Nat),(∀ f ∈ l,f.2.length ≤ c)→∀ f ∈ addAll x l sp,f.2.length ≤ c + sp.length
 | [],l,c,h=>by simpa [addAll] using h
 | s :: sp,l,c,h=>by
  intro f hf
  have:=addAll_items x sp (putF s x l) (c + 1) (putF_items s x c h) f hf
  simp only [List.length_cons]
  omega
theorem cnt_le (q:QY) (hm:qMay q=true) (h2:q.1 ≠ 2) (t:Int):cntK q t ≤ 64:=by
 have hq:=FixQ.of hm h2
 have hs:=hq.step
 have hz:q.2.2.1 ≤ 64 * stepOf q:=by
  unfold stepOf at hs ⊢
  by_cases k:q.1=1
  ·rw [if_pos k] at hs ⊢
   simp only [qMay,Bool.and_eq_true,if_pos k,slidingB,decide_eq_true_eq] at hm
   have h3:=hm.2.2.2.2.2.1
   rw [Int.tdiv_eq_ediv_of_nonneg (by omega)] at h3
   have a:=Int.lt_ediv_add_one_mul_self (q.2.2.1 - 1) (show 0 < q.2.2.2.1 by omega)
   have b:((q.2.2.1 - 1) / q.2.2.2.1 + 1) * q.2.2.2.1 ≤ 64 * q.2.2.2.1:=Int.mul_le_mul_of_nonneg_right (by omega) (by omega)
   omega
  ·rw [if_neg k] at hs ⊢
   omega
 have h3:t / stepOf q - 64 ≤ (t - q.2.2.1) / stepOf q:=by
  rw [Int.le_ediv_iff_mul_le (show 0 < stepOf q by omega),Int.sub_mul]
  have:=Int.ediv_mul_le t (show stepOf q ≠ 0 by omega)
  omega
 simp only [cntK]
 omega
theorem spans_len (q:QY) (t:Int):(spansOf q t).length=cntK q t:=by simp [spansOf]
theorem spans_wide (q:QY) (t:Int):∀ s ∈ spansOf q t,s.2=s.1 + q.2.2.1:=by
 intro s hs
 simp only [spansOf,List.mem_map] at hs
 obtain ⟨j,_,rfl⟩:=hs
 rfl
theorem spans_up (q:QY) (hq:FixQ q) (t:Int):(spansOf q t).Pairwise fun s s'=>s.1 < s'.1:=by
 unfold spansOf
 rw [List.pairwise_map]
 refine List.Pairwise.imp ?_ List.pairwise_lt_range
 intro a b hab
 have hs:=hq.step
 simp only [spanAt]
 exact Int.mul_lt_mul_of_pos_right (by omega) (by omega)
theorem spans_gt (q:QY) (hq:FixQ q) (t:Int):∀ s ∈ spansOf q t,t - q.2.2.1 < s.1:=by
 intro s hs
 simp only [spansOf,List.mem_map] at hs
 obtain ⟨j,_,rfl⟩:=hs
 have h:=hq.step
 simp only [spanAt]
 have a:=Int.lt_ediv_add_one_mul_self (t - q.2.2.1) (show 0 < stepOf q by omega)
 have b:((t - q.2.2.1) / stepOf q + 1) * stepOf q ≤ (firstK q t + j) * stepOf q:=Int.mul_le_mul_of_nonneg_right (by simp only [firstK]; omega) (by omega)
 omega
theorem folds_l1 (n:Nat) (hn:4294967296 < n) (q:QY) (xs:List IT) (a:Int) (i:Nat) (hi:i < xs.length) (h9:xs.length ≤ 8192) (sp:List (Int×Int)) (e:Int) (hsp:sp.Pairwise fun s s'=>s.1 < s'.1) (hs9:sp.length ≤ 1000) (ih:QY→Int→List IT→Int→Int→List FO→Option (List FO))
  (l:List FO) (hl:l.length ≤ 67108864) (hc:∃ c,(∀ f ∈ l,f.2.length ≤ c)∧c ≤ 67108864) (hat:∀ h:0 < sp.length,lowF xs[i].2.1 l ≤ posF sp[0] l) :
  ∀ (k m p:Nat),p + k=lowF xs[i].2.1 l→k < m→spec_folds_l1 n c74.F c75.F q xs a (i:Int) l (sp,e) ih ih m (p:Int)=ih q (lowF xs[i].2.1 l:Int) xs a ((i:Int) + 1) (addAll xs[i] l sp):=by
 have hll:=lowF_le xs[i].2.1 l
 have hx:xs.getD i ((0:Int),(0:Int),(0:Int),(0:Int))=xs[i]:=getLt hi _
 obtain ⟨c,hc1,hc2⟩:=hc
 intro k
 induction k with
 | zero =>
  intro m p hp hm
  obtain ⟨m,rfl,hm⟩:=sucM hm
  rw [Nat.add_zero] at hp
  rw [spec_folds_l1_S (ih0:=ih)]
  rcases Nat.lt_or_ge p l.length with hlt | hge
  ·have h1:(0:Int) ≤ (p:Int)∧(p:Int) < (l.length:Int):=by omega
   have hd:decide ((p:Int) < (l.length:Int))=true:=by simpa using h1.2
   have h3:¬ l[p].1.2 ≤ xs[i].2.1:=by subst hp; exact lowF_at _
   simp only [hd,cond_true,if_pos h1,Int.toNat_natCast,hx,getLt hlt,h3,decide_false,cond_false]
   subst hp
   have:=folds_l2 n hn q (lowF xs[i].2.1 l:Int) xs a (i:Int) (by omega) xs[i] sp hsp hs9 ih sp.length n 0 (lowF xs[i].2.1 l) l (by omega) (by omega) (by omega) ⟨c,hc1,by omega⟩ (fun h=>hat h)
   rw [List.drop_zero] at this
   exact this
  ·have hd:decide ((p:Int) < (l.length:Int))=false:=by simp; omega
   simp only [hd,cond_false,Int.toNat_natCast,hx]
   subst hp
   have:=folds_l5 n hn q (lowF xs[i].2.1 l:Int) xs a (i:Int) (by omega) xs[i] sp hsp hs9 ih sp.length n 0 (lowF xs[i].2.1 l) l (by omega) (by omega) (by omega) ⟨c,hc1,by omega⟩ (fun h=>hat h)
   rw [List.drop_zero] at this
   exact this
 | succ k ihk =>
  intro m p hp hm
  obtain ⟨m,rfl,hm⟩:=sucM hm
  have hlt:p < l.length:=by omega
  rw [spec_folds_l1_S (ih0:=ih)]
  have h1:(0:Int) ≤ (p:Int)∧(p:Int) < (l.length:Int):=by omega
  have hd:decide ((p:Int) < (l.length:Int))=true:=by simpa using h1.2
  have h3:l[p].1.2 ≤ xs[i].2.1:=lowF_lt (by omega) hlt
  simp only [hd,cond_true,if_pos h1,Int.toNat_natCast,hx,getLt hlt,h3,decide_true,wrapS (i:=p) (by omega)]
  exact ihk m (p + 1) (by omega) (by omega)
def winGo (q:QY) (g:List IT):Nat→List FO
 | 0=>[]
 | i + 1=>addAll (g.getD i IT0) (winGo q g i) (spansOf q (g.getD i IT0).2.1)
def winOf (q:QY) (g:List IT):List FO:=winGo q g g.length
def foldsOf (q:QY) (g:List IT):List FO:=if q.1=2 then sesOf q g else winOf q g
theorem win_len (q:QY) (hm:qMay q=true) (h2:q.1 ≠ 2) (g:List IT):∀ i,(winGo q g i).length ≤ i * 64
 | 0=>by simp [winGo]
 | i + 1=>by
  have h1:=win_len q hm h2 g i
  have h3:=addAll_len (g.getD i IT0) (spansOf q (g.getD i IT0).2.1) (winGo q g i)
  rw [spans_len] at h3
  have h4:=cnt_le q hm h2 (g.getD i IT0).2.1
  simp only [winGo]
  omega
theorem win_items (q:QY) (hm:qMay q=true) (h2:q.1 ≠ 2) (g:List IT):∀ i,∀ f ∈ winGo q g i,f.2.length ≤ i * 64
 | 0=>by simp [winGo]
 | i + 1=>by
  have h1:=win_items q hm h2 g i
  have h4:=cnt_le q hm h2 (g.getD i IT0).2.1
  intro f hf
  have:=addAll_items (g.getD i IT0) (spansOf q (g.getD i IT0).2.1) (winGo q g i) (i * 64) h1 f hf
  rw [spans_len] at this
  omega
theorem win_wide (q:QY) (g:List IT):∀ i,Wide q (winGo q g i)
 | 0=>by simp [winGo,Wide]
 | i + 1=>(win_wide q g i).all _ (spans_wide q _)
theorem folds_l0 (n:Nat) (hn:9007199254740992 < n) (q:QY) (hm:qMay q=true) (h2:q.1 ≠ 2) (g:List IT) (h9:g.length ≤ 8192) (ht:∀ x ∈ g,timeIn x) (hup:g.Pairwise fun x y=>x.2.1 ≤ y.2.1) :
  ∀ (k m i low:Nat),i + k=g.length→k < m→(∀ h:i < g.length,low ≤ lowF g[i].2.1 (winGo q g i))→low ≤ (winGo q g i).length→spec_folds_l0 n c74.F c75.F m q (low:Int) g (g.length:Int) (i:Int) (winGo q g i)=some (winOf q g):=by
 have hq:=FixQ.of hm h2
 intro k
 induction k with
 | zero =>
  intro m i low hi hm' _ _
  obtain ⟨m,rfl,hm'⟩:=sucM hm'
  rw [spec_folds_l0_S]
  have hd:decide ((i:Int) < (g.length:Int))=false:=by simp; omega
  have:i=g.length:=by omega
  subst this
  simp only [hd,cond_false]
  rfl
 | succ k ihk =>
  intro m i low hi hm' hlow hlen
  obtain ⟨m,rfl,hm'⟩:=sucM hm'
  have hlt:i < g.length:=by omega
  rw [spec_folds_l0_S]
  have h1:(0:Int) ≤ (i:Int)∧(i:Int) < (g.length:Int):=by omega
  have hd:decide ((i:Int) < (g.length:Int))=true:=by simpa using h1.2
  have hx:g.getD i ((0:Int),(0:Int),(0:Int),(0:Int))=g[i]:=getLt hlt _
  have hx0:g.getD i IT0=g[i]:=getLt hlt _
  have hti:=ht g[i] (List.getElem_mem hlt)
  have hwl:=win_len q hm h2 g i
  have hwi:=win_items q hm h2 g i
  have hww:=win_wide q g i
  have hcl:=cnt_le q hm h2 g[i].2.1
  have hsl:=spans_len q g[i].2.1
  simp only [hd,cond_true,if_pos h1,Int.toNat_natCast,hx,Of_eq n hn q hm h2 g[i].2.1 hti,Option.bind_some]
  have hlo:=hlow hlt
  have hle:=lowF_le g[i].2.1 (winGo q g i)
  rw [folds_l1 n (by omega) q g (g.length:Int) i hlt h9 (spansOf q g[i].2.1) 0 (spans_up q hq _) (by omega) _ (winGo q g i) (by omega) ⟨i * 64,hwi,by omega⟩ (fun h=>?_) (lowF g[i].2.1 (winGo q g i) - low) n low (by omega) (by omega)]
  ·have e0:winGo q g (i + 1)=addAll g[i] (winGo q g i) (spansOf q g[i].2.1):=by simp only [winGo,hx0]
   have hal:=addAll_len g[i] (spansOf q g[i].2.1) (winGo q g i)
   have:=ihk m (i + 1) (lowF g[i].2.1 (winGo q g i)) (by omega) (by omega) (fun h=>?_) (by rw [e0]; omega)
   ·rw [e0] at this
    rw [show (i:Int) + 1=((i + 1:Nat):Int) by omega]
    exact this
   ·rw [e0]
    refine lowF_ge (by omega) fun j hj=>?_
    have e1:=addAll_span g[i] (spansOf q g[i].2.1) (winGo q g i) j (by omega) (by omega)
    rw [e1]
    have h3:=lowF_lt hj (by omega)
    have h4:=List.pairwise_iff_getElem.1 hup i (i + 1) hlt h (by omega)
    omega
  ·refine posF_ge hle fun j hj=>?_
   have h3:=lowF_lt hj (by omega)
   have h4:=hww _ (List.getElem_mem (show j < (winGo q g i).length by omega))
   have h5:=spans_gt q hq g[i].2.1 _ (List.getElem_mem h)
   omega
theorem folds_eq (n:Nat) (hn:9007199254740992 < n) (q:QY) (hm:qMay q=true) (g:List IT) (h9:g.length ≤ 8192) (ht:∀ x ∈ g,timeIn x) (hup:g.Pairwise fun x y=>x.2.1 ≤ y.2.1):spec_folds n q g=some (foldsOf q g):=by
 rw [spec_folds_S]
 unfold foldsOf
 by_cases h2:q.1=2
 ·have e:(q.1 == 2)=true:=by simp [h2]
  have hz:0 ≤ q.2.2.1∧q.2.2.1 ≤ 1073741824:=by
   simp only [qMay,Bool.and_eq_true,decide_eq_true_eq] at hm
   omega
  rw [if_pos h2,e,cond_true,sessions_eq n q g h9 (by omega) hz ht]
  rfl
 ·have e:(q.1 == 2)=false:=by simp [h2]
  rw [if_neg h2,e,cond_false]
  exact folds_l0 n hn q hm h2 g h9 ht hup g.length n 0 0 (by omega) (by omega) (fun _=>Nat.zero_le _) (Nat.zero_le _)
def leI (x y:IT):Prop:=x.2.1 < y.2.1 ∨ (x.2.1=y.2.1∧x.2.2.1 ≤ y.2.2.1)
theorem leI_refl (x:IT):leI x x:=Or.inr ⟨rfl,Int.le_refl _⟩
theorem permSum {xs ys:List Int} (h:xs.Perm ys):xs.sum=ys.sum:=by
 induction h with
 | nil=>rfl
 | cons x _ ih=>simp only [List.sum_cons,ih]
 | swap x y l=>simp only [List.sum_cons]; omega
 | trans _ _ ih1 ih2=>exact ih1.trans ih2
def cntB (bs:List Int) (p:List IT) (k:Nat):Int:=(p.countP fun x=>buck bs x.2.2.2 == k:Nat)
def histOf (bs:List Int) (p:List IT):List Int:=(List.range (bs.length + 1)).map (cntB bs p)
structure AccIs (bs:List Int) (a:AC) (p:List IT):Prop where
 cnt:a.1=p.length
 sum:a.2.1=(p.map fun x=>x.2.2.2).sum
 mn:∀ x ∈ p,a.2.2.1 ≤ x.2.2.2
 mnE:∃ x ∈ p,a.2.2.1=x.2.2.2
 mx:∀ x ∈ p,x.2.2.2 ≤ a.2.2.2.1
 mxE:∃ x ∈ p,a.2.2.2.1=x.2.2.2
 fm:a.2.2.2.2.1 ∈ p
 fl:∀ x ∈ p,leI a.2.2.2.2.1 x
 lm:a.2.2.2.2.2.1 ∈ p
 ll:∀ x ∈ p,leI x a.2.2.2.2.2.1
 hist:a.2.2.2.2.2.2=histOf bs p
theorem AccIs.perm {bs:List Int} {a:AC} {p q:List IT} (h:AccIs bs a p) (e:p.Perm q):AccIs bs a q where
 cnt:=by rw [h.cnt,e.length_eq]
 sum:=by rw [h.sum]; exact permSum (e.map _)
 mn:=fun x hx=>h.mn x (e.mem_iff.2 hx)
 mnE:=h.mnE.elim fun x hx=>⟨x,e.mem_iff.1 hx.1,hx.2⟩
 mx:=fun x hx=>h.mx x (e.mem_iff.2 hx)
 mxE:=h.mxE.elim fun x hx=>⟨x,e.mem_iff.1 hx.1,hx.2⟩
 fm:=e.mem_iff.1 h.fm
 fl:=fun x hx=>h.fl x (e.mem_iff.2 hx)
 lm:=e.mem_iff.1 h.lm
 ll:=fun x hx=>h.ll x (e.mem_iff.2 hx)
 hist:=by
  rw [h.hist]; unfold histOf cntB
  exact List.map_congr_left fun k _=>by rw [e.countP_eq]
theorem cntB_one (bs:List Int) (x:IT) (k:Nat):cntB bs [x] k=if buck bs x.2.2.2=k then 1 else 0:=by
 unfold cntB
 by_cases h:buck bs x.2.2.2=k <;> simp [h]
theorem AccIs.one (bs:List Int) (x:IT):AccIs bs (oneA x bs) [x] where
 cnt:=by simp [oneA]
 sum:=by simp [oneA]
 mn:=by simp [oneA]
 mnE:=⟨x,by simp,rfl⟩
 mx:=by simp [oneA]
 mxE:=⟨x,by simp,rfl⟩
 fm:=by simp [oneA]
 fl:=by simp [oneA,leI_refl]
 lm:=by simp [oneA]
 ll:=by simp [oneA,leI_refl]
 hist:=by
  show (List.replicate (bs.length + 1) (0:Int)).set (buck bs x.2.2.2) 1=_
  apply List.ext_getElem
  ·simp [histOf]
  ·intro k h1 h2
   simp only [histOf,List.getElem_map,List.getElem_range,List.getElem_set,List.getElem_replicate,cntB_one]
theorem qMay_asks {q:QY} (h:qMay q=true):asksB q=true:=by
 simp only [qMay,Bool.and_eq_true] at h; exact h.2.2.1
theorem qMay_bnd {q:QY} (h:qMay q=true):boundsMay q.2.2.2.2.1=true:=by
 have:=qMay_asks h
 simp only [asksB,Bool.and_eq_true] at this
 exact this.2.2.2.2.2.2
def isOutS (la:Int) (s:Int×Int) (mark:Int):Bool:=decide (s.2 + la ≤ mark)
def endIn (s:Int×Int):Prop:=-4398046511104 ≤ s.2∧s.2 ≤ 4398046511104
theorem isOut_eq (n:Nat) (c:CF) (hla:0 ≤ c.2.1∧c.2.1 ≤ 1073741824) (s:Int×Int) (hs:endIn s) (mark:Int):spec_isOut n c s mark=some (isOutS c.2.1 s mark):=by
 unfold spec_isOut isOutS
 obtain ⟨a,b⟩:=hs
 rw [wrapOK (by omega) (by omega)]
def inW (s:Int×Int) (x:IT):Bool:=decide (s.1 ≤ x.2.1) && decide (x.2.1 < s.2)
theorem mem_spans (q:QY) (hq:FixQ q) (x:IT) (k:Int):spanAt q k ∈ spansOf q x.2.1 ↔ inW (spanAt q k) x=true:=by
 have hs:=hq.step
 have e1:k * stepOf q ≤ x.2.1 ↔ k ≤ x.2.1 / stepOf q:=(Int.le_ediv_iff_mul_le (show 0 < stepOf q by omega)).symm
 have e2:x.2.1 < k * stepOf q + q.2.2.1 ↔ (x.2.1 - q.2.2.1) / stepOf q < k:=by
  rw [Int.ediv_lt_iff_lt_mul (show 0 < stepOf q by omega)]
  omega
 simp only [spansOf,List.mem_map,List.mem_range,inW,spanAt,Bool.and_eq_true,decide_eq_true_eq,e1,e2]
 constructor
 ·rintro ⟨j,hj,he⟩
  have:firstK q x.2.1 + (j:Int)=k:=by
   have h1:=congrArg Prod.fst he
   have h1:(firstK q x.2.1 + (j:Int)) * stepOf q=k * stepOf q:=h1
   exact Int.eq_of_mul_eq_mul_right (by omega) h1
  simp only [firstK,cntK] at this hj
  omega
 ·rintro ⟨h1,h2⟩
  refine ⟨(k - firstK q x.2.1).toNat,?_,?_⟩
  ·simp only [firstK,cntK]; omega
  ·have:firstK q x.2.1 + ((k - firstK q x.2.1).toNat:Int)=k:=by simp only [firstK]; omega
   rw [this]
structure WinMid (q:QY) (p:List IT) (x:IT) (dn:List (Int×Int)) (l:List FO):Prop where
 up:l.Pairwise fun f g=>f.1.1 < g.1.1
 each:∀ f ∈ l,∃ k,f.1=spanAt q k∧f.2=p.filter (inW f.1) ++ (if f.1 ∈ dn then [x] else [])∧f.2 ≠ []
 all:∀ k,(p.filter (inW (spanAt q k)) ≠ [] ∨ spanAt q k ∈ dn)→∃ f ∈ l,f.1=spanAt q k
theorem putF_is {q:QY} {p:List IT} {x:IT} {dn:List (Int×Int)} {l:List FO} (h:WinMid q p x dn l) {k:Int} (hk:inW (spanAt q k) x=true) (hlt:∀ s ∈ dn,s.1 < (spanAt q k).1) (hp:∀ y ∈ p,y.2.1 ≤ x.2.1):WinMid q p x (dn ++ [spanAt q k]) (putF (spanAt q k) x l):=by
 have hnd:spanAt q k ∉ dn:=fun hm=>by have:=hlt _ hm; omega
 have hkx:(spanAt q k).1 ≤ x.2.1∧x.2.1 < (spanAt q k).2:=by simpa [inW] using hk
 have inj:∀ k',(spanAt q k').1=(spanAt q k).1→spanAt q k'=spanAt q k:=by
  intro k' e
  have e:k' * stepOf q=k * stepOf q:=e
  simp only [spanAt,e]
 rcases Nat.lt_or_ge (posF (spanAt q k) l) l.length with hpos | hpos
 ·
  have hat:=posF_at hpos
  obtain ⟨k',e1,e2,e3⟩:=h.each _ (List.getElem_mem hpos)
  have hsame:l[posF (spanAt q k) l].1=spanAt q k:=by
   rcases Int.lt_or_le (spanAt q k).1 l[posF (spanAt q k) l].1.1 with hgt | hle
   ·
    exfalso
    have hnot:l[posF (spanAt q k) l].1 ∉ dn:=fun hm=>by have:=hlt _ hm; omega
    rw [if_neg hnot,List.append_nil] at e2
    obtain ⟨y,hy⟩:=List.exists_mem_of_ne_nil _ (e2 ▸ e3)
    obtain ⟨hy1,hy2⟩:=List.mem_filter.1 hy
    have hy3:l[posF (spanAt q k) l].1.1 ≤ y.2.1:=by simp only [inW,Bool.and_eq_true,decide_eq_true_eq] at hy2; exact hy2.1
    have hy4:=hp y hy1
    have hin:inW (spanAt q k) y=true:=by simp only [inW,Bool.and_eq_true,decide_eq_true_eq]; omega
    obtain ⟨f,hf,hfe⟩:=h.all k (.inl (List.ne_nil_of_mem (List.mem_filter.2 ⟨hy1,hin⟩)))
    obtain ⟨i,hi,rfl⟩:=List.getElem_of_mem hf
    rcases Nat.lt_trichotomy i (posF (spanAt q k) l) with hc | hc | hc
    ·have:=posF_lt hc hi
     rw [hfe] at this; omega
    ·subst hc; rw [hfe] at hgt; omega
    ·have:=List.pairwise_iff_getElem.1 h.up _ _ hpos hi hc
     rw [hfe] at this; omega
   ·have:l[posF (spanAt q k) l].1.1=(spanAt q k).1:=by omega
    rw [e1] at this ⊢
    exact inj k' this
  rw [putF_at hpos]
  have hother:∀ (i:Nat) (hi:i < l.length),i ≠ posF (spanAt q k) l→l[i].1 ≠ spanAt q k:=by
   intro i hi hne he
   rcases Nat.lt_trichotomy i (posF (spanAt q k) l) with hc | hc | hc
   ·have:=List.pairwise_iff_getElem.1 h.up _ _ hi hpos hc
    rw [he,hsame] at this; omega
   ·exact hne hc
   ·have:=List.pairwise_iff_getElem.1 h.up _ _ hpos hi hc
    rw [he,hsame] at this; omega
  refine ⟨?_,?_,?_⟩
  ·rw [List.pairwise_iff_getElem]
   intro i j hi hj hij
   rw [List.length_set] at hi hj
   have h0:=List.pairwise_iff_getElem.1 h.up i j hi hj hij
   rw [List.getElem_set,List.getElem_set]
   split <;> split <;> rename_i g1 g2 <;> (try subst g1) <;> (try subst g2) <;> first | exact h0 | omega
  ·intro f hf
   obtain ⟨i,hi,rfl⟩:=List.getElem_of_mem hf
   rw [List.length_set] at hi
   rw [List.getElem_set]
   split
   ·rename_i g1
    refine ⟨k,hsame,?_,by simp⟩
    have hnot:l[posF (spanAt q k) l].1 ∉ dn:=by rw [hsame]; exact hnd
    rw [if_neg hnot,List.append_nil] at e2
    show l[posF (spanAt q k) l].2 ++ [x]=p.filter (inW l[posF (spanAt q k) l].1) ++ (if l[posF (spanAt q k) l].1 ∈ dn ++ [spanAt q k] then [x] else [])
    rw [if_pos (by rw [hsame]; simp),← e2]
   ·rename_i g1
    obtain ⟨k2,f1,f2,f3⟩:=h.each _ (List.getElem_mem hi)
    refine ⟨k2,f1,?_,f3⟩
    have hne:=hother i hi (fun e=>g1 e.symm)
    rw [f2]
    congr 1
    simp [hne]
  ·intro k2 hk2
   have:∃ f ∈ l,f.1=spanAt q k2:=by
    rcases hk2 with hk2 | hk2
    ·exact h.all k2 (.inl hk2)
    ·rcases List.mem_append.1 hk2 with hk2 | hk2
     ·exact h.all k2 (.inr hk2)
     ·rw [List.mem_singleton] at hk2
      exact ⟨_,List.getElem_mem hpos,by rw [hsame,hk2]⟩
   obtain ⟨f,hf,hfe⟩:=this
   obtain ⟨i,hi,rfl⟩:=List.getElem_of_mem hf
   refine ⟨_,List.getElem_mem (show i < (l.set (posF (spanAt q k) l) (l[posF (spanAt q k) l].1,l[posF (spanAt q k) l].2 ++ [x])).length by rw [List.length_set]; exact hi),?_⟩
   rw [List.getElem_set]
   split
   ·rename_i g1; subst g1; exact hfe
   ·exact hfe
 ·
  have hpe:posF (spanAt q k) l=l.length:=by have:=posF_le (spanAt q k) l; omega
  have hall:∀ f ∈ l,f.1.1 < (spanAt q k).1:=by
   intro f hf
   obtain ⟨i,hi,rfl⟩:=List.getElem_of_mem hf
   exact posF_lt (by omega) hi
  have hnone:p.filter (inW (spanAt q k))=[]:=by
   apply Classical.byContradiction
   intro hne
   obtain ⟨f,hf,hfe⟩:=h.all k (.inl hne)
   have:=hall f hf
   rw [hfe] at this; omega
  rw [putF_end hpe]
  refine ⟨?_,?_,?_⟩
  ·rw [List.pairwise_append]
   exact ⟨h.up,List.pairwise_singleton _ _,fun f hf g hg=>by rw [List.mem_singleton.1 hg]; exact hall f hf⟩
  ·intro f hf
   rcases List.mem_append.1 hf with hf | hf
   ·obtain ⟨k2,f1,f2,f3⟩:=h.each f hf
    refine ⟨k2,f1,?_,f3⟩
    have hne:f.1 ≠ spanAt q k:=fun e=>by have:=hall f hf; rw [e] at this; omega
    rw [f2]
    congr 1
    simp [hne]
   ·rw [List.mem_singleton.1 hf]
    refine ⟨k,rfl,?_,by simp⟩
    rw [if_pos (by simp),hnone]; rfl
  ·intro k2 hk2
   rcases hk2 with hk2 | hk2
   ·obtain ⟨f,hf,hfe⟩:=h.all k2 (.inl hk2)
    exact ⟨f,List.mem_append_left _ hf,hfe⟩
   ·rcases List.mem_append.1 hk2 with hk2 | hk2
    ·obtain ⟨f,hf,hfe⟩:=h.all k2 (.inr hk2)
     exact ⟨f,List.mem_append_left _ hf,hfe⟩
    ·rw [List.mem_singleton] at hk2
     exact ⟨_,List.mem_append_right _ List.mem_cons_self,hk2.symm⟩
structure WinIs (q:QY) (p:List IT) (l:List FO):Prop where
 up:l.Pairwise fun f g=>f.1.1 < g.1.1
 each:∀ f ∈ l,∃ k,f.1=spanAt q k∧f.2=p.filter (inW f.1)∧f.2 ≠ []
 all:∀ k,p.filter (inW (spanAt q k)) ≠ []→∃ f ∈ l,f.1=spanAt q k
theorem WinIs.mid {q:QY} {p:List IT} {l:List FO} (h:WinIs q p l) (x:IT):WinMid q p x [] l where
 up:=h.up
 each:=fun f hf=>let ⟨k,e1,e2,e3⟩:=h.each f hf; ⟨k,e1,by simpa using e2,e3⟩
 all:=fun k hk=>h.all k (by simpa using hk)
theorem addAll_is {q:QY} {p:List IT} {x:IT} (hp:∀ y ∈ p,y.2.1 ≤ x.2.1):∀ (sp dn:List (Int×Int)) (l:List FO),WinMid q p x dn l→(∀ s ∈ sp,∃ k,s=spanAt q k∧inW s x=true)→(sp.Pairwise fun s s'=>s.1 < s'.1)→(∀ s ∈ dn,∀ s' ∈ sp,s.1 < s'.1)→WinMid q p x (dn ++ sp) (addAll x l sp)
 | [],dn,l,h,_,_,_=>by simpa [addAll] using h
 | s :: sp,dn,l,h,hs,hup,hlt=>by
  obtain ⟨k,rfl,hk⟩:=hs s List.mem_cons_self
  have h1:=putF_is h hk (fun s hs'=>hlt s hs' _ List.mem_cons_self) hp
  have h2:=addAll_is hp sp (dn ++ [spanAt q k]) (putF (spanAt q k) x l) h1 (fun s hs'=>hs s (List.mem_cons_of_mem _ hs')) (List.Pairwise.of_cons hup) (fun s hs' s' hs''=>by
   rcases List.mem_append.1 hs' with h3 | h3
   ·exact hlt s h3 s' (List.mem_cons_of_mem _ hs'')
   ·rw [List.mem_singleton.1 h3]
    exact List.rel_of_pairwise_cons hup hs'')
  rw [List.append_assoc] at h2
  exact h2
theorem WinMid.is {q:QY} (hq:FixQ q) {p:List IT} {x:IT} {l:List FO} (h:WinMid q p x (spansOf q x.2.1) l):WinIs q (p ++ [x]) l where
 up:=h.up
 each:=fun f hf=>by
  obtain ⟨k,e1,e2,e3⟩:=h.each f hf
  refine ⟨k,e1,?_,e3⟩
  rw [e2,List.filter_append]
  congr 1
  by_cases hx:inW f.1 x=true
  ·rw [if_pos (by rw [e1] at hx ⊢; exact (mem_spans q hq x k).2 hx)]
   simp [hx]
  ·rw [if_neg (fun hm=>hx (by rw [e1] at hm ⊢; exact (mem_spans q hq x k).1 hm))]
   simp [hx]
 all:=fun k hk=>by
  rw [List.filter_append] at hk
  by_cases h1:p.filter (inW (spanAt q k))=[]
  ·rw [h1,List.nil_append] at hk
   refine h.all k (.inr ((mem_spans q hq x k).2 ?_))
   obtain ⟨y,hy⟩:=List.exists_mem_of_ne_nil _ hk
   obtain ⟨h2,h3⟩:=List.mem_filter.1 hy
   rw [List.mem_singleton.1 h2] at h3
   exact h3
  ·exact h.all k (.inl h1)
theorem win_is (q:QY) (hq:FixQ q) (g:List IT) (hup:g.Pairwise fun x y=>x.2.1 ≤ y.2.1):∀ i,i ≤ g.length→WinIs q (g.take i) (winGo q g i)
 | 0,_=>⟨List.Pairwise.nil,by simp [winGo],by simp⟩
 | i + 1,h=>by
  have hlt:i < g.length:=by omega
  have ih:=win_is q hq g hup i (by omega)
  have hx:g.getD i IT0=g[i]:=getLt hlt _
  have hp:∀ y ∈ g.take i,y.2.1 ≤ g[i].2.1:=by
   intro y hy
   obtain ⟨j,hj,rfl⟩:=List.getElem_of_mem hy
   rw [List.length_take] at hj
   rw [List.getElem_take]
   exact List.pairwise_iff_getElem.1 hup j i (by omega) hlt (by omega)
  have h1:=addAll_is hp (spansOf q g[i].2.1) [] (winGo q g i) (ih.mid g[i]) (fun s hs=>by
   have hs':=hs
   simp only [spansOf,List.mem_map] at hs'
   obtain ⟨j,_,rfl⟩:=hs'
   exact ⟨_,rfl,(mem_spans q hq g[i] _).1 hs⟩) (spans_up q hq _) (by simp)
  rw [List.nil_append] at h1
  have h2:=h1.is hq
  rw [List.take_succ_eq_append_getElem hlt]
  simp only [winGo,hx]
  exact h2
theorem winOf_is (q:QY) (hq:FixQ q) (g:List IT) (hup:g.Pairwise fun x y=>x.2.1 ≤ y.2.1):WinIs q g (winOf q g):=by
 have:=win_is q hq g hup g.length (Nat.le_refl _)
 rwa [List.take_length] at this
structure SesOK (sz:Int) (t:Int) (l:List FO):Prop where
 up:l.Pairwise fun f g=>f.1.1 < g.1.1
 each:∀ f ∈ l,f.2 ≠ []∧(∃ x ∈ f.2,f.1.1=x.2.1)∧(∃ y ∈ f.2,f.1.2=y.2.1 + sz)∧f.1.1 ≤ t
theorem sesGo_ok (sz:Int) (hsz:1 ≤ sz) (g:List IT) (hup:g.Pairwise fun x y=>x.2.1 ≤ y.2.1):∀ i,i < g.length→SesOK sz (g.getD i IT0).2.1 (sesGo g sz (i + 1))
 | 0,h=>by
  have hb:newSes g sz 0=true:=by simp [newSes]
  simp only [sesGo,hb,sesAdd,List.nil_append]
  exact ⟨List.pairwise_singleton _ _,fun f hf=>by
   rw [List.mem_singleton.1 hf]
   exact ⟨by simp,⟨_,List.mem_cons_self,rfl⟩,⟨_,List.mem_cons_self,rfl⟩,Int.le_refl _⟩⟩
 | i + 1,h=>by
  have ih:=sesGo_ok sz hsz g hup i (by omega)
  have h1:g.getD (i + 1) IT0=g[i + 1]:=getLt h _
  have h2:g.getD i IT0=g[i]:=getLt (by omega) _
  have hle:=List.pairwise_iff_getElem.1 hup i (i + 1) (by omega) h (by omega)
  rw [show sesGo g sz (i + 1 + 1)=sesAdd (sesGo g sz (i + 1)) sz (g.getD (i + 1) IT0) (newSes g sz (i + 1)) from rfl]
  rw [h2] at ih
  rw [h1]
  cases hb:newSes g sz (i + 1) with
  | true =>
   have hgap:sz ≤ g[i + 1].2.1 - g[i].2.1:=by
    simp only [newSes,Nat.add_sub_cancel,h1,h2] at hb
    simpa using hb
   simp only [sesAdd]
   refine ⟨?_,fun f hf=>?_⟩
   ·rw [List.pairwise_append]
    refine ⟨ih.up,List.pairwise_singleton _ _,fun f hf g' hg'=>?_⟩
    rw [List.mem_singleton.1 hg']
    have:=(ih.each f hf).2.2.2
    show f.1.1 < g[i + 1].2.1
    omega
   ·rcases List.mem_append.1 hf with hf | hf
    ·obtain ⟨a,b,c,d⟩:=ih.each f hf
     exact ⟨a,b,c,by omega⟩
    ·rw [List.mem_singleton.1 hf]
     exact ⟨by simp,⟨_,List.mem_cons_self,rfl⟩,⟨_,List.mem_cons_self,rfl⟩,Int.le_refl _⟩
  | false =>
   have hs:=last_split (sesGo_ne g sz (i + 1) (by omega)) FO0
   rw [hs] at ih
   simp only [sesAdd]
   have hu:=ih.up
   rw [List.pairwise_append] at hu
   obtain ⟨u1,_,u3⟩:=hu
   refine ⟨?_,fun f hf=>?_⟩
   ·rw [List.pairwise_append]
    refine ⟨u1,List.pairwise_singleton _ _,fun f hf g' hg'=>?_⟩
    rw [List.mem_singleton.1 hg']
    have:=u3 f hf ((sesGo g sz (i + 1)).getLast?.getD FO0) List.mem_cons_self
    exact this
   ·rcases List.mem_append.1 hf with hf | hf
    ·obtain ⟨a,b,c,d⟩:=ih.each f (List.mem_append_left _ hf)
     exact ⟨a,b,c,by omega⟩
    ·rw [List.mem_singleton.1 hf]
     obtain ⟨a,⟨x,hx,e⟩,c,d⟩:=ih.each _ (List.mem_append_right _ List.mem_cons_self)
     exact ⟨by simp,⟨x,List.mem_append_left _ hx,e⟩,⟨g[i + 1],by simp,rfl⟩,by
      show ((sesGo g sz (i + 1)).getLast?.getD FO0).1.1 ≤ _
      omega⟩
structure FoldsOK (g:List IT) (l:List FO):Prop where
 up:l.Pairwise fun f f'=>f.1.1 < f'.1.1
 each:∀ f ∈ l,f.2 ≠ []∧(∀ x ∈ f.2,x ∈ g)∧f.2.length ≤ g.length∧endIn f.1
theorem folds_ok (q:QY) (hm:qMay q=true) (g:List IT) (ht:∀ x ∈ g,timeIn x) (hup:g.Pairwise fun x y=>x.2.1 ≤ y.2.1):FoldsOK g (foldsOf q g):=by
 have hz:1 ≤ q.2.2.1∧q.2.2.1 ≤ 1073741824:=by
  simp only [qMay,Bool.and_eq_true,decide_eq_true_eq] at hm
  exact ⟨hm.1,hm.2.1⟩
 unfold foldsOf
 by_cases h2:q.1=2
 ·rw [if_pos h2]
  unfold sesOf
  rcases Nat.eq_zero_or_pos g.length with h0 | h0
  ·rw [h0]; exact ⟨List.Pairwise.nil,by simp [sesGo]⟩
  ·obtain ⟨i,hi⟩:∃ i,g.length=i + 1:=⟨g.length - 1,by omega⟩
   have h1:=sesGo_ok q.2.2.1 hz.1 g hup i (by omega)
   rw [← hi] at h1
   have hfl:=sesGo_flat g q.2.2.1 g.length (Nat.le_refl _)
   rw [List.take_length] at hfl
   refine ⟨h1.up,fun f hf=>?_⟩
   obtain ⟨a,_,⟨y,hy,e⟩,_⟩:=h1.each f hf
   have hsub:∀ x ∈ f.2,x ∈ g:=fun x hx=>by
    rw [← hfl]
    exact List.mem_flatten.2 ⟨f.2,List.mem_map_of_mem hf,hx⟩
   refine ⟨a,hsub,sesGo_mem g q.2.2.1 g.length (Nat.le_refl _) f hf,?_⟩
   obtain ⟨t1,t2⟩:=ht y (hsub y hy)
   unfold endIn
   omega
 ·rw [if_neg h2]
  have hw:=winOf_is q (FixQ.of hm h2) g hup
  refine ⟨hw.up,fun f hf=>?_⟩
  obtain ⟨k,e1,e2,e3⟩:=hw.each f hf
  have hsub:∀ x ∈ f.2,x ∈ g:=fun x hx=>by rw [e2] at hx; exact (List.mem_filter.1 hx).1
  refine ⟨e3,hsub,by rw [e2]; exact List.length_filter_le _ _,?_⟩
  obtain ⟨y,hy⟩:=List.exists_mem_of_ne_nil _ e3
  have hy':=hy
  rw [e2] at hy'
  have hin:=(List.mem_filter.1 hy').2
  simp only [inW,Bool.and_eq_true,decide_eq_true_eq] at hin
  obtain ⟨t1,t2⟩:=ht y (hsub y hy)
  have hs2:f.1.2=f.1.1 + q.2.2.1:=by rw [e1]; rfl
  unfold endIn
  omega
structure GrpOK (σ:Int) (gs:List (List IT)):Prop where
 up:gs.Pairwise fun g h=>∀ x ∈ g,∀ y ∈ h,x.1 < y.1
 each:∀ g ∈ gs,g ≠ []∧∃ τ,τ ≤ σ∧∀ x ∈ g,x.1=τ
 last:∀ x ∈ gs.getLast?.getD [],x.1=σ
theorem grp_ok (ys:List IT) (hup:ys.Pairwise fun x y=>x.1 ≤ y.1):∀ i,i < ys.length→GrpOK (ys.getD i IT0).1 (grpGo ys (i + 1))
 | 0,h=>by
  have hb:newGrp ys 0=true:=by simp [newGrp]
  simp only [grpGo,hb,grpAdd,List.nil_append]
  exact ⟨List.pairwise_singleton _ _,fun g hg=>by
   rw [List.mem_singleton.1 hg]
   exact ⟨by simp,_,Int.le_refl _,fun x hx=>by rw [List.mem_singleton.1 hx]⟩,fun x hx=>by
   have:x=ys.getD 0 IT0:=by simpa using hx
   rw [this]⟩
 | i + 1,h=>by
  have ih:=grp_ok ys hup i (by omega)
  have h1:ys.getD (i + 1) IT0=ys[i + 1]:=getLt h _
  have h2:ys.getD i IT0=ys[i]:=getLt (by omega) _
  have hle:=List.pairwise_iff_getElem.1 hup i (i + 1) (by omega) h (by omega)
  rw [show grpGo ys (i + 1 + 1)=grpAdd (grpGo ys (i + 1)) (ys.getD (i + 1) IT0) (newGrp ys (i + 1)) from rfl]
  rw [h2] at ih
  rw [h1]
  cases hb:newGrp ys (i + 1) with
  | true =>
   have hne:ys[i].1 ≠ ys[i + 1].1:=by
    simp only [newGrp,Nat.add_sub_cancel,h1,h2] at hb
    simpa using hb
   simp only [grpAdd]
   refine ⟨?_,fun g hg=>?_,?_⟩
   ·rw [List.pairwise_append]
    refine ⟨ih.up,List.pairwise_singleton _ _,fun g hg g' hg' x hx y hy=>?_⟩
    rw [List.mem_singleton.1 hg'] at hy
    rw [List.mem_singleton.1 hy]
    obtain ⟨_,τ,t1,t2⟩:=ih.each g hg
    have:=t2 x hx
    omega
   ·rcases List.mem_append.1 hg with hg | hg
    ·obtain ⟨a,τ,t1,t2⟩:=ih.each g hg
     exact ⟨a,τ,by omega,t2⟩
    ·rw [List.mem_singleton.1 hg]
     exact ⟨by simp,_,Int.le_refl _,fun x hx=>by rw [List.mem_singleton.1 hx]⟩
   ·intro x hx
    have:x=ys[i + 1]:=by simpa using hx
    rw [this]
  | false =>
   have heq:ys[i].1=ys[i + 1].1:=by
    simp only [newGrp,Nat.add_sub_cancel,h1,h2] at hb
    simpa using hb
   have hs:=last_split (grpGo_ne ys (i + 1) (by omega)) []
   have hlast:=ih.last
   rw [hs] at ih
   simp only [grpAdd]
   have hu:=ih.up
   rw [List.pairwise_append] at hu
   obtain ⟨u1,_,u3⟩:=hu
   refine ⟨?_,fun g hg=>?_,?_⟩
   ·rw [List.pairwise_append]
    refine ⟨u1,List.pairwise_singleton _ _,fun g hg g' hg' x hx y hy=>?_⟩
    rw [List.mem_singleton.1 hg'] at hy
    rcases List.mem_append.1 hy with hy | hy
    ·exact u3 g hg _ List.mem_cons_self x hx y hy
    ·rw [List.mem_singleton.1 hy]
     obtain ⟨a,τ,t1,t2⟩:=ih.each _ (List.mem_append_right _ List.mem_cons_self)
     obtain ⟨z,hz⟩:=List.exists_mem_of_ne_nil _ a
     have h3:=u3 g hg _ List.mem_cons_self x hx z hz
     have h4:=hlast z hz
     omega
   ·rcases List.mem_append.1 hg with hg | hg
    ·obtain ⟨a,τ,t1,t2⟩:=ih.each g (List.mem_append_left _ hg)
     exact ⟨a,τ,by omega,t2⟩
    ·rw [List.mem_singleton.1 hg]
     refine ⟨by simp,ys[i + 1].1,Int.le_refl _,fun x hx=>?_⟩
     rcases List.mem_append.1 hx with hx | hx
     ·rw [hlast x hx,heq]
     ·rw [List.mem_singleton.1 hx]
   ·intro x hx
    have hx:x ∈ (grpGo ys (i + 1)).getLast?.getD [] ++ [ys[i + 1]]:=by simpa using hx
    rcases List.mem_append.1 hx with hx | hx
    ·rw [hlast x hx,heq]
    ·rw [List.mem_singleton.1 hx]
structure RowsOK (ys:List IT) (gs:List (List IT)):Prop where
 flat:gs.flatten=ys
 up:gs.Pairwise fun g h=>∀ x ∈ g,∀ y ∈ h,x.1 < y.1
 each:∀ g ∈ gs,g ≠ []∧(∃ τ,∀ x ∈ g,x.1=τ)∧g.Sublist ys∧g.Pairwise fun x y=>x.2.1 < y.2.1 ∨ x.2.1=y.2.1∧x.2.2.1 < y.2.2.1
theorem rows_ok (ys:List IT) (hup:ys.Pairwise fun x y=>ltRow x y=true):RowsOK ys (rowOf ys):=by
 have hfl:=grpGo_flat ys ys.length (Nat.le_refl _)
 rw [List.take_length] at hfl
 have hser:ys.Pairwise fun x y=>x.1 ≤ y.1:=hup.imp fun {x y} h=>by rw [ltRow_iff] at h; omega
 unfold rowOf
 rcases Nat.eq_zero_or_pos ys.length with h0 | h0
 ·refine ⟨hfl,?_,?_⟩ <;> rw [h0] <;> simp [grpGo]
 ·obtain ⟨i,hi⟩:∃ i,ys.length=i + 1:=⟨ys.length - 1,by omega⟩
  have h1:=grp_ok ys hser i (by omega)
  rw [← hi] at h1
  refine ⟨hfl,h1.up,fun g hg=>?_⟩
  obtain ⟨a,τ,_,t2⟩:=h1.each g hg
  have hsub:g.Sublist ys:=by rw [← hfl]; exact List.sublist_flatten_of_mem hg
  refine ⟨a,⟨τ,t2⟩,hsub,?_⟩
  have hp:=hup.sublist hsub
  refine List.Pairwise.imp_of_mem ?_ hp
  intro x y hx hy h
  rw [ltRow_iff,t2 x hx,t2 y hy] at h
  omega
theorem pairwise_asc {α:Type} {lt:α→α→Bool}:∀ {l:List α},l.Pairwise (fun x y=>lt x y=true)→ascL lt l=true
 | [],_=>rfl
 | [x],_=>rfl
 | x :: y :: l,h=>by
  simp only [ascL,Bool.and_eq_true]
  exact ⟨List.rel_of_pairwise_cons h List.mem_cons_self,pairwise_asc (List.Pairwise.of_cons h)⟩
theorem insL_up {α:Type} {lt:α→α→Bool} (ht:∀ x y z,lt x y=true→lt y z=true→lt x z=true) (x:α):∀ {l:List α},l.Pairwise (fun x y=>lt x y=true)→(∀ y ∈ l,lt x y=true ∨ lt y x=true)→(insL lt x l).Pairwise (fun x y=>lt x y=true)
 | [],_,_=>List.pairwise_singleton _ _
 | y :: l,h,hx=>by
  simp only [insL]
  cases hxy:lt x y with
  | true =>
   simp only [cond_true]
   refine List.Pairwise.cons (fun z hz=>?_) h
   rcases List.mem_cons.1 hz with rfl | hz
   ·exact hxy
   ·exact ht _ _ _ hxy (List.rel_of_pairwise_cons h hz)
  | false =>
   simp only [cond_false]
   have hyx:lt y x=true:=by
    rcases hx y List.mem_cons_self with h1 | h1
    ·rw [hxy] at h1; cases h1
    ·exact h1
   refine List.Pairwise.cons (fun z hz=>?_) (insL_up ht x (List.Pairwise.of_cons h) fun z hz=>hx z (List.mem_cons_of_mem _ hz))
   have hz:=(insL_perm lt x l).mem_iff.1 hz
   rcases List.mem_cons.1 hz with rfl | hz
   ·exact hyx
   ·exact List.rel_of_pairwise_cons h hz
theorem isortL_up {α:Type} {lt:α→α→Bool} (ht:∀ x y z,lt x y=true→lt y z=true→lt x z=true):∀ {l:List α},l.Pairwise (fun x y=>lt x y=true ∨ lt y x=true)→(isortL lt l).Pairwise (fun x y=>lt x y=true)
 | [],_=>List.Pairwise.nil
 | x :: l,h=>insL_up ht x (isortL_up ht (List.Pairwise.of_cons h)) fun y hy=>List.rel_of_pairwise_cons h ((isortL_perm lt l).mem_iff.1 hy)
theorem itemsGo_facts:∀ {xs:List IT} {seen:List Int},itemsGo seen xs=true→(∀ x ∈ xs,itemMay x=true)∧(xs.Pairwise fun x y=>x.2.2.1 ≠ y.2.2.1)∧∀ x ∈ xs,x.2.2.1 ∉ seen
 | [],seen,_=>⟨by simp,List.Pairwise.nil,by simp⟩
 | x :: xs,seen,h=>by
  simp only [itemsGo,Bool.and_eq_true,Bool.not_eq_true'] at h
  obtain ⟨h1,h2,h3⟩:=h
  obtain ⟨f1,f2,f3⟩:=itemsGo_facts h3
  have h2:x.2.2.1 ∉ seen:=by simpa using h2
  refine ⟨fun y hy=>?_,List.Pairwise.cons (fun y hy e=>f3 y hy (by rw [e]; exact List.mem_cons_self)) f2,fun y hy=>?_⟩
  ·rcases List.mem_cons.1 hy with rfl | hy
   ·exact h1
   ·exact f1 y hy
  ·rcases List.mem_cons.1 hy with rfl | hy
   ·exact h2
   ·exact fun hm=>f3 y hy (List.mem_cons_of_mem _ hm)
theorem ltRow_trans (x y z:IT) (h1:ltRow x y=true) (h2:ltRow y z=true):ltRow x z=true:=by
 rw [ltRow_iff] at *; omega
theorem row_up {xs:List IT} (h:xs.Pairwise fun x y=>x.2.2.1 ≠ y.2.2.1):(isortL ltRow xs).Pairwise (fun x y=>ltRow x y=true):=by
 refine isortL_up ltRow_trans (h.imp fun {x y} hne=>?_)
 rw [ltRow_iff,ltRow_iff]
 omega
structure RowG (g:List IT):Prop where
 ne:g ≠ []
 len:g.length ≤ 8192
 may:∀ x ∈ g,itemMay x=true
 ser:∃ τ,∀ x ∈ g,x.1=τ
 up:g.Pairwise fun x y=>x.2.1 ≤ y.2.1
theorem itemMay_timeIn {x:IT} (h:itemMay x=true):timeIn x:=by
 simp only [itemMay,inV,Bool.and_eq_true,decide_eq_true_eq] at h
 exact ⟨h.2.2.1.1,h.2.2.1.2⟩
theorem RowG.time {g:List IT} (h:RowG g):∀ x ∈ g,timeIn x:=fun x hx=>itemMay_timeIn (h.may x hx)
theorem folds_len (q:QY) (hm:qMay q=true) (g:List IT):(foldsOf q g).length ≤ g.length * 64:=by
 unfold foldsOf
 by_cases h2:q.1=2
 ·rw [if_pos h2]
  have:=sesGo_len g q.2.2.1 g.length
  unfold sesOf
  omega
 ·rw [if_neg h2]
  exact win_len q hm h2 g g.length
def keptB (ks:List (Int×Bool)) (x:IT):Bool:=mget ks x.2.2.1
theorem Held1_eq (n:Nat) (x:IT) (ks:List (Int×Bool)) (h:wfI x.2.2.1=true):spec_Held_1 n x ks=some (!keptB ks x):=by
 unfold spec_Held_1 keptB
 rw [if_pos h]
theorem del_l0 (n:Nat) (ks:List (Int×Bool)):∀ (k m i j:Nat) (v:List IT),v.length ≤ 8192→(∀ x ∈ v,wfI x.2.2.1=true)→j + k=v.length→i < j→k < m →
  slices_DeleteFunc_api_Item_l0 n c76.F c63.F (ks,()) m (i:Int) (j:Int) v=some (v.take i ++ (v.drop j).filter (keptB ks)):=by
 intro k
 induction k with
 | zero =>
  intro m i j v h9 hw hj hij hm
  obtain ⟨m,rfl,hm⟩:=sucM hm
  rw [slices_DeleteFunc_api_Item_l0_S]
  have hd:decide ((j:Int) < (v.length:Int))=false:=by simp; omega
  have e:v.drop j=[]:=List.drop_eq_nil_of_le (by omega)
  have e1:((0:Int) + (i:Int)).toNat=i:=by omega
  have e2:((v.length:Int) - (i:Int)).toNat=v.length - i:=by omega
  have e3:splc v i (List.replicate (v.length - i) ((0:Int),(0:Int),(0:Int),(0:Int)))=v.take i ++ List.replicate (v.length - i) ((0:Int),(0:Int),(0:Int),(0:Int)):=by
   unfold splc
   rw [List.drop_eq_nil_of_le (by simp; omega)]; simp
  have e4:((i:Int) - (0:Int)).toNat=i:=by omega
  have hl:(v.take i ++ List.replicate (v.length - i) ((0:Int),(0:Int),(0:Int),(0:Int))).length=v.length:=by simp; omega
  simp only [hd,cond_false,e,e1,e2,e3,e4,hl,List.filter_nil,List.append_nil]
  rw [if_pos (by omega),if_pos (by omega),if_pos (by omega),if_pos (by omega)]
  congr 1
  rw [List.take_append_of_le_length (by simp; omega),List.take_take,Nat.min_self]
 | succ k ihk =>
  intro m i j v h9 hw hj hij hm
  obtain ⟨m,rfl,hm⟩:=sucM hm
  have hlt:j < v.length:=by omega
  rw [slices_DeleteFunc_api_Item_l0_S]
  have c1:(0:Int) ≤ (j:Int)∧(j:Int) < (v.length:Int):=by omega
  have c2:(0:Int) ≤ (i:Int)∧(i:Int) < (v.length:Int):=by omega
  have hd:decide ((j:Int) < (v.length:Int))=true:=by simpa using c1.2
  have hx:v.getD j ((0:Int),(0:Int),(0:Int),(0:Int))=v[j]:=getLt hlt _
  have hwj:=hw _ (List.getElem_mem hlt)
  simp only [hd,cond_true,if_pos c1,if_pos c2,Int.toNat_natCast,hx,Held1_eq n _ ks hwj,Option.bind_some,slices_DeleteFunc_api_Item_j1_S,wrapS (i:=i) (by omega),wrapS (i:=j) (by omega),Bool.not_not]
  rw [dropLt hlt,List.filter_cons]
  cases hk:keptB ks v[j] with
  | true =>
   simp only [cond_true,if_true]
   have hw':∀ x ∈ v.set i v[j],wfI x.2.2.1=true:=by
    intro x hx'
    rcases List.mem_or_eq_of_mem_set hx' with h | h
    ·exact hw x h
    ·rw [h]; exact hwj
   rw [ihk m (i + 1) (j + 1) (v.set i v[j]) (by rw [List.length_set]; exact h9) hw' (by rw [List.length_set]; omega) (by omega) (by omega)]
   congr 1
   have e1:(v.set i v[j]).take (i + 1)=v.take i ++ [v[j]]:=by
    rw [List.take_succ_eq_append_getElem (by rw [List.length_set]; omega),List.getElem_set_self,List.take_set_of_le (Nat.le_refl _)]
   have e2:(v.set i v[j]).drop (j + 1)=v.drop (j + 1):=List.drop_set_of_lt (by omega)
   rw [e1,e2,List.append_assoc]
   rfl
  | false =>
   simp only [cond_false,Bool.false_eq_true,if_false]
   exact ihk m i (j + 1) v h9 hw (by omega) (by omega) (by omega)
def fstNot (ks:List (Int×Bool)):List IT→Option Nat
 | []=>none
 | x :: l=>if keptB ks x=true then (fstNot ks l).map (· + 1) else some 0
theorem fstNot_none {ks:List (Int×Bool)}:∀ {l:List IT},fstNot ks l=none→l.filter (keptB ks)=l
 | [],_=>rfl
 | x :: l,h=>by
  simp only [fstNot] at h
  split at h
  ·rename_i hx
   rw [List.filter_cons,if_pos hx,fstNot_none (l:=l) (by simpa using h)]
  ·cases h
theorem fstNot_some {ks:List (Int×Bool)}:∀ {l:List IT} {p:Nat},fstNot ks l=some p→p < l.length∧l.filter (keptB ks)=l.take p ++ (l.drop (p + 1)).filter (keptB ks)
 | [],p,h=>by cases h
 | x :: l,p,h=>by
  simp only [fstNot] at h
  split at h
  ·rename_i hx
   obtain ⟨p',h1,rfl⟩:=Option.map_eq_some_iff.1 h
   obtain ⟨h2,h3⟩:=fstNot_some h1
   refine ⟨by simpa using h2,?_⟩
   rw [List.filter_cons,if_pos hx,h3]
   simp
  ·rename_i hx
   cases h
   refine ⟨by simp,?_⟩
   rw [List.filter_cons,if_neg hx]
   simp
theorem idxI_l0 (n:Nat) (ks:List (Int×Bool)) (v:List IT) (h9:v.length ≤ 8192) (hw:∀ x ∈ v,wfI x.2.2.1=true):∀ (k m i:Nat),i + k=v.length→k < m →
  slices_IndexFunc_api_Item_l0 n c63.F v (ks,()) m (i:Int)=some (match fstNot ks (v.drop i) with | none=>-1 | some p=>((i + p:Nat):Int)):=by
 intro k
 induction k with
 | zero =>
  intro m i hi hm
  obtain ⟨m,rfl,hm⟩:=sucM hm
  rw [slices_IndexFunc_api_Item_l0_S]
  have hd:decide ((i:Int) < (v.length:Int))=false:=by simp; omega
  have e:v.drop i=[]:=List.drop_eq_nil_of_le (by omega)
  simp only [hd,cond_false,e,fstNot]
 | succ k ihk =>
  intro m i hi hm
  obtain ⟨m,rfl,hm⟩:=sucM hm
  have hlt:i < v.length:=by omega
  rw [slices_IndexFunc_api_Item_l0_S]
  have c1:(0:Int) ≤ (i:Int)∧(i:Int) < (v.length:Int):=by omega
  have hd:decide ((i:Int) < (v.length:Int))=true:=by simpa using c1.2
  have hx:v.getD i ((0:Int),(0:Int),(0:Int),(0:Int))=v[i]:=getLt hlt _
  have ih':=ihk m (i + 1) (by omega) (by omega)
  simp only [hd,cond_true,if_pos c1,Int.toNat_natCast,hx,Held1_eq n _ ks (hw _ (List.getElem_mem hlt)),Option.bind_some,wrapS (i:=i) (by omega),ih']
  rw [dropLt hlt]
  simp only [fstNot]
  cases hk:keptB ks v[i] with
  | true =>
   simp only [Bool.not_true,cond_false,if_true]
   cases fstNot ks (v.drop (i + 1)) with
   | none=>rfl
   | some p =>
    simp only [Option.map_some]
    congr 2
    omega
  | false=>simp
theorem Delete_eq (n:Nat) (hn:8193 < n) (ks:List (Int×Bool)) (v:List IT) (h9:v.length ≤ 8192) (hw:∀ x ∈ v,wfI x.2.2.1=true):slices_DeleteFunc_api_Item n v (ks,())=some (v.filter (keptB ks)):=by
 rw [slices_DeleteFunc_api_Item_S,slices_IndexFunc_api_Item_S]
 have h1:=idxI_l0 n ks v h9 hw v.length n 0 (by omega) (by omega)
 rw [List.drop_zero] at h1
 have h1:slices_IndexFunc_api_Item_l0 n c63.F v (ks,()) n 0=_:=h1
 simp only [h1,Option.bind_some]
 cases hf:fstNot ks v with
 | none =>
  simp only [beq_self_eq_true,cond_true]
  rw [fstNot_none hf]
 | some p =>
  obtain ⟨h2,h3⟩:=fstNot_some hf
  have hne:(((p:Nat):Int) == (-1:Int))=false:=by
   rw [beq_eq_false_iff_ne]; omega
  simp only [Nat.zero_add]
  rw [hne,cond_false,wrapS (i:=p) (by omega)]
  have:=del_l0 n ks (v.length - (p + 1)) n p (p + 1) v h9 hw (by omega) (by omega) (by omega)
  rw [this,h3]
def addK (ks:List (Int×Bool)) (l:List IT):List (Int×Bool):=l.foldl (fun o x=>(x.2.2.1,true) :: o) ks
theorem held_l4 (n:Nat) (xs:List IT) (le:Int) (g:List IT) (rows:List (List IT)) (a b c d:Int) (fs:List FO) (e:Int) (j:Nat) (hj:j < fs.length) (hj9:fs.length ≤ 1073741824) (hi9:fs[j].2.length ≤ 1073741824) (hw:∀ x ∈ fs[j].2,wfI x.2.2.1=true) (qs:List QY) (la ro se so:Int)
  (ih:List IT→Int→List IT→List (List IT)→Int→Int→Int→Int→List FO→Int→Int→List QY→Int→Int→Int→Int→List (Int×Bool)→Option (List IT×Int)) :
  ∀ (k m i:Nat) (ks:List (Int×Bool)),i + k=fs[j].2.length→k < m →
   spec_Held_l4 n c57.F c58.F c59.F c60.F c62.F c63.F c61.F c64b.F xs le g rows a b c d fs e (j:Int) qs la ro se so ih m (i:Int) ks=ih xs le g rows a b c d fs e ((j + 1:Nat):Int) qs la ro se so (addK ks (fs[j].2.drop i)):=by
 have hf:fs.getD j (((0:Int),(0:Int)),Go.Ev.nl IT)=fs[j]:=getLt hj _
 intro k
 induction k with
 | zero =>
  intro m i ks hi hm
  obtain ⟨m,rfl,hm⟩:=sucM hm
  rw [spec_Held_l4_S]
  have e1:fs[j].2.drop i=[]:=List.drop_eq_nil_of_le (by omega)
  simp only [Int.toNat_natCast,hf]
  have hd:decide ((i:Int) < (fs[j].2.length:Int))=false:=by simp; omega
  simp only [hd,cond_false,e1,addK,List.foldl_nil,spec_Held_j3_S,wrapS (i:=j) (by omega)]
 | succ k ihk =>
  intro m i ks hi hm
  obtain ⟨m,rfl,hm⟩:=sucM hm
  have hlt:i < fs[j].2.length:=by omega
  rw [spec_Held_l4_S]
  simp only [Int.toNat_natCast,hf]
  have c1:(0:Int) ≤ (i:Int)∧(i:Int) < (fs[j].2.length:Int):=by omega
  have hd:decide ((i:Int) < (fs[j].2.length:Int))=true:=by simpa using c1.2
  have hx:fs[j].2.getD i ((0:Int),(0:Int),(0:Int),(0:Int))=fs[j].2[i]:=getLt hlt _
  have hwi:=hw _ (List.getElem_mem hlt)
  simp only [hd,cond_true,if_pos c1,hx,hwi,if_true,wrapS (i:=i) (by omega)]
  rw [ihk m (i + 1) _ (by omega) (by omega),dropLt hlt]
  rfl
def keepF (la mark:Int) (ks:List (Int×Bool)) (fs:List FO):List (Int×Bool):=fs.foldl (fun o f=>if isOutS la f.1 mark=true then o else addK o f.2) ks
theorem held_l2 (n:Nat) (hn:1073741825 < n) (xs:List IT) (le:Int) (g:List IT) (rows:List (List IT)) (a b c:Int) (i:Nat) (hi:i < 1073741824) (fs:List FO) (hf9:fs.length ≤ 1073741824) (hf:∀ f ∈ fs,endIn f.1∧f.2.length ≤ 1073741824∧∀ x ∈ f.2,wfI x.2.2.1=true) (qs:List QY) (la ro se so:Int) (hla:0 ≤ la∧la ≤ 1073741824)
  (ih:List IT→Int→List IT→List (List IT)→Int→Int→Int→Int→List QY→Int→Int→Int→Int→List (Int×Bool)→Option (List IT×Int)) :
  ∀ (k m j:Nat) (ks:List (Int×Bool)),j + k=fs.length→k < m →
   spec_Held_l2 n c57.F c58.F c59.F c60.F c62.F c63.F c61.F c64b.F ih m xs le g rows a b c (i:Int) fs (fs.length:Int) (j:Int) qs la ro se so ks=ih xs le g rows a b c ((i + 1:Nat):Int) qs la ro se so (keepF la le ks (fs.drop j)):=by
 intro k
 induction k with
 | zero =>
  intro m j ks hj hm
  obtain ⟨m,rfl,hm⟩:=sucM hm
  rw [spec_Held_l2_S]
  have e1:fs.drop j=[]:=List.drop_eq_nil_of_le (by omega)
  have hd:decide ((j:Int) < (fs.length:Int))=false:=by simp; omega
  simp only [hd,cond_false,e1,keepF,List.foldl_nil,wrapS (i:=i) (by omega)]
 | succ k ihk =>
  intro m j ks hj hm
  obtain ⟨m,rfl,hm⟩:=sucM hm
  have hlt:j < fs.length:=by omega
  rw [spec_Held_l2_S]
  have c1:(0:Int) ≤ (j:Int)∧(j:Int) < (fs.length:Int):=by omega
  have hd:decide ((j:Int) < (fs.length:Int))=true:=by simpa using c1.2
  obtain ⟨he,hl,hw⟩:=hf fs[j] (List.getElem_mem hlt)
  have hfj:fs.getD j (((0:Int),(0:Int)),Go.Ev.nl IT)=fs[j]:=getLt hlt _
  have o1:=isOut_eq n (qs,la,ro,se,so) hla fs[j].1 he le
  have ih':=fun ks'=>ihk m (j + 1) ks' (by omega) (by omega)
  simp only [hd,cond_true,if_pos c1,Int.toNat_natCast,hfj,o1,Option.bind_some]
  rw [dropLt hlt]
  have hk:keepF la le ks (fs[j] :: fs.drop (j + 1))=keepF la le (if isOutS la fs[j].1 le=true then ks else addK ks fs[j].2) (fs.drop (j + 1)):=rfl
  rw [hk]
  cases h1:isOutS la fs[j].1 le with
  | true =>
   simp only [cond_true,if_true,spec_Held_j3_S,wrapS (i:=j) (by omega)]
   exact ih' ks
  | false =>
   simp only [cond_false,Bool.false_eq_true,if_false]
   have h4:=held_l4 n xs le g rows a b c (i:Int) fs (fs.length:Int) j hlt hf9 hl hw qs la ro se so (spec_Held_l2 n c57.F c58.F c59.F c60.F c62.F c63.F c61.F c64b.F ih m) fs[j].2.length n 0 ks (by omega) (by omega)
   rw [List.drop_zero] at h4
   have h4':spec_Held_l4 n c57.F c58.F c59.F c60.F c62.F c63.F c61.F c64b.F xs le g rows a b c (i:Int) fs (fs.length:Int) (j:Int) qs la ro se so (spec_Held_l2 n c57.F c58.F c59.F c60.F c62.F c63.F c61.F c64b.F ih m) n 0 ks=_:=h4
   rw [h4']
   exact ih' _
def keepQ (la mark:Int) (g:List IT) (ks:List (Int×Bool)) (qs:List QY):List (Int×Bool):=qs.foldl (fun o q=>keepF la mark o (foldsOf q g)) ks
theorem held_l1 (n:Nat) (hn:9007199254740992 < n) (xs:List IT) (le:Int) (g:List IT) (hg:RowG g) (rows:List (List IT)) (nr:Int) (ri:Nat) (hri:ri < 1073741824) (qs:List QY) (h9:qs.length ≤ 8) (hq:∀ q ∈ qs,qMay q=true) (la ro se so:Int) (hla:0 ≤ la∧la ≤ 1073741824)
  (ih:List IT→Int→List (List IT)→Int→Int→List QY→Int→Int→Int→Int→List (Int×Bool)→Option (List IT×Int)) :
  ∀ (k m i:Nat) (ks:List (Int×Bool)),i + k=qs.length→k < m →
   spec_Held_l1 n c57.F c58.F c59.F c60.F c62.F c63.F c61.F c64b.F ih m xs le g rows nr (ri:Int) (qs.length:Int) (i:Int) qs la ro se so ks=ih xs le rows nr ((ri + 1:Nat):Int) qs la ro se so (keepQ la le g ks (qs.drop i)):=by
 have hgl:=hg.len
 intro k
 induction k with
 | zero =>
  intro m i ks hi hm
  obtain ⟨m,rfl,hm⟩:=sucM hm
  rw [spec_Held_l1_S]
  have e1:qs.drop i=[]:=List.drop_eq_nil_of_le (by omega)
  have hd:decide ((i:Int) < (qs.length:Int))=false:=by simp; omega
  simp only [hd,cond_false,e1,keepQ,List.foldl_nil,wrapS (i:=ri) (by omega)]
 | succ k ihk =>
  intro m i ks hi hm
  obtain ⟨m,rfl,hm⟩:=sucM hm
  have hlt:i < qs.length:=by omega
  rw [spec_Held_l1_S]
  have c1:(0:Int) ≤ (i:Int)∧(i:Int) < (qs.length:Int):=by omega
  have hd:decide ((i:Int) < (qs.length:Int))=true:=by simpa using c1.2
  have hqi:=hq _ (List.getElem_mem hlt)
  have hqd:qs.getD i ((0:Int),(0:Int),(0:Int),(0:Int),Go.Ev.nl Int,(0:Int))=qs[i]:=getLt hlt _
  have hfl:=folds_len qs[i] hqi g
  have hfo:=folds_ok qs[i] hqi g hg.time hg.up
  simp only [hd,cond_true,if_pos c1,Int.toNat_natCast,hqd,folds_eq n hn qs[i] hqi g hgl hg.time hg.up,Option.bind_some]
  have h2:=held_l2 n (by omega) xs le g rows nr (ri:Int) (qs.length:Int) i (by omega) (foldsOf qs[i] g) (by omega) (fun f hf=>⟨(hfo.each f hf).2.2.2,by have:=(hfo.each f hf).2.2.1; omega,fun x hx=>wfSeq (hg.may x ((hfo.each f hf).2.1 x hx))⟩) qs la ro se so hla (spec_Held_l1 n c57.F c58.F c59.F c60.F c62.F c63.F c61.F c64b.F ih m) (foldsOf qs[i] g).length n 0 ks (by omega) (by omega)
  rw [List.drop_zero] at h2
  have h2':spec_Held_l2 n c57.F c58.F c59.F c60.F c62.F c63.F c61.F c64b.F (spec_Held_l1 n c57.F c58.F c59.F c60.F c62.F c63.F c61.F c64b.F ih m) n xs le g rows nr (ri:Int) (qs.length:Int) (i:Int) (foldsOf qs[i] g) ((foldsOf qs[i] g).length:Int) 0 qs la ro se so ks=_:=h2
  rw [h2',ihk m (i + 1) _ (by omega) (by omega),dropLt hlt]
  rfl
def keepAll (la mark:Int) (qs:List QY) (ks:List (Int×Bool)) (rows:List (List IT)):List (Int×Bool):=rows.foldl (fun o g=>keepQ la mark g o qs) ks
theorem held_l0 (n:Nat) (hn:9007199254740992 < n) (xs:List IT) (le:Int) (rows:List (List IT)) (hr:∀ g ∈ rows,RowG g) (hr9:rows.length ≤ 8192) (qs:List QY) (h9:qs.length ≤ 8) (hq:∀ q ∈ qs,qMay q=true) (la ro se so:Int) (hla:0 ≤ la∧la ≤ 1073741824) :
  ∀ (k m r:Nat) (ks:List (Int×Bool)),r + k=rows.length→k < m →
   spec_Held_l0 n c57.F c58.F c59.F c60.F c62.F c63.F c61.F c64b.F m xs le rows (rows.length:Int) (r:Int) qs la ro se so ks=Option.bind (slices_Clone_api_Item n xs) fun r4=>Option.bind (slices_DeleteFunc_api_Item n r4 (keepAll la le qs ks (rows.drop r),())) fun r5=>Option.bind (slices_SortFunc_ord n r5 ()) fun r6=>some (r6,0):=by
 intro k
 induction k with
 | zero =>
  intro m r ks hi hm
  obtain ⟨m,rfl,hm⟩:=sucM hm
  rw [spec_Held_l0_S]
  have e1:rows.drop r=[]:=List.drop_eq_nil_of_le (by omega)
  have hd:decide ((r:Int) < (rows.length:Int))=false:=by simp; omega
  simp only [hd,cond_false,e1,keepAll,List.foldl_nil]
 | succ k ihk =>
  intro m r ks hi hm
  obtain ⟨m,rfl,hm⟩:=sucM hm
  have hlt:r < rows.length:=by omega
  rw [spec_Held_l0_S]
  have c1:(0:Int) ≤ (r:Int)∧(r:Int) < (rows.length:Int):=by omega
  have hd:decide ((r:Int) < (rows.length:Int))=true:=by simpa using c1.2
  have hg:=hr _ (List.getElem_mem hlt)
  have hgd:rows.getD r (Go.Ev.nl IT)=rows[r]:=getLt hlt _
  simp only [hd,cond_true,if_pos c1,Int.toNat_natCast,hgd]
  have h2:=held_l1 n hn xs le rows[r] hg rows (rows.length:Int) r (by omega) qs h9 hq la ro se so hla (spec_Held_l0 n c57.F c58.F c59.F c60.F c62.F c63.F c61.F c64b.F m) qs.length n 0 ks (by omega) (by omega)
  rw [List.drop_zero] at h2
  have h2':spec_Held_l1 n c57.F c58.F c59.F c60.F c62.F c63.F c61.F c64b.F (spec_Held_l0 n c57.F c58.F c59.F c60.F c62.F c63.F c61.F c64b.F m) n xs le rows[r] rows (rows.length:Int) (r:Int) (qs.length:Int) 0 qs la ro se so ks=_:=h2
  rw [h2',ihk m (r + 1) _ (by omega) (by omega),dropLt hlt]
  rfl
def ltOrd (x y:IT):Bool:=decide (cfOrd x y < 0)
theorem ltOrd_iff (x y:IT):ltOrd x y=true ↔ x.2.1 < y.2.1 ∨ x.2.1=y.2.1∧x.2.2.1 < y.2.2.1:=by
 unfold ltOrd; rw [decide_eq_true_eq,cfOrd_neg]
theorem ltOrd_trans (x y z:IT) (h1:ltOrd x y=true) (h2:ltOrd y z=true):ltOrd x z=true:=by
 rw [ltOrd_iff] at *; omega
theorem ord_up {xs:List IT} (h:xs.Pairwise fun x y=>x.2.2.1 ≠ y.2.2.1):(isortL ltOrd xs).Pairwise (fun x y=>ltOrd x y=true):=by
 refine isortL_up ltOrd_trans (h.imp fun {x y} hne=>?_)
 rw [ltOrd_iff,ltOrd_iff]
 omega
def keptS (c:CF) (xs:List IT) (mark:Int):List (Int×Bool):=keepAll c.2.1 mark c.1 [] (rowOf (isortL ltRow xs))
def heldS (c:CF) (xs:List IT) (mark:Int):List IT:=isortL ltOrd (xs.filter (keptB (keptS c xs mark)))
theorem Held_eq (n:Nat) (hn:9007199254740992 < n) (c:CF) (xs:List IT) (a:Int) (h:mayS c xs [a]=true):spec_Held n c xs a=some (heldS c xs a,0):=by
 have h':=h
 simp only [mayS,cfgMay,inR,Bool.and_eq_true,decide_eq_true_eq,List.all_eq_true] at h
 obtain ⟨hi,⟨hq1,hq2,hla,_⟩,h9,_⟩:=h
 obtain ⟨f1,f2,_⟩:=itemsGo_facts hi
 have hup:=row_up f2
 have hro:=rows_ok (isortL ltRow xs) hup
 have hlen:(isortL ltRow xs).length=xs.length:=(isortL_perm ltRow xs).length_eq
 have hrows:∀ g ∈ rowOf (isortL ltRow xs),RowG g:=by
  intro g hg
  obtain ⟨g1,g2,g3,g4⟩:=hro.each g hg
  exact ⟨g1,by have:=g3.length_le; omega,fun x hx=>f1 x ((isortL_perm ltRow xs).mem_iff.1 (g3.subset hx)),g2,g4.imp fun {x y} h=>by omega⟩
 have hrl:(rowOf (isortL ltRow xs)).length ≤ 8192:=by
  have:=grpGo_len (isortL ltRow xs) (isortL ltRow xs).length
  unfold rowOf; omega
 have hsort:slices_SortFunc_ord n (xs.filter (keptB (keptS c xs a))) ()=some (heldS c xs a):=by
  have hasc:ascL ltOrd (heldS c xs a)=true:=pairwise_asc (ord_up (f2.filter _))
  have hl:=List.length_filter_le (keptB (keptS c xs a)) xs
  have e1:slices_SortFunc_ord n (xs.filter (keptB (keptS c xs a))) ()=(bif decide ((xs.filter (keptB (keptS c xs a))).length < 4611686018427387904) then (bif ascL ltOrd (heldS c xs a) then some (heldS c xs a) else none) else none):=rfl
  rw [e1,hasc,show decide ((xs.filter (keptB (keptS c xs a))).length < 4611686018427387904)=true by rw [decide_eq_true_eq]; omega]
  rfl
 rw [spec_Held_S]
 have e:(List.replicate (1:Nat) (0:Int)).set (0:Nat) a=[a]:=rfl
 rw [e,may_one n (by omega) c xs (by omega),h']
 simp only [Option.bind_some,Bool.not_true,cond_false,row_eq n (by omega) xs h9 (pairwise_asc hup)]
 have:=held_l0 n hn xs a (rowOf (isortL ltRow xs)) hrows hrl c.1 hq1.2 hq2 c.2.1 c.2.2.1 c.2.2.2.1 c.2.2.2.2 ⟨hla.1,hla.2⟩ (rowOf (isortL ltRow xs)).length n 0 [] (by omega) (by omega)
 rw [List.drop_zero,Clone_item_eq n xs (by omega)] at this
 simp only [Option.bind_some] at this
 have hde:=Delete_eq n (by omega) (keptS c xs a) xs h9 (fun x hx=>wfSeq (f1 x hx))
 have hde':slices_DeleteFunc_api_Item n xs (keepAll c.2.1 a c.1 [] (rowOf (isortL ltRow xs)),())=some (xs.filter (keptB (keptS c xs a))):=hde
 rw [hde'] at this
 simp only [Option.bind_some,hsort] at this
 exact this
structure MayOK (c:CF) (xs:List IT):Prop where
 qs:∀ q ∈ c.1,qMay q=true
 ql:c.1.length ≤ 8
 late:0 ≤ c.2.1∧c.2.1 ≤ 1073741824
 may:∀ x ∈ xs,itemMay x=true
 dif:xs.Pairwise fun x y=>x.2.2.1 ≠ y.2.2.1
 len:xs.length ≤ 8192
theorem MayOK.sub {c:CF} {xs ys:List IT} (h:MayOK c xs) (hs:ys.Sublist xs):MayOK c ys :=
 ⟨h.qs,h.ql,h.late,fun x hx=>h.may x (hs.subset hx),h.dif.sublist hs,Nat.le_trans hs.length_le h.len⟩
theorem MayOK.one {c:CF} {xs:List IT} (h:MayOK c xs) {k:Nat} (hk:k < c.1.length):MayOK ([c.1[k]],c.2) xs :=
 ⟨fun q hq=>by rw [List.mem_singleton.1 hq]; exact h.qs _ (List.getElem_mem hk),by simp,h.late,h.may,h.dif,h.len⟩
theorem MayOK.perm {c:CF} {xs ys:List IT} (h:MayOK c xs) (hp:xs.Perm ys):MayOK c ys :=
 ⟨h.qs,h.ql,h.late,fun x hx=>h.may x (hp.mem_iff.2 hx),(hp.pairwise_iff fun {a b} h=>fun e=>h e.symm).1 h.dif,by rw [← hp.length_eq]; exact h.len⟩
theorem held_perm (c:CF) (xs:List IT) (mark:Int):(heldS c xs mark).Perm (xs.filter (keptB (keptS c xs mark))):=isortL_perm ltOrd _
theorem MayOK.held {c:CF} {xs:List IT} (h:MayOK c xs) (mark:Int):MayOK c (heldS c xs mark):=(h.sub List.filter_sublist).perm (held_perm c xs mark).symm
theorem uwrapE (x:Int):u64.wrap x=x % 18446744073709551616:=by
 simp [Go.IntKind.wrap,Go.IntKind.signed,Go.IntKind.bits]
theorem uwrapI {x:Int} (h0:0 ≤ x) (h1:x < 18446744073709551616):u64.wrap x=x:=by
 rw [uwrapE]; omega
theorem bwrapE (x:Int):u8.wrap x=x % 256:=by
 simp [Go.IntKind.wrap,Go.IntKind.signed,Go.IntKind.bits]
theorem b64:i64.bits=64:=rfl
theorem bu64:u64.bits=64:=rfl
theorem pw1:(2:Int) ^ min (Int.toNat (1:Int)) u64.bits=2:=by decide
theorem pw7:(2:Int) ^ min (Int.toNat (7:Int)) u64.bits=128:=by decide
theorem pw63:(2:Int) ^ min (Int.toNat (63:Int)) i64.bits=9223372036854775808:=by decide
theorem ofInt_nat (w:Nat) (n:Nat):(BitVec.ofInt w (n:Int))=BitVec.ofNat w n:=BitVec.ofInt_natCast w n
theorem zzW {x:Int} (h:wf64 x):u64.wrap (((BitVec.ofInt u64.bits (u64.wrap (u64.wrap x * (2:Int) ^ min (Int.toNat (1:Int)) u64.bits)) ^^^ BitVec.ofInt u64.bits (u64.wrap (x.fdiv ((2:Int) ^ min (Int.toNat (63:Int)) i64.bits)))).toNat:Nat):Int)=(zz x:Int):=by
 obtain ⟨h1,h2⟩:=h
 rw [pw1,pw63,bu64]
 simp only [uwrapE]
 by_cases h0:0 ≤ x
 ·have e1:x.fdiv 9223372036854775808=0:=by
   rw [Int.fdiv_eq_ediv_of_nonneg _ (by decide)]; omega
  have e2:x % 18446744073709551616 * 2 % 18446744073709551616=((2 * x).toNat:Nat):=by omega
  rw [e1,e2,ofInt_nat,show ((0:Int) % 18446744073709551616)=((0:Nat):Int) from rfl,ofInt_nat,show BitVec.ofNat 64 0=0#64 from rfl,BitVec.xor_zero,BitVec.toNat_ofNat]
  unfold zz
  rw [if_pos h0]
  omega
 ·have e1:x.fdiv 9223372036854775808=-1:=by
   rw [Int.fdiv_eq_ediv_of_nonneg _ (by decide)]; omega
  have e2:x % 18446744073709551616 * 2 % 18446744073709551616=((2 * x + 18446744073709551616).toNat:Nat):=by omega
  rw [e1,e2,ofInt_nat,show ((-1:Int) % 18446744073709551616)=((18446744073709551615:Nat):Int) from rfl,ofInt_nat,show BitVec.ofNat 64 18446744073709551615=BitVec.allOnes 64 from rfl,BitVec.xor_allOnes,BitVec.toNat_not,BitVec.toNat_ofNat]
  unfold zz
  rw [if_neg h0]
  omega
theorem byteB (u:Nat):u8.wrap (((BitVec.ofInt u8.bits (u8.wrap (u:Int)) ||| BitVec.ofInt u8.bits (128:Int)).toNat:Nat):Int)=((u % 128 + 128:Nat):Int):=by
 have key:∀ b:Fin 256,(BitVec.ofInt u8.bits (((b:Nat):Nat):Int) ||| BitVec.ofInt u8.bits 128).toNat=(b:Nat) % 128 + 128:=by decide +kernel
 simp only [bwrapE]
 have e:(u:Int) % 256=(((u % 256:Nat)):Int):=by omega
 rw [e]
 have:=key ⟨u % 256,by omega⟩
 simp only at this
 rw [this]
 omega
def putL (x:Int):List Nat:=enc 10 (zz x)
def putB (x:Int):ByteArray:=ofB ((putL x).map fun b:Nat=>(b:Int))
theorem enc_small (k u:Nat):∀ b ∈ enc k u,b < 256:=by
 induction k generalizing u with
 | zero=>simp [enc]
 | succ k ih =>
  intro b hb
  simp only [enc] at hb
  split at hb
  ·rw [List.mem_singleton.1 hb]; omega
  ·rcases List.mem_cons.1 hb with rfl | hb
   ·omega
   ·exact ih _ b hb
theorem bs_ofN {l:List Nat} (h:∀ b ∈ l,b < 256):bs (ofB (l.map fun b:Nat=>(b:Int)))=l:=by
 rw [bs_ofB,List.map_map]
 conv=>rhs; rw [← List.map_id l]
 refine List.map_congr_left fun b hb=>?_
 show ((b:Int)).toNat % 256=b
 have:=h b hb
 omega
theorem bs_put (x:Int):bs (putB x)=putL x:=bs_ofN (enc_small 10 _)
theorem put_l0 (n:Nat):∀ (k m u:Nat) (acc:List Int),u < 128 ^ k→0 < k→k ≤ 10→k ≤ m→acc.length + k ≤ 20→varint_Put_l0 n m (u:Int) acc=some (ofB (acc ++ (enc k u).map fun b:Nat=>(b:Int))):=by
 intro k
 induction k with
 | zero=>intro m u acc _ h; omega
 | succ k ih =>
  intro m u acc hu _ hk hm hacc
  obtain ⟨m,rfl,hm⟩:=sucM (show k < m by omega)
  rw [varint_Put_l0_S]
  have e1:∀ v:Int,((List.replicate (1:Nat) (0:Int)).set (0:Nat) v)=[v]:=fun v=>rfl
  have c1:∀ v:Int,(acc.length + [v].length) * 1 ≤ 140737488355328∧0 < 1:=fun v=>by simp only [List.length_cons,List.length_nil]; omega
  simp only [e1,if_pos (c1 _),byteB,pw7]
  by_cases h1:u < 128
  ·have d:decide ((u:Int) ≥ 128)=false:=by rw [decide_eq_false_iff_not]; omega
   have e2:u8.wrap (u:Int)=(u:Int):=by rw [bwrapE]; omega
   rw [d,e2]
   simp only [cond_false,enc,if_pos h1,List.map_cons,List.map_nil]
  ·have d:decide ((u:Int) ≥ 128)=true:=by rw [decide_eq_true_eq]; omega
   have hu2:u / 128 < 128 ^ k:=by
    rw [Nat.pow_succ] at hu
    exact Nat.div_lt_of_lt_mul (by omega)
   have hk0:0 < k:=by
    rcases Nat.eq_zero_or_pos k with e | e
    ·subst e; simp at hu2; omega
    ·exact e
   have e2:(u:Int).fdiv 128=((u / 128:Nat):Int):=by
    rw [Int.fdiv_eq_ediv_of_nonneg _ (by decide)]; omega
   have:=ih m (u / 128) (acc ++ [((u % 128 + 128:Nat):Int)]) hu2 hk0 (by omega) (by omega) (by simp; omega)
   rw [d,e2]
   simp only [cond_true,this,enc,if_neg h1,List.map_cons,List.append_assoc,List.singleton_append]
theorem zz_pow {x:Int} (h:wf64 x):zz x < 128 ^ 10:=Nat.lt_trans (zz_lt h) (by decide)
theorem put_eq (n:Nat) (hn:10 ≤ n) (x:Int) (h:wf64 x):varint_Put n x=some (putB x):=by
 rw [varint_Put_S]
 simp only [zzW h]
 have:=put_l0 n 10 n (zz x) [] (zz_pow h) (by decide) (by decide) hn (by simp)
 exact this
theorem putL_len {x:Int} (h:wf64 x):(putL x).length ≤ 10∧0 < (putL x).length:=by
 rcases enc_len 10 _ (zz_pow h) with h | h
 ·exact h
 ·cases h
theorem putB_size {x:Int} (h:wf64 x):(putB x).size ≤ 10:=by
 rw [← bs_len,bs_put]; exact (putL_len h).1
def allL (xs:List Int):List Nat:=xs.flatMap putL
def ofN (l:List Nat):ByteArray:=ofB (l.map fun b:Nat=>(b:Int))
theorem allL_small (xs:List Int):∀ b ∈ allL xs,b < 256:=by
 intro b hb
 obtain ⟨x,_,h⟩:=List.mem_flatMap.1 hb
 exact enc_small _ _ b h
theorem bs_all (xs:List Int):bs (ofN (allL xs))=allL xs:=bs_ofN (allL_small xs)
theorem allL_len {xs:List Int} (h:∀ x ∈ xs,wf64 x):(allL xs).length ≤ xs.length * 10:=by
 induction xs with
 | nil=>simp [allL]
 | cons x xs ih =>
  have h1:=ih fun y hy=>h y (List.mem_cons_of_mem _ hy)
  have h2:=(putL_len (h x List.mem_cons_self)).1
  simp only [allL,List.flatMap_cons,List.length_append,List.length_cons] at h1 ⊢
  omega
theorem all_l0 (n:Nat) (hn:10 ≤ n) (xs:List Int) (hx:∀ x ∈ xs,wf64 x) (h9:xs.length ≤ 4398046511104):∀ (k m i:Nat) (acc:ByteArray),i + k=xs.length→k < m→bs acc=allL (xs.take i) →
  ∃ r,varint_All_l0 n c15.F xs m acc (i:Int)=some r∧bs r=allL xs:=by
 intro k
 induction k with
 | zero =>
  intro m i acc hi hm hacc
  obtain ⟨m,rfl,hm⟩:=sucM hm
  rw [varint_All_l0_S]
  have hd:decide ((i:Int) < (xs.length:Int))=false:=by simp; omega
  have e1:i=xs.length:=by omega
  subst e1
  rw [List.take_length] at hacc
  simp only [hd,cond_false]
  exact ⟨acc,rfl,hacc⟩
 | succ k ih =>
  intro m i acc hi hm hacc
  obtain ⟨m,rfl,hm⟩:=sucM hm
  have hlt:i < xs.length:=by omega
  rw [varint_All_l0_S]
  have hd:decide ((i:Int) < (xs.length:Int))=true:=by simp; omega
  have c1:(0:Int) ≤ (i:Int)∧(i:Int) < (xs.length:Int):=by omega
  have e4:xs.getD i (0:Int)=xs[i]:=getLt hlt _
  have hw:=hx xs[i] (List.getElem_mem hlt)
  have hsz:=putB_size hw
  have hal:acc.size ≤ (xs.take i).length * 10:=by
   rw [← bs_len,hacc]
   exact allL_len fun x h=>hx x (List.mem_of_mem_take h)
  rw [List.length_take] at hal
  have d1:decide (acc.size + (putB xs[i]).size ≤ 9223372036854775807)=true:=by rw [decide_eq_true_eq]; omega
  have hb:bs (catS acc (putB xs[i]))=allL (xs.take (i + 1)):=by
   rw [bs_cat,hacc,bs_put,List.take_succ_eq_append_getElem hlt]
   show allL (xs.take i) ++ putL xs[i]=(xs.take i ++ [xs[i]]).flatMap putL
   rw [List.flatMap_append,List.flatMap_singleton]; rfl
  obtain ⟨r,r1,r2⟩:=ih m (i + 1) _ (by omega) (by omega) hb
  simp only [hd,cond_true,if_pos c1,Int.toNat_natCast,e4,put_eq n hn _ hw,Option.bind_some,d1]
  rw [wrapS (i:=i) (by omega)]
  exact ⟨r,r1,r2⟩
theorem all_eq (n:Nat) (hn:10 ≤ n) (xs:List Int) (hx:∀ x ∈ xs,wf64 x) (h9:xs.length ≤ 4398046511104) (hxn:xs.length < n):varint_All n xs=some (ofN (allL xs)):=by
 rw [varint_All_S]
 obtain ⟨r,r1,r2⟩:=all_l0 n hn xs hx h9 xs.length n 0 (ByteArray.mk #[]) (by omega) (by omega) rfl
 have:r=ofN (allL xs):=bs_inj (by rw [r2,bs_all])
 rw [← this]
 exact r1
theorem dec_last:∀ w:List Nat,w ≠ []→dec w < 128 ^ (w.length - 1) * (lastB w % 128 + 1)
 | [],h=>absurd rfl h
 | [b],_=>by simp [dec,lastB]
 | b :: c :: l,_=>by
  have ih:=dec_last (c :: l) (by simp)
  rw [lastB_cons]
  have e:(b :: c :: l).length - 1=((c :: l).length - 1) + 1:=by simp
  have e2:dec (b :: c :: l)=b % 128 + 128 * dec (c :: l):=rfl
  rw [e,e2,Nat.pow_succ]
  generalize dec (c :: l)=d at *
  have h1:128 ^ ((c :: l).length - 1) * 128 * (lastB (c :: l) % 128 + 1)=128 * (128 ^ ((c :: l).length - 1) * (lastB (c :: l) % 128 + 1)):=by
   rw [Nat.mul_comm (128 ^ ((c :: l).length - 1)) 128,Nat.mul_assoc]
  rw [h1]
  omega
theorem dec_drop (w:List Nat) (j:Nat) (h:j < w.length):dec (w.drop j)=w[j] % 128 + 128 * dec (w.drop (j + 1)):=by
 rw [List.drop_eq_getElem_cons h]; rfl
theorem dec_drop_le (w:List Nat):∀ j,dec (w.drop j) ≤ dec w:=by
 intro j
 induction j with
 | zero=>exact Nat.le_refl _
 | succ j ih =>
  by_cases h:j < w.length
  ·have:=dec_drop w j h; omega
  ·rw [List.drop_eq_nil_of_le (by omega)]; exact Nat.zero_le _
theorem orW (v b:Nat) (hv:v * 128 < 18446744073709551616) (hb:b < 256) :
  u64.wrap (((BitVec.ofInt u64.bits (u64.wrap ((v:Int) * 128)) ||| BitVec.ofInt u64.bits (u64.wrap (u8.wrap (((BitVec.ofInt u8.bits (b:Int) &&& BitVec.ofInt u8.bits (127:Int)).toNat:Nat):Int)))).toNat:Nat):Int)=((v * 128 + b % 128:Nat):Int):=by
 have key:∀ b:Fin 256,(BitVec.ofInt u8.bits (((b:Nat):Nat):Int) &&& BitVec.ofInt u8.bits 127).toNat=(b:Nat) % 128:=by decide +kernel
 have k:=key ⟨b,hb⟩
 simp only at k
 rw [k]
 simp only [uwrapE,bwrapE]
 have e1:((v:Int) * 128) % 18446744073709551616=((v * 128:Nat):Int):=by omega
 have e2:(((b % 128:Nat):Int) % 256) % 18446744073709551616=((b % 128:Nat):Int):=by omega
 rw [e1,e2,bu64,ofInt_nat,ofInt_nat,BitVec.toNat_or,BitVec.toNat_ofNat,BitVec.toNat_ofNat]
 have e3:v * 128 % 2 ^ 64=v * 128:=Nat.mod_eq_of_lt (by omega)
 have e4:b % 128 % 2 ^ 64=b % 128:=Nat.mod_eq_of_lt (by omega)
 have e5:v * 128 ||| b % 128=v * 128 + b % 128:=by
  have:=Nat.shiftLeft_add_eq_or_of_lt (a:=v) (b:=b % 128) (i:=7) (by omega)
  rw [Nat.shiftLeft_eq] at this
  exact this.symm
 rw [e3,e4,e5]
 omega
theorem uzW (u:Nat) (hu:u < 18446744073709551616):i64.wrap (((BitVec.ofInt i64.bits (i64.wrap ((u:Int).fdiv ((2:Int) ^ min (Int.toNat (1:Int)) u64.bits))) ^^^ BitVec.ofInt i64.bits (i64.wrap ((0:Int) - i64.wrap (u64.wrap (((BitVec.ofInt u64.bits (u:Int) &&& BitVec.ofInt u64.bits (1:Int)).toNat:Nat):Int))))).toNat:Nat):Int)=uz u:=by
 have e0:(BitVec.ofInt u64.bits (u:Int) &&& BitVec.ofInt u64.bits (1:Int)).toNat=u % 2:=by
  rw [bu64,ofInt_nat,show (1:Int)=((1:Nat):Int) from rfl,ofInt_nat,BitVec.toNat_and,BitVec.toNat_ofNat,BitVec.toNat_ofNat]
  rw [show u % 2 ^ 64=u from Nat.mod_eq_of_lt (by omega),show 1 % 2 ^ 64=1 from rfl,Nat.and_one_is_mod]
 have e1:(u:Int).fdiv 2=((u / 2:Nat):Int):=by
  rw [Int.fdiv_eq_ediv_of_nonneg _ (by decide)]; omega
 rw [e0,pw1,e1,wrapOK (x:=((u / 2:Nat):Int)) (by omega) (by omega),b64]
 have e2:u64.wrap ((u % 2:Nat):Int)=((u % 2:Nat):Int):=uwrapI (by omega) (by omega)
 rw [e2,wrapOK (x:=((u % 2:Nat):Int)) (by omega) (by omega)]
 unfold uz
 rcases Nat.mod_two_eq_zero_or_one u with h | h
 ·rw [h,if_pos rfl,show (0:Int) - ((0:Nat):Int)=((0:Nat):Int) from rfl,wrapOK (x:=((0:Nat):Int)) (by omega) (by omega),ofInt_nat,ofInt_nat,show BitVec.ofNat 64 0=0#64 from rfl,BitVec.xor_zero,BitVec.toNat_ofNat]
  rw [wrapOK (by omega) (by omega)]
  omega
 ·rw [h,if_neg (by decide),show (0:Int) - ((1:Nat):Int)=-1 from rfl,wrapOK (x:=-1) (by omega) (by omega),ofInt_nat,show BitVec.ofInt 64 (-1)=BitVec.allOnes 64 from rfl,BitVec.xor_allOnes,BitVec.toNat_not,BitVec.toNat_ofNat]
  rw [Go.IntKind.wrap_i64]
  omega
theorem ends_l0 (n:Nat) (s:ByteArray) (hs:s.size ≤ 140737488355328):∀ (k m i:Nat),i + k=10→k < m→i ≤ s.size →
  varint_ends_l0 n s m (i:Int)=some (if endL k ((bs s).drop i)=0 then 0 else ((i + endL k ((bs s).drop i):Nat):Int)):=by
 intro k
 induction k with
 | zero =>
  intro m i hi hm hle
  obtain ⟨m,rfl,hm⟩:=sucM hm
  rw [varint_ends_l0_S]
  have hd:decide ((i:Int) < if (10:Int) < (s.size:Int) then (10:Int) else (s.size:Int))=false:=by
   rw [decide_eq_false_iff_not]; split <;> omega
  simp only [hd,cond_false,endL,if_pos]
 | succ k ih =>
  intro m i hi hm hle
  obtain ⟨m,rfl,hm⟩:=sucM hm
  rw [varint_ends_l0_S]
  by_cases hlt:i < s.size
  ·have hd:decide ((i:Int) < if (10:Int) < (s.size:Int) then (10:Int) else (s.size:Int))=true:=by
    rw [decide_eq_true_eq]; split <;> omega
   have c1:(0:Int) ≤ (i:Int)∧(i:Int) < (s.size:Int):=by omega
   have hl:i < (bs s).length:=by rw [bs_len]; exact hlt
   have e1:(bs s).getD i 0=(bs s)[i]:=getLt hl _
   have ih':=ih m (i + 1) (by omega) (by omega) (by omega)
   simp only [hd,cond_true,if_pos c1,Int.toNat_natCast,bs_getD,e1]
   rw [wrapS (i:=i) (by omega),ih',List.drop_eq_getElem_cons hl]
   by_cases hb:(bs s)[i] < 128
   ·have d1:decide ((((bs s)[i]:Nat):Int) < 128)=true:=by rw [decide_eq_true_eq]; omega
    rw [d1]
    simp [endL,hb]
   ·have d1:decide ((((bs s)[i]:Nat):Int) < 128)=false:=by rw [decide_eq_false_iff_not]; omega
    rw [d1]
    simp only [cond_false,endL,if_neg hb]
    cases endL k ((bs s).drop (i + 1)) with
    | zero=>rfl
    | succ j =>
     show some (if j + 1=0 then 0 else ((i + 1 + (j + 1):Nat):Int))=some (if j + 2=0 then 0 else ((i + (j + 2):Nat):Int))
     rw [if_neg (by omega),if_neg (by omega),show i + 1 + (j + 1)=i + (j + 2) by omega]
  ·have hd:decide ((i:Int) < if (10:Int) < (s.size:Int) then (10:Int) else (s.size:Int))=false:=by
    rw [decide_eq_false_iff_not]; split <;> omega
   have hl:(bs s).drop i=[]:=List.drop_eq_nil_of_le (by rw [bs_len]; omega)
   rw [hl]
   simp only [hd,cond_false,endL,if_pos]
theorem ends_eq (n:Nat) (hn:10 < n) (s:ByteArray) (hs:s.size ≤ 140737488355328):varint_ends n s=some ((endL 10 (bs s):Nat):Int):=by
 rw [varint_ends_S]
 have:=ends_l0 n s hs 10 n 0 (by omega) hn (Nat.zero_le _)
 have h2:varint_ends_l0 n s n 0=_:=this
 rw [List.drop_zero] at h2
 show varint_ends_l0 n s n 0=_
 rw [h2]
 split
 ·rename_i h; rw [h]; rfl
 ·rw [Nat.zero_add]
theorem get_l0 (n:Nat) (s:ByteArray) (hs:s.size ≤ 140737488355328) (at_ k:Nat) (hk:k ≤ 10) (hat:at_ + k ≤ s.size) (hd:dec (((bs s).drop at_).take k) < 18446744073709551616):∀ (j m:Nat),j ≤ k→j < m →
  varint_Get_l0 n c79.F s (at_:Int) (k:Int) m ((dec ((((bs s).drop at_).take k).drop j):Nat):Int) ((j:Int) - 1)=some (uz (dec (((bs s).drop at_).take k)),((at_ + k:Nat):Int),0):=by
 have hwl:(((bs s).drop at_).take k).length=k:=by rw [List.length_take,List.length_drop,bs_len]; omega
 intro j
 induction j with
 | zero =>
  intro m hj hm
  obtain ⟨m,rfl,hm⟩:=sucM hm
  rw [varint_Get_l0_S]
  have d:decide (((0:Nat):Int) - 1 ≥ 0)=false:=by decide
  have w1:i64.wrap ((at_:Int) + (k:Int))=((at_ + k:Nat):Int):=by rw [wrapOK (by omega) (by omega)]; omega
  simp only [d,cond_false,List.drop_zero,uzW _ hd,w1]
 | succ j ih =>
  intro m hj hm
  obtain ⟨m,rfl,hm⟩:=sucM hm
  rw [varint_Get_l0_S]
  have ej:((j + 1:Nat):Int) - 1=(j:Int):=by omega
  have d:decide ((j:Int) ≥ 0)=true:=by rw [decide_eq_true_eq]; omega
  have w1:i64.wrap ((at_:Int) + (j:Int))=((at_ + j:Nat):Int):=by rw [wrapOK (by omega) (by omega)]; omega
  have w2:i64.wrap ((j:Int) - 1)=(j:Int) - 1:=wrapOK (by omega) (by omega)
  have c1:(0:Int) ≤ ((at_ + j:Nat):Int)∧((at_ + j:Nat):Int) < (s.size:Int):=by omega
  have hl:at_ + j < (bs s).length:=by rw [bs_len]; omega
  have hjw:j < (((bs s).drop at_).take k).length:=by omega
  have eb:(((bs s).drop at_).take k)[j]=(bs s)[at_ + j]:=by rw [List.getElem_take,List.getElem_drop]
  have hdd:=dec_drop (((bs s).drop at_).take k) j hjw
  have hle:=dec_drop_le (((bs s).drop at_).take k) j
  rw [eb] at hdd
  have e1:(bs s).getD (at_ + j) 0=(bs s)[at_ + j]:=getLt hl _
  have hb:=bs_lt s _ (List.getElem_mem hl)
  have ho:=orW (dec ((((bs s).drop at_).take k).drop (j + 1))) ((bs s)[at_ + j]) (by omega) hb
  have ih':=ih m (by omega) (by omega)
  rw [ej]
  simp only [d,cond_true,w1,if_pos c1,Int.toNat_natCast,bs_getD,e1,pw7,ho,w2]
  rw [hdd,Nat.add_comm,Nat.mul_comm] at ih'
  exact ih'
theorem get_l2 (n:Nat) (s:ByteArray) (hs:s.size ≤ 140737488355328) (at_ k:Nat) (hk:k ≤ 10) (hat:at_ + k ≤ s.size) (hd:dec (((bs s).drop at_).take k) < 18446744073709551616):∀ (j m:Nat),j ≤ k→j < m →
  varint_Get_l2 n c79.F s (at_:Int) (k:Int) m ((dec ((((bs s).drop at_).take k).drop j):Nat):Int) ((j:Int) - 1)=some (uz (dec (((bs s).drop at_).take k)),((at_ + k:Nat):Int),0):=by
 have hwl:(((bs s).drop at_).take k).length=k:=by rw [List.length_take,List.length_drop,bs_len]; omega
 intro j
 induction j with
 | zero =>
  intro m hj hm
  obtain ⟨m,rfl,hm⟩:=sucM hm
  rw [varint_Get_l2_S]
  have d:decide (((0:Nat):Int) - 1 ≥ 0)=false:=by decide
  have w1:i64.wrap ((at_:Int) + (k:Int))=((at_ + k:Nat):Int):=by rw [wrapOK (by omega) (by omega)]; omega
  simp only [d,cond_false,List.drop_zero,uzW _ hd,w1]
 | succ j ih =>
  intro m hj hm
  obtain ⟨m,rfl,hm⟩:=sucM hm
  rw [varint_Get_l2_S]
  have ej:((j + 1:Nat):Int) - 1=(j:Int):=by omega
  have d:decide ((j:Int) ≥ 0)=true:=by rw [decide_eq_true_eq]; omega
  have w1:i64.wrap ((at_:Int) + (j:Int))=((at_ + j:Nat):Int):=by rw [wrapOK (by omega) (by omega)]; omega
  have w2:i64.wrap ((j:Int) - 1)=(j:Int) - 1:=wrapOK (by omega) (by omega)
  have c1:(0:Int) ≤ ((at_ + j:Nat):Int)∧((at_ + j:Nat):Int) < (s.size:Int):=by omega
  have hl:at_ + j < (bs s).length:=by rw [bs_len]; omega
  have hjw:j < (((bs s).drop at_).take k).length:=by omega
  have eb:(((bs s).drop at_).take k)[j]=(bs s)[at_ + j]:=by rw [List.getElem_take,List.getElem_drop]
  have hdd:=dec_drop (((bs s).drop at_).take k) j hjw
  have hle:=dec_drop_le (((bs s).drop at_).take k) j
  rw [eb] at hdd
  have e1:(bs s).getD (at_ + j) 0=(bs s)[at_ + j]:=getLt hl _
  have hb:=bs_lt s _ (List.getElem_mem hl)
  have ho:=orW (dec ((((bs s).drop at_).take k).drop (j + 1))) ((bs s)[at_ + j]) (by omega) hb
  have ih':=ih m (by omega) (by omega)
  rw [ej]
  simp only [d,cond_true,w1,if_pos c1,Int.toNat_natCast,bs_getD,e1,pw7,ho,w2]
  rw [hdd,Nat.add_comm,Nat.mul_comm] at ih'
  exact ih'
theorem get_l3 (n:Nat) (s:ByteArray) (hs:s.size ≤ 140737488355328) (at_ k:Nat) (hk:k ≤ 10) (hat:at_ + k ≤ s.size) (hd:dec (((bs s).drop at_).take k) < 18446744073709551616):∀ (j m:Nat),j ≤ k→j < m →
  varint_Get_l3 n c79.F s (at_:Int) (k:Int) m ((dec ((((bs s).drop at_).take k).drop j):Nat):Int) ((j:Int) - 1)=some (uz (dec (((bs s).drop at_).take k)),((at_ + k:Nat):Int),0):=by
 have hwl:(((bs s).drop at_).take k).length=k:=by rw [List.length_take,List.length_drop,bs_len]; omega
 intro j
 induction j with
 | zero =>
  intro m hj hm
  obtain ⟨m,rfl,hm⟩:=sucM hm
  rw [varint_Get_l3_S]
  have d:decide (((0:Nat):Int) - 1 ≥ 0)=false:=by decide
  have w1:i64.wrap ((at_:Int) + (k:Int))=((at_ + k:Nat):Int):=by rw [wrapOK (by omega) (by omega)]; omega
  simp only [d,cond_false,List.drop_zero,uzW _ hd,w1]
 | succ j ih =>
  intro m hj hm
  obtain ⟨m,rfl,hm⟩:=sucM hm
  rw [varint_Get_l3_S]
  have ej:((j + 1:Nat):Int) - 1=(j:Int):=by omega
  have d:decide ((j:Int) ≥ 0)=true:=by rw [decide_eq_true_eq]; omega
  have w1:i64.wrap ((at_:Int) + (j:Int))=((at_ + j:Nat):Int):=by rw [wrapOK (by omega) (by omega)]; omega
  have w2:i64.wrap ((j:Int) - 1)=(j:Int) - 1:=wrapOK (by omega) (by omega)
  have c1:(0:Int) ≤ ((at_ + j:Nat):Int)∧((at_ + j:Nat):Int) < (s.size:Int):=by omega
  have hl:at_ + j < (bs s).length:=by rw [bs_len]; omega
  have hjw:j < (((bs s).drop at_).take k).length:=by omega
  have eb:(((bs s).drop at_).take k)[j]=(bs s)[at_ + j]:=by rw [List.getElem_take,List.getElem_drop]
  have hdd:=dec_drop (((bs s).drop at_).take k) j hjw
  have hle:=dec_drop_le (((bs s).drop at_).take k) j
  rw [eb] at hdd
  have e1:(bs s).getD (at_ + j) 0=(bs s)[at_ + j]:=getLt hl _
  have hb:=bs_lt s _ (List.getElem_mem hl)
  have ho:=orW (dec ((((bs s).drop at_).take k).drop (j + 1))) ((bs s)[at_ + j]) (by omega) hb
  have ih':=ih m (by omega) (by omega)
  rw [ej]
  simp only [d,cond_true,w1,if_pos c1,Int.toNat_natCast,bs_getD,e1,pw7,ho,w2]
  rw [hdd,Nat.add_comm,Nat.mul_comm] at ih'
  exact ih'
theorem get_l4 (n:Nat) (s:ByteArray) (hs:s.size ≤ 140737488355328) (at_ k:Nat) (hk:k ≤ 10) (hat:at_ + k ≤ s.size) (hd:dec (((bs s).drop at_).take k) < 18446744073709551616):∀ (j m:Nat),j ≤ k→j < m →
  varint_Get_l4 n c79.F s (at_:Int) (k:Int) m ((dec ((((bs s).drop at_).take k).drop j):Nat):Int) ((j:Int) - 1)=some (uz (dec (((bs s).drop at_).take k)),((at_ + k:Nat):Int),0):=by
 have hwl:(((bs s).drop at_).take k).length=k:=by rw [List.length_take,List.length_drop,bs_len]; omega
 intro j
 induction j with
 | zero =>
  intro m hj hm
  obtain ⟨m,rfl,hm⟩:=sucM hm
  rw [varint_Get_l4_S]
  have d:decide (((0:Nat):Int) - 1 ≥ 0)=false:=by decide
  have w1:i64.wrap ((at_:Int) + (k:Int))=((at_ + k:Nat):Int):=by rw [wrapOK (by omega) (by omega)]; omega
  simp only [d,cond_false,List.drop_zero,uzW _ hd,w1]
 | succ j ih =>
  intro m hj hm
  obtain ⟨m,rfl,hm⟩:=sucM hm
  rw [varint_Get_l4_S]
  have ej:((j + 1:Nat):Int) - 1=(j:Int):=by omega
  have d:decide ((j:Int) ≥ 0)=true:=by rw [decide_eq_true_eq]; omega
  have w1:i64.wrap ((at_:Int) + (j:Int))=((at_ + j:Nat):Int):=by rw [wrapOK (by omega) (by omega)]; omega
  have w2:i64.wrap ((j:Int) - 1)=(j:Int) - 1:=wrapOK (by omega) (by omega)
  have c1:(0:Int) ≤ ((at_ + j:Nat):Int)∧((at_ + j:Nat):Int) < (s.size:Int):=by omega
  have hl:at_ + j < (bs s).length:=by rw [bs_len]; omega
  have hjw:j < (((bs s).drop at_).take k).length:=by omega
  have eb:(((bs s).drop at_).take k)[j]=(bs s)[at_ + j]:=by rw [List.getElem_take,List.getElem_drop]
  have hdd:=dec_drop (((bs s).drop at_).take k) j hjw
  have hle:=dec_drop_le (((bs s).drop at_).take k) j
  rw [eb] at hdd
  have e1:(bs s).getD (at_ + j) 0=(bs s)[at_ + j]:=getLt hl _
  have hb:=bs_lt s _ (List.getElem_mem hl)
  have ho:=orW (dec ((((bs s).drop at_).take k).drop (j + 1))) ((bs s)[at_ + j]) (by omega) hb
  have ih':=ih m (by omega) (by omega)
  rw [ej]
  simp only [d,cond_true,w1,if_pos c1,Int.toNat_natCast,bs_getD,e1,pw7,ho,w2]
  rw [hdd,Nat.add_comm,Nat.mul_comm] at ih'
  exact ih'
theorem get_l6 (n:Nat) (s:ByteArray) (hs:s.size ≤ 140737488355328) (at_ k:Nat) (hk:k ≤ 10) (hat:at_ + k ≤ s.size) (hd:dec (((bs s).drop at_).take k) < 18446744073709551616):∀ (j m:Nat),j ≤ k→j < m →
  varint_Get_l6 n c79.F s (at_:Int) (k:Int) m ((dec ((((bs s).drop at_).take k).drop j):Nat):Int) ((j:Int) - 1)=some (uz (dec (((bs s).drop at_).take k)),((at_ + k:Nat):Int),0):=by
 have hwl:(((bs s).drop at_).take k).length=k:=by rw [List.length_take,List.length_drop,bs_len]; omega
 intro j
 induction j with
 | zero =>
  intro m hj hm
  obtain ⟨m,rfl,hm⟩:=sucM hm
  rw [varint_Get_l6_S]
  have d:decide (((0:Nat):Int) - 1 ≥ 0)=false:=by decide
  have w1:i64.wrap ((at_:Int) + (k:Int))=((at_ + k:Nat):Int):=by rw [wrapOK (by omega) (by omega)]; omega
  simp only [d,cond_false,List.drop_zero,uzW _ hd,w1]
 | succ j ih =>
  intro m hj hm
  obtain ⟨m,rfl,hm⟩:=sucM hm
  rw [varint_Get_l6_S]
  have ej:((j + 1:Nat):Int) - 1=(j:Int):=by omega
  have d:decide ((j:Int) ≥ 0)=true:=by rw [decide_eq_true_eq]; omega
  have w1:i64.wrap ((at_:Int) + (j:Int))=((at_ + j:Nat):Int):=by rw [wrapOK (by omega) (by omega)]; omega
  have w2:i64.wrap ((j:Int) - 1)=(j:Int) - 1:=wrapOK (by omega) (by omega)
  have c1:(0:Int) ≤ ((at_ + j:Nat):Int)∧((at_ + j:Nat):Int) < (s.size:Int):=by omega
  have hl:at_ + j < (bs s).length:=by rw [bs_len]; omega
  have hjw:j < (((bs s).drop at_).take k).length:=by omega
  have eb:(((bs s).drop at_).take k)[j]=(bs s)[at_ + j]:=by rw [List.getElem_take,List.getElem_drop]
  have hdd:=dec_drop (((bs s).drop at_).take k) j hjw
  have hle:=dec_drop_le (((bs s).drop at_).take k) j
  rw [eb] at hdd
  have e1:(bs s).getD (at_ + j) 0=(bs s)[at_ + j]:=getLt hl _
  have hb:=bs_lt s _ (List.getElem_mem hl)
  have ho:=orW (dec ((((bs s).drop at_).take k).drop (j + 1))) ((bs s)[at_ + j]) (by omega) hb
  have ih':=ih m (by omega) (by omega)
  rw [ej]
  simp only [d,cond_true,w1,if_pos c1,Int.toNat_natCast,bs_getD,e1,pw7,ho,w2]
  rw [hdd,Nat.add_comm,Nat.mul_comm] at ih'
  exact ih'
theorem get_l7 (n:Nat) (s:ByteArray) (hs:s.size ≤ 140737488355328) (at_ k:Nat) (hk:k ≤ 10) (hat:at_ + k ≤ s.size) (hd:dec (((bs s).drop at_).take k) < 18446744073709551616):∀ (j m:Nat),j ≤ k→j < m →
  varint_Get_l7 n c79.F s (at_:Int) (k:Int) m ((dec ((((bs s).drop at_).take k).drop j):Nat):Int) ((j:Int) - 1)=some (uz (dec (((bs s).drop at_).take k)),((at_ + k:Nat):Int),0):=by
 have hwl:(((bs s).drop at_).take k).length=k:=by rw [List.length_take,List.length_drop,bs_len]; omega
 intro j
 induction j with
 | zero =>
  intro m hj hm
  obtain ⟨m,rfl,hm⟩:=sucM hm
  rw [varint_Get_l7_S]
  have d:decide (((0:Nat):Int) - 1 ≥ 0)=false:=by decide
  have w1:i64.wrap ((at_:Int) + (k:Int))=((at_ + k:Nat):Int):=by rw [wrapOK (by omega) (by omega)]; omega
  simp only [d,cond_false,List.drop_zero,uzW _ hd,w1]
 | succ j ih =>
  intro m hj hm
  obtain ⟨m,rfl,hm⟩:=sucM hm
  rw [varint_Get_l7_S]
  have ej:((j + 1:Nat):Int) - 1=(j:Int):=by omega
  have d:decide ((j:Int) ≥ 0)=true:=by rw [decide_eq_true_eq]; omega
  have w1:i64.wrap ((at_:Int) + (j:Int))=((at_ + j:Nat):Int):=by rw [wrapOK (by omega) (by omega)]; omega
  have w2:i64.wrap ((j:Int) - 1)=(j:Int) - 1:=wrapOK (by omega) (by omega)
  have c1:(0:Int) ≤ ((at_ + j:Nat):Int)∧((at_ + j:Nat):Int) < (s.size:Int):=by omega
  have hl:at_ + j < (bs s).length:=by rw [bs_len]; omega
  have hjw:j < (((bs s).drop at_).take k).length:=by omega
  have eb:(((bs s).drop at_).take k)[j]=(bs s)[at_ + j]:=by rw [List.getElem_take,List.getElem_drop]
  have hdd:=dec_drop (((bs s).drop at_).take k) j hjw
  have hle:=dec_drop_le (((bs s).drop at_).take k) j
  rw [eb] at hdd
  have e1:(bs s).getD (at_ + j) 0=(bs s)[at_ + j]:=getLt hl _
  have hb:=bs_lt s _ (List.getElem_mem hl)
  have ho:=orW (dec ((((bs s).drop at_).take k).drop (j + 1))) ((bs s)[at_ + j]) (by omega) hb
  have ih':=ih m (by omega) (by omega)
  rw [ej]
  simp only [d,cond_true,w1,if_pos c1,Int.toNat_natCast,bs_getD,e1,pw7,ho,w2]
  rw [hdd,Nat.add_comm,Nat.mul_comm] at ih'
  exact ih'
def getL (S:List Nat) (a:Nat):Option (Int×Nat) :=
 let r:=S.drop a
 let k:=endL 10 r
 if k=0 ∨ (k=10∧1 < lastB (r.take k)) ∨ (1 < k∧lastB (r.take k)=0) then none else some (uz (dec (r.take k)),a + k)
theorem lastB_at (S:List Nat) (a k:Nat) (hk:0 < k) (h:a + k ≤ S.length):lastB ((S.drop a).take k)=S.getD (a + k - 1) 0:=by
 have hl:((S.drop a).take k).length=k:=by rw [List.length_take,List.length_drop]; omega
 unfold lastB
 rw [hl,List.getD_eq_getElem?_getD,List.getD_eq_getElem?_getD,List.getElem?_take,if_pos (by omega),List.getElem?_drop,show a + (k - 1)=a + k - 1 by omega]
theorem get_eq (n:Nat) (hn:20 ≤ n) (s:ByteArray) (hs:s.size ≤ 140737488355328) (a:Nat) (ha:a ≤ s.size) :
  ∃ e:Int,e ≠ 0∧varint_Get n s (a:Int)=some (match getL (bs s) a with
   | some p=>(p.1,((p.2:Nat):Int),0)
   | none=>(0,0,e)):=by
 rw [varint_Get_S]
 have d1:decide ((a:Int) < 0)=false:=by rw [decide_eq_false_iff_not]; omega
 have d2:decide ((a:Int) > (s.size:Int))=false:=by rw [decide_eq_false_iff_not]; omega
 have c1:(0:Int) ≤ (a:Int)∧(a:Int) ≤ (s.size:Int)∧(s.size:Int) ≤ (s.size:Int):=by omega
 have hsub:bs (subS s a s.size)=(bs s).drop a:=by rw [bs_sub,← bs_len,List.take_length]
 have hsz:(subS s a s.size).size ≤ 140737488355328:=by rw [← bs_len,hsub,List.length_drop,bs_len]; omega
 have he:=ends_eq n (by omega) (subS s a s.size) hsz
 rw [hsub] at he
 have hle:=endL_le 10 ((bs s).drop a)
 rw [List.length_drop,bs_len] at hle
 simp only [d1,d2,cond_false,if_pos c1,Int.toNat_natCast,he,Option.bind_some]
 have hget:getL (bs s) a=if endL 10 ((bs s).drop a)=0 ∨ (endL 10 ((bs s).drop a)=10∧1 < lastB (((bs s).drop a).take (endL 10 ((bs s).drop a)))) ∨ (1 < endL 10 ((bs s).drop a)∧lastB (((bs s).drop a).take (endL 10 ((bs s).drop a)))=0) then none else some (uz (dec (((bs s).drop a).take (endL 10 ((bs s).drop a)))),a + endL 10 ((bs s).drop a)):=rfl
 rw [hget]
 generalize hk:endL 10 ((bs s).drop a)=k at *
 by_cases k0:k=0
 ·subst k0
  have hc0:∀ L:Nat,((0:Nat)=0 ∨ ((0:Nat)=10∧1 < L) ∨ (1 < (0:Nat)∧L=0)):=fun _=>.inl rfl
  rw [if_pos (hc0 _)]
  have b0:(((0:Nat):Int) == 0)=true:=rfl
  simp only [b0,cond_true]
  cases decide (i64.wrap ((s.size:Int) - (a:Int)) < 10) with
  | true=>exact ⟨701,by decide,rfl⟩
  | false=>exact ⟨700,by decide,rfl⟩
 ·have b0:(((k:Nat):Int) == 0)=false:=by rw [beq_eq_false_iff_ne]; omega
  have hla:=lastB_at (bs s) a k (by omega) (by rw [bs_len]; omega)
  have w1:i64.wrap ((a:Int) + (k:Int))=((a + k:Nat):Int):=by rw [wrapOK (by omega) (by omega)]; omega
  have w2:i64.wrap (((a + k:Nat):Int) - 1)=((a + k - 1:Nat):Int):=by rw [wrapOK (by omega) (by omega)]; omega
  have w3:i64.wrap ((k:Int) - 1)=(k:Int) - 1:=wrapOK (by omega) (by omega)
  have c2:(0:Int) ≤ ((a + k - 1:Nat):Int)∧((a + k - 1:Nat):Int) < (s.size:Int):=by omega
  have hne:((bs s).drop a).take k ≠ []:=by
   intro h
   have:(((bs s).drop a).take k).length=0:=by rw [h]; rfl
   rw [List.length_take,List.length_drop,bs_len] at this
   omega
  have hlen:(((bs s).drop a).take k).length=k:=by rw [List.length_take,List.length_drop,bs_len]; omega
  have hdl:=dec_last _ hne
  rw [hlen] at hdl
  simp only [b0,cond_false,w1,w2,w3,if_pos c2,Int.toNat_natCast,bs_getD,← hla]
  generalize lastB (((bs s).drop a).take k)=L at *
  have fin:¬ (k=0 ∨ (k=10∧1 < L) ∨ (1 < k∧L=0))→∀ (f:Nat→Int→Int→Option (Int×Int×Int)),(∀ (j m:Nat),j ≤ k→j < m→f m ((dec ((((bs s).drop a).take k).drop j):Nat):Int) ((j:Int) - 1)=some (uz (dec (((bs s).drop a).take k)),((a + k:Nat):Int),0)) →
    f n 0 ((k:Int) - 1)=some (uz (dec (((bs s).drop a).take k)),((a + k:Nat):Int),0):=by
   intro _ f hf
   have:=hf k n (Nat.le_refl _) (by omega)
   rw [List.drop_eq_nil_of_le (by omega)] at this
   exact this
  have hd64:¬ (k=0 ∨ (k=10∧1 < L) ∨ (1 < k∧L=0))→dec (((bs s).drop a).take k) < 18446744073709551616:=by
   intro hc
   refine Nat.lt_of_lt_of_le hdl ?_
   by_cases h10:k=10
   ·subst h10
    have:L % 128 + 1 ≤ 2:=by omega
    exact Nat.le_trans (Nat.mul_le_mul_left _ this) (by decide)
   ·have h1:128 ^ (k - 1) ≤ 128 ^ 8:=Nat.pow_le_pow_right (by decide) (by omega)
    have h2:L % 128 + 1 ≤ 128:=by omega
    exact Nat.le_trans (Nat.mul_le_mul h1 h2) (by decide)
  refine ⟨700,by decide,?_⟩
  by_cases k10:k=10
  ·have b1:(((k:Nat):Int) == 10)=true:=by rw [k10]; rfl
   have dk:decide ((k:Int) > 1)=true:=by rw [decide_eq_true_eq]; omega
   simp only [b1,cond_true,dk]
   by_cases hL:1 < L
   ·have d3:decide ((L:Int) > 1)=true:=by rw [decide_eq_true_eq]; omega
    rw [d3,if_pos (.inr (.inl ⟨k10,hL⟩))]
    rfl
   ·have d3:decide ((L:Int) > 1)=false:=by rw [decide_eq_false_iff_not]; omega
    rw [d3]
    simp only [cond_false]
    by_cases hz:L=0
    ·have b2:((L:Int) == 0)=true:=by rw [hz]; rfl
     rw [b2,if_pos (.inr (.inr ⟨by omega,hz⟩))]
     rfl
    ·have b2:((L:Int) == 0)=false:=by rw [beq_eq_false_iff_ne]; omega
     have hc:¬ (k=0 ∨ (k=10∧1 < L) ∨ (1 < k∧L=0)):=by omega
     rw [b2,if_neg hc]
     simp only [cond_false]
     first
      | exact fin hc _ fun j m h1 h2=>get_l4 n s hs a k (by omega) (by omega) (hd64 hc) j m h1 h2
      | exact fin hc _ fun j m h1 h2=>get_l0 n s hs a k (by omega) (by omega) (hd64 hc) j m h1 h2
  ·have b1:(((k:Nat):Int) == 10)=false:=by rw [beq_eq_false_iff_ne]; omega
   simp only [b1,cond_false]
   by_cases hk1:1 < k
   ·have dk:decide ((k:Int) > 1)=true:=by rw [decide_eq_true_eq]; omega
    simp only [dk,cond_true]
    by_cases hz:L=0
    ·have b2:((L:Int) == 0)=true:=by rw [hz]; rfl
     rw [b2,if_pos (.inr (.inr ⟨hk1,hz⟩))]
     rfl
    ·have b2:((L:Int) == 0)=false:=by rw [beq_eq_false_iff_ne]; omega
     have hc:¬ (k=0 ∨ (k=10∧1 < L) ∨ (1 < k∧L=0)):=by omega
     rw [b2,if_neg hc]
     simp only [cond_false]
     first
      | exact fin hc _ fun j m h1 h2=>get_l6 n s hs a k (by omega) (by omega) (hd64 hc) j m h1 h2
      | exact fin hc _ fun j m h1 h2=>get_l2 n s hs a k (by omega) (by omega) (hd64 hc) j m h1 h2
   ·have dk:decide ((k:Int) > 1)=false:=by rw [decide_eq_false_iff_not]; omega
    have hc:¬ (k=0 ∨ (k=10∧1 < L) ∨ (1 < k∧L=0)):=by omega
    rw [if_neg hc]
    simp only [dk,cond_false]
    first
     | exact fin hc _ fun j m h1 h2=>get_l7 n s hs a k (by omega) (by omega) (hd64 hc) j m h1 h2
     | exact fin hc _ fun j m h1 h2=>get_l3 n s hs a k (by omega) (by omega) (hd64 hc) j m h1 h2
def At (S:List Nat) (a:Nat) (l:List Nat) (a':Nat):Prop:=∃ A C,S=A ++ (l ++ C)∧A.length=a∧a'=a + l.length
theorem At.le {S:List Nat} {a a':Nat} {l:List Nat} (h:At S a l a'):a' ≤ S.length:=by
 obtain ⟨A,C,rfl,rfl,rfl⟩:=h
 simp only [List.length_append]; omega
theorem At.app {S:List Nat} {a c:Nat} {l m:List Nat}:At S a (l ++ m) c ↔ ∃ b,At S a l b∧At S b m c:=by
 constructor
 ·rintro ⟨A,C,rfl,rfl,rfl⟩
  refine ⟨A.length + l.length,⟨A,m ++ C,by simp,rfl,rfl⟩,⟨A ++ l,C,by simp,by simp,by simp only [List.length_append]; omega⟩⟩
 ·rintro ⟨b,⟨A,C,e1,rfl,rfl⟩,⟨A',C',e2,h1,rfl⟩⟩
  have e3:A ++ l ++ C=A' ++ (m ++ C'):=by rw [← e2,e1]; simp
  obtain ⟨e4,e5⟩:=List.append_inj e3 (by rw [List.length_append,h1])
  refine ⟨A,C',?_,rfl,by simp only [List.length_append]; omega⟩
  rw [e1,e5]; simp
theorem At.nil {S:List Nat} {a b:Nat} (ha:a ≤ S.length):At S a [] b ↔ b=a:=by
 constructor
 ·rintro ⟨A,C,_,_,rfl⟩; rfl
 ·rintro rfl
  exact ⟨S.take b,S.drop b,by simp,by rw [List.length_take]; omega,rfl⟩
theorem At.to {S:List Nat} {a a':Nat} {l:List Nat} (h:At S a l a'):a'=a + l.length:=by
 obtain ⟨A,C,_,_,e⟩:=h
 exact e
theorem dec_last_ge:∀ w:List Nat,w ≠ []→128 ^ (w.length - 1) * (lastB w % 128) ≤ dec w
 | [],h=>absurd rfl h
 | [b],_=>by simp [dec,lastB]
 | b :: c :: l,_=>by
  have ih:=dec_last_ge (c :: l) (by simp)
  rw [lastB_cons]
  have e:(b :: c :: l).length - 1=((c :: l).length - 1) + 1:=by simp
  have e2:dec (b :: c :: l)=b % 128 + 128 * dec (c :: l):=rfl
  rw [e,e2,Nat.pow_succ]
  generalize dec (c :: l)=d at *
  have h1:128 ^ ((c :: l).length - 1) * 128 * (lastB (c :: l) % 128)=128 * (128 ^ ((c :: l).length - 1) * (lastB (c :: l) % 128)):=by
   rw [Nat.mul_comm (128 ^ ((c :: l).length - 1)) 128,Nat.mul_assoc]
  rw [h1]
  omega
theorem getL_iff {S:List Nat} (hS:∀ b ∈ S,b < 256) {a:Nat} {x:Int} {a':Nat}:getL S a=some (x,a') ↔ wf64 x∧At S a (putL x) a':=by
 constructor
 ·intro h
  have hle:=endL_le 10 (S.drop a)
  rw [List.length_drop] at hle
  unfold getL at h
  simp only at h
  split at h
  ·cases h
  ·rename_i hc
   have hr:∀ b ∈ S.drop a,b < 256:=fun b hb=>hS b (List.mem_of_mem_drop hb)
   have hed:=enc_dec 10 (S.drop a) hr (fun e=>hc (.inl e)) (fun h1 e=>hc (.inr (.inr ⟨h1,e⟩)))
   generalize hk:endL 10 (S.drop a)=k at *
   have hlen:((S.drop a).take k).length=k:=by rw [List.length_take,List.length_drop]; omega
   have hne:(S.drop a).take k ≠ []:=by
    intro e; rw [e] at hlen
    have hlen:0=k:=hlen
    exact hc (.inl hlen.symm)
   have hdl:=dec_last _ hne
   rw [hlen] at hdl
   have hd64:dec ((S.drop a).take k) < 18446744073709551616:=by
    refine Nat.lt_of_lt_of_le hdl ?_
    by_cases h10:k=10
    ·subst h10
     have:lastB ((S.drop a).take 10) % 128 + 1 ≤ 2:=by
      have:¬ 1 < lastB ((S.drop a).take 10):=fun e=>hc (.inr (.inl ⟨rfl,e⟩))
      omega
     exact Nat.le_trans (Nat.mul_le_mul_left _ this) (by decide)
    ·have h1:128 ^ (k - 1) ≤ 128 ^ 8:=Nat.pow_le_pow_right (by decide) (by omega)
     have h2:lastB ((S.drop a).take k) % 128 + 1 ≤ 128:=by omega
     exact Nat.le_trans (Nat.mul_le_mul h1 h2) (by decide)
   cases h
   have hp:putL (uz (dec ((S.drop a).take k)))=(S.drop a).take k:=by
    unfold putL
    rw [zz_uz]
    exact hed.1
   refine ⟨uz_wf hd64,?_⟩
   rw [hp]
   refine ⟨S.take a,S.drop (a + k),?_,?_,by rw [hlen]⟩
   ·rw [← List.drop_drop,List.take_append_drop,List.take_append_drop]
   ·rw [List.length_take]; omega
 ·rintro ⟨hw,A,C,rfl,rfl,rfl⟩
  have hp:=zz_pow hw
  have he:endL 10 (putL x ++ C)=(putL x).length:=endL_enc 10 _ hp (by decide) C
  have hl:=putL_len hw
  have hla:=enc_last 10 _ hp (by decide)
  have hde:dec (putL x)=zz x:=dec_enc 10 _ hp
  have hz:=zz_lt hw
  have hne:putL x ≠ []:=fun e=>by rw [e] at hl; simp at hl
  have hge:=dec_last_ge _ hne
  rw [hde] at hge
  unfold getL
  simp only
  rw [List.drop_left' rfl,he,List.take_left' rfl,if_neg,hde,uz_zz]
  rintro (h | ⟨h1,h2⟩ | ⟨h1,h2⟩)
  ·omega
  ·rw [h1] at hge
   have h3:lastB (putL x) < 128:=hla.2
   have h4:2 ≤ lastB (putL x) % 128:=by omega
   have h5:=Nat.mul_le_mul_left (128 ^ (10 - 1)) h4
   have h6:128 ^ (10 - 1) * 2=18446744073709551616:=by decide
   omega
  ·exact hla.1 h1 h2
abbrev Pos:=Nat×Bool
abbrev Rdr (α:Type):=Pos→α×Pos
structure Exact {α:Type} (S:List Nat) (p:Rdr α) (e:α→List Nat) (v:α→Prop):Prop where
 bad:∀ a,(p (a,true)).2.2=true
 ok:∀ a,a ≤ S.length→∀ x a',p (a,false)=(x,(a',false)) ↔ v x∧At S a (e x) a'
 le:∀ a b,a ≤ S.length→(p (a,b)).2.1 ≤ S.length
def rNum (S:List Nat):Rdr Int:=fun st=>if st.2=true then (0,(st.1,true)) else match getL S st.1 with
 | some p=>(p.1,(p.2,false))
 | none=>(0,(st.1,true))
theorem rNum_exact {S:List Nat} (hS:∀ b ∈ S,b < 256):Exact S (rNum S) putL wf64 where
 bad:=fun a=>rfl
 ok:=fun a ha x a'=>by
  unfold rNum
  simp only [Bool.false_eq_true,if_false]
  rw [← getL_iff hS]
  cases getL S a with
  | none=>simp
  | some p=>obtain ⟨y,b⟩:=p; simp
 le:=fun a b ha=>by
  unfold rNum
  cases b with
  | true=>exact ha
  | false =>
   simp only [Bool.false_eq_true,if_false]
   cases h:getL S a with
   | none=>exact ha
   | some p=>exact (getL_iff hS (x:=p.1) (a':=p.2)).1 h |>.2.le
def rBind {α β:Type} (p:Rdr α) (f:α→Rdr β):Rdr (α×β):=fun st=>(((p st).1,(f (p st).1 (p st).2).1),(f (p st).1 (p st).2).2)
theorem Exact.bind {α β:Type} {S:List Nat} {p:Rdr α} {f:α→Rdr β} {e:α→List Nat} {v:α→Prop} {e2:α→β→List Nat} {v2:α→β→Prop} (hp:Exact S p e v) (hf:∀ x,v x→Exact S (f x) (e2 x) (v2 x)) (hb:∀ x a,(f x (a,true)).2.2=true) (hl:∀ x a b,a ≤ S.length→(f x (a,b)).2.1 ≤ S.length) :
  Exact S (rBind p f) (fun z=>e z.1 ++ e2 z.1 z.2) (fun z=>v z.1∧v2 z.1 z.2) where
 bad:=fun a=>by
  have h:=hp.bad a
  unfold rBind
  simp only
  generalize p (a,true)=r at *
  obtain ⟨x,b,q⟩:=r
  have h:q=true:=h
  subst h
  exact hb x b
 ok:=fun a ha z c=>by
  obtain ⟨x,y⟩:=z
  unfold rBind
  have hle:=hp.le a false ha
  have hok:=hp.ok a ha
  generalize hr:p (a,false)=r at *
  obtain ⟨x0,b,q⟩:=r
  simp only
  cases q with
  | true =>
   have h1:=hb x0 b
   constructor
   ·intro h
    have:(f x0 (b,true)).2=(c,false):=by rw [Prod.mk.injEq] at h; exact h.2
    rw [this] at h1; cases h1
   ·rintro ⟨⟨h2,h3⟩,h4⟩
    obtain ⟨b',h5,h6⟩:=At.app.1 h4
    have:=(hok x b').2 ⟨h2,h5⟩
    simp at this
  | false =>
   have hv:=(hok x0 b).1 rfl
   have hle:b ≤ S.length:=hle
   have h2:=(hf x0 hv.1).ok b hle y c
   constructor
   ·intro h
    simp only [Prod.mk.injEq] at h
    obtain ⟨⟨rfl,rfl⟩,h⟩:=h
    have h3:f x0 (b,false)=((f x0 (b,false)).1,(c,false)):=Prod.ext rfl h
    have h4:=((hf x0 hv.1).ok b hle (f x0 (b,false)).1 c).1 h3
    exact ⟨⟨hv.1,h4.1⟩,At.app.2 ⟨b,hv.2,h4.2⟩⟩
   ·rintro ⟨⟨h3,h4⟩,h5⟩
    obtain ⟨b',h6,h7⟩:=At.app.1 h5
    have:=(hok x b').2 ⟨h3,h6⟩
    simp only [Prod.mk.injEq,and_true] at this
    obtain ⟨rfl,rfl⟩:=this
    rw [h2.2 ⟨h4,h7⟩]
 le:=fun a b ha=>by
  unfold rBind
  have hle:=hp.le a b ha
  generalize p (a,b)=r at *
  obtain ⟨x,c,q⟩:=r
  exact hl x c q hle
def rMap {α β:Type} (g:α→β) (p:Rdr α):Rdr β:=fun st=>(g (p st).1,(p st).2)
theorem Exact.map {α β:Type} {S:List Nat} {p:Rdr α} {e:α→List Nat} {v:α→Prop} (hp:Exact S p e v) (g:α→β) (h:β→α) (e':β→List Nat) (v':β→Prop) (h1:∀ x,v x→h (g x)=x) (h2:∀ y,v' y→g (h y)=y)
  (hv:∀ x,v x→v' (g x)) (hv2:∀ y,v' y→v (h y)) (he:∀ y,v' y→e' y=e (h y)):Exact S (rMap g p) e' v' where
 bad:=hp.bad
 ok:=fun a ha y a'=>by
  unfold rMap
  constructor
  ·intro hh
   simp only [Prod.mk.injEq] at hh
   obtain ⟨h3,h4⟩:=hh
   have h5:=(hp.ok a ha (p (a,false)).1 a').1 (Prod.ext rfl h4)
   subst h3
   refine ⟨hv _ h5.1,?_⟩
   rw [he _ (hv _ h5.1),h1 _ h5.1]
   exact h5.2
  ·rintro ⟨h3,h4⟩
   rw [he _ h3] at h4
   rw [(hp.ok a ha (h y) a').2 ⟨hv2 _ h3,h4⟩]
   simp only [h2 _ h3]
 le:=hp.le
def rMany {α:Type} (p:Rdr α):Nat→Rdr (List α)
 | 0=>fun st=>([],st)
 | k + 1=>fun st=>((p st).1 :: (rMany p k (p st).2).1,(rMany p k (p st).2).2)
theorem rMany_bad {α:Type} {p:Rdr α} (h:∀ a,(p (a,true)).2.2=true):∀ k a,(rMany p k (a,true)).2.2=true
 | 0,a=>rfl
 | k + 1,a=>by
  have h1:=h a
  simp only [rMany]
  generalize p (a,true)=r at *
  obtain ⟨x,b,q⟩:=r
  have h1:q=true:=h1
  subst h1
  exact rMany_bad h k b
theorem rMany_exact {α:Type} {S:List Nat} {p:Rdr α} {e:α→List Nat} {v:α→Prop} (hp:Exact S p e v):∀ k,Exact S (rMany p k) (fun l=>l.flatMap e) (fun l=>l.length=k∧∀ x ∈ l,v x)
 | 0=>by
  refine ⟨fun a=>rfl,fun a ha x a'=>?_,fun a b ha=>ha⟩
  simp only [rMany,Prod.mk.injEq,and_true]
  constructor
  ·rintro ⟨rfl,rfl⟩
   exact ⟨⟨rfl,by simp⟩,(At.nil ha).2 rfl⟩
  ·rintro ⟨⟨h1,_⟩,h2⟩
   have:x=[]:=List.length_eq_zero_iff.1 h1
   subst this
   exact ⟨rfl,((At.nil ha).1 h2).symm⟩
 | k + 1=>by
  have ih:=rMany_exact hp k
  have hb:=Exact.bind (f:=fun _=>rMany p k) hp (fun _ _=>ih) (fun _ a=>rMany_bad hp.bad k a) (fun _ a b h=>ih.le a b h)
  refine ⟨fun a=>hb.bad a,fun a ha x a'=>?_,fun a b ha=>hb.le a b ha⟩
  cases x with
  | nil=>simp [rMany]
  | cons y l =>
   have:=hb.ok a ha (y,l) a'
   simp only [rMany,rBind,Prod.mk.injEq,List.cons.injEq] at this ⊢
   rw [this]
   constructor
   ·rintro ⟨⟨h1,h2,h3⟩,h4⟩
    refine ⟨⟨by simp [h2],fun z hz=>?_⟩,by simpa using h4⟩
    rcases List.mem_cons.1 hz with rfl | hz
    ·exact h1
    ·exact h3 z hz
   ·rintro ⟨⟨h1,h2⟩,h3⟩
    exact ⟨⟨h2 y List.mem_cons_self,by simpa using h1,fun z hz=>h2 z (List.mem_cons_of_mem _ hz)⟩,by simpa using h3⟩
def rCount (S:List Nat) (most:Int):Rdr Int:=fun st =>
 if (rNum S st).2.2=true ∨ (rNum S st).1 < 0 ∨ (rNum S st).1 > most then (0,((rNum S st).2.1,true)) else ((rNum S st).1,((rNum S st).2.1,false))
theorem rCount_exact {S:List Nat} (hS:∀ b ∈ S,b < 256) (most:Int):Exact S (rCount S most) putL (fun x=>wf64 x∧0 ≤ x∧x ≤ most) where
 bad:=fun a=>by
  unfold rCount
  rw [if_pos (.inl ((rNum_exact hS).bad a))]
 ok:=fun a ha x a'=>by
  have hn:=(rNum_exact hS).ok a ha
  unfold rCount
  generalize rNum S (a,false)=r at *
  obtain ⟨y,b,q⟩:=r
  simp only
  constructor
  ·intro h
   split at h
   ·simp at h
   ·rename_i hc
    simp only [Prod.mk.injEq,and_true] at h
    obtain ⟨rfl,rfl⟩:=h
    have hq:q=false:=by cases q with
     | false=>rfl
     | true=>exact absurd (.inl rfl) hc
    subst hq
    have:=(hn y b).1 rfl
    exact ⟨⟨this.1,by omega,by omega⟩,this.2⟩
  ·rintro ⟨⟨h1,h2,h3⟩,h4⟩
   have:=(hn x a').2 ⟨h1,h4⟩
   simp only [Prod.mk.injEq] at this
   obtain ⟨rfl,rfl,rfl⟩:=this
   rw [if_neg]
   rintro (h | h | h)
   ·cases h
   ·omega
   ·omega
 le:=fun a b ha=>by
  have:=(rNum_exact hS).le a b ha
  unfold rCount
  split <;> exact this
abbrev ST:=CF×Int×List Int×List Int×Int×List IT×ByteArray×Int
def rNums (S:List Nat) (most:Int):Rdr (List Int):=rMap Prod.snd (rBind (rCount S most) fun n=>rMany (rNum S) n.toNat)
def numsL (xs:List Int):List Nat:=putL (xs.length:Int) ++ allL xs
theorem rNums_exact {S:List Nat} (hS:∀ b ∈ S,b < 256) (most:Int) (hm:most ≤ 1073741824):Exact S (rNums S most) numsL (fun xs=>(xs.length:Int) ≤ most∧∀ x ∈ xs,wf64 x):=by
 refine (Exact.bind (rCount_exact hS most) (fun n _=>rMany_exact (rNum_exact hS) n.toNat) (fun n a=>rMany_bad (rNum_exact hS).bad _ a) (fun n a b h=>(rMany_exact (rNum_exact hS) n.toNat).le a b h)).map Prod.snd (fun xs=>((xs.length:Int),xs)) _ _ ?_ ?_ ?_ ?_ ?_
 ·rintro ⟨n,xs⟩ ⟨⟨_,h0,_⟩,h1,_⟩
  have h1:xs.length=n.toNat:=h1
  have h0:0 ≤ n:=h0
  show ((xs.length:Int),xs)=(n,xs)
  rw [h1]; congr 1; omega
 ·intro xs _; rfl
 ·rintro ⟨n,xs⟩ ⟨⟨_,h0,h2⟩,h1,h3⟩
  have h1:xs.length=n.toNat:=h1
  have h0:0 ≤ n:=h0
  have h2:n ≤ most:=h2
  exact ⟨by show (xs.length:Int) ≤ most; omega,h3⟩
 ·rintro xs ⟨h1,h2⟩
  refine ⟨⟨⟨by show -9223372036854775808 ≤ (xs.length:Int); omega,by show (xs.length:Int) ≤ 9223372036854775807; omega⟩,by show (0:Int) ≤ (xs.length:Int); omega,h1⟩,by show xs.length=((xs.length:Nat):Int).toNat; omega,h2⟩
 ·intro xs _; rfl
def rFour (S:List Nat):Rdr (Int×Int×Int×Int):=rBind (rNum S) fun _=>rBind (rNum S) fun _=>rBind (rNum S) fun _=>rNum S
def fourL (x:Int×Int×Int×Int):List Nat:=putL x.1 ++ (putL x.2.1 ++ (putL x.2.2.1 ++ putL x.2.2.2))
def fourV (x:Int×Int×Int×Int):Prop:=wf64 x.1∧wf64 x.2.1∧wf64 x.2.2.1∧wf64 x.2.2.2
theorem rFour_exact {S:List Nat} (hS:∀ b ∈ S,b < 256):Exact S (rFour S) fourL fourV:=by
 have h:=rNum_exact hS
 have h2:=Exact.bind (f:=fun _=>rNum S) h (fun _ _=>h) (fun _ a=>h.bad a) (fun _ a b hh=>h.le a b hh)
 have h3:=Exact.bind (f:=fun _=>rBind (rNum S) fun _=>rNum S) h (fun _ _=>h2) (fun _ a=>h2.bad a) (fun _ a b hh=>h2.le a b hh)
 exact Exact.bind (f:=fun _=>rBind (rNum S) fun _=>rBind (rNum S) fun _=>rNum S) h (fun _ _=>h3) (fun _ a=>h3.bad a) (fun _ a b hh=>h3.le a b hh)
def toQ (z:(Int×Int×Int×Int)×List Int×Int):QY:=(z.1.1,z.1.2.1,z.1.2.2.1,z.1.2.2.2,z.2.1,z.2.2)
def ofQ (q:QY):(Int×Int×Int×Int)×List Int×Int:=((q.1,q.2.1,q.2.2.1,q.2.2.2.1),q.2.2.2.2.1,q.2.2.2.2.2)
def rQuery (S:List Nat):Rdr QY:=rMap toQ (rBind (rFour S) fun _=>rBind (rNums S 8) fun _=>rNum S)
def queryL (q:QY):List Nat:=fourL (q.1,q.2.1,q.2.2.1,q.2.2.2.1) ++ (numsL q.2.2.2.2.1 ++ putL q.2.2.2.2.2)
def queryV (q:QY):Prop:=fourV (q.1,q.2.1,q.2.2.1,q.2.2.2.1)∧((q.2.2.2.2.1.length:Int) ≤ 8∧∀ x ∈ q.2.2.2.2.1,wf64 x)∧wf64 q.2.2.2.2.2
theorem rQuery_exact {S:List Nat} (hS:∀ b ∈ S,b < 256):Exact S (rQuery S) queryL queryV:=by
 have h:=rNum_exact hS
 have hn:=rNums_exact hS 8 (by decide)
 have h2:=Exact.bind (f:=fun _=>rNum S) hn (fun _ _=>h) (fun _ a=>h.bad a) (fun _ a b hh=>h.le a b hh)
 have h3:=Exact.bind (f:=fun _=>rBind (rNums S 8) fun _=>rNum S) (rFour_exact hS) (fun _ _=>h2) (fun _ a=>h2.bad a) (fun _ a b hh=>h2.le a b hh)
 refine h3.map toQ ofQ queryL queryV (fun z _=>rfl) (fun t _=>rfl) (fun z hz=>?_) (fun t ht=>?_) (fun t _=>rfl)
 ·obtain ⟨a1,a2,a3⟩:=hz
  exact ⟨a1,a2,a3⟩
 ·obtain ⟨a1,a2,a3⟩:=ht
  exact ⟨a1,a2,a3⟩
def rConfig (S:List Nat):Rdr CF:=rMap (fun z:(Int×List QY)×Int×Int×Int×Int=>(z.1.2,z.2)) (rBind (rBind (rCount S 8) fun n=>rMany (rQuery S) n.toNat) fun _=>rFour S)
def configL (c:CF):List Nat:=(putL (c.1.length:Int) ++ c.1.flatMap queryL) ++ fourL c.2
def configV (c:CF):Prop:=((c.1.length:Int) ≤ 8∧∀ q ∈ c.1,queryV q)∧fourV c.2
theorem rConfig_exact {S:List Nat} (hS:∀ b ∈ S,b < 256):Exact S (rConfig S) configL configV:=by
 have hq:=rQuery_exact hS
 have h1:=Exact.bind (rCount_exact hS 8) (fun n _=>rMany_exact hq n.toNat) (fun n a=>rMany_bad hq.bad _ a) (fun n a b h=>(rMany_exact hq n.toNat).le a b h)
 have h4:=rFour_exact hS
 have h2:=Exact.bind (f:=fun _=>rFour S) h1 (fun _ _=>h4) (fun _ a=>h4.bad a) (fun _ a b hh=>h4.le a b hh)
 refine h2.map _ (fun c=>(((c.1.length:Int),c.1),c.2)) _ _ ?_ ?_ ?_ ?_ ?_
 ·rintro ⟨⟨n,qs⟩,r⟩ ⟨⟨⟨_,h0,_⟩,h1,_⟩,_⟩
  have h1:qs.length=n.toNat:=h1
  have h0:0 ≤ n:=h0
  show (((qs.length:Int),qs),r)=((n,qs),r)
  rw [h1]
  have:((n.toNat:Nat):Int)=n:=by omega
  rw [this]
 ·intro c _; rfl
 ·rintro ⟨⟨n,qs⟩,r⟩ ⟨⟨⟨_,h0,h3⟩,h1,h5⟩,h6⟩
  have h1:qs.length=n.toNat:=h1
  have h0:0 ≤ n:=h0
  have h3:n ≤ 8:=h3
  exact ⟨⟨by show (qs.length:Int) ≤ 8; omega,h5⟩,h6⟩
 ·rintro c ⟨⟨h1,h2⟩,h3⟩
  exact ⟨⟨⟨⟨by show -9223372036854775808 ≤ (c.1.length:Int); omega,by show (c.1.length:Int) ≤ 9223372036854775807; omega⟩,by show (0:Int) ≤ (c.1.length:Int); omega,h1⟩,by show c.1.length=((c.1.length:Nat):Int).toNat; omega,h2⟩,h3⟩
 ·intro c _; rfl
def rWaits (s:ByteArray):Rdr ByteArray:=fun st =>
 let c:=rCount (bs s) (s.size:Int) st
 if c.2.2=true then (ByteArray.empty,(c.2.1,true)) else if c.1 > (s.size:Int) - (c.2.1:Int) then (ByteArray.empty,(c.2.1,true)) else (subS s c.2.1 (c.2.1 + c.1.toNat),(c.2.1 + c.1.toNat,false))
def waitsL (w:ByteArray):List Nat:=putL (w.size:Int) ++ bs w
theorem rWaits_exact (s:ByteArray) (hs:s.size ≤ 140737488355328):Exact (bs s) (rWaits s) waitsL (fun w=>w.size ≤ s.size) where
 bad:=fun a=>by
  unfold rWaits
  simp only
  rw [if_pos ((rCount_exact (bs_lt s) _).bad a)]
 ok:=fun a ha w a'=>by
  have hc:=(rCount_exact (bs_lt s) (s.size:Int)).ok a ha
  have hl:=(rCount_exact (bs_lt s) (s.size:Int)).le a false ha
  unfold rWaits
  generalize rCount (bs s) (s.size:Int) (a,false)=r at *
  obtain ⟨n,b,q⟩:=r
  simp only
  rw [bs_len] at hl
  have hl:b ≤ s.size:=hl
  constructor
  ·intro h
   cases q with
   | true=>simp at h
   | false =>
    have h1:=(hc n b).1 rfl
    obtain ⟨⟨_,h0,h9⟩,hat⟩:=h1
    simp only [Bool.false_eq_true,if_false] at h
    split at h
    ·simp at h
    ·rename_i hn
     simp only [Prod.mk.injEq,and_true] at h
     obtain ⟨rfl,rfl⟩:=h
     have hsub:bs (subS s b (b + n.toNat))=((bs s).drop b).take n.toNat:=by
      rw [bs_sub,List.drop_take]; congr 1; omega
     have hsz:(subS s b (b + n.toNat)).size=n.toNat:=by
      rw [← bs_len,hsub,List.length_take,List.length_drop,bs_len]; omega
     refine ⟨by omega,At.app.2 ⟨b,?_,?_⟩⟩
     ·rw [hsz]
      have:((n.toNat:Nat):Int)=n:=by omega
      rw [this]; exact hat
     ·refine ⟨(bs s).take b,(bs s).drop (b + n.toNat),?_,by rw [List.length_take,bs_len]; omega,by rw [bs_len,hsz]⟩
      rw [hsub,← List.drop_drop,List.take_append_drop,List.take_append_drop]
  ·rintro ⟨h1,h2⟩
   obtain ⟨b',h3,h4⟩:=At.app.1 h2
   have h5:=(hc (w.size:Int) b').2 ⟨⟨⟨by omega,by omega⟩,by omega,by omega⟩,h3⟩
   simp only [Prod.mk.injEq] at h5
   obtain ⟨rfl,rfl,rfl⟩:=h5
   have hle:=h4.le
   have hto:=h4.to
   rw [bs_len] at hle hto
   simp only [Bool.false_eq_true,if_false,Int.toNat_natCast]
   rw [if_neg (by omega)]
   have:subS s b (b + w.size)=w:=by
    apply bs_inj
    obtain ⟨A,C,e1,e2,_⟩:=h4
    rw [bs_sub,e1,← e2,List.drop_take,List.drop_left' rfl]
    rw [show A.length + w.size - A.length=(bs w).length by rw [bs_len]; omega]
    exact List.take_left' rfl
   rw [this,hto]
 le:=fun a b ha=>by
  have hl:=(rCount_exact (bs_lt s) (s.size:Int)).le a b ha
  have h0:(rCount (bs s) (s.size:Int) (a,b)).2.2=false→0 ≤ (rCount (bs s) (s.size:Int) (a,b)).1:=by
   intro h
   unfold rCount at h ⊢
   split
   ·simp
   ·rename_i hh; simp only; omega
  unfold rWaits
  simp only
  split
  ·exact hl
  ·split
   ·exact hl
   ·rename_i h1 h2
    have:=h0 (by simpa using h1)
    rw [bs_len] at hl ⊢
    simp only
    omega
def rHeld (S:List Nat):Rdr (List IT):=rMap Prod.snd (rBind (rCount S 4096) fun n=>rMany (rFour S) n.toNat)
def heldL (xs:List IT):List Nat:=putL (xs.length:Int) ++ xs.flatMap fourL
theorem rHeld_exact {S:List Nat} (hS:∀ b ∈ S,b < 256):Exact S (rHeld S) heldL (fun xs=>(xs.length:Int) ≤ 4096∧∀ x ∈ xs,fourV x):=by
 have hq:=rFour_exact hS
 refine (Exact.bind (rCount_exact hS 4096) (fun n _=>rMany_exact hq n.toNat) (fun n a=>rMany_bad hq.bad _ a) (fun n a b h=>(rMany_exact hq n.toNat).le a b h)).map Prod.snd (fun xs=>((xs.length:Int),xs)) _ _ ?_ ?_ ?_ ?_ ?_
 ·rintro ⟨n,xs⟩ ⟨⟨_,h0,_⟩,h1,_⟩
  have h1:xs.length=n.toNat:=h1
  have h0:0 ≤ n:=h0
  show ((xs.length:Int),xs)=(n,xs)
  rw [h1]; congr 1; omega
 ·intro xs _; rfl
 ·rintro ⟨n,xs⟩ ⟨⟨_,h0,h2⟩,h1,h3⟩
  have h1:xs.length=n.toNat:=h1
  have h0:0 ≤ n:=h0
  have h2:n ≤ 4096:=h2
  exact ⟨by show (xs.length:Int) ≤ 4096; omega,h3⟩
 ·rintro xs ⟨h1,h2⟩
  refine ⟨⟨⟨by show -9223372036854775808 ≤ (xs.length:Int); omega,by show (xs.length:Int) ≤ 9223372036854775807; omega⟩,by show (0:Int) ≤ (xs.length:Int); omega,h1⟩,by show xs.length=((xs.length:Nat):Int).toNat; omega,h2⟩
 ·intro xs _; rfl
def nMarks (c:CF):Nat:=(if (8:Int) < c.2.2.2.2 then (8:Int) else c.2.2.2.2).toNat
def toST (z:CF×Int×List Int×List Int×Int×List IT×Int×ByteArray):ST:=(z.1,z.2.1,z.2.2.1,z.2.2.2.1,z.2.2.2.2.1,z.2.2.2.2.2.1,z.2.2.2.2.2.2.2,z.2.2.2.2.2.2.1)
def ofST (t:ST):CF×Int×List Int×List Int×Int×List IT×Int×ByteArray:=(t.1,t.2.1,t.2.2.1,t.2.2.2.1,t.2.2.2.2.1,t.2.2.2.2.2.1,t.2.2.2.2.2.2.2,t.2.2.2.2.2.2.1)
def rState (s:ByteArray):Rdr ST :=
 rMap toST
  (rBind (rConfig (bs s)) fun c=>rBind (rNum (bs s)) fun _=>rBind (rMany (rNum (bs s)) (nMarks c)) fun _=>rBind (rNums (bs s) 64) fun _=>rBind (rNum (bs s)) fun _=>rBind (rHeld (bs s)) fun _=>rBind (rNum (bs s)) fun _=>rWaits s)
def stateL (t:ST):List Nat:=configL t.1 ++ (putL t.2.1 ++ (allL t.2.2.1 ++ (numsL t.2.2.2.1 ++ (putL t.2.2.2.2.1 ++ (heldL t.2.2.2.2.2.1 ++ (putL t.2.2.2.2.2.2.2 ++ waitsL t.2.2.2.2.2.2.1))))))
def stateV (m:Nat) (t:ST):Prop:=configV t.1∧wf64 t.2.1∧(t.2.2.1.length=nMarks t.1∧∀ x ∈ t.2.2.1,wf64 x)∧((t.2.2.2.1.length:Int) ≤ 64∧∀ x ∈ t.2.2.2.1,wf64 x)∧wf64 t.2.2.2.2.1∧((t.2.2.2.2.2.1.length:Int) ≤ 4096∧∀ x ∈ t.2.2.2.2.2.1,fourV x)∧wf64 t.2.2.2.2.2.2.2∧t.2.2.2.2.2.2.1.size ≤ m
theorem rState_exact (s:ByteArray) (hs:s.size ≤ 140737488355328):Exact (bs s) (rState s) stateL (stateV s.size):=by
 have hn:=rNum_exact (bs_lt s)
 have hw:=rWaits_exact s hs
 have h7:=Exact.bind (f:=fun _=>rWaits s) hn (fun _ _=>hw) (fun _ a=>hw.bad a) (fun _ a b hh=>hw.le a b hh)
 have h6:=Exact.bind (f:=fun _=>rBind (rNum (bs s)) fun _=>rWaits s) (rHeld_exact (bs_lt s)) (fun _ _=>h7) (fun _ a=>h7.bad a) (fun _ a b hh=>h7.le a b hh)
 have h5:=Exact.bind (f:=fun _=>rBind (rHeld (bs s)) fun _=>rBind (rNum (bs s)) fun _=>rWaits s) hn (fun _ _=>h6) (fun _ a=>h6.bad a) (fun _ a b hh=>h6.le a b hh)
 have h4:=Exact.bind (f:=fun _=>rBind (rNum (bs s)) fun _=>rBind (rHeld (bs s)) fun _=>rBind (rNum (bs s)) fun _=>rWaits s) (rNums_exact (bs_lt s) 64 (by decide)) (fun _ _=>h5) (fun _ a=>h5.bad a) (fun _ a b hh=>h5.le a b hh)
 have h3:=fun m:Nat=>Exact.bind (f:=fun _=>rBind (rNums (bs s) 64) fun _=>rBind (rNum (bs s)) fun _=>rBind (rHeld (bs s)) fun _=>rBind (rNum (bs s)) fun _=>rWaits s) (rMany_exact hn m) (fun _ _=>h4) (fun _ a=>h4.bad a) (fun _ a b hh=>h4.le a b hh)
 have h2:=fun m:Nat=>Exact.bind (f:=fun _=>rBind (rMany (rNum (bs s)) m) fun _=>rBind (rNums (bs s) 64) fun _=>rBind (rNum (bs s)) fun _=>rBind (rHeld (bs s)) fun _=>rBind (rNum (bs s)) fun _=>rWaits s) hn (fun _ _=>h3 m) (fun _ a=>(h3 m).bad a) (fun _ a b hh=>(h3 m).le a b hh)
 have h1:=Exact.bind (f:=fun c=>rBind (rNum (bs s)) fun _=>rBind (rMany (rNum (bs s)) (nMarks c)) fun _=>rBind (rNums (bs s) 64) fun _=>rBind (rNum (bs s)) fun _=>rBind (rHeld (bs s)) fun _=>rBind (rNum (bs s)) fun _=>rWaits s) (rConfig_exact (bs_lt s)) (fun c _=>h2 (nMarks c)) (fun c a=>(h2 (nMarks c)).bad a) (fun c a b hh=>(h2 (nMarks c)).le a b hh)
 refine h1.map toST ofST stateL (stateV s.size) (fun z _=>rfl) (fun t _=>rfl) (fun z hz=>?_) (fun t ht=>?_) (fun t _=>rfl)
 ·obtain ⟨a1,a2,a3,a4,a5,a6,a7,a8⟩:=hz
  exact ⟨a1,a2,a3,a4,a5,a6,a7,a8⟩
 ·obtain ⟨a1,a2,a3,a4,a5,a6,a7,a8⟩:=ht
  exact ⟨a1,a2,a3,a4,a5,a6,a7,a8⟩
theorem rBind_eq {α β:Type} {p:Rdr α} {f:α→Rdr β} {st st1 st2:Pos} {x:α} {y:β} (h1:p st=(x,st1)) (h2:f x st1=(y,st2)):rBind p f st=((x,y),st2):=by
 unfold rBind
 rw [h1]
 simp only [h2]
theorem num_ex {n:Nat} (hn:5000 < n) {s:ByteArray} (hs:s.size ≤ 140737488355328) (p:Pos) (ha:p.1 ≤ s.size):∃ x q,varint_Reader_Num n (s,((p.1:Nat):Int),p.2)=some (x,s,((q.1:Nat):Int),q.2)∧q.1 ≤ s.size∧rNum (bs s) p=(x,q):=by
 obtain ⟨a,b⟩:=p
 obtain ⟨e,he,hg⟩:=get_eq n (by omega) s hs a ha
 have hle:=(rNum_exact (bs_lt s)).le a b (by rw [bs_len]; exact ha)
 rw [bs_len] at hle
 refine ⟨(rNum (bs s) (a,b)).1,(rNum (bs s) (a,b)).2,?_,hle,rfl⟩
 rw [varint_Reader_Num_S]
 simp only [hg,Option.bind_some]
 cases b with
 | true=>rfl
 | false =>
  simp only [cond_false]
  cases hgl:getL (bs s) a with
  | none =>
   have h1:(e != 0)=true:=by rw [bne_iff_ne]; exact he
   have hr:rNum (bs s) (a,false)=(0,(a,true)):=by simp [rNum,hgl]
   simp only [h1,cond_true,hr]
  | some p =>
   have hr:rNum (bs s) (a,false)=(p.1,(p.2,false)):=by simp [rNum,hgl]
   simp only [hr]
   rfl
theorem many_num_ex {s:ByteArray} (p:Pos) (ha:p.1 ≤ s.size) (k:Nat):(rMany (rNum (bs s)) k p).2.1 ≤ s.size:=by
 have:=(rMany_exact (rNum_exact (bs_lt s)) k).le p.1 p.2 (by rw [bs_len]; exact ha)
 rwa [bs_len] at this
theorem nums_l0 {n:Nat} (hn:5000 < n) {s:ByteArray} (hs:s.size ≤ 140737488355328) (r0:Int×ByteArray×Int×Bool):∀ (k m i:Nat) (p:Pos) (acc:List Int),((i + k:Nat):Int)=r0.1→k < m→p.1 ≤ s.size→acc.length ≤ i→i + k ≤ 4096 →
  varint_Reader_Nums_l0 n c47.F r0 m (i:Int) s ((p.1:Nat):Int) p.2 acc=some (acc ++ (rMany (rNum (bs s)) k p).1,s,(((rMany (rNum (bs s)) k p).2.1:Nat):Int),(rMany (rNum (bs s)) k p).2.2):=by
 intro k
 induction k with
 | zero =>
  intro m i p acc hi hm ha hacc h9
  obtain ⟨m,rfl,hm⟩:=sucM hm
  rw [varint_Reader_Nums_l0_S]
  have hd:decide ((i:Int) < r0.1)=false:=by rw [decide_eq_false_iff_not]; omega
  simp only [hd,cond_false,rMany,List.append_nil]
 | succ k ih =>
  intro m i p acc hi hm ha hacc h9
  obtain ⟨m,rfl,hm⟩:=sucM hm
  rw [varint_Reader_Nums_l0_S]
  have hd:decide ((i:Int) < r0.1)=true:=by rw [decide_eq_true_eq]; omega
  obtain ⟨x,q,e1,l1,d1⟩:=num_ex hn hs p ha
  have e2:∀ v:Int,((List.replicate (1:Nat) (0:Int)).set (0:Nat) v)=[v]:=fun v=>rfl
  have c1:(acc.length + [x].length) * 8 ≤ 140737488355328∧0 < 8:=by simp only [List.length_cons,List.length_nil]; omega
  have ih':=ih m (i + 1) q (acc ++ [x]) (by omega) (by omega) l1 (by simp only [List.length_append,List.length_cons,List.length_nil]; omega) (by omega)
  simp only [hd,cond_true,e1,Option.bind_some,e2,if_pos c1]
  rw [wrapS (i:=i) (by omega),ih']
  simp only [rMany,d1,List.append_assoc,List.singleton_append]
theorem count_ex {n:Nat} (hn:5000 < n) {s:ByteArray} (hs:s.size ≤ 140737488355328) (most:Int) (p:Pos) (ha:p.1 ≤ s.size):∃ x q,check_reader_count n (s,((p.1:Nat):Int),p.2) most=some (x,s,((q.1:Nat):Int),q.2)∧q.1 ≤ s.size∧rCount (bs s) most p=(x,q):=by
 obtain ⟨x,q,e1,l1,d1⟩:=num_ex hn hs p ha
 rw [check_reader_count_S]
 simp only [e1,Option.bind_some]
 unfold rCount
 rw [d1]
 obtain ⟨a,b⟩:=q
 cases b with
 | true=>exact ⟨0,(a,true),by simp only [cond_true],l1,by rw [if_pos (.inl rfl)]⟩
 | false =>
  simp only [cond_false]
  by_cases h0:x < 0
  ·have:decide (x < 0)=true:=by simpa using h0
   exact ⟨0,(a,true),by simp only [this,cond_true],l1,by rw [if_pos (.inr (.inl h0))]⟩
  ·have d0:decide (x < 0)=false:=by simpa using h0
   by_cases h9:x > most
   ·have:decide (x > most)=true:=by simpa using h9
    exact ⟨0,(a,true),by simp only [d0,this,cond_true,cond_false],l1,by rw [if_pos (.inr (.inr h9))]⟩
   ·have d9:decide (x > most)=false:=by simpa using h9
    refine ⟨x,(a,false),by simp only [d0,d9,cond_false],l1,?_⟩
    rw [if_neg]
    rintro (h | h | h)
    ·cases h
    ·exact h0 h
    ·exact h9 h
theorem nums_ex {n:Nat} (hn:5000 < n) {s:ByteArray} (hs:s.size ≤ 140737488355328) (most:Int) (hm:most ≤ 4096) (p:Pos) (ha:p.1 ≤ s.size):∃ x q,varint_Reader_Nums n (s,((p.1:Nat):Int),p.2) most=some (x,s,((q.1:Nat):Int),q.2)∧q.1 ≤ s.size∧rNums (bs s) most p=(x,q):=by
 obtain ⟨x,q,e1,l1,d1⟩:=num_ex hn hs p ha
 rw [varint_Reader_Nums_S]
 simp only [e1,Option.bind_some]
 obtain ⟨a,b⟩:=q
 have hz:∀ q:Pos,rMany (rNum (bs s)) (Int.toNat 0) q=([],q):=fun q=>rfl
 unfold rNums rMap rBind rCount
 rw [d1]
 cases b with
 | true=>exact ⟨[],(a,true),by simp only [cond_true],l1,by simp only [true_or,if_true,hz]⟩
 | false =>
  simp only [cond_false,Bool.false_eq_true,false_or]
  by_cases h0:x < 0
  ·have:decide (x < 0)=true:=by simpa using h0
   exact ⟨[],(a,true),by simp only [this,cond_true],l1,by simp only [h0,true_or,if_true,hz]⟩
  ·have d0:decide (x < 0)=false:=by simpa using h0
   by_cases h9:x > most
   ·have:decide (x > most)=true:=by simpa using h9
    exact ⟨[],(a,true),by simp only [d0,this,cond_true,cond_false],l1,by simp only [h9,or_true,if_true,hz]⟩
   ·have d9:decide (x > most)=false:=by simpa using h9
    have hor:¬ (x < 0 ∨ x > most):=by omega
    have l0:=nums_l0 hn hs (x,s,((a:Nat):Int),false) x.toNat n 0 (a,false) [] (by omega) (by omega) l1 (by simp) (by omega)
    refine ⟨_,_,?_,many_num_ex (a,false) l1 x.toNat,by rw [if_neg hor]⟩
    simp only [d0,d9,cond_false]
    exact l0
theorem four_ex {n:Nat} (hn:5000 < n) {s:ByteArray} (hs:s.size ≤ 140737488355328) (p:Pos) (ha:p.1 ≤ s.size):∃ (x1 x2 x3 x4:Int) (q1 q2 q3 q4:Pos),varint_Reader_Num n (s,((p.1:Nat):Int),p.2)=some (x1,s,((q1.1:Nat):Int),q1.2)∧varint_Reader_Num n (s,((q1.1:Nat):Int),q1.2)=some (x2,s,((q2.1:Nat):Int),q2.2) ∧
  varint_Reader_Num n (s,((q2.1:Nat):Int),q2.2)=some (x3,s,((q3.1:Nat):Int),q3.2)∧varint_Reader_Num n (s,((q3.1:Nat):Int),q3.2)=some (x4,s,((q4.1:Nat):Int),q4.2)∧q4.1 ≤ s.size∧rFour (bs s) p=((x1,x2,x3,x4),q4):=by
 obtain ⟨x1,q1,e1,l1,d1⟩:=num_ex hn hs p ha
 obtain ⟨x2,q2,e2,l2,d2⟩:=num_ex hn hs q1 l1
 obtain ⟨x3,q3,e3,l3,d3⟩:=num_ex hn hs q2 l2
 obtain ⟨x4,q4,e4,l4,d4⟩:=num_ex hn hs q3 l3
 exact ⟨x1,x2,x3,x4,q1,q2,q3,q4,e1,e2,e3,e4,l4,by simp only [rFour,rBind,d1,d2,d3,d4]⟩
theorem config_l0 {n:Nat} (hn:5000 < n) {s:ByteArray} (hs:s.size ≤ 140737488355328) (r0:Int×ByteArray×Int×Bool):∀ (k m i:Nat) (p:Pos) (acc:List QY),((i + k:Nat):Int)=r0.1→k < m→p.1 ≤ s.size→acc.length ≤ i→i + k ≤ 4096 →
  ∃ c q,check_reader_config_l0 n c49.F c47.F c48.F r0 m (i:Int) s ((p.1:Nat):Int) p.2 acc=some ((acc ++ (rMany (rQuery (bs s)) k p).1,c),s,((q.1:Nat):Int),q.2)∧q.1 ≤ s.size∧rFour (bs s) (rMany (rQuery (bs s)) k p).2=(c,q):=by
 intro k
 induction k with
 | zero =>
  intro m i p acc hi hm ha hacc h9
  obtain ⟨m,rfl,hm⟩:=sucM hm
  rw [check_reader_config_l0_S]
  have hd:decide ((i:Int) < r0.1)=false:=by rw [decide_eq_false_iff_not]; omega
  obtain ⟨x1,x2,x3,x4,q1,q2,q3,q4,e1,e2,e3,e4,l4,d⟩:=four_ex hn hs p ha
  exact ⟨(x1,x2,x3,x4),q4,by simp only [hd,cond_false,e1,e2,e3,e4,Option.bind_some,rMany,List.append_nil],l4,d⟩
 | succ k ih =>
  intro m i p acc hi hm ha hacc h9
  obtain ⟨m,rfl,hm⟩:=sucM hm
  rw [check_reader_config_l0_S]
  have hd:decide ((i:Int) < r0.1)=true:=by rw [decide_eq_true_eq]; omega
  obtain ⟨x1,x2,x3,x4,q1,q2,q3,q4,e1,e2,e3,e4,l4,d⟩:=four_ex hn hs p ha
  obtain ⟨x5,q5,e5,l5,d5⟩:=nums_ex hn hs 8 (by decide) q4 l4
  obtain ⟨x6,q6,e6,l6,d6⟩:=num_ex hn hs q5 l5
  have e7:∀ v:QY,((List.replicate (1:Nat) ((0:Int),(0:Int),(0:Int),(0:Int),Go.Ev.nl Int,(0:Int))).set (0:Nat) v)=[v]:=fun v=>rfl
  have c1:∀ v:QY,(acc.length + [v].length) * 64 ≤ 140737488355328∧0 < 64:=fun v=>by simp only [List.length_cons,List.length_nil]; omega
  obtain ⟨c,q,f1,f2,f3⟩:=ih m (i + 1) q6 (acc ++ [(x1,x2,x3,x4,x5,x6)]) (by omega) (by omega) l6 (by simp only [List.length_append,List.length_cons,List.length_nil]; omega) (by omega)
  have hq:rQuery (bs s) p=((x1,x2,x3,x4,x5,x6),q6):=by simp only [rQuery,rMap,rBind,d,d5,d6,toQ]
  refine ⟨c,q,?_,f2,?_⟩
  ·simp only [hd,cond_true,e1,e2,e3,e4,e5,e6,Option.bind_some,e7,if_pos (c1 _)]
   rw [wrapS (i:=i) (by omega),f1]
   simp only [rMany,hq,List.append_assoc,List.singleton_append]
  ·simp only [rMany,hq]
   exact f3
theorem config_ex {n:Nat} (hn:5000 < n) {s:ByteArray} (hs:s.size ≤ 140737488355328) (p:Pos) (ha:p.1 ≤ s.size):∃ c q,check_reader_config n (s,((p.1:Nat):Int),p.2)=some (c,s,((q.1:Nat):Int),q.2)∧q.1 ≤ s.size∧rConfig (bs s) p=(c,q):=by
 obtain ⟨x,q,e1,l1,d1⟩:=count_ex hn hs 8 p ha
 have hx:0 ≤ x∧x ≤ 8:=by
  have:(rCount (bs s) 8 p).1=x:=by rw [d1]
  unfold rCount at this
  split at this
  ·simp only at this; omega
  ·simp only at this; omega
 rw [check_reader_config_S]
 simp only [e1,Option.bind_some]
 obtain ⟨c,q2,f1,f2,f3⟩:=config_l0 hn hs (x,s,((q.1:Nat):Int),q.2) x.toNat n 0 q [] (by omega) (by omega) l1 (by simp) (by omega)
 refine ⟨((rMany (rQuery (bs s)) x.toNat q).1,c),q2,f1,f2,?_⟩
 simp only [rConfig,rMap,rBind,d1,f3]
theorem state_l1 {n:Nat} (hn:5000 < n) {s:ByteArray} (hs:s.size ≤ 140737488355328) (c:CF) (en:Int) (marks ser:List Int) (seq:Int) (y0 y1 y3 y4:ByteArray×Int×Bool) (r5:Int×ByteArray×Int×Bool):∀ (k m i:Nat) (p:Pos) (acc:List IT),((i + k:Nat):Int)=r5.1→k < m→p.1 ≤ s.size→acc.length ≤ i→i + k ≤ 4096 →
  ∃ bd w q,check_reader_state_l1 n c46.F c47.F c48.F c49.F (c,y0) (en,y1) marks (ser,y3) (seq,y4) r5 m (i:Int) s ((p.1:Nat):Int) p.2 acc=some ((c,en,marks,ser,seq,acc ++ (rMany (rFour (bs s)) k p).1,w,bd),s,((q.1:Nat):Int),q.2)∧q.1 ≤ s.size ∧
   (rBind (rNum (bs s)) fun _=>rWaits s) (rMany (rFour (bs s)) k p).2=((bd,w),q):=by
 intro k
 induction k with
 | zero =>
  intro m i p acc hi hm ha hacc h9
  obtain ⟨m,rfl,hm⟩:=sucM hm
  rw [check_reader_state_l1_S]
  have hd:decide ((i:Int) < r5.1)=false:=by rw [decide_eq_false_iff_not]; omega
  obtain ⟨x1,q1,e1,l1,d1⟩:=num_ex hn hs p ha
  obtain ⟨x2,q2,e2,l2,d2⟩:=count_ex hn hs (s.size:Int) q1 l1
  have hx:0 ≤ x2∧x2 ≤ (s.size:Int):=by
   have:(rCount (bs s) (s.size:Int) q1).1=x2:=by rw [d2]
   unfold rCount at this
   split at this
   ·simp only at this; omega
   ·simp only at this; omega
  simp only [hd,cond_false,e1,e2,Option.bind_some,rMany,List.append_nil]
  obtain ⟨a2,b2⟩:=q2
  have hw:(rBind (rNum (bs s)) fun _=>rWaits s) p=((x1,(rWaits s q1).1),(rWaits s q1).2):=by simp only [rBind,d1]
  have hle2:(rWaits s q1).2.1 ≤ s.size:=by
   have:=(rWaits_exact s hs).le q1.1 q1.2 (by rw [bs_len]; exact l1)
   rwa [bs_len] at this
  cases b2 with
  | true =>
   refine ⟨x1,ByteArray.empty,(a2,true),?_,l2,?_⟩
   ·simp only [cond_true,check_reader_state_j2_S]
   ·rw [hw]
    unfold rWaits
    rw [d2]
    simp only [if_true]
  | false =>
   have l2:a2 ≤ s.size:=l2
   have w1:i64.wrap ((s.size:Int) - (a2:Int))=(s.size:Int) - (a2:Int):=wrapOK (by omega) (by omega)
   simp only [cond_false,w1]
   by_cases hgt:x2 > (s.size:Int) - (a2:Int)
   ·have dd:decide (x2 > (s.size:Int) - (a2:Int))=true:=by simpa using hgt
    refine ⟨x1,ByteArray.empty,(a2,true),?_,l2,?_⟩
    ·simp only [dd,Bool.not_true,cond_false,check_reader_state_j2_S]
    ·rw [hw]
     unfold rWaits
     rw [d2]
     simp only [Bool.false_eq_true,if_false,hgt,if_true]
   ·have dd:decide (x2 > (s.size:Int) - (a2:Int))=false:=by simpa using hgt
    have w2:i64.wrap ((a2:Int) + x2)=((a2 + x2.toNat:Nat):Int):=by rw [wrapOK (by omega) (by omega)]; omega
    have c1:(0:Int) ≤ (a2:Int)∧(a2:Int) ≤ ((a2 + x2.toNat:Nat):Int)∧((a2 + x2.toNat:Nat):Int) ≤ (s.size:Int):=by omega
    refine ⟨x1,subS s a2 (a2 + x2.toNat),(a2 + x2.toNat,false),?_,by show a2 + x2.toNat ≤ s.size; omega,?_⟩
    ·simp only [dd,Bool.not_false,cond_true,w2,if_pos c1,Int.toNat_natCast,check_reader_state_j2_S]
    ·rw [hw]
     unfold rWaits
     rw [d2]
     simp only [Bool.false_eq_true,if_false,hgt]
 | succ k ih =>
  intro m i p acc hi hm ha hacc h9
  obtain ⟨m,rfl,hm⟩:=sucM hm
  rw [check_reader_state_l1_S]
  have hd:decide ((i:Int) < r5.1)=true:=by rw [decide_eq_true_eq]; omega
  obtain ⟨x1,x2,x3,x4,q1,q2,q3,q4,e1,e2,e3,e4,l4,d⟩:=four_ex hn hs p ha
  have e7:∀ v:IT,((List.replicate (1:Nat) ((0:Int),(0:Int),(0:Int),(0:Int))).set (0:Nat) v)=[v]:=fun v=>rfl
  have c1:∀ v:IT,(acc.length + [v].length) * 32 ≤ 140737488355328∧0 < 32:=fun v=>by simp only [List.length_cons,List.length_nil]; omega
  obtain ⟨bd,w,q,f1,f2,f3⟩:=ih m (i + 1) q4 (acc ++ [(x1,x2,x3,x4)]) (by omega) (by omega) l4 (by simp only [List.length_append,List.length_cons,List.length_nil]; omega) (by omega)
  refine ⟨bd,w,q,?_,f2,?_⟩
  ·simp only [hd,cond_true,e1,e2,e3,e4,Option.bind_some,e7,if_pos (c1 _)]
   rw [wrapS (i:=i) (by omega),f1]
   simp only [rMany,d,List.append_assoc,List.singleton_append]
  ·simp only [rMany,d]
   exact f3
theorem state_l0 {n:Nat} (hn:5000 < n) {s:ByteArray} (hs:s.size ≤ 140737488355328) (c:CF) (en:Int) (y0 y1:ByteArray×Int×Bool):∀ (k m i:Nat) (p:Pos) (acc:List Int),i + k=nMarks c→k < m→p.1 ≤ s.size→acc.length ≤ i →
  ∃ ser seq held bd w q,check_reader_state_l0 n c46.F c47.F c48.F c49.F (c,y0) (en,y1) m (i:Int) s ((p.1:Nat):Int) p.2 acc=some ((c,en,acc ++ (rMany (rNum (bs s)) k p).1,ser,seq,held,w,bd),s,((q.1:Nat):Int),q.2)∧q.1 ≤ s.size ∧
   (rBind (rNums (bs s) 64) fun _=>rBind (rNum (bs s)) fun _=>rBind (rHeld (bs s)) fun _=>rBind (rNum (bs s)) fun _=>rWaits s) (rMany (rNum (bs s)) k p).2=((ser,seq,held,bd,w),q):=by
 have h8:nMarks c ≤ 8:=by unfold nMarks; split <;> omega
 have hlt:∀ i:Nat,decide ((i:Int) < if (8:Int) < c.2.2.2.2 then (8:Int) else c.2.2.2.2)=decide (i < nMarks c):=by
  intro i
  unfold nMarks
  congr 1
  apply propext
  split <;> omega
 intro k
 induction k with
 | zero =>
  intro m i p acc hi hm ha hacc
  obtain ⟨m,rfl,hm⟩:=sucM hm
  rw [check_reader_state_l0_S]
  have hd:decide (i < nMarks c)=false:=by rw [decide_eq_false_iff_not]; omega
  obtain ⟨x3,q3,e3,l3,d3⟩:=nums_ex hn hs 64 (by decide) p ha
  obtain ⟨x4,q4,e4,l4,d4⟩:=num_ex hn hs q3 l3
  obtain ⟨x5,q5,e5,l5,d5⟩:=count_ex hn hs 4096 q4 l4
  have hx:0 ≤ x5∧x5 ≤ 4096:=by
   have:(rCount (bs s) 4096 q4).1=x5:=by rw [d5]
   unfold rCount at this
   split at this
   ·simp only at this; omega
   ·simp only at this; omega
  obtain ⟨bd,w,q,f1,f2,f3⟩:=state_l1 hn hs c en acc x3 x4 y0 y1 (s,((q3.1:Nat):Int),q3.2) (s,((q4.1:Nat):Int),q4.2) (x5,s,((q5.1:Nat):Int),q5.2) x5.toNat n 0 q5 [] (by omega) (by omega) l5 (by simp) (by omega)
  have hh:rHeld (bs s) q4=rMany (rFour (bs s)) x5.toNat q5:=by simp only [rHeld,rMap,rBind,d5]
  refine ⟨x3,x4,(rMany (rFour (bs s)) x5.toNat q5).1,bd,w,q,?_,f2,?_⟩
  ·simp only [hlt,hd,cond_false,e3,e4,e5,Option.bind_some,rMany,List.append_nil]
   exact f1
  ·simp only [rMany]
   have hh2:rHeld (bs s) q4=((rMany (rFour (bs s)) x5.toNat q5).1,(rMany (rFour (bs s)) x5.toNat q5).2):=hh
   exact rBind_eq d3 (rBind_eq d4 (rBind_eq hh2 f3))
 | succ k ih =>
  intro m i p acc hi hm ha hacc
  obtain ⟨m,rfl,hm⟩:=sucM hm
  rw [check_reader_state_l0_S]
  have hd:decide (i < nMarks c)=true:=by rw [decide_eq_true_eq]; omega
  obtain ⟨x,q1,e1,l1,d1⟩:=num_ex hn hs p ha
  have e2:∀ v:Int,((List.replicate (1:Nat) (0:Int)).set (0:Nat) v)=[v]:=fun v=>rfl
  have c1:(acc.length + [x].length) * 8 ≤ 140737488355328∧0 < 8:=by simp only [List.length_cons,List.length_nil]; omega
  obtain ⟨ser,seq,held,bd,w,q,f1,f2,f3⟩:=ih m (i + 1) q1 (acc ++ [x]) (by omega) (by omega) l1 (by simp only [List.length_append,List.length_cons,List.length_nil]; omega)
  refine ⟨ser,seq,held,bd,w,q,?_,f2,?_⟩
  ·simp only [hlt,hd,cond_true,e1,Option.bind_some,e2,if_pos c1]
   rw [wrapS (i:=i) (by omega),f1]
   simp only [rMany,d1,List.append_assoc,List.singleton_append]
  ·simp only [rMany,d1]
   exact f3
theorem state_ex {n:Nat} (hn:5000 < n) {s:ByteArray} (hs:s.size ≤ 140737488355328) (p:Pos) (ha:p.1 ≤ s.size):∃ t q,check_reader_state n (s,((p.1:Nat):Int),p.2)=some (t,s,((q.1:Nat):Int),q.2)∧q.1 ≤ s.size∧rState s p=(t,q):=by
 obtain ⟨c,q0,e0,l0,d0⟩:=config_ex hn hs p ha
 obtain ⟨en,q1,e1,l1,d1⟩:=num_ex hn hs q0 l0
 have h8:nMarks c ≤ 8:=by unfold nMarks; split <;> omega
 rw [check_reader_state_S]
 simp only [e0,e1,Option.bind_some]
 obtain ⟨ser,seq,held,bd,w,q,f1,f2,f3⟩:=state_l0 hn hs c en (s,((q0.1:Nat):Int),q0.2) (s,((q1.1:Nat):Int),q1.2) (nMarks c) n 0 q1 [] (by omega) (by omega) l1 (by simp)
 refine ⟨(c,en,(rMany (rNum (bs s)) (nMarks c) q1).1,ser,seq,held,w,bd),q,f1,f2,?_⟩
 have h2:rMany (rNum (bs s)) (nMarks c) q1=((rMany (rNum (bs s)) (nMarks c) q1).1,(rMany (rNum (bs s)) (nMarks c) q1).2):=rfl
 have h3:=rBind_eq (f:=fun c=>rBind (rNum (bs s)) fun _=>rBind (rMany (rNum (bs s)) (nMarks c)) fun _=>rBind (rNums (bs s) 64) fun _=>rBind (rNum (bs s)) fun _=>rBind (rHeld (bs s)) fun _=>rBind (rNum (bs s)) fun _=>rWaits s) d0 (rBind_eq d1 (rBind_eq h2 f3))
 unfold rState rMap
 rw [h3]
 rfl
theorem cond_ex {α:Type} {q:Bool} {a b:Option α} (ha:∃ r,a=some r) (hb:∃ r,b=some r):∃ r,cond q a b=some r:=by
 cases q with
 | true=>exact ha
 | false=>exact hb
theorem sum_l1 (n:Nat) (s:ByteArray) (v2 v3:Int) (ih0:ByteArray→Int→Int→Int→Option Int):∀ (k m i:Nat) (v:Int),i + k=8→k < m→∃ x,frame_Sum_l1 n s v2 v3 ih0 m v (i:Int)=ih0 s x v2 (i64.wrap (v3 + 1)):=by
 intro k
 induction k with
 | zero =>
  intro m i v hi hm
  obtain ⟨m,rfl,hm⟩:=sucM hm
  rw [frame_Sum_l1_S]
  have hd:decide ((i:Int) < 8)=false:=by rw [decide_eq_false_iff_not]; omega
  exact ⟨v,by simp only [hd,cond_false]⟩
 | succ k ih =>
  intro m i v hi hm
  obtain ⟨m,rfl,hm⟩:=sucM hm
  rw [frame_Sum_l1_S]
  have hd:decide ((i:Int) < 8)=true:=by rw [decide_eq_true_eq]; omega
  simp only [hd,cond_true,frame_Sum_j2_S]
  rw [wrapS (i:=i) (by omega)]
  cases (i64.wrap (((BitVec.ofInt i64.bits v &&& BitVec.ofInt i64.bits (32768:Int)).toNat:Nat):Int) != (0:Int)) with
  | true =>
   simp only [cond_true]
   exact ih m (i + 1) _ (by omega) (by omega)
  | false =>
   simp only [cond_false]
   exact ih m (i + 1) _ (by omega) (by omega)
theorem sum_l0 (n:Nat) (hn:8 < n) (s:ByteArray) (hs:s.size ≤ 140737488355328):∀ (k m i:Nat) (v:Int),i + k=s.size→k < m→∃ x,frame_Sum_l0 n m s v (s.size:Int) (i:Int)=some x:=by
 intro k
 induction k with
 | zero =>
  intro m i v hi hm
  obtain ⟨m,rfl,hm⟩:=sucM hm
  rw [frame_Sum_l0_S]
  have hd:decide ((i:Int) < (s.size:Int))=false:=by rw [decide_eq_false_iff_not]; omega
  exact ⟨v,by simp only [hd,cond_false]⟩
 | succ k ih =>
  intro m i v hi hm
  obtain ⟨m,rfl,hm⟩:=sucM hm
  rw [frame_Sum_l0_S]
  have hd:decide ((i:Int) < (s.size:Int))=true:=by rw [decide_eq_true_eq]; omega
  have c1:(0:Int) ≤ (i:Int)∧(i:Int) < (s.size:Int):=by omega
  simp only [hd,cond_true,if_pos c1]
  obtain ⟨x,hx⟩:=sum_l1 n s (s.size:Int) (i:Int) (frame_Sum_l0 n m) 8 n 0 (i64.wrap (((BitVec.ofInt i64.bits v ^^^ BitVec.ofInt i64.bits (i64.wrap (i64.wrap ((s.data.getD (i:Int).toNat (0:UInt8)).toNat:Int) * (2:Int) ^ min (Int.toNat (8:Int)) i64.bits))).toNat:Nat):Int)) (by omega) hn
  have hx':frame_Sum_l1 n s (s.size:Int) (i:Int) (frame_Sum_l0 n m) n _ 0=_:=hx
  rw [hx',wrapS (i:=i) (by omega)]
  exact ih m (i + 1) x (by omega) (by omega)
theorem sum_ex (n:Nat) (hn:140737488355337 < n) (s:ByteArray) (hs:s.size ≤ 140737488355328):∃ x,frame_Sum n s=some x:=by
 rw [frame_Sum_S]
 exact sum_l0 n (by omega) s hs s.size n 0 65535 (by omega) (by omega)
theorem two_ex (n:Nat) (x:Int):∃ r,frame_Two n x=some r∧r.size=2:=⟨_,rfl,rfl⟩
theorem sub_all (s:ByteArray):subS s 0 s.size=s:=by
 apply bs_inj
 rw [bs_sub,← bs_len,List.take_length,List.drop_zero]
theorem sub_size (s:ByteArray) (l h:Nat):(subS s l h).size ≤ s.size:=by
 rw [← bs_len,← bs_len,bs_sub,List.length_drop,List.length_take]; omega
theorem fget_ex (n:Nat) (hn:140737488355337 < n) (w:ByteArray) (hw:w.size ≤ 140737488355328):∃ q k e,frame_Get n w 0=some (q,k,e)∧(e=801→w.size ≤ 64):=by
 rw [frame_Get_S]
 have d1:decide ((0:Int) < 0)=false:=rfl
 have d2:decide ((0:Int) > (w.size:Int))=false:=by rw [decide_eq_false_iff_not]; omega
 have c1:(0:Int) ≤ 0∧(0:Int) ≤ (w.size:Int)∧(w.size:Int) ≤ (w.size:Int):=by omega
 simp only [d1,d2,cond_false,if_pos c1,show Int.toNat 0=0 from rfl,Int.toNat_natCast,sub_all,show Int.toNat 1=1 from rfl,show Int.toNat 2=2 from rfl]
 by_cases h0:w.size=0
 ·have e0:decide ((w.size:Int) > 0)=false:=by rw [decide_eq_false_iff_not]; omega
  have e1:decide ((w.size:Int) > 1)=false:=by rw [decide_eq_false_iff_not]; omega
  have e2:decide ((w.size:Int) < 2)=true:=by rw [decide_eq_true_eq]; omega
  simp only [e0,e1,e2,cond_false,cond_true]
  exact ⟨_,_,_,rfl,fun _=>by omega⟩
 ·have e0:decide ((w.size:Int) > 0)=true:=by rw [decide_eq_true_eq]; omega
  have c0:(0:Int) ≤ 0∧(0:Int) < (w.size:Int):=by omega
  simp only [e0,cond_true,if_pos c0]
  cases hb0:(((w.data.getD 0 (0:UInt8)).toNat:Int) != 181) with
  | true =>
   simp only [cond_true]
   exact ⟨_,_,_,rfl,fun h=>by cases h⟩
  | false =>
   simp only [cond_false]
   by_cases h1:w.size=1
   ·have e1:decide ((w.size:Int) > 1)=false:=by rw [decide_eq_false_iff_not]; omega
    have e2:decide ((w.size:Int) < 2)=true:=by rw [decide_eq_true_eq]; omega
    simp only [e1,e2,cond_false,cond_true]
    exact ⟨_,_,_,rfl,fun _=>by omega⟩
   ·have e1:decide ((w.size:Int) > 1)=true:=by rw [decide_eq_true_eq]; omega
    have e2:decide ((w.size:Int) < 2)=false:=by rw [decide_eq_false_iff_not]; omega
    have c3:(0:Int) ≤ 1∧(1:Int) < (w.size:Int):=by omega
    simp only [e1,e2,cond_true,cond_false,if_pos c3]
    have hb:=(w.data.getD 1 (0:UInt8)).toNat_lt
    generalize (w.data.getD 1 (0:UInt8)).toNat=b at *
    by_cases hb1:b < 1
    ·have e3:decide ((b:Int) < 1)=true:=by rw [decide_eq_true_eq]; omega
     simp only [e3,cond_true]
     exact ⟨_,_,_,rfl,fun h=>by cases h⟩
    ·have e3:decide ((b:Int) < 1)=false:=by rw [decide_eq_false_iff_not]; omega
     by_cases hb2:b > 60
     ·have e4:decide ((b:Int) > 60)=true:=by rw [decide_eq_true_eq]; omega
      simp only [e3,e4,cond_true,cond_false]
      exact ⟨_,_,_,rfl,fun h=>by cases h⟩
     ·have e4:decide ((b:Int) > 60)=false:=by rw [decide_eq_false_iff_not]; omega
      have w1:i64.wrap (b:Int)=(b:Int):=wrapOK (by omega) (by omega)
      have w2:i64.wrap (2 + (b:Int))=((b + 2:Nat):Int):=by rw [wrapOK (by omega) (by omega)]; omega
      have w3:i64.wrap (((b + 2:Nat):Int) + 2)=((b + 4:Nat):Int):=by rw [wrapOK (by omega) (by omega)]; omega
      simp only [e3,e4,cond_false,w1,w2,w3]
      by_cases hc:w.size < b + 4
      ·have e5:decide ((w.size:Int) < ((b + 4:Nat):Int))=true:=by rw [decide_eq_true_eq]; omega
       simp only [e5,cond_true]
       exact ⟨_,_,_,rfl,fun _=>by omega⟩
      ·have e5:decide ((w.size:Int) < ((b + 4:Nat):Int))=false:=by rw [decide_eq_false_iff_not]; omega
       have c4:(0:Int) ≤ 1∧(1:Int) ≤ ((b + 2:Nat):Int)∧((b + 2:Nat):Int) ≤ (w.size:Int):=by omega
       have c5:(0:Int) ≤ ((b + 2:Nat):Int)∧((b + 2:Nat):Int) ≤ ((b + 4:Nat):Int)∧((b + 4:Nat):Int) ≤ (w.size:Int):=by omega
       have c6:(0:Int) ≤ 2∧(2:Int) ≤ ((b + 2:Nat):Int)∧((b + 2:Nat):Int) ≤ (w.size:Int):=by omega
       obtain ⟨x,hx⟩:=sum_ex n hn (subS w 1 (b + 2)) (Nat.le_trans (sub_size _ _ _) hw)
       obtain ⟨r,hr,_⟩:=two_ex n x
       simp only [e5,cond_false,if_pos c4,if_pos c5,if_pos c6,Int.toNat_natCast,hx,hr,Option.bind_some]
       cases eqS r (subS w (b + 2) (b + 4)) with
       | true=>exact ⟨_,_,_,rfl,fun h=>by cases h⟩
       | false=>exact ⟨_,_,_,rfl,fun h=>by cases h⟩
theorem load_ex (n:Nat) (hn:140737488355337 < n) (w:ByteArray) (hw:w.size ≤ 140737488355328) (b:Int):∃ e,scan_Load n w b=some ((),e)∧(e=0→w.size ≤ 64∧0 ≤ b∧b ≤ 1073741823):=by
 obtain ⟨q,k,e,h1,h2⟩:=fget_ex n hn w hw
 rw [scan_Load_S]
 simp only [h1,Option.bind_some]
 by_cases hb:b < 0
 ·have d:decide (b < 0)=true:=by simpa using hb
  rw [d]; exact ⟨1100,rfl,fun h=>by cases h⟩
 ·have d:decide (b < 0)=false:=by simpa using hb
  by_cases hb2:b > 1073741823
  ·have d2:decide (b > 1073741823)=true:=by simpa using hb2
   rw [d,d2]; exact ⟨1100,rfl,fun h=>by cases h⟩
  ·have d2:decide (b > 1073741823)=false:=by simpa using hb2
   rw [d,d2]
   simp only [cond_false]
   cases hz:eqS w (ByteArray.mk #[]) with
   | true =>
    refine ⟨0,rfl,fun _=>⟨?_,by omega,by omega⟩⟩
    rw [eqS_bs,decide_eq_true_eq,bs_nil] at hz
    rw [← bs_len,hz]; simp
   | false =>
    simp only [Bool.not_false,cond_true]
    cases he:(e != 801) with
    | true=>exact ⟨1100,rfl,fun h=>by cases h⟩
    | false =>
     rw [bne_eq_false_iff_eq] at he
     exact ⟨0,rfl,fun _=>⟨h2 he,by omega,by omega⟩⟩
theorem index_l0 (n:Nat) (xs:List Int) (x:Int) (h9:xs.length ≤ 4611686018427387000):∀ (k m i:Nat),i + k=xs.length→k < m→∃ r,slices_Index_int_int_l0 n xs x m (i:Int)=some r:=by
 intro k
 induction k with
 | zero =>
  intro m i hi hm
  obtain ⟨m,rfl,hm⟩:=sucM hm
  rw [slices_Index_int_int_l0_S]
  have hd:decide ((i:Int) < (xs.length:Int))=false:=by rw [decide_eq_false_iff_not]; omega
  exact ⟨-1,by simp only [hd,cond_false]⟩
 | succ k ih =>
  intro m i hi hm
  obtain ⟨m,rfl,hm⟩:=sucM hm
  rw [slices_Index_int_int_l0_S]
  have hd:decide ((i:Int) < (xs.length:Int))=true:=by rw [decide_eq_true_eq]; omega
  have c1:(0:Int) ≤ (i:Int)∧(i:Int) < (xs.length:Int):=by omega
  simp only [hd,cond_true,if_pos c1]
  cases (x == xs.getD (i:Int).toNat 0) with
  | true=>exact ⟨_,rfl⟩
  | false =>
   simp only [cond_false]
   rw [wrapS (i:=i) (by omega)]
   exact ih m (i + 1) (by omega) (by omega)
theorem contains_ex (n:Nat) (xs:List Int) (x:Int) (h9:xs.length ≤ 4611686018427387000) (hn:xs.length < n):∃ b,slices_Contains_int_int n xs x=some b:=by
 rw [slices_Contains_int_int_S,slices_Index_int_int_S]
 obtain ⟨r,hr⟩:=index_l0 n xs x h9 xs.length n 0 (by omega) (by omega)
 have hr':slices_Index_int_int_l0 n xs x n 0=some r:=hr
 simp only [hr',Option.bind_some]
 exact ⟨_,rfl⟩
theorem min_l1 (n:Nat) (xs:List Int) (h9:xs.length ≤ 4611686018427387000):∀ (k m i:Nat) (v:Int),i + k=xs.length→k < m→∃ r,slices_Min_int_int_l1 n xs m v (i:Int)=some r:=by
 intro k
 induction k with
 | zero =>
  intro m i v hi hm
  obtain ⟨m,rfl,hm⟩:=sucM hm
  rw [slices_Min_int_int_l1_S]
  have hd:decide ((i:Int) < (xs.length:Int))=false:=by rw [decide_eq_false_iff_not]; omega
  exact ⟨v,by simp only [hd,cond_false]⟩
 | succ k ih =>
  intro m i v hi hm
  obtain ⟨m,rfl,hm⟩:=sucM hm
  rw [slices_Min_int_int_l1_S]
  have hd:decide ((i:Int) < (xs.length:Int))=true:=by rw [decide_eq_true_eq]; omega
  have c1:(0:Int) ≤ (i:Int)∧(i:Int) < (xs.length:Int):=by omega
  simp only [hd,cond_true,if_pos c1]
  rw [wrapS (i:=i) (by omega)]
  exact ih m (i + 1) _ (by omega) (by omega)
theorem min_ex (n:Nat) (xs:List Int) (h9:xs.length ≤ 4611686018427387000) (hn:xs.length < n) (h0:0 < xs.length):∃ r,slices_Min_int_int n xs=some r:=by
 rw [slices_Min_int_int_S]
 have d:decide ((xs.length:Int) < 1)=false:=by rw [decide_eq_false_iff_not]; omega
 have c1:(0:Int) ≤ 0∧(0:Int) < (xs.length:Int):=by omega
 simp only [d,cond_false,slices_Min_int_int_j0_S,if_pos c1]
 exact min_l1 n xs h9 (xs.length - 1) n 1 _ (by omega) (by omega)
theorem equal_l0 (n:Nat) (xs ys:List IT) (hl:xs.length=ys.length) (h9:xs.length ≤ 4611686018427387000):∀ (k m i:Nat),i + k=xs.length→k < m→∃ r,slices_Equal_api_Item_l0 n xs ys m (i:Int)=some r:=by
 intro k
 induction k with
 | zero =>
  intro m i hi hm
  obtain ⟨m,rfl,hm⟩:=sucM hm
  rw [slices_Equal_api_Item_l0_S]
  have hd:decide ((i:Int) < (xs.length:Int))=false:=by rw [decide_eq_false_iff_not]; omega
  exact ⟨true,by simp only [hd,cond_false]⟩
 | succ k ih =>
  intro m i hi hm
  obtain ⟨m,rfl,hm⟩:=sucM hm
  rw [slices_Equal_api_Item_l0_S]
  have hd:decide ((i:Int) < (xs.length:Int))=true:=by rw [decide_eq_true_eq]; omega
  have c1:(0:Int) ≤ (i:Int)∧(i:Int) < (xs.length:Int):=by omega
  have c2:(0:Int) ≤ (i:Int)∧(i:Int) < (ys.length:Int):=by omega
  simp only [hd,cond_true,if_pos c1,if_pos c2]
  refine cond_ex ⟨_,rfl⟩ ?_
  rw [wrapS (i:=i) (by omega)]
  exact ih m (i + 1) (by omega) (by omega)
theorem equal_ex (n:Nat) (xs ys:List IT) (h9:xs.length ≤ 4611686018427387000) (hn:xs.length < n):∃ r,slices_Equal_api_Item n xs ys=some r:=by
 rw [slices_Equal_api_Item_S]
 cases h:((xs.length:Int) != (ys.length:Int)) with
 | true=>exact ⟨_,rfl⟩
 | false =>
  rw [bne_eq_false_iff_eq] at h
  simp only [cond_false]
  exact equal_l0 n xs ys (by omega) h9 xs.length n 0 (by omega) (by omega)
structure Fits (t:ST):Prop where
 marks:t.2.2.1.length ≤ 17592186044416
 ser:t.2.2.2.1.length ≤ 17592186044416
 held:t.2.2.2.2.2.1.length ≤ 4398046511104
 waits:t.2.2.2.2.2.2.1.size ≤ 140737488355328
theorem find_m (n:Nat) (xs:List Int) (h9:xs.length ≤ 4611686018427387000):∀ (k m i:Nat),i + k=xs.length→k < m→∃ r,slices_IndexFunc_int_int_m_l0 n c37.F xs m (i:Int)=some r:=by
 intro k
 induction k with
 | zero =>
  intro m i hi hm
  obtain ⟨m,rfl,hm⟩:=sucM hm
  rw [slices_IndexFunc_int_int_m_l0_S]
  have hd:decide ((i:Int) < (xs.length:Int))=false:=by rw [decide_eq_false_iff_not]; omega
  exact ⟨-1,by simp only [hd,cond_false]⟩
 | succ k ih =>
  intro m i hi hm
  obtain ⟨m,rfl,hm⟩:=sucM hm
  rw [slices_IndexFunc_int_int_m_l0_S]
  have hd:decide ((i:Int) < (xs.length:Int))=true:=by rw [decide_eq_true_eq]; omega
  have c1:(0:Int) ≤ (i:Int)∧(i:Int) < (xs.length:Int):=by omega
  simp only [hd,cond_true,if_pos c1,check_marks_1_S,LeastMay_eq,Option.bind_some]
  refine cond_ex ⟨_,rfl⟩ ?_
  rw [wrapS (i:=i) (by omega)]
  exact ih m (i + 1) (by omega) (by omega)
theorem marks_ex (n:Nat) (hn:9007199254740992 < n) (t:ST) (h:Fits t):∃ b,check_marks n t=some b∧(b=true→(t.2.2.1.length:Int)=t.1.2.2.2.2):=by
 rw [check_marks_S]
 cases hq:((t.2.2.1.length:Int) == t.1.2.2.2.2) with
 | false=>exact ⟨false,rfl,fun h=>by cases h⟩
 | true =>
  have:=h.marks
  obtain ⟨r,hr⟩:=find_m n t.2.2.1 (by omega) t.2.2.1.length n 0 (by omega) (by omega)
  have hr':slices_IndexFunc_int_int_m_l0 n c37.F t.2.2.1 n 0=some r:=hr
  simp only [cond_true,slices_ContainsFunc_int_int_m_S,slices_IndexFunc_int_int_m_S,hr',Option.bind_some]
  exact ⟨_,rfl,fun _=>beq_iff_eq.1 hq⟩
theorem id_ex (n:Nat) (x:Int):∃ b,series_IdMay n x=some b:=by
 unfold series_IdMay
 exact cond_ex ⟨_,rfl⟩ ⟨_,rfl⟩
theorem names_l0 (n:Nat) (hn:9007199254740992 < n) (t:ST) (h:Fits t):∀ (k m i:Nat),i + k=t.2.2.2.1.length→k < m→∃ b,check_names_l0 n c40.F c41.F t m (i:Int)=some b:=by
 have h9:=h.ser
 intro k
 induction k with
 | zero =>
  intro m i hi hm
  obtain ⟨m,rfl,hm⟩:=sucM hm
  rw [check_names_l0_S]
  have hd:decide ((i:Int) < (t.2.2.2.1.length:Int))=false:=by rw [decide_eq_false_iff_not]; omega
  exact ⟨true,by simp only [hd,cond_false]⟩
 | succ k ih =>
  intro m i hi hm
  obtain ⟨m,rfl,hm⟩:=sucM hm
  rw [check_names_l0_S]
  have hd:decide ((i:Int) < (t.2.2.2.1.length:Int))=true:=by rw [decide_eq_true_eq]; omega
  have c1:(0:Int) ≤ (i:Int)∧(i:Int) < (t.2.2.2.1.length:Int):=by omega
  have c2:(0:Int) ≤ 0∧(0:Int) ≤ (i:Int)∧(i:Int) ≤ (t.2.2.2.1.length:Int):=by omega
  obtain ⟨b,hb⟩:=id_ex n (t.2.2.2.1.getD (i:Int).toNat 0)
  obtain ⟨r,hr⟩:=contains_ex n (List.drop (Int.toNat 0) (List.take (i:Int).toNat t.2.2.2.1)) (t.2.2.2.1.getD (i:Int).toNat 0) (by rw [List.length_drop,List.length_take]; omega) (by rw [List.length_drop,List.length_take]; omega)
  simp only [hd,cond_true,if_pos c1,hb,Option.bind_some,if_pos c2,hr]
  refine cond_ex ⟨_,rfl⟩ (cond_ex ⟨_,rfl⟩ ?_)
  rw [wrapS (i:=i) (by omega)]
  exact ih m (i + 1) (by omega) (by omega)
theorem names_ex (n:Nat) (hn:9007199254740992 < n) (t:ST) (h:Fits t):∃ b,check_names n t=some b∧(b=true→(t.2.2.2.1.length:Int) ≤ t.1.2.2.2.1):=by
 rw [check_names_S]
 by_cases hq:(t.2.2.2.1.length:Int) > t.1.2.2.2.1
 ·have d:decide ((t.2.2.2.1.length:Int) > t.1.2.2.2.1)=true:=by simpa using hq
  rw [d]; exact ⟨false,rfl,fun h=>by cases h⟩
 ·have d:decide ((t.2.2.2.1.length:Int) > t.1.2.2.2.1)=false:=by simpa using hq
  rw [d]
  have:=h.ser
  obtain ⟨b,hb⟩:=names_l0 n hn t h t.2.2.2.1.length n 0 (by omega) (by omega)
  exact ⟨b,hb,fun _=>by omega⟩
theorem spec_ex (n:Nat) (hn:9007199254740992 < n) (c:CF) (xs:List IT) (hx:xs.length ≤ 4398046511104) (a:Int):∃ r,spec_Held n c xs a=some r∧r.1.length ≤ xs.length:=by
 cases h:mayS c xs [a] with
 | false=>exact ⟨_,Held_badL n (by omega) c xs hx a h,Nat.zero_le _⟩
 | true =>
  refine ⟨_,Held_eq n hn c xs a h,?_⟩
  show (heldS c xs a).length ≤ _
  rw [(held_perm c xs a).length_eq]
  exact List.length_filter_le _ _
theorem cheld_l0 (n:Nat) (hn:9007199254740992 < n) (t:ST) (h:Fits t) (hm0:0 < t.2.2.1.length):∀ (k m i:Nat),i + k=t.2.2.2.2.2.1.length→k < m→∃ b,check_held_l0 n c42.F c41.F c44.F c43.F c45.F t m (i:Int)=some b:=by
 have h9:=h.held
 have h8:=h.ser
 have h7:=h.marks
 intro k
 induction k with
 | zero =>
  intro m i hi hm
  obtain ⟨m,rfl,hm⟩:=sucM hm
  rw [check_held_l0_S]
  have hd:decide ((i:Int) < (t.2.2.2.2.2.1.length:Int))=false:=by rw [decide_eq_false_iff_not]; omega
  obtain ⟨a,ha⟩:=min_ex n t.2.2.1 (by omega) (by omega) hm0
  obtain ⟨r,hr,hl⟩:=spec_ex n hn t.1 t.2.2.2.2.2.1 h9 a
  obtain ⟨q,hq⟩:=equal_ex n r.1 t.2.2.2.2.2.1 (by omega) (by omega)
  simp only [hd,cond_false,ha,hr,hq,Option.bind_some]
  exact cond_ex ⟨_,rfl⟩ ⟨_,rfl⟩
 | succ k ih =>
  intro m i hi hm
  obtain ⟨m,rfl,hm⟩:=sucM hm
  rw [check_held_l0_S]
  have hd:decide ((i:Int) < (t.2.2.2.2.2.1.length:Int))=true:=by rw [decide_eq_true_eq]; omega
  have c1:(0:Int) ≤ (i:Int)∧(i:Int) < (t.2.2.2.2.2.1.length:Int):=by omega
  obtain ⟨r,hr⟩:=contains_ex n t.2.2.2.1 (t.2.2.2.2.2.1.getD (i:Int).toNat ((0:Int),(0:Int),(0:Int),(0:Int))).1 (by omega) (by omega)
  simp only [hd,cond_true,if_pos c1,ItemMay_eq,Option.bind_some,hr]
  refine cond_ex ⟨_,rfl⟩ (cond_ex ⟨_,rfl⟩ (cond_ex ⟨_,rfl⟩ ?_))
  rw [wrapS (i:=i) (by omega)]
  exact ih m (i + 1) (by omega) (by omega)
theorem held_ex (n:Nat) (hn:9007199254740992 < n) (t:ST) (h:Fits t) (hm0:0 < t.2.2.1.length):∃ b,check_held n t=some b∧(b=true→(t.2.2.2.2.2.1.length:Int) ≤ t.1.2.2.1):=by
 rw [check_held_S]
 by_cases hq:(t.2.2.2.2.2.1.length:Int) > t.1.2.2.1
 ·have d:decide ((t.2.2.2.2.2.1.length:Int) > t.1.2.2.1)=true:=by simpa using hq
  rw [d]; exact ⟨false,rfl,fun h=>by cases h⟩
 ·have d:decide ((t.2.2.2.2.2.1.length:Int) > t.1.2.2.1)=false:=by simpa using hq
  rw [d]
  have:=h.held
  obtain ⟨b,hb⟩:=cheld_l0 n hn t h hm0 t.2.2.2.2.2.1.length n 0 (by omega) (by omega)
  exact ⟨b,hb,fun _=>by omega⟩
structure MayF (t:ST):Prop where
 cfg:cfgMay t.1=true
 eng:t.2.1=0 ∨ t.2.1=1
 seq:0 ≤ t.2.2.2.2.1∧t.2.2.2.2.1 ≤ 1073741823
 marks:(t.2.2.1.length:Int)=t.1.2.2.2.2
 ser:(t.2.2.2.1.length:Int) ≤ t.1.2.2.2.1
 held:(t.2.2.2.2.2.1.length:Int) ≤ t.1.2.2.1
 waits:t.2.2.2.2.2.2.1.size ≤ 64
 bad:0 ≤ t.2.2.2.2.2.2.2∧t.2.2.2.2.2.2.2 ≤ 1073741823
theorem cfgMay_nums {c:CF} (h:cfgMay c=true):(1 ≤ c.1.length∧c.1.length ≤ 8)∧(∀ q ∈ c.1,qMay q=true)∧(0 ≤ c.2.1∧c.2.1 ≤ 1073741824)∧(1 ≤ c.2.2.1∧c.2.2.1 ≤ 4096)∧(1 ≤ c.2.2.2.1∧c.2.2.2.1 ≤ 64)∧(1 ≤ c.2.2.2.2∧c.2.2.2.2 ≤ 8):=by
 simpa only [cfgMay,inR,Bool.and_eq_true,decide_eq_true_eq,List.all_eq_true] using h
theorem may_ex (n:Nat) (hn:9007199254740992 < n) (t:ST) (h:Fits t):∃ b,check_May n t=some b∧(b=true→MayF t):=by
 rw [check_May_S,aMay_eq n (by omega)]
 simp only [Option.bind_some]
 cases hc:cfgMay t.1 with
 | false=>exact ⟨false,rfl,fun h=>by cases h⟩
 | true =>
  simp only [Bool.not_true,cond_false]
  have hcn:=cfgMay_nums hc
  obtain ⟨e,he,hef⟩:=load_ex n (by omega) t.2.2.2.2.2.2.1 h.waits t.2.2.2.2.2.2.2
  obtain ⟨bm,hbm,hbm2⟩:=marks_ex n hn t h
  obtain ⟨bn,hbn,hbn2⟩:=names_ex n hn t h
  simp only [he,hbm,hbn,Option.bind_some]
  have tail:∀ (hg:t.2.1=0 ∨ t.2.1=1) (d1:¬ t.2.2.2.2.1 < 0) (d2:¬ t.2.2.2.2.1 > 1073741823),∃ b,(bif e == 0 then bif bm then bif bn then Option.bind (check_held n t) fun r4=>some r4 else some false else some false else some false)=some b∧(b=true→MayF t):=by
   intro hg d1 d2
   cases hz:(e == 0) with
   | false=>exact ⟨false,rfl,fun h=>by cases h⟩
   | true =>
    cases bm with
    | false=>exact ⟨false,rfl,fun h=>by cases h⟩
    | true =>
     cases bn with
     | false=>exact ⟨false,rfl,fun h=>by cases h⟩
     | true =>
      have hm:=hbm2 rfl
      obtain ⟨bh,hbh,hbh2⟩:=held_ex n hn t h (by omega)
      simp only [cond_true,hbh,Option.bind_some]
      obtain ⟨w1,w2⟩:=hef (beq_iff_eq.1 hz)
      exact ⟨bh,rfl,fun hb=>⟨hc,hg,by omega,hm,hbn2 rfl,hbh2 hb,w1,w2⟩⟩
  have mid:∀ (hg:t.2.1=0 ∨ t.2.1=1),∃ b,(bif decide (t.2.2.2.2.1 < 0) then some false else bif decide (t.2.2.2.2.1 > 1073741823) then some false else bif e == 0 then bif bm then bif bn then Option.bind (check_held n t) fun r4=>some r4 else some false else some false else some false)=some b∧(b=true→MayF t):=by
   intro hg
   cases d1:decide (t.2.2.2.2.1 < 0) with
   | true=>exact ⟨false,rfl,fun h=>by cases h⟩
   | false =>
    cases d2:decide (t.2.2.2.2.1 > 1073741823) with
    | true=>exact ⟨false,rfl,fun h=>by cases h⟩
    | false=>exact tail hg (by simpa using d1) (by simpa using d2)
  cases h0:(t.2.1 != 0) with
  | true =>
   simp only [cond_true]
   cases h1:(t.2.1 != 1) with
   | true=>exact ⟨false,rfl,fun h=>by cases h⟩
   | false=>exact mid (.inr (by rw [bne_eq_false_iff_eq] at h1; exact h1))
  | false=>exact mid (.inl (by rw [bne_eq_false_iff_eq] at h0; exact h0))
structure WF (t:ST):Prop where
 qs:∀ q ∈ t.1.1,fourV (q.1,q.2.1,q.2.2.1,q.2.2.2.1)∧(∀ x ∈ q.2.2.2.2.1,wf64 x)∧wf64 q.2.2.2.2.2
 cfg:fourV t.1.2
 eng:wf64 t.2.1
 marks:∀ x ∈ t.2.2.1,wf64 x
 ser:∀ x ∈ t.2.2.2.1,wf64 x
 seq:wf64 t.2.2.2.2.1
 held:∀ x ∈ t.2.2.2.2.2.1,fourV x
 bad:wf64 t.2.2.2.2.2.2.2
theorem bnds_len {q:QY} (h:qMay q=true):q.2.2.2.2.1.length ≤ 8:=by
 have:=qMay_bnd h
 simp only [boundsMay,Bool.and_eq_true,decide_eq_true_eq] at this
 exact this.1
theorem stateV_of {t:ST} (hw:WF t) (hm:MayF t) {m:Nat} (h:t.2.2.2.2.2.2.1.size ≤ m):stateV m t:=by
 have hc:=cfgMay_nums hm.cfg
 have h1:=hm.marks
 have h2:=hm.ser
 have h3:=hm.held
 refine ⟨⟨⟨by omega,fun q hq=>⟨(hw.qs q hq).1,⟨by have:=bnds_len (hc.2.1 q hq); omega,(hw.qs q hq).2.1⟩,(hw.qs q hq).2.2⟩⟩,hw.cfg⟩,hw.eng,⟨?_,hw.marks⟩,⟨by omega,hw.ser⟩,hw.seq,⟨by omega,hw.held⟩,hw.bad,h⟩
 unfold nMarks
 split <;> omega
theorem allL_four (a b c d:Int):allL [a,b,c,d]=fourL (a,b,c,d):=by simp [allL,fourL]
theorem ofN_size {l:List Nat}:(ofN l).size=l.length:=by
 rw [← bs_len]; unfold ofN; rw [bs_ofB]; simp
theorem row_ex (n:Nat) (hn:9007199254740992 < n) (xs:List Int) (hx:∀ x ∈ xs,wf64 x) (h9:xs.length ≤ 4096):∃ r,check_row n xs=some r∧bs r=numsL xs:=by
 have hw:wf64 (xs.length:Int):=⟨by omega,by omega⟩
 have hl:=allL_len hx
 have hp:=putB_size hw
 rw [check_row_S,put_eq n (by omega) _ hw,all_eq n (by omega) xs hx (by omega) (by omega)]
 have d:decide ((putB (xs.length:Int)).size + (ofN (allL xs)).size ≤ 9223372036854775807)=true:=by rw [decide_eq_true_eq,ofN_size]; omega
 simp only [Option.bind_some,d,cond_true]
 exact ⟨_,rfl,by rw [bs_cat,bs_put,bs_all]; rfl⟩
theorem numsL_len {xs:List Int} (hx:∀ x ∈ xs,wf64 x) (h9:xs.length ≤ 4096):(numsL xs).length ≤ 10 + xs.length * 10:=by
 have hw:wf64 (xs.length:Int):=⟨by omega,by omega⟩
 have hl:=allL_len hx
 have hp:=(putL_len hw).1
 unfold numsL
 rw [List.length_append]
 omega
theorem put_l1 (n:Nat) (hn:9007199254740992 < n) (t:ST) (hw:WF t) (hm:MayF t) (v0 r5 r6 r7 r8:ByteArray) (hsz:v0.size ≤ 1000000∧r5.size ≤ 1000000∧r6.size ≤ 1000000∧r7.size ≤ 1000000∧r8.size ≤ 1000000):∀ (k m i:Nat) (acc:List Int),i + k=t.2.2.2.2.2.1.length→k < m→acc=(((t.2.2.2.2.2.1.take i).flatMap fourL).map fun b:Nat=>(b:Int)) →
  ∃ body x two,frame_Sum n body=some x∧frame_Two n x=some two∧two.size=2∧bs body=bs v0 ++ (((bs r5 ++ bs r6) ++ bs r7) ++ bs r8) ++ ((t.2.2.2.2.2.1.flatMap fourL ++ allL [t.2.2.2.2.2.2.2,(t.2.2.2.2.2.2.1.size:Int)]) ++ bs t.2.2.2.2.2.2.1) ∧
   check_Put_l1 n c10.F c15.F c16.F c17.F c19.F c18.F t v0 r5 r6 r7 r8 m (i:Int) acc=some (catS body two,0):=by
 have hc:=cfgMay_nums hm.cfg
 have h3:=hm.held
 have h4:=hm.waits
 have fl:∀ x ∈ t.2.2.2.2.2.1,(fourL x).length ≤ 40:=by
  intro x hx
  obtain ⟨a,b,c,d⟩:=hw.held x hx
  have:=(putL_len a).1; have:=(putL_len b).1; have:=(putL_len c).1; have:=(putL_len d).1
  unfold fourL
  simp only [List.length_append]; omega
 have fll:∀ l:List IT,(∀ x ∈ l,(fourL x).length ≤ 40)→(l.flatMap fourL).length ≤ l.length * 40:=by
  intro l
  induction l with
  | nil=>intro _; simp
  | cons x l ih =>
   intro h
   have:=ih fun y hy=>h y (List.mem_cons_of_mem _ hy)
   have:=h x List.mem_cons_self
   rw [List.flatMap_cons,List.length_append,List.length_cons]; omega
 intro k
 induction k with
 | zero =>
  intro m i acc hi hmm hacc
  obtain ⟨m,rfl,hmm⟩:=sucM hmm
  rw [check_Put_l1_S]
  have hd:decide ((i:Int) < (t.2.2.2.2.2.1.length:Int))=false:=by rw [decide_eq_false_iff_not]; omega
  have e1:i=t.2.2.2.2.2.1.length:=by omega
  rw [e1,List.take_length] at hacc
  have e2:(((List.replicate (2:Nat) (0:Int)).set (0:Nat) t.2.2.2.2.2.2.2).set (1:Nat) (t.2.2.2.2.2.2.1.size:Int))=[t.2.2.2.2.2.2.2,(t.2.2.2.2.2.2.1.size:Int)]:=rfl
  have hwz:wf64 (t.2.2.2.2.2.2.1.size:Int):=⟨by omega,by omega⟩
  have hwx:∀ x ∈ [t.2.2.2.2.2.2.2,(t.2.2.2.2.2.2.1.size:Int)],wf64 x:=by
   intro x hx
   simp only [List.mem_cons,List.not_mem_nil,or_false] at hx
   rcases hx with rfl | rfl
   ·exact hw.bad
   ·exact hwz
  have hal:=allL_len hwx
  have hsm:∀ b ∈ t.2.2.2.2.2.1.flatMap fourL,b < 256:=by
   intro b hb
   obtain ⟨x,_,h⟩:=List.mem_flatMap.1 hb
   unfold fourL at h
   simp only [List.mem_append] at h
   rcases h with h | h | h | h <;> exact enc_small _ _ b h
  have hbo:bs (ofB acc)=t.2.2.2.2.2.1.flatMap fourL:=by rw [hacc]; exact bs_ofN hsm
  have hso:(ofB acc).size ≤ 4096 * 40:=by
   have:=fll _ fl
   rw [← bs_len,hbo]; omega
  rw [List.length_cons,List.length_cons,List.length_nil] at hal
  have s1:(ofN (allL [t.2.2.2.2.2.2.2,(t.2.2.2.2.2.2.1.size:Int)])).size ≤ 20:=by rw [ofN_size]; omega
  have cs:∀ a b:ByteArray,(catS a b).size=a.size + b.size:=fun a b=>by rw [← bs_len,bs_cat,List.length_append,bs_len,bs_len]
  have all2:=all_eq n (by omega) _ hwx (by simp) (by simp; omega)
  have d1:decide ((ofB acc).size + (ofN (allL [t.2.2.2.2.2.2.2,(t.2.2.2.2.2.2.1.size:Int)])).size ≤ 9223372036854775807)=true:=by rw [decide_eq_true_eq]; omega
  have d2:decide ((catS (ofB acc) (ofN (allL [t.2.2.2.2.2.2.2,(t.2.2.2.2.2.2.1.size:Int)]))).size + t.2.2.2.2.2.2.1.size ≤ 9223372036854775807)=true:=by rw [decide_eq_true_eq,cs]; omega
  have hbz:(catS (catS v0 (catS (catS (catS r5 r6) r7) r8)) (catS (catS (ofB acc) (ofN (allL [t.2.2.2.2.2.2.2,(t.2.2.2.2.2.2.1.size:Int)]))) t.2.2.2.2.2.2.1)).size ≤ 10000000:=by
   simp only [cs]; omega
  have d3:decide ((catS v0 (catS (catS (catS r5 r6) r7) r8)).size + (catS (catS (ofB acc) (ofN (allL [t.2.2.2.2.2.2.2,(t.2.2.2.2.2.2.1.size:Int)]))) t.2.2.2.2.2.2.1).size ≤ 9223372036854775807)=true:=by
   rw [decide_eq_true_eq,← cs]; omega
  obtain ⟨x,hx⟩:=sum_ex n (by omega) _ (Nat.le_trans hbz (by omega))
  obtain ⟨two,ht,ht2⟩:=two_ex n x
  have d4:decide ((catS (catS v0 (catS (catS (catS r5 r6) r7) r8)) (catS (catS (ofB acc) (ofN (allL [t.2.2.2.2.2.2.2,(t.2.2.2.2.2.2.1.size:Int)]))) t.2.2.2.2.2.2.1)).size + two.size ≤ 9223372036854775807)=true:=by
   rw [decide_eq_true_eq,ht2]; omega
  refine ⟨_,x,two,hx,ht,ht2,?_,?_⟩
  ·simp only [bs_cat,hbo,bs_all]
  ·simp only [hd,cond_false,e2,all2,Option.bind_some,d1,d2,d3,cond_true,hx,ht,d4]
 | succ k ih =>
  intro m i acc hi hmm hacc
  obtain ⟨m,rfl,hmm⟩:=sucM hmm
  have hlt:i < t.2.2.2.2.2.1.length:=by omega
  rw [check_Put_l1_S]
  have hd:decide ((i:Int) < (t.2.2.2.2.2.1.length:Int))=true:=by rw [decide_eq_true_eq]; omega
  have c1:(0:Int) ≤ (i:Int)∧(i:Int) < (t.2.2.2.2.2.1.length:Int):=by omega
  have e4:t.2.2.2.2.2.1.getD i ((0:Int),(0:Int),(0:Int),(0:Int))=t.2.2.2.2.2.1[i]:=getLt hlt _
  have e5:∀ a b c d:Int,((((List.replicate (4:Nat) (0:Int)).set (0:Nat) a).set (1:Nat) b).set (2:Nat) c).set (3:Nat) d=[a,b,c,d]:=fun a b c d=>rfl
  obtain ⟨w1,w2,w3,w4⟩:=hw.held _ (List.getElem_mem hlt)
  have hwx:∀ x ∈ [t.2.2.2.2.2.1[i].1,t.2.2.2.2.2.1[i].2.1,t.2.2.2.2.2.1[i].2.2.1,t.2.2.2.2.2.1[i].2.2.2],wf64 x:=by
   intro x hx
   simp only [List.mem_cons,List.not_mem_nil,or_false] at hx
   rcases hx with rfl | rfl | rfl | rfl <;> assumption
  have all4:=all_eq n (by omega) _ hwx (by simp) (by simp; omega)
  have hal:=allL_len hwx
  simp only [List.length_cons,List.length_nil] at hal
  have hacl:acc.length ≤ 4096 * 40:=by
   have h1:=fll (t.2.2.2.2.2.1.take i) fun x hx=>fl x (List.mem_of_mem_take hx)
   rw [List.length_take] at h1
   rw [hacc,List.length_map]; omega
  have c2:acc.length + (ofN (allL [t.2.2.2.2.2.1[i].1,t.2.2.2.2.2.1[i].2.1,t.2.2.2.2.2.1[i].2.2.1,t.2.2.2.2.2.1[i].2.2.2])).size ≤ 140737488355328:=by rw [ofN_size]; omega
  have htb:toB (ofN (allL [t.2.2.2.2.2.1[i].1,t.2.2.2.2.2.1[i].2.1,t.2.2.2.2.2.1[i].2.2.1,t.2.2.2.2.2.1[i].2.2.2]))=(fourL t.2.2.2.2.2.1[i]).map fun b:Nat=>(b:Int):=by
   have:∀ s:ByteArray,toB s=(bs s).map fun b:Nat=>(b:Int):=fun s=>by unfold toB bs; rw [List.map_map]; rfl
   rw [this,bs_all,allL_four]
  have hacc':acc ++ toB (ofN (allL [t.2.2.2.2.2.1[i].1,t.2.2.2.2.2.1[i].2.1,t.2.2.2.2.2.1[i].2.2.1,t.2.2.2.2.2.1[i].2.2.2]))=(((t.2.2.2.2.2.1.take (i + 1)).flatMap fourL).map fun b:Nat=>(b:Int)):=by
   rw [htb,hacc,List.take_succ_eq_append_getElem hlt,List.flatMap_append,List.flatMap_singleton,List.map_append]
  obtain ⟨body,x,two,q1,q2,q3,q4,q5⟩:=ih m (i + 1) _ (by omega) (by omega) hacc'
  refine ⟨body,x,two,q1,q2,q3,q4,?_⟩
  simp only [hd,cond_true,if_pos c1,Int.toNat_natCast,e4,e5,all4,Option.bind_some,if_pos c2]
  rw [wrapS (i:=i) (by omega)]
  exact q5
theorem catS_size (a b:ByteArray):(catS a b).size=a.size + b.size:=by rw [← bs_len,bs_cat,List.length_append,bs_len,bs_len]
theorem queryL_eq (q:QY):queryL q=(allL [q.1,q.2.1,q.2.2.1,q.2.2.2.1] ++ numsL q.2.2.2.2.1) ++ putL q.2.2.2.2.2:=by
 rw [allL_four]; unfold queryL; rw [List.append_assoc]
theorem queryL_len {q:QY} (h1:fourV (q.1,q.2.1,q.2.2.1,q.2.2.2.1)) (h2:∀ x ∈ q.2.2.2.2.1,wf64 x) (h3:wf64 q.2.2.2.2.2) (h4:q.2.2.2.2.1.length ≤ 8):(queryL q).length ≤ 200:=by
 obtain ⟨a,b,c,d⟩:=h1
 have p1:(putL q.1).length ≤ 10:=(putL_len a).1
 have p2:(putL q.2.1).length ≤ 10:=(putL_len b).1
 have p3:(putL q.2.2.1).length ≤ 10:=(putL_len c).1
 have p4:(putL q.2.2.2.1).length ≤ 10:=(putL_len d).1
 have:=(putL_len h3).1
 have:=numsL_len h2 (by omega)
 unfold queryL fourL
 simp only [List.length_append]
 omega
theorem cput_l0 (n:Nat) (hn:9007199254740992 < n) (t:ST) (hw:WF t) (hm:MayF t):∀ (k m i:Nat) (acc:ByteArray),i + k=t.1.1.length→k < m→bs acc=putL (t.1.1.length:Int) ++ (t.1.1.take i).flatMap queryL →
  ∃ body x two,frame_Sum n body=some x∧frame_Two n x=some two∧two.size=2∧bs body=stateL t∧check_Put_l0 n c10.F c15.F c16.F c17.F c19.F c18.F t m acc (i:Int)=some (catS body two,0):=by
 have hc:=cfgMay_nums hm.cfg
 have h1:=hm.marks
 have h2:=hm.ser
 have h3:=hm.held
 have h4:=hm.waits
 have hwl:wf64 (t.1.1.length:Int):=⟨by omega,by omega⟩
 have ql:∀ q ∈ t.1.1,(queryL q).length ≤ 200:=fun q hq=>queryL_len (hw.qs q hq).1 (hw.qs q hq).2.1 (hw.qs q hq).2.2 (bnds_len (hc.2.1 q hq))
 have qll:∀ l:List QY,(∀ x ∈ l,(queryL x).length ≤ 200)→(l.flatMap queryL).length ≤ l.length * 200:=by
  intro l
  induction l with
  | nil=>intro _; simp
  | cons x l ih =>
   intro h
   have:=ih fun y hy=>h y (List.mem_cons_of_mem _ hy)
   have:=h x List.mem_cons_self
   rw [List.flatMap_cons,List.length_append,List.length_cons]; omega
 intro k
 induction k with
 | zero =>
  intro m i acc hi hmm hacc
  obtain ⟨m,rfl,hmm⟩:=sucM hmm
  rw [check_Put_l0_S]
  have hd:decide ((i:Int) < (t.1.1.length:Int))=false:=by rw [decide_eq_false_iff_not]; omega
  have e1:i=t.1.1.length:=by omega
  rw [e1,List.take_length] at hacc
  have hp:=(putL_len hwl).1
  have hql:=qll _ ql
  have hsz:acc.size ≤ 100000:=by rw [← bs_len,hacc,List.length_append]; omega
  obtain ⟨f1,f2,f3,f4⟩:=hw.cfg
  have e5:(((((List.replicate (5:Nat) (0:Int)).set (0:Nat) t.1.2.1).set (1:Nat) t.1.2.2.1).set (2:Nat) t.1.2.2.2.1).set (3:Nat) t.1.2.2.2.2).set (4:Nat) t.2.1=[t.1.2.1,t.1.2.2.1,t.1.2.2.2.1,t.1.2.2.2.2,t.2.1]:=rfl
  have e6:((List.replicate (2:Nat) (0:Int)).set (0:Nat) t.2.2.2.2.1).set (1:Nat) (t.2.2.2.2.2.1.length:Int)=[t.2.2.2.2.1,(t.2.2.2.2.2.1.length:Int)]:=rfl
  have w5:∀ x ∈ [t.1.2.1,t.1.2.2.1,t.1.2.2.2.1,t.1.2.2.2.2,t.2.1],wf64 x:=by
   intro x hx
   simp only [List.mem_cons,List.not_mem_nil,or_false] at hx
   have:=hw.eng
   rcases hx with rfl | rfl | rfl | rfl | rfl <;> assumption
  have hwh:wf64 (t.2.2.2.2.2.1.length:Int):=⟨by omega,by omega⟩
  have w6:∀ x ∈ [t.2.2.2.2.1,(t.2.2.2.2.2.1.length:Int)],wf64 x:=by
   intro x hx
   simp only [List.mem_cons,List.not_mem_nil,or_false] at hx
   have:=hw.seq
   rcases hx with rfl | rfl <;> assumption
  have a5:=all_eq n (by omega) _ w5 (by simp) (by simp; omega)
  have a6:=all_eq n (by omega) _ w6 (by simp) (by simp; omega)
  have am:=all_eq n (by omega) t.2.2.1 hw.marks (by omega) (by omega)
  obtain ⟨rs,hrs,hrb⟩:=row_ex n hn t.2.2.2.1 hw.ser (by omega)
  have l5:=allL_len w5
  have l6:=allL_len w6
  have lm:=allL_len hw.marks
  have lr:=numsL_len hw.ser (by omega)
  simp only [List.length_cons,List.length_nil] at l5 l6
  have z5:(ofN (allL [t.1.2.1,t.1.2.2.1,t.1.2.2.2.1,t.1.2.2.2.2,t.2.1])).size ≤ 50:=by rw [ofN_size]; omega
  have z6:(ofN (allL [t.2.2.2.2.1,(t.2.2.2.2.2.1.length:Int)])).size ≤ 20:=by rw [ofN_size]; omega
  have zm:(ofN (allL t.2.2.1)).size ≤ 80:=by rw [ofN_size]; omega
  have zr:rs.size ≤ 650:=by rw [← bs_len,hrb]; omega
  have d1:decide ((ofN (allL [t.1.2.1,t.1.2.2.1,t.1.2.2.2.1,t.1.2.2.2.2,t.2.1])).size + (ofN (allL t.2.2.1)).size ≤ 9223372036854775807)=true:=by rw [decide_eq_true_eq]; omega
  have d2:decide ((catS (ofN (allL [t.1.2.1,t.1.2.2.1,t.1.2.2.2.1,t.1.2.2.2.2,t.2.1])) (ofN (allL t.2.2.1))).size + rs.size ≤ 9223372036854775807)=true:=by rw [decide_eq_true_eq,catS_size]; omega
  have d3:decide ((catS (catS (ofN (allL [t.1.2.1,t.1.2.2.1,t.1.2.2.2.1,t.1.2.2.2.2,t.2.1])) (ofN (allL t.2.2.1))) rs).size + (ofN (allL [t.2.2.2.2.1,(t.2.2.2.2.2.1.length:Int)])).size ≤ 9223372036854775807)=true:=by rw [decide_eq_true_eq,catS_size,catS_size]; omega
  have d4:decide (acc.size + (catS (catS (catS (ofN (allL [t.1.2.1,t.1.2.2.1,t.1.2.2.2.1,t.1.2.2.2.2,t.2.1])) (ofN (allL t.2.2.1))) rs) (ofN (allL [t.2.2.2.2.1,(t.2.2.2.2.2.1.length:Int)]))).size ≤ 9223372036854775807)=true:=by rw [decide_eq_true_eq,catS_size,catS_size,catS_size]; omega
  obtain ⟨body,x,two,q1,q2,q3,q4,q5⟩:=put_l1 n hn t hw hm acc (ofN (allL [t.1.2.1,t.1.2.2.1,t.1.2.2.2.1,t.1.2.2.2.2,t.2.1])) (ofN (allL t.2.2.1)) rs (ofN (allL [t.2.2.2.2.1,(t.2.2.2.2.2.1.length:Int)])) ⟨by omega,by omega,by omega,by omega,by omega⟩ t.2.2.2.2.2.1.length n 0 [] (by omega) (by omega) rfl
  refine ⟨body,x,two,q1,q2,q3,?_,?_⟩
  ·rw [q4,hacc,bs_all,bs_all,bs_all,hrb]
   unfold stateL configL heldL waitsL fourL
   simp [allL]
  ·simp only [hd,cond_false,e5,e6,a5,a6,am,hrs,Option.bind_some,d1,d2,d3,d4,cond_true]
   exact q5
 | succ k ih =>
  intro m i acc hi hmm hacc
  obtain ⟨m,rfl,hmm⟩:=sucM hmm
  have hlt:i < t.1.1.length:=by omega
  rw [check_Put_l0_S]
  have hd:decide ((i:Int) < (t.1.1.length:Int))=true:=by rw [decide_eq_true_eq]; omega
  have c1:(0:Int) ≤ (i:Int)∧(i:Int) < (t.1.1.length:Int):=by omega
  have e4:t.1.1.getD i ((0:Int),(0:Int),(0:Int),(0:Int),Go.Ev.nl Int,(0:Int))=t.1.1[i]:=getLt hlt _
  have e5:∀ a b c d:Int,((((List.replicate (4:Nat) (0:Int)).set (0:Nat) a).set (1:Nat) b).set (2:Nat) c).set (3:Nat) d=[a,b,c,d]:=fun a b c d=>rfl
  have hmem:=List.getElem_mem hlt
  obtain ⟨⟨w1,w2,w3,w4⟩,wb,wr⟩:=hw.qs _ hmem
  have hbl:=bnds_len (hc.2.1 _ hmem)
  have hqq:=ql _ hmem
  have hwx:∀ x ∈ [t.1.1[i].1,t.1.1[i].2.1,t.1.1[i].2.2.1,t.1.1[i].2.2.2.1],wf64 x:=by
   intro x hx
   simp only [List.mem_cons,List.not_mem_nil,or_false] at hx
   rcases hx with rfl | rfl | rfl | rfl <;> assumption
  have all4:=all_eq n (by omega) _ hwx (by simp) (by simp; omega)
  have hal:=allL_len hwx
  simp only [List.length_cons,List.length_nil] at hal
  obtain ⟨rb,hrb1,hrb2⟩:=row_ex n hn t.1.1[i].2.2.2.2.1 wb (by omega)
  have lr:=numsL_len wb (by omega)
  have zr:rb.size ≤ 100:=by rw [← bs_len,hrb2]; omega
  have pr:=put_eq n (by omega) _ wr
  have zp:=putB_size wr
  have z4:(ofN (allL [t.1.1[i].1,t.1.1[i].2.1,t.1.1[i].2.2.1,t.1.1[i].2.2.2.1])).size ≤ 40:=by rw [ofN_size]; omega
  have hp:=(putL_len hwl).1
  have hql:=qll (t.1.1.take i) fun x hx=>ql x (List.mem_of_mem_take hx)
  rw [List.length_take] at hql
  have hsz:acc.size ≤ 100000:=by rw [← bs_len,hacc,List.length_append]; omega
  have d1:decide ((ofN (allL [t.1.1[i].1,t.1.1[i].2.1,t.1.1[i].2.2.1,t.1.1[i].2.2.2.1])).size + rb.size ≤ 9223372036854775807)=true:=by rw [decide_eq_true_eq]; omega
  have d2:decide ((catS (ofN (allL [t.1.1[i].1,t.1.1[i].2.1,t.1.1[i].2.2.1,t.1.1[i].2.2.2.1])) rb).size + (putB t.1.1[i].2.2.2.2.2).size ≤ 9223372036854775807)=true:=by rw [decide_eq_true_eq,catS_size]; omega
  have d3:decide (acc.size + (catS (catS (ofN (allL [t.1.1[i].1,t.1.1[i].2.1,t.1.1[i].2.2.1,t.1.1[i].2.2.2.1])) rb) (putB t.1.1[i].2.2.2.2.2)).size ≤ 9223372036854775807)=true:=by rw [decide_eq_true_eq,catS_size,catS_size]; omega
  have hb:bs (catS acc (catS (catS (ofN (allL [t.1.1[i].1,t.1.1[i].2.1,t.1.1[i].2.2.1,t.1.1[i].2.2.2.1])) rb) (putB t.1.1[i].2.2.2.2.2)))=putL (t.1.1.length:Int) ++ (t.1.1.take (i + 1)).flatMap queryL:=by
   rw [bs_cat,bs_cat,bs_cat,hacc,bs_all,hrb2,bs_put,← queryL_eq,List.take_succ_eq_append_getElem hlt,List.flatMap_append,List.flatMap_singleton,List.append_assoc]
  obtain ⟨body,x,two,q1,q2,q3,q4,q5⟩:=ih m (i + 1) _ (by omega) (by omega) hb
  refine ⟨body,x,two,q1,q2,q3,q4,?_⟩
  simp only [hd,cond_true,if_pos c1,Int.toNat_natCast,e4,e5,all4,hrb1,pr,Option.bind_some,d1,d2,d3]
  rw [wrapS (i:=i) (by omega)]
  exact q5
theorem put_may (n:Nat) (hn:9007199254740992 < n) (t:ST) (hw:WF t) (hm:MayF t) (h:check_May n t=some true) :
  ∃ body x two,frame_Sum n body=some x∧frame_Two n x=some two∧two.size=2∧bs body=stateL t∧check_Put n t=some (catS body two,0):=by
 have hc:=cfgMay_nums hm.cfg
 have hwl:wf64 (t.1.1.length:Int):=⟨by omega,by omega⟩
 obtain ⟨body,x,two,q1,q2,q3,q4,q5⟩:=cput_l0 n hn t hw hm t.1.1.length n 0 (putB (t.1.1.length:Int)) (by omega) (by omega) (by rw [bs_put]; simp)
 refine ⟨body,x,two,q1,q2,q3,q4,?_⟩
 rw [check_Put_S,h,put_eq n (by omega) _ hwl]
 simp only [Option.bind_some,Bool.not_true,cond_false]
 exact q5
theorem put_not (n:Nat) (t:ST) (h:check_May n t=some false):check_Put n t=some (ByteArray.mk #[],2200):=by
 rw [check_Put_S,h]
 rfl
def ES:ST:=(([],0,0,0,0),0,[],[],0,[],ByteArray.empty,0)
theorem two_size (n:Nat) {x:Int} {two:ByteArray} (h:frame_Two n x=some two):two.size=2:=by
 obtain ⟨r,h1,h2⟩:=two_ex n x
 rw [h] at h1; cases h1; exact h2
theorem get_step (n:Nat) (hn:9007199254740992 < n) (s:ByteArray) (hs:s.size ≤ 140737488355328) (h2:2 ≤ s.size) :
  ∃ x two t q,frame_Sum n (subS s 0 (s.size - 2))=some x∧frame_Two n x=some two∧rState (subS s 0 (s.size - 2)) (0,false)=(t,q) ∧
   check_Get n s=(bif !eqS two (subS s (s.size - 2) s.size) then some (ES,2200) else bif !(!q.2 && ((q.1:Int) == ((subS s 0 (s.size - 2)).size:Int))) then some (ES,2200) else Option.bind (check_May n t) fun b=>bif !b then some (ES,2200) else some (t,0)):=by
 have hbs:(subS s 0 (s.size - 2)).size ≤ s.size:=sub_size _ _ _
 obtain ⟨x,hx⟩:=sum_ex n (by omega) (subS s 0 (s.size - 2)) (by omega)
 obtain ⟨two,ht,_⟩:=two_ex n x
 obtain ⟨z,hz,hz2⟩:=two_ex n 0
 obtain ⟨t,q,e1,e2,e3⟩:=state_ex (n:=n) (by omega) (s:=subS s 0 (s.size - 2)) (by omega) (0,false) (Nat.zero_le _)
 refine ⟨x,two,t,q,hx,ht,e3,?_⟩
 rw [check_Get_S,hz]
 have w:i64.wrap ((s.size:Int) - (z.size:Int))=((s.size - 2:Nat):Int):=by rw [wrapOK (by omega) (by omega)]; omega
 have d:decide (((s.size - 2:Nat):Int) < 0)=false:=by rw [decide_eq_false_iff_not]; omega
 have c1:(0:Int) ≤ 0∧(0:Int) ≤ ((s.size - 2:Nat):Int)∧((s.size - 2:Nat):Int) ≤ (s.size:Int):=by omega
 have c2:(0:Int) ≤ ((s.size - 2:Nat):Int)∧((s.size - 2:Nat):Int) ≤ (s.size:Int)∧(s.size:Int) ≤ (s.size:Int):=by omega
 have e1':check_reader_state n (subS s 0 (s.size - 2),0,false)=some (t,subS s 0 (s.size - 2),((q.1:Nat):Int),q.2):=e1
 simp only [Option.bind_some,w,d,cond_false,if_pos c1,if_pos c2,show Int.toNat 0=0 from rfl,Int.toNat_natCast,hx,ht,e1']
 have hdone:varint_Reader_Done n (subS s 0 (s.size - 2),((q.1:Nat):Int),q.2)=some ((!q.2 && ((q.1:Int) == ((subS s 0 (s.size - 2)).size:Int))),subS s 0 (s.size - 2),((q.1:Nat):Int),q.2):=by
  unfold varint_Reader_Done
  cases q.2 <;> rfl
 simp only [hdone,Option.bind_some]
 rfl
theorem get_back (n:Nat) (hn:9007199254740992 < n) (t:ST) (body two:ByteArray) (x:Int) (hb:body.size ≤ 140737488355000) (h1:frame_Sum n body=some x) (h2:frame_Two n x=some two) (h3:bs body=stateL t) (hv:stateV body.size t) (hm:check_May n t=some true) :
  check_Get n (catS body two)=some (t,0):=by
 have hsz:=two_size n h2
 have hcs:=catS_size body two
 have hbody:subS (catS body two) 0 ((catS body two).size - 2)=body:=by
  apply bs_inj
  rw [bs_sub,bs_cat,List.drop_zero]
  exact List.take_left' (by rw [bs_len]; omega)
 have htwo:subS (catS body two) ((catS body two).size - 2) (catS body two).size=two:=by
  apply bs_inj
  rw [bs_sub,← bs_len (catS body two),List.take_length,bs_cat]
  exact List.drop_left' (by rw [List.length_append,bs_len,bs_len]; omega)
 obtain ⟨x',two',t',q,e1,e2,e3,e4⟩:=get_step n hn (catS body two) (by omega) (by omega)
 rw [hbody] at e1 e3
 rw [h1] at e1; cases e1
 rw [h2] at e2; cases e2
 have hr:=((rState_exact body (by omega)).ok 0 (Nat.zero_le _) t body.size).2 ⟨hv,[],[],by rw [h3]; simp,rfl,by rw [← h3,bs_len]; omega⟩
 rw [hr] at e3
 simp only [Prod.mk.injEq] at e3
 obtain ⟨rfl,rfl⟩:=e3
 rw [e4,hbody,htwo,hm]
 have:eqS two two=true:=by rw [eqS_bs]; simp
 simp only [this,Bool.not_true,cond_false,Bool.not_false,Bool.true_and,beq_self_eq_true,Option.bind_some]
end Go.Proofs.Ytjdlancjbdmkhaa
