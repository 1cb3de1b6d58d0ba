/- Plain Lean; no program in sight. -/
import Derived.KernelRfl
import Derived.KernelRfl
set_option linter.all false
namespace Go.P1
def num:List UInt8->Nat->Nat->Nat×Nat×Nat
 |[],_,_=>(0,0,11)
 |c::r,k,n=>
  if(0<k/\c.toNat=0)\/(8<k/\1<c.toNat) then(0,0,10)
  else if c.toNat<128 then(n+c.toNat%128*2^(7*k),k+1,0)
  else num r (k+1) (n+c.toNat%128*2^(7*k))
def getUint(l:List UInt8)(p:Int):Nat×Nat×Nat:=
 if p<0\/(l.length:Int)<p then(0,0,2)
 else match num (l.drop p.toNat) 0 0 with
  |(n,j,e)=>if e=0 then(n,p.toNat+j,0) else(0,0,e)
theorem pow7(k:Nat):2^(7*(k+1))=128*2^(7*k):=by
 rw[Nat.mul_add,Nat.pow_add];omega
theorem emZ{c:UInt8}{r:List UInt8}{k n:Nat}(h1:¬((0<k/\c.toNat=0)\/(8<k/\1<c.toNat)))(h2:128<=c.toNat):
 num (c::r) k n=num r (k+1) (n+c.toNat%128*2^(7*k)):=by
 rw[num,if_neg h1,if_neg (by omega)]
theorem iRZ{c:UInt8}{r:List UInt8}{k n:Nat}(h1:(0<k/\c.toNat=0)\/(8<k/\1<c.toNat)):num (c::r) k n=(0,0,10):=by
 rw[num,if_pos h1]
theorem hiZ{c:UInt8}{r:List UInt8}{k n:Nat}(h1:¬((0<k/\c.toNat=0)\/(8<k/\1<c.toNat)))(h2:c.toNat<128):
 num (c::r) k n=(n+c.toNat%128*2^(7*k),k+1,0):=by
 rw[num,if_neg h1,if_pos h2]
theorem iWZ{l:List UInt8}{p:Int}(h:p<0\/(l.length:Int)<p):getUint l p=(0,0,2):=by
 unfold getUint;rw[if_pos h]
theorem room(m x k:Nat)(hk:k<=9)(hm:m<2^(7*k))(hx:8<k->x<2):m+x%128*2^(7*k)<18446744073709551616/\(k<=8->m+x%128*2^(7*k)<2^(7*(k+1))):=by
 have hp:=pow7 k;have h1:x%128<128:=Nat.mod_lt _ (by omega);have h2:x%128*2^(7*k)<=127*2^(7*k):=Nat.mul_le_mul_right _ (by omega);rcases Nat.lt_or_ge 8 k with h9|h8
 ·obtain rfl:k=9:=by omega
  have:=hx (by omega);have h3:x%128<=1:=by omega
  have h4:x%128*2^(7*9)<=1*2^(7*9):=Nat.mul_le_mul_right _ h3;have h5:(2:Nat)^(7*9)=9223372036854775808:=by decide
  exact⟨by omega,fun h=>by omega⟩
 ·have h6:2^(7*k)<=2^(7*8):=Nat.pow_le_pow_right (by omega) (by omega);have h7:(2:Nat)^(7*8)=72057594037927936:=by decide
  exact⟨by omega,fun _=>by omega⟩
def getBlob(l:List UInt8)(p most:Int):List UInt8×Nat×Nat:=
 match getUint l p with
 |(n,j,e)=>if e≠0 then([],0,e) else if most<0\/most<n then([],0,3) else if l.length-j<n then([],0,11) else((l.drop j).take n,j+n,0)
theorem paZ{l:List UInt8}{j:Nat}(h:j<l.length):l.drop j=l[j]::l.drop (j+1):=List.drop_eq_getElem_cons h
def varint(n:Nat):List UInt8:=if n<128 then[UInt8.ofNat n] else UInt8.ofNat (n%128+128)::varint (n/128)
termination_by n
decreasing_by omega
theorem aNZ{n:Nat}(h:n<128):varint n=[UInt8.ofNat n]:=by rw[varint,if_pos h]
theorem cbZ{n:Nat}(h:128<=n):varint n=UInt8.ofNat (n%128+128)::varint (n/128):=by rw[varint,if_neg (by omega)]
theorem d8Z(n:Nat):0<(varint n).length:=by
 rcases Nat.lt_or_ge n 128 with h|h
 ·rw[aNZ h];simp
 ·rw[cbZ h];simp
theorem gpZ:∀(k n:Nat),n<128^(k+1)->(varint n).length<=k+1
 |0,n,h=>by rw[aNZ (by simpa using h)];simp
 |k+1,n,h=>by
  rcases Nat.lt_or_ge n 128 with hl|hg
  ·rw[aNZ hl];simp
  ·rw[cbZ hg,List.length_cons];have:n/128<128^(k+1):=by
    rw[Nat.div_lt_iff_lt_mul (by omega)];rw[Nat.pow_succ] at h;exact h
   have:=gpZ k (n/128) this;omega
theorem ajZ{n:Nat}(h:n<18446744073709551616):(varint n).length<=10:=gpZ 9 n (Nat.lt_of_lt_of_le h (by decide))
theorem gQZ:∀(l:List UInt8) (k n a j e:Nat),k<=9->n<2^(7*k)->num l k n=(a,j,e)->a<18446744073709551616/\(e=0->k<j/\j<=k+l.length)/\e<=11
 |[],k,n,a,j,e,_,_,h=>by
  simp only[num,Prod.mk.injEq] at h;omega
 |c::r,k,n,a,j,e,hk,hn,h=>by
  by_cases h1:(0<k/\c.toNat=0)\/(8<k/\1<c.toNat)
  ·rw[iRZ h1] at h;simp only[Prod.mk.injEq] at h;omega
  ·have hr:=room n c.toNat k hk hn (by omega);by_cases h2:c.toNat<128
   ·rw[hiZ h1 h2] at h;simp only[Prod.mk.injEq] at h;simp only[List.length_cons];omega
   ·rw[emZ h1 (by omega)] at h;have:=gQZ r (k+1) _ a j e (by omega) (hr.2 (by omega)) h;simp only[List.length_cons];omega
theorem ibZ(l:List UInt8)(p:Int):(getUint l p).1<18446744073709551616/\(getUint l p).2.1<=l.length/\(getUint l p).2.2<=11/\((getUint l p).2.2=0->0<(getUint l p).2.1)/\((getUint l p).2.2≠0->(getUint l p).1=0/\(getUint l p).2.1=0):=by
 unfold getUint;split
 ·simp
 ·rename_i h;rcases hq:num (l.drop p.toNat) 0 0 with⟨a,j,e⟩;have:=gQZ _ 0 0 a j e (by omega) (by simp) hq;simp only[List.length_drop] at this;by_cases he:e=0
  ·simp only[he,if_true];exact⟨this.1,by omega,by omega,fun _=>by omega,fun h=>absurd rfl h⟩
  ·simp only[if_neg he];exact⟨by omega,by omega,by omega,fun h=>absurd h he,fun _=>by simp⟩
theorem eBZ{l:List UInt8}{p most:Int}{n j e:Nat}(h:getUint l p=(n,j,e))(he:e≠0):getBlob l p most=([],0,e):=by
 unfold getBlob;simp[h,he]
theorem dTZ{l:List UInt8}{p most:Int}{n j:Nat}(h:getUint l p=(n,j,0))(hm:most<0\/most<n):getBlob l p most=([],0,3):=by
 unfold getBlob;simp[h,hm]
theorem dcZ{l:List UInt8}{p most:Int}{n j:Nat}(h:getUint l p=(n,j,0))(hm:¬(most<0\/most<n))(hs:l.length-j<n):getBlob l p most=([],0,11):=by
 unfold getBlob;simp[h,hm,hs]
theorem gsZ{l:List UInt8}{p most:Int}{n j:Nat}(h:getUint l p=(n,j,0))(hm:¬(most<0\/most<n))(hs:¬l.length-j<n):getBlob l p most=((l.drop j).take n,j+n,0):=by
 unfold getBlob;simp[h,hm,hs]
def step(T:List Nat)(s:Nat)(b:UInt8):Nat:=s/256^^^T.getD (s%256^^^b.toNat) 0
def run(T:List Nat)(s:Nat)(l:List UInt8):Nat:=l.foldl (step T) s
def sum(T:List Nat)(l:List UInt8):Nat:=4294967295-run T 4294967295 l
def Tab(T:List Nat):Prop:=T.length=256/\∀x∈T,x<4294967296
theorem Tab.lt{T:List Nat}(h:Tab T)(k:Nat):T.getD k 0<4294967296:=by
 rcases Nat.lt_or_ge k T.length with hk|hk
 ·rw[List.getD_eq_getElem?_getD,List.getElem?_eq_getElem hk];exact h.2 _ (List.getElem_mem hk)
 ·rw[List.getD_eq_getElem?_getD,List.getElem?_eq_none hk]
  decide
theorem hbZ{a b:Nat}(ha:a<4294967296)(hb:b<4294967296):a^^^b<4294967296:=Nat.xor_lt_two_pow (n:=32) ha hb
theorem oCZ{a b:Nat}(ha:a<256)(hb:b<256):a^^^b<256:=Nat.xor_lt_two_pow (n:=8) ha hb
theorem o5Z{T:List Nat}(h:Tab T){s:Nat}(hs:s<4294967296)(b:UInt8):step T s b<4294967296:=hbZ (by omega) (h.lt _)
theorem run_lt{T:List Nat}(h:Tab T):∀(l:List UInt8) {s:Nat},s<4294967296->run T s l<4294967296
 |[],_,hs=>hs
 |b::r,_,hs=>run_lt h r (o5Z h hs b)
theorem run_snoc(T:List Nat)(s:Nat)(l:List UInt8)(b:UInt8):run T s (l++[b])=step T (run T s l) b:=by simp[run]
theorem sum_lt(T:List Nat)(l:List UInt8):sum T l<4294967296:=by unfold sum;omega
def halved(n:Nat):Nat:=n/2^^^2197175160*(n%2)
theorem mzZ{n:Nat}(h:n<4294967296):halved n<4294967296:=by
 have h1:n%2<2:=Nat.mod_lt _ (by omega);exact hbZ (by omega) (by omega)
def hv:Nat->Nat
 |0=>2197175160
 |k+1=>halved (hv k)
def zeros:List Nat:=List.replicate 256 0
def tab1:Nat->List Nat
 |0=>zeros
 |k+1=>(tab1 k).set (128/2^k) (hv k)
def fill(T:List Nat)(k:Nat):Nat->List Nat
 |0=>T
 |low+1=>(fill T k low).set (2^k+low) ((fill T k low).getD (2^k) 0^^^(fill T k low).getD low 0)
def tab2:Nat->List Nat
 |0=>tab1 8
 |k+1=>fill (tab2 k) k (2^k)
def crcT:List Nat:=tab2 8
theorem pCZ:∀k,hv k<4294967296
 |0=>by decide
 |k+1=>mzZ (pCZ k)
theorem Tab.set{T:List Nat}(h:Tab T)(i:Nat){v:Nat}(hv:v<4294967296):Tab (T.set i v):=
 ⟨by rw[List.length_set];exact h.1,fun x hx=>by
  rcases List.mem_or_eq_of_mem_set hx with h1|h1
  ·exact h.2 x h1
  ·rw[h1];exact hv⟩
theorem moZ:Tab zeros:=⟨List.length_replicate,fun x hx=>by rw[(List.mem_replicate.1 hx).2];decide⟩
theorem jSZ:∀k,Tab (tab1 k)
 |0=>moZ
 |k+1=>(jSZ k).set _ (pCZ k)
theorem enZ{T:List Nat}(h:Tab T)(k:Nat):∀low,Tab (fill T k low)
 |0=>h
 |low+1=>(enZ h k low).set _ (hbZ ((enZ h k low).lt _) ((enZ h k low).lt _))
theorem jYZ:∀k,Tab (tab2 k)
 |0=>jSZ 8
 |k+1=>enZ (jYZ k) k _
theorem deZ:Tab crcT:=jYZ 8
def be4(s:Nat):List UInt8:=[UInt8.ofNat (s/16777216),UInt8.ofNat (s/65536),UInt8.ofNat (s/256),UInt8.ofNat s]
def sealed(S:List UInt8->Nat)(l:List UInt8):List UInt8:=l++be4 (S l)
theorem oUZ(s:Nat):(be4 s).length=4:=rfl
def laid4(n s k:Nat):List UInt8:=List.replicate (n+(4-k)) 0++(be4 s).drop (4-k)
theorem lHZ(n s k:Nat)(h:k<=4):(laid4 n s k).length=n+4:=by simp[laid4,be4];omega
theorem eeZ(m:Nat)(R:List UInt8)(b:UInt8):(List.replicate (m+1) 0++R).set m b=List.replicate m 0++b::R:=by
 rw[List.set_append_left _ _ (by simp)];rw[List.replicate_succ',List.set_append_right _ _ (by simp)];simp
theorem lkZ(n s k:Nat)(h:k<4):(laid4 n s k).set (n+3-k) (UInt8.ofNat (s/2^(8*k)))=laid4 n s (k+1):=by
 have hk:k=0\/k=1\/k=2\/k=3:=by omega
 rcases hk with rfl|rfl|rfl|rfl
 ·have:=eeZ (n+3) [] (UInt8.ofNat s);simpa[laid4,be4] using this
 ·have:=eeZ (n+2) [UInt8.ofNat s] (UInt8.ofNat (s/256));simpa[laid4,be4] using this
 ·have:=eeZ (n+1) [UInt8.ofNat (s/256),UInt8.ofNat s] (UInt8.ofNat (s/65536));simpa[laid4,be4] using this
 ·have:=eeZ n [UInt8.ofNat (s/65536),UInt8.ofNat (s/256),UInt8.ofNat s] (UInt8.ofNat (s/16777216));simpa[laid4,be4] using this
theorem myZ(n s:Nat):laid4 n s 4=List.replicate n 0++be4 s:=by simp[laid4]
def unsealed(S:List UInt8->Nat)(l:List UInt8):List UInt8×Nat:=
 if l.length<4 then([],11) else if sealed S (l.take (l.length-4))=l then(l.take (l.length-4),0) else([],12)
theorem fJZ(S:List UInt8->Nat){l:List UInt8}(h:l.length<4):unsealed S l=([],11):=by unfold unsealed;rw[if_pos h]
theorem ffZ(S:List UInt8->Nat){l:List UInt8}(h:4<=l.length):unsealed S l=if sealed S (l.take (l.length-4))=l then(l.take (l.length-4),0) else([],12):=by
 unfold unsealed;rw[if_neg (by omega)]
def comesL(l:List UInt8)(p:Int):List UInt8:=
 match getUint l p with
 |(n,j,e)=>if e≠0 then[101,114,114,111,114,32]++varint e else varint n++[32]++varint j
end Go.P1
namespace Go.P1
theorem c3Z(S:List UInt8->Nat)(l:List UInt8):unsealed S (sealed S l)=(l,0):=by
 have hl:(sealed S l).length=l.length+4:=by simp[sealed,be4]
 have ht:(sealed S l).take ((sealed S l).length-4)=l:=by rw[hl];simp[sealed]
 rw[ffZ S (by omega),ht,if_pos rfl]
end Go.P1
namespace Go.P1
end Go.P1
namespace Go.P1
def D(i:Nat):Nat:=run crcT 0 (UInt8.ofNat (2^(i%8))::List.replicate (i/8) 0)
end Go.P1
namespace Go.P1
def iter(n:Nat)(a:Nat):Nat:=Nat.repeat halved n a
end Go.P1
namespace Go.P1
def Told(b x:List UInt8):Prop:=x.length=b.length/\(sum crcT x=sum crcT b->x=b)
def burst(b:List UInt8)(k f:Nat):Nat->List UInt8
 |0=>b
 |t+1=>(burst b k f t).set (k+t) ((burst b k f t).getD (k+t) 0^^^UInt8.ofNat (f/2^(8*t)))
def fs(f:Nat):Nat->List UInt8
 |0=>[]
 |t+1=>fs f t++[UInt8.ofNat (f/2^(8*t))]
end Go.P1
namespace Go.P1
theorem v300:varint 300=[172,2]:=by rw[cbZ (by omega),aNZ (by omega)];decide
theorem v2:varint 2=[2]:=by rw[aNZ (by omega)];decide
theorem v10:varint 10=[10]:=by rw[aNZ (by omega)];decide
theorem v11:varint 11=[11]:=by rw[aNZ (by omega)];decide
theorem c1:comesL [172,2] 0=[172,2,32,2]:=by
 have h:getUint [172,2] 0=(300,2,0):=by decide
 unfold comesL;rw[h];simp[v300,v2]
theorem c2:comesL [128,0] 0=[101,114,114,111,114,32,10]:=by
 have h:getUint [128,0] 0=(0,0,10):=by decide
 unfold comesL;rw[h];simp[v10]
theorem c3:comesL [128] 0=[101,114,114,111,114,32,11]:=by
 have h:getUint [128] 0=(0,0,11):=by decide
 unfold comesL;rw[h];simp[v11]
theorem t0:crcT.getD 0 0=0:=by decide+kernel
end Go.P1
namespace Go.P1
def weigh(l:List UInt8):Nat:=l.foldr (fun c s=>s*128+c.toNat%128) 0
theorem geZ:∀(l:List UInt8) (k a n m:Nat),num l k a=(n,m,0)->
 ∃v,n=a+v*2^(7*k)/\k<m/\m<=k+l.length/\l.take (m-k)=varint v/\(0<k->0<v)
 |[],k,a,n,m,h=>by simp[num] at h
 |c::r,k,a,n,m,h=>by
  by_cases h1:(0<k/\c.toNat=0)\/(8<k/\1<c.toNat)
  ·rw[iRZ h1] at h;simp at h
  ·by_cases h2:c.toNat<128
   ·rw[hiZ h1 h2] at h;simp only[Prod.mk.injEq] at h;obtain⟨rfl,rfl,_⟩:=h;refine⟨c.toNat,by rw[Nat.mod_eq_of_lt h2],by omega,by simp,?_,by omega⟩;rw[aNZ h2,show k+1-k=1 by omega];simp
   ·rw[emZ h1 (by omega)] at h;obtain⟨v,hv,h3,h4,h5,h6⟩:=geZ r (k+1) _ n m h;have hv0:=h6 (by omega);have hc:=UInt8.toNat_lt c;refine⟨c.toNat%128+128*v,?_,by omega,by simp only[List.length_cons];omega,?_,by omega⟩
    ·rw[hv,pow7,Nat.add_mul,Nat.add_assoc];congr 2;rw[Nat.mul_comm 128 v,Nat.mul_assoc]
    ·rw[cbZ (by omega),show m-k=(m-(k+1))+1 by omega,List.take_succ_cons,h5];have e1:(c.toNat%128+128*v)/128=v:=by omega
     have e2:(c.toNat%128+128*v)%128+128=c.toNat:=by omega
     rw[e1,e2];simp
def W(l:List UInt8)(j i:Nat):Nat:=weigh ((l.take j).drop i)
end Go.P1
namespace Go.P1
theorem lxZ:∀(n k m:Nat) (post:List UInt8),(0<k->n≠0)->k<=9->n*2^(7*k)<18446744073709551616->num (varint n++post) k m=(m+n*2^(7*k),k+(varint n).length,0):=fun n=>by
 induction n using Nat.strongRecOn with
 |_ n ih=>
  intro k m post h0 hk hn;by_cases h:n<128
  ·rw[aNZ h];have hc:(UInt8.ofNat n).toNat=n:=by rw[UInt8.toNat_ofNat'];omega
   have h9:8<k->n<=1:=fun h8=>by
    obtain rfl:k=9:=by omega
    have:(2:Nat)^(7*9)=9223372036854775808:=by decide
    rw[this] at hn;omega
   show num (UInt8.ofNat n::post) k m=_;rw[hiZ (by rw[hc];rintro(⟨a,b⟩|⟨a,b⟩);exact h0 a b;have:=h9 a;omega) (by rw[hc];exact h),hc,Nat.mod_eq_of_lt h]
   rfl
  ·have h':128<=n:=by omega
   rw[cbZ h'];have hc:(UInt8.ofNat (n%128+128)).toNat=n%128+128:=by rw[UInt8.toNat_ofNat'];omega
   have hk8:k<=8:=by
    by_cases h8:k<=8
    ·exact h8
    ·exfalso;obtain rfl:k=9:=by omega
     have:(2:Nat)^(7*9)=9223372036854775808:=by decide
     rw[this] at hn;omega
   show num (UInt8.ofNat (n%128+128)::(varint (n/128)++post)) k m=_;have hm:(n%128+128)%128=n%128:=by omega
   have hp:=pow7 k;have hsplit:n%128*2^(7*k)+n/128*(128*2^(7*k))=n*2^(7*k):=by
    rw[<-Nat.mul_assoc,Nat.mul_comm (n/128) 128,<-Nat.add_mul,Nat.mod_add_div]
   rw[emZ (by rw[hc];omega) (by rw[hc];omega),hc,hm,ih (n/128) (by omega) (k+1) _ post (by omega) (by omega) (by rw[hp];omega),hp];simp only[List.length_cons,Prod.mk.injEq,and_true];omega
def pNum(most:Nat)(l:List UInt8):Option (Nat×List UInt8):=
 if(num l 0 0).2.2=0/\(num l 0 0).1<=most then some ((num l 0 0).1,l.drop (num l 0 0).2.1) else none
theorem l4Z{l:List UInt8}{n j:Nat}(h:num l 0 0=(n,j,0)):j<=l.length/\l.take j=varint n/\n<18446744073709551616:=by
 obtain⟨v,h1,h2,h3,h4,h5⟩:=geZ l 0 0 n j h;have h6:=gQZ l 0 0 n j 0 (by omega) (by simp) h;simp only[Nat.mul_zero,Nat.pow_zero,Nat.mul_one,Nat.zero_add] at h1;subst h1;exact⟨by omega,by simpa using h4,h6.1⟩
theorem cGZ{most n:Nat}{l r:List UInt8}(hm:most<18446744073709551616):pNum most l=some (n,r)↔n<=most/\l=varint n++r:=by
 unfold pNum;constructor
 ·intro h;by_cases hc:(num l 0 0).2.2=0/\(num l 0 0).1<=most
  ·rw[if_pos hc] at h;simp only[Option.some.injEq,Prod.mk.injEq] at h;obtain⟨h1,h2⟩:=h;obtain⟨n',j,e⟩:∃n' j,num l 0 0=(n',j,0):=⟨_,_,Prod.ext rfl (Prod.ext rfl hc.1)⟩;rw[e] at h1 h2 hc;simp only at h1 h2 hc;subst h1;obtain⟨k1,k2,k3⟩:=l4Z e;refine⟨hc.2,?_⟩;rw[<-k2,<-h2,List.take_append_drop]
  ·rw[if_neg hc] at h;cases h
 ·rintro⟨h1,rfl⟩;have:=lxZ n 0 0 r (by omega) (by omega) (by simpa using(by omega:n<18446744073709551616));rw[this];simp[h1]
def pBlob(most:Nat)(l:List UInt8):Option (List UInt8×List UInt8):=
 (pNum most l).bind fun x=>if x.1<=x.2.length then some (x.2.take x.1,x.2.drop x.1) else none
theorem i1Z{most:Nat}{l s r:List UInt8}(hm:most<18446744073709551616):pBlob most l=some (s,r)↔s.length<=most/\l=varint s.length++(s++r):=by
 unfold pBlob;rw[Option.bind_eq_some_iff];constructor
 ·rintro⟨⟨n,r'⟩,h1,h2⟩;rw[cGZ hm] at h1;by_cases hc:n<=r'.length
  ·simp only[hc,if_true,Option.some.injEq,Prod.mk.injEq] at h2;obtain⟨rfl,rfl⟩:=h2;have hl:(r'.take n).length=n:=by simp;omega
   rw[hl,List.take_append_drop];exact h1
  ·simp only[hc,if_false] at h2;cases h2
 ·rintro⟨h1,rfl⟩;exact⟨(s.length,s++r),(cGZ hm).2 ⟨h1,rfl⟩,by simp⟩
theorem dXZ{l:List UInt8}{p:Nat}(hp:p<=l.length):getUint l p=if(num (l.drop p) 0 0).2.2=0 then((num (l.drop p) 0 0).1,p+(num (l.drop p) 0 0).2.1,0) else(0,0,(num (l.drop p) 0 0).2.2):=by
 unfold getUint;rw[if_neg (by omega)];simp
theorem blZ{most n p:Nat}{l r:List UInt8}(hp:p<=l.length)(h:pNum most (l.drop p)=some (n,r)):
 getUint l p=(n,l.length-r.length,0)/\n<=most/\p<=l.length-r.length/\l.drop (l.length-r.length)=r/\r.length<=l.length:=by
 rw[dXZ hp];unfold pNum at h;by_cases hc:(num (l.drop p) 0 0).2.2=0/\(num (l.drop p) 0 0).1<=most
 ·rw[if_pos hc] at h;simp only[Option.some.injEq,Prod.mk.injEq] at h;obtain⟨h1,h2⟩:=h;obtain⟨n',j,e⟩:∃n' j,num (l.drop p) 0 0=(n',j,0):=⟨_,_,Prod.ext rfl (Prod.ext rfl hc.1)⟩;rw[e] at h1 h2 hc⊢;simp only at h1 h2 hc⊢;subst h1;obtain⟨k1,k2,k3⟩:=l4Z e;rw[List.length_drop] at k1;rw[List.drop_drop] at h2;have hl:r.length=l.length-(p+j):=by rw[<-h2,List.length_drop]
  have hq:l.length-r.length=p+j:=by omega
  rw[hq];exact⟨by simp,hc.2,by omega,h2,by omega⟩
 ·rw[if_neg hc] at h;cases h
theorem bFZ{most p:Nat}{l:List UInt8}(hp:p<=l.length)(h:pNum most (l.drop p)=none):(getUint l p).2.2≠0\/most<(getUint l p).1:=by
 rw[dXZ hp];unfold pNum at h;by_cases hc:(num (l.drop p) 0 0).2.2=0
 ·rw[if_pos hc];by_cases hd:(num (l.drop p) 0 0).1<=most
  ·rw[if_pos ⟨hc,hd⟩] at h;cases h
  ·exact .inr (by simp only;omega)
 ·rw[if_neg hc];exact .inl hc
theorem dGZ{most p:Nat}{l s r:List UInt8}(hp:p<=l.length)(h:pBlob most (l.drop p)=some (s,r)):
 getBlob l p most=(s,l.length-r.length,0)/\l.drop (l.length-r.length)=r/\r.length<=l.length/\s.length<=most:=by
 unfold pBlob at h;rw[Option.bind_eq_some_iff] at h;obtain⟨⟨n,r'⟩,h1,h2⟩:=h;obtain⟨k1,k2,k3,k4,k5⟩:=blZ hp h1;by_cases hc:n<=r'.length
 ·simp only[hc,if_true,Option.some.injEq,Prod.mk.injEq] at h2;obtain⟨rfl,rfl⟩:=h2;rw[gsZ k1 (by omega) (by omega),k4];simp only[List.length_drop,List.length_take];have e:l.length-(r'.length-n)=l.length-r'.length+n:=by omega
  rw[e,<-List.drop_drop,k4];exact⟨rfl,rfl,by omega,by omega⟩
 ·simp only[hc,if_false] at h2;cases h2
theorem dRZ{most p:Nat}{l:List UInt8}(hp:p<=l.length)(h:pBlob most (l.drop p)=none):(getBlob l p most).2.2≠0/\(getBlob l p most).1=[]/\(getBlob l p most).2.1=0:=by
 unfold pBlob at h;rcases hn:pNum most (l.drop p) with _|⟨n,r⟩
 ·obtain⟨a,b,e,hu⟩:∃a b e,getUint l p=(a,b,e):=⟨_,_,_,rfl⟩;have:=bFZ hp hn;rw[hu] at this;by_cases he:e=0
  ·subst he;have:most<a:=by simpa using this
   rw[dTZ hu (by omega)];simp
  ·rw[eBZ hu he];simpa using he
 ·rw[hn] at h;obtain⟨k1,k2,k3,k4,k5⟩:=blZ hp hn;by_cases hc:n<=r.length
  ·simp[hc] at h
  ·rw[dcZ k1 (by omega) (by omega)];simp
end Go.P1
namespace Go.P21
open Go.P1
def M62:Nat:=4611686018427387904
theorem o4Z:M62<18446744073709551616:=by unfold M62;omega
def pN:Option (List UInt8)->Nat×Option (List UInt8)
 |none=>(0,none)
 |some l=>match pNum M62 l with|some (n,r)=>(n,some r)|none=>(0,none)
def pB(most:Nat):Option (List UInt8)->List UInt8×Option (List UInt8)
 |none=>([],none)
 |some l=>match pBlob most l with|some (s,r)=>(s,some r)|none=>([],none)
def vi(n:Int):List UInt8:=varint n.toNat
def blobB(b:List UInt8):List UInt8:=varint b.length++b
theorem cUZ(l:List UInt8):pN (some l)=(match pNum M62 l with|some (n,r)=>(n,some r)|none=>(0,none)):=rfl
theorem iQZ{n:Nat}(h:n<=M62)(r:List UInt8):pN (some (varint n++r))=(n,some r):=by
 rw[cUZ,(cGZ o4Z).2 ⟨h,rfl⟩]
theorem bAZ{n:Int}(h0:0<=n)(h:n<=4611686018427387904)(r:List UInt8):pN (some (vi n++r))=(n.toNat,some r):=iQZ (by unfold M62;omega) r
theorem aMZ{s:Option (List UInt8)}{r:List UInt8}(h:(pN s).2=some r):s=some (varint (pN s).1++r)/\(pN s).1<=M62:=by
 cases s with
 |none=>cases h
 |some l=>
  rw[cUZ] at h⊢;cases hp:pNum M62 l with
  |none=>rw[hp] at h;cases h
  |some x=>
   obtain⟨n,r'⟩:=x;rw[hp] at h;simp only[Option.some.injEq] at h;subst h;obtain⟨h1,h2⟩:=(cGZ o4Z).1 hp;exact⟨by rw[<-h2],h1⟩
theorem fpZ(most:Nat)(l:List UInt8):pB most (some l)=(match pBlob most l with|some (s,r)=>(s,some r)|none=>([],none)):=rfl
theorem idZ{most:Nat}(hm:most<18446744073709551616){s:List UInt8}(h:s.length<=most)(r:List UInt8):pB most (some (blobB s++r))=(s,some r):=by
 unfold blobB;rw[fpZ,List.append_assoc,(i1Z hm).2 ⟨h,rfl⟩]
theorem eqZ{most:Nat}(hm:most<18446744073709551616){s:Option (List UInt8)}{r:List UInt8}(h:(pB most s).2=some r):s=some (blobB (pB most s).1++r)/\(pB most s).1.length<=most:=by
 cases s with
 |none=>cases h
 |some l=>
  rw[fpZ] at h⊢;cases hp:pBlob most l with
  |none=>rw[hp] at h;cases h
  |some x=>
   obtain⟨b,r'⟩:=x;rw[hp] at h;simp only[Option.some.injEq] at h;subst h;obtain⟨h1,h2⟩:=(i1Z hm).1 hp;refine⟨?_,h1⟩;unfold blobB;rw[List.append_assoc];exact congrArg some h2
theorem jJZ{most:Nat}(hm:most<18446744073709551616)(s:Option (List UInt8)):(pB most s).1.length<=most:=by
 cases h:(pB most s).2 with
 |some r=>exact(eqZ hm h).2
 |none=>
  cases s with
  |none=>exact Nat.zero_le _
  |some l=>
   rw[fpZ] at h⊢;cases hp:pBlob most l with
   |none=>exact Nat.zero_le _
   |some x=>obtain⟨b,r'⟩:=x;rw[hp] at h;cases h
abbrev CallT:Type:=Int×(Int×(UInt8×((Int×Int)×(List UInt8×((Int×Int)×(List UInt8×(Int×(Int×List UInt8))))))))
def callB(c:CallT):List UInt8:=
 vi c.1++(vi c.2.1++(varint c.2.2.1.toNat++(vi c.2.2.2.1.1++(vi c.2.2.2.1.2++(vi c.2.2.2.2.2.1.1++(vi c.2.2.2.2.2.1.2++(vi c.2.2.2.2.2.2.2.1++(vi c.2.2.2.2.2.2.2.2.1++
  (blobB c.2.2.2.2.1++(blobB c.2.2.2.2.2.2.1++blobB c.2.2.2.2.2.2.2.2.2))))))))))
structure Rd where
 n:Nat->Nat
 b:Nat->List UInt8
 left:Option (List UInt8)
def rdCall(s:Option (List UInt8)):(Nat×(Nat×(Nat×(Nat×(Nat×(Nat×(Nat×(Nat×Nat))))))))×((List UInt8×(List UInt8×List UInt8))×Option (List UInt8)):=
 let a1:=pN s;let a2:=pN a1.2;let a3:=pN a2.2;let a4:=pN a3.2;let a5:=pN a4.2;let a6:=pN a5.2;let a7:=pN a6.2;let a8:=pN a7.2;let a9:=pN a8.2
 let b1:=pB 100 a9.2;let b2:=pB 100 b1.2;let b3:=pB 4096 b2.2
 ((a1.1,(a2.1,(a3.1,(a4.1,(a5.1,(a6.1,(a7.1,(a8.1,a9.1)))))))),((b1.1,(b2.1,b3.1)),b3.2))
def ofRd(r:(Nat×(Nat×(Nat×(Nat×(Nat×(Nat×(Nat×(Nat×Nat))))))))×((List UInt8×(List UInt8×List UInt8))×Option (List UInt8))):CallT:=
 ((r.1.1:Int),((r.1.2.1:Int),(UInt8.ofNat r.1.2.2.1,(((r.1.2.2.2.1:Int),(r.1.2.2.2.2.1:Int)),(r.2.1.1,(((r.1.2.2.2.2.2.1:Int),(r.1.2.2.2.2.2.2.1:Int)),(r.2.1.2.1,((r.1.2.2.2.2.2.2.2.1:Int),((r.1.2.2.2.2.2.2.2.2:Int),r.2.1.2.2)))))))))
def fits(c:CallT):Prop:=
 (0<=c.1/\c.1<=4611686018427387904)/\(0<=c.2.1/\c.2.1<=4611686018427387904)/\(0<=c.2.2.2.1.1/\c.2.2.2.1.1<=4611686018427387904)/\(0<=c.2.2.2.1.2/\c.2.2.2.1.2<=4611686018427387904)/\
 (0<=c.2.2.2.2.2.1.1/\c.2.2.2.2.2.1.1<=4611686018427387904)/\(0<=c.2.2.2.2.2.1.2/\c.2.2.2.2.2.1.2<=4611686018427387904)/\(0<=c.2.2.2.2.2.2.2.1/\c.2.2.2.2.2.2.2.1<=4611686018427387904)/\
 (0<=c.2.2.2.2.2.2.2.2.1/\c.2.2.2.2.2.2.2.2.1<=4611686018427387904)/\c.2.2.2.2.1.length<=100/\c.2.2.2.2.2.2.1.length<=100/\c.2.2.2.2.2.2.2.2.2.length<=4096
theorem qiZ{c:CallT}(h:fits c)(r:List UInt8):(rdCall (some (callB c++r))).2.2=some r/\(rdCall (some (callB c++r))).1.2.2.1=c.2.2.1.toNat/\ofRd (rdCall (some (callB c++r)))=c:=by
 obtain⟨c1,c2,c3,⟨h1,h2⟩,nm,⟨t1,t2⟩,nw,off,n,bs⟩:=c;obtain⟨k1,k2,k3,k4,k5,k6,k7,k8,k9,k10,k11⟩:=h;simp only at k1 k2 k3 k4 k5 k6 k7 k8 k9 k10 k11;have h3:=c3.toNat_lt;have e:rdCall (some (callB (c1,(c2,(c3,((h1,h2),(nm,((t1,t2),(nw,(off,(n,bs)))))))))++r))=((c1.toNat,(c2.toNat,(c3.toNat,(h1.toNat,(h2.toNat,(t1.toNat,(t2.toNat,(off.toNat,n.toNat)))))))),((nm,(nw,bs)),some r)):=by
  unfold rdCall callB;simp only[List.append_assoc];simp only[bAZ k1.1 k1.2,bAZ k2.1 k2.2,iQZ (show c3.toNat<=M62 by unfold M62;omega),bAZ k3.1 k3.2,bAZ k4.1 k4.2,bAZ k5.1 k5.2,bAZ k6.1 k6.2,bAZ k7.1 k7.2,bAZ k8.1 k8.2,
   idZ (show 100<18446744073709551616 by omega) k9,idZ (show 100<18446744073709551616 by omega) k10,idZ (show 4096<18446744073709551616 by omega) k11]
 rw[e];refine⟨rfl,rfl,?_⟩;unfold ofRd;simp only;rw[Int.toNat_of_nonneg k1.1,Int.toNat_of_nonneg k2.1,Int.toNat_of_nonneg k3.1,Int.toNat_of_nonneg k4.1,Int.toNat_of_nonneg k5.1,Int.toNat_of_nonneg k6.1,Int.toNat_of_nonneg k7.1,Int.toNat_of_nonneg k8.1];simp
theorem pVZ{s:Option (List UInt8)}{r:List UInt8}(h:(rdCall s).2.2=some r)(h3:(rdCall s).1.2.2.1<=255):s=some (callB (ofRd (rdCall s))++r)/\fits (ofRd (rdCall s)):=by
 unfold rdCall at h h3⊢;simp only at h h3⊢;obtain⟨g12,l12⟩:=eqZ (by omega) h;generalize pB 4096 _=b3 at g12 l12 h⊢;obtain⟨g11,l11⟩:=eqZ (by omega) g12;generalize pB 100 (pB 100 _).2=b2 at g11 l11 g12⊢;obtain⟨g10,l10⟩:=eqZ (by omega) g11;generalize pB 100 _=b1 at g10 l10 g11⊢;obtain⟨g9,l9⟩:=aMZ g10;obtain⟨g8,l8⟩:=aMZ g9;obtain⟨g7,l7⟩:=aMZ g8;obtain⟨g6,l6⟩:=aMZ g7;obtain⟨g5,l5⟩:=aMZ g6;obtain⟨g4,l4⟩:=aMZ g5;obtain⟨g3,l3⟩:=aMZ g4;obtain⟨g2,l2⟩:=aMZ g3;obtain⟨g1,l1⟩:=aMZ g2;unfold M62 at l1 l2 l3 l4 l5 l6 l7 l8 l9;generalize (pN (pN (pN (pN (pN (pN (pN (pN (pN s).2).2).2).2).2).2).2).2).1=n9 at*;generalize (pN (pN (pN (pN (pN (pN (pN (pN s).2).2).2).2).2).2).2).1=n8 at*;generalize (pN (pN (pN (pN (pN (pN (pN s).2).2).2).2).2).2).1=n7 at*;generalize (pN (pN (pN (pN (pN (pN s).2).2).2).2).2).1=n6 at*;generalize (pN (pN (pN (pN (pN s).2).2).2).2).1=n5 at*;generalize (pN (pN (pN (pN s).2).2).2).1=n4 at*;generalize (pN (pN (pN s).2).2).1=n3 at*;generalize (pN (pN s).2).1=n2 at*;generalize (pN s).1=n1 at*;have u3:(UInt8.ofNat n3).toNat=n3:=by rw[UInt8.toNat_ofNat'];omega
 constructor
 ·rw[g1];unfold callB ofRd vi;simp only[Int.toNat_natCast,u3,List.append_assoc]
 ·unfold fits ofRd;simp only;omega
end Go.P21
namespace Go.P21
open Go.P1
abbrev EntT:Type:=List UInt8×Int
abbrev ReplyT:Type:=Int×(Int×(Int×((Int×Int)×(Bool×(Int×(List UInt8×(List EntT×(Bool×Int))))))))
def flagN(b:Bool):Nat:=bif b then 1 else 0
def entB(e:EntT):List UInt8:=blobB e.1++vi e.2
def replyB(r:ReplyT):List UInt8:=
 vi r.1++(vi r.2.1++(vi r.2.2.1++(vi r.2.2.2.1.1++(vi r.2.2.2.1.2++(varint (flagN r.2.2.2.2.1)++(vi r.2.2.2.2.2.1++(varint (flagN r.2.2.2.2.2.2.2.2.1)++(vi r.2.2.2.2.2.2.2.2.2++
  (blobB r.2.2.2.2.2.2.1++(varint r.2.2.2.2.2.2.2.1.length++r.2.2.2.2.2.2.2.1.flatMap entB))))))))))
def pF(s:Option (List UInt8)):Bool×Option (List UInt8):=((pN s).1==1,if(pN s).1<=1 then(pN s).2 else none)
theorem qdZ(b:Bool)(r:List UInt8):pF (some (varint (flagN b)++r))=(b,some r):=by
 unfold pF;rw[iQZ (by cases b<;>(unfold flagN M62;simp))];cases b<;>rfl
theorem o2Z{s:Option (List UInt8)}{r:List UInt8}(h:(pF s).2=some r):s=some (varint (flagN (pF s).1)++r):=by
 unfold pF at h⊢;simp only at h⊢;split at h
 ·rename_i hc;obtain⟨h1,h2⟩:=aMZ h;have:(pN s).1=0\/(pN s).1=1:=by omega
  rcases this with e|e<;>rw[e] at h1⊢<;>exact h1
 ·cases h
def loopR:Nat->Option (List UInt8)->List EntT->Nat×(Option (List UInt8)×List EntT)
 |0,s,es=>(0,(s,es))
 |n+1,none,es=>(n+1,(none,es))
 |n+1,some l,es=>loopR n (pN (pB 100 (some l)).2).2 (es++[((pB 100 (some l)).1,((pN (pB 100 (some l)).2).1:Int))])
def EntFits(e:EntT):Prop:=e.1.length<=100/\0<=e.2/\e.2<=4611686018427387904
theorem j8Z:∀(es acc:List EntT) (r:List UInt8),(∀e∈es,EntFits e)->loopR es.length (some (es.flatMap entB++r)) acc=(0,(some r,acc++es))
 |[],acc,r,_=>by simp[loopR]
 |e::es,acc,r,h=>by
  obtain⟨h1,h2,h3⟩:=h e (by simp);show loopR (es.length+1) (some ((entB e++es.flatMap entB)++r)) acc=_;unfold entB;simp only[List.append_assoc,loopR];rw[idZ (by omega) h1];simp only;rw[bAZ h2 h3];simp only;have:=j8Z es (acc++[(e.1,((e.2.toNat:Nat):Int))]) r fun x hx=>h x (by simp[hx]);unfold entB at this;rw[this,Int.toNat_of_nonneg h2];simp
theorem h6Z:∀{n:Nat} {s:Option (List UInt8)} {acc:List EntT} {r:List UInt8} {out:List EntT},loopR n s acc=(0,(some r,out))->∃es,out=acc++es/\es.length=n/\s=some (es.flatMap entB++r)/\∀e∈es,EntFits e
 |0,s,acc,r,out,h=>by
  simp only[loopR,Prod.mk.injEq,true_and] at h;obtain⟨rfl,rfl⟩:=h;exact⟨[],by simp,rfl,by simp,by simp⟩
 |n+1,none,acc,r,out,h=>by simp[loopR] at h
 |n+1,some l,acc,r,out,h=>by
  simp only[loopR] at h;obtain⟨es,g1,g2,g3,g4⟩:=h6Z h;obtain⟨k1,k2⟩:=aMZ g3;obtain⟨m1,m2⟩:=eqZ (by omega) k1;unfold M62 at k2;refine⟨((pB 100 (some l)).1,((pN (pB 100 (some l)).2).1:Int))::es,?_,by simp[g2],?_,?_⟩
  ·rw[g1];simp
  ·refine m1.trans ?_;unfold entB vi;simp
  ·intro e he;rcases List.mem_cons.1 he with rfl|he
   ·exact⟨m2,by omega,by simp only;omega⟩
   ·exact g4 e he
def rdReply(s:Option (List UInt8)):(Nat×(Nat×(Nat×(Nat×(Nat×(Bool×(Nat×(Bool×(Nat×(List UInt8×Nat))))))))))×Option (List UInt8):=
 let a1:=pN s;let a2:=pN a1.2;let a3:=pN a2.2;let a4:=pN a3.2;let a5:=pN a4.2;let a6:=pF a5.2;let a7:=pN a6.2;let a8:=pF a7.2;let a9:=pN a8.2
 let b1:=pB 4096 a9.2;let c:=pN b1.2
 ((a1.1,(a2.1,(a3.1,(a4.1,(a5.1,(a6.1,(a7.1,(a8.1,(a9.1,(b1.1,c.1)))))))))),c.2)
def ofRdR(r:(Nat×(Nat×(Nat×(Nat×(Nat×(Bool×(Nat×(Bool×(Nat×(List UInt8×Nat))))))))))×Option (List UInt8))(es:List EntT):ReplyT:=
 ((r.1.1:Int),((r.1.2.1:Int),((r.1.2.2.1:Int),(((r.1.2.2.2.1:Int),(r.1.2.2.2.2.1:Int)),(r.1.2.2.2.2.2.1,((r.1.2.2.2.2.2.2.1:Int),(r.1.2.2.2.2.2.2.2.2.2.1,(es,(r.1.2.2.2.2.2.2.2.1,(r.1.2.2.2.2.2.2.2.2.1:Int))))))))))
def fitsR(r:ReplyT):Prop:=
 (0<=r.1/\r.1<=4611686018427387904)/\(0<=r.2.1/\r.2.1<=4611686018427387904)/\(0<=r.2.2.1/\r.2.2.1<=4611686018427387904)/\(0<=r.2.2.2.1.1/\r.2.2.2.1.1<=4611686018427387904)/\
 (0<=r.2.2.2.1.2/\r.2.2.2.1.2<=4611686018427387904)/\(0<=r.2.2.2.2.2.1/\r.2.2.2.2.2.1<=4611686018427387904)/\(0<=r.2.2.2.2.2.2.2.2.2/\r.2.2.2.2.2.2.2.2.2<=4611686018427387904)/\
 r.2.2.2.2.2.2.1.length<=4096/\r.2.2.2.2.2.2.2.1.length<=100/\∀e∈r.2.2.2.2.2.2.2.1,EntFits e
theorem ozZ{x:ReplyT}(h:fitsR x):rdReply (some (replyB x))=((x.1.toNat,(x.2.1.toNat,(x.2.2.1.toNat,(x.2.2.2.1.1.toNat,(x.2.2.2.1.2.toNat,(x.2.2.2.2.1,(x.2.2.2.2.2.1.toNat,(x.2.2.2.2.2.2.2.2.1,(x.2.2.2.2.2.2.2.2.2.toNat,(x.2.2.2.2.2.2.1,x.2.2.2.2.2.2.2.1.length)))))))))),some (x.2.2.2.2.2.2.2.1.flatMap entB)):=by
 obtain⟨x1,x2,x3,⟨h1,h2⟩,d,sz,bs,es,mo,fr⟩:=x;obtain⟨k1,k2,k3,k4,k5,k6,k7,k8,k9,k10⟩:=h;simp only at k1 k2 k3 k4 k5 k6 k7 k8 k9 k10;unfold rdReply replyB;simp only[bAZ k1.1 k1.2,bAZ k2.1 k2.2,bAZ k3.1 k3.2,bAZ k4.1 k4.2,bAZ k5.1 k5.2,bAZ k6.1 k6.2,bAZ k7.1 k7.2,qdZ,idZ (show 4096<18446744073709551616 by omega) k8,iQZ (show es.length<=M62 by unfold M62;omega)]
theorem nHZ{x:ReplyT}(h:fitsR x):ofRdR (rdReply (some (replyB x))) x.2.2.2.2.2.2.2.1=x:=by
 rw[ozZ h];obtain⟨x1,x2,x3,⟨h1,h2⟩,d,sz,bs,es,mo,fr⟩:=x;obtain⟨k1,k2,k3,k4,k5,k6,k7,k8,k9,k10⟩:=h;simp only at k1 k2 k3 k4 k5 k6 k7 k8 k9 k10;unfold ofRdR;simp only;rw[Int.toNat_of_nonneg k1.1,Int.toNat_of_nonneg k2.1,Int.toNat_of_nonneg k3.1,Int.toNat_of_nonneg k4.1,Int.toNat_of_nonneg k5.1,Int.toNat_of_nonneg k6.1,Int.toNat_of_nonneg k7.1]
theorem puZ{s:Option (List UInt8)}{out:List EntT}(h:loopR (rdReply s).1.2.2.2.2.2.2.2.2.2.2 (rdReply s).2 []=(0,(some [],out)))(h100:(rdReply s).1.2.2.2.2.2.2.2.2.2.2<=100):s=some (replyB (ofRdR (rdReply s) out))/\fitsR (ofRdR (rdReply s) out):=by
 obtain⟨es,g1,g2,g3,g4⟩:=h6Z h;rw[List.nil_append] at g1;subst g1;rw[List.append_nil] at g3;unfold rdReply at g2 g3 h100⊢;simp only at g2 g3 h100⊢;obtain⟨k11,l11⟩:=aMZ g3;obtain⟨k10,l10⟩:=eqZ (by omega) k11;obtain⟨k9,l9⟩:=aMZ k10;have k8:=o2Z k9;obtain⟨k7,l7⟩:=aMZ k8;have k6:=o2Z k7;obtain⟨k5,l5⟩:=aMZ k6;obtain⟨k4,l4⟩:=aMZ k5;obtain⟨k3,l3⟩:=aMZ k4;obtain⟨k2,l2⟩:=aMZ k3;obtain⟨k1,l1⟩:=aMZ k2;unfold M62 at l1 l2 l3 l4 l5 l7 l9 l11;constructor
 ·refine k1.trans ?_;unfold replyB ofRdR vi;simp only[Int.toNat_natCast,g2]
 ·unfold fitsR ofRdR;simp only;refine⟨by omega,by omega,by omega,by omega,by omega,by omega,by omega,l10,by omega,g4⟩
end Go.P21
