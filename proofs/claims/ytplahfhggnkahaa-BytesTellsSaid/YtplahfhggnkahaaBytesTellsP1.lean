/- Plain Lean; no program in sight. -/
import Derived.KernelRfl
import Derived.KernelRfl
set_option linter.all false
namespace Go.P1
def num:List UInt8->Nat->Nat->Nat×Nat×Nat
 |[],_,_=>(0,0,11)
 |c::r,k,n=>
  if(0<k/\c.toNat=0)\/(8<k/\1<c.toNat) then(0,0,10)
  else if c.toNat<128 then(n+c.toNat%128*2^(7*k),k+1,0)
  else num r (k+1) (n+c.toNat%128*2^(7*k))
def getUint(l:List UInt8)(p:Int):Nat×Nat×Nat:=
 if p<0\/(l.length:Int)<p then(0,0,2)
 else match num (l.drop p.toNat) 0 0 with
  |(n,j,e)=>if e=0 then(n,p.toNat+j,0) else(0,0,e)
theorem pow7(k:Nat):2^(7*(k+1))=128*2^(7*k):=by
 rw[Nat.mul_add,Nat.pow_add];omega
theorem f5Z{c:UInt8}{r:List UInt8}{k n:Nat}(h1:¬((0<k/\c.toNat=0)\/(8<k/\1<c.toNat)))(h2:128<=c.toNat):
 num (c::r) k n=num r (k+1) (n+c.toNat%128*2^(7*k)):=by
 rw[num,if_neg h1,if_neg (by omega)]
theorem gAZ{c:UInt8}{r:List UInt8}{k n:Nat}(h1:(0<k/\c.toNat=0)\/(8<k/\1<c.toNat)):num (c::r) k n=(0,0,10):=by
 rw[num,if_pos h1]
theorem gTZ{c:UInt8}{r:List UInt8}{k n:Nat}(h1:¬((0<k/\c.toNat=0)\/(8<k/\1<c.toNat)))(h2:c.toNat<128):
 num (c::r) k n=(n+c.toNat%128*2^(7*k),k+1,0):=by
 rw[num,if_neg h1,if_pos h2]
theorem e5Z{l:List UInt8}{p:Int}(h:p<0\/(l.length:Int)<p):getUint l p=(0,0,2):=by
 unfold getUint;rw[if_pos h]
theorem room(m x k:Nat)(hk:k<=9)(hm:m<2^(7*k))(hx:8<k->x<2):m+x%128*2^(7*k)<18446744073709551616/\(k<=8->m+x%128*2^(7*k)<2^(7*(k+1))):=by
 have hp:=pow7 k;have h1:x%128<128:=Nat.mod_lt _ (by omega);have h2:x%128*2^(7*k)<=127*2^(7*k):=Nat.mul_le_mul_right _ (by omega);rcases Nat.lt_or_ge 8 k with h9|h8
 ·obtain rfl:k=9:=by omega
  have:=hx (by omega);have h3:x%128<=1:=by omega
  have h4:x%128*2^(7*9)<=1*2^(7*9):=Nat.mul_le_mul_right _ h3;have h5:(2:Nat)^(7*9)=9223372036854775808:=by decide
  exact⟨by omega,fun h=>by omega⟩
 ·have h6:2^(7*k)<=2^(7*8):=Nat.pow_le_pow_right (by omega) (by omega);have h7:(2:Nat)^(7*8)=72057594037927936:=by decide
  exact⟨by omega,fun _=>by omega⟩
theorem wlt{k:Nat}(hk:k<=9):2^(7*k)<=9223372036854775808:=by
 have h6:2^(7*k)<=2^(7*9):=Nat.pow_le_pow_right (by omega) (by omega);have h7:(2:Nat)^(7*9)=9223372036854775808:=by decide
 omega
def getBlob(l:List UInt8)(p most:Int):List UInt8×Nat×Nat:=
 match getUint l p with
 |(n,j,e)=>if e≠0 then([],0,e) else if most<0\/most<n then([],0,3) else if l.length-j<n then([],0,11) else((l.drop j).take n,j+n,0)
theorem iOZ{l:List UInt8}{j:Nat}(h:j<l.length):l.drop j=l[j]::l.drop (j+1):=List.drop_eq_getElem_cons h
def varint(n:Nat):List UInt8:=if n<128 then[UInt8.ofNat n] else UInt8.ofNat (n%128+128)::varint (n/128)
termination_by n
decreasing_by omega
theorem aXZ{n:Nat}(h:n<128):varint n=[UInt8.ofNat n]:=by rw[varint,if_pos h]
theorem ckZ{n:Nat}(h:128<=n):varint n=UInt8.ofNat (n%128+128)::varint (n/128):=by rw[varint,if_neg (by omega)]
theorem eOZ(n:Nat):0<(varint n).length:=by
 rcases Nat.lt_or_ge n 128 with h|h
 ·rw[aXZ h];simp
 ·rw[ckZ h];simp
theorem ePZ:∀(k n:Nat),n<128^(k+1)->(varint n).length<=k+1
 |0,n,h=>by rw[aXZ (by simpa using h)];simp
 |k+1,n,h=>by
  rcases Nat.lt_or_ge n 128 with hl|hg
  ·rw[aXZ hl];simp
  ·rw[ckZ hg,List.length_cons];have:n/128<128^(k+1):=by
    rw[Nat.div_lt_iff_lt_mul (by omega)];rw[Nat.pow_succ] at h;exact h
   have:=ePZ k (n/128) this;omega
theorem blZ{n:Nat}(h:n<18446744073709551616):(varint n).length<=10:=ePZ 9 n (Nat.lt_of_lt_of_le h (by decide))
theorem hsZ:∀(l:List UInt8) (k n a j e:Nat),k<=9->n<2^(7*k)->num l k n=(a,j,e)->a<18446744073709551616/\(e=0->k<j/\j<=k+l.length)/\e<=11
 |[],k,n,a,j,e,_,_,h=>by
  simp only[num,Prod.mk.injEq] at h;omega
 |c::r,k,n,a,j,e,hk,hn,h=>by
  by_cases h1:(0<k/\c.toNat=0)\/(8<k/\1<c.toNat)
  ·rw[gAZ h1] at h;simp only[Prod.mk.injEq] at h;omega
  ·have hr:=room n c.toNat k hk hn (by omega);by_cases h2:c.toNat<128
   ·rw[gTZ h1 h2] at h;simp only[Prod.mk.injEq] at h;simp only[List.length_cons];omega
   ·rw[f5Z h1 (by omega)] at h;have:=hsZ r (k+1) _ a j e (by omega) (hr.2 (by omega)) h;simp only[List.length_cons];omega
theorem dtZ(l:List UInt8)(p:Int):(getUint l p).1<18446744073709551616/\(getUint l p).2.1<=l.length/\(getUint l p).2.2<=11/\((getUint l p).2.2=0->0<(getUint l p).2.1)/\((getUint l p).2.2≠0->(getUint l p).1=0/\(getUint l p).2.1=0):=by
 unfold getUint;split
 ·simp
 ·rename_i h;rcases hq:num (l.drop p.toNat) 0 0 with⟨a,j,e⟩;have:=hsZ _ 0 0 a j e (by omega) (by simp) hq;simp only[List.length_drop] at this;by_cases he:e=0
  ·simp only[he,if_true];exact⟨this.1,by omega,by omega,fun _=>by omega,fun h=>absurd rfl h⟩
  ·simp only[if_neg he];exact⟨by omega,by omega,by omega,fun h=>absurd h he,fun _=>by simp⟩
theorem dSZ{l:List UInt8}{p most:Int}{n j e:Nat}(h:getUint l p=(n,j,e))(he:e≠0):getBlob l p most=([],0,e):=by
 unfold getBlob;simp[h,he]
theorem duZ{l:List UInt8}{p most:Int}{n j:Nat}(h:getUint l p=(n,j,0))(hm:most<0\/most<n):getBlob l p most=([],0,3):=by
 unfold getBlob;simp[h,hm]
theorem cRZ{l:List UInt8}{p most:Int}{n j:Nat}(h:getUint l p=(n,j,0))(hm:¬(most<0\/most<n))(hs:l.length-j<n):getBlob l p most=([],0,11):=by
 unfold getBlob;simp[h,hm,hs]
theorem eZZ{l:List UInt8}{p most:Int}{n j:Nat}(h:getUint l p=(n,j,0))(hm:¬(most<0\/most<n))(hs:¬l.length-j<n):getBlob l p most=((l.drop j).take n,j+n,0):=by
 unfold getBlob;simp[h,hm,hs]
def step(T:List Nat)(s:Nat)(b:UInt8):Nat:=s/256^^^T.getD (s%256^^^b.toNat) 0
def run(T:List Nat)(s:Nat)(l:List UInt8):Nat:=l.foldl (step T) s
def sum(T:List Nat)(l:List UInt8):Nat:=4294967295-run T 4294967295 l
def Tab(T:List Nat):Prop:=T.length=256/\∀x∈T,x<4294967296
theorem Tab.lt{T:List Nat}(h:Tab T)(k:Nat):T.getD k 0<4294967296:=by
 rcases Nat.lt_or_ge k T.length with hk|hk
 ·rw[List.getD_eq_getElem?_getD,List.getElem?_eq_getElem hk];exact h.2 _ (List.getElem_mem hk)
 ·rw[List.getD_eq_getElem?_getD,List.getElem?_eq_none hk]
  decide
theorem flZ{a b:Nat}(ha:a<4294967296)(hb:b<4294967296):a^^^b<4294967296:=Nat.xor_lt_two_pow (n:=32) ha hb
theorem heZ{a b:Nat}(ha:a<256)(hb:b<256):a^^^b<256:=Nat.xor_lt_two_pow (n:=8) ha hb
theorem lAZ{T:List Nat}(h:Tab T){s:Nat}(hs:s<4294967296)(b:UInt8):step T s b<4294967296:=flZ (by omega) (h.lt _)
theorem run_lt{T:List Nat}(h:Tab T):∀(l:List UInt8) {s:Nat},s<4294967296->run T s l<4294967296
 |[],_,hs=>hs
 |b::r,_,hs=>run_lt h r (lAZ h hs b)
theorem run_snoc(T:List Nat)(s:Nat)(l:List UInt8)(b:UInt8):run T s (l++[b])=step T (run T s l) b:=by simp[run]
theorem sum_lt(T:List Nat)(l:List UInt8):sum T l<4294967296:=by unfold sum;omega
def halved(n:Nat):Nat:=n/2^^^2197175160*(n%2)
theorem jBZ{n:Nat}(h:n<4294967296):halved n<4294967296:=by
 have h1:n%2<2:=Nat.mod_lt _ (by omega);exact flZ (by omega) (by omega)
def hv:Nat->Nat
 |0=>2197175160
 |k+1=>halved (hv k)
def zeros:List Nat:=List.replicate 256 0
def tab1:Nat->List Nat
 |0=>zeros
 |k+1=>(tab1 k).set (128/2^k) (hv k)
def fill(T:List Nat)(k:Nat):Nat->List Nat
 |0=>T
 |low+1=>(fill T k low).set (2^k+low) ((fill T k low).getD (2^k) 0^^^(fill T k low).getD low 0)
def tab2:Nat->List Nat
 |0=>tab1 8
 |k+1=>fill (tab2 k) k (2^k)
def crcT:List Nat:=tab2 8
def entry(i:Nat):Nat:=halved (halved (halved (halved (halved (halved (halved (halved i)))))))
theorem mFZ:∀k,hv k<4294967296
 |0=>by decide
 |k+1=>jBZ (mFZ k)
theorem Tab.set{T:List Nat}(h:Tab T)(i:Nat){v:Nat}(hv:v<4294967296):Tab (T.set i v):=
 ⟨by rw[List.length_set];exact h.1,fun x hx=>by
  rcases List.mem_or_eq_of_mem_set hx with h1|h1
  ·exact h.2 x h1
  ·rw[h1];exact hv⟩
theorem j1Z:Tab zeros:=⟨List.length_replicate,fun x hx=>by rw[(List.mem_replicate.1 hx).2];decide⟩
theorem hoZ:∀k,Tab (tab1 k)
 |0=>j1Z
 |k+1=>(hoZ k).set _ (mFZ k)
theorem d4Z{T:List Nat}(h:Tab T)(k:Nat):∀low,Tab (fill T k low)
 |0=>h
 |low+1=>(d4Z h k low).set _ (flZ ((d4Z h k low).lt _) ((d4Z h k low).lt _))
theorem hwZ:∀k,Tab (tab2 k)
 |0=>hoZ 8
 |k+1=>d4Z (hwZ k) k _
theorem bdZ:Tab crcT:=hwZ 8
theorem lFZ:crcT=(List.range 256).map entry:=by decide+kernel
def be4(s:Nat):List UInt8:=[UInt8.ofNat (s/16777216),UInt8.ofNat (s/65536),UInt8.ofNat (s/256),UInt8.ofNat s]
def sealed(S:List UInt8->Nat)(l:List UInt8):List UInt8:=l++be4 (S l)
def laid4(n s k:Nat):List UInt8:=List.replicate (n+(4-k)) 0++(be4 s).drop (4-k)
theorem fYZ(n s k:Nat)(h:k<=4):(laid4 n s k).length=n+4:=by simp[laid4,be4];omega
theorem dCZ(m:Nat)(R:List UInt8)(b:UInt8):(List.replicate (m+1) 0++R).set m b=List.replicate m 0++b::R:=by
 rw[List.set_append_left _ _ (by simp)];rw[List.replicate_succ',List.set_append_right _ _ (by simp)];simp
theorem feZ(n s k:Nat)(h:k<4):(laid4 n s k).set (n+3-k) (UInt8.ofNat (s/2^(8*k)))=laid4 n s (k+1):=by
 have hk:k=0\/k=1\/k=2\/k=3:=by omega
 rcases hk with rfl|rfl|rfl|rfl
 ·have:=dCZ (n+3) [] (UInt8.ofNat s);simpa[laid4,be4] using this
 ·have:=dCZ (n+2) [UInt8.ofNat s] (UInt8.ofNat (s/256));simpa[laid4,be4] using this
 ·have:=dCZ (n+1) [UInt8.ofNat (s/256),UInt8.ofNat s] (UInt8.ofNat (s/65536));simpa[laid4,be4] using this
 ·have:=dCZ n [UInt8.ofNat (s/65536),UInt8.ofNat (s/256),UInt8.ofNat s] (UInt8.ofNat (s/16777216));simpa[laid4,be4] using this
theorem gxZ(n s:Nat):laid4 n s 4=List.replicate n 0++be4 s:=by simp[laid4]
def unsealed(S:List UInt8->Nat)(l:List UInt8):List UInt8×Nat:=
 if l.length<4 then([],11) else if sealed S (l.take (l.length-4))=l then(l.take (l.length-4),0) else([],12)
theorem bfZ(S:List UInt8->Nat){l:List UInt8}(h:l.length<4):unsealed S l=([],11):=by unfold unsealed;rw[if_pos h]
theorem bWZ(S:List UInt8->Nat){l:List UInt8}(h:4<=l.length):unsealed S l=if sealed S (l.take (l.length-4))=l then(l.take (l.length-4),0) else([],12):=by
 unfold unsealed;rw[if_neg (by omega)]
def comesL(l:List UInt8)(p:Int):List UInt8:=
 match getUint l p with
 |(n,j,e)=>if e≠0 then[101,114,114,111,114,32]++varint e else varint n++[32]++varint j
end Go.P1
namespace Go.P1
theorem dDZ(a b:Nat):(a^^^b)%2=(a%2)^^^(b%2):=by
 have h:=Nat.xor_mod_two_pow (a:=a) (b:=b) (n:=1);simpa using h
theorem dAZ(a b:Nat):(a^^^b)/2=(a/2)^^^(b/2):=by
 have h:=Nat.shiftRight_xor_distrib (a:=a) (b:=b) (i:=1);simpa[Nat.shiftRight_eq_div_pow] using h
theorem iwZ(a b:Nat):(a^^^b)%256=(a%256)^^^(b%256):=by
 have h:=Nat.xor_mod_two_pow (a:=a) (b:=b) (n:=8);simpa using h
theorem ivZ(a b:Nat):(a^^^b)/256=(a/256)^^^(b/256):=by
 have h:=Nat.shiftRight_xor_distrib (a:=a) (b:=b) (i:=8);simpa[Nat.shiftRight_eq_div_pow] using h
theorem xor4(a b c d:Nat):(a^^^b)^^^(c^^^d)=(a^^^c)^^^(b^^^d):=by
 rw[Nat.xor_assoc,<-Nat.xor_assoc b c d,Nat.xor_comm b c,Nat.xor_assoc c b d,<-Nat.xor_assoc]
theorem eSZ(a b:Nat):halved (a^^^b)=halved a^^^halved b:=by
 unfold halved;rw[dAZ,dDZ,xor4];congr 1;have ha:a%2=0\/a%2=1:=by omega
 have hb:b%2=0\/b%2=1:=by omega
 rcases ha with ha|ha<;>rcases hb with hb|hb<;>rw[ha,hb]<;>simp
theorem laZ{i:Nat}(h:i<256):crcT.getD i 0=entry i:=by
 rw[lFZ];simp[List.getD,h]
end Go.P1
namespace Go.P1
end Go.P1
namespace Go.P1
def D(i:Nat):Nat:=run crcT 0 (UInt8.ofNat (2^(i%8))::List.replicate (i/8) 0)
end Go.P1
namespace Go.P1
def iter(n:Nat)(a:Nat):Nat:=Nat.repeat halved n a
theorem halved_even(n:Nat):halved (2*n)=n:=by
 unfold halved;rw[show 2*n/2=n by omega,show 2*n%2=0 by omega];simp
theorem split256(s:Nat):s=(256*(s/256))^^^(s%256):=by
 have h:=Nat.two_pow_add_eq_or_of_lt (i:=8) (b:=s%256) (by omega) (s/256);have e:s=2^8*(s/256)+s%256:=by omega
 have h2:2^8*(s/256)^^^s%256=2^8*(s/256)|||s%256:=by
  apply Nat.eq_of_testBit_eq;intro i;rw[Nat.testBit_xor,Nat.testBit_or];by_cases hi:i<8
  ·have:(2^8*(s/256)).testBit i=false:=by rw[Nat.testBit_two_pow_mul];simp;omega
   rw[this];simp
  ·have:(s%256).testBit i=false:=Nat.testBit_lt_two_pow (Nat.lt_of_lt_of_le (show s%256<2^8 by omega) (Nat.pow_le_pow_right (by omega) (by omega)));rw[this];simp
 show s=2^8*(s/256)^^^s%256;rw[h2,<-h];exact e
end Go.P1
namespace Go.P1
def Told(b x:List UInt8):Prop:=x.length=b.length/\(sum crcT x=sum crcT b->x=b)
def burst(b:List UInt8)(k f:Nat):Nat->List UInt8
 |0=>b
 |t+1=>(burst b k f t).set (k+t) ((burst b k f t).getD (k+t) 0^^^UInt8.ofNat (f/2^(8*t)))
def fs(f:Nat):Nat->List UInt8
 |0=>[]
 |t+1=>fs f t++[UInt8.ofNat (f/2^(8*t))]
end Go.P1
namespace Go.P1
theorem v300:varint 300=[172,2]:=by rw[ckZ (by omega),aXZ (by omega)];decide
theorem v2:varint 2=[2]:=by rw[aXZ (by omega)];decide
theorem v10:varint 10=[10]:=by rw[aXZ (by omega)];decide
theorem v11:varint 11=[11]:=by rw[aXZ (by omega)];decide
theorem c1:comesL [172,2] 0=[172,2,32,2]:=by
 have h:getUint [172,2] 0=(300,2,0):=by decide
 unfold comesL;rw[h];simp[v300,v2]
theorem c2:comesL [128,0] 0=[101,114,114,111,114,32,10]:=by
 have h:getUint [128,0] 0=(0,0,10):=by decide
 unfold comesL;rw[h];simp[v10]
theorem c3:comesL [128] 0=[101,114,114,111,114,32,11]:=by
 have h:getUint [128] 0=(0,0,11):=by decide
 unfold comesL;rw[h];simp[v11]
theorem t0:crcT.getD 0 0=0:=by decide+kernel
end Go.P1
namespace Go.P1
def weigh(l:List UInt8):Nat:=l.foldr (fun c s=>s*128+c.toNat%128) 0
def W(l:List UInt8)(j i:Nat):Nat:=weigh ((l.take j).drop i)
end Go.P1
namespace Go.P1
theorem giZ{l:List UInt8}{p:Nat}(hp:p<=l.length):getUint l p=if(num (l.drop p) 0 0).2.2=0 then((num (l.drop p) 0 0).1,p+(num (l.drop p) 0 0).2.1,0) else(0,0,(num (l.drop p) 0 0).2.2):=by
 unfold getUint;rw[if_neg (by omega)];simp
end Go.P1
