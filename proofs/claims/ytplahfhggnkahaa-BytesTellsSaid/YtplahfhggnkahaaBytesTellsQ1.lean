/- What the functions compute; the plain law. -/
import Derived.Test.YtplahfhggnkahaaBytesTellsD1
import Derived.Test.YtplahfhggnkahaaBytesTellsP1
set_option linter.all false
namespace Go.Ab
theorem w64{x:Int}(h: -9223372036854775808<=x/\x<=9223372036854775807):IntKind.wrap .i64 x=x:=by
 simp only[IntKind.wrap,IntKind.bits,IntKind.signed];simp;omega
theorem wu64{x:Int}(h:0<=x/\x<=18446744073709551615):IntKind.wrap .u64 x=x:=by
 simp only[IntKind.wrap,IntKind.bits,IntKind.signed];simp;omega
theorem wu32{x:Int}(h:0<=x/\x<=4294967295):IntKind.wrap .u32 x=x:=by
 simp only[IntKind.wrap,IntKind.bits,IntKind.signed];simp;omega
theorem wu8{x:Int}(h:0<=x/\x<=255):IntKind.wrap .u8 x=x:=by
 simp only[IntKind.wrap,IntKind.bits,IntKind.signed];simp;omega
theorem c8Z(x:Int):IntKind.wrap .u8 x=x%256:=by
 simp only[IntKind.wrap,IntKind.bits,IntKind.signed];simp
theorem hlZ(x:Int):IntKind.wrap .u32 x=x%4294967296:=by
 simp only[IntKind.wrap,IntKind.bits,IntKind.signed];simp
theorem h3Z(k:IntKind){a b:Nat}(ha:a<2^k.bits)(hb:b<2^k.bits)(hw:∀x:Int,0<=x/\x<2^k.bits->k.wrap x=x):bitsI .xor k a b=((a^^^b:Nat):Int):=by
 have h:=Nat.xor_lt_two_pow ha hb;simp only[bitsI,BitVec.ofInt_natCast,<-BitVec.ofNat_xor,BitVec.toNat_ofNat,Nat.mod_eq_of_lt h];exact hw _ ⟨by omega,by exact_mod_cast h⟩
theorem xor8{a b:Nat}(ha:a<256)(hb:b<256):bitsI .xor .u8 a b=((a^^^b:Nat):Int):=h3Z .u8 ha hb fun x h=>wu8 ⟨h.1,by have:=h.2;simp[IntKind.bits] at this;omega⟩
theorem lJZ{a b:Nat}(ha:a<4294967296)(hb:b<4294967296):bitsI .xor .u32 a b=((a^^^b:Nat):Int):=h3Z .u32 ha hb fun x h=>wu32 ⟨h.1,by have:=h.2;simp[IntKind.bits] at this;omega⟩
theorem dBZ(a b:Nat):Int.fdiv (a:Int) (b:Int)=((a/b:Nat):Int):=by
 rw[Int.fdiv_eq_ediv_of_nonneg _ (by omega)];rfl
theorem bwZ{i n:Nat}(h:i<n):idx? (i:Int) n=some i:=by simp[idx?,h]
theorem aHZ{i n:Nat}(h:i<=n):upto? (i:Int) n=some i:=by simp[upto?,h]
theorem bgZ{n:Nat}(h:n<256):byte? (n:Int)=some (UInt8.ofNat n):=by
 have:(n:Int)<256:=by omega
 simp[byte?,this]
theorem amZ{β:Type}{b:Bool}{K:Option β}(h:b=true):need b K=K:=by subst h;rfl
theorem a9Z{a b:Nat}(h:a<=b):Nat.ble a b=true:=Nat.ble_eq_true_of_le h
theorem fTZ{β:Type}{n:Nat}{K:Bool->Option β}(h:n=0->K true=K false):nilQ n K=K false:=by
 unfold nilQ;rw[if_pos h]
theorem k5Z{n:Nat}(h:n<4611686018427387904):∃m,fuel=m+(n+1):=⟨4611686018427387903-n,by unfold fuel;omega⟩
theorem eUZ{τ ο:Type}{f:τ->Option (τ⊕ο)}(S:Nat->τ):∀(n m:Nat),(∀k,k<n->f (S k)=some (.inl (S (k+1))))->iter (m+n) f (S 0)=iter m f (S n)
 |0,m,_=>rfl
 |n+1,m,h=>by
  have e:m+(n+1)=(m+1)+n:=by omega
  rw[e,eUZ S n (m+1) fun k hk=>h k (by omega)];show(f (S n)).ob _=_;rw[h n (by omega)]
  rfl
theorem aZZ{τ ο:Type}{f:τ->Option (τ⊕ο)}{o:ο}(S:Nat->τ)(n:Nat)(hn:n<4611686018427387904)(hs:∀k,k<n->f (S k)=some (.inl (S (k+1))))(he:f (S n)=some (.inr o)):iter fuel f (S 0)=some o:=by
 obtain⟨m,hm⟩:=k5Z hn;have e:fuel=(m+1)+n:=by omega
 rw[e,eUZ S n (m+1) hs];show(f (S n)).ob _=_;rw[he]
 rfl
theorem hvZ{τ ο:Type}{f:τ->Option (τ⊕ο)}{s s':τ}{n:Nat}(h:f s=some (.inl s')):iter (n+1) f s=iter n f s':=by
 show(f s).ob _=_;rw[h]
 rfl
theorem knZ{τ ο:Type}{f:τ->Option (τ⊕ο)}{s:τ}{o:ο}{n:Nat}(h:f s=some (.inr o)):iter (n+1) f s=some o:=by
 show(f s).ob _=_;rw[h]
 rfl
end Go.Ab
namespace Go.Ab.D
open Go.P1
def tabI(T:List Nat):List Int:=T.map fun(n:Nat)=>(n:Int)
theorem f0Z(T:List Nat):(tabI T).length=T.length:=by simp[tabI]
theorem d8Z{T:List Nat}(h:Tab T){i:Nat}(hi:i<256):(tabI T)[i]? =some ((T.getD i 0:Nat):Int):=by
 have:i<T.length:=by rw[h.1];exact hi
 simp[tabI,this]
theorem kYZ:bTab fuel=some (tabI crcT):=by kernel_rfl
theorem kzZ{T:List Nat}(h:Tab T){b:List UInt8}(s k:Nat)(hk:k<b.length)(hb:b.length<9223372036854775807)(hs:s<4294967296):
 bytes_Sum_l0 fuel b (tabI T) (s:Int) (k:Int)=some (.inl (((P1.step T s b[k]:Nat):Int),((k+1:Nat):Int))):=by
 unfold bytes_Sum_l0;have h1:decide ((k:Int)<((b.length:Nat):Int))=true:=decide_eq_true (by omega);have hc:=b[k].toNat_lt;have hm:s%256<256:=Nat.mod_lt _ (by omega);have hx:s%256^^^b[k].toNat<256:=heZ hm hc;have e1:IntKind.wrap .u8 (s:Int)=((s%256:Nat):Int):=by rw[c8Z];omega
 have e2:Int.fdiv (s:Int) 256=((s/256:Nat):Int):=dBZ s 256;have e3:IntKind.wrap .i64 ((k:Int)+1)=((k+1:Nat):Int):=by rw[w64 ⟨by omega,by omega⟩];omega
 have ht:=h.lt (s%256^^^b[k].toNat);simp only[h1,cond_true,bwZ hk,Option.bind_some,List.getElem?_eq_getElem hk,e1,xor8 hm hc,bwZ hx,d8Z h hx,e2,lJZ ht (show s/256<4294967296 by omega),e3];rw[P1.step,Nat.xor_comm]
theorem h6Z{T:List Nat}(h:Tab T){b:List UInt8}(hb:b.length<4611686018427387904):bytes_Sum fuel (tabI T) b=some ((P1.sum T b:Nat):Int):=by
 unfold bytes_Sum bytes_Sum_l0_it;have e:iter fuel (fun tt=>bytes_Sum_l0 fuel b (tabI T) tt.1 tt.2) (4294967295,0)=some ((P1.run T 4294967295 b:Nat):Int):=by
  have:=aZZ (f:=fun(tt:Int×Int)=>bytes_Sum_l0 fuel b (tabI T) tt.1 tt.2) (o:=((P1.run T 4294967295 b:Nat):Int)) (fun k=>(((P1.run T 4294967295 (b.take k):Nat):Int),(k:Int))) b.length hb
   (fun k hk=>by
    rw[kzZ h _ k hk (by omega) (P1.run_lt h _ (by omega))];rw[List.take_succ_eq_append_getElem hk,P1.run_snoc])
   (by
    simp only[List.take_length];unfold bytes_Sum_l0;rw[decide_eq_false (by omega)]
    rfl)
  simpa[P1.run] using this
 rw[e];have hl:=P1.run_lt h b (s:=4294967295) (by omega);simp only[Option.bind_some];rw[wu32 ⟨by omega,by omega⟩];congr 1;unfold P1.sum;omega
theorem lPZ{b:List UInt8}(h:b.length<=room):lCopByt fuel b=some b:=by
 unfold lCopByt;rw[amZ (by rw[Nat.mul_one,a9Z h];rfl)]
theorem hFZ{b:List UInt8}(h:b.length<=room):sClo fuel b=some b:=by
 unfold sClo;have hn:need (Nat.ble ((0+b.length)*1) room&&Nat.ble (0+b.length) room) (some b)=some b:=amZ (by rw[Nat.zero_add,Nat.mul_one,a9Z h];rfl);rw[fTZ (fun h0=>by
  have:b=[]:=List.eq_nil_of_length_eq_zero h0;subst this;rw[hn]
  rfl)]
 rw[hn]
 rfl
theorem gQZ{T:List Nat}(h:Tab T){b:List UInt8}(hb:b.length+4<=140737488355328):bSea fuel (tabI T) b=some (sealed (P1.sum T) b):=by
 have hs:=P1.sum_lt T b;have e0:IntKind.wrap .i64 (((b.length:Nat):Int)+4)=((b.length+4:Nat):Int):=by rw[w64 ⟨by omega,by omega⟩];omega
 unfold bSea;rw[e0,aHZ (show b.length+4<=room from hb)];simp only[Option.bind_some];rw[aHZ (Nat.le_refl _)];simp only[Option.bind_some];rw[amZ (by rw[Nat.mul_one,a9Z (show b.length+4<=room from hb)]),h6Z h (by omega)];simp only[Option.bind_some];have e:bSea_l0_it fuel b ((P1.sum T b:Nat):Int) (0,List.replicate (b.length+4) 0)=some (laid4 b.length (P1.sum T b) 4):=by
  unfold bSea_l0_it;have:=aZZ (f:=fun(tt:Int×List UInt8)=>bSea_l0 fuel b ((P1.sum T b:Nat):Int) tt.1 tt.2) (o:=laid4 b.length (P1.sum T b) 4) (fun k=>((k:Int),laid4 b.length (P1.sum T b) k)) 4 (by decide)
   (fun k hk=>by
    have hlen:=fYZ b.length (P1.sum T b) k (by omega);have e1:IntKind.wrap .i64 (8*(k:Int))=((8*k:Nat):Int):=by rw[w64 ⟨by omega,by omega⟩];omega
    have e2:IntKind.wrap .i64 (IntKind.wrap .i64 (((b.length+4:Nat):Int)-1)-(k:Int))=((b.length+3-k:Nat):Int):=by
     rw[w64 (x:=((b.length+4:Nat):Int)-1) ⟨by omega,by omega⟩,w64 ⟨by omega,by omega⟩];omega
    have e3:(2:Int)^(min ((8*k:Nat):Int).toNat 32)=((2^(8*k):Nat):Int):=by
     have:min ((8*k:Nat):Int).toNat 32=8*k:=by omega
     rw[this];simp
    have e4:IntKind.wrap .u8 (Int.fdiv ((P1.sum T b:Nat):Int) ((2^(8*k):Nat):Int))=((P1.sum T b/2^(8*k)%256:Nat):Int):=by rw[dBZ,c8Z];omega
    have hq:b.length+3-k<(laid4 b.length (P1.sum T b) k).length:=by omega
    show bSea_l0 fuel b _ (k:Int) (laid4 b.length (P1.sum T b) k)=_;unfold bSea_l0;rw[decide_eq_true (show(k:Int)<4 by omega),e1,e0,e2,e3,e4,amZ (decide_eq_true (by omega)),bwZ hq,bgZ (Nat.mod_lt _ (by omega))];simp only[cond_true,Option.bind_some,List.getElem?_eq_getElem hq];rw[w64 ⟨by omega,by omega⟩,<-feZ b.length (P1.sum T b) k hk];have:UInt8.ofNat (P1.sum T b/2^(8*k)%256)=UInt8.ofNat (P1.sum T b/2^(8*k)):=by
     apply UInt8.toNat_inj.1;simp
    rw[this]
    rfl)
   (by
    show bSea_l0 fuel b _ ((4:Nat):Int) (laid4 b.length (P1.sum T b) 4)=_;unfold bSea_l0;rw[decide_eq_false (by omega)]
    rfl)
  have h0:laid4 b.length (P1.sum T b) 0=List.replicate (b.length+4) 0:=by
   unfold laid4;simp[be4]
  simp only[h0] at this;exact this
 rw[e];simp only[Option.bind_some];congr 1;rw[gxZ];unfold splice sealed;have:List.take (List.replicate b.length (0:UInt8)++be4 (P1.sum T b)).length b=b:=List.take_of_length_le (by simp);rw[this];simp
theorem fWZ{T:List Nat}(h:Tab T){b:List UInt8}(hb:b.length<=140737488355328):bUns fuel (tabI T) b=some ((unsealed (P1.sum T) b).1,(((unsealed (P1.sum T) b).2:Nat):Int)):=by
 unfold bUns;by_cases h4:b.length<4
 ·rw[decide_eq_true (by omega),bfZ _ h4]
  rfl
 ·rw[decide_eq_false (by omega)];have e0:IntKind.wrap .i64 (((b.length:Nat):Int)-4)=((b.length-4:Nat):Int):=by rw[w64 ⟨by omega,by omega⟩];omega
  have hl:(b.take (b.length-4)).length=b.length-4:=by simp
  simp only[cond_false];rw[e0,aHZ (by omega)];simp only[Option.bind_some];rw[hFZ (by rw[hl];unfold room;omega)];simp only[Option.bind_some];rw[gQZ h (by rw[hl];omega)];simp only[Option.bind_some];rw[bWZ _ (by omega)];by_cases he:sealed (P1.sum T) (b.take (b.length-4))=b
  ·rw[if_pos he];simp[he]
  ·rw[if_neg he];have:(sealed (P1.sum T) (b.take (b.length-4))==b)=false:=by simpa using he
   rw[this]
   rfl
end Go.Ab.D
namespace Go.Ab.D
open Go.P1
def getF(b:List UInt8)(at_:Int)(tt:Int×Int):Option ((Int×Int)⊕(Unit⊕(Int×(Int×Int)))):=bGetUin_l0 fuel b at_ tt.1 tt.2
def getRes(at_:Nat)(r:Nat×Nat×Nat):Unit⊕(Int×(Int×Int)):=if r.2.2=11 then .inl () else if r.2.2=0 then .inr ((r.1:Int),(((at_+r.2.1:Nat):Int),0)) else .inr (0,(0,((r.2.2:Nat):Int)))
theorem kTZ{b:List UInt8}{at_ k n:Nat}(hb:b.length<4611686018427387904)(hk:k<=9)(hn:n<2^(7*k))(hlt:at_+k<b.length)(hc:b[at_+k].toNat%128=b[at_+k].toNat%128):
 getF b (at_:Int) ((n:Int),((at_+k:Nat):Int))=
  if(0<k/\b[at_+k].toNat=0)\/(8<k/\1<b[at_+k].toNat) then some (.inr (.inr (0,(0,10))))
  else if b[at_+k].toNat<128 then some (.inr (.inr (((n+b[at_+k].toNat%128*2^(7*k):Nat):Int),(((at_+k+1:Nat):Int),0))))
  else some (.inl (((n+b[at_+k].toNat%128*2^(7*k):Nat):Int),((at_+k+1:Nat):Int))):=by
 show bGetUin_l0 fuel b (at_:Int) (n:Int) ((at_+k:Nat):Int)=_;unfold bGetUin_l0;obtain⟨c,hcc⟩:∃c,b[at_+k]=c:=⟨_,rfl⟩;have hc8:=c.toNat_lt;have e1:IntKind.wrap .i64 (((at_+k:Nat):Int)-(at_:Int))=(k:Int):=by rw[w64 ⟨by omega,by omega⟩];omega
 rw[decide_eq_true (by omega),bwZ hlt];simp only[cond_true,Option.bind_some,List.getElem?_eq_getElem hlt,hcc,e1];have hz:(((c.toNat:Nat):Int)==0)=decide (c.toNat=0):=by
  by_cases h:c.toNat=0
  ·simp[h]
  ·rw[decide_eq_false h,beq_eq_false_iff_ne];omega
 have e7:IntKind.wrap .i64 (7*(k:Int))=((7*k:Nat):Int):=by rw[w64 ⟨by omega,by omega⟩];omega
 have em:min ((7*k:Nat):Int).toNat 64=7*k:=by omega
 have et:Int.tmod ((c.toNat:Nat):Int) 128=((c.toNat%128:Nat):Int):=rfl;have hm:c.toNat%128<128:=Nat.mod_lt _ (by omega);have ewu:IntKind.wrap .u64 ((c.toNat%128:Nat):Int)=((c.toNat%128:Nat):Int):=wu64 ⟨by omega,by omega⟩;by_cases hbad:(0<k/\c.toNat=0)\/(8<k/\1<c.toNat)
 ·rw[if_pos hbad];rcases hbad with⟨h1,h2⟩|⟨h1,h2⟩
  ·rw[decide_eq_true (show(k:Int)>0 by omega),hz,decide_eq_true h2]
   rfl
  ·rw[decide_eq_true (show(k:Int)>0 by omega),hz,decide_eq_false (by omega),decide_eq_true (show(k:Int)>8 by omega),decide_eq_true (show((c.toNat:Nat):Int)>1 by omega)]
   rfl
 ·rw[if_neg hbad];have hroom:=P1.room n c.toNat k hk hn (fun h8=>by omega);have ep:((c.toNat%128:Nat):Int)*2^(7*k)=((c.toNat%128*2^(7*k):Nat):Int):=by simp
  have ew:IntKind.wrap .u64 ((n:Int)+IntKind.wrap .u64 (IntKind.wrap .u64 ((c.toNat%128:Nat):Int)*2^(min (IntKind.wrap .i64 (7*(k:Int))).toNat 64)))=((n+c.toNat%128*2^(7*k):Nat):Int):=by
   rw[ewu,e7,em,ep,wu64 (x:=((c.toNat%128*2^(7*k):Nat):Int)) ⟨by omega,by omega⟩,wu64 ⟨by omega,by omega⟩];omega
  have hguard:(bif decide ((k:Int)>0) then bif decide (c.toNat=0) then some true else bif decide ((k:Int)>8) then some (decide (((c.toNat:Nat):Int)>1)) else some false
   else bif decide ((k:Int)>8) then some (decide (((c.toNat:Nat):Int)>1)) else some false)=some false:=by
   by_cases h0:0<k
   ·have:¬c.toNat=0:=fun h=>hbad (.inl ⟨h0,h⟩);rw[decide_eq_true (show(k:Int)>0 by omega),decide_eq_false this];by_cases h8:8<k
    ·have:¬1<c.toNat:=fun h=>hbad (.inr ⟨h8,h⟩);rw[decide_eq_true (show(k:Int)>8 by omega),decide_eq_false (show¬((c.toNat:Nat):Int)>1 by omega)]
     rfl
    ·rw[decide_eq_false (show¬(k:Int)>8 by omega)]
     rfl
   ·rw[decide_eq_false (show¬(k:Int)>0 by omega),decide_eq_false (show¬(k:Int)>8 by omega)]
    rfl
  rw[hz,hguard];simp only[Option.bind_some,cond_false,et,ew];have ex:IntKind.wrap .i64 (((at_+k:Nat):Int)+1)=((at_+k+1:Nat):Int):=by rw[w64 ⟨by omega,by omega⟩];omega
  rw[e7,amZ (decide_eq_true (by omega)),ex];by_cases h128:c.toNat<128
  ·rw[if_pos h128,decide_eq_true (show((c.toNat:Nat):Int)<128 by omega)]
   rfl
  ·rw[if_neg h128,decide_eq_false (show¬((c.toNat:Nat):Int)<128 by omega)]
   rfl
theorem hqZ{b:List UInt8}{at_:Nat}(hb:b.length<4611686018427387904):∀(rem k n m:Nat),at_+k+rem=b.length->rem<m->k<=9->n<2^(7*k)->
 iter m (getF b (at_:Int)) ((n:Int),((at_+k:Nat):Int))=some (getRes at_ (num (b.drop (at_+k)) k n))
 |0,k,n,m,h,hm,hk,hn=>by
  obtain⟨m,rfl⟩:∃j,m=j+1:=⟨m-1,by omega⟩;have:b.drop (at_+k)=[]:=List.drop_of_length_le (by omega);rw[this];show(getF b (at_:Int) _).ob _=_;have e:getF b (at_:Int) ((n:Int),((at_+k:Nat):Int))=some (.inr (.inl ())):=by
   show bGetUin_l0 fuel b (at_:Int) (n:Int) ((at_+k:Nat):Int)=_;unfold bGetUin_l0;rw[decide_eq_false (by omega)]
   rfl
  rw[e]
  rfl
 |rem+1,k,n,m,h,hm,hk,hn=>by
  obtain⟨m,rfl⟩:∃j,m=j+1:=⟨m-1,by omega⟩;have hlt:at_+k<b.length:=by omega
  rw[iOZ hlt];show(getF b (at_:Int) _).ob _=_;rw[kTZ hb hk hn hlt rfl];by_cases hbad:(0<k/\b[at_+k].toNat=0)\/(8<k/\1<b[at_+k].toNat)
  ·rw[if_pos hbad,gAZ hbad]
   rfl
  ·rw[if_neg hbad];by_cases h128:b[at_+k].toNat<128
   ·rw[if_pos h128,gTZ hbad h128];show some _=some _;simp[getRes];omega
   ·rw[if_neg h128,f5Z hbad (by omega)];have hroom:=P1.room n b[at_+k].toNat k hk hn (fun h8=>by omega);have hk8:k<=8:=by
     by_cases h9:k<=8
     ·exact h9
     ·exfalso;exact hbad (.inr ⟨by omega,by omega⟩)
    have:=hqZ (at_:=at_) hb rem (k+1) (n+b[at_+k].toNat%128*2^(7*k)) m (by omega) (by omega) (by omega) (hroom.2 hk8);exact this
theorem eKZ{b:List UInt8}{at_:Int}(hb:b.length<4611686018427387904):bGetUin fuel b at_=some ((((getUint b at_).1:Nat):Int),((((getUint b at_).2.1:Nat):Int),(((getUint b at_).2.2:Nat):Int))):=by
 unfold bGetUin;by_cases hout:at_<0\/(b.length:Int)<at_
 ·rw[e5Z hout];rcases hout with h|h
  ·rw[decide_eq_true h]
   rfl
  ·by_cases h0:at_<0
   ·rw[decide_eq_true h0];rfl
   ·rw[decide_eq_false h0,decide_eq_true (show at_>((b.length:Nat):Int) by omega)]
    rfl
 ·obtain⟨a,rfl⟩:∃a:Nat,at_=a:=⟨at_.toNat,by omega⟩;rw[decide_eq_false (by omega),decide_eq_false (by omega)];simp only[cond_false,Option.bind_some];unfold bGetUin_l0_it;have hl:iter fuel (fun tt=>bGetUin_l0 fuel b (a:Int) tt.1 tt.2) ((0:Int),(a:Int))=some (getRes a (num (b.drop a) 0 0)):=
   hqZ hb (b.length-a) 0 0 fuel (by omega) (by unfold fuel;omega) (by omega) (by decide)
  rw[hl];simp only[Option.bind_some];obtain⟨n,j,e,hnum⟩:∃n j e,num (b.drop a) 0 0=(n,j,e):=⟨_,_,_,rfl⟩;have hg:getUint b (a:Int)=if e=0 then(n,a+j,0) else(0,0,e):=by
   unfold getUint;rw[if_neg (by omega)];simp only[Int.toNat_natCast,hnum]
  rw[hg,hnum];unfold getRes;by_cases h11:e=11
  ·subst h11;rfl
  ·by_cases h0:e=0
   ·subst h0;rfl
   ·simp only[h11,h0,if_false]
    rfl
end Go.Ab.D
set_option maxRecDepth 100000
namespace Go.Ab.D
open Go.P1
attribute [local irreducible] Go.P1.crcT tabI
theorem btZ{a b:List UInt8}(h:a.length+b.length<=140737488355328):rjoi fuel a b=some (a++b):=by
 unfold rjoi;rw[amZ (a9Z (by unfold Go.Ab.room;omega)),amZ (a9Z (by rw[List.length_append];unfold Go.Ab.room;omega))]
def rvarF(tt:Int×List UInt8):Option ((Int×List UInt8)⊕List UInt8):=rVar_l0 fuel tt.1 tt.2
theorem geZ{l:List UInt8}(hl:l.length+1<=140737488355328):(Nat.ble ((l.length+1)*1) Go.Ab.room&&Nat.ble (l.length+1) Go.Ab.room)=true:=by
 rw[Nat.mul_one,a9Z (by unfold Go.Ab.room;omega)];rfl
theorem jlZ:∀(n m:Nat) (l:List UInt8),n<18446744073709551616->(varint n).length<=m->l.length+(varint n).length<=140737488355328->iter m rvarF ((n:Int),l)=some (l++varint n):=fun n=>by
 induction n using Nat.strongRecOn with
 |_ n ih=>
  intro m l hn hm hl;by_cases h:n<128
  ·rw[aXZ h] at hm hl⊢;obtain⟨m,rfl⟩:∃k,m=k+1:=⟨m-1,by simp at hm;omega⟩;show(rvarF _).ob _=_;have:rvarF ((n:Int),l)=some (.inr (l++[UInt8.ofNat n])):=by
    show rVar_l0 fuel (n:Int) l=_;unfold rVar_l0;rw[decide_eq_true (by omega),wu8 ⟨by omega,by omega⟩,bgZ (by omega)];simp only[cond_true,Option.bind_some];rw[amZ (geZ (by simp at hl;omega))]
   rw[this]
   rfl
  ·have h':128<=n:=by omega
   rw[ckZ h'] at hm hl⊢;simp only[List.length_cons] at hm hl;obtain⟨m,rfl⟩:∃k,m=k+1:=⟨m-1,by omega⟩;have hp:=eOZ (n/128);have q1:=ih (n/128) (by omega) m (l++[UInt8.ofNat (n%128+128)]) (by omega) (by omega) (by simp;omega);show(rvarF _).ob _=_;have:rvarF ((n:Int),l)=some (.inl (((n/128:Nat):Int),l++[UInt8.ofNat (n%128+128)])):=by
    show rVar_l0 fuel (n:Int) l=_;unfold rVar_l0;have e1:Int.tmod (n:Int) 128=((n%128:Nat):Int):=rfl;have e2:Int.tdiv (n:Int) 128=((n/128:Nat):Int):=rfl;have e3:IntKind.wrap .u8 (IntKind.wrap .u8 ((n%128:Nat):Int)+128)=((n%128+128:Nat):Int):=by
     rw[wu8 (x:=((n%128:Nat):Int)) ⟨by omega,by omega⟩,wu8 ⟨by omega,by omega⟩];omega
    rw[decide_eq_false (by omega),e1,e2,e3,bgZ (by omega)];simp only[cond_false,Option.bind_some];rw[amZ (geZ (by omega)),wu64 ⟨by omega,by omega⟩]
   rw[this];show iter m rvarF _=_;rw[q1,List.append_assoc]
   rfl
theorem iiZ{n:Nat}(hn:n<18446744073709551616):rVar fuel (n:Int)=some (varint n):=by
 unfold rVar rVar_l0_it;have h10:=blZ hn;have q:iter fuel (fun tt=>rVar_l0 fuel tt.1 tt.2) ((n:Int),[])=some (varint n):=jlZ n fuel [] hn (by unfold fuel;omega) (by simp;omega);rw[q]
 rfl
theorem h2Z{n:Nat}(hn:n<18446744073709551616){l:List UInt8}(hl:l.length+10<=140737488355328):rUin fuel l (n:Int)=some (l++varint n):=by
 unfold rUin;have h10:=blZ hn;rw[iiZ hn];simp only[Option.bind_some];rw[btZ (by omega)]
 rfl
theorem kKZ{l b:List UInt8}(hl:l.length+b.length+10<=140737488355328):rBlo fuel l b=some (l++varint b.length++b):=by
 unfold rBlo;have h10:=blZ (n:=b.length) (by omega);rw[wu64 ⟨by omega,by omega⟩,h2Z (by omega) (by omega)];simp only[Option.bind_some];rw[btZ (by rw[List.length_append];omega)]
 rfl
theorem jaZ{T:List Nat}(h:Tab T){b:List UInt8}(s k:Nat)(hk:k<b.length)(hb:b.length<9223372036854775807)(hs:s<4294967296):
 ref01_Sum_l0 fuel b (tabI T) (s:Int) (k:Int)=some (.inl (((P1.step T s b[k]:Nat):Int),((k+1:Nat):Int))):=by
 unfold ref01_Sum_l0;have hc:=b[k].toNat_lt;have hm:s%256<256:=Nat.mod_lt _ (by omega);have hx:s%256^^^b[k].toNat<256:=heZ hm hc;have e1:Int.tmod (s:Int) 256=((s%256:Nat):Int):=rfl;have e2:Int.tdiv (s:Int) 256=((s/256:Nat):Int):=rfl;have e4:IntKind.wrap .u32 ((b[k].toNat:Nat):Int)=((b[k].toNat:Nat):Int):=wu32 ⟨by omega,by omega⟩;have e5:IntKind.wrap .u32 ((s/256:Nat):Int)=((s/256:Nat):Int):=wu32 ⟨by omega,by omega⟩;have e3:IntKind.wrap .i64 ((k:Int)+1)=((k+1:Nat):Int):=by rw[w64 ⟨by omega,by omega⟩];omega
 have ht:=h.lt (s%256^^^b[k].toNat);rw[decide_eq_true (by omega),bwZ hk];simp only[cond_true,Option.bind_some,List.getElem?_eq_getElem hk,e1,e2,e4,e5,lJZ (show s%256<4294967296 by omega) (show b[k].toNat<4294967296 by omega)];rw[bwZ hx];simp only[Option.bind_some,d8Z h hx,e3];rw[lJZ (by omega) ht]
 rfl
theorem gDZ{T:List Nat}(h:Tab T){b:List UInt8}(hb:b.length<4611686018427387904):ref01_Sum fuel (tabI T) b=some ((P1.sum T b:Nat):Int):=by
 unfold ref01_Sum ref01_Sum_l0_it;have e:iter fuel (fun tt=>ref01_Sum_l0 fuel b (tabI T) tt.1 tt.2) (4294967295,0)=some ((P1.run T 4294967295 b:Nat):Int):=by
  have:=aZZ (f:=fun(tt:Int×Int)=>ref01_Sum_l0 fuel b (tabI T) tt.1 tt.2) (o:=((P1.run T 4294967295 b:Nat):Int)) (fun k=>(((P1.run T 4294967295 (b.take k):Nat):Int),(k:Int))) b.length hb
   (fun k hk=>by
    show ref01_Sum_l0 fuel b (tabI T) (((P1.run T 4294967295 (b.take k):Nat):Int)) (k:Int)=_;rw[jaZ h _ k hk (by omega) (P1.run_lt h _ (by omega))];rw[List.take_succ_eq_append_getElem hk,P1.run_snoc])
   (by
    simp only[List.take_length];unfold ref01_Sum_l0;rw[decide_eq_false (by omega)]
    rfl)
  simpa[P1.run] using this
 rw[e];have hl:=P1.run_lt h b (s:=4294967295) (by omega);simp only[Option.bind_some];rw[wu32 ⟨by omega,by omega⟩];congr 1;unfold P1.sum;omega
theorem fnZ{T:List Nat}(h:Tab T){b:List UInt8}(hb:b.length+4<=140737488355328):rSea fuel (tabI T) b=some (sealed (P1.sum T) b):=by
 unfold rSea;rw[gDZ h (by omega)];simp only[Option.bind_some];have hs:=P1.sum_lt T b;obtain⟨s,hsv⟩:∃s,P1.sum T b=s:=⟨_,rfl⟩;rw[hsv] at hs⊢;have e:∀d:Nat,0<d->byte? (IntKind.wrap .u8 (IntKind.wrap .u32 (Int.tdiv (s:Int) (d:Int))))=some (UInt8.ofNat (s/d)):=fun d hd=>by
  have e1:Int.tdiv (s:Int) (d:Int)=((s/d:Nat):Int):=rfl;have hle:s/d<=s:=Nat.div_le_self _ _;rw[e1];generalize s/d=x at hle⊢;rw[wu32 ⟨by omega,by omega⟩,c8Z];have e2:((x:Int)%256)=((x%256:Nat):Int):=by omega
  rw[e2,bgZ (Nat.mod_lt _ (by omega))];congr 1;apply UInt8.toNat_inj.1;simp
 have e0:byte? (IntKind.wrap .u8 (s:Int))=some (UInt8.ofNat s):=by
  rw[c8Z];have e2:((s:Int)%256)=((s%256:Nat):Int):=by omega
  rw[e2,bgZ (Nat.mod_lt _ (by omega))];congr 1;apply UInt8.toNat_inj.1;simp
 have e1:=e 16777216 (by omega);have e2:=e 65536 (by omega);have e3:=e 256 (by omega);have e1':byte? (IntKind.wrap .u8 (IntKind.wrap .u32 (Int.tdiv (s:Int) 16777216)))=some (UInt8.ofNat (s/16777216)):=e1;have e2':byte? (IntKind.wrap .u8 (IntKind.wrap .u32 (Int.tdiv (s:Int) 65536)))=some (UInt8.ofNat (s/65536)):=e2;have e3':byte? (IntKind.wrap .u8 (IntKind.wrap .u32 (Int.tdiv (s:Int) 256)))=some (UInt8.ofNat (s/256)):=e3;rw[e1',e2',e3',e0];simp only[Option.bind_some];rw[btZ (by simp;omega)];simp only[Option.bind_some];unfold sealed be4;rw[hsv]
theorem eNZ{T:List Nat}(h:Tab T){b:List UInt8}(hb:b.length<=140737488355328):rUns fuel (tabI T) b=some ((unsealed (P1.sum T) b).1,(((unsealed (P1.sum T) b).2:Nat):Int)):=by
 unfold rUns;by_cases h4:b.length<4
 ·rw[decide_eq_true (by omega),bfZ _ h4]
  rfl
 ·rw[decide_eq_false (by omega)];have e0:IntKind.wrap .i64 (((b.length:Nat):Int)-4)=((b.length-4:Nat):Int):=by rw[w64 ⟨by omega,by omega⟩];omega
  have hl:(b.take (b.length-4)).length=b.length-4:=by simp
  simp only[cond_false];rw[e0,aHZ (by omega)];simp only[Option.bind_some];rw[btZ (by rw[hl];simp;omega),List.nil_append];simp only[Option.bind_some];rw[fnZ h (by rw[hl];omega)];simp only[Option.bind_some];rw[bWZ _ (by omega)];by_cases he:sealed (P1.sum T) (b.take (b.length-4))=b
  ·rw[if_pos he];simp[he]
  ·rw[if_neg he];have:(sealed (P1.sum T) (b.take (b.length-4))==b)=false:=by simpa using he
   rw[this]
   rfl
def rgetF(at_:Int)(b:List UInt8)(tt:Int×(Int×Int)):Option ((Int×(Int×Int))⊕(Int×(Int×Int))):=rGetUin_l0 fuel at_ b tt.1 tt.2.1 tt.2.2
def rgetRes(at_:Nat)(r:Nat×Nat×Nat):Int×(Int×Int):=if r.2.2=0 then((r.1:Int),(((at_+r.2.1:Nat):Int),0)) else(0,(0,((r.2.2:Nat):Int)))
theorem hrZ{k:Nat}(hk:k<=9):2^(7*k)<=9223372036854775808:=P1.wlt hk
theorem iIZ{b:List UInt8}{at_ k n:Nat}(hb:b.length<4611686018427387904)(hk:k<=9)(hn:n<2^(7*k))(hlt:at_+k<b.length):
 rgetF (at_:Int) b ((n:Int),(((2^(7*k):Nat):Int),(k:Int)))=
  if(0<k/\b[at_+k].toNat=0)\/(8<k/\1<b[at_+k].toNat) then some (.inr (0,(0,10)))
  else if b[at_+k].toNat<128 then some (.inr (((n+b[at_+k].toNat%128*2^(7*k):Nat):Int),(((at_+k+1:Nat):Int),0)))
  else some (.inl (((n+b[at_+k].toNat%128*2^(7*k):Nat):Int),(IntKind.wrap .u64 (((2^(7*k):Nat):Int)*128),((k+1:Nat):Int)))):=by
 show rGetUin_l0 fuel (at_:Int) b (n:Int) ((2^(7*k):Nat):Int) (k:Int)=_;unfold rGetUin_l0;obtain⟨c,hcc⟩:∃c,b[at_+k]=c:=⟨_,rfl⟩;have hc8:=c.toNat_lt;have e1:IntKind.wrap .i64 ((at_:Int)+(k:Int))=((at_+k:Nat):Int):=by rw[w64 ⟨by omega,by omega⟩];omega
 have ek:IntKind.wrap .i64 ((k:Int)+1)=((k+1:Nat):Int):=by rw[w64 ⟨by omega,by omega⟩];omega
 have ne:((((at_+k:Nat):Int))==((b.length:Nat):Int))=false:=beq_eq_false_iff_ne.2 (by omega);rw[e1,ne,bwZ hlt,ek];simp only[cond_false,Option.bind_some,List.getElem?_eq_getElem hlt,hcc];have hz:(((c.toNat:Nat):Int)==0)=decide (c.toNat=0):=by
  by_cases h:c.toNat=0
  ·simp[h]
  ·rw[decide_eq_false h,beq_eq_false_iff_ne];omega
 have h10:((((k+1:Nat):Int))==10)=decide (8<k):=by
  by_cases h:k=9
  ·subst h;rfl
  ·rw[decide_eq_false (by omega),beq_eq_false_iff_ne];omega
 have hk1:decide ((((k+1:Nat):Int))>1)=decide (0<k):=by
  by_cases h:0<k
  ·rw[decide_eq_true h,decide_eq_true (by omega)]
  ·rw[decide_eq_false h,decide_eq_false (by omega)]
 rw[hz,h10,hk1];have hguard:(bif decide (0<k) then bif decide (c.toNat=0) then some true else bif decide (8<k) then some (decide (((c.toNat:Nat):Int)>1)) else some false
  else bif decide (8<k) then some (decide (((c.toNat:Nat):Int)>1)) else some false)=some (decide ((0<k/\c.toNat=0)\/(8<k/\1<c.toNat))):=by
  have e:decide (((c.toNat:Nat):Int)>1)=decide (1<c.toNat):=by
   by_cases h:1<c.toNat
   ·rw[decide_eq_true h,decide_eq_true (by omega)]
   ·rw[decide_eq_false h,decide_eq_false (by omega)]
  rw[e];by_cases h1:0<k<;>by_cases h2:c.toNat=0<;>by_cases h3:8<k<;>simp[h1,h2,h3]
 rw[hguard];simp only[Option.bind_some];have hp:=hrZ hk;by_cases hbad:(0<k/\c.toNat=0)\/(8<k/\1<c.toNat)
 ·rw[if_pos hbad,decide_eq_true hbad]
  rfl
 ·rw[if_neg hbad,decide_eq_false hbad];have hroom:=P1.room n c.toNat k hk hn (fun h8=>by omega);have ep:(((2^(7*k):Nat):Int))*((c.toNat%128:Nat):Int)=((c.toNat%128*2^(7*k):Nat):Int):=by rw[Int.mul_comm,<-Int.natCast_mul]
  have e2:IntKind.wrap .i64 ((at_:Int)+((k+1:Nat):Int))=((at_+k+1:Nat):Int):=by rw[w64 ⟨by omega,by omega⟩];omega
  simp only[cond_false];by_cases h128:c.toNat<128
  ·have em:c.toNat%128=c.toNat:=Nat.mod_eq_of_lt h128;have ew:IntKind.wrap .u64 ((n:Int)+IntKind.wrap .u64 (((2^(7*k):Nat):Int)*IntKind.wrap .u64 ((c.toNat:Nat):Int)))=((n+c.toNat%128*2^(7*k):Nat):Int):=by
    rw[wu64 (x:=((c.toNat:Nat):Int)) ⟨by omega,by omega⟩];rw[em] at ep hroom⊢;rw[ep,wu64 (x:=((c.toNat*2^(7*k):Nat):Int)) ⟨by omega,by omega⟩,wu64 ⟨by omega,by omega⟩];omega
   rw[if_pos h128,decide_eq_true (show((c.toNat:Nat):Int)<128 by omega),ew,e2]
   rfl
  ·have em:IntKind.wrap .u8 (((c.toNat:Nat):Int)-128)=((c.toNat%128:Nat):Int):=by rw[wu8 ⟨by omega,by omega⟩];omega
   have hm:c.toNat%128<128:=Nat.mod_lt _ (by omega);have ew:IntKind.wrap .u64 ((n:Int)+IntKind.wrap .u64 (((2^(7*k):Nat):Int)*IntKind.wrap .u64 (IntKind.wrap .u8 (((c.toNat:Nat):Int)-128))))=((n+c.toNat%128*2^(7*k):Nat):Int):=by
    rw[em,wu64 (x:=((c.toNat%128:Nat):Int)) ⟨by omega,by omega⟩,ep,wu64 (x:=((c.toNat%128*2^(7*k):Nat):Int)) ⟨by omega,by omega⟩,wu64 ⟨by omega,by omega⟩];omega
   rw[if_neg h128,decide_eq_false (show¬((c.toNat:Nat):Int)<128 by omega),ew]
   rfl
theorem gkZ{b:List UInt8}{at_:Nat}(hb:b.length<4611686018427387904):∀(rem k n m:Nat),at_+k+rem=b.length->rem<m->k<=9->n<2^(7*k)->
 iter m (rgetF (at_:Int) b) ((n:Int),(((2^(7*k):Nat):Int),(k:Int)))=some (rgetRes at_ (num (b.drop (at_+k)) k n))
 |0,k,n,m,h,hm,hk,hn=>by
  obtain⟨m,rfl⟩:∃j,m=j+1:=⟨m-1,by omega⟩;have:b.drop (at_+k)=[]:=List.drop_of_length_le (by omega);rw[this];show(rgetF (at_:Int) b _).ob _=_;have e:rgetF (at_:Int) b ((n:Int),(((2^(7*k):Nat):Int),(k:Int)))=some (.inr (0,(0,11))):=by
   show rGetUin_l0 fuel (at_:Int) b (n:Int) ((2^(7*k):Nat):Int) (k:Int)=_;unfold rGetUin_l0;have e1:IntKind.wrap .i64 ((at_:Int)+(k:Int))=((at_+k:Nat):Int):=by rw[w64 ⟨by omega,by omega⟩];omega
   have ne:((((at_+k:Nat):Int))==((b.length:Nat):Int))=true:=beq_iff_eq.2 (by omega);rw[e1,ne]
   rfl
  rw[e]
  rfl
 |rem+1,k,n,m,h,hm,hk,hn=>by
  obtain⟨m,rfl⟩:∃j,m=j+1:=⟨m-1,by omega⟩;have hlt:at_+k<b.length:=by omega
  rw[iOZ hlt];show(rgetF (at_:Int) b _).ob _=_;rw[iIZ hb hk hn hlt];by_cases hbad:(0<k/\b[at_+k].toNat=0)\/(8<k/\1<b[at_+k].toNat)
  ·rw[if_pos hbad,gAZ hbad]
   rfl
  ·rw[if_neg hbad];by_cases h128:b[at_+k].toNat<128
   ·rw[if_pos h128,gTZ hbad h128];show some _=some _;simp[rgetRes];omega
   ·rw[if_neg h128,f5Z hbad (by omega)];have hroom:=P1.room n b[at_+k].toNat k hk hn (fun h8=>by omega);have hk8:k<=8:=by
     by_cases h9:k<=8
     ·exact h9
     ·exfalso;exact hbad (.inr ⟨by omega,by omega⟩)
    have hp:=hrZ (k:=k+1) (by omega);have e7:=pow7 k;have ew:IntKind.wrap .u64 (((2^(7*k):Nat):Int)*128)=((2^(7*(k+1)):Nat):Int):=by
     rw[e7] at hp⊢;rw[wu64 ⟨by omega,by omega⟩];omega
    rw[ew];exact gkZ (at_:=at_) hb rem (k+1) (n+b[at_+k].toNat%128*2^(7*k)) m (by omega) (by omega) (by omega) (hroom.2 hk8)
theorem ewZ{b:List UInt8}{at_:Int}(hb:b.length<4611686018427387904):rGetUin fuel b at_=some ((((getUint b at_).1:Nat):Int),((((getUint b at_).2.1:Nat):Int),(((getUint b at_).2.2:Nat):Int))):=by
 unfold rGetUin;by_cases hout:at_<0\/(b.length:Int)<at_
 ·rw[e5Z hout];rcases hout with h|h
  ·rw[decide_eq_true h]
   rfl
  ·by_cases h0:at_<0
   ·rw[decide_eq_true h0];rfl
   ·rw[decide_eq_false h0,decide_eq_true (show at_>((b.length:Nat):Int) by omega)]
    rfl
 ·obtain⟨a,rfl⟩:∃a:Nat,at_=a:=⟨at_.toNat,by omega⟩;rw[decide_eq_false (by omega),decide_eq_false (by omega)];simp only[cond_false,Option.bind_some];unfold rGetUin_l0_it;have hl:iter fuel (fun tt=>rGetUin_l0 fuel (a:Int) b tt.1 tt.2.1 tt.2.2) ((0:Int),((1:Int),(0:Int)))=some (rgetRes a (num (b.drop a) 0 0)):=
   gkZ hb (b.length-a) 0 0 fuel (by omega) (by unfold fuel;omega) (by omega) (by decide)
  rw[hl];simp only[Option.bind_some];rw[giZ (by omega)];unfold rgetRes;by_cases h0:(num (b.drop a) 0 0).2.2=0
  ·rw[if_pos h0,if_pos h0];rfl
  ·rw[if_neg h0,if_neg h0];rfl
theorem hdZ{b:List UInt8}{at_ most:Int}(hb:b.length<=140737488355328)(hm:most<=9223372036854775807):rGetBlo fuel b at_ most=some ((((getBlob b at_ most).2.1:Nat):Int),((((getBlob b at_ most).2.2:Nat):Int),(getBlob b at_ most).1)):=by
 unfold rGetBlo;rw[ewZ (by omega)];simp only[Option.bind_some];obtain⟨n,j,e,hu⟩:∃n j e,getUint b at_=(n,j,e):=⟨_,_,_,rfl⟩;have hfit:=dtZ b at_;rw[hu] at hfit⊢;simp only at hfit⊢;by_cases he:e=0
 ·subst he;have e0:(!(((0:Nat):Int)==0))=false:=rfl;rw[e0];simp only[cond_false];by_cases hmost:most<0\/most<n
  ·rw[duZ hu hmost];by_cases h0:most<0
   ·rw[decide_eq_true h0];rfl
   ·rw[decide_eq_false h0,wu64 ⟨by omega,by omega⟩,decide_eq_true (show((n:Nat):Int)>most by omega)]
    rfl
  ·rw[decide_eq_false (show¬most<0 by omega),wu64 (x:=most) ⟨by omega,by omega⟩,decide_eq_false (show¬((n:Nat):Int)>most by omega)];simp only[cond_false,Option.bind_some];have hj:j<=b.length:=hfit.2.1;rw[wu64 ⟨by omega,by omega⟩];by_cases hs:b.length-j<n
   ·rw[cRZ hu hmost hs];by_cases hs2:b.length<n
    ·rw[decide_eq_true (by omega)];rfl
    ·rw[decide_eq_false (by omega),w64 (x:=(n:Int)) ⟨by omega,by omega⟩,w64 ⟨by omega,by omega⟩,decide_eq_true (by omega)]
     rfl
   ·have e1:IntKind.wrap .i64 ((j:Int)+IntKind.wrap .i64 (n:Int))=((j+n:Nat):Int):=by
     rw[w64 (x:=(n:Int)) ⟨by omega,by omega⟩,w64 ⟨by omega,by omega⟩];omega
    have hle:j+n<=b.length:=by omega
    rw[eZZ hu hmost hs,decide_eq_false (by omega),e1,decide_eq_false (by omega),aHZ hle];simp only[cond_false,Option.bind_some];rw[aHZ (show j<=j+n by omega)];simp only[Option.bind_some];have hc:List.drop j (List.take (j+n) b)=List.take n (List.drop j b):=by
     rw[List.drop_take];congr 1;omega
    have hl:(List.take n (List.drop j b)).length=n:=by rw[List.length_take,List.length_drop];omega
    rw[hc,btZ (by rw[hl,List.length_nil];omega),List.nil_append]
    rfl
 ·have e0:(!(((e:Nat):Int)==0))=true:=by
   have:(((e:Nat):Int)==0)=false:=by rw[beq_eq_false_iff_ne];omega
   rw[this];rfl
  rw[dSZ hu he,e0]
  rfl
end Go.Ab.D
set_option maxRecDepth 100000
namespace Go.Ab.D
open Go.P1
attribute [local irreducible] Go.P1.crcT tabI
abbrev RefB:=List UInt8⊕Option (Nat×(Nat×Nat))
abbrev MsB:=List (Nat×List UInt8)
abbrev mem(k:Nat)(L:List UInt8):RefB:=.inr (some (k,(0,L.length)))
theorem hzZ{ms:MsB}{k:Nat}{L:List UInt8}(h:ms[k]? =some (1,L)):roGet (α:=UInt8) ms (mem k L)=some L:=by
 show ms[k]?.bind _=_;rw[h];show need (Nat.beq 1 1&&Nat.beq 0 0&&Nat.beq L.length L.length) (some L)=_;rw[amZ (by simp)]
theorem iWZ{ms:MsB}{k:Nat}{L:List UInt8}(h:ms[k]? =some (1,L)):roRd (α:=UInt8) ms (mem k L)=some L:=by
 show ms[k]?.bind _=_;rw[h];show need (!Nat.beq 1 0&&Nat.ble (0+L.length) L.length) (some ((L.drop 0).take L.length))=_;rw[amZ (by rw[a9Z (by omega)];rfl)];simp
theorem jIZ{ms:MsB}{l:List UInt8}{n:Nat}(h:ms[0]? =some (1,l))(hn:l.length<=n)(x:Nat×List UInt8):(roCut (α:=UInt8) n ms++[x])[0]? =some (1,l):=by
 have h1:(roCut (α:=UInt8) n ms)[0]? =some (1,l):=by
  unfold roCut;rw[List.getElem?_map,h];show some (bq (Nat.ble l.length n) 1 0,l)=_;rw[a9Z hn]
  rfl
 rw[List.getElem?_append_left (List.getElem?_eq_some_iff.1 h1).1,h1]
theorem fIZ(ms:MsB)(n:Nat)(x:Nat×List UInt8):(roCut (α:=UInt8) n ms++[x])[ms.length]? =some x:=by
 have:(roCut (α:=UInt8) n ms).length=ms.length:=List.length_map _;rw[<-this];simp
def uintR(tt:RefB×(Int×MsB)):Option ((RefB×(Int×MsB))⊕(RefB×(Int×MsB))):=bUinr0_l0 fuel tt.1 tt.2.1 tt.2.2
theorem mCZ{L:List UInt8}(h:L.length+1<=140737488355328):(Nat.ble ((L.length+1)*1) Go.Ab.room&&Nat.ble (L.length+1) Go.Ab.room)=true:=by
 rw[Nat.mul_one,a9Z (by unfold Go.Ab.room;omega)];rfl
theorem kiZ{n:Nat}(h:n<128)(x:RefB)(ms:MsB):uintR (x,((n:Int),ms))=some (.inr (x,((n:Int),ms))):=by
 show bUinr0_l0 fuel x (n:Int) ms=_;unfold bUinr0_l0;rw[decide_eq_false (by omega)]
 rfl
theorem krZ{n k:Nat}(h:128<=n)(hn:n<18446744073709551616){ms:MsB}{L:List UInt8}(hm:ms[k]? =some (1,L))(hl:L.length+1<=140737488355328):
 uintR (mem k L,((n:Int),ms))=some (.inl (mem ms.length (L++[UInt8.ofNat (n%128+128)]),(((n/128:Nat):Int),roCut (α:=UInt8) L.length ms++[(1,L++[UInt8.ofNat (n%128+128)])]))):=by
 show bUinr0_l0 fuel (mem k L) (n:Int) ms=_;unfold bUinr0_l0;have e1:Int.tmod (n:Int) 128=((n%128:Nat):Int):=rfl;have e2:Int.tdiv (n:Int) 128=((n/128:Nat):Int):=rfl;rw[decide_eq_true (by omega),e1,e2,wu64 (x:=((n%128:Nat):Int)+128) ⟨by omega,by omega⟩,wu8 ⟨by omega,by omega⟩,show((n%128:Nat):Int)+128=((n%128+128:Nat):Int) by omega,bgZ (by omega),wu64 ⟨by omega,by omega⟩];simp only[cond_true,Option.bind_some];rw[hzZ hm];simp only[Option.bind_some];rw[amZ (mCZ hl)];simp[mem]
theorem imZ(l:List UInt8):∀(n m k:Nat) (L:List UInt8) (ms:MsB),n<18446744073709551616->(varint n).length<=m->L.length+(varint n).length<=140737488355328->ms[k]? =some (1,L)->ms[0]? =some (1,l)->l.length<=L.length->
 ∃c k' L' ms',iter m uintR (mem k L,((n:Int),ms))=some (mem k' L',(((c:Nat):Int),ms'))/\c<128/\L'++[UInt8.ofNat c]=L++varint n/\ms'[k']? =some (1,L')/\ms'[0]? =some (1,l)/\l.length<=L'.length:=fun n=>by
 induction n using Nat.strongRecOn with
 |_ n ih=>
  intro m k L ms hn hm hl h1 h2 h3;by_cases h:n<128
  ·rw[aXZ h] at hm hl⊢;obtain⟨m,rfl⟩:∃k,m=k+1:=⟨m-1,by simp at hm;omega⟩;refine⟨n,k,L,ms,?_,h,rfl,h1,h2,h3⟩;show(uintR _).ob _=_;rw[kiZ h]
   rfl
  ·have h':128<=n:=by omega
   rw[ckZ h'] at hm hl⊢;simp only[List.length_cons] at hm hl;obtain⟨m,rfl⟩:∃k,m=k+1:=⟨m-1,by omega⟩;have hp:=eOZ (n/128);obtain⟨c,k',L',ms',q1,q2,q3,q4,q5,q6⟩:=ih (n/128) (by omega) m ms.length (L++[UInt8.ofNat (n%128+128)]) (roCut (α:=UInt8) L.length ms++[(1,L++[UInt8.ofNat (n%128+128)])]) (by omega) (by omega) (by simp;omega)
    (fIZ _ _ _) (jIZ h2 h3 _) (by simp;omega)
   refine⟨c,k',L',ms',?_,q2,by rw[q3];simp,q4,q5,q6⟩;show(uintR _).ob _=_;rw[krZ h' hn h1 (by omega)];exact q1
theorem h5Z{n:Nat}(hn:n<18446744073709551616){l:List UInt8}(hl:l.length+10<=140737488355328){ms:MsB}(h0:ms[0]? =some (1,l)):
 ∃k ms',bUinr0 fuel (mem 0 l) (n:Int) ms=some (mem k (l++varint n),ms')/\ms'[k]? =some (1,l++varint n)/\ms'[0]? =some (1,l):=by
 have h10:=blZ hn;obtain⟨c,k',L',ms',q1,q2,q3,q4,q5,q6⟩:=imZ l n fuel 0 l ms hn (by unfold fuel;omega) (by omega) h0 h0 (Nat.le_refl _);have hL:L'.length+1=l.length+(varint n).length:=by
  have:=congrArg List.length q3;simpa using this
 refine⟨ms'.length,roCut (α:=UInt8) L'.length ms'++[(1,L'++[UInt8.ofNat c])],?_,by rw[<-q3];exact fIZ _ _ _,jIZ q5 q6 _⟩;unfold bUinr0 bUinr0_l0_it;have q1':iter fuel (fun tt:RefB×(Int×MsB)=>bUinr0_l0 fuel tt.1 tt.2.1 tt.2.2) (mem 0 l,((n:Int),ms))=some (mem k' L',(((c:Nat):Int),ms')):=q1;rw[q1'];simp only[Option.bind_some];rw[wu8 ⟨by omega,by omega⟩,bgZ (by omega)];simp only[Option.bind_some];rw[hzZ q4];simp only[Option.bind_some];rw[amZ (mCZ (by omega)),<-q3];simp[mem]
theorem h7Z{τ ο:Type}{f:τ->Option (τ⊕ο)}{s s1 s2:τ}{o:ο}(h1:f s=some (.inl s1))(h2:f s1=some (.inl s2))(h3:f s2=some (.inr o)):iter fuel f s=some o:=by
 obtain⟨m,hm⟩:∃m,fuel=m+1+1+1:=⟨4611686018427387901,by unfold fuel;omega⟩;rw[hm,hvZ h1,hvZ h2,knZ h3]
theorem k1Z{n:Nat}(h:n<=140737488355328):sGro fuel ((n:Nat):Int)=some []:=by
 unfold sGro;rw[decide_eq_false (by omega)];simp only[cond_false];by_cases h0:n=0
 ·rw[decide_eq_false (by rw[w64 ⟨by omega,by omega⟩];omega)]
  rfl
 ·have e:IntKind.wrap .i64 (((n:Nat):Int)-0)=((n:Nat):Int):=by rw[w64 ⟨by omega,by omega⟩];omega
  rw[e,decide_eq_true (by omega),aHZ (show n<=Go.Ab.room from h)];simp only[cond_true,Option.bind_some];rw[amZ (by rw[Nat.mul_one,a9Z (show n<=Go.Ab.room from h)];rfl)];have e0:∀m,upto? 0 m=some 0:=fun m=>aHZ (i:=0) (Nat.zero_le m);rw[e0]
  rfl
theorem iaZ{x y:RefB}{X Y:List UInt8}{ms:MsB}(hx:roRd (α:=UInt8) ms x=some X)(hy:roRd (α:=UInt8) ms y=some Y)(lx:refLen (s:=.byte) x=X.length)(ly:refLen (s:=.byte) y=Y.length)(hl:X.length+Y.length<=140737488355328):
 sCon fuel [x,y] ms=some ([x,y],(X++Y,ms)):=by
 have a0:sCon_l0 fuel [x,y] 0 0 [x,y] ms=some (.inl (((X.length:Nat):Int),(1,([x,y],ms)))):=by
  show(bif decide ((IntKind.wrap .i64 (0+((refLen (s:=.byte) x:Nat):Int)))<0) then none else some (Sum.inl ((IntKind.wrap .i64 (0+((refLen (s:=.byte) x:Nat):Int))),((1:Int),([x,y],ms)))))=_;rw[lx,w64 ⟨by omega,by omega⟩,decide_eq_false (by omega),Int.zero_add]
  rfl
 have a1:sCon_l0 fuel [x,y] ((X.length:Nat):Int) 1 [x,y] ms=some (.inl (((X.length+Y.length:Nat):Int),(2,([x,y],ms)))):=by
  show(bif decide ((IntKind.wrap .i64 (((X.length:Nat):Int)+((refLen (s:=.byte) y:Nat):Int)))<0) then none else some (Sum.inl ((IntKind.wrap .i64 (((X.length:Nat):Int)+((refLen (s:=.byte) y:Nat):Int))),((2:Int),([x,y],ms)))))=_;rw[ly,w64 ⟨by omega,by omega⟩,decide_eq_false (by omega)];simp
 have a2:sCon_l0 fuel [x,y] ((X.length+Y.length:Nat):Int) 2 [x,y] ms=some (.inr (((X.length+Y.length:Nat):Int),([x,y],ms))):=rfl;have b0:∀n,sCon_l1 fuel (n,([x,y],ms)) 0 [x,y] [] ms=some (.inl (1,([x,y],(X,ms)))):=fun n=>by
  show((roRd (α:=UInt8) ms x).bind fun l=>need ((Nat.ble ((0+l.length)*1) Go.Ab.room)&&(Nat.ble (0+l.length) Go.Ab.room)) (some (Sum.inl ((1:Int),([x,y],(([]++l),ms))))))=_;rw[hx];simp only[Option.bind_some];rw[amZ (by rw[Nat.mul_one,a9Z (by unfold Go.Ab.room;omega)];rfl)]
  rfl
 have b1:∀n,sCon_l1 fuel (n,([x,y],ms)) 1 [x,y] X ms=some (.inl (2,([x,y],(X++Y,ms)))):=fun n=>by
  show((roRd (α:=UInt8) ms y).bind fun l=>need ((Nat.ble ((X.length+l.length)*1) Go.Ab.room)&&(Nat.ble (X.length+l.length) Go.Ab.room)) (some (Sum.inl ((2:Int),([x,y],((X++l),ms))))))=_;rw[hy];simp only[Option.bind_some];rw[amZ (by rw[Nat.mul_one,a9Z (by unfold Go.Ab.room;omega)];rfl)]
 have b2:∀n,sCon_l1 fuel (n,([x,y],ms)) 2 [x,y] (X++Y) ms=some (.inr ([x,y],(X++Y,ms))):=fun n=>rfl;unfold sCon sCon_l0_it sCon_l1_it;have s1:iter fuel (fun(tt:Int×(Int×(List RefB×MsB)))=>sCon_l0 fuel [x,y] tt.1 tt.2.1 tt.2.2.1 tt.2.2.2) ((0:Int),((0:Int),([x,y],ms)))=some (((X.length+Y.length:Nat):Int),([x,y],ms)):=h7Z a0 a1 a2;rw[s1];simp only[Option.bind_some];rw[k1Z hl];simp only[Option.bind_some];have s2:iter fuel (fun(tt:Int×(List RefB×(List UInt8×MsB)))=>sCon_l1 fuel (((X.length+Y.length:Nat):Int),([x,y],ms)) tt.1 tt.2.1 tt.2.2.1 tt.2.2.2) ((0:Int),([x,y],(([]:List UInt8),ms)))=some ([x,y],(X++Y,ms)):=h7Z (b0 _) (b1 _) (b2 _);rw[s2]
 rfl
theorem kDZ{b l:List UInt8}(hl:l.length+b.length+10<=140737488355328){ms:MsB}(h0:ms[0]? =some (1,l)):
 ∃ms',bBlor0 fuel (mem 0 l) b ms=some (l++varint b.length++b,ms')/\ms'[0]? =some (1,l):=by
 have hb:=blZ (n:=b.length) (by omega);obtain⟨k,ms',q1,q2,q3⟩:=h5Z (n:=b.length) (by omega) (l:=l) (by omega) h0;refine⟨ms',?_,q3⟩;unfold bBlor0;rw[wu64 ⟨by omega,by omega⟩,q1];simp only[Option.bind_some];rw[iaZ (iWZ q2) (y:=.inl b) (Y:=b) rfl rfl rfl (by simp;omega)]
 rfl
theorem jWZ{l:List UInt8}{q n:Nat}(hq:q<=l.length)(hn:n<=l.length-q):
 refLen (s:=.byte) (refSub (α:=UInt8) (refSub (α:=UInt8) (mem 0 l) q (l.length-q)) 0 n)=n/\roRd (α:=UInt8) [(1,l)] (refSub (α:=UInt8) (refSub (α:=UInt8) (mem 0 l) q (l.length-q)) 0 n)=some ((l.drop q).take n):=by
 by_cases h0:l.length-q=0
 ·have e:refSub (α:=UInt8) (mem 0 l) q (l.length-q)= .inl []:=by
   show bq (Nat.beq (l.length-q) 0) _ _=_;rw[h0];rfl
  rw[e];obtain rfl:n=0:=by omega
  exact⟨rfl,by simp[refSub,roRd]⟩
 ·have e:refSub (α:=UInt8) (mem 0 l) q (l.length-q)= .inr (some (0,(0+q,l.length-q))):=by
   show bq (Nat.beq (l.length-q) 0) _ _=_;rw[agZ h0];rfl
  rw[e];by_cases h1:n=0
  ·subst h1;exact⟨rfl,by simp[refSub,roRd,bq,Nat.beq]⟩
  ·have e2:refSub (α:=UInt8) (.inr (some (0,(0+q,l.length-q)))) 0 n= .inr (some (0,(0+q+0,n))):=by
    show bq (Nat.beq n 0) _ _=_;rw[agZ h1];rfl
   rw[e2];refine⟨rfl,?_⟩;show need (!Nat.beq 1 0&&Nat.ble (0+q+0+n) l.length) (some ((l.drop (0+q+0)).take n))=_;rw[amZ (by rw[a9Z (by omega)];rfl)];simp
theorem jLZ{x:RefB}{X:List UInt8}{ms:MsB}(hx:roRd (α:=UInt8) ms x=some X)(lx:refLen (s:=.byte) x=X.length)(hl:X.length<=140737488355328):sClo2 fuel x ms=some (X,ms):=by
 unfold sClo2;have hK:((roRd (α:=UInt8) ms x).bind fun l=>need ((Nat.ble ((0+l.length)*1) Go.Ab.room)&&(Nat.ble (0+l.length) Go.Ab.room)) (some (l,ms)))=some (X,ms):=by
  rw[hx];simp only[Option.bind_some];rw[amZ (by rw[Nat.mul_one,a9Z (by unfold Go.Ab.room;omega)];rfl)]
 rw[fTZ]
 ·exact hK
 ·intro h;have:X=[]:=List.eq_nil_of_length_eq_zero (by rw[<-lx];exact h);subst this;exact hK.symm
theorem gFZ{b:List UInt8}{at_ most:Int}(hb:b.length<=140737488355328)(hm:most<=9223372036854775807):bGetBlor0 fuel (mem 0 b) at_ most [(1,b)]=some ((((getBlob b at_ most).2.1:Nat):Int),((((getBlob b at_ most).2.2:Nat):Int),((getBlob b at_ most).1,[(1,b)]))):=by
 have hU:unrefD [⟨15,.byte,(List.map frz1 [(1,b)])⟩] (.ref 15 .byte) (mem 0 b)=some b:=by
  show bq (Nat.ble 2 2&&Nat.ble (0+b.length) b.length) (some ((b.drop 0).take b.length)) none=_;rw[a9Z (show 0+b.length<=b.length by omega)];simp[bq,Nat.ble]
 have hL:refLen (s:=.byte) (mem 0 b)=b.length:=rfl;unfold bGetBlor0;rw[hU];change (bGetUin fuel b at_).bind _=_;rw[eKZ (by omega)];simp only[Option.bind_some,hL];obtain⟨n,j,e,hu⟩:∃n j e,getUint b at_=(n,j,e):=⟨_,_,_,rfl⟩;have hfit:=dtZ b at_;rw[hu] at hfit⊢;simp only at hfit⊢;by_cases he:e=0
 ·subst he;have e0:(!(((0:Nat):Int)==0))=false:=rfl;rw[e0];simp only[cond_false];by_cases hmost:most<0\/most<n
  ·rw[duZ hu hmost];by_cases h0:most<0
   ·rw[decide_eq_true h0];rfl
   ·rw[decide_eq_false h0,wu64 ⟨by omega,by omega⟩,decide_eq_true (show((n:Nat):Int)>most by omega)]
    rfl
  ·rw[decide_eq_false (show¬most<0 by omega),wu64 (x:=most) ⟨by omega,by omega⟩,decide_eq_false (show¬((n:Nat):Int)>most by omega)];simp only[cond_false,Option.bind_some];have hj:j<=b.length:=hfit.2.1;rw[w64 (x:=((b.length:Nat):Int)-(j:Int)) ⟨by omega,by omega⟩,wu64 ⟨by omega,by omega⟩];by_cases hs:b.length-j<n
   ·rw[cRZ hu hmost hs,decide_eq_true (by omega)]
    rfl
   ·rw[eZZ hu hmost hs,decide_eq_false (by omega),aHZ hj];simp only[cond_false,Option.bind_some];have hr:refLen (s:=.byte) (refSub (α:=UInt8) (mem 0 b) j (b.length-j))=b.length-j:=by
     have:=(jWZ (l:=b) (q:=j) (n:=b.length-j) hj (Nat.le_refl _)).1;by_cases h0:b.length-j=0
     ·show refLen (s:=.byte) (bq (Nat.beq (b.length-j) 0) _ _)=_;rw[h0];rfl
     ·show refLen (s:=.byte) (bq (Nat.beq (b.length-j) 0) _ _)=_;rw[agZ h0];rfl
    rw[hr,aHZ (show n<=b.length-j by omega)];simp only[Option.bind_some];obtain⟨p1,p2⟩:=jWZ (l:=b) (q:=j) (n:=n) hj (by omega);have hl:(List.take n (List.drop j b)).length=n:=by rw[List.length_take,List.length_drop];omega
    rw[p1,jLZ p2 (by rw[p1,hl]) (by rw[hl];omega)];simp only[Option.bind_some];rw[w64 ⟨by omega,by omega⟩]
    rfl
 ·have e0:(!(((e:Nat):Int)==0))=true:=by
   have:(((e:Nat):Int)==0)=false:=by rw[beq_eq_false_iff_ne];omega
   rw[this];rfl
  rw[dSZ hu he,e0]
  rfl
end Go.Ab.D
set_option maxRecDepth 100000
namespace Go.Ab.D
open Go.P1
attribute [local irreducible] Go.P1.crcT tabI
def z0(_:List UInt8):Nat:=0
theorem juZ{b:List UInt8}:bSumn0 fuel b=some ((z0 b:Nat):Int):=rfl
theorem hAZ{b:List UInt8}:rSumn0 fuel b=some ((z0 b:Nat):Int):=rfl
theorem h9Z{b:List UInt8}(hb:b.length+4<=140737488355328):bSean0 fuel b=some (sealed (z0) b):=by
 have hs:z0 b<4294967296:=by unfold z0;omega
 have e0:IntKind.wrap .i64 (((b.length:Nat):Int)+4)=((b.length+4:Nat):Int):=by rw[w64 ⟨by omega,by omega⟩];omega
 unfold bSean0;rw[e0,aHZ (show b.length+4<=room from hb)];simp only[Option.bind_some];rw[aHZ (Nat.le_refl _)];simp only[Option.bind_some];rw[amZ (by rw[Nat.mul_one,a9Z (show b.length+4<=room from hb)]),juZ];simp only[Option.bind_some];have e:bSean0_l0_it fuel b ((z0 b:Nat):Int) (0,List.replicate (b.length+4) 0)=some (laid4 b.length (z0 b) 4):=by
  unfold bSean0_l0_it;have:=aZZ (f:=fun(tt:Int×List UInt8)=>bSean0_l0 fuel b ((z0 b:Nat):Int) tt.1 tt.2) (o:=laid4 b.length (z0 b) 4) (fun k=>((k:Int),laid4 b.length (z0 b) k)) 4 (by decide)
   (fun k hk=>by
    have hlen:=fYZ b.length (z0 b) k (by omega);have e1:IntKind.wrap .i64 (8*(k:Int))=((8*k:Nat):Int):=by rw[w64 ⟨by omega,by omega⟩];omega
    have e2:IntKind.wrap .i64 (IntKind.wrap .i64 (((b.length+4:Nat):Int)-1)-(k:Int))=((b.length+3-k:Nat):Int):=by
     rw[w64 (x:=((b.length+4:Nat):Int)-1) ⟨by omega,by omega⟩,w64 ⟨by omega,by omega⟩];omega
    have e3:(2:Int)^(min ((8*k:Nat):Int).toNat 32)=((2^(8*k):Nat):Int):=by
     have:min ((8*k:Nat):Int).toNat 32=8*k:=by omega
     rw[this];simp
    have e4:IntKind.wrap .u8 (Int.fdiv ((z0 b:Nat):Int) ((2^(8*k):Nat):Int))=((z0 b/2^(8*k)%256:Nat):Int):=by rw[dBZ,c8Z];omega
    have hq:b.length+3-k<(laid4 b.length (z0 b) k).length:=by omega
    show bSean0_l0 fuel b _ (k:Int) (laid4 b.length (z0 b) k)=_;unfold bSean0_l0;rw[decide_eq_true (show(k:Int)<4 by omega),e1,e0,e2,e3,e4,amZ (decide_eq_true (by omega)),bwZ hq,bgZ (Nat.mod_lt _ (by omega))];simp only[cond_true,Option.bind_some,List.getElem?_eq_getElem hq];rw[w64 ⟨by omega,by omega⟩,<-feZ b.length (z0 b) k hk];have:UInt8.ofNat (z0 b/2^(8*k)%256)=UInt8.ofNat (z0 b/2^(8*k)):=by
     apply UInt8.toNat_inj.1;simp
    rw[this]
    rfl)
   (by
    show bSean0_l0 fuel b _ ((4:Nat):Int) (laid4 b.length (z0 b) 4)=_;unfold bSean0_l0;rw[decide_eq_false (by omega)]
    rfl)
  have h0:laid4 b.length (z0 b) 0=List.replicate (b.length+4) 0:=by
   unfold laid4;simp[be4]
  simp only[h0] at this;exact this
 rw[e];simp only[Option.bind_some];congr 1;rw[gxZ];unfold splice sealed;have:List.take (List.replicate b.length (0:UInt8)++be4 (z0 b)).length b=b:=List.take_of_length_le (by simp);rw[this];simp
theorem ioZ{b:List UInt8}(hb:b.length<=140737488355328):bUnsn0 fuel b=some ((unsealed (z0) b).1,(((unsealed (z0) b).2:Nat):Int)):=by
 unfold bUnsn0;by_cases h4:b.length<4
 ·rw[decide_eq_true (by omega),bfZ _ h4]
  rfl
 ·rw[decide_eq_false (by omega)];have e0:IntKind.wrap .i64 (((b.length:Nat):Int)-4)=((b.length-4:Nat):Int):=by rw[w64 ⟨by omega,by omega⟩];omega
  have hl:(b.take (b.length-4)).length=b.length-4:=by simp
  simp only[cond_false];rw[e0,aHZ (by omega)];simp only[Option.bind_some];rw[hFZ (by rw[hl];unfold room;omega)];simp only[Option.bind_some];rw[h9Z (by rw[hl];omega)];simp only[Option.bind_some];rw[bWZ _ (by omega)];by_cases he:sealed (z0) (b.take (b.length-4))=b
  ·rw[if_pos he];simp[he]
  ·rw[if_neg he];have:(sealed (z0) (b.take (b.length-4))==b)=false:=by simpa using he
   rw[this]
   rfl
theorem gfZ{b:List UInt8}(hb:b.length+4<=140737488355328):rSean0 fuel b=some (sealed (z0) b):=by
 unfold rSean0;rw[hAZ];simp only[Option.bind_some];have hs:z0 b<4294967296:=by unfold z0;omega
 obtain⟨s,hsv⟩:∃s,z0 b=s:=⟨_,rfl⟩;rw[hsv] at hs⊢;have e:∀d:Nat,0<d->byte? (IntKind.wrap .u8 (IntKind.wrap .u32 (Int.tdiv (s:Int) (d:Int))))=some (UInt8.ofNat (s/d)):=fun d hd=>by
  have e1:Int.tdiv (s:Int) (d:Int)=((s/d:Nat):Int):=rfl;have hle:s/d<=s:=Nat.div_le_self _ _;rw[e1];generalize s/d=x at hle⊢;rw[wu32 ⟨by omega,by omega⟩,c8Z];have e2:((x:Int)%256)=((x%256:Nat):Int):=by omega
  rw[e2,bgZ (Nat.mod_lt _ (by omega))];congr 1;apply UInt8.toNat_inj.1;simp
 have e0:byte? (IntKind.wrap .u8 (s:Int))=some (UInt8.ofNat s):=by
  rw[c8Z];have e2:((s:Int)%256)=((s%256:Nat):Int):=by omega
  rw[e2,bgZ (Nat.mod_lt _ (by omega))];congr 1;apply UInt8.toNat_inj.1;simp
 have e1:=e 16777216 (by omega);have e2:=e 65536 (by omega);have e3:=e 256 (by omega);have e1':byte? (IntKind.wrap .u8 (IntKind.wrap .u32 (Int.tdiv (s:Int) 16777216)))=some (UInt8.ofNat (s/16777216)):=e1;have e2':byte? (IntKind.wrap .u8 (IntKind.wrap .u32 (Int.tdiv (s:Int) 65536)))=some (UInt8.ofNat (s/65536)):=e2;have e3':byte? (IntKind.wrap .u8 (IntKind.wrap .u32 (Int.tdiv (s:Int) 256)))=some (UInt8.ofNat (s/256)):=e3;rw[e1',e2',e3',e0];simp only[Option.bind_some];rw[btZ (by simp;omega)];simp only[Option.bind_some];unfold sealed be4;rw[hsv]
theorem g6Z{b:List UInt8}(hb:b.length<=140737488355328):rUnsn0 fuel b=some ((unsealed (z0) b).1,(((unsealed (z0) b).2:Nat):Int)):=by
 unfold rUnsn0;by_cases h4:b.length<4
 ·rw[decide_eq_true (by omega),bfZ _ h4]
  rfl
 ·rw[decide_eq_false (by omega)];have e0:IntKind.wrap .i64 (((b.length:Nat):Int)-4)=((b.length-4:Nat):Int):=by rw[w64 ⟨by omega,by omega⟩];omega
  have hl:(b.take (b.length-4)).length=b.length-4:=by simp
  simp only[cond_false];rw[e0,aHZ (by omega)];simp only[Option.bind_some];rw[btZ (by rw[hl];simp;omega),List.nil_append];simp only[Option.bind_some];rw[gfZ (by rw[hl];omega)];simp only[Option.bind_some];rw[bWZ _ (by omega)];by_cases he:sealed (z0) (b.take (b.length-4))=b
  ·rw[if_pos he];simp[he]
  ·rw[if_neg he];have:(sealed (z0) (b.take (b.length-4))==b)=false:=by simpa using he
   rw[this]
   rfl
theorem jVZ:rTab fuel=some (tabI crcT):=by kernel_rfl
def oddT(s:Nat):List Nat:=(List.range 256).map fun i=>(crcT.getD i 0+s*i)%4294967296
theorem fzZ(s:Nat):Tab (oddT s):=⟨by simp[oddT],fun x hx=>by
 obtain⟨i,_,rfl⟩:=List.mem_map.1 hx;exact Nat.mod_lt _ (by omega)⟩
def oddK(s k:Nat):List Int:=(List.range 256).map fun i=>if i<k then(((crcT.getD i 0+s*i)%4294967296:Nat):Int) else((crcT.getD i 0:Nat):Int)
theorem mHZ(s:Nat):oddK s 0=tabI crcT:=by
 have h:=bdZ;apply List.ext_getElem?;intro i;by_cases hi:i<256
 ·rw[d8Z h hi];simp[oddK,hi]
 ·rw[List.getElem?_eq_none (by simp[oddK];omega),List.getElem?_eq_none (by rw[f0Z,h.1];omega)]
theorem l5Z(s:Nat):oddK s 256=tabI (oddT s):=by
 apply List.ext_getElem?;intro i;by_cases hi:i<256
 ·rw[d8Z (fzZ s) hi];simp[oddK,oddT,hi]
 ·rw[List.getElem?_eq_none (by simp[oddK];omega),List.getElem?_eq_none (by rw[f0Z,(fzZ s).1];omega)]
theorem kZZ{s:Nat}(hs:s<4294967296)(h:List UInt8)(h1:List Int)(h3:MsB):law01_BytesTells_l0_it fuel (s:Int) (0,(h,(h1,(tabI crcT,h3))))=some (h,(h1,(tabI (oddT s),h3))):=by
 unfold law01_BytesTells_l0_it;have:=aZZ (f:=fun(tt:Int×(List UInt8×(List Int×(List Int×MsB))))=>law01_BytesTells_l0 fuel (s:Int) tt.1 tt.2.1 tt.2.2.1 tt.2.2.2.1 tt.2.2.2.2) (o:=(h,(h1,(oddK s 256,h3)))) (fun k=>((k:Int),(h,(h1,(oddK s k,h3))))) 256 (by decide)
  (fun k hk=>by
   show law01_BytesTells_l0 fuel (s:Int) (k:Int) h h1 (oddK s k) h3=_;unfold law01_BytesTells_l0;have hg:(oddK s k)[k]? =some ((crcT.getD k 0:Nat):Int):=by simp[oddK,hk]
   have hc:=bdZ.lt k;rw[decide_eq_true (by omega),bwZ hk];simp only[cond_true,Option.bind_some,hg];have e:IntKind.wrap .u32 (((crcT.getD k 0:Nat):Int)+IntKind.wrap .u32 ((s:Int)*IntKind.wrap .u32 (k:Int)))=(((crcT.getD k 0+s*k)%4294967296:Nat):Int):=by
    rw[wu32 (x:=(k:Int)) ⟨by omega,by omega⟩,<-Int.natCast_mul,hlZ,hlZ];generalize s*k=x;omega
   rw[e,w64 ⟨by omega,by omega⟩];have e2:List.set (oddK s k) k (((crcT.getD k 0+s*k)%4294967296:Nat):Int)=oddK s (k+1):=by
    apply List.ext_getElem?;intro i;by_cases hi:i<256
    ·by_cases hik:k=i
     ·subst hik;rw[List.getElem?_set_self (by simp[oddK];omega)];simp[oddK,hi]
     ·rw[List.getElem?_set_ne hik];have:(i<k+1)=(i<k):=by
       apply propext;omega
      simp[oddK,hi,this]
    ·rw[List.getElem?_eq_none (by simp[oddK];omega),List.getElem?_eq_none (by simp[oddK];omega)]
   rw[e2]
   rfl)
  (by
   show law01_BytesTells_l0 fuel (s:Int) ((256:Nat):Int) h h1 (oddK s 256) h3=_;unfold law01_BytesTells_l0;rw[decide_eq_false (by omega)]
   rfl)
 rw[l5Z] at this;have h0:=mHZ s;simp only[h0] at this;exact this
end Go.Ab.D
set_option maxRecDepth 100000
namespace Go.Ab.D
open Go.P1
attribute [local irreducible] Go.P1.crcT tabI
def val:List Bool->Nat
 |[]=>0
 |b::l=>b.toNat+2*val l
def polyL:List Bool:=[false,false,false,true,true,true,true,false,true,true,false,true,true,true,false,false,false,true,true,false,true,true,true,true,false,true,false,false,false,false,false,true]
theorem kEZ:val polyL=2197175160:=by decide
theorem lsZ:∀l:List Bool,val l<2^l.length
 |[]=>by simp[val]
 |b::l=>by
  have:=lsZ l;have hb:b.toNat<=1:=Bool.toNat_le b;simp only[val,List.length_cons,Nat.pow_succ];omega
theorem fDZ:∀l:List Bool,val (l++[false])=val l
 |[]=>rfl
 |b::l=>by simp only[List.cons_append,val,fDZ l]
theorem hxZ(l:List Bool):val l.tail=val l/2:=by
 cases l with
 |nil=>rfl
 |cons b l=>
  have hb:b.toNat<=1:=Bool.toNat_le b;simp only[List.tail_cons,val];omega
theorem kuZ(a b:Bool)(x y:Nat):(a.toNat+2*x)^^^(b.toNat+2*y)=(xor a b).toNat+2*(x^^^y):=by
 have h1:=dDZ (a.toNat+2*x) (b.toNat+2*y);have h2:=dAZ (a.toNat+2*x) (b.toNat+2*y);have e1:(a.toNat+2*x)%2=a.toNat:=by cases a<;>simp<;>omega
 have e2:(b.toNat+2*y)%2=b.toNat:=by cases b<;>simp<;>omega
 have e3:(a.toNat+2*x)/2=x:=by cases a<;>simp<;>omega
 have e4:(b.toNat+2*y)/2=y:=by cases b<;>simp<;>omega
 have e5:a.toNat^^^b.toNat=(xor a b).toNat:=by cases a<;>cases b<;>rfl
 rw[e1,e2,e5] at h1;rw[e3,e4] at h2;omega
theorem jGZ:∀l r:List Bool,l.length=r.length->val (List.zipWith xor l r)=val l^^^val r
 |[],[],_=>rfl
 |a::l,b::r,h=>by
  simp only[List.zipWith_cons_cons,val];rw[jGZ l r (by simpa using h),kuZ]
theorem hcZ:∀l:List Bool,val (l.map not)+val l+1=2^l.length
 |[]=>rfl
 |b::l=>by
  have:=hcZ l;simp only[List.map_cons,val,List.length_cons,Nat.pow_succ];cases b<;>simp<;>omega
def nextR(x:Bool)(l:List Bool):List Bool:=bif x then List.zipWith xor polyL (l.tail++[false]) else l.tail++[false]
theorem jkZ{x:Bool}{l:List Bool}(h:l.length=32):(nextR x l).length=32:=by
 unfold nextR;cases x<;>simp[h,polyL]
theorem j6Z{x:Bool}{l:List Bool}(h:l.length=32):val (nextR x l)=val l/2^^^2197175160*x.toNat:=by
 unfold nextR;cases x
 ·simp only[cond_false,fDZ,hxZ,Bool.toNat_false,Nat.mul_zero,Nat.xor_zero]
 ·simp only[cond_true];rw[jGZ _ _ (by simp[h,polyL]),fDZ,hxZ,kEZ,Nat.xor_comm];simp
def flipG(x:Bool)(k1:Int)(h3:List Bool):Option ((Int×List Bool)⊕List Bool):=
 Option.bind (
  bif (decide (k1<32)) then
   some (x,h3)
  else
   some (false,h3)) fun o2=>
 bif o2.1 then
  need (decide (0<=k1))<|
  Option.bind (
   bif ((Int.tmod (Int.fdiv 2197175160 (2^(min (k1).toNat 64))) 2)==1) then
    (idx? k1 32).bind fun q4=>
    (o2.2)[q4]?.bind fun r6=>
    (idx? k1 32).bind fun q5=>
    (o2.2)[q5]?.bind fun r7=>
    some (List.set o2.2 q5 (!r6))
   else
    some o2.2) fun o3=>
  some (.inl ((IntKind.wrap .i64 (k1+1)),o3))
 else
  some (.inr o2.2)
theorem kjZ(b0 b1 b2 b3 b4 b5 b6 b7 b8 b9 b10 b11 b12 b13 b14 b15 b16 b17 b18 b19 b20 b21 b22 b23 b24 b25 b26 b27 b28 b29 b30 b31:Bool):iter fuel (fun(tt:Int×List Bool)=>flipG true tt.1 tt.2) (0,[b0,b1,b2,b3,b4,b5,b6,b7,b8,b9,b10,b11,b12,b13,b14,b15,b16,b17,b18,b19,b20,b21,b22,b23,b24,b25,b26,b27,b28,b29,b30,b31])=some [b0,b1,b2, !b3, !b4, !b5, !b6,b7, !b8, !b9,b10, !b11, !b12, !b13,b14,b15,b16, !b17, !b18,b19, !b20, !b21, !b22, !b23,b24, !b25,b26,b27,b28,b29,b30, !b31]:=by kernel_rfl
theorem isZ(l:List Bool):iter fuel (fun(tt:Int×List Bool)=>flipG false tt.1 tt.2) (0,l)=some l:=by kernel_rfl
theorem kMZ(b0 b1 b2 b3 b4 b5 b6 b7 b8 b9 b10 b11 b12 b13 b14 b15 b16 b17 b18 b19 b20 b21 b22 b23 b24 b25 b26 b27 b28 b29 b30 b31:Bool):rBit_l1_it fuel (0,[b0,b1,b2,b3,b4,b5,b6,b7,b8,b9,b10,b11,b12,b13,b14,b15,b16,b17,b18,b19,b20,b21,b22,b23,b24,b25,b26,b27,b28,b29,b30,b31])=some [b1,b2,b3,b4,b5,b6,b7,b8,b9,b10,b11,b12,b13,b14,b15,b16,b17,b18,b19,b20,b21,b22,b23,b24,b25,b26,b27,b28,b29,b30,b31,b31]:=by kernel_rfl
theorem mAZ(b0 b1 b2 b3 b4 b5 b6 b7 b8 b9 b10 b11 b12 b13 b14 b15 b16 b17 b18 b19 b20 b21 b22 b23 b24 b25 b26 b27 b28 b29 b30 b31:Bool):List.zipWith xor polyL [b0,b1,b2,b3,b4,b5,b6,b7,b8,b9,b10,b11,b12,b13,b14,b15,b16,b17,b18,b19,b20,b21,b22,b23,b24,b25,b26,b27,b28,b29,b30,b31]=[b0,b1,b2, !b3, !b4, !b5, !b6,b7, !b8, !b9,b10, !b11, !b12, !b13,b14,b15,b16, !b17, !b18,b19, !b20, !b21, !b22, !b23,b24, !b25,b26,b27,b28,b29,b30, !b31]:=by
 simp only[polyL,List.zipWith_cons_cons,List.zipWith_nil_left,Bool.true_xor,Bool.false_xor]
theorem jzZ(l:List Bool)(hl:l.length=32)(x:Bool):∃o1,rBit_l1_it fuel (0,l)=some o1/\o1[31]?.isSome=true/\iter fuel (fun(tt:Int×List Bool)=>flipG x tt.1 tt.2) (0,List.set o1 31 false)=some (nextR x l):=by
 rcases l with _|⟨b0,l⟩
 ·simp at hl
 rcases l with _|⟨b1,l⟩
 ·simp at hl
 rcases l with _|⟨b2,l⟩
 ·simp at hl
 rcases l with _|⟨b3,l⟩
 ·simp at hl
 rcases l with _|⟨b4,l⟩
 ·simp at hl
 rcases l with _|⟨b5,l⟩
 ·simp at hl
 rcases l with _|⟨b6,l⟩
 ·simp at hl
 rcases l with _|⟨b7,l⟩
 ·simp at hl
 rcases l with _|⟨b8,l⟩
 ·simp at hl
 rcases l with _|⟨b9,l⟩
 ·simp at hl
 rcases l with _|⟨b10,l⟩
 ·simp at hl
 rcases l with _|⟨b11,l⟩
 ·simp at hl
 rcases l with _|⟨b12,l⟩
 ·simp at hl
 rcases l with _|⟨b13,l⟩
 ·simp at hl
 rcases l with _|⟨b14,l⟩
 ·simp at hl
 rcases l with _|⟨b15,l⟩
 ·simp at hl
 rcases l with _|⟨b16,l⟩
 ·simp at hl
 rcases l with _|⟨b17,l⟩
 ·simp at hl
 rcases l with _|⟨b18,l⟩
 ·simp at hl
 rcases l with _|⟨b19,l⟩
 ·simp at hl
 rcases l with _|⟨b20,l⟩
 ·simp at hl
 rcases l with _|⟨b21,l⟩
 ·simp at hl
 rcases l with _|⟨b22,l⟩
 ·simp at hl
 rcases l with _|⟨b23,l⟩
 ·simp at hl
 rcases l with _|⟨b24,l⟩
 ·simp at hl
 rcases l with _|⟨b25,l⟩
 ·simp at hl
 rcases l with _|⟨b26,l⟩
 ·simp at hl
 rcases l with _|⟨b27,l⟩
 ·simp at hl
 rcases l with _|⟨b28,l⟩
 ·simp at hl
 rcases l with _|⟨b29,l⟩
 ·simp at hl
 rcases l with _|⟨b30,l⟩
 ·simp at hl
 rcases l with _|⟨b31,l⟩
 ·simp at hl
 obtain rfl:l=[]:=List.eq_nil_of_length_eq_zero (by simpa using hl);refine⟨_,kMZ b0 b1 b2 b3 b4 b5 b6 b7 b8 b9 b10 b11 b12 b13 b14 b15 b16 b17 b18 b19 b20 b21 b22 b23 b24 b25 b26 b27 b28 b29 b30 b31,rfl,?_⟩;cases x
 ·exact isZ _
 ·show iter fuel (fun(tt:Int×List Bool)=>flipG true tt.1 tt.2) (0,[b1,b2,b3,b4,b5,b6,b7,b8,b9,b10,b11,b12,b13,b14,b15,b16,b17,b18,b19,b20,b21,b22,b23,b24,b25,b26,b27,b28,b29,b30,b31,false])=some (List.zipWith xor polyL [b1,b2,b3,b4,b5,b6,b7,b8,b9,b10,b11,b12,b13,b14,b15,b16,b17,b18,b19,b20,b21,b22,b23,b24,b25,b26,b27,b28,b29,b30,b31,false]);rw[mAZ,kjZ]
def bitN(b:List UInt8)(i:Nat):Nat:=(b.getD (i/8) 0).toNat/2^(i%8)%2
def stB(b:List UInt8):Nat->List Bool
 |0=>List.replicate 32 true
 |i+1=>nextR (!((stB b i).getD 0 false==decide (bitN b i=1))) (stB b i)
theorem erZ(b:List UInt8):∀i,(stB b i).length=32
 |0=>rfl
 |i+1=>jkZ (erZ b i)
theorem jJZ{b:List UInt8}(hb:b.length<=800){i:Nat}(hi:i<8*b.length):rBit_l3 fuel b (i:Int) (stB b i)=some (.inl (((i+1:Nat):Int),stB b (i+1))):=by
 have hl:=erZ b i;unfold rBit_l3;have e1:IntKind.wrap .i64 (8*((b.length:Nat):Int))=((8*b.length:Nat):Int):=by rw[w64 ⟨by omega,by omega⟩];omega
 have e2:IntKind.wrap .i64 (Int.tdiv (i:Int) 8)=((i/8:Nat):Int):=by
  have:Int.tdiv (i:Int) 8=((i/8:Nat):Int):=rfl;rw[this,w64 ⟨by omega,by omega⟩]
 have e3:Int.tmod (i:Int) 8=((i%8:Nat):Int):=rfl;have hq:i/8<b.length:=by omega
 rw[e1,decide_eq_true (by omega),e2,bwZ hq,e3];simp only[cond_true,Option.bind_some,List.getElem?_eq_getElem hq];rw[amZ (decide_eq_true (by omega))];have h0:(stB b i)[0]? =some ((stB b i).getD 0 false):=by
  rw[List.getElem?_eq_getElem (by omega)];simp[List.getD_eq_getElem?_getD,List.getElem?_eq_getElem (show 0<(stB b i).length by omega)]
 rw[h0];simp only[Option.bind_some];generalize hx:(!((stB b i).getD 0 false==decide (bitN b i=1)))=x;obtain⟨o1,q1,q2,q3⟩:=jzZ (stB b i) hl x;rw[q1];simp only[Option.bind_some];obtain⟨r5,q4⟩:=Option.isSome_iff_exists.1 q2;rw[q4];simp only[Option.bind_some];have hbit:((Int.tmod (Int.fdiv (((b[i/8].toNat:Nat):Int)) (2^(min (((i%8:Nat):Int)).toNat 8))) 2)==1)=decide (bitN b i=1):=by
  have e4:(2:Int)^(min (((i%8:Nat):Int)).toNat 8)=((2^(i%8):Nat):Int):=by
   have:min (((i%8:Nat):Int)).toNat 8=i%8:=by omega
   rw[this];simp
  rw[e4,dBZ];have e5:bitN b i=b[i/8].toNat/2^(i%8)%2:=by
   unfold bitN;rw[List.getD_eq_getElem?_getD,List.getElem?_eq_getElem hq];rfl
  rw[e5];generalize b[i/8].toNat/2^(i%8)=y;have e6:Int.tmod ((y:Nat):Int) 2=((y%2:Nat):Int):=rfl;rw[e6];have:y%2=0\/y%2=1:=by omega
  rcases this with h|h<;>rw[h]<;>rfl
 have q3':rBit_l2_it fuel ((stB b i).getD 0 false) b[i/8] (i:Int) (0,List.set o1 31 false)=some (nextR x (stB b i)):=by
  unfold rBit_l2_it;rw[<-q3];congr 1;funext tt;unfold rBit_l2 flipG;rw[e3,hbit,hx]
 rw[q3'];simp only[Option.bind_some];have hst:stB b (i+1)=nextR (!((stB b i).getD 0 false==decide (bitN b i=1))) (stB b i):=rfl;rw[w64 ⟨by omega,by omega⟩,hst,hx]
 rfl
def rB(b:List UInt8)(i:Nat):Nat:=val (stB b i)
theorem ibZ(n t:Nat)(ht:t<2):halved (n^^^t)=n/2^^^2197175160*((n%2)^^^t):=by
 unfold halved;rw[dAZ,dDZ,Nat.div_eq_of_lt ht,Nat.xor_zero,Nat.mod_eq_of_lt ht]
theorem lUZ(b:List UInt8)(i:Nat):rB b (i+1)=halved (rB b i^^^bitN b i):=by
 have hl:=erZ b i;have ht:bitN b i<2:=Nat.mod_lt _ (by omega);rw[ibZ _ _ ht];have h0:rB b i%2=((stB b i).getD 0 false).toNat:=by
  unfold rB;rcases hs:stB b i with _|⟨c,l⟩
  ·rw[hs] at hl;simp at hl
  ·have hc:c.toNat<=1:=Bool.toNat_le c;simp only[val,List.getD_cons_zero];omega
 show val (nextR _ (stB b i))=_;rw[j6Z hl,h0];show rB b i/2^^^_=_;congr 2;have:bitN b i=0\/bitN b i=1:=by omega
 rcases this with h|h<;>rw[h]<;>cases(stB b i).getD 0 false<;>rfl
theorem halved_even(m:Nat):halved (2*m)=m:=by
 unfold halved;rw[Nat.mul_div_cancel_left _ (by omega),Nat.mul_mod_right,Nat.mul_zero,Nat.xor_zero]
theorem hXZ(d:Nat):d=(d%2)^^^(2*(d/2)):=by
 have h1:=dDZ (d%2) (2*(d/2));have h2:=dAZ (d%2) (2*(d/2));rw[Nat.mul_mod_right,Nat.mod_mod,Nat.xor_zero] at h1;rw[Nat.mul_div_cancel_left _ (by omega),Nat.div_eq_of_lt (Nat.mod_lt _ (by omega)),Nat.zero_xor] at h2;omega
def hv':Nat->Nat->Nat
 |0,n=>n
 |k+1,n=>halved (hv' k n)
theorem fXZ(b:List UInt8)(j:Nat):∀t,t<=8->rB b (8*j+t)^^^(b.getD j 0).toNat/2^t=hv' t (rB b (8*j)^^^(b.getD j 0).toNat)
 |0,_=>by simp[hv']
 |t+1,h=>by
  have ih:=fXZ b j t (by omega);show _=halved (hv' t _);rw[<-ih];have e1:(8*j+t)/8=j:=by omega
  have e2:(8*j+t)%8=t:=by omega
  have e3:bitN b (8*j+t)=(b.getD j 0).toNat/2^t%2:=by unfold bitN;rw[e1,e2]
  have e4:rB b (8*j+(t+1))=halved (rB b (8*j+t)^^^((b.getD j 0).toNat/2^t%2)):=by rw[<-e3];exact lUZ b (8*j+t)
  have e5:(b.getD j 0).toNat/2^(t+1)=(b.getD j 0).toNat/2^t/2:=by rw[Nat.pow_succ,Nat.div_div_eq_div_mul]
  rw[e4,e5];generalize (b.getD j 0).toNat/2^t=d;have e6:rB b (8*j+t)^^^d=(rB b (8*j+t)^^^d%2)^^^(2*(d/2)):=by
   rw[Nat.xor_assoc,<-hXZ]
  rw[e6,eSZ (rB b (8*j+t)^^^d%2) (2*(d/2)),halved_even]
theorem m8Z(m:Nat):hv' 8 (256*m)=m:=by
 have e:256*m=2*(2*(2*(2*(2*(2*(2*(2*m))))))):=by omega
 rw[e];simp only[hv',halved_even]
theorem lgZ:∀k a b,hv' k (a^^^b)=hv' k a^^^hv' k b
 |0,_,_=>rfl
 |k+1,a,b=>by
  show halved (hv' k _)=halved (hv' k a)^^^halved (hv' k b);rw[lgZ k,eSZ]
theorem split256(n:Nat):n=256*(n/256)^^^n%256:=by
 have h1:=iwZ (256*(n/256)) (n%256);have h2:=ivZ (256*(n/256)) (n%256);rw[Nat.mul_mod_right,Nat.mod_mod,Nat.zero_xor] at h1;rw[Nat.mul_div_cancel_left _ (by omega),Nat.div_eq_of_lt (Nat.mod_lt _ (by omega)),Nat.xor_zero] at h2;omega
theorem jZZ(b:List UInt8)(j:Nat):rB b (8*(j+1))=P1.step crcT (rB b (8*j)) (b.getD j 0):=by
 have h:=fXZ b j 8 (by omega);have hc:(b.getD j 0).toNat<256:=(b.getD j 0).toNat_lt;rw[Nat.div_eq_of_lt (show(b.getD j 0).toNat<2^8 from hc),Nat.xor_zero] at h;rw[show 8*(j+1)=8*j+8 by omega,h];unfold P1.step;generalize rB b (8*j)=n;generalize (b.getD j 0).toNat=c at hc;rw[laZ (heZ (Nat.mod_lt _ (by omega)) hc)];have e1:n^^^c=256*(n/256)^^^(n%256^^^c):=by
  rw[<-Nat.xor_assoc,<-split256]
 rw[e1,lgZ,m8Z]
 rfl
theorem lkZ(b:List UInt8):∀j,j<=b.length->rB b (8*j)=run crcT 4294967295 (b.take j)
 |0,_=>by
  show val (List.replicate 32 true)=_;rw[List.take_zero]
  decide
 |j+1,h=>by
  rw[jZZ,lkZ b j (by omega),List.take_succ_eq_append_getElem (by omega),run_snoc];congr 1;rw[List.getD_eq_getElem?_getD,List.getElem?_eq_getElem (by omega)]
  rfl
theorem lKZ{l:List Bool}(hl:l.length=32):rBit_l4_it fuel (0,(31,l))=some ((val (l.map not):Nat):Int):=by
 unfold rBit_l4_it;have hv:=hcZ l;rw[hl] at hv;have:=aZZ (f:=fun(tt:Int×(Int×List Bool))=>rBit_l4 fuel tt.1 tt.2.1 tt.2.2) (o:=((val ((l.drop (32-32)).map not):Nat):Int)) (fun k=>(((val ((l.drop (32-k)).map not):Nat):Int),(31-(k:Int),l))) 32 (by decide)
  (fun k hk=>by
   show rBit_l4 fuel ((val ((l.drop (32-k)).map not):Nat):Int) (31-(k:Int)) l=_;unfold rBit_l4;have hq:31-k<l.length:=by omega
   have e1:(31-(k:Int))=((31-k:Nat):Int):=by omega
   have hd:l.drop (32-(k+1))=l[31-k]::l.drop (32-k):=by
    rw[show 32-(k+1)=31-k by omega,List.drop_eq_getElem_cons hq,show 31-k+1=32-k by omega]
   have hvl:=lsZ ((l.drop (32-k)).map not);have hlen:((l.drop (32-k)).map not).length=k:=by rw[List.length_map,List.length_drop];omega
   rw[hlen] at hvl;have hp:2^k<=2^31:=Nat.pow_le_pow_right (by omega) (by omega);rw[e1,decide_eq_true (by omega),bwZ (show 31-k<32 by omega)];simp only[cond_true,Option.bind_some,List.getElem?_eq_getElem hq];rw[hd];simp only[List.map_cons,val];generalize val ((l.drop (32-k)).map not)=y at hvl;have e2:IntKind.wrap .i64 (((31-k:Nat):Int)-1)=31-((k+1:Nat):Int):=by rw[w64 ⟨by omega,by omega⟩];omega
   rw[e2];cases l[31-k]
   ·simp only[Bool.not_false,cond_true,Option.bind_some];rw[wu32 (x:=((y:Nat):Int)*2) ⟨by omega,by omega⟩,wu32 ⟨by omega,by omega⟩];simp;omega
   ·simp only[Bool.not_true,cond_false,Option.bind_some];rw[wu32 ⟨by omega,by omega⟩];simp;omega)
  (by
   show rBit_l4 fuel _ (31-((32:Nat):Int)) l=_;unfold rBit_l4;rw[decide_eq_false (by omega)]
   rfl)
 simp only[hl,Nat.sub_self,List.drop_zero] at this;have e0:(val ((l.drop (32-0)).map not):Nat)=0:=by rw[List.drop_of_length_le (by omega)];rfl
 rw[e0] at this;exact this
theorem mcZ{b:List UInt8}(hb:b.length<=800):rBit fuel b=some ((P1.sum crcT b:Nat):Int):=by
 unfold rBit;have s0:rBit_l0_it fuel (0,(List.replicate (α:=Bool) 32 false))=some (List.replicate 32 true):=by kernel_rfl
 rw[s0];simp only[Option.bind_some];have s1:rBit_l3_it fuel b (0,List.replicate 32 true)=some (stB b (8*b.length)):=by
  unfold rBit_l3_it;have:=aZZ (f:=fun(tt:Int×List Bool)=>rBit_l3 fuel b tt.1 tt.2) (o:=stB b (8*b.length)) (fun k=>((k:Int),stB b k)) (8*b.length) (by omega)
   (fun k hk=>jJZ hb hk)
   (by
    show rBit_l3 fuel b ((8*b.length:Nat):Int) (stB b (8*b.length))=_;unfold rBit_l3;have e1:IntKind.wrap .i64 (8*((b.length:Nat):Int))=((8*b.length:Nat):Int):=by rw[w64 ⟨by omega,by omega⟩];omega
    rw[e1,decide_eq_false (by omega)]
    rfl)
  exact this
 rw[s1];simp only[Option.bind_some];rw[lKZ (erZ _ _)];simp only[Option.bind_some];have h1:=hcZ (stB b (8*b.length));rw[erZ] at h1;have h2:=lkZ b b.length (Nat.le_refl _);rw[List.take_length] at h2;have h3:val (stB b (8*b.length))=run crcT 4294967295 b:=h2;rw[h3] at h1;unfold P1.sum;congr 2;omega
end Go.Ab.D
set_option maxRecDepth 100000
namespace Go.Ab.D
open Go.P1
attribute [local irreducible] Go.P1.crcT tabI
theorem huZ:law01_awake fuel=some true:=by kernel_rfl
theorem lEZ{ms:MsB}{l:List UInt8}(h0:ms[0]? =some (1,l)):openF (α:=UInt8) 15 ms (mem 0 l)=some (l,ms.map fun m=>(0,m.2)):=by
 show ms[0]?.bind _=_;rw[h0];show need (Nat.beq 1 1&&Nat.beq 0 0&&Nat.ble l.length l.length) (some (l.take l.length,ms.map fun m=>(0,m.2)))=_;rw[amZ (by rw[a9Z (Nat.le_refl _)];rfl),List.take_length]
theorem dyZ:∀l:List Int,listEqb (Ty.eqb (.int .u32)) l l=true
 |[]=>rfl
 |x::l=>by
  show(Ty.eqb (.int .u32) x x&&listEqb (Ty.eqb (.int .u32)) l l)=true;rw[dyZ l];simp[Ty.eqb]
theorem law01_BytesTells_true(n:Int)(b:List UInt8)(at_ most seed:Int)(k0:OkV (.int .u64) n)(k1:OkV (.sl .byte) b)(k2:OkV (.int .i64) at_)(k3:OkV (.int .i64) most)(k4:OkV (.int .u32) seed):law01_BytesTells fuel n b at_ most seed=some true:=by
 obtain⟨N,rfl,hN⟩:∃N:Nat,n=(N:Int)/\N<18446744073709551616:=by
  have h:0<=n/\n<=18446744073709551615:=k0;exact⟨n.toNat,by omega,by omega⟩
 obtain⟨s,rfl,hs⟩:∃s:Nat,seed=(s:Int)/\s<4294967296:=by
  have h:0<=seed/\seed<=4294967295:=k4;exact⟨seed.toNat,by omega,by omega⟩
 have hm:most<=9223372036854775807:=(show-9223372036854775808<=most/\most<=9223372036854775807 from k3).2;unfold law01_BytesTells;by_cases hb:b.length>800
 ·rw[decide_eq_true (by omega)];simp only[cond_true];rw[huZ]
  rfl
 have hb:b.length<=800:=by omega
 rw[decide_eq_false (by omega)];simp only[cond_false];rw[lPZ (show b.length<=Go.Ab.room by unfold Go.Ab.room;omega)];simp only[Option.bind_some];rw[eKZ (by omega),ewZ (by omega)];simp only[Option.bind_some,beq_self_eq_true,Bool.not_true,cond_false];rw[gFZ (by omega) hm,hdZ (by omega) hm];simp only[Option.bind_some,beq_self_eq_true,Bool.not_true,cond_false];obtain⟨k,ms1,u1,u2,u3⟩:=h5Z hN (l:=b) (by omega) (ms:=[(1,b)]) rfl;rw[u1];simp only[Option.bind_some];rw[iWZ u2,h2Z hN (by omega)];simp only[Option.bind_some,beq_self_eq_true,Bool.not_true,cond_false];obtain⟨ms2,v1,v2⟩:=kDZ (b:=b) (l:=b) (by omega) u3;rw[v1,kKZ (by omega)];simp only[Option.bind_some];rw[lEZ v2];simp only[Option.bind_some,beq_self_eq_true,Bool.not_true,cond_false];have hl:Nat.beq (tabI crcT).length 256=true:=by rw[f0Z,bdZ.1];rfl
 have e0:Nat.beq (List.replicate (α:=Int) 256 0).length 256=true:=by rw[List.length_replicate];rfl
 have ho:=fzZ s;rw[kYZ];simp only[Option.bind_some];rw[amZ e0,amZ hl,jVZ];simp only[Option.bind_some];rw[amZ e0,amZ hl,kZZ hs];simp only[Option.bind_some];rw[fWZ bdZ (by omega),eNZ bdZ (by omega)];simp only[Option.bind_some];rw[h6Z bdZ (by omega),gDZ bdZ (by omega)];simp only[Option.bind_some,beq_self_eq_true,Bool.not_true,cond_false];rw[gQZ bdZ (by omega),fnZ bdZ (by omega)];simp only[Option.bind_some,beq_self_eq_true,Bool.not_true,cond_false];rw[fWZ ho (by omega),eNZ ho (by omega)];simp only[Option.bind_some];rw[h6Z ho (by omega),gDZ ho (by omega)];simp only[Option.bind_some,beq_self_eq_true,Bool.not_true,cond_false];rw[gQZ ho (by omega),fnZ ho (by omega)];simp only[Option.bind_some,beq_self_eq_true,Bool.not_true,cond_false];rw[ioZ (by omega),g6Z (by omega)];simp only[Option.bind_some];rw[juZ,hAZ];simp only[Option.bind_some,beq_self_eq_true,Bool.not_true,cond_false];rw[h9Z (by omega),gfZ (by omega)];simp only[Option.bind_some,beq_self_eq_true,Bool.not_true,cond_false];rw[h6Z bdZ (by omega),mcZ hb];simp only[Option.bind_some,beq_self_eq_true,cond_true];rw[amZ hl];refine Eq.trans (congrArg (fun c=>bif c then(law01_awake fuel).bind fun r=>some r else some false) (dyZ (tabI crcT))) ?_;simp only[cond_true];rw[huZ]
 rfl
end Go.Ab.D
