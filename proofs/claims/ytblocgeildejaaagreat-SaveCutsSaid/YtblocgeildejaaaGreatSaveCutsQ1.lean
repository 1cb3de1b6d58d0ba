/- What the functions compute; the plain law. -/
import Derived.Test.YtblocgeildejaaaGreatSaveCutsD3
import Derived.Test.YtblocgeildejaaaGreatSaveCutsP1
set_option linter.all false
namespace Go.Ab
theorem ZAC:type_of% @decide_eq_false:=@decide_eq_false
theorem ZAD:type_of% @decide_eq_true:=@decide_eq_true
theorem ZAk.{u}:type_of% @beq_eq_false_iff_ne.{u}:=@beq_eq_false_iff_ne.{u}
theorem ZAr.{u}:type_of% @Option.isNone_some.{u}:=@Option.isNone_some.{u}
theorem ZA3.{u}:type_of% @List.take_succ_eq_append_getElem.{u}:=@List.take_succ_eq_append_getElem.{u}
theorem ZBC.{u,v}:type_of% @List.flatMap_cons.{u,v}:=@List.flatMap_cons.{u,v}
theorem ZBV.{u}:type_of% @beq_false_of_ne.{u}:=@beq_false_of_ne.{u}
end Go.Ab
namespace Go.Ab
theorem w64{x:Int}(h: -9223372036854775808<=x/\x<=9223372036854775807):IntKind.wrap .i64 x=x:=by
 simp only[IntKind.wrap,IntKind.bits,IntKind.signed];simp;omega
theorem wu64{x:Int}(h:0<=x/\x<=18446744073709551615):IntKind.wrap .u64 x=x:=by
 simp only[IntKind.wrap,IntKind.bits,IntKind.signed];simp;omega
theorem wu32{x:Int}(h:0<=x/\x<=4294967295):IntKind.wrap .u32 x=x:=by
 simp only[IntKind.wrap,IntKind.bits,IntKind.signed];simp;omega
theorem wu8{x:Int}(h:0<=x/\x<=255):IntKind.wrap .u8 x=x:=by
 simp only[IntKind.wrap,IntKind.bits,IntKind.signed];simp;omega
theorem jxZ(x:Int):IntKind.wrap .u8 x=x%256:=by
 simp only[IntKind.wrap,IntKind.bits,IntKind.signed];simp
theorem jFZ(k:IntKind){a b:Nat}(ha:a<2^k.bits)(hb:b<2^k.bits)(hw:∀x:Int,0<=x/\x<2^k.bits->k.wrap x=x):bitsI .xor k a b=((a^^^b:Nat):Int):=by
 have h:=Nat.xor_lt_two_pow ha hb;simp only[bitsI,BitVec.ofInt_natCast,<-BitVec.ofNat_xor,BitVec.toNat_ofNat,Nat.mod_eq_of_lt h];exact hw _ ⟨by omega,by exact_mod_cast h⟩
theorem xor8{a b:Nat}(ha:a<256)(hb:b<256):bitsI .xor .u8 a b=((a^^^b:Nat):Int):=jFZ .u8 ha hb fun x h=>wu8 ⟨h.1,by have:=h.2;simp[IntKind.bits] at this;omega⟩
theorem qfZ{a b:Nat}(ha:a<4294967296)(hb:b<4294967296):bitsI .xor .u32 a b=((a^^^b:Nat):Int):=jFZ .u32 ha hb fun x h=>wu32 ⟨h.1,by have:=h.2;simp[IntKind.bits] at this;omega⟩
theorem jWZ(a b:Nat):Int.fdiv (a:Int) (b:Int)=((a/b:Nat):Int):=by
 rw[Int.fdiv_eq_ediv_of_nonneg _ (by omega)];rfl
theorem auZ{i n:Nat}(h:i<n):idx? (i:Int) n=some i:=by simp[idx?,h]
theorem bdZ{i n:Nat}(h:i<=n):upto? (i:Int) n=some i:=by simp[upto?,h]
theorem ehZ{n:Nat}(h:n<256):byte? (n:Int)=some (UInt8.ofNat n):=by
 have:(n:Int)<256:=by omega
 simp[byte?,this]
theorem alZ{β:Type}{b:Bool}{K:Option β}(h:b=true):need b K=K:=by subst h;rfl
theorem aEZ{a b:Nat}(h:a<=b):Nat.ble a b=true:=ZAX h
theorem ngZ{β:Type}{n:Nat}{K:Bool->Option β}(h:n=0->K true=K false):nilQ n K=K false:=by
 unfold nilQ;rw[ZAV h]
theorem ixZ:room=140737488355328:=rfl
theorem nlZ{n:Nat}(h:n<4611686018427387904):∃m,fuel=m+(n+1):=⟨4611686018427387903-n,by unfold fuel;omega⟩
theorem glZ{τ ο:Type}{f:τ->Option (τ⊕ο)}(S:Nat->τ):∀(n m:Nat),(∀k,k<n->f (S k)=some (.inl (S (k+1))))->iter (m+n) f (S 0)=iter m f (S n)
 |0,m,_=>rfl
 |n+1,m,h=>by
  have e:m+(n+1)=(m+1)+n:=by omega
  rw[e,glZ S n (m+1) fun k hk=>h k (by omega)];show(f (S n)).ob _=_;rw[h n (by omega)]
  rfl
theorem bgZ{τ ο:Type}{f:τ->Option (τ⊕ο)}{o:ο}(S:Nat->τ)(n:Nat)(hn:n<4611686018427387904)(hs:∀k,k<n->f (S k)=some (.inl (S (k+1))))(he:f (S n)=some (.inr o)):iter fuel f (S 0)=some o:=by
 obtain⟨m,hm⟩:=nlZ hn;have e:fuel=(m+1)+n:=by omega
 rw[e,glZ S n (m+1) hs];show(f (S n)).ob _=_;rw[he]
 rfl
theorem nQZ{τ ο:Type}{f:τ->Option (τ⊕ο)}{s s':τ}{n:Nat}(h:f s=some (.inl s')):iter (n+1) f s=iter n f s':=by
 show(f s).ob _=_;rw[h]
 rfl
theorem gTZ{τ ο:Type}{f:τ->Option (τ⊕ο)}{s:τ}{o:ο}{n:Nat}(h:f s=some (.inr o)):iter (n+1) f s=some o:=by
 show(f s).ob _=_;rw[h]
 rfl
theorem qgZ(n:Nat)(h:n<4611686018427387904):∃m,fuel=m+n+1:=⟨4611686018427387903-n,by unfold fuel;omega⟩
theorem aHZ{τ ο:Type}{f:τ->Option (τ⊕ο)}(I:Nat->τ->Prop)(Q:ο->Prop)(hs:∀n s,I (n+1) s->(∃s',f s=some (.inl s')/\I n s')\/∃o,f s=some (.inr o)/\Q o)(he:∀s,I 0 s->∃o,f s=some (.inr o)/\Q o):∀(n:Nat) (s:τ),n<4611686018427387904->I n s->∃o,iter fuel f s=some o/\Q o:=by
 have main:∀(n m:Nat) (s:τ),n<m->I n s->∃o,iter m f s=some o/\Q o:=fun n=>by
  induction n with
  |zero=>
   intro m s hm hi;obtain⟨m,rfl⟩:∃k,m=k+1:=⟨m-1,by omega⟩;obtain⟨o,h1,h2⟩:=he s hi;exact⟨o,gTZ h1,h2⟩
  |succ n ih=>
   intro m s hm hi;obtain⟨m,rfl⟩:∃k,m=k+1:=⟨m-1,by omega⟩;rcases hs n s hi with⟨s',h1,h2⟩|⟨o,h1,h2⟩
   ·rw[nQZ h1];exact ih m s' (by omega) h2
   ·exact⟨o,gTZ h1,h2⟩
 exact fun n s hn hi=>main n fuel s hn hi
theorem aDZ{τ ο:Type}{f:τ->Option (τ⊕ο)}{s:τ}{o:ο}(h:f s=some (.inr o)):iter fuel f s=some o:=by
 obtain⟨n,hn⟩:=qgZ 0 (by omega);rw[hn];exact gTZ h
end Go.Ab
namespace Go.Ab.D
open Go.P1
def tabI(T:List Nat):List Int:=T.map fun(n:Nat)=>(n:Int)
theorem n0Z(T:List Nat):(tabI T).length=T.length:=by simp[tabI]
theorem nyZ{T:List Nat}(h:Tab T){i:Nat}(hi:i<256):(tabI T)[i]? =some ((T.getD i 0:Nat):Int):=by
 have:i<T.length:=by rw[h.1];exact hi
 simp[tabI,this]
theorem nBZ:bTab fuel=some (tabI crcT):=by kernel_rfl
theorem nVZ{T:List Nat}(h:Tab T){b:List UInt8}(s k:Nat)(hk:k<b.length)(hb:b.length<9223372036854775807)(hs:s<4294967296):
 bytes_Sum_l0 fuel b (tabI T) (s:Int) (k:Int)=some (.inl (((P1.step T s b[k]:Nat):Int),((k+1:Nat):Int))):=by
 unfold bytes_Sum_l0;have h1:decide ((k:Int)<((b.length:Nat):Int))=true:=ZAD (by omega);have hc:=b[k].toNat_lt;have hm:s%256<256:=ZBn _ (by omega);have hx:s%256^^^b[k].toNat<256:=oCZ hm hc;have e1:IntKind.wrap .u8 (s:Int)=((s%256:Nat):Int):=by rw[jxZ];omega
 have e2:Int.fdiv (s:Int) 256=((s/256:Nat):Int):=jWZ s 256;have e3:IntKind.wrap .i64 ((k:Int)+1)=((k+1:Nat):Int):=by rw[w64 ⟨by omega,by omega⟩];omega
 have ht:=h.lt (s%256^^^b[k].toNat);simp only[h1,ZAM,auZ hk,ZAA,ZAI hk,e1,xor8 hm hc,auZ hx,nyZ h hx,e2,qfZ ht (show s/256<4294967296 by omega),e3];rw[P1.step,Nat.xor_comm]
theorem pOZ{T:List Nat}(h:Tab T){b:List UInt8}(hb:b.length<4611686018427387904):bytes_Sum fuel (tabI T) b=some ((P1.sum T b:Nat):Int):=by
 unfold bytes_Sum bytes_Sum_l0_it;have e:iter fuel (fun tt=>bytes_Sum_l0 fuel b (tabI T) tt.1 tt.2) (4294967295,0)=some ((P1.run T 4294967295 b:Nat):Int):=by
  have:=bgZ (f:=fun(tt:Int×Int)=>bytes_Sum_l0 fuel b (tabI T) tt.1 tt.2) (o:=((P1.run T 4294967295 b:Nat):Int)) (fun k=>(((P1.run T 4294967295 (b.take k):Nat):Int),(k:Int))) b.length hb
   (fun k hk=>by
    rw[nVZ h _ k hk (by omega) (P1.run_lt h _ (by omega))];rw[ZA3 hk,P1.run_snoc])
   (by
    simp only[ZBP];unfold bytes_Sum_l0;rw[ZAC (by omega)]
    rfl)
  simpa[P1.run] using this
 rw[e];have hl:=P1.run_lt h b (s:=4294967295) (by omega);simp only[ZAA];rw[wu32 ⟨by omega,by omega⟩];congr 1;unfold P1.sum;omega
theorem iTZ{b:List UInt8}(h:b.length<=room):lCopByt fuel b=some b:=by
 unfold lCopByt;rw[alZ (by rw[ZBm,aEZ h];rfl)]
theorem keZ{b:List UInt8}(h:b.length<=room):sClo7 fuel b=some b:=by
 unfold sClo7;have hn:need (Nat.ble ((0+b.length)*1) room&&Nat.ble (0+b.length) room) (some b)=some b:=alZ (by rw[ZAi,ZBm,aEZ h];rfl);rw[ngZ (fun h0=>by
  have:b=[]:=ZAU h0;subst this;rw[hn]
  rfl)]
 rw[hn]
 rfl
theorem iIZ{T:List Nat}(h:Tab T){b:List UInt8}(hb:b.length+4<=140737488355328):bSea fuel (tabI T) b=some (sealed (P1.sum T) b):=by
 have hs:=P1.sum_lt T b;have e0:IntKind.wrap .i64 (((b.length:Nat):Int)+4)=((b.length+4:Nat):Int):=by rw[w64 ⟨by omega,by omega⟩];omega
 unfold bSea;rw[e0,bdZ (show b.length+4<=room from hb)];simp only[ZAA];rw[bdZ (ZAL _)];simp only[ZAA];rw[alZ (by rw[ZBm,aEZ (show b.length+4<=room from hb)]),pOZ h (by omega)];simp only[ZAA];have e:bSea_l0_it fuel b ((P1.sum T b:Nat):Int) (0,List.replicate (b.length+4) 0)=some (laid4 b.length (P1.sum T b) 4):=by
  unfold bSea_l0_it;have:=bgZ (f:=fun(tt:Int×List UInt8)=>bSea_l0 fuel b ((P1.sum T b:Nat):Int) tt.1 tt.2) (o:=laid4 b.length (P1.sum T b) 4) (fun k=>((k:Int),laid4 b.length (P1.sum T b) k)) 4 (by decide)
   (fun k hk=>by
    have hlen:=lHZ b.length (P1.sum T b) k (by omega);have e1:IntKind.wrap .i64 (8*(k:Int))=((8*k:Nat):Int):=by rw[w64 ⟨by omega,by omega⟩];omega
    have e2:IntKind.wrap .i64 (IntKind.wrap .i64 (((b.length+4:Nat):Int)-1)-(k:Int))=((b.length+3-k:Nat):Int):=by
     rw[w64 (x:=((b.length+4:Nat):Int)-1) ⟨by omega,by omega⟩,w64 ⟨by omega,by omega⟩];omega
    have e3:(2:Int)^(min ((8*k:Nat):Int).toNat 32)=((2^(8*k):Nat):Int):=by
     have:min ((8*k:Nat):Int).toNat 32=8*k:=by omega
     rw[this];simp
    have e4:IntKind.wrap .u8 (Int.fdiv ((P1.sum T b:Nat):Int) ((2^(8*k):Nat):Int))=((P1.sum T b/2^(8*k)%256:Nat):Int):=by rw[jWZ,jxZ];omega
    have hq:b.length+3-k<(laid4 b.length (P1.sum T b) k).length:=by omega
    show bSea_l0 fuel b _ (k:Int) (laid4 b.length (P1.sum T b) k)=_;unfold bSea_l0;rw[ZAD (show(k:Int)<4 by omega),e1,e0,e2,e3,e4,alZ (ZAD (by omega)),auZ hq,ehZ (ZBn _ (by omega))];simp only[ZAM,ZAA,ZAI hq];rw[w64 ⟨by omega,by omega⟩,<-lkZ b.length (P1.sum T b) k hk];have:UInt8.ofNat (P1.sum T b/2^(8*k)%256)=UInt8.ofNat (P1.sum T b/2^(8*k)):=by
     apply UInt8.toNat_inj.1;simp
    rw[this]
    rfl)
   (by
    show bSea_l0 fuel b _ ((4:Nat):Int) (laid4 b.length (P1.sum T b) 4)=_;unfold bSea_l0;rw[ZAC (by omega)]
    rfl)
  have h0:laid4 b.length (P1.sum T b) 0=List.replicate (b.length+4) 0:=by
   unfold laid4;simp[be4]
  simp only[h0] at this;exact this
 rw[e];simp only[ZAA];congr 1;rw[myZ];unfold splice sealed;have:List.take (List.replicate b.length (0:UInt8)++be4 (P1.sum T b)).length b=b:=ZAs (by simp);rw[this];simp
theorem m1Z{T:List Nat}(h:Tab T){b:List UInt8}(hb:b.length<=140737488355328):bUns fuel (tabI T) b=some ((unsealed (P1.sum T) b).1,(((unsealed (P1.sum T) b).2:Nat):Int)):=by
 unfold bUns;by_cases h4:b.length<4
 ·rw[ZAD (by omega),fJZ _ h4]
  rfl
 ·rw[ZAC (by omega)];have e0:IntKind.wrap .i64 (((b.length:Nat):Int)-4)=((b.length-4:Nat):Int):=by rw[w64 ⟨by omega,by omega⟩];omega
  have hl:(b.take (b.length-4)).length=b.length-4:=by simp
  simp only[ZAK];rw[e0,bdZ (by omega)];simp only[ZAA];rw[keZ (by rw[hl];unfold room;omega)];simp only[ZAA];rw[iIZ h (by rw[hl];omega)];simp only[ZAA];rw[ffZ _ (by omega)];by_cases he:sealed (P1.sum T) (b.take (b.length-4))=b
  ·rw[ZAV he];simp[he]
  ·rw[ZAO he];have:(sealed (P1.sum T) (b.take (b.length-4))==b)=false:=by simpa using he
   rw[this]
   rfl
end Go.Ab.D
namespace Go.Ab.D
open Go.P1
def uintF(tt:Int×List UInt8):Option ((Int×List UInt8)⊕(Int×List UInt8)):=bUino0_l0 fuel tt.1 tt.2
theorem nUZ{n:Nat}(h:n<128)(l:List UInt8):uintF ((n:Int),l)=some (.inr ((n:Int),l)):=by
 show bUino0_l0 fuel (n:Int) l=_;unfold bUino0_l0;rw[ZAC (by omega)]
 rfl
theorem pdZ{n:Nat}(h:128<=n)(hn:n<18446744073709551616)(l:List UInt8)(hl:l.length+1<=140737488355328):uintF ((n:Int),l)=some (.inl (((n/128:Nat):Int),l++[UInt8.ofNat (n%128+128)])):=by
 show bUino0_l0 fuel (n:Int) l=_;unfold bUino0_l0;have e1:Int.tmod (n:Int) 128=((n%128:Nat):Int):=rfl;have e2:Int.tdiv (n:Int) 128=((n/128:Nat):Int):=rfl;have hm:n%128<128:=ZBn _ (by omega);have e3:IntKind.wrap .u8 (IntKind.wrap .u64 (((n%128:Nat):Int)+128))=((n%128+128:Nat):Int):=by
  rw[wu64 ⟨by omega,by omega⟩,wu8 ⟨by omega,by omega⟩];omega
 have e4:IntKind.wrap .u64 ((n/128:Nat):Int)=((n/128:Nat):Int):=wu64 ⟨by omega,by omega⟩;rw[ZAD (by omega),e1,e2,e3,e4,ehZ (by omega)];simp only[ZAM,ZAA];rw[alZ (by rw[ZBm,aEZ (by unfold room;omega)];rfl)]
theorem m3Z:∀(n m:Nat) (l:List UInt8),n<18446744073709551616->(varint n).length<=m->l.length+(varint n).length<=140737488355328->
 ∃(c:Nat) (r:List UInt8),iter m uintF ((n:Int),l)=some ((c:Int),r)/\c<128/\r++[UInt8.ofNat c]=l++varint n:=fun n=>by
 induction n using Nat.strongRecOn with
 |_ n ih=>
  intro m l hn hm hl;by_cases h:n<128
  ·rw[aNZ h] at hm hl⊢;obtain⟨m,rfl⟩:∃k,m=k+1:=⟨m-1,by simp at hm;omega⟩;refine⟨n,l,?_,h,rfl⟩;show(uintF _).ob _=_;rw[nUZ h]
   rfl
  ·have h':128<=n:=by omega
   rw[cbZ h'] at hm hl⊢;simp only[ZAl] at hm hl;obtain⟨m,rfl⟩:∃k,m=k+1:=⟨m-1,by omega⟩;have hp:=d8Z (n/128);obtain⟨c,r,q1,q2,q3⟩:=ih (n/128) (by omega) m (l++[UInt8.ofNat (n%128+128)]) (by omega) (by omega) (by simp;omega);refine⟨c,r,?_,q2,by rw[q3];simp⟩;show(uintF _).ob _=_;rw[pdZ h' hn l (by omega)];exact q1
theorem c6Z{n:Nat}(hn:n<18446744073709551616){l:List UInt8}(hl:l.length+10<=140737488355328):bUino0 fuel (n:Int) l=some (l++varint n):=by
 unfold bUino0 bUino0_l0_it;have h10:=ajZ hn;obtain⟨c,r,q1,q2,q3⟩:=m3Z n fuel l hn (by unfold fuel;omega) (by omega);have q1':iter fuel (fun tt=>bUino0_l0 fuel tt.1 tt.2) ((n:Int),l)=some ((c:Int),r):=q1;have hr:r.length+1=l.length+(varint n).length:=by
  have:=congrArg List.length q3;simpa using this
 rw[q1'];simp only[ZAA];rw[wu8 ⟨by omega,by omega⟩,ehZ (by omega)];simp only[ZAA];rw[alZ (by rw[ZBm,aEZ (by unfold room;omega)];rfl),q3]
theorem hMZ(ls:List (List UInt8))(k:Nat):(ls.take k).flatten.length<=ls.flatten.length:=by
 have:ls.flatten=(ls.take k).flatten++(ls.drop k).flatten:=by rw[<-List.flatten_append,List.take_append_drop]
 rw[this,ZAJ];omega
theorem dhZ{ls:List (List UInt8)}{k:Nat}(h:k<ls.length):(ls.take (k+1)).flatten=(ls.take k).flatten++ls[k]:=by
 rw[ZA3 h,List.flatten_append];simp
theorem mwZ{ls:List (List UInt8)}(hn:ls.length<1000000)(hl:ls.flatten.length<=140737488355328):sCon fuel ls=some ls.flatten:=by
 unfold sCon sCon_l0_it sCon_l1_it;have s1:=bgZ (f:=fun(tt:Int×Int)=>sCon_l0 fuel ls tt.1 tt.2) (o:=((ls.flatten.length:Nat):Int)) (fun k=>((((ls.take k).flatten.length:Nat):Int),(k:Int))) ls.length (by omega)
  (fun k hk=>by
   have h1:=hMZ ls (k+1);rw[dhZ hk,ZAJ] at h1;show sCon_l0 fuel ls ((((ls.take k).flatten.length:Nat):Int)) (k:Int)=_;unfold sCon_l0;rw[ZAD (by omega),auZ hk];simp only[ZAM,ZAA,ZAI hk];rw[w64 ⟨by omega,by omega⟩,ZAC (by omega),w64 ⟨by omega,by omega⟩,dhZ hk,ZAJ];simp)
  (by
   show sCon_l0 fuel ls _ ((ls.length:Nat):Int)=_;unfold sCon_l0;rw[ZAC (by omega),ZBP]
   rfl)
 have s1':iter fuel (fun(tt:Int×Int)=>sCon_l0 fuel ls tt.1 tt.2) ((0:Int),(0:Int))=some ((ls.flatten.length:Nat):Int):=s1;have sg:sGro fuel ((ls.flatten.length:Nat):Int)=some []:=by
  unfold sGro;rw[ZAC (by omega)];simp only[ZAK];by_cases h0:ls.flatten.length=0
  ·rw[ZAC (by rw[w64 ⟨by omega,by omega⟩];omega)]
   rfl
  ·have e:IntKind.wrap .i64 (((ls.flatten.length:Nat):Int)-0)=((ls.flatten.length:Nat):Int):=by rw[w64 ⟨by omega,by omega⟩];omega
   rw[e,ZAD (by omega),bdZ (show ls.flatten.length<=room from hl)];simp only[ZAM,ZAA];rw[alZ (by rw[ZBm,aEZ (show ls.flatten.length<=room from hl)];rfl)];have e0:∀m,upto? 0 m=some 0:=fun m=>bdZ (i:=0) (ZAz m);rw[e0]
   rfl
 have s2:=bgZ (f:=fun(tt:Int×List UInt8)=>sCon_l1 fuel ls tt.1 tt.2) (o:=ls.flatten) (fun k=>((k:Int),(ls.take k).flatten)) ls.length (by omega)
  (fun k hk=>by
   have h1:=hMZ ls (k+1);rw[dhZ hk,ZAJ] at h1;show sCon_l1 fuel ls (k:Int) (ls.take k).flatten=_;unfold sCon_l1;rw[ZAD (by omega),auZ hk];simp only[ZAM,ZAA,ZAI hk];rw[alZ (by rw[ZBm,aEZ (by unfold room;omega)];rfl),w64 ⟨by omega,by omega⟩,dhZ hk]
   rfl)
  (by
   show sCon_l1 fuel ls ((ls.length:Nat):Int) _=_;unfold sCon_l1;rw[ZAC (by omega),ZBP]
   rfl)
 have s2':iter fuel (fun(tt:Int×List UInt8)=>sCon_l1 fuel ls tt.1 tt.2) ((0:Int),[])=some ls.flatten:=s2;rw[s1'];simp only[ZAA,sg,s2']
theorem cdZ{b h:List UInt8}(hl:h.length+b.length+10<=140737488355328):bBloo0 fuel b h=some (h++varint b.length++b):=by
 unfold bBloo0;have hb:=ajZ (n:=b.length) (by omega);rw[wu64 ⟨by omega,by omega⟩,c6Z (by omega) (by omega)];simp only[ZAA];rw[mwZ (by simp) (by simp;omega)];simp
def getF(b:List UInt8)(at_:Int)(tt:Int×Int):Option ((Int×Int)⊕(Unit⊕(Int×(Int×Int)))):=bGetUin_l0 fuel b at_ tt.1 tt.2
def getRes(at_:Nat)(r:Nat×Nat×Nat):Unit⊕(Int×(Int×Int)):=if r.2.2=11 then .inl () else if r.2.2=0 then .inr ((r.1:Int),(((at_+r.2.1:Nat):Int),0)) else .inr (0,(0,((r.2.2:Nat):Int)))
theorem nCZ{b:List UInt8}{at_ k n:Nat}(hb:b.length<4611686018427387904)(hk:k<=9)(hn:n<2^(7*k))(hlt:at_+k<b.length)(hc:b[at_+k].toNat%128=b[at_+k].toNat%128):
 getF b (at_:Int) ((n:Int),((at_+k:Nat):Int))=
  if(0<k/\b[at_+k].toNat=0)\/(8<k/\1<b[at_+k].toNat) then some (.inr (.inr (0,(0,10))))
  else if b[at_+k].toNat<128 then some (.inr (.inr (((n+b[at_+k].toNat%128*2^(7*k):Nat):Int),(((at_+k+1:Nat):Int),0))))
  else some (.inl (((n+b[at_+k].toNat%128*2^(7*k):Nat):Int),((at_+k+1:Nat):Int))):=by
 show bGetUin_l0 fuel b (at_:Int) (n:Int) ((at_+k:Nat):Int)=_;unfold bGetUin_l0;obtain⟨c,hcc⟩:∃c,b[at_+k]=c:=⟨_,rfl⟩;have hc8:=c.toNat_lt;have e1:IntKind.wrap .i64 (((at_+k:Nat):Int)-(at_:Int))=(k:Int):=by rw[w64 ⟨by omega,by omega⟩];omega
 rw[ZAD (by omega),auZ hlt];simp only[ZAM,ZAA,ZAI hlt,hcc,e1];have hz:(((c.toNat:Nat):Int)==0)=decide (c.toNat=0):=by
  by_cases h:c.toNat=0
  ·simp[h]
  ·rw[ZAC h,ZAk];omega
 have e7:IntKind.wrap .i64 (7*(k:Int))=((7*k:Nat):Int):=by rw[w64 ⟨by omega,by omega⟩];omega
 have em:min ((7*k:Nat):Int).toNat 64=7*k:=by omega
 have et:Int.tmod ((c.toNat:Nat):Int) 128=((c.toNat%128:Nat):Int):=rfl;have hm:c.toNat%128<128:=ZBn _ (by omega);have ewu:IntKind.wrap .u64 ((c.toNat%128:Nat):Int)=((c.toNat%128:Nat):Int):=wu64 ⟨by omega,by omega⟩;by_cases hbad:(0<k/\c.toNat=0)\/(8<k/\1<c.toNat)
 ·rw[ZAV hbad];rcases hbad with⟨h1,h2⟩|⟨h1,h2⟩
  ·rw[ZAD (show(k:Int)>0 by omega),hz,ZAD h2]
   rfl
  ·rw[ZAD (show(k:Int)>0 by omega),hz,ZAC (by omega),ZAD (show(k:Int)>8 by omega),ZAD (show((c.toNat:Nat):Int)>1 by omega)]
   rfl
 ·rw[ZAO hbad];have hroom:=P1.room n c.toNat k hk hn (fun h8=>by omega);have ep:((c.toNat%128:Nat):Int)*2^(7*k)=((c.toNat%128*2^(7*k):Nat):Int):=by simp
  have ew:IntKind.wrap .u64 ((n:Int)+IntKind.wrap .u64 (IntKind.wrap .u64 ((c.toNat%128:Nat):Int)*2^(min (IntKind.wrap .i64 (7*(k:Int))).toNat 64)))=((n+c.toNat%128*2^(7*k):Nat):Int):=by
   rw[ewu,e7,em,ep,wu64 (x:=((c.toNat%128*2^(7*k):Nat):Int)) ⟨by omega,by omega⟩,wu64 ⟨by omega,by omega⟩];omega
  have hguard:(bif decide ((k:Int)>0) then bif decide (c.toNat=0) then some true else bif decide ((k:Int)>8) then some (decide (((c.toNat:Nat):Int)>1)) else some false
   else bif decide ((k:Int)>8) then some (decide (((c.toNat:Nat):Int)>1)) else some false)=some false:=by
   by_cases h0:0<k
   ·have:¬c.toNat=0:=fun h=>hbad (.inl ⟨h0,h⟩);rw[ZAD (show(k:Int)>0 by omega),ZAC this];by_cases h8:8<k
    ·have:¬1<c.toNat:=fun h=>hbad (.inr ⟨h8,h⟩);rw[ZAD (show(k:Int)>8 by omega),ZAC (show¬((c.toNat:Nat):Int)>1 by omega)]
     rfl
    ·rw[ZAC (show¬(k:Int)>8 by omega)]
     rfl
   ·rw[ZAC (show¬(k:Int)>0 by omega),ZAC (show¬(k:Int)>8 by omega)]
    rfl
  rw[hz,hguard];simp only[ZAA,ZAK,et,ew];have ex:IntKind.wrap .i64 (((at_+k:Nat):Int)+1)=((at_+k+1:Nat):Int):=by rw[w64 ⟨by omega,by omega⟩];omega
  rw[e7,alZ (ZAD (by omega)),ex];by_cases h128:c.toNat<128
  ·rw[ZAV h128,ZAD (show((c.toNat:Nat):Int)<128 by omega)]
   rfl
  ·rw[ZAO h128,ZAC (show¬((c.toNat:Nat):Int)<128 by omega)]
   rfl
theorem jOZ{b:List UInt8}{at_:Nat}(hb:b.length<4611686018427387904):∀(rem k n m:Nat),at_+k+rem=b.length->rem<m->k<=9->n<2^(7*k)->
 iter m (getF b (at_:Int)) ((n:Int),((at_+k:Nat):Int))=some (getRes at_ (num (b.drop (at_+k)) k n))
 |0,k,n,m,h,hm,hk,hn=>by
  obtain⟨m,rfl⟩:∃j,m=j+1:=⟨m-1,by omega⟩;have:b.drop (at_+k)=[]:=ZAo (by omega);rw[this];show(getF b (at_:Int) _).ob _=_;have e:getF b (at_:Int) ((n:Int),((at_+k:Nat):Int))=some (.inr (.inl ())):=by
   show bGetUin_l0 fuel b (at_:Int) (n:Int) ((at_+k:Nat):Int)=_;unfold bGetUin_l0;rw[ZAC (by omega)]
   rfl
  rw[e]
  rfl
 |rem+1,k,n,m,h,hm,hk,hn=>by
  obtain⟨m,rfl⟩:∃j,m=j+1:=⟨m-1,by omega⟩;have hlt:at_+k<b.length:=by omega
  rw[paZ hlt];show(getF b (at_:Int) _).ob _=_;rw[nCZ hb hk hn hlt rfl];by_cases hbad:(0<k/\b[at_+k].toNat=0)\/(8<k/\1<b[at_+k].toNat)
  ·rw[ZAV hbad,iRZ hbad]
   rfl
  ·rw[ZAO hbad];by_cases h128:b[at_+k].toNat<128
   ·rw[ZAV h128,hiZ hbad h128];show some _=some _;simp[getRes];omega
   ·rw[ZAO h128,emZ hbad (by omega)];have hroom:=P1.room n b[at_+k].toNat k hk hn (fun h8=>by omega);have hk8:k<=8:=by
     by_cases h9:k<=8
     ·exact h9
     ·exfalso;exact hbad (.inr ⟨by omega,by omega⟩)
    have:=jOZ (at_:=at_) hb rem (k+1) (n+b[at_+k].toNat%128*2^(7*k)) m (by omega) (by omega) (by omega) (hroom.2 hk8);exact this
theorem bVZ{b:List UInt8}{at_:Int}(hb:b.length<4611686018427387904):bGetUin fuel b at_=some ((((getUint b at_).1:Nat):Int),((((getUint b at_).2.1:Nat):Int),(((getUint b at_).2.2:Nat):Int))):=by
 unfold bGetUin;by_cases hout:at_<0\/(b.length:Int)<at_
 ·rw[iWZ hout];rcases hout with h|h
  ·rw[ZAD h]
   rfl
  ·by_cases h0:at_<0
   ·rw[ZAD h0];rfl
   ·rw[ZAC h0,ZAD (show at_>((b.length:Nat):Int) by omega)]
    rfl
 ·obtain⟨a,rfl⟩:∃a:Nat,at_=a:=⟨at_.toNat,by omega⟩;rw[ZAC (by omega),ZAC (by omega)];simp only[ZAK,ZAA];unfold bGetUin_l0_it;have hl:iter fuel (fun tt=>bGetUin_l0 fuel b (a:Int) tt.1 tt.2) ((0:Int),(a:Int))=some (getRes a (num (b.drop a) 0 0)):=
   jOZ hb (b.length-a) 0 0 fuel (by omega) (by unfold fuel;omega) (by omega) (by decide)
  rw[hl];simp only[ZAA];obtain⟨n,j,e,hnum⟩:∃n j e,num (b.drop a) 0 0=(n,j,e):=⟨_,_,_,rfl⟩;have hg:getUint b (a:Int)=if e=0 then(n,a+j,0) else(0,0,e):=by
   unfold getUint;rw[ZAO (by omega)];simp only[Int.toNat_natCast,hnum]
  rw[hg,hnum];unfold getRes;by_cases h11:e=11
  ·subst h11;rfl
  ·by_cases h0:e=0
   ·subst h0;rfl
   ·simp only[h11,h0,if_false]
    rfl
theorem gaZ{b:List UInt8}{at_ most:Int}(hb:b.length<=140737488355328)(hm:most<=9223372036854775807):bGetBlo fuel b at_ most=some ((((getBlob b at_ most).2.1:Nat):Int),((((getBlob b at_ most).2.2:Nat):Int),(getBlob b at_ most).1)):=by
 unfold bGetBlo;rw[bVZ (by omega)];simp only[ZAA];obtain⟨n,j,e,hu⟩:∃n j e,getUint b at_=(n,j,e):=⟨_,_,_,rfl⟩;have hfit:=ibZ b at_;rw[hu] at hfit⊢;simp only at hfit⊢;by_cases he:e=0
 ·subst he;have e0:(!(((0:Nat):Int)==0))=false:=rfl;rw[e0];simp only[ZAK];by_cases hmost:most<0\/most<n
  ·rw[dTZ hu hmost];by_cases h0:most<0
   ·rw[ZAD h0];rfl
   ·rw[ZAC h0,wu64 ⟨by omega,by omega⟩,ZAD (show((n:Nat):Int)>most by omega)]
    rfl
  ·rw[ZAC (show¬most<0 by omega),wu64 (x:=most) ⟨by omega,by omega⟩,ZAC (show¬((n:Nat):Int)>most by omega)];simp only[ZAK,ZAA];have hj:j<=b.length:=hfit.2.1;rw[w64 (x:=((b.length:Nat):Int)-(j:Int)) ⟨by omega,by omega⟩,wu64 ⟨by omega,by omega⟩];by_cases hs:b.length-j<n
   ·rw[dcZ hu hmost hs,ZAD (by omega)]
    rfl
   ·rw[gsZ hu hmost hs,ZAC (by omega),bdZ hj];simp only[ZAK,ZAA];have hnl:n<=(List.drop j b).length:=by rw[ZAt];omega
    rw[bdZ hnl];simp only[ZAA];have hl:(List.take n (List.drop j b)).length=n:=by rw[ZAe];omega
    rw[keZ (by rw[hl];unfold room;omega)];simp only[ZAA,hl];rw[w64 ⟨by omega,by omega⟩]
    rfl
 ·have e0:(!(((e:Nat):Int)==0))=true:=by
   have:(((e:Nat):Int)==0)=false:=by rw[ZAk];omega
   rw[this];rfl
  rw[eBZ hu he,e0]
  rfl
end Go.Ab.D
namespace Go.Ab.D
abbrev CallT:Type:=Int×(Int×(UInt8×((Int×Int)×(List UInt8×((Int×Int)×(List UInt8×(Int×(Int×List UInt8))))))))
abbrev Has:Type:=Bool×(Bool×(Bool×(Bool×(Int×(Bool×Bool)))))
instance hasD1:DecidableEq (Int×(Bool×Bool)):=instDecidableEqProd
instance hasD2:DecidableEq (Bool×(Int×(Bool×Bool))):=instDecidableEqProd
instance hasD3:DecidableEq (Bool×(Bool×(Int×(Bool×Bool)))):=instDecidableEqProd
instance hasD4:DecidableEq (Bool×(Bool×(Bool×(Int×(Bool×Bool))))):=instDecidableEqProd
instance hasD5:DecidableEq Has:=instDecidableEqProd
def shapeN(o:Nat):Has:=
 if o=1\/o=2\/o=3\/o=7\/o=8 then(true,(true,(false,(false,(0,(false,true))))))
 else if o=4 then(true,(false,(false,(true,(4096,(false,true))))))
 else if o=5 then(true,(false,(false,(true,(0,(true,true))))))
 else if o=6 then(true,(false,(false,(false,(2147483648,(false,true))))))
 else if o=9 then(true,(true,(true,(false,(0,(false,true))))))
 else if o=10 then(true,(true,(false,(false,(4096,(false,true))))))
 else if o=11 then(true,(false,(false,(false,(0,(false,true))))))
 else if o=12 then(false,(false,(false,(false,(0,(false,true))))))
 else(false,(false,(false,(false,(0,(false,false))))))
theorem m6Z:∀n:Nat,n<256->csha fuel ((n:Nat):Int)=some (shapeN n):=by decide+kernel
theorem nXZ(o:UInt8):csha fuel ((o.toNat:Nat):Int)=some (shapeN o.toNat):=m6Z _ o.toNat_lt
def whoseB(a b:Int):Bool:=decide (0<=a/\a<16/\1<=b/\b<=1099511627776)
theorem j9Z(a b:Int):cwho fuel a b=some (whoseB a b):=by
 unfold cwho whoseB;by_cases h1:a>=0<;>by_cases h2:a<16<;>by_cases h3:b>=1<;>by_cases h4:b<=1099511627776<;>
  simp[h1,h2,h3,h4]<;>omega
def handleB(h:Int×Int):Bool:=decide (1<=h.1/\h.1<=500/\1<=h.2/\h.2<=1099511627776)
theorem hOZ(h:Int×Int):hRig fuel h=some (handleB h):=by
 unfold hRig handleB;by_cases h1:h.1>=1<;>by_cases h2:h.1<=500<;>by_cases h3:h.2>=1<;>by_cases h4:h.2<=1099511627776<;>
  simp[h1,h2,h3,h4]<;>omega
def ofB(is:Bool)(h:Int×Int):Bool:=bif is then handleB h else((h.1==0)&&(h.2==0))
theorem p0Z(is:Bool)(h:Int×Int):cRigCal1 fuel is h=some (ofB is h):=by
 unfold cRigCal1 ofB;cases is with
 |true=>
  simp only[ZAM];rw[hOZ];have:handleB (h.1,h.2)=handleB h:=rfl;rw[this];simp only[ZAA];cases handleB h<;>rfl
 |false=>rfl
def saidB(is:Bool)(l:List UInt8):Bool:=(l==[])||(is&&decide (l.length<=100))
theorem mqZ(is:Bool)(l:List UInt8):cRigCal2 fuel is l=some (saidB is l):=by
 unfold cRigCal2 saidB;have e:decide (((l.length:Nat):Int)<=100)=decide (l.length<=100):=by
  by_cases h:l.length<=100
  ·rw[ZAD h,ZAD (by omega)]
  ·rw[ZAC h,ZAC (by omega)]
 rw[e];cases(l==[])<;>cases is<;>rfl
def rightS(s:Has)(c:CallT):Bool:=
 s.2.2.2.2.2.2&&(whoseB c.1 c.2.1&&(ofB s.1 c.2.2.2.1&&(ofB s.2.2.1 c.2.2.2.2.2.1&&(saidB s.2.1 c.2.2.2.2.1&&(saidB s.2.2.1 c.2.2.2.2.2.2.1&&
  (decide (0<=c.2.2.2.2.2.2.2.1/\c.2.2.2.2.2.2.2.1<=2147483648)&&((s.2.2.2.1||(c.2.2.2.2.2.2.2.1==0))&&(decide (0<=c.2.2.2.2.2.2.2.2.1/\c.2.2.2.2.2.2.2.2.1<=s.2.2.2.2.1)&&
   (decide (c.2.2.2.2.2.2.2.2.2.length=0)||(s.2.2.2.2.2.1&&decide (c.2.2.2.2.2.2.2.2.2.length<=4096)))))))))))
def rightCall(c:CallT):Bool:=rightS (shapeN c.2.2.1.toNat) c
theorem boZ(c:CallT):cRigCal fuel c=some (rightCall c):=by
 obtain⟨c1,c2,c3,⟨h1,h2⟩,nm,⟨t1,t2⟩,nw,off,n,bs⟩:=c;unfold cRigCal rightCall;simp only;rw[nXZ];generalize shapeN c3.toNat=s;obtain⟨sh,sn,st,so,sN,sb,ok⟩:=s;unfold rightS;simp only[ZAA];cases ok with
 |false=>rfl
 |true=>
  simp only[ZAx,ZAK];rw[j9Z];generalize whoseB c1 c2=w;cases w with
  |false=>rfl
  |true=>
   simp only[ZAA,ZAx,ZAK];rw[p0Z];generalize ofB sh (h1,h2)=a1;cases a1 with
   |false=>rfl
   |true=>
    simp only[ZAA,ZAx,ZAK];rw[p0Z];generalize ofB st (t1,t2)=a2;cases a2 with
    |false=>rfl
    |true=>
     simp only[ZAA,ZAx,ZAK];rw[mqZ];generalize saidB sn nm=a3;cases a3 with
     |false=>rfl
     |true=>
      simp only[ZAA,ZAx,ZAK];rw[mqZ];generalize saidB st nw=a4;cases a4 with
      |false=>rfl
      |true=>
       simp only[ZAA,ZAx,ZAK,ZBX];by_cases o1:off<0
       ·rw[ZAD o1,ZAC (show¬(0<=off/\off<=2147483648) by omega)];rfl
       by_cases o2:off>2147483648
       ·rw[ZAC o1,ZAD o2,ZAC (show¬(0<=off/\off<=2147483648) by omega)];rfl
       rw[ZAC o1,ZAC o2,ZAD (show 0<=off/\off<=2147483648 by omega)];have eb:decide (((bs.length:Nat):Int)<=4096)=decide (bs.length<=4096):=by
        by_cases h:bs.length<=4096
        ·rw[ZAD h,ZAD (by omega)]
        ·rw[ZAC h,ZAC (by omega)]
       have e0:(((bs.length:Nat):Int)==0)=decide (bs.length=0):=by
        by_cases h:bs.length=0
        ·rw[ZAD h,h];rfl
        ·rw[ZAC h,ZAk.2 (by omega)]
       by_cases n1:n<0
       ·rw[ZAD n1,ZAC (show¬(0<=n/\n<=sN) by omega)];cases so<;>cases(off==0)<;>rfl
       by_cases n2:n>sN
       ·rw[ZAC n1,ZAD n2,ZAC (show¬(0<=n/\n<=sN) by omega)];cases so<;>cases(off==0)<;>rfl
       rw[ZAC n1,ZAC n2,ZAD (show 0<=n/\n<=sN by omega),<-e0,<-eb];cases so<;>cases(off==0)<;>simp only[ZAM,ZAK,ZAx,Bool.not_false,ZAA,ZBX,Bool.or_false,Bool.or_true,Bool.false_and,e0,eb]<;>
        (generalize decide (bs.length=0)=x0)<;>(generalize decide (bs.length<=4096)=x1)<;>cases x0<;>cases sb<;>cases x1<;>rfl
end Go.Ab.D
namespace Go.Ab.D
end Go.Ab.D
namespace Go.Ab.D
theorem d1Z(c:UInt8):byte? ((c.toNat:Nat):Int)=some c:=by
 have:=c.toNat_lt;rw[ehZ (by omega)];simp
end Go.Ab.D
namespace Go.Ab.D
theorem lTZ{n:Nat}(h:12<n):(shapeN n).2.2.2.2.2.2=false:=by
 unfold shapeN;rw[ZAO (by omega),ZAO (by omega),ZAO (by omega),ZAO (by omega),ZAO (by omega),ZAO (by omega),ZAO (by omega),ZAO (by omega)]
theorem n2Z{n:Nat}(h:(shapeN n).2.2.2.2.2.2=true):1<=n/\n<=12:=by
 have h12:n<=12:=by
  apply Classical.byContradiction;intro hn;rw[lTZ (by omega)] at h;cases h
 refine⟨?_,h12⟩;apply Classical.byContradiction;intro hn;have:n=0:=by omega
 subst this;cases h
end Go.Ab.D
set_option maxRecDepth 100000
namespace Go.Ab.D
open Go Go.Ab Go.P1 Go.P21
attribute [local irreducible] Go.P1.crcT tabI
def nums(l:List Int):List UInt8:=l.flatMap vi
theorem evZ{α:Type}(g:α->List UInt8)(s:List α)(h:List UInt8)(hs:s.length<4611686018427387904){f:Int×List UInt8->Option ((Int×List UInt8)⊕List UInt8)}
 (h1:∀(k:Nat) (hk:k<s.length) (l:List UInt8),l=h++(s.take k).flatMap g->f ((k:Int),l)=some (.inl (((k+1:Nat):Int),l++g s[k])))
 (h2:∀l,f (((s.length:Nat):Int),l)=some (.inr l)):iter fuel f (0,h)=some (h++s.flatMap g):=by
 have:=bgZ (f:=f) (o:=h++s.flatMap g) (fun k=>((k:Int),h++(s.take k).flatMap g)) s.length hs
  (fun k hk=>by
   show f ((k:Int),h++(s.take k).flatMap g)=_;rw[h1 k hk _ rfl,ZA3 hk,List.flatMap_append,ZAh];simp)
  (by rw[ZBP];exact h2 _)
 simpa using this
theorem gNZ:∀{r:List Int},(∀n∈r,0<=n/\n<=9223372036854775807)->(r.flatMap vi).length<=10*r.length:=fun{r}=>by
 induction r with
 |nil=>simp
 |cons n r ih=>
  intro hr;have h0:=hr n (by simp);have:=ih fun m hm=>hr m (by simp[hm]);have v:=ajZ (n:=n.toNat) (by omega);simp only[ZBC,vi,ZAJ,ZAl] at this⊢;omega
theorem egZ{l:List Int}(hl:l.length<=100)(hn:∀n∈l,0<=n/\n<=9223372036854775807){h:List UInt8}(hh:h.length<=100000000):cuino0 fuel l h=some (h++nums l):=by
 unfold cuino0 cuino0_l0_it;have hlen:∀k,((l.take k).flatMap vi).length<=10*l.length:=fun k=>by
  have h1:=gNZ (r:=l.take k) fun n hn'=>hn n (ZBK hn');have:(l.take k).length<=l.length:=by simp;omega
  omega
 have e:=evZ vi l h (by omega) (f:=fun tt=>cuino0_l0 fuel l tt.1 tt.2)
  (fun k hk m hm=>by
   have h0:=hn l[k] (ZBA hk);obtain⟨n,hn'⟩:∃n:Nat,l[k]=(n:Int):=⟨l[k].toNat,by omega⟩;have hg:l[k]? =some (n:Int):=by rw[ZAI hk,hn']
   have hmlen:m.length+10<=140737488355328:=by
    rw[hm,ZAJ];have:=hlen k;omega
   show cuino0_l0 fuel l (k:Int) m=_;unfold cuino0_l0;rw[ZAD (by omega),auZ hk];simp only[ZAM,ZAA,hg];rw[wu64 ⟨by omega,by omega⟩,c6Z (by omega) hmlen];simp only[ZAA];rw[w64 ⟨by omega,by omega⟩,hn']
   rfl)
  (fun m=>by
   show cuino0_l0 fuel l ((l.length:Nat):Int) m=_;unfold cuino0_l0;rw[ZAC (by omega)];rfl)
 rw[e]
 rfl
theorem npZ(o:Nat):(shapeN o).2.2.2.2.1<=2147483648:=by
 unfold shapeN
 repeat (first|(split;·simp)|simp)
theorem gtZ{is:Bool}{h:Int×Int}(k:ofB is h=true):(0<=h.1/\h.1<=500)/\(0<=h.2/\h.2<=1099511627776):=by
 unfold ofB handleB at k;cases is with
 |true=>simp only[ZAM,ZAR] at k;omega
 |false=>simp only[ZAK,ZAB,ZBN] at k;omega
theorem iBZ{is:Bool}{l:List UInt8}(k:saidB is l=true):l.length<=100:=by
 unfold saidB at k;simp only[ZAc,ZBN,ZAB,ZAR] at k;rcases k with k|k
 ·subst k;exact ZAz _
 ·exact k.2
structure RightC (c:Go.P21.CallT):Prop where
 cl:0<=c.1/\c.1<16
 x:1<=c.2.1/\c.2.1<=1099511627776
 op:1<=c.2.2.1.toNat/\c.2.2.1.toNat<=12
 h:(0<=c.2.2.2.1.1/\c.2.2.2.1.1<=500)/\(0<=c.2.2.2.1.2/\c.2.2.2.1.2<=1099511627776)
 t:(0<=c.2.2.2.2.2.1.1/\c.2.2.2.2.2.1.1<=500)/\(0<=c.2.2.2.2.2.1.2/\c.2.2.2.2.2.1.2<=1099511627776)
 off:0<=c.2.2.2.2.2.2.2.1/\c.2.2.2.2.2.2.2.1<=2147483648
 n:0<=c.2.2.2.2.2.2.2.2.1/\c.2.2.2.2.2.2.2.2.1<=2147483648
 nm:c.2.2.2.2.1.length<=100
 nw:c.2.2.2.2.2.2.1.length<=100
 b:c.2.2.2.2.2.2.2.2.2.length<=4096
theorem hnZ{c:Go.P21.CallT}(hr:rightCall c=true):RightC c:=by
 unfold rightCall rightS at hr;simp only[ZAB] at hr;obtain⟨r1,r2,r3,r4,r5,r6,r7,r8,r9,r10⟩:=hr;unfold whoseB at r2;simp only[ZAR] at r2 r7 r9;have hs:=npZ c.2.2.1.toNat;refine⟨⟨r2.1,r2.2.1⟩,⟨r2.2.2.1,r2.2.2.2⟩,n2Z r1,gtZ r3,gtZ r4,r7,⟨r9.1,by omega⟩,iBZ r5,iBZ r6,?_⟩;simp only[ZAc,ZAB,ZAR] at r10;rcases r10 with r|r<;>omega
theorem RightC.fits{c:Go.P21.CallT}(h:RightC c):fits c:=by
 obtain⟨h1,h2,h3,h4,h5,h6,h7,h8,h9,h10⟩:=h;unfold Go.P21.fits;omega
theorem bsZ{n:Int}(h0:0<=n)(h:n<=4611686018427387904):(vi n).length<=10:=ajZ (by omega)
theorem i3Z{c:Go.P21.CallT}(h:RightC c):(callB c).length<=5000:=by
 have hf:=h.fits;obtain⟨k1,k2,k3,k4,k5,k6,k7,k8,k9,k10,k11⟩:=hf;have v1:=bsZ k1.1 k1.2;have v2:=bsZ k2.1 k2.2;have v3:=bsZ k3.1 k3.2;have v4:=bsZ k4.1 k4.2;have v5:=bsZ k5.1 k5.2;have v6:=bsZ k6.1 k6.2;have v7:=bsZ k7.1 k7.2;have v8:=bsZ k8.1 k8.2;have v9:=ajZ (n:=c.2.2.1.toNat) (by have:=c.2.2.1.toNat_lt;omega);have w1:=ajZ (n:=c.2.2.2.2.1.length) (by omega);have w2:=ajZ (n:=c.2.2.2.2.2.2.1.length) (by omega);have w3:=ajZ (n:=c.2.2.2.2.2.2.2.2.2.length) (by omega);unfold callB blobB;simp only[ZAJ];omega
def putCall(T:List Nat)(c:Go.P21.CallT):Nat×List UInt8:=if rightCall c=true then(0,sealed (P1.sum T) (3::callB c)) else(179,[])
theorem lrZ{T:List Nat}(hT:Tab T)(c:Go.P21.CallT):cPutCal fuel (tabI T) c=some (((putCall T c).1:Int),(putCall T c).2):=by
 unfold putCall;cases hr:rightCall c with
 |false=>
  obtain⟨c1,c2,c3,⟨h1,h2⟩,nm,⟨t1,t2⟩,nw,off,n,bs⟩:=c;unfold cPutCal;rw[d1Z];simp only[ZAA];rw[boZ,hr]
  rfl
 |true=>
  have hR:=hnZ hr;have hlen:=i3Z hR;have hf:=hR.fits;obtain⟨c1,c2,c3,⟨h1,h2⟩,nm,⟨t1,t2⟩,nw,off,n,bs⟩:=c;obtain⟨k1,k2,k3,k4,k5,k6,k7,k8,k9,k10,k11⟩:=hf;simp only at k1 k2 k3 k4 k5 k6 k7 k8 k9 k10 k11;have k0:=c3.toNat_lt;rw[ZAV rfl];unfold cPutCal;rw[d1Z];simp only[ZAA];rw[boZ,hr];simp only[ZAA,ZAx,ZAK];rw[w64 (x:=((c3.toNat:Nat):Int)) ⟨by omega,by omega⟩];rw[egZ (by simp) (by
   intro x hx;simp only[ZAQ,List.mem_nil_iff,or_false] at hx;rcases hx with rfl|rfl|rfl|rfl|rfl|rfl|rfl|rfl|rfl<;>omega) (by simp)]
  simp only[ZAA];rw[alZ (aEZ (by rw[ixZ];omega)),alZ (aEZ (by rw[ixZ];omega))];generalize hN:[UInt8.ofNat 3]++nums [c1,c2,((c3.toNat:Nat):Int),h1,h2,t1,t2,off,n]=H;have hH:H.length<=100:=by
   rw[<-hN];have:=gNZ (r:=[c1,c2,((c3.toNat:Nat):Int),h1,h2,t1,t2,off,n]) (by
    intro x hx;simp only[ZAQ,List.mem_nil_iff,or_false] at hx;rcases hx with rfl|rfl|rfl|rfl|rfl|rfl|rfl|rfl|rfl<;>omega)
   unfold nums;simp only[ZAJ,ZAl,ZA9] at this⊢;omega
  have hl:cPutCal_l0_it fuel (c1,(c2,(c3,((h1,h2),(nm,((t1,t2),(nw,(off,(n,bs))))))))) (0,H)=some (H++[nm,nw,bs].flatMap blobB):=by
   unfold cPutCal_l0_it;refine evZ blobB [nm,nw,bs] H (by simp) (f:=fun tt=>cPutCal_l0 fuel (c1,(c2,(c3,((h1,h2),(nm,((t1,t2),(nw,(off,(n,bs))))))))) tt.1 tt.2) (fun k hk m hm=> ?_) (fun m=>rfl);show cPutCal_l0 fuel _ (k:Int) m=_;have hk3:k<3:=hk;have hml:m.length<=20000:=by
    rw[hm,ZAJ];have w1:=ajZ (n:=nm.length) (by omega);have w2:=ajZ (n:=nw.length) (by omega);have w3:=ajZ (n:=bs.length) (by omega);have:(([nm,nw,bs].take k).flatMap blobB).length<=([nm,nw,bs].flatMap blobB).length:=by
     have h2:[nm,nw,bs]=[nm,nw,bs].take k++[nm,nw,bs].drop k:=(List.take_append_drop k _).symm;have h3:([nm,nw,bs].flatMap blobB).length=(([nm,nw,bs].take k++[nm,nw,bs].drop k).flatMap blobB).length:=by rw[<-h2]
     rw[h3,List.flatMap_append,ZAJ];omega
    unfold blobB at this;simp only[ZBC,List.flatMap_nil,ZAJ,ZAq,ZA9] at this;unfold blobB;omega
   have hb:([nm,nw,bs][k]).length<=4096:=by
    have:k=0\/k=1\/k=2:=by omega
    rcases this with rfl|rfl|rfl
    ·show nm.length<=_;omega
    ·show nw.length<=_;omega
    ·show bs.length<=_;omega
   unfold cPutCal_l0;rw[ZAD (by omega),auZ hk3];simp only[ZAM,ZAA,ZAI hk];rw[cdZ (by omega)];simp only[ZAA];rw[w64 ⟨by omega,by omega⟩,ZAh]
   rfl
  rw[hl];simp only[ZAA];have hbody:H++[nm,nw,bs].flatMap blobB=3::callB (c1,(c2,(c3,((h1,h2),(nm,((t1,t2),(nw,(off,(n,bs))))))))):=by
   rw[<-hN];unfold nums callB;simp only[ZBC,List.flatMap_nil,ZAq,ZAh,ZBh,ZAw]
   rfl
  rw[hbody,iIZ hT (by simp only[ZAl];omega)]
  rfl
end Go.Ab.D
set_option maxRecDepth 100000
namespace Go.Ab.D
open Go Go.Ab Go.P1 Go.P21
attribute [local irreducible] Go.P1.crcT tabI
def At(l:List UInt8)(p:Int)(s:Option (List UInt8)):Prop:=(0<=p/\p<=l.length)/\∀r,s=some r->l.drop p.toNat=r
theorem ayZ{l:List UInt8}(hb:l.length<4611686018427387904){p:Int}{s:Option (List UInt8)}(h:At l p s):
 ∃p',creanum fuel l p s.isNone=some (((pN s).1:Int),(l,(p',(pN s).2.isNone)))/\At l p' (pN s).2:=by
 obtain⟨h0,hr⟩:=h;cases s with
 |none=>exact⟨p,rfl,h0,fun r hr=>by cases hr⟩
 |some r=>
  obtain⟨k,rfl⟩:∃k:Nat,p=k:=⟨p.toNat,by omega⟩;have hk:k<=l.length:=by omega
  have hd:l.drop k=r:=hr r rfl;rw[cUZ];unfold creanum;rw[bVZ hb];simp only[ZAr,ZAK,ZAA];cases hp:pNum M62 r with
  |some x=>
   obtain⟨n,r'⟩:=x;rw[<-hd] at hp;obtain⟨g1,g2,g3,g4,g5⟩:=blZ hk hp;unfold M62 at g2;refine⟨((l.length-r'.length:Nat):Int),?_,⟨by omega,by omega⟩,fun q hq=> ?_⟩
   ·rw[g1];have:decide ((n:Int)>4611686018427387904)=false:=ZAC (by omega);simp only[this];rw[w64 ⟨by omega,by omega⟩]
    rfl
   ·cases hq;exact g4
  |none=>
   rw[<-hd] at hp;have g:=bFZ hk hp;unfold M62 at g;refine⟨(k:Int),?_,h0,fun q hq=>by cases hq⟩;by_cases he:(getUint l k).2.2=0
   ·rw[he];have:decide (((getUint l k).1:Int)>4611686018427387904)=true:=ZAD (by rcases g with g|g<;>omega);simp only[this]
    rfl
   ·rw[ZAk.2 (show(((getUint l k).2.2:Nat):Int)≠0 by omega)]
    rfl
theorem eKZ{l:List UInt8}(hb:l.length<=140737488355328){most:Nat}(hm:most<=1000000){p:Int}{s:Option (List UInt8)}(h:At l p s):
 ∃p',creablo fuel (most:Int) l p s.isNone=some (l,(p',((pB most s).2.isNone,(pB most s).1)))/\At l p' (pB most s).2:=by
 obtain⟨h0,hr⟩:=h;cases s with
 |none=>exact⟨p,rfl,h0,fun r hr=>by cases hr⟩
 |some r=>
  obtain⟨k,rfl⟩:∃k:Nat,p=k:=⟨p.toNat,by omega⟩;have hk:k<=l.length:=by omega
  have hd:l.drop k=r:=hr r rfl;rw[fpZ];unfold creablo;rw[gaZ hb (by omega)];simp only[ZAr,ZAK,ZAA];cases hp:pBlob most r with
  |some x=>
   obtain⟨b,r'⟩:=x;rw[<-hd] at hp;obtain⟨g1,g2,g3,g4⟩:=dGZ hk hp;refine⟨((l.length-r'.length:Nat):Int),?_,⟨by omega,by omega⟩,fun q hq=> ?_⟩
   ·rw[g1];rfl
   ·cases hq;exact g2
  |none=>
   rw[<-hd] at hp;obtain⟨g1,g2,g3⟩:=dRZ hk hp;refine⟨(k:Int),?_,h0,fun q hq=>by cases hq⟩;rw[ZAk.2 (show(((getBlob l k most).2.2:Nat):Int)≠0 by omega)]
   rfl
def callOf(r:List UInt8):Option Go.P21.CallT:=
 if(rdCall (some r)).2.2=some []/\(rdCall (some r)).1.2.2.1<=255/\rightCall (ofRd (rdCall (some r)))=true then some (ofRd (rdCall (some r))) else none
theorem kJZ{r:List UInt8}{c:Go.P21.CallT}:callOf r=some c↔rightCall c=true/\r=callB c:=by
 unfold callOf;constructor
 ·intro h;split at h
  ·rename_i hc;obtain⟨h1,h2,h3⟩:=hc;cases h;obtain⟨g1,g2⟩:=pVZ h1 h2;rw[ZAq] at g1;exact⟨h3,ZAY g1⟩
  ·cases h
 ·rintro⟨h1,rfl⟩;have hR:=hnZ h1;obtain⟨g1,g2,g3⟩:=qiZ hR.fits [];rw[ZAq] at g1 g2 g3;have:=c.2.2.1.toNat_lt;rw[ZAV ⟨g1,by omega,by rw[g3];exact h1⟩,g3]
abbrev zC:Go.P21.CallT:=(0,(0,(0,((0,0),([],((0,0),([],(0,(0,[])))))))))
def bodyC(l:List UInt8):Option Go.P21.CallT:=match l with|[]=>none|k::r=>if k=3 then callOf r else none
def getCall(T:List Nat)(b:List UInt8):Go.P21.CallT×Nat:=
 if(unsealed (P1.sum T) b).2=0 then(match bodyC (unsealed (P1.sum T) b).1 with|some c=>(c,0)|none=>(zC,179)) else(zC,(unsealed (P1.sum T) b).2)
abbrev OutC:Type:=Int×(Int×(Int×(Int×(Int×(List UInt8×(Int×(Int×(List UInt8×(Int×(Int×(List UInt8×Int)))))))))))
def outC(x:Go.P21.CallT×Nat):OutC:=
 (x.1.1,(x.1.2.1,(((x.1.2.2.1.toNat:Nat):Int),(x.1.2.2.2.1.1,(x.1.2.2.2.1.2,(x.1.2.2.2.2.1,(x.1.2.2.2.2.2.1.1,(x.1.2.2.2.2.2.1.2,(x.1.2.2.2.2.2.2.1,(x.1.2.2.2.2.2.2.2.1,(x.1.2.2.2.2.2.2.2.2.1,(x.1.2.2.2.2.2.2.2.2.2,(x.2:Int)))))))))))))
theorem dVZ(S:List UInt8->Nat)(b:List UInt8):(unsealed S b).1.length<=b.length:=by
 unfold unsealed;split
 ·exact ZAz _
 ·split<;>simp<;>omega
theorem koZ{T:List Nat}(hT:Tab T){b:List UInt8}(hb:b.length<=140737488355328)(K:UInt8){Ki:Int}(hK:Ki=((K.toNat:Nat):Int)):
 cbeg fuel (tabI T) b Ki=some (if(unsealed (P1.sum T) b).2=0 then(match(unsealed (P1.sum T) b).1 with|[]=>.inl 179|k::r=>if k=K then .inr (0,(k::r,(1,false))) else .inl 179) else .inl ((unsealed (P1.sum T) b).2:Int)):=by
 subst hK;unfold cbeg;rw[m1Z hT hb];simp only[ZAA];by_cases h0:(unsealed (P1.sum T) b).2=0
 ·rw[ZAV h0,h0];cases hl:(unsealed (P1.sum T) b).1 with
  |nil=>rfl
  |cons k r=>
   have:((((k::r).length:Nat):Int)==0)=false:=ZAk.2 (by simp only[ZAl];omega);simp only[this,show(!(((0:Nat):Int)==0))=false from rfl,ZAK];rw[show idx? 0 (k::r).length=some 0 from auZ (i:=0) (by simp)];simp only[ZAA,List.getElem?_cons_zero];by_cases hk:k=K
   ·subst hk;rw[ZBN.2 rfl,ZAV rfl]
    rfl
   ·have:(((k.toNat:Nat):Int)==((K.toNat:Nat):Int))=false:=ZAk.2 (fun h=>hk (UInt8.toNat_inj.1 (by omega)));rw[this,ZAO hk]
    rfl
 ·rw[ZAO h0];have:((((unsealed (P1.sum T) b).2:Nat):Int)==0)=false:=ZAk.2 (by omega);rw[this]
  rfl
theorem kLZ{l r:List UInt8}(hb:l.length<4611686018427387904)(h:At l 1 (some r)):∃p',∃a9:Option (List UInt8),a9=(pN (pN (pN (pN (pN (pN (pN (pN (pN (some r)).2).2).2).2).2).2).2).2).2/\At l p' a9/\
 creanumo13 fuel l 1 false 0 0 0 0 0 [] 0 0 [] 0 0 0=some (l,(p',(a9.isNone,(((rdCall (some r)).1.1:Int),(((rdCall (some r)).1.2.1:Int),(0,(((rdCall (some r)).1.2.2.2.1:Int),(((rdCall (some r)).1.2.2.2.2.1:Int),([],(((rdCall (some r)).1.2.2.2.2.2.1:Int),(((rdCall (some r)).1.2.2.2.2.2.2.1:Int),([],(((rdCall (some r)).1.2.2.2.2.2.2.2.1:Int),(((rdCall (some r)).1.2.2.2.2.2.2.2.2:Int),((rdCall (some r)).1.2.2.1:Int))))))))))))))):=by
 unfold creanumo13;obtain⟨p1,e1,s1⟩:=ayZ hb h;obtain⟨p2,e2,s2⟩:=ayZ hb s1;obtain⟨p3,e3,s3⟩:=ayZ hb s2;obtain⟨p4,e4,s4⟩:=ayZ hb s3;obtain⟨p5,e5,s5⟩:=ayZ hb s4;obtain⟨p6,e6,s6⟩:=ayZ hb s5;obtain⟨p7,e7,s7⟩:=ayZ hb s6;obtain⟨p8,e8,s8⟩:=ayZ hb s7;obtain⟨p9,e9,s9⟩:=ayZ hb s8;have e1':creanum fuel l 1 false=_:=e1;refine⟨p9,_,rfl,s9,?_⟩;rw[e1'];simp only[ZAA];rw[e2];simp only[ZAA];rw[e3];simp only[ZAA];rw[e4];simp only[ZAA];rw[e5];simp only[ZAA];rw[e6];simp only[ZAA];rw[e7];simp only[ZAA];rw[e8];simp only[ZAA];rw[e9]
 rfl
theorem oqZ{n:Nat}:IntKind.wrap .u8 (n:Int)=(((UInt8.ofNat n).toNat:Nat):Int):=by
 rw[jxZ,UInt8.toNat_ofNat'];omega
theorem kTZ{T:List Nat}(hT:Tab T){b:List UInt8}(hb:b.length<=140737488355328):cGetCal fuel (tabI T) b=some (outC (getCall T b)):=by
 have hul:=dVZ (P1.sum T) b;unfold cGetCal getCall;rw[koZ hT hb 3 (Ki:=3) rfl];simp only[ZAA];by_cases h0:(unsealed (P1.sum T) b).2=0
 ·rw[ZAV h0,ZAV h0];generalize (unsealed (P1.sum T) b).1=l at hul⊢;cases l with
  |nil=>rfl
  |cons k r=>
   show _=some (outC (match(if k=3 then callOf r else none) with|some c=>(c,0)|none=>(zC,179)));by_cases hk:k=3
   ·subst hk;simp only[if_true,show(!((0:Int)==0))=false from rfl,ZAK];have hAt:At (3::r) 1 (some r):=⟨⟨by omega,by simp only[ZAl];omega⟩,fun q hq=>by cases hq;rfl⟩;have hl1:(3::r:List UInt8).length<=140737488355328:=by omega
    obtain⟨p9,a9,ha9,s9,e9⟩:=kLZ (by omega) hAt;rw[e9];simp only[ZAA];obtain⟨q1,f1,t1⟩:=eKZ hl1 (most:=100) (by omega) s9;obtain⟨q2,f2,t2⟩:=eKZ hl1 (most:=100) (by omega) t1;obtain⟨q3,f3,t3⟩:=eKZ hl1 (most:=4096) (by omega) t2;have f1':creablo fuel 100 (3::r) p9 a9.isNone=_:=f1;have f2':creablo fuel 100 (3::r) q1 (pB 100 a9).2.isNone=_:=f2;have f3':creablo fuel 4096 (3::r) q2 (pB 100 (pB 100 a9).2).2.isNone=_:=f3;rw[f1'];simp only[ZAA];rw[f2'];simp only[ZAA];rw[f3'];simp only[ZAA];have hB1:(pB 100 a9).1=(rdCall (some r)).2.1.1:=by rw[ha9];rfl
    have hB2:(pB 100 (pB 100 a9).2).1=(rdCall (some r)).2.1.2.1:=by rw[ha9];rfl
    have hB3:(pB 4096 (pB 100 (pB 100 a9).2).2).1=(rdCall (some r)).2.1.2.2:=by rw[ha9];rfl
    have hL:(pB 4096 (pB 100 (pB 100 a9).2).2).2=(rdCall (some r)).2.2:=by rw[ha9];rfl
    rw[hL] at t3;rw[hB1,hB2,hB3,hL];unfold callOf;generalize rdCall (some r)=R at*;cases hR:R.2.2 with
    |none=>
     rw[ZAO (by simp)]
     rfl
    |some w=>
     rw[hR] at t3;have hd:=t3.2 w rfl;by_cases hop:R.1.2.2.1<=255
     ·have h5:decide (((R.1.2.2.1:Nat):Int)>255)=false:=ZAC (by omega);simp only[ZAr,ZAK,h5];have hq:(q3==(((3::r:List UInt8).length:Nat):Int))=decide (w=[]):=by
       have hlen:w.length=(3::r:List UInt8).length-q3.toNat:=by rw[<-hd,ZAt]
       have:=t3.1;by_cases hw:w=[]
       ·rw[ZAD hw,ZBN];have:w.length=0:=by rw[hw];rfl
        omega
       ·rw[ZAC hw,ZAk];intro hc;apply hw;apply ZAU;omega
      rw[hq];by_cases hw:w=[]
      ·subst hw;have hby:byte? (IntKind.wrap .u8 ((R.1.2.2.1:Nat):Int))=some (UInt8.ofNat R.1.2.2.1):=by rw[oqZ];exact d1Z _
       rw[ZAD rfl];simp only[ZAx,ZAK,hby,ZAA];rw[boZ];have hc:((R.1.1:Int),((R.1.2.1:Int),(UInt8.ofNat R.1.2.2.1,(((R.1.2.2.2.1:Int),(R.1.2.2.2.2.1:Int)),(R.2.1.1,(((R.1.2.2.2.2.2.1:Int),(R.1.2.2.2.2.2.2.1:Int)),(R.2.1.2.1,((R.1.2.2.2.2.2.2.2.1:Int),((R.1.2.2.2.2.2.2.2.2:Int),R.2.1.2.2)))))))))=ofRd R:=rfl;rw[hc];cases hr:rightCall (ofRd R) with
       |false=>
        rw[ZAO (by simp)]
        rfl
       |true=>
        rw[ZAV ⟨by first|rfl|trivial,hop,rfl⟩,oqZ]
        rfl
      ·rw[ZAC hw,ZAO (by simp[hw])]
       rfl
     ·have h5:decide (((R.1.2.2.1:Nat):Int)>255)=true:=ZAD (by omega);simp only[ZAr,ZAK,h5];rw[ZAO (by omega)]
      rfl
   ·simp only[ZAO hk]
    rfl
 ·rw[ZAO h0,ZAO h0];have:((((unsealed (P1.sum T) b).2:Nat):Int)==0)=false:=ZAk.2 (by omega);simp only[this]
  rfl
end Go.Ab.D
set_option maxRecDepth 100000
namespace Go.Ab.D
open Go Go.Ab Go.P1 Go.P21
attribute [local irreducible] Go.P1.crcT tabI
theorem pqZ:(tabI crcT).length=256:=by rw[n0Z];exact deZ.1
theorem pWZ{l:List Int}(h:l.length=256):Nat.beq l.length 256=true:=by rw[h];rfl
theorem lhZ(T:List Nat)(l:List UInt8):getCall T (sealed (P1.sum T) l)=match bodyC l with|some c=>(c,0)|none=>(zC,179):=by
 unfold getCall;rw[c3Z]
 rfl
end Go.Ab.D
set_option maxRecDepth 100000
namespace Go.Ab.D
open Go Go.Ab Go.P1 Go.P21
attribute [local irreducible] Go.P1.crcT tabI
def entOk(e:EntT):Bool:=decide (1<=e.1.length/\e.1.length<=100/\1<=e.2/\e.2<=500)
def noneB(h:Int×Int):Bool:=(h.1==0)&&(h.2==0)
def rightReply(r:ReplyT):Bool:=
 whoseB r.1 r.2.1&&(decide (0<=r.2.2.1/\r.2.2.1<=1000)&&(if r.2.2.1≠0 then
  noneB r.2.2.2.1&&(!r.2.2.2.2.1&&(!r.2.2.2.2.2.2.2.2.1&&((r.2.2.2.2.2.1==0)&&((r.2.2.2.2.2.2.2.2.2==0)&&decide (r.2.2.2.2.2.2.1=[]/\r.2.2.2.2.2.2.2.1=[])))))
 else(noneB r.2.2.2.1||handleB r.2.2.2.1)&&(decide (0<=r.2.2.2.2.2.1/\r.2.2.2.2.2.1<=65536)&&(decide (0<=r.2.2.2.2.2.2.2.2.2/\r.2.2.2.2.2.2.2.2.2<=1099511627776)&&
  (r.2.2.2.2.2.2.2.1.all entOk&&(decide (r.2.2.2.2.2.2.1.length<=4096)&&decide (r.2.2.2.2.2.2.2.1.length<=100)))))))
theorem pcZ{b0:Bool}{x1 x2 x3 h1 h2:Int}{d:Bool}{sz:Int}{bs:List UInt8}{es:List EntT}{mo:Bool}{fr:Int}(hes:es.length<4611686018427387904):
 cRigRep_l0_it fuel (b0,(x1,(x2,(x3,(h1,(h2,(d,(sz,(bs,(es,(mo,fr))))))))))) (0,(x1,(x2,(x3,(h1,(h2,(d,(sz,(bs,(es,(mo,fr)))))))))))=some (if es.all entOk=true then .inl (x1,(x2,(x3,(h1,(h2,(d,(sz,(bs,(es,(mo,fr)))))))))) else .inr false):=by
 unfold cRigRep_l0_it;have:=aHZ (f:=fun tt:Int×(Int×(Int×(Int×(Int×(Int×(Bool×(Int×(List UInt8×(List EntT×(Bool×Int))))))))))=>cRigRep_l0 fuel (b0,(x1,(x2,(x3,(h1,(h2,(d,(sz,(bs,(es,(mo,fr))))))))))) tt.1 tt.2.1 tt.2.2.1 tt.2.2.2.1 tt.2.2.2.2.1 tt.2.2.2.2.2.1 tt.2.2.2.2.2.2.1 tt.2.2.2.2.2.2.2.1 tt.2.2.2.2.2.2.2.2.1 tt.2.2.2.2.2.2.2.2.2.1 tt.2.2.2.2.2.2.2.2.2.2.1 tt.2.2.2.2.2.2.2.2.2.2.2)
  (fun n s=>∃k:Nat,s=((k:Int),(x1,(x2,(x3,(h1,(h2,(d,(sz,(bs,(es,(mo,fr)))))))))))/\k+n=es.length/\(es.take k).all entOk=true)
  (fun o=>o=if es.all entOk=true then .inl (x1,(x2,(x3,(h1,(h2,(d,(sz,(bs,(es,(mo,fr)))))))))) else .inr false)
  (fun n s ⟨k,hs,hk,ha⟩=>by
   subst hs;have hk':k<es.length:=by omega
   show(∃s',cRigRep_l0 fuel _ (k:Int) x1 x2 x3 h1 h2 d sz bs es mo fr=_/\_)\/∃o,cRigRep_l0 fuel _ (k:Int) x1 x2 x3 h1 h2 d sz bs es mo fr=_/\_;unfold cRigRep_l0;simp only;rw[ZAD (show(k:Int)<((es.length:Nat):Int) by omega),auZ hk',w64 (x:=(k:Int)+1) ⟨by omega,by omega⟩];simp only[ZAM,ZAA,ZAI hk'];have htk:(es.take (k+1)).all entOk=((es.take k).all entOk&&entOk es[k]):=by rw[ZA3 hk',List.all_append];simp
   have hbad:entOk es[k]=false->es.all entOk=false:=fun h=>by
    rw[List.all_eq_false];exact⟨es[k],ZBA hk',by rw[h];simp⟩
   generalize es[k]=en at htk hbad⊢;obtain⟨nm,id⟩:=en;by_cases g:entOk (nm,id)=true
   ·left;have g':=g;unfold entOk at g';simp only[ZAR] at g';rw[ZAC (show¬((nm.length:Nat):Int)<1 by omega),ZAC (show¬((nm.length:Nat):Int)>100 by omega),ZAC (show¬id<1 by omega),ZAC (show¬id>500 by omega)];exact⟨_,rfl,k+1,rfl,by omega,by rw[htk,ha,g];rfl⟩
   ·right;have g0:entOk (nm,id)=false:=by simpa using g
    rw[hbad g0];refine⟨_,?_,rfl⟩;have g':=g0;unfold entOk at g';simp only[ZBJ] at g';by_cases q1:((nm.length:Nat):Int)<1
    ·rw[ZAD q1];rfl
    ·by_cases q2:((nm.length:Nat):Int)>100
     ·rw[ZAC q1,ZAD q2];rfl
     ·by_cases q3:id<1
      ·rw[ZAC q1,ZAC q2,ZAD q3];rfl
      ·have q4:id>500:=by omega
       rw[ZAC q1,ZAC q2,ZAC q3,ZAD q4];rfl)
  (fun s ⟨k,hs,hk,ha⟩=>by
   subst hs;have:k=es.length:=by omega
   subst this;rw[ZBP] at ha;rw[ha];refine⟨_,?_,rfl⟩;show cRigRep_l0 fuel _ ((es.length:Nat):Int) x1 x2 x3 h1 h2 d sz bs es mo fr=_;unfold cRigRep_l0;simp only;rw[ZAC (by omega)]
   rfl)
  es.length (0,(x1,(x2,(x3,(h1,(h2,(d,(sz,(bs,(es,(mo,fr))))))))))) hes ⟨0,rfl,by omega,by simp⟩
 obtain⟨o,e1,e2⟩:=this;rw[e1,e2]
theorem crZ{r:ReplyT}(hb:r.2.2.2.2.2.2.1.length<1000000000000000000)(he:r.2.2.2.2.2.2.2.1.length<1000000000000000000):cRigRep fuel r=some (rightReply r):=by
 obtain⟨x1,x2,x3,⟨h1,h2⟩,d,sz,bs,es,mo,fr⟩:=r;simp only at hb he;unfold cRigRep rightReply;simp only;rw[j9Z];simp only[ZAA];cases whoseB x1 x2 with
 |false=>rfl
 |true=>
  simp only[ZAx,ZAK,ZBX];by_cases e1:x3<0
  ·rw[ZAD e1,ZAC (show¬(0<=x3/\x3<=1000) by omega)];rfl
  by_cases e2:x3>1000
  ·rw[ZAC e1,ZAD e2,ZAC (show¬(0<=x3/\x3<=1000) by omega)];rfl
  rw[ZAC e1,ZAC e2,ZAD (show 0<=x3/\x3<=1000 by omega)];simp only[ZAK,ZAA,ZBX];by_cases e3:x3=0
  ·rw[ZAO (by simpa using e3),ZBN.2 e3];simp only[ZAx,ZAK];have hn:((h1==0)&&(h2==0))=noneB (h1,h2):=rfl;rw[hn];have tail:∀b0:Bool,(bif b0 then some false else(cRigRep_l0_it fuel (b0,(x1,(x2,(x3,(h1,(h2,(d,(sz,(bs,(es,(mo,fr))))))))))) (0,(x1,(x2,(x3,(h1,(h2,(d,(sz,(bs,(es,(mo,fr)))))))))))).bind fun o4=>
    match o4 with
    |.inl s=>
     bif (decide (((s.2.2.2.2.2.2.2.1.length:Nat):Int)<=4096)) then
      some (decide (((s.2.2.2.2.2.2.2.2.1.length:Nat):Int)<=100))
     else
      some false
    |.inr o5=>
     some o5)=some (!b0&&(es.all entOk&&(decide (bs.length<=4096)&&decide (es.length<=100)))):=by
    intro b0;cases b0 with
    |true=>rfl
    |false=>
     simp only[ZAK,Bool.not_false,ZBX];rw[pcZ (by omega)];simp only[ZAA];cases es.all entOk with
     |false=>rfl
     |true=>
      simp only[if_true,ZBX];by_cases q1:bs.length<=4096
      ·rw[ZAD q1,ZAD (show((bs.length:Nat):Int)<=4096 by omega)];by_cases q2:es.length<=100
       ·rw[ZAD q2,ZAD (show((es.length:Nat):Int)<=100 by omega)];rfl
       ·rw[ZAC q2,ZAC (show¬((es.length:Nat):Int)<=100 by omega)];rfl
      ·rw[ZAC q1,ZAC (show¬((bs.length:Nat):Int)<=4096 by omega)];rfl
   have mid:∀z:Bool,(bif decide (sz<0) then some (true,(x1,(x2,(x3,(h1,(h2,(d,(sz,(bs,(es,(mo,fr))))))))))) else bif decide (sz>65536) then some (true,(x1,(x2,(x3,(h1,(h2,(d,(sz,(bs,(es,(mo,fr))))))))))) else bif decide (fr<0) then some (true,(x1,(x2,(x3,(h1,(h2,(d,(sz,(bs,(es,(mo,fr))))))))))) else some (decide (fr>1099511627776),(x1,(x2,(x3,(h1,(h2,(d,(sz,(bs,(es,(mo,fr))))))))))))=some (!(decide (0<=sz/\sz<=65536)&&decide (0<=fr/\fr<=1099511627776)),(x1,(x2,(x3,(h1,(h2,(d,(sz,(bs,(es,(mo,fr))))))))))):=by
    intro _;by_cases q1:sz<0
    ·rw[ZAD q1,ZAC (show¬(0<=sz/\sz<=65536) by omega)];rfl
    by_cases q2:sz>65536
    ·rw[ZAC q1,ZAD q2,ZAC (show¬(0<=sz/\sz<=65536) by omega)];rfl
    rw[ZAC q1,ZAC q2,ZAD (show 0<=sz/\sz<=65536 by omega)];by_cases q3:fr<0
    ·rw[ZAD q3,ZAC (show¬(0<=fr/\fr<=1099511627776) by omega)];rfl
    by_cases q4:fr>1099511627776
    ·rw[ZAC q3,ZAD q4,ZAC (show¬(0<=fr/\fr<=1099511627776) by omega)];rfl
    rw[ZAC q3,ZAC q4,ZAD (show 0<=fr/\fr<=1099511627776 by omega)];rfl
   cases hnone:noneB (h1,h2) with
   |true=>
    simp only[ZAx,ZAK,Bool.true_or,ZBX];rw[mid true];simp only[ZAA];refine(tail _).trans ?_;simp only[Bool.not_not,Bool.and_assoc]
   |false=>
    simp only[Bool.not_false,ZAM,Bool.false_or];rw[hOZ];simp only[ZAA];cases handleB (h1,h2) with
    |false=>rfl
    |true=>
     simp only[ZAx,ZAK,ZBX];rw[mid true];simp only[ZAA];refine(tail _).trans ?_;simp only[Bool.not_not,Bool.and_assoc]
  ·rw[ZAV e3,ZAk.2 e3];simp only[Bool.not_false,ZAM];have hn:((h1==0)&&(h2==0))=noneB (h1,h2):=rfl;rw[hn,w64 ⟨by omega,by omega⟩];have hl:((((bs.length:Nat):Int)+((es.length:Nat):Int))==0)=decide (bs=[]/\es=[]):=by
    by_cases q:bs=[]/\es=[]
    ·obtain⟨rfl,rfl⟩:=q
     rfl
    ·rw[ZAC q,ZAk];intro hc;apply q;exact⟨ZAU (by omega),ZAU (by omega)⟩
   rw[hl];cases noneB (h1,h2)<;>cases d<;>cases mo<;>cases(sz==0)<;>cases(fr==0)<;>rfl
end Go.Ab.D
set_option maxRecDepth 100000
namespace Go.Ab.D
open Go Go.Ab Go.P1 Go.P21
attribute [local irreducible] Go.P1.crcT tabI
theorem jRZ(b:Bool):call_flag fuel b=some ((flagN b:Nat):Int):=by cases b<;>rfl
theorem e3Z:∀{es:List EntT},(∀e∈es,EntFits e)->(es.flatMap entB).length<=120*es.length
 |[],_=>by simp
 |e::es,h=>by
  obtain⟨h1,h2,h3⟩:=h e (by simp);have:=e3Z fun x hx=>h x (ZAP _ hx);have v1:=ajZ (n:=e.1.length) (by omega);have v2:=bsZ h2 h3;simp only[ZBC,ZAJ,ZAl];unfold entB blobB;simp only[ZAJ];unfold entB blobB at this;omega
structure RightR (r:ReplyT):Prop where
 f:fitsR r
 e:∀e∈r.2.2.2.2.2.2.2.1,EntFits e
theorem jUZ{h:Int×Int}(k:noneB h=true):h.1=0/\h.2=0:=by
 unfold noneB at k;simpa using k
theorem f2Z{r:ReplyT}(hr:rightReply r=true):fitsR r:=by
 unfold rightReply at hr;simp only[ZAB,ZAR] at hr;obtain⟨r1,r2,r3⟩:=hr;unfold whoseB at r1;simp only[ZAR] at r1;unfold fitsR;split at r3
 ·simp only[ZAB,ZAR,ZBN] at r3;obtain⟨k1,k2,k3,k4,k5,k6,k7⟩:=r3;have:=jUZ k1;rw[k6,k7];simp only[ZA9,List.not_mem_nil,false_implies,implies_true,ZBS];omega
 ·simp only[ZAB,ZAR,ZAc] at r3;obtain⟨k1,k2,k3,k4,k5,k6⟩:=r3;have hh:(0<=r.2.2.2.1.1/\r.2.2.2.1.1<=500)/\(0<=r.2.2.2.1.2/\r.2.2.2.1.2<=1099511627776):=by
   rcases k1 with k|k
   ·have:=jUZ k;omega
   ·unfold handleB at k;simp only[ZAR] at k;omega
  refine⟨by omega,by omega,by omega,by omega,by omega,by omega,by omega,k5,k6,fun e he=> ?_⟩;have:=ZBI.1 k4 e he;unfold entOk at this;simp only[ZAR] at this;exact⟨this.2.1,by omega,by omega⟩
def putReply(T:List Nat)(r:ReplyT):Nat×List UInt8:=if rightReply r=true then(0,sealed (P1.sum T) (4::replyB r)) else(179,[])
theorem lCZ{l:List Int}(h9:l.length=9)(hn:∀n∈l,0<=n/\n<=9223372036854775807):(nums l).length<=90:=by
 have:=gNZ hn;unfold nums;omega
theorem fXZ{r:ReplyT}(h:fitsR r):(replyB r).length<=17000:=by
 obtain⟨k1,k2,k3,k4,k5,k6,k7,k8,k9,k10⟩:=h;have v1:=bsZ k1.1 k1.2;have v2:=bsZ k2.1 k2.2;have v3:=bsZ k3.1 k3.2;have v4:=bsZ k4.1 k4.2;have v5:=bsZ k5.1 k5.2;have v6:=bsZ k6.1 k6.2;have v7:=bsZ k7.1 k7.2;have w1:=ajZ (n:=r.2.2.2.2.2.2.1.length) (by omega);have w2:=ajZ (n:=r.2.2.2.2.2.2.2.1.length) (by omega);have w3:=ajZ (n:=flagN r.2.2.2.2.1) (by cases r.2.2.2.2.1<;>(unfold flagN;simp));have w4:=ajZ (n:=flagN r.2.2.2.2.2.2.2.2.1) (by cases r.2.2.2.2.2.2.2.2.1<;>(unfold flagN;simp));have e:=e3Z k10;unfold replyB blobB;simp only[ZAJ];omega
theorem jdZ{T:List Nat}(hT:Tab T){r:ReplyT}(hb:r.2.2.2.2.2.2.1.length<1000000000000000000)(he:r.2.2.2.2.2.2.2.1.length<1000000000000000000):cPutRep fuel (tabI T) r=some (((putReply T r).1:Int),(putReply T r).2):=by
 unfold putReply;cases hr:rightReply r with
 |false=>
  obtain⟨x1,x2,x3,⟨h1,h2⟩,d,sz,bs,es,mo,fr⟩:=r;unfold cPutRep;simp only;rw[crZ hb he,hr]
  rfl
 |true=>
  have hf:=f2Z hr;have hlen:=fXZ hf;obtain⟨x1,x2,x3,⟨h1,h2⟩,d,sz,bs,es,mo,fr⟩:=r;obtain⟨k1,k2,k3,k4,k5,k6,k7,k8,k9,k10⟩:=hf;simp only at k1 k2 k3 k4 k5 k6 k7 k8 k9 k10;rw[ZAV rfl];unfold cPutRep;simp only;rw[crZ hb he,hr];simp only[ZAA,ZAx,ZAK];rw[jRZ,jRZ];simp only[ZAA];have f1:flagN d<=1:=by cases d<;>(unfold flagN;simp)
  have f2:flagN mo<=1:=by cases mo<;>(unfold flagN;simp)
  have hn9:∀n∈[x1,x2,x3,h1,h2,((flagN d:Nat):Int),sz,((flagN mo:Nat):Int),fr],0<=n/\n<=9223372036854775807:=by
   intro x hx;simp only[ZAQ,List.mem_nil_iff,or_false] at hx;rcases hx with rfl|rfl|rfl|rfl|rfl|rfl|rfl|rfl|rfl<;>omega
  rw[egZ (by simp) hn9 (by simp)];simp only[ZAA];have hN:=lCZ rfl hn9;generalize hG:nums [x1,x2,x3,h1,h2,((flagN d:Nat):Int),sz,((flagN mo:Nat):Int),fr]=G at hN;have vb:=ajZ (n:=bs.length) (by omega);rw[cdZ (by simp only[ZAJ,ZAl,ZA9];omega)];simp only[ZAA];rw[egZ (l:=[((es.length:Nat):Int)]) (by simp) (by intro x hx;simp only[ZAQ,List.mem_nil_iff,or_false] at hx;subst hx;omega) (by simp only[ZAJ,ZAl,ZA9];omega)];simp only[ZAA];have hn1:nums [((es.length:Nat):Int)]=varint es.length:=by unfold nums vi;simp
  rw[hn1];have ve:=ajZ (n:=es.length) (by omega);generalize hH:([UInt8.ofNat 4]++G)++varint bs.length++bs++varint es.length=H;have hHl:H.length<=5000:=by
   rw[<-hH];simp only[ZAJ,ZAl,ZA9];omega
  have hl:cPutRep_l0_it fuel (x1,(x2,(x3,((h1,h2),(d,(sz,(bs,(es,(mo,fr))))))))) (0,H)=some (H++es.flatMap entB):=by
   unfold cPutRep_l0_it;refine evZ entB es H (by omega) (f:=fun tt=>cPutRep_l0 fuel (x1,(x2,(x3,((h1,h2),(d,(sz,(bs,(es,(mo,fr))))))))) tt.1 tt.2) (fun k hk m hm=> ?_) (fun m=> ?_)
   ·show cPutRep_l0 fuel _ (k:Int) m=_;have hml:m.length<=20000:=by
     rw[hm,ZAJ];have:=e3Z (es:=es.take k) fun e he=>k10 e (ZBK he);have:(es.take k).length<=es.length:=by simp;omega
     omega
    obtain⟨q1,q2,q3⟩:=k10 _ (ZBA hk);have vq:=ajZ (n:=es[k].1.length) (by omega);unfold cPutRep_l0;simp only;rw[ZAD (by omega),auZ hk];simp only[ZAM,ZAA,ZAI hk];rw[alZ (aEZ (by rw[ixZ];omega)),cdZ (by omega)];simp only[ZAA];rw[egZ (l:=[es[k].2]) (by simp) (by intro x hx;simp only[ZAQ,List.mem_nil_iff,or_false] at hx;subst hx;omega) (by simp only[ZAJ];omega)];simp only[ZAA];rw[w64 ⟨by omega,by omega⟩];have:m++varint es[k].1.length++es[k].1++nums [es[k].2]=m++entB es[k]:=by
     unfold nums entB blobB;simp
    rw[this]
    rfl
   ·show cPutRep_l0 fuel _ ((es.length:Nat):Int) m=_;unfold cPutRep_l0;simp only;rw[ZAC (by omega)]
    rfl
  rw[hl];simp only[ZAA];have hbody:H++es.flatMap entB=4::replyB (x1,(x2,(x3,((h1,h2),(d,(sz,(bs,(es,(mo,fr))))))))):=by
   rw[<-hH,<-hG];unfold nums replyB blobB;simp only[ZBC,List.flatMap_nil,ZAq,ZAh,ZBh,ZAw]
   rfl
  rw[hbody,iIZ hT (by simp only[ZAl];omega)]
  rfl
end Go.Ab.D
set_option maxRecDepth 100000
namespace Go.Ab.D
open Go Go.Ab Go.P1 Go.P21
attribute [local irreducible] Go.P1.crcT tabI
theorem kcZ{l:List UInt8}(hb:l.length<4611686018427387904){p:Int}{s:Option (List UInt8)}(h:At l p s):
 ∃p',creafla fuel l p s.isNone=some ((pF s).1,(l,(p',(pF s).2.isNone)))/\At l p' (pF s).2:=by
 obtain⟨p1,e1,s1⟩:=ayZ hb h;unfold creafla;rw[e1];simp only[ZAA];unfold pF;have hb1:((((pN s).1:Nat):Int)==1)=((pN s).1==1):=by
  by_cases q:(pN s).1=1
  ·rw[q];rfl
  ·rw[ZAk.2 q,ZAk.2 (by omega)]
 rw[hb1];refine⟨p1,?_,s1.1,fun r hr=> ?_⟩
 ·cases hn:(pN s).2 with
  |none=>
   simp only[Option.isNone_none,ZAM,ZAA];split<;>rfl
  |some w=>
   simp only[ZAr,ZAK,ZAA];by_cases q:(pN s).1<=1
   ·rw[ZAV q,ZAC (by omega)];rfl
   ·rw[ZAO q,ZAD (by omega)];rfl
 ·split at hr
  ·exact s1.2 r hr
  ·cases hr
abbrev ST:Type:=Int×(Int×(Int×(Int×(Int×(Int×(Bool×(Int×(Bool×(Int×(List UInt8×(Int×(Bool×(Int×(Int×(Int×(Int×(Int×(Bool×(Int×(Bool×(Int×(List UInt8×List EntT))))))))))))))))))))))
section
variable {l : List UInt8} {n1 n2 n3 n4 n5 sz fr : Int} {d mo : Bool} {bs : List UInt8}
def stR(l:List UInt8)(n1 n2 n3 n4 n5:Int)(d:Bool)(sz:Int)(mo:Bool)(fr:Int)(bs:List UInt8)(n:Nat)(p:Int)(s:Option (List UInt8))(es:List EntT):ST:=
 ((n:Int),(0,(0,(0,(0,(0,(false,(0,(false,(0,(l,(p,(s.isNone,(n1,(n2,(n3,(n4,(n5,(d,(sz,(mo,(fr,(bs,es)))))))))))))))))))))))
theorem ktZ(n:Nat)(es:List EntT):loopR n none es=(n,(none,es)):=by cases n<;>rfl
theorem llZ(hb:l.length<=140737488355328){N:Nat}(hN:N<=100){p:Int}{s0:Option (List UInt8)}(h0:At l p s0):
 ∃p',cGetRep_l0_it fuel (stR l n1 n2 n3 n4 n5 d sz mo fr bs N p s0 [])=some (stR l n1 n2 n3 n4 n5 d sz mo fr bs (loopR N s0 []).1 p' (loopR N s0 []).2.1 (loopR N s0 []).2.2)/\At l p' (loopR N s0 []).2.1:=by
 unfold cGetRep_l0_it;have:=aHZ (f:=fun tt:ST=>cGetRep_l0 fuel tt.1 tt.2.1 tt.2.2.1 tt.2.2.2.1 tt.2.2.2.2.1 tt.2.2.2.2.2.1 tt.2.2.2.2.2.2.1 tt.2.2.2.2.2.2.2.1 tt.2.2.2.2.2.2.2.2.1 tt.2.2.2.2.2.2.2.2.2.1 tt.2.2.2.2.2.2.2.2.2.2.1 tt.2.2.2.2.2.2.2.2.2.2.2.1 tt.2.2.2.2.2.2.2.2.2.2.2.2.1 tt.2.2.2.2.2.2.2.2.2.2.2.2.2.1 tt.2.2.2.2.2.2.2.2.2.2.2.2.2.2.1 tt.2.2.2.2.2.2.2.2.2.2.2.2.2.2.2.1 tt.2.2.2.2.2.2.2.2.2.2.2.2.2.2.2.2.1 tt.2.2.2.2.2.2.2.2.2.2.2.2.2.2.2.2.2.1 tt.2.2.2.2.2.2.2.2.2.2.2.2.2.2.2.2.2.2.1 tt.2.2.2.2.2.2.2.2.2.2.2.2.2.2.2.2.2.2.2.1 tt.2.2.2.2.2.2.2.2.2.2.2.2.2.2.2.2.2.2.2.2.1 tt.2.2.2.2.2.2.2.2.2.2.2.2.2.2.2.2.2.2.2.2.2.1 tt.2.2.2.2.2.2.2.2.2.2.2.2.2.2.2.2.2.2.2.2.2.2.1 tt.2.2.2.2.2.2.2.2.2.2.2.2.2.2.2.2.2.2.2.2.2.2.2)
  (fun k st=>∃(q:Int) (s:Option (List UInt8)) (es:List EntT),st=stR l n1 n2 n3 n4 n5 d sz mo fr bs k q s es/\At l q s/\loopR k s es=loopR N s0 []/\es.length+k=N)
  (fun o=>∃q,o=stR l n1 n2 n3 n4 n5 d sz mo fr bs (loopR N s0 []).1 q (loopR N s0 []).2.1 (loopR N s0 []).2.2/\At l q (loopR N s0 []).2.1)
  (fun k st ⟨q,s,es,hst,hA,hL,hlen⟩=>by
   subst hst;show(∃s',cGetRep_l0 fuel ((k+1:Nat):Int) 0 0 0 0 0 false 0 false 0 l q s.isNone n1 n2 n3 n4 n5 d sz mo fr bs es=_/\_)\/∃o,cGetRep_l0 fuel ((k+1:Nat):Int) 0 0 0 0 0 false 0 false 0 l q s.isNone n1 n2 n3 n4 n5 d sz mo fr bs es=_/\_;unfold cGetRep_l0;have g1:decide (((k+1:Nat):Int)>0)=true:=ZAD (by omega);have g2:decide (((k+1:Nat):Int)<=100)=true:=ZAD (by omega);rw[g1,g2];simp only[ZAM,ZAA];cases s with
   |none=>
    right;rw[ktZ] at hL;rw[<-hL];exact⟨_,rfl,q,rfl,hA⟩
   |some w=>
    left;simp only[ZAr,Bool.not_false,ZAM];obtain⟨q1,f1,t1⟩:=eKZ hb (most:=100) (by omega) hA;obtain⟨q2,f2,t2⟩:=ayZ (by omega) t1;have f1':creablo fuel 100 l q false=_:=f1;rw[f1'];simp only[ZAA];rw[f2];simp only[ZAA];rw[alZ (by rw[ZAB];exact⟨aEZ (by rw[ixZ];omega),aEZ (by rw[ixZ];omega)⟩),w64 ⟨by omega,by omega⟩,show((k+1:Nat):Int)-1=(k:Int) by omega];exact⟨_,rfl,q2,_,_,rfl,t2,hL,by simp;omega⟩)
  (fun st ⟨q,s,es,hst,hA,hL,hlen⟩=>by
   subst hst;have hL':loopR N s0 []=(0,(s,es)):=by rw[<-hL];rfl
   rw[hL'];refine⟨_,?_,q,rfl,hA⟩;show cGetRep_l0 fuel 0 0 0 0 0 0 false 0 false 0 l q s.isNone n1 n2 n3 n4 n5 d sz mo fr bs es=_
   rfl)
  N (stR l n1 n2 n3 n4 n5 d sz mo fr bs N p s0 []) (by omega) ⟨p,s0,[],rfl,h0,rfl,by simp⟩
 obtain⟨o,e1,q,rfl,e3⟩:=this;exact⟨q,e1,e3⟩
theorem iVZ{N:Nat}(hN:100<N)(hN2:N<=4611686018427387904){p:Int}{s0:Option (List UInt8)}:cGetRep_l0_it fuel (stR l n1 n2 n3 n4 n5 d sz mo fr bs N p s0 [])=some (stR l n1 n2 n3 n4 n5 d sz mo fr bs N p s0 []):=by
 unfold cGetRep_l0_it;refine aDZ ?_;show cGetRep_l0 fuel ((N:Nat):Int) 0 0 0 0 0 false 0 false 0 l p s0.isNone n1 n2 n3 n4 n5 d sz mo fr bs []=_;unfold cGetRep_l0;have g1:decide (((N:Nat):Int)>0)=true:=ZAD (by omega);have g2:decide (((N:Nat):Int)<=100)=false:=ZAC (by omega);rw[g1,g2]
 rfl
end
theorem h8Z:∀(n:Nat) (s:Option (List UInt8)) (es:List EntT),(loopR n s es).2.2.length<=es.length+n
 |0,s,es=>by simp[loopR]
 |n+1,none,es=>by simp only[loopR];omega
 |n+1,some l,es=>by
  simp only[loopR];have:=h8Z n (pN (pB 100 (some l)).2).2 (es++[((pB 100 (some l)).1,((pN (pB 100 (some l)).2).1:Int))]);simp only[ZAJ,ZAl,ZA9] at this;omega
abbrev zR:ReplyT:=(0,(0,(0,((0,0),(false,(0,([],([],(false,0)))))))))
def cntR(r:List UInt8):Nat:=(rdReply (some r)).1.2.2.2.2.2.2.2.2.2.2
def replyOf(r:List UInt8):Option ReplyT:=
 if cntR r<=100/\(loopR (cntR r) (rdReply (some r)).2 []).1=0/\(loopR (cntR r) (rdReply (some r)).2 []).2.1=some []/\rightReply (ofRdR (rdReply (some r)) (loopR (cntR r) (rdReply (some r)).2 []).2.2)=true
 then some (ofRdR (rdReply (some r)) (loopR (cntR r) (rdReply (some r)).2 []).2.2) else none
theorem jnZ{r:List UInt8}{x:ReplyT}:replyOf r=some x↔rightReply x=true/\r=replyB x:=by
 unfold replyOf;constructor
 ·intro h;split at h
  ·rename_i hc;obtain⟨h1,h2,h3,h4⟩:=hc;cases h;have hl:loopR (rdReply (some r)).1.2.2.2.2.2.2.2.2.2.2 (rdReply (some r)).2 []=(0,(some [],(loopR (cntR r) (rdReply (some r)).2 []).2.2)):=by
    show loopR (cntR r) (rdReply (some r)).2 []=_;rw[<-h2,<-h3]
   obtain⟨g1,g2⟩:=puZ hl h1;exact⟨h4,ZAY g1⟩
  ·cases h
 ·rintro⟨h1,rfl⟩;have hf:=f2Z h1;have e1:=ozZ hf;have ec:cntR (replyB x)=x.2.2.2.2.2.2.2.1.length:=by unfold cntR;rw[e1]
  have hl:loopR (cntR (replyB x)) (rdReply (some (replyB x))).2 []=(0,(some [],x.2.2.2.2.2.2.2.1)):=by
   rw[ec,e1];have:=j8Z x.2.2.2.2.2.2.2.1 [] [] hf.2.2.2.2.2.2.2.2.2;rw[ZAq] at this;simpa using this
  have eo:=nHZ hf;rw[hl];simp only;rw[eo,ZAV ⟨by rw[ec];exact hf.2.2.2.2.2.2.2.2.1,by first|rfl|trivial,by first|rfl|trivial,h1⟩]
def bodyR(l:List UInt8):Option ReplyT:=match l with|[]=>none|k::r=>if k=4 then replyOf r else none
def getReply(T:List Nat)(b:List UInt8):ReplyT×Nat:=
 if(unsealed (P1.sum T) b).2=0 then(match bodyR (unsealed (P1.sum T) b).1 with|some c=>(c,0)|none=>(zR,179)) else(zR,(unsealed (P1.sum T) b).2)
abbrev OutR:Type:=Int×(Int×(Int×(Int×(Int×(Bool×(Int×(List UInt8×(List EntT×(Bool×(Int×Int))))))))))
def outR(x:ReplyT×Nat):OutR:=
 (x.1.1,(x.1.2.1,(x.1.2.2.1,(x.1.2.2.2.1.1,(x.1.2.2.2.1.2,(x.1.2.2.2.2.1,(x.1.2.2.2.2.2.1,(x.1.2.2.2.2.2.2.1,(x.1.2.2.2.2.2.2.2.1,(x.1.2.2.2.2.2.2.2.2.1,(x.1.2.2.2.2.2.2.2.2.2,(x.2:Int))))))))))))
theorem j6Z{T:List Nat}(hT:Tab T){b:List UInt8}(hb:b.length<=140737488355328):cGetRep fuel (tabI T) b=some (outR (getReply T b)):=by
 have hul:=dVZ (P1.sum T) b;unfold cGetRep getReply;rw[koZ hT hb 4 (Ki:=4) rfl];simp only[ZAA];by_cases h0:(unsealed (P1.sum T) b).2=0
 ·rw[ZAV h0,ZAV h0];generalize (unsealed (P1.sum T) b).1=l at hul⊢;cases l with
  |nil=>rfl
  |cons k r=>
   show _=some (outR (match(if k=4 then replyOf r else none) with|some c=>(c,0)|none=>(zR,179)));by_cases hk:k=4
   ·subst hk;simp only[if_true,show(!((0:Int)==0))=false from rfl,ZAK];have hAt:At (4::r) 1 (some r):=⟨⟨by omega,by simp only[ZAl];omega⟩,fun q hq=>by cases hq;rfl⟩;have hl1:(4::r:List UInt8).length<=140737488355328:=by omega
    have hl2:(4::r:List UInt8).length<4611686018427387904:=by omega
    obtain⟨p1,e1,s1⟩:=ayZ hl2 hAt;obtain⟨p2,e2,s2⟩:=ayZ hl2 s1;obtain⟨p3,e3,s3⟩:=ayZ hl2 s2;obtain⟨p4,e4,s4⟩:=ayZ hl2 s3;obtain⟨p5,e5,s5⟩:=ayZ hl2 s4;obtain⟨p6,e6,s6⟩:=kcZ hl2 s5;obtain⟨p7,e7,s7⟩:=ayZ hl2 s6;obtain⟨p8,e8,s8⟩:=kcZ hl2 s7;obtain⟨p9,e9,s9⟩:=ayZ hl2 s8;obtain⟨p10,e10,s10⟩:=eKZ hl1 (most:=4096) (by omega) s9;obtain⟨p11,e11,s11⟩:=ayZ hl2 s10;have e1':creanum fuel (4::r) 1 false=_:=e1;have e10':creablo fuel 4096 (4::r) p9 _=_:=e10;unfold creanumo14 creanumo12 creanumo1;rw[e1'];simp only[ZAA];rw[e2];simp only[ZAA];rw[e3];simp only[ZAA];rw[e4];simp only[ZAA];rw[e5];simp only[ZAA];rw[e6];simp only[ZAA];rw[e7];simp only[ZAA];rw[e8];simp only[ZAA];rw[e9];simp only[ZAA];rw[e10'];simp only[ZAA];rw[e11];simp only[ZAA];have hm:(pN (pB 4096 (pN (pF (pN (pF (pN (pN (pN (pN (pN (some r)).2).2).2).2).2).2).2).2).2).2).1<=4611686018427387904:=by
     generalize (pB 4096 (pN (pF (pN (pF (pN (pN (pN (pN (pN (some r)).2).2).2).2).2).2).2).2).2).2=sx;cases hx:(pN sx).2 with
     |some w=>have:=(aMZ hx).2;unfold M62 at this;exact this
     |none=>
      cases sx with
      |none=>exact ZAz _
      |some w=>
       rw[cUZ] at hx⊢;cases hp:pNum M62 w with
       |none=>exact ZAz _
       |some y=>obtain⟨a,b⟩:=y;rw[hp] at hx;cases hx
    have hbl:(pB 4096 (pN (pF (pN (pF (pN (pN (pN (pN (pN (some r)).2).2).2).2).2).2).2).2).2).1.length<=4096:=jJZ (by omega) _;have hRd:rdReply (some r)=(((pN (some r)).1,((pN (pN (some r)).2).1,((pN (pN (pN (some r)).2).2).1,((pN (pN (pN (pN (some r)).2).2).2).1,((pN (pN (pN (pN (pN (some r)).2).2).2).2).1,((pF (pN (pN (pN (pN (pN (some r)).2).2).2).2).2).1,((pN (pF (pN (pN (pN (pN (pN (some r)).2).2).2).2).2).2).1,((pF (pN (pF (pN (pN (pN (pN (pN (some r)).2).2).2).2).2).2).2).1,((pN (pF (pN (pF (pN (pN (pN (pN (pN (some r)).2).2).2).2).2).2).2).2).1,((pB 4096 (pN (pF (pN (pF (pN (pN (pN (pN (pN (some r)).2).2).2).2).2).2).2).2).2).1,(pN (pB 4096 (pN (pF (pN (pF (pN (pN (pN (pN (pN (some r)).2).2).2).2).2).2).2).2).2).2).1)))))))))),(pN (pB 4096 (pN (pF (pN (pF (pN (pN (pN (pN (pN (some r)).2).2).2).2).2).2).2).2).2).2).2):=rfl;unfold replyOf cntR;rw[hRd];simp only;generalize (pN (pB 4096 (pN (pF (pN (pF (pN (pN (pN (pN (pN (some r)).2).2).2).2).2).2).2).2).2).2).1=N at*;generalize (pN (pB 4096 (pN (pF (pN (pF (pN (pN (pN (pN (pN (some r)).2).2).2).2).2).2).2).2).2).2).2=s0 at*;generalize (pB 4096 (pN (pF (pN (pF (pN (pN (pN (pN (pN (some r)).2).2).2).2).2).2).2).2).2).1=BS at*;generalize (pN (pF (pN (pF (pN (pN (pN (pN (pN (some r)).2).2).2).2).2).2).2).2).1=m9 at*;generalize (pF (pN (pF (pN (pN (pN (pN (pN (some r)).2).2).2).2).2).2).2).1=m8 at*;generalize (pN (pF (pN (pN (pN (pN (pN (some r)).2).2).2).2).2).2).1=m7 at*;generalize (pF (pN (pN (pN (pN (pN (some r)).2).2).2).2).2).1=m6 at*;generalize (pN (pN (pN (pN (pN (some r)).2).2).2).2).1=m5 at*;generalize (pN (pN (pN (pN (some r)).2).2).2).1=m4 at*;generalize (pN (pN (pN (some r)).2).2).1=m3 at*;generalize (pN (pN (some r)).2).1=m2 at*;generalize (pN (some r)).1=m1 at*;by_cases h100:N<=100
    ·obtain⟨q,f1,t1⟩:=llZ (l:=4::r) (n1:=m1) (n2:=m2) (n3:=m3) (n4:=m4) (n5:=m5) (d:=m6) (sz:=m7) (mo:=m8) (fr:=m9) (bs:=BS) hl1 h100 s11;have f1':cGetRep_l0_it fuel ((N:Int),(0,(0,(0,(0,(0,(false,(0,(false,(0,(4::r,(p11,(s0.isNone,((m1:Int),((m2:Int),((m3:Int),((m4:Int),((m5:Int),(m6,((m7:Int),(m8,((m9:Int),(BS,[])))))))))))))))))))))))=_:=f1;rw[f1'];have hel:=h8Z N s0 [];simp only[ZA9,ZAi] at hel;generalize loopR N s0 []=L at*;obtain⟨ln,ls,le⟩:=L;unfold stR;simp only[ZAA] at hel t1⊢;cases ls with
     |none=>
      rw[ZAO (by simp)]
      rfl
     |some w=>
      simp only[ZAr,ZAK];by_cases hn0:ln=0
      ·subst hn0;simp only[show decide (((0:Nat):Int)>0)=false from rfl,ZAK];have hd:=t1.2 w rfl;have hq:(q==(((4::r:List UInt8).length:Nat):Int))=decide (w=[]):=by
        have hlen:w.length=(4::r:List UInt8).length-q.toNat:=by rw[<-hd,ZAt]
        have:=t1.1;by_cases hw:w=[]
        ·rw[ZAD hw,ZBN];have:w.length=0:=by rw[hw];rfl
         omega
        ·rw[ZAC hw,ZAk];intro hc;apply hw;apply ZAU;omega
       rw[hq];by_cases hw:w=[]
       ·subst hw;rw[ZAD rfl];simp only[ZAx,ZAK];rw[crZ (by show BS.length<_;omega) (by show le.length<_;omega)];have hc:((m1:Int),((m2:Int),((m3:Int),(((m4:Int),(m5:Int)),(m6,((m7:Int),(BS,(le,(m8,(m9:Int))))))))))=ofRdR ((m1,(m2,(m3,(m4,(m5,(m6,(m7,(m8,(m9,(BS,N)))))))))),s0) le:=rfl;rw[hc];cases hr:rightReply (ofRdR ((m1,(m2,(m3,(m4,(m5,(m6,(m7,(m8,(m9,(BS,N)))))))))),s0) le) with
        |false=>
         rw[ZAO (by simp)]
         rfl
        |true=>
         rw[ZAV ⟨h100,by first|rfl|trivial,by first|rfl|trivial,rfl⟩]
         rfl
       ·rw[ZAC hw,ZAO (by simp[hw])]
        rfl
      ·have:decide ((ln:Int)>0)=true:=ZAD (by omega);simp only[this];rw[ZAO (by intro hc;exact hn0 hc.2.1)]
       rfl
    ·have f1:=iVZ (l:=4::r) (n1:=m1) (n2:=m2) (n3:=m3) (n4:=m4) (n5:=m5) (d:=m6) (sz:=m7) (mo:=m8) (fr:=m9) (bs:=BS) (p:=p11) (s0:=s0) (show 100<N by omega) hm;have f1':cGetRep_l0_it fuel ((N:Int),(0,(0,(0,(0,(0,(false,(0,(false,(0,(4::r,(p11,(s0.isNone,((m1:Int),((m2:Int),((m3:Int),((m4:Int),((m5:Int),(m6,((m7:Int),(m8,((m9:Int),(BS,[])))))))))))))))))))))))=_:=f1;rw[f1'];unfold stR;simp only[ZAA];rw[ZAO (by intro hc;exact h100 hc.1)];have:decide ((N:Int)>0)=true:=ZAD (by omega);cases s0 with
     |none=>rfl
     |some w=>
      simp only[ZAr,ZAK,this]
      rfl
   ·simp only[ZAO hk]
    rfl
 ·rw[ZAO h0,ZAO h0];have:((((unsealed (P1.sum T) b).2:Nat):Int)==0)=false:=ZAk.2 (by omega);simp only[this]
  rfl
end Go.Ab.D
set_option maxRecDepth 100000
namespace Go.Ab.D
open Go Go.Ab Go.P1 Go.P21
attribute [local irreducible] Go.P1.crcT tabI
theorem lFZ(c:Go.P21.CallT)(r:ReplyT):∃h,law21_Huge fuel c r=some h/\(h=false->r.2.2.2.2.2.2.1.length<=5000/\r.2.2.2.2.2.2.2.1.length<=120):=by
 obtain⟨x1,x2,x3,⟨h1,h2⟩,d,sz,bs,es,mo,fr⟩:=r;unfold law21_Huge;simp only;have it:∀b0:Bool,es.length<=120->∃o,law21_Huge_l0_it fuel (b0,(x1,(x2,(x3,(h1,(h2,(d,(sz,(bs,(es,(mo,fr))))))))))) (0,(x1,(x2,(x3,(h1,(h2,(d,(sz,(bs,(es,(mo,fr)))))))))))=some o:=by
  intro b0 he;unfold law21_Huge_l0_it;have:=aHZ (f:=fun tt:Int×(Int×(Int×(Int×(Int×(Int×(Bool×(Int×(List UInt8×(List EntT×(Bool×Int))))))))))=>law21_Huge_l0 fuel (b0,(x1,(x2,(x3,(h1,(h2,(d,(sz,(bs,(es,(mo,fr))))))))))) tt.1 tt.2.1 tt.2.2.1 tt.2.2.2.1 tt.2.2.2.2.1 tt.2.2.2.2.2.1 tt.2.2.2.2.2.2.1 tt.2.2.2.2.2.2.2.1 tt.2.2.2.2.2.2.2.2.1 tt.2.2.2.2.2.2.2.2.2.1 tt.2.2.2.2.2.2.2.2.2.2.1 tt.2.2.2.2.2.2.2.2.2.2.2)
   (fun n s=>∃k:Nat,s=((k:Int),(x1,(x2,(x3,(h1,(h2,(d,(sz,(bs,(es,(mo,fr)))))))))))/\k+n=es.length)
   (fun _=>True)
   (fun n s ⟨k,hs,hk⟩=>by
    subst hs;have hk':k<es.length:=by omega
    show(∃s',law21_Huge_l0 fuel _ (k:Int) x1 x2 x3 h1 h2 d sz bs es mo fr=_/\_)\/∃o,law21_Huge_l0 fuel _ (k:Int) x1 x2 x3 h1 h2 d sz bs es mo fr=_/\_;unfold law21_Huge_l0;simp only;rw[ZAD (show(k:Int)<((es.length:Nat):Int) by omega),auZ hk',w64 (x:=(k:Int)+1) ⟨by omega,by omega⟩];simp only[ZAM,ZAA,ZAI hk'];by_cases q:((es[k].1.length:Nat):Int)>3000
    ·right;rw[ZAD q];exact⟨_,rfl,trivial⟩
    ·left;rw[ZAC q];exact⟨_,rfl,k+1,rfl,by omega⟩)
   (fun s ⟨k,hs,hk⟩=>by
    subst hs;have:k=es.length:=by omega
    subst this;refine⟨.inl (),?_,trivial⟩;show law21_Huge_l0 fuel _ ((es.length:Nat):Int) x1 x2 x3 h1 h2 d sz bs es mo fr=_;unfold law21_Huge_l0;simp only;rw[ZAC (by omega)]
    rfl)
   es.length (0,(x1,(x2,(x3,(h1,(h2,(d,(sz,(bs,(es,(mo,fr))))))))))) (by omega) ⟨0,rfl,by omega⟩
  obtain⟨o,e1,_⟩:=this;exact⟨o,e1⟩
 have rest:∀b0:Bool,(b0=false->bs.length<=5000/\es.length<=120)->∃h,(bif b0 then some true else(law21_Huge_l0_it fuel (b0,(x1,(x2,(x3,(h1,(h2,(d,(sz,(bs,(es,(mo,fr))))))))))) (0,(x1,(x2,(x3,(h1,(h2,(d,(sz,(bs,(es,(mo,fr)))))))))))).bind fun o1=>
  match o1 with
  |.inl s=>some false
  |.inr o2=>some o2)=some h/\(h=false->bs.length<=5000/\es.length<=120):=by
  intro b0 hb0;cases b0 with
  |true=>exact⟨true,rfl,fun h=>by cases h⟩
  |false=>
   obtain⟨o,ho⟩:=it false (hb0 rfl).2;rw[ho];cases o with
   |inl _=>exact⟨false,rfl,fun _=>hb0 rfl⟩
   |inr b=>exact⟨b,rfl,fun _=>hb0 rfl⟩
 by_cases q1:((c.2.2.2.2.1.length:Nat):Int)>3000
 ·rw[ZAD q1];exact rest true (fun h=>by cases h)
 ·by_cases q2:((c.2.2.2.2.2.2.1.length:Nat):Int)>3000
  ·rw[ZAC q1,ZAD q2];exact rest true (fun h=>by cases h)
  ·by_cases q3:((c.2.2.2.2.2.2.2.2.2.length:Nat):Int)>5000
   ·rw[ZAC q1,ZAC q2,ZAD q3];exact rest true (fun h=>by cases h)
   ·by_cases q4:((bs.length:Nat):Int)>5000
    ·rw[ZAC q1,ZAC q2,ZAC q3,ZAD q4];exact rest true (fun h=>by cases h)
    ·rw[ZAC q1,ZAC q2,ZAC q3,ZAC q4];exact rest _ (fun h=>by have:=of_decide_eq_false h;exact⟨by omega,by omega⟩)
theorem j5Z(T:List Nat)(l:List UInt8):getReply T (sealed (P1.sum T) l)=match bodyR l with|some c=>(c,0)|none=>(zR,179):=by
 unfold getReply;rw[c3Z]
 rfl
theorem mBZ{c:Go.P21.CallT}(h:rightCall c=true):bodyC (3::callB c)=some c:=by
 show(if(3:UInt8)=3 then callOf (callB c) else none)=_;rw[ZAV rfl];exact kJZ.2 ⟨h,rfl⟩
theorem mGZ{r:ReplyT}(h:rightReply r=true):bodyR (4::replyB r)=some r:=by
 show(if(4:UInt8)=4 then replyOf (replyB r) else none)=_;rw[ZAV rfl];exact jnZ.2 ⟨h,rfl⟩
theorem goZ(S:List UInt8->Nat)(l:List UInt8):(sealed S l).length=l.length+4:=by unfold sealed;rw[ZAJ,oUZ]
end Go.Ab.D
set_option maxRecDepth 100000
set_option maxHeartbeats 4000000
namespace Go.P26
open Go.P1 Go.P21
abbrev B8:=List UInt8
abbrev Rd:=Nat->Option B8->Option B8
def rN:Rd:=fun _ s=>(pN s).2
def rB(most:Nat):Rd:=fun _ s=>(pB most s).2
def sq(f g:Rd):Rd:=fun N s=>g N (f N s)
def rep(f:Option B8->Option B8):Nat->Option B8->Option B8
 |0,s=>s
 |_+1,none=>none
 |n+1,some r=>rep f n (f (some r))
def rL(f:Rd):Rd:=fun N s=>match(pN s).2 with
 |none=>none
 |some r=>if(pN s).1>N then none else rep (f N) (pN s).1 (some r)
def rG(most:Nat)(G:B8->Bool):Rd:=fun _ s=>match(pB most s).2 with
 |none=>none
 |some r=>if G (pB most s).1 then some r else none
def St(f:Rd):Prop:=∀N,f N none=none
def Ex(f:Rd):Prop:=∀N M l r e,N<=M->f N (some l)=some r->f M (some (l++e))=some (r++e)
def Pt(f:Rd)(w:B8):Prop:=∀N r,w.length<=N->f N (some (w++r))=some r
theorem chZ(f:Option B8->Option B8):∀n,rep f n none=none
 |0=>rfl
 |_+1=>rfl
theorem St.sq{f g:Rd}(hf:St f)(hg:St g):St (sq f g):=fun N=>by show g N (f N none)=none;rw[hf,hg]
theorem Ex.sq{f g:Rd}(hf:Ex f)(hg:Ex g)(sg:St g):Ex (sq f g):=fun N M l r e h k=>by
 show g M (f M _)=_;have k':g N (f N (some l))=some r:=k;cases hx:f N (some l) with
 |none=>rw[hx,sg] at k';cases k'
 |some x=>rw[hx] at k';rw[hf N M l x e h hx];exact hg N M x r e h k'
theorem Pt.sq{f g:Rd}{v w:B8}(hf:Pt f v)(hg:Pt g w):Pt (sq f g) (v++w):=fun N r h=>by
 show g N (f N _)=_;rw[List.length_append] at h;rw[List.append_assoc,hf N _ (by omega),hg N _ (by omega)]
theorem stN:St rN:=fun _=>rfl
theorem exN:Ex rN:=fun N M l r e _ k=>by
 have h:=aMZ (s:=some l) (r:=r) k;have hl:l=varint (pN (some l)).1++r:=Option.some.inj h.1;show(pN (some (l++e))).2=_;have e1:l++e=varint (pN (some l)).1++(r++e):=by
  conv=>lhs;rw[hl]
  rw[List.append_assoc]
 rw[e1,iQZ h.2]
theorem ptN{n:Int}(h0:0<=n)(h:n<=4611686018427387904):Pt rN (vi n):=fun N r _=>by
 show(pN _).2=_;rw[bAZ h0 h]
theorem valN{l r e:B8}(k:(pN (some l)).2=some r):(pN (some (l++e))).1=(pN (some l)).1:=by
 have h:=aMZ (s:=some l) (r:=r) k;have hl:l=varint (pN (some l)).1++r:=Option.some.inj h.1;have e1:l++e=varint (pN (some l)).1++(r++e):=by
  conv=>lhs;rw[hl]
  rw[List.append_assoc]
 rw[e1,iQZ h.2]
theorem stB(m:Nat):St (rB m):=fun _=>rfl
theorem pHZ{m:Nat}(hm:m<18446744073709551616){l r e:B8}(k:(pB m (some l)).2=some r):pB m (some (l++e))=((pB m (some l)).1,some (r++e)):=by
 have h:=eqZ hm (s:=some l) (r:=r) k;have hl:l=blobB (pB m (some l)).1++r:=Option.some.inj h.1;have e1:l++e=blobB (pB m (some l)).1++(r++e):=by
  conv=>lhs;rw[hl]
  rw[List.append_assoc]
 rw[e1,idZ hm h.2]
theorem exB{m:Nat}(hm:m<18446744073709551616):Ex (rB m):=fun N M l r e _ k=>by
 show(pB m _).2=_;rw[pHZ hm k]
theorem ptB{m:Nat}(hm:m<18446744073709551616){w:B8}(h:w.length<=m):Pt (rB m) (blobB w):=fun N r _=>by
 show(pB m _).2=_;rw[idZ hm h]
theorem stG(m:Nat)(G:B8->Bool):St (rG m G):=fun _=>rfl
theorem exG{m:Nat}(hm:m<18446744073709551616)(G:B8->Bool):Ex (rG m G):=fun N M l r e _ k=>by
 unfold rG at k⊢;cases hx:(pB m (some l)).2 with
 |none=>rw[hx] at k;cases k
 |some x=>
  rw[hx] at k;rw[pHZ hm hx];simp only at k⊢;cases hG:G (pB m (some l)).1 with
  |false=>rw[hG] at k;cases k
  |true=>rw[hG] at k;rw[if_pos rfl] at k⊢;rw[Option.some.inj k]
theorem ptG{m:Nat}(hm:m<18446744073709551616){G:B8->Bool}{w:B8}(h:w.length<=m)(hG:G w=true):Pt (rG m G) (blobB w):=fun N r _=>by
 unfold rG;rw[idZ hm h];simp only[hG]
 rfl
theorem owZ{f:Rd}(hf:Ex f)(sf:St f){N M:Nat}(h:N<=M)(e:B8):∀(n:Nat) (l r:B8),rep (f N) n (some l)=some r->rep (f M) n (some (l++e))=some (r++e)
 |0,l,r,k=>by cases k;rfl
 |n+1,l,r,k=>by
  have k':rep (f N) n (f N (some l))=some r:=k;show rep (f M) n (f M _)=_;cases hx:f N (some l) with
  |none=>rw[hx,chZ] at k';cases k'
  |some x=>rw[hx] at k';rw[hf N M l x e h hx];exact owZ hf sf h e n x r k'
theorem stL(f:Rd):St (rL f):=fun _=>rfl
theorem exL{f:Rd}(hf:Ex f)(sf:St f):Ex (rL f):=fun N M l r e h k=>by
 unfold rL at k⊢;cases hx:(pN (some l)).2 with
 |none=>rw[hx] at k;cases k
 |some x=>
  rw[hx] at k;have h2:(pN (some (l++e))).2=some (x++e):=exN N M l x e h hx;rw[h2,valN hx];simp only at k⊢;by_cases hn:(pN (some l)).1>N
  ·rw[if_pos hn] at k;cases k
  ·rw[if_neg hn] at k;rw[if_neg (by omega)];exact owZ hf sf h e _ x r k
theorem pNZ{α:Type}{f:Rd}{w:α->B8}{N:Nat}(r:B8):∀(L:List α),(∀x∈L,Pt f (w x))->(L.flatMap w).length<=N->rep (f N) L.length (some (L.flatMap w++r))=some r
 |[],_,_=>rfl
 |x::L,h,hN=>by
  rw[List.flatMap_cons,List.length_append] at hN;show rep (f N) L.length (f N (some ((x::L).flatMap w++r)))=_;rw[List.flatMap_cons,List.append_assoc,h x List.mem_cons_self N _ (by omega)];exact pNZ r L (fun y hy=>h y (List.mem_cons_of_mem _ hy)) (by omega)
theorem kpZ{α:Type}{w:α->B8}:∀(L:List α),(∀x∈L,0<(w x).length)->L.length<=(L.flatMap w).length
 |[],_=>Nat.zero_le _
 |x::L,h=>by
  have:=kpZ L fun y hy=>h y (List.mem_cons_of_mem _ hy);have:=h x List.mem_cons_self;rw[List.flatMap_cons,List.length_append,List.length_cons];omega
theorem ptL{α:Type}{f:Rd}{w:α->B8}(L:List α)(hL:L.length<=4611686018427387904)(h:∀x∈L,Pt f (w x))(h0:∀x∈L,0<(w x).length):Pt (rL f) (varint L.length++L.flatMap w):=fun N r hN=>by
 have hf:=kpZ L h0;rw[List.length_append] at hN;unfold rL;rw[List.append_assoc,iQZ (by unfold M62;omega)];simp only;rw[if_neg (by omega)];exact pNZ r L h (by omega)
theorem cut{f:Rd}(hf:Ex f){w:B8}(h:Pt f w){k:Nat}(hk:k<w.length):f k (some (w.take k))≠some []:=fun hc=>by
 have:=hf k w.length (w.take k) [] (w.drop k) (by omega) hc;rw[List.take_append_drop] at this;have h2:=h w.length [] (Nat.le_refl _);rw[List.append_nil,this] at h2;have h3:w.drop k=[]:=Option.some.inj h2;have:=congrArg List.length h3;rw[List.length_drop] at this;simp at this;omega
theorem more{f:Rd}{w:B8}(h:Pt f w)(c:UInt8):f (w.length+1) (some (w++[c]))≠some []:=by
 rw[h (w.length+1) [c] (by omega)];simp
end Go.P26
set_option maxRecDepth 100000
set_option maxHeartbeats 4000000
namespace Go.Ab.D
open Go Go.Ab Go.P1 Go.P21 Go.P26
attribute [local irreducible] Go.P1.crcT tabI
theorem a4Z(T:List Int){l:List UInt8}(hb:l.length<4611686018427387904){p:Int}{s:Option (List UInt8)}(h:At l p s):
 ∃p',sreanum fuel T l p s.isNone=some (((pN s).1:Int),(T,(l,(p',(pN s).2.isNone))))/\At l p' (pN s).2:=by
 obtain⟨h0,hr⟩:=h;cases s with
 |none=>exact⟨p,rfl,h0,fun r hr=>by cases hr⟩
 |some r=>
  obtain⟨k,rfl⟩:∃k:Nat,p=k:=⟨p.toNat,by omega⟩;have hk:k<=l.length:=by omega
  have hd:l.drop k=r:=hr r rfl;rw[cUZ];unfold sreanum;rw[bVZ hb];simp only[ZAr,ZAK,ZAA];cases hp:pNum M62 r with
  |some x=>
   obtain⟨n,r'⟩:=x;rw[<-hd] at hp;obtain⟨g1,g2,g3,g4,g5⟩:=blZ hk hp;unfold M62 at g2;refine⟨((l.length-r'.length:Nat):Int),?_,⟨by omega,by omega⟩,fun q hq=> ?_⟩
   ·rw[g1];have:decide ((n:Int)>4611686018427387904)=false:=ZAC (by omega);simp only[this];rw[w64 ⟨by omega,by omega⟩]
    rfl
   ·cases hq;exact g4
  |none=>
   rw[<-hd] at hp;have g:=bFZ hk hp;unfold M62 at g;refine⟨(k:Int),?_,h0,fun q hq=>by cases hq⟩;by_cases he:(getUint l k).2.2=0
   ·rw[he];have:decide (((getUint l k).1:Int)>4611686018427387904)=true:=ZAD (by rcases g with g|g<;>omega);simp only[this]
    rfl
   ·rw[ZAk.2 (show(((getUint l k).2.2:Nat):Int)≠0 by omega)]
    rfl
theorem edZ(T:List Int){l:List UInt8}(hb:l.length<=140737488355328){most:Nat}(hm:most<=100000000){p:Int}{s:Option (List UInt8)}(h:At l p s):
 ∃p',sreablo fuel (most:Int) T l p s.isNone=some (T,(l,(p',((pB most s).2.isNone,(pB most s).1))))/\At l p' (pB most s).2:=by
 obtain⟨h0,hr⟩:=h;cases s with
 |none=>exact⟨p,rfl,h0,fun r hr=>by cases hr⟩
 |some r=>
  obtain⟨k,rfl⟩:∃k:Nat,p=k:=⟨p.toNat,by omega⟩;have hk:k<=l.length:=by omega
  have hd:l.drop k=r:=hr r rfl;rw[fpZ];unfold sreablo;rw[gaZ hb (by omega)];simp only[ZAr,ZAK,ZAA];cases hp:pBlob most r with
  |some x=>
   obtain⟨b,r'⟩:=x;rw[<-hd] at hp;obtain⟨g1,g2,g3,g4⟩:=dGZ hk hp;refine⟨((l.length-r'.length:Nat):Int),?_,⟨by omega,by omega⟩,fun q hq=> ?_⟩
   ·rw[g1];rfl
   ·cases hq;exact g2
  |none=>
   rw[<-hd] at hp;obtain⟨g1,g2,g3⟩:=dRZ hk hp;refine⟨(k:Int),?_,h0,fun q hq=>by cases hq⟩;rw[ZAk.2 (show(((getBlob l k most).2.2:Nat):Int)≠0 by omega)]
   rfl
theorem p5Z(T:List Int){l:List UInt8}(hb:l.length<4611686018427387904){p:Int}{s:Option (List UInt8)}(h:At l p s)(h4 h5:Int):
 ∃p',sreanumo18 fuel T l p s.isNone h4 h5=some (T,(l,(p',((sq rN rN l.length s).isNone,(((pN s).1:Int),((pN (pN s).2).1:Int))))))/\At l p' (sq rN rN l.length s):=by
 obtain⟨p1,e1,a1⟩:=a4Z T hb h;obtain⟨p2,e2,a2⟩:=a4Z T hb a1;refine⟨p2,?_,a2⟩;unfold sreanumo18;rw[e1,ZAA];dsimp only;rw[e2]
 rfl
theorem oHZ(T:List Int){l:List UInt8}(hb:l.length<4611686018427387904){p:Int}{s:Option (List UInt8)}(h:At l p s)(h4 h5:Int):
 ∃p' x y,sreapar1 fuel h4 h5 T l p s.isNone=some (x,(y,(T,(l,(p',(sq rN rN l.length s).isNone)))))/\At l p' (sq rN rN l.length s):=by
 obtain⟨p1,e1,a1⟩:=p5Z T hb h h4 h5;refine⟨p1,((pN s).1:Int),((pN (pN s).2).1:Int),?_,a1⟩;unfold sreapar1;rw[e1]
 rfl
theorem kWZ{f:Go.P26.Rd}{N:Nat}{s:Option (List UInt8)}{r:List UInt8}(h:(pN s).2=some r):rL f N s=if(pN s).1>N then none else rep (f N) (pN s).1 (some r):=by
 unfold rL;rw[h]
theorem k7Z{f:Go.P26.Rd}{N:Nat}{s:Option (List UInt8)}(h:(pN s).2=none):rL f N s=none:=by
 unfold rL;rw[h]
theorem aQZ{a b:Nat}(h:a<=100000000)(hb:b<=1000):(Nat.ble ((a+1)*b) room&&Nat.ble (a+1) room)=true:=by
 have:(a+1)*b<=100000001*1000:=Nat.mul_le_mul (by omega) hb;rw[aEZ (show(a+1)*b<=room by unfold room;omega),aEZ (show a+1<=room by unfold room;omega)]
 rfl
theorem f3Z(T:List Int){l:List UInt8}(hb:l.length<=100000000)(n:Nat)(hn:n<=l.length){p:Int}{s:Option (List UInt8)}(h:At l p s):
 ∃o,slisapiPa_l0_it fuel ((n:Int),(T,(l,(p,(s.isNone,[])))))=some o/\∃p' x,o=(T,(l,(p',((rep (sq rN rN l.length) n s).isNone,x))))/\At l p' (rep (sq rN rN l.length) n s):=by
 delta slisapiPa_l0_it
 refine aHZ (fun k (st:Int×(List Int×(List UInt8×(Int×(Bool×List (Int×Int))))))=>∃s' p' x,st=((k:Int),(T,(l,(p',(s'.isNone,x)))))/\At l p' s'/\x.length+k<=100000000/\rep (sq rN rN l.length) k s'=rep (sq rN rN l.length) n s) _ ?_ ?_ n _ (by omega) ⟨s,p,[],rfl,h,by simp;omega,rfl⟩
 ·rintro k _ ⟨s',p',x,rfl,ha,hx,hr⟩;dsimp only
  delta slisapiPa_l0
  rw[ZAD (show((k+1:Nat):Int)>0 by omega)];cases s' with
  |none=>
   refine .inr ⟨_,rfl,p',x,?_⟩;rw[<-hr,chZ];exact⟨rfl,ha⟩
  |some r=>
   refine .inl ?_;obtain⟨p1,y,z,e1,a1⟩:=oHZ T (by omega) ha 0 0;refine⟨_,?_,(sq rN rN l.length (some r)),p1,x++[(y,z)],rfl,a1,by rw[ZAJ];simp;omega,hr⟩;refine(congrArg (fun o=>Option.bind o _) e1).trans ?_;refine(alZ (aQZ (a:=x.length) (b:=16) (by omega) (by omega))).trans ?_;rw[w64 (by omega)];refine congrArg (fun i:Int=>some (Sum.inl (i,_))) ?_;omega
 ·rintro _ ⟨s',p',x,rfl,ha,hx,hr⟩;refine⟨_,rfl,p',x,?_⟩;have:s'=rep (sq rN rN l.length) n s:=hr;rw[<-this];exact⟨rfl,ha⟩
theorem eSZ(T:List Int){l:List UInt8}(hb:l.length<=100000000){p:Int}{s:Option (List UInt8)}(h:At l p s):
 ∃p' x,slisapiPa fuel T l p s.isNone=some (T,(l,(p',((rL (sq rN rN) l.length s).isNone,x))))/\At l p' (rL (sq rN rN) l.length s):=by
 obtain⟨p1,e1,a1⟩:=a4Z T (by omega) h
 delta slisapiPa
 rw[e1,ZAA];dsimp only;cases hs:(pN s).2 with
 |none=>
  have hz:(pN s).1=0:=by
   cases s with
   |none=>rfl
   |some q=>
    rw[cUZ] at hs⊢;cases hq:pNum M62 q with
    |some y=>rw[hq] at hs;cases hs
    |none=>rfl
  rw[hs] at a1;rw[hz,k7Z hs,ZAC (show¬((0:Nat):Int)>(l.length:Int) by omega)];obtain⟨o,e,p',x,ho,ha⟩:=f3Z T hb 0 (by omega) a1;refine⟨p',x,?_,ha⟩;rw[ho] at e;exact(congrArg (fun o=>Option.bind o _) e).trans rfl
 |some r=>
  rw[kWZ hs];rw[hs] at a1;by_cases hn:(pN s).1>l.length
  ·rw[ZAV hn,ZAD (show(((pN s).1:Nat):Int)>(l.length:Int) by omega)];refine⟨p1,[],?_,a1.1,fun r hr=>by cases hr⟩;have e:slisapiPa_l0_it fuel (((pN s).1:Int),(T,(l,(p1,(true,[])))))=some (T,(l,(p1,(true,[])))):=by
    delta slisapiPa_l0_it
    refine aDZ ?_;dsimp only
    delta slisapiPa_l0
    rw[ZAD (show(((pN s).1:Nat):Int)>0 by omega)]
    rfl
   exact(congrArg (fun o=>Option.bind o _) e).trans rfl
  ·rw[ZAO hn,ZAC (show¬(((pN s).1:Nat):Int)>(l.length:Int) by omega)];obtain⟨o,e,p',x,ho,ha⟩:=f3Z T hb (pN s).1 (by omega) a1;refine⟨p',x,?_,ha⟩;rw[ho] at e;exact(congrArg (fun o=>Option.bind o _) e).trans rfl
end Go.Ab.D
set_option maxRecDepth 100000
set_option maxHeartbeats 4000000
namespace Go.Ab.D
open Go Go.Ab Go.P1 Go.P21 Go.P26
attribute [local irreducible] Go.P1.crcT tabI
theorem numZ{s:Option (List UInt8)}(hs:(pN s).2=none):(pN s).1=0:=by
 cases s with
 |none=>rfl
 |some q=>
  rw[cUZ] at hs⊢;cases hq:pNum M62 q with
  |some y=>rw[hq] at hs;cases hs
  |none=>rfl
def rE:Go.P26.Rd:=sq (rB 100) rN
theorem p2Z(T:List Int){l:List UInt8}(hb:l.length<=100000000){p:Int}{s:Option (List UInt8)}(h:At l p s):
 ∃p' x y,sreaino11 fuel [] 0 T l p s.isNone=some (x,(y,(T,(l,(p',(rE l.length s).isNone)))))/\At l p' (rE l.length s):=by
 obtain⟨p1,e1,a1⟩:=edZ T (by omega) (most:=100) (by omega) h;obtain⟨p2,e2,a2⟩:=a4Z T (by omega) a1;refine⟨p2,(pB 100 s).1,((pN (pB 100 s).2).1:Int),?_,a2⟩
 delta sreaino11 sreanumo16
 refine(congrArg (fun o=>Option.bind o _) e1).trans ?_;rw[ZAA];dsimp only;rw[e2]
 rfl
theorem gzZ(T:List Int){l:List UInt8}(hb:l.length<=100000000)(n:Nat)(hn:n<=l.length){p:Int}{s:Option (List UInt8)}(h:At l p s):
 ∃o,slisapiEn_l0_it fuel ((n:Int),(T,(l,(p,(s.isNone,[])))))=some o/\∃p' x,o=(T,(l,(p',((rep (rE l.length) n s).isNone,x))))/\At l p' (rep (rE l.length) n s):=by
 delta slisapiEn_l0_it
 refine aHZ (fun k (st:Int×(List Int×(List UInt8×(Int×(Bool×(List (List UInt8×Int)))))))=>∃s' p' x,st=((k:Int),(T,(l,(p',(s'.isNone,x)))))/\At l p' s'/\x.length+k<=100000000/\rep (rE l.length) k s'=rep (rE l.length) n s) _ ?_ ?_ n _ (by omega) ⟨s,p,[],rfl,h,by simp;omega,rfl⟩
 ·rintro k _ ⟨s',p',x,rfl,ha,hx,hr⟩;dsimp only
  delta slisapiEn_l0
  rw[ZAD (show((k+1:Nat):Int)>0 by omega)];cases s' with
  |none=>
   refine .inr ⟨_,rfl,p',x,?_⟩;rw[<-hr,chZ];exact⟨rfl,ha⟩
  |some r=>
   refine .inl ?_;obtain⟨p1,y,z,e1,a1⟩:=p2Z T (by omega) ha;refine⟨_,?_,(rE l.length (some r)),p1,x++[(y,z)],rfl,a1,by rw[ZAJ];simp;omega,hr⟩;refine(congrArg (fun o=>Option.bind o _) e1).trans ?_;refine(alZ (aQZ (a:=x.length) (b:=24) (by omega) (by omega))).trans ?_;rw[w64 (x:=((k+1:Nat):Int)-1) (by omega)];refine congrArg (fun i:Int=>some (Sum.inl (i,_))) ?_;omega
 ·rintro _ ⟨s',p',x,rfl,ha,hx,hr⟩;refine⟨_,rfl,p',x,?_⟩;have:s'=rep (rE l.length) n s:=hr;rw[<-this];exact⟨rfl,ha⟩
theorem lgZ(T:List Int){l:List UInt8}(hb:l.length<=100000000){p:Int}{s:Option (List UInt8)}(h:At l p s):
 ∃p' x,slisapiEn fuel T l p s.isNone=some (T,(l,(p',((rL rE l.length s).isNone,x))))/\At l p' (rL rE l.length s):=by
 obtain⟨p1,e1,a1⟩:=a4Z T (by omega) h
 delta slisapiEn
 rw[e1,ZAA];dsimp only;cases hs:(pN s).2 with
 |none=>
  rw[hs] at a1;rw[numZ hs,k7Z hs,ZAC (show¬((0:Nat):Int)>(l.length:Int) by omega)];obtain⟨o,e2,p',x,ho,ha⟩:=gzZ T hb 0 (by omega) a1;refine⟨p',x,?_,ha⟩;rw[ho] at e2;exact(congrArg (fun o=>Option.bind o _) e2).trans rfl
 |some r=>
  rw[kWZ hs];rw[hs] at a1;by_cases hn:(pN s).1>l.length
  ·rw[ZAV hn,ZAD (show(((pN s).1:Nat):Int)>(l.length:Int) by omega)];refine⟨p1,[],?_,a1.1,fun r hr=>by cases hr⟩;have e2:slisapiEn_l0_it fuel (((pN s).1:Int),(T,(l,(p1,(true,[])))))=some (T,(l,(p1,(true,[])))):=by
    delta slisapiEn_l0_it
    refine aDZ ?_;dsimp only
    delta slisapiEn_l0
    rw[ZAD (show(((pN s).1:Nat):Int)>0 by omega)]
    rfl
   exact(congrArg (fun o=>Option.bind o _) e2).trans rfl
  ·rw[ZAO hn,ZAC (show¬(((pN s).1:Nat):Int)>(l.length:Int) by omega)];obtain⟨o,e2,p',x,ho,ha⟩:=gzZ T hb (pN s).1 (by omega) a1;refine⟨p',x,?_,ha⟩;rw[ho] at e2;exact(congrArg (fun o=>Option.bind o _) e2).trans rfl
theorem pxZ(T:List Int){l:List UInt8}(hb:l.length<=100000000){p:Int}{s:Option (List UInt8)}(h:At l p s):
 ∃p' x,sGetCha1 fuel 0 T l p s.isNone=some (x,(T,(l,(p',(rN l.length s).isNone))))/\At l p' (rN l.length s):=by
 obtain⟨p2,e2,a2⟩:=a4Z T (by omega) h;refine⟨p2,((pN s).1:Int),?_,a2⟩
 delta sGetCha1 sreanumo17
 rw[e2]
 rfl
theorem giZ(T:List Int){l:List UInt8}(hb:l.length<=100000000)(n:Nat)(hn:n<=l.length){p:Int}{s:Option (List UInt8)}(h:At l p s):
 ∃o,slisintf1_l0_it fuel ((n:Int),(T,(l,(p,(s.isNone,[])))))=some o/\∃p' x,o=(T,(l,(p',((rep (rN l.length) n s).isNone,x))))/\At l p' (rep (rN l.length) n s):=by
 delta slisintf1_l0_it
 refine aHZ (fun k (st:Int×(List Int×(List UInt8×(Int×(Bool×(List (Int)))))))=>∃s' p' x,st=((k:Int),(T,(l,(p',(s'.isNone,x)))))/\At l p' s'/\x.length+k<=100000000/\rep (rN l.length) k s'=rep (rN l.length) n s) _ ?_ ?_ n _ (by omega) ⟨s,p,[],rfl,h,by simp;omega,rfl⟩
 ·rintro k _ ⟨s',p',x,rfl,ha,hx,hr⟩;dsimp only
  delta slisintf1_l0
  rw[ZAD (show((k+1:Nat):Int)>0 by omega)];cases s' with
  |none=>
   refine .inr ⟨_,rfl,p',x,?_⟩;rw[<-hr,chZ];exact⟨rfl,ha⟩
  |some r=>
   refine .inl ?_;obtain⟨p1,y,e1,a1⟩:=pxZ T (by omega) ha;refine⟨_,?_,(rN l.length (some r)),p1,x++[y],rfl,a1,by rw[ZAJ];simp;omega,hr⟩;refine(congrArg (fun o=>Option.bind o _) e1).trans ?_;refine(alZ (aQZ (a:=x.length) (b:=8) (by omega) (by omega))).trans ?_;rw[w64 (x:=((k+1:Nat):Int)-1) (by omega)];refine congrArg (fun i:Int=>some (Sum.inl (i,_))) ?_;omega
 ·rintro _ ⟨s',p',x,rfl,ha,hx,hr⟩;refine⟨_,rfl,p',x,?_⟩;have:s'=rep (rN l.length) n s:=hr;rw[<-this];exact⟨rfl,ha⟩
theorem laZ(T:List Int){l:List UInt8}(hb:l.length<=100000000){p:Int}{s:Option (List UInt8)}(h:At l p s):
 ∃p' x,slisintf1 fuel T l p s.isNone=some (T,(l,(p',((rL rN l.length s).isNone,x))))/\At l p' (rL rN l.length s):=by
 obtain⟨p1,e1,a1⟩:=a4Z T (by omega) h
 delta slisintf1
 rw[e1,ZAA];dsimp only;cases hs:(pN s).2 with
 |none=>
  rw[hs] at a1;rw[numZ hs,k7Z hs,ZAC (show¬((0:Nat):Int)>(l.length:Int) by omega)];obtain⟨o,e2,p',x,ho,ha⟩:=giZ T hb 0 (by omega) a1;refine⟨p',x,?_,ha⟩;rw[ho] at e2;exact(congrArg (fun o=>Option.bind o _) e2).trans rfl
 |some r=>
  rw[kWZ hs];rw[hs] at a1;by_cases hn:(pN s).1>l.length
  ·rw[ZAV hn,ZAD (show(((pN s).1:Nat):Int)>(l.length:Int) by omega)];refine⟨p1,[],?_,a1.1,fun r hr=>by cases hr⟩;have e2:slisintf1_l0_it fuel (((pN s).1:Int),(T,(l,(p1,(true,[])))))=some (T,(l,(p1,(true,[])))):=by
    delta slisintf1_l0_it
    refine aDZ ?_;dsimp only
    delta slisintf1_l0
    rw[ZAD (show(((pN s).1:Nat):Int)>0 by omega)]
    rfl
   exact(congrArg (fun o=>Option.bind o _) e2).trans rfl
  ·rw[ZAO hn,ZAC (show¬(((pN s).1:Nat):Int)>(l.length:Int) by omega)];obtain⟨o,e2,p',x,ho,ha⟩:=giZ T hb (pN s).1 (by omega) a1;refine⟨p',x,?_,ha⟩;rw[ho] at e2;exact(congrArg (fun o=>Option.bind o _) e2).trans rfl
def rH:Go.P26.Rd:=fun _ s=>match(pN (pN (pN (pN s).2).2).2).2 with
 |none=>none
 |some r=>if(pN (pN s).2).1>2 then none else some r
def rP:Go.P26.Rd:=sq rN rN
def rI:Go.P26.Rd:=sq rH (sq (rL rP) (rL rE))
theorem p7Z(T:List Int){l:List UInt8}(hb:l.length<=100000000){p:Int}{s:Option (List UInt8)}(h:At l p s)(id:Int):
 ∃p' x1 x2 x3 x4 x5 x6 x7 y z,sreaino1 fuel 0 0 false false 0 0 id T l p s.isNone=some (x1,(x2,(x3,(x4,(x5,(x6,(x7,(T,(l,(p',((rI l.length s).isNone,(y,z))))))))))))/\At l p' (rI l.length s):=by
 obtain⟨p1,e1,a1⟩:=a4Z T (by omega) h;obtain⟨p2,e2,a2⟩:=a4Z T (by omega) a1;obtain⟨p3,e3,a3⟩:=a4Z T (by omega) a2;obtain⟨p4,e4,a4⟩:=a4Z T (by omega) a3;have key:∃g z q,sreanumo14 fuel T l p s.isNone (IntKind.wrap .i64 (id+1)) 0 false false 0 0 0=some (T,(l,(p4,((pN (pN (pN (pN s).2).2).2).2.isNone,(IntKind.wrap .i64 (id+1),(g,(false,(false,(z,(q,((pN (pN s).2).1:Int))))))))))):=by
  refine⟨((pN s).1:Int),((pN (pN (pN s).2).2).1:Int),((pN (pN (pN (pN s).2).2).2).1:Int),?_⟩
  delta sreanumo14
  rw[e1,ZAA];dsimp only;rw[e2,ZAA];dsimp only;rw[e3,ZAA];dsimp only;rw[e4]
  rfl
 obtain⟨g,z,q,ek⟩:=key;have ah:At l p4 (rH l.length s):=by
  refine⟨a4.1,fun r hr=> ?_⟩;unfold rH at hr;cases hx:(pN (pN (pN (pN s).2).2).2).2 with
  |none=>rw[hx] at hr;cases hr
  |some y=>
   rw[hx] at hr a4;simp only at hr;by_cases hk:(pN (pN s).2).1>2
   ·rw[ZAV hk] at hr;cases hr
   ·rw[ZAO hk] at hr;exact a4.2 r hr
 have eh:(bif (pN (pN (pN (pN s).2).2).2).2.isNone then true else decide (((pN (pN s).2).1:Int)>2))=(rH l.length s).isNone:=by
  unfold rH;cases(pN (pN (pN (pN s).2).2).2).2 with
  |none=>rfl
  |some y=>
   simp only;by_cases hk:(pN (pN s).2).1>2
   ·rw[ZAV hk,ZAD (by omega)];rfl
   ·rw[ZAO hk,ZAC (by omega)];rfl
 obtain⟨p5,y,e5,a5⟩:=eSZ T hb ah;obtain⟨p6,z2,e6,a6⟩:=lgZ T hb a5;refine⟨p6,IntKind.wrap .i64 (id+1),g,decide (((pN (pN s).2).1:Int)>0),(((pN (pN s).2).1:Int)==2),z,q,IntKind.wrap .i64 (id+1),y,z2,?_,a6⟩
 delta sreaino1
 refine(congrArg (fun o=>Option.bind o _) ek).trans ?_;rw[ZAA];dsimp only;have e5':sreapar fuel T l p4 (rH l.length s).isNone=some (T,(l,(p5,((rL rP l.length (rH l.length s)).isNone,y)))):=by
  delta sreapar
  exact(congrArg (fun o=>Option.bind o _) e5).trans rfl
 cases hb4:(pN (pN (pN (pN s).2).2).2).2.isNone with
 |true=>
  rw[hb4,ZAM] at eh;rw[<-eh] at e5';rw[ZAM,ZAA];dsimp only;refine(congrArg (fun o=>Option.bind o _) e5').trans ?_;exact(congrArg (fun o=>Option.bind o _) e6).trans rfl
 |false=>
  rw[hb4,ZAK] at eh;rw[<-eh] at e5';rw[ZAK,ZAA];dsimp only;refine(congrArg (fun o=>Option.bind o _) e5').trans ?_;exact(congrArg (fun o=>Option.bind o _) e6).trans rfl
theorem gkZ(T:List Int){l:List UInt8}(hb:l.length<=100000000)(n:Nat)(hn:n<=l.length){p:Int}{s:Option (List UInt8)}(h:At l p s)(e0:Int):
 ∃o,slisapiIn_l0_it fuel ((n:Int),(T,(l,(p,(s.isNone,(e0,[]))))))=some o/\∃p' e x,o=(T,(l,(p',((rep (rI l.length) n s).isNone,(e,x)))))/\At l p' (rep (rI l.length) n s):=by
 delta slisapiIn_l0_it
 refine aHZ (fun k (st:Int×(List Int×(List UInt8×(Int×(Bool×(Int×List (Int×(Int×(Bool×(Bool×(Int×(List (Int×Int)×(Int×List (List UInt8×Int))))))))))))))=>∃s' p' e x,st=((k:Int),(T,(l,(p',(s'.isNone,(e,x))))))/\At l p' s'/\x.length+k<=100000000/\rep (rI l.length) k s'=rep (rI l.length) n s) _ ?_ ?_ n _ (by omega) ⟨s,p,e0,[],rfl,h,by simp;omega,rfl⟩
 ·rintro k _ ⟨s',p',e,x,rfl,ha,hx,hr⟩;dsimp only
  delta slisapiIn_l0
  rw[ZAD (show((k+1:Nat):Int)>0 by omega)];cases s' with
  |none=>
   refine .inr ⟨_,rfl,p',e,x,?_⟩;rw[<-hr,chZ];exact⟨rfl,ha⟩
  |some r=>
   refine .inl ?_;obtain⟨p1,x1,x2,x3,x4,x5,x6,x7,y,z,e1,a1⟩:=p7Z T (by omega) ha e;refine⟨_,?_,(rI l.length (some r)),p1,x7,x++[(x1,(x2,(x3,(x4,(x5,(y,(x6,z)))))))],rfl,a1,by rw[ZAJ];simp;omega,hr⟩;refine(congrArg (fun o=>Option.bind o _) e1).trans ?_;refine(alZ (aQZ (a:=x.length) (b:=88) (by omega) (by omega))).trans ?_;rw[w64 (x:=((k+1:Nat):Int)-1) (by omega)];refine congrArg (fun i:Int=>some (Sum.inl (i,_))) ?_;omega
 ·rintro _ ⟨s',p',e,x,rfl,ha,hx,hr⟩;refine⟨_,rfl,p',e,x,?_⟩;have:s'=rep (rI l.length) n s:=hr;rw[<-this];exact⟨rfl,ha⟩
theorem l1Z(T:List Int){l:List UInt8}(hb:l.length<=100000000){p:Int}{s:Option (List UInt8)}(h:At l p s)(e0:Int):
 ∃p' e x,slisapiIn fuel T l p s.isNone e0=some (T,(l,(p',((rL rI l.length s).isNone,(e,x)))))/\At l p' (rL rI l.length s):=by
 obtain⟨p1,e1,a1⟩:=a4Z T (by omega) h
 delta slisapiIn
 rw[e1,ZAA];dsimp only;cases hs:(pN s).2 with
 |none=>
  rw[hs] at a1;rw[numZ hs,k7Z hs,ZAC (show¬((0:Nat):Int)>(l.length:Int) by omega)];obtain⟨o,e2,p',e,x,ho,ha⟩:=gkZ T hb 0 (by omega) a1 e0;refine⟨p',e,x,?_,ha⟩;rw[ho] at e2;exact(congrArg (fun o=>Option.bind o _) e2).trans rfl
 |some r=>
  rw[kWZ hs];rw[hs] at a1;by_cases hn:(pN s).1>l.length
  ·rw[ZAV hn,ZAD (show(((pN s).1:Nat):Int)>(l.length:Int) by omega)];refine⟨p1,e0,[],?_,a1.1,fun r hr=>by cases hr⟩;have e2:slisapiIn_l0_it fuel (((pN s).1:Int),(T,(l,(p1,(true,(e0,[]))))))=some (T,(l,(p1,(true,(e0,[]))))):=by
    delta slisapiIn_l0_it
    refine aDZ ?_;dsimp only
    delta slisapiIn_l0
    rw[ZAD (show(((pN s).1:Nat):Int)>0 by omega)]
    rfl
   exact(congrArg (fun o=>Option.bind o _) e2).trans rfl
  ·rw[ZAO hn,ZAC (show¬(((pN s).1:Nat):Int)>(l.length:Int) by omega)];obtain⟨o,e2,p',e,x,ho,ha⟩:=gkZ T hb (pN s).1 (by omega) a1 e0;refine⟨p',e,x,?_,ha⟩;rw[ho] at e2;exact(congrArg (fun o=>Option.bind o _) e2).trans rfl
end Go.Ab.D
set_option maxRecDepth 100000
set_option maxHeartbeats 4000000
namespace Go.Ab.D
open Go Go.Ab Go.P1 Go.P21 Go.P26
attribute [local irreducible] Go.P1.crcT tabI
def okR(b:List UInt8):Bool:=(getReply crcT b).2==0
def rR:Go.P26.Rd:=rG 16777216 okR
def rK:Go.P26.Rd:=sq rP (rL rR)
theorem n6Z{l:List UInt8}(hb:l.length<=100000000){p:Int}{s:Option (List UInt8)}(h:At l p s):
 ∃p' x1 x2 x3 x4 x5 x6 x7 x8 x9 x10 x11,sGetGat11 fuel 0 0 0 0 0 false 0 false 0 (tabI crcT) (tabI crcT) l p s.isNone=some (x1,(x2,(x3,(x4,(x5,(x6,(x7,(x8,(x9,(x10,(x11,(tabI crcT,(tabI crcT,(l,(p',(rR l.length s).isNone)))))))))))))))/\At l p' (rR l.length s):=by
 obtain⟨p1,e1,a1⟩:=edZ (tabI crcT) (by omega) (most:=16777216) (by omega) h;have e2:=j6Z deZ (b:=(pB 16777216 s).1) (by have:=jJZ (most:=16777216) (by omega) s;omega);have a2:At l p1 (rR l.length s):=by
  refine⟨a1.1,fun r hr=> ?_⟩;unfold rR rG at hr;cases hx:(pB 16777216 s).2 with
  |none=>rw[hx] at hr;cases hr
  |some y=>
   rw[hx] at hr a1;simp only at hr;cases hk:okR (pB 16777216 s).1 with
   |false=>rw[hk] at hr;cases hr
   |true=>rw[hk] at hr;exact a1.2 r hr
 have eb:(bif (pB 16777216 s).2.isNone then true else !((((getReply crcT (pB 16777216 s).1).2:Nat):Int)==0))=(rR l.length s).isNone:=by
  unfold rR rG okR;cases(pB 16777216 s).2 with
  |none=>rfl
  |some y=>
   simp only;by_cases hk:(getReply crcT (pB 16777216 s).1).2=0
   ·rw[hk];rfl
   ·rw[ZBV hk,ZBV (show(((getReply crcT (pB 16777216 s).1).2:Nat):Int)≠0 by omega)];rfl
 generalize hg:getReply crcT (pB 16777216 s).1=g at e2 eb;obtain⟨c,e⟩:=g;rw[<-eb]
 delta sGetGat11
 cases hb4:(pB 16777216 s).2.isNone with
 |true=>
  rw[hb4] at e1;refine⟨p1,(outR (c,e)).1,(outR (c,e)).2.1,(outR (c,e)).2.2.1,(outR (c,e)).2.2.2.1,(outR (c,e)).2.2.2.2.1,(outR (c,e)).2.2.2.2.2.1,(outR (c,e)).2.2.2.2.2.2.1,(outR (c,e)).2.2.2.2.2.2.2.1,(outR (c,e)).2.2.2.2.2.2.2.2.1,(outR (c,e)).2.2.2.2.2.2.2.2.2.1,(outR (c,e)).2.2.2.2.2.2.2.2.2.2.1,?_,a2⟩;refine(congrArg (fun o=>Option.bind o _) e1).trans ?_;refine(congrArg (fun o=>Option.bind o _) e2).trans ?_
  rfl
 |false=>
  rw[hb4] at e1;refine⟨p1,(outR (c,e)).1,(outR (c,e)).2.1,(outR (c,e)).2.2.1,(outR (c,e)).2.2.2.1,(outR (c,e)).2.2.2.2.1,(outR (c,e)).2.2.2.2.2.1,(outR (c,e)).2.2.2.2.2.2.1,(outR (c,e)).2.2.2.2.2.2.2.1,(outR (c,e)).2.2.2.2.2.2.2.2.1,(outR (c,e)).2.2.2.2.2.2.2.2.2.1,(outR (c,e)).2.2.2.2.2.2.2.2.2.2.1,?_,a2⟩;refine(congrArg (fun o=>Option.bind o _) e1).trans ?_;refine(congrArg (fun o=>Option.bind o _) e2).trans ?_
  rfl
theorem dJZ{l:List UInt8}(hb:l.length<=100000000)(n:Nat)(hn:n<=l.length){p:Int}{s:Option (List UInt8)}(h:At l p s):
 ∃o,slisapiRe_l0_it fuel ((n:Int),((tabI crcT),(l,(p,(s.isNone,((tabI crcT),[]))))))=some o/\∃p' x,o=((tabI crcT),(l,(p',((rep (rR l.length) n s).isNone,((tabI crcT),x)))))/\At l p' (rep (rR l.length) n s):=by
 delta slisapiRe_l0_it
 refine aHZ (fun k (st:Int×(List Int×(List UInt8×(Int×(Bool×(List Int×List (Int×(Int×(Int×((Int×Int)×(Bool×(Int×(List UInt8×(List (List UInt8×Int)×(Bool×Int)))))))))))))))=>∃s' p' x,st=((k:Int),((tabI crcT),(l,(p',(s'.isNone,((tabI crcT),x))))))/\At l p' s'/\x.length+k<=100000000/\rep (rR l.length) k s'=rep (rR l.length) n s) _ ?_ ?_ n _ (by omega) ⟨s,p,[],rfl,h,by simp;omega,rfl⟩
 ·rintro k _ ⟨s',p',x,rfl,ha,hx,hr⟩;dsimp only
  delta slisapiRe_l0
  rw[ZAD (show((k+1:Nat):Int)>0 by omega)];cases s' with
  |none=>
   refine .inr ⟨_,rfl,p',x,?_⟩;rw[<-hr,chZ];exact⟨rfl,ha⟩
  |some r=>
   refine .inl ?_;obtain⟨p1,x1,x2,x3,x4,x5,x6,x7,x8,x9,x10,x11,e1,a1⟩:=n6Z (by omega) ha;refine⟨_,?_,(rR l.length (some r)),p1,x++[(x1,(x2,(x3,((x4,x5),(x6,(x7,(x8,(x9,(x10,x11)))))))))],rfl,a1,by rw[ZAJ];simp;omega,hr⟩;refine(congrArg (fun o=>Option.bind o _) e1).trans ?_;refine(alZ (aQZ (a:=x.length) (b:=120) (by omega) (by omega))).trans ?_;rw[w64 (x:=((k+1:Nat):Int)-1) (by omega)];refine congrArg (fun i:Int=>some (Sum.inl (i,_))) ?_;omega
 ·rintro _ ⟨s',p',x,rfl,ha,hx,hr⟩;refine⟨_,rfl,p',x,?_⟩;have:s'=rep (rR l.length) n s:=hr;rw[<-this];exact⟨rfl,ha⟩
theorem inZ{l:List UInt8}(hb:l.length<=100000000){p:Int}{s:Option (List UInt8)}(h:At l p s):
 ∃p' x,slisapiRe fuel (tabI crcT) l p s.isNone (tabI crcT)=some ((tabI crcT),(l,(p',((rL rR l.length s).isNone,((tabI crcT),x)))))/\At l p' (rL rR l.length s):=by
 obtain⟨p1,e1,a1⟩:=a4Z (tabI crcT) (by omega) h
 delta slisapiRe
 rw[e1,ZAA];dsimp only;cases hs:(pN s).2 with
 |none=>
  rw[hs] at a1;rw[numZ hs,k7Z hs,ZAC (show¬((0:Nat):Int)>(l.length:Int) by omega)];obtain⟨o,e2,p',x,ho,ha⟩:=dJZ hb 0 (by omega) a1;refine⟨p',x,?_,ha⟩;rw[ho] at e2;exact(congrArg (fun o=>Option.bind o _) e2).trans rfl
 |some r=>
  rw[kWZ hs];rw[hs] at a1;by_cases hn:(pN s).1>l.length
  ·rw[ZAV hn,ZAD (show(((pN s).1:Nat):Int)>(l.length:Int) by omega)];refine⟨p1,[],?_,a1.1,fun r hr=>by cases hr⟩;have e2:slisapiRe_l0_it fuel (((pN s).1:Int),((tabI crcT),(l,(p1,(true,((tabI crcT),[]))))))=some ((tabI crcT),(l,(p1,(true,((tabI crcT),[]))))):=by
    delta slisapiRe_l0_it
    refine aDZ ?_;dsimp only
    delta slisapiRe_l0
    rw[ZAD (show(((pN s).1:Nat):Int)>0 by omega)]
    rfl
   exact(congrArg (fun o=>Option.bind o _) e2).trans rfl
  ·rw[ZAO hn,ZAC (show¬(((pN s).1:Nat):Int)>(l.length:Int) by omega)];obtain⟨o,e2,p',x,ho,ha⟩:=dJZ hb (pN s).1 (by omega) a1;refine⟨p',x,?_,ha⟩;rw[ho] at e2;exact(congrArg (fun o=>Option.bind o _) e2).trans rfl
theorem phZ{l:List UInt8}(hb:l.length<=100000000){p:Int}{s:Option (List UInt8)}(h:At l p s):
 ∃p' x y z,sGetGat1 fuel 0 0 (tabI crcT) l p s.isNone (tabI crcT)=some (x,(y,(tabI crcT,(l,(p',((rK l.length s).isNone,(tabI crcT,z)))))))/\At l p' (rK l.length s):=by
 obtain⟨p1,e1,a1⟩:=a4Z (tabI crcT) (by omega) h;obtain⟨p2,e2,a2⟩:=a4Z (tabI crcT) (by omega) a1;obtain⟨p3,z,e3,a3⟩:=inZ hb a2;refine⟨p3,((pN s).1:Int),((pN (pN s).2).1:Int),z,?_,a3⟩
 delta sGetGat1 sreanumo15
 rw[e1,ZAA];dsimp only;rw[e2,ZAA];dsimp only;rw[ZAA];dsimp only;refine(congrArg (fun o=>Option.bind o _) e3).trans ?_
 rfl
theorem fuZ{l:List UInt8}(hb:l.length<=100000000)(n:Nat)(hn:n<=l.length){p:Int}{s:Option (List UInt8)}(h:At l p s):
 ∃o,slisapiKe_l0_it fuel ((n:Int),((tabI crcT),(l,(p,(s.isNone,((tabI crcT),[]))))))=some o/\∃p' x,o=((tabI crcT),(l,(p',((rep (rK l.length) n s).isNone,((tabI crcT),x)))))/\At l p' (rep (rK l.length) n s):=by
 delta slisapiKe_l0_it
 refine aHZ (fun k (st:Int×(List Int×(List UInt8×(Int×(Bool×(List Int×List (Int×(Int×List (Int×(Int×(Int×((Int×Int)×(Bool×(Int×(List UInt8×(List (List UInt8×Int)×(Bool×Int)))))))))))))))))=>∃s' p' x,st=((k:Int),((tabI crcT),(l,(p',(s'.isNone,((tabI crcT),x))))))/\At l p' s'/\x.length+k<=100000000/\rep (rK l.length) k s'=rep (rK l.length) n s) _ ?_ ?_ n _ (by omega) ⟨s,p,[],rfl,h,by simp;omega,rfl⟩
 ·rintro k _ ⟨s',p',x,rfl,ha,hx,hr⟩;dsimp only
  delta slisapiKe_l0
  rw[ZAD (show((k+1:Nat):Int)>0 by omega)];cases s' with
  |none=>
   refine .inr ⟨_,rfl,p',x,?_⟩;rw[<-hr,chZ];exact⟨rfl,ha⟩
  |some r=>
   refine .inl ?_;obtain⟨p1,xx,y,z,e1,a1⟩:=phZ (by omega) ha;refine⟨_,?_,(rK l.length (some r)),p1,x++[(xx,(y,z))],rfl,a1,by rw[ZAJ];simp;omega,hr⟩;refine(congrArg (fun o=>Option.bind o _) e1).trans ?_;refine(alZ (aQZ (a:=x.length) (b:=40) (by omega) (by omega))).trans ?_;rw[w64 (x:=((k+1:Nat):Int)-1) (by omega)];refine congrArg (fun i:Int=>some (Sum.inl (i,_))) ?_;omega
 ·rintro _ ⟨s',p',x,rfl,ha,hx,hr⟩;refine⟨_,rfl,p',x,?_⟩;have:s'=rep (rK l.length) n s:=hr;rw[<-this];exact⟨rfl,ha⟩
theorem jeZ{l:List UInt8}(hb:l.length<=100000000){p:Int}{s:Option (List UInt8)}(h:At l p s):
 ∃p' x,slisapiKe fuel (tabI crcT) l p s.isNone (tabI crcT)=some ((tabI crcT),(l,(p',((rL rK l.length s).isNone,((tabI crcT),x)))))/\At l p' (rL rK l.length s):=by
 obtain⟨p1,e1,a1⟩:=a4Z (tabI crcT) (by omega) h
 delta slisapiKe
 rw[e1,ZAA];dsimp only;cases hs:(pN s).2 with
 |none=>
  rw[hs] at a1;rw[numZ hs,k7Z hs,ZAC (show¬((0:Nat):Int)>(l.length:Int) by omega)];obtain⟨o,e2,p',x,ho,ha⟩:=fuZ hb 0 (by omega) a1;refine⟨p',x,?_,ha⟩;rw[ho] at e2;exact(congrArg (fun o=>Option.bind o _) e2).trans rfl
 |some r=>
  rw[kWZ hs];rw[hs] at a1;by_cases hn:(pN s).1>l.length
  ·rw[ZAV hn,ZAD (show(((pN s).1:Nat):Int)>(l.length:Int) by omega)];refine⟨p1,[],?_,a1.1,fun r hr=>by cases hr⟩;have e2:slisapiKe_l0_it fuel (((pN s).1:Int),((tabI crcT),(l,(p1,(true,((tabI crcT),[]))))))=some ((tabI crcT),(l,(p1,(true,((tabI crcT),[]))))):=by
    delta slisapiKe_l0_it
    refine aDZ ?_;dsimp only
    delta slisapiKe_l0
    rw[ZAD (show(((pN s).1:Nat):Int)>0 by omega)]
    rfl
   exact(congrArg (fun o=>Option.bind o _) e2).trans rfl
  ·rw[ZAO hn,ZAC (show¬(((pN s).1:Nat):Int)>(l.length:Int) by omega)];obtain⟨o,e2,p',x,ho,ha⟩:=fuZ hb (pN s).1 (by omega) a1;refine⟨p',x,?_,ha⟩;rw[ho] at e2;exact(congrArg (fun o=>Option.bind o _) e2).trans rfl
end Go.Ab.D
namespace Go.Ab
theorem oeZ{α:Type}(p:α->Bool)(L:List α)(hL:L.length<=1000000000000)(f:Int->Option (Int⊕(Unit⊕Int)))
 (hs:∀(i:Nat) x,L[i]? =some x->f (i:Int)=some (if p x=true then .inr (.inr (i:Int)) else .inl ((i+1:Nat):Int)))
 (he:f ((L.length:Nat):Int)=some (.inr (.inl ()))):
 iter fuel f 0=some (match L.findIdx? p with|some n=>.inr (n:Int)|none=>.inl ()):=by
 have:=aHZ (f:=f) (fun m s=>∃(i:Nat),s=(i:Int)/\i+m=L.length/\∀k,k<i->∀x,L[k]? =some x->p x=false)
  (fun o=>o=(match L.findIdx? p with|some n=>.inr (n:Int)|none=>.inl ())) (fun m s hI=> ?_) (fun s hI=> ?_) L.length 0 (by omega) ⟨0,rfl,by omega,fun k h=>absurd h (Nat.not_lt_zero _)⟩
 ·obtain⟨o,ho,rfl⟩:=this;exact ho
 ·obtain⟨i,rfl,g1,g2⟩:=hI;have hi:i<L.length:=by omega
  have hx:L[i]? =some L[i]:=ZAI hi;rw[hs i _ hx];cases hp:p L[i] with
  |true=>
   right;refine⟨_,by rw[ZAV rfl],?_⟩;have:L.findIdx? p=some i:=List.findIdx?_eq_some_iff_getElem.2 ⟨hi,hp,fun j hj=>by simpa using g2 j hj _ (ZAI (by omega))⟩;rw[this]
  |false=>
   left;refine⟨_,by rw[ZAO (by simp)],i+1,rfl,by omega,fun k hk x hx'=> ?_⟩;by_cases hki:k=i
   ·subst hki;rw[hx] at hx';cases hx';exact hp
   ·exact g2 k (by omega) x hx'
 ·obtain⟨i,rfl,g1,g2⟩:=hI;have:i=L.length:=by omega
  subst this;refine⟨_,he,?_⟩;have:L.findIdx? p=none:=List.findIdx?_eq_none_iff.2 fun x hx=>by
   obtain⟨k,hk⟩:=ZAg hx;exact g2 k (ZAE.1 hk).1 x hk
  rw[this]
end Go.Ab
set_option maxRecDepth 100000
set_option maxHeartbeats 4000000
namespace Go.Ab.D
open Go Go.Ab Go.P1 Go.P21 Go.P26
abbrev PlT:=Int×List Int
theorem nMZ(s:List Int)(hs:s.length<=100000000)(v:Int):∃x,sInd fuel s v=some x:=by
 have h:=aHZ (f:=fun tt:Int=>sInd_l0 fuel s v tt) (fun k x=>x=((s.length-k:Nat):Int)/\k<=s.length) (fun _=>True)
  (by
   rintro k _ ⟨rfl,hk⟩
   delta sInd_l0
   obtain⟨y,hy⟩:∃y,s[s.length-(k+1)]? =some y:=⟨s[s.length-(k+1)],ZAI (by omega)⟩;rw[ZAD (by omega),ZAM,auZ (by omega),ZAA,hy,ZAA];cases v==y with
   |true=>exact .inr ⟨_,rfl,trivial⟩
   |false=>
    refine .inl ⟨_,rfl,?_,by omega⟩;rw[w64 (by omega)];omega)
  (by
   rintro _ ⟨rfl,hk⟩
   delta sInd_l0
   rw[ZAC (by omega)];exact⟨_,rfl,trivial⟩) s.length 0 (by omega) ⟨by omega,ZAL _⟩
 obtain⟨o,ho,_⟩:=h;have e:sInd_l0_it fuel s v 0=some o:=ho
 delta sInd
 rw[e];cases o with
 |inl u=>exact⟨_,rfl⟩
 |inr u=>exact⟨_,rfl⟩
theorem jcZ(s:List Int)(hs:s.length<=100000000)(v:Int):∃x,sCon2 fuel s v=some x:=by
 obtain⟨x,e⟩:=nMZ s hs v
 delta sCon2
 rw[e];exact⟨_,rfl⟩
def PlP(p:PlT):Prop:=(1<=p.1/\p.1<=1099511627776)/\(1<=p.2.length/\p.2.length<=255)/\∀n∈p.2,0<=n/\n<256
theorem h2Z(p:PlT)(hp:p.2.length<=100000000):∃b,pRig fuel p 256=some b/\(b=true->PlP p):=by
 delta pRig
 by_cases h1:p.1<1
 ·rw[ZAD h1];exact⟨false,rfl,fun h=>by cases h⟩
 rw[ZAC h1];by_cases h2:p.1>1099511627776
 ·rw[ZAD h2];exact⟨false,rfl,fun h=>by cases h⟩
 rw[ZAC h2];by_cases h3:((p.2.length:Nat):Int)<1
 ·rw[ZAD h3];exact⟨false,rfl,fun h=>by cases h⟩
 rw[ZAC h3];by_cases h4:((p.2.length:Nat):Int)>255
 ·rw[ZAD h4];exact⟨false,rfl,fun h=>by cases h⟩
 rw[ZAC h4];have h:=aHZ (f:=fun tt:Int×PlT=>pRig_l0 fuel (false,p) 256 tt.1 tt.2.1 tt.2.2) (fun k x=>x=(((p.2.length-k:Nat):Int),p)/\k<=p.2.length/\∀i (hi:i<p.2.length),i<p.2.length-k->0<=p.2[i]/\p.2[i]<256)
  (fun o=>o= .inr false\/(o= .inl ()/\PlP p))
  (by
   rintro k _ ⟨rfl,hk,hq⟩
   delta pRig_l0
   have hy:p.2[p.2.length-(k+1)]? =some p.2[p.2.length-(k+1)]:=ZAI (by omega);rw[ZAD (by dsimp only;omega),ZAM];dsimp only;rw[auZ (by omega),ZAA,hy,ZAA];by_cases c1:p.2[p.2.length-(k+1)]<0
   ·rw[ZAD c1];exact .inr ⟨_,rfl,.inl rfl⟩
   rw[ZAC c1];by_cases c2:p.2[p.2.length-(k+1)]>=256
   ·rw[ZAD c2];exact .inr ⟨_,rfl,.inl rfl⟩
   rw[ZAC c2,ZAK,ZAK];rw[bdZ (by omega),ZAA];obtain⟨x,e⟩:=jcZ (List.take (p.2.length-(k+1)) p.2) (by rw[ZAe];omega) p.2[p.2.length-(k+1)];rw[e,ZAA,ZAA];cases x with
   |true=>exact .inr ⟨_,rfl,.inl rfl⟩
   |false=>
    refine .inl ⟨_,rfl,?_,by omega,fun i hi hl=> ?_⟩
    ·rw[w64 (by omega)];refine congrArg (fun z:Int=>(z,p)) ?_;omega
    ·by_cases he:i=p.2.length-(k+1)
     ·subst he;omega
     ·exact hq i hi (by omega))
  (by
   rintro _ ⟨rfl,hk,hq⟩
   delta pRig_l0
   rw[ZAC (by dsimp only;omega)];refine⟨_,rfl,.inr ⟨rfl,⟨by omega,by omega⟩,⟨by omega,by omega⟩,fun n hn=> ?_⟩⟩;obtain⟨i,hi,rfl⟩:=List.getElem_of_mem hn;exact hq i hi (by omega)) p.2.length (0,p) (by omega) ⟨by rw[Nat.sub_self];rfl,ZAL _,fun i hi hl=>by omega⟩
 obtain⟨o,ho,hQ⟩:=h;have e:pRig_l0_it fuel (false,p) 256 (0,p)=some o:=ho;rcases hQ with rfl|⟨rfl,hP⟩
 ·exact⟨false,(congrArg (fun o=>Option.bind o _) e).trans rfl,fun h=>by cases h⟩
 ·exact⟨true,(congrArg (fun o=>Option.bind o _) e).trans rfl,fun _=>hP⟩
noncomputable def okPl (p : PlT) : Bool := (pRig fuel p 256).getD false
theorem l5Z(p:PlT)(hp:p.2.length<=100000000):pRig fuel p 256=some (okPl p)/\(okPl p=true->PlP p):=by
 obtain⟨b,e,h⟩:=h2Z p hp;unfold okPl;rw[e];exact⟨rfl,h⟩
noncomputable def allP (l : List PlT) : Bool := decide (1 ≤ l.length) && (decide (l.length ≤ 1000) && l.all okPl)
theorem epZ(l:List PlT)(hl:∀p∈l,p.2.length<=100000000):place_all fuel l=some (allP l):=by
 delta place_all
 unfold allP;by_cases h1:((l.length:Nat):Int)>=1
 ·by_cases h2:((l.length:Nat):Int)<=1000
  ·rw[ZAD h1,ZAD h2,ZAD (show 1<=l.length by omega),ZAD (show l.length<=1000 by omega)];have e:sIndFun_l0_it fuel l 0=some (match l.findIdx? (fun p=> !okPl p) with|some n=>.inr (n:Int)|none=>.inl ()):=by
    delta sIndFun_l0_it
    refine oeZ (fun p=> !okPl p) l (by omega) _ ?_ ?_
    ·intro i x hx;have hi:i<l.length:=(ZAE.1 hx).1;have hm:x∈l:=ZAN hx
     delta sIndFun_l0 pall1
     rw[ZAD (show(i:Int)<((l.length:Nat):Int) by omega),ZAM,auZ hi,ZAA,hx,ZAA];rw[(l5Z x (hl x hm)).1,ZAA,ZAA];cases okPl x with
     |true=>rw[w64 (by omega)];rfl
     |false=>rfl
    ·delta sIndFun_l0
     rw[ZAC (by omega)]
     rfl
   delta sConFun sIndFun
   rw[ZAM,ZAM,e,ZAA];cases hf:l.findIdx? (fun p=> !okPl p) with
   |none=>
    have:l.all okPl=true:=ZBI.2 fun x hx=>by
     have:=List.findIdx?_eq_none_iff.1 hf x hx;simpa using this
    rw[this]
    rfl
   |some n=>
    have:l.all okPl=false:=by
     obtain⟨hn,hp,_⟩:=List.findIdx?_eq_some_iff_getElem.1 hf;refine Bool.eq_false_iff.2 fun hc=> ?_;have:=ZBI.1 hc _ (ZBA hn);rw[this] at hp;cases hp
    rw[this];show some (!decide ((n:Int)>=0))=_;rw[ZAD (by omega)]
    rfl
  ·rw[ZAD h1,ZAC h2,ZAC (show¬l.length<=1000 by omega)];cases decide (1<=l.length)<;>rfl
 ·rw[ZAC h1,ZAC (show¬1<=l.length by omega)]
  rfl
theorem jfZ{l:List PlT}(h:allP l=true)(hl:∀p∈l,p.2.length<=100000000):(1<=l.length/\l.length<=1000)/\∀p∈l,PlP p:=by
 unfold allP at h;simp only[ZAB,ZAR,ZBI] at h;exact⟨⟨h.1,h.2.1⟩,fun p hp=>(l5Z p (hl p hp)).2 (h.2.2 p hp)⟩
end Go.Ab.D
set_option maxRecDepth 100000
set_option maxHeartbeats 4000000
namespace Go.Ab.D
open Go Go.Ab Go.P1 Go.P21 Go.P26
def pQ(most:Nat):Option (List UInt8)->Nat×Option (List UInt8)
 |none=>(0,none)
 |some l=>match pNum most l with|some (n,r)=>(n,some r)|none=>(0,none)
theorem j4Z(most:Nat)(l:List UInt8):pQ most (some l)=(match pNum most l with|some (n,r)=>(n,some r)|none=>(0,none)):=rfl
theorem nEZ{most n:Nat}(hm:most<18446744073709551616)(h:n<=most)(r:List UInt8):pQ most (some (varint n++r))=(n,some r):=by
 rw[j4Z,(cGZ hm).2 ⟨h,rfl⟩]
theorem pRZ(most:Nat)(hm:most<18446744073709551616)(s:Option (List UInt8)):(pQ most s).1<=most:=by
 cases s with
 |none=>exact ZAz _
 |some l=>
  rw[j4Z];cases h:pNum most l with
  |none=>exact ZAz _
  |some x=>
   obtain⟨n,r⟩:=x;exact((cGZ hm).1 h).1
theorem q_is{most:Nat}(hm:most<=2199023255552){l:List UInt8}(hb:l.length<4611686018427387904){p:Int}{s:Option (List UInt8)}(h:At l p s):
 ∃p',pRea1 fuel (most:Int) l p s.isNone=some (((pQ most s).1:Int),(l,(p',(pQ most s).2.isNone)))/\At l p' (pQ most s).2:=by
 obtain⟨h0,hr⟩:=h;cases s with
 |none=>
  refine⟨p,?_,h0,fun r hr=>by cases hr⟩;unfold pRea1;rw[bVZ hb]
  rfl
 |some r=>
  obtain⟨k,rfl⟩:∃k:Nat,p=k:=⟨p.toNat,by omega⟩;have hk:k<=l.length:=by omega
  have hd:l.drop k=r:=hr r rfl;rw[j4Z];unfold pRea1;rw[bVZ hb,wu64 (x:=(most:Int)) (by omega)];simp only[ZAr,ZAK,ZAA];cases hp:pNum most r with
  |some x=>
   obtain⟨n,r'⟩:=x;rw[<-hd] at hp;obtain⟨g1,g2,g3,g4,g5⟩:=blZ hk hp;refine⟨((l.length-r'.length:Nat):Int),?_,⟨by omega,by omega⟩,fun q hq=> ?_⟩
   ·rw[g1];have:decide ((n:Int)>(most:Int))=false:=ZAC (by omega);simp only[this];rw[w64 ⟨by omega,by omega⟩]
    rfl
   ·cases hq;exact g4
  |none=>
   rw[<-hd] at hp;have g:=bFZ hk hp;refine⟨(k:Int),?_,h0,fun q hq=>by cases hq⟩;by_cases he:(getUint l k).2.2=0
   ·rw[he];have:decide (((getUint l k).1:Int)>(most:Int))=true:=ZAD (by rcases g with g|g<;>omega);simp only[this]
    rfl
   ·rw[ZAk.2 (show(((getUint l k).2.2:Nat):Int)≠0 by omega)]
    rfl
def nd:Nat->Option (List UInt8)×List Int->Option (List UInt8)×List Int
 |0,a=>a
 |n+1,a=>nd n ((pQ 256 a.1).2,a.2++[((pQ 256 a.1).1:Int)])
theorem okZ:∀(n:Nat) (a:Option (List UInt8)×List Int),(nd n a).2.length=a.2.length+n
 |0,_=>rfl
 |n+1,a=>by
  have:=okZ n ((pQ 256 a.1).2,a.2++[((pQ 256 a.1).1:Int)]);rw[ZAJ] at this;simp only[List.length_singleton] at this;show(nd n _).2.length=_;omega
theorem n1Z{l:List UInt8}(hb:l.length<4611686018427387904)(r2:Int×(List UInt8×(Int×Bool)))(n:Nat)(hn:r2.1=n)(hn2:n<=1000)(out:List PlT)(ep:Int){p:Int}{s:Option (List UInt8)}(h:At l p s):
 ∃p',pRea_l0_it fuel r2 (0,(l,(p,(s.isNone,(out,(ep,[]))))))=some (l,(p',((nd n (s,[])).1.isNone,(out,(ep,(nd n (s,[])).2)))))/\At l p' (nd n (s,[])).1:=by
 have key:=aHZ (f:=fun tt:Int×(List UInt8×(Int×(Bool×(List PlT×(Int×List Int)))))=>pRea_l0 fuel r2 tt.1 tt.2.1 tt.2.2.1 tt.2.2.2.1 tt.2.2.2.2.1 tt.2.2.2.2.2.1 tt.2.2.2.2.2.2)
  (fun k st=>∃s' p' acc,st=(((n-k:Nat):Int),(l,(p',(s'.isNone,(out,(ep,acc))))))/\At l p' s'/\k<=n/\acc.length=n-k/\nd k (s',acc)=nd n (s,[]))
  (fun o=>∃p',o=(l,(p',((nd n (s,[])).1.isNone,(out,(ep,(nd n (s,[])).2)))))/\At l p' (nd n (s,[])).1)
  (by
   rintro k _ ⟨s',p',acc,rfl,ha,hk,hl,hx⟩;refine .inl ?_
   delta pRea_l0
   obtain⟨p1,e1,a1⟩:=q_is (most:=256) (by omega) hb ha;refine⟨_,?_,(pQ 256 s').2,p1,acc++[((pQ 256 s').1:Int)],rfl,a1,by omega,by rw[ZAJ];simp;omega,hx⟩;dsimp only;rw[hn,ZAD (show((n-(k+1):Nat):Int)<(n:Int) by omega),ZAM];refine(congrArg (fun o=>Option.bind o _) e1).trans ?_;refine(alZ (aQZ (a:=acc.length) (b:=8) (by omega) (by omega))).trans ?_;rw[w64 (by omega)];refine congrArg (fun i:Int=>some (Sum.inl (i,_))) ?_;omega)
  (by
   rintro _ ⟨s',p',acc,rfl,ha,hk,hl,hx⟩
   delta pRea_l0
   dsimp only;rw[hn,ZAC (show¬((n-0:Nat):Int)<(n:Int) by omega)];have:(s',acc)=nd n (s,[]):=hx;refine⟨_,rfl,p',?_⟩;rw[<-this];exact⟨rfl,ha⟩) n (0,(l,(p,(s.isNone,(out,(ep,[])))))) (by omega) ⟨s,p,[],by rw[Nat.sub_self];rfl,h,ZAL _,by simp,rfl⟩
 obtain⟨o,ho,p',rfl,ha⟩:=key;exact⟨p',ho,ha⟩
def pls:Nat->Option (List UInt8)×List PlT->Option (List UInt8)×List PlT
 |0,a=>a
 |n+1,a=>match(nd (pQ 255 (pQ 1099511627776 a.1).2).1 ((pQ 255 (pQ 1099511627776 a.1).2).2,[])).1 with
  |none=>(none,a.2++[(((pQ 1099511627776 a.1).1:Int),(nd (pQ 255 (pQ 1099511627776 a.1).2).1 ((pQ 255 (pQ 1099511627776 a.1).2).2,[])).2)])
  |some q=>pls n (some q,a.2++[(((pQ 1099511627776 a.1).1:Int),(nd (pQ 255 (pQ 1099511627776 a.1).2).1 ((pQ 255 (pQ 1099511627776 a.1).2).2,[])).2)])
theorem khZ(n:Nat)(a:Option (List UInt8)×List PlT):pls (n+1) a=(match(nd (pQ 255 (pQ 1099511627776 a.1).2).1 ((pQ 255 (pQ 1099511627776 a.1).2).2,[])).1 with
 |none=>(none,a.2++[(((pQ 1099511627776 a.1).1:Int),(nd (pQ 255 (pQ 1099511627776 a.1).2).1 ((pQ 255 (pQ 1099511627776 a.1).2).2,[])).2)])
 |some q=>pls n (some q,a.2++[(((pQ 1099511627776 a.1).1:Int),(nd (pQ 255 (pQ 1099511627776 a.1).2).1 ((pQ 255 (pQ 1099511627776 a.1).2).2,[])).2)])):=rfl
theorem meZ{l:List UInt8}(hb:l.length<4611686018427387904)(r:Int×(List UInt8×(Int×Bool)))(n:Nat)(hn:r.1=n)(hn2:n<=1000){p:Int}{s:Option (List UInt8)}(h:At l p s):
 ∃p',pRea_l1_it fuel r (0,(l,(p,(s.isNone,[]))))=some (l,(p',((pls n (s,[])).1.isNone,(pls n (s,[])).2)))/\At l p' (pls n (s,[])).1/\∀y∈(pls n (s,[])).2,y.2.length<=255:=by
 have key:=aHZ (f:=fun tt:Int×(List UInt8×(Int×(Bool×List PlT)))=>pRea_l1 fuel r tt.1 tt.2.1 tt.2.2.1 tt.2.2.2.1 tt.2.2.2.2)
  (fun k st=>∃s' p' acc,st=(((n-k:Nat):Int),(l,(p',(s'.isNone,acc))))/\At l p' s'/\k<=n/\acc.length=n-k/\(∀y∈acc,y.2.length<=255)/\pls k (s',acc)=pls n (s,[]))
  (fun o=>∃p',o=(l,(p',((pls n (s,[])).1.isNone,(pls n (s,[])).2)))/\At l p' (pls n (s,[])).1/\∀y∈(pls n (s,[])).2,y.2.length<=255)
  (by
   rintro k _ ⟨s',p',acc,rfl,ha,hk,hl,hy,hx⟩
   delta pRea_l1
   obtain⟨p1,e1,a1⟩:=q_is (most:=1099511627776) (by omega) hb ha;obtain⟨p2,e2,a2⟩:=q_is (most:=255) (by omega) hb a1;have hle:=pRZ 255 (by omega) (pQ 1099511627776 s').2;obtain⟨p3,e3,a3⟩:=n1Z hb (((pQ 255 (pQ 1099511627776 s').2).1:Int),(l,(p2,(pQ 255 (pQ 1099511627776 s').2).2.isNone))) _ rfl (by omega) acc ((pQ 1099511627776 s').1:Int) a2;have hlen:=okZ (pQ 255 (pQ 1099511627776 s').2).1 ((pQ 255 (pQ 1099511627776 s').2).2,[]);simp only[ZA9,ZAi] at hlen;rw[khZ] at hx;dsimp only at hx;generalize hN:nd (pQ 255 (pQ 1099511627776 s').2).1 ((pQ 255 (pQ 1099511627776 s').2).2,[])=N at*;obtain⟨q,ns⟩:=N;have hy2:∀y∈acc++[(((pQ 1099511627776 s').1:Int),ns)],y.2.length<=255:=fun y hm=>by
    rcases ZAd.1 hm with hm|hm
    ·exact hy y hm
    ·rw[ZBF.1 hm];have:ns.length=_:=hlen;show ns.length<=255;omega
   dsimp only;rw[hn,ZAD (show((n-(k+1):Nat):Int)<(n:Int) by omega),ZAM];cases q with
   |none=>
    refine .inr ⟨(l,(p3,(true,acc++[(((pQ 1099511627776 s').1:Int),ns)]))),?_,p3,?_⟩
    ·refine(congrArg (fun o=>Option.bind o _) e1).trans ?_;refine(congrArg (fun o=>Option.bind o _) e2).trans ?_;refine(congrArg (fun o=>Option.bind o _) e3).trans ?_;refine(alZ (aQZ (a:=acc.length) (b:=32) (by omega) (by omega))).trans ?_
     rfl
    ·rw[<-hx];exact⟨rfl,a3,hy2⟩
   |some z=>
    refine .inl ⟨((((n-k:Nat):Int)),(l,(p3,(false,acc++[(((pQ 1099511627776 s').1:Int),ns)])))),?_,some z,p3,acc++[(((pQ 1099511627776 s').1:Int),ns)],rfl,a3,by omega,by rw[ZAJ];simp;omega,hy2,hx⟩;refine(congrArg (fun o=>Option.bind o _) e1).trans ?_;refine(congrArg (fun o=>Option.bind o _) e2).trans ?_;refine(congrArg (fun o=>Option.bind o _) e3).trans ?_;refine(alZ (aQZ (a:=acc.length) (b:=32) (by omega) (by omega))).trans ?_;rw[w64 (by omega)];refine congrArg (fun i:Int=>some (Sum.inl (i,_))) ?_;omega)
  (by
   rintro _ ⟨s',p',acc,rfl,ha,hk,hl,hy,hx⟩
   delta pRea_l1
   dsimp only;rw[hn,ZAC (show¬((n-0:Nat):Int)<(n:Int) by omega)];have:(s',acc)=pls n (s,[]):=hx;refine⟨_,rfl,p',?_⟩;rw[<-this];exact⟨rfl,ha,hy⟩) n (0,(l,(p,(s.isNone,[])))) (by omega) ⟨s,p,[],by rw[Nat.sub_self];rfl,h,ZAL _,by simp,by simp,rfl⟩
 obtain⟨o,ho,p',rfl,ha,hy⟩:=key;exact⟨p',ho,ha,hy⟩
end Go.Ab.D
set_option maxRecDepth 100000
set_option maxHeartbeats 4000000
namespace Go.Ab.D
open Go Go.Ab Go.P1 Go.P21 Go.P26
noncomputable def readP (b : List UInt8) : Int × List PlT :=
 if(pls (pQ 1000 (some b)).1 ((pQ 1000 (some b)).2,[])).1=some []/\allP (pls (pQ 1000 (some b)).1 ((pQ 1000 (some b)).2,[])).2=true then(0,(pls (pQ 1000 (some b)).1 ((pQ 1000 (some b)).2,[])).2) else(100,[])
theorem At.nil{l:List UInt8}{p:Int}{q:List UInt8}(h:At l p (some q)):(p==((l.length:Nat):Int))=decide (q=[]):=by
 have h2:=h.2 q rfl;have h3:=congrArg List.length h2;rw[ZAt] at h3;have:=h.1;by_cases hq:q=[]
 ·subst hq;rw[ZAD rfl];simp only[ZA9] at h3;exact ZBN.2 (by omega)
 ·rw[ZAC hq];have:q.length≠0:=fun hc=>hq (List.length_eq_zero_iff.1 hc);exact ZBV (by omega)
theorem iwZ{b:List UInt8}(hb:b.length<4611686018427387904):pRea fuel b=some (readP b):=by
 have h0:At b 0 (some b):=⟨by omega,fun r hr=>by cases hr;rfl⟩;obtain⟨p1,e1,a1⟩:=q_is (most:=1000) (by omega) hb h0;have hle:=pRZ 1000 (by omega) (some b);obtain⟨p2,e2,a2,hy⟩:=meZ hb (((pQ 1000 (some b)).1:Int),(b,(p1,(pQ 1000 (some b)).2.isNone))) _ rfl hle a1;unfold readP
 delta pRea
 refine(congrArg (fun o=>Option.bind o _) e1).trans ?_;refine(congrArg (fun o=>Option.bind o _) e2).trans ?_;generalize pls (pQ 1000 (some b)).1 ((pQ 1000 (some b)).2,[])=R at*;obtain⟨q,L⟩:=R;cases q with
 |none=>rw[ZAO (fun h=>by cases h.1)];rfl
 |some q=>
  rw[ZAA];dsimp only;rw[a2.nil];have hA:=epZ L fun y hm=>by have:=hy y hm;omega
  by_cases hq:q=[]
  ·subst hq;rw[ZAD rfl];refine(congrArg (fun o=>Option.bind (Option.bind o _) _) hA).trans ?_;cases hL:allP L with
   |true=>rw[ZAV ⟨rfl,rfl⟩];rfl
   |false=>rw[ZAO (fun h=>by cases h.2)];rfl
  ·rw[ZAC hq,ZAO (fun h=>hq (ZAY h.1))]
   rfl
def placeB(p:PlT):List UInt8:=vi p.1++(varint p.2.length++p.2.flatMap vi)
def placesB(l:List PlT):List UInt8:=varint l.length++l.flatMap placeB
theorem oiZ(r:List UInt8):∀(ns acc:List Int),(∀n∈ns,0<=n/\n<256)->nd ns.length (some (ns.flatMap vi++r),acc)=(some r,acc++ns)
 |[],acc,_=>by rw[ZAq];rfl
 |n::ns,acc,h=>by
  have hn:=h n ZAa;show nd ns.length _=_;have e:pQ 256 (some ((n::ns).flatMap vi++r))=(n.toNat,some (ns.flatMap vi++r)):=by
   rw[ZBC,ZAh];exact nEZ (by omega) (by omega) _
  dsimp only;rw[e,oiZ r ns _ fun m hm=>h m (ZAP _ hm)];have:((n.toNat:Nat):Int)=n:=by omega
  rw[this,ZAh]
  rfl
theorem miZ(r:List UInt8):∀(l acc:List PlT),(∀p∈l,PlP p)->pls l.length (some (l.flatMap placeB++r),acc)=(some r,acc++l)
 |[],acc,_=>by rw[ZAq];rfl
 |p::l,acc,h=>by
  obtain⟨h1,h2,h3⟩:=h p ZAa;show pls (l.length+1) _=_;rw[khZ];dsimp only;have e1:pQ 1099511627776 (some ((p::l).flatMap placeB++r))=(p.1.toNat,some (varint p.2.length++(p.2.flatMap vi++(l.flatMap placeB++r)))):=by
   rw[ZBC];unfold placeB;simp only[ZAh];exact nEZ (by omega) (by omega) _
  have e2:pQ 255 (some (varint p.2.length++(p.2.flatMap vi++(l.flatMap placeB++r))))=(p.2.length,some (p.2.flatMap vi++(l.flatMap placeB++r))):=nEZ (by omega) (by omega) _;rw[e1];dsimp only;rw[e2];dsimp only;rw[oiZ _ p.2 [] h3];dsimp only;rw[miZ r l _ fun y hy=>h y (ZAP _ hy)];have:((p.1.toNat:Nat):Int)=p.1:=by omega
  rw[this,ZAh]
  rfl
theorem l8Z{l:List PlT}(h:allP l=true)(hl:∀p∈l,p.2.length<=100000000):readP (placesB l)=(0,l):=by
 obtain⟨⟨h1,h2⟩,h3⟩:=jfZ h hl;have e1:pQ 1000 (some (placesB l))=(l.length,some (l.flatMap placeB++[])):=by
  unfold placesB;rw[ZAq];exact nEZ (by omega) h2 _
 have e2:=miZ [] l [] h3;unfold readP;rw[e1];dsimp only;rw[e2];dsimp only[List.nil_append];rw[ZAV ⟨rfl,h⟩]
end Go.Ab.D
set_option maxRecDepth 100000
set_option maxHeartbeats 4000000
namespace Go.Ab.D
open Go Go.Ab Go.P1 Go.P21 Go.P26
attribute [local irreducible] Go.P1.crcT tabI
noncomputable def okP (b : List UInt8) : Bool := (readP b).1 == 0
noncomputable def rGate : Go.P26.Rd := sq rP (sq (rL rI) (sq rN (sq (rL rK) (sq (rG 16777216 okP) (rL rP)))))
theorem eFZ{b:List UInt8}(hb:b.length<=100000000)(hne:rGate b.length (some b)≠some []):
 sGetGat fuel (tabI crcT) b=some (0,([],(0,(0,([],([],([],10))))))):=by
 have h0:At b 0 (some b):=⟨by omega,fun r hr=>by cases hr;rfl⟩;obtain⟨p1,e1,a1⟩:=a4Z (tabI crcT) (by omega) h0;obtain⟨p2,e2,a2⟩:=a4Z (tabI crcT) (by omega) a1;obtain⟨p3,c3,x3,e3,a3⟩:=l1Z (tabI crcT) hb a2 0;obtain⟨p4,e4,a4⟩:=a4Z (tabI crcT) (by omega) a3;obtain⟨p5,x5,e5,a5⟩:=jeZ hb a4;obtain⟨p6,e6,a6⟩:=edZ (tabI crcT) (by omega) (most:=16777216) (by omega) a5;generalize hs5:rL rK b.length (pN (rL rI b.length (pN (pN (some b)).2).2)).2=s5 at*;have hbl:=jJZ (most:=16777216) (by omega) s5;have e7:=iwZ (b:=(pB 16777216 s5).1) (by omega);have a7:At b p6 (rG 16777216 okP b.length s5):=by
  refine⟨a6.1,fun r hr=> ?_⟩;unfold rG at hr;cases hx:(pB 16777216 s5).2 with
  |none=>rw[hx] at hr;cases hr
  |some y=>
   rw[hx] at hr a6;simp only at hr;cases hk:okP (pB 16777216 s5).1 with
   |false=>rw[hk] at hr;cases hr
   |true=>rw[hk] at hr;exact a6.2 r hr
 have eb:(bif (pB 16777216 s5).2.isNone then true else !((readP (pB 16777216 s5).1).1==0))=(rG 16777216 okP b.length s5).isNone:=by
  unfold rG okP;cases(pB 16777216 s5).2 with
  |none=>rfl
  |some y=>
   simp only;cases(readP (pB 16777216 s5).1).1==0<;>rfl
 obtain⟨p8,x8,e8,a8⟩:=eSZ (tabI crcT) hb a7
 replace a8:At b p8 (rL rP b.length (rG 16777216 okP b.length s5)):=a8
 have hR:rGate b.length (some b)=rL rP b.length (rG 16777216 okP b.length s5):=by rw[<-hs5];rfl
 rw[hR] at hne;have f1:sreanumo12 fuel (tabI crcT) b 0 false 0 0 0=some (tabI crcT,(b,(p2,((pN (pN (some b)).2).2.isNone,(((pN (some b)).1:Int),(((pN (pN (some b)).2).1:Int),0)))))):=by
  delta sreanumo12
  refine(congrArg (fun o=>Option.bind o _) e1).trans ?_;rw[ZAA];dsimp only;rw[e2]
  rfl
 have f3:sreaino fuel (tabI crcT) b p2 (pN (pN (some b)).2).2.isNone=some (tabI crcT,(b,(p3,((rL rI b.length (pN (pN (some b)).2).2).isNone,x3)))):=by
  delta sreaino
  rw[e3]
  rfl
 have f8:sreapar fuel (tabI crcT) b p6 (rG 16777216 okP b.length s5).isNone=some (tabI crcT,(b,(p8,((rL rP b.length (rG 16777216 okP b.length s5)).isNone,x8)))):=by
  delta sreapar
  exact(congrArg (fun o=>Option.bind o _) e8).trans rfl
 delta sGetGat
 refine(congrArg (fun o=>Option.bind o _) f1).trans ?_;refine(congrArg (fun o=>Option.bind o _) f3).trans ?_
 delta sreanumo13
 rw[ZAA];dsimp only;rw[e4,ZAA,ZAA];dsimp only;rw[e5,ZAA];dsimp only;refine(congrArg (fun o=>Option.bind o _) e6).trans ?_;rw[ZAA];dsimp only;rw[e7,ZAA];cases hb4:(pB 16777216 s5).2.isNone with
 |true=>
  rw[hb4,ZAM] at eb;rw[<-eb] at f8;rw[ZAM,ZAA];dsimp only;refine(congrArg (fun o=>Option.bind o _) f8).trans ?_;have hz:rL rP b.length (rG 16777216 okP b.length s5)=none:=by
   cases hq:rG 16777216 okP b.length s5 with
   |none=>rfl
   |some q=>rw[hq] at eb;cases eb
  rw[hz]
  rfl
 |false=>
  rw[hb4,ZAK] at eb;rw[<-eb] at f8;rw[ZAK,ZAA];dsimp only;refine(congrArg (fun o=>Option.bind o _) f8).trans ?_;generalize rL rP b.length (rG 16777216 okP b.length s5)=R at*;cases R with
  |none=>rfl
  |some q=>
   rw[ZAA];dsimp only;rw[a8.nil,ZAC (fun h=>hne (by rw[h]))]
   rfl
end Go.Ab.D
set_option maxRecDepth 100000
set_option maxHeartbeats 4000000
namespace Go.Ab.D
open Go Go.Ab Go.P1 Go.P21 Go.P26
attribute [local irreducible] Go.P1.crcT tabI
def inB(n:Int):Bool:=decide (0<=n)&&decide (n<=4611686018427387904)
theorem pzZ(r:Int):∃n:Nat,IntKind.wrap .u64 r=(n:Int)/\n<18446744073709551616:=by
 have h:0<=IntKind.wrap .u64 r/\IntKind.wrap .u64 r<18446744073709551616:=by
  simp only[IntKind.wrap,IntKind.bits,IntKind.signed];simp;omega
 exact⟨(IntKind.wrap .u64 r).toNat,by omega,by omega⟩
def Wr(bad:Bool)(h:List UInt8)(k:Nat)(P:List UInt8->Prop)(bad':Bool)(h':List UInt8):Prop:=
 h'.length<=h.length+k/\(bad'=false->bad=false/\∃w,P w/\h'=h++w)
theorem biZ(T:List Int)(L:List Int)(hL:L.length<=1000)(bad:Bool)(h:List UInt8)(hh:h.length<=100000000):
 ∃bad' h',swriuin fuel L T bad h=some (T,(bad',h'))/\Wr bad h (10*L.length) (fun w=>(∀n∈L,0<=n/\n<=4611686018427387904)/\w=L.flatMap vi) bad' h':=by
 have key:=aHZ (f:=fun tt:Int×(List Int×(Bool×List UInt8))=>swriuin_l0 fuel L tt.1 tt.2.1 tt.2.2.1 tt.2.2.2)
  (fun k st=>∃bad' h',st=(((L.length-k:Nat):Int),(T,(bad',h')))/\k<=L.length/\h'.length<=h.length+10*(L.length-k)/\(bad'=false->bad=false/\(∀n∈L.take (L.length-k),0<=n/\n<=4611686018427387904)/\h'=h++(L.take (L.length-k)).flatMap vi))
  (fun o=>∃bad' h',o=(T,(bad',h'))/\Wr bad h (10*L.length) (fun w=>(∀n∈L,0<=n/\n<=4611686018427387904)/\w=L.flatMap vi) bad' h')
  (by
   rintro k _ ⟨bad',h',rfl,hk,hl,hx⟩;refine .inl ?_
   delta swriuin_l0
   have hi:L.length-(k+1)<L.length:=by omega
   have hy:L[L.length-(k+1)]? =some L[L.length-(k+1)]:=ZAI hi;generalize hr:L[L.length-(k+1)]=r at hy;obtain⟨m,hm,hm2⟩:=pzZ r;have hu:=c6Z (n:=m) hm2 (l:=h') (by omega);rw[<-hm] at hu;have hlen:=ajZ hm2;have ht:L.take (L.length-k)=L.take (L.length-(k+1))++[r]:=by
    have e:L.length-k=(L.length-(k+1))+1:=by omega
    rw[e,ZA3 hi,hr]
   have hw:IntKind.wrap .i64 (((L.length-(k+1):Nat):Int)+1)=((L.length-k:Nat):Int):=by
    rw[w64 (by omega)];omega
   refine⟨(((L.length-k:Nat):Int),(T,((bad'|| !inB r),h'++varint m))),?_,_,_,rfl,by omega,by rw[ZAJ];omega,fun hb=> ?_⟩
   ·dsimp only;rw[ZAD (show((L.length-(k+1):Nat):Int)<((L.length:Nat):Int) by omega),ZAM,auZ hi,ZAA,hy,ZAA];unfold inB;cases bad' with
    |true=>
     rw[ZAM,ZAA];dsimp only;rw[hu,ZAA,hw]
     rfl
    |false=>
     by_cases c1:r<0
     ·rw[ZAD c1,ZAC (show¬0<=r by omega),ZAK,ZAM,ZAA];dsimp only;rw[hu,ZAA,hw]
      rfl
     ·rw[ZAC c1,ZAD (show 0<=r by omega),ZAK,ZAK,ZAA];dsimp only;rw[hu,ZAA,hw];by_cases c2:r>4611686018427387904
      ·rw[ZAD c2,ZAC (show¬r<=4611686018427387904 by omega)];rfl
      ·rw[ZAC c2,ZAD (show r<=4611686018427387904 by omega)];rfl
   ·have hb1:bad'=false:=by cases bad' with|false=>rfl|true=>cases hb
    have hb2:inB r=true:=by rw[hb1] at hb;cases hc:inB r with|true=>rfl|false=>rw[hc] at hb;cases hb
    unfold inB at hb2;simp only[ZAB,ZAR] at hb2;obtain⟨g1,g2,g3⟩:=hx hb1;rw[wu64 (by omega)] at hm;refine⟨g1,fun n hn=> ?_,?_⟩
    ·rw[ht] at hn;rcases ZAd.1 hn with hn|hn
     ·exact g2 n hn
     ·rw[ZBF.1 hn];exact hb2
    ·rw[ht,List.flatMap_append,g3,ZAh];have:m=r.toNat:=by omega
     rw[this];simp[vi])
  (by
   rintro _ ⟨bad',h',rfl,hk,hl,hx⟩
   delta swriuin_l0
   dsimp only;rw[ZAC (show¬((L.length-0:Nat):Int)<((L.length:Nat):Int) by omega)];refine⟨_,rfl,bad',h',rfl,by simpa using hl,fun hb=> ?_⟩;obtain⟨g1,g2,g3⟩:=hx hb;rw[Nat.sub_zero,ZBP] at g2 g3;exact⟨g1,_,⟨g2,rfl⟩,g3⟩) L.length (0,(T,(bad,h))) (by omega) ⟨bad,h,by rw[Nat.sub_self];rfl,ZAL _,by omega,fun hb=>⟨hb,by simp,by simp⟩⟩
 obtain⟨o,ho,bad',h',rfl,hw⟩:=key;refine⟨bad',h',?_,hw⟩
 delta swriuin
 exact(congrArg (fun o=>Option.bind o _) ho).trans rfl
end Go.Ab.D
set_option maxRecDepth 100000
set_option maxHeartbeats 4000000
namespace Go.Ab.D
open Go Go.Ab Go.P1 Go.P21 Go.P26
attribute [local irreducible] Go.P1.crcT tabI
theorem Wr.trans{b1 b2 b3:Bool}{h1 h2 h3:List UInt8}{k l:Nat}{P Q R:List UInt8->Prop}(x:Wr b1 h1 k P b2 h2)(y:Wr b2 h2 l Q b3 h3)(hR:∀v w,P v->Q w->R (v++w)):Wr b1 h1 (k+l) R b3 h3:=by
 refine⟨by have:=x.1;have:=y.1;omega,fun hb=> ?_⟩;obtain⟨g1,w,gw,rfl⟩:=y.2 hb;obtain⟨g2,v,gv,rfl⟩:=x.2 g1;exact⟨g2,v++w,hR v w gv gw,ZAh ..⟩
theorem Wr.mono{b1 b2:Bool}{h1 h2:List UInt8}{k l:Nat}{P Q:List UInt8->Prop}(x:Wr b1 h1 k P b2 h2)(hk:k<=l)(hQ:∀w,P w->Q w):Wr b1 h1 l Q b2 h2:=
 ⟨by have:=x.1;omega,fun hb=>by obtain⟨g1,w,gw,e⟩:=x.2 hb;exact⟨g1,w,hQ w gw,e⟩⟩
theorem dvZ(n:Nat):vi (n:Int)=varint n:=by unfold vi;rw[Int.toNat_natCast]
theorem dUZ(n:Int):0<(vi n).length:=d8Z _
theorem lKZ{τ ο:Type}{f:τ->Option (τ⊕ο)}(n:Nat)(S:Nat->Bool->List UInt8->τ)(E:Bool->List UInt8->ο)(r:Go.P26.Rd)(K B:Nat)(hn:n<=1000000)
 (hs:∀i,i<n->∀bad h,h.length<=B->∃bad' h',f (S i bad h)=some (.inl (S (i+1) bad' h'))/\Wr bad h K (fun w=>Pt r w/\0<w.length) bad' h')
 (he:∀bad h,f (S n bad h)=some (.inr (E bad h)))(bad:Bool)(h:List UInt8)(hb:h.length+n*K<=B):
 ∃bad' h',iter fuel f (S 0 bad h)=some (E bad' h')/\Wr bad h (n*K) (fun w=>∃ws:List (List UInt8),ws.length=n/\(∀x∈ws,Pt r x/\0<x.length)/\w=ws.flatMap id) bad' h':=by
 have key:=aHZ (f:=f)
  (fun k st=>∃bad' h',st=S (n-k) bad' h'/\k<=n/\Wr bad h ((n-k)*K) (fun w=>∃ws:List (List UInt8),ws.length=n-k/\(∀x∈ws,Pt r x/\0<x.length)/\w=ws.flatMap id) bad' h')
  (fun o=>∃bad' h',o=E bad' h'/\Wr bad h (n*K) (fun w=>∃ws:List (List UInt8),ws.length=n/\(∀x∈ws,Pt r x/\0<x.length)/\w=ws.flatMap id) bad' h')
  (by
   rintro k _ ⟨b1,h1,rfl,hk,hw⟩;have e:n-k=n-(k+1)+1:=by omega
   have hm:(n-(k+1))*K<=n*K:=Nat.mul_le_mul (by omega) (ZAL _);obtain⟨b2,h2,e2,w2⟩:=hs (n-(k+1)) (by omega) b1 h1 (by have:=hw.1;omega);refine .inl ⟨_,e2,b2,h2,by rw[e],by omega,?_⟩;have hK:(n-k)*K=(n-(k+1))*K+K:=by rw[e,ZBG,Nat.one_mul]
   rw[hK];refine hw.trans w2 ?_;rintro v w ⟨ws,g1,g2,rfl⟩ hq;refine⟨ws++[w],by rw[ZAJ,g1];simp;omega,fun x hx=> ?_,by rw[List.flatMap_append];simp⟩;rcases ZAd.1 hx with hx|hx
   ·exact g2 x hx
   ·rw[ZBF.1 hx];exact hq)
  (by
   rintro _ ⟨b1,h1,rfl,hk,hw⟩;exact⟨_,he b1 h1,b1,h1,rfl,hw⟩) n (S 0 bad h) (by omega) ⟨bad,h,by rw[Nat.sub_self],ZAL _,by
    rw[Nat.sub_self,ZBD];exact⟨ZAL _,fun hb=>⟨hb,[],⟨[],rfl,by simp,rfl⟩,by simp⟩⟩⟩
 obtain⟨o,ho,b1,h1,rfl,hw⟩:=key;exact⟨b1,h1,ho,hw⟩
theorem hZZ{r:Go.P26.Rd}{n:Nat}(hn:n<=1000000){w:List UInt8}(h:∃ws:List (List UInt8),ws.length=n/\(∀x∈ws,Pt r x/\0<x.length)/\w=ws.flatMap id):Pt (rL r) (varint n++w):=by
 obtain⟨ws,rfl,g,rfl⟩:=h;exact ptL ws (by omega) (fun x hx=>(g x hx).1) fun x hx=>(g x hx).2
theorem g6Z(T:List Int)(b:List UInt8)(e:Int)(bad:Bool)(h:List UInt8)(hh:h.length+b.length+10<=140737488355328)(hb:b.length<=100000000):
 ∃bad' h',swriblo fuel b e T bad h=some (T,(bad',h'))/\Wr bad h (b.length+10) (fun w=>e=0/\w=blobB b) bad' h':=by
 have hv:=ajZ (n:=b.length) (by omega);refine⟨bad|| !(e==0),h++varint b.length++b,?_,?_,fun hx=> ?_⟩
 ·delta swriblo
  cases bad with
  |true=>
   rw[ZAM,ZAA];dsimp only;rw[cdZ hh]
   rfl
  |false=>
   rw[ZAK,ZAA];dsimp only;rw[cdZ hh]
   rfl
 ·rw[ZAJ,ZAJ];omega
 ·rw[ZAu] at hx;refine⟨hx.1,blobB b,⟨?_,rfl⟩,by unfold blobB;rw[ZAh]⟩;have:=hx.2;simpa using this
theorem kdZ(T:List Int)(L:List (Int×Int))(hL:L.length<=1000)(bad:Bool)(h:List UInt8)(hh:h.length<=50000000):
 ∃bad' h',swripar fuel L T bad h=some (T,(bad',h'))/\Wr bad h (10+L.length*20) (fun w=>Pt (rL rP) w) bad' h':=by
 obtain⟨b1,h1,e1,w1⟩:=biZ T [((L.length:Nat):Int)] (by simp) bad h (by omega);obtain⟨b2,h2,e2,w2⟩:=lKZ (f:=fun tt:Int×(List Int×(Bool×List UInt8))=>swripar_l0 fuel L tt.1 tt.2.1 tt.2.2.1 tt.2.2.2) L.length (fun i b h=>((i:Int),(T,(b,h)))) (fun b h=>(T,(b,h))) rP 20 100000000 (by omega)
  (by
   intro i hi b h hh;have hy:L[i]? =some L[i]:=ZAI hi;obtain⟨b3,h3,e3,w3⟩:=biZ T [L[i].1,L[i].2] (by simp) b h (by omega);refine⟨b3,h3,?_,w3.mono (by simp) ?_⟩
   ·dsimp only
    delta swripar_l0
    rw[ZAD (show(i:Int)<((L.length:Nat):Int) by omega),ZAM,auZ hi,ZAA,hy,ZAA,e3,ZAA,w64 (by omega)]
    rfl
   ·rintro w ⟨g,rfl⟩;have g1:=g L[i].1 (by simp);have g2:=g L[i].2 (by simp);have e:[L[i].1,L[i].2].flatMap vi=vi L[i].1++vi L[i].2:=by simp
    rw[e];exact⟨(ptN g1.1 g1.2).sq (ptN g2.1 g2.2),by rw[ZAJ];have:=dUZ L[i].1;omega⟩)
  (by
   intro b h;dsimp only
   delta swripar_l0
   rw[ZAC (by omega)]
   rfl) b1 h1 (by have:=w1.1;simp at this;omega)
 refine⟨b2,h2,?_,w1.trans w2 ?_⟩
 ·delta swripar
  rw[e1,ZAA];exact(congrArg (fun o=>Option.bind o _) e2).trans rfl
 ·rintro v w ⟨g,rfl⟩ hq;have e:[((L.length:Nat):Int)].flatMap vi=varint L.length:=by simp[dvZ]
  rw[e];exact hZZ (by omega) hq
end Go.Ab.D
set_option maxRecDepth 100000
set_option maxHeartbeats 4000000
namespace Go.Ab.D
open Go Go.Ab Go.P1 Go.P21 Go.P26
attribute [local irreducible] Go.P1.crcT tabI
abbrev Ino26:=Int×(Int×(Bool×(Bool×(Int×(List (Int×Int)×(Int×List (List UInt8×Int)))))))
theorem ptH{g k s p:Int}(hg:0<=g/\g<=4611686018427387904)(hk:0<=k/\k<=2)(hs:0<=s/\s<=4611686018427387904)(hp:0<=p/\p<=4611686018427387904):Pt rH ([g,k,s,p].flatMap vi):=fun N r _=>by
 have e:[g,k,s,p].flatMap vi++r=vi g++(vi k++(vi s++(vi p++r))):=by simp
 rw[e];unfold rH;rw[bAZ hg.1 hg.2];dsimp only;rw[bAZ hk.1 (by omega)];dsimp only;rw[bAZ hs.1 hs.2];dsimp only;rw[bAZ hp.1 hp.2];dsimp only;rw[ZAO (by omega)]
theorem lcZ(T:List Int)(o2:List Int×(Bool×(List UInt8×Ino26)))(E:List (List UInt8×Int))(hE:o2.2.2.2.2.2.2.2.2.2.2=E)(hl:E.length<=120)(hn:∀x∈E,x.1.length<=3000)(bad:Bool)(h:List UInt8)(hh:h.length<=90000000):
 ∃bad' h',swriino_l0_it fuel o2 (0,(T,(bad,h)))=some (T,(bad',h'))/\Wr bad h (E.length*3020) (fun w=>∃ws:List (List UInt8),ws.length=E.length/\(∀x∈ws,Pt rE x/\0<x.length)/\w=ws.flatMap id) bad' h':=by
 refine lKZ (f:=fun tt:Int×(List Int×(Bool×List UInt8))=>swriino_l0 fuel o2 tt.1 tt.2.1 tt.2.2.1 tt.2.2.2) E.length (fun i b h=>((i:Int),(T,(b,h)))) (fun b h=>(T,(b,h))) rE 3020 99000000 (by omega) ?_ ?_ bad h (by omega)
 ·intro i hi b h hh;have hy:E[i]? =some E[i]:=ZAI hi;have hx:=hn E[i] (ZBA hi);dsimp only
  delta swriino_l0
  rw[hE,ZAD (show(i:Int)<((E.length:Nat):Int) by omega),ZAM,auZ hi,ZAA,hy,ZAA];have hroom:Nat.ble E[i].1.length room=true:=aEZ (by unfold room;omega);generalize E[i]=e at*;have go:∀b0:Bool,∃bad' h',((swriblo fuel e.1 0 T b0 h).bind fun r4=>(swriuin fuel [e.2] r4.1 r4.2.1 r4.2.2).bind fun r5=>some (Sum.inl (IntKind.wrap .i64 ((i:Int)+1),r5)):Option ((Int×(List Int×(Bool×List UInt8)))⊕(List Int×(Bool×List UInt8))))=some (.inl (((i+1:Nat):Int),(T,(bad',h'))))/\Wr b0 h 3020 (fun w=>∃q,(0<=e.2/\e.2<=4611686018427387904)/\q=vi e.2/\w=blobB e.1++q) bad' h':=fun b0=>by
   obtain⟨b3,h3,e3,w3⟩:=g6Z T e.1 0 b0 h (by omega) (by omega);obtain⟨b4,h4,e4,w4⟩:=biZ T [e.2] (by simp) b3 h3 (by have:=w3.1;omega);refine⟨b4,h4,?_,(w3.trans w4 (R:=fun w=>∃q,(0<=e.2/\e.2<=4611686018427387904)/\q=vi e.2/\w=blobB e.1++q) ?_).mono (by simp;omega) fun w h=>h⟩
   ·rw[e3,ZAA];dsimp only;rw[e4,ZAA,w64 (by omega)]
    rfl
   ·rintro v w ⟨_,rfl⟩ ⟨g,rfl⟩;exact⟨_,g e.2 (by simp),rfl,by simp⟩
  cases b with
  |true=>
   obtain⟨b3,h3,e3,w3⟩:=go true;refine⟨b3,h3,?_,⟨w3.1,fun hb=>by have:=(w3.2 hb).1;cases this⟩⟩;rw[ZAM,ZAA];exact(alZ hroom).trans e3
  |false=>
   obtain⟨b3,h3,e3,w3⟩:=go (decide (((e.1.length:Nat):Int)>100));refine⟨b3,h3,?_,⟨w3.1,fun hb=> ?_⟩⟩
   ·rw[ZAK,ZAA];exact(alZ hroom).trans e3
   ·obtain⟨g1,w,⟨q,g2,rfl,rfl⟩,g3⟩:=w3.2 hb;have g4:=of_decide_eq_false g1;refine⟨rfl,_,⟨(ptB (by omega) (by omega)).sq (ptN g2.1 g2.2),?_⟩,g3⟩;rw[ZAJ];have:=dUZ e.2;omega
 ·intro b h;dsimp only
  delta swriino_l0
  rw[hE,ZAC (by omega)]
  rfl
theorem oaZ(T:List Int)(i:Int)(n:Ino26)(hp:n.2.2.2.2.2.1.length<=120)(hl:n.2.2.2.2.2.2.2.length<=120)(hn:∀x∈n.2.2.2.2.2.2.2,x.1.length<=3000)(bad:Bool)(h:List UInt8)(hh:h.length<=49000000):
 ∃bad' h',swriino fuel i n T bad h=some (T,(bad',h'))/\Wr bad h 370000 (fun w=>Pt rI w/\0<w.length) bad' h':=by
 obtain⟨id,gen,used,dir,size,parts,parent,ents⟩:=n;dsimp only at hp hl hn;have go:∀(k:Int) (b0:Bool),(0<=k/\k<=2)->∃bad' h',((swriuin fuel [gen,k,size,parent] T b0 h).bind fun r=>(swripar fuel parts r.1 r.2.1 r.2.2).bind fun r1=>(swriuin fuel [((ents.length:Nat):Int)] r1.1 r1.2.1 r1.2.2).bind fun r2=>(swriino_l0_it fuel (T,(b0,(h,(id,(gen,(used,(dir,(size,(parts,(parent,ents)))))))))) (0,r2)).bind fun o4=>some o4)=some (T,(bad',h'))/\Wr b0 h 370000 (fun w=>Pt rI w/\0<w.length) bad' h':=fun k b0 hk=>by
  obtain⟨b1,h1,e1,w1⟩:=biZ T [gen,k,size,parent] (by simp) b0 h (by omega);have q1:h1.length<=h.length+40:=w1.1;obtain⟨b2,h2,e2,w2⟩:=kdZ T parts (by omega) b1 h1 (by omega);have q2:=w2.1;obtain⟨b3,h3,e3,w3⟩:=biZ T [((ents.length:Nat):Int)] (by simp) b2 h2 (by omega);have q3:h3.length<=h2.length+10:=w3.1;obtain⟨b4,h4,e4,w4⟩:=lcZ T (T,(b0,(h,(id,(gen,(used,(dir,(size,(parts,(parent,ents)))))))))) ents rfl hl hn b3 h3 (by omega);refine⟨b4,h4,?_,?_⟩
  ·rw[e1,ZAA];dsimp only;rw[e2,ZAA];dsimp only;rw[e3,ZAA,e4]
   rfl
  ·have wl:=w3.trans w4 (R:=fun w=>Pt (rL rE) w) (by
    rintro v w ⟨g,rfl⟩ hq;have e:[((ents.length:Nat):Int)].flatMap vi=varint ents.length:=by simp[dvZ]
    rw[e];exact hZZ (by omega) hq)
   have wh:=w1.mono (l:=40) (Q:=fun w=>Pt rH w/\0<w.length) (ZAL _) (by
    rintro w ⟨g,rfl⟩;refine⟨ptH (g gen (by simp)) hk (g size (by simp)) (g parent (by simp)),?_⟩;rw[ZBC,ZAJ];have:=dUZ gen;omega)
   refine(wh.trans (w2.trans wl (R:=fun w=>Pt (sq (rL rP) (rL rE)) w) fun v w hv hw=>hv.sq hw) (R:=fun w=>Pt rI w/\0<w.length) ?_).mono ?_ fun w h=>h
   ·rintro v w ⟨hv,hv0⟩ hw;exact⟨hv.sq hw,by rw[ZAJ];omega⟩
   ·simp only[List.length_singleton];omega
 delta swriino
 dsimp only;have fin:∀(k:Int) (b0:Bool),(0<=k/\k<=2)->(b0=false->bad=false)->∃bad' h',((swriuin fuel [gen,k,size,parent] T b0 h).bind fun r=>(swripar fuel parts r.1 r.2.1 r.2.2).bind fun r1=>(swriuin fuel [((ents.length:Nat):Int)] r1.1 r1.2.1 r1.2.2).bind fun r2=>(swriino_l0_it fuel (T,(b0,(h,(id,(gen,(used,(dir,(size,(parts,(parent,ents)))))))))) (0,r2)).bind fun o4=>some o4)=some (T,(bad',h'))/\Wr bad h 370000 (fun w=>Pt rI w/\0<w.length) bad' h':=fun k b0 hk hb=>by
  obtain⟨b4,h4,e4,w4⟩:=go k b0 hk;exact⟨b4,h4,e4,w4.1,fun hx=>by obtain⟨g1,g2⟩:=w4.2 hx;exact⟨hb g1,g2⟩⟩
 cases bad with
 |true=>
  cases dir with
  |true=>cases used with
   |true=>exact fin 2 true (by omega) (fun h=>by cases h)
   |false=>exact fin 2 true (by omega) (fun h=>by cases h)
  |false=>cases used with
   |true=>exact fin 1 true (by omega) (fun h=>by cases h)
   |false=>exact fin 0 true (by omega) (fun h=>by cases h)
 |false=>
  cases dir with
  |true=>cases used with
   |true=>
    dsimp only[cond_true,cond_false,Option.bind_some];cases id==IntKind.wrap .i64 (i+1) with
    |false=>exact fin 2 true (by omega) (fun h=>by cases h)
    |true=>exact fin 2 false (by omega) (fun _=>rfl)
   |false=>
    dsimp only[cond_true,cond_false,Option.bind_some];cases id==IntKind.wrap .i64 (i+1) with
    |false=>exact fin 2 true (by omega) (fun h=>by cases h)
    |true=>exact fin 2 true (by omega) (fun h=>by cases h)
  |false=>cases used with
   |true=>
    dsimp only[cond_true,cond_false,Option.bind_some];cases id==IntKind.wrap .i64 (i+1) with
    |false=>exact fin 1 true (by omega) (fun h=>by cases h)
    |true=>exact fin 1 false (by omega) (fun _=>rfl)
   |false=>
    dsimp only[cond_true,cond_false,Option.bind_some];cases id==IntKind.wrap .i64 (i+1) with
    |false=>exact fin 0 true (by omega) (fun h=>by cases h)
    |true=>exact fin 0 false (by omega) (fun _=>rfl)
end Go.Ab.D
set_option maxRecDepth 100000
set_option maxHeartbeats 4000000
namespace Go.Ab.D
open Go Go.Ab Go.P1 Go.P21 Go.P26
attribute [local irreducible] Go.P1.crcT tabI
theorem e7Z{α:Type}(w:α->List UInt8)(K:Nat):∀(L:List α),(∀x∈L,(w x).length<=K)->(L.flatMap w).length<=L.length*K
 |[],_=>by simp
 |x::L,h=>by
  have h1:=e7Z w K L fun y hy=>h y (ZAP _ hy);have h2:=h x ZAa;rw[ZBC,ZAJ,ZAl,ZBG];omega
theorem mpZ{n:Int}(h:0<=n/\n<=4611686018427387904):(vi n).length<=10:=ajZ (by omega)
theorem i2Z{α:Type}(w:α->List UInt8)(L:List α)(k:Nat)(hk:k<L.length):(L.take (k+1)).flatMap w=(L.take k).flatMap w++w L[k]:=by
 rw[ZA3 hk,List.flatMap_append];simp
theorem nDZ{n:Int}(h:0<=n/\n<=4611686018427387904){l:List UInt8}(hl:l.length<=100000000):bUino0 fuel (IntKind.wrap .u64 n) l=some (l++vi n):=by
 rw[wu64 (by omega)];obtain⟨m,rfl⟩:∃m:Nat,n=m:=⟨n.toNat,by omega⟩;rw[c6Z (by omega) (by omega),dvZ]
theorem i6Z{p:PlT}(h:PlP p):(placeB p).length<=2600:=by
 unfold placeB;have h1:=mpZ (n:=p.1) (by have:=h.1;omega);have h2:=ajZ (n:=p.2.length) (by have:=h.2.1;omega);have h3:=e7Z vi 10 p.2 fun n hn=>mpZ (by have:=h.2.2 n hn;omega);have h4:=h.2.1;rw[ZAJ,ZAJ];omega
theorem kuZ{l:List PlT}(hl:l.length<=1000)(h:∀p∈l,PlP p):(placesB l).length<=2600010:=by
 unfold placesB;have h2:=ajZ (n:=l.length) (by omega);have h3:=e7Z placeB 2600 l fun p hp=>i6Z (h p hp);rw[ZAJ];omega
theorem g7Z(l:List PlT)(hl:∀p∈l,p.2.length<=100000000):pByt fuel l=some (bif allP l then(0,placesB l) else(100,[])):=by
 delta pByt
 rw[epZ l hl,ZAA];cases hA:allP l with
 |false=>rfl
 |true=>
  obtain⟨⟨h1,h2⟩,h3⟩:=jfZ hA hl;have e1:bUinn0 fuel (IntKind.wrap .u64 ((l.length:Nat):Int))=some (varint l.length):=by
   have:=nDZ (n:=((l.length:Nat):Int)) (l:=[]) (by omega) (by simp);rw[ZAw,dvZ] at this;exact this
  have e2:pByt_l1_it fuel l (0,varint l.length)=some (placesB l):=by
   delta pByt_l1_it
   have hv:=ajZ (n:=l.length) (by omega);have hle:∀k,(varint l.length++(l.take k).flatMap placeB).length<=2600010:=fun k=>by
    have:=e7Z placeB 2600 (l.take k) fun p hp=>i6Z (h3 p (ZBK hp));rw[ZAJ];have:(l.take k).length<=1000:=by rw[ZAe];omega
    omega
   have:=bgZ (f:=fun tt:Int×List UInt8=>pByt_l1 fuel l tt.1 tt.2) (o:=placesB l) (fun k:Nat=>((k:Int),varint l.length++(l.take k).flatMap placeB)) l.length (by omega) (by
    intro k hk;have hy:l[k]? =some l[k]:=ZAI hk;have hp:=h3 l[k] (ZBA hk);have hh:=hle k;dsimp only;rw[i2Z placeB l k hk,<-List.append_assoc];generalize varint l.length++(l.take k).flatMap placeB=h at*
    delta pByt_l1
    rw[ZAD (show(k:Int)<((l.length:Nat):Int) by omega),ZAM,auZ hk,ZAA,hy,ZAA];generalize l[k]=p at*;obtain⟨⟨g1,g2⟩,⟨g3,g4⟩,g5⟩:=hp;have l1:=mpZ (n:=p.1) (by omega);have l2:=mpZ (n:=((p.2.length:Nat):Int)) (by omega);rw[nDZ (by omega) (by omega),ZAA,nDZ (by omega) (by rw[ZAJ];omega),ZAA];have e3:pByt_l0_it fuel p (0,h++vi p.1++vi ((p.2.length:Nat):Int))=some (h++placeB p):=by
     delta pByt_l0_it
     have hl0:(h++vi p.1++vi ((p.2.length:Nat):Int)).length<=3000000:=by rw[ZAJ,ZAJ];omega
     have e0:h++placeB p=h++vi p.1++vi ((p.2.length:Nat):Int)++p.2.flatMap vi:=by unfold placeB;rw[dvZ];simp
     rw[e0];generalize h++vi p.1++vi ((p.2.length:Nat):Int)=h' at*;have:=bgZ (f:=fun tt:Int×List UInt8=>pByt_l0 fuel p tt.1 tt.2) (o:=h'++p.2.flatMap vi) (fun k:Nat=>((k:Int),h'++(p.2.take k).flatMap vi)) p.2.length (by omega) (by
      intro j hj;have hz:p.2[j]? =some p.2[j]:=ZAI hj;have hn:=g5 p.2[j] (ZBA hj);have hle2:=e7Z vi 10 (p.2.take j) fun n hn=>mpZ (by have:=g5 n (ZBK hn);omega);have:(p.2.take j).length<=255:=by rw[ZAe];omega
      dsimp only;rw[i2Z vi p.2 j hj]
      delta pByt_l0
      rw[ZAD (show(j:Int)<((p.2.length:Nat):Int) by omega),ZAM,auZ hj,ZAA,hz,ZAA,nDZ (by omega) (by rw[ZAJ];omega),ZAA,w64 (by omega),ZAh]
      rfl) (by
      dsimp only
      delta pByt_l0
      rw[ZAC (by omega),ZBP]
      rfl)
     simpa using this
    rw[e3,ZAA,w64 (by omega)]
    rfl) (by
    dsimp only
    delta pByt_l1
    rw[ZAC (by omega),ZBP]
    rfl)
   simpa using this
  show(bUinn0 fuel _).bind _=_;rw[e1,ZAA,e2]
  rfl
end Go.Ab.D
set_option maxRecDepth 100000
set_option maxHeartbeats 4000000
namespace Go.Ab.D
open Go Go.Ab Go.P1 Go.P21 Go.P26
attribute [local irreducible] Go.P1.crcT tabI
theorem lNZ{r:ReplyT}(h:(putReply crcT r).1=0):okR (putReply crcT r).2=true/\(putReply crcT r).2.length<=17005:=by
 unfold putReply at h⊢;cases hr:rightReply r with
 |false=>rw[hr,ZAO (by simp)] at h;cases h
 |true=>
  rw[ZAV rfl];have:=fXZ (f2Z hr);refine⟨?_,by show(sealed (P1.sum crcT) (4::replyB r)).length<=_;rw[goZ,ZAl];omega⟩;unfold okR;show((getReply crcT (sealed (P1.sum crcT) (4::replyB r))).2==0)=true;rw[j5Z,mGZ hr]
  rfl
theorem hRZ(r:ReplyT):(putReply crcT r).2.length<=17005:=by
 by_cases h:(putReply crcT r).1=0
 ·exact(lNZ h).2
 ·unfold putReply at h⊢;cases hr:rightReply r with
  |false=>rw[ZAO (by simp)];simp
  |true=>rw[hr,ZAV rfl] at h;exact absurd rfl h
end Go.Ab.D
set_option maxRecDepth 100000
set_option maxHeartbeats 4000000
namespace Go.P26
open Go.P1 Go.P21
def rIf(k:Nat)(f g:Rd):Rd:=fun N s=>if(pN s).1=k then g N (sq rN f N s) else sq rN f N s
theorem exIf{k:Nat}{f g:Rd}(hf:Ex f)(sf:St f)(hg:Ex g)(sg:St g):Ex (rIf k f g):=fun N M l r e h q=>by
 unfold rIf at q⊢;have he:Ex (sq rN f):=exN.sq hf sf;cases hx:(pN (some l)).2 with
 |none=>
  have hz:sq rN f N (some l)=none:=by show f N (pN (some l)).2=none;rw[hx,sf]
  rw[hz,sg] at q;split at q<;>cases q
 |some x=>
  rw[valN hx];by_cases hk:(pN (some l)).1=k
  ·rw[if_pos hk] at q⊢;exact(Ex.sq he hg sg) N M l r e h q
  ·rw[if_neg hk] at q⊢;exact he N M l r e h q
theorem ptIf{k:Nat}{f g:Rd}{n:Int}(h0:0<=n)(hn:n<=4611686018427387904){v w:B8}(hf:Pt f v)(hg:Pt g w)(hk:n.toNat=k):Pt (rIf k f g) (vi n++v++w):=fun N r h=>by
 have h1:=Pt.sq (Pt.sq (ptN h0 hn) hf) hg N r h;unfold rIf;have e:(pN (some (vi n++v++w++r))).1=n.toNat:=by
  rw[List.append_assoc,List.append_assoc,bAZ h0 hn]
 rw[e,if_pos hk];exact h1
theorem qcZ{k:Nat}{f g:Rd}{n:Int}(h0:0<=n)(hn:n<=4611686018427387904){v:B8}(hf:Pt f v)(hk:n.toNat≠k):Pt (rIf k f g) (vi n++v):=fun N r h=>by
 have h1:=Pt.sq (ptN h0 hn) hf N r h;unfold rIf;have e:(pN (some (vi n++v++r))).1=n.toNat:=by
  rw[List.append_assoc,bAZ h0 hn]
 rw[e,if_neg hk];exact h1
end Go.P26
namespace Go.Ab.D
open Go Go.Ab Go.P1 Go.P21 Go.P26
attribute [local irreducible] Go.P1.crcT tabI
def okC(b:List UInt8):Bool:=(getCall crcT b).2==0
def rC:Go.P26.Rd:=rG 16777216 okC
def rTail:Go.P26.Rd:=sq rN (sq rN (sq rN (sq rN (rL rN))))
def rChange:Go.P26.Rd:=rIf 2 rTail rC
theorem pAZ:Go.P26.St rTail:=stN.sq (stN.sq (stN.sq (stN.sq (stL rN))))
theorem pKZ:Go.P26.Ex rTail:=exN.sq (exN.sq (exN.sq (exN.sq (exL exN stN) (stL rN)) (stN.sq (stL rN))) (stN.sq (stN.sq (stL rN)))) (stN.sq (stN.sq (stN.sq (stL rN))))
theorem nzZ:Go.P26.Ex rChange:=exIf pKZ pAZ (exG (by omega) okC) (stG _ _)
abbrev OutG:=Int×(Int×(Int×(Int×(Int×(Int×(Int×(List UInt8×(Int×(Int×(List UInt8×(Int×(Int×(List UInt8×(List Int×(Int×(Int×(Int×Int)))))))))))))))))
theorem dfZ{b:List UInt8}(hb:b.length<=100000000)(hne:rChange b.length (some b)≠some []):
 ∃o:OutG,sGetCha fuel (tabI crcT) b=some o/\o.2.2.2.2.2.2.2.2.2.2.2.2.2.2.2.2.2.2=10:=by
 have h0:At b 0 (some b):=⟨by omega,fun r hr=>by cases hr;rfl⟩;obtain⟨p1,e1,a1⟩:=a4Z (tabI crcT) (by omega) h0;obtain⟨p2,e2,a2⟩:=a4Z (tabI crcT) (by omega) a1;obtain⟨p3,e3,a3⟩:=a4Z (tabI crcT) (by omega) a2;obtain⟨p4,e4,a4⟩:=a4Z (tabI crcT) (by omega) a3;obtain⟨p5,e5,a5⟩:=a4Z (tabI crcT) (by omega) a4;obtain⟨p6,x6,e6,a6⟩:=laZ (tabI crcT) hb a5;have f1:sreanumo1 fuel (tabI crcT) b 0 false 0 0 0 0 0 0 0 [] 0 0 [] 0 0 0 0 0 0=some (tabI crcT,(b,(p5,((pN (pN (pN (pN (pN (some b)).2).2).2).2).2.isNone,(((pN (some b)).1:Int),(((pN (pN (some b)).2).1:Int),(0,(0,(0,(0,(0,([],(0,(0,([],(0,(0,(0,(((pN (pN (pN (pN (some b)).2).2).2).1:Int),(((pN (pN (pN (pN (pN (some b)).2).2).2).2).1:Int),((pN (pN (pN (some b)).2).2).1:Int))))))))))))))))))))):=by
  delta sreanumo1
  refine(congrArg (fun o=>Option.bind o _) e1).trans ?_;rw[ZAA];dsimp only;rw[e2,ZAA];dsimp only;rw[e3,ZAA];dsimp only;rw[e4,ZAA];dsimp only;rw[e5]
  rfl
 have hT:sq rN rTail b.length (some b)=rL rN b.length (pN (pN (pN (pN (pN (some b)).2).2).2).2).2:=rfl;unfold rChange rIf at hne;rw[hT] at hne;generalize pN (pN (pN (pN (pN (some b)).2).2).2).2=s5 at*;generalize rL rN b.length s5.2=s6 at*;have hbl:=jJZ (most:=16777216) (by omega) s6
 delta sGetCha
 rw[f1,ZAA];dsimp only;rw[e6,ZAA];by_cases hk:(pN (some b)).1=2
 ·rw[ZAV hk] at hne;dsimp only;obtain⟨p7,e7,a7⟩:=edZ (tabI crcT) (by omega) (most:=16777216) (by omega) a6
  replace e7:sreablo fuel 16777216 (tabI crcT) b p6 s6.isNone=_:=e7
  have e8:=kTZ deZ (b:=(pB 16777216 s6).1) (by omega);rw[show((((pN (some b)).1:Nat):Int)==2)=true by rw[hk];rfl,ZAM,e7,ZAA];dsimp only;rw[e8,ZAA];cases h4:(pB 16777216 s6).2 with
  |none=>exact⟨_,rfl,rfl⟩
  |some q=>
   by_cases hc:(getCall crcT (pB 16777216 s6).1).2=0
   ·have hq:rC b.length s6=some q:=by
     unfold rC rG okC;rw[h4,hc]
     rfl
    rw[hq] at hne;have hp:(p7==((b.length:Nat):Int))=false:=by
     rw[h4] at a7;rw[a7.nil,ZAC (fun h=>hne (by rw[h]))]
    generalize getCall crcT (pB 16777216 s6).1=g at*;obtain⟨gc,ge⟩:=g;dsimp only at hc;subst hc;dsimp only[outC,cond_false,cond_true,Option.bind_some,Option.isNone_some];rw[hp];exact⟨_,rfl,rfl⟩
   ·generalize getCall crcT (pB 16777216 s6).1=g at*;obtain⟨gc,ge⟩:=g;dsimp only at hc;have hp:((ge:Int)==0)=false:=ZBV (by omega);dsimp only[outC,cond_false,cond_true,Option.bind_some,Option.isNone_some];rw[hp];exact⟨_,rfl,rfl⟩
 ·rw[ZAO hk] at hne;dsimp only;rw[ZBV (show(((pN (some b)).1:Nat):Int)≠2 by omega)];rw[ZAK,ZAA];cases h4:s6 with
  |none=>exact⟨_,rfl,rfl⟩
  |some q=>
   rw[h4] at hne a6;dsimp only[Option.isNone_some,cond_false];rw[a6.nil,ZAC (fun h=>hne (by rw[h]))];exact⟨_,rfl,rfl⟩
end Go.Ab.D
set_option maxRecDepth 100000
set_option maxHeartbeats 4000000
namespace Go.Ab.D
open Go Go.Ab Go.P1 Go.P21 Go.P26
attribute [local irreducible] Go.P1.crcT tabI
abbrev Kept26:=Int×(Int×List ReplyT)
def RepFits(r:ReplyT):Prop:=r.2.2.2.2.2.2.1.length<=100000000/\r.2.2.2.2.2.2.2.1.length<=100000000
theorem nLZ(T:List Int)(r:ReplyT)(hr:RepFits r)(bad:Bool)(h:List UInt8)(hh:h.length<=100000000):
 ∃bad' h',(cPutRep fuel (tabI crcT) r).bind (fun r7=>swriblo fuel r7.2 r7.1 T bad h)=some (T,(bad',h'))/\Wr bad h 17015 (fun w=>Pt rR w/\0<w.length) bad' h':=by
 have hl:=hRZ r;obtain⟨b1,h1,e1,w1⟩:=g6Z T (putReply crcT r).2 ((putReply crcT r).1:Int) bad h (by omega) (by omega);refine⟨b1,h1,?_,w1.mono (by omega) ?_⟩
 ·rw[jdZ deZ (by have:=hr.1;omega) (by have:=hr.2;omega),ZAA];exact e1
 ·rintro w ⟨g,rfl⟩;have g0:(putReply crcT r).1=0:=by omega
  obtain⟨k1,k2⟩:=lNZ g0;refine⟨ptG (by omega) (by omega) k1,?_⟩;unfold blobB;rw[ZAJ];have:=d8Z (putReply crcT r).2.length;omega
theorem lfZ(R4:Kept26)(hn:R4.2.2.length<=30)(hr:∀x∈R4.2.2,RepFits x)(T:List Int)(c1:Int)(c2:List Ino26)(c3 c4:Int)(c5:List Kept26)(c6:List PlT)(c7:List (Int×Int))(bad:Bool)(h:List UInt8)(hh:h.length<=90000000):
 ∃bad' h',sPutGat_l1_it fuel R4 (tabI crcT) (0,(c1,(c2,(c3,(c4,(c5,(c6,(c7,(T,(bad,h))))))))))=some (c1,(c2,(c3,(c4,(c5,(c6,(c7,(T,(bad',h')))))))))/\Wr bad h (R4.2.2.length*17015) (fun w=>∃ws:List (List UInt8),ws.length=R4.2.2.length/\(∀x∈ws,Pt rR x/\0<x.length)/\w=ws.flatMap id) bad' h':=by
 refine lKZ (f:=fun tt:Int×(Int×(List Ino26×(Int×(Int×(List Kept26×(List PlT×(List (Int×Int)×(List Int×(Bool×List UInt8)))))))))=>sPutGat_l1 fuel R4 (tabI crcT) tt.1 tt.2.1 tt.2.2.1 tt.2.2.2.1 tt.2.2.2.2.1 tt.2.2.2.2.2.1 tt.2.2.2.2.2.2.1 tt.2.2.2.2.2.2.2.1 tt.2.2.2.2.2.2.2.2.1 tt.2.2.2.2.2.2.2.2.2.1 tt.2.2.2.2.2.2.2.2.2.2) R4.2.2.length (fun i b h=>((i:Int),(c1,(c2,(c3,(c4,(c5,(c6,(c7,(T,(b,h))))))))))) (fun b h=>(c1,(c2,(c3,(c4,(c5,(c6,(c7,(T,(b,h)))))))))) rR 17015 99000000 (by omega) ?_ ?_ bad h (by omega)
 ·intro i hi b h hh;have hy:R4.2.2[i]? =some R4.2.2[i]:=ZAI hi;obtain⟨b3,h3,e3,w3⟩:=nLZ T R4.2.2[i] (hr _ (ZBA hi)) b h (by omega);refine⟨b3,h3,?_,w3⟩;dsimp only
  delta sPutGat_l1
  rw[ZAD (show(i:Int)<((R4.2.2.length:Nat):Int) by omega),ZAM,auZ hi,ZAA,hy,ZAA];have hw:IntKind.wrap .i64 ((i:Int)+1)=((i+1:Nat):Int):=by rw[w64 (by omega)];rfl
  rw[hw];generalize R4.2.2[i]=y at*;cases hz:cPutRep fuel (tabI crcT) y with
  |none=>rw[hz] at e3;cases e3
  |some z=>
   rw[hz,ZAA] at e3;rw[ZAA,e3]
   rfl
 ·intro b h;dsimp only
  delta sPutGat_l1
  rw[ZAC (by omega)]
  rfl
theorem poZ(O:Int×(List Ino26×(Int×(Int×(List Kept26×(List PlT×(List (Int×Int)×(List Int×(Bool×List UInt8)))))))))(K:List Kept26)(hK:O.2.2.2.2.1=K)(hl:K.length<=20)(hn:∀k∈K,k.2.2.length<=30/\∀x∈k.2.2,RepFits x)(T:List Int)(c1:Int)(c2:List Ino26)(c3 c4:Int)(c5:List Kept26)(c6:List PlT)(c7:List (Int×Int))(bad:Bool)(h:List UInt8)(hh:h.length<=70000000):
 ∃bad' h',sPutGat_l2_it fuel O (tabI crcT) (0,(c1,(c2,(c3,(c4,(c5,(c6,(c7,(T,(bad,h))))))))))=some (c1,(c2,(c3,(c4,(c5,(c6,(c7,(T,(bad',h')))))))))/\Wr bad h (K.length*510480) (fun w=>∃ws:List (List UInt8),ws.length=K.length/\(∀x∈ws,Pt rK x/\0<x.length)/\w=ws.flatMap id) bad' h':=by
 refine lKZ (f:=fun tt:Int×(Int×(List Ino26×(Int×(Int×(List Kept26×(List PlT×(List (Int×Int)×(List Int×(Bool×List UInt8)))))))))=>sPutGat_l2 fuel O (tabI crcT) tt.1 tt.2.1 tt.2.2.1 tt.2.2.2.1 tt.2.2.2.2.1 tt.2.2.2.2.2.1 tt.2.2.2.2.2.2.1 tt.2.2.2.2.2.2.2.1 tt.2.2.2.2.2.2.2.2.1 tt.2.2.2.2.2.2.2.2.2.1 tt.2.2.2.2.2.2.2.2.2.2) K.length (fun i b h=>((i:Int),(c1,(c2,(c3,(c4,(c5,(c6,(c7,(T,(b,h))))))))))) (fun b h=>(c1,(c2,(c3,(c4,(c5,(c6,(c7,(T,(b,h)))))))))) rK 510480 89000000 (by omega) ?_ ?_ bad h (by omega)
 ·intro i hi b h hh;have hy:K[i]? =some K[i]:=ZAI hi;have hx:=hn K[i] (ZBA hi);dsimp only
  delta sPutGat_l2
  rw[hK,ZAD (show(i:Int)<((K.length:Nat):Int) by omega),ZAM,auZ hi,ZAA,hy,ZAA];generalize K[i]=y at*;obtain⟨b3,h3,e3,w3⟩:=biZ T [y.1,y.2.1,((y.2.2.length:Nat):Int)] (by simp) b h (by omega);have q3:h3.length<=h.length+30:=w3.1;obtain⟨b4,h4,e4,w4⟩:=lfZ y hx.1 hx.2 T c1 c2 c3 c4 c5 c6 c7 b3 h3 (by omega);have hw:IntKind.wrap .i64 ((i:Int)+1)=((i+1:Nat):Int):=by rw[w64 (by omega)];rfl
  refine⟨b4,h4,?_,(w3.trans w4 (R:=fun w=>Pt rK w/\0<w.length) ?_).mono ?_ fun w h=>h⟩
  ·rw[hw,e3,ZAA,e4]
   rfl
  ·rintro v w ⟨g,rfl⟩ hq;have g1:=g y.1 (by simp);have g2:=g y.2.1 (by simp);have e:[y.1,y.2.1,((y.2.2.length:Nat):Int)].flatMap vi++w=(vi y.1++vi y.2.1)++(varint y.2.2.length++w):=by simp[dvZ]
   rw[e];refine⟨((ptN g1.1 g1.2).sq (ptN g2.1 g2.2)).sq (hZZ (by omega) hq),?_⟩;rw[ZAJ,ZAJ];have:=dUZ y.1;omega
  ·have:y.2.2.length*17015<=30*17015:=ZAj _ hx.1;simp only[ZAl,ZA9];omega
 ·intro b h;dsimp only
  delta sPutGat_l2
  rw[hK,ZAC (by omega)]
  rfl
end Go.Ab.D
set_option maxRecDepth 100000
set_option maxHeartbeats 4000000
namespace Go.Ab.D
open Go Go.Ab Go.P1 Go.P21 Go.P26
attribute [local irreducible] Go.P1.crcT tabI
abbrev Gate26:=Int×((List Ino26×Int)×((Int×List Kept26)×(List PlT×List (Int×Int))))
theorem scan{τ ο α:Type}{f:τ->Option (τ⊕ο)}(L:List α)(hL:L.length<4611686018427387904)(S:Nat->τ)(P:α->Prop)(Q:ο->Prop)(e:ο)
 (hs:∀i x,L[i]? =some x->i<L.length->(f (S i)=some (.inl (S (i+1)))/\P x)\/∃o,f (S i)=some (.inr o)/\Q o)
 (he:f (S L.length)=some (.inr e)):∃o,iter fuel f (S 0)=some o/\((o=e/\∀x∈L,P x)\/Q o):=by
 refine aHZ (fun m s=>∃k:Nat,s=S k/\k+m=L.length/\∀(i:Nat) x,i<k->L[i]? =some x->P x) _ (fun m s hI=> ?_) (fun s hI=> ?_) L.length _ hL ⟨0,rfl,by omega,fun i n h=>absurd h (Nat.not_lt_zero _)⟩
 ·obtain⟨k,rfl,hk,g⟩:=hI;have hlt:k<L.length:=by omega
  rcases hs k L[k] (ZAI hlt) hlt with⟨h1,h2⟩|⟨o,h1,h2⟩
  ·refine .inl ⟨_,h1,k+1,rfl,by omega,fun i x hi hx=> ?_⟩;by_cases e:i=k
   ·subst e;rw[ZAI hlt] at hx;cases hx;exact h2
   ·exact g i x (by omega) hx
  ·exact .inr ⟨o,h1,.inr h2⟩
 ·obtain⟨k,rfl,hk,g⟩:=hI;have:k=L.length:=by omega
  subst this;refine⟨_,he,.inl ⟨rfl,fun x hx=> ?_⟩⟩;obtain⟨i,hi,rfl⟩:=List.getElem_of_mem hx;exact g i _ hi (ZAI hi)
def InoFits(n:Ino26):Prop:=n.2.2.2.2.2.1.length<=120/\n.2.2.2.2.2.2.2.length<=120/\∀x∈n.2.2.2.2.2.2.2,x.1.length<=3000
theorem iHZ(t:List Ino26×Int):∃b,kit_Great fuel t=some b/\(b=false->t.1.length<=40/\∀n∈t.1,InoFits n):=by
 delta kit_Great
 by_cases h0:t.1.length>40
 ·rw[ZAD (show((t.1.length:Nat):Int)>40 by omega)];exact⟨true,rfl,fun h=>by cases h⟩
 rw[ZAC (show¬((t.1.length:Nat):Int)>40 by omega),ZAK];have h:=scan (f:=fun tt:Int×(List Ino26×Int)=>kit_Great_l1 fuel t tt.1 tt.2.1 tt.2.2) t.1 (by omega) (fun k=>((k:Int),(t.1,t.2))) InoFits (fun o=>o= .inr true) (.inl ())
  (by
   intro k n hg hlt;dsimp only
   delta kit_Great_l1
   rw[ZAD (show(k:Int)<((t.1.length:Nat):Int) by omega),ZAM,auZ hlt];simp only[ZAA,hg];by_cases h1:n.2.2.2.2.2.1.length>120
   ·rw[ZAD (show((n.2.2.2.2.2.1.length:Nat):Int)>120 by omega)];exact .inr ⟨_,rfl,rfl⟩
   rw[ZAC (show¬((n.2.2.2.2.2.1.length:Nat):Int)>120 by omega),ZAK,ZAA];by_cases h2:n.2.2.2.2.2.2.2.length>120
   ·rw[ZAD (show((n.2.2.2.2.2.2.2.length:Nat):Int)>120 by omega)];exact .inr ⟨_,rfl,rfl⟩
   rw[ZAC (show¬((n.2.2.2.2.2.2.2.length:Nat):Int)>120 by omega)];simp only[ZAK];rw[auZ hlt];simp only[ZAA,hg];have inner:=scan (f:=fun tt:Int×(List Ino26×Int)=>kit_Great_l0 fuel n (k:Int) tt.1 tt.2.1 tt.2.2) n.2.2.2.2.2.2.2 (by omega) (fun i=>((i:Int),(t.1,t.2))) (fun x=>x.1.length<=3000) (fun o=>o= .inr (.inr (.inr true))) (.inl (t.1,t.2))
    (by
     intro i x hx hi;dsimp only
     delta kit_Great_l0
     rw[ZAD (show(i:Int)<((n.2.2.2.2.2.2.2.length:Nat):Int) by omega),ZAM,auZ hlt];simp only[ZAA,hg];rw[auZ hi];simp only[ZAA,hx];by_cases h3:x.1.length>3000
     ·rw[ZAD (show((x.1.length:Nat):Int)>3000 by omega)];exact .inr ⟨_,rfl,rfl⟩
     ·rw[ZAC (show¬((x.1.length:Nat):Int)>3000 by omega),w64 (by omega)];exact .inl ⟨rfl,by omega⟩)
    (by
     dsimp only
     delta kit_Great_l0
     rw[ZAC (by omega)]
     rfl)
   obtain⟨o,ho,hQ⟩:=inner;have e:kit_Great_l0_it fuel n (k:Int) (0,(t.1,t.2))=some o:=ho;rw[e,ZAA];rcases hQ with⟨rfl,hP⟩|rfl
   ·refine .inl ⟨?_,by omega,by omega,hP⟩;rw[w64 (by omega)]
    rfl
   ·exact .inr ⟨_,rfl,rfl⟩)
  (by
   dsimp only
   delta kit_Great_l1
   rw[ZAC (by omega)]
   rfl)
 obtain⟨o,ho,hQ⟩:=h;have e:kit_Great_l1_it fuel t (0,(t.1,t.2))=some o:=ho;rw[e,ZAA];rcases hQ with⟨rfl,hP⟩|rfl
 ·exact⟨false,rfl,fun _=>⟨by omega,hP⟩⟩
 ·exact⟨true,rfl,fun h=>by cases h⟩
def KeptFits(k:Kept26):Prop:=k.2.2.length<=30/\∀x∈k.2.2,RepFits x
theorem gOZ(c:Int×List Kept26):∃b,law23_Great fuel c=some b/\(b=false->c.2.length<=20/\∀k∈c.2,KeptFits k):=by
 delta law23_Great
 by_cases h0:c.2.length>20
 ·rw[ZAD (show((c.2.length:Nat):Int)>20 by omega)];exact⟨true,rfl,fun h=>by cases h⟩
 rw[ZAC (show¬((c.2.length:Nat):Int)>20 by omega),ZAK];have h:=scan (f:=fun tt:Int×(Int×List Kept26)=>law23_Great_l1 fuel c tt.1 tt.2.1 tt.2.2) c.2 (by omega) (fun k=>((k:Int),(c.1,c.2))) KeptFits (fun o=>o= .inr true) (.inl ())
  (by
   intro k n hg hlt;dsimp only
   delta law23_Great_l1
   rw[ZAD (show(k:Int)<((c.2.length:Nat):Int) by omega),ZAM,auZ hlt];simp only[ZAA,hg];by_cases h1:n.2.2.length>30
   ·rw[ZAD (show((n.2.2.length:Nat):Int)>30 by omega)];exact .inr ⟨_,rfl,rfl⟩
   rw[ZAC (show¬((n.2.2.length:Nat):Int)>30 by omega),ZAK];have inner:=scan (f:=fun tt:Int×(Int×List Kept26)=>law23_Great_l0 fuel n (k:Int) tt.1 tt.2.1 tt.2.2) n.2.2 (by omega) (fun i=>((i:Int),(c.1,c.2))) RepFits (fun o=>o= .inr (.inr (.inr true))) (.inl (c.1,c.2))
    (by
     intro i x hx hi;dsimp only
     delta law23_Great_l0
     rw[ZAD (show(i:Int)<((n.2.2.length:Nat):Int) by omega),ZAM,auZ hlt];simp only[ZAA,hg];rw[auZ hi];simp only[ZAA,hx];obtain⟨b,e1,e2⟩:=lFZ (0,(0,((UInt8.ofNat 0),((0,0),([],((0,0),([],(0,(0,[]))))))))) x;rw[e1,ZAA];cases b with
     |true=>exact .inr ⟨_,rfl,rfl⟩
     |false=>
      have:=e2 rfl;rw[w64 (by omega)];exact .inl ⟨rfl,by omega,by omega⟩)
    (by
     dsimp only
     delta law23_Great_l0
     rw[ZAC (by omega)]
     rfl)
   obtain⟨o,ho,hQ⟩:=inner;have e:law23_Great_l0_it fuel n (k:Int) (0,(c.1,c.2))=some o:=ho;rw[e,ZAA];rcases hQ with⟨rfl,hP⟩|rfl
   ·refine .inl ⟨?_,by omega,hP⟩;rw[w64 (by omega)]
    rfl
   ·exact .inr ⟨_,rfl,rfl⟩)
  (by
   dsimp only
   delta law23_Great_l1
   rw[ZAC (by omega)]
   rfl)
 obtain⟨o,ho,hQ⟩:=h;have e:law23_Great_l1_it fuel c (0,c)=some o:=ho;rw[e,ZAA];rcases hQ with⟨rfl,hP⟩|rfl
 ·exact⟨false,rfl,fun _=>⟨by omega,hP⟩⟩
 ·exact⟨true,rfl,fun h=>by cases h⟩
def GateFits(s:Gate26):Prop:=(s.2.1.1.length<=40/\∀n∈s.2.1.1,InoFits n)/\(s.2.2.1.2.length<=20/\∀k∈s.2.2.1.2,KeptFits k)/\(s.2.2.2.1.length<=20/\∀p∈s.2.2.2.1,p.2.length<=60)/\s.2.2.2.2.length<=200
theorem i0Z(s:Gate26):∃b,law25_Great fuel s=some b/\(b=false->GateFits s):=by
 obtain⟨life,⟨inos,stripe⟩,⟨win,kept⟩,pls,dead⟩:=s
 delta law25_Great
 obtain⟨b1,e1,k1⟩:=iHZ (inos,stripe);obtain⟨b2,e2,k2⟩:=gOZ (win,kept);dsimp only;rw[e1,ZAA];cases b1 with
 |true=>exact⟨true,rfl,fun h=>by cases h⟩
 |false=>
  rw[ZAK,e2,ZAA];cases b2 with
  |true=>exact⟨true,rfl,fun h=>by cases h⟩
  |false=>
   have q1:=k1 rfl;have q2:=k2 rfl;rw[ZAK];by_cases h3:pls.length>20
   ·rw[ZAD (show((pls.length:Nat):Int)>20 by omega)];exact⟨true,rfl,fun h=>by cases h⟩
   rw[ZAC (show¬((pls.length:Nat):Int)>20 by omega),ZAK,ZAA];by_cases h4:dead.length>200
   ·rw[ZAD (show((dead.length:Nat):Int)>200 by omega)];exact⟨true,rfl,fun h=>by cases h⟩
   rw[ZAC (show¬((dead.length:Nat):Int)>200 by omega)];dsimp only[cond_false];have l0:∃n:Int,law25_Great_l0_it fuel (false,(life,(inos,(stripe,(win,(kept,(pls,dead))))))) (0,(0,(life,(inos,(stripe,(win,(kept,(pls,dead))))))))=some (n,(life,(inos,(stripe,(win,(kept,(pls,dead))))))):=by
    have h:=aHZ (f:=fun tt:Int×(Int×(Int×(List Ino26×(Int×(Int×(List Kept26×(List PlT×List (Int×Int))))))))=>law25_Great_l0 fuel (false,(life,(inos,(stripe,(win,(kept,(pls,dead))))))) tt.1 tt.2.1 tt.2.2.1 tt.2.2.2.1 tt.2.2.2.2.1 tt.2.2.2.2.2.1 tt.2.2.2.2.2.2.1 tt.2.2.2.2.2.2.2.1 tt.2.2.2.2.2.2.2.2)
     (fun m st=>∃(k:Nat) (n:Int),st=(n,((k:Int),(life,(inos,(stripe,(win,(kept,(pls,dead))))))))/\k+m=inos.length) (fun o=>∃n:Int,o=(n,(life,(inos,(stripe,(win,(kept,(pls,dead)))))))) (by
      rintro m _ ⟨k,n,rfl,hk⟩;have hlt:k<inos.length:=by omega
      dsimp only
      delta law25_Great_l0
      rw[ZAD (show(k:Int)<((inos.length:Nat):Int) by omega),ZAM,auZ hlt,ZAA,ZAI hlt,ZAA,w64 (x:=(k:Int)+1) (by have:=q1.1;dsimp only at this;omega)];exact .inl ⟨_,rfl,k+1,_,rfl,by omega⟩) (by
      rintro _ ⟨k,n,rfl,hk⟩;dsimp only
      delta law25_Great_l0
      rw[ZAC (by dsimp only;omega)];exact⟨_,rfl,_,rfl⟩) inos.length (0,(0,(life,(inos,(stripe,(win,(kept,(pls,dead)))))))) (by have:=q1.1;dsimp only at this;omega) ⟨0,0,rfl,by omega⟩
    obtain⟨o,ho,n,rfl⟩:=h;exact⟨n,ho⟩
   obtain⟨n,e3⟩:=l0;rw[e3,ZAA];have l1:=scan (f:=fun tt:Int×(Int×(List Ino26×(Int×(Int×(List Kept26×(List PlT×List (Int×Int)))))))=>law25_Great_l1 fuel (n,(life,(inos,(stripe,(win,(kept,(pls,dead))))))) tt.1 tt.2.1 tt.2.2.1 tt.2.2.2.1 tt.2.2.2.2.1 tt.2.2.2.2.2.1 tt.2.2.2.2.2.2.1 tt.2.2.2.2.2.2.2) pls (by omega) (fun k=>((k:Int),(life,(inos,(stripe,(win,(kept,(pls,dead)))))))) (fun p=>p.2.length<=60) (fun o=>o= .inr true) (.inl ())
    (by
     intro k x hx hlt;dsimp only
     delta law25_Great_l1
     rw[ZAD (show(k:Int)<((pls.length:Nat):Int) by omega),ZAM,auZ hlt,ZAA,hx,ZAA];by_cases h5:x.2.length>60
     ·rw[ZAD (show((x.2.length:Nat):Int)>60 by omega)];exact .inr ⟨_,rfl,rfl⟩
     ·rw[ZAC (show¬((x.2.length:Nat):Int)>60 by omega),w64 (by omega)];exact .inl ⟨rfl,by omega⟩)
    (by
     dsimp only
     delta law25_Great_l1
     rw[ZAC (by dsimp only;omega)]
     rfl)
   obtain⟨o,ho,hQ⟩:=l1;have e4:law25_Great_l1_it fuel (n,(life,(inos,(stripe,(win,(kept,(pls,dead))))))) (0,(life,(inos,(stripe,(win,(kept,(pls,dead)))))))=some o:=ho;rw[e4,ZAA];rcases hQ with⟨rfl,hP⟩|rfl
   ·exact⟨_,rfl,fun _=>⟨q1,q2,⟨by dsimp only;omega,hP⟩,by dsimp only;omega⟩⟩
   ·exact⟨true,rfl,fun h=>by cases h⟩
end Go.Ab.D
set_option maxRecDepth 100000
set_option maxHeartbeats 4000000
namespace Go.Ab.D
open Go Go.Ab Go.P1 Go.P21 Go.P26
attribute [local irreducible] Go.P1.crcT tabI
theorem mZZ(s:Gate26)(hl:s.2.1.1.length<=40)(hn:∀n∈s.2.1.1,InoFits n)(T:List Int)(c1:Int)(c2:List Ino26)(c3 c4:Int)(c5:List Kept26)(c6:List PlT)(c7:List (Int×Int))(bad:Bool)(h:List UInt8)(hh:h.length<=1000):
 ∃bad' h',sPutGat_l0_it fuel s (0,(c1,(c2,(c3,(c4,(c5,(c6,(c7,(T,(bad,h))))))))))=some (c1,(c2,(c3,(c4,(c5,(c6,(c7,(T,(bad',h')))))))))/\Wr bad h (s.2.1.1.length*370000) (fun w=>∃ws:List (List UInt8),ws.length=s.2.1.1.length/\(∀x∈ws,Pt rI x/\0<x.length)/\w=ws.flatMap id) bad' h':=by
 refine lKZ (f:=fun tt:Int×(Int×(List Ino26×(Int×(Int×(List Kept26×(List PlT×(List (Int×Int)×(List Int×(Bool×List UInt8)))))))))=>sPutGat_l0 fuel s tt.1 tt.2.1 tt.2.2.1 tt.2.2.2.1 tt.2.2.2.2.1 tt.2.2.2.2.2.1 tt.2.2.2.2.2.2.1 tt.2.2.2.2.2.2.2.1 tt.2.2.2.2.2.2.2.2.1 tt.2.2.2.2.2.2.2.2.2.1 tt.2.2.2.2.2.2.2.2.2.2) s.2.1.1.length (fun i b h=>((i:Int),(c1,(c2,(c3,(c4,(c5,(c6,(c7,(T,(b,h))))))))))) (fun b h=>(c1,(c2,(c3,(c4,(c5,(c6,(c7,(T,(b,h)))))))))) rI 370000 49000000 (by omega) ?_ ?_ bad h (by omega)
 ·intro i hi b h hh;have hy:s.2.1.1[i]? =some s.2.1.1[i]:=ZAI hi;have hx:=hn _ (ZBA hi);generalize s.2.1.1[i]=y at*;obtain⟨b3,h3,e3,w3⟩:=oaZ T (i:Int) y hx.1 hx.2.1 hx.2.2 b h hh;refine⟨b3,h3,?_,w3⟩;dsimp only
  delta sPutGat_l0
  rw[ZAD (show(i:Int)<((s.2.1.1.length:Nat):Int) by omega),ZAM,auZ hi,ZAA,hy,ZAA,e3,ZAA,w64 (by omega)]
  rfl
 ·intro b h;dsimp only
  delta sPutGat_l0
  rw[ZAC (by omega)]
  rfl
theorem jNZ(L T:List Int)(bad:Bool):swriuin2 fuel L T bad=swriuin fuel L T bad []:=rfl
theorem oYZ{l:List PlT}(h:allP l=true)(hl:∀p∈l,p.2.length<=100000000):okP (placesB l)=true:=by
 unfold okP;rw[l8Z h hl]
 rfl
theorem kYZ(s:Gate26)(hs:GateFits s):∃b e,sPutGat fuel (tabI crcT) s=some (b,e)/\(e=0->Pt rGate b/\0<b.length/\b.length<=90000000):=by
 obtain⟨life,⟨inos,stripe⟩,⟨win,kept⟩,pls,dead⟩:=s;obtain⟨⟨q1,q2⟩,⟨q3,q4⟩,⟨q5,q6⟩,q7⟩:=hs;dsimp only at q1 q2 q3 q4 q5 q6 q7;have q6':∀p∈pls,p.2.length<=100000000:=fun p hp=>by have:=q6 p hp;omega
 obtain⟨b1,h1,e1,w1⟩:=biZ (tabI crcT) [life,stripe,((inos.length:Nat):Int)] (by simp) false [] (by simp);have l1:h1.length<=30:=by have:=w1.1;simpa using this
 obtain⟨b2,h2,e2,w2⟩:=mZZ (life,((inos,stripe),((win,kept),(pls,dead)))) q1 q2 (tabI crcT) life inos stripe win kept pls dead b1 h1 (by omega);have l2:h2.length<=30+14800000:=by
  have:=w2.1;have h3:inos.length*370000<=40*370000:=ZAj _ q1;dsimp only at this;omega
 obtain⟨b3,h3,e3,w3⟩:=biZ (tabI crcT) [win,((kept.length:Nat):Int)] (by simp) b2 h2 (by omega);have l3:h3.length<=h2.length+20:=w3.1;obtain⟨b4,h4,e4,w4⟩:=poZ (life,(inos,(stripe,(win,(kept,(pls,(dead,(tabI crcT,(b2,h2))))))))) kept rfl q3 q4 (tabI crcT) life inos stripe win kept pls dead b3 h3 (by omega);have l4:h4.length<=h3.length+10209600:=by
  have:=w4.1;have h3:kept.length*510480<=20*510480:=ZAj _ q3;omega
 have e5:=g7Z pls q6';obtain⟨pb,pe,hp,hpl,hpk⟩:∃pb pe,(bif allP pls then((0:Int),placesB pls) else(100,[]))=(pe,pb)/\pb.length<=2600010/\(pe=0->okP pb=true):=by
  cases hA:allP pls with
  |true=>exact⟨_,_,rfl,kuZ (by omega) (jfZ hA q6').2,fun _=>oYZ hA q6'⟩
  |false=>exact⟨_,_,rfl,by simp,fun h=>by cases h⟩
 rw[hp] at e5;obtain⟨b6,h6,e6,w6⟩:=g6Z (tabI crcT) pb pe b4 h4 (by omega) (by omega);have l6:=w6.1;obtain⟨b7,h7,e7,w7⟩:=kdZ (tabI crcT) dead (by omega) b6 h6 (by omega);have l7:=w7.1;have v6:=w6.trans w7 (R:=fun w=>Pt (sq (rG 16777216 okP) (rL rP)) w) (by
  rintro v w ⟨g,rfl⟩ hw;exact(ptG (by omega) (by omega) (hpk g)).sq hw)
 have v3:=w3.trans (w4.trans v6 (R:=fun w=>∀v,v=[win,((kept.length:Nat):Int)].flatMap vi->(∀n∈[win,((kept.length:Nat):Int)],0<=n/\n<=4611686018427387904)->Pt (sq rN (sq (rL rK) (sq (rG 16777216 okP) (rL rP)))) (v++w)) (by
  rintro x y hx hy v rfl g;have g1:=g win (by simp);have e:[win,((kept.length:Nat):Int)].flatMap vi++(x++y)=vi win++((varint kept.length++x)++y):=by simp[dvZ]
  rw[e];exact(ptN g1.1 g1.2).sq ((hZZ (by omega) hx).sq hy))) (R:=fun w=>Pt (sq rN (sq (rL rK) (sq (rG 16777216 okP) (rL rP)))) w) (by
  rintro v w ⟨g,rfl⟩ hw;exact hw _ rfl g)
 have v1:=w1.trans (w2.trans v3 (R:=fun w=>∀v,v=[life,stripe,((inos.length:Nat):Int)].flatMap vi->(∀n∈[life,stripe,((inos.length:Nat):Int)],0<=n/\n<=4611686018427387904)->Pt rGate (v++w)) (by
  rintro x y hx hy v rfl g;have g1:=g life (by simp);have g2:=g stripe (by simp);have e:[life,stripe,((inos.length:Nat):Int)].flatMap vi++(x++y)=(vi life++vi stripe)++((varint inos.length++x)++y):=by simp[dvZ]
  rw[e];exact((ptN g1.1 g1.2).sq (ptN g2.1 g2.2)).sq ((hZZ (n:=inos.length) (by omega) hx).sq hy))) (R:=fun w=>Pt rGate w/\0<w.length) (by
  rintro v w ⟨g,rfl⟩ hw;refine⟨hw _ rfl g,?_⟩;rw[ZBC,ZAJ,ZAJ];have:=dUZ life;omega)
 delta sPutGat
 dsimp only;rw[jNZ,e1,ZAA,e2,ZAA];dsimp only;rw[e3,ZAA,e4,ZAA];dsimp only;rw[e5,ZAA,e6,ZAA];dsimp only;rw[e7,ZAA];cases b7 with
 |true=>exact⟨_,_,rfl,fun h=>by cases h⟩
 |false=>
  obtain⟨_,w,⟨g1,g2⟩,rfl⟩:=v1.2 rfl;exact⟨_,_,rfl,fun _=>⟨g1,g2,(show h7.length<=90000000 by omega)⟩⟩
theorem peZ{c:Go.P21.CallT}(h:(putCall crcT c).1=0):okC (putCall crcT c).2=true:=by
 unfold putCall at h⊢;cases hr:rightCall c with
 |false=>rw[hr,ZAO (by simp)] at h;cases h
 |true=>
  rw[ZAV rfl];unfold okC;show((getCall crcT (sealed (P1.sum crcT) (3::callB c))).2==0)=true;rw[lhZ,mBZ hr]
  rfl
theorem iEZ(c:Go.P21.CallT):(putCall crcT c).2.length<=5010:=by
 unfold putCall;cases hr:rightCall c with
 |false=>rw[ZAO (by simp)];simp
 |true=>
  rw[ZAV rfl];have:=i3Z (hnZ hr);show(sealed (P1.sum crcT) (3::callB c)).length<=_;rw[goZ,ZAl];omega
abbrev Chg26:=Int×(Int×(Go.P21.CallT×(List Int×(Int×(Int×Int)))))
theorem nsZ(l:List Int)(hl:l.length<=1000000):∃b,sConFun9 fuel l=some b:=by
 have h:=scan (f:=fun tt:Int=>sIndFun9_l0 fuel l tt) l (by omega) (fun k=>(k:Int)) (fun _=>True) (fun _=>True) (.inl ())
  (by
   intro k x hx hlt
   delta sIndFun9_l0
   rw[ZAD (show(k:Int)<((l.length:Nat):Int) by omega),ZAM,auZ hlt,ZAA,hx,ZAA];obtain⟨b,hb⟩:∃b,srig2 fuel x=some b:=by
    delta srig2
    cases decide (x<1)<;>exact⟨_,rfl⟩
   rw[hb,ZAA];cases b with
   |true=>exact .inr ⟨_,rfl,trivial⟩
   |false=>rw[w64 (by omega)];exact .inl ⟨rfl,trivial⟩)
  (by
   delta sIndFun9_l0
   rw[ZAC (by omega)]
   rfl)
 obtain⟨o,ho,_⟩:=h;have e:sIndFun9_l0_it fuel l 0=some o:=ho
 delta sConFun9 sIndFun9
 rw[e];cases o<;>exact⟨_,rfl⟩
end Go.Ab.D
set_option maxRecDepth 100000
set_option maxHeartbeats 4000000
namespace Go.Ab.D
open Go Go.Ab Go.P1 Go.P21 Go.P26
attribute [local irreducible] Go.P1.crcT tabI
theorem iZZ{β:Type}{c:Bool}{x y:Option β}(hx:∃b,x=some b)(hy:∃b,y=some b):∃b,(bif c then x else y)=some b:=by cases c<;>assumption
theorem qeZ{α β:Type}{c:Bool}{x y:Option α}{f:α->Option β}(hx:∃b,x.bind f=some b)(hy:∃b,y.bind f=some b):∃b,(bif c then x else y).bind f=some b:=by cases c<;>assumption
theorem qbZ{α β:Type}{a:α}{f:α->Option β}(h:∃b,f a=some b):∃b,(some a).bind f=some b:=h
theorem ex_b{α β:Type}{x:Option α}{f:α->Option β}(hx:∃a,x=some a)(h:∀a,∃b,f a=some b):∃b,x.bind f=some b:=by
 obtain⟨a,rfl⟩:=hx;exact h a
theorem oVZ(c:Go.P21.CallT):∃b,save_none fuel c=some b:=by
 delta save_none
 repeat' (first|exact⟨_,rfl⟩|apply iZZ)
theorem jsZ(n:Int):∃b,srig1 fuel n=some b:=by
 delta srig1
 repeat' (first|exact⟨_,rfl⟩|apply iZZ)
attribute [local irreducible] sConFun9 srig1 cRigCal save_none byte?
theorem n3Z(c:Chg26)(hv:c.2.2.2.1.length<=1000000):∃b,srig fuel c=some b:=by
 obtain⟨kind,n,⟨c1,c2,c3,⟨c4,c5⟩,c6,⟨c7,c8⟩,c9,c10,c11,c12⟩,vs,err,fr,to⟩:=c
 delta srig
 dsimp only at hv⊢;rw[d1Z,ZAA];obtain⟨b1,e1⟩:=oVZ (c1,(c2,(c3,((c4,c5),(c6,((c7,c8),(c9,(c10,(c11,c12)))))))));obtain⟨b2,e2⟩:=nsZ vs hv;rw[e1,ZAA];have e3:=boZ (c1,(c2,(c3,((c4,c5),(c6,((c7,c8),(c9,(c10,(c11,c12)))))))));obtain⟨b4,e4⟩:=jsZ fr;obtain⟨b5,e5⟩:=jsZ to
 repeat' (first|exact⟨_,rfl⟩|refine ex_b (jsZ _) fun _=> ?_|refine ex_b ⟨_,e2⟩ fun _=> ?_|refine ex_b ⟨_,d1Z _⟩ fun _=> ?_|refine ex_b ⟨_,boZ _⟩ fun _=> ?_|apply iZZ|apply qeZ|apply qbZ|dsimp only)
theorem hTZ(c:Chg26)(hv:c.2.2.2.1.length<=100):∃b e,sPutCha fuel (tabI crcT) c=some (b,e)/\(e=0->Pt rChange b/\0<b.length/\b.length<=90000000):=by
 obtain⟨kind,n,cl,vs,err,fr,to⟩:=c;dsimp only at hv
 delta sPutCha
 dsimp only;rw[d1Z,ZAA];obtain⟨b0,e0⟩:=n3Z (kind,(n,(cl,(vs,(err,(fr,to)))))) (by dsimp only;omega)
 replace e0:srig fuel (kind,(n,((cl.1,(cl.2.1,(cl.2.2.1,cl.2.2.2))),(vs,(err,(fr,to))))))=some b0:=e0
 rw[e0,ZAA];cases b0 with
 |false=>exact⟨_,_,rfl,fun h=>by cases h⟩
 |true=>
  obtain⟨b1,h1,e1,w1⟩:=biZ (tabI crcT) [kind,n,err,fr,to,((vs.length:Nat):Int)] (by simp) false [] (by simp);have l1:h1.length<=60:=by have:=w1.1;simpa using this
  obtain⟨b2,h2,e2,w2⟩:=biZ (tabI crcT) vs (by omega) b1 h1 (by omega);have l2:=w2.1;rw[jNZ,e1];dsimp only[Bool.not_true,cond_false,Option.bind_some];rw[e2,ZAA];have pt:∀{ms ws:List UInt8},((∀n'∈[kind,n,err,fr,to,((vs.length:Nat):Int)],0<=n'/\n'<=4611686018427387904)/\ms=[kind,n,err,fr,to,((vs.length:Nat):Int)].flatMap vi)->((∀n'∈vs,0<=n'/\n'<=4611686018427387904)/\ws=vs.flatMap vi)->∃u,Pt rTail u/\ms++ws=vi kind++u/\0<=kind/\kind<=4611686018427387904:=by
   rintro _ _ ⟨g,rfl⟩ ⟨g2,rfl⟩;have k1:=g kind (by simp);have k2:=g n (by simp);have k3:=g err (by simp);have k4:=g fr (by simp);have k5:=g to (by simp);refine⟨vi n++(vi err++(vi fr++(vi to++(varint vs.length++vs.flatMap vi)))),?_,by simp[dvZ],k1⟩;exact(ptN k2.1 k2.2).sq ((ptN k3.1 k3.2).sq ((ptN k4.1 k4.2).sq ((ptN k5.1 k5.2).sq (ptL vs (by omega) (fun x hx=>ptN (g2 x hx).1 (g2 x hx).2) fun x _=>dUZ x))))
  by_cases hk:kind=2
  ·subst hk;dsimp only[cond_true];rw[beq_self_eq_true,ZAM];have e3:=lrZ deZ cl
   replace e3:cPutCal fuel (tabI crcT) (cl.1,(cl.2.1,(cl.2.2.1,cl.2.2.2)))=_:=e3
   have hl:=iEZ cl;obtain⟨b4,h4,e4,w4⟩:=g6Z (tabI crcT) (putCall crcT cl).2 ((putCall crcT cl).1:Int) b2 h2 (by omega) (by omega);have l4:=w4.1;rw[e3,ZAA];dsimp only;rw[e4,ZAA,ZAA];cases b4 with
   |true=>exact⟨_,_,rfl,fun h=>by cases h⟩
   |false=>
    have v:=w1.trans (w2.trans w4 (R:=fun w=>∀v,((∀n'∈[2,n,err,fr,to,((vs.length:Nat):Int)],0<=n'/\n'<=4611686018427387904)/\v=[2,n,err,fr,to,((vs.length:Nat):Int)].flatMap vi)->Pt rChange (v++w)) (by
     rintro ws bs hws ⟨g,rfl⟩ v hv;obtain⟨u,u1,u2,u3⟩:=pt hv hws;rw[<-List.append_assoc,u2];exact ptIf u3.1 u3.2 u1 (ptG (by omega) (by omega) (peZ (by omega))) rfl)) (R:=fun w=>Pt rChange w/\0<w.length) (by
     rintro v w hv hw;refine⟨hw _ hv,?_⟩;obtain⟨_,rfl⟩:=hv;rw[ZBC,ZAJ,ZAJ];have:=dUZ 2;omega)
    obtain⟨_,w,⟨g1,g2⟩,rfl⟩:=v.2 rfl;exact⟨_,_,rfl,fun _=>⟨g1,g2,(show h4.length<=90000000 by omega)⟩⟩
  ·rw[ZBV hk];dsimp only[cond_false,Option.bind_some];cases b2 with
   |true=>exact⟨_,_,rfl,fun h=>by cases h⟩
   |false=>
    have v:=w1.trans w2 (R:=fun w=>Pt rChange w/\0<w.length) (by
     rintro v w hv hw;obtain⟨u,u1,u2,u3⟩:=pt hv hw;rw[u2];refine⟨qcZ u3.1 u3.2 u1 (by omega),?_⟩;rw[ZAJ];have:=dUZ kind;omega)
    obtain⟨_,w,⟨g1,g2⟩,rfl⟩:=v.2 rfl;exact⟨_,_,rfl,fun _=>⟨g1,g2,(show h2.length<=90000000 by omega)⟩⟩
end Go.Ab.D
