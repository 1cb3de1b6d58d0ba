/- What the functions compute; the plain law. -/
import Derived.Test.YtcfchfhdaggmpaaGreatDoorStateHolesQ2
set_option linter.all false
set_option maxHeartbeats 4000000
set_option maxRecDepth 100000
namespace Go.Ab.D
open Go Go.Ab
theorem rFZ{m:Mod}(h:ModelOK m)(c:CallT)(hr:rightCall c=true)(hk:c.2.2.1=UInt8.ofNat 2):model_Do fuel m c=some (doT (resF m c) c):=by
 obtain⟨ho,hn,hbs⟩:=dxZ hr;have s:=lZZ h c;have hA:actF m c=makeA m c:=by unfold actF;rw[hk];rfl
 have e1:(c.2.2.1==UInt8.ofNat 1)=false:=by rw[hk];rfl
 have e2:(c.2.2.1==UInt8.ofNat 2)=true:=by rw[hk];rfl
 rw[hxZ hr,hA];unfold model_Do;rw[adZ (by decide),adZ (by decide),adZ (by decide),adZ (by decide),adZ (by decide),adZ (by decide),adZ (by decide),adZ (by decide),adZ (by decide),adZ (by decide),adZ (by decide)];rw[show(((m.1.1,m.1.2),m.2):Mod)=m from rfl,b1Z h,ZAA,ZAK,dyZ,ZAA,show((c.1,(c.2.1,(c.2.2.1,((c.2.2.2.1.1,c.2.2.2.1.2),(c.2.2.2.2.1,((c.2.2.2.2.2.1.1,c.2.2.2.2.2.1.2),(c.2.2.2.2.2.2.1,(c.2.2.2.2.2.2.2.1,(c.2.2.2.2.2.2.2.2.1,c.2.2.2.2.2.2.2.2.2))))))))):CallT)=c from rfl,aLZ,ZAA,hr,ZAK];rw[ZAA,e1,ZAE,e2,ZAK,ryZ h c,ZAA,ZAA,ZAA];exact hjZ h c s (mQZ m c).1 (mQZ m c).2
theorem rGZ{m:Mod}(h:ModelOK m)(c:CallT)(hr:rightCall c=true)(hk:c.2.2.1=UInt8.ofNat 4):model_Do fuel m c=some (doT (resF m c) c):=by
 obtain⟨ho,hn,hbs⟩:=dxZ hr;have s:=nlZ h c;have hA:actF m c=readA m c:=by unfold actF;rw[hk];rfl
 have e1:(c.2.2.1==UInt8.ofNat 1)=false:=by rw[hk];rfl
 have e2:(c.2.2.1==UInt8.ofNat 2)=false:=by rw[hk];rfl
 have e3:(c.2.2.1==UInt8.ofNat 3)=false:=by rw[hk];rfl
 have e4:(c.2.2.1==UInt8.ofNat 4)=true:=by rw[hk];rfl
 rw[hxZ hr,hA];unfold model_Do;rw[adZ (by decide),adZ (by decide),adZ (by decide),adZ (by decide),adZ (by decide),adZ (by decide),adZ (by decide),adZ (by decide),adZ (by decide),adZ (by decide),adZ (by decide)];rw[show(((m.1.1,m.1.2),m.2):Mod)=m from rfl,b1Z h,ZAA,ZAK,dyZ,ZAA,show((c.1,(c.2.1,(c.2.2.1,((c.2.2.2.1.1,c.2.2.2.1.2),(c.2.2.2.2.1,((c.2.2.2.2.2.1.1,c.2.2.2.2.2.1.2),(c.2.2.2.2.2.2.1,(c.2.2.2.2.2.2.2.1,(c.2.2.2.2.2.2.2.2.1,c.2.2.2.2.2.2.2.2.2))))))))):CallT)=c from rfl,aLZ,ZAA,hr,ZAK];rw[ZAA,e1,ZAE,e2,ZAE,e3,ZAE,e4,ZAK,rgZ h c ho hn,ZAA,ZAA,ZAA];exact hjZ h c s rfl (q5Z m c)
theorem rEZ{m:Mod}(h:ModelOK m)(c:CallT)(hr:rightCall c=true)(hk:c.2.2.1=UInt8.ofNat 5):model_Do fuel m c=some (doT (resF m c) c):=by
 obtain⟨ho,hn,hbs⟩:=dxZ hr;have s:=lKZ h c hbs;have hA:actF m c=writeA m c:=by unfold actF;rw[hk];rfl
 have e1:(c.2.2.1==UInt8.ofNat 1)=false:=by rw[hk];rfl
 have e2:(c.2.2.1==UInt8.ofNat 2)=false:=by rw[hk];rfl
 have e3:(c.2.2.1==UInt8.ofNat 3)=false:=by rw[hk];rfl
 have e4:(c.2.2.1==UInt8.ofNat 4)=false:=by rw[hk];rfl
 have e5:(c.2.2.1==UInt8.ofNat 5)=true:=by rw[hk];rfl
 rw[hxZ hr,hA];unfold model_Do;rw[adZ (by decide),adZ (by decide),adZ (by decide),adZ (by decide),adZ (by decide),adZ (by decide),adZ (by decide),adZ (by decide),adZ (by decide),adZ (by decide),adZ (by decide)];rw[show(((m.1.1,m.1.2),m.2):Mod)=m from rfl,b1Z h,ZAA,ZAK,dyZ,ZAA,show((c.1,(c.2.1,(c.2.2.1,((c.2.2.2.1.1,c.2.2.2.1.2),(c.2.2.2.2.1,((c.2.2.2.2.2.1.1,c.2.2.2.2.2.1.2),(c.2.2.2.2.2.2.1,(c.2.2.2.2.2.2.2.1,(c.2.2.2.2.2.2.2.2.1,c.2.2.2.2.2.2.2.2.2))))))))):CallT)=c from rfl,aLZ,ZAA,hr,ZAK];rw[ZAA,e1,ZAE,e2,ZAE,e3,ZAE,e4,ZAE,e5,ZAK,q1Z h c ho hbs,ZAA,ZAA,ZAA];exact hjZ h c s (kfZ m c).1 (kfZ m c).2
theorem rCZ{m:Mod}(h:ModelOK m)(c:CallT)(hr:rightCall c=true)(hk:c.2.2.1=UInt8.ofNat 6):model_Do fuel m c=some (doT (resF m c) c):=by
 obtain⟨ho,hn,hbs⟩:=dxZ hr;have s:=maZ h c hn;have hA:actF m c=sizeA m c:=by unfold actF;rw[hk];rfl
 have e1:(c.2.2.1==UInt8.ofNat 1)=false:=by rw[hk];rfl
 have e2:(c.2.2.1==UInt8.ofNat 2)=false:=by rw[hk];rfl
 have e3:(c.2.2.1==UInt8.ofNat 3)=false:=by rw[hk];rfl
 have e4:(c.2.2.1==UInt8.ofNat 4)=false:=by rw[hk];rfl
 have e5:(c.2.2.1==UInt8.ofNat 5)=false:=by rw[hk];rfl
 have e6:(c.2.2.1==UInt8.ofNat 6)=true:=by rw[hk];rfl
 rw[hxZ hr,hA];unfold model_Do;rw[adZ (by decide),adZ (by decide),adZ (by decide),adZ (by decide),adZ (by decide),adZ (by decide),adZ (by decide),adZ (by decide),adZ (by decide),adZ (by decide),adZ (by decide)];rw[show(((m.1.1,m.1.2),m.2):Mod)=m from rfl,b1Z h,ZAA,ZAK,dyZ,ZAA,show((c.1,(c.2.1,(c.2.2.1,((c.2.2.2.1.1,c.2.2.2.1.2),(c.2.2.2.2.1,((c.2.2.2.2.2.1.1,c.2.2.2.2.2.1.2),(c.2.2.2.2.2.2.1,(c.2.2.2.2.2.2.2.1,(c.2.2.2.2.2.2.2.2.1,c.2.2.2.2.2.2.2.2.2))))))))):CallT)=c from rfl,aLZ,ZAA,hr,ZAK];rw[ZAA,e1,ZAE,e2,ZAE,e3,ZAE,e4,ZAE,e5,ZAE,e6,ZAK,qRZ h c hn.1,ZAA,ZAA,ZAA];exact hjZ h c s (n1Z m c).1 (n1Z m c).2
def MFw(b:Byt)(w:Int):Mod:=(tf ((b.length:Nat):Int) [] w,[[],b])
theorem nWZ{b:Byt}{w:Int}(hb:b.length<=65536)(hw:0<=w/\w<=1099511627776):ModelOK (MFw b w):=by
 refine⟨pTZ (by omega) (msZ hw),rfl,fun i x hx=> ?_,fun i x z hx hz=> ?_⟩
 ·rcases ibZ hx with⟨rfl,rfl⟩|⟨rfl,rfl⟩<;>rfl
 ·rcases ibZ hx with⟨rfl,rfl⟩|⟨rfl,rfl⟩
  ·have hz:some []=some z:=hz;cases hz;rfl
  ·have hz:some b=some z:=hz;cases hz;rfl
def wrC(x:Int)(off:Int)(bs:Byt):CallT:=(0,(x,(UInt8.ofNat 5,((2,1),([],((0,0),([],(off,(0,bs)))))))))
def szC(x:Int)(n:Int):CallT:=(0,(x,(UInt8.ofNat 6,((2,1),([],((0,0),([],(0,(n,[])))))))))
def rdC(x:Int)(off n:Int):CallT:=(0,(x,(UInt8.ofNat 4,((2,1),([],((0,0),([],(off,(n,[])))))))))
theorem n4Z{x:Int}(hx:1<=x/\x<=1099511627776):whoseB 0 x=true:=by
 unfold whoseB;rw[ZAJ (by omega)]
theorem coZ{x off:Int}{bs:Byt}(hx:1<=x/\x<=1099511627776)(ho:0<=off/\off<=2147483648)(hb:bs.length<=4096):rightCall (wrC x off bs)=true:=by
 show rightS (true,(false,(false,(true,(0,(true,true)))))) (wrC x off bs)=true;unfold rightS wrC;simp only[ZA4,Bool.true_or,n4Z hx,ZAJ ho,ZAJ hb,Bool.or_true,Bool.and_true]
 rfl
theorem cEZ{x n:Int}(hx:1<=x/\x<=1099511627776)(hn:0<=n/\n<=2147483648):rightCall (szC x n)=true:=by
 show rightS (true,(false,(false,(false,(2147483648,(false,true)))))) (szC x n)=true;unfold rightS szC;simp only[ZA4,n4Z hx,ZAJ hn]
 rfl
theorem rwZ{b:Byt}{w x off:Int}{bs:Byt}(hx:1<=x/\x<=1099511627776)(ho:0<=off/\off<=2147483648)(hb:bs.length<=4096)(hs:off+((bs.length:Nat):Int)<=65536):resF (MFw b w) (wrC x off bs)=(MFw (writeL b off bs) w,0,((2,1),false,((writeN b off bs:Nat):Int),[],[],false,0)):=by
 have hl:((writeL b off bs).length:Nat)=writeN b off bs:=baZ b off bs;have hA:actF (MFw b w) (wrC x off bs)=(0,MFw (writeL b off bs) w,((2,1),false,((writeN b off bs:Nat):Int),[],[],false,0)):=by
  show writeA (MFw b w) (wrC x off bs)=_;unfold writeA;rw[ZAT (show(fileF (MFw b w) (wrC x off bs).2.2.2.1).2.2=0 from rfl),ZAQ (show¬((wrC x off bs).2.2.2.2.2.2.2.1+(((wrC x off bs).2.2.2.2.2.2.2.2.2.length:Nat):Int)>65536) from by show¬(off+((bs.length:Nat):Int)>65536);omega)]
  rfl
 unfold resF;rw[ZAT (coZ hx ho hb),hA]
 rfl
theorem roZ{b:Byt}{w x n:Int}(hx:1<=x/\x<=1099511627776)(hn:0<=n/\n<=65536):resF (MFw b w) (szC x n)=(MFw (sizedL b n.toNat) w,0,((2,1),false,n,[],[],false,0)):=by
 have hA:actF (MFw b w) (szC x n)=(0,MFw (sizedL b n.toNat) w,((2,1),false,n,[],[],false,0)):=by
  show sizeA (MFw b w) (szC x n)=_;unfold sizeA;rw[ZAT (show(fileF (MFw b w) (szC x n).2.2.2.1).2.2=0 from rfl),ZAQ (show¬((szC x n).2.2.2.2.2.2.2.2.1>65536) from by show¬(n>65536);omega)]
  rfl
 unfold resF;rw[ZAT (cEZ hx (by omega)),hA]
 rfl
def M0:Mod:=(([(1,1,true,true,0,[],1,[])],0),[[]])
theorem rAZ:ModelOK M0:=by
 refine⟨jXZ,rfl,fun i x hx=> ?_,fun i x b hx hb=> ?_⟩
 ·cases i with
  |zero=>simp[M0] at hx;subst hx;rfl
  |succ i=>simp[M0] at hx
 ·cases i with
  |zero=>simp[M0] at hx hb;subst hx hb;rfl
  |succ i=>simp[M0] at hx
def cA:CallT:=(0,(1,(UInt8.ofNat 2,((1,1),([102],((0,0),([],(0,(0,[])))))))))
theorem rsZ:resF M0 cA=(MFw [] 0,0,((2,1),false,0,[],[],false,0)):=by kernel_rfl
theorem qSZ:model_Do fuel M0 cA=some (doT (MFw [] 0,0,((2,1),false,0,[],[],false,0)) cA):=by
 have:=rFZ rAZ cA (by kernel_rfl) rfl;rwa [rsZ] at this
theorem lEZ{b:Byt}{w x off:Int}{bs:Byt}(hl:b.length<=65536)(hw:0<=w/\w<=1099511627776)(hx:1<=x/\x<=1099511627776)(ho:0<=off/\off<=2147483648)(hb:bs.length<=4096)(hs:off+((bs.length:Nat):Int)<=65536):
 model_Do fuel (MFw b w) (wrC x off bs)=some (doT (MFw (writeL b off bs) w,0,((2,1),false,((writeN b off bs:Nat):Int),[],[],false,0)) (wrC x off bs)):=by
 have:=rEZ (nWZ hl hw) (wrC x off bs) (coZ hx ho hb) rfl;rwa [rwZ hx ho hb hs] at this
theorem oUZ{b:Byt}{w x n:Int}(hl:b.length<=65536)(hw:0<=w/\w<=1099511627776)(hx:1<=x/\x<=1099511627776)(hn:0<=n/\n<=65536):
 model_Do fuel (MFw b w) (szC x n)=some (doT (MFw (sizedL b n.toNat) w,0,((2,1),false,n,[],[],false,0)) (szC x n)):=by
 have:=rCZ (nWZ hl hw) (szC x n) (cEZ hx (by omega)) rfl;rwa [roZ hx hn] at this
theorem pBZ{sz:Int}{P:List Part}{w:Int}(hs:0<=sz/\sz<=65536)(h:GoodP P w):Fit (tf sz P w).1:=(pTZ hs h).r.fit
theorem jOZ{sz:Nat}{P:List Part}{w:Int}(hs:sz<=65536)(h:GoodP P w):sbar fuel (tf (sz:Int) P w)=some (w,((MFw (List.replicate sz 0) w).1.1,(MFw (List.replicate sz 0) w).2)):=by
 rw[keZ (pBZ (by omega) h) (fun x hx=>by
  obtain⟨i,hi⟩:=ZAe hx;rcases ibZ hi with⟨_,rfl⟩|⟨_,rfl⟩
  ·exact⟨by decide,by decide⟩
  ·exact⟨by simp,by simp;omega⟩) (by simp[tf])]
 simp[tf,MFw,bareI,zeroI,rootI]
theorem pCZ:sbar fuel ([(1,1,true,true,0,[],1,[])],0)=some (0,(M0.1.1,M0.2)):=by
 rw[keZ jXZ.r.fit (fun x hx=>by simp at hx;subst hx;exact⟨by decide,by decide⟩) (by simp)]
 rfl
end Go.Ab.D
set_option maxHeartbeats 4000000
set_option maxRecDepth 100000
namespace Go.Ab.D
open Go Go.Ab
def fileI(sz:Int)(P:List Part):Ino:=(2,1,true,false,sz,P,1,[])
def gt(sz:Int)(P:List Part)(w:Int)(ca:CacheT):GateT:=(0,(tf sz P w,(ca,(pl3,[]))))
structure Sh (sz:Nat) (P:List Part) (w:Int) (ca:CacheT) (q:Nat):Prop where
 s:sz<=65536
 p:GoodP P w
 l:P.length=(sz+q-1)/q
 q:16<=q/\q<=65
 c:rightC ca=true
variable {sz q : Nat} {P : List Part} {w : Int} {ca : CacheT}
theorem Sh.right(h:Sh sz P w ca q):sRig fuel (gt sz P w ca) q=some true:=by
 have hs:=h.s;refine gFZ (pTZ (by omega) h.p) h.q h.c fun i x hx hu hd=> ?_;rcases ibZ hx with⟨_,rfl⟩|⟨_,rfl⟩
 ·cases hd
 ·show P.length=(((sz:Int)).toNat+q-1)/q;rw[Int.toNat_natCast];exact h.l
theorem Sh.own(h:Sh sz P w ca q):state_own fuel (gt sz P w ca)=some (0,(w,(ca.1,(ca.2,((tf sz P w).1,(pl3,[])))))):=by
 have hs:=h.s;exact nNZ (gt sz P w ca) (pBZ (by omega) h.p) (clZ h.c) ⟨by simp[gt,pl3],fun p hp=>by
  have hp:p∈pl3:=hp;simp[pl3] at hp;subst hp;simp⟩ (by simp[gt])
def planT(rd wr:List (Int×(Part×Int))):Int×(ReplyT×(List (Int×(Part×Int))×List (Int×(Part×Int)))):=(2,(zR,(rd,wr)))
theorem hMZ(h:Sh sz P w ca q){c:CallT}{m':Mod}{r:Rep}(hc:rightCall c=true)(hm:model_Do fuel (MFw (List.replicate sz 0) w) c=some (doT (m',0,r) c))
 (hl:(look ca c.1 c.2.1).2=0)(hop:c.2.2.1=UInt8.ofNat 5\/c.2.2.1=UInt8.ofNat 6)(hh:c.2.2.2.1.1=2):
 sPla fuel (gt sz P w ca) q c=(swri fuel (fileI sz P) w q c).bind fun r=>some (planT r.2 r.1,0):=by
 have hasks:sask fuel ((c.2.2.1.toNat:Nat):Int)=some false:=by rcases hop with e|e<;>rw[e]<;>rfl
 have hr3:(bif (((c.2.2.1.toNat:Nat):Int)==5) then true else(((c.2.2.1.toNat:Nat):Int)==6))=true:=by rcases hop with e|e<;>rw[e]<;>rfl
 unfold sPla;rw[h.right,ZAA];simp only[ZAP,ZAE];rw[aLZ,hc,ZAA];simp only[ZAP,ZAE];rw[show(gt sz P w ca).2.1=tf sz P w from rfl,jOZ h.s h.p,ZAA];simp only;rw[show(((MFw (List.replicate sz 0) w).1.1,w),(MFw (List.replicate sz 0) w).2)=MFw (List.replicate sz 0) w from rfl,hm,ZAA,hasks,ZAA];simp only[ZAE];rw[show(gt sz P w ca).2.2.1=ca from rfl,jUZ ca (clZ h.c),ZAA,eIZ,hl];simp only[show((0:Int)==1)=false from rfl,show((0:Int)==2)=false from rfl,ZAE];rw[show(doT (m',0,r) c).2.2.2.1=0 from rfl];simp only[ZAV,ZAK];have step:∀{α:Type} (S:α),(bif (((c.2.2.1.toNat:Nat):Int)==5) then some (true,S) else some ((((c.2.2.1.toNat:Nat):Int)==6),S))=some (true,S):=fun S=>by
  rcases hop with e|e<;>rw[e]<;>rfl
 rw[step,ZAA];simp only[ZAK,ZAX,ZAA,hh];rw[show idx? (IntKind.wrap .i64 (2-1)) (gt sz P w ca).2.1.1.length=some 1 from rfl,ZAA];rw[show(gt sz P w ca).2.1.1[1]? =some (fileI sz P) from rfl,ZAA];rw[show(gt sz P w ca).2.1.2=w from rfl];congr 1
end Go.Ab.D
set_option maxHeartbeats 4000000
set_option maxRecDepth 100000
namespace Go.Ab.D
open Go Go.Ab
variable {sz q : Nat} {P : List Part} {w : Int} {ca : CacheT}
theorem plZ(t life s win:Int)(ks:List KeptT)(q sz sz' w w':Int)(pl:List PlaceT)(dead P:List Part):sapptakgo fuel t life s win ks q (tf sz P w).1 pl dead (tf sz' [] w').1=some (life,(t,(win,(ks,(q,((tf sz' P w').1,(pl,(dead,((tf sz P w).1,[]))))))))):=by kernel_rfl
def repT(c:CallT)(n:Int):ReplyT:=(c.1,(c.2.1,(0,((2,1),(false,(n,([],([],(false,0)))))))))
theorem eCZ(h:Sh sz P w ca q){c:CallT}{b':Byt}{rd wr:List (Int×(Part×Int))}{vs:List Int}{ca':CacheT}{P' gone dead:List Part}{w':Int}
 (hop:c.2.2.1=UInt8.ofNat 5\/c.2.2.1=UInt8.ofNat 6)(hh:c.2.2.2.1.1=2)
 (hp:sPla fuel (gt sz P w ca) q c=some (planT rd wr,0))(hf:sfit fuel (planT rd wr) vs 0=some true)
 (hm:model_Do fuel (MFw (List.replicate sz 0) w) c=some (doT (MFw b' w,0,((2,1),false,((b'.length:Nat):Int),[],[],false,0)) c))
 (hput:put ca (repT c ((b'.length:Nat):Int))=(ca',0))
 (hw:sappwri fuel 2 wr vs 0 w ca'.1 ca'.2 q (tf ((b'.length:Nat):Int) P w).1 pl3 [] []=some (0,(w',(ca'.1,(ca'.2,((q:Int),((tf ((b'.length:Nat):Int) P' w').1,(pl3,([],gone)))))))))
 (hb:sappbur fuel 0 w' ca'.1 ca'.2 q (tf ((b'.length:Nat):Int) P' w').1 pl3 [] gone=some (true,(0,(w',(ca'.1,(ca'.2,((q:Int),((tf ((b'.length:Nat):Int) P' w').1,(pl3,(gone,dead)))))))))):
 sApp fuel (gt sz P w ca) q c vs 0=some (((0,(tf ((b'.length:Nat):Int) P' w',(ca',(pl3,dead)))):GateT),(c.1,(c.2.1,((0:Int),((2:Int),((1:Int),(false,(((b'.length:Nat):Int),(([]:List UInt8),(([]:List EntT),(false,((0:Int),(0:Int))))))))))))):=by
 have hn5:∀{α:Type} (S:α),(bif (((c.2.2.1.toNat:Nat):Int)==5) then some (true,S) else some ((((c.2.2.1.toNat:Nat):Int)==6),S))=some (true,S):=fun S=>by
  rcases hop with e|e<;>rw[e]<;>rfl
 unfold sApp;rw[hp,ZAA];simp only[ZAV,ZAP,ZAE];rw[hf,ZAA];simp only[ZAP,ZAE];rw[show(gt sz P w ca).2.1=tf sz P w from rfl,jOZ h.s h.p,ZAA];simp only;rw[show(((MFw (List.replicate sz 0) w).1.1,w),(MFw (List.replicate sz 0) w).2)=MFw (List.replicate sz 0) w from rfl,hm,ZAA,ZAA];simp only[ZAX,ZAA];rw[h.own,ZAA];simp only;rw[show(gt sz P w ca).2.2.1=ca from rfl];have hR:smallR (repT c ((b'.length:Nat):Int)):=⟨by simp[repT],by simp[repT]⟩;have hP:rPut fuel ca (repT c ((b'.length:Nat):Int))=some (putO (ca',0)):=by rw[p5Z ca _ (clZ h.c) hR,hput]
 refine(congrArg (fun o=>Option.bind o _) (show rPut fuel ca _=_ from hP)).trans ?_;rw[ZAA];simp only[putO,ZAV,ZAP,ZAE];rw[show(doT (MFw b' w,0,((2,1),false,((b'.length:Nat):Int),[],[],false,0)) c).2.2.2.1=0 from rfl];simp only[ZAV,ZAP,ZAE];refine(congrArg (fun o=>Option.bind o _) (show sapptakgo fuel _ _ _ _ _ _ _ _ _ _=_ from plZ w 0 w ca'.1 ca'.2 (q:Int) (sz:Int) ((b'.length:Nat):Int) w w pl3 [] P)).trans ?_;rw[ZAA,hn5,ZAA];simp only[ZAK,ZAX,ZAA,hh];refine(congrArg (fun o=>Option.bind (Option.bind o _) _) (show sappwri fuel _ _ _ _ _ _ _ _ _ _ _ _=_ from hw)).trans ?_;rw[ZAA,ZAA];simp only;rw[hb,ZAA];simp only[ZAP,ZAE,ZAX,ZAA,ZBy]
 rfl
end Go.Ab.D
set_option maxHeartbeats 4000000
set_option maxRecDepth 100000
namespace Go.Ab.D
open Go Go.Ab
def T0:Tree:=([(1,1,true,true,0,[],1,[])],0)
def g0(k:Int):GateT:=(0,(T0,((k,[]),(pl3,[]))))
theorem rtZ:Fit T0.1:=jXZ.r.fit
theorem rfZ(k:Int)(hk:1<=k/\k<=100):state_own fuel (g0 k)=some (0,(0,(k,([],(T0.1,(pl3,[])))))):=by
 exact nNZ (g0 k) rtZ ⟨by simp[g0],fun x hx=>(by cases hx)⟩ ⟨by simp[g0,pl3],fun p hp=>by
  have hp:p∈pl3:=hp;simp[pl3] at hp;subst hp;simp⟩ (by simp[g0])
theorem nkZ(k:Int)(hk:1<=k/\k<=100):state_New fuel k pl3=some (0,(T0.1,(0,(k,([],(pl3,([],0))))))):=by
 unfold state_New rNew;rw[ZAG (by omega),ZAE,ZAG (by omega),ZAA,ZAE,ZAA];rw[show(!((k,(0:Int)).2==0))=false from rfl,ZAE,ogZ,ZAA,ZAP,ZAE];rw[show model_New fuel=some (M0.1.2,(M0.1.1,M0.2)) from by kernel_rfl,ZAA];refine(congrArg (fun o=>Option.bind o _) (show state_own fuel _=_ from rfZ k hk)).trans ?_
 rfl
theorem q4Z{k:Int}{q:Nat}(hk:1<=k/\k<=100)(hq:16<=q/\q<=65):sRig fuel (g0 k) q=some true:=by
 refine gFZ jXZ hq (by unfold rightC;rw[ZAJ (show 1<=(k,([]:List KeptT)).1/\(k,([]:List KeptT)).1<=100 from hk)];rfl) fun i x hx hu hd=> ?_
 match i with
 |0=>cases hx;cases hd
 |i+1=>simp[T0] at hx
theorem qHZ{k:Int}{q:Nat}(hk:1<=k/\k<=100)(hq:16<=q/\q<=65):sPla fuel (g0 k) q cA=some (planT [] [],0):=by
 unfold sPla;rw[q4Z hk hq,ZAA];simp only[ZAP,ZAE];rw[aLZ,show rightCall cA=true from by kernel_rfl,ZAA];simp only[ZAP,ZAE];rw[show(g0 k).2.1=T0 from rfl,show sbar fuel T0=_ from pCZ,ZAA];simp only;rw[show((M0.1.1,(0:Int)),M0.2)=M0 from rfl,qSZ,ZAA,show sask fuel ((cA.2.2.1.toNat:Nat):Int)=some false from rfl,ZAA];simp only[ZAE];rw[show(g0 k).2.2.1=(k,[]) from rfl,jUZ (k,[]) ⟨by simp,fun x hx=>(by cases hx)⟩,ZAA,eIZ,show(look (k,[]) cA.1 cA.2.1).2=0 from by unfold look;split<;>rfl]
 rfl
theorem ovZ:sSorFun fuel []=some []:=by kernel_rfl
theorem oLZ:sSorFun fuel [(2,5)]=some [(2,5)]:=by kernel_rfl
theorem cTZ{life w win q:Int}{ks:List KeptT}{l:List Ino}{pl:List PlaceT}(hw:w<=1099511627776):
 sappbur fuel life w win ks q l pl [] []=some (true,(life,(w,(win,(ks,(q,(l,(pl,([],[]))))))))):=by
 unfold sappbur;rw[show sappbur_l0_it fuel [] (0,(life,(w,(win,(ks,(q,(l,(pl,([],[])))))))))=some (life,(w,(win,(ks,(q,(l,(pl,([],[])))))))) from by kernel_rfl,ZAA];simp only;rw[ovZ,ZAA,ZAJ (by simp),ZAK,ZAJ hw]
theorem qBZ(t life s win:Int)(ks:List KeptT)(q w:Int)(pl:List PlaceT)(dead:List Part):sapptakgo fuel t life s win ks q T0.1 pl dead (tf 0 [] w).1=some (life,(t,(win,(ks,(q,((tf 0 [] w).1,(pl,(dead,(T0.1,[]))))))))):=by kernel_rfl
def ca1(k:Int):CacheT:=(k,[(0,(0,[repT cA 0]))])
theorem qUZ{k:Int}(hk:1<=k/\k<=100):put (k,[]) (repT cA 0)=(ca1 k,0):=by
 have h1:rightC (k,[])=true:=by unfold rightC;rw[ZAJ (show 1<=(k,([]:List KeptT)).1/\(k,([]:List KeptT)).1<=100 from hk)];rfl
 have e:putK k (0,(0,[])) (repT cA 0)=(0,(0,[repT cA 0])):=by
  unfold putK;dsimp only;rw[ZAQ (by show¬((1:Nat):Int)>k;omega)]
  rfl
 unfold put;rw[ZAT ⟨h1,by kernel_rfl,by unfold look;split<;>rfl⟩];show((k,[putK k (0,(0,[])) (repT cA 0)]),(0:Int))=_;rw[e]
 rfl
theorem kgZ{k:Int}{q:Nat}(hk:1<=k/\k<=100)(hq:16<=q/\q<=65):
 sApp fuel (g0 k) q cA [] 0=some ((gt 0 [] 0 (ca1 k):GateT),(0,(1,((0:Int),((2:Int),((1:Int),(false,((0:Int),(([]:List UInt8),(([]:List EntT),(false,((0:Int),(0:Int))))))))))))):=by
 unfold sApp;rw[qHZ hk hq,ZAA];simp only[ZAV,ZAP,ZAE];rw[show sfit fuel (planT [] []) [] 0=some true from by kernel_rfl,ZAA];simp only[ZAP,ZAE];rw[show(g0 k).2.1=T0 from rfl,show sbar fuel T0=_ from pCZ,ZAA];simp only;rw[show((M0.1.1,(0:Int)),M0.2)=M0 from rfl,qSZ,ZAA,ZAA];simp only[ZAX,ZAA];rw[rfZ k hk,ZAA];simp only;rw[show(g0 k).2.2.1=(k,[]) from rfl];have hP:rPut fuel (k,[]) (repT cA 0)=some (putO (ca1 k,0)):=by rw[p5Z (k,[]) _ ⟨by simp,fun x hx=>(by cases hx)⟩ ⟨by simp[repT],by simp[repT]⟩,qUZ hk]
 refine(congrArg (fun o=>Option.bind o _) (show rPut fuel (k,[]) _=_ from hP)).trans ?_;rw[ZAA];simp only[putO,ZAV,ZAP,ZAE];rw[show(doT (MFw [] 0,0,((2,1),false,0,[],[],false,0)) cA).2.2.2.1=0 from rfl];simp only[ZAV,ZAP,ZAE];refine(congrArg (fun o=>Option.bind o _) (show sapptakgo fuel _ _ _ _ _ _ _ _ _ _=_ from qBZ 0 0 0 (ca1 k).1 (ca1 k).2 (q:Int) 0 pl3 [])).trans ?_;rw[ZAA];rw[show((((cA.2.2.1.toNat:Nat):Int)==5))=false from rfl,show((((cA.2.2.1.toNat:Nat):Int)==6))=false from rfl];simp only[ZAE,ZAX,ZAA];rw[cTZ (by omega),ZAA];simp only[ZAP,ZAE,ZAX,ZAA,ZBy]
 rfl
end Go.Ab.D
set_option maxHeartbeats 4000000
set_option maxRecDepth 100000
namespace Go.Ab.D
open Go Go.Ab
theorem ebZ{c:CallT}{n:Int}(hw:whoseB3 c.1 c.2.1=true)(hn:0<=n/\n<=65536):rightReply (repT c n)=true:=by
 unfold rightReply repT;simp only[hw,ZA4];rw[ZAQ (by decide),ZAJ (show 0<=n/\n<=65536 from hn)]
 rfl
theorem ilZ(k:Int)(hk:k=2\/k=3):rightC (ca1 k)=true:=by rcases hk with rfl|rfl<;>kernel_rfl
def c2:CallT:=wrC 2 0 []
def ca2(k n:Int):CacheT:=(k,[(0,(0,[repT cA 0,repT c2 n]))])
theorem hfZ(k:Int)(hk:k=2\/k=3):(look (ca1 k) 0 2).2=0:=by rcases hk with rfl|rfl<;>kernel_rfl
theorem nOZ{k n:Int}(hk:k=2\/k=3)(hn:0<=n/\n<=65536):put (ca1 k) (repT c2 n)=(ca2 k n,0):=by
 unfold put;rw[ZAT ⟨ilZ k hk,ebZ (by kernel_rfl) hn,hfZ k hk⟩];rcases hk with rfl|rfl<;>kernel_rfl
theorem d2Z{k n:Int}(hk:k=2\/k=3)(hn:0<=n/\n<=65536):rightC (ca2 k n)=true:=by
 have h2:rightReply (repT c2 n)=true:=ebZ (by kernel_rfl) hn;have h1:rightReply (repT cA 0)=true:=by kernel_rfl
 unfold rightC ca2 clientsB keptB;simp only[rightOf,h1,h2,clientsB,Bool.and_true];rcases hk with rfl|rfl<;>(show _=true;kernel_rfl)
theorem hnZ{k n:Int}(hk:k=2\/k=3)(hn:0<=n/\n<=65536):(look (ca2 k n) 0 3).2=0:=by
 unfold look;rw[ZAT (d2Z hk hn)];rcases hk with rfl|rfl<;>rfl
def c3:CallT:=szC 3 0
theorem mkZ{k n m:Int}(hk:k=2\/k=3)(hn:0<=n/\n<=65536)(hm:0<=m/\m<=65536):∃ca',put (ca2 k n) (repT c3 m)=(ca',0):=by
 unfold put;rw[ZAT ⟨d2Z hk hn,ebZ (by kernel_rfl) hm,hnZ hk hn⟩];exact⟨_,rfl⟩
def hz(a k:Nat):List Part:=List.replicate a (0,0)++(List.range k).map fun j=>(((j+1:Nat):Int),((7+j:Nat):Int))
theorem dFZ(a k:Nat):(hz a k).length=a+k:=by simp[hz]
theorem qXZ(a k m:Nat):(hz a k++List.replicate (m+1) (0,0)).set (a+k) (((k+1:Nat):Int),((7+k:Nat):Int))=hz a (k+1)++List.replicate m (0,0):=by
 rw[List.set_append_right _ _ (by rw[dFZ];omega),dFZ,ZBx,List.replicate_succ,ZBy];unfold hz;rw[List.range_succ,List.map_append,ZAr,ZAr,ZAr]
 rfl
theorem rjZ(a k i:Nat)(hi:i<a+k):∃p,(hz a k)[i]? =some p/\(decide (i<a)=((p.1==0)&&(p.2==0))):=by
 unfold hz;by_cases h:i<a
 ·refine⟨(0,0),?_,by rw[ZAJ h];rfl⟩;rw[ZAL (by simpa using h),ZB1,ZAT h]
 ·refine⟨_,by rw[ZAO (by simp;omega),ZAx,ZAW,List.getElem?_range (by omega)];rfl,?_⟩;rw[ZAG h];show false=((((i-a+1:Nat):Int)==0)&&_);rw[ZA5.2 (by omega)]
  rfl
theorem j1Z(a:Nat):stripes (List.replicate a (0,0))=[]:=by
 unfold stripes;rw[List.filter_eq_nil_iff.2 (fun p hp=>by rw[ZBX hp];decide)]
 rfl
theorem pQZ{a k:Nat}(h:a+k<=4096):GoodP (hz a k) (k:Int):=by
 refine⟨by rw[dFZ];exact h,fun p hp=> ?_,?_,by omega⟩
 ·unfold hz at hp;rcases ZAh.1 hp with hp|hp
  ·rw[ZBX hp];exact .inl ⟨rfl,rfl⟩
  ·obtain⟨j,hj,rfl⟩:=ZCB.1 hp;have:=ZCC.1 hj;refine .inr ⟨?_,?_,?_,?_⟩<;>simp only<;>omega
 ·unfold hz;rw[aSZ,j1Z,ZBA];unfold stripes;rw[List.filter_eq_self.2 (fun p hp=>by
   obtain⟨j,_,rfl⟩:=ZCB.1 hp;show((((j+1:Nat):Int)) !=0)=true;rw[bne_iff_ne];omega),List.map_map]
  unfold List.Nodup;rw[List.pairwise_map];exact List.nodup_range.imp fun h=>by show((_+1:Nat):Int)≠((_+1:Nat):Int);omega
theorem fpZ(P:List Part)(n:Nat):splice (List.replicate (α:=Int×Int) n (0,0)) 0 (List.take (List.replicate (α:=Int×Int) n (0,0)).length P)=P.take n++List.replicate (n-P.length) (0,0):=by
 unfold splice;simp;omega
end Go.Ab.D
set_option maxHeartbeats 4000000
set_option maxRecDepth 100000
namespace Go.Ab.D
open Go Go.Ab
abbrev NeedT:Type:=Int×(Part×Int)
def needF(a k:Nat):NeedT:=(((a+k:Nat):Int),((0,0),((k+1:Nat):Int)))
def needs(a k:Nat):List NeedT:=(List.range k).map (needF a)
theorem biZ(a k:Nat):(needs a k).length=k:=by simp[needs]
theorem kUZ(a k:Nat):needs a (k+1)=needs a k++[needF a k]:=by unfold needs;rw[List.range_succ,List.map_append];rfl
theorem itZ{a k j:Nat}(h:j<k):(needs a k)[j]? =some (needF a j):=by
 unfold needs;rw[ZAW,List.getElem?_range h];rfl
theorem mDZ(sz:Int){i:Int}(hi:0<=i):spar fuel (fileI sz []) i=some (0,0):=by
 unfold spar;rw[show(((fileI sz []).2.2.2.2.2.1.length:Nat):Int)=0 from rfl,ZAJ (by omega)]
 rfl
theorem ozZ(sz:Int){a k:Nat}(h:a+k<=100000)(whole:Bool)(some_:List NeedT):
 swri1 fuel ((a+k:Nat):Int) whole [fileI sz []] (k:Int) (needs a k) some_=some (.inr (((k+1:Nat):Int),(some_,needs a (k+1)))):=by
 unfold swri1;rw[ZAX,ZAA,mDZ sz (by omega),ZAA];simp only[ZAV,Bool.and_true,ZAK,ZAA,ZAX,ZAP,ZAE];rw[adZ (by simp only[ZAB,ZAm,avZ,biZ];omega),w64 (by omega),kUZ]
 rfl
theorem loZ(sz:Int){a k q:Nat}{e:Int}{c:CallT}(h:a+k<=100000)(some_:List NeedT):
 swri2 fuel ((a+k:Nat):Int) [c] [fileI sz []] (k:Int) (needs a k) some_ (q:Int) e=some (.inr ([fileI sz []],(((k+1:Nat):Int),(some_,((q:Int),(e,needs a (k+1))))))):=by
 unfold swri2;rw[ZAX,ZAA];cases decide (c.2.2.2.2.2.2.2.1<=IntKind.wrap .i64 (((a+k:Nat):Int)*(q:Int)))<;>simp only[ZAK,ZAE]<;>rw[ozZ sz h,ZAA]
theorem nfZ(sz:Int){a n q e:Nat}{c:CallT}(hq:1<=q)(hn:a+n<=100000)(hin:∀k,k<n->(a+k)*q<e)(hout:e<=(a+n)*q)(hb:(a+n)*q<=1000000000){from_:Nat}(hf:from_/q=a):
 sspaf23cf fuel (q:Int) (from_:Int) (e:Int) [fileI sz []] 0 [c] (q:Int) (e:Int)=some ([fileI sz []],((n:Int),([c],((q:Int),((e:Int),(needs a n,[])))))):=by
 unfold sspaf23cf;rw[adZ (by rw[ZAG (by omega)];rfl),dAZ,hf,w64 (x:=(a:Int)) (by
  have:a<=(a+n)*q:=ZBI (ZBn a n) (Nat.le_mul_of_pos_right _ (by omega));omega)]
 have loop:sspaf23cf_l0_it fuel (q:Int) (e:Int) ((a:Int),([fileI sz []],(0,([],([],([c],((q:Int),(e:Int))))))))=some ([fileI sz []],((n:Int),(needs a n,([],([c],((q:Int),(e:Int))))))):=by
  unfold sspaf23cf_l0_it;refine a4Z (fun k:Nat=>(((a+k:Nat):Int),([fileI sz []],((k:Int),(needs a k,(([]:List NeedT),([c],((q:Int),(e:Int))))))))) n (by omega) (fun k hk=> ?_) ?_
  ·show sspaf23cf_l0 fuel (q:Int) (e:Int) ((a+k:Nat):Int) [fileI sz []] (k:Int) (needs a k) [] [c] (q:Int) (e:Int)=_;unfold sspaf23cf_l0;have h1:=hin k hk;have h2:(a+k)*q<=(a+n)*q:=ZAf _ (by omega);have e1:((a+k:Nat):Int)*(q:Int)=(((a+k)*q:Nat):Int):=by rw[Int.natCast_mul]
   rw[e1];generalize (a+k)*q=z at*;rw[w64 (by omega),ZAJ (show(z:Int)<(e:Int) by omega),ZAK,loZ sz (by omega),ZAA];simp only[ZAA];rw[w64 (by omega)]
   rfl
  ·show sspaf23cf_l0 fuel (q:Int) (e:Int) ((a+n:Nat):Int) [fileI sz []] (n:Int) (needs a n) [] [c] (q:Int) (e:Int)=_;unfold sspaf23cf_l0;have e1:((a+n:Nat):Int)*(q:Int)=(((a+n)*q:Nat):Int):=by rw[Int.natCast_mul]
   rw[e1];generalize (a+n)*q=z at*;rw[w64 (by omega),ZAG (by omega),ZAE]
 rw[loop,ZAA]
theorem jBZ(sz:Int){a n q off len:Nat}(x:Int)(hq:1<=q)(hl:0<len)(hn:a+n<=100000)(hin:∀k,k<n->(a+k)*q<off+len)(hout:off+len<=(a+n)*q)(hb:(a+n)*q<=1000000000)(hf:off/q=a):
 swri fuel (fileI sz []) 0 (q:Int) (wrC x (off:Int) (List.replicate len 0))=some (needs a n,[]):=by
 unfold swri;have ho:off<=1000000000:=by omega
 rw[show(((wrC x (off:Int) (List.replicate len 0)).2.2.1.toNat:Nat):Int)=5 from rfl,show(wrC x (off:Int) (List.replicate len 0)).2.2.2.2.2.2.2.2.2=List.replicate len 0 from rfl,show(wrC x (off:Int) (List.replicate len 0)).2.2.2.2.2.2.2.1=(off:Int) from rfl,ZAx];rw[w64 (by omega),show((off:Int)+(len:Int))=((off+len:Nat):Int) by omega,ZAJ (show(len:Int)>0 by omega)];simp only[ZAV,ZAK,ZAA,ZAX];rw[show(wrC x (off:Int) (List.replicate len 0)).2.2.2.2.2.2.2.1=(off:Int) from rfl,nfZ sz hq hn hin hout hb hf,ZAA]
def vers(k:Nat):List Int:=(List.range k).map fun j=>((7+j:Nat):Int)
theorem dNZ(k:Nat):(vers k).length=k:=by simp[vers]
theorem nhZ(k:Nat):vers (k+1)=vers k++[((7+k:Nat):Int)]:=by unfold vers;rw[List.range_succ,List.map_append];rfl
theorem kAZ{k j:Nat}(h:j<k):(vers k)[j]? =some ((7+j:Nat):Int):=by
 unfold vers;rw[ZAW,List.getElem?_range h];rfl
theorem mlZ{a n:Nat}(hn:n<=100000):sfit fuel (planT [] (needs a n)) (vers n) 0=some true:=by
 have loop:sEquFun_l0_it fuel (needs a n) (vers n) 0=some (.inl ()):=by
  unfold sEquFun_l0_it;refine a4Z (fun k:Nat=>(k:Int)) n (by omega) (fun k hk=> ?_) ?_
  ·unfold sEquFun_l0;rw[biZ,dNZ,ZAJ (by omega),ZAK,anZ hk,ZAA,itZ hk,ZAA,ZAA,kAZ hk,ZAA];unfold sfit1 needF;simp only;rw[ZAJ (by omega),ZAK,ZAJ (by omega),ZAK,ZAJ (by omega),ZAA,w64 (by omega)]
   rfl
  ·unfold sEquFun_l0;rw[biZ,ZAG (by omega),ZAE]
 unfold sfit planT;simp only[ZAV,ZAP,ZAE,show decide ((0:Int)<0)=false from rfl,show decide ((0:Int)>1000)=false from rfl,ZAA];unfold sEquFun;rw[biZ,dNZ,ZAV];simp only[ZAP,ZAE];rw[loop]
 rfl
end Go.Ab.D
set_option maxHeartbeats 4000000
set_option maxRecDepth 100000
namespace Go.Ab.D
open Go Go.Ab
theorem iuZ{a n q sz:Nat}{win:Int}{ks:List KeptT}{pl:List PlaceT}(hs:sz<=65536)(hq:16<=q/\q<=65)(hp:(sz+q-1)/q=a+n)(hn:a+n<=4096):
 sappwri fuel 2 (needs a n) (vers n) 0 0 win ks (q:Int) (tf (sz:Int) [] 0).1 pl [] []=some (0,((n:Int),(win,(ks,((q:Int),((tf (sz:Int) (hz a n) n).1,(pl,([],[])))))))):=by
 unfold sappwri;rw[show idx? (IntKind.wrap .i64 (2-1)) (tf (sz:Int) [] 0).1.length=some 1 from rfl,ZAA,show(tf (sz:Int) [] 0).1[1]? =some (fileI (sz:Int) []) from rfl,ZAA];rw[show(fileI (sz:Int) []).2.2.2.2.1=(sz:Int) from rfl,dSZ (by omega) (by omega),hp,ZAA,a8Z (by rw[avZ];omega),ZAA,a8Z (ZAM _),ZAA,adZ (by rw[ZAm,avZ];omega)];simp only[ZAA];rw[show(fileI (sz:Int) []).2.2.2.2.2.1=[] from rfl,show(if((([]:List Part).length:Nat):Int)<((a+n:Nat):Int) then((([]:List Part).length:Nat):Int) else((a+n:Nat):Int))=((0:Nat):Int) from by
  by_cases h:a+n=0
  ·rw[ZAQ (by simp;omega),h]
  ·rw[ZAT (by simp;omega)];rfl,a8Z (ZBS _),ZAA,adZ (by simp[avZ]),fpZ]
 have loop:sappwri_l0_it fuel (needs a n) (vers n) (1,((0:Int),((0:Int),((0:Int),(win,(ks,((q:Int),((tf (sz:Int) [] 0).1,(pl,(([]:List Part),(([]:List Part)++List.drop 0 [],List.take (a+n) []++List.replicate (a+n-([]:List Part).length) (0,0))))))))))))=some (1,((0:Int),((n:Int),(win,(ks,((q:Int),((tf (sz:Int) [] 0).1,(pl,([],([],hz a n)))))))))):=by
  unfold sappwri_l0_it;have e:((1:Nat),((0:Int),((0:Int),((0:Int),(win,(ks,((q:Int),((tf (sz:Int) [] 0).1,(pl,(([]:List Part),(([]:List Part)++List.drop 0 [],List.take (a+n) []++List.replicate (a+n-([]:List Part).length) (0,0))))))))))))=(fun k:Nat=>((1:Nat),((k:Int),((0:Int),((k:Int),(win,(ks,((q:Int),((tf (sz:Int) [] 0).1,(pl,(([]:List Part),(([]:List Part),hz a k++List.replicate (n-k) (0,0))))))))))))) 0:=by
   simp[hz]
  refine(congrArg (iter fuel _) e).trans ?_;refine a4Z (fun k:Nat=>((1:Nat),((k:Int),((0:Int),((k:Int),(win,(ks,((q:Int),((tf (sz:Int) [] 0).1,(pl,(([]:List Part),(([]:List Part),hz a k++List.replicate (n-k) (0,0))))))))))))) n (by omega) (fun k hk=> ?_) ?_
  ·show sappwri_l0 fuel (needs a n) (vers n) 1 (k:Int) 0 (k:Int) win ks (q:Int) (tf (sz:Int) [] 0).1 pl [] [] (hz a k++List.replicate (n-k) (0,0))=_;unfold sappwri_l0;obtain⟨m,hm⟩:∃m,n-k=m+1:=⟨n-k-1,by omega⟩;have hl:(hz a k++List.replicate (n-k) ((0,0):Part)).length=a+n:=by simp[dFZ];omega
   rw[biZ,dNZ,ZAJ (by omega),ZAK,anZ hk,ZAA,itZ hk,ZAA,ZAA,kAZ hk,ZAA];rw[show(needF a k).1=((a+k:Nat):Int) from rfl,hl,anZ (by omega),ZAA];obtain⟨y,hy⟩:∃y,(hz a k++List.replicate (n-k) ((0,0):Part))[a+k]? =some y:=⟨_,ZAD (by rw[hl];omega)⟩;rw[hy,ZAA,show(needF a k).2.2=((k+1:Nat):Int) from rfl,ZAT (by omega),w64 (by omega),hm,qXZ,show m=n-(k+1) by omega]
   rfl
  ·show sappwri_l0 fuel (needs a n) (vers n) 1 (n:Int) 0 (n:Int) win ks (q:Int) (tf (sz:Int) [] 0).1 pl [] [] (hz a n++List.replicate (n-n) (0,0))=_;unfold sappwri_l0;rw[biZ,ZAG (by omega),ZAE,ZBx,List.replicate_zero,ZA1]
 have len0:(List.replicate (α:=Int×Int) (a+n) (0,0)).length=a+n:=ZAx;rw[loop,ZAA]
 rfl
theorem ixZ{q N:Nat}{P:List Part}{w win:Int}{ks:List KeptT}{pl:List PlaceT}(hs:N<=65536)(hq:16<=q/\q<=65)(hp:P.length<=(N+q-1)/q)(hn:(N+q-1)/q<=100000):
 sappwri fuel 2 [] [] 0 w win ks (q:Int) (tf (N:Int) P w).1 pl [] []=some (0,(w,(win,(ks,((q:Int),((tf (N:Int) (P++List.replicate ((N+q-1)/q-P.length) (0,0)) w).1,(pl,([],[])))))))):=by
 unfold sappwri;rw[show idx? (IntKind.wrap .i64 (2-1)) (tf (N:Int) P w).1.length=some 1 from rfl,ZAA,show(tf (N:Int) P w).1[1]? =some (fileI (N:Int) P) from rfl,ZAA];rw[show(fileI (N:Int) P).2.2.2.2.1=(N:Int) from rfl,dSZ (by omega) (by omega)];generalize (N+q-1)/q=m at*;rw[ZAA,a8Z (by rw[avZ];omega),ZAA,a8Z (ZAM _),ZAA,adZ (by rw[ZAm,avZ];omega)];simp only[ZAA];rw[show(fileI (N:Int) P).2.2.2.2.2.1=P from rfl,show(if((P.length:Nat):Int)<(m:Int) then((P.length:Nat):Int) else(m:Int))=((P.length:Nat):Int) from by
  by_cases h:P.length<m
  ·rw[ZAT (by omega)]
  ·rw[ZAQ (by omega)];omega,a8Z (ZAM _),ZAA,List.drop_length,adZ (by simp[avZ]),fpZ,ZAu hp]
 rw[show sappwri_l0_it fuel [] [] (1,((0:Int),((0:Int),(w,(win,(ks,((q:Int),((tf (N:Int) P w).1,(pl,(([]:List Part),(([]:List Part)++[],P++List.replicate (m-P.length) (0,0))))))))))))=some (1,((0:Int),(w,(win,(ks,((q:Int),((tf (N:Int) P w).1,(pl,([],([],P++List.replicate (m-P.length) (0,0))))))))))) from by kernel_rfl,ZAA]
 rfl
theorem hKZ{k:Int}{q:Nat}(hk:k=2\/k=3)(hq:16<=q/\q<=65):Sh 0 [] 0 (ca1 k) q:=⟨by omega,msZ (by omega),by
 rw[ZAj,Nat.div_eq_of_lt (by omega)];rfl,hq,ilZ k hk⟩
structure Wr (off len q a n:Nat):Prop where
 hq:16<=q/\q<=65
 hl:1<=len/\len<=40
 ho:off<=2000
 ha:off/q=a
 hn:(off+len-1)/q+1=a+n
 n1:1<=n
theorem Wr.mk'{off len q:Nat}(hq:16<=q/\q<=65)(hl:1<=len/\len<=40)(ho:off<=2000):Wr off len q (off/q) ((off+len-1)/q-off/q+1):=by
 have:off/q<=(off+len-1)/q:=Nat.div_le_div_right (by omega);exact⟨hq,hl,ho,rfl,by omega,by omega⟩
section
variable {off len q a n : Nat} (h : Wr off len q a n)
include h
theorem Wr.small:a+n<=2040:=by
 have:=h.hn;have:=h.ho;have:=h.hl;have:=Nat.div_le_self (off+len-1) q;omega
theorem Wr.inn(k:Nat)(hk:k<n):(a+k)*q<off+len:=by
 have h1:(a+k)*q<=((off+len-1)/q)*q:=ZAf _ (by have:=h.hn;omega);have h2:=Nat.div_mul_le_self (off+len-1) q;have:=h.hl;omega
theorem Wr.out:off+len<=(a+n)*q/\(a+n)*q<=1000000:=by
 have e:=Nat.div_add_mod (off+len-1) q;have hm:=ZCF (off+len-1) (show q>0 by have:=h.hq;omega);have h1:(a+n)*q=q*((off+len-1)/q)+q:=by rw[<-h.hn,Nat.mul_comm,Nat.mul_add,Nat.mul_one]
 have:=h.hq;have:=h.hl;have:=h.ho;omega
theorem Wr.pie:(off+len+q-1)/q=a+n:=by
 rw[<-h.hn,show off+len+q-1=(off+len-1)+q by have:=h.hl;omega,Nat.add_div_right _ (by have:=h.hq;omega)]
theorem Wr.plan:sPla fuel (gt 0 [] 0 (ca1 2)) q (wrC 2 (off:Int) (List.replicate len 0))=some (planT [] (needs a n),0):=by
 have hq:=h.hq;have hl:=h.hl;have ho:=h.ho;have hs:=h.small;have hou:=h.out;have hS:=hKZ (k:=2) (.inl rfl) hq;refine(hMZ (sz:=0) hS (coZ (by omega) (by omega) (by simp;omega)) (lEZ (b:=List.replicate 0 0) (w:=0) (x:=2) (off:=(off:Int)) (bs:=List.replicate len 0) (by simp) (by omega) (by omega) (by omega) (by simp;omega) (by simp;omega)) (hfZ 2 (.inl rfl)) (.inl rfl) rfl).trans ?_;rw[show((0:Nat):Int)=0 from rfl,jBZ 0 2 (by omega) (by omega) (by omega) h.inn hou.1 (by omega) h.ha,ZAA]
theorem Wr.apply:sApp fuel (gt 0 [] 0 (ca1 2)) q (wrC 2 (off:Int) (List.replicate len 0)) (vers n) 0=some ((gt ((off+len:Nat):Int) (hz a n) (n:Int) (ca2 2 ((off+len:Nat):Int)):GateT),(0,(2,((0:Int),((2:Int),((1:Int),(false,(((off+len:Nat):Int),(([]:List UInt8),(([]:List EntT),(false,((0:Int),(0:Int))))))))))))):=by
 have hq:=h.hq;have hl:=h.hl;have ho:=h.ho;have hs:=h.small;have hou:=h.out;have hS:=hKZ (k:=2) (.inl rfl) hq;have hb:(writeL (List.replicate 0 0) (off:Int) (List.replicate len 0)).length=off+len:=by
  rw[baZ];unfold writeN;rw[ZAQ (by simp;omega)];simp
 have hm:=lEZ (b:=List.replicate 0 0) (w:=0) (x:=2) (off:=(off:Int)) (bs:=List.replicate len 0) (by simp) (by omega) (by omega) (by omega) (by simp;omega) (by simp;omega);rw[<-baZ] at hm;have:=eCZ (sz:=0) hS (c:=wrC 2 (off:Int) (List.replicate len 0)) (b':=writeL (List.replicate 0 0) (off:Int) (List.replicate len 0)) (rd:=[]) (wr:=needs a n) (vs:=vers n) (ca':=ca2 2 ((off+len:Nat):Int)) (P':=hz a n) (gone:=[]) (dead:=[]) (w':=(n:Int)) (.inl rfl) rfl h.plan (mlZ (by omega)) hm
  (by rw[hb];exact nOZ (.inl rfl) (by omega)) (by rw[hb];exact iuZ (by omega) hq h.pie (by omega)) (by exact cTZ (by omega))
 rw[hb] at this;exact this
theorem Wr.sh:Sh (off+len) (hz a n) (n:Int) (ca2 2 ((off+len:Nat):Int)) q:=by
 have hq:=h.hq;have hl:=h.hl;have ho:=h.ho;have hs:=h.small;exact⟨by omega,pQZ (by omega),by rw[dFZ,h.pie],hq,d2Z (.inl rfl) (by omega)⟩
variable {N : Nat} (hN : off + len ≤ N ∧ N ≤ 65536)
include hN
theorem Wr.pie2:(hz a n).length<=(N+q-1)/q/\(N+q-1)/q<=100000:=by
 have hq:=h.hq;rw[dFZ,<-h.pie];refine⟨Nat.div_le_div_right (by omega),?_⟩;have:=Nat.div_le_self (N+q-1) q;omega
theorem Wr.do3:model_Do fuel (MFw (List.replicate (off+len) 0) (n:Int)) (szC 3 (N:Int))=some (doT (MFw (sizedL (List.replicate (off+len) 0) N) (n:Int),0,((2,1),false,(N:Int),[],[],false,0)) (szC 3 (N:Int))):=by
 have hq:=h.hq;have hl:=h.hl;have ho:=h.ho;have hs:=h.small;exact oUZ (b:=List.replicate (off+len) 0) (w:=(n:Int)) (x:=3) (n:=(N:Int)) (by simp;omega) (by omega) (by omega) (by omega)
theorem Wr.plan3:sPla fuel (gt ((off+len:Nat):Int) (hz a n) (n:Int) (ca2 2 ((off+len:Nat):Int))) q (szC 3 (N:Int))=some (planT [] [],0):=by
 have hq:=h.hq;have hl:=h.hl;have ho:=h.ho;have hs:=h.small;refine(hMZ h.sh (cEZ (by omega) (by omega)) (h.do3 hN) (hnZ (.inl rfl) (by omega)) (.inr rfl) rfl).trans ?_;have e:swri fuel (fileI ((off+len:Nat):Int) (hz a n)) (n:Int) (q:Int) (szC 3 (N:Int))=some ([],[]):=by
  unfold swri;rw[show(((szC 3 (N:Int)).2.2.1.toNat:Nat):Int)=6 from rfl];simp only[show((6:Int)==5)=false from rfl,ZAE,ZAA,ZAX];rw[show(((szC 3 (N:Int)).2.2.1.toNat:Nat):Int)=6 from rfl];simp only[ZAV,ZAK];rw[show(szC 3 (N:Int)).2.2.2.2.2.2.2.2.1=(N:Int) from rfl,show(fileI ((off+len:Nat):Int) (hz a n)).2.2.2.2.1=((off+len:Nat):Int) from rfl,ZAG (by omega)]
  rfl
 rw[e,ZAA]
theorem Wr.apply3:∃(ca':CacheT),sApp fuel (gt ((off+len:Nat):Int) (hz a n) (n:Int) (ca2 2 ((off+len:Nat):Int))) q (szC 3 (N:Int)) [] 0=some ((gt (N:Int) (hz a n++List.replicate ((N+q-1)/q-(hz a n).length) (0,0)) (n:Int) ca':GateT),(0,(3,((0:Int),((2:Int),((1:Int),(false,((N:Int),(([]:List UInt8),(([]:List EntT),(false,((0:Int),(0:Int))))))))))))):=by
 have hq:=h.hq;have hl:=h.hl;have ho:=h.ho;have hs:=h.small;obtain⟨ca',hput⟩:=mkZ (k:=2) (n:=((off+len:Nat):Int)) (m:=(N:Int)) (.inl rfl) (by omega) (by omega);have hb:(sizedL (List.replicate (off+len) 0) N).length=N:=aPZ _ _;have hm:=h.do3 hN;rw[show((N:Int))=(((sizedL (List.replicate (off+len) 0) N).length:Nat):Int) from by rw[hb]] at hm;have hm':model_Do fuel (MFw (List.replicate (off+len) 0) (n:Int)) (szC 3 (N:Int))=some (doT (MFw (sizedL (List.replicate (off+len) 0) N) (n:Int),0,((2,1),false,(((sizedL (List.replicate (off+len) 0) N).length:Nat):Int),[],[],false,0)) (szC 3 (N:Int))):=by rw[hb];exact h.do3 hN
 obtain⟨p1,p2⟩:=h.pie2 hN;have:=eCZ h.sh (c:=szC 3 (N:Int)) (b':=sizedL (List.replicate (off+len) 0) N) (rd:=[]) (wr:=[]) (vs:=[]) (ca':=ca') (P':=hz a n++List.replicate ((N+q-1)/q-(hz a n).length) (0,0)) (gone:=[]) (dead:=[]) (w':=(n:Int)) (.inr rfl) rfl (h.plan3 hN) (by kernel_rfl) hm'
  (by rw[hb];exact hput) (by rw[hb];exact ixZ (by omega) hq p1 p2) (by exact cTZ (by omega))
 rw[hb] at this;exact⟨ca',this⟩
end
end Go.Ab.D
set_option maxHeartbeats 4000000
set_option maxRecDepth 100000
namespace Go.Ab.D
open Go Go.Ab
section
variable {sz q : Nat} {P : List Part} {w : Int} {ca : CacheT}
theorem qiZ(h:Sh sz P w ca q){c:CallT}{m':Mod}{r:Rep}(hc:rightCall c=true)(hm:model_Do fuel (MFw (List.replicate sz 0) w) c=some (doT (m',0,r) c))(hop:c.2.2.1=UInt8.ofNat 4)(hh:c.2.2.2.1.1=2):
 ∃rp:ReplyT,sPla fuel (gt sz P w ca) q c=(srea fuel (fileI sz P) q c).bind fun r10=>some ((1,(rp,(r10,[]))),0):=by
 refine⟨(c.1,(c.2.1,(0,(r.1,(r.2.1,(r.2.2.1,([],r.2.2.2.2))))))),?_⟩;unfold sPla;rw[h.right,ZAA];simp only[ZAP,ZAE];rw[aLZ,hc,ZAA];simp only[ZAP,ZAE];rw[show(gt sz P w ca).2.1=tf sz P w from rfl,jOZ h.s h.p,ZAA];simp only;rw[show(((MFw (List.replicate sz 0) w).1.1,w),(MFw (List.replicate sz 0) w).2)=MFw (List.replicate sz 0) w from rfl,hm,ZAA,show sask fuel ((c.2.2.1.toNat:Nat):Int)=some true from by rw[hop];rfl,ZAA];simp only[ZAK];rw[show((((c.2.2.1.toNat:Nat):Int))==4)=true from by rw[hop];rfl,show(doT (m',0,r) c).2.2.2.1=0 from rfl];simp only[ZAK,ZAV,ZAA,ZAX,ZBy,hh];rw[show idx? (IntKind.wrap .i64 (2-1)) (gt sz P w ca).2.1.1.length=some 1 from rfl,ZAA,show(gt sz P w ca).2.1.1[1]? =some (fileI sz P) from rfl,ZAA];cases srea fuel (fileI sz P) q c with
 |none=>rfl
 |some l=>rfl
end
theorem kaZ{x off n:Int}(hx:1<=x/\x<=1099511627776)(ho:0<=off/\off<=2147483648)(hn:0<=n/\n<=4096):rightCall (rdC x off n)=true:=by
 show rightS (true,(false,(false,(true,(4096,(false,true)))))) (rdC x off n)=true;unfold rightS rdC;simp only[ZA4,Bool.true_or,n4Z hx,ZAJ ho,ZAJ hn]
 rfl
def P2:List Part:=[(1,5),(2,5)]
theorem sh2:Sh 20 P2 2 (ca2 3 20) 16:=by
 refine⟨by omega,⟨by decide,fun p hp=> ?_,by decide,by omega⟩,by decide,by omega,d2Z (.inr rfl) (by omega)⟩;simp only[P2,ZAa,List.mem_nil_iff,or_false] at hp;rcases hp with rfl|rfl<;>exact .inr (by decide)
theorem oxZ:sApp fuel (gt 0 [] 0 (ca1 3)) (16:Int) (wrC 2 0 (List.replicate 20 0)) [5,5] 0=some ((gt 20 P2 2 (ca2 3 20):GateT),(0,(2,((0:Int),((2:Int),((1:Int),(false,((20:Int),(([]:List UInt8),(([]:List EntT),(false,((0:Int),(0:Int))))))))))))):=by
 have hS:=hKZ (k:=3) (q:=16) (.inr rfl) (by omega);have hb:(writeL (List.replicate 0 0) 0 (List.replicate 20 0)).length=20:=by
  rw[baZ];decide
 have hm:=lEZ (b:=List.replicate 0 0) (w:=0) (x:=2) (off:=0) (bs:=List.replicate 20 0) (by simp) (by omega) (by omega) (by omega) (by simp) (by simp);have hp:sPla fuel (gt 0 [] 0 (ca1 3)) ((16:Nat):Int) (wrC 2 0 (List.replicate 20 0))=some (planT [] [(0,((0,0),1)),(1,((0,0),2))],0):=by
  refine(hMZ (sz:=0) hS (coZ (by omega) (by omega) (by simp)) hm (hfZ 3 (.inr rfl)) (.inl rfl) rfl).trans ?_;rw[show swri fuel (fileI ((0:Nat):Int) []) 0 ((16:Nat):Int) (wrC 2 0 (List.replicate 20 0))=some ([(0,((0,0),1)),(1,((0,0),2))],[]) from by kernel_rfl,ZAA]
 rw[<-baZ] at hm;have:=eCZ (sz:=0) hS (c:=wrC 2 0 (List.replicate 20 0)) (b':=writeL (List.replicate 0 0) 0 (List.replicate 20 0)) (rd:=[]) (wr:=[(0,((0,0),1)),(1,((0,0),2))]) (vs:=[5,5]) (ca':=ca2 3 20) (P':=P2) (gone:=[]) (dead:=[]) (w':=2) (.inl rfl) rfl hp (by kernel_rfl) hm
  (by rw[hb];exact nOZ (.inr rfl) (by omega)) (by rw[hb];show _=_;kernel_rfl) (cTZ (by omega))
 rw[hb] at this;exact this
theorem dTZ{c:CallT}{m':Mod}{r:Rep}{rd wr:List NeedT}(hc:rightCall c=true)(hm:model_Do fuel (MFw (List.replicate 20 0) 2) c=some (doT (m',0,r) c))(hx:c.1=0/\c.2.1=3)(hop:c.2.2.1=UInt8.ofNat 5\/c.2.2.1=UInt8.ofNat 6)(hh:c.2.2.2.1.1=2)
 (hw:swri fuel (fileI ((20:Nat):Int) P2) 2 ((16:Nat):Int) c=some (wr,rd)):sPla fuel (gt 20 P2 2 (ca2 3 20)) (16:Int) c=some (planT rd wr,0):=by
 refine(hMZ sh2 hc hm (by rw[hx.1,hx.2];exact hnZ (.inr rfl) (by omega)) hop hh).trans ?_;rw[hw,ZAA]
theorem pUZ:∃ca',sApp fuel (gt 20 P2 2 (ca2 3 20)) (16:Int) (szC 3 16) [] 0=some (((0,(tf 16 [(1,5)] 2,(ca',(pl3,[(2,5)])))):GateT),(0,(3,((0:Int),((2:Int),((1:Int),(false,((16:Int),(([]:List UInt8),(([]:List EntT),(false,((0:Int),(0:Int))))))))))))):=by
 obtain⟨ca',hput⟩:=mkZ (k:=3) (n:=20) (m:=16) (.inr rfl) (by omega) (by omega);have hb:(sizedL (List.replicate 20 0) 16).length=16:=aPZ _ _;have hm:=oUZ (b:=List.replicate 20 0) (w:=2) (x:=3) (n:=16) (by simp) (by omega) (by omega) (by omega);have hp:=dTZ (rd:=[]) (wr:=[]) (cEZ (x:=3) (n:=16) (by omega) (by omega)) hm ⟨rfl,rfl⟩ (.inr rfl) rfl (by kernel_rfl);have hm':model_Do fuel (MFw (List.replicate 20 0) 2) (szC 3 16)=some (doT (MFw (sizedL (List.replicate 20 0) 16) 2,0,((2,1),false,(((sizedL (List.replicate 20 0) 16).length:Nat):Int),[],[],false,0)) (szC 3 16)):=by rw[hb];exact hm
 have:=eCZ sh2 (c:=szC 3 16) (b':=sizedL (List.replicate 20 0) 16) (rd:=[]) (wr:=[]) (vs:=[]) (ca':=ca') (P':=[(1,5)]) (gone:=[(2,5)]) (dead:=[(2,5)]) (w':=2) (.inr rfl) rfl hp (by kernel_rfl) hm'
  (by rw[hb];exact hput) (by rw[hb];show _=_;kernel_rfl) (by
   rw[hb];unfold sappbur;rw[show sappbur_l0_it fuel [(2,5)] (0,(0,(2,(ca'.1,(ca'.2,(((16:Nat):Int),((tf ((16:Nat):Int) [(1,5)] 2).1,(pl3,([],[(2,5)])))))))))=some (0,(2,(ca'.1,(ca'.2,(((16:Nat):Int),((tf ((16:Nat):Int) [(1,5)] 2).1,(pl3,([(2,5)],[(2,5)])))))))) from by kernel_rfl,ZAA];simp only;rw[oLZ,ZAA]
   rfl)
 rw[hb] at this;exact⟨ca',this⟩
theorem ohZ:law25_awake fuel=some true:=by
 have w1:=dTZ (c:=wrC 3 15 (List.replicate 2 0)) (rd:=[(0,((1,5),1)),(1,((2,5),2))]) (wr:=[(0,((1,5),1)),(1,((2,5),2))]) (coZ (by omega) (by omega) (by simp)) (lEZ (b:=List.replicate 20 0) (by simp) (by omega) (by omega) (by omega) (by simp) (by simp)) ⟨rfl,rfl⟩ (.inl rfl) rfl (by kernel_rfl);have w2:=dTZ (c:=wrC 3 16 (List.replicate 16 0)) (rd:=[]) (wr:=[(1,((2,5),2))]) (coZ (by omega) (by omega) (by simp)) (lEZ (b:=List.replicate 20 0) (by simp) (by omega) (by omega) (by omega) (by simp) (by simp)) ⟨rfl,rfl⟩ (.inl rfl) rfl (by kernel_rfl);have w3:=dTZ (c:=wrC 3 50 (List.replicate 1 0)) (rd:=[]) (wr:=[(3,((0,0),3))]) (coZ (by omega) (by omega) (by simp)) (lEZ (b:=List.replicate 20 0) (by simp) (by omega) (by omega) (by omega) (by simp) (by simp)) ⟨rfl,rfl⟩ (.inl rfl) rfl (by kernel_rfl);have s1:=dTZ (c:=szC 3 18) (rd:=[(1,((2,5),2))]) (wr:=[(1,((2,5),2))]) (cEZ (by omega) (by omega)) (oUZ (b:=List.replicate 20 0) (by simp) (by omega) (by omega) (by omega)) ⟨rfl,rfl⟩ (.inr rfl) rfl (by kernel_rfl);have s2:=dTZ (c:=szC 3 16) (rd:=[]) (wr:=[]) (cEZ (by omega) (by omega)) (oUZ (b:=List.replicate 20 0) (by simp) (by omega) (by omega) (by omega)) ⟨rfl,rfl⟩ (.inr rfl) rfl (by kernel_rfl);obtain⟨ca',hs⟩:=pUZ;have hr:∃rp:ReplyT,sPla fuel (gt 20 P2 2 (ca2 3 20)) (16:Int) (rdC 3 15 30)=some ((1,(rp,([(0,((1,5),0)),(1,((2,5),0))],[]))),0):=by
  have hres:resF (MFw (List.replicate 20 0) 2) (rdC 3 15 30)=(MFw (List.replicate 20 0) 2,0,((0,0),false,20,List.replicate 5 0,[],false,0)):=by kernel_rfl
  have hm:=rGZ (nWZ (b:=List.replicate 20 0) (w:=2) (by simp) (by omega)) (rdC 3 15 30) (kaZ (by omega) (by omega) (by omega)) rfl;rw[hres] at hm;obtain⟨rp,e⟩:=qiZ sh2 (kaZ (x:=3) (off:=15) (n:=30) (by omega) (by omega) (by omega)) hm rfl rfl;refine⟨rp,e.trans ?_⟩;rw[show srea fuel (fileI ((20:Nat):Int) P2) ((16:Nat):Int) (rdC 3 15 30)=some [(0,((1,5),0)),(1,((2,5),0))] from by kernel_rfl,ZAA]
 obtain⟨rp,hr⟩:=hr;unfold law25_awake;rw[show law25_three fuel=some pl3 from rfl,ZAA,nkZ 3 (by omega),ZAA];simp only;have a1:=kgZ (k:=3) (q:=16) (by omega) (by omega);refine(congrArg (fun o=>Option.bind o _) (show sApp fuel _ 16 _ [] 0=_ from a1)).trans ?_;rw[ZAA];simp only;refine(congrArg (fun o=>Option.bind o _) (show sApp fuel _ 16 _ [5,5] 0=_ from oxZ)).trans ?_;rw[ZAA];simp only;refine(congrArg (fun o=>Option.bind o _) (show sPla fuel _ 16 _=_ from hr)).trans ?_;rw[ZAA];refine(congrArg (fun o=>Option.bind o _) (show sPla fuel _ 16 _=_ from w1)).trans ?_;rw[ZAA];refine(congrArg (fun o=>Option.bind o _) (show sPla fuel _ 16 _=_ from w2)).trans ?_;rw[ZAA];refine(congrArg (fun o=>Option.bind o _) (show sPla fuel _ 16 _=_ from w3)).trans ?_;rw[ZAA];refine(congrArg (fun o=>Option.bind o _) (show _=some (false,[gt 20 P2 2 (ca2 3 20)],(0:Int),(1:Int),(0:Int),(2:Int),(1:Int),false,(0:Int),([]:List UInt8),([]:List EntT),false,(0:Int)) from by kernel_rfl)).trans ?_;rw[ZAA];simp only[ZAE,ZAX,ZAA];refine(congrArg (fun o=>Option.bind o _) (show sPla fuel _ 16 _=_ from s1)).trans ?_;rw[ZAA];refine(congrArg (fun o=>Option.bind o _) (show sPla fuel _ 16 _=_ from s2)).trans ?_;rw[ZAA];refine(congrArg (fun o=>Option.bind o _) (show sApp fuel _ 16 _ [] 0=_ from hs)).trans ?_;rw[ZAA];show _=_
 kernel_rfl
end Go.Ab.D
set_option maxHeartbeats 4000000
set_option maxRecDepth 100000
namespace Go.Ab.D
open Go Go.Ab
theorem qzZ{n:Int}(hn:1<=n/\n<=1000)(x:Int):∃v,kit_Pick fuel x n=some v/\0<=v/\v<n:=by
 unfold kit_Pick;rw[ZAG (by omega),adZ (by rw[ZAG (by omega)];rfl)];have h1:=Int.tmod_lt_of_pos x (show 0<n by omega);have h2: -n<Int.tmod x n:=Int.lt_tmod_of_pos x (by omega);by_cases h:Int.tmod x n<0
 ·rw[ZAJ h,w64 ⟨by omega,by omega⟩];exact⟨_,rfl,by omega,by omega⟩
 ·rw[ZAG h];exact⟨_,rfl,by omega,by omega⟩
abbrev PlanT:Type:=Int×(ReplyT×(List NeedT×List NeedT))
theorem oXZ{a n:Nat}(hn:n<=100000)(h:List GateT)(h1:List ReplyT)(h2:List CallT)(h3:List PlanT):law25_StateHoles_l0_it fuel (planT [] (needs a n)) (0,(h,(h1,(h2,(h3,[])))))=some (h,(h1,(h2,(h3,vers n)))):=by
 unfold law25_StateHoles_l0_it;refine a4Z (fun k:Nat=>((k:Int),(h,(h1,(h2,(h3,vers k)))))) n (by omega) (fun k hk=> ?_) ?_
 ·show law25_StateHoles_l0 fuel (planT [] (needs a n)) (k:Int) h h1 h2 h3 (vers k)=_;unfold law25_StateHoles_l0;rw[show(planT [] (needs a n)).2.2.2=needs a n from rfl,biZ,dNZ,ZAJ (by omega),ZAK,adZ (by simp only[ZAB,ZAm,avZ];omega),w64 (by omega),w64 (by omega),nhZ];rw[show((7+k:Nat):Int)=7+(k:Int) by omega]
  rfl
 ·show law25_StateHoles_l0 fuel (planT [] (needs a n)) (n:Int) h h1 h2 h3 (vers n)=_;unfold law25_StateHoles_l0;rw[show(planT [] (needs a n)).2.2.2=needs a n from rfl,biZ,ZAG (by omega),ZAE]
theorem psZ{a n off q:Nat}{at_ r sz:Int}(hs:a+n<=100000)(h1:IntKind.wrap .i64 (Int.tmod at_ 2001)=(off:Int))(h2:IntKind.wrap .i64 (16+r)=(q:Int))(ha:IntKind.wrap .i64 (Int.tdiv (off:Int) (q:Int))=(a:Int))
 (S:List GateT×(List ReplyT×(List CallT×List PlanT))):law25_StateHoles_l1_it fuel (fileI sz (hz a n)) at_ r (0,S)=some (.inl S):=by
 obtain⟨h5,h6,h7,h8⟩:=S;unfold law25_StateHoles_l1_it;refine a4Z (fun k:Nat=>((k:Int),(h5,(h6,(h7,h8))))) (a+n) (by omega) (fun k hk=> ?_) ?_
 ·show law25_StateHoles_l1 fuel (fileI sz (hz a n)) at_ r (k:Int) h5 h6 h7 h8=_;unfold law25_StateHoles_l1;obtain⟨p,hp,hd⟩:=rjZ a n k hk;rw[show(fileI sz (hz a n)).2.2.2.2.2.1=hz a n from rfl,dFZ,ZAJ (by omega),ZAK,anZ hk,ZAA,hp,ZAA,h1,h2,ha,<-hd];rw[show decide ((k:Int)<(a:Int))=decide (k<a) from by by_cases h:k<a<;>simp[h],ZAV,ZAP,ZAE,w64 (by omega)]
  rfl
 ·show law25_StateHoles_l1 fuel (fileI sz (hz a n)) at_ r ((a+n:Nat):Int) h5 h6 h7 h8=_;unfold law25_StateHoles_l1;rw[show(fileI sz (hz a n)).2.2.2.2.2.1=hz a n from rfl,dFZ,ZAG (by omega),ZAE]
theorem jFZ(size at_ many more:Int)(b1:0<=at_/\at_<=65535)(b2:0<=many/\many<=65535)(b3:0<=more/\more<=65535):law25_StateHoles fuel [(1,1)] size at_ many more=some true:=by
 obtain⟨v,hv,v0,v1⟩:=qzZ (n:=50) (by omega) size;have t1:=Int.tmod_nonneg 2001 b1.1;have t2:=Int.tmod_lt_of_pos at_ (show(0:Int)<2001 by omega);have t3:=Int.tmod_nonneg 40 b2.1;have t4:=Int.tmod_lt_of_pos many (show(0:Int)<40 by omega);obtain⟨q,hq⟩:∃q:Nat,(q:Int)=16+v:=⟨(16+v).toNat,by omega⟩;obtain⟨off,ho⟩:∃off:Nat,(off:Int)=Int.tmod at_ 2001:=⟨(Int.tmod at_ 2001).toNat,by omega⟩;obtain⟨len,hl⟩:∃len:Nat,(len:Int)=1+Int.tmod many 40:=⟨(1+Int.tmod many 40).toNat,by omega⟩;obtain⟨m,hm⟩:∃m:Nat,(m:Int)=more:=⟨more.toNat,by omega⟩;obtain⟨a,n,h⟩:∃a n,Wr off len q a n:=⟨_,_,Wr.mk' (off:=off) (len:=len) (q:=q) (by omega) (by omega) (by omega)⟩;have ha:=h.ha;have hs:=h.small;have hn:=h.hn;have hou:=h.out;have eq1:IntKind.wrap .i64 (16+v)=(q:Int):=by rw[w64 (by omega),hq]
 have eo:IntKind.wrap .i64 (Int.tmod at_ 2001)=(off:Int):=by rw[w64 (by omega),ho]
 have el:IntKind.wrap .u16 (1+Int.tmod many 40)=(len:Int):=by rw[wu16 (by omega),hl]
 have ea:IntKind.wrap .i64 (Int.tdiv (off:Int) (q:Int))=(a:Int):=by rw[dAZ,ha,w64 (by omega)]
 have em:IntKind.wrap .i64 more=(m:Int):=by rw[w64 (by omega),hm]
 have elast:IntKind.wrap .i64 (Int.tdiv (IntKind.wrap .i64 (IntKind.wrap .i64 ((off:Int)+(len:Int))-1)) (q:Int))=((a+n:Nat):Int)-1:=by
  rw[w64 (x:=(off:Int)+len) (by omega),w64 (x:=(off:Int)+len-1) (by omega),show(off:Int)+len-1=((off+len-1:Nat):Int) by omega,dAZ];generalize (off+len-1)/q=z at*;rw[w64 (by omega)];omega
 unfold law25_StateHoles;rw[hv,ZAA,show law25_three fuel=some pl3 from rfl,ZAA,nkZ 2 (by omega),ZAA,ZAX,ZAA];simp only[eq1,eo,el,em];refine(congrArg (fun o=>Option.bind o _) (show sApp fuel _ (q:Int) _ [] 0=_ from kgZ (k:=2) (q:=q) (by omega) (by omega))).trans ?_;rw[ZAA];simp only[ZAV,ZAP,ZAE,ZAA,ZAX];rw[a8Z (by rw[avZ];omega),ZAA,a8Z (ZAM _),ZAA,adZ (by rw[ZAm,avZ];omega)];refine(congrArg (fun o=>Option.bind o _) (show sPla fuel _ (q:Int) _=_ from h.plan)).trans ?_;have nz:(!decide ((q:Int)=0))=true:=by rw[ZAG (by have:=h.hq;omega)];rfl
 rw[ZAA,adZ nz,adZ nz];simp only[ZAV,ZAP,ZAE,ZAx,elast,ea];have en:IntKind.wrap .i64 (IntKind.wrap .i64 (((a+n:Nat):Int)-1-(a:Int))+1)=(n:Int):=by
  have:=h.n1;rw[w64 (x:=((a+n:Nat):Int)-1-(a:Int)) (by omega),w64 (by omega)];omega
 rw[show(planT [] (needs a n)).2.2.2=needs a n from rfl,biZ,en,ZAV,show(((planT [] (needs a n)).2.2.1.length:Nat):Int)=0 from rfl];simp only[ZAP,ZAE,ZAA,ZAX,ZAV];rw[oXZ (by omega),ZAA];simp only[ZAA,ZAX];refine(congrArg (fun o=>Option.bind o _) (show sApp fuel _ (q:Int) _ _ 0=_ from h.apply)).trans ?_;rw[ZAA];simp only[ZAV,ZAP,ZAE,ZAA,ZAX,ZBy,dNZ];rw[show(gt ((off+len:Nat):Int) (hz a n) (n:Int) (ca2 2 ((off+len:Nat):Int))).2.1.2=(n:Int) from rfl,ZAV];rw[show(gt ((off+len:Nat):Int) (hz a n) (n:Int) (ca2 2 ((off+len:Nat):Int))).2.1.1=(tf ((off+len:Nat):Int) (hz a n) (n:Int)).1 from rfl];rw[show decide ((((tf ((off+len:Nat):Int) (hz a n) (n:Int)).1.length:Nat):Int)<2)=false from rfl,show idx? 1 (tf ((off+len:Nat):Int) (hz a n) (n:Int)).1.length=some 1 from rfl];simp only[ZAP,ZAE,ZAA];rw[show(tf ((off+len:Nat):Int) (hz a n) (n:Int)).1[1]? =some (fileI ((off+len:Nat):Int) (hz a n)) from rfl,ZAA];rw[show(fileI ((off+len:Nat):Int) (hz a n)).2.2.2.2.2.1=hz a n from rfl,dFZ,w64 (x:=((a+n:Nat):Int)-1+1) (by omega),show((a+n:Nat):Int)-1+1=((a+n:Nat):Int) by omega,ZAV];simp only[ZAP,ZAE,ZAA,ZAX];rw[show(gt ((off+len:Nat):Int) (hz a n) (n:Int) (ca2 2 ((off+len:Nat):Int))).2.1.1=(tf ((off+len:Nat):Int) (hz a n) (n:Int)).1 from rfl,show idx? 1 (tf ((off+len:Nat):Int) (hz a n) (n:Int)).1.length=some 1 from rfl,ZAA,
  show(tf ((off+len:Nat):Int) (hz a n) (n:Int)).1[1]? =some (fileI ((off+len:Nat):Int) (hz a n)) from rfl,ZAA,psZ (by omega) eo eq1 ea,ZAA]
 simp only[ZAX,ZAA,ZBy,ZAx];have eN:IntKind.wrap .i64 (IntKind.wrap .i64 ((off:Int)+(len:Int))+(m:Int))=((off+len+m:Nat):Int):=by
  rw[w64 (x:=(off:Int)+len) (by omega),w64 (by omega)];omega
 rw[eN];generalize hNN:off+len+m=N at*;by_cases hN:N<=65536
 ·rw[ZAG (by omega),ZAE];have hb:off+len<=N/\N<=65536:=by omega
  obtain⟨ca',h3⟩:=h.apply3 hb;obtain⟨p1,p2⟩:=h.pie2 hb;refine(congrArg (fun o=>Option.bind o _) (show sPla fuel _ (q:Int) _=_ from h.plan3 hb)).trans ?_;rw[ZAA];refine(congrArg (fun o=>Option.bind o _) (show sApp fuel _ (q:Int) _ [] 0=_ from h3)).trans ?_;rw[ZAA];simp only[ZAV,ZAK];rw[show(((planT [] []).2.2.2.length:Nat):Int)=0 from rfl,ZAV,ZAK];generalize hP:hz a n++List.replicate ((N+q-1)/q-(hz a n).length) (0,0)=P';have hPl:P'.length=(N+q-1)/q:=by rw[<-hP];simp;omega
  rw[show(gt (N:Int) P' (n:Int) ca').2.1.2=(n:Int) from rfl,show(gt ((off+len:Nat):Int) (hz a n) (n:Int) (ca2 2 ((off+len:Nat):Int))).2.1.2=(n:Int) from rfl,ZAV,ZAK];rw[show(gt (N:Int) P' (n:Int) ca').2.1.1=(tf (N:Int) P' (n:Int)).1 from rfl,show idx? 1 (tf (N:Int) P' (n:Int)).1.length=some 1 from rfl,ZAA,show(tf (N:Int) P' (n:Int)).1[1]? =some (fileI (N:Int) P') from rfl,ZAA,adZ nz];have hq':=h.hq;rw[show(fileI (N:Int) P').2.2.2.2.2.1=P' from rfl,hPl,w64 (x:=(N:Int)+q) (by omega),w64 (x:=(N:Int)+q-1) (by omega),show(N:Int)+q-1=((N+q-1:Nat):Int) by omega,dAZ];generalize (N+q-1)/q=z at*;rw[w64 (x:=(z:Int)) (by omega),ZAV,ZAK,ohZ]
  rfl
 ·rw[ZAJ (by omega),ZAK,ohZ]
  rfl
theorem law25_StateHoles_true(size at_ many more:Int)(_k0:OkV (.int .i64) size)(k1:OkV (.int .u16) at_)(k2:OkV (.int .u16) many)(k3:OkV (.int .u16) more):law25_StateHoles fuel [(1,1)] size at_ many more=some true:=by
 have f:∀x:Int,OkV (.int .u16) x->0<=x/\x<=65535:=fun x h=>h;exact jFZ size at_ many more (f _ k1) (f _ k2) (f _ k3)
end Go.Ab.D
