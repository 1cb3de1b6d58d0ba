/- What the functions compute; the plain law. -/
import Derived.Test.YtdeibkibmmnnoaaGreatModelReadsQ2
set_option linter.all false
set_option maxHeartbeats 4000000
set_option maxRecDepth 100000
namespace Go.Ab.D
open Go Go.Ab
abbrev SayT:=CallT×(Int×Int)
theorem jPZ{l:List SayT}{k:Nat}{m:Mod}{hs:List (Int×Int)}{f:FMap}{ms:Mems}(hk:k<l.length)(hk40:k<40)(h:ModelOK m)(hf:FOK m f ms)(h1:1<=hs.length)(h2:hs.length<=k+1):
 law22_played_f11_cm_l0 fuel l (k:Int) f m.1.2 m.1.1 m.2 hs ms=some (.inr (.inl (f,ms)))\/∃m' hs' f' ms',law22_played_f11_cm_l0 fuel l (k:Int) f m.1.2 m.1.1 m.2 hs ms=some (.inl (((k+1:Nat):Int),(f',(m'.1.2,(m'.1.1,(m'.2,(hs',ms')))))))/\ModelOK m'/\FOK m' f' ms'/\1<=hs'.length/\hs'.length<=k+2:=by
 obtain⟨o,hg⟩:∃o,l[k]? =some o:=⟨_,ZAE hk⟩;obtain⟨g,hgr⟩:=pwZ h;unfold law22_played_f11_cm_l0;rw[a8Z hk,ZAF,ZAS (show(k:Int)<40 by omega),ZAF,show(((m.1.1,m.1.2),m.2):Mod)=m from rfl,hgr,ZAA,ZAA];cases g with
 |true=>left;rfl
 |false=>
  right;simp only[ZAe,ZAF];rw[w64 (by omega)];refine eBZ (fun r:Option ((Int×(FMap×(Int×(List Ino×(List Byt×(List (Int×Int)×Mems))))))⊕((FMap×Mems)⊕(Bool×(FMap×Mems))))=>∃m' hs' f' ms',r=some (.inl (((k+1:Nat):Int),(f',(m'.1.2,(m'.1.1,(m'.2,(hs',ms')))))))/\ModelOK m'/\FOK m' f' ms'/\1<=hs'.length/\hs'.length<=k+2)
   (fun v:(FMap×(Int×(List Ino×(List Byt×(List (Int×Int)×Mems)))))⊕((Int×(FMap×(Int×(List Ino×(List Byt×(List (Int×Int)×Mems))))))⊕((FMap×Mems)⊕(Bool×(FMap×Mems))))=>∃m' hs' f' ms',v= .inl (f',(m'.1.2,(m'.1.1,(m'.2,(hs',ms')))))/\ModelOK m'/\FOK m' f' ms'/\1<=hs'.length/\hs'.length<=k+2) ?_ ?_
  rotate_left
  ·rintro v ⟨m',hs',f',ms',rfl,q1,q2,q3⟩;exact⟨m',hs',f',ms',rfl,q1,q2,q3⟩
  rw[ajZ hk,ZAA,hg,ZAA,qEZ,ZAA,show((o.1.1,(o.1.2.1,(o.1.2.2.1,((o.1.2.2.2.1.1,o.1.2.2.2.1.2),(o.1.2.2.2.2.1,((o.1.2.2.2.2.2.1.1,o.1.2.2.2.2.2.1.2),(o.1.2.2.2.2.2.2.1,(o.1.2.2.2.2.2.2.2.1,(o.1.2.2.2.2.2.2.2.2.1,o.1.2.2.2.2.2.2.2.2.2))))))))):CallT)=o.1 from rfl];rcases noZ o.1 with hh|hh
  ·rw[hh,ZAA];exact⟨_,rfl,m,hs,f,ms,rfl,h,hf,h1,by omega⟩
  rw[hh,ZAA,ZAC];simp only[ZAA,hg];have pa:=knZ o.2.1 (n:=hs.length) (by omega) (by omega);have pb:=knZ o.2.2 (n:=hs.length) (by omega) (by omega);obtain⟨a,hga⟩:∃a,hs[(pickI o.2.1 hs.length).toNat]? =some a:=⟨_,ZAE (by omega)⟩;obtain⟨b,hgb⟩:∃b,hs[(pickI o.2.2 hs.length).toNat]? =some b:=⟨_,ZAE (by omega)⟩;refine eBZ (fun r:Option ((FMap×(Int×(List Ino×(List Byt×(List (Int×Int)×Mems)))))⊕((Int×(FMap×(Int×(List Ino×(List Byt×(List (Int×Int)×Mems))))))⊕((FMap×Mems)⊕(Bool×(FMap×Mems)))))=>∃v,r=some v/\∃m' hs' f' ms',v= .inl (f',(m'.1.2,(m'.1.1,(m'.2,(hs',ms')))))/\ModelOK m'/\FOK m' f' ms'/\1<=hs'.length/\hs'.length<=k+2)
   (fun v:Bool×(FMap×(Int×(List Ino×(List Byt×(List (Int×Int)×(Int×(Int×(Int×(Int×(Int×(Byt×(Int×(Int×(Byt×(Int×(Int×(Byt×Mems)))))))))))))))))=>∃(q:Bool) (c':CallT),v=(q,(f,(m.1.2,(m.1.1,(m.2,(hs,(c'.1,(c'.2.1,(((c'.2.2.1.toNat:Nat):Int),(c'.2.2.2.1.1,(c'.2.2.2.1.2,(c'.2.2.2.2.1,(c'.2.2.2.2.2.1.1,(c'.2.2.2.2.2.1.2,(c'.2.2.2.2.2.2.1,(c'.2.2.2.2.2.2.2.1,(c'.2.2.2.2.2.2.2.2.1,(c'.2.2.2.2.2.2.2.2.2,ms))))))))))))))))))) ?_ ?_
  ·cases hq:decide (o.2.1>=0) with
   |true=>exact⟨_,rfl,_,o.1,rfl⟩
   |false=>exact⟨_,rfl,_,o.1,rfl⟩
  rintro v ⟨q,c',rfl⟩;refine eBZ (fun r:Option ((FMap×(Int×(List Ino×(List Byt×(List (Int×Int)×Mems)))))⊕((Int×(FMap×(Int×(List Ino×(List Byt×(List (Int×Int)×Mems))))))⊕((FMap×Mems)⊕(Bool×(FMap×Mems)))))=>∃v,r=some v/\∃m' hs' f' ms',v= .inl (f',(m'.1.2,(m'.1.1,(m'.2,(hs',ms')))))/\ModelOK m'/\FOK m' f' ms'/\1<=hs'.length/\hs'.length<=k+2)
   (fun v:FMap×(Int×(List Ino×(List Byt×(List (Int×Int)×(Int×(Int×(Int×(Int×(Int×(Byt×(Int×(Int×(Byt×(Int×(Int×(Byt×Mems))))))))))))))))=>∃(c':CallT),v=(f,(m.1.2,(m.1.1,(m.2,(hs,(c'.1,(c'.2.1,(((c'.2.2.1.toNat:Nat):Int),(c'.2.2.2.1.1,(c'.2.2.2.1.2,(c'.2.2.2.2.1,(c'.2.2.2.2.2.1.1,(c'.2.2.2.2.2.1.2,(c'.2.2.2.2.2.2.1,(c'.2.2.2.2.2.2.2.1,(c'.2.2.2.2.2.2.2.2.1,(c'.2.2.2.2.2.2.2.2.2,ms)))))))))))))))))) ?_ ?_
  ·cases q with
   |true=>
    simp only[ZAF];rw[kvZ _ _ (by omega),ZAA,avZ (by omega) (by omega),ZAA,hga,ZAA];exact⟨_,rfl,(c'.1,(c'.2.1,(c'.2.2.1,(a,c'.2.2.2.2)))),rfl⟩
   |false=>exact⟨_,rfl,c',rfl⟩
  rintro v ⟨c',rfl⟩;refine eBZ (fun r:Option ((FMap×(Int×(List Ino×(List Byt×(List (Int×Int)×Mems)))))⊕((Int×(FMap×(Int×(List Ino×(List Byt×(List (Int×Int)×Mems))))))⊕((FMap×Mems)⊕(Bool×(FMap×Mems)))))=>∃v,r=some v/\∃m' hs' f' ms',v= .inl (f',(m'.1.2,(m'.1.1,(m'.2,(hs',ms')))))/\ModelOK m'/\FOK m' f' ms'/\1<=hs'.length/\hs'.length<=k+2)
   (fun v:Bool×(FMap×(Int×(List Ino×(List Byt×(List (Int×Int)×(Int×(Int×(Int×(Int×(Int×(Byt×(Int×(Int×(Byt×(Int×(Int×(Byt×Mems)))))))))))))))))=>∃(q:Bool) (c':CallT),v=(q,(f,(m.1.2,(m.1.1,(m.2,(hs,(c'.1,(c'.2.1,(((c'.2.2.1.toNat:Nat):Int),(c'.2.2.2.1.1,(c'.2.2.2.1.2,(c'.2.2.2.2.1,(c'.2.2.2.2.2.1.1,(c'.2.2.2.2.2.1.2,(c'.2.2.2.2.2.2.1,(c'.2.2.2.2.2.2.2.1,(c'.2.2.2.2.2.2.2.2.1,(c'.2.2.2.2.2.2.2.2.2,ms))))))))))))))))))) ?_ ?_
  ·cases hq:decide (o.2.2>=0) with
   |true=>exact⟨_,rfl,_,c',rfl⟩
   |false=>exact⟨_,rfl,_,c',rfl⟩
  rintro v ⟨q,c',rfl⟩;refine eBZ (fun r:Option ((FMap×(Int×(List Ino×(List Byt×(List (Int×Int)×Mems)))))⊕((Int×(FMap×(Int×(List Ino×(List Byt×(List (Int×Int)×Mems))))))⊕((FMap×Mems)⊕(Bool×(FMap×Mems)))))=>∃v,r=some v/\∃m' hs' f' ms',v= .inl (f',(m'.1.2,(m'.1.1,(m'.2,(hs',ms')))))/\ModelOK m'/\FOK m' f' ms'/\1<=hs'.length/\hs'.length<=k+2)
   (fun v:FMap×(Int×(List Ino×(List Byt×(List (Int×Int)×(Int×(Int×(Int×(Int×(Int×(Byt×(Int×(Int×(Byt×(Int×(Int×(Byt×Mems))))))))))))))))=>∃(c':CallT),v=(f,(m.1.2,(m.1.1,(m.2,(hs,(c'.1,(c'.2.1,(((c'.2.2.1.toNat:Nat):Int),(c'.2.2.2.1.1,(c'.2.2.2.1.2,(c'.2.2.2.2.1,(c'.2.2.2.2.2.1.1,(c'.2.2.2.2.2.1.2,(c'.2.2.2.2.2.2.1,(c'.2.2.2.2.2.2.2.1,(c'.2.2.2.2.2.2.2.2.1,(c'.2.2.2.2.2.2.2.2.2,ms)))))))))))))))))) ?_ ?_
  ·cases q with
   |true=>
    simp only[ZAF];rw[kvZ _ _ (by omega),ZAA,avZ (by omega) (by omega),ZAA,hgb,ZAA];exact⟨_,rfl,(c'.1,(c'.2.1,(c'.2.2.1,(c'.2.2.2.1,(c'.2.2.2.2.1,(b,c'.2.2.2.2.2.2)))))),rfl⟩
   |false=>exact⟨_,rfl,c',rfl⟩
  rintro v ⟨c',rfl⟩;simp only;rw[qEZ,ZAA,show((c'.1,(c'.2.1,(c'.2.2.1,((c'.2.2.2.1.1,c'.2.2.2.1.2),(c'.2.2.2.2.1,((c'.2.2.2.2.2.1.1,c'.2.2.2.2.2.1.2),(c'.2.2.2.2.2.2.1,(c'.2.2.2.2.2.2.2.1,(c'.2.2.2.2.2.2.2.2.1,c'.2.2.2.2.2.2.2.2.2))))))))):CallT)=c' from rfl,show(((m.1.1,m.1.2),m.2):Mod)=m from rfl,hUZ h c',ZAA,ZAA];obtain⟨f',ms',ht,hf'⟩:=mgZ h c' hf;refine eBZ (fun r:Option ((FMap×(Int×(List Ino×(List Byt×(List (Int×Int)×Mems)))))⊕((Int×(FMap×(Int×(List Ino×(List Byt×(List (Int×Int)×Mems))))))⊕((FMap×Mems)⊕(Bool×(FMap×Mems)))))=>∃v,r=some v/\∃m' hs' f' ms',v= .inl (f',(m'.1.2,(m'.1.1,(m'.2,(hs',ms')))))/\ModelOK m'/\FOK m' f' ms'/\1<=hs'.length/\hs'.length<=k+2)
   (fun v:Bool×(FMap×Mems)=>v=(true,(f',ms'))) ⟨_,ht,rfl⟩ ?_
  rintro v rfl;simp only[ZAJ,ZAC];have ok:=gOZ h c';cases decide ((doT (resF m c') c').2.2.2.2.1>0) with
  |false=>exact⟨_,rfl,(resF m c').1,hs,f',ms',rfl,ok,hf',h1,by omega⟩
  |true=>
   simp only[ZAF];rw[abZ (by simp only[ZAD,ZAu,bcZ];omega)];exact⟨_,rfl,(resF m c').1,hs++[_],f',ms',rfl,ok,hf',by simp,by simp;omega⟩
theorem fok0:FOK M0 ([],0) []:=by
 refine⟨FI.nil,?_⟩;rintro h x b ⟨⟨_,hx,_⟩,hd,_⟩;have hx:[((1:Int),(1:Int),true,true,(0:Int),([]:List Part),(1:Int),([]:List Ent))][(h.1-1).toNat]? =some x:=hx;cases hi:(h.1-1).toNat with
 |zero=>rw[hi] at hx;cases hx;cases hd
 |succ i=>rw[hi] at hx;cases hx
theorem jbZ(l:List SayT):∃x,law22_played_f11_cm fuel l ([],0) []=some (true,x):=by
 unfold law22_played_f11_cm law22_played_f11_cm_l0_it;rw[pfZ,ZAA];obtain⟨o,ho,x,hq⟩:∃o,iter fuel (fun tt:Int×(FMap×(Int×(List Ino×(List Byt×(List (Int×Int)×Mems)))))=>law22_played_f11_cm_l0 fuel l tt.1 tt.2.1 tt.2.2.1 tt.2.2.2.1 tt.2.2.2.2.1 tt.2.2.2.2.2.1 tt.2.2.2.2.2.2) (0,(([],0),(M0.1.2,(M0.1.1,(M0.2,([((1:Int),(1:Int))],[]))))))=some o/\∃x,o= .inl x:=by
  refine aKZ (fun n s=>∃(k:Nat) (m:Mod) (hs:List (Int×Int)) (f:FMap) (ms:Mems),s=((k:Int),(f,(m.1.2,(m.1.1,(m.2,(hs,ms))))))/\k+n=40/\ModelOK m/\FOK m f ms/\1<=hs.length/\hs.length<=k+1) _ (fun n s hI=> ?_) (fun s hI=> ?_) 40 _ (by omega) ⟨0,M0,_,_,_,rfl,by omega,pAZ,fok0,by simp,by simp⟩
  ·obtain⟨k,m,hs,f,ms,rfl,hk,hm,hf,h1,h2⟩:=hI;by_cases hkl:k<l.length
   ·rcases jPZ hkl (by omega) hm hf h1 h2 with q|⟨m',hs',f',ms',q1,q2,q3,q4,q5⟩
    ·right;exact⟨_,q,_,rfl⟩
    ·left;exact⟨_,q1,k+1,m',hs',f',ms',rfl,by omega,q2,q3,q4,q5⟩
   ·right;refine⟨.inl (f,ms),?_,(f,ms),rfl⟩
    ·show law22_played_f11_cm_l0 fuel l (k:Int) f m.1.2 m.1.1 m.2 hs ms=_;unfold law22_played_f11_cm_l0;rw[arZ hkl];simp only[ZAC,ZAA]
  ·obtain⟨k,m,hs,f,ms,rfl,hk,hm,hf,h1,h2⟩:=hI;refine⟨.inl (f,ms),?_,(f,ms),rfl⟩
   ·show law22_played_f11_cm_l0 fuel l (k:Int) f m.1.2 m.1.1 m.2 hs ms=_;unfold law22_played_f11_cm_l0;by_cases hkl:k<l.length
    ·rw[a8Z hkl,ZAF,ZAL (show¬((k:Int)<40) by omega)];simp only[ZAC,ZAA]
    ·rw[arZ hkl];simp only[ZAC,ZAA]
 subst hq;refine⟨x,(congrArg (fun o=>Option.bind o _) ho).trans ?_⟩
 rfl
theorem cHZ(l:List SayT):law22_ModelReads fuel l=some true:=by
 obtain⟨x,hx⟩:=jbZ l;unfold law22_ModelReads;rw[hx,ZAA,ZAF,pNZ]
 rfl
theorem law22_ModelReads_true(l:List SayT)(_k0:OkV (.sl (.pair qY15 qY6)) l):law22_ModelReads fuel l=some true:=cHZ l
end Go.Ab.D
