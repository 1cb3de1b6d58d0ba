/- What the functions compute; the plain law. -/
import Derived.Test.YtdeibkibmmnnoaaGreatModelReadsQ1
import Derived.KernelRfl
set_option linter.all false
namespace Go.Ab.D
open Go Go.Ab
section
variable {t : Tree} {a b : Int × Int} {na nb x z : Ino} {old name : List UInt8} {id other : Int}
theorem jdZ(h:TreeOK t)(hb:dirE t.1 a≠0):tRen fuel t a old b name=some (t.1,(t.2,([],dirE t.1 a))):=by
 unfold tRen;rw[show((t.1,t.2):Tree)=t from rfl,show((a.1,a.2):Int×Int)=a from rfl,show((b.1,b.2):Int×Int)=b from rfl,jjZ h hb,ZAA];simp only[ZAb.2 hb,ZAe,ZAF];rw[aAZ h.r.fit,ZAA]
theorem jlZ(h:TreeOK t)(ha:IsD t.1 a na)(hb:dirE t.1 b≠0):tRen fuel t a old b name=some (t.1,(t.2,([],dirE t.1 b))):=by
 unfold tRen;rw[show((t.1,t.2):Tree)=t from rfl,show((a.1,a.2):Int×Int)=a from rfl,show((b.1,b.2):Int×Int)=b from rfl,jRZ h ha hb,ZAA];simp only[ZAb.2 hb,ZAe,ZAF];rw[aAZ h.r.fit,ZAA]
theorem j9Z(h:TreeOK t)(ha:IsD t.1 a na)(hb:IsD t.1 b nb)(hs:(namedB old&&namedB name)=false):tRen fuel t a old b name=some (t.1,(t.2,([],176))):=by
 unfold tRen;rw[show((t.1,t.2):Tree)=t from rfl,show((a.1,a.2):Int×Int)=a from rfl,show((b.1,b.2):Int×Int)=b from rfl,aXZ h ha hb,ZAA];simp only[ZAP,ZAJ,ZAC];rw[axZ,ZAA];cases h1:namedB old with
 |false=>
  simp only[ZAe,ZAF,ZAA];rw[show((t.1,t.2):Tree)=t from rfl,aAZ h.r.fit,ZAA]
 |true=>
  rw[h1,ZA9] at hs;simp only[ZAJ,ZAC];rw[axZ,ZAA,hs];simp only[ZAe,ZAF,ZAA];rw[show((t.1,t.2):Tree)=t from rfl,aAZ h.r.fit,ZAA]
theorem jDZ(h:TreeOK t)(ha:IsD t.1 a na)(hb:IsD t.1 b nb)(h1:namedB old=true)(hs:namedB name=true)(hh:hasN na.2.2.2.2.2.2.2 old=false):tRen fuel t a old b name=some (t.1,(t.2,([],171))):=by
 unfold tRen;rw[show((t.1,t.2):Tree)=t from rfl,show((a.1,a.2):Int×Int)=a from rfl,show((b.1,b.2):Int×Int)=b from rfl,aXZ h ha hb,ZAA];simp only[ZAP,ZAJ,ZAC];rw[axZ,ZAA,h1];simp only[ZAJ,ZAC];rw[axZ,ZAA,hs];simp only[ZAJ,ZAC,ZAA];rw[show idx? 0 [na,nb].length=some 0 from rfl,ZAA,show[na,nb][0]? =some na from rfl,ZAA,h.ent_ok ha,ZAA,hh];simp only[ZAe,ZAF];rw[show((t.1,t.2):Tree)=t from rfl,aAZ h.r.fit,ZAA]
theorem jyZ(h:TreeOK t)(ha:IsD t.1 a na)(hb:IsD t.1 b nb)(hs:namedB name=true)(hea:(old,id)∈na.2.2.2.2.2.2.2)(hx:t.1[(id-1).toNat]? =some x)(hd:x.2.2.2.1=true)(hanc:Anc t.1 id b.1):tRen fuel t a old b name=some (t.1,(t.2,([],178))):=by
 obtain⟨g1,g2,g3,y,g4,g5,g6⟩:=h.ent ha hea;rw[hx] at g4;cases g4;have hlen:=h.r.len;have hpa:=cJZ (h.srt ha.1) hea;have hpal:=(ZAB.1 hpa).1;unfold tRen;rw[show((t.1,t.2):Tree)=t from rfl,show((a.1,a.2):Int×Int)=a from rfl,show((b.1,b.2):Int×Int)=b from rfl,aXZ h ha hb,ZAA];simp only[ZAP,ZAJ,ZAC];rw[axZ,ZAA,g1];simp only[ZAJ,ZAC];rw[axZ,ZAA,hs];simp only[ZAJ,ZAC,ZAA];rw[show idx? 0 [na,nb].length=some 0 from rfl,ZAA,show[na,nb][0]? =some na from rfl,ZAA,h.ent_ok ha,ZAA,a7Z.2 ⟨id,hea⟩];simp only[ZAJ,ZAC,ZAA];rw[show[na,nb][0]? =some na from rfl,ZAA,ajZ hpal,ZAA,hpa,ZAA,w64 (by omega),avZ (by omega) (by omega),ZAA,hx,ZAA];rw[hd];simp only[ZAF];obtain⟨r,hr,hq⟩:=doZ h hb id;rw[show((t.1,t.2):Tree)=t from rfl,hr,hq.2 hanc,ZAA,ZAA];simp only[ZAF];rw[show((t.1,t.2):Tree)=t from rfl,aAZ h.r.fit,ZAA]
theorem joZ(h:TreeOK t)(ha:IsD t.1 a na)(hb:IsD t.1 b nb)(hs:namedB name=true)(hea:(old,id)∈na.2.2.2.2.2.2.2)(hx:t.1[(id-1).toNat]? =some x)(hanc:x.2.2.2.1=true->¬Anc t.1 id b.1)(heb:(name,id)∈nb.2.2.2.2.2.2.2):tRen fuel t a old b name=some (t.1,(t.2,([],0))):=by
 obtain⟨g1,g2,g3,y,g4,g5,g6⟩:=h.ent ha hea;rw[hx] at g4;cases g4;have hlen:=h.r.len;have hpa:=cJZ (h.srt ha.1) hea;have hpal:=(ZAB.1 hpa).1;unfold tRen;rw[show((t.1,t.2):Tree)=t from rfl,show((a.1,a.2):Int×Int)=a from rfl,show((b.1,b.2):Int×Int)=b from rfl,aXZ h ha hb,ZAA];simp only[ZAP,ZAJ,ZAC];rw[axZ,ZAA,g1];simp only[ZAJ,ZAC];rw[axZ,ZAA,hs];simp only[ZAJ,ZAC,ZAA];rw[show idx? 0 [na,nb].length=some 0 from rfl,ZAA,show[na,nb][0]? =some na from rfl,ZAA,h.ent_ok ha,ZAA,a7Z.2 ⟨id,hea⟩];simp only[ZAJ,ZAC,ZAA];rw[show[na,nb][0]? =some na from rfl,ZAA,ajZ hpal,ZAA,hpa,ZAA,w64 (by omega),avZ (by omega) (by omega),ZAA,hx,ZAA];have hbel:(bif x.2.2.2.1 then(tbel fuel (t.1,t.2) b.1 id).bind fun r11=>some (r11,(t.1,(t.2,(a.1,(a.2,(b.1,(b.2,((0:Int),[na,nb]))))))))
  else some (false,(t.1,(t.2,(a.1,(a.2,(b.1,(b.2,(0,[na,nb])))))))))=some (false,(t.1,(t.2,(a.1,(a.2,(b.1,(b.2,(0,[na,nb])))))))):=by
  cases hd:x.2.2.2.1 with
  |false=>rfl
  |true=>
   simp only[ZAF];obtain⟨r,hr,hq⟩:=doZ h hb id;have:r=false:=by
    cases r with
    |false=>rfl
    |true=>exact absurd (hq.1 rfl) (hanc hd)
   rw[show((t.1,t.2):Tree)=t from rfl,hr,this]
   rfl
 rw[hbel,ZAA];simp only[ZAC];obtain⟨rows,ms,hc,hF⟩:=bwZ h.r.fit;rw[show idx? 1 [na,nb].length=some 1 from rfl,ZAA,show[na,nb][1]? =some nb from rfl,ZAA,h.ent_ok hb,ZAA,show((t.1,t.2):Tree)=t from rfl,hc,ZAA];have hpb:=cJZ (h.srt hb.1) heb;have hpbl:=(ZAB.1 hpb).1;simp only[a7Z.2 ⟨_,heb⟩,ZAF];rw[ZAA,show[na,nb][1]? =some nb from rfl,ZAA,ajZ hpbl,ZAA,hpb,ZAA,ZAA];simp only[ZAP,ZAF];erw[bzZ hF.pure1]
theorem lVZ(h:TreeOK t)(ha:IsD t.1 a na)(hb:IsD t.1 b nb)(hs:namedB name=true)(hea:(old,id)∈na.2.2.2.2.2.2.2)(hx:t.1[(id-1).toNat]? =some x)(hanc:x.2.2.2.1=true->¬Anc t.1 id b.1)(heb:(name,other)∈nb.2.2.2.2.2.2.2)(hne:other≠id)(hz:t.1[(other-1).toNat]? =some z)(hm:misE x.2.2.2.1 z≠0):tRen fuel t a old b name=some (t.1,(t.2,([],misE x.2.2.2.1 z))):=by
 obtain⟨g1,g2,g3,y,g4,g5,g6⟩:=h.ent ha hea;rw[hx] at g4;cases g4;have hlen:=h.r.len;have hpa:=cJZ (h.srt ha.1) hea;have hpal:=(ZAB.1 hpa).1;unfold tRen;rw[show((t.1,t.2):Tree)=t from rfl,show((a.1,a.2):Int×Int)=a from rfl,show((b.1,b.2):Int×Int)=b from rfl,aXZ h ha hb,ZAA];simp only[ZAP,ZAJ,ZAC];rw[axZ,ZAA,g1];simp only[ZAJ,ZAC];rw[axZ,ZAA,hs];simp only[ZAJ,ZAC,ZAA];rw[show idx? 0 [na,nb].length=some 0 from rfl,ZAA,show[na,nb][0]? =some na from rfl,ZAA,h.ent_ok ha,ZAA,a7Z.2 ⟨id,hea⟩];simp only[ZAJ,ZAC,ZAA];rw[show[na,nb][0]? =some na from rfl,ZAA,ajZ hpal,ZAA,hpa,ZAA,w64 (by omega),avZ (by omega) (by omega),ZAA,hx,ZAA];have hbel:(bif x.2.2.2.1 then(tbel fuel (t.1,t.2) b.1 id).bind fun r11=>some (r11,(t.1,(t.2,(a.1,(a.2,(b.1,(b.2,((0:Int),[na,nb]))))))))
  else some (false,(t.1,(t.2,(a.1,(a.2,(b.1,(b.2,(0,[na,nb])))))))))=some (false,(t.1,(t.2,(a.1,(a.2,(b.1,(b.2,(0,[na,nb])))))))):=by
  cases hd:x.2.2.2.1 with
  |false=>rfl
  |true=>
   simp only[ZAF];obtain⟨r,hr,hq⟩:=doZ h hb id;have:r=false:=by
    cases r with
    |false=>rfl
    |true=>exact absurd (hq.1 rfl) (hanc hd)
   rw[show((t.1,t.2):Tree)=t from rfl,hr,this]
   rfl
 rw[hbel,ZAA];simp only[ZAC];obtain⟨rows,ms,hc,hF⟩:=bwZ h.r.fit;rw[show idx? 1 [na,nb].length=some 1 from rfl,ZAA,show[na,nb][1]? =some nb from rfl,ZAA,h.ent_ok hb,ZAA,show((t.1,t.2):Tree)=t from rfl,hc,ZAA];obtain⟨q1,q2,q3,z',q4,q5,q6⟩:=h.ent hb heb;rw[hz] at q4;cases q4;have hpb:=cJZ (h.srt hb.1) heb;have hpbl:=(ZAB.1 hpb).1;simp only[a7Z.2 ⟨_,heb⟩,ZAF];rw[ZAA,show[na,nb][1]? =some nb from rfl,ZAA,ajZ hpbl,ZAA,hpb,ZAA,ZAA];simp only[ZAb.2 hne,ZAC];rw[show idx? 1 [na,nb].length=some 1 from rfl,ZAA,show[na,nb][1]? =some nb from rfl,ZAA,ajZ hpbl,ZAA,hpb,ZAA,w64 (by omega),avZ (by omega) (by omega),ZAA,hz,ZAA,d5Z,ZAA];simp only[ZAb.2 hm,ZAe,ZAF];erw[bzZ hF.pure1]
theorem jIZ(h:TreeOK t)(ha:IsD t.1 a na)(hb:IsD t.1 b nb)(hs:namedB name=true)(hea:(old,id)∈na.2.2.2.2.2.2.2)(hx:t.1[(id-1).toNat]? =some x)(hanc:x.2.2.2.1=true->¬Anc t.1 id b.1)(hno:hasN nb.2.2.2.2.2.2.2 name=false)(hab:a.1≠b.1)(hl:100<=nb.2.2.2.2.2.2.2.length):tRen fuel t a old b name=some (t.1,(t.2,([],5))):=by
 obtain⟨g1,g2,g3,y,g4,g5,g6⟩:=h.ent ha hea;rw[hx] at g4;cases g4;have hlen:=h.r.len;have hpa:=cJZ (h.srt ha.1) hea;have hpal:=(ZAB.1 hpa).1;unfold tRen;rw[show((t.1,t.2):Tree)=t from rfl,show((a.1,a.2):Int×Int)=a from rfl,show((b.1,b.2):Int×Int)=b from rfl,aXZ h ha hb,ZAA];simp only[ZAP,ZAJ,ZAC];rw[axZ,ZAA,g1];simp only[ZAJ,ZAC];rw[axZ,ZAA,hs];simp only[ZAJ,ZAC,ZAA];rw[show idx? 0 [na,nb].length=some 0 from rfl,ZAA,show[na,nb][0]? =some na from rfl,ZAA,h.ent_ok ha,ZAA,a7Z.2 ⟨id,hea⟩];simp only[ZAJ,ZAC,ZAA];rw[show[na,nb][0]? =some na from rfl,ZAA,ajZ hpal,ZAA,hpa,ZAA,w64 (by omega),avZ (by omega) (by omega),ZAA,hx,ZAA];have hbel:(bif x.2.2.2.1 then(tbel fuel (t.1,t.2) b.1 id).bind fun r11=>some (r11,(t.1,(t.2,(a.1,(a.2,(b.1,(b.2,((0:Int),[na,nb]))))))))
  else some (false,(t.1,(t.2,(a.1,(a.2,(b.1,(b.2,(0,[na,nb])))))))))=some (false,(t.1,(t.2,(a.1,(a.2,(b.1,(b.2,(0,[na,nb])))))))):=by
  cases hd:x.2.2.2.1 with
  |false=>rfl
  |true=>
   simp only[ZAF];obtain⟨r,hr,hq⟩:=doZ h hb id;have:r=false:=by
    cases r with
    |false=>rfl
    |true=>exact absurd (hq.1 rfl) (hanc hd)
   rw[show((t.1,t.2):Tree)=t from rfl,hr,this]
   rfl
 rw[hbel,ZAA];simp only[ZAC];obtain⟨rows,ms,hc,hF⟩:=bwZ h.r.fit;rw[show idx? 1 [na,nb].length=some 1 from rfl,ZAA,show[na,nb][1]? =some nb from rfl,ZAA,h.ent_ok hb,ZAA,show((t.1,t.2):Tree)=t from rfl,hc,ZAA];simp only[hno,ZAC,ZAA,ZAb.2 hab,ZAe,ZAF];rw[show idx? 1 [na,nb].length=some 1 from rfl,ZAA,show[na,nb][1]? =some nb from rfl,ZAA,ZAA,ZAS (show((nb.2.2.2.2.2.2.2.length:Nat):Int)>=100 by omega)];simp only[ZAF];erw[bzZ hF.pure1]
theorem k5Z(h:TreeOK t)(m:MvOk t a old b name id na nb x):∃b1 x1,(takeL t.1 a.1 old)[(b.1-1).toNat]? =some b1/\Srt b1.2.2.2.2.2.2.2/\b1.2.2.2.2.2.2.2.length<=100/\(putL (takeL t.1 a.1 old) b.1 name id)[(id-1).toNat]? =some x1:=by
 obtain⟨k1,k2,hid2,hidl,hxu,hxp⟩:=m.ne h;have hfa:=h.few m.da.1;have hfb:=h.few m.db.1;have hb1:∃b1,(takeL t.1 a.1 old)[(b.1-1).toNat]? =some b1/\Srt b1.2.2.2.2.2.2.2/\b1.2.2.2.2.2.2.2.length<=100:=by
  unfold takeL;rw[beZ,m.db.1.2.1];split
  ·refine⟨_,rfl,dkZ old (h.srt m.db.1),?_⟩;have:(delE nb.2.2.2.2.2.2.2 old).length<=nb.2.2.2.2.2.2.2.length:=ZBf _ _;show(delE _ _).length<=100;omega
  ·exact⟨_,rfl,h.srt m.db.1,hfb⟩
 obtain⟨b1,h1,h2,h3⟩:=hb1;refine⟨b1,x,h1,h2,h3,?_⟩;unfold putL takeL;rw[beZ,beZ,ZAM k2,ZAM k1];exact m.x
theorem j8Z(h:TreeOK t)(m:MvOk t a old b name id na nb x)(hanc:x.2.2.2.1=true->¬Anc t.1 id b.1):tRen fuel t a old b name=some (mvL t.1 a.1 old b.1 name id,(t.2,([],0))):=by
 have ha:=m.da;have hb:=m.db;have hs:=m.nm;have hea:=m.ea;have hx:=m.x;have hno:=m.no;obtain⟨g1,g2,g3,y,g4,g5,g6⟩:=h.ent ha hea;rw[hx] at g4;cases g4;have hlen:=h.r.len;have hpa:=cJZ (h.srt ha.1) hea;have hpal:=(ZAB.1 hpa).1;unfold tRen;rw[show((t.1,t.2):Tree)=t from rfl,show((a.1,a.2):Int×Int)=a from rfl,show((b.1,b.2):Int×Int)=b from rfl,aXZ h ha hb,ZAA];simp only[ZAP,ZAJ,ZAC];rw[axZ,ZAA,g1];simp only[ZAJ,ZAC];rw[axZ,ZAA,hs];simp only[ZAJ,ZAC,ZAA];rw[show idx? 0 [na,nb].length=some 0 from rfl,ZAA,show[na,nb][0]? =some na from rfl,ZAA,h.ent_ok ha,ZAA,a7Z.2 ⟨id,hea⟩];simp only[ZAJ,ZAC,ZAA];rw[show[na,nb][0]? =some na from rfl,ZAA,ajZ hpal,ZAA,hpa,ZAA,w64 (by omega),avZ (by omega) (by omega),ZAA,hx,ZAA];have hbel:(bif x.2.2.2.1 then(tbel fuel (t.1,t.2) b.1 id).bind fun r11=>some (r11,(t.1,(t.2,(a.1,(a.2,(b.1,(b.2,((0:Int),[na,nb]))))))))
  else some (false,(t.1,(t.2,(a.1,(a.2,(b.1,(b.2,(0,[na,nb])))))))))=some (false,(t.1,(t.2,(a.1,(a.2,(b.1,(b.2,(0,[na,nb])))))))):=by
  cases hd:x.2.2.2.1 with
  |false=>rfl
  |true=>
   simp only[ZAF];obtain⟨r,hr,hq⟩:=doZ h hb id;have:r=false:=by
    cases r with
    |false=>rfl
    |true=>exact absurd (hq.1 rfl) (hanc hd)
   rw[show((t.1,t.2):Tree)=t from rfl,hr,this]
   rfl
 rw[hbel,ZAA];simp only[ZAC];obtain⟨rows,ms,hc,hF⟩:=bwZ h.r.fit;rw[show idx? 1 [na,nb].length=some 1 from rfl,ZAA,show[na,nb][1]? =some nb from rfl,ZAA,h.ent_ok hb,ZAA,show((t.1,t.2):Tree)=t from rfl,hc,ZAA];simp only[hno,ZAC,ZAA];have hfull:(bif !(a.1==b.1) then
  (idx? 1 [na,nb].length).bind fun q10=>([na,nb])[q10]?.bind fun r24=>some ((decide (((r24.2.2.2.2.2.2.2.length:Nat):Int)>=100)),(a.1,(a.2,(b.1,(b.2,((0:Int),(t.2,(rows,ms))))))))
  else some (false,(a.1,(a.2,(b.1,(b.2,(0,(t.2,(rows,ms)))))))))=some (false,(a.1,(a.2,(b.1,(b.2,(0,(t.2,(rows,ms)))))))):=by
  by_cases hab:a.1=b.1
  ·rw[show(a.1==b.1)=true from by simp[hab]]
   rfl
  ·rw[ZAb.2 hab];have:=m.few hab;simp only[ZAe,ZAF];rw[show idx? 1 [na,nb].length=some 1 from rfl,ZAA,show[na,nb][1]? =some nb from rfl,ZAA,ZAL (show¬((nb.2.2.2.2.2.2.2.length:Nat):Int)>=100 by omega)]
 rw[hfull,ZAA];simp only[ZAC];obtain⟨b1,x1,p1,p2,p3,p4⟩:=k5Z h m;obtain⟨rows1,ms1,ht,hF1⟩:=d0Z t.2 old hF (by omega) ha.1.1 ha.1.2.1 (by have:=h.few ha.1;omega);rw[<-dcZ ha] at hF1;have hl1:(takeL t.1 a.1 old).length=t.1.length:=aZZ ..;obtain⟨rows2,ms2,hp2,hF2⟩:=put_ok t.2 name id hF1 (by omega) hb.1.1 p1 p2 (by omega);have e2:putL (takeL t.1 a.1 old) b.1 name id=(takeL t.1 a.1 old).set (b.1-1).toNat (wE b1 (insE b1.2.2.2.2.2.2.2 name id)):=bBZ _ p1;rw[<-e2] at hF2;have hl2:(putL (takeL t.1 a.1 old) b.1 name id).length=t.1.length:=(aZZ ..).trans hl1;have hrl:=hF2.len;rw[ht,ZAA];simp only;rw[hp2,ZAA];simp only;obtain⟨row,hr,⟨y,hry⟩,_⟩:=hF2.row p4;have hF3:=hF2.keep (row':=toE (wP x1 b.1) y) (k':=wP x1 b.1) hr p4 ⟨y,rfl⟩ (by rw[hry];rfl) rfl;have e3:parL (putL (takeL t.1 a.1 old) b.1 name id) id b.1=(putL (takeL t.1 a.1 old) b.1 name id).set (id-1).toNat (wP x1 b.1):=bBZ _ p4;rw[<-e3] at hF3;rw[avZ (by omega) (by omega),ZAA,hr,ZAA];have e4:(row.1,(row.2.1,(row.2.2.1,(row.2.2.2.1,(row.2.2.2.2.1,(row.2.2.2.2.2.1,(b.1,row.2.2.2.2.2.2.2)))))))=toE (wP x1 b.1) y:=by rw[hry];rfl
 rw[e4];erw[bzZ (FamE.pure1 hF3)]
 rfl
theorem kaZ(h:TreeOK t)(ha:IsD t.1 a na)(hb:IsD t.1 b nb)(hs:namedB name=true)(hea:(old,id)∈na.2.2.2.2.2.2.2)(hx:t.1[(id-1).toNat]? =some x)(hanc:x.2.2.2.1=true->¬Anc t.1 id b.1)(heb:(name,other)∈nb.2.2.2.2.2.2.2)(hne:other≠id)(hz:t.1[(other-1).toNat]? =some z)(hm:misE x.2.2.2.1 z=0)
 {na' nb' x':Ino}(h0:TreeOK (dropL (takeL t.1 b.1 name) other,t.2))(m:MvOk (dropL (takeL t.1 b.1 name) other,t.2) a old b name id na' nb' x'):
 tRen fuel t a old b name=some (mvL (dropL (takeL t.1 b.1 name) other) a.1 old b.1 name id,(t.2,(keptP z.2.2.2.2.2.1,0))):=by
 obtain⟨q1,q2,q3,z',q4,q5,q6⟩:=h.ent hb heb;rw[hz] at q4;cases q4;obtain⟨g1,g2,g3,y,g4,g5,g6⟩:=h.ent ha hea;rw[hx] at g4;cases g4;have hlen:=h.r.len;have hpa:=cJZ (h.srt ha.1) hea;have hpal:=(ZAB.1 hpa).1;unfold tRen;rw[show((t.1,t.2):Tree)=t from rfl,show((a.1,a.2):Int×Int)=a from rfl,show((b.1,b.2):Int×Int)=b from rfl,aXZ h ha hb,ZAA];simp only[ZAP,ZAJ,ZAC];rw[axZ,ZAA,g1];simp only[ZAJ,ZAC];rw[axZ,ZAA,hs];simp only[ZAJ,ZAC,ZAA];rw[show idx? 0 [na,nb].length=some 0 from rfl,ZAA,show[na,nb][0]? =some na from rfl,ZAA,h.ent_ok ha,ZAA,a7Z.2 ⟨id,hea⟩];simp only[ZAJ,ZAC,ZAA];rw[show[na,nb][0]? =some na from rfl,ZAA,ajZ hpal,ZAA,hpa,ZAA,w64 (by omega),avZ (by omega) (by omega),ZAA,hx,ZAA];have hbel:(bif x.2.2.2.1 then(tbel fuel (t.1,t.2) b.1 id).bind fun r11=>some (r11,(t.1,(t.2,(a.1,(a.2,(b.1,(b.2,((0:Int),[na,nb]))))))))
  else some (false,(t.1,(t.2,(a.1,(a.2,(b.1,(b.2,(0,[na,nb])))))))))=some (false,(t.1,(t.2,(a.1,(a.2,(b.1,(b.2,(0,[na,nb])))))))):=by
  cases hd:x.2.2.2.1 with
  |false=>rfl
  |true=>
   simp only[ZAF];obtain⟨r,hr,hq⟩:=doZ h hb id;have:r=false:=by
    cases r with
    |false=>rfl
    |true=>exact absurd (hq.1 rfl) (hanc hd)
   rw[show((t.1,t.2):Tree)=t from rfl,hr,this]
   rfl
 rw[hbel,ZAA];simp only[ZAC];obtain⟨rows,ms,hc,hF⟩:=bwZ h.r.fit;rw[show idx? 1 [na,nb].length=some 1 from rfl,ZAA,show[na,nb][1]? =some nb from rfl,ZAA,h.ent_ok hb,ZAA,show((t.1,t.2):Tree)=t from rfl,hc,ZAA];have hpb:=cJZ (h.srt hb.1) heb;have hpbl:=(ZAB.1 hpb).1;simp only[a7Z.2 ⟨_,heb⟩,ZAF];rw[ZAA,show[na,nb][1]? =some nb from rfl,ZAA,ajZ hpbl,ZAA,hpb,ZAA,ZAA];simp only[ZAb.2 hne,ZAC];rw[show idx? 1 [na,nb].length=some 1 from rfl,ZAA,show[na,nb][1]? =some nb from rfl,ZAA,ajZ hpbl,ZAA,hpb,ZAA,w64 (by omega),avZ (by omega) (by omega),ZAA,hz,ZAA,d5Z,ZAA,hm];simp only[ZAP,ZAJ,ZAC];have hze:z.2.2.2.2.2.2.2=[]:=by
  unfold misE at hm;split at hm
  ·cases hm
  ·split at hm
   ·cases hm
   ·split at hm
    ·assumption
    ·cases hm
 obtain⟨rows0,mp,me,hw,hP0,hE0⟩:=jBZ h hb heb hz hze;rw[show((t.1,t.2):Tree)=t from rfl,hw,ZAA];simp only[ZAP,ZAJ,ZAC];obtain⟨b1,x1,p1,p2,p3,p4⟩:=k5Z h0 m;simp only at p1 p4;have hl0:(dropL (takeL t.1 b.1 name) other).length=t.1.length:=(aZZ ..).trans (aZZ ..);have hna':=h0.few m.da.1;obtain⟨rows1,me1,ht,hP1,hE1⟩:=o0Z t.2 old hP0 hE0 (by omega) m.da.1.1 m.da.1.2.1 (by omega);rw[<-dcZ (t:=(dropL (takeL t.1 b.1 name) other,t.2)) m.da] at hP1 hE1;simp only at hP1 hE1;have hl1:(takeL (dropL (takeL t.1 b.1 name) other) a.1 old).length=t.1.length:=(aZZ ..).trans hl0;obtain⟨rows2,me2,hp2,hP2,hE2⟩:=pHZ t.2 name id hP1 hE1 (by omega) hb.1.1 p1 p2 (by omega);have e2:putL (takeL (dropL (takeL t.1 b.1 name) other) a.1 old) b.1 name id=(takeL (dropL (takeL t.1 b.1 name) other) a.1 old).set (b.1-1).toNat (wE b1 (insE b1.2.2.2.2.2.2.2 name id)):=bBZ _ p1;rw[<-e2] at hP2 hE2;have hl2:(putL (takeL (dropL (takeL t.1 b.1 name) other) a.1 old) b.1 name id).length=t.1.length:=(aZZ ..).trans hl1;have hrl:=hP2.len;rw[ht,ZAA];simp only;rw[hp2,ZAA];simp only;obtain⟨row,hr,⟨y,w,hry⟩,_⟩:=hP2.row p4;have hP3:=hP2.keep (row':=to2 (wP x1 b.1) y w) (k':=wP x1 b.1) hr p4 ⟨y,w,rfl⟩ (by rw[hry];rfl) rfl;have hE3:=hE2.keep (row':=to2 (wP x1 b.1) y w) (k':=wP x1 b.1) hr p4 ⟨y,w,rfl⟩ (by rw[hry];rfl) rfl;have e3:parL (putL (takeL (dropL (takeL t.1 b.1 name) other) a.1 old) b.1 name id) id b.1=(putL (takeL (dropL (takeL t.1 b.1 name) other) a.1 old) b.1 name id).set (id-1).toNat (wP x1 b.1):=bBZ _ p4;rw[<-e3] at hP3 hE3;rw[avZ (by omega) (by omega),ZAA,hr,ZAA];have e4:(row.1,(row.2.1,(row.2.2.1,(row.2.2.2.1,(row.2.2.2.2.1,(row.2.2.2.2.2.1,(b.1,row.2.2.2.2.2.2.2)))))))=to2 (wP x1 b.1) y w:=by rw[hry];rfl
 rw[e4];erw[bzZ (niZ (ms.map frz1) hP3 hE3)]
 rfl
end
end Go.Ab.D
namespace Go.Ab.D
open Go Go.Ab
theorem giZ(l:List Part)(hl:l.length<=100000):kSamPar fuel l l=some true:=by
 unfold kSamPar kSamPar_l0_it;rw[ZAP];simp only[ZAJ,ZAC];have e:iter fuel (fun tt=>kSamPar_l0 fuel l l tt) 0=some (.inl ()):=by
  refine aLZ (f:=fun tt=>kSamPar_l0 fuel l l tt) (fun k=>(k:Int)) l.length (by omega) (fun k hk=> ?_) ?_
  ·show kSamPar_l0 fuel l l (k:Int)=_;unfold kSamPar_l0;obtain⟨x,hg⟩:∃x,l[k]? =some x:=⟨_,ZAE hk⟩;rw[a8Z hk,ZAF,ajZ hk,ZAA,hg,ZAA,ZAA,hg,ZAA,w64 (by omega)];simp
  ·show kSamPar_l0 fuel l l ((l.length:Nat):Int)=_;unfold kSamPar_l0;rw[arZ (ZAq _),ZAC]
 rw[e]
 rfl
theorem eSZ(l:List Ent)(hl:l.length<=100000):kSamEnt fuel l l=some true:=by
 unfold kSamEnt kSamEnt_l0_it;rw[ZAP];simp only[ZAJ,ZAC];have e:iter fuel (fun tt=>kSamEnt_l0 fuel l l tt) 0=some (.inl ()):=by
  refine aLZ (f:=fun tt=>kSamEnt_l0 fuel l l tt) (fun k=>(k:Int)) l.length (by omega) (fun k hk=> ?_) ?_
  ·show kSamEnt_l0 fuel l l (k:Int)=_;unfold kSamEnt_l0;obtain⟨x,hg⟩:∃x,l[k]? =some x:=⟨_,ZAE hk⟩;rw[a8Z hk,ZAF,ajZ hk,ZAA,hg,ZAA,ZAA,hg,ZAA,w64 (by omega)];simp
  ·show kSamEnt_l0 fuel l l ((l.length:Nat):Int)=_;unfold kSamEnt_l0;rw[arZ (ZAq _),ZAC]
 rw[e]
 rfl
theorem guZ(n:Ino)(h:n.sm):kSamIno fuel n n=some true:=by
 unfold kSamIno;simp only[ZAP,ZAF];rw[giZ _ h.1,ZAA];simp only[ZAF];rw[eSZ _ h.2,ZAA]
theorem hEZ(t:Tree)(h:Fit t.1):kSamTre fuel t t=some true:=by
 have hn:=h.n;unfold kSamTre kSamTre_l0_it;simp only[ZAP,ZAJ,ZAC,ZAA];have e:iter fuel (fun tt:Int×(List Ino×(Int×(List Ino×Int)))=>kSamTre_l0 fuel (false,t.1,t.2,t.1,t.2) tt.1 tt.2.1 tt.2.2.1 tt.2.2.2.1 tt.2.2.2.2) (0,(t.1,(t.2,(t.1,t.2))))=some (.inl ()):=by
  refine aLZ (f:=fun tt:Int×(List Ino×(Int×(List Ino×Int)))=>kSamTre_l0 fuel (false,t.1,t.2,t.1,t.2) tt.1 tt.2.1 tt.2.2.1 tt.2.2.2.1 tt.2.2.2.2) (fun k=>((k:Int),(t.1,(t.2,(t.1,t.2))))) t.1.length (by omega) (fun k hk=> ?_) ?_
  ·show kSamTre_l0 fuel (false,t.1,t.2,t.1,t.2) (k:Int) t.1 t.2 t.1 t.2=_;unfold kSamTre_l0;obtain⟨n,hg⟩:∃n,t.1[k]? =some n:=⟨_,ZAE hk⟩;simp only;rw[a8Z hk,ZAF,ajZ hk,ZAA,hg,ZAA,ZAA,hg,ZAA,guZ n (h.at hg),ZAA,w64 (by omega)];simp
  ·show kSamTre_l0 fuel (false,t.1,t.2,t.1,t.2) ((t.1.length:Nat):Int) t.1 t.2 t.1 t.2=_;unfold kSamTre_l0;simp only;rw[arZ (ZAq _),ZAC]
 rw[e]
 rfl
def pickI(x n:Int):Int:=if Int.tmod x n<0 then IntKind.wrap .i64 (Int.tmod x n+n) else Int.tmod x n
theorem kvZ(x n:Int)(hn:1<=n):kit_Pick fuel x n=some (pickI x n):=by
 unfold kit_Pick pickI;rw[show decide (n<1)=false from by simp;omega,ZAC,abZ (by simp;omega)];by_cases h:Int.tmod x n<0
 ·rw[ZAS h,ZAF,ZAO h]
 ·rw[ZAL h,ZAC,ZAM h]
theorem knZ(x:Int){n:Int}(hn:1<=n)(hn2:n<=1000000):0<=pickI x n/\pickI x n<n:=by
 unfold pickI;have h1:=Int.tmod_lt_of_pos x (show 0<n by omega);have h2: -n<Int.tmod x n:=by
  have:=Int.tmod_lt_of_pos (-x) (show 0<n by omega);rw[Int.neg_tmod] at this;omega
 split
 ·rw[w64 (by omega)];omega
 ·omega
theorem ixZ{dir:Bool}{x:Ino}(h:misE dir x=0):x.2.2.2.2.2.2.2=[]/\x.2.2.2.1=dir:=by
 unfold misE at h;split at h
 ·cases h
 ·rename_i h1;split at h
  ·cases h
  ·rename_i h2;split at h
   ·rename_i h3;refine⟨h3,?_⟩;cases dir<;>cases hd:x.2.2.2.1<;>simp_all
   ·cases h
section
variable {t : Tree} {a b d : Int × Int} {na nb n x z : Ino} {old name s : List UInt8} {id other : Int}
def Found(t:Tree)(d:Int×Int)(s:List UInt8)(h:Int×Int):Prop:=∃n x,IsD t.1 d n/\(s,h.1)∈n.2.2.2.2.2.2.2/\t.1[(h.1-1).toNat]? =some x/\x.2.1=h.2/\x.2.2.1=true
structure MadeOk (t:Tree) (d:Int×Int) (s:List UInt8) (is:Bool) (T:Tree) (f:Int×Int) (n:Ino) (l':List Ino) (i:Nat):Prop where
 dir:IsD t.1 d n
 nm:namedB s=true
 no:hasN n.2.2.2.2.2.2.2 s=false
 few:n.2.2.2.2.2.2.2.length<100
 alc:Alc t.1 is d.1 l' i f.2
 T:T=(putL l' d.1 s ((i:Int)+1),t.2)
 f:f.1=(i:Int)+1
theorem oGZ{l':List Ino}{i:Nat}{g:Int}{is:Bool}(hn:IsD t.1 d n)(hA:Alc t.1 is d.1 l' i g)(id:Int):madeL l' d.1 n s id=putL l' d.1 s id:=by
 have hne:(d.1-1).toNat≠i:=fun hc=>by
  have:=hA.was n (by rw[<-hc];exact hn.1.2.1);rw[hn.1.2.2.1] at this;cases this
 unfold madeL putL;rw[bBZ _ (by rw[hA.old _ hne];exact hn.1.2.1)]
structure RmOk (t:Tree) (d:Int×Int) (s:List UInt8) (is:Bool) (T:Tree) (gone:List Part) (n:Ino) (id:Int) (x:Ino):Prop where
 dir:IsD t.1 d n
 e:(s,id)∈n.2.2.2.2.2.2.2
 at_:t.1[(id-1).toNat]? =some x
 mis:misE is x=0
 T:T=(dropL (takeL t.1 d.1 s) id,t.2)
 gone:gone=keptP x.2.2.2.2.2.1
theorem rnZ(h:TreeOK t)(ha:IsD t.1 a na)(hb:IsD t.1 b nb)(hea:(old,id)∈na.2.2.2.2.2.2.2)(hx:t.1[(id-1).toNat]? =some x)(hanc:x.2.2.2.1=true->¬Anc t.1 id b.1):¬Anc t.1 id b.1:=by
 cases hd:x.2.2.2.1 with
 |true=>exact hanc hd
 |false=>
  intro hc;obtain⟨_,h2,_,y,hy,hu,_⟩:=h.ent ha hea;rw[hx] at hy;cases hy;have hxe:x.2.2.2.2.2.2.2=[]:=((h.r.ino _ x hx).file hu hd).2.1;have:=oFZ h hx h2 hxe hc hb.1.1;have hn:=hb.1.2.1;rw[this,hx] at hn;cases hn;rw[hb.2] at hd;cases hd
theorem qqZ(h:TreeOK t)(ha:IsD t.1 a na)(hb:IsD t.1 b nb)(hs:namedB name=true)(hea:(old,id)∈na.2.2.2.2.2.2.2)(hx:t.1[(id-1).toNat]? =some x)(hanc:¬Anc t.1 id b.1)(heb:(name,other)∈nb.2.2.2.2.2.2.2)(hne:other≠id)(hz:t.1[(other-1).toNat]? =some z)(hze:z.2.2.2.2.2.2.2=[]):
 ∃na' nb',MvOk (dropL (takeL t.1 b.1 name) other,t.2) a old b name id na' nb' x/\nb'=wE nb (delE nb.2.2.2.2.2.2.2 name):=by
 obtain⟨_,i2,i3,y,hy,hu,hp⟩:=h.ent ha hea;rw[hx] at hy;cases hy;obtain⟨_,o2,o3,w,hw,hzu,hzp⟩:=h.ent hb heb;rw[hz] at hw;cases hw;have hk:=oWZ heb hb hz hze;have hka:(other-1).toNat≠(a.1-1).toNat:=fun hc=>by
  have:=ha.1.2.1;rw[<-hc,hz] at this;cases this;rw[hze] at hea;cases hea
 have hat:=fun j=>qzZ (s:=name) hk hb hz j;have hb1:=hb.1.1;have hfb:=h.few hb.1;have hdl:=kiZ (h.srt hb.1) heb;have hkb:(id-1).toNat≠(b.1-1).toNat:=fun hc=>by
  have:id=b.1:=by omega
  exact hanc (by rw[this];exact .refl)
 have hno:hasN (delE nb.2.2.2.2.2.2.2 name) name=false:=by
  cases hh:hasN (delE nb.2.2.2.2.2.2.2 name) name with
  |false=>rfl
  |true=>obtain⟨i,hi⟩:=a7Z.1 hh;exact absurd rfl (b4Z.1 hi).2
 have hdb:IsD (dropL (takeL t.1 b.1 name) other) b (wE nb (delE nb.2.2.2.2.2.2.2 name)):=⟨⟨hb1,by rw[hat,ZAM (by omega),ZAO rfl],hb.1.2.2.1,hb.1.2.2.2⟩,hb.2⟩;have hda:∃na',IsD (dropL (takeL t.1 b.1 name) other) a na'/\(old,id)∈na'.2.2.2.2.2.2.2:=by
  by_cases hab:(a.1-1).toNat=(b.1-1).toNat
  ·have hnn:na=nb:=by
    have:=ha.1.2.1;rw[hab,hb.1.2.1] at this;injection this with this;exact this.symm
   subst hnn;refine⟨wE na (delE na.2.2.2.2.2.2.2 name),⟨⟨ha.1.1,by rw[hat,ZAM (by omega),ZAO hab],ha.1.2.2.1,ha.1.2.2.2⟩,ha.2⟩,b4Z.2 ⟨hea,fun hc=> ?_⟩⟩;have hc:old=name:=hc;subst hc;exact hne (dqZ (h.srt hb.1) heb hea)
  ·exact⟨na,⟨⟨ha.1.1,by rw[hat,ZAM (by omega),ZAM hab];exact ha.1.2.1,ha.1.2.2.1,ha.1.2.2.2⟩,ha.2⟩,hea⟩
 obtain⟨na',hda,hea'⟩:=hda;refine⟨na',_,⟨hda,hdb,hea',?_,hs,hno,fun _=> ?_,fun hc=>hanc ?_⟩,rfl⟩
 ·show(dropL (takeL t.1 b.1 name) other)[(id-1).toNat]? =_;rw[hat,ZAM (by omega),ZAM hkb];exact hx
 ·show(delE _ _).length<100;omega
 ·have go:∀i,Anc (dropL (takeL t.1 b.1 name) other) id i->1<=i->Anc t.1 id i:=fun i hi=>by
   induction hi with
   |refl=>intro _;exact .refl
   | @step i y h1 hy hyu _ ih=>
     intro hi1;rw[hat] at hy;by_cases c1:(i-1).toNat=(other-1).toNat
     ·rw[ZAO c1] at hy;cases hy;cases hyu
     ·rw[ZAM c1] at hy;by_cases c2:(i-1).toNat=(b.1-1).toNat
      ·rw[ZAO c2] at hy;cases hy;exact .step h1 (by rw[c2];exact hb.1.2.1) hb.1.2.2.1 (ih ((h.r.ino _ nb hb.1.2.1).par hb.1.2.2.1).1)
      ·rw[ZAM c2] at hy;exact .step h1 hy hyu (ih ((h.r.ino _ y hy).par hyu).1)
  exact go _ hc hb1
inductive Moved (t:Tree) (a:Int×Int) (old:List UInt8) (b:Int×Int) (name:List UInt8) (T:Tree) (gone:List Part) (id:Int) (x:Ino):Prop
 |same {na nb:Ino}:T=t->gone=[]->IsD t.1 a na->IsD t.1 b nb->(old,id)∈na.2.2.2.2.2.2.2->(name,id)∈nb.2.2.2.2.2.2.2->t.1[(id-1).toNat]? =some x->Moved t a old b name T gone id x
 |move {na nb:Ino}:T=(mvL t.1 a.1 old b.1 name id,t.2)->gone=[]->MvOk t a old b name id na nb x->Moved t a old b name T gone id x
 |over {na nb na' nb' z:Ino} {other:Int}:T=(mvL (dropL (takeL t.1 b.1 name) other) a.1 old b.1 name id,t.2)->gone=keptP z.2.2.2.2.2.1->IsD t.1 a na->IsD t.1 b nb->(old,id)∈na.2.2.2.2.2.2.2->t.1[(id-1).toNat]? =some x->(name,other)∈nb.2.2.2.2.2.2.2->other≠id->t.1[(other-1).toNat]? =some z->misE x.2.2.2.1 z=0->TreeOK (dropL (takeL t.1 b.1 name) other,t.2)->MvOk (dropL (takeL t.1 b.1 name) other,t.2) a old b name id na' nb' x->Moved t a old b name T gone id x
end
theorem qDZ:TreeOK ([(1,1,true,true,0,[],1,[])],0):=by
 refine⟨⟨by simp,by simp,fun i n hn=> ?_,by simp[allStripes,stripes],_,rfl,rfl,rfl,rfl⟩,fun i n hn s id he=> ?_,fun j x hx hu hj=> ?_,fun j x hx hu=> ?_⟩
 ·cases i with
  |zero=>simp at hn;subst hn;exact⟨rfl,by simp,by simp,fun _ _=>⟨rfl,rfl,by simp,trivial⟩,by simp,by simp⟩
  |succ i=>simp at hn
 ·cases i with
  |zero=>simp at hn;subst hn;cases he
  |succ i=>simp at hn
 ·cases j with
  |zero=>exact absurd rfl hj
  |succ i=>simp at hx
 ·cases j with
  |zero=>exact .root
  |succ i=>simp at hx
end Go.Ab.D
namespace Go.Ab.D
open Go Go.Ab
def allocF(l:List Ino)(dir:Bool)(parent:Int):Option (List Ino×Nat×Int):=
 match freeAt l with
 |none=>if l.length<500 then some (l++[((l.length:Int)+1,1,true,dir,0,[],parent,[])],l.length,1) else none
 |some i=>match l[i]? with
  |none=>none
  |some n=>if n.2.1<1099511627776 then some (l.set i ((i:Int)+1,n.2.1+1,true,dir,0,[],parent,[]),i,n.2.1+1) else none
theorem qdZ{l l':List Ino}{dir:Bool}{parent g:Int}{i:Nat}(h:Alc l dir parent l' i g):allocF l dir parent=some (l',i,g):=by
 unfold allocF;have hs:=h.slot;have hlen:=h.len;cases hf:freeAt l with
 |none=>
  rw[hf] at hs;have hs:i=l.length:=hs;rw[ZAM (by omega)] at hlen;have:=h.few;have hg:g=0+1:=by
   have:=h.gen;rw[ZAr (by omega)] at this;exact this
  rw[ZAO (by omega)];subst hs hg;show some (l++[((l.length:Int)+1,1,true,dir,0,[],parent,[])],l.length,(1:Int))=some (l',l.length,0+1);have e:l++[((l.length:Int)+1,1,true,dir,0,[],parent,[])]=l':= ?_
  ·rw[e];rfl
  refine List.ext_getElem? fun j=> ?_;by_cases hj:j=l.length
  ·subst hj;rw[h.new];simp
  ·rw[h.old j hj];by_cases hj2:j<l.length
   ·rw[ZAN hj2]
   ·rw[ZAr (by simp;omega),ZAr (by omega)]
 |some k=>
  rw[hf] at hs;have hs:i=k:=hs;subst hs;obtain⟨hk,_,_⟩:=ZA0.1 hf;have hg:l[i]? =some l[i]:=ZAE hk;have hgen:=h.gen;rw[hg] at hgen;have hgen:g=l[i].2.1+1:=hgen;have:=h.top;simp only[hg];rw[ZAO (by omega),<-hgen];congr 2;refine List.ext_getElem? fun j=> ?_;by_cases hj:j=i
  ·subst hj;rw[h.new,ZAX hk]
  ·rw[h.old j hj,ZAT (by omega)]
theorem lZZ{l:List Ino}(h:noRoom l)(dir:Bool)(parent:Int):allocF l dir parent=none:=by
 unfold noRoom at h;unfold allocF;cases hf:freeAt l with
 |none=>rw[hf] at h;exact ZAM (by omega)
 |some i=>
  rw[hf] at h;obtain⟨n,hn,hg⟩:=h;simp only[hn];exact ZAM (by omega)
def findE(l:List Ent)(s:List UInt8):Option Int:=(l.find? fun e=>e.1==s).map (·.2)
theorem cZZ{l:List Ent}(h:Srt l){s:List UInt8}{id:Int}(hm:(s,id)∈l):findE l s=some id:=by
 unfold findE;cases hf:l.find? (fun e=>e.1==s) with
 |none=>have:=List.find?_eq_none.1 hf _ hm;simp at this
 |some e=>
  have h1:=List.mem_of_find?_eq_some hf;have h2:=List.find?_some hf;have h2:e.1=s:=by simpa using h2
  have:(s,e.2)∈l:=by rw[<-h2];exact h1
  rw[dqZ h hm this]
  rfl
theorem diZ{l:List Ent}{s:List UInt8}(h:hasN l s=false):findE l s=none:=by
 unfold findE;rw[List.find?_eq_none.2]
 ·rfl
 ·intro e he hh;have h2:e.1=s:=by simpa using hh
  have:=(a7Z (l:=l) (s:=s)).2 ⟨e.2,by rw[<-h2];exact he⟩;rw[h] at this;cases this
def ancB(l:List Ino)(top:Int):Nat->Int->Bool
 |0,id=>id==top
 |k+1,id=>bif id==top then true else bif id==1 then false else match l[(id-1).toNat]? with
  |some n=>n.2.2.1&&ancB l top k n.2.2.2.2.2.2.1
  |none=>false
theorem nuZ{l:List Ino}(top:Int):∀(k:Nat) (id:Int),reachN l k id=true->(ancB l top k id=true↔Anc l top id)
 |0,id,h=>by
  have h:id=1:=by unfold reachN at h;simpa using h
  unfold ancB;rw[ZBL];constructor
  ·rintro rfl;exact .refl
  ·intro ha;cases ha with
   |refl=>rfl
   |step h1=>exact absurd h h1
 |k+1,id,h=>by
  unfold ancB;cases h1:(id==top) with
  |true=>rw[ZBL] at h1;subst h1;simp;exact .refl
  |false=>
   cases h2:(id==1) with
   |true=>
    simp only[ZAC,ZAF];constructor
    ·intro hc;cases hc
    ·intro ha;cases ha with
     |refl=>rw[ZAP] at h1;cases h1
     |step h3=>rw[ZBL] at h2;exact absurd h2 h3
   |false=>
    unfold reachN at h;rw[h2] at h;simp only[ZAC] at h⊢;cases hg:l[(id-1).toNat]? with
    |none=>rw[hg] at h;cases h
    |some n=>
     rw[hg] at h;simp only[ZAD] at h⊢;rw[nuZ top k _ h.2];constructor
     ·rintro⟨h3,h4⟩;exact .step (by simpa using h2) hg h3 h4
     ·intro ha;cases ha with
      |refl=>rw[ZAP] at h1;cases h1
      |step _ h4 h5 h6=>rw[hg] at h4;cases h4;exact⟨h5,h6⟩
theorem kLZ{t:Tree}(h:TreeOK t){b:Int×Int}{nb:Ino}(hb:IsD t.1 b nb)(top:Int):ancB t.1 top t.1.length b.1=true↔Anc t.1 top b.1:=by
 have hlt:=(ZAB.1 hb.1.2.1).1;have hdb:=evZ hb;have hb1:=hb.1.1;exact nuZ top _ _ (eyZ h.r.len.1 (fun j x hx hxu=>(h.r.ino j x hx).par hxu) hb1 (by omega) (by have:=h.a _ nb hb.1.2.1 hb.1.2.2.1;rw[hdb] at this;exact this))
def makeF(t:Tree)(d:Int×Int)(s:List UInt8)(is:Bool):Tree×(Int×Int)×Int:=
 if dirE t.1 d=0 then
  if namedB s=true then
   match t.1[(d.1-1).toNat]? with
   |none=>(t,(0,0),170)
   |some n=>if hasN n.2.2.2.2.2.2.2 s=true then(t,(0,0),172) else if 100<=n.2.2.2.2.2.2.2.length then(t,(0,0),5) else
    match allocF t.1 is d.1 with
    |none=>(t,(0,0),5)
    |some (l',i,g)=>((putL l' d.1 s ((i:Int)+1),t.2),((i:Int)+1,g),0)
  else(t,(0,0),176)
 else(t,(0,0),dirE t.1 d)
theorem m0Z{t:Tree}(h:TreeOK t)(d:Int×Int)(s:List UInt8)(is:Bool):tree_Make fuel t d s is=some ((makeF t d s is).1.1,((makeF t d s is).1.2,((makeF t d s is).2.1.1,((makeF t d s is).2.1.2,(makeF t d s is).2.2))))/\TreeOK (makeF t d s is).1:=by
 unfold makeF;rcases boZ t.1 d with⟨n,hn⟩|⟨hb,_⟩
 ·rw[ZAO (b8Z hn),hn.1.2.1];simp only;cases hs:namedB s with
  |false=>rw[ZAM (by simp)];exact⟨m8Z h is hn hs,h⟩
  |true=>
   rw[ZAO rfl];cases hh:hasN n.2.2.2.2.2.2.2 s with
   |true=>rw[ZAO rfl];exact⟨lNZ h is hn hs hh,h⟩
   |false=>
    rw[ZAM (by simp)];by_cases hl:100<=n.2.2.2.2.2.2.2.length
    ·rw[ZAO hl];exact⟨m5Z h is hn hs hh hl,h⟩
    ·rw[ZAM hl];rcases l6Z h is hn hs hh (by omega) with⟨hno,hm⟩|⟨l',i,g,hA,hm⟩
     ·rw[lZZ hno];exact⟨hm,h⟩
     ·rw[qdZ hA,hm,oGZ hn hA];exact⟨rfl,oMZ h hn hs hh (by omega) hA⟩
 ·rw[ZAM hb];exact⟨oXZ h s is hb,h⟩
def removeF(t:Tree)(d:Int×Int)(s:List UInt8)(is:Bool):Tree×List Part×Int:=
 if dirE t.1 d=0 then
  if namedB s=true then
   match t.1[(d.1-1).toNat]? with
   |none=>(t,[],170)
   |some n=>match findE n.2.2.2.2.2.2.2 s with
    |none=>(t,[],171)
    |some id=>match t.1[(id-1).toNat]? with
     |none=>(t,[],170)
     |some x=>if misE is x=0 then((dropL (takeL t.1 d.1 s) id,t.2),keptP x.2.2.2.2.2.1,0) else(t,[],misE is x)
  else(t,[],176)
 else(t,[],dirE t.1 d)
theorem ifZ{t:Tree}(h:TreeOK t)(d:Int×Int)(s:List UInt8)(is:Bool):tRem fuel t d s is=some ((removeF t d s is).1.1,((removeF t d s is).1.2,((removeF t d s is).2.1,(removeF t d s is).2.2)))/\TreeOK (removeF t d s is).1:=by
 unfold removeF;rcases boZ t.1 d with⟨n,hn⟩|⟨hb,_⟩
 ·rw[ZAO (b8Z hn),hn.1.2.1];simp only;cases hs:namedB s with
  |false=>rw[ZAM (by simp)];exact⟨j7Z h is hn hs,h⟩
  |true=>
   rw[ZAO rfl];cases hh:hasN n.2.2.2.2.2.2.2 s with
   |false=>rw[diZ hh];exact⟨jnZ h is hn hs hh,h⟩
   |true=>
    obtain⟨id,he⟩:=a7Z.1 hh;obtain⟨_,_,_,x,hx,hu,_⟩:=h.ent hn he;rw[cZZ (h.srt hn.1) he];simp only[hx];have hr:=jNZ h is hn he hx;by_cases hm:misE is x=0
    ·rw[ZAO hm] at hr⊢;exact⟨hr,klZ h hn he hx (ixZ hm).1⟩
    ·rw[ZAM hm] at hr⊢;exact⟨hr,h⟩
 ·rw[ZAM hb];exact⟨lyZ h s is hb,h⟩
def renameF(t:Tree)(a:Int×Int)(old:List UInt8)(b:Int×Int)(name:List UInt8):Tree×List Part×Int:=
 if dirE t.1 a=0 then
  if dirE t.1 b=0 then
   if(namedB old&&namedB name)=true then
    match t.1[(a.1-1).toNat]? with
    |none=>(t,[],170)
    |some na=>match t.1[(b.1-1).toNat]? with
     |none=>(t,[],170)
     |some nb=>match findE na.2.2.2.2.2.2.2 old with
      |none=>(t,[],171)
      |some id=>match t.1[(id-1).toNat]? with
       |none=>(t,[],170)
       |some x=>if(x.2.2.2.1&&ancB t.1 id t.1.length b.1)=true then(t,[],178) else
        match findE nb.2.2.2.2.2.2.2 name with
        |none=>if a.1≠b.1/\100<=nb.2.2.2.2.2.2.2.length then(t,[],5) else((mvL t.1 a.1 old b.1 name id,t.2),[],0)
        |some other=>if other=id then(t,[],0) else match t.1[(other-1).toNat]? with
         |none=>(t,[],170)
         |some z=>if misE x.2.2.2.1 z=0 then((mvL (dropL (takeL t.1 b.1 name) other) a.1 old b.1 name id,t.2),keptP z.2.2.2.2.2.1,0) else(t,[],misE x.2.2.2.1 z)
   else(t,[],176)
  else(t,[],dirE t.1 b)
 else(t,[],dirE t.1 a)
theorem iWZ{t:Tree}(h:TreeOK t)(a:Int×Int)(old:List UInt8)(b:Int×Int)(name:List UInt8):tRen fuel t a old b name=some ((renameF t a old b name).1.1,((renameF t a old b name).1.2,((renameF t a old b name).2.1,(renameF t a old b name).2.2)))/\TreeOK (renameF t a old b name).1:=by
 unfold renameF;rcases boZ t.1 a with⟨na,ha⟩|⟨hb,_⟩
 ·rw[ZAO (b8Z ha)];rcases boZ t.1 b with⟨nb,hb⟩|⟨hb,_⟩
  ·rw[ZAO (b8Z hb)];cases hsn:(namedB old&&namedB name) with
   |false=>rw[ZAM (by simp)];exact⟨j9Z h ha hb hsn,h⟩
   |true=>
    rw[ZAO rfl,ha.1.2.1,hb.1.2.1];simp only;rw[ZAD] at hsn;obtain⟨hso,hs⟩:=hsn;cases hh:hasN na.2.2.2.2.2.2.2 old with
    |false=>rw[diZ hh];exact⟨jDZ h ha hb hso hs hh,h⟩
    |true=>
     obtain⟨id,hea⟩:=a7Z.1 hh;obtain⟨_,_,_,x,hx,hu,hp⟩:=h.ent ha hea;rw[cZZ (h.srt ha.1) hea];simp only[hx];by_cases hl:(x.2.2.2.1&&ancB t.1 id t.1.length b.1)=true
     ·rw[ZAO hl];rw[ZAD] at hl;exact⟨jyZ h ha hb hs hea hx hl.1 ((kLZ h hb id).1 hl.2),h⟩
     ·rw[ZAM hl];have hanc:x.2.2.2.1=true->¬Anc t.1 id b.1:=fun h1 h2=>hl (by rw[h1,(kLZ h hb id).2 h2];rfl);have hanc':=rnZ h ha hb hea hx hanc;cases hhb:hasN nb.2.2.2.2.2.2.2 name with
      |false=>
       rw[diZ hhb];simp only;by_cases hfull:a.1≠b.1/\100<=nb.2.2.2.2.2.2.2.length
       ·rw[ZAO hfull];exact⟨jIZ h ha hb hs hea hx hanc hhb hfull.1 hfull.2,h⟩
       ·rw[ZAM hfull];have hfw:a.1≠b.1->nb.2.2.2.2.2.2.2.length<100:=fun hc=>by
         have:¬100<=nb.2.2.2.2.2.2.2.length:=fun hh=>hfull ⟨hc,hh⟩;omega
        have m:MvOk t a old b name id na nb x:=⟨ha,hb,hea,hx,hs,hhb,hfw,hanc'⟩;exact⟨j8Z h m hanc,kSZ h m⟩
      |true=>
       obtain⟨other,heb⟩:=a7Z.1 hhb;obtain⟨_,_,_,z,hz,hzu,hzp⟩:=h.ent hb heb;rw[cZZ (h.srt hb.1) heb];simp only;by_cases hne:other=id
       ·subst hne;rw[ZAO rfl];exact⟨joZ h ha hb hs hea hx hanc heb,h⟩
       ·rw[ZAM hne,hz];simp only;by_cases hm:misE x.2.2.2.1 z=0
        ·rw[ZAO hm];have hze:=(ixZ hm).1;have h0:=klZ h hb heb hz hze;obtain⟨na',nb',m,_⟩:=qqZ h ha hb hs hea hx hanc' heb hne hz hze;exact⟨kaZ h ha hb hs hea hx hanc heb hne hz hm h0 m,kSZ h0 m⟩
        ·rw[ZAM hm];exact⟨lVZ h ha hb hs hea hx hanc heb hne hz hm,h⟩
  ·rw[ZAM hb];exact⟨jlZ h ha hb,h⟩
 ·rw[ZAM hb];exact⟨jdZ h hb,h⟩
end Go.Ab.D
namespace Go.Ab.D
abbrev CallT:Type:=Int×(Int×(UInt8×((Int×Int)×(List UInt8×((Int×Int)×(List UInt8×(Int×(Int×List UInt8))))))))
abbrev Has:Type:=Bool×(Bool×(Bool×(Bool×(Int×(Bool×Bool)))))
instance hasD1:DecidableEq (Int×(Bool×Bool)):=instDecidableEqProd
instance hasD2:DecidableEq (Bool×(Int×(Bool×Bool))):=instDecidableEqProd
instance hasD3:DecidableEq (Bool×(Bool×(Int×(Bool×Bool)))):=instDecidableEqProd
instance hasD4:DecidableEq (Bool×(Bool×(Bool×(Int×(Bool×Bool))))):=instDecidableEqProd
instance hasD5:DecidableEq Has:=instDecidableEqProd
def shapeN(o:Nat):Has:=
 if o=1\/o=2\/o=3\/o=7\/o=8 then(true,(true,(false,(false,(0,(false,true))))))
 else if o=4 then(true,(false,(false,(true,(4096,(false,true))))))
 else if o=5 then(true,(false,(false,(true,(0,(true,true))))))
 else if o=6 then(true,(false,(false,(false,(2147483648,(false,true))))))
 else if o=9 then(true,(true,(true,(false,(0,(false,true))))))
 else if o=10 then(true,(true,(false,(false,(4096,(false,true))))))
 else if o=11 then(true,(false,(false,(false,(0,(false,true))))))
 else if o=12 then(false,(false,(false,(false,(0,(false,true))))))
 else(false,(false,(false,(false,(0,(false,false))))))
theorem mRZ:∀n:Nat,n<256->csha fuel ((n:Nat):Int)=some (shapeN n):=by decide+kernel
theorem oqZ(o:UInt8):csha fuel ((o.toNat:Nat):Int)=some (shapeN o.toNat):=mRZ _ o.toNat_lt
def whoseB(a b:Int):Bool:=decide (0<=a/\a<16/\1<=b/\b<=1099511627776)
theorem kEZ(a b:Int):cwho fuel a b=some (whoseB a b):=by
 unfold cwho whoseB;by_cases h1:a>=0<;>by_cases h2:a<16<;>by_cases h3:b>=1<;>by_cases h4:b<=1099511627776<;>
  simp[h1,h2,h3,h4]<;>omega
def handleB(h:Int×Int):Bool:=decide (1<=h.1/\h.1<=500/\1<=h.2/\h.2<=1099511627776)
theorem iCZ(h:Int×Int):hRig fuel h=some (handleB h):=by
 unfold hRig handleB;by_cases h1:h.1>=1<;>by_cases h2:h.1<=500<;>by_cases h3:h.2>=1<;>by_cases h4:h.2<=1099511627776<;>
  simp[h1,h2,h3,h4]<;>omega
def ofB(is:Bool)(h:Int×Int):Bool:=bif is then handleB h else((h.1==0)&&(h.2==0))
theorem q0Z(is:Bool)(h:Int×Int):cRigCal1 fuel is h=some (ofB is h):=by
 unfold cRigCal1 ofB;cases is with
 |true=>
  simp only[ZAF];rw[iCZ];have:handleB (h.1,h.2)=handleB h:=rfl;rw[this];simp only[ZAA];cases handleB h<;>rfl
 |false=>rfl
def saidB(is:Bool)(l:List UInt8):Bool:=(l==[])||(is&&decide (l.length<=100))
theorem n0Z(is:Bool)(l:List UInt8):cRigCal2 fuel is l=some (saidB is l):=by
 unfold cRigCal2 saidB;have e:decide (((l.length:Nat):Int)<=100)=decide (l.length<=100):=by
  by_cases h:l.length<=100
  ·rw[ZAS h,ZAS (by omega)]
  ·rw[ZAL h,ZAL (by omega)]
 rw[e];cases(l==[])<;>cases is<;>rfl
def rightS(s:Has)(c:CallT):Bool:=
 s.2.2.2.2.2.2&&(whoseB c.1 c.2.1&&(ofB s.1 c.2.2.2.1&&(ofB s.2.2.1 c.2.2.2.2.2.1&&(saidB s.2.1 c.2.2.2.2.1&&(saidB s.2.2.1 c.2.2.2.2.2.2.1&&
  (decide (0<=c.2.2.2.2.2.2.2.1/\c.2.2.2.2.2.2.2.1<=2147483648)&&((s.2.2.2.1||(c.2.2.2.2.2.2.2.1==0))&&(decide (0<=c.2.2.2.2.2.2.2.2.1/\c.2.2.2.2.2.2.2.2.1<=s.2.2.2.2.1)&&
   (decide (c.2.2.2.2.2.2.2.2.2.length=0)||(s.2.2.2.2.2.1&&decide (c.2.2.2.2.2.2.2.2.2.length<=4096)))))))))))
def rightCall(c:CallT):Bool:=rightS (shapeN c.2.2.1.toNat) c
theorem azZ(c:CallT):cRigCal fuel c=some (rightCall c):=by
 obtain⟨c1,c2,c3,⟨h1,h2⟩,nm,⟨t1,t2⟩,nw,off,n,bs⟩:=c;unfold cRigCal rightCall;simp only;rw[oqZ];generalize shapeN c3.toNat=s;obtain⟨sh,sn,st,so,sN,sb,ok⟩:=s;unfold rightS;simp only[ZAA];cases ok with
 |false=>rfl
 |true=>
  simp only[ZAJ,ZAC];rw[kEZ];generalize whoseB c1 c2=w;cases w with
  |false=>rfl
  |true=>
   simp only[ZAA,ZAJ,ZAC];rw[q0Z];generalize ofB sh (h1,h2)=a1;cases a1 with
   |false=>rfl
   |true=>
    simp only[ZAA,ZAJ,ZAC];rw[q0Z];generalize ofB st (t1,t2)=a2;cases a2 with
    |false=>rfl
    |true=>
     simp only[ZAA,ZAJ,ZAC];rw[n0Z];generalize saidB sn nm=a3;cases a3 with
     |false=>rfl
     |true=>
      simp only[ZAA,ZAJ,ZAC];rw[n0Z];generalize saidB st nw=a4;cases a4 with
      |false=>rfl
      |true=>
       simp only[ZAA,ZAJ,ZAC,ZA9];by_cases o1:off<0
       ·rw[ZAS o1,ZAL (show¬(0<=off/\off<=2147483648) by omega)];rfl
       by_cases o2:off>2147483648
       ·rw[ZAL o1,ZAS o2,ZAL (show¬(0<=off/\off<=2147483648) by omega)];rfl
       rw[ZAL o1,ZAL o2,ZAS (show 0<=off/\off<=2147483648 by omega)];have eb:decide (((bs.length:Nat):Int)<=4096)=decide (bs.length<=4096):=by
        by_cases h:bs.length<=4096
        ·rw[ZAS h,ZAS (by omega)]
        ·rw[ZAL h,ZAL (by omega)]
       have e0:(((bs.length:Nat):Int)==0)=decide (bs.length=0):=by
        by_cases h:bs.length=0
        ·rw[ZAS h,h];rfl
        ·rw[ZAL h,ZAb.2 (by omega)]
       by_cases n1:n<0
       ·rw[ZAS n1,ZAL (show¬(0<=n/\n<=sN) by omega)];cases so<;>cases(off==0)<;>rfl
       by_cases n2:n>sN
       ·rw[ZAL n1,ZAS n2,ZAL (show¬(0<=n/\n<=sN) by omega)];cases so<;>cases(off==0)<;>rfl
       rw[ZAL n1,ZAL n2,ZAS (show 0<=n/\n<=sN by omega),<-e0,<-eb];cases so<;>cases(off==0)<;>simp only[ZAF,ZAC,ZAJ,ZAe,ZAA,ZA9,Bool.or_false,Bool.or_true,Bool.false_and,e0,eb]<;>
        (generalize decide (bs.length=0)=x0)<;>(generalize decide (bs.length<=4096)=x1)<;>cases x0<;>cases sb<;>cases x1<;>rfl
end Go.Ab.D
namespace Go.Ab.D
open Go Go.Ab
abbrev Byt:=List UInt8
abbrev Mod:=Tree×List Byt
structure ModelOK (m:Mod):Prop where
 t:TreeOK m.1
 n:m.2.length=m.1.1.length
 p:∀(i:Nat) x,m.1.1[i]? =some x->x.2.2.2.2.2.1=[]
 s:∀(i:Nat) x b,m.1.1[i]? =some x->m.2[i]? =some b->((b.length:Nat):Int)=x.2.2.2.2.1
theorem jCZ{t:Tree}(h:TreeOK t){i:Nat}{x:Ino}(hx:t.1[i]? =some x):0<=x.2.2.2.2.1/\x.2.2.2.2.1<=65536/\(x.2.2.1=false->x.2.2.2.2.1=0)/\(x.2.2.2.1=true->x.2.2.2.2.1=0):=by
 have o:=h.r.ino i x hx;cases hu:x.2.2.1 with
 |false=>have:=o.bare hu;refine⟨by omega,by omega,fun _=>this.2.1,fun hd=> ?_⟩;rw[this.1] at hd;cases hd
 |true=>
  cases hd:x.2.2.2.1 with
  |true=>have:=o.dir hu hd;exact⟨by omega,by omega,(by simp),fun _=>this.1⟩
  |false=>have:=o.file hu hd;exact⟨this.1.1,this.1.2,(by simp),(by simp)⟩
theorem ModelOK.at{m:Mod}(h:ModelOK m){i:Nat}{x:Ino}(hx:m.1.1[i]? =some x):∃b,m.2[i]? =some b/\((b.length:Nat):Int)=x.2.2.2.2.1/\b.length<=65536:=by
 have hlt:=(ZAB.1 hx).1;obtain⟨b,hb⟩:∃b,m.2[i]? =some b:=⟨_,ZAE (by rw[h.n];exact hlt)⟩;have h1:=h.s i x b hx hb;have h2:=jCZ h.t hx;exact⟨b,hb,h1,by omega⟩
theorem ModelOK.byt{m:Mod}(h:ModelOK m){i:Nat}{b:Byt}(hb:m.2[i]? =some b):b.length<=65536:=by
 have hlt:=(ZAB.1 hb).1;obtain⟨x,hx⟩:∃x,m.1.1[i]? =some x:=⟨_,ZAE (by rw[<-h.n];exact hlt)⟩;obtain⟨b',hb',_,h2⟩:=h.at hx;rw[hb] at hb';cases hb';exact h2
theorem ModelOK.len{m:Mod}(h:ModelOK m):1<=m.1.1.length/\m.1.1.length<=500:=h.t.r.len
theorem ModelOK.fit{m:Mod}(h:ModelOK m):Fit m.1.1:=h.t.r.fit
theorem aqZ{m:Mod}(h:ModelOK m):mRig fuel m=some true:=by
 unfold mRig;have hl:=h.len;rw[show((m.1.1,m.1.2):Tree)=m.1 from rfl,bJZ h.t,ZAA];simp only[ZAJ,ZAC,ZAA];rw[h.n,ZAP];simp only[ZAJ,ZAC];have loop:mRig_l0_it fuel (false,(m.1.1,(m.1.2,m.2))) (0,(m.1.1,(m.1.2,m.2)))=some (.inl ()):=by
  unfold mRig_l0_it;refine aLZ (fun k=>((k:Int),(m.1.1,(m.1.2,m.2)))) m.1.1.length (by omega) (fun k hk=> ?_) ?_
  ·unfold mRig_l0;obtain⟨x,hx⟩:∃x,m.1.1[k]? =some x:=⟨_,ZAE hk⟩;obtain⟨b,hb,hs,_⟩:=h.at hx;simp only[a8Z hk,ZAF];rw[ajZ hk];simp only[ZAA,hx];rw[h.p k x hx];simp only[List.length_nil,Int.natCast_zero,show decide ((0:Int)>0)=false from rfl,ZAC];rw[ajZ (by rw[h.n];exact hk)];simp only[ZAA,hb];rw[hs,ZAP,w64 (by omega)]
   rfl
  ·unfold mRig_l0;simp only[arZ (ZAq _),ZAC]
 rw[loop,ZAA]
theorem daZ{t:Tree}(h:Fit t.1):mcop fuel t=some (t.2,t.1):=by
 unfold mcop;rw[dsZ h.n,ZAA];have loop:mcop_l0_it fuel t.1 (0,(t.2,(t.1,0)))=some (t.2,(t.1,0)):=by
  unfold mcop_l0_it;refine aLZ (fun k=>((k:Int),(t.2,(t.1,0)))) t.1.length (by have:=h.n;omega) (fun k hk=> ?_) ?_
  ·unfold mcop_l0;obtain⟨n,hg⟩:∃n,t.1[k]? =some n:=⟨_,ZAE hk⟩;have hsm:=h.at hg;have hs:t.1.set k n=t.1:=hHZ hg;simp only[a8Z hk,ZAF];rw[ajZ hk];simp only[ZAA,hg];rw[dQZ hsm.1,ZAA,eiZ hsm.2,ZAA];show((idx? ((k:Nat):Int) (t.1.set k n).length).bind fun q3=>((t.1.set k n)[q3]?.bind _))=_;rw[hs,ajZ hk,ZAA,hg,ZAA,w64 (by have:=h.n;omega)];show some (Sum.inl (_,(t.2,(t.1.set k n,0))))=_;rw[hs]
   rfl
  ·unfold mcop_l0;simp only[arZ (ZAq _),ZAC]
 rw[loop,ZAA]
theorem hJZ{l:Byt}(h:l.length<=100000):sClo4 fuel l=some l:=by
 unfold sClo4;rw[cQZ]
 ·simp only[ZAC];rw[abZ (by simp only[ZAD,ZAu,bcZ];omega)]
 ·intro h0;obtain rfl:=ZAR h0
  rfl
theorem iEZ{l:List Byt}(h:l.length<=100000):sClo5 fuel l=some l:=by
 unfold sClo5;rw[cQZ]
 ·simp only[ZAC];rw[abZ (by simp only[ZAD,ZAu,bcZ];omega)]
 ·intro h0;obtain rfl:=ZAR h0
  rfl
end Go.Ab.D
namespace Go.Ab.D
open Go Go.Ab
abbrev Rep:=(Int×Int)×Bool×Int×Byt×List Ent×Bool×Int
abbrev DoR:=Int×Mod×Rep
def rep0:Rep:=((0,0),false,0,[],[],false,0)
def stO(q:DoR)(c:CallT):Int×(List Ino×(Int×(List Byt×(Int×(Int×(Int×(Int×(Int×(Byt×(Int×(Int×(Byt×(Int×(Int×(Byt×(Int×(Int×(Int×(Int×(Int×(Bool×(Int×(Bool×Int))))))))))))))))))))))):=(q.1,(q.2.1.1.1,(q.2.1.1.2,(q.2.1.2,(c.1,(c.2.1,(((c.2.2.1.toNat:Nat):Int),(c.2.2.2.1.1,(c.2.2.2.1.2,(c.2.2.2.2.1,(c.2.2.2.2.2.1.1,(c.2.2.2.2.2.1.2,(c.2.2.2.2.2.2.1,(c.2.2.2.2.2.2.2.1,(c.2.2.2.2.2.2.2.2.1,(c.2.2.2.2.2.2.2.2.2,(c.1,(c.2.1,(0,(q.2.2.1.1,(q.2.2.1.2,(q.2.2.2.1,(q.2.2.2.2.1,(q.2.2.2.2.2.2.2.1,q.2.2.2.2.2.2.2.2))))))))))))))))))))))))
def stB(q:DoR)(c:CallT):Int×(List Ino×(Int×(List Byt×(Int×(Int×(Int×(Int×(Int×(Byt×(Int×(Int×(Byt×(Int×(Int×(Byt×(Int×(Int×(Int×(Int×(Int×(Bool×(Int×(Byt×(Bool×Int)))))))))))))))))))))))):=(q.1,(q.2.1.1.1,(q.2.1.1.2,(q.2.1.2,(c.1,(c.2.1,(((c.2.2.1.toNat:Nat):Int),(c.2.2.2.1.1,(c.2.2.2.1.2,(c.2.2.2.2.1,(c.2.2.2.2.2.1.1,(c.2.2.2.2.2.1.2,(c.2.2.2.2.2.2.1,(c.2.2.2.2.2.2.2.1,(c.2.2.2.2.2.2.2.2.1,(c.2.2.2.2.2.2.2.2.2,(c.1,(c.2.1,(0,(q.2.2.1.1,(q.2.2.1.2,(q.2.2.2.1,(q.2.2.2.2.1,(q.2.2.2.2.2.1,(q.2.2.2.2.2.2.2.1,q.2.2.2.2.2.2.2.2)))))))))))))))))))))))))
def stE(q:DoR)(c:CallT):Int×(List Ino×(Int×(List Byt×(Int×(Int×(Int×(Int×(Int×(Byt×(Int×(Int×(Byt×(Int×(Int×(Byt×(Int×(Int×(Int×(Int×(Int×(Bool×(Int×(List Ent×(Bool×Int)))))))))))))))))))))))):=(q.1,(q.2.1.1.1,(q.2.1.1.2,(q.2.1.2,(c.1,(c.2.1,(((c.2.2.1.toNat:Nat):Int),(c.2.2.2.1.1,(c.2.2.2.1.2,(c.2.2.2.2.1,(c.2.2.2.2.2.1.1,(c.2.2.2.2.2.1.2,(c.2.2.2.2.2.2.1,(c.2.2.2.2.2.2.2.1,(c.2.2.2.2.2.2.2.2.1,(c.2.2.2.2.2.2.2.2.2,(c.1,(c.2.1,(0,(q.2.2.1.1,(q.2.2.1.2,(q.2.2.2.1,(q.2.2.2.2.1,(q.2.2.2.2.2.2.1,(q.2.2.2.2.2.2.2.1,q.2.2.2.2.2.2.2.2)))))))))))))))))))))))))
def lookF(t:Tree)(d:Int×Int)(s:Byt):Int×(Int×Int):=
 if dirE t.1 d=0 then
  if namedB s=true then
   match t.1[(d.1-1).toNat]? with
   |none=>(170,(0,0))
   |some n=>match findE n.2.2.2.2.2.2.2 s with
    |none=>(171,(0,0))
    |some id=>match t.1[(id-1).toNat]? with
     |none=>(170,(0,0))
     |some x=>(0,(id,x.2.1))
  else(176,(0,0))
 else(dirE t.1 d,(0,0))
theorem mjZ{t:Tree}(h:TreeOK t)(d:Int×Int)(s:Byt):tLoo fuel t d s=some ((lookF t d s).2.1,((lookF t d s).2.2,(lookF t d s).1))/\((lookF t d s).1=0->1<=(lookF t d s).2.1/\(lookF t d s).2.1<=t.1.length/\∃x,t.1[((lookF t d s).2.1-1).toNat]? =some x):=by
 unfold lookF;rcases boZ t.1 d with⟨n,hn⟩|⟨hb,_⟩
 ·rw[ZAO (b8Z hn),hn.1.2.1];simp only;cases hs:namedB s with
  |false=>rw[ZAM (by simp)];exact⟨jrZ h hn hs,fun h0=>by cases h0⟩
  |true=>
   rw[ZAO rfl];cases hh:hasN n.2.2.2.2.2.2.2 s with
   |false=>rw[diZ hh];exact⟨kcZ h hn hs hh,fun h0=>by cases h0⟩
   |true=>
    obtain⟨id,he⟩:=a7Z.1 hh;obtain⟨_,q1,q2,x,hx,hu,_⟩:=h.ent hn he;rw[cZZ (h.srt hn.1) he];simp only[hx];exact⟨jJZ h hn he hx,fun _=>⟨by omega,q2,x,rfl⟩⟩
 ·rw[ZAM hb];exact⟨l7Z h s hb,fun h0=>absurd h0 hb⟩
def getF(l:List Ino)(h:Int×Int):Option Ino:=
 if 1<=h.1 then match l[(h.1-1).toNat]? with
  |some n=>if n.2.2.1=true/\n.2.1=h.2 then some n else none
  |none=>none
 else none
theorem cNZ{l:List Ino}{h:Int×Int}{n:Ino}:getF l h=some n↔IsH l h n:=by
 unfold getF IsH;by_cases h1:1<=h.1
 ·rw[ZAO h1];cases hx:l[(h.1-1).toNat]? with
  |none=>simp
  |some x=>
   simp only;by_cases hc:x.2.2.1=true/\x.2.1=h.2
   ·rw[ZAO hc];constructor
    ·rintro⟨⟩;exact⟨h1,rfl,hc.1,hc.2⟩
    ·rintro⟨_,⟨⟩,_,_⟩;rfl
   ·rw[ZAM hc];constructor
    ·intro h;cases h
    ·rintro⟨_,⟨⟩,h2,h3⟩;exact absurd ⟨h2,h3⟩ hc
 ·rw[ZAM h1];constructor
  ·intro h;cases h
  ·rintro⟨h2,_⟩;exact absurd h2 h1
theorem iqZ{l:List Ino}{h:Int×Int}(hn:getF l h=none):¬∃n,IsH l h n:=fun⟨n,h1⟩=>by rw[cNZ.2 h1] at hn;cases hn
theorem kxZ{t:Tree}(ht:TreeOK t){h:Int×Int}{n:Ino}(hn:IsH t.1 h n):n.1=h.1/\1<=h.1/\(h.1-1).toNat<t.1.length:=by
 have h1:=ht.r.id hn.2.1;have h2:=hn.1;exact⟨by omega,h2,(ZAB.1 hn.2.1).1⟩
def listF(t:Tree)(d:Int×Int)(s:Byt)(most:Int):Int×Bool×List Ent:=
 if dirE t.1 d=0 then
  if most<0\/most>4096 then(2,false,[])
  else match t.1[(d.1-1).toNat]? with
   |none=>(170,false,[])
   |some n=>(0,decide ((behind n.2.2.2.2.2.2.2 s).length>most.toNat),(behind n.2.2.2.2.2.2.2 s).take most.toNat)
 else(dirE t.1 d,false,[])
theorem p6Z{t:Tree}(h:TreeOK t)(d:Int×Int)(s:Byt)(most:Int):tree_List fuel t d s most=some ((listF t d s most).2.1,((listF t d s most).1,(listF t d s most).2.2)):=by
 unfold listF;rcases boZ t.1 d with⟨n,hn⟩|⟨hb,_⟩
 ·rw[ZAO (b8Z hn)];by_cases hm:most<0\/most>4096
  ·rw[ZAO hm];exact o3Z h s hn hm
  ·rw[ZAM hm,hn.1.2.1];have:=nDZ h s (most:=most.toNat) hn (by omega);rw[show((most.toNat:Nat):Int)=most by omega] at this;exact this
 ·rw[ZAM hb];exact ouZ h s most hb
def lookA(m:Mod)(c:CallT):DoR:=
 if(lookF m.1 c.2.2.2.1 c.2.2.2.2.1).1=0 then match m.1.1[((lookF m.1 c.2.2.2.1 c.2.2.2.2.1).2.1-1).toNat]? with
  |some x=>(0,m,((lookF m.1 c.2.2.2.1 c.2.2.2.2.1).2,x.2.2.2.1,x.2.2.2.2.1,[],[],false,0))
  |none=>(170,m,rep0)
 else((lookF m.1 c.2.2.2.1 c.2.2.2.2.1).1,m,rep0)
def makeA(m:Mod)(c:CallT):DoR:=
 if(makeF m.1 c.2.2.2.1 c.2.2.2.2.1 (((c.2.2.1.toNat:Nat):Int)==3)).2.2=0 then
  (0,((makeF m.1 c.2.2.2.1 c.2.2.2.2.1 (((c.2.2.1.toNat:Nat):Int)==3)).1,m.2),((makeF m.1 c.2.2.2.1 c.2.2.2.2.1 (((c.2.2.1.toNat:Nat):Int)==3)).2.1,(((c.2.2.1.toNat:Nat):Int)==3),0,[],[],false,0))
 else((makeF m.1 c.2.2.2.1 c.2.2.2.2.1 (((c.2.2.1.toNat:Nat):Int)==3)).2.2,m,rep0)
def removeA(m:Mod)(c:CallT):DoR:=
 if(removeF m.1 c.2.2.2.1 c.2.2.2.2.1 (((c.2.2.1.toNat:Nat):Int)==8)).2.2=0 then
  (0,((removeF m.1 c.2.2.2.1 c.2.2.2.2.1 (((c.2.2.1.toNat:Nat):Int)==8)).1,m.2),rep0)
 else((removeF m.1 c.2.2.2.1 c.2.2.2.2.1 (((c.2.2.1.toNat:Nat):Int)==8)).2.2,m,rep0)
def renameA(m:Mod)(c:CallT):DoR:=
 if(renameF m.1 c.2.2.2.1 c.2.2.2.2.1 c.2.2.2.2.2.1 c.2.2.2.2.2.2.1).2.2=0 then
  (0,((renameF m.1 c.2.2.2.1 c.2.2.2.2.1 c.2.2.2.2.2.1 c.2.2.2.2.2.2.1).1,m.2),rep0)
 else((renameF m.1 c.2.2.2.1 c.2.2.2.2.1 c.2.2.2.2.2.1 c.2.2.2.2.2.2.1).2.2,m,rep0)
def listA(m:Mod)(c:CallT):DoR:=
 ((listF m.1 c.2.2.2.1 c.2.2.2.2.1 c.2.2.2.2.2.2.2.2.1).1,m,((0,0),false,0,[],(listF m.1 c.2.2.2.1 c.2.2.2.2.1 c.2.2.2.2.2.2.2.2.1).2.2,(listF m.1 c.2.2.2.1 c.2.2.2.2.1 c.2.2.2.2.2.2.2.2.1).2.1,0))
def getA(m:Mod)(c:CallT):DoR:=
 match getF m.1.1 c.2.2.2.1 with
 |some x=>(0,m,(c.2.2.2.1,x.2.2.2.1,x.2.2.2.2.1,[],[],false,0))
 |none=>(170,m,rep0)
def usedN(l:List Ino):Nat:=l.countP (·.2.2.1)
def statA(m:Mod):DoR:=(0,m,((0,0),false,0,[],[],false,500-((usedN m.1.1:Nat):Int)))
theorem oiZ{m:Mod}(h:ModelOK m)(c:CallT):mdoeloo fuel m.1.1 m.1.2 m.2 c.1 c.2.1 ((c.2.2.1.toNat:Nat):Int) c.2.2.2.1.1 c.2.2.2.1.2 c.2.2.2.2.1 c.2.2.2.2.2.1.1 c.2.2.2.2.2.1.2 c.2.2.2.2.2.2.1 c.2.2.2.2.2.2.2.1 c.2.2.2.2.2.2.2.2.1 c.2.2.2.2.2.2.2.2.2 c.1 c.2.1 0 0 0 false 0 false 0=some (stO (lookA m c) c):=by
 unfold mdoeloo lookA;obtain⟨h1,h2⟩:=mjZ h.t c.2.2.2.1 c.2.2.2.2.1;rw[show((m.1.1,m.1.2):Tree)=m.1 from rfl,show((c.2.2.2.1.1,c.2.2.2.1.2):Int×Int)=c.2.2.2.1 from rfl,h1,ZAA];simp only;by_cases h0:(lookF m.1 c.2.2.2.1 c.2.2.2.2.1).1=0
 ·obtain⟨q1,q2,x,hx⟩:=h2 h0;have hl:=h.len;rw[ZAO h0,h0,show((0:Int)==0)=true from rfl];simp only[ZAF];rw[w64 (by omega),avZ (by omega) (by omega),ZAA,hx,ZAA]
  rfl
 ·rw[ZAM h0,ZAb.2 h0]
  rfl
theorem poZ{m:Mod}(h:ModelOK m)(c:CallT):mdoemak fuel m.1.1 m.1.2 m.2 c.1 c.2.1 ((c.2.2.1.toNat:Nat):Int) c.2.2.2.1.1 c.2.2.2.1.2 c.2.2.2.2.1 c.2.2.2.2.2.1.1 c.2.2.2.2.2.1.2 c.2.2.2.2.2.2.1 c.2.2.2.2.2.2.2.1 c.2.2.2.2.2.2.2.2.1 c.2.2.2.2.2.2.2.2.2 c.1 c.2.1 0 0 0 false 0 false 0=some (stO (makeA m c) c):=by
 unfold mdoemak makeA;rw[show((m.1.1,m.1.2):Tree)=m.1 from rfl,show((c.2.2.2.1.1,c.2.2.2.1.2):Int×Int)=c.2.2.2.1 from rfl,(m0Z h.t c.2.2.2.1 c.2.2.2.2.1 _).1,ZAA];simp only;by_cases h0:(makeF m.1 c.2.2.2.1 c.2.2.2.2.1 (((c.2.2.1.toNat:Nat):Int)==3)).2.2=0
 ·rw[ZAO h0,h0];rfl
 ·rw[ZAM h0,ZAb.2 h0];rfl
theorem kOZ{m:Mod}(h:ModelOK m)(c:CallT):mdoerem fuel m.1.1 m.1.2 m.2 c.1 c.2.1 ((c.2.2.1.toNat:Nat):Int) c.2.2.2.1.1 c.2.2.2.1.2 c.2.2.2.2.1 c.2.2.2.2.2.1.1 c.2.2.2.2.2.1.2 c.2.2.2.2.2.2.1 c.2.2.2.2.2.2.2.1 c.2.2.2.2.2.2.2.2.1 c.2.2.2.2.2.2.2.2.2 c.1 c.2.1 0 0 0 false 0 false 0=some (stO (removeA m c) c):=by
 unfold mdoerem removeA;rw[show((m.1.1,m.1.2):Tree)=m.1 from rfl,show((c.2.2.2.1.1,c.2.2.2.1.2):Int×Int)=c.2.2.2.1 from rfl,(ifZ h.t c.2.2.2.1 c.2.2.2.2.1 _).1,ZAA];simp only;by_cases h0:(removeF m.1 c.2.2.2.1 c.2.2.2.2.1 (((c.2.2.1.toNat:Nat):Int)==8)).2.2=0
 ·rw[ZAO h0,h0];rfl
 ·rw[ZAM h0,ZAb.2 h0];rfl
theorem oSZ{m:Mod}(h:ModelOK m)(c:CallT):mdoeren fuel m.1.1 m.1.2 m.2 c.1 c.2.1 ((c.2.2.1.toNat:Nat):Int) c.2.2.2.1.1 c.2.2.2.1.2 c.2.2.2.2.1 c.2.2.2.2.2.1.1 c.2.2.2.2.2.1.2 c.2.2.2.2.2.2.1 c.2.2.2.2.2.2.2.1 c.2.2.2.2.2.2.2.2.1 c.2.2.2.2.2.2.2.2.2 c.1 c.2.1 0 0 0 false 0 false 0=some (stO (renameA m c) c):=by
 unfold mdoeren renameA;rw[show((m.1.1,m.1.2):Tree)=m.1 from rfl,show((c.2.2.2.1.1,c.2.2.2.1.2):Int×Int)=c.2.2.2.1 from rfl,show((c.2.2.2.2.2.1.1,c.2.2.2.2.2.1.2):Int×Int)=c.2.2.2.2.2.1 from rfl,(iWZ h.t _ _ _ _).1,ZAA];simp only;by_cases h0:(renameF m.1 c.2.2.2.1 c.2.2.2.2.1 c.2.2.2.2.2.1 c.2.2.2.2.2.2.1).2.2=0
 ·rw[ZAO h0,h0];rfl
 ·rw[ZAM h0,ZAb.2 h0];rfl
theorem qQZ{m:Mod}(h:ModelOK m)(c:CallT):mdoelis fuel m.1.1 m.1.2 m.2 c.1 c.2.1 ((c.2.2.1.toNat:Nat):Int) c.2.2.2.1.1 c.2.2.2.1.2 c.2.2.2.2.1 c.2.2.2.2.2.1.1 c.2.2.2.2.2.1.2 c.2.2.2.2.2.2.1 c.2.2.2.2.2.2.2.1 c.2.2.2.2.2.2.2.2.1 c.2.2.2.2.2.2.2.2.2 c.1 c.2.1 0 0 0 false 0 false 0=some (stE (listA m c) c):=by
 unfold mdoelis listA;rw[show((m.1.1,m.1.2):Tree)=m.1 from rfl,show((c.2.2.2.1.1,c.2.2.2.1.2):Int×Int)=c.2.2.2.1 from rfl,p6Z h.t,ZAA]
 rfl
theorem rlZ{m:Mod}(h:ModelOK m)(c:CallT):mdoeget fuel m.1.1 m.1.2 m.2 c.1 c.2.1 ((c.2.2.1.toNat:Nat):Int) c.2.2.2.1.1 c.2.2.2.1.2 c.2.2.2.2.1 c.2.2.2.2.2.1.1 c.2.2.2.2.2.1.2 c.2.2.2.2.2.2.1 c.2.2.2.2.2.2.2.1 c.2.2.2.2.2.2.2.2.1 c.2.2.2.2.2.2.2.2.2 c.1 c.2.1 0 0 0 false 0 false 0=some (stO (getA m c) c):=by
 unfold mdoeget getA;rw[show((m.1.1,m.1.2):Tree)=m.1 from rfl,show((c.2.2.2.1.1,c.2.2.2.1.2):Int×Int)=c.2.2.2.1 from rfl];cases hg:getF m.1.1 c.2.2.2.1 with
 |none=>rw[h0Z h.fit (iqZ hg),ZAA];rfl
 |some x=>rw[eVZ h.fit (cNZ.1 hg),ZAA];rfl
end Go.Ab.D
namespace Go.Ab.D
open Go Go.Ab
def fileF(m:Mod)(h:Int×Int):Int×Byt×Int:=
 match getF m.1.1 h with
 |none=>(0,[],170)
 |some x=>bif x.2.2.2.1 then(0,[],174) else match m.2[(h.1-1).toNat]? with
  |some b=>(h.1,b,0)
  |none=>(0,[],170)
abbrev stF(q:Int×Byt×Int)(m:Mod)(c:CallT):Int×(Byt×(Int×(List Ino×(Int×(List Byt×(Int×(Int×(Int×(Int×(Int×(Byt×(Int×(Int×(Byt×(Int×(Int×(Byt×(Int×(Int×(Int×(Int×(Int×(Bool×(Int×(Bool×Int))))))))))))))))))))))))):=(q.1,(q.2.1,(q.2.2,(m.1.1,(m.1.2,(m.2,(c.1,(c.2.1,(((c.2.2.1.toNat:Nat):Int),(c.2.2.2.1.1,(c.2.2.2.1.2,(c.2.2.2.2.1,(c.2.2.2.2.2.1.1,(c.2.2.2.2.2.1.2,(c.2.2.2.2.2.2.1,(c.2.2.2.2.2.2.2.1,(c.2.2.2.2.2.2.2.2.1,(c.2.2.2.2.2.2.2.2.2,(c.1,(c.2.1,(0,(0,(0,(false,(0,(false,0))))))))))))))))))))))))))
def IsF(m:Mod)(h:Int×Int)(x:Ino)(b:Byt):Prop:=IsH m.1.1 h x/\x.2.2.2.1=false/\m.2[(h.1-1).toNat]? =some b
theorem bfZ{m:Mod}{h:Int×Int}(h0:(fileF m h).2.2=0):∃x,IsF m h x (fileF m h).2.1/\(fileF m h).1=h.1:=by
 unfold fileF at h0⊢;cases hg:getF m.1.1 h with
 |none=>rw[hg] at h0;cases h0
 |some x=>
  rw[hg] at h0;simp only at h0⊢;cases hd:x.2.2.2.1 with
  |true=>rw[hd] at h0;cases h0
  |false=>
   rw[hd] at h0;simp only[ZAC] at h0⊢;cases hb:m.2[(h.1-1).toNat]? with
   |none=>rw[hb] at h0;cases h0
   |some b=>exact⟨x,⟨cNZ.1 hg,hd,hb⟩,rfl⟩
theorem msZ{m:Mod}(h:ModelOK m)(c:CallT):mdoefil fuel m.1.1 m.1.2 m.2 c.1 c.2.1 ((c.2.2.1.toNat:Nat):Int) c.2.2.2.1.1 c.2.2.2.1.2 c.2.2.2.2.1 c.2.2.2.2.2.1.1 c.2.2.2.2.2.1.2 c.2.2.2.2.2.2.1 c.2.2.2.2.2.2.2.1 c.2.2.2.2.2.2.2.2.1 c.2.2.2.2.2.2.2.2.2 c.1 c.2.1 0 0 0 false 0 false 0=some (stF (fileF m c.2.2.2.1) m c):=by
 unfold mdoefil fileF;rw[show((m.1.1,m.1.2):Tree)=m.1 from rfl,show((c.2.2.2.1.1,c.2.2.2.1.2):Int×Int)=c.2.2.2.1 from rfl];cases hg:getF m.1.1 c.2.2.2.1 with
 |none=>rw[h0Z h.fit (iqZ hg),ZAA];rfl
 |some x=>
  have hx:=cNZ.1 hg;obtain⟨q1,q2,q3⟩:=kxZ h.t hx;rw[eVZ h.fit hx,ZAA];simp only[ZAP,ZAJ,ZAC];cases hd:x.2.2.2.1 with
  |true=>rfl
  |false=>
   simp only[ZAC];have hl:=h.len;obtain⟨b,hb,_⟩:=h.at hx.2.1;rw[q1,w64 (by omega),avZ (by omega) (by rw[h.n];omega),ZAA,hb,ZAA]
def readL(b:Byt)(off n:Int):Byt:=(b.take (max (min off.toNat b.length) (min (off+n).toNat b.length))).drop (min off.toNat b.length)
def readA(m:Mod)(c:CallT):DoR:=
 if(fileF m c.2.2.2.1).2.2=0 then
  (0,m,((0,0),false,(((fileF m c.2.2.2.1).2.1.length:Nat):Int),readL (fileF m c.2.2.2.1).2.1 c.2.2.2.2.2.2.2.1 c.2.2.2.2.2.2.2.2.1,[],decide (c.2.2.2.2.2.2.2.1+c.2.2.2.2.2.2.2.2.1<(((fileF m c.2.2.2.1).2.1.length:Nat):Int)),0))
 else((fileF m c.2.2.2.1).2.2,m,rep0)
theorem q4Z{m:Mod}(h:ModelOK m)(c:CallT)(ho:0<=c.2.2.2.2.2.2.2.1/\c.2.2.2.2.2.2.2.1<=2147483648)(hn:0<=c.2.2.2.2.2.2.2.2.1/\c.2.2.2.2.2.2.2.2.1<=2147483648):
 mdoerea fuel m.1.1 m.1.2 m.2 c.1 c.2.1 ((c.2.2.1.toNat:Nat):Int) c.2.2.2.1.1 c.2.2.2.1.2 c.2.2.2.2.1 c.2.2.2.2.2.1.1 c.2.2.2.2.2.1.2 c.2.2.2.2.2.2.1 c.2.2.2.2.2.2.2.1 c.2.2.2.2.2.2.2.2.1 c.2.2.2.2.2.2.2.2.2 c.1 c.2.1 0 0 0 false 0 false 0=some (stB (readA m c) c):=by
 unfold mdoerea readA;rw[msZ h c,ZAA];by_cases h0:(fileF m c.2.2.2.1).2.2=0
 ·rw[ZAO h0];obtain⟨x,hx,hid⟩:=bfZ h0;have hbl:=h.byt hx.2.2;simp only[stF];rw[h0];simp only[ZAP,ZAJ,ZAC];rw[w64 (by omega)];rw[show(if(((fileF m c.2.2.2.1).2.1.length:Nat):Int)<c.2.2.2.2.2.2.2.1+c.2.2.2.2.2.2.2.2.1 then(((fileF m c.2.2.2.1).2.1.length:Nat):Int) else c.2.2.2.2.2.2.2.1+c.2.2.2.2.2.2.2.2.1)=((min (c.2.2.2.2.2.2.2.1+c.2.2.2.2.2.2.2.2.1).toNat (fileF m c.2.2.2.1).2.1.length:Nat):Int) from by split<;>omega,
   show(if(((fileF m c.2.2.2.1).2.1.length:Nat):Int)<c.2.2.2.2.2.2.2.1 then(((fileF m c.2.2.2.1).2.1.length:Nat):Int) else c.2.2.2.2.2.2.2.1)=((min c.2.2.2.2.2.2.2.1.toNat (fileF m c.2.2.2.1).2.1.length:Nat):Int) from by split<;>omega]
  rw[show(if((min (c.2.2.2.2.2.2.2.1+c.2.2.2.2.2.2.2.2.1).toNat (fileF m c.2.2.2.1).2.1.length:Nat):Int)>((min c.2.2.2.2.2.2.2.1.toNat (fileF m c.2.2.2.1).2.1.length:Nat):Int) then((min (c.2.2.2.2.2.2.2.1+c.2.2.2.2.2.2.2.2.1).toNat (fileF m c.2.2.2.1).2.1.length:Nat):Int) else((min c.2.2.2.2.2.2.2.1.toNat (fileF m c.2.2.2.1).2.1.length:Nat):Int))=((max (min c.2.2.2.2.2.2.2.1.toNat (fileF m c.2.2.2.1).2.1.length) (min (c.2.2.2.2.2.2.2.1+c.2.2.2.2.2.2.2.2.1).toNat (fileF m c.2.2.2.1).2.1.length):Nat):Int) from by split<;>omega];rw[aJZ (by omega),ZAA,aJZ (by omega),ZAA,hJZ (by rw[ZAy,ZAW];omega),ZAA]
  rfl
 ·rw[ZAM h0];simp only[stF,ZAb.2 h0,ZAe,ZAF]
  rfl
def sizedL(b:Byt)(n:Nat):Byt:=b.take n++List.replicate (n-b.length) 0
theorem bbZ(b:Byt)(n:Nat):(sizedL b n).length=n:=by unfold sizedL;simp;omega
theorem mGZ(b:Byt)(n:Nat):splice (List.replicate (α:=UInt8) n 0) 0 (List.take (List.replicate (α:=UInt8) n 0).length b)=sizedL b n:=by
 unfold splice sizedL;simp only[ZBw,List.take_zero,ZBI,ZAm,List.drop_replicate,ZAW];congr 2;omega
def setSize(l:List Ino)(h:Int×Int)(n:Int):List Ino:=
 match l[(h.1-1).toNat]? with
 |some x=>l.set (h.1-1).toNat (x.1,x.2.1,x.2.2.1,x.2.2.2.1,n,x.2.2.2.2.2)
 |none=>l
def putB(m:Mod)(h:Int×Int)(b:Byt):Mod:=((setSize m.1.1 h ((b.length:Nat):Int),m.1.2),m.2.set (h.1-1).toNat b)
def sizeA(m:Mod)(c:CallT):DoR:=
 if(fileF m c.2.2.2.1).2.2=0 then
  if c.2.2.2.2.2.2.2.2.1>65536 then(177,m,rep0)
  else(0,putB m c.2.2.2.1 (sizedL (fileF m c.2.2.2.1).2.1 c.2.2.2.2.2.2.2.2.1.toNat),(c.2.2.2.1,false,c.2.2.2.2.2.2.2.2.1,[],[],false,0))
 else((fileF m c.2.2.2.1).2.2,m,rep0)
theorem qUZ{m:Mod}(h:ModelOK m)(c:CallT)(hn:0<=c.2.2.2.2.2.2.2.2.1):
 mdoesiz fuel m.1.1 m.1.2 m.2 c.1 c.2.1 ((c.2.2.1.toNat:Nat):Int) c.2.2.2.1.1 c.2.2.2.1.2 c.2.2.2.2.1 c.2.2.2.2.2.1.1 c.2.2.2.2.2.1.2 c.2.2.2.2.2.2.1 c.2.2.2.2.2.2.2.1 c.2.2.2.2.2.2.2.2.1 c.2.2.2.2.2.2.2.2.2 c.1 c.2.1 0 0 0 false 0 false 0=some (stO (sizeA m c) c):=by
 unfold mdoesiz sizeA;rw[msZ h c,ZAA];by_cases h0:(fileF m c.2.2.2.1).2.2=0
 ·rw[ZAO h0];obtain⟨x,hx,hid⟩:=bfZ h0;have hbl:=h.byt hx.2.2;have hl:=h.len;obtain⟨q1,q2,q3⟩:=kxZ h.t hx.1;simp only[stF];rw[h0];simp only[ZAP,ZAJ,ZAC];by_cases hb:c.2.2.2.2.2.2.2.2.1>65536
  ·rw[ZAO hb,ZAS hb];rfl
  ·rw[ZAM hb,ZAL hb];simp only[ZAC];unfold mdoesiz2;rw[hid,kyZ hn (by rw[bcZ];omega),ZAA,kyZ hn (by omega),ZAA,abZ (by rw[ZAu,bcZ];omega),w64 (by omega),avZ (by omega) (by rw[h.n];omega),ZAA,hx.2.2,ZAA,
    iEZ (by rw[h.n];omega),ZAA,avZ (by omega) (by rw[h.n];omega),ZAA,hx.2.2,ZAA,show((m.1.1,m.1.2):Tree)=m.1 from rfl,daZ h.fit,ZAA]
   simp only;rw[avZ (by omega) (by omega),ZAA,hx.1.2.1,ZAA,ZAA,mGZ];simp only[stO,putB,setSize,hx.1.2.1,bbZ];rw[show((c.2.2.2.2.2.2.2.2.1.toNat:Nat):Int)=c.2.2.2.2.2.2.2.2.1 by omega]
 ·rw[ZAM h0];simp only[stF,ZAb.2 h0,ZAe,ZAF]
  rfl
def writeN(b:Byt)(off:Int)(bs:Byt):Nat:=max b.length (if bs.length=0 then 0 else off.toNat+bs.length)
def writeL(b:Byt)(off:Int)(bs:Byt):Byt:=splice (sizedL b (writeN b off bs)) (min off.toNat (writeN b off bs)) bs
def writeA(m:Mod)(c:CallT):DoR:=
 if(fileF m c.2.2.2.1).2.2=0 then
  if c.2.2.2.2.2.2.2.1+((c.2.2.2.2.2.2.2.2.2.length:Nat):Int)>65536 then(177,m,rep0)
  else(0,putB m c.2.2.2.1 (writeL (fileF m c.2.2.2.1).2.1 c.2.2.2.2.2.2.2.1 c.2.2.2.2.2.2.2.2.2),(c.2.2.2.1,false,((writeN (fileF m c.2.2.2.1).2.1 c.2.2.2.2.2.2.2.1 c.2.2.2.2.2.2.2.2.2:Nat):Int),[],[],false,0))
 else((fileF m c.2.2.2.1).2.2,m,rep0)
theorem cuZ(b:Byt)(off:Int)(bs:Byt):(writeL b off bs).length=writeN b off bs:=by
 unfold writeL splice;rw[ZAi,ZAi,ZAW,ZAy,bbZ];unfold writeN;by_cases h:bs.length=0
 ·rw[ZAO h];omega
 ·rw[ZAM h];omega
theorem gxZ(g:(Byt⊕Option (Nat×(Nat×Nat)))->Option Byt)(hg:∀b,g (.inl b)=some b)(y:Byt⊕Option (Nat×(Nat×Nat)))(v:Byt)(hy:g y=some v):∀(l:List Byt) (i:Nat),i<l.length->unrefL g ((l.map Sum.inl).set i y)=some (l.set i v)
 |[],i,h=>by simp at h
 |a::l,0,_=>by
  have e:unrefL g (l.map Sum.inl)=some l:=by
   induction l with
   |nil=>rfl
   |cons x l ih=>simp[unrefL,hg,ih]
  simp[unrefL,hy,e]
 |a::l,i+1,h=>by
  have:=gxZ g hg y v hy l i (by simpa using h);simp[unrefL,hg,this]
end Go.Ab.D
namespace Go.Ab.D
open Go Go.Ab
theorem kUZ(l:Byt)(k:Nat):splice l k []=l:=by unfold splice;simp
theorem o2Z(out bs:Byt)(q:Nat)(hq:q<=out.length)(hb:bs=[]\/q+bs.length<=out.length):
 ∃k,refPut (α:=UInt8) [(1,out)] (refSub (α:=UInt8) (.inr (some (0,(0,out.length)))) q (out.length-q)) bs=some ([(1,splice out q bs)],k):=by
 unfold refSub;by_cases h0:out.length-q=0
 ·have hbs:bs=[]:=by
   rcases hb with h|h
   ·exact h
   ·exact ZAR (by omega)
  subst hbs;rw[h0,kUZ];exact⟨0,rfl⟩
 ·rw[show Nat.beq (out.length-q) 0=false from aiZ h0];simp only[bq_false];unfold refPut;simp only[ZAt,ZAA];rw[abZ (by simp[Nat.beq_refl];omega)];have:bs.take (out.length-q)=bs:=ZAs (by
   rcases hb with h|h
   ·simp[h]
   ·omega)
  rw[this,ZAm];exact⟨_,rfl⟩
theorem omZ(w:Byt)(n:Nat)(hn:n=w.length):unrefD [⟨3,.byte,List.map frz1 [(1,w)]⟩] (.ref 3 .byte) (.inr (some (0,(0,n))))=some w:=by
 subst hn;show memb [(2,w)] 0 0 w.length=some w;unfold memb;simp only[ZAt,ZAm,ZBY,ZA7];rw[ciZ (ZAK w.length)]
 rfl
theorem pEZ{m:Mod}(h:ModelOK m)(c:CallT)(ho:0<=c.2.2.2.2.2.2.2.1/\c.2.2.2.2.2.2.2.1<=2147483648)(hbs:c.2.2.2.2.2.2.2.2.2.length<=4096):
 mdoewri fuel m.1.1 m.1.2 m.2 c.1 c.2.1 ((c.2.2.1.toNat:Nat):Int) c.2.2.2.1.1 c.2.2.2.1.2 c.2.2.2.2.1 c.2.2.2.2.2.1.1 c.2.2.2.2.2.1.2 c.2.2.2.2.2.2.1 c.2.2.2.2.2.2.2.1 c.2.2.2.2.2.2.2.2.1 c.2.2.2.2.2.2.2.2.2 c.1 c.2.1 0 0 0 false 0 false 0=some (stO (writeA m c) c):=by
 unfold mdoewri writeA;rw[msZ h c,ZAA];by_cases h0:(fileF m c.2.2.2.1).2.2=0
 ·rw[ZAO h0];obtain⟨x,hx,hid⟩:=bfZ h0;have hbl:=h.byt hx.2.2;have hl:=h.len;obtain⟨q1,q2,q3⟩:=kxZ h.t hx.1;simp only[stF];rw[h0,hid];simp only[ZAP,ZAJ,ZAC];have hx2:=hx.2.2;generalize (fileF m c.2.2.2.1).2.1=b at hbl hx2⊢;rw[w64 (by omega)];by_cases hb:c.2.2.2.2.2.2.2.1+((c.2.2.2.2.2.2.2.2.2.length:Nat):Int)>65536
  ·rw[ZAO hb,ZAS hb];rfl
  ·rw[ZAM hb,ZAL hb];simp only[ZAC];have hN:writeN b c.2.2.2.2.2.2.2.1 c.2.2.2.2.2.2.2.2.2<=65536:=by unfold writeN;split<;>omega
   have key:∀(e:Int),(if e>((b.length:Nat):Int) then e else((b.length:Nat):Int))=((writeN b c.2.2.2.2.2.2.2.1 c.2.2.2.2.2.2.2.2.2:Nat):Int)->
    ((mdoesizW fuel c.2.2.2.1.1 (if e>((b.length:Nat):Int) then e else((b.length:Nat):Int)) m.1.1 m.1.2 m.2 c.1 c.2.1 ((c.2.2.1.toNat:Nat):Int) c.2.2.2.1.1 c.2.2.2.1.2 c.2.2.2.2.1 c.2.2.2.2.2.1.1 c.2.2.2.2.2.1.2 c.2.2.2.2.2.2.1 c.2.2.2.2.2.2.2.1 c.2.2.2.2.2.2.2.2.1 c.2.2.2.2.2.2.2.2.2 c.1 c.2.1 0 0 0 false 0 false 0).bind fun r1=>
      (upto? (if(((refLen (s:=.byte) r1.1):Nat):Int)<r1.2.2.2.2.2.2.2.2.2.2.2.1 then(((refLen (s:=.byte) r1.1):Nat):Int) else r1.2.2.2.2.2.2.2.2.2.2.2.1) (refLen (s:=.byte) r1.1)).bind fun q=>
      (refPut (α:=UInt8) r1.2.2.2.2.2.2.2.2.2.2.2.2.2.2.2.2.2.2.2.2.2.2.2.2.2 (refSub (α:=UInt8) r1.1 q ((refLen (s:=.byte) r1.1)-q)) r1.2.2.2.2.2.2.2.2.2.2.2.2.2.1).bind fun m=>
      (unrefL (unrefD [⟨3,.byte,(List.map frz1 m.1)⟩] (.ref 3 .byte)) r1.2.2.2.2.2.2.2.2.2.2.2.2.2.2.2.2.2.2.2.2.2.2.2.2.1).bind fun l=>
      some ((0:Int),(r1.2.2.2.2.2.2.2.2.2.2.2.2.2.2.2.2.2.2.2.2.2.2.2.1,(r1.2.1,(l,(r1.2.2.1,(r1.2.2.2.1,(r1.2.2.2.2.1,(r1.2.2.2.2.2.1,(r1.2.2.2.2.2.2.1,(r1.2.2.2.2.2.2.2.1,(r1.2.2.2.2.2.2.2.2.1,(r1.2.2.2.2.2.2.2.2.2.1,(r1.2.2.2.2.2.2.2.2.2.2.1,(r1.2.2.2.2.2.2.2.2.2.2.2.1,(r1.2.2.2.2.2.2.2.2.2.2.2.2.1,(r1.2.2.2.2.2.2.2.2.2.2.2.2.2.1,(r1.2.2.2.2.2.2.2.2.2.2.2.2.2.2.1,(r1.2.2.2.2.2.2.2.2.2.2.2.2.2.2.2.1,(r1.2.2.2.2.2.2.2.2.2.2.2.2.2.2.2.2.1,(r1.2.2.2.2.2.2.2.2.2.2.2.2.2.2.2.2.2.1,(r1.2.2.2.2.2.2.2.2.2.2.2.2.2.2.2.2.2.2.1,(r1.2.2.2.2.2.2.2.2.2.2.2.2.2.2.2.2.2.2.2.1,(r1.2.2.2.2.2.2.2.2.2.2.2.2.2.2.2.2.2.2.2.2.1,(r1.2.2.2.2.2.2.2.2.2.2.2.2.2.2.2.2.2.2.2.2.2.1,r1.2.2.2.2.2.2.2.2.2.2.2.2.2.2.2.2.2.2.2.2.2.2.1)))))))))))))))))))))))))=
    some (stO (0,putB m c.2.2.2.1 (writeL b c.2.2.2.2.2.2.2.1 c.2.2.2.2.2.2.2.2.2),(c.2.2.2.1,false,((writeN b c.2.2.2.2.2.2.2.1 c.2.2.2.2.2.2.2.2.2:Nat):Int),[],[],false,0)) c):=by
    intro e he;rw[he];have hlen:(List.map (liftT (.ref 3 .byte)) m.2).length=m.1.1.length:=(show(List.map (liftT (.ref 3 .byte)) m.2).length=m.2.length from ZBb _).trans h.n;have hget:(List.map (liftT (.ref 3 .byte)) m.2)[(c.2.2.2.1.1-1).toNat]? =some (.inl b):=(show(List.map (liftT (.ref 3 .byte)) m.2)[(c.2.2.2.1.1-1).toNat]? =Option.map (liftT (.ref 3 .byte)) m.2[(c.2.2.2.1.1-1).toNat]? from ZAa).trans (congrArg (Option.map (liftT (.ref 3 .byte))) hx2);unfold mdoesizW;rw[aJZ (by rw[bcZ];omega),ZAA,aJZ (ZAK _),ZAA,abZ (by rw[ZAu,bcZ];omega),w64 (by omega),avZ (by omega) (by rw[h.n];omega),ZAA,hx2,ZAA,
     iEZ (by rw[h.n];omega),ZAA,avZ (by omega) (by rw[hlen];omega),ZAA,hget,ZAA,show((m.1.1,m.1.2):Tree)=m.1 from rfl,daZ h.fit,ZAA]
    simp only;rw[avZ (by omega) (by omega),ZAA,hx.1.2.1,ZAA,ZAA,mGZ,bbZ];simp only[ZBI];have hR:refLen (s:=.byte) (.inr (some (0,(0,writeN b c.2.2.2.2.2.2.2.1 c.2.2.2.2.2.2.2.2.2))))=writeN b c.2.2.2.2.2.2.2.1 c.2.2.2.2.2.2.2.2.2:=rfl;rw[hR,show(if((writeN b c.2.2.2.2.2.2.2.1 c.2.2.2.2.2.2.2.2.2:Nat):Int)<c.2.2.2.2.2.2.2.1 then((writeN b c.2.2.2.2.2.2.2.1 c.2.2.2.2.2.2.2.2.2:Nat):Int) else c.2.2.2.2.2.2.2.1)=((min c.2.2.2.2.2.2.2.1.toNat (writeN b c.2.2.2.2.2.2.2.1 c.2.2.2.2.2.2.2.2.2):Nat):Int) from by split<;>omega,
     aJZ (by omega),ZAA]
    obtain⟨k,hk⟩:=o2Z (sizedL b (writeN b c.2.2.2.2.2.2.2.1 c.2.2.2.2.2.2.2.2.2)) c.2.2.2.2.2.2.2.2.2 (min c.2.2.2.2.2.2.2.1.toNat (writeN b c.2.2.2.2.2.2.2.1 c.2.2.2.2.2.2.2.2.2)) (by rw[bbZ];omega) (by
     by_cases hz:c.2.2.2.2.2.2.2.2.2.length=0
     ·exact .inl (ZAR hz)
     ·right;rw[bbZ];unfold writeN;rw[ZAM hz];omega)
    rw[bbZ] at hk;rw[hk,ZAA];have hu:=gxZ (unrefD [⟨3,.byte,List.map frz1 [(1,writeL b c.2.2.2.2.2.2.2.1 c.2.2.2.2.2.2.2.2.2)]⟩] (.ref 3 .byte)) (fun _=>rfl) (.inr (some (0,(0,writeN b c.2.2.2.2.2.2.2.1 c.2.2.2.2.2.2.2.2.2)))) _ (omZ _ _ (cuZ b _ _).symm) m.2 (c.2.2.2.1.1-1).toNat (by rw[h.n];omega);have hu':unrefL (unrefD [⟨3,.byte,List.map frz1 [(1,splice (sizedL b (writeN b c.2.2.2.2.2.2.2.1 c.2.2.2.2.2.2.2.2.2)) (min c.2.2.2.2.2.2.2.1.toNat (writeN b c.2.2.2.2.2.2.2.1 c.2.2.2.2.2.2.2.2.2)) c.2.2.2.2.2.2.2.2.2)]⟩] (.ref 3 .byte)) ((m.2.map Sum.inl).set (c.2.2.2.1.1-1).toNat (.inr (some (0,(0,writeN b c.2.2.2.2.2.2.2.1 c.2.2.2.2.2.2.2.2.2)))))=some (m.2.set (c.2.2.2.1.1-1).toNat (writeL b c.2.2.2.2.2.2.2.1 c.2.2.2.2.2.2.2.2.2)):=hu;refine(congrArg (fun o=>Option.bind o _) hu').trans ?_;have hset:putB m c.2.2.2.1 (writeL b c.2.2.2.2.2.2.2.1 c.2.2.2.2.2.2.2.2.2)=((m.1.1.set (c.2.2.2.1.1-1).toNat (x.1,x.2.1,x.2.2.1,x.2.2.2.1,((writeN b c.2.2.2.2.2.2.2.1 c.2.2.2.2.2.2.2.2.2:Nat):Int),x.2.2.2.2.2),m.1.2),m.2.set (c.2.2.2.1.1-1).toNat (writeL b c.2.2.2.2.2.2.2.1 c.2.2.2.2.2.2.2.2.2)):=by
     unfold putB setSize;rw[hx.1.2.1,cuZ]
    rw[hset]
    rfl
   by_cases hz:c.2.2.2.2.2.2.2.2.2.length=0
   ·rw[show(((c.2.2.2.2.2.2.2.2.2.length:Nat):Int)==0)=true from by rw[hz];rfl];simp only[ZAF,ZAA];exact key 0 (by unfold writeN;rw[ZAO hz];split<;>omega)
   ·rw[show(((c.2.2.2.2.2.2.2.2.2.length:Nat):Int)==0)=false from ZAb.2 (by omega)];simp only[ZAC,ZAA];exact key _ (by unfold writeN;rw[ZAM hz];split<;>omega)
 ·rw[ZAM h0];simp only[stF,ZAb.2 h0,ZAe,ZAF]
  rfl
def statS(m:Mod)(c:CallT)(k:Nat):Int×(List Ino×(Int×(List Byt×(Int×(Int×(Int×(Int×(Int×(Byt×(Int×(Int×(Byt×(Int×(Int×(Byt×(Int×(Int×(Int×(Int×(Int×(Bool×(Int×(Bool×Int))))))))))))))))))))))):=(fun fr:Int=>((k:Int),(m.1.1,(m.1.2,(m.2,(c.1,(c.2.1,(((c.2.2.1.toNat:Nat):Int),(c.2.2.2.1.1,(c.2.2.2.1.2,(c.2.2.2.2.1,(c.2.2.2.2.2.1.1,(c.2.2.2.2.2.1.2,(c.2.2.2.2.2.2.1,(c.2.2.2.2.2.2.2.1,(c.2.2.2.2.2.2.2.2.1,(c.2.2.2.2.2.2.2.2.2,(c.1,(c.2.1,(0,(0,(0,(false,(0,(false,fr))))))))))))))))))))))))) (500-((usedN (m.1.1.take k):Nat):Int))
theorem q2Z{m:Mod}(h:ModelOK m)(c:CallT):mdoesta fuel m.1.1 m.1.2 m.2 c.1 c.2.1 ((c.2.2.1.toNat:Nat):Int) c.2.2.2.1.1 c.2.2.2.1.2 c.2.2.2.2.1 c.2.2.2.2.2.1.1 c.2.2.2.2.2.1.2 c.2.2.2.2.2.2.1 c.2.2.2.2.2.2.2.1 c.2.2.2.2.2.2.2.2.1 c.2.2.2.2.2.2.2.2.2 c.1 c.2.1 0 0 0 false 0 false 0=some (stO (statA m) c):=by
 unfold mdoesta;have hl:=h.len;have hS:∀k,usedN (m.1.1.take k)<=500:=fun k=>by
  unfold usedN;have:=List.countP_le_length (p:=fun x:Ino=>x.2.2.1) (l:=m.1.1.take k);rw[ZAW] at this;omega
 have loop:mdoesta_l0_it fuel m.1.1 (statS m c 0)=some ((fun(fr:Int)=>(m.1.1,(m.1.2,(m.2,(c.1,(c.2.1,(((c.2.2.1.toNat:Nat):Int),(c.2.2.2.1.1,(c.2.2.2.1.2,(c.2.2.2.2.1,(c.2.2.2.2.2.1.1,(c.2.2.2.2.2.1.2,(c.2.2.2.2.2.2.1,(c.2.2.2.2.2.2.2.1,(c.2.2.2.2.2.2.2.2.1,(c.2.2.2.2.2.2.2.2.2,(c.1,(c.2.1,(0,(0,(0,(false,(0,(false,fr)))))))))))))))))))))))) (500-((usedN m.1.1:Nat):Int))):=by
  unfold mdoesta_l0_it;refine aLZ (statS m c) m.1.1.length (by omega) (fun k hk=> ?_) ?_
  ·simp only[statS];unfold mdoesta_l0;obtain⟨x,hx⟩:∃x,m.1.1[k]? =some x:=⟨_,ZAE hk⟩;have hk1:=hS k;simp only[a8Z hk,ZAF];rw[ajZ hk,ZAA,hx,ZAA];have ht:m.1.1.take (k+1)=m.1.1.take k++[x]:=by rw[List.take_add_one,hx];rfl
   have hu:usedN (m.1.1.take (k+1))=usedN (m.1.1.take k)+(if x.2.2.1=true then 1 else 0):=by
    rw[ht];unfold usedN;rw[List.countP_append];cases hb:x.2.2.1<;>simp[List.countP_cons,hb]
   cases hb:x.2.2.1 with
   |true=>
    rw[hb,ZAO rfl] at hu;simp only[ZAF,ZAA];rw[w64 (by omega),w64 (by omega),show(500:Int)-((usedN (m.1.1.take k):Nat):Int)-1=500-((usedN (m.1.1.take (k+1)):Nat):Int) by omega]
    rfl
   |false=>
    rw[hb,ZAM (by simp)] at hu;simp only[ZAC,ZAA];rw[w64 (by omega),hu]
    rfl
  ·simp only[statS];unfold mdoesta_l0;simp only[arZ (ZAq _),ZAC];rw[ZA7]
 refine(congrArg (fun o=>Option.bind o _) loop).trans ?_
 rfl
end Go.Ab.D
namespace Go.Ab.D
open Go Go.Ab
def madeD(l:List Ino)(d:List Byt):List Byt:=l.mapIdx fun i x=>bif x.2.2.1 then(d[i]?).getD [] else[]
theorem dTZ(l:List Ino)(d:List Byt):(madeD l d).length=l.length:=by unfold madeD;simp
theorem bNZ{l:List Ino}(d:List Byt){i:Nat}{x:Ino}(h:l[i]? =some x):(madeD l d)[i]? =some (bif x.2.2.1 then(d[i]?).getD [] else[]):=by
 unfold madeD;rw[List.getElem?_mapIdx,h]
 rfl
theorem hOZ{α:Type}{l:List α}{k:Nat}{x:α}(h:l[k]? =some x):l.take (k+1)=l.take k++[x]:=by rw[List.take_add_one,h];rfl
def madeS(l:List Ino)(s:Int)(d:List Byt)(x3:Int)(x4:Int)(x5:Int)(x6:Int)(x7:Int)(x8:Byt)(x9:Int)(x10:Int)(x11:Byt)(x12:Int)(x13:Int)(x14:Byt)(x15:Int)(x16:Int)(x17:Int)(x18:Int)(x19:Int)(x20:Bool)(x21:Int)(x22:Byt)(x23:List Ent)(x24:Bool)(x25:Int)(k:Nat):Int×(List Ino×(Int×(List Byt×(Int×(Int×(Int×(Int×(Int×(Byt×(Int×(Int×(Byt×(Int×(Int×(Byt×(Int×(Int×(Int×(Int×(Int×(Bool×(Int×(Byt×(List Ent×(Bool×(Int×(Int×(Int×(List Ino×(List Byt)))))))))))))))))))))))))))))):=((k:Int),(l,(s,(d,(x3,(x4,(x5,(x6,(x7,(x8,(x9,(x10,(x11,(x12,(x13,(x14,(x15,(x16,(x17,(x18,(x19,(x20,(x21,(x22,(x23,(x24,(x25,(0,(s,(l,(madeD l d).take k))))))))))))))))))))))))))))))
theorem qIZ(l:List Ino)(s:Int)(d:List Byt)(x3:Int)(x4:Int)(x5:Int)(x6:Int)(x7:Int)(x8:Byt)(x9:Int)(x10:Int)(x11:Byt)(x12:Int)(x13:Int)(x14:Byt)(x15:Int)(x16:Int)(x17:Int)(x18:Int)(x19:Int)(x20:Bool)(x21:Int)(x22:Byt)(x23:List Ent)(x24:Bool)(x25:Int)(hf:Fit l)(hl:l.length<=500)(hd:∀(i:Nat) b,d[i]? =some b->b.length<=65536):
 mdoemad fuel l s d x3 x4 x5 x6 x7 x8 x9 x10 x11 x12 x13 x14 x15 x16 x17 x18 x19 x20 x21 x22 x23 x24 x25=some (s,(l,(s,(d,(x3,(x4,(x5,(x6,(x7,(x8,(x9,(x10,(x11,(x12,(x13,(x14,(x15,(x16,(x17,(x18,(x19,(x20,(x21,(x22,(x23,(x24,(x25,(l,madeD l d)))))))))))))))))))))))))))):=by
 unfold mdoemad;rw[daZ (t:=(l,s)) hf,ZAA];have loop:mdoemad_l0_it fuel (s,l) (madeS l s d x3 x4 x5 x6 x7 x8 x9 x10 x11 x12 x13 x14 x15 x16 x17 x18 x19 x20 x21 x22 x23 x24 x25 0)=some (l,(s,(d,(x3,(x4,(x5,(x6,(x7,(x8,(x9,(x10,(x11,(x12,(x13,(x14,(x15,(x16,(x17,(x18,(x19,(x20,(x21,(x22,(x23,(x24,(x25,(0,(s,(l,madeD l d))))))))))))))))))))))))))))):=by
  unfold mdoemad_l0_it;refine aLZ (madeS l s d x3 x4 x5 x6 x7 x8 x9 x10 x11 x12 x13 x14 x15 x16 x17 x18 x19 x20 x21 x22 x23 x24 x25) l.length (by omega) (fun k hk=> ?_) ?_
  ·simp only[madeS];unfold mdoemad_l0;obtain⟨x,hx⟩:∃x,l[k]? =some x:=⟨_,ZAE hk⟩;have hm:=bNZ d hx;have hlen:((madeD l d).take k).length<=500:=by rw[ZAW,dTZ];omega
   simp only[a8Z hk,ZAF];rw[ajZ hk,ZAA,hx,ZAA,hOZ hm];by_cases hkd:k<d.length
   ·obtain⟨b,hb⟩:∃b,d[k]? =some b:=⟨_,ZAE hkd⟩;have hbl:=hd k b hb;rw[a8Z hkd,hb];simp only[ZAF,ZAA];cases hu:x.2.2.1 with
    |true=>
     simp only[ZAF];rw[ajZ hkd,ZAA,hb,ZAA,hJZ (by omega),ZAA,ZAA];simp only;rw[abZ (by simp only[ZAD,ZAu,bcZ];omega),w64 (by omega)]
     rfl
    |false=>
     simp only[ZAC,ZAA];rw[abZ (by simp only[ZAD,ZAu,bcZ];omega),w64 (by omega)]
     rfl
   ·rw[arZ hkd,ZAr (show d.length<=k by omega)];simp only[ZAC,ZAA];rw[abZ (by simp only[ZAD,ZAu,bcZ];omega),w64 (by omega)];cases hu:x.2.2.1<;>rfl
  ·simp only[madeS];unfold mdoemad_l0;simp only[arZ (ZAq _),ZAC];rw[ZAs (by rw[dTZ];exact ZAK _)]
 refine(congrArg (fun o=>Option.bind o _) loop).trans ?_
 rfl
def doS(y1:Int)(y2:Int)(y3:Int)(y4:Int)(y5:Int)(y6:Byt)(y7:Int)(y8:Int)(y9:Byt)(y10:Int)(y11:Int)(y12:Byt)(y13:Int)(y14:Int)(y15:Int)(y16:Int)(y17:Int)(y18:Int)(y19:Bool)(y20:Int)(y21:Bool)(y22:Int)(st:Int)(l:List Ino)(d:List Byt)(k:Nat):Int×(Int×(Int×(Int×(Int×(Int×(Byt×(Int×(Int×(Byt×(Int×(Int×(Byt×(Int×(Int×(Int×(Int×(Int×(Int×(Bool×(Int×(Bool×(Int×(Int×(List Ino×(List Byt))))))))))))))))))))))))):=((k:Int),(y1,(y2,(y3,(y4,(y5,(y6,(y7,(y8,(y9,(y10,(y11,(y12,(y13,(y14,(y15,(y16,(y17,(y18,(y19,(y20,(y21,(y22,(st,(l,d.take k)))))))))))))))))))))))))
theorem rkZ(o1:Int×(List Ino×(Int×(List Byt×(Int×(Int×(Int×(Int×(Int×(Byt×(Int×(Int×(Byt×(Int×(Int×(Byt×(Int×(Int×(Int×(Int×(Int×(Int×(Bool×(Int×(Bool×(Int×(List Ino×(Int×(List Byt×(Int×(Int×(Int×(Int×(Int×(Byt×(Int×(Int×(Byt×(Int×(Int×(Byt×(Int×(Int×(Int×(Int×(Int×(Bool×(Int×(Byt×(List Ent×(Bool×Int)))))))))))))))))))))))))))))))))))))))))))))))))))(y1:Int)(y2:Int)(y3:Int)(y4:Int)(y5:Int)(y6:Byt)(y7:Int)(y8:Int)(y9:Byt)(y10:Int)(y11:Int)(y12:Byt)(y13:Int)(y14:Int)(y15:Int)(y16:Int)(y17:Int)(y18:Int)(y19:Bool)(y20:Int)(y21:Bool)(y22:Int)(st:Int)(l:List Ino)(d:List Byt)(ho:o1.2.2.2.1=d)(hl:d.length<=501)(hd:∀(i:Nat) b,d[i]? =some b->b.length<=65536):
 model_Do_l0_it fuel o1 (doS y1 y2 y3 y4 y5 y6 y7 y8 y9 y10 y11 y12 y13 y14 y15 y16 y17 y18 y19 y20 y21 y22 st l d 0)=some (y1,(y2,(y3,(y4,(y5,(y6,(y7,(y8,(y9,(y10,(y11,(y12,(y13,(y14,(y15,(y16,(y17,(y18,(y19,(y20,(y21,(y22,(st,(l,d)))))))))))))))))))))))):=by
 subst ho;unfold model_Do_l0_it;refine aLZ (doS y1 y2 y3 y4 y5 y6 y7 y8 y9 y10 y11 y12 y13 y14 y15 y16 y17 y18 y19 y20 y21 y22 st l o1.2.2.2.1) o1.2.2.2.1.length (by omega) (fun k hk=> ?_) ?_
 ·simp only[doS];unfold model_Do_l0;obtain⟨b,hb⟩:∃b,o1.2.2.2.1[k]? =some b:=⟨_,ZAE hk⟩;have hbl:=hd k b hb;have hlen:(o1.2.2.2.1.take k).length<=501:=by rw[ZAW];omega
  simp only[a8Z hk,ZAF];rw[ajZ hk,ZAA,hb,ZAA,hJZ (by omega),ZAA,abZ (by simp only[ZAD,ZAu,bcZ];omega),w64 (by omega),hOZ hb]
  rfl
 ·simp only[doS];unfold model_Do_l0;simp only[arZ (ZAq _),ZAC];rw[ZA7]
theorem rcZ(o1:Int×(List Ino×(Int×(List Byt×(Int×(Int×(Int×(Int×(Int×(Byt×(Int×(Int×(Byt×(Int×(Int×(Byt×(Int×(Int×(Int×(Int×(Int×(Int×(Bool×(Int×(Bool×(Int×(List Ino×(Int×(List Byt×(Int×(Int×(Int×(Int×(Int×(Byt×(Int×(Int×(Byt×(Int×(Int×(Byt×(Int×(Int×(Int×(Int×(Int×(Bool×(Int×(Byt×(List Ent×(Bool×Int)))))))))))))))))))))))))))))))))))))))))))))))))))(y1:Int)(y2:Int)(y3:Int)(y4:Int)(y5:Int)(y6:Byt)(y7:Int)(y8:Int)(y9:Byt)(y10:Int)(y11:Int)(y12:Byt)(y13:Int)(y14:Int)(y15:Int)(y16:Int)(y17:Int)(y18:Int)(y19:Bool)(y20:Int)(y21:Bool)(y22:Int)(st:Int)(l:List Ino)(d:List Byt)(ho:o1.2.2.2.1=d)(hl:d.length<=501)(hd:∀(i:Nat) b,d[i]? =some b->b.length<=65536):
 model_Do_l0_it fuel o1 (0,(y1,(y2,(y3,(y4,(y5,(y6,(y7,(y8,(y9,(y10,(y11,(y12,(y13,(y14,(y15,(y16,(y17,(y18,(y19,(y20,(y21,(y22,(st,(l,[])))))))))))))))))))))))))=some (y1,(y2,(y3,(y4,(y5,(y6,(y7,(y8,(y9,(y10,(y11,(y12,(y13,(y14,(y15,(y16,(y17,(y18,(y19,(y20,(y21,(y22,(st,(l,d)))))))))))))))))))))))):=rkZ o1 y1 y2 y3 y4 y5 y6 y7 y8 y9 y10 y11 y12 y13 y14 y15 y16 y17 y18 y19 y20 y21 y22 st l d ho hl hd
end Go.Ab.D
namespace Go.Ab.D
open Go Go.Ab
def Kept(l:List Ino)(d:List Byt):Prop:=∀(i:Nat) x,l[i]? =some x->x.2.2.1=true->x.2.2.2.2.2.1=[]/\((((d[i]?).getD []).length:Nat):Int)=x.2.2.2.2.1
theorem ModelOK.kept{m:Mod}(h:ModelOK m):Kept m.1.1 m.2:=fun i x hx _=>by
 obtain⟨b,hb,hs,_⟩:=h.at hx;rw[hb];exact⟨h.p i x hx,hs⟩
theorem Kept.model{t:Tree}{d:List Byt}(h:TreeOK t)(k:Kept t.1 d):ModelOK (t,madeD t.1 d):=by
 refine⟨h,dTZ _ _,fun i x hx=> ?_,fun i x b hx hb=> ?_⟩
 ·cases hu:x.2.2.1 with
  |true=>exact(k i x hx hu).1
  |false=>exact((h.r.ino i x hx).bare hu).2.2.2.1
 ·rw[bNZ d hx] at hb;simp only[ZAG] at hb;subst hb;cases hu:x.2.2.1 with
  |true=>exact(k i x hx hu).2
  |false=>rw[((h.r.ino i x hx).bare hu).2.1];rfl
theorem dNZ{l:List Ino}{d:List Byt}(k:Kept l d)(i:Nat)(f:Ino->Ino)(hf:∀n,(f n).2.2.1=true->n.2.2.1=true/\(f n).2.2.2.2.2.1=n.2.2.2.2.2.1/\(f n).2.2.2.2.1=n.2.2.2.2.1):Kept (modL l i f) d:=by
 intro j x hx hu;rw[beZ] at hx;split at hx
 ·cases hn:l[j]? with
  |none=>rw[hn] at hx;cases hx
  |some n=>
   rw[hn] at hx;simp only[ZBW,ZAG] at hx;subst hx;obtain⟨q1,q2,q3⟩:=hf n hu;rw[q2,q3];exact k j n hn q1
 ·exact k j x hx hu
theorem i8Z{l:List Ino}{d:List Byt}(k:Kept l d)(a:Int)(s:List UInt8)(id:Int):Kept (putL l a s id) d:=dNZ k _ _ fun _ h=>⟨h,rfl,rfl⟩
theorem e1Z{l:List Ino}{d:List Byt}(k:Kept l d)(a:Int)(s:List UInt8):Kept (takeL l a s) d:=dNZ k _ _ fun _ h=>⟨h,rfl,rfl⟩
theorem mlZ{l:List Ino}{d:List Byt}(k:Kept l d)(a p:Int):Kept (parL l a p) d:=dNZ k _ _ fun _ h=>⟨h,rfl,rfl⟩
theorem g0Z{l:List Ino}{d:List Byt}(k:Kept l d)(a:Int):Kept (dropL l a) d:=dNZ k _ _ fun _ h=>by cases h
theorem kRZ{l:List Ino}{d:List Byt}(k:Kept l d)(a:Int)(old:List UInt8)(b:Int)(name:List UInt8)(id:Int):Kept (mvL l a old b name id) d:=mlZ (i8Z (e1Z k _ _) _ _ _) _ _
theorem lRZ{m:Mod}(h:ModelOK m){dir:Bool}{parent g:Int}{l':List Ino}{i:Nat}(ha:allocF m.1.1 dir parent=some (l',i,g)):Kept l' m.2:=by
 unfold allocF at ha;cases hf:freeAt m.1.1 with
 |none=>
  rw[hf] at ha;simp only at ha;split at ha
  ·simp only[ZAG,ZAp] at ha;obtain⟨rfl,rfl,rfl⟩:=ha;intro j x hx hu;by_cases hj:j<m.1.1.length
   ·rw[ZAN hj] at hx;exact h.kept j x hx hu
   ·rw[ZAV (by omega)] at hx;have hj0:j-m.1.1.length=0:=by
     cases hq:j-m.1.1.length with
     |zero=>rfl
     |succ q=>rw[hq] at hx;simp at hx
    rw[hj0] at hx;simp only[ZAt,ZAG] at hx;subst hx;rw[ZAr (by rw[h.n];omega)];exact⟨rfl,rfl⟩
  ·cases ha
 |some k=>
  rw[hf] at ha;simp only at ha;obtain⟨hk,hused,_⟩:=ZA0.1 hf;have hg:m.1.1[k]? =some m.1.1[k]:=ZAE hk;rw[hg] at ha;simp only at ha;split at ha
  ·simp only[ZAG,ZAp] at ha;obtain⟨rfl,rfl,rfl⟩:=ha;intro j x hx hu;by_cases hj:j=k
   ·subst hj;rw[ZAX hk] at hx;simp only[ZAG] at hx;subst hx;obtain⟨b,hb,hs,_⟩:=h.at hg;have hun:(m.1.1[j]).2.2.1=false:=by simpa using hused
    rw[((h.t.r.ino j _ hg).bare hun).2.1] at hs;rw[hb];exact⟨rfl,hs⟩
   ·rw[ZAT (fun e=>hj e.symm)] at hx;exact h.kept j x hx hu
  ·cases ha
theorem nJZ{m:Mod}(h:ModelOK m)(d:Int×Int)(s:List UInt8)(is:Bool):Kept (makeF m.1 d s is).1.1 m.2:=by
 unfold makeF;have k:=h.kept;split
 ·split
  ·split
   ·exact k
   ·split
    ·exact k
    ·split
     ·exact k
     ·split
      ·exact k
      ·rename_i l' i g ha;exact i8Z (lRZ h ha) _ _ _
  ·exact k
 ·exact k
theorem jSZ{m:Mod}(h:ModelOK m)(d:Int×Int)(s:List UInt8)(is:Bool):Kept (removeF m.1 d s is).1.1 m.2:=by
 unfold removeF;have k:=h.kept;split
 ·split
  ·split
   ·exact k
   ·split
    ·exact k
    ·split
     ·exact k
     ·split
      ·exact g0Z (e1Z k _ _) _
      ·exact k
  ·exact k
 ·exact k
theorem jZZ{m:Mod}(h:ModelOK m)(a:Int×Int)(old:List UInt8)(b:Int×Int)(name:List UInt8):Kept (renameF m.1 a old b name).1.1 m.2:=by
 unfold renameF;have k:=h.kept;split
 ·split
  ·split
   ·split
    ·exact k
    ·split
     ·exact k
     ·split
      ·exact k
      ·split
       ·exact k
       ·split
        ·exact k
        ·split
         ·split
          ·exact k
          ·exact kRZ k _ _ _ _ _
         ·split
          ·exact k
          ·split
           ·exact k
           ·split
            ·exact kRZ (g0Z (e1Z k _ _) _) _ _ _ _ _
            ·exact k
   ·exact k
  ·exact k
 ·exact k
def wS(x:Ino)(n:Int):Ino:=(x.1,x.2.1,x.2.2.1,x.2.2.2.1,n,x.2.2.2.2.2)
theorem k8Z{l:List Ino}{i:Nat}{x:Ino}(hx:l[i]? =some x)(n:Int){j:Nat}{y:Ino}(hy:l[j]? =some y):∃y',(l.set i (wS x n))[j]? =some y'/\y'=wS y y'.2.2.2.2.1:=by
 by_cases hj:j=i
 ·subst hj;rw[hx] at hy;cases hy;exact⟨_,ZAX (ZAB.1 hx).1,rfl⟩
 ·exact⟨y,by rw[ZAT (fun e=>hj e.symm)];exact hy,rfl⟩
theorem hWZ{l:List Ino}{i:Nat}{x:Ino}(hx:l[i]? =some x)(n:Int){j:Nat}{y':Ino}(hy:(l.set i (wS x n))[j]? =some y'):∃y,l[j]? =some y/\y'=wS y y'.2.2.2.2.1/\(j≠i->y'=y)/\(j=i->y=x/\y'=wS x n):=by
 by_cases hj:j=i
 ·subst hj;rw[ZAX (ZAB.1 hx).1] at hy;simp only[ZAG] at hy;subst hy;exact⟨x,hx,rfl,fun h=>absurd rfl h,fun _=>⟨rfl,rfl⟩⟩
 ·rw[ZAT (fun e=>hj e.symm)] at hy;exact⟨y',hy,rfl,fun _=>rfl,fun h=>absurd h hj⟩
theorem qVZ{l:List Ino}{i:Nat}{x:Ino}(hx:l[i]? =some x)(n:Int){id:Int}(h:Rch l id):Rch (l.set i (wS x n)) id:=by
 induction h with
 |root=>exact .root
 |step hy hu _ ih=>
  obtain⟨y',h1,h2⟩:=k8Z hx n hy;have hu':y'.2.2.1=true:=by rw[h2];exact hu
  have:=Rch.step h1 hu';rw[h2] at this;exact this ih
theorem mfZ{t:Tree}(h:TreeOK t){i:Nat}{x:Ino}(hx:t.1[i]? =some x)(hu:x.2.2.1=true)(hd:x.2.2.2.1=false){n:Int}(hn:0<=n/\n<=65536):TreeOK (t.1.set i (wS x n),t.2):=by
 have hlen:(t.1.set i (wS x n)).length=t.1.length:=ZAw;refine⟨⟨by rw[hlen];exact h.r.len,h.r.str,fun j y' hy=> ?_,?_,?_⟩,fun j y' hy s id he=> ?_,fun j y' hy hu' hj=> ?_,fun j y' hy hu'=> ?_⟩
 ·obtain⟨y,h1,h2,h3,h4⟩:=hWZ hx n hy;have o:=h.r.ino j y h1;show okIno (t.1.set i (wS x n)).length t.2 j y';rw[hlen];by_cases hj:j=i
  ·obtain⟨rfl,h5⟩:=h4 hj;have f:=o.file hu hd;subst h5;exact⟨o.id,o.gen,o.par,fun _ hq=>(by have hq:y.2.2.2.1=true:=hq;rw[hd] at hq;cases hq),fun _ _=>⟨hn,f.2.1,f.2.2.1,f.2.2.2⟩,fun hq=>(by have hq:y.2.2.1=false:=hq;rw[hu] at hq;cases hq)⟩
  ·rw[h3 hj];exact o
 ·have e:allStripes (t.1.set i (wS x n))=allStripes t.1:=by
   unfold allStripes;rw[show(t.1.set i (wS x n)).flatMap (fun n=>stripes n.2.2.2.2.2.1)=((t.1.set i (wS x n)).map fun n=>n.2.2.2.2.2.1).flatMap stripes from by rw[List.flatMap_map],
    show t.1.flatMap (fun n=>stripes n.2.2.2.2.2.1)=(t.1.map fun n=>n.2.2.2.2.2.1).flatMap stripes from by rw[List.flatMap_map],List.map_set]
   congr 1;exact hHZ (by rw[ZAa,hx];rfl)
  show(allStripes (t.1.set i (wS x n))).Nodup;rw[e];exact h.r.nod
 ·obtain⟨r,q1,q2,q3,q4⟩:=h.r.root;obtain⟨r',h1,h2⟩:=k8Z hx n q1;refine⟨r',h1,?_,?_,?_⟩<;>rw[h2]
  ·exact q2
  ·exact q3
  ·exact q4
 ·obtain⟨y,h1,h2,_⟩:=hWZ hx n hy;rw[h2] at he;obtain⟨q1,q2,z,q3,q4,q5⟩:=h.e j y h1 s id he;obtain⟨z',h3,h4⟩:=k8Z hx n q3;exact⟨q1,q2,z',h3,by rw[h4];exact q4,by rw[h4];exact q5⟩
 ·obtain⟨y,h1,h2,_⟩:=hWZ hx n hy;rw[h2] at hu';obtain⟨z,s,q1,q2,q3⟩:=h.u j y h1 hu' hj;obtain⟨z',h3,h4⟩:=k8Z hx n q1;refine⟨z',s,by rw[h2];exact h3,by rw[h4];exact q2,fun s' hs=> ?_⟩;rw[h4] at hs;exact q3 s' hs
 ·obtain⟨y,h1,h2,_⟩:=hWZ hx n hy;rw[h2] at hu';exact qVZ hx n (h.a j y h1 hu')
theorem mwZ{m:Mod}(h:ModelOK m){hd:Int×Int}{x:Ino}{b:Byt}(hx:IsF m hd x b){c:Byt}(hc:c.length<=65536):TreeOK (putB m hd c).1/\Kept (putB m hd c).1.1 (putB m hd c).2/\(putB m hd c).1.1.length=m.1.1.length/\(putB m hd c).2.length=m.2.length/\
 ∀(i:Nat) z,(putB m hd c).2[i]? =some z->z.length<=65536:=by
 obtain⟨⟨h1,hg,hu,hgen⟩,hdir,hb⟩:=hx;have e:putB m hd c=((m.1.1.set (hd.1-1).toNat (wS x ((c.length:Nat):Int)),m.1.2),m.2.set (hd.1-1).toNat c):=by
  unfold putB setSize;rw[hg]
  rfl
 rw[e];have hlt:=(ZAB.1 hg).1;refine⟨mfZ h.t hg hu hdir (by omega),fun j y' hy hu'=> ?_,ZAw,ZAw,fun i z hz=> ?_⟩
 ·obtain⟨y,q1,q2,q3,q4⟩:=hWZ hg _ hy;by_cases hj:j=(hd.1-1).toNat
  ·obtain⟨rfl,q5⟩:=q4 hj;subst q5 hj;show _/\(((((m.2.set (hd.1-1).toNat c)[(hd.1-1).toNat]?).getD []).length:Nat):Int)=_;rw[ZAX (by rw[h.n];exact hlt)];exact⟨h.p _ y q1,rfl⟩
  ·rw[q3 hj] at hu'⊢;show _/\(((((m.2.set (hd.1-1).toNat c)[j]?).getD []).length:Nat):Int)=_;rw[ZAT (fun e=>hj e.symm)];exact h.kept j y q1 hu'
 ·by_cases hi:i=(hd.1-1).toNat
  ·subst hi;have hz:(m.2.set (hd.1-1).toNat c)[(hd.1-1).toNat]? =some z:=hz;rw[ZAX (by rw[h.n];exact hlt)] at hz;cases hz;exact hc
  ·have hz:(m.2.set (hd.1-1).toNat c)[i]? =some z:=hz;rw[ZAT (fun e=>hi e.symm)] at hz;exact h.byt hz
end Go.Ab.D
namespace Go.Ab.D
open Go Go.Ab
def actF(m:Mod)(c:CallT):DoR:=if c.2.2.1=UInt8.ofNat 1 then lookA m c else if c.2.2.1=UInt8.ofNat 2 then makeA m c else if c.2.2.1=UInt8.ofNat 3 then makeA m c else if c.2.2.1=UInt8.ofNat 4 then readA m c else if c.2.2.1=UInt8.ofNat 5 then writeA m c else if c.2.2.1=UInt8.ofNat 6 then sizeA m c else if c.2.2.1=UInt8.ofNat 7 then removeA m c else if c.2.2.1=UInt8.ofNat 8 then removeA m c else if c.2.2.1=UInt8.ofNat 9 then renameA m c else if c.2.2.1=UInt8.ofNat 10 then listA m c else if c.2.2.1=UInt8.ofNat 11 then getA m c else if c.2.2.1=UInt8.ofNat 12 then statA m else(179,m,rep0)
structure Sane (q:DoR):Prop where
 t:TreeOK q.2.1.1
 k:Kept q.2.1.1.1 q.2.1.2
 n:q.2.1.2.length<=501
 b:∀(i:Nat) z,q.2.1.2[i]? =some z->z.length<=65536
theorem Sane.same{m:Mod}(h:ModelOK m){q:DoR}(e:q.2.1=m):Sane q:=by
 obtain⟨e1,m',r⟩:=q;have e:m'=m:=e;subst e;exact⟨h.t,h.kept,by have:=h.len;have:=h.n;show m'.2.length<=501;omega,fun i z hz=>h.byt hz⟩
section
variable {m : Mod} (h : ModelOK m) (c : CallT)
include h
theorem dlen:m.2.length<=501:=by have:=h.len;have:=h.n;omega
theorem n7Z:Sane (lookA m c):=.same h (by unfold lookA;split<;>first|rfl|(split<;>rfl))
theorem njZ:Sane (readA m c):=.same h (by unfold readA;split<;>rfl)
theorem oDZ:Sane (getA m c):=.same h (by unfold getA;split<;>rfl)
theorem hXZ:Sane (makeA m c):=by
 unfold makeA;split
 ·exact⟨(m0Z h.t _ _ _).2,nJZ h _ _ _,dlen (m:=m) h,fun i z hz=>h.byt hz⟩
 ·exact .same h rfl
theorem fPZ:Sane (removeA m c):=by
 unfold removeA;split
 ·exact⟨(ifZ h.t _ _ _).2,jSZ h _ _ _,dlen (m:=m) h,fun i z hz=>h.byt hz⟩
 ·exact .same h rfl
theorem jfZ:Sane (renameA m c):=by
 unfold renameA;split
 ·exact⟨(iWZ h.t _ _ _ _).2,jZZ h _ _ _ _,dlen (m:=m) h,fun i z hz=>h.byt hz⟩
 ·exact .same h rfl
theorem mmZ(hn:0<=c.2.2.2.2.2.2.2.2.1/\c.2.2.2.2.2.2.2.2.1<=2147483648):Sane (sizeA m c):=by
 unfold sizeA;split
 ·rename_i h0;obtain⟨x,hx,_⟩:=bfZ h0;split
  ·exact .same h rfl
  ·obtain⟨q1,q2,q3,q4,q5⟩:=mwZ h hx (c:=sizedL (fileF m c.2.2.2.1).2.1 c.2.2.2.2.2.2.2.2.1.toNat) (by rw[bbZ];omega);exact⟨q1,q2,by have:=dlen h;show(putB m _ _).2.length<=501;omega,q5⟩
 ·exact .same h rfl
theorem lDZ(hbs:c.2.2.2.2.2.2.2.2.2.length<=4096):Sane (writeA m c):=by
 unfold writeA;split
 ·rename_i h0;obtain⟨x,hx,_⟩:=bfZ h0;have hbl:=h.byt hx.2.2;split
  ·exact .same h rfl
  ·obtain⟨q1,q2,q3,q4,q5⟩:=mwZ h hx (c:=writeL (fileF m c.2.2.2.1).2.1 c.2.2.2.2.2.2.2.1 c.2.2.2.2.2.2.2.2.2) (by rw[cuZ];unfold writeN;split<;>omega);exact⟨q1,q2,by have:=dlen h;show(putB m _ _).2.length<=501;omega,q5⟩
 ·exact .same h rfl
theorem baZ(hn:0<=c.2.2.2.2.2.2.2.2.1/\c.2.2.2.2.2.2.2.2.1<=2147483648)(hbs:c.2.2.2.2.2.2.2.2.2.length<=4096):Sane (actF m c):=by
 unfold actF;by_cases h1:c.2.2.1=UInt8.ofNat 1
 ·rw[ZAO h1];exact n7Z h c
 rw[ZAM h1];by_cases h2:c.2.2.1=UInt8.ofNat 2
 ·rw[ZAO h2];exact hXZ h c
 rw[ZAM h2];by_cases h3:c.2.2.1=UInt8.ofNat 3
 ·rw[ZAO h3];exact hXZ h c
 rw[ZAM h3];by_cases h4:c.2.2.1=UInt8.ofNat 4
 ·rw[ZAO h4];exact njZ h c
 rw[ZAM h4];by_cases h5:c.2.2.1=UInt8.ofNat 5
 ·rw[ZAO h5];exact lDZ h c hbs
 rw[ZAM h5];by_cases h6:c.2.2.1=UInt8.ofNat 6
 ·rw[ZAO h6];exact mmZ h c hn
 rw[ZAM h6];by_cases h7:c.2.2.1=UInt8.ofNat 7
 ·rw[ZAO h7];exact fPZ h c
 rw[ZAM h7];by_cases h8:c.2.2.1=UInt8.ofNat 8
 ·rw[ZAO h8];exact fPZ h c
 rw[ZAM h8];by_cases h9:c.2.2.1=UInt8.ofNat 9
 ·rw[ZAO h9];exact jfZ h c
 rw[ZAM h9];by_cases h10:c.2.2.1=UInt8.ofNat 10
 ·rw[ZAO h10];exact .same h rfl
 rw[ZAM h10];by_cases h11:c.2.2.1=UInt8.ofNat 11
 ·rw[ZAO h11];exact oDZ h c
 rw[ZAM h11];by_cases h12:c.2.2.1=UInt8.ofNat 12
 ·rw[ZAO h12];exact .same h rfl
 rw[ZAM h12];exact .same h rfl
end
theorem moZ(o:Nat):(shapeN o).2.2.2.2.1<=2147483648:=by unfold shapeN;(repeat' split)<;>decide
theorem aGZ{c:CallT}(hr:rightCall c=true):(0<=c.2.2.2.2.2.2.2.1/\c.2.2.2.2.2.2.2.1<=2147483648)/\(0<=c.2.2.2.2.2.2.2.2.1/\c.2.2.2.2.2.2.2.2.1<=2147483648)/\c.2.2.2.2.2.2.2.2.2.length<=4096:=by
 unfold rightCall rightS at hr;have hs:=moZ c.2.2.1.toNat;simp only[ZAD,ZAl,ZAf] at hr;obtain⟨_,_,_,_,_,_,h1,_,h2,h3⟩:=hr;refine⟨h1,⟨h2.1,by omega⟩,?_⟩;rcases h3 with h3|h3
 ·omega
 ·exact h3.2
theorem qfZ:∀n:Nat,n<256->(shapeN n).2.2.2.2.2.2=true->UInt8.ofNat n=UInt8.ofNat 1\/UInt8.ofNat n=UInt8.ofNat 2\/UInt8.ofNat n=UInt8.ofNat 3\/UInt8.ofNat n=UInt8.ofNat 4\/UInt8.ofNat n=UInt8.ofNat 5\/UInt8.ofNat n=UInt8.ofNat 6\/UInt8.ofNat n=UInt8.ofNat 7\/UInt8.ofNat n=UInt8.ofNat 8\/UInt8.ofNat n=UInt8.ofNat 9\/UInt8.ofNat n=UInt8.ofNat 10\/UInt8.ofNat n=UInt8.ofNat 11\/UInt8.ofNat n=UInt8.ofNat 12:=by decide+kernel
theorem haZ{c:CallT}(hr:rightCall c=true):c.2.2.1=UInt8.ofNat 1\/c.2.2.1=UInt8.ofNat 2\/c.2.2.1=UInt8.ofNat 3\/c.2.2.1=UInt8.ofNat 4\/c.2.2.1=UInt8.ofNat 5\/c.2.2.1=UInt8.ofNat 6\/c.2.2.1=UInt8.ofNat 7\/c.2.2.1=UInt8.ofNat 8\/c.2.2.1=UInt8.ofNat 9\/c.2.2.1=UInt8.ofNat 10\/c.2.2.1=UInt8.ofNat 11\/c.2.2.1=UInt8.ofNat 12:=by
 unfold rightCall rightS at hr;simp only[ZAD] at hr;have:=qfZ c.2.2.1.toNat c.2.2.1.toNat_lt hr.1;rwa [show UInt8.ofNat c.2.2.1.toNat=c.2.2.1 from by simp] at this
theorem mYZ(m:Mod)(c:CallT):(lookA m c).2.2.2.2.2.1=[]/\(lookA m c).2.2.2.2.2.2.1=[]:=by unfold lookA;(repeat' split)<;>exact⟨rfl,rfl⟩
theorem hhZ(m:Mod)(c:CallT):(makeA m c).2.2.2.2.2.1=[]/\(makeA m c).2.2.2.2.2.2.1=[]:=by unfold makeA;(repeat' split)<;>exact⟨rfl,rfl⟩
theorem dHZ(m:Mod)(c:CallT):(removeA m c).2.2.2.2.2.1=[]/\(removeA m c).2.2.2.2.2.2.1=[]:=by unfold removeA;(repeat' split)<;>exact⟨rfl,rfl⟩
theorem hYZ(m:Mod)(c:CallT):(renameA m c).2.2.2.2.2.1=[]/\(renameA m c).2.2.2.2.2.2.1=[]:=by unfold renameA;(repeat' split)<;>exact⟨rfl,rfl⟩
theorem mvZ(m:Mod)(c:CallT):(sizeA m c).2.2.2.2.2.1=[]/\(sizeA m c).2.2.2.2.2.2.1=[]:=by unfold sizeA;(repeat' split)<;>exact⟨rfl,rfl⟩
theorem kmZ(m:Mod)(c:CallT):(writeA m c).2.2.2.2.2.1=[]/\(writeA m c).2.2.2.2.2.2.1=[]:=by unfold writeA;(repeat' split)<;>exact⟨rfl,rfl⟩
theorem ppZ(m:Mod)(c:CallT):(getA m c).2.2.2.2.2.1=[]/\(getA m c).2.2.2.2.2.2.1=[]:=by unfold getA;(repeat' split)<;>exact⟨rfl,rfl⟩
theorem qtZ(m:Mod)(c:CallT):(readA m c).2.2.2.2.2.2.1=[]:=by unfold readA;(repeat' split)<;>rfl
def resF(m:Mod)(c:CallT):Mod×Int×Rep:=
 if rightCall c=true then
  if(actF m c).1=0 then(((actF m c).2.1.1,madeD (actF m c).2.1.1.1 (actF m c).2.1.2),0,(actF m c).2.2)
  else(m,(actF m c).1,rep0)
 else(m,179,rep0)
def doT(r:Mod×Int×Rep)(c:CallT):Int×(Int×(Int×(Int×(Int×(Int×(Bool×(Int×(Byt×(List Ent×(Bool×(Int×(List Ino×List Byt)))))))))))):=(r.1.1.2,(c.1,(c.2.1,(r.2.1,(r.2.2.1.1,(r.2.2.1.2,(r.2.2.2.1,(r.2.2.2.2.1,(r.2.2.2.2.2.1,(r.2.2.2.2.2.2.1,(r.2.2.2.2.2.2.2.1,(r.2.2.2.2.2.2.2.2,(r.1.1.1,r.1.2)))))))))))))
theorem gOZ{m:Mod}(h:ModelOK m)(c:CallT):ModelOK (resF m c).1:=by
 unfold resF;by_cases hr:rightCall c=true
 ·rw[ZAO hr];obtain⟨ho,hn,hbs⟩:=aGZ hr;have s:=baZ h c hn hbs;by_cases h0:(actF m c).1=0
  ·rw[ZAO h0];exact s.k.model s.t
  ·rw[ZAM h0];exact h
 ·rw[ZAM hr];exact h
end Go.Ab.D
set_option maxHeartbeats 4000000
set_option maxRecDepth 100000
namespace Go.Ab.D
open Go Go.Ab
theorem a4Z(u:UInt8):byte? ((u.toNat:Nat):Int)=some u:=by rw[kFZ u.toNat_lt];simp
def finF(m:Mod)(q:DoR):Mod×Int×Rep:=
 if q.1=0 then((q.2.1.1,madeD q.2.1.1.1 q.2.1.2),0,q.2.2) else(m,q.1,rep0)
theorem bCZ{m:Mod}{c:CallT}(hr:rightCall c=true):resF m c=finF m (actF m c):=by unfold resF finF;rw[ZAO hr]
def mkO(q:DoR)(by_:Byt)(en:List Ent)(m:Mod)(c:CallT):qT12:=(q.1,(m.1.1,(m.1.2,(m.2,(c.1,(c.2.1,(((c.2.2.1.toNat:Nat):Int),(c.2.2.2.1.1,(c.2.2.2.1.2,(c.2.2.2.2.1,(c.2.2.2.2.2.1.1,(c.2.2.2.2.2.1.2,(c.2.2.2.2.2.2.1,(c.2.2.2.2.2.2.2.1,(c.2.2.2.2.2.2.2.2.1,(c.2.2.2.2.2.2.2.2.2,(0,(0,(0,(0,(0,(0,(false,(0,(false,(0,(q.2.1.1.1,(q.2.1.1.2,(q.2.1.2,(c.1,(c.2.1,(((c.2.2.1.toNat:Nat):Int),(c.2.2.2.1.1,(c.2.2.2.1.2,(c.2.2.2.2.1,(c.2.2.2.2.2.1.1,(c.2.2.2.2.2.1.2,(c.2.2.2.2.2.2.1,(c.2.2.2.2.2.2.2.1,(c.2.2.2.2.2.2.2.2.1,(c.2.2.2.2.2.2.2.2.2,(c.1,(c.2.1,(0,(q.2.2.1.1,(q.2.2.1.2,(q.2.2.2.1,(q.2.2.2.2.1,(by_,(en,(q.2.2.2.2.2.2.2.1,q.2.2.2.2.2.2.2.2)))))))))))))))))))))))))))))))))))))))))))))))))))
noncomputable def doTail (o1 : qT12) : Option (Int × (Int × (Int × (Int × (Int × (Int × (Bool × (Int × (Byt × (List Ent × (Bool × (Int × (List Ino × List Byt))))))))))))) :=
 bif (!(o1.1==0)) then
  (mcop fuel (o1.2.1,o1.2.2.1)).bind fun r14=>
  (model_Do_l0_it fuel o1 (0,(o1.2.2.2.2.1,(o1.2.2.2.2.2.1,(o1.2.2.2.2.2.2.1,(o1.2.2.2.2.2.2.2.1,(o1.2.2.2.2.2.2.2.2.1,(o1.2.2.2.2.2.2.2.2.2.1,(o1.2.2.2.2.2.2.2.2.2.2.1,(o1.2.2.2.2.2.2.2.2.2.2.2.1,(o1.2.2.2.2.2.2.2.2.2.2.2.2.1,(o1.2.2.2.2.2.2.2.2.2.2.2.2.2.1,(o1.2.2.2.2.2.2.2.2.2.2.2.2.2.2.1,(o1.2.2.2.2.2.2.2.2.2.2.2.2.2.2.2.1,(o1.2.2.2.2.2.2.2.2.2.2.2.2.2.2.2.2.1,(o1.2.2.2.2.2.2.2.2.2.2.2.2.2.2.2.2.2.1,(o1.2.2.2.2.2.2.2.2.2.2.2.2.2.2.2.2.2.2.1,(o1.2.2.2.2.2.2.2.2.2.2.2.2.2.2.2.2.2.2.2.1,(o1.2.2.2.2.2.2.2.2.2.2.2.2.2.2.2.2.2.2.2.2.1,(o1.2.2.2.2.2.2.2.2.2.2.2.2.2.2.2.2.2.2.2.2.2.1,(o1.2.2.2.2.2.2.2.2.2.2.2.2.2.2.2.2.2.2.2.2.2.2.1,(o1.2.2.2.2.2.2.2.2.2.2.2.2.2.2.2.2.2.2.2.2.2.2.2.1,(o1.2.2.2.2.2.2.2.2.2.2.2.2.2.2.2.2.2.2.2.2.2.2.2.2.1,(o1.2.2.2.2.2.2.2.2.2.2.2.2.2.2.2.2.2.2.2.2.2.2.2.2.2.1,(r14.1,(r14.2,[])))))))))))))))))))))))))).bind fun o2=>
  some (o2.2.2.2.2.2.2.2.2.2.2.2.2.2.2.2.2.2.2.2.2.2.2.1,(o2.1,(o2.2.1,(o1.1,(0,(0,(false,(0,([],([],(false,(0,(o2.2.2.2.2.2.2.2.2.2.2.2.2.2.2.2.2.2.2.2.2.2.2.2.1,o2.2.2.2.2.2.2.2.2.2.2.2.2.2.2.2.2.2.2.2.2.2.2.2.2)))))))))))))
 else
  (mdoemad fuel o1.2.2.2.2.2.2.2.2.2.2.2.2.2.2.2.2.2.2.2.2.2.2.2.2.2.2.1 o1.2.2.2.2.2.2.2.2.2.2.2.2.2.2.2.2.2.2.2.2.2.2.2.2.2.2.2.1 o1.2.2.2.2.2.2.2.2.2.2.2.2.2.2.2.2.2.2.2.2.2.2.2.2.2.2.2.2.1 o1.2.2.2.2.2.2.2.2.2.2.2.2.2.2.2.2.2.2.2.2.2.2.2.2.2.2.2.2.2.1 o1.2.2.2.2.2.2.2.2.2.2.2.2.2.2.2.2.2.2.2.2.2.2.2.2.2.2.2.2.2.2.1 o1.2.2.2.2.2.2.2.2.2.2.2.2.2.2.2.2.2.2.2.2.2.2.2.2.2.2.2.2.2.2.2.1 o1.2.2.2.2.2.2.2.2.2.2.2.2.2.2.2.2.2.2.2.2.2.2.2.2.2.2.2.2.2.2.2.2.1 o1.2.2.2.2.2.2.2.2.2.2.2.2.2.2.2.2.2.2.2.2.2.2.2.2.2.2.2.2.2.2.2.2.2.1 o1.2.2.2.2.2.2.2.2.2.2.2.2.2.2.2.2.2.2.2.2.2.2.2.2.2.2.2.2.2.2.2.2.2.2.1 o1.2.2.2.2.2.2.2.2.2.2.2.2.2.2.2.2.2.2.2.2.2.2.2.2.2.2.2.2.2.2.2.2.2.2.2.1 o1.2.2.2.2.2.2.2.2.2.2.2.2.2.2.2.2.2.2.2.2.2.2.2.2.2.2.2.2.2.2.2.2.2.2.2.2.1 o1.2.2.2.2.2.2.2.2.2.2.2.2.2.2.2.2.2.2.2.2.2.2.2.2.2.2.2.2.2.2.2.2.2.2.2.2.2.1 o1.2.2.2.2.2.2.2.2.2.2.2.2.2.2.2.2.2.2.2.2.2.2.2.2.2.2.2.2.2.2.2.2.2.2.2.2.2.2.1 o1.2.2.2.2.2.2.2.2.2.2.2.2.2.2.2.2.2.2.2.2.2.2.2.2.2.2.2.2.2.2.2.2.2.2.2.2.2.2.2.1 o1.2.2.2.2.2.2.2.2.2.2.2.2.2.2.2.2.2.2.2.2.2.2.2.2.2.2.2.2.2.2.2.2.2.2.2.2.2.2.2.2.1 o1.2.2.2.2.2.2.2.2.2.2.2.2.2.2.2.2.2.2.2.2.2.2.2.2.2.2.2.2.2.2.2.2.2.2.2.2.2.2.2.2.2.1 o1.2.2.2.2.2.2.2.2.2.2.2.2.2.2.2.2.2.2.2.2.2.2.2.2.2.2.2.2.2.2.2.2.2.2.2.2.2.2.2.2.2.2.1 o1.2.2.2.2.2.2.2.2.2.2.2.2.2.2.2.2.2.2.2.2.2.2.2.2.2.2.2.2.2.2.2.2.2.2.2.2.2.2.2.2.2.2.2.1 o1.2.2.2.2.2.2.2.2.2.2.2.2.2.2.2.2.2.2.2.2.2.2.2.2.2.2.2.2.2.2.2.2.2.2.2.2.2.2.2.2.2.2.2.2.1 o1.2.2.2.2.2.2.2.2.2.2.2.2.2.2.2.2.2.2.2.2.2.2.2.2.2.2.2.2.2.2.2.2.2.2.2.2.2.2.2.2.2.2.2.2.2.1 o1.2.2.2.2.2.2.2.2.2.2.2.2.2.2.2.2.2.2.2.2.2.2.2.2.2.2.2.2.2.2.2.2.2.2.2.2.2.2.2.2.2.2.2.2.2.2.1 o1.2.2.2.2.2.2.2.2.2.2.2.2.2.2.2.2.2.2.2.2.2.2.2.2.2.2.2.2.2.2.2.2.2.2.2.2.2.2.2.2.2.2.2.2.2.2.2.1 o1.2.2.2.2.2.2.2.2.2.2.2.2.2.2.2.2.2.2.2.2.2.2.2.2.2.2.2.2.2.2.2.2.2.2.2.2.2.2.2.2.2.2.2.2.2.2.2.2.1 o1.2.2.2.2.2.2.2.2.2.2.2.2.2.2.2.2.2.2.2.2.2.2.2.2.2.2.2.2.2.2.2.2.2.2.2.2.2.2.2.2.2.2.2.2.2.2.2.2.2.1 o1.2.2.2.2.2.2.2.2.2.2.2.2.2.2.2.2.2.2.2.2.2.2.2.2.2.2.2.2.2.2.2.2.2.2.2.2.2.2.2.2.2.2.2.2.2.2.2.2.2.2.1 o1.2.2.2.2.2.2.2.2.2.2.2.2.2.2.2.2.2.2.2.2.2.2.2.2.2.2.2.2.2.2.2.2.2.2.2.2.2.2.2.2.2.2.2.2.2.2.2.2.2.2.2).bind fun r17=>
  some (r17.1,(o1.2.2.2.2.2.2.2.2.2.2.2.2.2.2.2.2.2.2.2.2.2.2.2.2.2.2.2.2.2.2.2.2.2.2.2.2.2.2.2.2.2.1,(o1.2.2.2.2.2.2.2.2.2.2.2.2.2.2.2.2.2.2.2.2.2.2.2.2.2.2.2.2.2.2.2.2.2.2.2.2.2.2.2.2.2.2.1,(o1.2.2.2.2.2.2.2.2.2.2.2.2.2.2.2.2.2.2.2.2.2.2.2.2.2.2.2.2.2.2.2.2.2.2.2.2.2.2.2.2.2.2.2.1,(o1.2.2.2.2.2.2.2.2.2.2.2.2.2.2.2.2.2.2.2.2.2.2.2.2.2.2.2.2.2.2.2.2.2.2.2.2.2.2.2.2.2.2.2.2.1,(o1.2.2.2.2.2.2.2.2.2.2.2.2.2.2.2.2.2.2.2.2.2.2.2.2.2.2.2.2.2.2.2.2.2.2.2.2.2.2.2.2.2.2.2.2.2.1,(o1.2.2.2.2.2.2.2.2.2.2.2.2.2.2.2.2.2.2.2.2.2.2.2.2.2.2.2.2.2.2.2.2.2.2.2.2.2.2.2.2.2.2.2.2.2.2.1,(o1.2.2.2.2.2.2.2.2.2.2.2.2.2.2.2.2.2.2.2.2.2.2.2.2.2.2.2.2.2.2.2.2.2.2.2.2.2.2.2.2.2.2.2.2.2.2.2.1,(o1.2.2.2.2.2.2.2.2.2.2.2.2.2.2.2.2.2.2.2.2.2.2.2.2.2.2.2.2.2.2.2.2.2.2.2.2.2.2.2.2.2.2.2.2.2.2.2.2.1,(o1.2.2.2.2.2.2.2.2.2.2.2.2.2.2.2.2.2.2.2.2.2.2.2.2.2.2.2.2.2.2.2.2.2.2.2.2.2.2.2.2.2.2.2.2.2.2.2.2.2.1,(o1.2.2.2.2.2.2.2.2.2.2.2.2.2.2.2.2.2.2.2.2.2.2.2.2.2.2.2.2.2.2.2.2.2.2.2.2.2.2.2.2.2.2.2.2.2.2.2.2.2.2.1,(o1.2.2.2.2.2.2.2.2.2.2.2.2.2.2.2.2.2.2.2.2.2.2.2.2.2.2.2.2.2.2.2.2.2.2.2.2.2.2.2.2.2.2.2.2.2.2.2.2.2.2.2,(r17.2.2.2.2.2.2.2.2.2.2.2.2.2.2.2.2.2.2.2.2.2.2.2.2.2.2.2.1,r17.2.2.2.2.2.2.2.2.2.2.2.2.2.2.2.2.2.2.2.2.2.2.2.2.2.2.2.2)))))))))))))
theorem bxZ{m:Mod}(h:ModelOK m)(c:CallT){q:DoR}(s:Sane q){by_:Byt}{en:List Ent}(n1:q.2.2.2.2.2.1=by_)(n2:q.2.2.2.2.2.2.1=en):doTail (mkO q by_ en m c)=some (doT (finF m q) c):=by
 have hl:=h.len;unfold finF doTail;by_cases h0:q.1=0
 ·rw[ZAO h0];simp only[mkO,h0,ZAP,ZAJ,ZAC];rw[qIZ (hf:=s.t.r.fit) (hl:=s.t.r.len.2) (hd:=s.b),ZAA];simp only[doT,n1,n2]
 ·rw[ZAM h0];simp only[mkO,ZAb.2 h0,ZAe,ZAF];rw[show((m.1.1,m.1.2):Tree)=m.1 from rfl,daZ h.fit,ZAA,rcZ _ _ _ _ _ _ _ _ _ _ _ _ _ _ _ _ _ _ _ _ _ _ _ _ _ m.2 rfl (dlen h) (fun i z hz=>h.byt hz),ZAA]
  rfl
theorem do_1{m:Mod}(h:ModelOK m)(c:CallT)(hr:rightCall c=true)(hk:c.2.2.1=UInt8.ofNat 1):model_Do fuel m c=some (doT (resF m c) c):=by
 obtain⟨ho,hn,hbs⟩:=aGZ hr;have s:=baZ h c hn hbs;have hA:actF m c=lookA m c:=by unfold actF;rw[hk];rfl
 have e1:(c.2.2.1==UInt8.ofNat 1)=true:=by rw[hk];rfl
 rw[bCZ hr,hA];rw[hA] at s;unfold model_Do;rw[abZ (by decide),abZ (by decide),abZ (by decide),abZ (by decide),abZ (by decide),abZ (by decide),abZ (by decide),abZ (by decide),abZ (by decide),abZ (by decide),abZ (by decide)];rw[show(((m.1.1,m.1.2),m.2):Mod)=m from rfl,aqZ h,ZAA,ZAF,a4Z,ZAA,show((c.1,(c.2.1,(c.2.2.1,((c.2.2.2.1.1,c.2.2.2.1.2),(c.2.2.2.2.1,((c.2.2.2.2.2.1.1,c.2.2.2.2.2.1.2),(c.2.2.2.2.2.2.1,(c.2.2.2.2.2.2.2.1,(c.2.2.2.2.2.2.2.2.1,c.2.2.2.2.2.2.2.2.2))))))))):CallT)=c from rfl,azZ,ZAA,hr,ZAF];rw[ZAA,e1,ZAF,oiZ h c,ZAA,ZAA,ZAA];exact bxZ h c s (mYZ m c).1 (mYZ m c).2
theorem do_2{m:Mod}(h:ModelOK m)(c:CallT)(hr:rightCall c=true)(hk:c.2.2.1=UInt8.ofNat 2):model_Do fuel m c=some (doT (resF m c) c):=by
 obtain⟨ho,hn,hbs⟩:=aGZ hr;have s:=baZ h c hn hbs;have hA:actF m c=makeA m c:=by unfold actF;rw[hk];rfl
 have e1:(c.2.2.1==UInt8.ofNat 1)=false:=by rw[hk];rfl
 have e2:(c.2.2.1==UInt8.ofNat 2)=true:=by rw[hk];rfl
 rw[bCZ hr,hA];rw[hA] at s;unfold model_Do;rw[abZ (by decide),abZ (by decide),abZ (by decide),abZ (by decide),abZ (by decide),abZ (by decide),abZ (by decide),abZ (by decide),abZ (by decide),abZ (by decide),abZ (by decide)];rw[show(((m.1.1,m.1.2),m.2):Mod)=m from rfl,aqZ h,ZAA,ZAF,a4Z,ZAA,show((c.1,(c.2.1,(c.2.2.1,((c.2.2.2.1.1,c.2.2.2.1.2),(c.2.2.2.2.1,((c.2.2.2.2.2.1.1,c.2.2.2.2.2.1.2),(c.2.2.2.2.2.2.1,(c.2.2.2.2.2.2.2.1,(c.2.2.2.2.2.2.2.2.1,c.2.2.2.2.2.2.2.2.2))))))))):CallT)=c from rfl,azZ,ZAA,hr,ZAF];rw[ZAA,e1,ZAC,e2,ZAF,poZ h c,ZAA,ZAA,ZAA];exact bxZ h c s (hhZ m c).1 (hhZ m c).2
theorem do_3{m:Mod}(h:ModelOK m)(c:CallT)(hr:rightCall c=true)(hk:c.2.2.1=UInt8.ofNat 3):model_Do fuel m c=some (doT (resF m c) c):=by
 obtain⟨ho,hn,hbs⟩:=aGZ hr;have s:=baZ h c hn hbs;have hA:actF m c=makeA m c:=by unfold actF;rw[hk];rfl
 have e1:(c.2.2.1==UInt8.ofNat 1)=false:=by rw[hk];rfl
 have e2:(c.2.2.1==UInt8.ofNat 2)=false:=by rw[hk];rfl
 have e3:(c.2.2.1==UInt8.ofNat 3)=true:=by rw[hk];rfl
 rw[bCZ hr,hA];rw[hA] at s;unfold model_Do;rw[abZ (by decide),abZ (by decide),abZ (by decide),abZ (by decide),abZ (by decide),abZ (by decide),abZ (by decide),abZ (by decide),abZ (by decide),abZ (by decide),abZ (by decide)];rw[show(((m.1.1,m.1.2),m.2):Mod)=m from rfl,aqZ h,ZAA,ZAF,a4Z,ZAA,show((c.1,(c.2.1,(c.2.2.1,((c.2.2.2.1.1,c.2.2.2.1.2),(c.2.2.2.2.1,((c.2.2.2.2.2.1.1,c.2.2.2.2.2.1.2),(c.2.2.2.2.2.2.1,(c.2.2.2.2.2.2.2.1,(c.2.2.2.2.2.2.2.2.1,c.2.2.2.2.2.2.2.2.2))))))))):CallT)=c from rfl,azZ,ZAA,hr,ZAF];rw[ZAA,e1,ZAC,e2,ZAC,e3,ZAF,poZ h c,ZAA,ZAA,ZAA];exact bxZ h c s (hhZ m c).1 (hhZ m c).2
theorem do_4{m:Mod}(h:ModelOK m)(c:CallT)(hr:rightCall c=true)(hk:c.2.2.1=UInt8.ofNat 4):model_Do fuel m c=some (doT (resF m c) c):=by
 obtain⟨ho,hn,hbs⟩:=aGZ hr;have s:=baZ h c hn hbs;have hA:actF m c=readA m c:=by unfold actF;rw[hk];rfl
 have e1:(c.2.2.1==UInt8.ofNat 1)=false:=by rw[hk];rfl
 have e2:(c.2.2.1==UInt8.ofNat 2)=false:=by rw[hk];rfl
 have e3:(c.2.2.1==UInt8.ofNat 3)=false:=by rw[hk];rfl
 have e4:(c.2.2.1==UInt8.ofNat 4)=true:=by rw[hk];rfl
 rw[bCZ hr,hA];rw[hA] at s;unfold model_Do;rw[abZ (by decide),abZ (by decide),abZ (by decide),abZ (by decide),abZ (by decide),abZ (by decide),abZ (by decide),abZ (by decide),abZ (by decide),abZ (by decide),abZ (by decide)];rw[show(((m.1.1,m.1.2),m.2):Mod)=m from rfl,aqZ h,ZAA,ZAF,a4Z,ZAA,show((c.1,(c.2.1,(c.2.2.1,((c.2.2.2.1.1,c.2.2.2.1.2),(c.2.2.2.2.1,((c.2.2.2.2.2.1.1,c.2.2.2.2.2.1.2),(c.2.2.2.2.2.2.1,(c.2.2.2.2.2.2.2.1,(c.2.2.2.2.2.2.2.2.1,c.2.2.2.2.2.2.2.2.2))))))))):CallT)=c from rfl,azZ,ZAA,hr,ZAF];rw[ZAA,e1,ZAC,e2,ZAC,e3,ZAC,e4,ZAF,q4Z h c ho hn,ZAA,ZAA,ZAA];exact bxZ h c s rfl (qtZ m c)
theorem do_5{m:Mod}(h:ModelOK m)(c:CallT)(hr:rightCall c=true)(hk:c.2.2.1=UInt8.ofNat 5):model_Do fuel m c=some (doT (resF m c) c):=by
 obtain⟨ho,hn,hbs⟩:=aGZ hr;have s:=baZ h c hn hbs;have hA:actF m c=writeA m c:=by unfold actF;rw[hk];rfl
 have e1:(c.2.2.1==UInt8.ofNat 1)=false:=by rw[hk];rfl
 have e2:(c.2.2.1==UInt8.ofNat 2)=false:=by rw[hk];rfl
 have e3:(c.2.2.1==UInt8.ofNat 3)=false:=by rw[hk];rfl
 have e4:(c.2.2.1==UInt8.ofNat 4)=false:=by rw[hk];rfl
 have e5:(c.2.2.1==UInt8.ofNat 5)=true:=by rw[hk];rfl
 rw[bCZ hr,hA];rw[hA] at s;unfold model_Do;rw[abZ (by decide),abZ (by decide),abZ (by decide),abZ (by decide),abZ (by decide),abZ (by decide),abZ (by decide),abZ (by decide),abZ (by decide),abZ (by decide),abZ (by decide)];rw[show(((m.1.1,m.1.2),m.2):Mod)=m from rfl,aqZ h,ZAA,ZAF,a4Z,ZAA,show((c.1,(c.2.1,(c.2.2.1,((c.2.2.2.1.1,c.2.2.2.1.2),(c.2.2.2.2.1,((c.2.2.2.2.2.1.1,c.2.2.2.2.2.1.2),(c.2.2.2.2.2.2.1,(c.2.2.2.2.2.2.2.1,(c.2.2.2.2.2.2.2.2.1,c.2.2.2.2.2.2.2.2.2))))))))):CallT)=c from rfl,azZ,ZAA,hr,ZAF];rw[ZAA,e1,ZAC,e2,ZAC,e3,ZAC,e4,ZAC,e5,ZAF,pEZ h c ho hbs,ZAA,ZAA,ZAA];exact bxZ h c s (kmZ m c).1 (kmZ m c).2
theorem do_6{m:Mod}(h:ModelOK m)(c:CallT)(hr:rightCall c=true)(hk:c.2.2.1=UInt8.ofNat 6):model_Do fuel m c=some (doT (resF m c) c):=by
 obtain⟨ho,hn,hbs⟩:=aGZ hr;have s:=baZ h c hn hbs;have hA:actF m c=sizeA m c:=by unfold actF;rw[hk];rfl
 have e1:(c.2.2.1==UInt8.ofNat 1)=false:=by rw[hk];rfl
 have e2:(c.2.2.1==UInt8.ofNat 2)=false:=by rw[hk];rfl
 have e3:(c.2.2.1==UInt8.ofNat 3)=false:=by rw[hk];rfl
 have e4:(c.2.2.1==UInt8.ofNat 4)=false:=by rw[hk];rfl
 have e5:(c.2.2.1==UInt8.ofNat 5)=false:=by rw[hk];rfl
 have e6:(c.2.2.1==UInt8.ofNat 6)=true:=by rw[hk];rfl
 rw[bCZ hr,hA];rw[hA] at s;unfold model_Do;rw[abZ (by decide),abZ (by decide),abZ (by decide),abZ (by decide),abZ (by decide),abZ (by decide),abZ (by decide),abZ (by decide),abZ (by decide),abZ (by decide),abZ (by decide)];rw[show(((m.1.1,m.1.2),m.2):Mod)=m from rfl,aqZ h,ZAA,ZAF,a4Z,ZAA,show((c.1,(c.2.1,(c.2.2.1,((c.2.2.2.1.1,c.2.2.2.1.2),(c.2.2.2.2.1,((c.2.2.2.2.2.1.1,c.2.2.2.2.2.1.2),(c.2.2.2.2.2.2.1,(c.2.2.2.2.2.2.2.1,(c.2.2.2.2.2.2.2.2.1,c.2.2.2.2.2.2.2.2.2))))))))):CallT)=c from rfl,azZ,ZAA,hr,ZAF];rw[ZAA,e1,ZAC,e2,ZAC,e3,ZAC,e4,ZAC,e5,ZAC,e6,ZAF,qUZ h c hn.1,ZAA,ZAA,ZAA];exact bxZ h c s (mvZ m c).1 (mvZ m c).2
theorem do_7{m:Mod}(h:ModelOK m)(c:CallT)(hr:rightCall c=true)(hk:c.2.2.1=UInt8.ofNat 7):model_Do fuel m c=some (doT (resF m c) c):=by
 obtain⟨ho,hn,hbs⟩:=aGZ hr;have s:=baZ h c hn hbs;have hA:actF m c=removeA m c:=by unfold actF;rw[hk];rfl
 have e1:(c.2.2.1==UInt8.ofNat 1)=false:=by rw[hk];rfl
 have e2:(c.2.2.1==UInt8.ofNat 2)=false:=by rw[hk];rfl
 have e3:(c.2.2.1==UInt8.ofNat 3)=false:=by rw[hk];rfl
 have e4:(c.2.2.1==UInt8.ofNat 4)=false:=by rw[hk];rfl
 have e5:(c.2.2.1==UInt8.ofNat 5)=false:=by rw[hk];rfl
 have e6:(c.2.2.1==UInt8.ofNat 6)=false:=by rw[hk];rfl
 have e7:(c.2.2.1==UInt8.ofNat 7)=true:=by rw[hk];rfl
 rw[bCZ hr,hA];rw[hA] at s;unfold model_Do;rw[abZ (by decide),abZ (by decide),abZ (by decide),abZ (by decide),abZ (by decide),abZ (by decide),abZ (by decide),abZ (by decide),abZ (by decide),abZ (by decide),abZ (by decide)];rw[show(((m.1.1,m.1.2),m.2):Mod)=m from rfl,aqZ h,ZAA,ZAF,a4Z,ZAA,show((c.1,(c.2.1,(c.2.2.1,((c.2.2.2.1.1,c.2.2.2.1.2),(c.2.2.2.2.1,((c.2.2.2.2.2.1.1,c.2.2.2.2.2.1.2),(c.2.2.2.2.2.2.1,(c.2.2.2.2.2.2.2.1,(c.2.2.2.2.2.2.2.2.1,c.2.2.2.2.2.2.2.2.2))))))))):CallT)=c from rfl,azZ,ZAA,hr,ZAF];rw[ZAA,e1,ZAC,e2,ZAC,e3,ZAC,e4,ZAC,e5,ZAC,e6,ZAC,e7,ZAF,kOZ h c,ZAA,ZAA,ZAA];exact bxZ h c s (dHZ m c).1 (dHZ m c).2
theorem do_8{m:Mod}(h:ModelOK m)(c:CallT)(hr:rightCall c=true)(hk:c.2.2.1=UInt8.ofNat 8):model_Do fuel m c=some (doT (resF m c) c):=by
 obtain⟨ho,hn,hbs⟩:=aGZ hr;have s:=baZ h c hn hbs;have hA:actF m c=removeA m c:=by unfold actF;rw[hk];rfl
 have e1:(c.2.2.1==UInt8.ofNat 1)=false:=by rw[hk];rfl
 have e2:(c.2.2.1==UInt8.ofNat 2)=false:=by rw[hk];rfl
 have e3:(c.2.2.1==UInt8.ofNat 3)=false:=by rw[hk];rfl
 have e4:(c.2.2.1==UInt8.ofNat 4)=false:=by rw[hk];rfl
 have e5:(c.2.2.1==UInt8.ofNat 5)=false:=by rw[hk];rfl
 have e6:(c.2.2.1==UInt8.ofNat 6)=false:=by rw[hk];rfl
 have e7:(c.2.2.1==UInt8.ofNat 7)=false:=by rw[hk];rfl
 have e8:(c.2.2.1==UInt8.ofNat 8)=true:=by rw[hk];rfl
 rw[bCZ hr,hA];rw[hA] at s;unfold model_Do;rw[abZ (by decide),abZ (by decide),abZ (by decide),abZ (by decide),abZ (by decide),abZ (by decide),abZ (by decide),abZ (by decide),abZ (by decide),abZ (by decide),abZ (by decide)];rw[show(((m.1.1,m.1.2),m.2):Mod)=m from rfl,aqZ h,ZAA,ZAF,a4Z,ZAA,show((c.1,(c.2.1,(c.2.2.1,((c.2.2.2.1.1,c.2.2.2.1.2),(c.2.2.2.2.1,((c.2.2.2.2.2.1.1,c.2.2.2.2.2.1.2),(c.2.2.2.2.2.2.1,(c.2.2.2.2.2.2.2.1,(c.2.2.2.2.2.2.2.2.1,c.2.2.2.2.2.2.2.2.2))))))))):CallT)=c from rfl,azZ,ZAA,hr,ZAF];rw[ZAA,e1,ZAC,e2,ZAC,e3,ZAC,e4,ZAC,e5,ZAC,e6,ZAC,e7,ZAC,e8,ZAF,kOZ h c,ZAA,ZAA,ZAA];exact bxZ h c s (dHZ m c).1 (dHZ m c).2
theorem do_9{m:Mod}(h:ModelOK m)(c:CallT)(hr:rightCall c=true)(hk:c.2.2.1=UInt8.ofNat 9):model_Do fuel m c=some (doT (resF m c) c):=by
 obtain⟨ho,hn,hbs⟩:=aGZ hr;have s:=baZ h c hn hbs;have hA:actF m c=renameA m c:=by unfold actF;rw[hk];rfl
 have e1:(c.2.2.1==UInt8.ofNat 1)=false:=by rw[hk];rfl
 have e2:(c.2.2.1==UInt8.ofNat 2)=false:=by rw[hk];rfl
 have e3:(c.2.2.1==UInt8.ofNat 3)=false:=by rw[hk];rfl
 have e4:(c.2.2.1==UInt8.ofNat 4)=false:=by rw[hk];rfl
 have e5:(c.2.2.1==UInt8.ofNat 5)=false:=by rw[hk];rfl
 have e6:(c.2.2.1==UInt8.ofNat 6)=false:=by rw[hk];rfl
 have e7:(c.2.2.1==UInt8.ofNat 7)=false:=by rw[hk];rfl
 have e8:(c.2.2.1==UInt8.ofNat 8)=false:=by rw[hk];rfl
 have e9:(c.2.2.1==UInt8.ofNat 9)=true:=by rw[hk];rfl
 rw[bCZ hr,hA];rw[hA] at s;unfold model_Do;rw[abZ (by decide),abZ (by decide),abZ (by decide),abZ (by decide),abZ (by decide),abZ (by decide),abZ (by decide),abZ (by decide),abZ (by decide),abZ (by decide),abZ (by decide)];rw[show(((m.1.1,m.1.2),m.2):Mod)=m from rfl,aqZ h,ZAA,ZAF,a4Z,ZAA,show((c.1,(c.2.1,(c.2.2.1,((c.2.2.2.1.1,c.2.2.2.1.2),(c.2.2.2.2.1,((c.2.2.2.2.2.1.1,c.2.2.2.2.2.1.2),(c.2.2.2.2.2.2.1,(c.2.2.2.2.2.2.2.1,(c.2.2.2.2.2.2.2.2.1,c.2.2.2.2.2.2.2.2.2))))))))):CallT)=c from rfl,azZ,ZAA,hr,ZAF];rw[ZAA,e1,ZAC,e2,ZAC,e3,ZAC,e4,ZAC,e5,ZAC,e6,ZAC,e7,ZAC,e8,ZAC,e9,ZAF,oSZ h c,ZAA,ZAA,ZAA];exact bxZ h c s (hYZ m c).1 (hYZ m c).2
theorem roZ{m:Mod}(h:ModelOK m)(c:CallT)(hr:rightCall c=true)(hk:c.2.2.1=UInt8.ofNat 10):model_Do fuel m c=some (doT (resF m c) c):=by
 obtain⟨ho,hn,hbs⟩:=aGZ hr;have s:=baZ h c hn hbs;have hA:actF m c=listA m c:=by unfold actF;rw[hk];rfl
 have e1:(c.2.2.1==UInt8.ofNat 1)=false:=by rw[hk];rfl
 have e2:(c.2.2.1==UInt8.ofNat 2)=false:=by rw[hk];rfl
 have e3:(c.2.2.1==UInt8.ofNat 3)=false:=by rw[hk];rfl
 have e4:(c.2.2.1==UInt8.ofNat 4)=false:=by rw[hk];rfl
 have e5:(c.2.2.1==UInt8.ofNat 5)=false:=by rw[hk];rfl
 have e6:(c.2.2.1==UInt8.ofNat 6)=false:=by rw[hk];rfl
 have e7:(c.2.2.1==UInt8.ofNat 7)=false:=by rw[hk];rfl
 have e8:(c.2.2.1==UInt8.ofNat 8)=false:=by rw[hk];rfl
 have e9:(c.2.2.1==UInt8.ofNat 9)=false:=by rw[hk];rfl
 have e10:(c.2.2.1==UInt8.ofNat 10)=true:=by rw[hk];rfl
 rw[bCZ hr,hA];rw[hA] at s;unfold model_Do;rw[abZ (by decide),abZ (by decide),abZ (by decide),abZ (by decide),abZ (by decide),abZ (by decide),abZ (by decide),abZ (by decide),abZ (by decide),abZ (by decide),abZ (by decide)];rw[show(((m.1.1,m.1.2),m.2):Mod)=m from rfl,aqZ h,ZAA,ZAF,a4Z,ZAA,show((c.1,(c.2.1,(c.2.2.1,((c.2.2.2.1.1,c.2.2.2.1.2),(c.2.2.2.2.1,((c.2.2.2.2.2.1.1,c.2.2.2.2.2.1.2),(c.2.2.2.2.2.2.1,(c.2.2.2.2.2.2.2.1,(c.2.2.2.2.2.2.2.2.1,c.2.2.2.2.2.2.2.2.2))))))))):CallT)=c from rfl,azZ,ZAA,hr,ZAF];rw[ZAA,e1,ZAC,e2,ZAC,e3,ZAC,e4,ZAC,e5,ZAC,e6,ZAC,e7,ZAC,e8,ZAC,e9,ZAC,e10,ZAF,qQZ h c,ZAA,ZAA,ZAA];exact bxZ h c s rfl rfl
theorem rfZ{m:Mod}(h:ModelOK m)(c:CallT)(hr:rightCall c=true)(hk:c.2.2.1=UInt8.ofNat 11):model_Do fuel m c=some (doT (resF m c) c):=by
 obtain⟨ho,hn,hbs⟩:=aGZ hr;have s:=baZ h c hn hbs;have hA:actF m c=getA m c:=by unfold actF;rw[hk];rfl
 have e1:(c.2.2.1==UInt8.ofNat 1)=false:=by rw[hk];rfl
 have e2:(c.2.2.1==UInt8.ofNat 2)=false:=by rw[hk];rfl
 have e3:(c.2.2.1==UInt8.ofNat 3)=false:=by rw[hk];rfl
 have e4:(c.2.2.1==UInt8.ofNat 4)=false:=by rw[hk];rfl
 have e5:(c.2.2.1==UInt8.ofNat 5)=false:=by rw[hk];rfl
 have e6:(c.2.2.1==UInt8.ofNat 6)=false:=by rw[hk];rfl
 have e7:(c.2.2.1==UInt8.ofNat 7)=false:=by rw[hk];rfl
 have e8:(c.2.2.1==UInt8.ofNat 8)=false:=by rw[hk];rfl
 have e9:(c.2.2.1==UInt8.ofNat 9)=false:=by rw[hk];rfl
 have e10:(c.2.2.1==UInt8.ofNat 10)=false:=by rw[hk];rfl
 have e11:(c.2.2.1==UInt8.ofNat 11)=true:=by rw[hk];rfl
 rw[bCZ hr,hA];rw[hA] at s;unfold model_Do;rw[abZ (by decide),abZ (by decide),abZ (by decide),abZ (by decide),abZ (by decide),abZ (by decide),abZ (by decide),abZ (by decide),abZ (by decide),abZ (by decide),abZ (by decide)];rw[show(((m.1.1,m.1.2),m.2):Mod)=m from rfl,aqZ h,ZAA,ZAF,a4Z,ZAA,show((c.1,(c.2.1,(c.2.2.1,((c.2.2.2.1.1,c.2.2.2.1.2),(c.2.2.2.2.1,((c.2.2.2.2.2.1.1,c.2.2.2.2.2.1.2),(c.2.2.2.2.2.2.1,(c.2.2.2.2.2.2.2.1,(c.2.2.2.2.2.2.2.2.1,c.2.2.2.2.2.2.2.2.2))))))))):CallT)=c from rfl,azZ,ZAA,hr,ZAF];rw[ZAA,e1,ZAC,e2,ZAC,e3,ZAC,e4,ZAC,e5,ZAC,e6,ZAC,e7,ZAC,e8,ZAC,e9,ZAC,e10,ZAC,e11,ZAF,rlZ h c,ZAA,ZAA,ZAA];exact bxZ h c s (ppZ m c).1 (ppZ m c).2
theorem rhZ{m:Mod}(h:ModelOK m)(c:CallT)(hr:rightCall c=true)(hk:c.2.2.1=UInt8.ofNat 12):model_Do fuel m c=some (doT (resF m c) c):=by
 obtain⟨ho,hn,hbs⟩:=aGZ hr;have s:=baZ h c hn hbs;have hA:actF m c=statA m:=by unfold actF;rw[hk];rfl
 have e1:(c.2.2.1==UInt8.ofNat 1)=false:=by rw[hk];rfl
 have e2:(c.2.2.1==UInt8.ofNat 2)=false:=by rw[hk];rfl
 have e3:(c.2.2.1==UInt8.ofNat 3)=false:=by rw[hk];rfl
 have e4:(c.2.2.1==UInt8.ofNat 4)=false:=by rw[hk];rfl
 have e5:(c.2.2.1==UInt8.ofNat 5)=false:=by rw[hk];rfl
 have e6:(c.2.2.1==UInt8.ofNat 6)=false:=by rw[hk];rfl
 have e7:(c.2.2.1==UInt8.ofNat 7)=false:=by rw[hk];rfl
 have e8:(c.2.2.1==UInt8.ofNat 8)=false:=by rw[hk];rfl
 have e9:(c.2.2.1==UInt8.ofNat 9)=false:=by rw[hk];rfl
 have e10:(c.2.2.1==UInt8.ofNat 10)=false:=by rw[hk];rfl
 have e11:(c.2.2.1==UInt8.ofNat 11)=false:=by rw[hk];rfl
 have e12:(c.2.2.1==UInt8.ofNat 12)=true:=by rw[hk];rfl
 rw[bCZ hr,hA];rw[hA] at s;unfold model_Do;rw[abZ (by decide),abZ (by decide),abZ (by decide),abZ (by decide),abZ (by decide),abZ (by decide),abZ (by decide),abZ (by decide),abZ (by decide),abZ (by decide),abZ (by decide)];rw[show(((m.1.1,m.1.2),m.2):Mod)=m from rfl,aqZ h,ZAA,ZAF,a4Z,ZAA,show((c.1,(c.2.1,(c.2.2.1,((c.2.2.2.1.1,c.2.2.2.1.2),(c.2.2.2.2.1,((c.2.2.2.2.2.1.1,c.2.2.2.2.2.1.2),(c.2.2.2.2.2.2.1,(c.2.2.2.2.2.2.2.1,(c.2.2.2.2.2.2.2.2.1,c.2.2.2.2.2.2.2.2.2))))))))):CallT)=c from rfl,azZ,ZAA,hr,ZAF];rw[ZAA,e1,ZAC,e2,ZAC,e3,ZAC,e4,ZAC,e5,ZAC,e6,ZAC,e7,ZAC,e8,ZAC,e9,ZAC,e10,ZAC,e11,ZAC,e12,ZAF,q2Z h c,ZAA,ZAA,ZAA];exact bxZ h c s rfl rfl
theorem hUZ{m:Mod}(h:ModelOK m)(c:CallT):model_Do fuel m c=some (doT (resF m c) c):=by
 cases hr:rightCall c with
 |true=>
  rcases haZ hr with hk|hk|hk|hk|hk|hk|hk|hk|hk|hk|hk|hk
  ·exact do_1 h c hr hk
  ·exact do_2 h c hr hk
  ·exact do_3 h c hr hk
  ·exact do_4 h c hr hk
  ·exact do_5 h c hr hk
  ·exact do_6 h c hr hk
  ·exact do_7 h c hr hk
  ·exact do_8 h c hr hk
  ·exact do_9 h c hr hk
  ·exact roZ h c hr hk
  ·exact rfZ h c hr hk
  ·exact rhZ h c hr hk
 |false=>
  have e:resF m c=finF m (179,m,rep0):=by unfold resF finF;rw[hr,ZAM (by simp),ZAM (show¬((179:Int)=0) by decide)]
  rw[e];unfold model_Do;rw[abZ (by decide),abZ (by decide),abZ (by decide),abZ (by decide),abZ (by decide),abZ (by decide),abZ (by decide),abZ (by decide),abZ (by decide),abZ (by decide),abZ (by decide)];rw[show(((m.1.1,m.1.2),m.2):Mod)=m from rfl,aqZ h,ZAA,ZAF,a4Z,ZAA,show((c.1,(c.2.1,(c.2.2.1,((c.2.2.2.1.1,c.2.2.2.1.2),(c.2.2.2.2.1,((c.2.2.2.2.2.1.1,c.2.2.2.2.2.1.2),(c.2.2.2.2.2.2.1,(c.2.2.2.2.2.2.2.1,(c.2.2.2.2.2.2.2.2.1,c.2.2.2.2.2.2.2.2.2))))))))):CallT)=c from rfl,azZ,ZAA,hr,ZAC,ZAA];exact bxZ h c (q:=(179,m,rep0)) (.same h rfl) rfl rfl
end Go.Ab.D
namespace Go.Ab.D
open Go Go.Ab
theorem ooZ(t:Tree):∃b,kit_Great fuel t=some b/\(b=false->t.1.length<=40/\∀n∈t.1,n.2.2.2.2.2.1.length<=120/\n.2.2.2.2.2.2.2.length<=120):=by
 unfold kit_Great;by_cases h0:t.1.length>40
 ·rw[show decide (((t.1.length:Nat):Int)>40)=true from by simp;omega];exact⟨true,rfl,by simp⟩
 rw[show decide (((t.1.length:Nat):Int)>40)=false from by simp;omega,ZAC];have loop:∃o,kit_Great_l1_it fuel t (0,(t.1,t.2))=some o/\((o= .inl ()/\∀n∈t.1,n.2.2.2.2.2.1.length<=120/\n.2.2.2.2.2.2.2.length<=120)\/o= .inr true):=by
  unfold kit_Great_l1_it;refine aKZ (fun m s=>∃(k:Nat),s=((k:Int),(t.1,t.2))/\k+m=t.1.length/\∀(i:Nat) n,i<k->t.1[i]? =some n->n.2.2.2.2.2.1.length<=120/\n.2.2.2.2.2.2.2.length<=120) _ (fun m s hI=> ?_) (fun s hI=> ?_) t.1.length _ (by omega) ⟨0,rfl,by omega,fun i n h=>absurd h (ZBt _)⟩
  ·obtain⟨k,rfl,hk,g1⟩:=hI;have hlt:k<t.1.length:=by omega
   obtain⟨n,hg⟩:∃n,t.1[k]? =some n:=⟨_,ZAE hlt⟩;unfold kit_Great_l1;simp only[a8Z hlt,ZAF];rw[ajZ hlt];simp only[ZAA,hg];by_cases h1:n.2.2.2.2.2.1.length>120
   ·rw[show decide (((n.2.2.2.2.2.1.length:Nat):Int)>120)=true from by simp;omega];exact .inr ⟨_,rfl,.inr rfl⟩
   rw[show decide (((n.2.2.2.2.2.1.length:Nat):Int)>120)=false from by simp;omega,ZAC,ZAA];by_cases h2:n.2.2.2.2.2.2.2.length>120
   ·rw[show decide (((n.2.2.2.2.2.2.2.length:Nat):Int)>120)=true from by simp;omega];exact .inr ⟨_,rfl,.inr rfl⟩
   rw[show decide (((n.2.2.2.2.2.2.2.length:Nat):Int)>120)=false from by simp;omega];simp only[ZAC];rw[ajZ hlt];simp only[ZAA,hg];have inner:∃o,kit_Great_l0_it fuel n (k:Int) (0,(t.1,t.2))=some o/\(o= .inl (t.1,t.2)\/o= .inr (.inr (.inr true))):=by
    unfold kit_Great_l0_it;refine aKZ (fun m s=>∃(j:Nat),s=((j:Int),(t.1,t.2))/\j+m=n.2.2.2.2.2.2.2.length) _ (fun m s hI=> ?_) (fun s hI=> ?_) n.2.2.2.2.2.2.2.length _ (by omega) ⟨0,rfl,by omega⟩
    ·obtain⟨j,rfl,hj⟩:=hI;have hjl:j<n.2.2.2.2.2.2.2.length:=by omega
     obtain⟨e,he⟩:∃e,n.2.2.2.2.2.2.2[j]? =some e:=⟨_,ZAE hjl⟩;unfold kit_Great_l0;simp only[a8Z hjl,ZAF];rw[ajZ hlt];simp only[ZAA,hg];rw[ajZ hjl];simp only[ZAA,he];by_cases h3:e.1.length>3000
     ·rw[show decide (((e.1.length:Nat):Int)>3000)=true from by simp;omega];exact .inr ⟨_,rfl,.inr rfl⟩
     ·rw[show decide (((e.1.length:Nat):Int)>3000)=false from by simp;omega,w64 (by omega)];exact .inl ⟨_,rfl,j+1,by simp,by omega⟩
    ·obtain⟨j,rfl,hj⟩:=hI;have:j=n.2.2.2.2.2.2.2.length:=by omega
     subst this;unfold kit_Great_l0;simp only[arZ (ZAq _),ZAC];exact⟨_,rfl,.inl rfl⟩
   obtain⟨o,ho,hq⟩:=inner;rw[ho,ZAA];rcases hq with rfl|rfl
   ·rw[w64 (by omega)];refine .inl ⟨_,rfl,k+1,by simp,by omega,fun i n' hi hg'=> ?_⟩;by_cases hik:i=k
    ·subst hik;rw[hg] at hg';cases hg';omega
    ·exact g1 i n' (by omega) hg'
   ·exact .inr ⟨_,rfl,.inr rfl⟩
  ·obtain⟨k,rfl,hk,g1⟩:=hI;have:k=t.1.length:=by omega
   subst this;unfold kit_Great_l1;simp only[arZ (ZAq _),ZAC];refine⟨_,rfl,.inl ⟨rfl,fun n hn=> ?_⟩⟩;obtain⟨i,hi⟩:=ZAY hn;exact g1 i n (ZAB.1 hi).1 hi
 obtain⟨o,ho,hq⟩:=loop;rw[ho,ZAA];rcases hq with⟨rfl,hq⟩|rfl
 ·exact⟨false,rfl,fun _=>⟨by omega,hq⟩⟩
 ·exact⟨true,rfl,by simp⟩
end Go.Ab.D
namespace Go.Ab.D
theorem qEZ(c:UInt8):byte? ((c.toNat:Nat):Int)=some c:=by
 have:=c.toNat_lt;rw[kFZ (by omega)];simp
theorem noZ(c:CallT):law21_Huge fuel c (0,(0,(0,((0,0),(false,(0,([],([],(false,0)))))))))=some true\/law21_Huge fuel c (0,(0,(0,((0,0),(false,(0,([],([],(false,0)))))))))=some false:=by
 unfold law21_Huge;have it:∀o:Bool×(Int×(Int×(Int×(Int×(Int×(Bool×(Int×(List UInt8×(List (List UInt8×Int)×(Bool×Int)))))))))),o.2.2.2.2.2.2.2.2.2.1=[]->∀s,law21_Huge_l0_it fuel o (0,s)=some (.inl ()):=by
  intro o ho s;unfold law21_Huge_l0_it;refine hrZ ?_;unfold law21_Huge_l0;rw[ho]
  rfl
 simp only;by_cases h1:((c.2.2.2.2.1.length:Nat):Int)>3000
 ·rw[ZAS h1];exact .inl rfl
 ·by_cases h2:((c.2.2.2.2.2.2.1.length:Nat):Int)>3000
  ·rw[ZAL h1,ZAS h2];exact .inl rfl
  ·by_cases h3:((c.2.2.2.2.2.2.2.2.2.length:Nat):Int)>5000
   ·rw[ZAL h1,ZAL h2,ZAS h3];exact .inl rfl
   ·rw[ZAL h1,ZAL h2,ZAL h3];right;simp only[ZAC,ZAA,show decide (((([]:List UInt8).length:Nat):Int)>5000)=false from rfl,show decide (((([]:List (List UInt8×Int)).length:Nat):Int)>120)=false from rfl];rw[it _ rfl]
    rfl
end Go.Ab.D
set_option maxHeartbeats 4000000
namespace Go.Ab.D
open Go Go.Ab
theorem pwZ{m:Mod}(h:ModelOK m):∃b,law22_Great fuel m=some b:=by
 unfold law22_Great;have hl:=h.len;obtain⟨b,hb,_⟩:=ooZ m.1;rw[show((m.1.1,m.1.2):Tree)=m.1 from rfl,hb,ZAA];cases b with
 |true=>exact⟨true,rfl⟩
 |false=>
  simp only[ZAC,ZAA];by_cases h60:((m.2.length:Nat):Int)>60
  ·rw[ZAS h60];exact⟨true,rfl⟩
  ·rw[ZAL h60];simp only[ZAC];have loop:∃o,law22_Great_l0_it fuel (false,(m.1.1,(m.1.2,m.2))) (0,(0,(m.1.1,(m.1.2,m.2))))=some o/\True:=by
    unfold law22_Great_l0_it;refine aKZ (fun r s=>∃(k:Nat) (n:Int),s=(n,((k:Int),(m.1.1,(m.1.2,m.2))))/\k+r=m.2.length/\0<=n/\n<=65536*k) _ (fun r s hI=> ?_) (fun s hI=> ?_) m.2.length _ (by have:=h.n;omega) ⟨0,0,rfl,by omega,by omega,by omega⟩
    ·obtain⟨k,n,rfl,hk,h0,h1⟩:=hI;have hlt:k<m.2.length:=by omega
     obtain⟨b,hb⟩:∃b,m.2[k]? =some b:=⟨_,ZAE hlt⟩;have:=h.byt hb;unfold law22_Great_l0;simp only[a8Z hlt,ZAF];rw[ajZ hlt,ZAA,hb,ZAA,w64 (by omega),w64 (by omega)];exact .inl ⟨_,rfl,k+1,_,rfl,by omega,by omega,by omega⟩
    ·obtain⟨k,n,rfl,hk,h0,h1⟩:=hI;have:k=m.2.length:=by omega
     subst this;unfold law22_Great_l0;simp only[arZ (ZAq _),ZAC];exact⟨_,rfl,trivial⟩
   obtain⟨o,ho,_⟩:=loop;rw[ho,ZAA];exact⟨_,rfl⟩
theorem qYZ{m:Mod}(h:ModelOK m):law22_Same fuel m m=some true:=by
 unfold law22_Same;have hl:=h.len;have hn:=h.n;rw[show((m.1.1,m.1.2):Tree)=m.1 from rfl,hEZ m.1 h.fit,ZAA];simp only[ZAJ,ZAC,ZAA,ZAP];have loop:law22_Same_l0_it fuel (false,(m.1.1,(m.1.2,(m.2,(m.1.1,(m.1.2,m.2)))))) (0,(m.1.1,(m.1.2,(m.2,(m.1.1,(m.1.2,m.2))))))=some (.inl ()):=by
  unfold law22_Same_l0_it;refine aLZ (fun k=>((k:Int),(m.1.1,(m.1.2,(m.2,(m.1.1,(m.1.2,m.2))))))) m.2.length (by omega) (fun k hk=> ?_) ?_
  ·dsimp only;unfold law22_Same_l0;obtain⟨b,hb⟩:∃b,m.2[k]? =some b:=⟨_,ZAE hk⟩;simp only[a8Z hk,ZAF];rw[ajZ hk,ZAA,hb,ZAA,ZAA,hb,ZAA];unfold lSamByt;rw[ZAP,ZAA,w64 (by omega)]
   rfl
  ·dsimp only;unfold law22_Same_l0;simp only[arZ (ZAq _),ZAC]
 rw[loop]
 rfl
abbrev RepT:=Int×(Int×(Int×((Int×Int)×(Bool×(Int×(Byt×(List Ent×(Bool×Int))))))))
def M0:Mod:=(([(1,1,true,true,0,[],1,[])],0),[[]])
theorem pAZ:ModelOK M0:=by
 refine⟨qDZ,rfl,fun i x hx=> ?_,fun i x b hx hb=> ?_⟩
 ·cases i with
  |zero=>simp[M0] at hx;subst hx;rfl
  |succ i=>simp[M0] at hx
 ·cases i with
  |zero=>simp[M0] at hx hb;subst hx hb;rfl
  |succ i=>simp[M0] at hx
theorem pfZ:model_New fuel=some (M0.1.2,(M0.1.1,M0.2)):=by kernel_rfl
def cA:CallT:=(0,(1,(UInt8.ofNat 2,((1,1),([102],((0,0),([],(0,(0,[])))))))))
def MA:Mod:=(([(1,1,true,true,0,[],1,[([102],2)]),(2,1,true,false,0,[],1,[])],0),[[],[]])
def cB:CallT:=(0,(1,(UInt8.ofNat 5,((2,1),([],((0,0),([],(2,(0,[UInt8.ofNat 97,UInt8.ofNat 98,UInt8.ofNat 99])))))))))
def MB:Mod:=(([(1,1,true,true,0,[],1,[([102],2)]),(2,1,true,false,5,[],1,[])],0),[[],[0,0,97,98,99]])
def cC:CallT:=(0,(1,(UInt8.ofNat 4,((2,1),([],((0,0),([],(0,(9,[])))))))))
def cD:CallT:=(0,(1,(UInt8.ofNat 6,((2,1),([],((0,0),([],(0,(3,[])))))))))
def MD:Mod:=(([(1,1,true,true,0,[],1,[([102],2)]),(2,1,true,false,3,[],1,[])],0),[[],[0,0,97]])
def cE:CallT:=(0,(1,(UInt8.ofNat 6,((2,1),([],((0,0),([],(0,(5,[])))))))))
def ME:Mod:=(([(1,1,true,true,0,[],1,[([102],2)]),(2,1,true,false,5,[],1,[])],0),[[],[0,0,97,0,0]])
def cG:CallT:=(0,(1,(UInt8.ofNat 12,((0,0),([],((0,0),([],(0,(0,[])))))))))
theorem x1:resF M0 cA=(MA,0,((2,1),false,0,[],[],false,0)):=by kernel_rfl
theorem x2:resF MA cB=(MB,0,((2,1),false,5,[],[],false,0)):=by kernel_rfl
theorem x3:resF MB cC=(MB,0,((0,0),false,5,[0,0,97,98,99],[],false,0)):=by kernel_rfl
theorem x4:resF MB cD=(MD,0,((2,1),false,3,[],[],false,0)):=by kernel_rfl
theorem x5:resF MD cE=(ME,0,((2,1),false,5,[],[],false,0)):=by kernel_rfl
theorem x6:resF ME cC=(ME,0,((0,0),false,5,[0,0,97,0,0],[],false,0)):=by kernel_rfl
theorem x7:resF ME cG=(ME,0,((0,0),false,0,[],[],false,498)):=by kernel_rfl
theorem pNZ:law22_awake fuel=some true:=by
 have o1:=gOZ pAZ cA;rw[x1] at o1;have d1:model_Do fuel ((M0.1.1,M0.1.2),M0.2) (0,(1,(UInt8.ofNat 2,((1,1),([102],((0,0),([],(0,(0,[])))))))))=some (doT _ cA):=hUZ pAZ cA;rw[x1] at d1;have o2:=gOZ o1 cB;rw[x2] at o2;have d2:model_Do fuel ((MA.1.1,MA.1.2),MA.2) (0,(1,(UInt8.ofNat 5,((2,1),([],((0,0),([],(2,(0,[UInt8.ofNat 97,UInt8.ofNat 98,UInt8.ofNat 99])))))))))=some (doT _ cB):=hUZ o1 cB;rw[x2] at d2;have d3:model_Do fuel ((MB.1.1,MB.1.2),MB.2) (0,(1,(UInt8.ofNat 4,((2,1),([],((0,0),([],(0,(9,[])))))))))=some (doT _ cC):=hUZ o2 cC;rw[x3] at d3;have o4:=gOZ o2 cD;rw[x4] at o4;have d4:model_Do fuel ((MB.1.1,MB.1.2),MB.2) (0,(1,(UInt8.ofNat 6,((2,1),([],((0,0),([],(0,(3,[])))))))))=some (doT _ cD):=hUZ o2 cD;rw[x4] at d4;have o5:=gOZ o4 cE;rw[x5] at o5;have d5:model_Do fuel ((MD.1.1,MD.1.2),MD.2) (0,(1,(UInt8.ofNat 6,((2,1),([],((0,0),([],(0,(5,[])))))))))=some (doT _ cE):=hUZ o4 cE;rw[x5] at d5;have d6:model_Do fuel ((ME.1.1,ME.1.2),ME.2) (0,(1,(UInt8.ofNat 4,((2,1),([],((0,0),([],(0,(9,[])))))))))=some (doT _ cC):=hUZ o5 cC;rw[x6] at d6;have d7:model_Do fuel ((ME.1.1,ME.1.2),ME.2) (0,(1,(UInt8.ofNat 12,((0,0),([],((0,0),([],(0,(0,[])))))))))=some (doT _ cG):=hUZ o5 cG;rw[x7] at d7;unfold law22_awake law22_ask;rw[pfZ,ZAA];simp only[ZAA]
 try rw[a4Z]
 rw[ZAA,d1,ZAA];simp only[doT]
 try rw[a4Z]
 rw[ZAA,d2,ZAA];simp only[doT]
 try rw[a4Z]
 rw[ZAA,d3,ZAA];simp only[doT]
 try rw[a4Z]
 rw[ZAA,d4,ZAA];simp only[doT]
 try rw[a4Z]
 rw[ZAA,d5,ZAA];simp only[doT]
 try rw[a4Z]
 rw[ZAA,d6,ZAA];simp only[doT]
 try rw[a4Z]
 rw[ZAA,d7,ZAA];simp only[doT]
 rfl
end Go.Ab.D
set_option maxHeartbeats 4000000
set_option maxRecDepth 100000
namespace Go.Ab.D
open Go Go.Ab
theorem nOZ{m:Mod}(h:ModelOK m):madeD m.1.1 m.2=m.2:=by
 refine List.ext_getElem? fun i=> ?_;by_cases hi:i<m.1.1.length
 ·obtain⟨x,hx⟩:∃x,m.1.1[i]? =some x:=⟨_,ZAE hi⟩;obtain⟨b,hb,hs,_⟩:=h.at hx;rw[bNZ _ hx,hb];cases hu:x.2.2.1 with
  |true=>rfl
  |false=>
   rw[((h.t.r.ino i x hx).bare hu).2.1] at hs;have:b=[]:=ZAR (by omega);rw[this];rfl
 ·rw[ZAr (by rw[dTZ];omega),ZAr (by rw[h.n];omega)]
def askN(o:UInt8):Bool:=o==UInt8.ofNat 1||o==UInt8.ofNat 4||o==UInt8.ofNat 10||o==UInt8.ofNat 11||o==UInt8.ofNat 12
theorem pRZ{m:Mod}{c:CallT}(ha:askN c.2.2.1=true):(actF m c).2.1=m:=by
 unfold askN at ha;simp only[ZAl,ZBL] at ha;unfold actF;rcases ha with(((hk|hk)|hk)|hk)|hk<;>rw[hk]
 ·show(lookA m c).2.1=m;unfold lookA;(repeat' split)<;>rfl
 ·show(readA m c).2.1=m;unfold readA;(repeat' split)<;>rfl
 ·rfl
 ·show(getA m c).2.1=m;unfold getA;(repeat' split)<;>rfl
 ·rfl
theorem pvZ{m:Mod}(h:ModelOK m){c:CallT}(ha:askN c.2.2.1=true):(resF m c).1=m:=by
 unfold resF;split
 ·split
  ·rw[pRZ ha];show(m.1,madeD m.1.1 m.2)=m;rw[nOZ h]
  ·rfl
 ·rfl
def repT(q:Mod×Int×Rep)(c:CallT):RepT:=(c.1,(c.2.1,(q.2.1,((q.2.2.1.1,q.2.2.1.2),(q.2.2.2.1,(q.2.2.2.2.1,(q.2.2.2.2.2.1,(q.2.2.2.2.2.2.1,(q.2.2.2.2.2.2.2.1,q.2.2.2.2.2.2.2.2)))))))))
end Go.Ab.D
set_option maxRecDepth 100000
set_option maxHeartbeats 4000000
namespace Go.Ab.D
open Go Go.Ab
abbrev EntT:Type:=List UInt8×Int
abbrev ReplyT:Type:=Int×(Int×(Int×((Int×Int)×(Bool×(Int×(List UInt8×(List EntT×(Bool×Int))))))))
def entOk(e:EntT):Bool:=decide (1<=e.1.length/\e.1.length<=100/\1<=e.2/\e.2<=500)
def noneB(h:Int×Int):Bool:=(h.1==0)&&(h.2==0)
def rightReply(r:ReplyT):Bool:=
 whoseB r.1 r.2.1&&(decide (0<=r.2.2.1/\r.2.2.1<=1000)&&(if r.2.2.1≠0 then
  noneB r.2.2.2.1&&(!r.2.2.2.2.1&&(!r.2.2.2.2.2.2.2.2.1&&((r.2.2.2.2.2.1==0)&&((r.2.2.2.2.2.2.2.2.2==0)&&decide (r.2.2.2.2.2.2.1=[]/\r.2.2.2.2.2.2.2.1=[])))))
 else(noneB r.2.2.2.1||handleB r.2.2.2.1)&&(decide (0<=r.2.2.2.2.2.1/\r.2.2.2.2.2.1<=65536)&&(decide (0<=r.2.2.2.2.2.2.2.2.2/\r.2.2.2.2.2.2.2.2.2<=1099511627776)&&
  (r.2.2.2.2.2.2.2.1.all entOk&&(decide (r.2.2.2.2.2.2.1.length<=4096)&&decide (r.2.2.2.2.2.2.2.1.length<=100)))))))
theorem pLZ{b0:Bool}{x1 x2 x3 h1 h2:Int}{d:Bool}{sz:Int}{bs:List UInt8}{es:List EntT}{mo:Bool}{fr:Int}(hes:es.length<4611686018427387904):
 cRigRep_l0_it fuel (b0,(x1,(x2,(x3,(h1,(h2,(d,(sz,(bs,(es,(mo,fr))))))))))) (0,(x1,(x2,(x3,(h1,(h2,(d,(sz,(bs,(es,(mo,fr)))))))))))=some (if es.all entOk=true then .inl (x1,(x2,(x3,(h1,(h2,(d,(sz,(bs,(es,(mo,fr)))))))))) else .inr false):=by
 unfold cRigRep_l0_it;have:=aKZ (f:=fun tt:Int×(Int×(Int×(Int×(Int×(Int×(Bool×(Int×(List UInt8×(List EntT×(Bool×Int))))))))))=>cRigRep_l0 fuel (b0,(x1,(x2,(x3,(h1,(h2,(d,(sz,(bs,(es,(mo,fr))))))))))) tt.1 tt.2.1 tt.2.2.1 tt.2.2.2.1 tt.2.2.2.2.1 tt.2.2.2.2.2.1 tt.2.2.2.2.2.2.1 tt.2.2.2.2.2.2.2.1 tt.2.2.2.2.2.2.2.2.1 tt.2.2.2.2.2.2.2.2.2.1 tt.2.2.2.2.2.2.2.2.2.2.1 tt.2.2.2.2.2.2.2.2.2.2.2)
  (fun n s=>∃k:Nat,s=((k:Int),(x1,(x2,(x3,(h1,(h2,(d,(sz,(bs,(es,(mo,fr)))))))))))/\k+n=es.length/\(es.take k).all entOk=true)
  (fun o=>o=if es.all entOk=true then .inl (x1,(x2,(x3,(h1,(h2,(d,(sz,(bs,(es,(mo,fr)))))))))) else .inr false)
  (fun n s ⟨k,hs,hk,ha⟩=>by
   subst hs;have hk':k<es.length:=by omega
   show(∃s',cRigRep_l0 fuel _ (k:Int) x1 x2 x3 h1 h2 d sz bs es mo fr=_/\_)\/∃o,cRigRep_l0 fuel _ (k:Int) x1 x2 x3 h1 h2 d sz bs es mo fr=_/\_;unfold cRigRep_l0;simp only;rw[ZAS (show(k:Int)<((es.length:Nat):Int) by omega),ajZ hk',w64 (x:=(k:Int)+1) ⟨by omega,by omega⟩];simp only[ZAF,ZAA,ZAE hk'];have htk:(es.take (k+1)).all entOk=((es.take k).all entOk&&entOk es[k]):=by rw[ZA8 hk',List.all_append];simp
   have hbad:entOk es[k]=false->es.all entOk=false:=fun h=>by
    rw[List.all_eq_false];exact⟨es[k],List.getElem_mem hk',by rw[h];simp⟩
   generalize es[k]=en at htk hbad⊢;obtain⟨nm,id⟩:=en;by_cases g:entOk (nm,id)=true
   ·left;have g':=g;unfold entOk at g';simp only[ZAf] at g';rw[ZAL (show¬((nm.length:Nat):Int)<1 by omega),ZAL (show¬((nm.length:Nat):Int)>100 by omega),ZAL (show¬id<1 by omega),ZAL (show¬id>500 by omega)];exact⟨_,rfl,k+1,rfl,by omega,by rw[htk,ha,g];rfl⟩
   ·right;have g0:entOk (nm,id)=false:=by simpa using g
    rw[hbad g0];refine⟨_,?_,rfl⟩;have g':=g0;unfold entOk at g';simp only[ZBM] at g';by_cases q1:((nm.length:Nat):Int)<1
    ·rw[ZAS q1];rfl
    ·by_cases q2:((nm.length:Nat):Int)>100
     ·rw[ZAL q1,ZAS q2];rfl
     ·by_cases q3:id<1
      ·rw[ZAL q1,ZAL q2,ZAS q3];rfl
      ·have q4:id>500:=by omega
       rw[ZAL q1,ZAL q2,ZAL q3,ZAS q4];rfl)
  (fun s ⟨k,hs,hk,ha⟩=>by
   subst hs;have:k=es.length:=by omega
   subst this;rw[ZA7] at ha;rw[ha];refine⟨_,?_,rfl⟩;show cRigRep_l0 fuel _ ((es.length:Nat):Int) x1 x2 x3 h1 h2 d sz bs es mo fr=_;unfold cRigRep_l0;simp only;rw[ZAL (by omega)]
   rfl)
  es.length (0,(x1,(x2,(x3,(h1,(h2,(d,(sz,(bs,(es,(mo,fr))))))))))) hes ⟨0,rfl,by omega,by simp⟩
 obtain⟨o,e1,e2⟩:=this;rw[e1,e2]
theorem gSZ{r:ReplyT}(hb:r.2.2.2.2.2.2.1.length<1000000000000000000)(he:r.2.2.2.2.2.2.2.1.length<1000000000000000000):cRigRep fuel r=some (rightReply r):=by
 obtain⟨x1,x2,x3,⟨h1,h2⟩,d,sz,bs,es,mo,fr⟩:=r;simp only at hb he;unfold cRigRep rightReply;simp only;rw[kEZ];simp only[ZAA];cases whoseB x1 x2 with
 |false=>rfl
 |true=>
  simp only[ZAJ,ZAC,ZA9];by_cases e1:x3<0
  ·rw[ZAS e1,ZAL (show¬(0<=x3/\x3<=1000) by omega)];rfl
  by_cases e2:x3>1000
  ·rw[ZAL e1,ZAS e2,ZAL (show¬(0<=x3/\x3<=1000) by omega)];rfl
  rw[ZAL e1,ZAL e2,ZAS (show 0<=x3/\x3<=1000 by omega)];simp only[ZAC,ZAA,ZA9];by_cases e3:x3=0
  ·rw[ZAM (by simpa using e3),ZBL.2 e3];simp only[ZAJ,ZAC];have hn:((h1==0)&&(h2==0))=noneB (h1,h2):=rfl;rw[hn];have tail:∀b0:Bool,(bif b0 then some false else(cRigRep_l0_it fuel (b0,(x1,(x2,(x3,(h1,(h2,(d,(sz,(bs,(es,(mo,fr))))))))))) (0,(x1,(x2,(x3,(h1,(h2,(d,(sz,(bs,(es,(mo,fr)))))))))))).bind fun o4=>
    match o4 with
    |.inl s=>
     bif (decide (((s.2.2.2.2.2.2.2.1.length:Nat):Int)<=4096)) then
      some (decide (((s.2.2.2.2.2.2.2.2.1.length:Nat):Int)<=100))
     else
      some false
    |.inr o5=>
     some o5)=some (!b0&&(es.all entOk&&(decide (bs.length<=4096)&&decide (es.length<=100)))):=by
    intro b0;cases b0 with
    |true=>rfl
    |false=>
     simp only[ZAC,ZAe,ZA9];rw[pLZ (by omega)];simp only[ZAA];cases es.all entOk with
     |false=>rfl
     |true=>
      simp only[if_true,ZA9];by_cases q1:bs.length<=4096
      ·rw[ZAS q1,ZAS (show((bs.length:Nat):Int)<=4096 by omega)];by_cases q2:es.length<=100
       ·rw[ZAS q2,ZAS (show((es.length:Nat):Int)<=100 by omega)];rfl
       ·rw[ZAL q2,ZAL (show¬((es.length:Nat):Int)<=100 by omega)];rfl
      ·rw[ZAL q1,ZAL (show¬((bs.length:Nat):Int)<=4096 by omega)];rfl
   have mid:∀z:Bool,(bif decide (sz<0) then some (true,(x1,(x2,(x3,(h1,(h2,(d,(sz,(bs,(es,(mo,fr))))))))))) else bif decide (sz>65536) then some (true,(x1,(x2,(x3,(h1,(h2,(d,(sz,(bs,(es,(mo,fr))))))))))) else bif decide (fr<0) then some (true,(x1,(x2,(x3,(h1,(h2,(d,(sz,(bs,(es,(mo,fr))))))))))) else some (decide (fr>1099511627776),(x1,(x2,(x3,(h1,(h2,(d,(sz,(bs,(es,(mo,fr))))))))))))=some (!(decide (0<=sz/\sz<=65536)&&decide (0<=fr/\fr<=1099511627776)),(x1,(x2,(x3,(h1,(h2,(d,(sz,(bs,(es,(mo,fr))))))))))):=by
    intro _;by_cases q1:sz<0
    ·rw[ZAS q1,ZAL (show¬(0<=sz/\sz<=65536) by omega)];rfl
    by_cases q2:sz>65536
    ·rw[ZAL q1,ZAS q2,ZAL (show¬(0<=sz/\sz<=65536) by omega)];rfl
    rw[ZAL q1,ZAL q2,ZAS (show 0<=sz/\sz<=65536 by omega)];by_cases q3:fr<0
    ·rw[ZAS q3,ZAL (show¬(0<=fr/\fr<=1099511627776) by omega)];rfl
    by_cases q4:fr>1099511627776
    ·rw[ZAL q3,ZAS q4,ZAL (show¬(0<=fr/\fr<=1099511627776) by omega)];rfl
    rw[ZAL q3,ZAL q4,ZAS (show 0<=fr/\fr<=1099511627776 by omega)];rfl
   cases hnone:noneB (h1,h2) with
   |true=>
    simp only[ZAJ,ZAC,Bool.true_or,ZA9];rw[mid true];simp only[ZAA];refine(tail _).trans ?_;simp only[Bool.not_not,Bool.and_assoc]
   |false=>
    simp only[ZAe,ZAF,Bool.false_or];rw[iCZ];simp only[ZAA];cases handleB (h1,h2) with
    |false=>rfl
    |true=>
     simp only[ZAJ,ZAC,ZA9];rw[mid true];simp only[ZAA];refine(tail _).trans ?_;simp only[Bool.not_not,Bool.and_assoc]
  ·rw[ZAO e3,ZAb.2 e3];simp only[ZAe,ZAF];have hn:((h1==0)&&(h2==0))=noneB (h1,h2):=rfl;rw[hn,w64 ⟨by omega,by omega⟩];have hl:((((bs.length:Nat):Int)+((es.length:Nat):Int))==0)=decide (bs=[]/\es=[]):=by
    by_cases q:bs=[]/\es=[]
    ·obtain⟨rfl,rfl⟩:=q
     rfl
    ·rw[ZAL q,ZAb];intro hc;apply q;exact⟨ZAR (by omega),ZAR (by omega)⟩
   rw[hl];cases noneB (h1,h2)<;>cases d<;>cases mo<;>cases(sz==0)<;>cases(fr==0)<;>rfl
end Go.Ab.D
set_option maxRecDepth 100000
set_option maxHeartbeats 4000000
namespace Go.Ab.D
open Go Go.Ab
def Fewer(l l':List Ino):Prop:=∀(j:Nat) y',l'[j]? =some y'->y'.2.2.1=true->∃y,l[j]? =some y/\y.2.2.1=true/\y.2.1=y'.2.1/\y.2.2.2.1=y'.2.2.2.1
theorem Fewer.refl(l:List Ino):Fewer l l:=fun j y h hu=>⟨y,h,hu,rfl,rfl⟩
theorem Fewer.trans{l l' l'':List Ino}(a:Fewer l l')(b:Fewer l' l''):Fewer l l'':=fun j y h hu=>by
 obtain⟨x,h1,h2,h3,h4⟩:=b j y h hu;obtain⟨w,g1,g2,g3,g4⟩:=a j x h1 h2;exact⟨w,g1,g2,g3.trans h3,g4.trans h4⟩
theorem dfZ(l:List Ino)(i:Nat)(f:Ino->Ino)(hf:∀n,(f n).2.2.1=true->n.2.2.1=true/\n.2.1=(f n).2.1/\n.2.2.2.1=(f n).2.2.2.1):Fewer l (modL l i f):=by
 intro j x hx hu;rw[beZ] at hx;split at hx
 ·cases hn:l[j]? with
  |none=>rw[hn] at hx;cases hx
  |some n=>
   rw[hn] at hx;simp only[ZBW,ZAG] at hx;subst hx;exact⟨n,rfl,hf n hu⟩
 ·exact⟨x,hx,hu,rfl,rfl⟩
theorem g7Z(l:List Ino)(a:Int)(s:List UInt8)(id:Int):Fewer l (putL l a s id):=dfZ l _ _ fun _ h=>⟨h,rfl,rfl⟩
theorem dzZ(l:List Ino)(a:Int)(s:List UInt8):Fewer l (takeL l a s):=dfZ l _ _ fun _ h=>⟨h,rfl,rfl⟩
theorem lEZ(l:List Ino)(a p:Int):Fewer l (parL l a p):=dfZ l _ _ fun _ h=>⟨h,rfl,rfl⟩
theorem f4Z(l:List Ino)(a:Int):Fewer l (dropL l a):=dfZ l _ _ fun _ h=>by cases h
theorem iUZ(l:List Ino)(a:Int)(old:List UInt8)(b:Int)(name:List UInt8)(id:Int):Fewer l (mvL l a old b name id):=((dzZ l _ _).trans (g7Z _ _ _ _)).trans (lEZ _ _ _)
theorem eNZ(t:Tree)(d:Int×Int)(s:List UInt8)(is:Bool):Fewer t.1 (removeF t d s is).1.1:=by
 unfold removeF;have k:=Fewer.refl t.1;split
 ·split
  ·split
   ·exact k
   ·split
    ·exact k
    ·split
     ·exact k
     ·split
      ·exact(dzZ _ _ _).trans (f4Z _ _)
      ·exact k
  ·exact k
 ·exact k
theorem inZ(t:Tree)(a:Int×Int)(old:List UInt8)(b:Int×Int)(name:List UInt8):Fewer t.1 (renameF t a old b name).1.1:=by
 unfold renameF;have k:=Fewer.refl t.1;split
 ·split
  ·split
   ·split
    ·exact k
    ·split
     ·exact k
     ·split
      ·exact k
      ·split
       ·exact k
       ·split
        ·exact k
        ·split
         ·split
          ·exact k
          ·exact iUZ _ _ _ _ _ _
         ·split
          ·exact k
          ·split
           ·exact k
           ·split
            ·exact((dzZ _ _ _).trans (f4Z _ _)).trans (iUZ _ _ _ _ _ _)
            ·exact k
   ·exact k
  ·exact k
 ·exact k
def New(l l':List Ino)(is:Bool)(h:Int×Int):Prop:=∃i:Nat,h.1=(i:Int)+1/\(∀x,l[i]? =some x->x.2.2.1=false)/\
 ∀(j:Nat) y',l'[j]? =some y'->y'.2.2.1=true->(j=i/\y'.2.1=h.2/\y'.2.2.2.1=is)\/(j≠i/\∃y,l[j]? =some y/\y.2.2.1=true/\y.2.1=y'.2.1/\y.2.2.2.1=y'.2.2.2.1)
theorem New.fewer{l l' l'':List Ino}{is:Bool}{h:Int×Int}(a:New l l' is h)(b:Fewer l' l''):New l l'' is h:=by
 obtain⟨i,h1,h2,h3⟩:=a;refine⟨i,h1,h2,fun j y hy hu=> ?_⟩;obtain⟨x,k1,k2,k3,k4⟩:=b j y hy hu;rcases h3 j x k1 k2 with⟨g1,g2,g3⟩|⟨g0,w,g1,g2,g3,g4⟩
 ·exact .inl ⟨g1,k3.symm.trans g2,k4.symm.trans g3⟩
 ·exact .inr ⟨g0,w,g1,g2,g3.trans k3,g4.trans k4⟩
theorem mSZ{l l':List Ino}{dir:Bool}{parent g:Int}{i:Nat}(ha:allocF l dir parent=some (l',i,g)):New l l' dir ((i:Int)+1,g):=by
 unfold allocF at ha;cases hf:freeAt l with
 |none=>
  rw[hf] at ha;simp only at ha;split at ha
  ·simp only[ZAG,ZAp] at ha;obtain⟨rfl,rfl,rfl⟩:=ha;refine⟨l.length,rfl,(fun x hx=>by rw[ZAr (ZAK _)] at hx;cases hx),fun j y hy hu=> ?_⟩;by_cases hj:j<l.length
   ·rw[ZAN hj] at hy;exact .inr ⟨by omega,y,hy,hu,rfl,rfl⟩
   ·rw[ZAV (by omega)] at hy;have hj0:j-l.length=0:=by
     cases hq:j-l.length with
     |zero=>rfl
     |succ q=>rw[hq] at hy;simp at hy
    rw[hj0] at hy;simp only[ZAt,ZAG] at hy;subst hy;exact .inl ⟨by omega,rfl,rfl⟩
  ·cases ha
 |some k=>
  rw[hf] at ha;simp only at ha;obtain⟨hk,hp,_⟩:=ZA0.1 hf;have hg:l[k]? =some l[k]:=ZAE hk;rw[hg] at ha;simp only at ha;split at ha
  ·simp only[ZAG,ZAp] at ha;obtain⟨rfl,rfl,rfl⟩:=ha;refine⟨k,rfl,fun x hx=>by rw[hg] at hx;cases hx;simpa using hp,fun j y hy hu=> ?_⟩;by_cases hj:j=k
   ·subst hj;rw[ZAX hk] at hy;simp only[ZAG] at hy;subst hy;exact .inl ⟨rfl,rfl,rfl⟩
   ·rw[ZAT (by omega)] at hy;exact .inr ⟨hj,y,hy,hu,rfl,rfl⟩
  ·cases ha
theorem kKZ(t:Tree)(d:Int×Int)(s:List UInt8)(is:Bool)(h:(makeF t d s is).2.2=0):New t.1 (makeF t d s is).1.1 is (makeF t d s is).2.1:=by
 unfold makeF at h⊢;split at h
 ·rename_i h1;rw[ZAO h1] at⊢;split at h
  ·rename_i h2;rw[ZAO h2];split at h
   ·cases h
   ·rename_i n hn;split at h
    ·cases h
    ·rename_i h3;rw[ZAM h3];split at h
     ·cases h
     ·rename_i h4;rw[ZAM h4];split at h
      ·cases h
      ·rename_i l' i g ha;exact(mSZ ha).fewer (g7Z _ _ _ _)
  ·cases h
 ·rename_i h1;exact absurd h h1
theorem erZ{m:Mod}(h:ModelOK m){t':Tree}(hf:Fewer m.1.1 t'.1){hd:Int×Int}{x:Ino}{b:Byt}(hx:IsF (t',madeD t'.1 m.2) hd x b):∃y,IsF m hd y b:=by
 obtain⟨⟨h1,h2,h3,h4⟩,h5,h6⟩:=hx;obtain⟨y,k1,k2,k3,k4⟩:=hf _ x h2 h3;obtain⟨c,hc,_⟩:=h.at k1;rw[bNZ m.2 h2,h3,hc] at h6;cases h6;exact⟨y,⟨h1,k1,k2,k3.trans h4⟩,k4.trans h5,hc⟩
theorem kpZ{m:Mod}(h:ModelOK m){t':Tree}{is:Bool}{n:Int×Int}(hf:New m.1.1 t'.1 is n){hd:Int×Int}{x:Ino}{b:Byt}(hx:IsF (t',madeD t'.1 m.2) hd x b):(hd=n/\b=[]/\is=false)\/(hd≠n/\∃y,IsF m hd y b):=by
 obtain⟨⟨h1,h2,h3,h4⟩,h5,h6⟩:=hx;obtain⟨i,g1,g2,g3⟩:=hf;rcases g3 _ x h2 h3 with⟨k1,k2,k3⟩|⟨k0,y,k1,k2,k3,k4⟩
 ·refine .inl ⟨Prod.ext (by omega) (by rw[<-h4,k2]),?_,by rw[<-k3,h5]⟩;rw[bNZ m.2 h2,h3] at h6;rw[k1] at h6;cases hm:m.2[i]? with
  |none=>rw[hm] at h6;cases h6;rfl
  |some c=>
   rw[hm] at h6;simp only[ZAF,Option.getD_some,ZAG] at h6;subst h6;have hlt:=(ZAB.1 hm).1;obtain⟨w,hg⟩:∃w,m.1.1[i]? =some w:=⟨_,ZAE (by rw[<-h.n];exact hlt)⟩;have hs:=h.s i _ c hg hm;have hu:=g2 _ hg;rw[((h.t.r.ino i _ hg).bare hu).2.1] at hs;exact ZAR (by omega)
 ·obtain⟨c,hc,_⟩:=h.at k1;rw[bNZ m.2 h2,h3,hc] at h6;cases h6;refine .inr ⟨fun e=> ?_,y,⟨h1,k1,k2,k3.trans h4⟩,k4.trans h5,hc⟩;subst e;omega
theorem kMZ{m:Mod}(h:ModelOK m){h0:Int×Int}(hf:(fileF m h0).2.2=0)(c:Byt){hd:Int×Int}{x:Ino}{b:Byt}(hx:IsF ((putB m h0 c).1,madeD (putB m h0 c).1.1 (putB m h0 c).2) hd x b):(hd=h0/\b=c)\/(hd≠h0/\∃y,IsF m hd y b):=by
 obtain⟨x0,⟨⟨f1,f2,f3,f4⟩,f5,f6⟩,_⟩:=bfZ hf;obtain⟨⟨h1,h2,h3,h4⟩,h5,h6⟩:=hx;rw[bNZ _ h2,h3] at h6;have hlt:=(ZAB.1 f2).1;have e:(putB m h0 c).1.1=m.1.1.set (h0.1-1).toNat (x0.1,x0.2.1,x0.2.2.1,x0.2.2.2.1,((c.length:Nat):Int),x0.2.2.2.2.2):=by
  show setSize m.1.1 h0 _=_;unfold setSize;rw[f2]
 have e2:(putB m h0 c).2=m.2.set (h0.1-1).toNat c:=rfl;dsimp only at h2;rw[e] at h2;rw[e2] at h6;by_cases hi:(hd.1-1).toNat=(h0.1-1).toNat
 ·rw[hi,ZAX hlt] at h2;cases h2;rw[hi,ZAX (by rw[h.n];exact hlt)] at h6;cases h6;exact .inl ⟨Prod.ext (by omega) (by rw[<-h4,<-f4]),rfl⟩
 ·rw[ZAT (fun q=>hi q.symm)] at h2 h6;obtain⟨w,hw,_⟩:=h.at h2;rw[hw] at h6;cases h6;exact .inr ⟨fun q=>hi (by rw[q]),x,⟨h1,h2,h3,h4⟩,h5,hw⟩
theorem jwZ{m:Mod}{c:CallT}(h:(resF m c).2.1≠0):(resF m c).1=m/\(resF m c).2.2=rep0:=by
 unfold resF at h⊢;split
 ·rename_i h1;rw[ZAO h1] at h;split
  ·rename_i h2;rw[ZAO h2] at h;exact absurd rfl h
  ·exact⟨rfl,rfl⟩
 ·exact⟨rfl,rfl⟩
theorem hKZ{m:Mod}{c:CallT}(h:(resF m c).2.1=0):rightCall c=true/\(actF m c).1=0/\resF m c=(((actF m c).2.1.1,madeD (actF m c).2.1.1.1 (actF m c).2.1.2),0,(actF m c).2.2):=by
 unfold resF at h⊢;split at h
 ·rename_i h1;split at h
  ·rename_i h2;rw[ZAO h1,ZAO h2];exact⟨h1,h2,rfl⟩
  ·rename_i h2;exact absurd h h2
 ·cases h
end Go.Ab.D
set_option maxRecDepth 100000
set_option maxHeartbeats 4000000
namespace Go.Ab.D
open Go Go.Ab
def errB(e:Int):Prop:=0<=e/\e<=1000
theorem iwZ(l:List Ino)(h:Int×Int):errB (dirE l h):=by
 unfold dirE errB
 repeat' split
 all_goals omega
theorem pjZ(d:Bool)(n:Ino):errB (misE d n):=by
 unfold misE errB
 repeat' split
 all_goals omega
theorem p7Z(t:Tree)(d:Int×Int)(s:Byt):errB (lookF t d s).1:=by
 unfold lookF
 repeat' split
 all_goals first|exact iwZ _ _|(unfold errB;dsimp only;omega)
theorem qjZ(t:Tree)(d:Int×Int)(s:List UInt8)(is:Bool):errB (makeF t d s is).2.2:=by
 unfold makeF
 repeat' split
 all_goals first|exact iwZ _ _|(unfold errB;dsimp only;omega)
theorem n9Z(t:Tree)(d:Int×Int)(s:List UInt8)(is:Bool):errB (removeF t d s is).2.2:=by
 unfold removeF
 repeat' split
 all_goals first|exact iwZ _ _|exact pjZ _ _|(unfold errB;dsimp only;omega)
theorem mCZ(t:Tree)(a:Int×Int)(old:List UInt8)(b:Int×Int)(name:List UInt8):errB (renameF t a old b name).2.2:=by
 unfold renameF
 repeat' split
 all_goals first|exact iwZ _ _|exact pjZ _ _|(unfold errB;dsimp only;omega)
theorem qgZ(t:Tree)(d:Int×Int)(s:Byt)(most:Int):errB (listF t d s most).1:=by
 unfold listF
 repeat' split
 all_goals first|exact iwZ _ _|(unfold errB;dsimp only;omega)
theorem jtZ(m:Mod)(h:Int×Int):errB (fileF m h).2.2:=by
 unfold fileF;cases getF m.1.1 h with
 |none=>exact⟨by dsimp only;omega,by dsimp only;omega⟩
 |some x=>
  dsimp only;cases x.2.2.2.1 with
  |true=>exact⟨by dsimp only[cond_true];omega,by dsimp only[cond_true];omega⟩
  |false=>
   cases m.2[(h.1-1).toNat]? with
   |none=>exact⟨by dsimp only[cond_false];omega,by dsimp only[cond_false];omega⟩
   |some b=>exact⟨by dsimp only[cond_false];omega,by dsimp only[cond_false];omega⟩
theorem ePZ{α:Type}{p:α->Prop}{c:Prop} [Decidable c]{x y:α}(hx:p x)(hy:p y):p (if c then x else y):=by
 split
 ·exact hx
 ·exact hy
theorem pDZ{m:Mod}{c:CallT}{p:DoR->Prop}(l1:p (lookA m c))(l2:p (makeA m c))(l4:p (readA m c))(l5:p (writeA m c))(l6:p (sizeA m c))(l7:p (removeA m c))(l9:p (renameA m c))(l10:p (listA m c))(l11:p (getA m c))(l12:p (statA m))(l13:p (179,m,rep0)):p (actF m c):=
 ePZ l1 (ePZ l2 (ePZ l2 (ePZ l4 (ePZ l5 (ePZ l6 (ePZ l7 (ePZ l7 (ePZ l9 (ePZ l10 (ePZ l11 (ePZ l12 l13)))))))))))
theorem rqZ(m:Mod)(c:CallT):errB (actF m c).1:=by
 have z:errB 0:=⟨by omega,by omega⟩;have q:errB 170:=⟨by omega,by omega⟩;have q7:errB 177:=⟨by omega,by omega⟩;have l1:errB (lookA m c).1:=by unfold lookA;(repeat' split)<;>first|exact z|exact q|exact p7Z _ _ _
 have l2:errB (makeA m c).1:=by unfold makeA;split<;>first|exact z|exact qjZ _ _ _ _
 have l3:errB (removeA m c).1:=by unfold removeA;split<;>first|exact z|exact n9Z _ _ _ _
 have l4:errB (renameA m c).1:=by unfold renameA;split<;>first|exact z|exact mCZ _ _ _ _ _
 have l5:errB (listA m c).1:=qgZ _ _ _ _;have l6:errB (getA m c).1:=by unfold getA;split<;>first|exact z|exact q
 have l7:errB (readA m c).1:=by unfold readA;split<;>first|exact z|exact jtZ _ _
 have l8:errB (sizeA m c).1:=by unfold sizeA;(repeat' split)<;>first|exact z|exact q7|exact jtZ _ _
 have l9:errB (writeA m c).1:=by unfold writeA;(repeat' split)<;>first|exact z|exact q7|exact jtZ _ _
 exact pDZ (p:=fun q=>errB q.1) l1 l2 l7 l9 l8 l3 l4 l5 l6 z ⟨by omega,by omega⟩
end Go.Ab.D
set_option maxRecDepth 100000
set_option maxHeartbeats 4000000
namespace Go.Ab.D
open Go Go.Ab
def okRep(r:Rep):Prop:=(noneB r.1||handleB r.1)=true/\(0<=r.2.2.1/\r.2.2.1<=65536)/\(0<=r.2.2.2.2.2.2/\r.2.2.2.2.2.2<=500)/\(∀e∈r.2.2.2.2.1,entOk e=true)/\r.2.2.2.1.length<=4096/\r.2.2.2.2.1.length<=100
theorem j6Z:okRep rep0:=⟨rfl,⟨by decide,by decide⟩,⟨by decide,by decide⟩,fun e h=>by simp[rep0] at h,by simp[rep0],by simp[rep0]⟩
theorem dZZ{a b:Int}(h1:1<=a/\a<=500)(h2:1<=b/\b<=1099511627776):handleB (a,b)=true:=ZAS ⟨h1.1,h1.2,h2.1,h2.2⟩
theorem ewZ{t:Tree}(ht:TreeOK t){h:Int×Int}{n:Ino}(hn:IsH t.1 h n):handleB h=true:=by
 obtain⟨_,h1,h2⟩:=kxZ ht hn;have h3:=ht.r.len.2;have h4:=(ht.r.ino _ n hn.2.1).gen;rw[hn.2.2.2] at h4;exact dZZ (a:=h.1) (b:=h.2) ⟨h1,by omega⟩ h4
theorem pTZ{t:Tree}(ht:TreeOK t){d:Int×Int}{s:Byt}(h:(lookF t d s).1=0):handleB (lookF t d s).2=true/\∃x,t.1[((lookF t d s).2.1-1).toNat]? =some x:=by
 obtain⟨h1,h2,hx⟩:=(mjZ ht d s).2 h;refine⟨?_,hx⟩;have h3:=ht.r.len.2;refine dZZ (a:=(lookF t d s).2.1) (b:=(lookF t d s).2.2) ⟨h1,by omega⟩ ?_;clear h1 h2 hx h3;unfold lookF at h⊢;split at h
 ·rename_i q1;rw[ZAO q1];split at h
  ·rename_i q2;rw[ZAO q2];split at h
   ·cases h
   ·split at h
    ·cases h
    ·split at h
     ·cases h
     ·rename_i x hx;exact(ht.r.ino _ x hx).gen
  ·cases h
 ·rename_i q1;exact absurd h q1
theorem nbZ{t:Tree}(ht:TreeOK t){d:Int×Int}{s:List UInt8}{is:Bool}(h:(makeF t d s is).2.2=0):handleB (makeF t d s is).2.1=true:=by
 have hl:=ht.r.len.2;unfold makeF at h⊢;split at h
 ·rename_i h1;rw[ZAO h1];split at h
  ·rename_i h2;rw[ZAO h2];split at h
   ·cases h
   ·split at h
    ·cases h
    ·rename_i h3;rw[ZAM h3];split at h
     ·cases h
     ·rename_i h4;rw[ZAM h4];split at h
      ·cases h
      ·rename_i l' i g ha;unfold allocF at ha;cases hf:freeAt t.1 with
       |none=>
        rw[hf] at ha;simp only at ha;split at ha
        ·simp only[ZAG,ZAp] at ha;obtain⟨rfl,rfl,rfl⟩:=ha;exact dZZ ⟨by omega,by omega⟩ ⟨by omega,by omega⟩
        ·cases ha
       |some k=>
        rw[hf] at ha;simp only at ha;cases hg:t.1[k]? with
        |none=>rw[hg] at ha;cases ha
        |some n=>
         rw[hg] at ha;simp only at ha;have hk:=(ZAB.1 hg).1;have hgen:=(ht.r.ino _ n hg).gen;split at ha
         ·simp only[ZAG,ZAp] at ha;obtain⟨rfl,rfl,rfl⟩:=ha;exact dZZ ⟨by omega,by omega⟩ ⟨by omega,by omega⟩
         ·cases ha
  ·cases h
 ·rename_i h1;exact absurd h h1
theorem gyZ{many:Int}(hm:many<=500):∀(l:List Ent) (last:List UInt8),okEnts many last l->∀e∈l,entOk e=true
 |[],_,_,e,he=>by cases he
 |a::l,last,h,e,he=>by
  rw[byZ] at h;obtain⟨h1,h2,_,h3,h4,h5⟩:=h;rcases ZAU.1 he with rfl|he
  ·exact ZAS ⟨h1,by omega,h3,by omega⟩
  ·exact gyZ hm l _ h5 e he
theorem oBZ{t:Tree}(ht:TreeOK t){d:Int×Int}{s:Byt}{most:Int}:(∀e∈(listF t d s most).2.2,entOk e=true)/\(listF t d s most).2.2.length<=100:=by
 have hl:=ht.r.len.2;have z:(∀e∈([]:List Ent),entOk e=true)/\([]:List Ent).length<=100:=⟨fun e h=>by simp at h,by simp⟩;rcases boZ t.1 d with⟨n,hn⟩|⟨hb,_⟩
 ·unfold listF;rw[ZAO (b8Z hn)];split
  ·exact z
  ·rw[hn.1.2.1];obtain⟨_,_,h3,h4⟩:=(ht.r.ino _ n hn.1.2.1).dir hn.1.2.2.1 hn.2;dsimp only;have hs:∀e∈(behind n.2.2.2.2.2.2.2 s).take most.toNat,e∈n.2.2.2.2.2.2.2:=fun e he=>ZB1 (ZBl he);refine⟨fun e he=>gyZ (by omega) _ _ h4 e (hs e he),?_⟩;unfold behind;rw[ZAW,ZAy];omega
 ·unfold listF;rw[ZAM hb];exact z
theorem olZ(b:Byt)(off n:Int)(ho:0<=off)(hn:0<=n):(readL b off n).length<=n.toNat:=by
 unfold readL;rw[ZAy,ZAW];omega
theorem p3Z{c:CallT}(hr:rightCall c=true):c.2.2.2.2.2.2.2.2.1<=(shapeN c.2.2.1.toNat).2.2.2.2.1:=by
 unfold rightCall rightS at hr;simp only[ZAD,ZAf] at hr;exact hr.2.2.2.2.2.2.2.2.1.2
theorem mOZ{c:CallT}(hr:rightCall c=true):whoseB c.1 c.2.1=true:=by
 unfold rightCall rightS at hr;simp only[ZAD,ZAf] at hr;exact hr.2.1
theorem nUZ(l:List Ino):usedN l<=l.length:=List.countP_le_length
theorem nxZ{m:Mod}(h:ModelOK m){c:CallT}(hr:rightCall c=true)(h0:(actF m c).1=0):okRep (actF m c).2.2:=by
 obtain⟨ho,hn,hbs⟩:=aGZ hr;have e0:(∀e∈([]:List Ent),entOk e=true):=fun e h=>by simp at h
 have b0:([]:Byt).length<=4096:=by simp
 have l0:([]:List Ent).length<=100:=by simp
 have fz:(0:Int)<=0/\(0:Int)<=500:=⟨by decide,by decide⟩;have sz:(0:Int)<=0/\(0:Int)<=65536:=⟨by decide,by decide⟩;rcases haZ hr with e|e|e|e|e|e|e|e|e|e|e|e
 all_goals unfold actF at h0⊢;rw[e] at h0⊢
 ·show okRep (lookA m c).2.2
  replace h0:(lookA m c).1=0:=h0
  unfold lookA at h0⊢;split at h0
  ·rename_i h1;rw[ZAO h1];obtain⟨g1,x,g2⟩:=pTZ h.t h1;rw[g2];have:=jCZ h.t g2;exact⟨by rw[g1];simp,⟨this.1,this.2.1⟩,fz,e0,b0,l0⟩
  ·rename_i h1;exact absurd h0 h1
 ·show okRep (makeA m c).2.2
  replace h0:(makeA m c).1=0:=h0
  unfold makeA at h0⊢;split at h0
  ·rename_i h1;rw[ZAO h1];exact⟨by rw[nbZ h.t h1];simp,sz,fz,e0,b0,l0⟩
  ·rename_i h1;exact absurd h0 h1
 ·show okRep (makeA m c).2.2
  replace h0:(makeA m c).1=0:=h0
  unfold makeA at h0⊢;split at h0
  ·rename_i h1;rw[ZAO h1];exact⟨by rw[nbZ h.t h1];simp,sz,fz,e0,b0,l0⟩
  ·rename_i h1;exact absurd h0 h1
 ·show okRep (readA m c).2.2
  replace h0:(readA m c).1=0:=h0
  unfold readA at h0⊢;split at h0
  ·rename_i h1;rw[ZAO h1];obtain⟨x,⟨hx,hd,hb⟩,_⟩:=bfZ h1;have hbl:=h.byt hb;have hn4:=p3Z hr;rw[e] at hn4;have hn5:c.2.2.2.2.2.2.2.2.1<=4096:=hn4;have:=olZ (fileF m c.2.2.2.1).2.1 c.2.2.2.2.2.2.2.1 c.2.2.2.2.2.2.2.2.1 ho.1 hn.1;exact⟨rfl,⟨by dsimp only;omega,by dsimp only;omega⟩,fz,e0,by dsimp only;omega,l0⟩
  ·rename_i h1;exact absurd h0 h1
 ·show okRep (writeA m c).2.2
  replace h0:(writeA m c).1=0:=h0
  unfold writeA at h0⊢;split at h0
  ·rename_i h1;rw[ZAO h1];obtain⟨x,⟨hx,hd,hb⟩,_⟩:=bfZ h1;have hbl:=h.byt hb;split at h0
   ·cases h0
   ·rename_i h2;rw[ZAM h2];have hw:writeN (fileF m c.2.2.2.1).2.1 c.2.2.2.2.2.2.2.1 c.2.2.2.2.2.2.2.2.2<=65536:=by
     unfold writeN;split<;>omega
    exact⟨by rw[ewZ h.t hx];simp,⟨by dsimp only;omega,by dsimp only;omega⟩,fz,e0,b0,l0⟩
  ·rename_i h1;exact absurd h0 h1
 ·show okRep (sizeA m c).2.2
  replace h0:(sizeA m c).1=0:=h0
  unfold sizeA at h0⊢;split at h0
  ·rename_i h1;rw[ZAO h1];obtain⟨x,⟨hx,hd,hb⟩,_⟩:=bfZ h1;split at h0
   ·cases h0
   ·rename_i h2;rw[ZAM h2];exact⟨by rw[ewZ h.t hx];simp,⟨by dsimp only;omega,by dsimp only;omega⟩,fz,e0,b0,l0⟩
  ·rename_i h1;exact absurd h0 h1
 ·show okRep (removeA m c).2.2;unfold removeA;split<;>exact j6Z
 ·show okRep (removeA m c).2.2;unfold removeA;split<;>exact j6Z
 ·show okRep (renameA m c).2.2;unfold renameA;split<;>exact j6Z
 ·show okRep (listA m c).2.2;obtain⟨g1,g2⟩:=oBZ h.t (d:=c.2.2.2.1) (s:=c.2.2.2.2.1) (most:=c.2.2.2.2.2.2.2.2.1);exact⟨rfl,sz,fz,g1,b0,g2⟩
 ·show okRep (getA m c).2.2
  replace h0:(getA m c).1=0:=h0
  unfold getA at h0⊢;split at h0
  ·rename_i x hx;have hH:=cNZ.1 hx;have:=jCZ h.t hH.2.1;exact⟨by rw[ewZ h.t hH];simp,⟨this.1,this.2.1⟩,fz,e0,b0,l0⟩
  ·cases h0
 ·show okRep (statA m).2.2;have:=nUZ m.1.1;have:=h.len;unfold statA;exact⟨rfl,sz,⟨by dsimp only;omega,by dsimp only;omega⟩,e0,b0,l0⟩
theorem iAZ{m:Mod}(h:ModelOK m){c:CallT}(hr:rightCall c=true):rightReply (repT (resF m c) c)=true:=by
 have hw:=mOZ hr;have hb:=rqZ m c;by_cases h0:(actF m c).1=0
 ·have hk:=nxZ h hr h0;have e:resF m c=(((actF m c).2.1.1,madeD (actF m c).2.1.1.1 (actF m c).2.1.2),0,(actF m c).2.2):=by unfold resF;rw[ZAO hr,ZAO h0]
  rw[e];generalize (actF m c).2.2=r at hk;obtain⟨⟨r1,r2⟩,r3,r4,r5,r6,r7,r8⟩:=r;obtain⟨k1,k2,k3,k4,k5,k6⟩:=hk;unfold rightReply repT;dsimp only at k1 k2 k3 k4 k5 k6⊢;rw[hw,k1,ZAS (show(0:Int)<=0/\(0:Int)<=1000 by omega),ZAM (by simp),ZAS k2,ZAS (show 0<=r8/\r8<=1099511627776 by omega),ZBk.2 k4,ZAS k5,ZAS k6]
  rfl
 ·have e:resF m c=(m,(actF m c).1,rep0):=by unfold resF;rw[ZAO hr,ZAM h0]
  rw[e];unfold rightReply repT;dsimp only[rep0];rw[hw,ZAS (show 0<=(actF m c).1/\(actF m c).1<=1000 from hb),ZAO h0]
  rfl
end Go.Ab.D
set_option maxRecDepth 100000
set_option maxHeartbeats 4000000
namespace Go.Ab.D
open Go Go.Ab
abbrev KHd:Ty:=.pair (.int .i64) (.int .i64)
abbrev VRf:Ty:=.ref 4 .byte
abbrev RefB:=Byt⊕Option (Nat×(Nat×Nat))
abbrev FMap:=List (((Int×Int)×RefB)×Nat)×Nat
abbrev Mems:=List (Nat×Byt)
def fget(f:FMap)(h:Int×Int):RefB:=Option.getD (mget (k:=KHd) (v:=VRf) f h) (.inr none)
def fput(f:FMap)(h:Int×Int)(x:RefB):FMap:=mput (k:=KHd) (v:=VRf) f h x
theorem keyH:KeyEq KHd:=lCZ (dKZ _) (dKZ _)
theorem b2Z(f:FMap)(h:Int×Int)(x:RefB):fget (fput f h x) h=x:=by
 unfold fget fput;rw[hSZ keyH]
 rfl
theorem aEZ(f:FMap)(h:Int×Int)(x:RefB){g:Int×Int}(hg:g≠h):fget (fput f h x) g=fget f g:=by
 unfold fget fput;rw[eIZ keyH _ _ _ hg]
structure FI (f:FMap) (ms:Mems):Prop where
 at_:∀h k off n,fget f h= .inr (some (k,(off,n)))->off=0/\∃l,ms[k]? =some (1,l)/\n=l.length/\l.length<=65536
 no:∀h b,fget f h≠.inl b
 one:∀h h' k off n off' n',fget f h= .inr (some (k,(off,n)))->fget f h'= .inr (some (k,(off',n')))->h=h'
def FV(f:FMap)(ms:Mems)(h:Int×Int):Byt:=
 match fget f h with
 |.inr (some x)=>(ms[x.1]?.map (·.2)).getD []
 |_=>[]
theorem FI.cases{f:FMap}{ms:Mems}(h:FI f ms)(hd:Int×Int):(fget f hd= .inr none/\FV f ms hd=[])\/∃k,fget f hd= .inr (some (k,(0,(FV f ms hd).length)))/\ms[k]? =some (1,FV f ms hd)/\(FV f ms hd).length<=65536:=by
 cases hx:fget f hd with
 |inl b=>exact absurd hx (h.no hd b)
 |inr o=>
  cases o with
  |none=>exact .inl ⟨rfl,by unfold FV;rw[hx]⟩
  |some x=>
   obtain⟨k,off,n⟩:=x;obtain⟨rfl,l,h1,rfl,h2⟩:=h.at_ hd k off n hx;have e:FV f ms hd=l:=by unfold FV;rw[hx];simp only;rw[h1];rfl
   rw[e];exact .inr ⟨k,rfl,h1,h2⟩
theorem FI.len{f:FMap}{ms:Mems}(h:FI f ms)(hd:Int×Int):(FV f ms hd).length<=65536:=by
 rcases h.cases hd with⟨_,e⟩|⟨_,_,_,e⟩
 ·rw[e];simp
 ·exact e
theorem FI.refLen{f:FMap}{ms:Mems}(h:FI f ms)(hd:Int×Int):refLen (s:=.byte) (fget f hd)=(FV f ms hd).length:=by
 rcases h.cases hd with⟨e1,e2⟩|⟨k,e1,_,_⟩
 ·rw[e1,e2];rfl
 ·rw[e1];rfl
theorem FI.nil:FI ([],0) []:=⟨fun h k off n e=>(by cases e),fun h b e=>(by cases e),fun h h' k off n off' n' e=>(by cases e)⟩
theorem FI.none{f:FMap}{ms:Mems}(h:FI f ms)(hd:Int×Int):FI (fput f hd (.inr none)) ms/\FV (fput f hd (.inr none)) ms hd=[]/\∀g,g≠hd->FV (fput f hd (.inr none)) ms g=FV f ms g:=by
 refine⟨⟨fun g k off n e=> ?_,fun g b e=> ?_,fun g g' k off n off' n' e e'=> ?_⟩,by unfold FV;rw[b2Z],fun g hg=>by unfold FV;rw[aEZ _ _ _ hg]⟩
 ·by_cases q:g=hd
  ·subst q;rw[b2Z] at e;cases e
  ·rw[aEZ _ _ _ q] at e;exact h.at_ g k off n e
 ·by_cases q:g=hd
  ·subst q;rw[b2Z] at e;cases e
  ·rw[aEZ _ _ _ q] at e;exact h.no g b e
 ·by_cases q:g=hd
  ·subst q;rw[b2Z] at e;cases e
  ·by_cases q':g'=hd
   ·subst q';rw[b2Z] at e';cases e'
   ·rw[aEZ _ _ _ q] at e;rw[aEZ _ _ _ q'] at e';exact h.one g g' k off n off' n' e e'
theorem FI.over{f:FMap}{ms:Mems}(h:FI f ms)(hd:Int×Int):∃ms',openM ms (fget f hd)=some (FV f ms hd,ms')/\
 ∀b:Byt,b.length<=65536->FI (fput f hd (.inr (some (ms'.length,(0,b.length))))) (ms'++[(1,b)])/\FV (fput f hd (.inr (some (ms'.length,(0,b.length))))) (ms'++[(1,b)]) hd=b/\
  ∀g,g≠hd->FV (fput f hd (.inr (some (ms'.length,(0,b.length))))) (ms'++[(1,b)]) g=FV f ms g:=by
 have key:∃ms':Mems,openM ms (fget f hd)=some (FV f ms hd,ms')/\ms'.length=ms.length/\∀g,g≠hd->∀k off n,fget f g= .inr (some (k,(off,n)))->ms'[k]? =ms[k]? :=by
  rcases h.cases hd with⟨e1,e2⟩|⟨k,e1,e2,e3⟩
  ·rw[e1,e2];exact⟨ms,rfl,rfl,fun _ _ _ _ _ _=>rfl⟩
  ·refine⟨ms.set k (0,FV f ms hd),?_,by rw[ZAw],fun g hg k' off n e=> ?_⟩
   ·rw[e1];unfold openM;dsimp only;rw[e2,ZAA];dsimp only;refine(abZ (by simp)).trans ?_;rw[ZA7]
   ·rw[ZAT];intro q;subst q;exact hg (h.one g hd k off n 0 _ e e1)
 obtain⟨ms',h1,h2,h3⟩:=key;refine⟨ms',h1,fun b hb=> ?_⟩;have old:∀g,g≠hd->∀k off n,fget f g= .inr (some (k,(off,n)))->(ms'++[(1,b)])[k]? =ms[k]? :=fun g hg k off n e=>by
  obtain⟨_,l,q1,_⟩:=h.at_ g k off n e;have hk:=(ZAB.1 q1).1;rw[ZAN (by omega),h3 g hg k off n e]
 have new:(ms'++[(1,b)])[ms'.length]? =some (1,b):=by simp
 refine⟨⟨fun g k off n e=> ?_,fun g c e=> ?_,fun g g' k off n off' n' e e'=> ?_⟩,?_,fun g hg=> ?_⟩
 ·by_cases q:g=hd
  ·subst q;rw[b2Z] at e;cases e;exact⟨rfl,b,new,rfl,hb⟩
  ·rw[aEZ _ _ _ q] at e;rw[old g q k off n e];exact h.at_ g k off n e
 ·by_cases q:g=hd
  ·subst q;rw[b2Z] at e;cases e
  ·rw[aEZ _ _ _ q] at e;exact h.no g c e
 ·have lt:∀g,g≠hd->∀k off n,fget f g= .inr (some (k,(off,n)))->k<ms'.length:=fun g hg k off n e=>by
   obtain⟨_,l,q1,_⟩:=h.at_ g k off n e;have hk:=(ZAB.1 q1).1;omega
  by_cases q:g=hd
  ·by_cases q':g'=hd
   ·rw[q,q']
   ·subst q;rw[b2Z] at e;rw[aEZ _ _ _ q'] at e';cases e;have:=lt g' q' _ _ _ e';omega
  ·by_cases q':g'=hd
   ·subst q';rw[b2Z] at e';rw[aEZ _ _ _ q] at e;cases e';have:=lt g q _ _ _ e;omega
   ·rw[aEZ _ _ _ q] at e;rw[aEZ _ _ _ q'] at e';exact h.one g g' k off n off' n' e e'
 ·unfold FV;rw[b2Z];simp only;rw[new]
  rfl
 ·unfold FV;rw[aEZ _ _ _ hg];cases hx:fget f g with
  |inl c=>rfl
  |inr o=>
   cases o with
   |none=>rfl
   |some x=>
    simp only;rw[old g hg x.1 x.2.1 x.2.2 hx]
theorem FI.part{f:FMap}{ms:Mems}(h:FI f ms)(hd:Int×Int){q n:Nat}(hq:q+n<=(FV f ms hd).length):
 unrefD [⟨4,.byte,(List.map frz1 ms)⟩] (.ref 4 .byte) (refSub (α:=UInt8) (fget f hd) q n)=some (((FV f ms hd).take (q+n)).drop q):=by
 rcases h.cases hd with⟨e1,e2⟩|⟨k,e1,e2,e3⟩
 ·rw[e1,e2];show some []=_;simp
 ·rw[e1];show unrefD _ (.ref 4 .byte) (bq (Nat.beq n 0) (.inl []) (.inr (some (k,(0+q,n)))))=_;cases hn:Nat.beq n 0 with
  |true=>
   have:n=0:=Nat.eq_of_beq_eq_true hn;subst this;show some []=_;simp
  |false=>
   have h2:(List.map frz1 ms)[k]? =some (2,FV f ms hd):=by rw[ZAa,e2];rfl
   show memb (List.map frz1 ms) k (0+q) n=_;generalize FV f ms hd=b at*;unfold memb;rw[h2,ZAm];dsimp only;rw[ZAg hq,show(Nat.ble 2 2&&true)=true from rfl,bq_true,List.drop_take];congr 2;omega
end Go.Ab.D
set_option maxRecDepth 100000
set_option maxHeartbeats 4000000
namespace Go.Ab.D
open Go Go.Ab
def FOK(m:Mod)(f:FMap)(ms:Mems):Prop:=FI f ms/\∀h x b,IsF m h x b->FV f ms h=b
theorem kQZ(b:Byt)(k:Nat):b++List.replicate (k+1) (0:UInt8)=(b++List.replicate k 0)++[UInt8.ofNat 0]:=by
 rw[List.replicate_succ',ZAv];rfl
theorem otZ(b:Byt)(n:Nat)(h:b.length<=n):b++List.replicate (n-b.length) (0:UInt8)=sizedL b n:=by
 unfold sizedL;rw[ZAs h]
theorem dpZ{n:Nat}(h:n<=100000):(Nat.ble (n*1) room&&Nat.ble n room)=true:=by
 rw[Nat.mul_one,ciZ (show n<=room by unfold room;omega)]
 rfl
theorem qHZ(f:FMap)(c:CallT)(r:ReplyT)(b:Byt)(ms:Mems)(hb:b.length<=65536)(ho:0<=c.2.2.2.2.2.2.2.1)(hl:c.2.2.2.2.2.2.2.1+((c.2.2.2.2.2.2.2.2.2.length:Nat):Int)<=65536):
 law22_ModelReads_1__cm_l0_it fuel (f,([c],([r],(b,ms))))=some (f,([c],([r],(sizedL b (writeN b c.2.2.2.2.2.2.2.1 c.2.2.2.2.2.2.2.2.2),ms)))):=by
 have hN:b.length<=writeN b c.2.2.2.2.2.2.2.1 c.2.2.2.2.2.2.2.2.2:=by unfold writeN;omega
 have hN2:writeN b c.2.2.2.2.2.2.2.1 c.2.2.2.2.2.2.2.2.2<=65536:=by unfold writeN;split<;>omega
 delta law22_ModelReads_1__cm_l0_it
 rw[<-otZ b _ hN];have:=aLZ (f:=fun tt:FMap×(List CallT×(List ReplyT×(Byt×Mems)))=>law22_ModelReads_1__cm_l0 fuel tt.1 tt.2.1 tt.2.2.1 tt.2.2.2.1 tt.2.2.2.2)
  (o:=(f,([c],([r],(b++List.replicate (writeN b c.2.2.2.2.2.2.2.1 c.2.2.2.2.2.2.2.2.2-b.length) 0,ms)))))
  (fun k=>(f,([c],([r],(b++List.replicate k 0,ms))))) (writeN b c.2.2.2.2.2.2.2.1 c.2.2.2.2.2.2.2.2.2-b.length) (by omega) (by
   intro k hk;have hlen:(b++List.replicate k (0:UInt8)).length=b.length+k:=by simp
   have hpos:¬c.2.2.2.2.2.2.2.2.2.length=0:=fun h=>by unfold writeN at hk;rw[ZAO h] at hk;omega
   have hlt:b.length+k<c.2.2.2.2.2.2.2.1.toNat+c.2.2.2.2.2.2.2.2.2.length:=by unfold writeN at hk;rw[ZAM hpos] at hk;omega
   dsimp only;rw[kQZ];generalize b++List.replicate k (0:UInt8)=d at*
   delta law22_ModelReads_1__cm_l0
   simp only[ZAt,ZAA];rw[ZAS (show((c.2.2.2.2.2.2.2.2.2.length:Nat):Int)>0 by omega),ZAF,ZAA,w64 (by omega),ZAS (by omega)];simp only[ZAF];exact(abZ (dpZ (by omega))).trans rfl) (by
   have hlen:(b++List.replicate (writeN b c.2.2.2.2.2.2.2.1 c.2.2.2.2.2.2.2.2.2-b.length) (0:UInt8)).length=writeN b c.2.2.2.2.2.2.2.1 c.2.2.2.2.2.2.2.2.2:=by simp;omega
   dsimp only;generalize b++List.replicate (writeN b c.2.2.2.2.2.2.2.1 c.2.2.2.2.2.2.2.2.2-b.length) (0:UInt8)=d at*
   delta law22_ModelReads_1__cm_l0
   simp only[ZAt,ZAA];by_cases h0:c.2.2.2.2.2.2.2.2.2.length=0
   ·rw[ZAL (show¬((c.2.2.2.2.2.2.2.2.2.length:Nat):Int)>0 by omega)]
    rfl
   ·have hw:writeN b c.2.2.2.2.2.2.2.1 c.2.2.2.2.2.2.2.2.2=max b.length (c.2.2.2.2.2.2.2.1.toNat+c.2.2.2.2.2.2.2.2.2.length):=by unfold writeN;rw[ZAM h0]
    rw[ZAS (show((c.2.2.2.2.2.2.2.2.2.length:Nat):Int)>0 by omega),ZAF,ZAA,w64 (by omega),ZAL (by omega)]
    rfl)
 simpa using this
theorem qJZ(f:FMap)(c:CallT)(r:ReplyT)(b:Byt)(ms:Mems)(hb:b.length<=65536)(hn:0<=c.2.2.2.2.2.2.2.2.1/\c.2.2.2.2.2.2.2.2.1<=65536):
 law22_ModelReads_1__cm_l1_it fuel (f,([c],([r],(b,ms))))=some (f,([c],([r],(b++List.replicate (c.2.2.2.2.2.2.2.2.1.toNat-b.length) 0,ms)))):=by
 delta law22_ModelReads_1__cm_l1_it
 have:=aLZ (f:=fun tt:FMap×(List CallT×(List ReplyT×(Byt×Mems)))=>law22_ModelReads_1__cm_l1 fuel tt.1 tt.2.1 tt.2.2.1 tt.2.2.2.1 tt.2.2.2.2)
  (o:=(f,([c],([r],(b++List.replicate (c.2.2.2.2.2.2.2.2.1.toNat-b.length) 0,ms)))))
  (fun k=>(f,([c],([r],(b++List.replicate k 0,ms))))) (c.2.2.2.2.2.2.2.2.1.toNat-b.length) (by omega) (by
   intro k hk;have hlen:(b++List.replicate k (0:UInt8)).length=b.length+k:=by simp
   dsimp only;rw[kQZ];generalize b++List.replicate k (0:UInt8)=d at*
   delta law22_ModelReads_1__cm_l1
   simp only[ZAt,ZAA];rw[ZAS (by omega),ZAF];exact(abZ (dpZ (by omega))).trans rfl) (by
   have hlen:(b++List.replicate (c.2.2.2.2.2.2.2.2.1.toNat-b.length) (0:UInt8)).length=b.length+(c.2.2.2.2.2.2.2.2.1.toNat-b.length):=by simp
   dsimp only;generalize b++List.replicate (c.2.2.2.2.2.2.2.2.1.toNat-b.length) (0:UInt8)=d at*
   delta law22_ModelReads_1__cm_l1
   simp only[ZAt,ZAA];rw[ZAL (by omega)]
   rfl)
 simpa using this
theorem lOZ(b:Byt)(n:Nat):List.take n (List.drop 0 (b++List.replicate (n-b.length) (0:UInt8)))=sizedL b n:=by
 unfold sizedL;rw[ZBY,List.take_append];congr 1;rw[ZAs (by simp)]
theorem rgZ(b:Byt):lSamByt fuel b b=some true:=by
 unfold lSamByt;simp
end Go.Ab.D
set_option maxRecDepth 100000
set_option maxHeartbeats 4000000
namespace Go.Ab.D
open Go Go.Ab
theorem qPZ(L:Nat)(off n:Int)(ho:0<=off)(hn:0<=n):(if(if((L:Nat):Int)<off+n then((L:Nat):Int) else off+n)>(if((L:Nat):Int)<off then((L:Nat):Int) else off) then(if((L:Nat):Int)<off+n then((L:Nat):Int) else off+n) else(if((L:Nat):Int)<off then((L:Nat):Int) else off))=((max (min off.toNat L) (min (off+n).toNat L):Nat):Int):=by
 repeat' split
 all_goals omega
theorem kfZ(L:Nat)(off:Int)(ho:0<=off):(if((L:Nat):Int)<off then((L:Nat):Int) else off)=((min off.toNat L:Nat):Int):=by
 split<;>omega
theorem oOZ{m:Mod}(h:ModelOK m)(c:CallT):(resF m c).2.2.2.2.2.1.length<=4096/\(resF m c).2.2.2.2.2.2.1.length<=100:=by
 by_cases e:(resF m c).2.1=0
 ·obtain⟨hr,h0,er⟩:=hKZ e;have:=nxZ h hr h0;rw[er];exact⟨this.2.2.2.2.1,this.2.2.2.2.2⟩
 ·rw[(jwZ e).2];exact⟨by simp[rep0],by simp[rep0]⟩
theorem reZ{m:Mod}(h:ModelOK m)(c:CallT):cRigRep fuel (repT (resF m c) c)=some (rightReply (repT (resF m c) c)):=by
 have:=oOZ h c;exact gSZ (by show(resF m c).2.2.2.2.2.1.length<_;omega) (by show(resF m c).2.2.2.2.2.2.1.length<_;omega)
noncomputable def tellR (c : CallT) (r : ReplyT) (f : FMap) (ms : Mems) : Option (Bool × (FMap × Mems)) :=
 bif (((c.2.2.1.toNat:Nat):Int)==2) then
  some (true,(fput f r.2.2.2.1 (.inr none),ms))
 else bif (((c.2.2.1.toNat:Nat):Int)==5) then
  (openM ms (fget f c.2.2.2.1)).bind fun m1=>
  (law22_ModelReads_1__cm_l0_it fuel (f,([c],([r],(m1.1,m1.2))))).bind fun o2=>
  need ((Nat.ble ((0+o2.2.2.2.1.length)*1) room)&&(Nat.ble (0+o2.2.2.2.1.length) room))<|
  (o2.2.1)[0]?.bind fun r12=>
  (upto? (if((o2.2.2.2.1.length:Nat):Int)<r12.2.2.2.2.2.2.2.1 then((o2.2.2.2.1.length:Nat):Int) else r12.2.2.2.2.2.2.2.1) o2.2.2.2.1.length).bind fun q=>
  (o2.2.1)[0]?.bind fun r13=>
  need (Nat.ble (q+(o2.2.2.2.1.length-q)) o2.2.2.2.1.length)<|
  (o2.2.1)[0]?.bind fun r14=>
  (o2.2.2.1)[0]?.bind fun r15=>
  some ((r15.2.2.2.2.2.1==(((refLen (s:=.byte) (.inr (some (o2.2.2.2.2.length,(0,(splice o2.2.2.2.1 q (List.take (o2.2.2.2.1.length-q) r13.2.2.2.2.2.2.2.2.2)).length))))):Nat):Int)),(fput o2.1 r14.2.2.2.1 (.inr (some (o2.2.2.2.2.length,(0,(splice o2.2.2.2.1 q (List.take (o2.2.2.2.1.length-q) r13.2.2.2.2.2.2.2.2.2)).length)))),(o2.2.2.2.2++[(1,(splice o2.2.2.2.1 q (List.take (o2.2.2.2.1.length-q) r13.2.2.2.2.2.2.2.2.2)))])))
 else bif (((c.2.2.1.toNat:Nat):Int)==6) then
  (openM ms (fget f c.2.2.2.1)).bind fun m2=>
  (law22_ModelReads_1__cm_l1_it fuel (f,([c],([r],(m2.1,m2.2))))).bind fun o3=>
  (o3.2.1)[0]?.bind fun r17=>
  (o3.2.1)[0]?.bind fun r18=>
  (upto? r18.2.2.2.2.2.2.2.2.1 o3.2.2.2.1.length).bind fun q1=>
  need (Nat.ble (0+q1) o3.2.2.2.1.length)<|
  need ((Nat.ble ((0+(List.take q1 (List.drop 0 o3.2.2.2.1)).length)*1) room)&&(Nat.ble (0+(List.take q1 (List.drop 0 o3.2.2.2.1)).length) room))<|
  (o3.2.2.1)[0]?.bind fun r19=>
  (o3.2.1)[0]?.bind fun r20=>
  some ((r19.2.2.2.2.2.1==r20.2.2.2.2.2.2.2.2.1),(fput o3.1 r17.2.2.2.1 (.inr (some (o3.2.2.2.2.length,(0,(List.take q1 (List.drop 0 o3.2.2.2.1)).length)))),(o3.2.2.2.2++[(1,(List.take q1 (List.drop 0 o3.2.2.2.1)))])))
 else bif (((c.2.2.1.toNat:Nat):Int)==4) then
  Option.bind (α:=Bool×(FMap×Mems)) ((upto? (if(if(((refLen (s:=.byte) (fget f c.2.2.2.1)):Nat):Int)<(IntKind.wrap .i64 (c.2.2.2.2.2.2.2.1+c.2.2.2.2.2.2.2.2.1)) then(((refLen (s:=.byte) (fget f c.2.2.2.1)):Nat):Int) else(IntKind.wrap .i64 (c.2.2.2.2.2.2.2.1+c.2.2.2.2.2.2.2.2.1)))>(if(((refLen (s:=.byte) (fget f c.2.2.2.1)):Nat):Int)<c.2.2.2.2.2.2.2.1 then(((refLen (s:=.byte) (fget f c.2.2.2.1)):Nat):Int) else c.2.2.2.2.2.2.2.1) then(if(((refLen (s:=.byte) (fget f c.2.2.2.1)):Nat):Int)<(IntKind.wrap .i64 (c.2.2.2.2.2.2.2.1+c.2.2.2.2.2.2.2.2.1)) then(((refLen (s:=.byte) (fget f c.2.2.2.1)):Nat):Int) else(IntKind.wrap .i64 (c.2.2.2.2.2.2.2.1+c.2.2.2.2.2.2.2.2.1))) else(if(((refLen (s:=.byte) (fget f c.2.2.2.1)):Nat):Int)<c.2.2.2.2.2.2.2.1 then(((refLen (s:=.byte) (fget f c.2.2.2.1)):Nat):Int) else c.2.2.2.2.2.2.2.1)) (refLen (s:=.byte) (fget f c.2.2.2.1))).bind fun q2=>
  (upto? (if(((refLen (s:=.byte) (fget f c.2.2.2.1)):Nat):Int)<c.2.2.2.2.2.2.2.1 then(((refLen (s:=.byte) (fget f c.2.2.2.1)):Nat):Int) else c.2.2.2.2.2.2.2.1) q2).bind fun q3=>
  (unrefD [⟨4,.byte,(List.map frz1 ms)⟩] (.ref 4 .byte) (refSub (α:=UInt8) (fget f c.2.2.2.1) q3 (q2-q3))).bind fun x=>
  (lSamByt fuel r.2.2.2.2.2.2.1 x).bind fun r25=>
  bif r25 then
   bif (r.2.2.2.2.2.1==(((refLen (s:=.byte) (fget f c.2.2.2.1)):Nat):Int)) then
    some ((r.2.2.2.2.2.2.2.2.1==(decide ((IntKind.wrap .i64 (c.2.2.2.2.2.2.2.1+c.2.2.2.2.2.2.2.2.1))<(((refLen (s:=.byte) (fget f c.2.2.2.1)):Nat):Int)))),(f,ms))
   else some (false,(f,ms))
  else some (false,(f,ms))) (fun o4=>some (o4.1,(o4.2.1,o4.2.2)))
 else some (true,(f,ms))
theorem oRZ{m:Mod}(h:ModelOK m)(c:CallT)(f:FMap)(ms:Mems):
 law22_ModelReads_1__cm fuel ((m.1.1,m.1.2),m.2) (((resF m c).1.1.1,(resF m c).1.1.2),(resF m c).1.2) c (repT (resF m c) c) f ms=if(resF m c).2.1=0 then tellR c (repT (resF m c) c) f ms else some (true,(f,ms)):=by
 have hR:=aqZ (gOZ h c);have hS:=reZ h c
 delta law22_ModelReads_1__cm
 dsimp only;rw[show((((resF m c).1.1.1,(resF m c).1.1.2),(resF m c).1.2):Mod)=(resF m c).1 from rfl,hR,ZAA,show(repT (resF m c) c).1=c.1 from rfl,show(repT (resF m c) c).2.1=c.2.1 from rfl,show(repT (resF m c) c).2.2.1=(resF m c).2.1 from rfl,ZAP,ZAP];simp only[ZAJ,ZAC];by_cases e:(resF m c).2.1=0
 ·obtain⟨hr,h0,er⟩:=hKZ e;have hG:=iAZ h hr;rw[hG] at hS;rw[ZAO e,ZBL.2 e];simp only[ZAJ,ZAC,ZAA,ZAt];rw[show(repT (resF m c) c).2.2.1=(resF m c).2.1 from rfl,ZBL.2 e,hS];simp only[ZAJ,ZAC,ZAA];unfold tellR fget fput;dsimp only
 ·obtain⟨e1,e2⟩:=jwZ e;rw[ZAM e,beq_false_of_ne e,e1,show(((m.1.1,m.1.2),m.2):Mod)=m from rfl,qYZ h];simp only[ZAJ,ZAe,ZAC,ZAF,ZAA];rw[hS,ZAA,azZ];have fin:∀b:Bool,b=false->(Option.bind (some (b,(f,([c],([repT (resF m c) c],ms))))) fun o:Bool×(FMap×(List CallT×(List ReplyT×Mems)))=>bif o.1 then some (false,(o.2.1,o.2.2.2.2)) else(o.2.2.2.1)[0]?.bind fun r5=>bif (!(r5.2.2.1==0)) then some (true,(o.2.1,o.2.2.2.2)) else none)=some (true,(f,ms)):=by
   rintro _ rfl;simp only[ZAA,ZAC,ZAt];rw[show(repT (resF m c) c).2.2.1=(resF m c).2.1 from rfl,beq_false_of_ne e]
   rfl
  cases hr:rightCall c with
  |true=>
   rw[iAZ h hr];simp only[ZAJ,ZAC,ZAA,ZAt];rw[show(repT (resF m c) c).2.2.1=(resF m c).2.1 from rfl,beq_false_of_ne e]
   rfl
  |false=>
   cases rightReply (repT (resF m c) c)<;>simp only[ZAJ,ZAe,ZAC,ZAF,ZAA,ZAt]<;>
    rw[show(repT (resF m c) c).2.2.1=(resF m c).2.1 from rfl,beq_false_of_ne e]<;>rfl
end Go.Ab.D
set_option maxRecDepth 100000
set_option maxHeartbeats 4000000
namespace Go.Ab.D
open Go Go.Ab
theorem ncZ{m:Mod}{c:CallT}(h0:(removeA m c).1=0):(removeA m c).2.1=((removeF m.1 c.2.2.2.1 c.2.2.2.2.1 (((c.2.2.1.toNat:Nat):Int)==8)).1,m.2):=by
 unfold removeA at h0⊢;split at h0
 ·rename_i h1;rw[ZAO h1]
 ·rename_i h1;exact absurd h0 h1
theorem qpZ{m:Mod}{c:CallT}(h0:(renameA m c).1=0):(renameA m c).2.1=((renameF m.1 c.2.2.2.1 c.2.2.2.2.1 c.2.2.2.2.2.1 c.2.2.2.2.2.2.1).1,m.2):=by
 unfold renameA at h0⊢;split at h0
 ·rename_i h1;rw[ZAO h1]
 ·rename_i h1;exact absurd h0 h1
theorem npZ{m:Mod}{c:CallT}(h0:(makeA m c).1=0):(makeF m.1 c.2.2.2.1 c.2.2.2.2.1 (((c.2.2.1.toNat:Nat):Int)==3)).2.2=0/\(makeA m c).2.1=((makeF m.1 c.2.2.2.1 c.2.2.2.2.1 (((c.2.2.1.toNat:Nat):Int)==3)).1,m.2)/\(makeA m c).2.2.1=(makeF m.1 c.2.2.2.1 c.2.2.2.2.1 (((c.2.2.1.toNat:Nat):Int)==3)).2.1:=by
 unfold makeA at h0⊢;split at h0
 ·rename_i h1;rw[ZAO h1];exact⟨h1,rfl,rfl⟩
 ·rename_i h1;exact absurd h0 h1
theorem p0Z{m:Mod}{c:CallT}(h0:(writeA m c).1=0):(fileF m c.2.2.2.1).2.2=0/\c.2.2.2.2.2.2.2.1+((c.2.2.2.2.2.2.2.2.2.length:Nat):Int)<=65536/\
 writeA m c=(0,putB m c.2.2.2.1 (writeL (fileF m c.2.2.2.1).2.1 c.2.2.2.2.2.2.2.1 c.2.2.2.2.2.2.2.2.2),(c.2.2.2.1,false,((writeN (fileF m c.2.2.2.1).2.1 c.2.2.2.2.2.2.2.1 c.2.2.2.2.2.2.2.2.2:Nat):Int),[],[],false,0)):=by
 unfold writeA at h0⊢;split at h0
 ·rename_i h1;rw[ZAO h1];split at h0
  ·cases h0
  ·rename_i h2;rw[ZAM h2];exact⟨h1,by omega,rfl⟩
 ·rename_i h1;exact absurd h0 h1
theorem qaZ{m:Mod}{c:CallT}(h0:(sizeA m c).1=0):(fileF m c.2.2.2.1).2.2=0/\c.2.2.2.2.2.2.2.2.1<=65536/\
 sizeA m c=(0,putB m c.2.2.2.1 (sizedL (fileF m c.2.2.2.1).2.1 c.2.2.2.2.2.2.2.2.1.toNat),(c.2.2.2.1,false,c.2.2.2.2.2.2.2.2.1,[],[],false,0)):=by
 unfold sizeA at h0⊢;split at h0
 ·rename_i h1;rw[ZAO h1];split at h0
  ·cases h0
  ·rename_i h2;rw[ZAM h2];exact⟨h1,by omega,rfl⟩
 ·rename_i h1;exact absurd h0 h1
theorem pGZ{m:Mod}{c:CallT}(h0:(readA m c).1=0):(fileF m c.2.2.2.1).2.2=0/\
 readA m c=(0,m,((0,0),false,(((fileF m c.2.2.2.1).2.1.length:Nat):Int),readL (fileF m c.2.2.2.1).2.1 c.2.2.2.2.2.2.2.1 c.2.2.2.2.2.2.2.2.1,[],decide (c.2.2.2.2.2.2.2.1+c.2.2.2.2.2.2.2.2.1<(((fileF m c.2.2.2.1).2.1.length:Nat):Int)),0)):=by
 unfold readA at h0⊢;split at h0
 ·rename_i h1;rw[ZAO h1];exact⟨h1,rfl⟩
 ·rename_i h1;exact absurd h0 h1
theorem mcZ(l bs:Byt)(q:Nat)(h:bs=[]\/q+bs.length<=l.length):splice l q (List.take (l.length-q) bs)=splice l q bs:=by
 rcases h with rfl|h
 ·simp
 ·rw[ZAs (by omega)]
theorem puZ{m:Mod}(h:ModelOK m)(c:CallT){f:FMap}{ms:Mems}(hf:FOK m f ms)(e:(resF m c).2.1=0):
 ∃f' ms',tellR c (repT (resF m c) c) f ms=some (true,(f',ms'))/\FOK (resF m c).1 f' ms':=by
 obtain⟨hr,h0,er⟩:=hKZ e;obtain⟨ho,hn,hbs⟩:=aGZ hr;have plain:(∀hd x b,IsF (resF m c).1 hd x b->∃y,IsF m hd y b)->FOK (resF m c).1 f ms:=fun hk=>⟨hf.1,fun hd x b hx=>by
  obtain⟨y,hy⟩:=hk hd x b hx;exact hf.2 hd y b hy⟩
 have ask:askN c.2.2.1=true->FOK (resF m c).1 f ms:=fun ha=>by rw[pvZ h ha];exact hf
 rcases haZ hr with k|k|k|k|k|k|k|k|k|k|k|k
 all_goals unfold tellR
 ·rw[show((c.2.2.1.toNat:Nat):Int)=1 by rw[k];rfl];exact⟨f,ms,rfl,ask (by rw[k];rfl)⟩
 ·have ha:actF m c=makeA m c:=by unfold actF;rw[k];rfl
  rw[ha] at h0 er;obtain⟨g1,g2,g3⟩:=npZ h0;have t:((c.2.2.1.toNat:Nat):Int)=2:=by rw[k];rfl
  rw[t] at g1 g2 g3⊢;rw[g2] at er;have hH:(repT (resF m c) c).2.2.2.1=(makeF m.1 c.2.2.2.1 c.2.2.2.2.1 ((2:Int)==3)).2.1:=by
   show(((resF m c).2.2.1.1,(resF m c).2.2.1.2):Int×Int)=_;rw[er];exact g3
  refine⟨_,_,rfl,?_⟩;rw[hH,er];obtain⟨q1,q2,q3⟩:=hf.1.none (makeF m.1 c.2.2.2.1 c.2.2.2.2.1 ((2:Int)==3)).2.1;refine⟨q1,fun hd x b hx=> ?_⟩;rcases kpZ h (kKZ _ _ _ _ g1) hx with⟨rfl,rfl,_⟩|⟨n1,y,hy⟩
  ·exact q2
  ·rw[q3 hd n1];exact hf.2 hd y b hy
 ·have ha:actF m c=makeA m c:=by unfold actF;rw[k];rfl
  rw[ha] at h0 er;obtain⟨g1,g2,g3⟩:=npZ h0;have t:((c.2.2.1.toNat:Nat):Int)=3:=by rw[k];rfl
  rw[t] at g1 g2 g3⊢;rw[g2] at er;refine⟨f,ms,rfl,plain fun hd x b hx=> ?_⟩;rw[er] at hx;rcases kpZ h (kKZ _ _ _ _ g1) hx with⟨_,_,n1⟩|⟨n1,y,hy⟩
  ·cases n1
  ·exact⟨y,hy⟩
 ·have ha:actF m c=readA m c:=by unfold actF;rw[k];rfl
  rw[ha] at h0 er;obtain⟨g1,g2⟩:=pGZ h0;obtain⟨x,hx,_⟩:=bfZ g1;have hv:=hf.2 _ x _ hx;rw[show((c.2.2.1.toNat:Nat):Int)=4 by rw[k];rfl];rw[show((4:Int)==2)=false from rfl,show((4:Int)==5)=false from rfl,show((4:Int)==6)=false from rfl,show((4:Int)==4)=true from rfl,ZAC,ZAC,ZAC,ZAF];have hL:=hf.1.refLen c.2.2.2.1;have hl:=hf.1.len c.2.2.2.1;rw[hv] at hL hl;rw[hL,w64 (by omega),qPZ _ _ _ ho.1 hn.1,kfZ _ _ ho.1];rw[aJZ (by omega),ZAA,aJZ (by omega),ZAA];have hp:=hf.1.part c.2.2.2.1 (q:=min c.2.2.2.2.2.2.2.1.toNat (fileF m c.2.2.2.1).2.1.length) (n:=max (min c.2.2.2.2.2.2.2.1.toNat (fileF m c.2.2.2.1).2.1.length) (min (c.2.2.2.2.2.2.2.1+c.2.2.2.2.2.2.2.2.1).toNat (fileF m c.2.2.2.1).2.1.length)-min c.2.2.2.2.2.2.2.1.toNat (fileF m c.2.2.2.1).2.1.length) (by rw[hv];omega);have hp':∀{β:Type} (F:(Ty.unref (.ref 4 .byte)).den->Option β),(unrefD [⟨4,.byte,(List.map frz1 ms)⟩] (.ref 4 .byte) (refSub (α:=UInt8) (fget f c.2.2.2.1) (min c.2.2.2.2.2.2.2.1.toNat (fileF m c.2.2.2.1).2.1.length) (max (min c.2.2.2.2.2.2.2.1.toNat (fileF m c.2.2.2.1).2.1.length) (min (c.2.2.2.2.2.2.2.1+c.2.2.2.2.2.2.2.2.1).toNat (fileF m c.2.2.2.1).2.1.length)-min c.2.2.2.2.2.2.2.1.toNat (fileF m c.2.2.2.1).2.1.length))).bind F=F (((FV f ms c.2.2.2.1).take (min c.2.2.2.2.2.2.2.1.toNat (fileF m c.2.2.2.1).2.1.length+(max (min c.2.2.2.2.2.2.2.1.toNat (fileF m c.2.2.2.1).2.1.length) (min (c.2.2.2.2.2.2.2.1+c.2.2.2.2.2.2.2.2.1).toNat (fileF m c.2.2.2.1).2.1.length)-min c.2.2.2.2.2.2.2.1.toNat (fileF m c.2.2.2.1).2.1.length))).drop (min c.2.2.2.2.2.2.2.1.toNat (fileF m c.2.2.2.1).2.1.length)):=fun F=>by rw[hp];rfl
  rw[hp',hv];have hB:(repT (resF m c) c).2.2.2.2.2.2.1=readL (fileF m c.2.2.2.1).2.1 c.2.2.2.2.2.2.2.1 c.2.2.2.2.2.2.2.2.1:=by
   show(resF m c).2.2.2.2.2.1=_;rw[er,g2]
  have hq:((fileF m c.2.2.2.1).2.1.take (min c.2.2.2.2.2.2.2.1.toNat (fileF m c.2.2.2.1).2.1.length+(max (min c.2.2.2.2.2.2.2.1.toNat (fileF m c.2.2.2.1).2.1.length) (min (c.2.2.2.2.2.2.2.1+c.2.2.2.2.2.2.2.2.1).toNat (fileF m c.2.2.2.1).2.1.length)-min c.2.2.2.2.2.2.2.1.toNat (fileF m c.2.2.2.1).2.1.length))).drop (min c.2.2.2.2.2.2.2.1.toNat (fileF m c.2.2.2.1).2.1.length)=readL (fileF m c.2.2.2.1).2.1 c.2.2.2.2.2.2.2.1 c.2.2.2.2.2.2.2.2.1:=by
   unfold readL;congr 2;omega
  rw[hB,hq,rgZ,ZAA,ZAF];have hS:(repT (resF m c) c).2.2.2.2.2.1=(((fileF m c.2.2.2.1).2.1.length:Nat):Int):=by
   show(resF m c).2.2.2.2.1=_;rw[er,g2]
  have hM:(repT (resF m c) c).2.2.2.2.2.2.2.2.1=decide (c.2.2.2.2.2.2.2.1+c.2.2.2.2.2.2.2.2.1<(((fileF m c.2.2.2.1).2.1.length:Nat):Int)):=by
   show(resF m c).2.2.2.2.2.2.2.1=_;rw[er,g2]
  rw[hS,hM,ZAP,ZAF,ZAP];exact⟨f,ms,rfl,ask (by rw[k];rfl)⟩
 ·have ha:actF m c=writeA m c:=by unfold actF;rw[k];rfl
  rw[ha] at h0 er;obtain⟨g1,g2,g3⟩:=p0Z h0;obtain⟨x,hx,_⟩:=bfZ g1;have hv:=hf.2 _ x _ hx;have hl:=hf.1.len c.2.2.2.1;obtain⟨ms',o1,o2⟩:=hf.1.over c.2.2.2.1;rw[hv] at o1 hl;rw[show((c.2.2.1.toNat:Nat):Int)=5 by rw[k];rfl];rw[show((5:Int)==2)=false from rfl,show((5:Int)==5)=true from rfl,ZAC,ZAF,o1,ZAA];dsimp only;rw[qHZ _ _ _ _ _ hl ho.1 g2,ZAA];dsimp only;have hN:=bbZ (fileF m c.2.2.2.1).2.1 (writeN (fileF m c.2.2.2.1).2.1 c.2.2.2.2.2.2.2.1 c.2.2.2.2.2.2.2.2.2);have hN2:writeN (fileF m c.2.2.2.1).2.1 c.2.2.2.2.2.2.2.1 c.2.2.2.2.2.2.2.2.2<=65536:=by unfold writeN;split<;>omega
  have hW:splice (sizedL (fileF m c.2.2.2.1).2.1 (writeN (fileF m c.2.2.2.1).2.1 c.2.2.2.2.2.2.2.1 c.2.2.2.2.2.2.2.2.2)) (min c.2.2.2.2.2.2.2.1.toNat (writeN (fileF m c.2.2.2.1).2.1 c.2.2.2.2.2.2.2.1 c.2.2.2.2.2.2.2.2.2)) (List.take (writeN (fileF m c.2.2.2.1).2.1 c.2.2.2.2.2.2.2.1 c.2.2.2.2.2.2.2.2.2-min c.2.2.2.2.2.2.2.1.toNat (writeN (fileF m c.2.2.2.1).2.1 c.2.2.2.2.2.2.2.1 c.2.2.2.2.2.2.2.2.2)) c.2.2.2.2.2.2.2.2.2)=writeL (fileF m c.2.2.2.1).2.1 c.2.2.2.2.2.2.2.1 c.2.2.2.2.2.2.2.2.2:=by
   have:=mcZ (sizedL (fileF m c.2.2.2.1).2.1 (writeN (fileF m c.2.2.2.1).2.1 c.2.2.2.2.2.2.2.1 c.2.2.2.2.2.2.2.2.2)) c.2.2.2.2.2.2.2.2.2 (min c.2.2.2.2.2.2.2.1.toNat (writeN (fileF m c.2.2.2.1).2.1 c.2.2.2.2.2.2.2.1 c.2.2.2.2.2.2.2.2.2)) (by
    rw[hN];by_cases hz:c.2.2.2.2.2.2.2.2.2.length=0
    ·exact .inl (ZAR hz)
    ·refine .inr ?_;unfold writeN;rw[ZAM hz];omega)
   rw[hN] at this;exact this
  rw[hN];rw[ZAm,abZ (dpZ (by omega))];simp only[ZAt,ZAA];rw[kfZ _ _ ho.1,aJZ (by omega),ZAA,abZ (ciZ (by omega))];rw[hW];obtain⟨p1,p2,p3⟩:=o2 (writeL (fileF m c.2.2.2.1).2.1 c.2.2.2.2.2.2.2.1 c.2.2.2.2.2.2.2.2.2) (by rw[cuZ];exact hN2);have hS:(repT (resF m c) c).2.2.2.2.2.1=((writeN (fileF m c.2.2.2.1).2.1 c.2.2.2.2.2.2.2.1 c.2.2.2.2.2.2.2.2.2:Nat):Int):=by
   show(resF m c).2.2.2.2.1=_;rw[er,g3]
  refine⟨fput f c.2.2.2.1 (.inr (some (ms'.length,(0,(writeL (fileF m c.2.2.2.1).2.1 c.2.2.2.2.2.2.2.1 c.2.2.2.2.2.2.2.2.2).length)))),ms'++[(1,(writeL (fileF m c.2.2.2.1).2.1 c.2.2.2.2.2.2.2.1 c.2.2.2.2.2.2.2.2.2))],?_,?_⟩
  rotate_left
  ·rw[er,g3];refine⟨p1,fun hd x b hx=> ?_⟩;rcases kMZ h g1 _ hx with⟨rfl,rfl⟩|⟨n1,y,hy⟩
   ·exact p2
   ·rw[p3 hd n1];exact hf.2 hd y b hy
  ·rw[hS];show some (_==(((writeL (fileF m c.2.2.2.1).2.1 c.2.2.2.2.2.2.2.1 c.2.2.2.2.2.2.2.2.2).length:Nat):Int),_)=_;rw[cuZ,ZAP]
 ·have ha:actF m c=sizeA m c:=by unfold actF;rw[k];rfl
  rw[ha] at h0 er;obtain⟨g1,g2,g3⟩:=qaZ h0;obtain⟨x,hx,_⟩:=bfZ g1;have hv:=hf.2 _ x _ hx;have hl:=hf.1.len c.2.2.2.1;obtain⟨ms',o1,o2⟩:=hf.1.over c.2.2.2.1;rw[hv] at o1 hl;rw[show((c.2.2.1.toNat:Nat):Int)=6 by rw[k];rfl];rw[show((6:Int)==2)=false from rfl,show((6:Int)==5)=false from rfl,show((6:Int)==6)=true from rfl,ZAC,ZAC,ZAF,o1,ZAA];dsimp only;rw[qJZ _ _ _ _ _ hl ⟨hn.1,g2⟩,ZAA];dsimp only;simp only[ZAt,ZAA];have hlen:((fileF m c.2.2.2.1).2.1++List.replicate (c.2.2.2.2.2.2.2.2.1.toNat-(fileF m c.2.2.2.1).2.1.length) (0:UInt8)).length=(fileF m c.2.2.2.1).2.1.length+(c.2.2.2.2.2.2.2.2.1.toNat-(fileF m c.2.2.2.1).2.1.length):=by simp
  have hN:=bbZ (fileF m c.2.2.2.1).2.1 c.2.2.2.2.2.2.2.2.1.toNat;have hu:upto? c.2.2.2.2.2.2.2.2.1 ((fileF m c.2.2.2.1).2.1++List.replicate (c.2.2.2.2.2.2.2.2.1.toNat-(fileF m c.2.2.2.1).2.1.length) (0:UInt8)).length=some c.2.2.2.2.2.2.2.2.1.toNat:=by
   have:=aJZ (i:=c.2.2.2.2.2.2.2.2.1.toNat) (n:=((fileF m c.2.2.2.1).2.1++List.replicate (c.2.2.2.2.2.2.2.2.1.toNat-(fileF m c.2.2.2.1).2.1.length) (0:UInt8)).length) (by rw[hlen];omega);rw[<-this];congr 1;omega
  rw[hu,ZAA,lOZ,hN,ZAm,abZ (ciZ (by rw[hlen];omega)),abZ (dpZ (by omega))];obtain⟨p1,p2,p3⟩:=o2 (sizedL (fileF m c.2.2.2.1).2.1 c.2.2.2.2.2.2.2.2.1.toNat) (by rw[hN];omega);rw[hN] at p1 p2 p3;have hS:(repT (resF m c) c).2.2.2.2.2.1=c.2.2.2.2.2.2.2.2.1:=by
   show(resF m c).2.2.2.2.1=_;rw[er,g3]
  refine⟨fput f c.2.2.2.1 (.inr (some (ms'.length,(0,c.2.2.2.2.2.2.2.2.1.toNat)))),ms'++[(1,(sizedL (fileF m c.2.2.2.1).2.1 c.2.2.2.2.2.2.2.2.1.toNat))],?_,?_⟩
  rotate_left
  ·rw[er,g3];refine⟨p1,fun hd x b hx=> ?_⟩;rcases kMZ h g1 _ hx with⟨rfl,rfl⟩|⟨n1,y,hy⟩
   ·exact p2
   ·rw[p3 hd n1];exact hf.2 hd y b hy
  ·rw[hS,ZAP]
 ·have ha:actF m c=removeA m c:=by unfold actF;rw[k];rfl
  rw[ha] at h0 er;rw[ncZ h0] at er;rw[show((c.2.2.1.toNat:Nat):Int)=7 by rw[k];rfl];refine⟨f,ms,rfl,plain fun hd x b hx=> ?_⟩;rw[er] at hx;exact erZ h (eNZ _ _ _ _) hx
 ·have ha:actF m c=removeA m c:=by unfold actF;rw[k];rfl
  rw[ha] at h0 er;rw[ncZ h0] at er;rw[show((c.2.2.1.toNat:Nat):Int)=8 by rw[k];rfl];refine⟨f,ms,rfl,plain fun hd x b hx=> ?_⟩;rw[er] at hx;exact erZ h (eNZ _ _ _ _) hx
 ·have ha:actF m c=renameA m c:=by unfold actF;rw[k];rfl
  rw[ha] at h0 er;rw[qpZ h0] at er;rw[show((c.2.2.1.toNat:Nat):Int)=9 by rw[k];rfl];refine⟨f,ms,rfl,plain fun hd x b hx=> ?_⟩;rw[er] at hx;exact erZ h (inZ _ _ _ _ _) hx
 ·rw[show((c.2.2.1.toNat:Nat):Int)=10 by rw[k];rfl];exact⟨f,ms,rfl,ask (by rw[k];rfl)⟩
 ·rw[show((c.2.2.1.toNat:Nat):Int)=11 by rw[k];rfl];exact⟨f,ms,rfl,ask (by rw[k];rfl)⟩
 ·rw[show((c.2.2.1.toNat:Nat):Int)=12 by rw[k];rfl];exact⟨f,ms,rfl,ask (by rw[k];rfl)⟩
theorem mgZ{m:Mod}(h:ModelOK m)(c:CallT){f:FMap}{ms:Mems}(hf:FOK m f ms):
 ∃f' ms',law22_ModelReads_1__cm fuel ((m.1.1,m.1.2),m.2) (((resF m c).1.1.1,(resF m c).1.1.2),(resF m c).1.2) c (repT (resF m c) c) f ms=some (true,(f',ms'))/\FOK (resF m c).1 f' ms':=by
 rw[oRZ h];by_cases e:(resF m c).2.1=0
 ·rw[ZAO e];exact puZ h c hf e
 ·rw[ZAM e,(jwZ e).1];exact⟨f,ms,rfl,hf⟩
end Go.Ab.D
