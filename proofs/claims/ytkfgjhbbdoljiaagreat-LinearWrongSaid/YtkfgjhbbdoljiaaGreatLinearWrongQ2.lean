/- What the functions compute; the plain law. -/
import Derived.Test.YtkfgjhbbdoljiaaGreatLinearWrongQ1
import Derived.KernelRfl
set_option linter.all false
namespace Go.Ab
theorem ZBj.{u}:type_of% @List.getD_eq_getElem?_getD.{u}:=@List.getD_eq_getElem?_getD.{u}
theorem ZCH:type_of% @List.range_succ:=@List.range_succ
end Go.Ab
namespace Go.Ab.D
open Go Go.Ab
section
variable {t : Tree} {a b : Int × Int} {na nb x z : Ino} {old name : List UInt8} {id other : Int}
theorem jRZ(h:TreeOK t)(hb:dirE t.1 a≠0):tRen fuel t a old b name=some (t.1,(t.2,([],dirE t.1 a))):=by
 unfold tRen;rw[show((t.1,t.2):Tree)=t from rfl,show((a.1,a.2):Int×Int)=a from rfl,show((b.1,b.2):Int×Int)=b from rfl,j7Z h hb,ZAA];simp only[ZAS.2 hb,ZAc,ZAF];rw[aAZ h.r.fit,ZAA]
theorem k1Z(h:TreeOK t)(ha:IsD t.1 a na)(hb:dirE t.1 b≠0):tRen fuel t a old b name=some (t.1,(t.2,([],dirE t.1 b))):=by
 unfold tRen;rw[show((t.1,t.2):Tree)=t from rfl,show((a.1,a.2):Int×Int)=a from rfl,show((b.1,b.2):Int×Int)=b from rfl,jPZ h ha hb,ZAA];simp only[ZAS.2 hb,ZAc,ZAF];rw[aAZ h.r.fit,ZAA]
theorem jBZ(h:TreeOK t)(ha:IsD t.1 a na)(hb:IsD t.1 b nb)(hs:(namedB old&&namedB name)=false):tRen fuel t a old b name=some (t.1,(t.2,([],176))):=by
 unfold tRen;rw[show((t.1,t.2):Tree)=t from rfl,show((a.1,a.2):Int×Int)=a from rfl,show((b.1,b.2):Int×Int)=b from rfl,aVZ h ha hb,ZAA];simp only[ZAT,ZAK,ZAC];rw[axZ,ZAA];cases h1:namedB old with
 |false=>
  simp only[ZAc,ZAF,ZAA];rw[show((t.1,t.2):Tree)=t from rfl,aAZ h.r.fit,ZAA]
 |true=>
  rw[h1,ZAU] at hs;simp only[ZAK,ZAC];rw[axZ,ZAA,hs];simp only[ZAc,ZAF,ZAA];rw[show((t.1,t.2):Tree)=t from rfl,aAZ h.r.fit,ZAA]
theorem kjZ(h:TreeOK t)(ha:IsD t.1 a na)(hb:IsD t.1 b nb)(h1:namedB old=true)(hs:namedB name=true)(hh:hasN na.2.2.2.2.2.2.2 old=false):tRen fuel t a old b name=some (t.1,(t.2,([],171))):=by
 unfold tRen;rw[show((t.1,t.2):Tree)=t from rfl,show((a.1,a.2):Int×Int)=a from rfl,show((b.1,b.2):Int×Int)=b from rfl,aVZ h ha hb,ZAA];simp only[ZAT,ZAK,ZAC];rw[axZ,ZAA,h1];simp only[ZAK,ZAC];rw[axZ,ZAA,hs];simp only[ZAK,ZAC,ZAA];rw[show idx? 0 [na,nb].length=some 0 from rfl,ZAA,show[na,nb][0]? =some na from rfl,ZAA,h.ent_ok ha,ZAA,hh];simp only[ZAc,ZAF];rw[show((t.1,t.2):Tree)=t from rfl,aAZ h.r.fit,ZAA]
theorem ksZ(h:TreeOK t)(ha:IsD t.1 a na)(hb:IsD t.1 b nb)(hs:namedB name=true)(hea:(old,id)∈na.2.2.2.2.2.2.2)(hx:t.1[(id-1).toNat]? =some x)(hd:x.2.2.2.1=true)(hanc:Anc t.1 id b.1):tRen fuel t a old b name=some (t.1,(t.2,([],178))):=by
 obtain⟨g1,g2,g3,y,g4,g5,g6⟩:=h.ent ha hea;rw[hx] at g4;cases g4;have hlen:=h.r.len;have hpa:=cWZ (h.srt ha.1) hea;have hpal:=(ZAB.1 hpa).1;unfold tRen;rw[show((t.1,t.2):Tree)=t from rfl,show((a.1,a.2):Int×Int)=a from rfl,show((b.1,b.2):Int×Int)=b from rfl,aVZ h ha hb,ZAA];simp only[ZAT,ZAK,ZAC];rw[axZ,ZAA,g1];simp only[ZAK,ZAC];rw[axZ,ZAA,hs];simp only[ZAK,ZAC,ZAA];rw[show idx? 0 [na,nb].length=some 0 from rfl,ZAA,show[na,nb][0]? =some na from rfl,ZAA,h.ent_ok ha,ZAA,a8Z.2 ⟨id,hea⟩];simp only[ZAK,ZAC,ZAA];rw[show[na,nb][0]? =some na from rfl,ZAA,agZ hpal,ZAA,hpa,ZAA,w64 (by omega),aqZ (by omega) (by omega),ZAA,hx,ZAA];rw[hd];simp only[ZAF];obtain⟨r,hr,hq⟩:=dfZ h hb id;rw[show((t.1,t.2):Tree)=t from rfl,hr,hq.2 hanc,ZAA,ZAA];simp only[ZAF];rw[show((t.1,t.2):Tree)=t from rfl,aAZ h.r.fit,ZAA]
theorem kyZ(h:TreeOK t)(ha:IsD t.1 a na)(hb:IsD t.1 b nb)(hs:namedB name=true)(hea:(old,id)∈na.2.2.2.2.2.2.2)(hx:t.1[(id-1).toNat]? =some x)(hanc:x.2.2.2.1=true->¬Anc t.1 id b.1)(heb:(name,id)∈nb.2.2.2.2.2.2.2):tRen fuel t a old b name=some (t.1,(t.2,([],0))):=by
 obtain⟨g1,g2,g3,y,g4,g5,g6⟩:=h.ent ha hea;rw[hx] at g4;cases g4;have hlen:=h.r.len;have hpa:=cWZ (h.srt ha.1) hea;have hpal:=(ZAB.1 hpa).1;unfold tRen;rw[show((t.1,t.2):Tree)=t from rfl,show((a.1,a.2):Int×Int)=a from rfl,show((b.1,b.2):Int×Int)=b from rfl,aVZ h ha hb,ZAA];simp only[ZAT,ZAK,ZAC];rw[axZ,ZAA,g1];simp only[ZAK,ZAC];rw[axZ,ZAA,hs];simp only[ZAK,ZAC,ZAA];rw[show idx? 0 [na,nb].length=some 0 from rfl,ZAA,show[na,nb][0]? =some na from rfl,ZAA,h.ent_ok ha,ZAA,a8Z.2 ⟨id,hea⟩];simp only[ZAK,ZAC,ZAA];rw[show[na,nb][0]? =some na from rfl,ZAA,agZ hpal,ZAA,hpa,ZAA,w64 (by omega),aqZ (by omega) (by omega),ZAA,hx,ZAA];have hbel:(bif x.2.2.2.1 then(tbel fuel (t.1,t.2) b.1 id).bind fun r11=>some (r11,(t.1,(t.2,(a.1,(a.2,(b.1,(b.2,((0:Int),[na,nb]))))))))
  else some (false,(t.1,(t.2,(a.1,(a.2,(b.1,(b.2,(0,[na,nb])))))))))=some (false,(t.1,(t.2,(a.1,(a.2,(b.1,(b.2,(0,[na,nb])))))))):=by
  cases hd:x.2.2.2.1 with
  |false=>rfl
  |true=>
   simp only[ZAF];obtain⟨r,hr,hq⟩:=dfZ h hb id;have:r=false:=by
    cases r with
    |false=>rfl
    |true=>exact absurd (hq.1 rfl) (hanc hd)
   rw[show((t.1,t.2):Tree)=t from rfl,hr,this]
   rfl
 rw[hbel,ZAA];simp only[ZAC];obtain⟨rows,ms,hc,hF⟩:=bxZ h.r.fit;rw[show idx? 1 [na,nb].length=some 1 from rfl,ZAA,show[na,nb][1]? =some nb from rfl,ZAA,h.ent_ok hb,ZAA,show((t.1,t.2):Tree)=t from rfl,hc,ZAA];have hpb:=cWZ (h.srt hb.1) heb;have hpbl:=(ZAB.1 hpb).1;simp only[a8Z.2 ⟨_,heb⟩,ZAF];rw[ZAA,show[na,nb][1]? =some nb from rfl,ZAA,agZ hpbl,ZAA,hpb,ZAA,ZAA];simp only[ZAT,ZAF];erw[buZ hF.pure1]
theorem l1Z(h:TreeOK t)(ha:IsD t.1 a na)(hb:IsD t.1 b nb)(hs:namedB name=true)(hea:(old,id)∈na.2.2.2.2.2.2.2)(hx:t.1[(id-1).toNat]? =some x)(hanc:x.2.2.2.1=true->¬Anc t.1 id b.1)(heb:(name,other)∈nb.2.2.2.2.2.2.2)(hne:other≠id)(hz:t.1[(other-1).toNat]? =some z)(hm:misE x.2.2.2.1 z≠0):tRen fuel t a old b name=some (t.1,(t.2,([],misE x.2.2.2.1 z))):=by
 obtain⟨g1,g2,g3,y,g4,g5,g6⟩:=h.ent ha hea;rw[hx] at g4;cases g4;have hlen:=h.r.len;have hpa:=cWZ (h.srt ha.1) hea;have hpal:=(ZAB.1 hpa).1;unfold tRen;rw[show((t.1,t.2):Tree)=t from rfl,show((a.1,a.2):Int×Int)=a from rfl,show((b.1,b.2):Int×Int)=b from rfl,aVZ h ha hb,ZAA];simp only[ZAT,ZAK,ZAC];rw[axZ,ZAA,g1];simp only[ZAK,ZAC];rw[axZ,ZAA,hs];simp only[ZAK,ZAC,ZAA];rw[show idx? 0 [na,nb].length=some 0 from rfl,ZAA,show[na,nb][0]? =some na from rfl,ZAA,h.ent_ok ha,ZAA,a8Z.2 ⟨id,hea⟩];simp only[ZAK,ZAC,ZAA];rw[show[na,nb][0]? =some na from rfl,ZAA,agZ hpal,ZAA,hpa,ZAA,w64 (by omega),aqZ (by omega) (by omega),ZAA,hx,ZAA];have hbel:(bif x.2.2.2.1 then(tbel fuel (t.1,t.2) b.1 id).bind fun r11=>some (r11,(t.1,(t.2,(a.1,(a.2,(b.1,(b.2,((0:Int),[na,nb]))))))))
  else some (false,(t.1,(t.2,(a.1,(a.2,(b.1,(b.2,(0,[na,nb])))))))))=some (false,(t.1,(t.2,(a.1,(a.2,(b.1,(b.2,(0,[na,nb])))))))):=by
  cases hd:x.2.2.2.1 with
  |false=>rfl
  |true=>
   simp only[ZAF];obtain⟨r,hr,hq⟩:=dfZ h hb id;have:r=false:=by
    cases r with
    |false=>rfl
    |true=>exact absurd (hq.1 rfl) (hanc hd)
   rw[show((t.1,t.2):Tree)=t from rfl,hr,this]
   rfl
 rw[hbel,ZAA];simp only[ZAC];obtain⟨rows,ms,hc,hF⟩:=bxZ h.r.fit;rw[show idx? 1 [na,nb].length=some 1 from rfl,ZAA,show[na,nb][1]? =some nb from rfl,ZAA,h.ent_ok hb,ZAA,show((t.1,t.2):Tree)=t from rfl,hc,ZAA];obtain⟨q1,q2,q3,z',q4,q5,q6⟩:=h.ent hb heb;rw[hz] at q4;cases q4;have hpb:=cWZ (h.srt hb.1) heb;have hpbl:=(ZAB.1 hpb).1;simp only[a8Z.2 ⟨_,heb⟩,ZAF];rw[ZAA,show[na,nb][1]? =some nb from rfl,ZAA,agZ hpbl,ZAA,hpb,ZAA,ZAA];simp only[ZAS.2 hne,ZAC];rw[show idx? 1 [na,nb].length=some 1 from rfl,ZAA,show[na,nb][1]? =some nb from rfl,ZAA,agZ hpbl,ZAA,hpb,ZAA,w64 (by omega),aqZ (by omega) (by omega),ZAA,hz,ZAA,dAZ,ZAA];simp only[ZAS.2 hm,ZAc,ZAF];erw[buZ hF.pure1]
theorem koZ(h:TreeOK t)(ha:IsD t.1 a na)(hb:IsD t.1 b nb)(hs:namedB name=true)(hea:(old,id)∈na.2.2.2.2.2.2.2)(hx:t.1[(id-1).toNat]? =some x)(hanc:x.2.2.2.1=true->¬Anc t.1 id b.1)(hno:hasN nb.2.2.2.2.2.2.2 name=false)(hab:a.1≠b.1)(hl:100<=nb.2.2.2.2.2.2.2.length):tRen fuel t a old b name=some (t.1,(t.2,([],5))):=by
 obtain⟨g1,g2,g3,y,g4,g5,g6⟩:=h.ent ha hea;rw[hx] at g4;cases g4;have hlen:=h.r.len;have hpa:=cWZ (h.srt ha.1) hea;have hpal:=(ZAB.1 hpa).1;unfold tRen;rw[show((t.1,t.2):Tree)=t from rfl,show((a.1,a.2):Int×Int)=a from rfl,show((b.1,b.2):Int×Int)=b from rfl,aVZ h ha hb,ZAA];simp only[ZAT,ZAK,ZAC];rw[axZ,ZAA,g1];simp only[ZAK,ZAC];rw[axZ,ZAA,hs];simp only[ZAK,ZAC,ZAA];rw[show idx? 0 [na,nb].length=some 0 from rfl,ZAA,show[na,nb][0]? =some na from rfl,ZAA,h.ent_ok ha,ZAA,a8Z.2 ⟨id,hea⟩];simp only[ZAK,ZAC,ZAA];rw[show[na,nb][0]? =some na from rfl,ZAA,agZ hpal,ZAA,hpa,ZAA,w64 (by omega),aqZ (by omega) (by omega),ZAA,hx,ZAA];have hbel:(bif x.2.2.2.1 then(tbel fuel (t.1,t.2) b.1 id).bind fun r11=>some (r11,(t.1,(t.2,(a.1,(a.2,(b.1,(b.2,((0:Int),[na,nb]))))))))
  else some (false,(t.1,(t.2,(a.1,(a.2,(b.1,(b.2,(0,[na,nb])))))))))=some (false,(t.1,(t.2,(a.1,(a.2,(b.1,(b.2,(0,[na,nb])))))))):=by
  cases hd:x.2.2.2.1 with
  |false=>rfl
  |true=>
   simp only[ZAF];obtain⟨r,hr,hq⟩:=dfZ h hb id;have:r=false:=by
    cases r with
    |false=>rfl
    |true=>exact absurd (hq.1 rfl) (hanc hd)
   rw[show((t.1,t.2):Tree)=t from rfl,hr,this]
   rfl
 rw[hbel,ZAA];simp only[ZAC];obtain⟨rows,ms,hc,hF⟩:=bxZ h.r.fit;rw[show idx? 1 [na,nb].length=some 1 from rfl,ZAA,show[na,nb][1]? =some nb from rfl,ZAA,h.ent_ok hb,ZAA,show((t.1,t.2):Tree)=t from rfl,hc,ZAA];simp only[hno,ZAC,ZAA,ZAS.2 hab,ZAc,ZAF];rw[show idx? 1 [na,nb].length=some 1 from rfl,ZAA,show[na,nb][1]? =some nb from rfl,ZAA,ZAA,ZAO (show((nb.2.2.2.2.2.2.2.length:Nat):Int)>=100 by omega)];simp only[ZAF];erw[buZ hF.pure1]
theorem kFZ(h:TreeOK t)(m:MvOk t a old b name id na nb x):∃b1 x1,(takeL t.1 a.1 old)[(b.1-1).toNat]? =some b1/\Srt b1.2.2.2.2.2.2.2/\b1.2.2.2.2.2.2.2.length<=100/\(putL (takeL t.1 a.1 old) b.1 name id)[(id-1).toNat]? =some x1:=by
 obtain⟨k1,k2,hid2,hidl,hxu,hxp⟩:=m.ne h;have hfa:=h.few m.da.1;have hfb:=h.few m.db.1;have hb1:∃b1,(takeL t.1 a.1 old)[(b.1-1).toNat]? =some b1/\Srt b1.2.2.2.2.2.2.2/\b1.2.2.2.2.2.2.2.length<=100:=by
  unfold takeL;rw[bmZ,m.db.1.2.1];split
  ·refine⟨_,rfl,dwZ old (h.srt m.db.1),?_⟩;have:(delE nb.2.2.2.2.2.2.2 old).length<=nb.2.2.2.2.2.2.2.length:=ZBe _ _;show(delE _ _).length<=100;omega
  ·exact⟨_,rfl,h.srt m.db.1,hfb⟩
 obtain⟨b1,h1,h2,h3⟩:=hb1;refine⟨b1,x,h1,h2,h3,?_⟩;unfold putL takeL;rw[bmZ,bmZ,ZAL k2,ZAL k1];exact m.x
theorem jMZ(h:TreeOK t)(m:MvOk t a old b name id na nb x)(hanc:x.2.2.2.1=true->¬Anc t.1 id b.1):tRen fuel t a old b name=some (mvL t.1 a.1 old b.1 name id,(t.2,([],0))):=by
 have ha:=m.da;have hb:=m.db;have hs:=m.nm;have hea:=m.ea;have hx:=m.x;have hno:=m.no;obtain⟨g1,g2,g3,y,g4,g5,g6⟩:=h.ent ha hea;rw[hx] at g4;cases g4;have hlen:=h.r.len;have hpa:=cWZ (h.srt ha.1) hea;have hpal:=(ZAB.1 hpa).1;unfold tRen;rw[show((t.1,t.2):Tree)=t from rfl,show((a.1,a.2):Int×Int)=a from rfl,show((b.1,b.2):Int×Int)=b from rfl,aVZ h ha hb,ZAA];simp only[ZAT,ZAK,ZAC];rw[axZ,ZAA,g1];simp only[ZAK,ZAC];rw[axZ,ZAA,hs];simp only[ZAK,ZAC,ZAA];rw[show idx? 0 [na,nb].length=some 0 from rfl,ZAA,show[na,nb][0]? =some na from rfl,ZAA,h.ent_ok ha,ZAA,a8Z.2 ⟨id,hea⟩];simp only[ZAK,ZAC,ZAA];rw[show[na,nb][0]? =some na from rfl,ZAA,agZ hpal,ZAA,hpa,ZAA,w64 (by omega),aqZ (by omega) (by omega),ZAA,hx,ZAA];have hbel:(bif x.2.2.2.1 then(tbel fuel (t.1,t.2) b.1 id).bind fun r11=>some (r11,(t.1,(t.2,(a.1,(a.2,(b.1,(b.2,((0:Int),[na,nb]))))))))
  else some (false,(t.1,(t.2,(a.1,(a.2,(b.1,(b.2,(0,[na,nb])))))))))=some (false,(t.1,(t.2,(a.1,(a.2,(b.1,(b.2,(0,[na,nb])))))))):=by
  cases hd:x.2.2.2.1 with
  |false=>rfl
  |true=>
   simp only[ZAF];obtain⟨r,hr,hq⟩:=dfZ h hb id;have:r=false:=by
    cases r with
    |false=>rfl
    |true=>exact absurd (hq.1 rfl) (hanc hd)
   rw[show((t.1,t.2):Tree)=t from rfl,hr,this]
   rfl
 rw[hbel,ZAA];simp only[ZAC];obtain⟨rows,ms,hc,hF⟩:=bxZ h.r.fit;rw[show idx? 1 [na,nb].length=some 1 from rfl,ZAA,show[na,nb][1]? =some nb from rfl,ZAA,h.ent_ok hb,ZAA,show((t.1,t.2):Tree)=t from rfl,hc,ZAA];simp only[hno,ZAC,ZAA];have hfull:(bif !(a.1==b.1) then
  (idx? 1 [na,nb].length).bind fun q10=>([na,nb])[q10]?.bind fun r24=>some ((decide (((r24.2.2.2.2.2.2.2.length:Nat):Int)>=100)),(a.1,(a.2,(b.1,(b.2,((0:Int),(t.2,(rows,ms))))))))
  else some (false,(a.1,(a.2,(b.1,(b.2,(0,(t.2,(rows,ms)))))))))=some (false,(a.1,(a.2,(b.1,(b.2,(0,(t.2,(rows,ms)))))))):=by
  by_cases hab:a.1=b.1
  ·rw[show(a.1==b.1)=true from by simp[hab]]
   rfl
  ·rw[ZAS.2 hab];have:=m.few hab;simp only[ZAc,ZAF];rw[show idx? 1 [na,nb].length=some 1 from rfl,ZAA,show[na,nb][1]? =some nb from rfl,ZAA,ZAJ (show¬((nb.2.2.2.2.2.2.2.length:Nat):Int)>=100 by omega)]
 rw[hfull,ZAA];simp only[ZAC];obtain⟨b1,x1,p1,p2,p3,p4⟩:=kFZ h m;obtain⟨rows1,ms1,ht,hF1⟩:=d9Z t.2 old hF (by omega) ha.1.1 ha.1.2.1 (by have:=h.few ha.1;omega);rw[<-d0Z ha] at hF1;have hl1:(takeL t.1 a.1 old).length=t.1.length:=aXZ ..;obtain⟨rows2,ms2,hp2,hF2⟩:=put_ok t.2 name id hF1 (by omega) hb.1.1 p1 p2 (by omega);have e2:putL (takeL t.1 a.1 old) b.1 name id=(takeL t.1 a.1 old).set (b.1-1).toNat (wE b1 (insE b1.2.2.2.2.2.2.2 name id)):=b5Z _ p1;rw[<-e2] at hF2;have hl2:(putL (takeL t.1 a.1 old) b.1 name id).length=t.1.length:=(aXZ ..).trans hl1;have hrl:=hF2.len;rw[ht,ZAA];simp only;rw[hp2,ZAA];simp only;obtain⟨row,hr,⟨y,hry⟩,_⟩:=hF2.row p4;have hF3:=hF2.keep (row':=toE (wP x1 b.1) y) (k':=wP x1 b.1) hr p4 ⟨y,rfl⟩ (by rw[hry];rfl) rfl;have e3:parL (putL (takeL t.1 a.1 old) b.1 name id) id b.1=(putL (takeL t.1 a.1 old) b.1 name id).set (id-1).toNat (wP x1 b.1):=b5Z _ p4;rw[<-e3] at hF3;rw[aqZ (by omega) (by omega),ZAA,hr,ZAA];have e4:(row.1,(row.2.1,(row.2.2.1,(row.2.2.2.1,(row.2.2.2.2.1,(row.2.2.2.2.2.1,(b.1,row.2.2.2.2.2.2.2)))))))=toE (wP x1 b.1) y:=by rw[hry];rfl
 rw[e4];erw[buZ (FamE.pure1 hF3)]
 rfl
theorem ktZ(h:TreeOK t)(ha:IsD t.1 a na)(hb:IsD t.1 b nb)(hs:namedB name=true)(hea:(old,id)∈na.2.2.2.2.2.2.2)(hx:t.1[(id-1).toNat]? =some x)(hanc:x.2.2.2.1=true->¬Anc t.1 id b.1)(heb:(name,other)∈nb.2.2.2.2.2.2.2)(hne:other≠id)(hz:t.1[(other-1).toNat]? =some z)(hm:misE x.2.2.2.1 z=0)
 {na' nb' x':Ino}(h0:TreeOK (dropL (takeL t.1 b.1 name) other,t.2))(m:MvOk (dropL (takeL t.1 b.1 name) other,t.2) a old b name id na' nb' x'):
 tRen fuel t a old b name=some (mvL (dropL (takeL t.1 b.1 name) other) a.1 old b.1 name id,(t.2,(keptP z.2.2.2.2.2.1,0))):=by
 obtain⟨q1,q2,q3,z',q4,q5,q6⟩:=h.ent hb heb;rw[hz] at q4;cases q4;obtain⟨g1,g2,g3,y,g4,g5,g6⟩:=h.ent ha hea;rw[hx] at g4;cases g4;have hlen:=h.r.len;have hpa:=cWZ (h.srt ha.1) hea;have hpal:=(ZAB.1 hpa).1;unfold tRen;rw[show((t.1,t.2):Tree)=t from rfl,show((a.1,a.2):Int×Int)=a from rfl,show((b.1,b.2):Int×Int)=b from rfl,aVZ h ha hb,ZAA];simp only[ZAT,ZAK,ZAC];rw[axZ,ZAA,g1];simp only[ZAK,ZAC];rw[axZ,ZAA,hs];simp only[ZAK,ZAC,ZAA];rw[show idx? 0 [na,nb].length=some 0 from rfl,ZAA,show[na,nb][0]? =some na from rfl,ZAA,h.ent_ok ha,ZAA,a8Z.2 ⟨id,hea⟩];simp only[ZAK,ZAC,ZAA];rw[show[na,nb][0]? =some na from rfl,ZAA,agZ hpal,ZAA,hpa,ZAA,w64 (by omega),aqZ (by omega) (by omega),ZAA,hx,ZAA];have hbel:(bif x.2.2.2.1 then(tbel fuel (t.1,t.2) b.1 id).bind fun r11=>some (r11,(t.1,(t.2,(a.1,(a.2,(b.1,(b.2,((0:Int),[na,nb]))))))))
  else some (false,(t.1,(t.2,(a.1,(a.2,(b.1,(b.2,(0,[na,nb])))))))))=some (false,(t.1,(t.2,(a.1,(a.2,(b.1,(b.2,(0,[na,nb])))))))):=by
  cases hd:x.2.2.2.1 with
  |false=>rfl
  |true=>
   simp only[ZAF];obtain⟨r,hr,hq⟩:=dfZ h hb id;have:r=false:=by
    cases r with
    |false=>rfl
    |true=>exact absurd (hq.1 rfl) (hanc hd)
   rw[show((t.1,t.2):Tree)=t from rfl,hr,this]
   rfl
 rw[hbel,ZAA];simp only[ZAC];obtain⟨rows,ms,hc,hF⟩:=bxZ h.r.fit;rw[show idx? 1 [na,nb].length=some 1 from rfl,ZAA,show[na,nb][1]? =some nb from rfl,ZAA,h.ent_ok hb,ZAA,show((t.1,t.2):Tree)=t from rfl,hc,ZAA];have hpb:=cWZ (h.srt hb.1) heb;have hpbl:=(ZAB.1 hpb).1;simp only[a8Z.2 ⟨_,heb⟩,ZAF];rw[ZAA,show[na,nb][1]? =some nb from rfl,ZAA,agZ hpbl,ZAA,hpb,ZAA,ZAA];simp only[ZAS.2 hne,ZAC];rw[show idx? 1 [na,nb].length=some 1 from rfl,ZAA,show[na,nb][1]? =some nb from rfl,ZAA,agZ hpbl,ZAA,hpb,ZAA,w64 (by omega),aqZ (by omega) (by omega),ZAA,hz,ZAA,dAZ,ZAA,hm];simp only[ZAT,ZAK,ZAC];have hze:z.2.2.2.2.2.2.2=[]:=by
  unfold misE at hm;split at hm
  ·cases hm
  ·split at hm
   ·cases hm
   ·split at hm
    ·assumption
    ·cases hm
 obtain⟨rows0,mp,me,hw,hP0,hE0⟩:=j1Z h hb heb hz hze;rw[show((t.1,t.2):Tree)=t from rfl,hw,ZAA];simp only[ZAT,ZAK,ZAC];obtain⟨b1,x1,p1,p2,p3,p4⟩:=kFZ h0 m;simp only at p1 p4;have hl0:(dropL (takeL t.1 b.1 name) other).length=t.1.length:=(aXZ ..).trans (aXZ ..);have hna':=h0.few m.da.1;obtain⟨rows1,me1,ht,hP1,hE1⟩:=oYZ t.2 old hP0 hE0 (by omega) m.da.1.1 m.da.1.2.1 (by omega);rw[<-d0Z (t:=(dropL (takeL t.1 b.1 name) other,t.2)) m.da] at hP1 hE1;simp only at hP1 hE1;have hl1:(takeL (dropL (takeL t.1 b.1 name) other) a.1 old).length=t.1.length:=(aXZ ..).trans hl0;obtain⟨rows2,me2,hp2,hP2,hE2⟩:=qWZ t.2 name id hP1 hE1 (by omega) hb.1.1 p1 p2 (by omega);have e2:putL (takeL (dropL (takeL t.1 b.1 name) other) a.1 old) b.1 name id=(takeL (dropL (takeL t.1 b.1 name) other) a.1 old).set (b.1-1).toNat (wE b1 (insE b1.2.2.2.2.2.2.2 name id)):=b5Z _ p1;rw[<-e2] at hP2 hE2;have hl2:(putL (takeL (dropL (takeL t.1 b.1 name) other) a.1 old) b.1 name id).length=t.1.length:=(aXZ ..).trans hl1;have hrl:=hP2.len;rw[ht,ZAA];simp only;rw[hp2,ZAA];simp only;obtain⟨row,hr,⟨y,w,hry⟩,_⟩:=hP2.row p4;have hP3:=hP2.keep (row':=to2 (wP x1 b.1) y w) (k':=wP x1 b.1) hr p4 ⟨y,w,rfl⟩ (by rw[hry];rfl) rfl;have hE3:=hE2.keep (row':=to2 (wP x1 b.1) y w) (k':=wP x1 b.1) hr p4 ⟨y,w,rfl⟩ (by rw[hry];rfl) rfl;have e3:parL (putL (takeL (dropL (takeL t.1 b.1 name) other) a.1 old) b.1 name id) id b.1=(putL (takeL (dropL (takeL t.1 b.1 name) other) a.1 old) b.1 name id).set (id-1).toNat (wP x1 b.1):=b5Z _ p4;rw[<-e3] at hP3 hE3;rw[aqZ (by omega) (by omega),ZAA,hr,ZAA];have e4:(row.1,(row.2.1,(row.2.2.1,(row.2.2.2.1,(row.2.2.2.2.1,(row.2.2.2.2.2.1,(b.1,row.2.2.2.2.2.2.2)))))))=to2 (wP x1 b.1) y w:=by rw[hry];rfl
 rw[e4];erw[buZ (ofZ (ms.map frz1) hP3 hE3)]
 rfl
end
end Go.Ab.D
namespace Go.Ab.D
open Go Go.Ab
def pickI(x n:Int):Int:=if Int.tmod x n<0 then IntKind.wrap .i64 (Int.tmod x n+n) else Int.tmod x n
theorem eYZ(x n:Int)(hn:1<=n):kit_Pick fuel x n=some (pickI x n):=by
 unfold kit_Pick pickI;rw[show decide (n<1)=false from by simp;omega,ZAC,abZ (by simp;omega)];by_cases h:Int.tmod x n<0
 ·rw[ZAO h,ZAF,ZAQ h]
 ·rw[ZAJ h,ZAC,ZAL h]
theorem faZ(x:Int){n:Int}(hn:1<=n)(hn2:n<=1000000):0<=pickI x n/\pickI x n<n:=by
 unfold pickI;have h1:=Int.tmod_lt_of_pos x (show 0<n by omega);have h2: -n<Int.tmod x n:=by
  have:=Int.tmod_lt_of_pos (-x) (show 0<n by omega);rw[Int.neg_tmod] at this;omega
 split
 ·rw[w64 (by omega)];omega
 ·omega
theorem jdZ{dir:Bool}{x:Ino}(h:misE dir x=0):x.2.2.2.2.2.2.2=[]/\x.2.2.2.1=dir:=by
 unfold misE at h;split at h
 ·cases h
 ·rename_i h1;split at h
  ·cases h
  ·rename_i h2;split at h
   ·rename_i h3;refine⟨h3,?_⟩;cases dir<;>cases hd:x.2.2.2.1<;>simp_all
   ·cases h
section
variable {t : Tree} {a b d : Int × Int} {na nb n x z : Ino} {old name s : List UInt8} {id other : Int}
def Found(t:Tree)(d:Int×Int)(s:List UInt8)(h:Int×Int):Prop:=∃n x,IsD t.1 d n/\(s,h.1)∈n.2.2.2.2.2.2.2/\t.1[(h.1-1).toNat]? =some x/\x.2.1=h.2/\x.2.2.1=true
structure MadeOk (t:Tree) (d:Int×Int) (s:List UInt8) (is:Bool) (T:Tree) (f:Int×Int) (n:Ino) (l':List Ino) (i:Nat):Prop where
 dir:IsD t.1 d n
 nm:namedB s=true
 no:hasN n.2.2.2.2.2.2.2 s=false
 few:n.2.2.2.2.2.2.2.length<100
 alc:Alc t.1 is d.1 l' i f.2
 T:T=(putL l' d.1 s ((i:Int)+1),t.2)
 f:f.1=(i:Int)+1
theorem ptZ{l':List Ino}{i:Nat}{g:Int}{is:Bool}(hn:IsD t.1 d n)(hA:Alc t.1 is d.1 l' i g)(id:Int):madeL l' d.1 n s id=putL l' d.1 s id:=by
 have hne:(d.1-1).toNat≠i:=fun hc=>by
  have:=hA.was n (by rw[<-hc];exact hn.1.2.1);rw[hn.1.2.2.1] at this;cases this
 unfold madeL putL;rw[b5Z _ (by rw[hA.old _ hne];exact hn.1.2.1)]
structure RmOk (t:Tree) (d:Int×Int) (s:List UInt8) (is:Bool) (T:Tree) (gone:List Part) (n:Ino) (id:Int) (x:Ino):Prop where
 dir:IsD t.1 d n
 e:(s,id)∈n.2.2.2.2.2.2.2
 at_:t.1[(id-1).toNat]? =some x
 mis:misE is x=0
 T:T=(dropL (takeL t.1 d.1 s) id,t.2)
 gone:gone=keptP x.2.2.2.2.2.1
theorem s1Z(h:TreeOK t)(ha:IsD t.1 a na)(hb:IsD t.1 b nb)(hea:(old,id)∈na.2.2.2.2.2.2.2)(hx:t.1[(id-1).toNat]? =some x)(hanc:x.2.2.2.1=true->¬Anc t.1 id b.1):¬Anc t.1 id b.1:=by
 cases hd:x.2.2.2.1 with
 |true=>exact hanc hd
 |false=>
  intro hc;obtain⟨_,h2,_,y,hy,hu,_⟩:=h.ent ha hea;rw[hx] at hy;cases hy;have hxe:x.2.2.2.2.2.2.2=[]:=((h.r.ino _ x hx).file hu hd).2.1;have:=psZ h hx h2 hxe hc hb.1.1;have hn:=hb.1.2.1;rw[this,hx] at hn;cases hn;rw[hb.2] at hd;cases hd
theorem rvZ(h:TreeOK t)(ha:IsD t.1 a na)(hb:IsD t.1 b nb)(hs:namedB name=true)(hea:(old,id)∈na.2.2.2.2.2.2.2)(hx:t.1[(id-1).toNat]? =some x)(hanc:¬Anc t.1 id b.1)(heb:(name,other)∈nb.2.2.2.2.2.2.2)(hne:other≠id)(hz:t.1[(other-1).toNat]? =some z)(hze:z.2.2.2.2.2.2.2=[]):
 ∃na' nb',MvOk (dropL (takeL t.1 b.1 name) other,t.2) a old b name id na' nb' x/\nb'=wE nb (delE nb.2.2.2.2.2.2.2 name):=by
 obtain⟨_,i2,i3,y,hy,hu,hp⟩:=h.ent ha hea;rw[hx] at hy;cases hy;obtain⟨_,o2,o3,w,hw,hzu,hzp⟩:=h.ent hb heb;rw[hz] at hw;cases hw;have hk:=p9Z heb hb hz hze;have hka:(other-1).toNat≠(a.1-1).toNat:=fun hc=>by
  have:=ha.1.2.1;rw[<-hc,hz] at this;cases this;rw[hze] at hea;cases hea
 have hat:=fun j=>rTZ (s:=name) hk hb hz j;have hb1:=hb.1.1;have hfb:=h.few hb.1;have hdl:=lkZ (h.srt hb.1) heb;have hkb:(id-1).toNat≠(b.1-1).toNat:=fun hc=>by
  have:id=b.1:=by omega
  exact hanc (by rw[this];exact .refl)
 have hno:hasN (delE nb.2.2.2.2.2.2.2 name) name=false:=by
  cases hh:hasN (delE nb.2.2.2.2.2.2.2 name) name with
  |false=>rfl
  |true=>obtain⟨i,hi⟩:=a8Z.1 hh;exact absurd rfl (bzZ.1 hi).2
 have hdb:IsD (dropL (takeL t.1 b.1 name) other) b (wE nb (delE nb.2.2.2.2.2.2.2 name)):=⟨⟨hb1,by rw[hat,ZAL (by omega),ZAQ rfl],hb.1.2.2.1,hb.1.2.2.2⟩,hb.2⟩;have hda:∃na',IsD (dropL (takeL t.1 b.1 name) other) a na'/\(old,id)∈na'.2.2.2.2.2.2.2:=by
  by_cases hab:(a.1-1).toNat=(b.1-1).toNat
  ·have hnn:na=nb:=by
    have:=ha.1.2.1;rw[hab,hb.1.2.1] at this;injection this with this;exact this.symm
   subst hnn;refine⟨wE na (delE na.2.2.2.2.2.2.2 name),⟨⟨ha.1.1,by rw[hat,ZAL (by omega),ZAQ hab],ha.1.2.2.1,ha.1.2.2.2⟩,ha.2⟩,bzZ.2 ⟨hea,fun hc=> ?_⟩⟩;have hc:old=name:=hc;subst hc;exact hne (dpZ (h.srt hb.1) heb hea)
  ·exact⟨na,⟨⟨ha.1.1,by rw[hat,ZAL (by omega),ZAL hab];exact ha.1.2.1,ha.1.2.2.1,ha.1.2.2.2⟩,ha.2⟩,hea⟩
 obtain⟨na',hda,hea'⟩:=hda;refine⟨na',_,⟨hda,hdb,hea',?_,hs,hno,fun _=> ?_,fun hc=>hanc ?_⟩,rfl⟩
 ·show(dropL (takeL t.1 b.1 name) other)[(id-1).toNat]? =_;rw[hat,ZAL (by omega),ZAL hkb];exact hx
 ·show(delE _ _).length<100;omega
 ·have go:∀i,Anc (dropL (takeL t.1 b.1 name) other) id i->1<=i->Anc t.1 id i:=fun i hi=>by
   induction hi with
   |refl=>intro _;exact .refl
   | @step i y h1 hy hyu _ ih=>
     intro hi1;rw[hat] at hy;by_cases c1:(i-1).toNat=(other-1).toNat
     ·rw[ZAQ c1] at hy;cases hy;cases hyu
     ·rw[ZAL c1] at hy;by_cases c2:(i-1).toNat=(b.1-1).toNat
      ·rw[ZAQ c2] at hy;cases hy;exact .step h1 (by rw[c2];exact hb.1.2.1) hb.1.2.2.1 (ih ((h.r.ino _ nb hb.1.2.1).par hb.1.2.2.1).1)
      ·rw[ZAL c2] at hy;exact .step h1 hy hyu (ih ((h.r.ino _ y hy).par hyu).1)
  exact go _ hc hb1
inductive Moved (t:Tree) (a:Int×Int) (old:List UInt8) (b:Int×Int) (name:List UInt8) (T:Tree) (gone:List Part) (id:Int) (x:Ino):Prop
 |same {na nb:Ino}:T=t->gone=[]->IsD t.1 a na->IsD t.1 b nb->(old,id)∈na.2.2.2.2.2.2.2->(name,id)∈nb.2.2.2.2.2.2.2->t.1[(id-1).toNat]? =some x->Moved t a old b name T gone id x
 |move {na nb:Ino}:T=(mvL t.1 a.1 old b.1 name id,t.2)->gone=[]->MvOk t a old b name id na nb x->Moved t a old b name T gone id x
 |over {na nb na' nb' z:Ino} {other:Int}:T=(mvL (dropL (takeL t.1 b.1 name) other) a.1 old b.1 name id,t.2)->gone=keptP z.2.2.2.2.2.1->IsD t.1 a na->IsD t.1 b nb->(old,id)∈na.2.2.2.2.2.2.2->t.1[(id-1).toNat]? =some x->(name,other)∈nb.2.2.2.2.2.2.2->other≠id->t.1[(other-1).toNat]? =some z->misE x.2.2.2.1 z=0->TreeOK (dropL (takeL t.1 b.1 name) other,t.2)->MvOk (dropL (takeL t.1 b.1 name) other,t.2) a old b name id na' nb' x->Moved t a old b name T gone id x
end
theorem r5Z:TreeOK ([(1,1,true,true,0,[],1,[])],0):=by
 refine⟨⟨by simp,by simp,fun i n hn=> ?_,by simp[allStripes,stripes],_,rfl,rfl,rfl,rfl⟩,fun i n hn s id he=> ?_,fun j x hx hu hj=> ?_,fun j x hx hu=> ?_⟩
 ·cases i with
  |zero=>simp at hn;subst hn;exact⟨rfl,by simp,by simp,fun _ _=>⟨rfl,rfl,by simp,trivial⟩,by simp,by simp⟩
  |succ i=>simp at hn
 ·cases i with
  |zero=>simp at hn;subst hn;cases he
  |succ i=>simp at hn
 ·cases j with
  |zero=>exact absurd rfl hj
  |succ i=>simp at hx
 ·cases j with
  |zero=>exact .root
  |succ i=>simp at hx
end Go.Ab.D
namespace Go.Ab.D
open Go Go.Ab
def allocF(l:List Ino)(dir:Bool)(parent:Int):Option (List Ino×Nat×Int):=
 match freeAt l with
 |none=>if l.length<500 then some (l++[((l.length:Int)+1,1,true,dir,0,[],parent,[])],l.length,1) else none
 |some i=>match l[i]? with
  |none=>none
  |some n=>if n.2.1<1099511627776 then some (l.set i ((i:Int)+1,n.2.1+1,true,dir,0,[],parent,[]),i,n.2.1+1) else none
theorem q3Z{l l':List Ino}{dir:Bool}{parent g:Int}{i:Nat}(h:Alc l dir parent l' i g):allocF l dir parent=some (l',i,g):=by
 unfold allocF;have hs:=h.slot;have hlen:=h.len;cases hf:freeAt l with
 |none=>
  rw[hf] at hs;have hs:i=l.length:=hs;rw[ZAL (by omega)] at hlen;have:=h.few;have hg:g=0+1:=by
   have:=h.gen;rw[ZAn (by omega)] at this;exact this
  rw[ZAQ (by omega)];subst hs hg;show some (l++[((l.length:Int)+1,1,true,dir,0,[],parent,[])],l.length,(1:Int))=some (l',l.length,0+1);have e:l++[((l.length:Int)+1,1,true,dir,0,[],parent,[])]=l':= ?_
  ·rw[e];rfl
  refine ZCC fun j=> ?_;by_cases hj:j=l.length
  ·subst hj;rw[h.new];simp
  ·rw[h.old j hj];by_cases hj2:j<l.length
   ·rw[ZAP hj2]
   ·rw[ZAn (by simp;omega),ZAn (by omega)]
 |some k=>
  rw[hf] at hs;have hs:i=k:=hs;subst hs;obtain⟨hk,_,_⟩:=ZBB.1 hf;have hg:l[i]? =some l[i]:=ZAE hk;have hgen:=h.gen;rw[hg] at hgen;have hgen:g=l[i].2.1+1:=hgen;have:=h.top;simp only[hg];rw[ZAQ (by omega),<-hgen];congr 2;refine ZCC fun j=> ?_;by_cases hj:j=i
  ·subst hj;rw[h.new,ZAX hk]
  ·rw[h.old j hj,ZAW (by omega)]
theorem mCZ{l:List Ino}(h:noRoom l)(dir:Bool)(parent:Int):allocF l dir parent=none:=by
 unfold noRoom at h;unfold allocF;cases hf:freeAt l with
 |none=>rw[hf] at h;exact ZAL (by omega)
 |some i=>
  rw[hf] at h;obtain⟨n,hn,hg⟩:=h;simp only[hn];exact ZAL (by omega)
def findE(l:List Ent)(s:List UInt8):Option Int:=(l.find? fun e=>e.1==s).map (·.2)
theorem drZ{l:List Ent}(h:Srt l){s:List UInt8}{id:Int}(hm:(s,id)∈l):findE l s=some id:=by
 unfold findE;cases hf:l.find? (fun e=>e.1==s) with
 |none=>have:=List.find?_eq_none.1 hf _ hm;simp at this
 |some e=>
  have h1:=List.mem_of_find?_eq_some hf;have h2:=List.find?_some hf;have h2:e.1=s:=by simpa using h2
  have:(s,e.2)∈l:=by rw[<-h2];exact h1
  rw[dpZ h hm this]
  rfl
theorem dnZ{l:List Ent}{s:List UInt8}(h:hasN l s=false):findE l s=none:=by
 unfold findE;rw[List.find?_eq_none.2]
 ·rfl
 ·intro e he hh;have h2:e.1=s:=by simpa using hh
  have:=(a8Z (l:=l) (s:=s)).2 ⟨e.2,by rw[<-h2];exact he⟩;rw[h] at this;cases this
def ancB(l:List Ino)(top:Int):Nat->Int->Bool
 |0,id=>id==top
 |k+1,id=>bif id==top then true else bif id==1 then false else match l[(id-1).toNat]? with
  |some n=>n.2.2.1&&ancB l top k n.2.2.2.2.2.2.1
  |none=>false
theorem oKZ{l:List Ino}(top:Int):∀(k:Nat) (id:Int),reachN l k id=true->(ancB l top k id=true↔Anc l top id)
 |0,id,h=>by
  have h:id=1:=by unfold reachN at h;simpa using h
  unfold ancB;rw[ZBY];constructor
  ·rintro rfl;exact .refl
  ·intro ha;cases ha with
   |refl=>rfl
   |step h1=>exact absurd h h1
 |k+1,id,h=>by
  unfold ancB;cases h1:(id==top) with
  |true=>rw[ZBY] at h1;subst h1;simp;exact .refl
  |false=>
   cases h2:(id==1) with
   |true=>
    simp only[ZAC,ZAF];constructor
    ·intro hc;cases hc
    ·intro ha;cases ha with
     |refl=>rw[ZAT] at h1;cases h1
     |step h3=>rw[ZBY] at h2;exact absurd h2 h3
   |false=>
    unfold reachN at h;rw[h2] at h;simp only[ZAC] at h⊢;cases hg:l[(id-1).toNat]? with
    |none=>rw[hg] at h;cases h
    |some n=>
     rw[hg] at h;simp only[ZAD] at h⊢;rw[oKZ top k _ h.2];constructor
     ·rintro⟨h3,h4⟩;exact .step (by simpa using h2) hg h3 h4
     ·intro ha;cases ha with
      |refl=>rw[ZAT] at h1;cases h1
      |step _ h4 h5 h6=>rw[hg] at h4;cases h4;exact⟨h5,h6⟩
theorem kAZ{t:Tree}(h:TreeOK t){b:Int×Int}{nb:Ino}(hb:IsD t.1 b nb)(top:Int):ancB t.1 top t.1.length b.1=true↔Anc t.1 top b.1:=by
 have hlt:=(ZAB.1 hb.1.2.1).1;have hdb:=e1Z hb;have hb1:=hb.1.1;exact oKZ top _ _ (eFZ h.r.len.1 (fun j x hx hxu=>(h.r.ino j x hx).par hxu) hb1 (by omega) (by have:=h.a _ nb hb.1.2.1 hb.1.2.2.1;rw[hdb] at this;exact this))
def makeF(t:Tree)(d:Int×Int)(s:List UInt8)(is:Bool):Tree×(Int×Int)×Int:=
 if dirE t.1 d=0 then
  if namedB s=true then
   match t.1[(d.1-1).toNat]? with
   |none=>(t,(0,0),170)
   |some n=>if hasN n.2.2.2.2.2.2.2 s=true then(t,(0,0),172) else if 100<=n.2.2.2.2.2.2.2.length then(t,(0,0),5) else
    match allocF t.1 is d.1 with
    |none=>(t,(0,0),5)
    |some (l',i,g)=>((putL l' d.1 s ((i:Int)+1),t.2),((i:Int)+1,g),0)
  else(t,(0,0),176)
 else(t,(0,0),dirE t.1 d)
theorem nkZ{t:Tree}(h:TreeOK t)(d:Int×Int)(s:List UInt8)(is:Bool):tree_Make fuel t d s is=some ((makeF t d s is).1.1,((makeF t d s is).1.2,((makeF t d s is).2.1.1,((makeF t d s is).2.1.2,(makeF t d s is).2.2))))/\TreeOK (makeF t d s is).1:=by
 unfold makeF;rcases btZ t.1 d with⟨n,hn⟩|⟨hb,_⟩
 ·rw[ZAQ (bMZ hn),hn.1.2.1];simp only;cases hs:namedB s with
  |false=>rw[ZAL (by simp)];exact⟨nvZ h is hn hs,h⟩
  |true=>
   rw[ZAQ rfl];cases hh:hasN n.2.2.2.2.2.2.2 s with
   |true=>rw[ZAQ rfl];exact⟨lOZ h is hn hs hh,h⟩
   |false=>
    rw[ZAL (by simp)];by_cases hl:100<=n.2.2.2.2.2.2.2.length
    ·rw[ZAQ hl];exact⟨mJZ h is hn hs hh hl,h⟩
    ·rw[ZAL hl];rcases mvZ h is hn hs hh (by omega) with⟨hno,hm⟩|⟨l',i,g,hA,hm⟩
     ·rw[mCZ hno];exact⟨hm,h⟩
     ·rw[q3Z hA,hm,ptZ hn hA];exact⟨rfl,p4Z h hn hs hh (by omega) hA⟩
 ·rw[ZAL hb];exact⟨oZZ h s is hb,h⟩
def removeF(t:Tree)(d:Int×Int)(s:List UInt8)(is:Bool):Tree×List Part×Int:=
 if dirE t.1 d=0 then
  if namedB s=true then
   match t.1[(d.1-1).toNat]? with
   |none=>(t,[],170)
   |some n=>match findE n.2.2.2.2.2.2.2 s with
    |none=>(t,[],171)
    |some id=>match t.1[(id-1).toNat]? with
     |none=>(t,[],170)
     |some x=>if misE is x=0 then((dropL (takeL t.1 d.1 s) id,t.2),keptP x.2.2.2.2.2.1,0) else(t,[],misE is x)
  else(t,[],176)
 else(t,[],dirE t.1 d)
theorem iHZ{t:Tree}(h:TreeOK t)(d:Int×Int)(s:List UInt8)(is:Bool):tRem fuel t d s is=some ((removeF t d s is).1.1,((removeF t d s is).1.2,((removeF t d s is).2.1,(removeF t d s is).2.2)))/\TreeOK (removeF t d s is).1:=by
 unfold removeF;rcases btZ t.1 d with⟨n,hn⟩|⟨hb,_⟩
 ·rw[ZAQ (bMZ hn),hn.1.2.1];simp only;cases hs:namedB s with
  |false=>rw[ZAL (by simp)];exact⟨j4Z h is hn hs,h⟩
  |true=>
   rw[ZAQ rfl];cases hh:hasN n.2.2.2.2.2.2.2 s with
   |false=>rw[dnZ hh];exact⟨kfZ h is hn hs hh,h⟩
   |true=>
    obtain⟨id,he⟩:=a8Z.1 hh;obtain⟨_,_,_,x,hx,hu,_⟩:=h.ent hn he;rw[drZ (h.srt hn.1) he];simp only[hx];have hr:=jJZ h is hn he hx;by_cases hm:misE is x=0
    ·rw[ZAQ hm] at hr⊢;exact⟨hr,lrZ h hn he hx (jdZ hm).1⟩
    ·rw[ZAL hm] at hr⊢;exact⟨hr,h⟩
 ·rw[ZAL hb];exact⟨mDZ h s is hb,h⟩
def renameF(t:Tree)(a:Int×Int)(old:List UInt8)(b:Int×Int)(name:List UInt8):Tree×List Part×Int:=
 if dirE t.1 a=0 then
  if dirE t.1 b=0 then
   if(namedB old&&namedB name)=true then
    match t.1[(a.1-1).toNat]? with
    |none=>(t,[],170)
    |some na=>match t.1[(b.1-1).toNat]? with
     |none=>(t,[],170)
     |some nb=>match findE na.2.2.2.2.2.2.2 old with
      |none=>(t,[],171)
      |some id=>match t.1[(id-1).toNat]? with
       |none=>(t,[],170)
       |some x=>if(x.2.2.2.1&&ancB t.1 id t.1.length b.1)=true then(t,[],178) else
        match findE nb.2.2.2.2.2.2.2 name with
        |none=>if a.1≠b.1/\100<=nb.2.2.2.2.2.2.2.length then(t,[],5) else((mvL t.1 a.1 old b.1 name id,t.2),[],0)
        |some other=>if other=id then(t,[],0) else match t.1[(other-1).toNat]? with
         |none=>(t,[],170)
         |some z=>if misE x.2.2.2.1 z=0 then((mvL (dropL (takeL t.1 b.1 name) other) a.1 old b.1 name id,t.2),keptP z.2.2.2.2.2.1,0) else(t,[],misE x.2.2.2.1 z)
   else(t,[],176)
  else(t,[],dirE t.1 b)
 else(t,[],dirE t.1 a)
theorem isZ{t:Tree}(h:TreeOK t)(a:Int×Int)(old:List UInt8)(b:Int×Int)(name:List UInt8):tRen fuel t a old b name=some ((renameF t a old b name).1.1,((renameF t a old b name).1.2,((renameF t a old b name).2.1,(renameF t a old b name).2.2)))/\TreeOK (renameF t a old b name).1:=by
 unfold renameF;rcases btZ t.1 a with⟨na,ha⟩|⟨hb,_⟩
 ·rw[ZAQ (bMZ ha)];rcases btZ t.1 b with⟨nb,hb⟩|⟨hb,_⟩
  ·rw[ZAQ (bMZ hb)];cases hsn:(namedB old&&namedB name) with
   |false=>rw[ZAL (by simp)];exact⟨jBZ h ha hb hsn,h⟩
   |true=>
    rw[ZAQ rfl,ha.1.2.1,hb.1.2.1];simp only;rw[ZAD] at hsn;obtain⟨hso,hs⟩:=hsn;cases hh:hasN na.2.2.2.2.2.2.2 old with
    |false=>rw[dnZ hh];exact⟨kjZ h ha hb hso hs hh,h⟩
    |true=>
     obtain⟨id,hea⟩:=a8Z.1 hh;obtain⟨_,_,_,x,hx,hu,hp⟩:=h.ent ha hea;rw[drZ (h.srt ha.1) hea];simp only[hx];by_cases hl:(x.2.2.2.1&&ancB t.1 id t.1.length b.1)=true
     ·rw[ZAQ hl];rw[ZAD] at hl;exact⟨ksZ h ha hb hs hea hx hl.1 ((kAZ h hb id).1 hl.2),h⟩
     ·rw[ZAL hl];have hanc:x.2.2.2.1=true->¬Anc t.1 id b.1:=fun h1 h2=>hl (by rw[h1,(kAZ h hb id).2 h2];rfl);have hanc':=s1Z h ha hb hea hx hanc;cases hhb:hasN nb.2.2.2.2.2.2.2 name with
      |false=>
       rw[dnZ hhb];simp only;by_cases hfull:a.1≠b.1/\100<=nb.2.2.2.2.2.2.2.length
       ·rw[ZAQ hfull];exact⟨koZ h ha hb hs hea hx hanc hhb hfull.1 hfull.2,h⟩
       ·rw[ZAL hfull];have hfw:a.1≠b.1->nb.2.2.2.2.2.2.2.length<100:=fun hc=>by
         have:¬100<=nb.2.2.2.2.2.2.2.length:=fun hh=>hfull ⟨hc,hh⟩;omega
        have m:MvOk t a old b name id na nb x:=⟨ha,hb,hea,hx,hs,hhb,hfw,hanc'⟩;exact⟨jMZ h m hanc,kQZ h m⟩
      |true=>
       obtain⟨other,heb⟩:=a8Z.1 hhb;obtain⟨_,_,_,z,hz,hzu,hzp⟩:=h.ent hb heb;rw[drZ (h.srt hb.1) heb];simp only;by_cases hne:other=id
       ·subst hne;rw[ZAQ rfl];exact⟨kyZ h ha hb hs hea hx hanc heb,h⟩
       ·rw[ZAL hne,hz];simp only;by_cases hm:misE x.2.2.2.1 z=0
        ·rw[ZAQ hm];have hze:=(jdZ hm).1;have h0:=lrZ h hb heb hz hze;obtain⟨na',nb',m,_⟩:=rvZ h ha hb hs hea hx hanc' heb hne hz hze;exact⟨ktZ h ha hb hs hea hx hanc heb hne hz hm h0 m,kQZ h0 m⟩
        ·rw[ZAL hm];exact⟨l1Z h ha hb hs hea hx hanc heb hne hz hm,h⟩
  ·rw[ZAL hb];exact⟨k1Z h ha hb,h⟩
 ·rw[ZAL hb];exact⟨jRZ h hb,h⟩
end Go.Ab.D
namespace Go.Ab.D
abbrev CallT:Type:=Int×(Int×(UInt8×((Int×Int)×(List UInt8×((Int×Int)×(List UInt8×(Int×(Int×List UInt8))))))))
abbrev Has:Type:=Bool×(Bool×(Bool×(Bool×(Int×(Bool×Bool)))))
instance hasD1:DecidableEq (Int×(Bool×Bool)):=instDecidableEqProd
instance hasD2:DecidableEq (Bool×(Int×(Bool×Bool))):=instDecidableEqProd
instance hasD3:DecidableEq (Bool×(Bool×(Int×(Bool×Bool)))):=instDecidableEqProd
instance hasD4:DecidableEq (Bool×(Bool×(Bool×(Int×(Bool×Bool))))):=instDecidableEqProd
instance hasD5:DecidableEq Has:=instDecidableEqProd
def shapeN(o:Nat):Has:=
 if o=1\/o=2\/o=3\/o=7\/o=8 then(true,(true,(false,(false,(0,(false,true))))))
 else if o=4 then(true,(false,(false,(true,(4096,(false,true))))))
 else if o=5 then(true,(false,(false,(true,(0,(true,true))))))
 else if o=6 then(true,(false,(false,(false,(2147483648,(false,true))))))
 else if o=9 then(true,(true,(true,(false,(0,(false,true))))))
 else if o=10 then(true,(true,(false,(false,(4096,(false,true))))))
 else if o=11 then(true,(false,(false,(false,(0,(false,true))))))
 else if o=12 then(false,(false,(false,(false,(0,(false,true))))))
 else(false,(false,(false,(false,(0,(false,false))))))
theorem oCZ:∀n:Nat,n<256->csha fuel ((n:Nat):Int)=some (shapeN n):=by decide+kernel
theorem pcZ(o:UInt8):csha fuel ((o.toNat:Nat):Int)=some (shapeN o.toNat):=oCZ _ o.toNat_lt
def whoseB(a b:Int):Bool:=decide (0<=a/\a<16/\1<=b/\b<=1099511627776)
theorem k7Z(a b:Int):cwho fuel a b=some (whoseB a b):=by
 unfold cwho whoseB;by_cases h1:a>=0<;>by_cases h2:a<16<;>by_cases h3:b>=1<;>by_cases h4:b<=1099511627776<;>
  simp[h1,h2,h3,h4]<;>omega
def handleB(h:Int×Int):Bool:=decide (1<=h.1/\h.1<=500/\1<=h.2/\h.2<=1099511627776)
theorem iNZ(h:Int×Int):hRig fuel h=some (handleB h):=by
 unfold hRig handleB;by_cases h1:h.1>=1<;>by_cases h2:h.1<=500<;>by_cases h3:h.2>=1<;>by_cases h4:h.2<=1099511627776<;>
  simp[h1,h2,h3,h4]<;>omega
def ofB(is:Bool)(h:Int×Int):Bool:=bif is then handleB h else((h.1==0)&&(h.2==0))
theorem rDZ(is:Bool)(h:Int×Int):cRigCal1 fuel is h=some (ofB is h):=by
 unfold cRigCal1 ofB;cases is with
 |true=>
  simp only[ZAF];rw[iNZ];have:handleB (h.1,h.2)=handleB h:=rfl;rw[this];simp only[ZAA];cases handleB h<;>rfl
 |false=>rfl
def saidB(is:Bool)(l:List UInt8):Bool:=(l==[])||(is&&decide (l.length<=100))
theorem oQZ(is:Bool)(l:List UInt8):cRigCal2 fuel is l=some (saidB is l):=by
 unfold cRigCal2 saidB;have e:decide (((l.length:Nat):Int)<=100)=decide (l.length<=100):=by
  by_cases h:l.length<=100
  ·rw[ZAO h,ZAO (by omega)]
  ·rw[ZAJ h,ZAJ (by omega)]
 rw[e];cases(l==[])<;>cases is<;>rfl
def rightS(s:Has)(c:CallT):Bool:=
 s.2.2.2.2.2.2&&(whoseB c.1 c.2.1&&(ofB s.1 c.2.2.2.1&&(ofB s.2.2.1 c.2.2.2.2.2.1&&(saidB s.2.1 c.2.2.2.2.1&&(saidB s.2.2.1 c.2.2.2.2.2.2.1&&
  (decide (0<=c.2.2.2.2.2.2.2.1/\c.2.2.2.2.2.2.2.1<=2147483648)&&((s.2.2.2.1||(c.2.2.2.2.2.2.2.1==0))&&(decide (0<=c.2.2.2.2.2.2.2.2.1/\c.2.2.2.2.2.2.2.2.1<=s.2.2.2.2.1)&&
   (decide (c.2.2.2.2.2.2.2.2.2.length=0)||(s.2.2.2.2.2.1&&decide (c.2.2.2.2.2.2.2.2.2.length<=4096)))))))))))
def rightCall(c:CallT):Bool:=rightS (shapeN c.2.2.1.toNat) c
theorem a0Z(c:CallT):cRigCal fuel c=some (rightCall c):=by
 obtain⟨c1,c2,c3,⟨h1,h2⟩,nm,⟨t1,t2⟩,nw,off,n,bs⟩:=c;unfold cRigCal rightCall;simp only;rw[pcZ];generalize shapeN c3.toNat=s;obtain⟨sh,sn,st,so,sN,sb,ok⟩:=s;unfold rightS;simp only[ZAA];cases ok with
 |false=>rfl
 |true=>
  simp only[ZAK,ZAC];rw[k7Z];generalize whoseB c1 c2=w;cases w with
  |false=>rfl
  |true=>
   simp only[ZAA,ZAK,ZAC];rw[rDZ];generalize ofB sh (h1,h2)=a1;cases a1 with
   |false=>rfl
   |true=>
    simp only[ZAA,ZAK,ZAC];rw[rDZ];generalize ofB st (t1,t2)=a2;cases a2 with
    |false=>rfl
    |true=>
     simp only[ZAA,ZAK,ZAC];rw[oQZ];generalize saidB sn nm=a3;cases a3 with
     |false=>rfl
     |true=>
      simp only[ZAA,ZAK,ZAC];rw[oQZ];generalize saidB st nw=a4;cases a4 with
      |false=>rfl
      |true=>
       simp only[ZAA,ZAK,ZAC,ZAU];by_cases o1:off<0
       ·rw[ZAO o1,ZAJ (show¬(0<=off/\off<=2147483648) by omega)];rfl
       by_cases o2:off>2147483648
       ·rw[ZAJ o1,ZAO o2,ZAJ (show¬(0<=off/\off<=2147483648) by omega)];rfl
       rw[ZAJ o1,ZAJ o2,ZAO (show 0<=off/\off<=2147483648 by omega)];have eb:decide (((bs.length:Nat):Int)<=4096)=decide (bs.length<=4096):=by
        by_cases h:bs.length<=4096
        ·rw[ZAO h,ZAO (by omega)]
        ·rw[ZAJ h,ZAJ (by omega)]
       have e0:(((bs.length:Nat):Int)==0)=decide (bs.length=0):=by
        by_cases h:bs.length=0
        ·rw[ZAO h,h];rfl
        ·rw[ZAJ h,ZAS.2 (by omega)]
       by_cases n1:n<0
       ·rw[ZAO n1,ZAJ (show¬(0<=n/\n<=sN) by omega)];cases so<;>cases(off==0)<;>rfl
       by_cases n2:n>sN
       ·rw[ZAJ n1,ZAO n2,ZAJ (show¬(0<=n/\n<=sN) by omega)];cases so<;>cases(off==0)<;>rfl
       rw[ZAJ n1,ZAJ n2,ZAO (show 0<=n/\n<=sN by omega),<-e0,<-eb];cases so<;>cases(off==0)<;>simp only[ZAF,ZAC,ZAK,ZAc,ZAA,ZAU,Bool.or_false,Bool.or_true,ZAx,e0,eb]<;>
        (generalize decide (bs.length=0)=x0)<;>(generalize decide (bs.length<=4096)=x1)<;>cases x0<;>cases sb<;>cases x1<;>rfl
end Go.Ab.D
namespace Go.Ab.D
open Go Go.Ab
abbrev Byt:=List UInt8
abbrev Mod:=Tree×List Byt
structure ModelOK (m:Mod):Prop where
 t:TreeOK m.1
 n:m.2.length=m.1.1.length
 p:∀(i:Nat) x,m.1.1[i]? =some x->x.2.2.2.2.2.1=[]
 s:∀(i:Nat) x b,m.1.1[i]? =some x->m.2[i]? =some b->((b.length:Nat):Int)=x.2.2.2.2.1
theorem jCZ{t:Tree}(h:TreeOK t){i:Nat}{x:Ino}(hx:t.1[i]? =some x):0<=x.2.2.2.2.1/\x.2.2.2.2.1<=65536/\(x.2.2.1=false->x.2.2.2.2.1=0)/\(x.2.2.2.1=true->x.2.2.2.2.1=0):=by
 have o:=h.r.ino i x hx;cases hu:x.2.2.1 with
 |false=>have:=o.bare hu;refine⟨by omega,by omega,fun _=>this.2.1,fun hd=> ?_⟩;rw[this.1] at hd;cases hd
 |true=>
  cases hd:x.2.2.2.1 with
  |true=>have:=o.dir hu hd;exact⟨by omega,by omega,(by simp),fun _=>this.1⟩
  |false=>have:=o.file hu hd;exact⟨this.1.1,this.1.2,(by simp),(by simp)⟩
theorem ModelOK.at{m:Mod}(h:ModelOK m){i:Nat}{x:Ino}(hx:m.1.1[i]? =some x):∃b,m.2[i]? =some b/\((b.length:Nat):Int)=x.2.2.2.2.1/\b.length<=65536:=by
 have hlt:=(ZAB.1 hx).1;obtain⟨b,hb⟩:∃b,m.2[i]? =some b:=⟨_,ZAE (by rw[h.n];exact hlt)⟩;have h1:=h.s i x b hx hb;have h2:=jCZ h.t hx;exact⟨b,hb,h1,by omega⟩
theorem ModelOK.byt{m:Mod}(h:ModelOK m){i:Nat}{b:Byt}(hb:m.2[i]? =some b):b.length<=65536:=by
 have hlt:=(ZAB.1 hb).1;obtain⟨x,hx⟩:∃x,m.1.1[i]? =some x:=⟨_,ZAE (by rw[<-h.n];exact hlt)⟩;obtain⟨b',hb',_,h2⟩:=h.at hx;rw[hb] at hb';cases hb';exact h2
theorem ModelOK.len{m:Mod}(h:ModelOK m):1<=m.1.1.length/\m.1.1.length<=500:=h.t.r.len
theorem ModelOK.fit{m:Mod}(h:ModelOK m):Fit m.1.1:=h.t.r.fit
theorem ayZ{m:Mod}(h:ModelOK m):mRig fuel m=some true:=by
 unfold mRig;have hl:=h.len;rw[show((m.1.1,m.1.2):Tree)=m.1 from rfl,bJZ h.t,ZAA];simp only[ZAK,ZAC,ZAA];rw[h.n,ZAT];simp only[ZAK,ZAC];have loop:mRig_l0_it fuel (false,(m.1.1,(m.1.2,m.2))) (0,(m.1.1,(m.1.2,m.2)))=some (.inl ()):=by
  unfold mRig_l0_it;refine bHZ (fun k=>((k:Int),(m.1.1,(m.1.2,m.2)))) m.1.1.length (by omega) (fun k hk=> ?_) ?_
  ·unfold mRig_l0;obtain⟨x,hx⟩:∃x,m.1.1[k]? =some x:=⟨_,ZAE hk⟩;obtain⟨b,hb,hs,_⟩:=h.at hx;simp only[avZ hk,ZAF];rw[agZ hk];simp only[ZAA,hx];rw[h.p k x hx];simp only[List.length_nil,Int.natCast_zero,show decide ((0:Int)>0)=false from rfl,ZAC];rw[agZ (by rw[h.n];exact hk)];simp only[ZAA,hb];rw[hs,ZAT,w64 (by omega)]
   rfl
  ·unfold mRig_l0;simp only[amZ (ZAi _),ZAC]
 rw[loop,ZAA]
theorem dyZ{t:Tree}(h:Fit t.1):mcop fuel t=some (t.2,t.1):=by
 unfold mcop;rw[duZ h.n,ZAA];have loop:mcop_l0_it fuel t.1 (0,(t.2,(t.1,0)))=some (t.2,(t.1,0)):=by
  unfold mcop_l0_it;refine bHZ (fun k=>((k:Int),(t.2,(t.1,0)))) t.1.length (by have:=h.n;omega) (fun k hk=> ?_) ?_
  ·unfold mcop_l0;obtain⟨n,hg⟩:∃n,t.1[k]? =some n:=⟨_,ZAE hk⟩;have hsm:=h.at hg;have hs:t.1.set k n=t.1:=gYZ hg;simp only[avZ hk,ZAF];rw[agZ hk];simp only[ZAA,hg];rw[edZ hsm.1,ZAA,eeZ hsm.2,ZAA];show((idx? ((k:Nat):Int) (t.1.set k n).length).bind fun q3=>((t.1.set k n)[q3]?.bind _))=_;rw[hs,agZ hk,ZAA,hg,ZAA,w64 (by have:=h.n;omega)];show some (Sum.inl (_,(t.2,(t.1.set k n,0))))=_;rw[hs]
   rfl
  ·unfold mcop_l0;simp only[amZ (ZAi _),ZAC]
 rw[loop,ZAA]
theorem hHZ{l:Byt}(h:l.length<=100000):sClo4 fuel l=some l:=by
 unfold sClo4;rw[cyZ]
 ·simp only[ZAC];rw[abZ (by simp only[ZAD,ZAp,aKZ];omega)]
 ·intro h0;obtain rfl:=ZAR h0
  rfl
theorem jpZ{l:List Byt}(h:l.length<=100000):sClo5 fuel l=some l:=by
 unfold sClo5;rw[cyZ]
 ·simp only[ZAC];rw[abZ (by simp only[ZAD,ZAp,aKZ];omega)]
 ·intro h0;obtain rfl:=ZAR h0
  rfl
end Go.Ab.D
namespace Go.Ab.D
open Go Go.Ab
abbrev Rep:=(Int×Int)×Bool×Int×Byt×List Ent×Bool×Int
abbrev DoR:=Int×Mod×Rep
def rep0:Rep:=((0,0),false,0,[],[],false,0)
def stO(q:DoR)(c:CallT):Int×(List Ino×(Int×(List Byt×(Int×(Int×(Int×(Int×(Int×(Byt×(Int×(Int×(Byt×(Int×(Int×(Byt×(Int×(Int×(Int×(Int×(Int×(Bool×(Int×(Bool×Int))))))))))))))))))))))):=(q.1,(q.2.1.1.1,(q.2.1.1.2,(q.2.1.2,(c.1,(c.2.1,(((c.2.2.1.toNat:Nat):Int),(c.2.2.2.1.1,(c.2.2.2.1.2,(c.2.2.2.2.1,(c.2.2.2.2.2.1.1,(c.2.2.2.2.2.1.2,(c.2.2.2.2.2.2.1,(c.2.2.2.2.2.2.2.1,(c.2.2.2.2.2.2.2.2.1,(c.2.2.2.2.2.2.2.2.2,(c.1,(c.2.1,(0,(q.2.2.1.1,(q.2.2.1.2,(q.2.2.2.1,(q.2.2.2.2.1,(q.2.2.2.2.2.2.2.1,q.2.2.2.2.2.2.2.2))))))))))))))))))))))))
def stB(q:DoR)(c:CallT):Int×(List Ino×(Int×(List Byt×(Int×(Int×(Int×(Int×(Int×(Byt×(Int×(Int×(Byt×(Int×(Int×(Byt×(Int×(Int×(Int×(Int×(Int×(Bool×(Int×(Byt×(Bool×Int)))))))))))))))))))))))):=(q.1,(q.2.1.1.1,(q.2.1.1.2,(q.2.1.2,(c.1,(c.2.1,(((c.2.2.1.toNat:Nat):Int),(c.2.2.2.1.1,(c.2.2.2.1.2,(c.2.2.2.2.1,(c.2.2.2.2.2.1.1,(c.2.2.2.2.2.1.2,(c.2.2.2.2.2.2.1,(c.2.2.2.2.2.2.2.1,(c.2.2.2.2.2.2.2.2.1,(c.2.2.2.2.2.2.2.2.2,(c.1,(c.2.1,(0,(q.2.2.1.1,(q.2.2.1.2,(q.2.2.2.1,(q.2.2.2.2.1,(q.2.2.2.2.2.1,(q.2.2.2.2.2.2.2.1,q.2.2.2.2.2.2.2.2)))))))))))))))))))))))))
def stE(q:DoR)(c:CallT):Int×(List Ino×(Int×(List Byt×(Int×(Int×(Int×(Int×(Int×(Byt×(Int×(Int×(Byt×(Int×(Int×(Byt×(Int×(Int×(Int×(Int×(Int×(Bool×(Int×(List Ent×(Bool×Int)))))))))))))))))))))))):=(q.1,(q.2.1.1.1,(q.2.1.1.2,(q.2.1.2,(c.1,(c.2.1,(((c.2.2.1.toNat:Nat):Int),(c.2.2.2.1.1,(c.2.2.2.1.2,(c.2.2.2.2.1,(c.2.2.2.2.2.1.1,(c.2.2.2.2.2.1.2,(c.2.2.2.2.2.2.1,(c.2.2.2.2.2.2.2.1,(c.2.2.2.2.2.2.2.2.1,(c.2.2.2.2.2.2.2.2.2,(c.1,(c.2.1,(0,(q.2.2.1.1,(q.2.2.1.2,(q.2.2.2.1,(q.2.2.2.2.1,(q.2.2.2.2.2.2.1,(q.2.2.2.2.2.2.2.1,q.2.2.2.2.2.2.2.2)))))))))))))))))))))))))
def lookF(t:Tree)(d:Int×Int)(s:Byt):Int×(Int×Int):=
 if dirE t.1 d=0 then
  if namedB s=true then
   match t.1[(d.1-1).toNat]? with
   |none=>(170,(0,0))
   |some n=>match findE n.2.2.2.2.2.2.2 s with
    |none=>(171,(0,0))
    |some id=>match t.1[(id-1).toNat]? with
     |none=>(170,(0,0))
     |some x=>(0,(id,x.2.1))
  else(176,(0,0))
 else(dirE t.1 d,(0,0))
theorem nhZ{t:Tree}(h:TreeOK t)(d:Int×Int)(s:Byt):tLoo fuel t d s=some ((lookF t d s).2.1,((lookF t d s).2.2,(lookF t d s).1))/\((lookF t d s).1=0->1<=(lookF t d s).2.1/\(lookF t d s).2.1<=t.1.length/\∃x,t.1[((lookF t d s).2.1-1).toNat]? =some x):=by
 unfold lookF;rcases btZ t.1 d with⟨n,hn⟩|⟨hb,_⟩
 ·rw[ZAQ (bMZ hn),hn.1.2.1];simp only;cases hs:namedB s with
  |false=>rw[ZAL (by simp)];exact⟨j6Z h hn hs,fun h0=>by cases h0⟩
  |true=>
   rw[ZAQ rfl];cases hh:hasN n.2.2.2.2.2.2.2 s with
   |false=>rw[dnZ hh];exact⟨jNZ h hn hs hh,fun h0=>by cases h0⟩
   |true=>
    obtain⟨id,he⟩:=a8Z.1 hh;obtain⟨_,q1,q2,x,hx,hu,_⟩:=h.ent hn he;rw[drZ (h.srt hn.1) he];simp only[hx];exact⟨klZ h hn he hx,fun _=>⟨by omega,q2,x,rfl⟩⟩
 ·rw[ZAL hb];exact⟨m8Z h s hb,fun h0=>absurd h0 hb⟩
def getF(l:List Ino)(h:Int×Int):Option Ino:=
 if 1<=h.1 then match l[(h.1-1).toNat]? with
  |some n=>if n.2.2.1=true/\n.2.1=h.2 then some n else none
  |none=>none
 else none
theorem cYZ{l:List Ino}{h:Int×Int}{n:Ino}:getF l h=some n↔IsH l h n:=by
 unfold getF IsH;by_cases h1:1<=h.1
 ·rw[ZAQ h1];cases hx:l[(h.1-1).toNat]? with
  |none=>simp
  |some x=>
   simp only;by_cases hc:x.2.2.1=true/\x.2.1=h.2
   ·rw[ZAQ hc];constructor
    ·rintro⟨⟩;exact⟨h1,rfl,hc.1,hc.2⟩
    ·rintro⟨_,⟨⟩,_,_⟩;rfl
   ·rw[ZAL hc];constructor
    ·intro h;cases h
    ·rintro⟨_,⟨⟩,h2,h3⟩;exact absurd ⟨h2,h3⟩ hc
 ·rw[ZAL h1];constructor
  ·intro h;cases h
  ·rintro⟨h2,_⟩;exact absurd h2 h1
theorem i1Z{l:List Ino}{h:Int×Int}(hn:getF l h=none):¬∃n,IsH l h n:=fun⟨n,h1⟩=>by rw[cYZ.2 h1] at hn;cases hn
theorem oNZ{t:Tree}(ht:TreeOK t){h:Int×Int}{n:Ino}(hn:IsH t.1 h n):n.1=h.1/\1<=h.1/\(h.1-1).toNat<t.1.length:=by
 have h1:=ht.r.id hn.2.1;have h2:=hn.1;exact⟨by omega,h2,(ZAB.1 hn.2.1).1⟩
def listF(t:Tree)(d:Int×Int)(s:Byt)(most:Int):Int×Bool×List Ent:=
 if dirE t.1 d=0 then
  if most<0\/most>4096 then(2,false,[])
  else match t.1[(d.1-1).toNat]? with
   |none=>(170,false,[])
   |some n=>(0,decide ((behind n.2.2.2.2.2.2.2 s).length>most.toNat),(behind n.2.2.2.2.2.2.2 s).take most.toNat)
 else(dirE t.1 d,false,[])
theorem qFZ{t:Tree}(h:TreeOK t)(d:Int×Int)(s:Byt)(most:Int):tree_List fuel t d s most=some ((listF t d s most).2.1,((listF t d s most).1,(listF t d s most).2.2)):=by
 unfold listF;rcases btZ t.1 d with⟨n,hn⟩|⟨hb,_⟩
 ·rw[ZAQ (bMZ hn)];by_cases hm:most<0\/most>4096
  ·rw[ZAQ hm];exact puZ h s hn hm
  ·rw[ZAL hm,hn.1.2.1];have:=oFZ h s (most:=most.toNat) hn (by omega);rw[show((most.toNat:Nat):Int)=most by omega] at this;exact this
 ·rw[ZAL hb];exact pmZ h s most hb
def lookA(m:Mod)(c:CallT):DoR:=
 if(lookF m.1 c.2.2.2.1 c.2.2.2.2.1).1=0 then match m.1.1[((lookF m.1 c.2.2.2.1 c.2.2.2.2.1).2.1-1).toNat]? with
  |some x=>(0,m,((lookF m.1 c.2.2.2.1 c.2.2.2.2.1).2,x.2.2.2.1,x.2.2.2.2.1,[],[],false,0))
  |none=>(170,m,rep0)
 else((lookF m.1 c.2.2.2.1 c.2.2.2.2.1).1,m,rep0)
def makeA(m:Mod)(c:CallT):DoR:=
 if(makeF m.1 c.2.2.2.1 c.2.2.2.2.1 (((c.2.2.1.toNat:Nat):Int)==3)).2.2=0 then
  (0,((makeF m.1 c.2.2.2.1 c.2.2.2.2.1 (((c.2.2.1.toNat:Nat):Int)==3)).1,m.2),((makeF m.1 c.2.2.2.1 c.2.2.2.2.1 (((c.2.2.1.toNat:Nat):Int)==3)).2.1,(((c.2.2.1.toNat:Nat):Int)==3),0,[],[],false,0))
 else((makeF m.1 c.2.2.2.1 c.2.2.2.2.1 (((c.2.2.1.toNat:Nat):Int)==3)).2.2,m,rep0)
def removeA(m:Mod)(c:CallT):DoR:=
 if(removeF m.1 c.2.2.2.1 c.2.2.2.2.1 (((c.2.2.1.toNat:Nat):Int)==8)).2.2=0 then
  (0,((removeF m.1 c.2.2.2.1 c.2.2.2.2.1 (((c.2.2.1.toNat:Nat):Int)==8)).1,m.2),rep0)
 else((removeF m.1 c.2.2.2.1 c.2.2.2.2.1 (((c.2.2.1.toNat:Nat):Int)==8)).2.2,m,rep0)
def renameA(m:Mod)(c:CallT):DoR:=
 if(renameF m.1 c.2.2.2.1 c.2.2.2.2.1 c.2.2.2.2.2.1 c.2.2.2.2.2.2.1).2.2=0 then
  (0,((renameF m.1 c.2.2.2.1 c.2.2.2.2.1 c.2.2.2.2.2.1 c.2.2.2.2.2.2.1).1,m.2),rep0)
 else((renameF m.1 c.2.2.2.1 c.2.2.2.2.1 c.2.2.2.2.2.1 c.2.2.2.2.2.2.1).2.2,m,rep0)
def listA(m:Mod)(c:CallT):DoR:=
 ((listF m.1 c.2.2.2.1 c.2.2.2.2.1 c.2.2.2.2.2.2.2.2.1).1,m,((0,0),false,0,[],(listF m.1 c.2.2.2.1 c.2.2.2.2.1 c.2.2.2.2.2.2.2.2.1).2.2,(listF m.1 c.2.2.2.1 c.2.2.2.2.1 c.2.2.2.2.2.2.2.2.1).2.1,0))
def getA(m:Mod)(c:CallT):DoR:=
 match getF m.1.1 c.2.2.2.1 with
 |some x=>(0,m,(c.2.2.2.1,x.2.2.2.1,x.2.2.2.2.1,[],[],false,0))
 |none=>(170,m,rep0)
def usedN(l:List Ino):Nat:=l.countP (·.2.2.1)
def statA(m:Mod):DoR:=(0,m,((0,0),false,0,[],[],false,500-((usedN m.1.1:Nat):Int)))
theorem pLZ{m:Mod}(h:ModelOK m)(c:CallT):mdoeloo fuel m.1.1 m.1.2 m.2 c.1 c.2.1 ((c.2.2.1.toNat:Nat):Int) c.2.2.2.1.1 c.2.2.2.1.2 c.2.2.2.2.1 c.2.2.2.2.2.1.1 c.2.2.2.2.2.1.2 c.2.2.2.2.2.2.1 c.2.2.2.2.2.2.2.1 c.2.2.2.2.2.2.2.2.1 c.2.2.2.2.2.2.2.2.2 c.1 c.2.1 0 0 0 false 0 false 0=some (stO (lookA m c) c):=by
 unfold mdoeloo lookA;obtain⟨h1,h2⟩:=nhZ h.t c.2.2.2.1 c.2.2.2.2.1;rw[show((m.1.1,m.1.2):Tree)=m.1 from rfl,show((c.2.2.2.1.1,c.2.2.2.1.2):Int×Int)=c.2.2.2.1 from rfl,h1,ZAA];simp only;by_cases h0:(lookF m.1 c.2.2.2.1 c.2.2.2.2.1).1=0
 ·obtain⟨q1,q2,x,hx⟩:=h2 h0;have hl:=h.len;rw[ZAQ h0,h0,show((0:Int)==0)=true from rfl];simp only[ZAF];rw[w64 (by omega),aqZ (by omega) (by omega),ZAA,hx,ZAA]
  rfl
 ·rw[ZAL h0,ZAS.2 h0]
  rfl
theorem qtZ{m:Mod}(h:ModelOK m)(c:CallT):mdoemak fuel m.1.1 m.1.2 m.2 c.1 c.2.1 ((c.2.2.1.toNat:Nat):Int) c.2.2.2.1.1 c.2.2.2.1.2 c.2.2.2.2.1 c.2.2.2.2.2.1.1 c.2.2.2.2.2.1.2 c.2.2.2.2.2.2.1 c.2.2.2.2.2.2.2.1 c.2.2.2.2.2.2.2.2.1 c.2.2.2.2.2.2.2.2.2 c.1 c.2.1 0 0 0 false 0 false 0=some (stO (makeA m c) c):=by
 unfold mdoemak makeA;rw[show((m.1.1,m.1.2):Tree)=m.1 from rfl,show((c.2.2.2.1.1,c.2.2.2.1.2):Int×Int)=c.2.2.2.1 from rfl,(nkZ h.t c.2.2.2.1 c.2.2.2.2.1 _).1,ZAA];simp only;by_cases h0:(makeF m.1 c.2.2.2.1 c.2.2.2.2.1 (((c.2.2.1.toNat:Nat):Int)==3)).2.2=0
 ·rw[ZAQ h0,h0];rfl
 ·rw[ZAL h0,ZAS.2 h0];rfl
theorem kMZ{m:Mod}(h:ModelOK m)(c:CallT):mdoerem fuel m.1.1 m.1.2 m.2 c.1 c.2.1 ((c.2.2.1.toNat:Nat):Int) c.2.2.2.1.1 c.2.2.2.1.2 c.2.2.2.2.1 c.2.2.2.2.2.1.1 c.2.2.2.2.2.1.2 c.2.2.2.2.2.2.1 c.2.2.2.2.2.2.2.1 c.2.2.2.2.2.2.2.2.1 c.2.2.2.2.2.2.2.2.2 c.1 c.2.1 0 0 0 false 0 false 0=some (stO (removeA m c) c):=by
 unfold mdoerem removeA;rw[show((m.1.1,m.1.2):Tree)=m.1 from rfl,show((c.2.2.2.1.1,c.2.2.2.1.2):Int×Int)=c.2.2.2.1 from rfl,(iHZ h.t c.2.2.2.1 c.2.2.2.2.1 _).1,ZAA];simp only;by_cases h0:(removeF m.1 c.2.2.2.1 c.2.2.2.2.1 (((c.2.2.1.toNat:Nat):Int)==8)).2.2=0
 ·rw[ZAQ h0,h0];rfl
 ·rw[ZAL h0,ZAS.2 h0];rfl
theorem qdZ{m:Mod}(h:ModelOK m)(c:CallT):mdoeren fuel m.1.1 m.1.2 m.2 c.1 c.2.1 ((c.2.2.1.toNat:Nat):Int) c.2.2.2.1.1 c.2.2.2.1.2 c.2.2.2.2.1 c.2.2.2.2.2.1.1 c.2.2.2.2.2.1.2 c.2.2.2.2.2.2.1 c.2.2.2.2.2.2.2.1 c.2.2.2.2.2.2.2.2.1 c.2.2.2.2.2.2.2.2.2 c.1 c.2.1 0 0 0 false 0 false 0=some (stO (renameA m c) c):=by
 unfold mdoeren renameA;rw[show((m.1.1,m.1.2):Tree)=m.1 from rfl,show((c.2.2.2.1.1,c.2.2.2.1.2):Int×Int)=c.2.2.2.1 from rfl,show((c.2.2.2.2.2.1.1,c.2.2.2.2.2.1.2):Int×Int)=c.2.2.2.2.2.1 from rfl,(isZ h.t _ _ _ _).1,ZAA];simp only;by_cases h0:(renameF m.1 c.2.2.2.1 c.2.2.2.2.1 c.2.2.2.2.2.1 c.2.2.2.2.2.2.1).2.2=0
 ·rw[ZAQ h0,h0];rfl
 ·rw[ZAL h0,ZAS.2 h0];rfl
theorem rKZ{m:Mod}(h:ModelOK m)(c:CallT):mdoelis fuel m.1.1 m.1.2 m.2 c.1 c.2.1 ((c.2.2.1.toNat:Nat):Int) c.2.2.2.1.1 c.2.2.2.1.2 c.2.2.2.2.1 c.2.2.2.2.2.1.1 c.2.2.2.2.2.1.2 c.2.2.2.2.2.2.1 c.2.2.2.2.2.2.2.1 c.2.2.2.2.2.2.2.2.1 c.2.2.2.2.2.2.2.2.2 c.1 c.2.1 0 0 0 false 0 false 0=some (stE (listA m c) c):=by
 unfold mdoelis listA;rw[show((m.1.1,m.1.2):Tree)=m.1 from rfl,show((c.2.2.2.1.1,c.2.2.2.1.2):Int×Int)=c.2.2.2.1 from rfl,qFZ h.t,ZAA]
 rfl
theorem syZ{m:Mod}(h:ModelOK m)(c:CallT):mdoeget fuel m.1.1 m.1.2 m.2 c.1 c.2.1 ((c.2.2.1.toNat:Nat):Int) c.2.2.2.1.1 c.2.2.2.1.2 c.2.2.2.2.1 c.2.2.2.2.2.1.1 c.2.2.2.2.2.1.2 c.2.2.2.2.2.2.1 c.2.2.2.2.2.2.2.1 c.2.2.2.2.2.2.2.2.1 c.2.2.2.2.2.2.2.2.2 c.1 c.2.1 0 0 0 false 0 false 0=some (stO (getA m c) c):=by
 unfold mdoeget getA;rw[show((m.1.1,m.1.2):Tree)=m.1 from rfl,show((c.2.2.2.1.1,c.2.2.2.1.2):Int×Int)=c.2.2.2.1 from rfl];cases hg:getF m.1.1 c.2.2.2.1 with
 |none=>rw[hAZ h.fit (i1Z hg),ZAA];rfl
 |some x=>rw[feZ h.fit (cYZ.1 hg),ZAA];rfl
end Go.Ab.D
namespace Go.Ab.D
open Go Go.Ab
def fileF(m:Mod)(h:Int×Int):Int×Byt×Int:=
 match getF m.1.1 h with
 |none=>(0,[],170)
 |some x=>bif x.2.2.2.1 then(0,[],174) else match m.2[(h.1-1).toNat]? with
  |some b=>(h.1,b,0)
  |none=>(0,[],170)
abbrev stF(q:Int×Byt×Int)(m:Mod)(c:CallT):Int×(Byt×(Int×(List Ino×(Int×(List Byt×(Int×(Int×(Int×(Int×(Int×(Byt×(Int×(Int×(Byt×(Int×(Int×(Byt×(Int×(Int×(Int×(Int×(Int×(Bool×(Int×(Bool×Int))))))))))))))))))))))))):=(q.1,(q.2.1,(q.2.2,(m.1.1,(m.1.2,(m.2,(c.1,(c.2.1,(((c.2.2.1.toNat:Nat):Int),(c.2.2.2.1.1,(c.2.2.2.1.2,(c.2.2.2.2.1,(c.2.2.2.2.2.1.1,(c.2.2.2.2.2.1.2,(c.2.2.2.2.2.2.1,(c.2.2.2.2.2.2.2.1,(c.2.2.2.2.2.2.2.2.1,(c.2.2.2.2.2.2.2.2.2,(c.1,(c.2.1,(0,(0,(0,(false,(0,(false,0))))))))))))))))))))))))))
def IsF(m:Mod)(h:Int×Int)(x:Ino)(b:Byt):Prop:=IsH m.1.1 h x/\x.2.2.2.1=false/\m.2[(h.1-1).toNat]? =some b
theorem cIZ{m:Mod}{h:Int×Int}(h0:(fileF m h).2.2=0):∃x,IsF m h x (fileF m h).2.1/\(fileF m h).1=h.1:=by
 unfold fileF at h0⊢;cases hg:getF m.1.1 h with
 |none=>rw[hg] at h0;cases h0
 |some x=>
  rw[hg] at h0;simp only at h0⊢;cases hd:x.2.2.2.1 with
  |true=>rw[hd] at h0;cases h0
  |false=>
   rw[hd] at h0;simp only[ZAC] at h0⊢;cases hb:m.2[(h.1-1).toNat]? with
   |none=>rw[hb] at h0;cases h0
   |some b=>exact⟨x,⟨cYZ.1 hg,hd,hb⟩,rfl⟩
theorem nVZ{m:Mod}(h:ModelOK m)(c:CallT):mdoefil fuel m.1.1 m.1.2 m.2 c.1 c.2.1 ((c.2.2.1.toNat:Nat):Int) c.2.2.2.1.1 c.2.2.2.1.2 c.2.2.2.2.1 c.2.2.2.2.2.1.1 c.2.2.2.2.2.1.2 c.2.2.2.2.2.2.1 c.2.2.2.2.2.2.2.1 c.2.2.2.2.2.2.2.2.1 c.2.2.2.2.2.2.2.2.2 c.1 c.2.1 0 0 0 false 0 false 0=some (stF (fileF m c.2.2.2.1) m c):=by
 unfold mdoefil fileF;rw[show((m.1.1,m.1.2):Tree)=m.1 from rfl,show((c.2.2.2.1.1,c.2.2.2.1.2):Int×Int)=c.2.2.2.1 from rfl];cases hg:getF m.1.1 c.2.2.2.1 with
 |none=>rw[hAZ h.fit (i1Z hg),ZAA];rfl
 |some x=>
  have hx:=cYZ.1 hg;obtain⟨q1,q2,q3⟩:=oNZ h.t hx;rw[feZ h.fit hx,ZAA];simp only[ZAT,ZAK,ZAC];cases hd:x.2.2.2.1 with
  |true=>rfl
  |false=>
   simp only[ZAC];have hl:=h.len;obtain⟨b,hb,_⟩:=h.at hx.2.1;rw[q1,w64 (by omega),aqZ (by omega) (by rw[h.n];omega),ZAA,hb,ZAA]
def readL(b:Byt)(off n:Int):Byt:=(b.take (max (min off.toNat b.length) (min (off+n).toNat b.length))).drop (min off.toNat b.length)
def readA(m:Mod)(c:CallT):DoR:=
 if(fileF m c.2.2.2.1).2.2=0 then
  (0,m,((0,0),false,(((fileF m c.2.2.2.1).2.1.length:Nat):Int),readL (fileF m c.2.2.2.1).2.1 c.2.2.2.2.2.2.2.1 c.2.2.2.2.2.2.2.2.1,[],decide (c.2.2.2.2.2.2.2.1+c.2.2.2.2.2.2.2.2.1<(((fileF m c.2.2.2.1).2.1.length:Nat):Int)),0))
 else((fileF m c.2.2.2.1).2.2,m,rep0)
theorem rCZ{m:Mod}(h:ModelOK m)(c:CallT)(ho:0<=c.2.2.2.2.2.2.2.1/\c.2.2.2.2.2.2.2.1<=2147483648)(hn:0<=c.2.2.2.2.2.2.2.2.1/\c.2.2.2.2.2.2.2.2.1<=2147483648):
 mdoerea fuel m.1.1 m.1.2 m.2 c.1 c.2.1 ((c.2.2.1.toNat:Nat):Int) c.2.2.2.1.1 c.2.2.2.1.2 c.2.2.2.2.1 c.2.2.2.2.2.1.1 c.2.2.2.2.2.1.2 c.2.2.2.2.2.2.1 c.2.2.2.2.2.2.2.1 c.2.2.2.2.2.2.2.2.1 c.2.2.2.2.2.2.2.2.2 c.1 c.2.1 0 0 0 false 0 false 0=some (stB (readA m c) c):=by
 unfold mdoerea readA;rw[nVZ h c,ZAA];by_cases h0:(fileF m c.2.2.2.1).2.2=0
 ·rw[ZAQ h0];obtain⟨x,hx,hid⟩:=cIZ h0;have hbl:=h.byt hx.2.2;simp only[stF];rw[h0];simp only[ZAT,ZAK,ZAC];rw[w64 (by omega)];rw[show(if(((fileF m c.2.2.2.1).2.1.length:Nat):Int)<c.2.2.2.2.2.2.2.1+c.2.2.2.2.2.2.2.2.1 then(((fileF m c.2.2.2.1).2.1.length:Nat):Int) else c.2.2.2.2.2.2.2.1+c.2.2.2.2.2.2.2.2.1)=((min (c.2.2.2.2.2.2.2.1+c.2.2.2.2.2.2.2.2.1).toNat (fileF m c.2.2.2.1).2.1.length:Nat):Int) from by split<;>omega,
   show(if(((fileF m c.2.2.2.1).2.1.length:Nat):Int)<c.2.2.2.2.2.2.2.1 then(((fileF m c.2.2.2.1).2.1.length:Nat):Int) else c.2.2.2.2.2.2.2.1)=((min c.2.2.2.2.2.2.2.1.toNat (fileF m c.2.2.2.1).2.1.length:Nat):Int) from by split<;>omega]
  rw[show(if((min (c.2.2.2.2.2.2.2.1+c.2.2.2.2.2.2.2.2.1).toNat (fileF m c.2.2.2.1).2.1.length:Nat):Int)>((min c.2.2.2.2.2.2.2.1.toNat (fileF m c.2.2.2.1).2.1.length:Nat):Int) then((min (c.2.2.2.2.2.2.2.1+c.2.2.2.2.2.2.2.2.1).toNat (fileF m c.2.2.2.1).2.1.length:Nat):Int) else((min c.2.2.2.2.2.2.2.1.toNat (fileF m c.2.2.2.1).2.1.length:Nat):Int))=((max (min c.2.2.2.2.2.2.2.1.toNat (fileF m c.2.2.2.1).2.1.length) (min (c.2.2.2.2.2.2.2.1+c.2.2.2.2.2.2.2.2.1).toNat (fileF m c.2.2.2.1).2.1.length):Nat):Int) from by split<;>omega];rw[aNZ (by omega),ZAA,aNZ (by omega),ZAA,hHZ (by rw[ZA0,ZAa];omega),ZAA]
  rfl
 ·rw[ZAL h0];simp only[stF,ZAS.2 h0,ZAc,ZAF]
  rfl
def sizedL(b:Byt)(n:Nat):Byt:=b.take n++List.replicate (n-b.length) 0
theorem byZ(b:Byt)(n:Nat):(sizedL b n).length=n:=by unfold sizedL;simp;omega
theorem mMZ(b:Byt)(n:Nat):splice (List.replicate (α:=UInt8) n 0) 0 (List.take (List.replicate (α:=UInt8) n 0).length b)=sizedL b n:=by
 unfold splice sizedL;simp only[ZBp,List.take_zero,ZBN,ZAs,List.drop_replicate,ZAa];congr 2;omega
def setSize(l:List Ino)(h:Int×Int)(n:Int):List Ino:=
 match l[(h.1-1).toNat]? with
 |some x=>l.set (h.1-1).toNat (x.1,x.2.1,x.2.2.1,x.2.2.2.1,n,x.2.2.2.2.2)
 |none=>l
def putB(m:Mod)(h:Int×Int)(b:Byt):Mod:=((setSize m.1.1 h ((b.length:Nat):Int),m.1.2),m.2.set (h.1-1).toNat b)
def sizeA(m:Mod)(c:CallT):DoR:=
 if(fileF m c.2.2.2.1).2.2=0 then
  if c.2.2.2.2.2.2.2.2.1>65536 then(177,m,rep0)
  else(0,putB m c.2.2.2.1 (sizedL (fileF m c.2.2.2.1).2.1 c.2.2.2.2.2.2.2.2.1.toNat),(c.2.2.2.1,false,c.2.2.2.2.2.2.2.2.1,[],[],false,0))
 else((fileF m c.2.2.2.1).2.2,m,rep0)
theorem rLZ{m:Mod}(h:ModelOK m)(c:CallT)(hn:0<=c.2.2.2.2.2.2.2.2.1):
 mdoesiz fuel m.1.1 m.1.2 m.2 c.1 c.2.1 ((c.2.2.1.toNat:Nat):Int) c.2.2.2.1.1 c.2.2.2.1.2 c.2.2.2.2.1 c.2.2.2.2.2.1.1 c.2.2.2.2.2.1.2 c.2.2.2.2.2.2.1 c.2.2.2.2.2.2.2.1 c.2.2.2.2.2.2.2.2.1 c.2.2.2.2.2.2.2.2.2 c.1 c.2.1 0 0 0 false 0 false 0=some (stO (sizeA m c) c):=by
 unfold mdoesiz sizeA;rw[nVZ h c,ZAA];by_cases h0:(fileF m c.2.2.2.1).2.2=0
 ·rw[ZAQ h0];obtain⟨x,hx,hid⟩:=cIZ h0;have hbl:=h.byt hx.2.2;have hl:=h.len;obtain⟨q1,q2,q3⟩:=oNZ h.t hx.1;simp only[stF];rw[h0];simp only[ZAT,ZAK,ZAC];by_cases hb:c.2.2.2.2.2.2.2.2.1>65536
  ·rw[ZAQ hb,ZAO hb];rfl
  ·rw[ZAL hb,ZAJ hb];simp only[ZAC];unfold mdoesiz2;rw[hid,kXZ hn (by rw[aKZ];omega),ZAA,kXZ hn (by omega),ZAA,abZ (by rw[ZAp,aKZ];omega),w64 (by omega),aqZ (by omega) (by rw[h.n];omega),ZAA,hx.2.2,ZAA,
    jpZ (by rw[h.n];omega),ZAA,aqZ (by omega) (by rw[h.n];omega),ZAA,hx.2.2,ZAA,show((m.1.1,m.1.2):Tree)=m.1 from rfl,dyZ h.fit,ZAA]
   simp only;rw[aqZ (by omega) (by omega),ZAA,hx.1.2.1,ZAA,ZAA,mMZ];simp only[stO,putB,setSize,hx.1.2.1,byZ];rw[show((c.2.2.2.2.2.2.2.2.1.toNat:Nat):Int)=c.2.2.2.2.2.2.2.2.1 by omega]
 ·rw[ZAL h0];simp only[stF,ZAS.2 h0,ZAc,ZAF]
  rfl
def writeN(b:Byt)(off:Int)(bs:Byt):Nat:=max b.length (if bs.length=0 then 0 else off.toNat+bs.length)
def writeL(b:Byt)(off:Int)(bs:Byt):Byt:=splice (sizedL b (writeN b off bs)) (min off.toNat (writeN b off bs)) bs
def writeA(m:Mod)(c:CallT):DoR:=
 if(fileF m c.2.2.2.1).2.2=0 then
  if c.2.2.2.2.2.2.2.1+((c.2.2.2.2.2.2.2.2.2.length:Nat):Int)>65536 then(177,m,rep0)
  else(0,putB m c.2.2.2.1 (writeL (fileF m c.2.2.2.1).2.1 c.2.2.2.2.2.2.2.1 c.2.2.2.2.2.2.2.2.2),(c.2.2.2.1,false,((writeN (fileF m c.2.2.2.1).2.1 c.2.2.2.2.2.2.2.1 c.2.2.2.2.2.2.2.2.2:Nat):Int),[],[],false,0))
 else((fileF m c.2.2.2.1).2.2,m,rep0)
theorem eHZ(b:Byt)(off:Int)(bs:Byt):(writeL b off bs).length=writeN b off bs:=by
 unfold writeL splice;rw[ZAj,ZAj,ZAa,ZA0,byZ];unfold writeN;by_cases h:bs.length=0
 ·rw[ZAQ h];omega
 ·rw[ZAL h];omega
theorem gTZ(g:(Byt⊕Option (Nat×(Nat×Nat)))->Option Byt)(hg:∀b,g (.inl b)=some b)(y:Byt⊕Option (Nat×(Nat×Nat)))(v:Byt)(hy:g y=some v):∀(l:List Byt) (i:Nat),i<l.length->unrefL g ((l.map Sum.inl).set i y)=some (l.set i v)
 |[],i,h=>by simp at h
 |a::l,0,_=>by
  have e:unrefL g (l.map Sum.inl)=some l:=by
   induction l with
   |nil=>rfl
   |cons x l ih=>simp[unrefL,hg,ih]
  simp[unrefL,hy,e]
 |a::l,i+1,h=>by
  have:=gTZ g hg y v hy l i (by simpa using h);simp[unrefL,hg,this]
end Go.Ab.D
namespace Go.Ab.D
open Go Go.Ab
theorem m1Z(l:Byt)(k:Nat):splice l k []=l:=by unfold splice;simp
theorem pPZ(out bs:Byt)(q:Nat)(hq:q<=out.length)(hb:bs=[]\/q+bs.length<=out.length):
 ∃k,refPut (α:=UInt8) [(1,out)] (refSub (α:=UInt8) (.inr (some (0,(0,out.length)))) q (out.length-q)) bs=some ([(1,splice out q bs)],k):=by
 unfold refSub;by_cases h0:out.length-q=0
 ·have hbs:bs=[]:=by
   rcases hb with h|h
   ·exact h
   ·exact ZAR (by omega)
  subst hbs;rw[h0,m1Z];exact⟨0,rfl⟩
 ·rw[show Nat.beq (out.length-q) 0=false from ajZ h0];simp only[bq_false];unfold refPut;simp only[ZA3,ZAA];rw[abZ (by simp[Nat.beq_refl];omega)];have:bs.take (out.length-q)=bs:=ZA1 (by
   rcases hb with h|h
   ·simp[h]
   ·omega)
  rw[this,ZAs];exact⟨_,rfl⟩
theorem pWZ(w:Byt)(n:Nat)(hn:n=w.length):unrefD [⟨3,.byte,List.map frz1 [(1,w)]⟩] (.ref 3 .byte) (.inr (some (0,(0,n))))=some w:=by
 subst hn;show memb [(2,w)] 0 0 w.length=some w;unfold memb;simp only[ZA3,ZAs,ZBm,ZA8];rw[dlZ (ZAM w.length)]
 rfl
theorem r3Z{m:Mod}(h:ModelOK m)(c:CallT)(ho:0<=c.2.2.2.2.2.2.2.1/\c.2.2.2.2.2.2.2.1<=2147483648)(hbs:c.2.2.2.2.2.2.2.2.2.length<=4096):
 mdoewri fuel m.1.1 m.1.2 m.2 c.1 c.2.1 ((c.2.2.1.toNat:Nat):Int) c.2.2.2.1.1 c.2.2.2.1.2 c.2.2.2.2.1 c.2.2.2.2.2.1.1 c.2.2.2.2.2.1.2 c.2.2.2.2.2.2.1 c.2.2.2.2.2.2.2.1 c.2.2.2.2.2.2.2.2.1 c.2.2.2.2.2.2.2.2.2 c.1 c.2.1 0 0 0 false 0 false 0=some (stO (writeA m c) c):=by
 unfold mdoewri writeA;rw[nVZ h c,ZAA];by_cases h0:(fileF m c.2.2.2.1).2.2=0
 ·rw[ZAQ h0];obtain⟨x,hx,hid⟩:=cIZ h0;have hbl:=h.byt hx.2.2;have hl:=h.len;obtain⟨q1,q2,q3⟩:=oNZ h.t hx.1;simp only[stF];rw[h0,hid];simp only[ZAT,ZAK,ZAC];have hx2:=hx.2.2;generalize (fileF m c.2.2.2.1).2.1=b at hbl hx2⊢;rw[w64 (by omega)];by_cases hb:c.2.2.2.2.2.2.2.1+((c.2.2.2.2.2.2.2.2.2.length:Nat):Int)>65536
  ·rw[ZAQ hb,ZAO hb];rfl
  ·rw[ZAL hb,ZAJ hb];simp only[ZAC];have hN:writeN b c.2.2.2.2.2.2.2.1 c.2.2.2.2.2.2.2.2.2<=65536:=by unfold writeN;split<;>omega
   have key:∀(e:Int),(if e>((b.length:Nat):Int) then e else((b.length:Nat):Int))=((writeN b c.2.2.2.2.2.2.2.1 c.2.2.2.2.2.2.2.2.2:Nat):Int)->
    ((mdoesizW fuel c.2.2.2.1.1 (if e>((b.length:Nat):Int) then e else((b.length:Nat):Int)) m.1.1 m.1.2 m.2 c.1 c.2.1 ((c.2.2.1.toNat:Nat):Int) c.2.2.2.1.1 c.2.2.2.1.2 c.2.2.2.2.1 c.2.2.2.2.2.1.1 c.2.2.2.2.2.1.2 c.2.2.2.2.2.2.1 c.2.2.2.2.2.2.2.1 c.2.2.2.2.2.2.2.2.1 c.2.2.2.2.2.2.2.2.2 c.1 c.2.1 0 0 0 false 0 false 0).bind fun r1=>
      (upto? (if(((refLen (s:=.byte) r1.1):Nat):Int)<r1.2.2.2.2.2.2.2.2.2.2.2.1 then(((refLen (s:=.byte) r1.1):Nat):Int) else r1.2.2.2.2.2.2.2.2.2.2.2.1) (refLen (s:=.byte) r1.1)).bind fun q=>
      (refPut (α:=UInt8) r1.2.2.2.2.2.2.2.2.2.2.2.2.2.2.2.2.2.2.2.2.2.2.2.2.2 (refSub (α:=UInt8) r1.1 q ((refLen (s:=.byte) r1.1)-q)) r1.2.2.2.2.2.2.2.2.2.2.2.2.2.1).bind fun m=>
      (unrefL (unrefD [⟨3,.byte,(List.map frz1 m.1)⟩] (.ref 3 .byte)) r1.2.2.2.2.2.2.2.2.2.2.2.2.2.2.2.2.2.2.2.2.2.2.2.2.1).bind fun l=>
      some ((0:Int),(r1.2.2.2.2.2.2.2.2.2.2.2.2.2.2.2.2.2.2.2.2.2.2.2.1,(r1.2.1,(l,(r1.2.2.1,(r1.2.2.2.1,(r1.2.2.2.2.1,(r1.2.2.2.2.2.1,(r1.2.2.2.2.2.2.1,(r1.2.2.2.2.2.2.2.1,(r1.2.2.2.2.2.2.2.2.1,(r1.2.2.2.2.2.2.2.2.2.1,(r1.2.2.2.2.2.2.2.2.2.2.1,(r1.2.2.2.2.2.2.2.2.2.2.2.1,(r1.2.2.2.2.2.2.2.2.2.2.2.2.1,(r1.2.2.2.2.2.2.2.2.2.2.2.2.2.1,(r1.2.2.2.2.2.2.2.2.2.2.2.2.2.2.1,(r1.2.2.2.2.2.2.2.2.2.2.2.2.2.2.2.1,(r1.2.2.2.2.2.2.2.2.2.2.2.2.2.2.2.2.1,(r1.2.2.2.2.2.2.2.2.2.2.2.2.2.2.2.2.2.1,(r1.2.2.2.2.2.2.2.2.2.2.2.2.2.2.2.2.2.2.1,(r1.2.2.2.2.2.2.2.2.2.2.2.2.2.2.2.2.2.2.2.1,(r1.2.2.2.2.2.2.2.2.2.2.2.2.2.2.2.2.2.2.2.2.1,(r1.2.2.2.2.2.2.2.2.2.2.2.2.2.2.2.2.2.2.2.2.2.1,r1.2.2.2.2.2.2.2.2.2.2.2.2.2.2.2.2.2.2.2.2.2.2.1)))))))))))))))))))))))))=
    some (stO (0,putB m c.2.2.2.1 (writeL b c.2.2.2.2.2.2.2.1 c.2.2.2.2.2.2.2.2.2),(c.2.2.2.1,false,((writeN b c.2.2.2.2.2.2.2.1 c.2.2.2.2.2.2.2.2.2:Nat):Int),[],[],false,0)) c):=by
    intro e he;rw[he];have hlen:(List.map (liftT (.ref 3 .byte)) m.2).length=m.1.1.length:=(show(List.map (liftT (.ref 3 .byte)) m.2).length=m.2.length from ZBS _).trans h.n;have hget:(List.map (liftT (.ref 3 .byte)) m.2)[(c.2.2.2.1.1-1).toNat]? =some (.inl b):=(show(List.map (liftT (.ref 3 .byte)) m.2)[(c.2.2.2.1.1-1).toNat]? =Option.map (liftT (.ref 3 .byte)) m.2[(c.2.2.2.1.1-1).toNat]? from ZAe).trans (congrArg (Option.map (liftT (.ref 3 .byte))) hx2);unfold mdoesizW;rw[aNZ (by rw[aKZ];omega),ZAA,aNZ (ZAM _),ZAA,abZ (by rw[ZAp,aKZ];omega),w64 (by omega),aqZ (by omega) (by rw[h.n];omega),ZAA,hx2,ZAA,
     jpZ (by rw[h.n];omega),ZAA,aqZ (by omega) (by rw[hlen];omega),ZAA,hget,ZAA,show((m.1.1,m.1.2):Tree)=m.1 from rfl,dyZ h.fit,ZAA]
    simp only;rw[aqZ (by omega) (by omega),ZAA,hx.1.2.1,ZAA,ZAA,mMZ,byZ];simp only[ZBN];have hR:refLen (s:=.byte) (.inr (some (0,(0,writeN b c.2.2.2.2.2.2.2.1 c.2.2.2.2.2.2.2.2.2))))=writeN b c.2.2.2.2.2.2.2.1 c.2.2.2.2.2.2.2.2.2:=rfl;rw[hR,show(if((writeN b c.2.2.2.2.2.2.2.1 c.2.2.2.2.2.2.2.2.2:Nat):Int)<c.2.2.2.2.2.2.2.1 then((writeN b c.2.2.2.2.2.2.2.1 c.2.2.2.2.2.2.2.2.2:Nat):Int) else c.2.2.2.2.2.2.2.1)=((min c.2.2.2.2.2.2.2.1.toNat (writeN b c.2.2.2.2.2.2.2.1 c.2.2.2.2.2.2.2.2.2):Nat):Int) from by split<;>omega,
     aNZ (by omega),ZAA]
    obtain⟨k,hk⟩:=pPZ (sizedL b (writeN b c.2.2.2.2.2.2.2.1 c.2.2.2.2.2.2.2.2.2)) c.2.2.2.2.2.2.2.2.2 (min c.2.2.2.2.2.2.2.1.toNat (writeN b c.2.2.2.2.2.2.2.1 c.2.2.2.2.2.2.2.2.2)) (by rw[byZ];omega) (by
     by_cases hz:c.2.2.2.2.2.2.2.2.2.length=0
     ·exact .inl (ZAR hz)
     ·right;rw[byZ];unfold writeN;rw[ZAL hz];omega)
    rw[byZ] at hk;rw[hk,ZAA];have hu:=gTZ (unrefD [⟨3,.byte,List.map frz1 [(1,writeL b c.2.2.2.2.2.2.2.1 c.2.2.2.2.2.2.2.2.2)]⟩] (.ref 3 .byte)) (fun _=>rfl) (.inr (some (0,(0,writeN b c.2.2.2.2.2.2.2.1 c.2.2.2.2.2.2.2.2.2)))) _ (pWZ _ _ (eHZ b _ _).symm) m.2 (c.2.2.2.1.1-1).toNat (by rw[h.n];omega);have hu':unrefL (unrefD [⟨3,.byte,List.map frz1 [(1,splice (sizedL b (writeN b c.2.2.2.2.2.2.2.1 c.2.2.2.2.2.2.2.2.2)) (min c.2.2.2.2.2.2.2.1.toNat (writeN b c.2.2.2.2.2.2.2.1 c.2.2.2.2.2.2.2.2.2)) c.2.2.2.2.2.2.2.2.2)]⟩] (.ref 3 .byte)) ((m.2.map Sum.inl).set (c.2.2.2.1.1-1).toNat (.inr (some (0,(0,writeN b c.2.2.2.2.2.2.2.1 c.2.2.2.2.2.2.2.2.2)))))=some (m.2.set (c.2.2.2.1.1-1).toNat (writeL b c.2.2.2.2.2.2.2.1 c.2.2.2.2.2.2.2.2.2)):=hu;refine(congrArg (fun o=>Option.bind o _) hu').trans ?_;have hset:putB m c.2.2.2.1 (writeL b c.2.2.2.2.2.2.2.1 c.2.2.2.2.2.2.2.2.2)=((m.1.1.set (c.2.2.2.1.1-1).toNat (x.1,x.2.1,x.2.2.1,x.2.2.2.1,((writeN b c.2.2.2.2.2.2.2.1 c.2.2.2.2.2.2.2.2.2:Nat):Int),x.2.2.2.2.2),m.1.2),m.2.set (c.2.2.2.1.1-1).toNat (writeL b c.2.2.2.2.2.2.2.1 c.2.2.2.2.2.2.2.2.2)):=by
     unfold putB setSize;rw[hx.1.2.1,eHZ]
    rw[hset]
    rfl
   by_cases hz:c.2.2.2.2.2.2.2.2.2.length=0
   ·rw[show(((c.2.2.2.2.2.2.2.2.2.length:Nat):Int)==0)=true from by rw[hz];rfl];simp only[ZAF,ZAA];exact key 0 (by unfold writeN;rw[ZAQ hz];split<;>omega)
   ·rw[show(((c.2.2.2.2.2.2.2.2.2.length:Nat):Int)==0)=false from ZAS.2 (by omega)];simp only[ZAC,ZAA];exact key _ (by unfold writeN;rw[ZAL hz];split<;>omega)
 ·rw[ZAL h0];simp only[stF,ZAS.2 h0,ZAc,ZAF]
  rfl
def statS(m:Mod)(c:CallT)(k:Nat):Int×(List Ino×(Int×(List Byt×(Int×(Int×(Int×(Int×(Int×(Byt×(Int×(Int×(Byt×(Int×(Int×(Byt×(Int×(Int×(Int×(Int×(Int×(Bool×(Int×(Bool×Int))))))))))))))))))))))):=(fun fr:Int=>((k:Int),(m.1.1,(m.1.2,(m.2,(c.1,(c.2.1,(((c.2.2.1.toNat:Nat):Int),(c.2.2.2.1.1,(c.2.2.2.1.2,(c.2.2.2.2.1,(c.2.2.2.2.2.1.1,(c.2.2.2.2.2.1.2,(c.2.2.2.2.2.2.1,(c.2.2.2.2.2.2.2.1,(c.2.2.2.2.2.2.2.2.1,(c.2.2.2.2.2.2.2.2.2,(c.1,(c.2.1,(0,(0,(0,(false,(0,(false,fr))))))))))))))))))))))))) (500-((usedN (m.1.1.take k):Nat):Int))
theorem seZ{m:Mod}(h:ModelOK m)(c:CallT):mdoesta fuel m.1.1 m.1.2 m.2 c.1 c.2.1 ((c.2.2.1.toNat:Nat):Int) c.2.2.2.1.1 c.2.2.2.1.2 c.2.2.2.2.1 c.2.2.2.2.2.1.1 c.2.2.2.2.2.1.2 c.2.2.2.2.2.2.1 c.2.2.2.2.2.2.2.1 c.2.2.2.2.2.2.2.2.1 c.2.2.2.2.2.2.2.2.2 c.1 c.2.1 0 0 0 false 0 false 0=some (stO (statA m) c):=by
 unfold mdoesta;have hl:=h.len;have hS:∀k,usedN (m.1.1.take k)<=500:=fun k=>by
  unfold usedN;have:=List.countP_le_length (p:=fun x:Ino=>x.2.2.1) (l:=m.1.1.take k);rw[ZAa] at this;omega
 have loop:mdoesta_l0_it fuel m.1.1 (statS m c 0)=some ((fun(fr:Int)=>(m.1.1,(m.1.2,(m.2,(c.1,(c.2.1,(((c.2.2.1.toNat:Nat):Int),(c.2.2.2.1.1,(c.2.2.2.1.2,(c.2.2.2.2.1,(c.2.2.2.2.2.1.1,(c.2.2.2.2.2.1.2,(c.2.2.2.2.2.2.1,(c.2.2.2.2.2.2.2.1,(c.2.2.2.2.2.2.2.2.1,(c.2.2.2.2.2.2.2.2.2,(c.1,(c.2.1,(0,(0,(0,(false,(0,(false,fr)))))))))))))))))))))))) (500-((usedN m.1.1:Nat):Int))):=by
  unfold mdoesta_l0_it;refine bHZ (statS m c) m.1.1.length (by omega) (fun k hk=> ?_) ?_
  ·simp only[statS];unfold mdoesta_l0;obtain⟨x,hx⟩:∃x,m.1.1[k]? =some x:=⟨_,ZAE hk⟩;have hk1:=hS k;simp only[avZ hk,ZAF];rw[agZ hk,ZAA,hx,ZAA];have ht:m.1.1.take (k+1)=m.1.1.take k++[x]:=by rw[List.take_add_one,hx];rfl
   have hu:usedN (m.1.1.take (k+1))=usedN (m.1.1.take k)+(if x.2.2.1=true then 1 else 0):=by
    rw[ht];unfold usedN;rw[List.countP_append];cases hb:x.2.2.1<;>simp[List.countP_cons,hb]
   cases hb:x.2.2.1 with
   |true=>
    rw[hb,ZAQ rfl] at hu;simp only[ZAF,ZAA];rw[w64 (by omega),w64 (by omega),show(500:Int)-((usedN (m.1.1.take k):Nat):Int)-1=500-((usedN (m.1.1.take (k+1)):Nat):Int) by omega]
    rfl
   |false=>
    rw[hb,ZAL (by simp)] at hu;simp only[ZAC,ZAA];rw[w64 (by omega),hu]
    rfl
  ·simp only[statS];unfold mdoesta_l0;simp only[amZ (ZAi _),ZAC];rw[ZA8]
 refine(congrArg (fun o=>Option.bind o _) loop).trans ?_
 rfl
end Go.Ab.D
namespace Go.Ab.D
open Go Go.Ab
def madeD(l:List Ino)(d:List Byt):List Byt:=l.mapIdx fun i x=>bif x.2.2.1 then(d[i]?).getD [] else[]
theorem gdZ(l:List Ino)(d:List Byt):(madeD l d).length=l.length:=by unfold madeD;simp
theorem iGZ{l:List Ino}(d:List Byt){i:Nat}{x:Ino}(h:l[i]? =some x):(madeD l d)[i]? =some (bif x.2.2.1 then(d[i]?).getD [] else[]):=by
 unfold madeD;rw[List.getElem?_mapIdx,h]
 rfl
theorem iFZ{α:Type}{l:List α}{k:Nat}{x:α}(h:l[k]? =some x):l.take (k+1)=l.take k++[x]:=by rw[List.take_add_one,h];rfl
def madeS(l:List Ino)(s:Int)(d:List Byt)(x3:Int)(x4:Int)(x5:Int)(x6:Int)(x7:Int)(x8:Byt)(x9:Int)(x10:Int)(x11:Byt)(x12:Int)(x13:Int)(x14:Byt)(x15:Int)(x16:Int)(x17:Int)(x18:Int)(x19:Int)(x20:Bool)(x21:Int)(x22:Byt)(x23:List Ent)(x24:Bool)(x25:Int)(k:Nat):Int×(List Ino×(Int×(List Byt×(Int×(Int×(Int×(Int×(Int×(Byt×(Int×(Int×(Byt×(Int×(Int×(Byt×(Int×(Int×(Int×(Int×(Int×(Bool×(Int×(Byt×(List Ent×(Bool×(Int×(Int×(Int×(List Ino×(List Byt)))))))))))))))))))))))))))))):=((k:Int),(l,(s,(d,(x3,(x4,(x5,(x6,(x7,(x8,(x9,(x10,(x11,(x12,(x13,(x14,(x15,(x16,(x17,(x18,(x19,(x20,(x21,(x22,(x23,(x24,(x25,(0,(s,(l,(madeD l d).take k))))))))))))))))))))))))))))))
theorem r8Z(l:List Ino)(s:Int)(d:List Byt)(x3:Int)(x4:Int)(x5:Int)(x6:Int)(x7:Int)(x8:Byt)(x9:Int)(x10:Int)(x11:Byt)(x12:Int)(x13:Int)(x14:Byt)(x15:Int)(x16:Int)(x17:Int)(x18:Int)(x19:Int)(x20:Bool)(x21:Int)(x22:Byt)(x23:List Ent)(x24:Bool)(x25:Int)(hf:Fit l)(hl:l.length<=500)(hd:∀(i:Nat) b,d[i]? =some b->b.length<=65536):
 mdoemad fuel l s d x3 x4 x5 x6 x7 x8 x9 x10 x11 x12 x13 x14 x15 x16 x17 x18 x19 x20 x21 x22 x23 x24 x25=some (s,(l,(s,(d,(x3,(x4,(x5,(x6,(x7,(x8,(x9,(x10,(x11,(x12,(x13,(x14,(x15,(x16,(x17,(x18,(x19,(x20,(x21,(x22,(x23,(x24,(x25,(l,madeD l d)))))))))))))))))))))))))))):=by
 unfold mdoemad;rw[dyZ (t:=(l,s)) hf,ZAA];have loop:mdoemad_l0_it fuel (s,l) (madeS l s d x3 x4 x5 x6 x7 x8 x9 x10 x11 x12 x13 x14 x15 x16 x17 x18 x19 x20 x21 x22 x23 x24 x25 0)=some (l,(s,(d,(x3,(x4,(x5,(x6,(x7,(x8,(x9,(x10,(x11,(x12,(x13,(x14,(x15,(x16,(x17,(x18,(x19,(x20,(x21,(x22,(x23,(x24,(x25,(0,(s,(l,madeD l d))))))))))))))))))))))))))))):=by
  unfold mdoemad_l0_it;refine bHZ (madeS l s d x3 x4 x5 x6 x7 x8 x9 x10 x11 x12 x13 x14 x15 x16 x17 x18 x19 x20 x21 x22 x23 x24 x25) l.length (by omega) (fun k hk=> ?_) ?_
  ·simp only[madeS];unfold mdoemad_l0;obtain⟨x,hx⟩:∃x,l[k]? =some x:=⟨_,ZAE hk⟩;have hm:=iGZ d hx;have hlen:((madeD l d).take k).length<=500:=by rw[ZAa,gdZ];omega
   simp only[avZ hk,ZAF];rw[agZ hk,ZAA,hx,ZAA,iFZ hm];by_cases hkd:k<d.length
   ·obtain⟨b,hb⟩:∃b,d[k]? =some b:=⟨_,ZAE hkd⟩;have hbl:=hd k b hb;rw[avZ hkd,hb];simp only[ZAF,ZAA];cases hu:x.2.2.1 with
    |true=>
     simp only[ZAF];rw[agZ hkd,ZAA,hb,ZAA,hHZ (by omega),ZAA,ZAA];simp only;rw[abZ (by simp only[ZAD,ZAp,aKZ];omega),w64 (by omega)]
     rfl
    |false=>
     simp only[ZAC,ZAA];rw[abZ (by simp only[ZAD,ZAp,aKZ];omega),w64 (by omega)]
     rfl
   ·rw[amZ hkd,ZAn (show d.length<=k by omega)];simp only[ZAC,ZAA];rw[abZ (by simp only[ZAD,ZAp,aKZ];omega),w64 (by omega)];cases hu:x.2.2.1<;>rfl
  ·simp only[madeS];unfold mdoemad_l0;simp only[amZ (ZAi _),ZAC];rw[ZA1 (by rw[gdZ];exact ZAM _)]
 refine(congrArg (fun o=>Option.bind o _) loop).trans ?_
 rfl
def doS(y1:Int)(y2:Int)(y3:Int)(y4:Int)(y5:Int)(y6:Byt)(y7:Int)(y8:Int)(y9:Byt)(y10:Int)(y11:Int)(y12:Byt)(y13:Int)(y14:Int)(y15:Int)(y16:Int)(y17:Int)(y18:Int)(y19:Bool)(y20:Int)(y21:Bool)(y22:Int)(st:Int)(l:List Ino)(d:List Byt)(k:Nat):Int×(Int×(Int×(Int×(Int×(Int×(Byt×(Int×(Int×(Byt×(Int×(Int×(Byt×(Int×(Int×(Int×(Int×(Int×(Int×(Bool×(Int×(Bool×(Int×(Int×(List Ino×(List Byt))))))))))))))))))))))))):=((k:Int),(y1,(y2,(y3,(y4,(y5,(y6,(y7,(y8,(y9,(y10,(y11,(y12,(y13,(y14,(y15,(y16,(y17,(y18,(y19,(y20,(y21,(y22,(st,(l,d.take k)))))))))))))))))))))))))
theorem suZ(o1:Int×(List Ino×(Int×(List Byt×(Int×(Int×(Int×(Int×(Int×(Byt×(Int×(Int×(Byt×(Int×(Int×(Byt×(Int×(Int×(Int×(Int×(Int×(Int×(Bool×(Int×(Bool×(Int×(List Ino×(Int×(List Byt×(Int×(Int×(Int×(Int×(Int×(Byt×(Int×(Int×(Byt×(Int×(Int×(Byt×(Int×(Int×(Int×(Int×(Int×(Bool×(Int×(Byt×(List Ent×(Bool×Int)))))))))))))))))))))))))))))))))))))))))))))))))))(y1:Int)(y2:Int)(y3:Int)(y4:Int)(y5:Int)(y6:Byt)(y7:Int)(y8:Int)(y9:Byt)(y10:Int)(y11:Int)(y12:Byt)(y13:Int)(y14:Int)(y15:Int)(y16:Int)(y17:Int)(y18:Int)(y19:Bool)(y20:Int)(y21:Bool)(y22:Int)(st:Int)(l:List Ino)(d:List Byt)(ho:o1.2.2.2.1=d)(hl:d.length<=501)(hd:∀(i:Nat) b,d[i]? =some b->b.length<=65536):
 model_Do_l0_it fuel o1 (doS y1 y2 y3 y4 y5 y6 y7 y8 y9 y10 y11 y12 y13 y14 y15 y16 y17 y18 y19 y20 y21 y22 st l d 0)=some (y1,(y2,(y3,(y4,(y5,(y6,(y7,(y8,(y9,(y10,(y11,(y12,(y13,(y14,(y15,(y16,(y17,(y18,(y19,(y20,(y21,(y22,(st,(l,d)))))))))))))))))))))))):=by
 subst ho;unfold model_Do_l0_it;refine bHZ (doS y1 y2 y3 y4 y5 y6 y7 y8 y9 y10 y11 y12 y13 y14 y15 y16 y17 y18 y19 y20 y21 y22 st l o1.2.2.2.1) o1.2.2.2.1.length (by omega) (fun k hk=> ?_) ?_
 ·simp only[doS];unfold model_Do_l0;obtain⟨b,hb⟩:∃b,o1.2.2.2.1[k]? =some b:=⟨_,ZAE hk⟩;have hbl:=hd k b hb;have hlen:(o1.2.2.2.1.take k).length<=501:=by rw[ZAa];omega
  simp only[avZ hk,ZAF];rw[agZ hk,ZAA,hb,ZAA,hHZ (by omega),ZAA,abZ (by simp only[ZAD,ZAp,aKZ];omega),w64 (by omega),iFZ hb]
  rfl
 ·simp only[doS];unfold model_Do_l0;simp only[amZ (ZAi _),ZAC];rw[ZA8]
theorem rGZ(o1:Int×(List Ino×(Int×(List Byt×(Int×(Int×(Int×(Int×(Int×(Byt×(Int×(Int×(Byt×(Int×(Int×(Byt×(Int×(Int×(Int×(Int×(Int×(Int×(Bool×(Int×(Bool×(Int×(List Ino×(Int×(List Byt×(Int×(Int×(Int×(Int×(Int×(Byt×(Int×(Int×(Byt×(Int×(Int×(Byt×(Int×(Int×(Int×(Int×(Int×(Bool×(Int×(Byt×(List Ent×(Bool×Int)))))))))))))))))))))))))))))))))))))))))))))))))))(y1:Int)(y2:Int)(y3:Int)(y4:Int)(y5:Int)(y6:Byt)(y7:Int)(y8:Int)(y9:Byt)(y10:Int)(y11:Int)(y12:Byt)(y13:Int)(y14:Int)(y15:Int)(y16:Int)(y17:Int)(y18:Int)(y19:Bool)(y20:Int)(y21:Bool)(y22:Int)(st:Int)(l:List Ino)(d:List Byt)(ho:o1.2.2.2.1=d)(hl:d.length<=501)(hd:∀(i:Nat) b,d[i]? =some b->b.length<=65536):
 model_Do_l0_it fuel o1 (0,(y1,(y2,(y3,(y4,(y5,(y6,(y7,(y8,(y9,(y10,(y11,(y12,(y13,(y14,(y15,(y16,(y17,(y18,(y19,(y20,(y21,(y22,(st,(l,[])))))))))))))))))))))))))=some (y1,(y2,(y3,(y4,(y5,(y6,(y7,(y8,(y9,(y10,(y11,(y12,(y13,(y14,(y15,(y16,(y17,(y18,(y19,(y20,(y21,(y22,(st,(l,d)))))))))))))))))))))))):=suZ o1 y1 y2 y3 y4 y5 y6 y7 y8 y9 y10 y11 y12 y13 y14 y15 y16 y17 y18 y19 y20 y21 y22 st l d ho hl hd
end Go.Ab.D
namespace Go.Ab.D
open Go Go.Ab
def Kept(l:List Ino)(d:List Byt):Prop:=∀(i:Nat) x,l[i]? =some x->x.2.2.1=true->x.2.2.2.2.2.1=[]/\((((d[i]?).getD []).length:Nat):Int)=x.2.2.2.2.1
theorem ModelOK.kept{m:Mod}(h:ModelOK m):Kept m.1.1 m.2:=fun i x hx _=>by
 obtain⟨b,hb,hs,_⟩:=h.at hx;rw[hb];exact⟨h.p i x hx,hs⟩
theorem Kept.model{t:Tree}{d:List Byt}(h:TreeOK t)(k:Kept t.1 d):ModelOK (t,madeD t.1 d):=by
 refine⟨h,gdZ _ _,fun i x hx=> ?_,fun i x b hx hb=> ?_⟩
 ·cases hu:x.2.2.1 with
  |true=>exact(k i x hx hu).1
  |false=>exact((h.r.ino i x hx).bare hu).2.2.2.1
 ·rw[iGZ d hx] at hb;simp only[ZAH] at hb;subst hb;cases hu:x.2.2.1 with
  |true=>exact(k i x hx hu).2
  |false=>rw[((h.r.ino i x hx).bare hu).2.1];rfl
theorem emZ{l:List Ino}{d:List Byt}(k:Kept l d)(i:Nat)(f:Ino->Ino)(hf:∀n,(f n).2.2.1=true->n.2.2.1=true/\(f n).2.2.2.2.2.1=n.2.2.2.2.2.1/\(f n).2.2.2.2.1=n.2.2.2.2.1):Kept (modL l i f) d:=by
 intro j x hx hu;rw[bmZ] at hx;split at hx
 ·cases hn:l[j]? with
  |none=>rw[hn] at hx;cases hx
  |some n=>
   rw[hn] at hx;simp only[ZBg,ZAH] at hx;subst hx;obtain⟨q1,q2,q3⟩:=hf n hu;rw[q2,q3];exact k j n hn q1
 ·exact k j x hx hu
theorem iQZ{l:List Ino}{d:List Byt}(k:Kept l d)(a:Int)(s:List UInt8)(id:Int):Kept (putL l a s id) d:=emZ k _ _ fun _ h=>⟨h,rfl,rfl⟩
theorem eDZ{l:List Ino}{d:List Byt}(k:Kept l d)(a:Int)(s:List UInt8):Kept (takeL l a s) d:=emZ k _ _ fun _ h=>⟨h,rfl,rfl⟩
theorem oHZ{l:List Ino}{d:List Byt}(k:Kept l d)(a p:Int):Kept (parL l a p) d:=emZ k _ _ fun _ h=>⟨h,rfl,rfl⟩
theorem gNZ{l:List Ino}{d:List Byt}(k:Kept l d)(a:Int):Kept (dropL l a) d:=emZ k _ _ fun _ h=>by cases h
theorem kJZ{l:List Ino}{d:List Byt}(k:Kept l d)(a:Int)(old:List UInt8)(b:Int)(name:List UInt8)(id:Int):Kept (mvL l a old b name id) d:=oHZ (iQZ (eDZ k _ _) _ _ _) _ _
theorem mrZ{m:Mod}(h:ModelOK m){dir:Bool}{parent g:Int}{l':List Ino}{i:Nat}(ha:allocF m.1.1 dir parent=some (l',i,g)):Kept l' m.2:=by
 unfold allocF at ha;cases hf:freeAt m.1.1 with
 |none=>
  rw[hf] at ha;simp only at ha;split at ha
  ·simp only[ZAH,ZAu] at ha;obtain⟨rfl,rfl,rfl⟩:=ha;intro j x hx hu;by_cases hj:j<m.1.1.length
   ·rw[ZAP hj] at hx;exact h.kept j x hx hu
   ·rw[ZAY (by omega)] at hx;have hj0:j-m.1.1.length=0:=by
     cases hq:j-m.1.1.length with
     |zero=>rfl
     |succ q=>rw[hq] at hx;simp at hx
    rw[hj0] at hx;simp only[ZA3,ZAH] at hx;subst hx;rw[ZAn (by rw[h.n];omega)];exact⟨rfl,rfl⟩
  ·cases ha
 |some k=>
  rw[hf] at ha;simp only at ha;obtain⟨hk,hused,_⟩:=ZBB.1 hf;have hg:m.1.1[k]? =some m.1.1[k]:=ZAE hk;rw[hg] at ha;simp only at ha;split at ha
  ·simp only[ZAH,ZAu] at ha;obtain⟨rfl,rfl,rfl⟩:=ha;intro j x hx hu;by_cases hj:j=k
   ·subst hj;rw[ZAX hk] at hx;simp only[ZAH] at hx;subst hx;obtain⟨b,hb,hs,_⟩:=h.at hg;have hun:(m.1.1[j]).2.2.1=false:=by simpa using hused
    rw[((h.t.r.ino j _ hg).bare hun).2.1] at hs;rw[hb];exact⟨rfl,hs⟩
   ·rw[ZAW (fun e=>hj e.symm)] at hx;exact h.kept j x hx hu
  ·cases ha
theorem nCZ{m:Mod}(h:ModelOK m)(d:Int×Int)(s:List UInt8)(is:Bool):Kept (makeF m.1 d s is).1.1 m.2:=by
 unfold makeF;have k:=h.kept;split
 ·split
  ·split
   ·exact k
   ·split
    ·exact k
    ·split
     ·exact k
     ·split
      ·exact k
      ·rename_i l' i g ha;exact iQZ (mrZ h ha) _ _ _
  ·exact k
 ·exact k
theorem jTZ{m:Mod}(h:ModelOK m)(d:Int×Int)(s:List UInt8)(is:Bool):Kept (removeF m.1 d s is).1.1 m.2:=by
 unfold removeF;have k:=h.kept;split
 ·split
  ·split
   ·exact k
   ·split
    ·exact k
    ·split
     ·exact k
     ·split
      ·exact gNZ (eDZ k _ _) _
      ·exact k
  ·exact k
 ·exact k
theorem knZ{m:Mod}(h:ModelOK m)(a:Int×Int)(old:List UInt8)(b:Int×Int)(name:List UInt8):Kept (renameF m.1 a old b name).1.1 m.2:=by
 unfold renameF;have k:=h.kept;split
 ·split
  ·split
   ·split
    ·exact k
    ·split
     ·exact k
     ·split
      ·exact k
      ·split
       ·exact k
       ·split
        ·exact k
        ·split
         ·split
          ·exact k
          ·exact kJZ k _ _ _ _ _
         ·split
          ·exact k
          ·split
           ·exact k
           ·split
            ·exact kJZ (gNZ (eDZ k _ _) _) _ _ _ _ _
            ·exact k
   ·exact k
  ·exact k
 ·exact k
def wS(x:Ino)(n:Int):Ino:=(x.1,x.2.1,x.2.2.1,x.2.2.2.1,n,x.2.2.2.2.2)
theorem lgZ{l:List Ino}{i:Nat}{x:Ino}(hx:l[i]? =some x)(n:Int){j:Nat}{y:Ino}(hy:l[j]? =some y):∃y',(l.set i (wS x n))[j]? =some y'/\y'=wS y y'.2.2.2.2.1:=by
 by_cases hj:j=i
 ·subst hj;rw[hx] at hy;cases hy;exact⟨_,ZAX (ZAB.1 hx).1,rfl⟩
 ·exact⟨y,by rw[ZAW (fun e=>hj e.symm)];exact hy,rfl⟩
theorem jvZ{l:List Ino}{i:Nat}{x:Ino}(hx:l[i]? =some x)(n:Int){j:Nat}{y':Ino}(hy:(l.set i (wS x n))[j]? =some y'):∃y,l[j]? =some y/\y'=wS y y'.2.2.2.2.1/\(j≠i->y'=y)/\(j=i->y=x/\y'=wS x n):=by
 by_cases hj:j=i
 ·subst hj;rw[ZAX (ZAB.1 hx).1] at hy;simp only[ZAH] at hy;subst hy;exact⟨x,hx,rfl,fun h=>absurd rfl h,fun _=>⟨rfl,rfl⟩⟩
 ·rw[ZAW (fun e=>hj e.symm)] at hy;exact⟨y',hy,rfl,fun _=>rfl,fun h=>absurd h hj⟩
theorem rBZ{l:List Ino}{i:Nat}{x:Ino}(hx:l[i]? =some x)(n:Int){id:Int}(h:Rch l id):Rch (l.set i (wS x n)) id:=by
 induction h with
 |root=>exact .root
 |step hy hu _ ih=>
  obtain⟨y',h1,h2⟩:=lgZ hx n hy;have hu':y'.2.2.1=true:=by rw[h2];exact hu
  have:=Rch.step h1 hu';rw[h2] at this;exact this ih
theorem lIZ{t:Tree}(h:TreeOK t){i:Nat}{x:Ino}(hx:t.1[i]? =some x)(hu:x.2.2.1=true)(hd:x.2.2.2.1=false){n:Int}(hn:0<=n/\n<=65536):TreeOK (t.1.set i (wS x n),t.2):=by
 have hlen:(t.1.set i (wS x n)).length=t.1.length:=ZAt;refine⟨⟨by rw[hlen];exact h.r.len,h.r.str,fun j y' hy=> ?_,?_,?_⟩,fun j y' hy s id he=> ?_,fun j y' hy hu' hj=> ?_,fun j y' hy hu'=> ?_⟩
 ·obtain⟨y,h1,h2,h3,h4⟩:=jvZ hx n hy;have o:=h.r.ino j y h1;show okIno (t.1.set i (wS x n)).length t.2 j y';rw[hlen];by_cases hj:j=i
  ·obtain⟨rfl,h5⟩:=h4 hj;have f:=o.file hu hd;subst h5;exact⟨o.id,o.gen,o.par,fun _ hq=>(by have hq:y.2.2.2.1=true:=hq;rw[hd] at hq;cases hq),fun _ _=>⟨hn,f.2.1,f.2.2.1,f.2.2.2⟩,fun hq=>(by have hq:y.2.2.1=false:=hq;rw[hu] at hq;cases hq)⟩
  ·rw[h3 hj];exact o
 ·have e:allStripes (t.1.set i (wS x n))=allStripes t.1:=by
   unfold allStripes;rw[show(t.1.set i (wS x n)).flatMap (fun n=>stripes n.2.2.2.2.2.1)=((t.1.set i (wS x n)).map fun n=>n.2.2.2.2.2.1).flatMap stripes from by rw[List.flatMap_map],
    show t.1.flatMap (fun n=>stripes n.2.2.2.2.2.1)=(t.1.map fun n=>n.2.2.2.2.2.1).flatMap stripes from by rw[List.flatMap_map],List.map_set]
   congr 1;exact gYZ (by rw[ZAe,hx];rfl)
  show(allStripes (t.1.set i (wS x n))).Nodup;rw[e];exact h.r.nod
 ·obtain⟨r,q1,q2,q3,q4⟩:=h.r.root;obtain⟨r',h1,h2⟩:=lgZ hx n q1;refine⟨r',h1,?_,?_,?_⟩<;>rw[h2]
  ·exact q2
  ·exact q3
  ·exact q4
 ·obtain⟨y,h1,h2,_⟩:=jvZ hx n hy;rw[h2] at he;obtain⟨q1,q2,z,q3,q4,q5⟩:=h.e j y h1 s id he;obtain⟨z',h3,h4⟩:=lgZ hx n q3;exact⟨q1,q2,z',h3,by rw[h4];exact q4,by rw[h4];exact q5⟩
 ·obtain⟨y,h1,h2,_⟩:=jvZ hx n hy;rw[h2] at hu';obtain⟨z,s,q1,q2,q3⟩:=h.u j y h1 hu' hj;obtain⟨z',h3,h4⟩:=lgZ hx n q1;refine⟨z',s,by rw[h2];exact h3,by rw[h4];exact q2,fun s' hs=> ?_⟩;rw[h4] at hs;exact q3 s' hs
 ·obtain⟨y,h1,h2,_⟩:=jvZ hx n hy;rw[h2] at hu';exact rBZ hx n (h.a j y h1 hu')
theorem nuZ{m:Mod}(h:ModelOK m){hd:Int×Int}{x:Ino}{b:Byt}(hx:IsF m hd x b){c:Byt}(hc:c.length<=65536):TreeOK (putB m hd c).1/\Kept (putB m hd c).1.1 (putB m hd c).2/\(putB m hd c).1.1.length=m.1.1.length/\(putB m hd c).2.length=m.2.length/\
 ∀(i:Nat) z,(putB m hd c).2[i]? =some z->z.length<=65536:=by
 obtain⟨⟨h1,hg,hu,hgen⟩,hdir,hb⟩:=hx;have e:putB m hd c=((m.1.1.set (hd.1-1).toNat (wS x ((c.length:Nat):Int)),m.1.2),m.2.set (hd.1-1).toNat c):=by
  unfold putB setSize;rw[hg]
  rfl
 rw[e];have hlt:=(ZAB.1 hg).1;refine⟨lIZ h.t hg hu hdir (by omega),fun j y' hy hu'=> ?_,ZAt,ZAt,fun i z hz=> ?_⟩
 ·obtain⟨y,q1,q2,q3,q4⟩:=jvZ hg _ hy;by_cases hj:j=(hd.1-1).toNat
  ·obtain⟨rfl,q5⟩:=q4 hj;subst q5 hj;show _/\(((((m.2.set (hd.1-1).toNat c)[(hd.1-1).toNat]?).getD []).length:Nat):Int)=_;rw[ZAX (by rw[h.n];exact hlt)];exact⟨h.p _ y q1,rfl⟩
  ·rw[q3 hj] at hu'⊢;show _/\(((((m.2.set (hd.1-1).toNat c)[j]?).getD []).length:Nat):Int)=_;rw[ZAW (fun e=>hj e.symm)];exact h.kept j y q1 hu'
 ·by_cases hi:i=(hd.1-1).toNat
  ·subst hi;have hz:(m.2.set (hd.1-1).toNat c)[(hd.1-1).toNat]? =some z:=hz;rw[ZAX (by rw[h.n];exact hlt)] at hz;cases hz;exact hc
  ·have hz:(m.2.set (hd.1-1).toNat c)[i]? =some z:=hz;rw[ZAW (fun e=>hi e.symm)] at hz;exact h.byt hz
end Go.Ab.D
namespace Go.Ab.D
open Go Go.Ab
def actF(m:Mod)(c:CallT):DoR:=if c.2.2.1=UInt8.ofNat 1 then lookA m c else if c.2.2.1=UInt8.ofNat 2 then makeA m c else if c.2.2.1=UInt8.ofNat 3 then makeA m c else if c.2.2.1=UInt8.ofNat 4 then readA m c else if c.2.2.1=UInt8.ofNat 5 then writeA m c else if c.2.2.1=UInt8.ofNat 6 then sizeA m c else if c.2.2.1=UInt8.ofNat 7 then removeA m c else if c.2.2.1=UInt8.ofNat 8 then removeA m c else if c.2.2.1=UInt8.ofNat 9 then renameA m c else if c.2.2.1=UInt8.ofNat 10 then listA m c else if c.2.2.1=UInt8.ofNat 11 then getA m c else if c.2.2.1=UInt8.ofNat 12 then statA m else(179,m,rep0)
structure Sane (q:DoR):Prop where
 t:TreeOK q.2.1.1
 k:Kept q.2.1.1.1 q.2.1.2
 n:q.2.1.2.length<=501
 b:∀(i:Nat) z,q.2.1.2[i]? =some z->z.length<=65536
theorem Sane.same{m:Mod}(h:ModelOK m){q:DoR}(e:q.2.1=m):Sane q:=by
 obtain⟨e1,m',r⟩:=q;have e:m'=m:=e;subst e;exact⟨h.t,h.kept,by have:=h.len;have:=h.n;show m'.2.length<=501;omega,fun i z hz=>h.byt hz⟩
section
variable {m : Mod} (h : ModelOK m) (c : CallT)
include h
theorem dlen:m.2.length<=501:=by have:=h.len;have:=h.n;omega
theorem nKZ:Sane (lookA m c):=.same h (by unfold lookA;split<;>first|rfl|(split<;>rfl))
theorem okZ:Sane (readA m c):=.same h (by unfold readA;split<;>rfl)
theorem pxZ:Sane (getA m c):=.same h (by unfold getA;split<;>rfl)
theorem i9Z:Sane (makeA m c):=by
 unfold makeA;split
 ·exact⟨(nkZ h.t _ _ _).2,nCZ h _ _ _,dlen (m:=m) h,fun i z hz=>h.byt hz⟩
 ·exact .same h rfl
theorem fJZ:Sane (removeA m c):=by
 unfold removeA;split
 ·exact⟨(iHZ h.t _ _ _).2,jTZ h _ _ _,dlen (m:=m) h,fun i z hz=>h.byt hz⟩
 ·exact .same h rfl
theorem kgZ:Sane (renameA m c):=by
 unfold renameA;split
 ·exact⟨(isZ h.t _ _ _ _).2,knZ h _ _ _ _,dlen (m:=m) h,fun i z hz=>h.byt hz⟩
 ·exact .same h rfl
theorem ovZ(hn:0<=c.2.2.2.2.2.2.2.2.1/\c.2.2.2.2.2.2.2.2.1<=2147483648):Sane (sizeA m c):=by
 unfold sizeA;split
 ·rename_i h0;obtain⟨x,hx,_⟩:=cIZ h0;split
  ·exact .same h rfl
  ·obtain⟨q1,q2,q3,q4,q5⟩:=nuZ h hx (c:=sizedL (fileF m c.2.2.2.1).2.1 c.2.2.2.2.2.2.2.2.1.toNat) (by rw[byZ];omega);exact⟨q1,q2,by have:=dlen h;show(putB m _ _).2.length<=501;omega,q5⟩
 ·exact .same h rfl
theorem mmZ(hbs:c.2.2.2.2.2.2.2.2.2.length<=4096):Sane (writeA m c):=by
 unfold writeA;split
 ·rename_i h0;obtain⟨x,hx,_⟩:=cIZ h0;have hbl:=h.byt hx.2.2;split
  ·exact .same h rfl
  ·obtain⟨q1,q2,q3,q4,q5⟩:=nuZ h hx (c:=writeL (fileF m c.2.2.2.1).2.1 c.2.2.2.2.2.2.2.1 c.2.2.2.2.2.2.2.2.2) (by rw[eHZ];unfold writeN;split<;>omega);exact⟨q1,q2,by have:=dlen h;show(putB m _ _).2.length<=501;omega,q5⟩
 ·exact .same h rfl
theorem aZZ(hn:0<=c.2.2.2.2.2.2.2.2.1/\c.2.2.2.2.2.2.2.2.1<=2147483648)(hbs:c.2.2.2.2.2.2.2.2.2.length<=4096):Sane (actF m c):=by
 unfold actF;by_cases h1:c.2.2.1=UInt8.ofNat 1
 ·rw[ZAQ h1];exact nKZ h c
 rw[ZAL h1];by_cases h2:c.2.2.1=UInt8.ofNat 2
 ·rw[ZAQ h2];exact i9Z h c
 rw[ZAL h2];by_cases h3:c.2.2.1=UInt8.ofNat 3
 ·rw[ZAQ h3];exact i9Z h c
 rw[ZAL h3];by_cases h4:c.2.2.1=UInt8.ofNat 4
 ·rw[ZAQ h4];exact okZ h c
 rw[ZAL h4];by_cases h5:c.2.2.1=UInt8.ofNat 5
 ·rw[ZAQ h5];exact mmZ h c hbs
 rw[ZAL h5];by_cases h6:c.2.2.1=UInt8.ofNat 6
 ·rw[ZAQ h6];exact ovZ h c hn
 rw[ZAL h6];by_cases h7:c.2.2.1=UInt8.ofNat 7
 ·rw[ZAQ h7];exact fJZ h c
 rw[ZAL h7];by_cases h8:c.2.2.1=UInt8.ofNat 8
 ·rw[ZAQ h8];exact fJZ h c
 rw[ZAL h8];by_cases h9:c.2.2.1=UInt8.ofNat 9
 ·rw[ZAQ h9];exact kgZ h c
 rw[ZAL h9];by_cases h10:c.2.2.1=UInt8.ofNat 10
 ·rw[ZAQ h10];exact .same h rfl
 rw[ZAL h10];by_cases h11:c.2.2.1=UInt8.ofNat 11
 ·rw[ZAQ h11];exact pxZ h c
 rw[ZAL h11];by_cases h12:c.2.2.1=UInt8.ofNat 12
 ·rw[ZAQ h12];exact .same h rfl
 rw[ZAL h12];exact .same h rfl
end
theorem ngZ(o:Nat):(shapeN o).2.2.2.2.1<=2147483648:=by unfold shapeN;(repeat' split)<;>decide
theorem aJZ{c:CallT}(hr:rightCall c=true):(0<=c.2.2.2.2.2.2.2.1/\c.2.2.2.2.2.2.2.1<=2147483648)/\(0<=c.2.2.2.2.2.2.2.2.1/\c.2.2.2.2.2.2.2.2.1<=2147483648)/\c.2.2.2.2.2.2.2.2.2.length<=4096:=by
 unfold rightCall rightS at hr;have hs:=ngZ c.2.2.1.toNat;simp only[ZAD,ZAo,ZAd] at hr;obtain⟨_,_,_,_,_,_,h1,_,h2,h3⟩:=hr;refine⟨h1,⟨h2.1,by omega⟩,?_⟩;rcases h3 with h3|h3
 ·omega
 ·exact h3.2
theorem rfZ:∀n:Nat,n<256->(shapeN n).2.2.2.2.2.2=true->UInt8.ofNat n=UInt8.ofNat 1\/UInt8.ofNat n=UInt8.ofNat 2\/UInt8.ofNat n=UInt8.ofNat 3\/UInt8.ofNat n=UInt8.ofNat 4\/UInt8.ofNat n=UInt8.ofNat 5\/UInt8.ofNat n=UInt8.ofNat 6\/UInt8.ofNat n=UInt8.ofNat 7\/UInt8.ofNat n=UInt8.ofNat 8\/UInt8.ofNat n=UInt8.ofNat 9\/UInt8.ofNat n=UInt8.ofNat 10\/UInt8.ofNat n=UInt8.ofNat 11\/UInt8.ofNat n=UInt8.ofNat 12:=by decide+kernel
theorem pjZ{c:CallT}(hr:rightCall c=true):c.2.2.1=UInt8.ofNat 1\/c.2.2.1=UInt8.ofNat 2\/c.2.2.1=UInt8.ofNat 3\/c.2.2.1=UInt8.ofNat 4\/c.2.2.1=UInt8.ofNat 5\/c.2.2.1=UInt8.ofNat 6\/c.2.2.1=UInt8.ofNat 7\/c.2.2.1=UInt8.ofNat 8\/c.2.2.1=UInt8.ofNat 9\/c.2.2.1=UInt8.ofNat 10\/c.2.2.1=UInt8.ofNat 11\/c.2.2.1=UInt8.ofNat 12:=by
 unfold rightCall rightS at hr;simp only[ZAD] at hr;have:=rfZ c.2.2.1.toNat c.2.2.1.toNat_lt hr.1;rwa [show UInt8.ofNat c.2.2.1.toNat=c.2.2.1 from by simp] at this
theorem j9Z(m:Mod)(c:CallT):(lookA m c).2.2.2.2.2.1=[]/\(lookA m c).2.2.2.2.2.2.1=[]:=by unfold lookA;(repeat' split)<;>exact⟨rfl,rfl⟩
theorem e7Z(m:Mod)(c:CallT):(makeA m c).2.2.2.2.2.1=[]/\(makeA m c).2.2.2.2.2.2.1=[]:=by unfold makeA;(repeat' split)<;>exact⟨rfl,rfl⟩
theorem cxZ(m:Mod)(c:CallT):(removeA m c).2.2.2.2.2.1=[]/\(removeA m c).2.2.2.2.2.2.1=[]:=by unfold removeA;(repeat' split)<;>exact⟨rfl,rfl⟩
theorem fQZ(m:Mod)(c:CallT):(renameA m c).2.2.2.2.2.1=[]/\(renameA m c).2.2.2.2.2.2.1=[]:=by unfold renameA;(repeat' split)<;>exact⟨rfl,rfl⟩
theorem kmZ(m:Mod)(c:CallT):(sizeA m c).2.2.2.2.2.1=[]/\(sizeA m c).2.2.2.2.2.2.1=[]:=by unfold sizeA;(repeat' split)<;>exact⟨rfl,rfl⟩
theorem huZ(m:Mod)(c:CallT):(writeA m c).2.2.2.2.2.1=[]/\(writeA m c).2.2.2.2.2.2.1=[]:=by unfold writeA;(repeat' split)<;>exact⟨rfl,rfl⟩
theorem odZ(m:Mod)(c:CallT):(getA m c).2.2.2.2.2.1=[]/\(getA m c).2.2.2.2.2.2.1=[]:=by unfold getA;(repeat' split)<;>exact⟨rfl,rfl⟩
theorem mTZ(m:Mod)(c:CallT):(readA m c).2.2.2.2.2.2.1=[]:=by unfold readA;(repeat' split)<;>rfl
def resF(m:Mod)(c:CallT):Mod×Int×Rep:=
 if rightCall c=true then
  if(actF m c).1=0 then(((actF m c).2.1.1,madeD (actF m c).2.1.1.1 (actF m c).2.1.2),0,(actF m c).2.2)
  else(m,(actF m c).1,rep0)
 else(m,179,rep0)
def doT(r:Mod×Int×Rep)(c:CallT):Int×(Int×(Int×(Int×(Int×(Int×(Bool×(Int×(Byt×(List Ent×(Bool×(Int×(List Ino×List Byt)))))))))))):=(r.1.1.2,(c.1,(c.2.1,(r.2.1,(r.2.2.1.1,(r.2.2.1.2,(r.2.2.2.1,(r.2.2.2.2.1,(r.2.2.2.2.2.1,(r.2.2.2.2.2.2.1,(r.2.2.2.2.2.2.2.1,(r.2.2.2.2.2.2.2.2,(r.1.1.1,r.1.2)))))))))))))
theorem oPZ{m:Mod}(h:ModelOK m)(c:CallT):ModelOK (resF m c).1:=by
 unfold resF;by_cases hr:rightCall c=true
 ·rw[ZAQ hr];obtain⟨ho,hn,hbs⟩:=aJZ hr;have s:=aZZ h c hn hbs;by_cases h0:(actF m c).1=0
  ·rw[ZAQ h0];exact s.k.model s.t
  ·rw[ZAL h0];exact h
 ·rw[ZAL hr];exact h
end Go.Ab.D
set_option maxHeartbeats 4000000
set_option maxRecDepth 100000
namespace Go.Ab.D
open Go Go.Ab
theorem aPZ(u:UInt8):byte? ((u.toNat:Nat):Int)=some u:=by rw[kDZ u.toNat_lt];simp
def finF(m:Mod)(q:DoR):Mod×Int×Rep:=
 if q.1=0 then((q.2.1.1,madeD q.2.1.1.1 q.2.1.2),0,q.2.2) else(m,q.1,rep0)
theorem bBZ{m:Mod}{c:CallT}(hr:rightCall c=true):resF m c=finF m (actF m c):=by unfold resF finF;rw[ZAQ hr]
def mkO(q:DoR)(by_:Byt)(en:List Ent)(m:Mod)(c:CallT):qT14:=(q.1,(m.1.1,(m.1.2,(m.2,(c.1,(c.2.1,(((c.2.2.1.toNat:Nat):Int),(c.2.2.2.1.1,(c.2.2.2.1.2,(c.2.2.2.2.1,(c.2.2.2.2.2.1.1,(c.2.2.2.2.2.1.2,(c.2.2.2.2.2.2.1,(c.2.2.2.2.2.2.2.1,(c.2.2.2.2.2.2.2.2.1,(c.2.2.2.2.2.2.2.2.2,(0,(0,(0,(0,(0,(0,(false,(0,(false,(0,(q.2.1.1.1,(q.2.1.1.2,(q.2.1.2,(c.1,(c.2.1,(((c.2.2.1.toNat:Nat):Int),(c.2.2.2.1.1,(c.2.2.2.1.2,(c.2.2.2.2.1,(c.2.2.2.2.2.1.1,(c.2.2.2.2.2.1.2,(c.2.2.2.2.2.2.1,(c.2.2.2.2.2.2.2.1,(c.2.2.2.2.2.2.2.2.1,(c.2.2.2.2.2.2.2.2.2,(c.1,(c.2.1,(0,(q.2.2.1.1,(q.2.2.1.2,(q.2.2.2.1,(q.2.2.2.2.1,(by_,(en,(q.2.2.2.2.2.2.2.1,q.2.2.2.2.2.2.2.2)))))))))))))))))))))))))))))))))))))))))))))))))))
noncomputable def doTail (o1 : qT14) : Option (Int × (Int × (Int × (Int × (Int × (Int × (Bool × (Int × (Byt × (List Ent × (Bool × (Int × (List Ino × List Byt))))))))))))) :=
 bif (!(o1.1==0)) then
  (mcop fuel (o1.2.1,o1.2.2.1)).bind fun r14=>
  (model_Do_l0_it fuel o1 (0,(o1.2.2.2.2.1,(o1.2.2.2.2.2.1,(o1.2.2.2.2.2.2.1,(o1.2.2.2.2.2.2.2.1,(o1.2.2.2.2.2.2.2.2.1,(o1.2.2.2.2.2.2.2.2.2.1,(o1.2.2.2.2.2.2.2.2.2.2.1,(o1.2.2.2.2.2.2.2.2.2.2.2.1,(o1.2.2.2.2.2.2.2.2.2.2.2.2.1,(o1.2.2.2.2.2.2.2.2.2.2.2.2.2.1,(o1.2.2.2.2.2.2.2.2.2.2.2.2.2.2.1,(o1.2.2.2.2.2.2.2.2.2.2.2.2.2.2.2.1,(o1.2.2.2.2.2.2.2.2.2.2.2.2.2.2.2.2.1,(o1.2.2.2.2.2.2.2.2.2.2.2.2.2.2.2.2.2.1,(o1.2.2.2.2.2.2.2.2.2.2.2.2.2.2.2.2.2.2.1,(o1.2.2.2.2.2.2.2.2.2.2.2.2.2.2.2.2.2.2.2.1,(o1.2.2.2.2.2.2.2.2.2.2.2.2.2.2.2.2.2.2.2.2.1,(o1.2.2.2.2.2.2.2.2.2.2.2.2.2.2.2.2.2.2.2.2.2.1,(o1.2.2.2.2.2.2.2.2.2.2.2.2.2.2.2.2.2.2.2.2.2.2.1,(o1.2.2.2.2.2.2.2.2.2.2.2.2.2.2.2.2.2.2.2.2.2.2.2.1,(o1.2.2.2.2.2.2.2.2.2.2.2.2.2.2.2.2.2.2.2.2.2.2.2.2.1,(o1.2.2.2.2.2.2.2.2.2.2.2.2.2.2.2.2.2.2.2.2.2.2.2.2.2.1,(r14.1,(r14.2,[])))))))))))))))))))))))))).bind fun o2=>
  some (o2.2.2.2.2.2.2.2.2.2.2.2.2.2.2.2.2.2.2.2.2.2.2.1,(o2.1,(o2.2.1,(o1.1,(0,(0,(false,(0,([],([],(false,(0,(o2.2.2.2.2.2.2.2.2.2.2.2.2.2.2.2.2.2.2.2.2.2.2.2.1,o2.2.2.2.2.2.2.2.2.2.2.2.2.2.2.2.2.2.2.2.2.2.2.2.2)))))))))))))
 else
  (mdoemad fuel o1.2.2.2.2.2.2.2.2.2.2.2.2.2.2.2.2.2.2.2.2.2.2.2.2.2.2.1 o1.2.2.2.2.2.2.2.2.2.2.2.2.2.2.2.2.2.2.2.2.2.2.2.2.2.2.2.1 o1.2.2.2.2.2.2.2.2.2.2.2.2.2.2.2.2.2.2.2.2.2.2.2.2.2.2.2.2.1 o1.2.2.2.2.2.2.2.2.2.2.2.2.2.2.2.2.2.2.2.2.2.2.2.2.2.2.2.2.2.1 o1.2.2.2.2.2.2.2.2.2.2.2.2.2.2.2.2.2.2.2.2.2.2.2.2.2.2.2.2.2.2.1 o1.2.2.2.2.2.2.2.2.2.2.2.2.2.2.2.2.2.2.2.2.2.2.2.2.2.2.2.2.2.2.2.1 o1.2.2.2.2.2.2.2.2.2.2.2.2.2.2.2.2.2.2.2.2.2.2.2.2.2.2.2.2.2.2.2.2.1 o1.2.2.2.2.2.2.2.2.2.2.2.2.2.2.2.2.2.2.2.2.2.2.2.2.2.2.2.2.2.2.2.2.2.1 o1.2.2.2.2.2.2.2.2.2.2.2.2.2.2.2.2.2.2.2.2.2.2.2.2.2.2.2.2.2.2.2.2.2.2.1 o1.2.2.2.2.2.2.2.2.2.2.2.2.2.2.2.2.2.2.2.2.2.2.2.2.2.2.2.2.2.2.2.2.2.2.2.1 o1.2.2.2.2.2.2.2.2.2.2.2.2.2.2.2.2.2.2.2.2.2.2.2.2.2.2.2.2.2.2.2.2.2.2.2.2.1 o1.2.2.2.2.2.2.2.2.2.2.2.2.2.2.2.2.2.2.2.2.2.2.2.2.2.2.2.2.2.2.2.2.2.2.2.2.2.1 o1.2.2.2.2.2.2.2.2.2.2.2.2.2.2.2.2.2.2.2.2.2.2.2.2.2.2.2.2.2.2.2.2.2.2.2.2.2.2.1 o1.2.2.2.2.2.2.2.2.2.2.2.2.2.2.2.2.2.2.2.2.2.2.2.2.2.2.2.2.2.2.2.2.2.2.2.2.2.2.2.1 o1.2.2.2.2.2.2.2.2.2.2.2.2.2.2.2.2.2.2.2.2.2.2.2.2.2.2.2.2.2.2.2.2.2.2.2.2.2.2.2.2.1 o1.2.2.2.2.2.2.2.2.2.2.2.2.2.2.2.2.2.2.2.2.2.2.2.2.2.2.2.2.2.2.2.2.2.2.2.2.2.2.2.2.2.1 o1.2.2.2.2.2.2.2.2.2.2.2.2.2.2.2.2.2.2.2.2.2.2.2.2.2.2.2.2.2.2.2.2.2.2.2.2.2.2.2.2.2.2.1 o1.2.2.2.2.2.2.2.2.2.2.2.2.2.2.2.2.2.2.2.2.2.2.2.2.2.2.2.2.2.2.2.2.2.2.2.2.2.2.2.2.2.2.2.1 o1.2.2.2.2.2.2.2.2.2.2.2.2.2.2.2.2.2.2.2.2.2.2.2.2.2.2.2.2.2.2.2.2.2.2.2.2.2.2.2.2.2.2.2.2.1 o1.2.2.2.2.2.2.2.2.2.2.2.2.2.2.2.2.2.2.2.2.2.2.2.2.2.2.2.2.2.2.2.2.2.2.2.2.2.2.2.2.2.2.2.2.2.1 o1.2.2.2.2.2.2.2.2.2.2.2.2.2.2.2.2.2.2.2.2.2.2.2.2.2.2.2.2.2.2.2.2.2.2.2.2.2.2.2.2.2.2.2.2.2.2.1 o1.2.2.2.2.2.2.2.2.2.2.2.2.2.2.2.2.2.2.2.2.2.2.2.2.2.2.2.2.2.2.2.2.2.2.2.2.2.2.2.2.2.2.2.2.2.2.2.1 o1.2.2.2.2.2.2.2.2.2.2.2.2.2.2.2.2.2.2.2.2.2.2.2.2.2.2.2.2.2.2.2.2.2.2.2.2.2.2.2.2.2.2.2.2.2.2.2.2.1 o1.2.2.2.2.2.2.2.2.2.2.2.2.2.2.2.2.2.2.2.2.2.2.2.2.2.2.2.2.2.2.2.2.2.2.2.2.2.2.2.2.2.2.2.2.2.2.2.2.2.1 o1.2.2.2.2.2.2.2.2.2.2.2.2.2.2.2.2.2.2.2.2.2.2.2.2.2.2.2.2.2.2.2.2.2.2.2.2.2.2.2.2.2.2.2.2.2.2.2.2.2.2.1 o1.2.2.2.2.2.2.2.2.2.2.2.2.2.2.2.2.2.2.2.2.2.2.2.2.2.2.2.2.2.2.2.2.2.2.2.2.2.2.2.2.2.2.2.2.2.2.2.2.2.2.2).bind fun r17=>
  some (r17.1,(o1.2.2.2.2.2.2.2.2.2.2.2.2.2.2.2.2.2.2.2.2.2.2.2.2.2.2.2.2.2.2.2.2.2.2.2.2.2.2.2.2.2.1,(o1.2.2.2.2.2.2.2.2.2.2.2.2.2.2.2.2.2.2.2.2.2.2.2.2.2.2.2.2.2.2.2.2.2.2.2.2.2.2.2.2.2.2.1,(o1.2.2.2.2.2.2.2.2.2.2.2.2.2.2.2.2.2.2.2.2.2.2.2.2.2.2.2.2.2.2.2.2.2.2.2.2.2.2.2.2.2.2.2.1,(o1.2.2.2.2.2.2.2.2.2.2.2.2.2.2.2.2.2.2.2.2.2.2.2.2.2.2.2.2.2.2.2.2.2.2.2.2.2.2.2.2.2.2.2.2.1,(o1.2.2.2.2.2.2.2.2.2.2.2.2.2.2.2.2.2.2.2.2.2.2.2.2.2.2.2.2.2.2.2.2.2.2.2.2.2.2.2.2.2.2.2.2.2.1,(o1.2.2.2.2.2.2.2.2.2.2.2.2.2.2.2.2.2.2.2.2.2.2.2.2.2.2.2.2.2.2.2.2.2.2.2.2.2.2.2.2.2.2.2.2.2.2.1,(o1.2.2.2.2.2.2.2.2.2.2.2.2.2.2.2.2.2.2.2.2.2.2.2.2.2.2.2.2.2.2.2.2.2.2.2.2.2.2.2.2.2.2.2.2.2.2.2.1,(o1.2.2.2.2.2.2.2.2.2.2.2.2.2.2.2.2.2.2.2.2.2.2.2.2.2.2.2.2.2.2.2.2.2.2.2.2.2.2.2.2.2.2.2.2.2.2.2.2.1,(o1.2.2.2.2.2.2.2.2.2.2.2.2.2.2.2.2.2.2.2.2.2.2.2.2.2.2.2.2.2.2.2.2.2.2.2.2.2.2.2.2.2.2.2.2.2.2.2.2.2.1,(o1.2.2.2.2.2.2.2.2.2.2.2.2.2.2.2.2.2.2.2.2.2.2.2.2.2.2.2.2.2.2.2.2.2.2.2.2.2.2.2.2.2.2.2.2.2.2.2.2.2.2.1,(o1.2.2.2.2.2.2.2.2.2.2.2.2.2.2.2.2.2.2.2.2.2.2.2.2.2.2.2.2.2.2.2.2.2.2.2.2.2.2.2.2.2.2.2.2.2.2.2.2.2.2.2,(r17.2.2.2.2.2.2.2.2.2.2.2.2.2.2.2.2.2.2.2.2.2.2.2.2.2.2.2.1,r17.2.2.2.2.2.2.2.2.2.2.2.2.2.2.2.2.2.2.2.2.2.2.2.2.2.2.2.2)))))))))))))
theorem bsZ{m:Mod}(h:ModelOK m)(c:CallT){q:DoR}(s:Sane q){by_:Byt}{en:List Ent}(n1:q.2.2.2.2.2.1=by_)(n2:q.2.2.2.2.2.2.1=en):doTail (mkO q by_ en m c)=some (doT (finF m q) c):=by
 have hl:=h.len;unfold finF doTail;by_cases h0:q.1=0
 ·rw[ZAQ h0];simp only[mkO,h0,ZAT,ZAK,ZAC];rw[r8Z (hf:=s.t.r.fit) (hl:=s.t.r.len.2) (hd:=s.b),ZAA];simp only[doT,n1,n2]
 ·rw[ZAL h0];simp only[mkO,ZAS.2 h0,ZAc,ZAF];rw[show((m.1.1,m.1.2):Tree)=m.1 from rfl,dyZ h.fit,ZAA,rGZ _ _ _ _ _ _ _ _ _ _ _ _ _ _ _ _ _ _ _ _ _ _ _ _ _ m.2 rfl (dlen h) (fun i z hz=>h.byt hz),ZAA]
  rfl
theorem do_1{m:Mod}(h:ModelOK m)(c:CallT)(hr:rightCall c=true)(hk:c.2.2.1=UInt8.ofNat 1):model_Do fuel m c=some (doT (resF m c) c):=by
 obtain⟨ho,hn,hbs⟩:=aJZ hr;have s:=aZZ h c hn hbs;have hA:actF m c=lookA m c:=by unfold actF;rw[hk];rfl
 have e1:(c.2.2.1==UInt8.ofNat 1)=true:=by rw[hk];rfl
 rw[bBZ hr,hA];rw[hA] at s;unfold model_Do;rw[abZ (by decide),abZ (by decide),abZ (by decide),abZ (by decide),abZ (by decide),abZ (by decide),abZ (by decide),abZ (by decide),abZ (by decide),abZ (by decide),abZ (by decide)];rw[show(((m.1.1,m.1.2),m.2):Mod)=m from rfl,ayZ h,ZAA,ZAF,aPZ,ZAA,show((c.1,(c.2.1,(c.2.2.1,((c.2.2.2.1.1,c.2.2.2.1.2),(c.2.2.2.2.1,((c.2.2.2.2.2.1.1,c.2.2.2.2.2.1.2),(c.2.2.2.2.2.2.1,(c.2.2.2.2.2.2.2.1,(c.2.2.2.2.2.2.2.2.1,c.2.2.2.2.2.2.2.2.2))))))))):CallT)=c from rfl,a0Z,ZAA,hr,ZAF];rw[ZAA,e1,ZAF,pLZ h c,ZAA,ZAA,ZAA];exact bsZ h c s (j9Z m c).1 (j9Z m c).2
theorem do_2{m:Mod}(h:ModelOK m)(c:CallT)(hr:rightCall c=true)(hk:c.2.2.1=UInt8.ofNat 2):model_Do fuel m c=some (doT (resF m c) c):=by
 obtain⟨ho,hn,hbs⟩:=aJZ hr;have s:=aZZ h c hn hbs;have hA:actF m c=makeA m c:=by unfold actF;rw[hk];rfl
 have e1:(c.2.2.1==UInt8.ofNat 1)=false:=by rw[hk];rfl
 have e2:(c.2.2.1==UInt8.ofNat 2)=true:=by rw[hk];rfl
 rw[bBZ hr,hA];rw[hA] at s;unfold model_Do;rw[abZ (by decide),abZ (by decide),abZ (by decide),abZ (by decide),abZ (by decide),abZ (by decide),abZ (by decide),abZ (by decide),abZ (by decide),abZ (by decide),abZ (by decide)];rw[show(((m.1.1,m.1.2),m.2):Mod)=m from rfl,ayZ h,ZAA,ZAF,aPZ,ZAA,show((c.1,(c.2.1,(c.2.2.1,((c.2.2.2.1.1,c.2.2.2.1.2),(c.2.2.2.2.1,((c.2.2.2.2.2.1.1,c.2.2.2.2.2.1.2),(c.2.2.2.2.2.2.1,(c.2.2.2.2.2.2.2.1,(c.2.2.2.2.2.2.2.2.1,c.2.2.2.2.2.2.2.2.2))))))))):CallT)=c from rfl,a0Z,ZAA,hr,ZAF];rw[ZAA,e1,ZAC,e2,ZAF,qtZ h c,ZAA,ZAA,ZAA];exact bsZ h c s (e7Z m c).1 (e7Z m c).2
theorem do_3{m:Mod}(h:ModelOK m)(c:CallT)(hr:rightCall c=true)(hk:c.2.2.1=UInt8.ofNat 3):model_Do fuel m c=some (doT (resF m c) c):=by
 obtain⟨ho,hn,hbs⟩:=aJZ hr;have s:=aZZ h c hn hbs;have hA:actF m c=makeA m c:=by unfold actF;rw[hk];rfl
 have e1:(c.2.2.1==UInt8.ofNat 1)=false:=by rw[hk];rfl
 have e2:(c.2.2.1==UInt8.ofNat 2)=false:=by rw[hk];rfl
 have e3:(c.2.2.1==UInt8.ofNat 3)=true:=by rw[hk];rfl
 rw[bBZ hr,hA];rw[hA] at s;unfold model_Do;rw[abZ (by decide),abZ (by decide),abZ (by decide),abZ (by decide),abZ (by decide),abZ (by decide),abZ (by decide),abZ (by decide),abZ (by decide),abZ (by decide),abZ (by decide)];rw[show(((m.1.1,m.1.2),m.2):Mod)=m from rfl,ayZ h,ZAA,ZAF,aPZ,ZAA,show((c.1,(c.2.1,(c.2.2.1,((c.2.2.2.1.1,c.2.2.2.1.2),(c.2.2.2.2.1,((c.2.2.2.2.2.1.1,c.2.2.2.2.2.1.2),(c.2.2.2.2.2.2.1,(c.2.2.2.2.2.2.2.1,(c.2.2.2.2.2.2.2.2.1,c.2.2.2.2.2.2.2.2.2))))))))):CallT)=c from rfl,a0Z,ZAA,hr,ZAF];rw[ZAA,e1,ZAC,e2,ZAC,e3,ZAF,qtZ h c,ZAA,ZAA,ZAA];exact bsZ h c s (e7Z m c).1 (e7Z m c).2
theorem do_4{m:Mod}(h:ModelOK m)(c:CallT)(hr:rightCall c=true)(hk:c.2.2.1=UInt8.ofNat 4):model_Do fuel m c=some (doT (resF m c) c):=by
 obtain⟨ho,hn,hbs⟩:=aJZ hr;have s:=aZZ h c hn hbs;have hA:actF m c=readA m c:=by unfold actF;rw[hk];rfl
 have e1:(c.2.2.1==UInt8.ofNat 1)=false:=by rw[hk];rfl
 have e2:(c.2.2.1==UInt8.ofNat 2)=false:=by rw[hk];rfl
 have e3:(c.2.2.1==UInt8.ofNat 3)=false:=by rw[hk];rfl
 have e4:(c.2.2.1==UInt8.ofNat 4)=true:=by rw[hk];rfl
 rw[bBZ hr,hA];rw[hA] at s;unfold model_Do;rw[abZ (by decide),abZ (by decide),abZ (by decide),abZ (by decide),abZ (by decide),abZ (by decide),abZ (by decide),abZ (by decide),abZ (by decide),abZ (by decide),abZ (by decide)];rw[show(((m.1.1,m.1.2),m.2):Mod)=m from rfl,ayZ h,ZAA,ZAF,aPZ,ZAA,show((c.1,(c.2.1,(c.2.2.1,((c.2.2.2.1.1,c.2.2.2.1.2),(c.2.2.2.2.1,((c.2.2.2.2.2.1.1,c.2.2.2.2.2.1.2),(c.2.2.2.2.2.2.1,(c.2.2.2.2.2.2.2.1,(c.2.2.2.2.2.2.2.2.1,c.2.2.2.2.2.2.2.2.2))))))))):CallT)=c from rfl,a0Z,ZAA,hr,ZAF];rw[ZAA,e1,ZAC,e2,ZAC,e3,ZAC,e4,ZAF,rCZ h c ho hn,ZAA,ZAA,ZAA];exact bsZ h c s rfl (mTZ m c)
theorem do_5{m:Mod}(h:ModelOK m)(c:CallT)(hr:rightCall c=true)(hk:c.2.2.1=UInt8.ofNat 5):model_Do fuel m c=some (doT (resF m c) c):=by
 obtain⟨ho,hn,hbs⟩:=aJZ hr;have s:=aZZ h c hn hbs;have hA:actF m c=writeA m c:=by unfold actF;rw[hk];rfl
 have e1:(c.2.2.1==UInt8.ofNat 1)=false:=by rw[hk];rfl
 have e2:(c.2.2.1==UInt8.ofNat 2)=false:=by rw[hk];rfl
 have e3:(c.2.2.1==UInt8.ofNat 3)=false:=by rw[hk];rfl
 have e4:(c.2.2.1==UInt8.ofNat 4)=false:=by rw[hk];rfl
 have e5:(c.2.2.1==UInt8.ofNat 5)=true:=by rw[hk];rfl
 rw[bBZ hr,hA];rw[hA] at s;unfold model_Do;rw[abZ (by decide),abZ (by decide),abZ (by decide),abZ (by decide),abZ (by decide),abZ (by decide),abZ (by decide),abZ (by decide),abZ (by decide),abZ (by decide),abZ (by decide)];rw[show(((m.1.1,m.1.2),m.2):Mod)=m from rfl,ayZ h,ZAA,ZAF,aPZ,ZAA,show((c.1,(c.2.1,(c.2.2.1,((c.2.2.2.1.1,c.2.2.2.1.2),(c.2.2.2.2.1,((c.2.2.2.2.2.1.1,c.2.2.2.2.2.1.2),(c.2.2.2.2.2.2.1,(c.2.2.2.2.2.2.2.1,(c.2.2.2.2.2.2.2.2.1,c.2.2.2.2.2.2.2.2.2))))))))):CallT)=c from rfl,a0Z,ZAA,hr,ZAF];rw[ZAA,e1,ZAC,e2,ZAC,e3,ZAC,e4,ZAC,e5,ZAF,r3Z h c ho hbs,ZAA,ZAA,ZAA];exact bsZ h c s (huZ m c).1 (huZ m c).2
theorem do_6{m:Mod}(h:ModelOK m)(c:CallT)(hr:rightCall c=true)(hk:c.2.2.1=UInt8.ofNat 6):model_Do fuel m c=some (doT (resF m c) c):=by
 obtain⟨ho,hn,hbs⟩:=aJZ hr;have s:=aZZ h c hn hbs;have hA:actF m c=sizeA m c:=by unfold actF;rw[hk];rfl
 have e1:(c.2.2.1==UInt8.ofNat 1)=false:=by rw[hk];rfl
 have e2:(c.2.2.1==UInt8.ofNat 2)=false:=by rw[hk];rfl
 have e3:(c.2.2.1==UInt8.ofNat 3)=false:=by rw[hk];rfl
 have e4:(c.2.2.1==UInt8.ofNat 4)=false:=by rw[hk];rfl
 have e5:(c.2.2.1==UInt8.ofNat 5)=false:=by rw[hk];rfl
 have e6:(c.2.2.1==UInt8.ofNat 6)=true:=by rw[hk];rfl
 rw[bBZ hr,hA];rw[hA] at s;unfold model_Do;rw[abZ (by decide),abZ (by decide),abZ (by decide),abZ (by decide),abZ (by decide),abZ (by decide),abZ (by decide),abZ (by decide),abZ (by decide),abZ (by decide),abZ (by decide)];rw[show(((m.1.1,m.1.2),m.2):Mod)=m from rfl,ayZ h,ZAA,ZAF,aPZ,ZAA,show((c.1,(c.2.1,(c.2.2.1,((c.2.2.2.1.1,c.2.2.2.1.2),(c.2.2.2.2.1,((c.2.2.2.2.2.1.1,c.2.2.2.2.2.1.2),(c.2.2.2.2.2.2.1,(c.2.2.2.2.2.2.2.1,(c.2.2.2.2.2.2.2.2.1,c.2.2.2.2.2.2.2.2.2))))))))):CallT)=c from rfl,a0Z,ZAA,hr,ZAF];rw[ZAA,e1,ZAC,e2,ZAC,e3,ZAC,e4,ZAC,e5,ZAC,e6,ZAF,rLZ h c hn.1,ZAA,ZAA,ZAA];exact bsZ h c s (kmZ m c).1 (kmZ m c).2
theorem do_7{m:Mod}(h:ModelOK m)(c:CallT)(hr:rightCall c=true)(hk:c.2.2.1=UInt8.ofNat 7):model_Do fuel m c=some (doT (resF m c) c):=by
 obtain⟨ho,hn,hbs⟩:=aJZ hr;have s:=aZZ h c hn hbs;have hA:actF m c=removeA m c:=by unfold actF;rw[hk];rfl
 have e1:(c.2.2.1==UInt8.ofNat 1)=false:=by rw[hk];rfl
 have e2:(c.2.2.1==UInt8.ofNat 2)=false:=by rw[hk];rfl
 have e3:(c.2.2.1==UInt8.ofNat 3)=false:=by rw[hk];rfl
 have e4:(c.2.2.1==UInt8.ofNat 4)=false:=by rw[hk];rfl
 have e5:(c.2.2.1==UInt8.ofNat 5)=false:=by rw[hk];rfl
 have e6:(c.2.2.1==UInt8.ofNat 6)=false:=by rw[hk];rfl
 have e7:(c.2.2.1==UInt8.ofNat 7)=true:=by rw[hk];rfl
 rw[bBZ hr,hA];rw[hA] at s;unfold model_Do;rw[abZ (by decide),abZ (by decide),abZ (by decide),abZ (by decide),abZ (by decide),abZ (by decide),abZ (by decide),abZ (by decide),abZ (by decide),abZ (by decide),abZ (by decide)];rw[show(((m.1.1,m.1.2),m.2):Mod)=m from rfl,ayZ h,ZAA,ZAF,aPZ,ZAA,show((c.1,(c.2.1,(c.2.2.1,((c.2.2.2.1.1,c.2.2.2.1.2),(c.2.2.2.2.1,((c.2.2.2.2.2.1.1,c.2.2.2.2.2.1.2),(c.2.2.2.2.2.2.1,(c.2.2.2.2.2.2.2.1,(c.2.2.2.2.2.2.2.2.1,c.2.2.2.2.2.2.2.2.2))))))))):CallT)=c from rfl,a0Z,ZAA,hr,ZAF];rw[ZAA,e1,ZAC,e2,ZAC,e3,ZAC,e4,ZAC,e5,ZAC,e6,ZAC,e7,ZAF,kMZ h c,ZAA,ZAA,ZAA];exact bsZ h c s (cxZ m c).1 (cxZ m c).2
theorem do_8{m:Mod}(h:ModelOK m)(c:CallT)(hr:rightCall c=true)(hk:c.2.2.1=UInt8.ofNat 8):model_Do fuel m c=some (doT (resF m c) c):=by
 obtain⟨ho,hn,hbs⟩:=aJZ hr;have s:=aZZ h c hn hbs;have hA:actF m c=removeA m c:=by unfold actF;rw[hk];rfl
 have e1:(c.2.2.1==UInt8.ofNat 1)=false:=by rw[hk];rfl
 have e2:(c.2.2.1==UInt8.ofNat 2)=false:=by rw[hk];rfl
 have e3:(c.2.2.1==UInt8.ofNat 3)=false:=by rw[hk];rfl
 have e4:(c.2.2.1==UInt8.ofNat 4)=false:=by rw[hk];rfl
 have e5:(c.2.2.1==UInt8.ofNat 5)=false:=by rw[hk];rfl
 have e6:(c.2.2.1==UInt8.ofNat 6)=false:=by rw[hk];rfl
 have e7:(c.2.2.1==UInt8.ofNat 7)=false:=by rw[hk];rfl
 have e8:(c.2.2.1==UInt8.ofNat 8)=true:=by rw[hk];rfl
 rw[bBZ hr,hA];rw[hA] at s;unfold model_Do;rw[abZ (by decide),abZ (by decide),abZ (by decide),abZ (by decide),abZ (by decide),abZ (by decide),abZ (by decide),abZ (by decide),abZ (by decide),abZ (by decide),abZ (by decide)];rw[show(((m.1.1,m.1.2),m.2):Mod)=m from rfl,ayZ h,ZAA,ZAF,aPZ,ZAA,show((c.1,(c.2.1,(c.2.2.1,((c.2.2.2.1.1,c.2.2.2.1.2),(c.2.2.2.2.1,((c.2.2.2.2.2.1.1,c.2.2.2.2.2.1.2),(c.2.2.2.2.2.2.1,(c.2.2.2.2.2.2.2.1,(c.2.2.2.2.2.2.2.2.1,c.2.2.2.2.2.2.2.2.2))))))))):CallT)=c from rfl,a0Z,ZAA,hr,ZAF];rw[ZAA,e1,ZAC,e2,ZAC,e3,ZAC,e4,ZAC,e5,ZAC,e6,ZAC,e7,ZAC,e8,ZAF,kMZ h c,ZAA,ZAA,ZAA];exact bsZ h c s (cxZ m c).1 (cxZ m c).2
theorem do_9{m:Mod}(h:ModelOK m)(c:CallT)(hr:rightCall c=true)(hk:c.2.2.1=UInt8.ofNat 9):model_Do fuel m c=some (doT (resF m c) c):=by
 obtain⟨ho,hn,hbs⟩:=aJZ hr;have s:=aZZ h c hn hbs;have hA:actF m c=renameA m c:=by unfold actF;rw[hk];rfl
 have e1:(c.2.2.1==UInt8.ofNat 1)=false:=by rw[hk];rfl
 have e2:(c.2.2.1==UInt8.ofNat 2)=false:=by rw[hk];rfl
 have e3:(c.2.2.1==UInt8.ofNat 3)=false:=by rw[hk];rfl
 have e4:(c.2.2.1==UInt8.ofNat 4)=false:=by rw[hk];rfl
 have e5:(c.2.2.1==UInt8.ofNat 5)=false:=by rw[hk];rfl
 have e6:(c.2.2.1==UInt8.ofNat 6)=false:=by rw[hk];rfl
 have e7:(c.2.2.1==UInt8.ofNat 7)=false:=by rw[hk];rfl
 have e8:(c.2.2.1==UInt8.ofNat 8)=false:=by rw[hk];rfl
 have e9:(c.2.2.1==UInt8.ofNat 9)=true:=by rw[hk];rfl
 rw[bBZ hr,hA];rw[hA] at s;unfold model_Do;rw[abZ (by decide),abZ (by decide),abZ (by decide),abZ (by decide),abZ (by decide),abZ (by decide),abZ (by decide),abZ (by decide),abZ (by decide),abZ (by decide),abZ (by decide)];rw[show(((m.1.1,m.1.2),m.2):Mod)=m from rfl,ayZ h,ZAA,ZAF,aPZ,ZAA,show((c.1,(c.2.1,(c.2.2.1,((c.2.2.2.1.1,c.2.2.2.1.2),(c.2.2.2.2.1,((c.2.2.2.2.2.1.1,c.2.2.2.2.2.1.2),(c.2.2.2.2.2.2.1,(c.2.2.2.2.2.2.2.1,(c.2.2.2.2.2.2.2.2.1,c.2.2.2.2.2.2.2.2.2))))))))):CallT)=c from rfl,a0Z,ZAA,hr,ZAF];rw[ZAA,e1,ZAC,e2,ZAC,e3,ZAC,e4,ZAC,e5,ZAC,e6,ZAC,e7,ZAC,e8,ZAC,e9,ZAF,qdZ h c,ZAA,ZAA,ZAA];exact bsZ h c s (fQZ m c).1 (fQZ m c).2
theorem svZ{m:Mod}(h:ModelOK m)(c:CallT)(hr:rightCall c=true)(hk:c.2.2.1=UInt8.ofNat 10):model_Do fuel m c=some (doT (resF m c) c):=by
 obtain⟨ho,hn,hbs⟩:=aJZ hr;have s:=aZZ h c hn hbs;have hA:actF m c=listA m c:=by unfold actF;rw[hk];rfl
 have e1:(c.2.2.1==UInt8.ofNat 1)=false:=by rw[hk];rfl
 have e2:(c.2.2.1==UInt8.ofNat 2)=false:=by rw[hk];rfl
 have e3:(c.2.2.1==UInt8.ofNat 3)=false:=by rw[hk];rfl
 have e4:(c.2.2.1==UInt8.ofNat 4)=false:=by rw[hk];rfl
 have e5:(c.2.2.1==UInt8.ofNat 5)=false:=by rw[hk];rfl
 have e6:(c.2.2.1==UInt8.ofNat 6)=false:=by rw[hk];rfl
 have e7:(c.2.2.1==UInt8.ofNat 7)=false:=by rw[hk];rfl
 have e8:(c.2.2.1==UInt8.ofNat 8)=false:=by rw[hk];rfl
 have e9:(c.2.2.1==UInt8.ofNat 9)=false:=by rw[hk];rfl
 have e10:(c.2.2.1==UInt8.ofNat 10)=true:=by rw[hk];rfl
 rw[bBZ hr,hA];rw[hA] at s;unfold model_Do;rw[abZ (by decide),abZ (by decide),abZ (by decide),abZ (by decide),abZ (by decide),abZ (by decide),abZ (by decide),abZ (by decide),abZ (by decide),abZ (by decide),abZ (by decide)];rw[show(((m.1.1,m.1.2),m.2):Mod)=m from rfl,ayZ h,ZAA,ZAF,aPZ,ZAA,show((c.1,(c.2.1,(c.2.2.1,((c.2.2.2.1.1,c.2.2.2.1.2),(c.2.2.2.2.1,((c.2.2.2.2.2.1.1,c.2.2.2.2.2.1.2),(c.2.2.2.2.2.2.1,(c.2.2.2.2.2.2.2.1,(c.2.2.2.2.2.2.2.2.1,c.2.2.2.2.2.2.2.2.2))))))))):CallT)=c from rfl,a0Z,ZAA,hr,ZAF];rw[ZAA,e1,ZAC,e2,ZAC,e3,ZAC,e4,ZAC,e5,ZAC,e6,ZAC,e7,ZAC,e8,ZAC,e9,ZAC,e10,ZAF,rKZ h c,ZAA,ZAA,ZAA];exact bsZ h c s rfl rfl
theorem sxZ{m:Mod}(h:ModelOK m)(c:CallT)(hr:rightCall c=true)(hk:c.2.2.1=UInt8.ofNat 11):model_Do fuel m c=some (doT (resF m c) c):=by
 obtain⟨ho,hn,hbs⟩:=aJZ hr;have s:=aZZ h c hn hbs;have hA:actF m c=getA m c:=by unfold actF;rw[hk];rfl
 have e1:(c.2.2.1==UInt8.ofNat 1)=false:=by rw[hk];rfl
 have e2:(c.2.2.1==UInt8.ofNat 2)=false:=by rw[hk];rfl
 have e3:(c.2.2.1==UInt8.ofNat 3)=false:=by rw[hk];rfl
 have e4:(c.2.2.1==UInt8.ofNat 4)=false:=by rw[hk];rfl
 have e5:(c.2.2.1==UInt8.ofNat 5)=false:=by rw[hk];rfl
 have e6:(c.2.2.1==UInt8.ofNat 6)=false:=by rw[hk];rfl
 have e7:(c.2.2.1==UInt8.ofNat 7)=false:=by rw[hk];rfl
 have e8:(c.2.2.1==UInt8.ofNat 8)=false:=by rw[hk];rfl
 have e9:(c.2.2.1==UInt8.ofNat 9)=false:=by rw[hk];rfl
 have e10:(c.2.2.1==UInt8.ofNat 10)=false:=by rw[hk];rfl
 have e11:(c.2.2.1==UInt8.ofNat 11)=true:=by rw[hk];rfl
 rw[bBZ hr,hA];rw[hA] at s;unfold model_Do;rw[abZ (by decide),abZ (by decide),abZ (by decide),abZ (by decide),abZ (by decide),abZ (by decide),abZ (by decide),abZ (by decide),abZ (by decide),abZ (by decide),abZ (by decide)];rw[show(((m.1.1,m.1.2),m.2):Mod)=m from rfl,ayZ h,ZAA,ZAF,aPZ,ZAA,show((c.1,(c.2.1,(c.2.2.1,((c.2.2.2.1.1,c.2.2.2.1.2),(c.2.2.2.2.1,((c.2.2.2.2.2.1.1,c.2.2.2.2.2.1.2),(c.2.2.2.2.2.2.1,(c.2.2.2.2.2.2.2.1,(c.2.2.2.2.2.2.2.2.1,c.2.2.2.2.2.2.2.2.2))))))))):CallT)=c from rfl,a0Z,ZAA,hr,ZAF];rw[ZAA,e1,ZAC,e2,ZAC,e3,ZAC,e4,ZAC,e5,ZAC,e6,ZAC,e7,ZAC,e8,ZAC,e9,ZAC,e10,ZAC,e11,ZAF,syZ h c,ZAA,ZAA,ZAA];exact bsZ h c s (odZ m c).1 (odZ m c).2
theorem s4Z{m:Mod}(h:ModelOK m)(c:CallT)(hr:rightCall c=true)(hk:c.2.2.1=UInt8.ofNat 12):model_Do fuel m c=some (doT (resF m c) c):=by
 obtain⟨ho,hn,hbs⟩:=aJZ hr;have s:=aZZ h c hn hbs;have hA:actF m c=statA m:=by unfold actF;rw[hk];rfl
 have e1:(c.2.2.1==UInt8.ofNat 1)=false:=by rw[hk];rfl
 have e2:(c.2.2.1==UInt8.ofNat 2)=false:=by rw[hk];rfl
 have e3:(c.2.2.1==UInt8.ofNat 3)=false:=by rw[hk];rfl
 have e4:(c.2.2.1==UInt8.ofNat 4)=false:=by rw[hk];rfl
 have e5:(c.2.2.1==UInt8.ofNat 5)=false:=by rw[hk];rfl
 have e6:(c.2.2.1==UInt8.ofNat 6)=false:=by rw[hk];rfl
 have e7:(c.2.2.1==UInt8.ofNat 7)=false:=by rw[hk];rfl
 have e8:(c.2.2.1==UInt8.ofNat 8)=false:=by rw[hk];rfl
 have e9:(c.2.2.1==UInt8.ofNat 9)=false:=by rw[hk];rfl
 have e10:(c.2.2.1==UInt8.ofNat 10)=false:=by rw[hk];rfl
 have e11:(c.2.2.1==UInt8.ofNat 11)=false:=by rw[hk];rfl
 have e12:(c.2.2.1==UInt8.ofNat 12)=true:=by rw[hk];rfl
 rw[bBZ hr,hA];rw[hA] at s;unfold model_Do;rw[abZ (by decide),abZ (by decide),abZ (by decide),abZ (by decide),abZ (by decide),abZ (by decide),abZ (by decide),abZ (by decide),abZ (by decide),abZ (by decide),abZ (by decide)];rw[show(((m.1.1,m.1.2),m.2):Mod)=m from rfl,ayZ h,ZAA,ZAF,aPZ,ZAA,show((c.1,(c.2.1,(c.2.2.1,((c.2.2.2.1.1,c.2.2.2.1.2),(c.2.2.2.2.1,((c.2.2.2.2.2.1.1,c.2.2.2.2.2.1.2),(c.2.2.2.2.2.2.1,(c.2.2.2.2.2.2.2.1,(c.2.2.2.2.2.2.2.2.1,c.2.2.2.2.2.2.2.2.2))))))))):CallT)=c from rfl,a0Z,ZAA,hr,ZAF];rw[ZAA,e1,ZAC,e2,ZAC,e3,ZAC,e4,ZAC,e5,ZAC,e6,ZAC,e7,ZAC,e8,ZAC,e9,ZAC,e10,ZAC,e11,ZAC,e12,ZAF,seZ h c,ZAA,ZAA,ZAA];exact bsZ h c s rfl rfl
theorem rJZ{m:Mod}(h:ModelOK m)(c:CallT):model_Do fuel m c=some (doT (resF m c) c):=by
 cases hr:rightCall c with
 |true=>
  rcases pjZ hr with hk|hk|hk|hk|hk|hk|hk|hk|hk|hk|hk|hk
  ·exact do_1 h c hr hk
  ·exact do_2 h c hr hk
  ·exact do_3 h c hr hk
  ·exact do_4 h c hr hk
  ·exact do_5 h c hr hk
  ·exact do_6 h c hr hk
  ·exact do_7 h c hr hk
  ·exact do_8 h c hr hk
  ·exact do_9 h c hr hk
  ·exact svZ h c hr hk
  ·exact sxZ h c hr hk
  ·exact s4Z h c hr hk
 |false=>
  have e:resF m c=finF m (179,m,rep0):=by unfold resF finF;rw[hr,ZAL (by simp),ZAL (show¬((179:Int)=0) by decide)]
  rw[e];unfold model_Do;rw[abZ (by decide),abZ (by decide),abZ (by decide),abZ (by decide),abZ (by decide),abZ (by decide),abZ (by decide),abZ (by decide),abZ (by decide),abZ (by decide),abZ (by decide)];rw[show(((m.1.1,m.1.2),m.2):Mod)=m from rfl,ayZ h,ZAA,ZAF,aPZ,ZAA,show((c.1,(c.2.1,(c.2.2.1,((c.2.2.2.1.1,c.2.2.2.1.2),(c.2.2.2.2.1,((c.2.2.2.2.2.1.1,c.2.2.2.2.2.1.2),(c.2.2.2.2.2.2.1,(c.2.2.2.2.2.2.2.1,(c.2.2.2.2.2.2.2.2.1,c.2.2.2.2.2.2.2.2.2))))))))):CallT)=c from rfl,a0Z,ZAA,hr,ZAC,ZAA];exact bsZ h c (q:=(179,m,rep0)) (.same h rfl) rfl rfl
end Go.Ab.D
namespace Go.Ab.D
open Go Go.Ab
theorem pvZ(t:Tree):∃b,kit_Great fuel t=some b/\(b=false->t.1.length<=40/\∀n∈t.1,n.2.2.2.2.2.1.length<=120/\n.2.2.2.2.2.2.2.length<=120):=by
 unfold kit_Great;by_cases h0:t.1.length>40
 ·rw[show decide (((t.1.length:Nat):Int)>40)=true from by simp;omega];exact⟨true,rfl,by simp⟩
 rw[show decide (((t.1.length:Nat):Int)>40)=false from by simp;omega,ZAC];have loop:∃o,kit_Great_l1_it fuel t (0,(t.1,t.2))=some o/\((o= .inl ()/\∀n∈t.1,n.2.2.2.2.2.1.length<=120/\n.2.2.2.2.2.2.2.length<=120)\/o= .inr true):=by
  unfold kit_Great_l1_it;refine a5Z (fun m s=>∃(k:Nat),s=((k:Int),(t.1,t.2))/\k+m=t.1.length/\∀(i:Nat) n,i<k->t.1[i]? =some n->n.2.2.2.2.2.1.length<=120/\n.2.2.2.2.2.2.2.length<=120) _ (fun m s hI=> ?_) (fun s hI=> ?_) t.1.length _ (by omega) ⟨0,rfl,by omega,fun i n h=>absurd h (ZB3 _)⟩
  ·obtain⟨k,rfl,hk,g1⟩:=hI;have hlt:k<t.1.length:=by omega
   obtain⟨n,hg⟩:∃n,t.1[k]? =some n:=⟨_,ZAE hlt⟩;unfold kit_Great_l1;simp only[avZ hlt,ZAF];rw[agZ hlt];simp only[ZAA,hg];by_cases h1:n.2.2.2.2.2.1.length>120
   ·rw[show decide (((n.2.2.2.2.2.1.length:Nat):Int)>120)=true from by simp;omega];exact .inr ⟨_,rfl,.inr rfl⟩
   rw[show decide (((n.2.2.2.2.2.1.length:Nat):Int)>120)=false from by simp;omega,ZAC,ZAA];by_cases h2:n.2.2.2.2.2.2.2.length>120
   ·rw[show decide (((n.2.2.2.2.2.2.2.length:Nat):Int)>120)=true from by simp;omega];exact .inr ⟨_,rfl,.inr rfl⟩
   rw[show decide (((n.2.2.2.2.2.2.2.length:Nat):Int)>120)=false from by simp;omega];simp only[ZAC];rw[agZ hlt];simp only[ZAA,hg];have rlZ:∃o,kit_Great_l0_it fuel n (k:Int) (0,(t.1,t.2))=some o/\(o= .inl (t.1,t.2)\/o= .inr (.inr (.inr true))):=by
    unfold kit_Great_l0_it;refine a5Z (fun m s=>∃(j:Nat),s=((j:Int),(t.1,t.2))/\j+m=n.2.2.2.2.2.2.2.length) _ (fun m s hI=> ?_) (fun s hI=> ?_) n.2.2.2.2.2.2.2.length _ (by omega) ⟨0,rfl,by omega⟩
    ·obtain⟨j,rfl,hj⟩:=hI;have hjl:j<n.2.2.2.2.2.2.2.length:=by omega
     obtain⟨e,he⟩:∃e,n.2.2.2.2.2.2.2[j]? =some e:=⟨_,ZAE hjl⟩;unfold kit_Great_l0;simp only[avZ hjl,ZAF];rw[agZ hlt];simp only[ZAA,hg];rw[agZ hjl];simp only[ZAA,he];by_cases h3:e.1.length>3000
     ·rw[show decide (((e.1.length:Nat):Int)>3000)=true from by simp;omega];exact .inr ⟨_,rfl,.inr rfl⟩
     ·rw[show decide (((e.1.length:Nat):Int)>3000)=false from by simp;omega,w64 (by omega)];exact .inl ⟨_,rfl,j+1,by simp,by omega⟩
    ·obtain⟨j,rfl,hj⟩:=hI;have:j=n.2.2.2.2.2.2.2.length:=by omega
     subst this;unfold kit_Great_l0;simp only[amZ (ZAi _),ZAC];exact⟨_,rfl,.inl rfl⟩
   obtain⟨o,ho,hq⟩:=rlZ;rw[ho,ZAA];rcases hq with rfl|rfl
   ·rw[w64 (by omega)];refine .inl ⟨_,rfl,k+1,by simp,by omega,fun i n' hi hg'=> ?_⟩;by_cases hik:i=k
    ·subst hik;rw[hg] at hg';cases hg';omega
    ·exact g1 i n' (by omega) hg'
   ·exact .inr ⟨_,rfl,.inr rfl⟩
  ·obtain⟨k,rfl,hk,g1⟩:=hI;have:k=t.1.length:=by omega
   subst this;unfold kit_Great_l1;simp only[amZ (ZAi _),ZAC];refine⟨_,rfl,.inl ⟨rfl,fun n hn=> ?_⟩⟩;obtain⟨i,hi⟩:=ZAb hn;exact g1 i n (ZAB.1 hi).1 hi
 obtain⟨o,ho,hq⟩:=loop;rw[ho,ZAA];rcases hq with⟨rfl,hq⟩|rfl
 ·exact⟨false,rfl,fun _=>⟨by omega,hq⟩⟩
 ·exact⟨true,rfl,by simp⟩
end Go.Ab.D
namespace Go.Ab.D
theorem hQZ(c:UInt8):byte? ((c.toNat:Nat):Int)=some c:=by
 have:=c.toNat_lt;rw[kDZ (by omega)];simp
theorem o9Z(c:CallT):law21_Huge fuel c (0,(0,(0,((0,0),(false,(0,([],([],(false,0)))))))))=some true\/law21_Huge fuel c (0,(0,(0,((0,0),(false,(0,([],([],(false,0)))))))))=some false:=by
 unfold law21_Huge;have it:∀o:Bool×(Int×(Int×(Int×(Int×(Int×(Bool×(Int×(List UInt8×(List (List UInt8×Int)×(Bool×Int)))))))))),o.2.2.2.2.2.2.2.2.2.1=[]->∀s,law21_Huge_l0_it fuel o (0,s)=some (.inl ()):=by
  intro o ho s;unfold law21_Huge_l0_it;refine hBZ ?_;unfold law21_Huge_l0;rw[ho]
  rfl
 simp only;by_cases h1:((c.2.2.2.2.1.length:Nat):Int)>3000
 ·rw[ZAO h1];exact .inl rfl
 ·by_cases h2:((c.2.2.2.2.2.2.1.length:Nat):Int)>3000
  ·rw[ZAJ h1,ZAO h2];exact .inl rfl
  ·by_cases h3:((c.2.2.2.2.2.2.2.2.2.length:Nat):Int)>5000
   ·rw[ZAJ h1,ZAJ h2,ZAO h3];exact .inl rfl
   ·rw[ZAJ h1,ZAJ h2,ZAJ h3];right;simp only[ZAC,ZAA,show decide (((([]:List UInt8).length:Nat):Int)>5000)=false from rfl,show decide (((([]:List (List UInt8×Int)).length:Nat):Int)>120)=false from rfl];rw[it _ rfl]
    rfl
end Go.Ab.D
set_option maxHeartbeats 4000000
namespace Go.Ab.D
open Go Go.Ab
theorem rcZ{m:Mod}(h:ModelOK m):∃b,law22_Great fuel m=some b:=by
 unfold law22_Great;have hl:=h.len;obtain⟨b,hb,_⟩:=pvZ m.1;rw[show((m.1.1,m.1.2):Tree)=m.1 from rfl,hb,ZAA];cases b with
 |true=>exact⟨true,rfl⟩
 |false=>
  simp only[ZAC,ZAA];by_cases h60:((m.2.length:Nat):Int)>60
  ·rw[ZAO h60];exact⟨true,rfl⟩
  ·rw[ZAJ h60];simp only[ZAC];have loop:∃o,law22_Great_l0_it fuel (false,(m.1.1,(m.1.2,m.2))) (0,(0,(m.1.1,(m.1.2,m.2))))=some o/\True:=by
    unfold law22_Great_l0_it;refine a5Z (fun r s=>∃(k:Nat) (n:Int),s=(n,((k:Int),(m.1.1,(m.1.2,m.2))))/\k+r=m.2.length/\0<=n/\n<=65536*k) _ (fun r s hI=> ?_) (fun s hI=> ?_) m.2.length _ (by have:=h.n;omega) ⟨0,0,rfl,by omega,by omega,by omega⟩
    ·obtain⟨k,n,rfl,hk,h0,h1⟩:=hI;have hlt:k<m.2.length:=by omega
     obtain⟨b,hb⟩:∃b,m.2[k]? =some b:=⟨_,ZAE hlt⟩;have:=h.byt hb;unfold law22_Great_l0;simp only[avZ hlt,ZAF];rw[agZ hlt,ZAA,hb,ZAA,w64 (by omega),w64 (by omega)];exact .inl ⟨_,rfl,k+1,_,rfl,by omega,by omega,by omega⟩
    ·obtain⟨k,n,rfl,hk,h0,h1⟩:=hI;have:k=m.2.length:=by omega
     subst this;unfold law22_Great_l0;simp only[amZ (ZAi _),ZAC];exact⟨_,rfl,trivial⟩
   obtain⟨o,ho,_⟩:=loop;rw[ho,ZAA];exact⟨_,rfl⟩
abbrev RepT:=Int×(Int×(Int×((Int×Int)×(Bool×(Int×(Byt×(List Ent×(Bool×Int))))))))
def M0:Mod:=(([(1,1,true,true,0,[],1,[])],0),[[]])
theorem rnZ:ModelOK M0:=by
 refine⟨r5Z,rfl,fun i x hx=> ?_,fun i x b hx hb=> ?_⟩
 ·cases i with
  |zero=>simp[M0] at hx;subst hx;rfl
  |succ i=>simp[M0] at hx
 ·cases i with
  |zero=>simp[M0] at hx hb;subst hx hb;rfl
  |succ i=>simp[M0] at hx
theorem quZ:model_New fuel=some (M0.1.2,(M0.1.1,M0.2)):=by kernel_rfl
def cA:CallT:=(0,(1,(UInt8.ofNat 2,((1,1),([102],((0,0),([],(0,(0,[])))))))))
def MA:Mod:=(([(1,1,true,true,0,[],1,[([102],2)]),(2,1,true,false,0,[],1,[])],0),[[],[]])
def cB:CallT:=(0,(1,(UInt8.ofNat 5,((2,1),([],((0,0),([],(2,(0,[UInt8.ofNat 97,UInt8.ofNat 98,UInt8.ofNat 99])))))))))
def MB:Mod:=(([(1,1,true,true,0,[],1,[([102],2)]),(2,1,true,false,5,[],1,[])],0),[[],[0,0,97,98,99]])
def cC:CallT:=(0,(1,(UInt8.ofNat 4,((2,1),([],((0,0),([],(0,(9,[])))))))))
def cD:CallT:=(0,(1,(UInt8.ofNat 6,((2,1),([],((0,0),([],(0,(3,[])))))))))
def MD:Mod:=(([(1,1,true,true,0,[],1,[([102],2)]),(2,1,true,false,3,[],1,[])],0),[[],[0,0,97]])
def cE:CallT:=(0,(1,(UInt8.ofNat 6,((2,1),([],((0,0),([],(0,(5,[])))))))))
def ME:Mod:=(([(1,1,true,true,0,[],1,[([102],2)]),(2,1,true,false,5,[],1,[])],0),[[],[0,0,97,0,0]])
def cG:CallT:=(0,(1,(UInt8.ofNat 12,((0,0),([],((0,0),([],(0,(0,[])))))))))
theorem x1:resF M0 cA=(MA,0,((2,1),false,0,[],[],false,0)):=by kernel_rfl
theorem x2:resF MA cB=(MB,0,((2,1),false,5,[],[],false,0)):=by kernel_rfl
theorem x3:resF MB cC=(MB,0,((0,0),false,5,[0,0,97,98,99],[],false,0)):=by kernel_rfl
theorem x4:resF MB cD=(MD,0,((2,1),false,3,[],[],false,0)):=by kernel_rfl
theorem x5:resF MD cE=(ME,0,((2,1),false,5,[],[],false,0)):=by kernel_rfl
theorem x6:resF ME cC=(ME,0,((0,0),false,5,[0,0,97,0,0],[],false,0)):=by kernel_rfl
theorem x7:resF ME cG=(ME,0,((0,0),false,0,[],[],false,498)):=by kernel_rfl
end Go.Ab.D
set_option maxHeartbeats 4000000
set_option maxRecDepth 100000
namespace Go.Ab.D
open Go Go.Ab
theorem mQZ(m:Mod)(c:CallT):(listA m c).2.2.2.2.2.2.1.length<=4096:=by
 show(listF m.1 c.2.2.2.1 c.2.2.2.2.1 c.2.2.2.2.2.2.2.2.1).2.2.length<=4096;unfold listF;by_cases h1:dirE m.1.1 c.2.2.2.1=0
 ·rw[ZAQ h1];by_cases h2:c.2.2.2.2.2.2.2.2.1<0\/c.2.2.2.2.2.2.2.2.1>4096
  ·rw[ZAQ h2];simp
  ·rw[ZAL h2];cases m.1.1[(c.2.2.2.1.1-1).toNat]? with
   |none=>simp
   |some n=>simp only[ZAa];omega
 ·rw[ZAL h1];simp
theorem p8Z(m:Mod)(c:CallT):(actF m c).2.2.2.2.2.2.1.length<=4096:=by
 unfold actF;by_cases h1:c.2.2.1=UInt8.ofNat 1
 ·rw[ZAQ h1];rw[(j9Z m c).2];simp
 rw[ZAL h1];by_cases h2:c.2.2.1=UInt8.ofNat 2
 ·rw[ZAQ h2];rw[(e7Z m c).2];simp
 rw[ZAL h2];by_cases h3:c.2.2.1=UInt8.ofNat 3
 ·rw[ZAQ h3];rw[(e7Z m c).2];simp
 rw[ZAL h3];by_cases h4:c.2.2.1=UInt8.ofNat 4
 ·rw[ZAQ h4];rw[mTZ m c];simp
 rw[ZAL h4];by_cases h5:c.2.2.1=UInt8.ofNat 5
 ·rw[ZAQ h5];rw[(huZ m c).2];simp
 rw[ZAL h5];by_cases h6:c.2.2.1=UInt8.ofNat 6
 ·rw[ZAQ h6];rw[(kmZ m c).2];simp
 rw[ZAL h6];by_cases h7:c.2.2.1=UInt8.ofNat 7
 ·rw[ZAQ h7];rw[(cxZ m c).2];simp
 rw[ZAL h7];by_cases h8:c.2.2.1=UInt8.ofNat 8
 ·rw[ZAQ h8];rw[(cxZ m c).2];simp
 rw[ZAL h8];by_cases h9:c.2.2.1=UInt8.ofNat 9
 ·rw[ZAQ h9];rw[(fQZ m c).2];simp
 rw[ZAL h9];by_cases h10:c.2.2.1=UInt8.ofNat 10
 ·rw[ZAQ h10];exact mQZ m c
 rw[ZAL h10];by_cases h11:c.2.2.1=UInt8.ofNat 11
 ·rw[ZAQ h11];rw[(odZ m c).2];simp
 rw[ZAL h11];by_cases h12:c.2.2.1=UInt8.ofNat 12
 ·rw[ZAQ h12];simp[statA]
 rw[ZAL h12];simp[rep0]
theorem pgZ(m:Mod)(c:CallT):(resF m c).2.2.2.2.2.2.1.length<=4096:=by
 unfold resF;split
 ·split
  ·exact p8Z m c
  ·simp[rep0]
 ·simp[rep0]
def repT(q:Mod×Int×Rep)(c:CallT):RepT:=(c.1,(c.2.1,(q.2.1,((q.2.2.1.1,q.2.2.1.2),(q.2.2.2.1,(q.2.2.2.2.1,(q.2.2.2.2.2.1,(q.2.2.2.2.2.2.1,(q.2.2.2.2.2.2.2.1,q.2.2.2.2.2.2.2.2)))))))))
end Go.Ab.D
set_option maxRecDepth 100000
namespace Go.Ab.D
open Go Go.Ab
abbrev EntT:Type:=List UInt8×Int
abbrev ReplyT:Type:=Int×(Int×(Int×((Int×Int)×(Bool×(Int×(List UInt8×(List EntT×(Bool×Int))))))))
def entOk(e:EntT):Bool:=decide (1<=e.1.length/\e.1.length<=100/\1<=e.2/\e.2<=500)
def noneB(h:Int×Int):Bool:=(h.1==0)&&(h.2==0)
def rightReply(r:ReplyT):Bool:=
 whoseB r.1 r.2.1&&(decide (0<=r.2.2.1/\r.2.2.1<=1000)&&(if r.2.2.1≠0 then
  noneB r.2.2.2.1&&(!r.2.2.2.2.1&&(!r.2.2.2.2.2.2.2.2.1&&((r.2.2.2.2.2.1==0)&&((r.2.2.2.2.2.2.2.2.2==0)&&decide (r.2.2.2.2.2.2.1=[]/\r.2.2.2.2.2.2.2.1=[])))))
 else(noneB r.2.2.2.1||handleB r.2.2.2.1)&&(decide (0<=r.2.2.2.2.2.1/\r.2.2.2.2.2.1<=65536)&&(decide (0<=r.2.2.2.2.2.2.2.2.2/\r.2.2.2.2.2.2.2.2.2<=1099511627776)&&
  (r.2.2.2.2.2.2.2.1.all entOk&&(decide (r.2.2.2.2.2.2.1.length<=4096)&&decide (r.2.2.2.2.2.2.2.1.length<=100)))))))
theorem rxZ{b0:Bool}{x1 x2 x3 h1 h2:Int}{d:Bool}{sz:Int}{bs:List UInt8}{es:List EntT}{mo:Bool}{fr:Int}(hes:es.length<4611686018427387904):
 cRigRep_l0_it fuel (b0,(x1,(x2,(x3,(h1,(h2,(d,(sz,(bs,(es,(mo,fr))))))))))) (0,(x1,(x2,(x3,(h1,(h2,(d,(sz,(bs,(es,(mo,fr)))))))))))=some (if es.all entOk=true then .inl (x1,(x2,(x3,(h1,(h2,(d,(sz,(bs,(es,(mo,fr)))))))))) else .inr false):=by
 unfold cRigRep_l0_it;have:=a5Z (f:=fun tt:Int×(Int×(Int×(Int×(Int×(Int×(Bool×(Int×(List UInt8×(List EntT×(Bool×Int))))))))))=>cRigRep_l0 fuel (b0,(x1,(x2,(x3,(h1,(h2,(d,(sz,(bs,(es,(mo,fr))))))))))) tt.1 tt.2.1 tt.2.2.1 tt.2.2.2.1 tt.2.2.2.2.1 tt.2.2.2.2.2.1 tt.2.2.2.2.2.2.1 tt.2.2.2.2.2.2.2.1 tt.2.2.2.2.2.2.2.2.1 tt.2.2.2.2.2.2.2.2.2.1 tt.2.2.2.2.2.2.2.2.2.2.1 tt.2.2.2.2.2.2.2.2.2.2.2)
  (fun n s=>∃k:Nat,s=((k:Int),(x1,(x2,(x3,(h1,(h2,(d,(sz,(bs,(es,(mo,fr)))))))))))/\k+n=es.length/\(es.take k).all entOk=true)
  (fun o=>o=if es.all entOk=true then .inl (x1,(x2,(x3,(h1,(h2,(d,(sz,(bs,(es,(mo,fr)))))))))) else .inr false)
  (fun n s ⟨k,hs,hk,ha⟩=>by
   subst hs;have hk':k<es.length:=by omega
   show(∃s',cRigRep_l0 fuel _ (k:Int) x1 x2 x3 h1 h2 d sz bs es mo fr=_/\_)\/∃o,cRigRep_l0 fuel _ (k:Int) x1 x2 x3 h1 h2 d sz bs es mo fr=_/\_;unfold cRigRep_l0;simp only;rw[ZAO (show(k:Int)<((es.length:Nat):Int) by omega),agZ hk',w64 (x:=(k:Int)+1) ⟨by omega,by omega⟩];simp only[ZAF,ZAA,ZAE hk'];have htk:(es.take (k+1)).all entOk=((es.take k).all entOk&&entOk es[k]):=by rw[ZAw hk',List.all_append];simp
   have hbad:entOk es[k]=false->es.all entOk=false:=fun h=>by
    rw[List.all_eq_false];exact⟨es[k],ZBH hk',by rw[h];simp⟩
   generalize es[k]=en at htk hbad⊢;obtain⟨nm,id⟩:=en;by_cases g:entOk (nm,id)=true
   ·left;have g':=g;unfold entOk at g';simp only[ZAd] at g';rw[ZAJ (show¬((nm.length:Nat):Int)<1 by omega),ZAJ (show¬((nm.length:Nat):Int)>100 by omega),ZAJ (show¬id<1 by omega),ZAJ (show¬id>500 by omega)];exact⟨_,rfl,k+1,rfl,by omega,by rw[htk,ha,g];rfl⟩
   ·right;have g0:entOk (nm,id)=false:=by simpa using g
    rw[hbad g0];refine⟨_,?_,rfl⟩;have g':=g0;unfold entOk at g';simp only[ZBQ] at g';by_cases q1:((nm.length:Nat):Int)<1
    ·rw[ZAO q1];rfl
    ·by_cases q2:((nm.length:Nat):Int)>100
     ·rw[ZAJ q1,ZAO q2];rfl
     ·by_cases q3:id<1
      ·rw[ZAJ q1,ZAJ q2,ZAO q3];rfl
      ·have q4:id>500:=by omega
       rw[ZAJ q1,ZAJ q2,ZAJ q3,ZAO q4];rfl)
  (fun s ⟨k,hs,hk,ha⟩=>by
   subst hs;have:k=es.length:=by omega
   subst this;rw[ZA8] at ha;rw[ha];refine⟨_,?_,rfl⟩;show cRigRep_l0 fuel _ ((es.length:Nat):Int) x1 x2 x3 h1 h2 d sz bs es mo fr=_;unfold cRigRep_l0;simp only;rw[ZAJ (by omega)]
   rfl)
  es.length (0,(x1,(x2,(x3,(h1,(h2,(d,(sz,(bs,(es,(mo,fr))))))))))) hes ⟨0,rfl,by omega,by simp⟩
 obtain⟨o,e1,e2⟩:=this;rw[e1,e2]
theorem hrZ{r:ReplyT}(hb:r.2.2.2.2.2.2.1.length<1000000000000000000)(he:r.2.2.2.2.2.2.2.1.length<1000000000000000000):cRigRep fuel r=some (rightReply r):=by
 obtain⟨x1,x2,x3,⟨h1,h2⟩,d,sz,bs,es,mo,fr⟩:=r;simp only at hb he;unfold cRigRep rightReply;simp only;rw[k7Z];simp only[ZAA];cases whoseB x1 x2 with
 |false=>rfl
 |true=>
  simp only[ZAK,ZAC,ZAU];by_cases e1:x3<0
  ·rw[ZAO e1,ZAJ (show¬(0<=x3/\x3<=1000) by omega)];rfl
  by_cases e2:x3>1000
  ·rw[ZAJ e1,ZAO e2,ZAJ (show¬(0<=x3/\x3<=1000) by omega)];rfl
  rw[ZAJ e1,ZAJ e2,ZAO (show 0<=x3/\x3<=1000 by omega)];simp only[ZAC,ZAA,ZAU];by_cases e3:x3=0
  ·rw[ZAL (by simpa using e3),ZBY.2 e3];simp only[ZAK,ZAC];have hn:((h1==0)&&(h2==0))=noneB (h1,h2):=rfl;rw[hn];have tail:∀b0:Bool,(bif b0 then some false else(cRigRep_l0_it fuel (b0,(x1,(x2,(x3,(h1,(h2,(d,(sz,(bs,(es,(mo,fr))))))))))) (0,(x1,(x2,(x3,(h1,(h2,(d,(sz,(bs,(es,(mo,fr)))))))))))).bind fun o4=>
    match o4 with
    |.inl s=>
     bif (decide (((s.2.2.2.2.2.2.2.1.length:Nat):Int)<=4096)) then
      some (decide (((s.2.2.2.2.2.2.2.2.1.length:Nat):Int)<=100))
     else
      some false
    |.inr o5=>
     some o5)=some (!b0&&(es.all entOk&&(decide (bs.length<=4096)&&decide (es.length<=100)))):=by
    intro b0;cases b0 with
    |true=>rfl
    |false=>
     simp only[ZAC,ZAc,ZAU];rw[rxZ (by omega)];simp only[ZAA];cases es.all entOk with
     |false=>rfl
     |true=>
      simp only[if_true,ZAU];by_cases q1:bs.length<=4096
      ·rw[ZAO q1,ZAO (show((bs.length:Nat):Int)<=4096 by omega)];by_cases q2:es.length<=100
       ·rw[ZAO q2,ZAO (show((es.length:Nat):Int)<=100 by omega)];rfl
       ·rw[ZAJ q2,ZAJ (show¬((es.length:Nat):Int)<=100 by omega)];rfl
      ·rw[ZAJ q1,ZAJ (show¬((bs.length:Nat):Int)<=4096 by omega)];rfl
   have mid:∀z:Bool,(bif decide (sz<0) then some (true,(x1,(x2,(x3,(h1,(h2,(d,(sz,(bs,(es,(mo,fr))))))))))) else bif decide (sz>65536) then some (true,(x1,(x2,(x3,(h1,(h2,(d,(sz,(bs,(es,(mo,fr))))))))))) else bif decide (fr<0) then some (true,(x1,(x2,(x3,(h1,(h2,(d,(sz,(bs,(es,(mo,fr))))))))))) else some (decide (fr>1099511627776),(x1,(x2,(x3,(h1,(h2,(d,(sz,(bs,(es,(mo,fr))))))))))))=some (!(decide (0<=sz/\sz<=65536)&&decide (0<=fr/\fr<=1099511627776)),(x1,(x2,(x3,(h1,(h2,(d,(sz,(bs,(es,(mo,fr))))))))))):=by
    intro _;by_cases q1:sz<0
    ·rw[ZAO q1,ZAJ (show¬(0<=sz/\sz<=65536) by omega)];rfl
    by_cases q2:sz>65536
    ·rw[ZAJ q1,ZAO q2,ZAJ (show¬(0<=sz/\sz<=65536) by omega)];rfl
    rw[ZAJ q1,ZAJ q2,ZAO (show 0<=sz/\sz<=65536 by omega)];by_cases q3:fr<0
    ·rw[ZAO q3,ZAJ (show¬(0<=fr/\fr<=1099511627776) by omega)];rfl
    by_cases q4:fr>1099511627776
    ·rw[ZAJ q3,ZAO q4,ZAJ (show¬(0<=fr/\fr<=1099511627776) by omega)];rfl
    rw[ZAJ q3,ZAJ q4,ZAO (show 0<=fr/\fr<=1099511627776 by omega)];rfl
   cases hnone:noneB (h1,h2) with
   |true=>
    simp only[ZAK,ZAC,Bool.true_or,ZAU];rw[mid true];simp only[ZAA];refine(tail _).trans ?_;simp only[Bool.not_not,Bool.and_assoc]
   |false=>
    simp only[ZAc,ZAF,ZCE];rw[iNZ];simp only[ZAA];cases handleB (h1,h2) with
    |false=>rfl
    |true=>
     simp only[ZAK,ZAC,ZAU];rw[mid true];simp only[ZAA];refine(tail _).trans ?_;simp only[Bool.not_not,Bool.and_assoc]
  ·rw[ZAQ e3,ZAS.2 e3];simp only[ZAc,ZAF];have hn:((h1==0)&&(h2==0))=noneB (h1,h2):=rfl;rw[hn,w64 ⟨by omega,by omega⟩];have hl:((((bs.length:Nat):Int)+((es.length:Nat):Int))==0)=decide (bs=[]/\es=[]):=by
    by_cases q:bs=[]/\es=[]
    ·obtain⟨rfl,rfl⟩:=q
     rfl
    ·rw[ZAJ q,ZAS];intro hc;apply q;exact⟨ZAR (by omega),ZAR (by omega)⟩
   rw[hl];cases noneB (h1,h2)<;>cases d<;>cases mo<;>cases(sz==0)<;>cases(fr==0)<;>rfl
end Go.Ab.D
set_option maxRecDepth 100000
set_option maxHeartbeats 4000000
namespace Go.Ab.D
open Go Go.Ab
noncomputable def sm {α : Type} (a b : α) : Bool := @decide (a = b) (Classical.propDecidable _)
theorem sm_t{α:Type}{a b:α}(h:a=b):sm a b=true:= @ZAO _ (Classical.propDecidable _) h
theorem sm_f{α:Type}{a b:α}(h:¬a=b):sm a b=false:= @ZAJ _ (Classical.propDecidable _) h
theorem qpZ{α:Type}{a b:α}:sm a b=true↔a=b:= @decide_eq_true_iff _ (Classical.propDecidable _)
theorem ivZ{α:Type}{f:Int->Option (Int⊕(Unit⊕Bool))}{s1 s2:List α}(hl:s1.length=s2.length)(hn:s1.length<1000000000)
 (hs:∀(k:Nat) a b,s1[k]? =some a->s2[k]? =some b->f (k:Int)=some (bif sm a b then .inl ((k+1:Nat):Int) else .inr (.inr false)))
 (he:f (s1.length:Int)=some (.inr (.inl ()))):iter fuel f 0=some (bif sm s1 s2 then .inl () else .inr false):=by
 obtain⟨o,ho,hq⟩:∃o,iter fuel f 0=some o/\o=(bif sm s1 s2 then .inl () else .inr false:Unit⊕Bool):=by
  refine a5Z (fun n s=>∃k:Nat,s=(k:Int)/\k+n=s1.length/\s1.take k=s2.take k) _ (fun n s hI=> ?_) (fun s hI=> ?_) s1.length 0 (by omega) ⟨0,rfl,by omega,rfl⟩
  ·obtain⟨k,rfl,hk,ht⟩:=hI;have h1:k<s1.length:=by omega
   have h2:k<s2.length:=by omega
   have g1:=ZAE h1;have g2:=ZAE h2;rw[hs k _ _ g1 g2];by_cases h:s1[k]=s2[k]
   ·rw[sm_t h];exact .inl ⟨_,rfl,k+1,rfl,by omega,by rw[ZAw h1,ZAw h2,ht,h]⟩
   ·rw[sm_f h];refine .inr ⟨_,rfl,?_⟩;rw[sm_f]
    ·rfl
    intro he;subst he;exact h rfl
  ·obtain⟨k,rfl,hk,ht⟩:=hI;obtain rfl:k=s1.length:=by omega
   refine⟨_,he,?_⟩;rw[ZA8,hl,ZA8] at ht;rw[sm_t ht]
   rfl
 rw[ho,hq]
theorem snZ{α β:Type} [BEq α] [LawfulBEq α] [BEq β] [LawfulBEq β](a b:α×β):((a.1==b.1)&&(a.2==b.2))=sm a b:=by
 obtain⟨x,y⟩:=a;obtain⟨u,v⟩:=b;by_cases h:(x,y)=(u,v)
 ·rw[sm_t h];obtain⟨rfl,rfl⟩:=Prod.mk.inj h;simp
 ·rw[sm_f h];cases hx:x==u with
  |false=>rfl
  |true=>cases hy:y==v with
   |false=>rfl
   |true=>exact absurd (by rw[eq_of_beq hx,eq_of_beq hy]) h
theorem igZ{α:Type} [BEq α] [LawfulBEq α](a b:α):(a==b)=sm a b:=by
 by_cases h:a=b
 ·rw[sm_t h,h];simp
 ·rw[sm_f h];exact ZAS.2 h
theorem rPZ{α:Type}{s1 s2:List α}(h:¬s1.length=s2.length):¬s1=s2:=fun e=>h (by rw[e])
theorem jcZ{α:Type}{s1 s2:List α}{x:Option (Unit⊕Bool)}(hx:s1.length=s2.length->x=some (bif sm s1 s2 then .inl () else .inr false)):
 (bif (!(((s1.length:Nat):Int)==((s2.length:Nat):Int))) then some false else x.bind fun o=>match o with|.inl _=>some true|.inr o1=>some o1)=some (sm s1 s2):=by
 by_cases hl:s1.length=s2.length
 ·rw[hx hl,hl];simp only[ZAT,ZAK,ZAC,ZAA];cases sm s1 s2<;>rfl
 ·have:(((s1.length:Nat):Int)==((s2.length:Nat):Int))=false:=ZAS.2 (by omega);rw[this,sm_f (rPZ hl)]
  rfl
theorem siZ(s1 s2:List Ent)(hn:s1.length<1000000000):sEqu fuel s1 s2=some (sm s1 s2):=by
 refine jcZ fun hl=>ivZ hl hn (fun k a b ha hb=> ?_) ?_
 ·have h1:=(ZAB.1 ha).1;have h2:=(ZAB.1 hb).1;unfold sEqu_l0;rw[avZ h1,ZAF,agZ h1,ZAA,ha,ZAA,agZ h2,ZAA,hb,ZAA,snZ,w64 (by omega)];cases sm a b<;>rfl
 ·unfold sEqu_l0;rw[amZ (ZAi _)]
  rfl
theorem sjZ(s1 s2:List (Int×Int))(hn:s1.length<1000000000):sEqu2 fuel s1 s2=some (sm s1 s2):=by
 refine jcZ fun hl=>ivZ hl hn (fun k a b ha hb=> ?_) ?_
 ·have h1:=(ZAB.1 ha).1;have h2:=(ZAB.1 hb).1;unfold sEqu2_l0;rw[avZ h1,ZAF,agZ h1,ZAA,ha,ZAA,agZ h2,ZAA,hb,ZAA,snZ,w64 (by omega)];cases sm a b<;>rfl
 ·unfold sEqu2_l0;rw[amZ (ZAi _)]
  rfl
theorem rEZ(s1 s2:List Bool)(hn:s1.length<1000000000):sEqu3 fuel s1 s2=some (sm s1 s2):=by
 refine jcZ fun hl=>ivZ hl hn (fun k a b ha hb=> ?_) ?_
 ·have h1:=(ZAB.1 ha).1;have h2:=(ZAB.1 hb).1;unfold sEqu3_l0;rw[avZ h1,ZAF,agZ h1,ZAA,ha,ZAA,agZ h2,ZAA,hb,ZAA,w64 (by omega)];rw[igZ];cases sm a b<;>rfl
 ·unfold sEqu3_l0;rw[amZ (ZAi _)]
  rfl
theorem srZ(s1 s2:List Byt)(hn:s1.length<1000000000):sEquFun2 fuel s1 s2=some (sm s1 s2):=by
 refine jcZ fun hl=>ivZ hl hn (fun k a b ha hb=> ?_) ?_
 ·have h1:=(ZAB.1 ha).1;have h2:=(ZAB.1 hb).1;unfold sEquFun2_l0 bEqu;rw[avZ h1,ZAF,agZ h1,ZAA,ha,ZAA,agZ h2,ZAA,hb,ZAA,ZAA,w64 (by omega),igZ a b];cases sm a b<;>rfl
 ·unfold sEquFun2_l0;rw[amZ (ZAi _)]
  rfl
theorem qRZ(a b:Ino)(h1:a.2.2.2.2.2.1.length<1000000000)(h2:a.2.2.2.2.2.2.2.length<1000000000):lsamIno fuel a b=some (sm a b):=by
 obtain⟨a1,a2,a3,a4,a5,a6,a7,a8⟩:=a;obtain⟨b1,b2,b3,b4,b5,b6,b7,b8⟩:=b;unfold lsamIno;simp only at h1 h2⊢;rw[sjZ _ _ h1,siZ _ _ h2];simp only[ZAA,igZ];by_cases e:a1=b1
 rotate_left
 ·simp only[sm_f e,sm_t,ZAF,ZAC,ZAx,ZAv];rw[sm_f (fun h=>e (by cases h;rfl))]
 subst e;simp only[sm_t,ZAF,ZAU];by_cases e:a2=b2
 rotate_left
 ·simp only[sm_f e,sm_t,ZAF,ZAC,ZAx,ZAv];rw[sm_f (fun h=>e (by cases h;rfl))]
 subst e;simp only[sm_t,ZAF,ZAU];by_cases e:a3=b3
 rotate_left
 ·simp only[sm_f e,sm_t,ZAF,ZAC,ZAx,ZAv];rw[sm_f (fun h=>e (by cases h;rfl))]
 subst e;simp only[sm_t,ZAF,ZAU];by_cases e:a4=b4
 rotate_left
 ·simp only[sm_f e,sm_t,ZAF,ZAC,ZAx,ZAv];rw[sm_f (fun h=>e (by cases h;rfl))]
 subst e;simp only[sm_t,ZAF,ZAU];by_cases e:a5=b5
 rotate_left
 ·simp only[sm_f e,sm_t,ZAF,ZAC,ZAx,ZAv];rw[sm_f (fun h=>e (by cases h;rfl))]
 subst e;simp only[sm_t,ZAF,ZAU];by_cases e:a7=b7
 rotate_left
 ·simp only[sm_f e,sm_t,ZAF,ZAC,ZAx,ZAv];rw[sm_f (fun h=>e (by cases h;rfl))]
 subst e;simp only[sm_t,ZAF,ZAU];by_cases e:a6=b6
 rotate_left
 ·simp only[sm_f e,sm_t,ZAF,ZAC,ZAx,ZAv];rw[sm_f (fun h=>e (by cases h;rfl))]
 subst e;simp only[sm_t,ZAF,ZAU];by_cases e:a8=b8
 rotate_left
 ·simp only[sm_f e,sm_t,ZAF,ZAC,ZAx,ZAv];rw[sm_f (fun h=>e (by cases h;rfl))]
 subst e;simp only[sm_t,ZAF,Bool.and_self,ZAU]
theorem slZ(s1 s2:List Ino)(hn:s1.length<1000000000)(hp:∀(i:Nat) a,s1[i]? =some a->a.2.2.2.2.2.1.length<1000000000/\a.2.2.2.2.2.2.2.length<1000000000):
 sEquFun fuel s1 s2=some (sm s1 s2):=by
 refine jcZ fun hl=>ivZ hl hn (fun k a b ha hb=> ?_) ?_
 ·have h1:=(ZAB.1 ha).1;have h2:=(ZAB.1 hb).1;obtain⟨p1,p2⟩:=hp k a ha;unfold sEquFun_l0;rw[avZ h1,ZAF,agZ h1,ZAA,ha,ZAA,agZ h2,ZAA,hb,ZAA,w64 (by omega),qRZ a b p1 p2,ZAA];cases sm a b<;>rfl
 ·unfold sEquFun_l0;rw[amZ (ZAi _)]
  rfl
abbrev StT:=List Bool×Mod
theorem stEq(a b:StT)(hb:a.1.length<1000000000)(h:ModelOK a.2)(hd:a.2.2.length<1000000000):lequ fuel a b=some (sm a b):=by
 obtain⟨a1,⟨a2,a3⟩,a4⟩:=a;obtain⟨b1,⟨b2,b3⟩,b4⟩:=b;unfold lequ;simp only at hb hd⊢;rw[rEZ _ _ hb,srZ _ _ hd,slZ a2 b2 (by have:=h.n;simp only at this;omega) (fun i x hx=>by
  refine⟨?_,?_⟩
  ·rw[h.p i x hx];exact Nat.zero_lt_succ _
  ·have:=(b0Z (h.t.r.ino i x hx)).1;omega)]
 simp only[ZAA,igZ];by_cases e:a1=b1
 rotate_left
 ·simp only[sm_f e,sm_t,ZAF,ZAC,ZAx,ZAv];rw[sm_f (fun h=>e (by cases h;rfl))]
 subst e;simp only[sm_t,ZAF,ZAU];by_cases e:a3=b3
 rotate_left
 ·simp only[sm_f e,sm_t,ZAF,ZAC,ZAx,ZAv];rw[sm_f (fun h=>e (by cases h;rfl))]
 subst e;simp only[sm_t,ZAF,ZAU];by_cases e:a2=b2
 rotate_left
 ·simp only[sm_f e,sm_t,ZAF,ZAC,ZAx,ZAv];rw[sm_f (fun h=>e (by cases h;rfl))]
 subst e;simp only[sm_t,ZAF,ZAU];by_cases e:a4=b4
 rotate_left
 ·simp only[sm_f e,sm_t,ZAF,ZAC,ZAx,ZAv];rw[sm_f (fun h=>e (by cases h;rfl))]
 subst e;simp only[sm_t,ZAF,Bool.and_self,ZAU]
theorem rqZ(a b:RepT)(h:a.2.2.2.2.2.2.2.1.length<1000000000):lsam fuel a b=some (sm a b):=by
 obtain⟨a1,a2,a3,⟨a4,a5⟩,a6,a7,a8,a9,a10,a11⟩:=a;obtain⟨b1,b2,b3,⟨b4,b5⟩,b6,b7,b8,b9,b10,b11⟩:=b;unfold lsam bEqu;simp only at h⊢;rw[siZ _ _ h];simp only[ZAA,igZ];by_cases e:a1=b1
 rotate_left
 ·simp only[sm_f e,sm_t,ZAF,ZAC,ZAx,ZAv];rw[sm_f (fun h=>e (by cases h;rfl))]
 subst e;simp only[sm_t,ZAF,ZAU];by_cases e:a2=b2
 rotate_left
 ·simp only[sm_f e,sm_t,ZAF,ZAC,ZAx,ZAv];rw[sm_f (fun h=>e (by cases h;rfl))]
 subst e;simp only[sm_t,ZAF,ZAU];by_cases e:a3=b3
 rotate_left
 ·simp only[sm_f e,sm_t,ZAF,ZAC,ZAx,ZAv];rw[sm_f (fun h=>e (by cases h;rfl))]
 subst e;simp only[sm_t,ZAF,ZAU];by_cases e:a4=b4
 rotate_left
 ·simp only[sm_f e,sm_t,ZAF,ZAC,ZAx,ZAv];rw[sm_f (fun h=>e (by cases h;rfl))]
 subst e;simp only[sm_t,ZAF,ZAU];by_cases e:a5=b5
 rotate_left
 ·simp only[sm_f e,sm_t,ZAF,ZAC,ZAx,ZAv];rw[sm_f (fun h=>e (by cases h;rfl))]
 subst e;simp only[sm_t,ZAF,ZAU];by_cases e:a6=b6
 rotate_left
 ·simp only[sm_f e,sm_t,ZAF,ZAC,ZAx,ZAv];rw[sm_f (fun h=>e (by cases h;rfl))]
 subst e;simp only[sm_t,ZAF,ZAU];by_cases e:a7=b7
 rotate_left
 ·simp only[sm_f e,sm_t,ZAF,ZAC,ZAx,ZAv];rw[sm_f (fun h=>e (by cases h;rfl))]
 subst e;simp only[sm_t,ZAF,ZAU];by_cases e:a8=b8
 rotate_left
 ·simp only[sm_f e,sm_t,ZAF,ZAC,ZAx,ZAv];rw[sm_f (fun h=>e (by cases h;rfl))]
 subst e;simp only[sm_t,ZAF,ZAU];by_cases e:a9=b9
 rotate_left
 ·simp only[sm_f e,sm_t,ZAF,ZAC,ZAx,ZAv];rw[sm_f (fun h=>e (by cases h;rfl))]
 subst e;simp only[sm_t,ZAF,ZAU];by_cases e:a10=b10
 rotate_left
 ·simp only[sm_f e,sm_t,ZAF,ZAC,ZAx,ZAv];rw[sm_f (fun h=>e (by cases h;rfl))]
 subst e;simp only[sm_t,ZAF,ZAU];by_cases e:a11=b11
 rotate_left
 ·simp only[sm_f e,sm_t,ZAF,ZAC,ZAx,ZAv];rw[sm_f (fun h=>e (by cases h;rfl))]
 subst e;simp only[sm_t,ZAF,Bool.and_self,ZAU]
end Go.Ab.D
set_option maxRecDepth 100000
set_option maxHeartbeats 4000000
namespace Go.Ab.D
open Go Go.Ab
theorem nfZ{τ ο:Type}{f:τ->Option (τ⊕ο)}{o e:ο}(S:Nat->τ)(t:Nat->Bool)(n:Nat)(hn:n<1000000000)(hs:∀k,k<n->f (S k)=some (bif t k then .inr o else .inl (S (k+1))))(he:f (S n)=some (.inr e)):
 iter fuel f (S 0)=some (bif (List.range n).any t then o else e):=by
 obtain⟨q,hq,h⟩:∃q,iter fuel f (S 0)=some q/\q=bif (List.range n).any t then o else e:=by
  refine a5Z (fun m s=>∃k:Nat,s=S k/\k+m=n/\(List.range k).any t=false) _ (fun m s hI=> ?_) (fun s hI=> ?_) n (S 0) (by omega) ⟨0,rfl,by omega,rfl⟩
  ·obtain⟨k,rfl,hk,ha⟩:=hI;rw[hs k (by omega)];cases ht:t k with
   |true=>
    refine .inr ⟨_,rfl,?_⟩;have:(List.range n).any t=true:=ZBc.2 ⟨k,ZBE.2 (by omega),ht⟩;rw[this];rfl
   |false=>exact .inl ⟨_,rfl,k+1,rfl,by omega,by rw[ZCH,List.any_append,ha];simp[ht]⟩
  ·obtain⟨k,rfl,hk,ha⟩:=hI;obtain rfl:k=n:=by omega
   exact⟨_,he,by rw[ha];rfl⟩
 rw[hq,h]
theorem kWZ{τ ο α:Type}{f:τ->Option (τ⊕ο)}(S:Nat->α->τ)(E:α->ο)(g:Nat->α->α)(P:Nat->α->Prop)(n:Nat)(hn:n<1000000000)(hs:∀k a,k<n->P k a->f (S k a)=some (.inl (S (k+1) (g k a)))/\P (k+1) (g k a))(he:∀a,P n a->f (S n a)=some (.inr (E a)))(a:α)(ha:P 0 a):
 iter fuel f (S 0 a)=some (E ((List.range n).foldl (fun a k=>g k a) a))/\P n ((List.range n).foldl (fun a k=>g k a) a):=by
 obtain⟨q,hq,h⟩:∃q,iter fuel f (S 0 a)=some q/\q=E ((List.range n).foldl (fun a k=>g k a) a)/\P n ((List.range n).foldl (fun a k=>g k a) a):=by
  refine a5Z (fun m s=>∃k:Nat,s=S k ((List.range k).foldl (fun a k=>g k a) a)/\k+m=n/\P k ((List.range k).foldl (fun a k=>g k a) a)) _ (fun m s hI=> ?_) (fun s hI=> ?_) n (S 0 a) (by omega) ⟨0,rfl,by omega,ha⟩
  ·obtain⟨k,rfl,hk,hp⟩:=hI;obtain⟨h1,h2⟩:=hs k _ (by omega) hp;rw[h1];refine .inl ⟨_,rfl,k+1,?_,by omega,?_⟩
   ·rw[ZCH,List.foldl_append];rfl
   ·rw[ZCH,List.foldl_append];exact h2
  ·obtain⟨k,rfl,hk,hp⟩:=hI;obtain rfl:k=n:=by omega
   exact⟨_,he _ hp,rfl,hp⟩
 rw[hq,h.1];exact⟨rfl,h.2⟩
abbrev PastT:=CallT×(RepT×(Int×Int))
def failB(p:PastT):Bool:=decide (p.2.2.2>0)&&(p.2.1.2.2.1==151)
def waitB(p:PastT):Bool:=decide (p.2.2.2>0)&& !(p.2.1.2.2.1==151)
theorem jlZ(p:PastT):lfai fuel p=some (failB p):=by
 unfold lfai failB;cases decide (p.2.2.2>0)<;>rfl
theorem kOZ(p:PastT):lwai fuel p=some (waitB p):=by
 unfold lwai waitB;rw[hQZ,ZAA,show((p.1.1,(p.1.2.1,(p.1.2.2.1,p.1.2.2.2))),p.2)=p from rfl,jlZ];unfold failB;cases decide (p.2.2.2>0)<;>rfl
def lateB(l:List PastT)(pl:List Bool)(b:Int)(k:Nat):Bool:=match l[k]? with
 |some q=> !(pl.getD k true)&&(waitB q&&decide (q.2.2.2<b))
 |none=>false
def mayB(l:List PastT)(pl:List Bool)(i:Nat):Bool:=match l[i]? with
 |some p=> !(pl.getD i true)&&(!failB p&& !((List.range l.length).any (lateB l pl p.2.2.1)))
 |none=>false
def dueB(l:List PastT)(pl:List Bool)(k:Nat):Bool:=match l[k]? with
 |some q=>waitB q&& !(pl.getD k true)
 |none=>false
def wholeB(l:List PastT)(pl:List Bool):Bool:= !((List.range l.length).any (dueB l pl))
section
variable {l : List PastT} {pl : List Bool}
theorem q7Z(hp:pl.length=l.length){i k:Nat}{p:PastT}(hi:l[i]? =some p)(hk:k<l.length):lmay1 fuel (k:Int) pl l (i:Int)=some (lateB l pl p.2.2.1 k,(pl,(l,(i:Int)))):=by
 have hi':=(ZAB.1 hi).1;have hkp:k<pl.length:=by omega
 have g1:=ZAE hkp;have g2:=ZAE hk;unfold lmay1 lateB;rw[agZ hkp,ZAA,g1,ZAA,agZ hk,ZBj,g1,g2];simp only[ZAA,ZCF];cases pl[k] with
 |true=>rfl
 |false=>
  simp only[ZAc,ZAF,ZAU];rw[g2,ZAA,kOZ,ZAA];cases waitB l[k] with
  |false=>rfl
  |true=>
   simp only[ZAF,ZAA,ZAU];rw[agZ hi',ZAA,hi,ZAA]
theorem soZ(hl:l.length<=200)(hp:pl.length=l.length){i:Nat}(hi:i<l.length):lmay fuel l pl (i:Int)=some (mayB l pl i):=by
 have hip:i<pl.length:=by omega
 have g1:=ZAE hip;have g2:=ZAE hi;unfold lmay mayB;rw[agZ hip,ZAA,g1,ZAA,ZBj,g1,g2];simp only[ZCF];cases pl[i] with
 |true=>rfl
 |false=>
  simp only[ZAC,ZAc,ZAU];rw[agZ hi,ZAA,g2,ZAA,jlZ,ZAA,ZAA];cases hf:failB l[i] with
  |true=>rfl
  |false=>
   simp only[ZAC,ZAc,ZAU];have loop:lmay_l0_it fuel (false,(l,(pl,(i:Int)))) (0,(pl,(l,(i:Int))))=some (bif (List.range l.length).any (lateB l pl (l[i]).2.2.1) then .inr false else .inl ()):=by
    unfold lmay_l0_it;refine nfZ (fun k=>((k:Int),(pl,(l,(i:Int))))) _ l.length (by omega) (fun k hk=> ?_) ?_
    ·dsimp only;unfold lmay_l0;simp only[avZ hk,ZAF];rw[q7Z hp g2 hk,ZAA,w64 (by omega)];cases lateB l pl (l[i]).2.2.1 k<;>rfl
    ·dsimp only;unfold lmay_l0;simp only[amZ (ZAi _),ZAC]
   rw[loop,ZAA];cases(List.range l.length).any (lateB l pl (l[i]).2.2.1)<;>rfl
theorem lvZ(hl:l.length<=200){m:Mod}(hp:pl.length=l.length):lstawho fuel (pl,m) l=some (wholeB l pl):=by
 have loop:lstawho_l0_it fuel l (0,(pl,(m.1.1,(m.1.2,m.2))))=some (bif (List.range l.length).any (dueB l pl) then .inr false else .inl ()):=by
  unfold lstawho_l0_it;refine nfZ (fun k=>((k:Int),(pl,(m.1.1,(m.1.2,m.2))))) _ l.length (by omega) (fun k hk=> ?_) ?_
  ·dsimp only;have hkp:k<pl.length:=by omega
   have g1:=ZAE hkp;have g2:=ZAE hk;unfold lstawho_l0 dueB;simp only[avZ hk,ZAF];rw[agZ hk,ZAA,g2,ZAA,hQZ,ZAA,show(((l[k]).1.1,((l[k]).1.2.1,((l[k]).1.2.2.1,(l[k]).1.2.2.2))),(l[k]).2)=l[k] from rfl,kOZ,ZAA,ZBj,g1];simp only[ZCF];cases waitB l[k] with
   |false=>simp only[ZAC,ZAA,ZAx];rw[w64 (by omega)];rfl
   |true=>
    simp only[ZAF,ZAU];rw[agZ hkp,ZAA,g1,ZAA,ZAA,w64 (by omega)];cases pl[k]<;>rfl
  ·dsimp only;unfold lstawho_l0;simp only[amZ (ZAi _),ZAC]
 unfold lstawho wholeB;simp only;rw[loop,ZAA];cases(List.range l.length).any (dueB l pl)<;>rfl
end
noncomputable def nextF (l : List PastT) (s : StT) (i : Nat) : Option StT := match l[i]? with
 |some p=>bif mayB l s.1 i&&(!decide (p.2.2.2>0)||sm (repT (resF s.2 p.1) p.1) p.2.1) then some (s.1.set i true,(resF s.2 p.1).1) else none
 |none=>none
def outN(s:StT):Option StT->List Bool×(List Ino×(Int×(List Byt×Bool)))
 |some t=>(t.1,(t.2.1.1,(t.2.1.2,(t.2.2,true))))
 |none=>(s.1,(s.2.1.1,(s.2.1.2,(s.2.2,false))))
theorem spZ(l:List Bool)(h:l.length<=1000000):sClo6 fuel l=some l:=by
 unfold sClo6;have hr:need ((Nat.ble ((0+l.length)*1) room)&&(Nat.ble (0+l.length) room)) (some l)=some l:=abZ (by simp only[ZAD,ZAp,aKZ];omega);rw[cyZ (fun h0=>by rw[ZAF,ZAC,hr,ZAR h0]),ZAC,hr]
theorem n7Z{l:List PastT}{s:StT}(hm:ModelOK s.2)(hl:l.length<=200)(hp:s.1.length=l.length){i:Nat}(hi:i<l.length):lstanex fuel s l (i:Int)=some (outN s (nextF l s i)):=by
 have g2:=ZAE hi;unfold lstanex nextF;rw[soZ hl hp hi,ZAA,g2];simp only;cases mayB l s.1 i with
 |false=>rfl
 |true=>
  simp only[ZAK,ZAC,ZAU];rw[agZ hi,ZAA,g2,ZAA,rJZ hm,ZAA,ZAA,g2,ZAA,ZAA,g2,ZAA];have tail:∀q:Bool,((some (q,(s.1,(s.2.1.1,(s.2.1.2,(s.2.2,((0:Int),((doT (resF s.2 (l[i]).1) (l[i]).1).1,(doT (resF s.2 (l[i]).1) (l[i]).1).2.2.2.2.2.2.2.2.2.2.2.2))))))):Option (Bool×(List Bool×(List Ino×(Int×(List Byt×(Int×(Int×(List Ino×List Byt))))))))).bind fun o=>
   bif o.1 then
    some (o.2.1,(o.2.2.1,(o.2.2.2.1,(o.2.2.2.2.1,false))))
   else
    (sClo6 fuel o.2.1).bind fun r6=>
    (idx? (i:Int) r6.length).bind fun q3=>
    (r6)[q3]?.bind fun _=>
    some ((List.set r6 q3 true),(o.2.2.2.2.2.2.2.1,(o.2.2.2.2.2.2.1,(o.2.2.2.2.2.2.2.2,true)))))=some (outN s (bif !q then some (s.1.set i true,(resF s.2 (l[i]).1).1) else none)):=by
   intro q;cases q with
   |true=>rfl
   |false=>
    have hip:i<s.1.length:=by omega
    rw[ZAA];simp only[ZAC,ZAc,ZAF];rw[spZ _ (by omega),ZAA,agZ hip,ZAA,ZAE hip]
    rfl
  cases he:decide ((l[i]).2.2.2>0) with
  |false=>
   simp only[ZAC,ZAc,Bool.true_or,ZAF];exact tail false
  |true=>
   simp only[ZAF,ZAK,ZCE];have hs:lsam fuel (repT (resF s.2 (l[i]).1) (l[i]).1) (l[i]).2.1=_:=rqZ _ _ (by have:=pgZ s.2 (l[i]).1;show(resF s.2 (l[i]).1).2.2.2.2.2.2.1.length<_;omega);unfold repT at hs;refine(congrArg (fun z:Option Bool=>Option.bind (Option.bind z _) _) hs).trans ?_;have:=tail (!sm (repT (resF s.2 (l[i]).1) (l[i]).1) (l[i]).2.1);rw[Bool.not_not] at this;exact this
end Go.Ab.D
set_option maxRecDepth 100000
set_option maxHeartbeats 4000000
namespace Go.Ab.D
open Go Go.Ab
def Good(l:List PastT)(s:StT):Prop:=ModelOK s.2/\s.1.length=l.length
def s0(l:List PastT):StT:=(List.replicate l.length false,M0)
theorem raZ(l:List PastT):Good l (s0 l):=⟨rnZ,by simp[s0]⟩
theorem doZ{l:List PastT}{s t:StT}{i:Nat}(h:nextF l s i=some t):∃p,l[i]? =some p/\mayB l s.1 i=true/\(p.2.2.2>0->repT (resF s.2 p.1) p.1=p.2.1)/\t=(s.1.set i true,(resF s.2 p.1).1):=by
 unfold nextF at h;cases hp:l[i]? with
 |none=>rw[hp] at h;cases h
 |some p=>
  rw[hp] at h;simp only at h;cases hq:(mayB l s.1 i&&(!decide (p.2.2.2>0)||sm (repT (resF s.2 p.1) p.1) p.2.1)) with
  |false=>rw[hq] at h;cases h
  |true=>
   rw[hq] at h;rw[ZAD,ZAo] at hq;refine⟨p,rfl,hq.1,fun he=> ?_,(ZAk h).symm⟩;rcases hq.2 with h1|h1
   ·rw[ZAO he] at h1;cases h1
   ·exact qpZ.1 h1
theorem pDZ{l:List PastT}{s:StT}{i:Nat}{p:PastT}(hp:l[i]? =some p)(hm:mayB l s.1 i=true)(hr:p.2.2.2>0->repT (resF s.2 p.1) p.1=p.2.1):nextF l s i=some (s.1.set i true,(resF s.2 p.1).1):=by
 unfold nextF;rw[hp];simp only;have:(!decide (p.2.2.2>0)||sm (repT (resF s.2 p.1) p.1) p.2.1)=true:=by
  by_cases he:p.2.2.2>0
  ·rw[sm_t (hr he),Bool.or_true]
  ·rw[ZAJ he];rfl
 rw[hm,this]
 rfl
theorem etZ{l:List PastT}{s t:StT}{i:Nat}(h:nextF l s i=some t)(g:Good l s):Good l t:=by
 obtain⟨p,_,_,_,rfl⟩:=doZ h;exact⟨oPZ g.1 _,by show(s.1.set i true).length=_;rw[ZAt];exact g.2⟩
noncomputable def runO (l : List PastT) : StT → List Int → Option StT
 |s,[]=>some s
 |s,i::r=>if 0<=i/\i<l.length then(nextF l s i.toNat).bind fun t=>runO l t r else none
theorem gjZ(l:List PastT)(s:StT)(i:Int)(r:List Int):runO l s (i::r)=if 0<=i/\i<l.length then(nextF l s i.toNat).bind fun t=>runO l t r else none:=rfl
theorem ppZ(l:List PastT)(s:StT):runO l s []=some s:=rfl
theorem lTZ{l:List PastT}(hl:l.length<=200)(o:List Int)(ho:o.length<1000000000)(s:StT)(g:Good l s):
 lOrd_l0_it fuel o l (0,(s.1,(s.2.1.1,(s.2.1.2,s.2.2))))=some (match runO l s o with|some t=>.inl (t.1,(t.2.1.1,(t.2.1.2,t.2.2)))|none=>.inr false):=by
 unfold lOrd_l0_it;obtain⟨q,hq,h⟩:∃q,iter fuel (fun tt:Int×(List Bool×(List Ino×(Int×List Byt)))=>lOrd_l0 fuel o l tt.1 tt.2.1 tt.2.2.1 tt.2.2.2.1 tt.2.2.2.2) (0,(s.1,(s.2.1.1,(s.2.1.2,s.2.2))))=some q/\q=(match runO l s o with|some t=>.inl (t.1,(t.2.1.1,(t.2.1.2,t.2.2)))|none=>.inr false:(List Bool×(List Ino×(Int×List Byt)))⊕Bool):=by
  refine a5Z (fun m x=>∃(k:Nat) (t:StT),x=((k:Int),(t.1,(t.2.1.1,(t.2.1.2,t.2.2))))/\k+m=o.length/\Good l t/\runO l s o=runO l t (o.drop k)) _ (fun m x hI=> ?_) (fun x hI=> ?_) o.length _ (by omega) ⟨0,s,rfl,by omega,g,rfl⟩
  ·obtain⟨k,t,rfl,hk,gt,hr⟩:=hI;have hko:k<o.length:=by omega
   have go:=ZAE hko;rw[hr,List.drop_eq_getElem_cons hko];dsimp only;unfold lOrd_l0;simp only[avZ hko,ZAF];rw[agZ hko,ZAA,go,ZAA];generalize o[k]=i;rw[gjZ];by_cases h1:i<0
   ·rw[ZAO h1,ZAL (by omega)];exact .inr ⟨_,rfl,rfl⟩
   ·rw[ZAJ h1];simp only[ZAC,ZAA];by_cases h2:i>=((l.length:Nat):Int)
    ·rw[ZAO h2,ZAL (by omega)];exact .inr ⟨_,rfl,rfl⟩
    ·obtain⟨n,rfl⟩:∃n:Nat,i=(n:Int):=⟨i.toNat,by omega⟩;rw[ZAJ h2,ZAQ (by omega),Int.toNat_natCast];simp only[ZAC];have hn:=n7Z (l:=l) (s:=t) gt.1 hl gt.2 (i:=n) (by omega);rw[show(t.1,((t.2.1.1,t.2.1.2),t.2.2))=t from rfl,hn,ZAA];cases hx:nextF l t n with
     |none=>exact .inr ⟨_,rfl,rfl⟩
     |some u=>
      simp only[outN,ZAK,ZAC,ZAA];rw[w64 (by omega)];exact .inl ⟨_,rfl,k+1,u,rfl,by omega,etZ hx gt,rfl⟩
  ·obtain⟨k,t,rfl,hk,gt,hr⟩:=hI;obtain rfl:k=o.length:=by omega
   rw[hr,List.drop_length];dsimp only;unfold lOrd_l0;rw[ppZ];simp only[amZ (ZAi _),ZAC];exact⟨_,rfl,rfl⟩
 rw[hq,h]
theorem kCZ{l:List PastT}:{s t:StT}->{o:List Int}->runO l s o=some t->Good l s->Good l t
 |s,t,[],h,g=>by cases h;exact g
 |s,t,i::r,h,g=>by
  rw[gjZ] at h;split at h
  ·obtain⟨u,h1,h2⟩:=ZAG.1 h;exact kCZ h2 (etZ h1 g)
  ·cases h
noncomputable def orderB (l : List PastT) (o : List Int) : Bool := match runO l (s0 l) o with
 |some t=>wholeB l t.1
 |none=>false
theorem lhZ(l:List PastT)(hl:l.length<=200){β:Type}(K:List Bool->Int×(List Ino×List Byt)->Option β):
 ((upto? ((l.length:Nat):Int) room).bind fun m=>(upto? ((l.length:Nat):Int) m).bind fun q=>need (Nat.ble (m*1) room)<|(model_New fuel).bind fun r1=>K (List.replicate (α:=Bool) q false) r1)=K (s0 l).1 (M0.1.2,(M0.1.1,M0.2)):=by
 rw[aNZ (by rw[aKZ];omega),ZAA,aNZ (ZAM _),ZAA,abZ (by rw[aKZ];exact dlZ (by omega)),quZ,ZAA]
 rfl
theorem pSZ{l:List PastT}{b:Bool}(hR:lRig fuel l=some b)(hl:b=true->l.length<=200)(o:List Int)(ho:o.length<1000000000):lOrd fuel l o=some (b&&orderB l o):=by
 unfold lOrd;rw[hR,ZAA];cases b with
 |false=>rfl
 |true=>
  have hl:=hl rfl;simp only[ZAK,ZAC,ZAU];refine(lhZ l hl fun x r1=>(lOrd_l0_it fuel o l (0,(x,(r1.2.1,(r1.1,r1.2.2))))).bind fun o2=>match o2 with
   |.inl s=>(lstawho fuel (s.1,((s.2.1,s.2.2.1),s.2.2.2)) l).bind fun r4=>some r4
   |.inr o3=>some o3).trans ?_
  have:=lTZ hl o ho (s0 l) (raZ l);simp only;refine(congrArg (fun z=>Option.bind z _) this).trans ?_;unfold orderB;rw[ZAA];cases h:runO l (s0 l) o with
  |none=>rfl
  |some t=>
   simp only;rw[show(t.1,((t.2.1.1,t.2.1.2),t.2.2))=(t.1,t.2) from rfl,lvZ hl (kCZ h (raZ l)).2]
   rfl
end Go.Ab.D
set_option maxRecDepth 100000
set_option maxHeartbeats 4000000
namespace Go.Ab.D
open Go Go.Ab
def nothB(r:RepT):Bool:=(r.1==0)&&((r.2.1==0)&&((r.2.2.1==0)&&(((r.2.2.2.1.1==0)&&(r.2.2.2.1.2==0))&&(!r.2.2.2.2.1&&((r.2.2.2.2.2.1==0)&&((((r.2.2.2.2.2.2.1.length:Nat):Int)==0)&&((((r.2.2.2.2.2.2.2.1.length:Nat):Int)==0)&&(!r.2.2.2.2.2.2.2.2.1&&(r.2.2.2.2.2.2.2.2.2==0)))))))))
theorem mwZ(r:RepT):lnot fuel r=some (nothB r):=by
 unfold lnot nothB;cases(r.1==0)<;>first|rfl|skip;cases(r.2.1==0)<;>first|rfl|skip;cases(r.2.2.1==0)<;>first|rfl|skip;cases((r.2.2.2.1.1==0)&&(r.2.2.2.1.2==0))<;>first|rfl|skip;cases r.2.2.2.2.1<;>first|rfl|skip;cases(r.2.2.2.2.2.1==0)<;>first|rfl|skip;cases(((r.2.2.2.2.2.2.1.length:Nat):Int)==0)<;>first|rfl|skip;cases(((r.2.2.2.2.2.2.2.1.length:Nat):Int)==0)<;>first|rfl|skip;cases r.2.2.2.2.2.2.2.2.1<;>rfl
def oneB(p:PastT):Bool:=rightCall p.1&&(!decide (p.2.2.1<1)&&(!decide (p.2.2.1>1099511627776)&&(bif p.2.2.2==0 then nothB p.2.1 else
 decide (p.2.2.2>=p.2.2.1)&&(decide (p.2.2.2<=1099511627776)&&(rightReply p.2.1&&((p.2.1.1==p.1.1)&&(p.2.1.2.1==p.1.2.1)))))))
def FitP(p:PastT):Prop:=p.2.1.2.2.2.2.2.2.1.length<1000000000000000000/\p.2.1.2.2.2.2.2.2.2.1.length<1000000000000000000
theorem sfZ(p:PastT)(hf:FitP p):lone fuel p=some (oneB p):=by
 unfold lone oneB;rw[a0Z,ZAA];cases rightCall p.1 with
 |false=>rfl
 |true=>
  simp only[ZAK,ZAC,ZAU];cases h1:decide (p.2.2.1<1) with
  |true=>rfl
  |false=>
   simp only[ZAC,ZAA,ZAc,ZAU];cases h2:decide (p.2.2.1>1099511627776) with
   |true=>rfl
   |false=>
    simp only[ZAC,ZAc,ZAU,ZA3,ZAA];rw[mwZ,hrZ hf.1 hf.2];simp only[ZAA];cases p.2.2.2==0<;>first|rfl|skip;cases decide (p.2.2.2>=p.2.2.1)<;>first|rfl|skip;cases decide (p.2.2.2<=1099511627776)<;>first|rfl|skip;cases rightReply p.2.1<;>first|rfl|skip;cases p.2.1.1==p.1.1<;>rfl
theorem exOr{τ ο:Type}{X Y:Option (τ⊕ο)}{P:τ->Prop}{Q:ο->Prop}(h:X=Y)(g:(∃s',Y=some (.inl s')/\P s')\/∃o,Y=some (.inr o)/\Q o):(∃s',X=some (.inl s')/\P s')\/∃o,X=some (.inr o)/\Q o:=h▸g
def folB(w p:PastT):Bool:= !((w.2.2.2==0)||(decide (w.2.2.2>=p.2.2.1)||decide (w.1.2.1>=p.1.2.1)))
def rightGo:List PastT->(Int->Option PastT)->Bool
 |[],_=>true
 |p::r,bef=>oneB p&&((match bef p.1.1 with|some w=>folB w p|none=>true)&&rightGo r (fun c=>if c=p.1.1 then some p else bef c))
def rightL(l:List PastT):Bool:= !decide (((l.length:Nat):Int)>200)&&rightGo l fun _=>none
theorem j5Z{p:PastT}(h:oneB p=true):0<=p.1.1/\p.1.1<16:=by
 unfold oneB rightCall rightS whoseB at h;simp only[ZAD,ZAd] at h;omega
theorem hzZ(l:List PastT)(hf:∀p∈l,FitP p):lRig fuel l=some (rightL l):=by
 unfold lRig rightL;cases hl:decide (((l.length:Nat):Int)>200) with
 |true=>rfl
 |false=>
  simp only[ZAC,ZAc,ZAU];have hl:l.length<=200:=by simp at hl;omega
  rw[abZ (by decide)];have loop:lRig_l0_it fuel l (0,[[],[],[],[],[],[],[],[],[],[],[],[],[],[],[],[]])=some (bif rightGo l (fun _=>none) then .inl () else .inr false):=by
   unfold lRig_l0_it;obtain⟨q,hq,h⟩:∃q,iter fuel (fun tt:Int×List (List PastT)=>lRig_l0 fuel l tt.1 tt.2) (0,[[],[],[],[],[],[],[],[],[],[],[],[],[],[],[],[]])=some q/\q=(bif rightGo l (fun _=>none) then .inl () else .inr false:Unit⊕Bool):=by
    refine a5Z (fun m x=>∃(k:Nat) (h:List (List PastT)) (bef:Int->Option PastT),x=((k:Int),h)/\k+m=l.length/\h.length=16/\(∀c:Nat,c<16->∃y,h[c]? =some y/\y.head? =bef (c:Int))/\rightGo l (fun _=>none)=rightGo (l.drop k) bef) _ (fun m x hI=> ?_) (fun x hI=> ?_) l.length _ (by omega)
     ⟨0,_,fun _=>none,rfl,by omega,rfl,fun c hc=>⟨[],by(iterate 16 (cases c with|zero=>rfl|succ c=> ?_));omega,rfl⟩,rfl⟩
    ·obtain⟨k,h,bef,rfl,hk,hh,hb,hr⟩:=hI;have hkl:k<l.length:=by omega
     have g:=ZAE hkl;rw[hr,List.drop_eq_getElem_cons hkl];dsimp only;unfold lRig_l0;simp only[avZ hkl,ZAF];rw[agZ hkl,ZAA,g,ZAA,sfZ _ (hf _ (ZBH hkl)),ZAA];show _\/∃o,_/\o=bif (oneB l[k]&&((match bef l[k].1.1 with|some w=>folB w l[k]|none=>true)&&rightGo (l.drop (k+1)) (fun c=>if c=l[k].1.1 then some l[k] else bef c))) then _ else _;cases ho:oneB l[k] with
     |false=>exact .inr ⟨_,rfl,rfl⟩
     |true=>
      obtain⟨c1,c2⟩:=j5Z ho;simp only[ZAK,ZAC,ZAU,ZAA];obtain⟨c,hc⟩:∃c:Nat,l[k].1.1=(c:Int):=⟨l[k].1.1.toNat,by omega⟩;obtain⟨y,hy,hyb⟩:=hb c (by omega);rw[hc,agZ (show c<16 by omega),ZAA,hy,ZAA];have fin:∀q:Bool,(match bef (c:Int) with|some w=>folB w l[k]|none=>true)= !q->
       ((some (q,h):Option (Bool×List (List PastT))).bind fun o=>
         bif o.1 then
          some (.inr (.inr false))
         else
          (some c).bind fun q2=>
          (ptr? l k).bind fun r10=>
          (o.2)[q2]?.bind fun r11=>
          some (.inl ((IntKind.wrap .i64 ((k:Int)+1)),(List.set o.2 q2 r10))):Option ((Int×List (List PastT))⊕(Unit⊕Bool)))=some (bif q then .inr (.inr false) else .inl (((k+1:Nat):Int),h.set c (l.drop k))):=by
       intro q hq;cases q with
       |true=>rfl
       |false=>
        rw[ZAA];simp only[ZAC];unfold ptr?;rw[ZAQ hkl,ZAA,ZAA,hy,ZAA,w64 (by omega)]
        rfl
      have go:∀q:Bool,(match bef (c:Int) with|some w=>folB w l[k]|none=>true)= !q->
       (∃s',(some (bif q then .inr (.inr false) else .inl (((k+1:Nat):Int),h.set c (l.drop k))):Option ((Int×List (List PastT))⊕(Unit⊕Bool)))=some (.inl s')/\∃(k':Nat) (h':List (List PastT)) (bef':Int->Option PastT),s'=((k':Int),h')/\k'+m=l.length/\h'.length=16/\(∀c:Nat,c<16->∃y,h'[c]? =some y/\y.head? =bef' (c:Int))/\
        rightGo (l[k]::l.drop (k+1)) bef=rightGo (l.drop k') bef')\/
       ∃o,(some (bif q then .inr (.inr false) else .inl (((k+1:Nat):Int),h.set c (l.drop k))):Option ((Int×List (List PastT))⊕(Unit⊕Bool)))=some (.inr o)/\o=(bif ((match bef (c:Int) with|some w=>folB w l[k]|none=>true)&&rightGo (l.drop (k+1)) (fun d=>if d=(c:Int) then some l[k] else bef d)) then .inl () else .inr false:Unit⊕Bool):=by
       intro q hq;cases q with
       |true=>exact .inr ⟨_,rfl,by rw[hq];rfl⟩
       |false=>
        refine .inl ⟨_,rfl,k+1,_,fun d=>if d=(c:Int) then some l[k] else bef d,rfl,by omega,by rw[ZAt];exact hh,fun d hd=> ?_,?_⟩
        rotate_left
        ·show(oneB l[k]&&((match bef l[k].1.1 with|some w=>folB w l[k]|none=>true)&&rightGo (l.drop (k+1)) (fun c=>if c=l[k].1.1 then some l[k] else bef c)))=_;rw[ho,hc,hq]
         rfl
        by_cases hdc:d=c
        ·subst hdc;refine⟨_,ZAX (by omega),?_⟩;simp only[if_true];rw[List.head?_drop];exact g
        ·obtain⟨z,hz,hzb⟩:=hb d hd;refine⟨z,by rw[ZAW (fun h=>hdc h.symm)];exact hz,?_⟩;simp only;rw[ZAL (by omega)];exact hzb
      cases y with
      |nil=>
       have hn:bef (c:Int)=none:=hyb.symm;exact exOr (fin false (by rw[hn];rfl)) (go false (by rw[hn];rfl))
      |cons w r=>
       have hn:bef (c:Int)=some w:=hyb.symm;refine exOr ((congrArg (fun z=>Option.bind z _) ?_).trans (fin (!folB w l[k]) (by rw[hn,Bool.not_not]))) (go (!folB w l[k]) (by rw[hn,Bool.not_not]));unfold folB;rw[Bool.not_not];simp only[nilL,ZAc,ZAF,ZA3,ZAA,g];rw[abZ rfl];cases w.2.2.2==0 with
       |true=>rfl
       |false=>
        simp only[ZAC,ZCE];rw[abZ rfl];cases decide (w.2.2.2>=l[k].2.2.1) with
        |true=>rfl
        |false=>
         simp only[ZAC,ZCE];rw[abZ rfl]
    ·obtain⟨k,h,bef,rfl,hk,hh,hb,hr⟩:=hI;obtain rfl:k=l.length:=by omega
     rw[hr,List.drop_length];dsimp only;unfold lRig_l0;simp only[amZ (ZAi _),ZAC];exact⟨_,rfl,rfl⟩
   rw[hq,h]
  refine(congrArg (fun z=>Option.bind z _) loop).trans ?_;rw[ZAA];cases rightGo l (fun _=>none)<;>rfl
end Go.Ab.D
set_option maxRecDepth 100000
set_option maxHeartbeats 4000000
namespace Go.Ab.D
open Go Go.Ab
abbrev SayL:=(CallT×(Int×Int))×(UInt8×(UInt8×(Bool×(Bool×(Int×Int)))))
abbrev T7:=Int×(List Ino×(List Byt×(List (Int×Int)×(List PastT×(List Int×List Int)))))
def tS(m:Mod)(hs:List (Int×Int))(out:List PastT)(ord en:List Int):T7:=(m.1.2,(m.1.1,(m.2,(hs,(out,(ord,en))))))
def bgn(at_ e a:Int):Int:=if 1>(if e+1>at_-a then e+1 else at_-a) then 1 else(if e+1>at_-a then e+1 else at_-a)
def repZ:RepT:=(0,(0,(0,((0,0),(false,(0,([],([],(false,0)))))))))
def repIO(c:CallT):RepT:=(c.1,(c.2.1,(151,((0,0),(false,(0,([],([],(false,0)))))))))
def tim(k:Nat):Int:=100*((k:Int)+1)
def Asked(m:Mod)(k:Nat)(en:List Int)(c:CallT)(e:Int):Prop:=0<=c.1/\c.1<4/\c.2.1=(k:Int)+1/\(resF m c).2.1≠179/\en[c.1.toNat]? =some e/\0<=e/\e<tim k
inductive Rnd (k:Nat) (x:SayL) (m:Mod) (hs:List (Int×Int)) (out:List PastT) (ord en:List Int):Mod->List (Int×Int)->List PastT->List Int->List Int->Prop
 |skip:Rnd k x m hs out ord en m hs out ord en
 |lost (c:CallT) (e:Int) (h:Asked m k en c e) (hx:x.2.2.2.1=true):Rnd k x m hs out ord en (resF m c).1 hs (out++[(c,(repZ,(bgn (tim k) e x.2.1.toNat,0)))]) (ord++[((out.length:Nat):Int)]) (en.set c.1.toNat (-1))
 |fail (c:CallT) (e:Int) (h:Asked m k en c e) (hx:x.2.2.2.2.1=true):Rnd k x m hs out ord en m hs (out++[(c,(repIO c,(bgn (tim k) e x.2.1.toNat,tim k+(x.2.2.1.toNat:Int))))]) ord (en.set c.1.toNat (tim k+(x.2.2.1.toNat:Int)))
 |ok (c:CallT) (e:Int) (h:Asked m k en c e) (hs':List (Int×Int)) (hh:hs'=hs\/∃a,hs'=hs++[a]):Rnd k x m hs out ord en (resF m c).1 hs' (out++[(c,(repT (resF m c) c,(bgn (tim k) e x.2.1.toNat,tim k+(x.2.2.1.toNat:Int))))]) (ord++[((out.length:Nat):Int)]) (en.set c.1.toNat (tim k+(x.2.2.1.toNat:Int)))
abbrev RoundT:=Option ((Int×T7)⊕(List PastT×List Int))
theorem l9Z{l:List SayL}{k:Nat}{x:SayL}(hg:l[k]? =some x)(hk12:k<12){m:Mod}(h:ModelOK m){hs:List (Int×Int)}(h1:1<=hs.length)(h2:hs.length<=k+1){out:List PastT}(ho:out.length<=k){ord:List Int}(hd:ord.length<=k){en:List Int}(hn:en.length=4)(hb:∀e∈en,-1<=e/\e<=2000):
 law28_told_l0 fuel l (k:Int) m.1.2 m.1.1 m.2 hs out ord en=some (.inr (out,ord))\/∃m' hs' out' ord' en',law28_told_l0 fuel l (k:Int) m.1.2 m.1.1 m.2 hs out ord en=some (.inl (((k+1:Nat):Int),tS m' hs' out' ord' en'))/\Rnd k x m hs out ord en m' hs' out' ord' en':=by
 have hk:=(ZAB.1 hg).1;obtain⟨g,hgr⟩:=rcZ h;unfold law28_told_l0;rw[avZ hk,ZAF,ZAO (show(k:Int)<12 by omega),ZAF,show(((m.1.1,m.1.2),m.2):Mod)=m from rfl,hgr,ZAA,ZAA];cases g with
 |true=>left;rfl
 |false=>
  right;simp only[ZAc,ZAF];rw[w64 (show-9223372036854775808<=(k:Int)+1/\(k:Int)+1<=9223372036854775807 by omega),w64 (show-9223372036854775808<=100*((k:Int)+1)/\100*((k:Int)+1)<=9223372036854775807 by omega)];refine coZ (fun r:RoundT=>∃m' hs' out' ord' en',r=some (.inl (((k+1:Nat):Int),tS m' hs' out' ord' en'))/\Rnd k x m hs out ord en m' hs' out' ord' en') (fun v:T7=>∃m' hs' out' ord' en',v=tS m' hs' out' ord' en'/\Rnd k x m hs out ord en m' hs' out' ord' en') ?_ ?_
  rotate_left
  ·rintro v ⟨m',hs',out',ord',en',rfl,q⟩;exact⟨m',hs',out',ord',en',rfl,q⟩
  have pc:=faZ x.2.2.2.2.2.1 (n:=4) (by omega) (by omega);rw[agZ hk,ZAA,hg,ZAA,eYZ _ _ (by omega),ZAA];generalize pickI x.2.2.2.2.2.1 4=cl at pc⊢;obtain⟨e,hge⟩:∃e,en[cl.toNat]? =some e:=⟨_,ZAE (by omega)⟩;have heb:=hb e (ZAN hge);have h2000:(k:Int)+1<=12:=by omega
  refine coZ (fun r:Option T7=>∃v,r=some v/\∃m' hs' out' ord' en',v=tS m' hs' out' ord' en'/\Rnd k x m hs out ord en m' hs' out' ord' en')
   (fun v:Bool×(Int×(List Ino×(List Byt×(List (Int×Int)×(List PastT×(List Int×(List Int×(List SayL×List CallT))))))))=>∃q:Bool,v=(q,(m.1.2,(m.1.1,(m.2,(hs,(out,(ord,(en,([x],[(cl,((k:Int)+1,x.1.1.2.2))])))))))))/\(q=false->0<=e/\e<tim k)) ?_ ?_
  ·rcases o9Z (cl,((k:Int)+1,x.1.1.2.2)) with hh|hh
   ·rw[hh,ZAA];exact⟨_,rfl,true,rfl,fun h=>by cases h⟩
   rw[hh,ZAA,ZAC];by_cases g1:(((x.1.1.2.2.2.2.2.2.2.2.2.length:Nat):Int)>200)
   ·rw[ZAO g1];exact⟨_,rfl,true,rfl,fun h=>by cases h⟩
   rw[ZAJ g1,ZAC];by_cases g2:x.1.1.2.2.2.2.2.2.2.2.1>200
   ·rw[ZAO g2];exact⟨_,rfl,true,rfl,fun h=>by cases h⟩
   rw[ZAJ g2,ZAC];by_cases g3:x.1.1.2.2.2.2.2.2.2.1>2000
   ·rw[ZAO g3];exact⟨_,rfl,true,rfl,fun h=>by cases h⟩
   rw[ZAJ g3,ZAC,aqZ (by omega) (by omega),ZAA,hge,ZAA];by_cases g4:e<0
   ·rw[ZAO g4];exact⟨_,rfl,true,rfl,fun h=>by cases h⟩
   rw[ZAJ g4,ZAC,ZAA,hge,ZAA];by_cases g5:e>=100*((k:Int)+1)
   ·rw[ZAO g5];exact⟨_,rfl,true,rfl,fun h=>by cases h⟩
   ·rw[ZAJ g5];exact⟨_,rfl,false,rfl,fun _=>⟨by omega,by unfold tim;omega⟩⟩
  rintro v ⟨q,rfl,hq⟩;cases q with
  |true=>exact⟨_,rfl,m,hs,out,ord,en,rfl,.skip⟩
  |false=>
   obtain⟨he0,he1⟩:=hq rfl;simp only[ZAC];have pa:=faZ x.1.2.1 (n:=hs.length) (by omega) (by omega);have pb:=faZ x.1.2.2 (n:=hs.length) (by omega) (by omega);obtain⟨a,hga⟩:∃a,hs[(pickI x.1.2.1 hs.length).toNat]? =some a:=⟨_,ZAE (by omega)⟩;obtain⟨b,hgb⟩:∃b,hs[(pickI x.1.2.2 hs.length).toNat]? =some b:=⟨_,ZAE (by omega)⟩;refine coZ (fun r:Option T7=>∃v,r=some v/\∃m' hs' out' ord' en',v=tS m' hs' out' ord' en'/\Rnd k x m hs out ord en m' hs' out' ord' en')
    (fun v:Bool×(Int×(List Ino×(List Byt×(List (Int×Int)×(List PastT×(List Int×(List Int×(List SayL×List CallT))))))))=>∃q:Bool,v=(q,(m.1.2,(m.1.1,(m.2,(hs,(out,(ord,(en,([x],[(cl,((k:Int)+1,x.1.1.2.2))])))))))))) ?_ ?_
   ·simp only[ZA3,ZAA];cases decide (x.1.2.1>=0)<;>exact⟨_,rfl,_,rfl⟩
   rintro v ⟨q,rfl⟩;refine coZ (fun r:Option T7=>∃v,r=some v/\∃m' hs' out' ord' en',v=tS m' hs' out' ord' en'/\Rnd k x m hs out ord en m' hs' out' ord' en')
    (fun v:Int×(List Ino×(List Byt×(List (Int×Int)×(List PastT×(List Int×(List Int×(List SayL×List CallT)))))))=>∃c':CallT,v=(m.1.2,(m.1.1,(m.2,(hs,(out,(ord,(en,([x],[c']))))))))/\c'.1=cl/\c'.2.1=(k:Int)+1) ?_ ?_
   ·cases q with
    |true=>
     simp only[ZA3,ZAA,ZAF];rw[eYZ _ _ (by omega),ZAA,aqZ (by omega) (by omega),ZAA,hga,ZAA];exact⟨_,rfl,_,rfl,rfl,rfl⟩
    |false=>exact⟨_,rfl,_,rfl,rfl,rfl⟩
   rintro v ⟨c',rfl,hc1,hc2⟩;refine coZ (fun r:Option T7=>∃v,r=some v/\∃m' hs' out' ord' en',v=tS m' hs' out' ord' en'/\Rnd k x m hs out ord en m' hs' out' ord' en')
    (fun v:Bool×(Int×(List Ino×(List Byt×(List (Int×Int)×(List PastT×(List Int×(List Int×(List SayL×List CallT))))))))=>∃q:Bool,v=(q,(m.1.2,(m.1.1,(m.2,(hs,(out,(ord,(en,([x],[c'])))))))))) ?_ ?_
   ·simp only[ZA3,ZAA];cases decide (x.1.2.2>=0)<;>exact⟨_,rfl,_,rfl⟩
   rintro v ⟨q,rfl⟩;refine coZ (fun r:Option T7=>∃v,r=some v/\∃m' hs' out' ord' en',v=tS m' hs' out' ord' en'/\Rnd k x m hs out ord en m' hs' out' ord' en')
    (fun v:Int×(List Ino×(List Byt×(List (Int×Int)×(List PastT×(List Int×(List Int×(List SayL×List CallT)))))))=>∃c':CallT,v=(m.1.2,(m.1.1,(m.2,(hs,(out,(ord,(en,([x],[c']))))))))/\c'.1=cl/\c'.2.1=(k:Int)+1) ?_ ?_
   ·cases q with
    |true=>
     simp only[ZA3,ZAA,ZAF];rw[eYZ _ _ (by omega),ZAA,aqZ (by omega) (by omega),ZAA,hgb,ZAA];exact⟨_,rfl,_,rfl,hc1,hc2⟩
    |false=>exact⟨_,rfl,_,rfl,hc1,hc2⟩
   clear hc1 hc2 c';rintro v ⟨c,rfl,hc1,hc2⟩;subst hc1;simp only[ZA3,ZAA];rw[aqZ (by omega) (by omega),ZAA,hge,ZAA,hQZ,ZAA,show(((m.1.1,m.1.2),m.2):Mod)=m from rfl,rJZ h c,ZAA];have wA:IntKind.wrap .i64 ((x.2.1.toNat:Nat):Int)=x.2.1.toNat:=w64 (by have:=x.2.1.toNat_lt;omega);have wB:IntKind.wrap .i64 ((x.2.2.1.toNat:Nat):Int)=x.2.2.1.toNat:=w64 (by have:=x.2.2.1.toNat_lt;omega);have hA:=x.2.1.toNat_lt;have hB:=x.2.2.1.toNat_lt;rw[wA,wB,w64 (show-9223372036854775808<=e+1/\e+1<=9223372036854775807 by omega),w64 (show-9223372036854775808<=100*((k:Int)+1)-(x.2.1.toNat:Int)/\100*((k:Int)+1)-(x.2.1.toNat:Int)<=9223372036854775807 by omega),w64 (show-9223372036854775808<=100*((k:Int)+1)+(x.2.2.1.toNat:Int)/\100*((k:Int)+1)+(x.2.2.1.toNat:Int)<=9223372036854775807 by omega)];cases h179:(doT (resF m c) c).2.2.2.1==179 with
   |true=>exact⟨_,rfl,m,hs,out,ord,en,rfl,.skip⟩
   |false=>
    simp only[ZAC];have hask:Asked m k en c e:=⟨by omega,by omega,hc2,ZAS.1 h179,hge,he0,he1⟩;have rm1:∀n:Nat,n<=12->((Nat.ble ((n+1)*8) room)&&(Nat.ble (n+1) room))=true:=fun n hn=>by simp only[ZAD,ZAp,aKZ];omega
    have rm2:∀n:Nat,n<=13->((Nat.ble ((n+1)*16) room)&&(Nat.ble (n+1) room))=true:=fun n hn=>by simp only[ZAD,ZAp,aKZ];omega
    have rm3:∀n:Nat,n<=12->((Nat.ble ((n+1)*264) room)&&(Nat.ble (n+1) room))=true:=fun n hn=>by simp only[ZAD,ZAp,aKZ];omega
    refine coZ (fun r:Option T7=>∃v,r=some v/\∃m' hs' out' ord' en',v=tS m' hs' out' ord' en'/\Rnd k x m hs out ord en m' hs' out' ord' en')
     (fun v:Int×(List Ino×(List Byt×(List (Int×Int)×(List PastT×(List Int×(List Int×List PastT))))))=>∃m' hs' ord' en' p,v=(m'.1.2,(m'.1.1,(m'.2,(hs',(out,(ord',(en',[p])))))))/\Rnd k x m hs out ord en m' hs' (out++[p]) ord' en') ?_ ?_
    ·cases hL:x.2.2.2.1 with
     |true=>
      simp only[ZAF];rw[ZAA,hge,ZAA,abZ (rm1 _ (by omega))];exact⟨_,rfl,(resF m c).1,hs,_,_,_,rfl,.lost c e hask hL⟩
     |false=>
      simp only[ZAC];cases hF:x.2.2.2.2.1 with
      |true=>
       simp only[ZAF];rw[ZAA,hge,ZAA];exact⟨_,rfl,m,hs,_,_,_,rfl,.fail c e hask hF⟩
      |false=>
       simp only[ZAC];rw[ZAA,hge,ZAA,abZ (rm1 _ (by omega))];cases decide ((doT (resF m c) c).2.2.2.2.1>0) with
       |true=>
        simp only[ZAF];rw[abZ (rm2 _ (by omega))];exact⟨_,rfl,(resF m c).1,hs++[_],_,_,_,rfl,.ok c e hask _ (.inr ⟨_,rfl⟩)⟩
       |false=>exact⟨_,rfl,(resF m c).1,hs,_,_,_,rfl,.ok c e hask _ (.inl rfl)⟩
    ·rintro v ⟨m',hs',ord',en',p,rfl,hr⟩;simp only[ZA3,ZAA];rw[hQZ,ZAA,abZ (rm3 _ (by omega))];exact⟨_,rfl,m',hs',_,ord',en',rfl,hr⟩
end Go.Ab.D
set_option maxRecDepth 100000
set_option maxHeartbeats 4000000
namespace Go.Ab.D
open Go Go.Ab
def Err(e:Int):Prop:=e=0\/e=2\/e=5\/(170<=e/\e<=180)
theorem Err.lit{e:Int}(h:e=0\/e=2\/e=5\/(170<=e/\e<=180)):Err e:=h
theorem eqZ(l:List Ino)(d:Int×Int):Err (dirE l d):=by unfold dirE;(repeat' split)<;>exact Err.lit (by omega)
theorem k8Z(b:Bool)(n:Ino):Err (misE b n):=by unfold misE;(repeat' split)<;>exact Err.lit (by omega)
theorem oiZ(t:Tree)(d:Int×Int)(s:Byt):Err (lookF t d s).1:=by unfold lookF;(repeat' split)<;>first|exact eqZ _ _|exact Err.lit (by simp)
theorem nZZ(t:Tree)(d:Int×Int)(s:Byt)(b:Bool):Err (makeF t d s b).2.2:=by unfold makeF;(repeat' split)<;>first|exact eqZ _ _|exact Err.lit (by simp)
theorem k4Z(t:Tree)(d:Int×Int)(s:Byt)(b:Bool):Err (removeF t d s b).2.2:=by unfold removeF;(repeat' split)<;>first|exact eqZ _ _|exact k8Z _ _|exact Err.lit (by simp)
theorem kuZ(t:Tree)(a:Int×Int)(s:Byt)(b:Int×Int)(n:Byt):Err (renameF t a s b n).2.2:=by unfold renameF;(repeat' split)<;>first|exact eqZ _ _|exact k8Z _ _|exact Err.lit (by simp)
theorem oRZ(t:Tree)(d:Int×Int)(s:Byt)(n:Int):Err (listF t d s n).1:=by unfold listF;(repeat' split)<;>first|exact eqZ _ _|exact Err.lit (by simp)
theorem fLZ(m:Mod)(h:Int×Int):Err (fileF m h).2.2:=by
 unfold fileF;split
 ·exact Err.lit (by simp)
 ·rename_i x _;cases x.2.2.2.1 with
  |true=>exact Err.lit (by simp)
  |false=>simp only[ZAC];split<;>exact Err.lit (by simp)
structure RO (r:Rep):Prop where
 h:r.1=(0,0)\/handleB r.1=true
 s:0<=r.2.2.1/\r.2.2.1<=65536
 f:0<=r.2.2.2.2.2.2/\r.2.2.2.2.2.2<=1000
 e:∀x∈r.2.2.2.2.1,entOk x=true
 b:r.2.2.2.1.length<=4096
 n:r.2.2.2.2.1.length<=100
theorem RO.zero:RO rep0:=⟨.inl rfl,⟨by decide,by decide⟩,⟨by decide,by decide⟩,fun x h=>(by cases h),by decide,by decide⟩
def RQ(q:DoR):Prop:=Err q.1/\(q.1=0->RO q.2.2)
theorem RQ.no{e:Int}{m:Mod}(h:Err e):RQ (e,m,rep0):=⟨h,fun _=>.zero⟩
theorem RQ.yes{m:Mod}{r:Rep}(h:RO r):RQ (0,m,r):=⟨.inl rfl,fun _=>h⟩
theorem RO.mk0{h:Int×Int}{d:Bool}{s:Int}(hh:handleB h=true)(hs:0<=s/\s<=65536):RO (h,d,s,[],[],false,0):=⟨.inr hh,hs,⟨by simp,by simp⟩,fun x h=>(by cases h),by simp,by simp⟩
section
variable {m : Mod} (h : ModelOK m) (c : CallT)
include h
theorem sqZ{i:Nat}{x:Ino}(hx:m.1.1[i]? =some x):handleB ((i:Int)+1,x.2.1)=true:=by
 have g:=(h.t.r.ino i x hx).gen;have l:=h.t.r.len;have:=(ZAB.1 hx).1;unfold handleB;rw[ZAd];refine⟨?_,?_,g.1,g.2⟩<;>simp only<;>omega
theorem rrZ:RQ (lookA m c):=by
 unfold lookA;split
 ·rename_i h0;split
  ·rename_i x hx;have q:=(nhZ h.t c.2.2.2.1 c.2.2.2.2.1).2 h0;have hz:=jCZ h.t hx;refine .yes (.mk0 ?_ ⟨hz.1,hz.2.1⟩);have e2:(lookF m.1 c.2.2.2.1 c.2.2.2.2.1).2=((((lookF m.1 c.2.2.2.1 c.2.2.2.2.1).2.1-1).toNat:Int)+1,x.2.1):=by
    have h1:(lookF m.1 c.2.2.2.1 c.2.2.2.2.1).2.2=x.2.1:=by
     have:=h0;revert hx h0;unfold lookF
     (repeat' split)<;>intro h0 hx<;>first|(cases h0;done)|skip
     ·simp only at hx;rename_i hy;rw[hy] at hx;cases hx
      rfl
     ·simp only at h0;contradiction
    exact Prod.ext (by show _=_;omega) h1
   rw[e2];exact sqZ h hx
  ·exact .no (.lit (by simp))
 ·exact .no (oiZ _ _ _)
theorem oOZ:RQ (makeA m c):=by
 unfold makeA;split
 ·rename_i h0;refine .yes (.mk0 ?_ ⟨by simp,by simp⟩);revert h0;unfold makeF
  (repeat' split)<;>intro h0<;>first|(cases h0;done)|skip
  ·rename_i ha;unfold allocF at ha;have l:=h.t.r.len;split at ha
   ·split at ha
    ·simp only[ZAH,ZAu] at ha;obtain⟨_,rfl,rfl⟩:=ha;unfold handleB;rw[ZAd];simp only;omega
    ·cases ha
   ·split at ha
    ·cases ha
    ·rename_i n hn;have g:=(h.t.r.ino _ n hn).gen;have:=(ZAB.1 hn).1;split at ha
     ·simp only[ZAH,ZAu] at ha;obtain⟨_,rfl,rfl⟩:=ha;unfold handleB;rw[ZAd];simp only;omega
     ·cases ha
  ·simp only at h0;contradiction
 ·exact .no (nZZ _ _ _ _)
theorem jgZ:RQ (removeA m c):=by
 unfold removeA;split
 ·exact .yes .zero
 ·exact .no (k4Z _ _ _ _)
theorem nLZ:RQ (renameA m c):=by
 unfold renameA;split
 ·exact .yes .zero
 ·exact .no (kuZ _ _ _ _ _)
theorem qSZ:RQ (listA m c):=by
 refine⟨oRZ _ _ _ _,fun _=> ?_⟩;unfold listA;simp only;have key:(∀x∈(listF m.1 c.2.2.2.1 c.2.2.2.2.1 c.2.2.2.2.2.2.2.2.1).2.2,entOk x=true)/\(listF m.1 c.2.2.2.1 c.2.2.2.2.1 c.2.2.2.2.2.2.2.2.1).2.2.length<=100:=by
  unfold listF
  (repeat' split)<;>first|exact⟨fun x hx=>(by cases hx),by simp⟩|skip
  rename_i n hn;have o:=b0Z (h.t.r.ino _ n hn);have l:=h.t.r.len;refine⟨fun x hx=> ?_,?_⟩
  ·have:=bGZ o.2 x (ZCB (ZBw hx));unfold entOk;rw[ZAd];omega
  ·simp only[ZAa,behind,ZA0];omega
 exact⟨.inl rfl,⟨by simp,by simp⟩,⟨by simp,by simp⟩,key.1,by simp,key.2⟩
theorem ssZ(hc:handleB c.2.2.2.1=true):RQ (getA m c):=by
 unfold getA;split
 ·rename_i x hx;have:=cYZ.1 hx;have hz:=jCZ h.t this.2.1;exact .yes (.mk0 hc ⟨hz.1,hz.2.1⟩)
 ·exact .no (.lit (by simp))
theorem qUZ:RQ (statA m):=by
 refine .yes ⟨.inl rfl,⟨by simp,by simp⟩,?_,fun x h=>(by cases h),by simp,by simp⟩;have l:=h.t.r.len;have:usedN m.1.1<=m.1.1.length:=List.countP_le_length;simp only;omega
theorem q5Z(hn:0<=c.2.2.2.2.2.2.2.2.1/\c.2.2.2.2.2.2.2.2.1<=4096)(ho:0<=c.2.2.2.2.2.2.2.1):RQ (readA m c):=by
 unfold readA;split
 ·rename_i h0;obtain⟨x,hx,_⟩:=cIZ h0;have hbl:=h.byt hx.2.2;refine .yes ⟨.inl rfl,⟨by simp,by simp only;omega⟩,⟨by simp,by simp⟩,fun x h=>(by cases h),?_,by simp⟩;simp only[readL,ZA0,ZAa];omega
 ·exact .no (fLZ _ _)
theorem ryZ(hc:handleB c.2.2.2.1=true)(hn:0<=c.2.2.2.2.2.2.2.2.1):RQ (sizeA m c):=by
 unfold sizeA;split
 ·split
  ·exact .no (.lit (by simp))
  ·exact .yes (.mk0 hc ⟨hn,by omega⟩)
 ·exact .no (fLZ _ _)
theorem oTZ(hc:handleB c.2.2.2.1=true)(ho:0<=c.2.2.2.2.2.2.2.1):RQ (writeA m c):=by
 unfold writeA;split
 ·rename_i h0;obtain⟨x,hx,_⟩:=cIZ h0;have hbl:=h.byt hx.2.2;split
  ·exact .no (.lit (by simp))
  ·refine .yes (.mk0 hc ⟨by simp,?_⟩);unfold writeN;split<;>omega
 ·exact .no (fLZ _ _)
theorem rOZ(hr:rightCall c=true):RQ (actF m c):=by
 have hw:=aJZ hr;have hr':=hr;unfold rightCall rightS at hr';simp only[ZAD,ZAd] at hr';obtain⟨_,_,hof,_,_,_,_,_,hn,_⟩:=hr';unfold actF;by_cases e1:c.2.2.1=UInt8.ofNat 1
 ·rw[ZAQ e1];exact rrZ h c
 rw[ZAL e1];by_cases e2:c.2.2.1=UInt8.ofNat 2
 ·rw[ZAQ e2];exact oOZ h c
 rw[ZAL e2];by_cases e3:c.2.2.1=UInt8.ofNat 3
 ·rw[ZAQ e3];exact oOZ h c
 rw[ZAL e3];by_cases e4:c.2.2.1=UInt8.ofNat 4
 ·rw[ZAQ e4];rw[e4] at hn;exact q5Z h c hn hw.1.1
 rw[ZAL e4];by_cases e5:c.2.2.1=UInt8.ofNat 5
 ·rw[ZAQ e5];rw[e5] at hof;exact oTZ h c hof hw.1.1
 rw[ZAL e5];by_cases e6:c.2.2.1=UInt8.ofNat 6
 ·rw[ZAQ e6];rw[e6] at hof;exact ryZ h c hof hw.2.1.1
 rw[ZAL e6];by_cases e7:c.2.2.1=UInt8.ofNat 7
 ·rw[ZAQ e7];exact jgZ h c
 rw[ZAL e7];by_cases e8:c.2.2.1=UInt8.ofNat 8
 ·rw[ZAQ e8];exact jgZ h c
 rw[ZAL e8];by_cases e9:c.2.2.1=UInt8.ofNat 9
 ·rw[ZAQ e9];exact nLZ h c
 rw[ZAL e9];by_cases e10:c.2.2.1=UInt8.ofNat 10
 ·rw[ZAQ e10];exact qSZ h c
 rw[ZAL e10];by_cases e11:c.2.2.1=UInt8.ofNat 11
 ·rw[ZAQ e11];rw[e11] at hof;exact ssZ h c hof
 rw[ZAL e11];by_cases e12:c.2.2.1=UInt8.ofNat 12
 ·rw[ZAQ e12];exact qUZ h
 rw[ZAL e12];exact .no (.lit (by simp))
theorem mKZ:Err (resF m c).2.1/\((resF m c).2.1≠0->(resF m c).2.2=rep0)/\RO (resF m c).2.2:=by
 unfold resF;by_cases hr:rightCall c=true
 ·rw[ZAQ hr];have q:=rOZ h c hr;by_cases h0:(actF m c).1=0
  ·rw[ZAQ h0];exact⟨.inl rfl,fun h=>absurd rfl h,q.2 h0⟩
  ·rw[ZAL h0];exact⟨q.1,fun _=>rfl,.zero⟩
 ·rw[ZAL hr];exact⟨.lit (by simp),fun _=>rfl,.zero⟩
end
theorem fMZ{m:Mod}{c:CallT}(h:(resF m c).2.1≠179):rightCall c=true:=by
 unfold resF at h;by_cases hr:rightCall c=true
 ·exact hr
 ·rw[ZAL hr] at h;exact absurd rfl h
theorem dIZ{c:CallT}(h:rightCall c=true):whoseB c.1 c.2.1=true:=by
 unfold rightCall rightS at h;simp only[ZAD] at h;exact h.2.1
theorem jrZ{m:Mod}(h:ModelOK m){c:CallT}(hr:rightCall c=true):rightReply (repT (resF m c) c)=true/\(resF m c).2.1≠151:=by
 obtain⟨h1,h2,h3⟩:=mKZ h c;have hw:=dIZ hr;refine⟨?_,by unfold Err at h1;omega⟩;unfold rightReply repT;simp only;rw[hw,ZAU,ZAO (show 0<=(resF m c).2.1/\(resF m c).2.1<=1000 by unfold Err at h1;omega),ZAU];by_cases h0:(resF m c).2.1=0
 ·rw[ZAL (by simpa using h0)];have e1:(noneB ((resF m c).2.2.1.1,(resF m c).2.2.1.2)||handleB ((resF m c).2.2.1.1,(resF m c).2.2.1.2))=true:=by
   rcases h3.h with q|q
   ·unfold noneB;rw[q];rfl
   ·rw[show((resF m c).2.2.1.1,(resF m c).2.2.1.2)=(resF m c).2.2.1 from rfl,q,Bool.or_true]
  rw[e1,ZAO h3.s,ZAO (show 0<=(resF m c).2.2.2.2.2.2.2.2/\(resF m c).2.2.2.2.2.2.2.2<=1099511627776 by have:=h3.f;omega),ZBv.2 h3.e,ZAO h3.b,ZAO h3.n]
  rfl
 ·rw[ZAQ h0,h2 h0];rfl
theorem jHZ{c:CallT}(hr:rightCall c=true):rightReply (repIO c)=true:=by
 unfold rightReply repIO;simp only;rw[dIZ hr]
 rfl
end Go.Ab.D
