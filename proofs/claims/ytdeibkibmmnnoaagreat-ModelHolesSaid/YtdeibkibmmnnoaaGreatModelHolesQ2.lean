/- What the functions compute; the plain law. -/
import Derived.Test.YtdeibkibmmnnoaaGreatModelHolesQ1
import Derived.KernelRfl
set_option linter.all false
namespace Go.Ab.D
open Go Go.Ab
section
variable {t : Tree} {a b : Int × Int} {na nb x z : Ino} {old name : List UInt8} {id other : Int}
theorem jSZ(h:TreeOK t)(hb:dirE t.1 a≠0):tRen fuel t a old b name=some (t.1,(t.2,([],dirE t.1 a))):=by
 unfold tRen;rw[show((t.1,t.2):Tree)=t from rfl,show((a.1,a.2):Int×Int)=a from rfl,show((b.1,b.2):Int×Int)=b from rfl,jTZ h hb,Option.bind_some];simp only[beq_eq_false_iff_ne.2 hb,Bool.not_false,cond_true];rw[aAZ h.r.fit,Option.bind_some]
theorem jBZ(h:TreeOK t)(ha:IsD t.1 a na)(hb:dirE t.1 b≠0):tRen fuel t a old b name=some (t.1,(t.2,([],dirE t.1 b))):=by
 unfold tRen;rw[show((t.1,t.2):Tree)=t from rfl,show((a.1,a.2):Int×Int)=a from rfl,show((b.1,b.2):Int×Int)=b from rfl,kqZ h ha hb,Option.bind_some];simp only[beq_eq_false_iff_ne.2 hb,Bool.not_false,cond_true];rw[aAZ h.r.fit,Option.bind_some]
theorem jxZ(h:TreeOK t)(ha:IsD t.1 a na)(hb:IsD t.1 b nb)(hs:(namedB old&&namedB name)=false):tRen fuel t a old b name=some (t.1,(t.2,([],176))):=by
 unfold tRen;rw[show((t.1,t.2):Tree)=t from rfl,show((a.1,a.2):Int×Int)=a from rfl,show((b.1,b.2):Int×Int)=b from rfl,aYZ h ha hb,Option.bind_some];simp only[beq_self_eq_true,Bool.not_true,cond_false];rw[awZ,Option.bind_some];cases h1:namedB old with
 |false=>
  simp only[Bool.not_false,cond_true,Option.bind_some];rw[show((t.1,t.2):Tree)=t from rfl,aAZ h.r.fit,Option.bind_some]
 |true=>
  rw[h1,Bool.true_and] at hs;simp only[Bool.not_true,cond_false];rw[awZ,Option.bind_some,hs];simp only[Bool.not_false,cond_true,Option.bind_some];rw[show((t.1,t.2):Tree)=t from rfl,aAZ h.r.fit,Option.bind_some]
theorem jVZ(h:TreeOK t)(ha:IsD t.1 a na)(hb:IsD t.1 b nb)(h1:namedB old=true)(hs:namedB name=true)(hh:hasN na.2.2.2.2.2.2.2 old=false):tRen fuel t a old b name=some (t.1,(t.2,([],171))):=by
 unfold tRen;rw[show((t.1,t.2):Tree)=t from rfl,show((a.1,a.2):Int×Int)=a from rfl,show((b.1,b.2):Int×Int)=b from rfl,aYZ h ha hb,Option.bind_some];simp only[beq_self_eq_true,Bool.not_true,cond_false];rw[awZ,Option.bind_some,h1];simp only[Bool.not_true,cond_false];rw[awZ,Option.bind_some,hs];simp only[Bool.not_true,cond_false,Option.bind_some];rw[show idx? 0 [na,nb].length=some 0 from rfl,Option.bind_some,show[na,nb][0]? =some na from rfl,Option.bind_some,h.ent_ok ha,Option.bind_some,hh];simp only[Bool.not_false,cond_true];rw[show((t.1,t.2):Tree)=t from rfl,aAZ h.r.fit,Option.bind_some]
theorem kaZ(h:TreeOK t)(ha:IsD t.1 a na)(hb:IsD t.1 b nb)(hs:namedB name=true)(hea:(old,id)∈na.2.2.2.2.2.2.2)(hx:t.1[(id-1).toNat]? =some x)(hd:x.2.2.2.1=true)(hanc:Anc t.1 id b.1):tRen fuel t a old b name=some (t.1,(t.2,([],178))):=by
 obtain⟨g1,g2,g3,y,g4,g5,g6⟩:=h.ent ha hea;rw[hx] at g4;cases g4;have hlen:=h.r.len;have hpa:=cSZ (h.srt ha.1) hea;have hpal:=(List.getElem?_eq_some_iff.1 hpa).1;unfold tRen;rw[show((t.1,t.2):Tree)=t from rfl,show((a.1,a.2):Int×Int)=a from rfl,show((b.1,b.2):Int×Int)=b from rfl,aYZ h ha hb,Option.bind_some];simp only[beq_self_eq_true,Bool.not_true,cond_false];rw[awZ,Option.bind_some,g1];simp only[Bool.not_true,cond_false];rw[awZ,Option.bind_some,hs];simp only[Bool.not_true,cond_false,Option.bind_some];rw[show idx? 0 [na,nb].length=some 0 from rfl,Option.bind_some,show[na,nb][0]? =some na from rfl,Option.bind_some,h.ent_ok ha,Option.bind_some,a7Z.2 ⟨id,hea⟩];simp only[Bool.not_true,cond_false,Option.bind_some];rw[show[na,nb][0]? =some na from rfl,Option.bind_some,alZ hpal,Option.bind_some,hpa,Option.bind_some,w64 (by omega),azZ (by omega) (by omega),Option.bind_some,hx,Option.bind_some];rw[hd];simp only[cond_true];obtain⟨r,hr,hq⟩:=djZ h hb id;rw[show((t.1,t.2):Tree)=t from rfl,hr,hq.2 hanc,Option.bind_some,Option.bind_some];simp only[cond_true];rw[show((t.1,t.2):Tree)=t from rfl,aAZ h.r.fit,Option.bind_some]
theorem jYZ(h:TreeOK t)(ha:IsD t.1 a na)(hb:IsD t.1 b nb)(hs:namedB name=true)(hea:(old,id)∈na.2.2.2.2.2.2.2)(hx:t.1[(id-1).toNat]? =some x)(hanc:x.2.2.2.1=true->¬Anc t.1 id b.1)(heb:(name,id)∈nb.2.2.2.2.2.2.2):tRen fuel t a old b name=some (t.1,(t.2,([],0))):=by
 obtain⟨g1,g2,g3,y,g4,g5,g6⟩:=h.ent ha hea;rw[hx] at g4;cases g4;have hlen:=h.r.len;have hpa:=cSZ (h.srt ha.1) hea;have hpal:=(List.getElem?_eq_some_iff.1 hpa).1;unfold tRen;rw[show((t.1,t.2):Tree)=t from rfl,show((a.1,a.2):Int×Int)=a from rfl,show((b.1,b.2):Int×Int)=b from rfl,aYZ h ha hb,Option.bind_some];simp only[beq_self_eq_true,Bool.not_true,cond_false];rw[awZ,Option.bind_some,g1];simp only[Bool.not_true,cond_false];rw[awZ,Option.bind_some,hs];simp only[Bool.not_true,cond_false,Option.bind_some];rw[show idx? 0 [na,nb].length=some 0 from rfl,Option.bind_some,show[na,nb][0]? =some na from rfl,Option.bind_some,h.ent_ok ha,Option.bind_some,a7Z.2 ⟨id,hea⟩];simp only[Bool.not_true,cond_false,Option.bind_some];rw[show[na,nb][0]? =some na from rfl,Option.bind_some,alZ hpal,Option.bind_some,hpa,Option.bind_some,w64 (by omega),azZ (by omega) (by omega),Option.bind_some,hx,Option.bind_some];have hbel:(bif x.2.2.2.1 then(tbel fuel (t.1,t.2) b.1 id).bind fun r11=>some (r11,(t.1,(t.2,(a.1,(a.2,(b.1,(b.2,((0:Int),[na,nb]))))))))
  else some (false,(t.1,(t.2,(a.1,(a.2,(b.1,(b.2,(0,[na,nb])))))))))=some (false,(t.1,(t.2,(a.1,(a.2,(b.1,(b.2,(0,[na,nb])))))))):=by
  cases hd:x.2.2.2.1 with
  |false=>rfl
  |true=>
   simp only[cond_true];obtain⟨r,hr,hq⟩:=djZ h hb id;have:r=false:=by
    cases r with
    |false=>rfl
    |true=>exact absurd (hq.1 rfl) (hanc hd)
   rw[show((t.1,t.2):Tree)=t from rfl,hr,this]
   rfl
 rw[hbel,Option.bind_some];simp only[cond_false];obtain⟨rows,ms,hc,hF⟩:=b0Z h.r.fit;rw[show idx? 1 [na,nb].length=some 1 from rfl,Option.bind_some,show[na,nb][1]? =some nb from rfl,Option.bind_some,h.ent_ok hb,Option.bind_some,show((t.1,t.2):Tree)=t from rfl,hc,Option.bind_some];have hpb:=cSZ (h.srt hb.1) heb;have hpbl:=(List.getElem?_eq_some_iff.1 hpb).1;simp only[a7Z.2 ⟨_,heb⟩,cond_true];rw[Option.bind_some,show[na,nb][1]? =some nb from rfl,Option.bind_some,alZ hpbl,Option.bind_some,hpb,Option.bind_some,Option.bind_some];simp only[beq_self_eq_true,cond_true];erw[bzZ hF.pure1]
theorem lHZ(h:TreeOK t)(ha:IsD t.1 a na)(hb:IsD t.1 b nb)(hs:namedB name=true)(hea:(old,id)∈na.2.2.2.2.2.2.2)(hx:t.1[(id-1).toNat]? =some x)(hanc:x.2.2.2.1=true->¬Anc t.1 id b.1)(heb:(name,other)∈nb.2.2.2.2.2.2.2)(hne:other≠id)(hz:t.1[(other-1).toNat]? =some z)(hm:misE x.2.2.2.1 z≠0):tRen fuel t a old b name=some (t.1,(t.2,([],misE x.2.2.2.1 z))):=by
 obtain⟨g1,g2,g3,y,g4,g5,g6⟩:=h.ent ha hea;rw[hx] at g4;cases g4;have hlen:=h.r.len;have hpa:=cSZ (h.srt ha.1) hea;have hpal:=(List.getElem?_eq_some_iff.1 hpa).1;unfold tRen;rw[show((t.1,t.2):Tree)=t from rfl,show((a.1,a.2):Int×Int)=a from rfl,show((b.1,b.2):Int×Int)=b from rfl,aYZ h ha hb,Option.bind_some];simp only[beq_self_eq_true,Bool.not_true,cond_false];rw[awZ,Option.bind_some,g1];simp only[Bool.not_true,cond_false];rw[awZ,Option.bind_some,hs];simp only[Bool.not_true,cond_false,Option.bind_some];rw[show idx? 0 [na,nb].length=some 0 from rfl,Option.bind_some,show[na,nb][0]? =some na from rfl,Option.bind_some,h.ent_ok ha,Option.bind_some,a7Z.2 ⟨id,hea⟩];simp only[Bool.not_true,cond_false,Option.bind_some];rw[show[na,nb][0]? =some na from rfl,Option.bind_some,alZ hpal,Option.bind_some,hpa,Option.bind_some,w64 (by omega),azZ (by omega) (by omega),Option.bind_some,hx,Option.bind_some];have hbel:(bif x.2.2.2.1 then(tbel fuel (t.1,t.2) b.1 id).bind fun r11=>some (r11,(t.1,(t.2,(a.1,(a.2,(b.1,(b.2,((0:Int),[na,nb]))))))))
  else some (false,(t.1,(t.2,(a.1,(a.2,(b.1,(b.2,(0,[na,nb])))))))))=some (false,(t.1,(t.2,(a.1,(a.2,(b.1,(b.2,(0,[na,nb])))))))):=by
  cases hd:x.2.2.2.1 with
  |false=>rfl
  |true=>
   simp only[cond_true];obtain⟨r,hr,hq⟩:=djZ h hb id;have:r=false:=by
    cases r with
    |false=>rfl
    |true=>exact absurd (hq.1 rfl) (hanc hd)
   rw[show((t.1,t.2):Tree)=t from rfl,hr,this]
   rfl
 rw[hbel,Option.bind_some];simp only[cond_false];obtain⟨rows,ms,hc,hF⟩:=b0Z h.r.fit;rw[show idx? 1 [na,nb].length=some 1 from rfl,Option.bind_some,show[na,nb][1]? =some nb from rfl,Option.bind_some,h.ent_ok hb,Option.bind_some,show((t.1,t.2):Tree)=t from rfl,hc,Option.bind_some];obtain⟨q1,q2,q3,z',q4,q5,q6⟩:=h.ent hb heb;rw[hz] at q4;cases q4;have hpb:=cSZ (h.srt hb.1) heb;have hpbl:=(List.getElem?_eq_some_iff.1 hpb).1;simp only[a7Z.2 ⟨_,heb⟩,cond_true];rw[Option.bind_some,show[na,nb][1]? =some nb from rfl,Option.bind_some,alZ hpbl,Option.bind_some,hpb,Option.bind_some,Option.bind_some];simp only[beq_eq_false_iff_ne.2 hne,cond_false];rw[show idx? 1 [na,nb].length=some 1 from rfl,Option.bind_some,show[na,nb][1]? =some nb from rfl,Option.bind_some,alZ hpbl,Option.bind_some,hpb,Option.bind_some,w64 (by omega),azZ (by omega) (by omega),Option.bind_some,hz,Option.bind_some,dCZ,Option.bind_some];simp only[beq_eq_false_iff_ne.2 hm,Bool.not_false,cond_true];erw[bzZ hF.pure1]
theorem jDZ(h:TreeOK t)(ha:IsD t.1 a na)(hb:IsD t.1 b nb)(hs:namedB name=true)(hea:(old,id)∈na.2.2.2.2.2.2.2)(hx:t.1[(id-1).toNat]? =some x)(hanc:x.2.2.2.1=true->¬Anc t.1 id b.1)(hno:hasN nb.2.2.2.2.2.2.2 name=false)(hab:a.1≠b.1)(hl:100<=nb.2.2.2.2.2.2.2.length):tRen fuel t a old b name=some (t.1,(t.2,([],5))):=by
 obtain⟨g1,g2,g3,y,g4,g5,g6⟩:=h.ent ha hea;rw[hx] at g4;cases g4;have hlen:=h.r.len;have hpa:=cSZ (h.srt ha.1) hea;have hpal:=(List.getElem?_eq_some_iff.1 hpa).1;unfold tRen;rw[show((t.1,t.2):Tree)=t from rfl,show((a.1,a.2):Int×Int)=a from rfl,show((b.1,b.2):Int×Int)=b from rfl,aYZ h ha hb,Option.bind_some];simp only[beq_self_eq_true,Bool.not_true,cond_false];rw[awZ,Option.bind_some,g1];simp only[Bool.not_true,cond_false];rw[awZ,Option.bind_some,hs];simp only[Bool.not_true,cond_false,Option.bind_some];rw[show idx? 0 [na,nb].length=some 0 from rfl,Option.bind_some,show[na,nb][0]? =some na from rfl,Option.bind_some,h.ent_ok ha,Option.bind_some,a7Z.2 ⟨id,hea⟩];simp only[Bool.not_true,cond_false,Option.bind_some];rw[show[na,nb][0]? =some na from rfl,Option.bind_some,alZ hpal,Option.bind_some,hpa,Option.bind_some,w64 (by omega),azZ (by omega) (by omega),Option.bind_some,hx,Option.bind_some];have hbel:(bif x.2.2.2.1 then(tbel fuel (t.1,t.2) b.1 id).bind fun r11=>some (r11,(t.1,(t.2,(a.1,(a.2,(b.1,(b.2,((0:Int),[na,nb]))))))))
  else some (false,(t.1,(t.2,(a.1,(a.2,(b.1,(b.2,(0,[na,nb])))))))))=some (false,(t.1,(t.2,(a.1,(a.2,(b.1,(b.2,(0,[na,nb])))))))):=by
  cases hd:x.2.2.2.1 with
  |false=>rfl
  |true=>
   simp only[cond_true];obtain⟨r,hr,hq⟩:=djZ h hb id;have:r=false:=by
    cases r with
    |false=>rfl
    |true=>exact absurd (hq.1 rfl) (hanc hd)
   rw[show((t.1,t.2):Tree)=t from rfl,hr,this]
   rfl
 rw[hbel,Option.bind_some];simp only[cond_false];obtain⟨rows,ms,hc,hF⟩:=b0Z h.r.fit;rw[show idx? 1 [na,nb].length=some 1 from rfl,Option.bind_some,show[na,nb][1]? =some nb from rfl,Option.bind_some,h.ent_ok hb,Option.bind_some,show((t.1,t.2):Tree)=t from rfl,hc,Option.bind_some];simp only[hno,cond_false,Option.bind_some,beq_eq_false_iff_ne.2 hab,Bool.not_false,cond_true];rw[show idx? 1 [na,nb].length=some 1 from rfl,Option.bind_some,show[na,nb][1]? =some nb from rfl,Option.bind_some,Option.bind_some,decide_eq_true (show((nb.2.2.2.2.2.2.2.length:Nat):Int)>=100 by omega)];simp only[cond_true];erw[bzZ hF.pure1]
theorem kRZ(h:TreeOK t)(m:MvOk t a old b name id na nb x):∃b1 x1,(takeL t.1 a.1 old)[(b.1-1).toNat]? =some b1/\Srt b1.2.2.2.2.2.2.2/\b1.2.2.2.2.2.2.2.length<=100/\(putL (takeL t.1 a.1 old) b.1 name id)[(id-1).toNat]? =some x1:=by
 obtain⟨k1,k2,hid2,hidl,hxu,hxp⟩:=m.ne h;have hfa:=h.few m.da.1;have hfb:=h.few m.db.1;have hb1:∃b1,(takeL t.1 a.1 old)[(b.1-1).toNat]? =some b1/\Srt b1.2.2.2.2.2.2.2/\b1.2.2.2.2.2.2.2.length<=100:=by
  unfold takeL;rw[btZ,m.db.1.2.1];split
  ·refine⟨_,rfl,dbZ old (h.srt m.db.1),?_⟩;have:(delE nb.2.2.2.2.2.2.2 old).length<=nb.2.2.2.2.2.2.2.length:=List.length_filter_le _ _;show(delE _ _).length<=100;omega
  ·exact⟨_,rfl,h.srt m.db.1,hfb⟩
 obtain⟨b1,h1,h2,h3⟩:=hb1;refine⟨b1,x,h1,h2,h3,?_⟩;unfold putL takeL;rw[btZ,btZ,if_neg k2,if_neg k1];exact m.x
theorem jyZ(h:TreeOK t)(m:MvOk t a old b name id na nb x)(hanc:x.2.2.2.1=true->¬Anc t.1 id b.1):tRen fuel t a old b name=some (mvL t.1 a.1 old b.1 name id,(t.2,([],0))):=by
 have ha:=m.da;have hb:=m.db;have hs:=m.nm;have hea:=m.ea;have hx:=m.x;have hno:=m.no;obtain⟨g1,g2,g3,y,g4,g5,g6⟩:=h.ent ha hea;rw[hx] at g4;cases g4;have hlen:=h.r.len;have hpa:=cSZ (h.srt ha.1) hea;have hpal:=(List.getElem?_eq_some_iff.1 hpa).1;unfold tRen;rw[show((t.1,t.2):Tree)=t from rfl,show((a.1,a.2):Int×Int)=a from rfl,show((b.1,b.2):Int×Int)=b from rfl,aYZ h ha hb,Option.bind_some];simp only[beq_self_eq_true,Bool.not_true,cond_false];rw[awZ,Option.bind_some,g1];simp only[Bool.not_true,cond_false];rw[awZ,Option.bind_some,hs];simp only[Bool.not_true,cond_false,Option.bind_some];rw[show idx? 0 [na,nb].length=some 0 from rfl,Option.bind_some,show[na,nb][0]? =some na from rfl,Option.bind_some,h.ent_ok ha,Option.bind_some,a7Z.2 ⟨id,hea⟩];simp only[Bool.not_true,cond_false,Option.bind_some];rw[show[na,nb][0]? =some na from rfl,Option.bind_some,alZ hpal,Option.bind_some,hpa,Option.bind_some,w64 (by omega),azZ (by omega) (by omega),Option.bind_some,hx,Option.bind_some];have hbel:(bif x.2.2.2.1 then(tbel fuel (t.1,t.2) b.1 id).bind fun r11=>some (r11,(t.1,(t.2,(a.1,(a.2,(b.1,(b.2,((0:Int),[na,nb]))))))))
  else some (false,(t.1,(t.2,(a.1,(a.2,(b.1,(b.2,(0,[na,nb])))))))))=some (false,(t.1,(t.2,(a.1,(a.2,(b.1,(b.2,(0,[na,nb])))))))):=by
  cases hd:x.2.2.2.1 with
  |false=>rfl
  |true=>
   simp only[cond_true];obtain⟨r,hr,hq⟩:=djZ h hb id;have:r=false:=by
    cases r with
    |false=>rfl
    |true=>exact absurd (hq.1 rfl) (hanc hd)
   rw[show((t.1,t.2):Tree)=t from rfl,hr,this]
   rfl
 rw[hbel,Option.bind_some];simp only[cond_false];obtain⟨rows,ms,hc,hF⟩:=b0Z h.r.fit;rw[show idx? 1 [na,nb].length=some 1 from rfl,Option.bind_some,show[na,nb][1]? =some nb from rfl,Option.bind_some,h.ent_ok hb,Option.bind_some,show((t.1,t.2):Tree)=t from rfl,hc,Option.bind_some];simp only[hno,cond_false,Option.bind_some];have hfull:(bif !(a.1==b.1) then
  (idx? 1 [na,nb].length).bind fun q10=>([na,nb])[q10]?.bind fun r24=>some ((decide (((r24.2.2.2.2.2.2.2.length:Nat):Int)>=100)),(a.1,(a.2,(b.1,(b.2,((0:Int),(t.2,(rows,ms))))))))
  else some (false,(a.1,(a.2,(b.1,(b.2,(0,(t.2,(rows,ms)))))))))=some (false,(a.1,(a.2,(b.1,(b.2,(0,(t.2,(rows,ms)))))))):=by
  by_cases hab:a.1=b.1
  ·rw[show(a.1==b.1)=true from by simp[hab]]
   rfl
  ·rw[beq_eq_false_iff_ne.2 hab];have:=m.few hab;simp only[Bool.not_false,cond_true];rw[show idx? 1 [na,nb].length=some 1 from rfl,Option.bind_some,show[na,nb][1]? =some nb from rfl,Option.bind_some,decide_eq_false (show¬((nb.2.2.2.2.2.2.2.length:Nat):Int)>=100 by omega)]
 rw[hfull,Option.bind_some];simp only[cond_false];obtain⟨b1,x1,p1,p2,p3,p4⟩:=kRZ h m;obtain⟨rows1,ms1,ht,hF1⟩:=d9Z t.2 old hF (by omega) ha.1.1 ha.1.2.1 (by have:=h.few ha.1;omega);rw[<-dxZ ha] at hF1;have hl1:(takeL t.1 a.1 old).length=t.1.length:=bdZ ..;obtain⟨rows2,ms2,hp2,hF2⟩:=put_ok t.2 name id hF1 (by omega) hb.1.1 p1 p2 (by omega);have e2:putL (takeL t.1 a.1 old) b.1 name id=(takeL t.1 a.1 old).set (b.1-1).toNat (wE b1 (insE b1.2.2.2.2.2.2.2 name id)):=bBZ _ p1;rw[<-e2] at hF2;have hl2:(putL (takeL t.1 a.1 old) b.1 name id).length=t.1.length:=(bdZ ..).trans hl1;have hrl:=hF2.len;rw[ht,Option.bind_some];simp only;rw[hp2,Option.bind_some];simp only;obtain⟨row,hr,⟨y,hry⟩,_⟩:=hF2.row p4;have hF3:=hF2.keep (row':=toE (wP x1 b.1) y) (k':=wP x1 b.1) hr p4 ⟨y,rfl⟩ (by rw[hry];rfl) rfl;have e3:parL (putL (takeL t.1 a.1 old) b.1 name id) id b.1=(putL (takeL t.1 a.1 old) b.1 name id).set (id-1).toNat (wP x1 b.1):=bBZ _ p4;rw[<-e3] at hF3;rw[azZ (by omega) (by omega),Option.bind_some,hr,Option.bind_some];have e4:(row.1,(row.2.1,(row.2.2.1,(row.2.2.2.1,(row.2.2.2.2.1,(row.2.2.2.2.2.1,(b.1,row.2.2.2.2.2.2.2)))))))=toE (wP x1 b.1) y:=by rw[hry];rfl
 rw[e4];erw[bzZ (FamE.pure1 hF3)]
 rfl
theorem j1Z(h:TreeOK t)(ha:IsD t.1 a na)(hb:IsD t.1 b nb)(hs:namedB name=true)(hea:(old,id)∈na.2.2.2.2.2.2.2)(hx:t.1[(id-1).toNat]? =some x)(hanc:x.2.2.2.1=true->¬Anc t.1 id b.1)(heb:(name,other)∈nb.2.2.2.2.2.2.2)(hne:other≠id)(hz:t.1[(other-1).toNat]? =some z)(hm:misE x.2.2.2.1 z=0)
 {na' nb' x':Ino}(h0:TreeOK (dropL (takeL t.1 b.1 name) other,t.2))(m:MvOk (dropL (takeL t.1 b.1 name) other,t.2) a old b name id na' nb' x'):
 tRen fuel t a old b name=some (mvL (dropL (takeL t.1 b.1 name) other) a.1 old b.1 name id,(t.2,(keptP z.2.2.2.2.2.1,0))):=by
 obtain⟨q1,q2,q3,z',q4,q5,q6⟩:=h.ent hb heb;rw[hz] at q4;cases q4;obtain⟨g1,g2,g3,y,g4,g5,g6⟩:=h.ent ha hea;rw[hx] at g4;cases g4;have hlen:=h.r.len;have hpa:=cSZ (h.srt ha.1) hea;have hpal:=(List.getElem?_eq_some_iff.1 hpa).1;unfold tRen;rw[show((t.1,t.2):Tree)=t from rfl,show((a.1,a.2):Int×Int)=a from rfl,show((b.1,b.2):Int×Int)=b from rfl,aYZ h ha hb,Option.bind_some];simp only[beq_self_eq_true,Bool.not_true,cond_false];rw[awZ,Option.bind_some,g1];simp only[Bool.not_true,cond_false];rw[awZ,Option.bind_some,hs];simp only[Bool.not_true,cond_false,Option.bind_some];rw[show idx? 0 [na,nb].length=some 0 from rfl,Option.bind_some,show[na,nb][0]? =some na from rfl,Option.bind_some,h.ent_ok ha,Option.bind_some,a7Z.2 ⟨id,hea⟩];simp only[Bool.not_true,cond_false,Option.bind_some];rw[show[na,nb][0]? =some na from rfl,Option.bind_some,alZ hpal,Option.bind_some,hpa,Option.bind_some,w64 (by omega),azZ (by omega) (by omega),Option.bind_some,hx,Option.bind_some];have hbel:(bif x.2.2.2.1 then(tbel fuel (t.1,t.2) b.1 id).bind fun r11=>some (r11,(t.1,(t.2,(a.1,(a.2,(b.1,(b.2,((0:Int),[na,nb]))))))))
  else some (false,(t.1,(t.2,(a.1,(a.2,(b.1,(b.2,(0,[na,nb])))))))))=some (false,(t.1,(t.2,(a.1,(a.2,(b.1,(b.2,(0,[na,nb])))))))):=by
  cases hd:x.2.2.2.1 with
  |false=>rfl
  |true=>
   simp only[cond_true];obtain⟨r,hr,hq⟩:=djZ h hb id;have:r=false:=by
    cases r with
    |false=>rfl
    |true=>exact absurd (hq.1 rfl) (hanc hd)
   rw[show((t.1,t.2):Tree)=t from rfl,hr,this]
   rfl
 rw[hbel,Option.bind_some];simp only[cond_false];obtain⟨rows,ms,hc,hF⟩:=b0Z h.r.fit;rw[show idx? 1 [na,nb].length=some 1 from rfl,Option.bind_some,show[na,nb][1]? =some nb from rfl,Option.bind_some,h.ent_ok hb,Option.bind_some,show((t.1,t.2):Tree)=t from rfl,hc,Option.bind_some];have hpb:=cSZ (h.srt hb.1) heb;have hpbl:=(List.getElem?_eq_some_iff.1 hpb).1;simp only[a7Z.2 ⟨_,heb⟩,cond_true];rw[Option.bind_some,show[na,nb][1]? =some nb from rfl,Option.bind_some,alZ hpbl,Option.bind_some,hpb,Option.bind_some,Option.bind_some];simp only[beq_eq_false_iff_ne.2 hne,cond_false];rw[show idx? 1 [na,nb].length=some 1 from rfl,Option.bind_some,show[na,nb][1]? =some nb from rfl,Option.bind_some,alZ hpbl,Option.bind_some,hpb,Option.bind_some,w64 (by omega),azZ (by omega) (by omega),Option.bind_some,hz,Option.bind_some,dCZ,Option.bind_some,hm];simp only[beq_self_eq_true,Bool.not_true,cond_false];have hze:z.2.2.2.2.2.2.2=[]:=by
  unfold misE at hm;split at hm
  ·cases hm
  ·split at hm
   ·cases hm
   ·split at hm
    ·assumption
    ·cases hm
 obtain⟨rows0,mp,me,hw,hP0,hE0⟩:=jKZ h hb heb hz hze;rw[show((t.1,t.2):Tree)=t from rfl,hw,Option.bind_some];simp only[beq_self_eq_true,Bool.not_true,cond_false];obtain⟨b1,x1,p1,p2,p3,p4⟩:=kRZ h0 m;simp only at p1 p4;have hl0:(dropL (takeL t.1 b.1 name) other).length=t.1.length:=(bdZ ..).trans (bdZ ..);have hna':=h0.few m.da.1;obtain⟨rows1,me1,ht,hP1,hE1⟩:=phZ t.2 old hP0 hE0 (by omega) m.da.1.1 m.da.1.2.1 (by omega);rw[<-dxZ (t:=(dropL (takeL t.1 b.1 name) other,t.2)) m.da] at hP1 hE1;simp only at hP1 hE1;have hl1:(takeL (dropL (takeL t.1 b.1 name) other) a.1 old).length=t.1.length:=(bdZ ..).trans hl0;obtain⟨rows2,me2,hp2,hP2,hE2⟩:=rtZ t.2 name id hP1 hE1 (by omega) hb.1.1 p1 p2 (by omega);have e2:putL (takeL (dropL (takeL t.1 b.1 name) other) a.1 old) b.1 name id=(takeL (dropL (takeL t.1 b.1 name) other) a.1 old).set (b.1-1).toNat (wE b1 (insE b1.2.2.2.2.2.2.2 name id)):=bBZ _ p1;rw[<-e2] at hP2 hE2;have hl2:(putL (takeL (dropL (takeL t.1 b.1 name) other) a.1 old) b.1 name id).length=t.1.length:=(bdZ ..).trans hl1;have hrl:=hP2.len;rw[ht,Option.bind_some];simp only;rw[hp2,Option.bind_some];simp only;obtain⟨row,hr,⟨y,w,hry⟩,_⟩:=hP2.row p4;have hP3:=hP2.keep (row':=to2 (wP x1 b.1) y w) (k':=wP x1 b.1) hr p4 ⟨y,w,rfl⟩ (by rw[hry];rfl) rfl;have hE3:=hE2.keep (row':=to2 (wP x1 b.1) y w) (k':=wP x1 b.1) hr p4 ⟨y,w,rfl⟩ (by rw[hry];rfl) rfl;have e3:parL (putL (takeL (dropL (takeL t.1 b.1 name) other) a.1 old) b.1 name id) id b.1=(putL (takeL (dropL (takeL t.1 b.1 name) other) a.1 old) b.1 name id).set (id-1).toNat (wP x1 b.1):=bBZ _ p4;rw[<-e3] at hP3 hE3;rw[azZ (by omega) (by omega),Option.bind_some,hr,Option.bind_some];have e4:(row.1,(row.2.1,(row.2.2.1,(row.2.2.2.1,(row.2.2.2.2.1,(row.2.2.2.2.2.1,(b.1,row.2.2.2.2.2.2.2)))))))=to2 (wP x1 b.1) y w:=by rw[hry];rfl
 rw[e4];erw[bzZ (nTZ (ms.map frz1) hP3 hE3)]
 rfl
end
end Go.Ab.D
namespace Go.Ab.D
open Go Go.Ab
theorem iiZ{dir:Bool}{x:Ino}(h:misE dir x=0):x.2.2.2.2.2.2.2=[]/\x.2.2.2.1=dir:=by
 unfold misE at h;split at h
 ·cases h
 ·rename_i h1;split at h
  ·cases h
  ·rename_i h2;split at h
   ·rename_i h3;refine⟨h3,?_⟩;cases dir<;>cases hd:x.2.2.2.1<;>simp_all
   ·cases h
section
variable {t : Tree} {a b d : Int × Int} {na nb n x z : Ino} {old name s : List UInt8} {id other : Int}
def Found(t:Tree)(d:Int×Int)(s:List UInt8)(h:Int×Int):Prop:=∃n x,IsD t.1 d n/\(s,h.1)∈n.2.2.2.2.2.2.2/\t.1[(h.1-1).toNat]? =some x/\x.2.1=h.2/\x.2.2.1=true
structure MadeOk (t:Tree) (d:Int×Int) (s:List UInt8) (is:Bool) (T:Tree) (f:Int×Int) (n:Ino) (l':List Ino) (i:Nat):Prop where
 dir:IsD t.1 d n
 nm:namedB s=true
 no:hasN n.2.2.2.2.2.2.2 s=false
 few:n.2.2.2.2.2.2.2.length<100
 alc:Alc t.1 is d.1 l' i f.2
 T:T=(putL l' d.1 s ((i:Int)+1),t.2)
 f:f.1=(i:Int)+1
theorem pfZ{l':List Ino}{i:Nat}{g:Int}{is:Bool}(hn:IsD t.1 d n)(hA:Alc t.1 is d.1 l' i g)(id:Int):madeL l' d.1 n s id=putL l' d.1 s id:=by
 have hne:(d.1-1).toNat≠i:=fun hc=>by
  have:=hA.was n (by rw[<-hc];exact hn.1.2.1);rw[hn.1.2.2.1] at this;cases this
 unfold madeL putL;rw[bBZ _ (by rw[hA.old _ hne];exact hn.1.2.1)]
structure RmOk (t:Tree) (d:Int×Int) (s:List UInt8) (is:Bool) (T:Tree) (gone:List Part) (n:Ino) (id:Int) (x:Ino):Prop where
 dir:IsD t.1 d n
 e:(s,id)∈n.2.2.2.2.2.2.2
 at_:t.1[(id-1).toNat]? =some x
 mis:misE is x=0
 T:T=(dropL (takeL t.1 d.1 s) id,t.2)
 gone:gone=keptP x.2.2.2.2.2.1
theorem saZ(h:TreeOK t)(ha:IsD t.1 a na)(hb:IsD t.1 b nb)(hea:(old,id)∈na.2.2.2.2.2.2.2)(hx:t.1[(id-1).toNat]? =some x)(hanc:x.2.2.2.1=true->¬Anc t.1 id b.1):¬Anc t.1 id b.1:=by
 cases hd:x.2.2.2.1 with
 |true=>exact hanc hd
 |false=>
  intro hc;obtain⟨_,h2,_,y,hy,hu,_⟩:=h.ent ha hea;rw[hx] at hy;cases hy;have hxe:x.2.2.2.2.2.2.2=[]:=((h.r.ino _ x hx).file hu hd).2.1;have:=o4Z h hx h2 hxe hc hb.1.1;have hn:=hb.1.2.1;rw[this,hx] at hn;cases hn;rw[hb.2] at hd;cases hd
theorem q7Z(h:TreeOK t)(ha:IsD t.1 a na)(hb:IsD t.1 b nb)(hs:namedB name=true)(hea:(old,id)∈na.2.2.2.2.2.2.2)(hx:t.1[(id-1).toNat]? =some x)(hanc:¬Anc t.1 id b.1)(heb:(name,other)∈nb.2.2.2.2.2.2.2)(hne:other≠id)(hz:t.1[(other-1).toNat]? =some z)(hze:z.2.2.2.2.2.2.2=[]):
 ∃na' nb',MvOk (dropL (takeL t.1 b.1 name) other,t.2) a old b name id na' nb' x/\nb'=wE nb (delE nb.2.2.2.2.2.2.2 name):=by
 obtain⟨_,i2,i3,y,hy,hu,hp⟩:=h.ent ha hea;rw[hx] at hy;cases hy;obtain⟨_,o2,o3,w,hw,hzu,hzp⟩:=h.ent hb heb;rw[hz] at hw;cases hw;have hk:=poZ heb hb hz hze;have hka:(other-1).toNat≠(a.1-1).toNat:=fun hc=>by
  have:=ha.1.2.1;rw[<-hc,hz] at this;cases this;rw[hze] at hea;cases hea
 have hat:=fun j=>rVZ (s:=name) hk hb hz j;have hb1:=hb.1.1;have hfb:=h.few hb.1;have hdl:=kFZ (h.srt hb.1) heb;have hkb:(id-1).toNat≠(b.1-1).toNat:=fun hc=>by
  have:id=b.1:=by omega
  exact hanc (by rw[this];exact .refl)
 have hno:hasN (delE nb.2.2.2.2.2.2.2 name) name=false:=by
  cases hh:hasN (delE nb.2.2.2.2.2.2.2 name) name with
  |false=>rfl
  |true=>obtain⟨i,hi⟩:=a7Z.1 hh;exact absurd rfl (b2Z.1 hi).2
 have hdb:IsD (dropL (takeL t.1 b.1 name) other) b (wE nb (delE nb.2.2.2.2.2.2.2 name)):=⟨⟨hb1,by rw[hat,if_neg (by omega),if_pos rfl],hb.1.2.2.1,hb.1.2.2.2⟩,hb.2⟩;have hda:∃na',IsD (dropL (takeL t.1 b.1 name) other) a na'/\(old,id)∈na'.2.2.2.2.2.2.2:=by
  by_cases hab:(a.1-1).toNat=(b.1-1).toNat
  ·have hnn:na=nb:=by
    have:=ha.1.2.1;rw[hab,hb.1.2.1] at this;injection this with this;exact this.symm
   subst hnn;refine⟨wE na (delE na.2.2.2.2.2.2.2 name),⟨⟨ha.1.1,by rw[hat,if_neg (by omega),if_pos hab],ha.1.2.2.1,ha.1.2.2.2⟩,ha.2⟩,b2Z.2 ⟨hea,fun hc=> ?_⟩⟩;have hc:old=name:=hc;subst hc;exact hne (ddZ (h.srt hb.1) heb hea)
  ·exact⟨na,⟨⟨ha.1.1,by rw[hat,if_neg (by omega),if_neg hab];exact ha.1.2.1,ha.1.2.2.1,ha.1.2.2.2⟩,ha.2⟩,hea⟩
 obtain⟨na',hda,hea'⟩:=hda;refine⟨na',_,⟨hda,hdb,hea',?_,hs,hno,fun _=> ?_,fun hc=>hanc ?_⟩,rfl⟩
 ·show(dropL (takeL t.1 b.1 name) other)[(id-1).toNat]? =_;rw[hat,if_neg (by omega),if_neg hkb];exact hx
 ·show(delE _ _).length<100;omega
 ·have go:∀i,Anc (dropL (takeL t.1 b.1 name) other) id i->1<=i->Anc t.1 id i:=fun i hi=>by
   induction hi with
   |refl=>intro _;exact .refl
   | @step i y h1 hy hyu _ ih=>
     intro hi1;rw[hat] at hy;by_cases c1:(i-1).toNat=(other-1).toNat
     ·rw[if_pos c1] at hy;cases hy;cases hyu
     ·rw[if_neg c1] at hy;by_cases c2:(i-1).toNat=(b.1-1).toNat
      ·rw[if_pos c2] at hy;cases hy;exact .step h1 (by rw[c2];exact hb.1.2.1) hb.1.2.2.1 (ih ((h.r.ino _ nb hb.1.2.1).par hb.1.2.2.1).1)
      ·rw[if_neg c2] at hy;exact .step h1 hy hyu (ih ((h.r.ino _ y hy).par hyu).1)
  exact go _ hc hb1
inductive Moved (t:Tree) (a:Int×Int) (old:List UInt8) (b:Int×Int) (name:List UInt8) (T:Tree) (gone:List Part) (id:Int) (x:Ino):Prop
 |same {na nb:Ino}:T=t->gone=[]->IsD t.1 a na->IsD t.1 b nb->(old,id)∈na.2.2.2.2.2.2.2->(name,id)∈nb.2.2.2.2.2.2.2->t.1[(id-1).toNat]? =some x->Moved t a old b name T gone id x
 |move {na nb:Ino}:T=(mvL t.1 a.1 old b.1 name id,t.2)->gone=[]->MvOk t a old b name id na nb x->Moved t a old b name T gone id x
 |over {na nb na' nb' z:Ino} {other:Int}:T=(mvL (dropL (takeL t.1 b.1 name) other) a.1 old b.1 name id,t.2)->gone=keptP z.2.2.2.2.2.1->IsD t.1 a na->IsD t.1 b nb->(old,id)∈na.2.2.2.2.2.2.2->t.1[(id-1).toNat]? =some x->(name,other)∈nb.2.2.2.2.2.2.2->other≠id->t.1[(other-1).toNat]? =some z->misE x.2.2.2.1 z=0->TreeOK (dropL (takeL t.1 b.1 name) other,t.2)->MvOk (dropL (takeL t.1 b.1 name) other,t.2) a old b name id na' nb' x->Moved t a old b name T gone id x
end
theorem ryZ:TreeOK ([(1,1,true,true,0,[],1,[])],0):=by
 refine⟨⟨by simp,by simp,fun i n hn=> ?_,by simp[allStripes,stripes],_,rfl,rfl,rfl,rfl⟩,fun i n hn s id he=> ?_,fun j x hx hu hj=> ?_,fun j x hx hu=> ?_⟩
 ·cases i with
  |zero=>simp at hn;subst hn;exact⟨rfl,by simp,by simp,fun _ _=>⟨rfl,rfl,by simp,trivial⟩,by simp,by simp⟩
  |succ i=>simp at hn
 ·cases i with
  |zero=>simp at hn;subst hn;cases he
  |succ i=>simp at hn
 ·cases j with
  |zero=>exact absurd rfl hj
  |succ i=>simp at hx
 ·cases j with
  |zero=>exact .root
  |succ i=>simp at hx
end Go.Ab.D
namespace Go.Ab.D
open Go Go.Ab
def allocF(l:List Ino)(dir:Bool)(parent:Int):Option (List Ino×Nat×Int):=
 match freeAt l with
 |none=>if l.length<500 then some (l++[((l.length:Int)+1,1,true,dir,0,[],parent,[])],l.length,1) else none
 |some i=>match l[i]? with
  |none=>none
  |some n=>if n.2.1<1099511627776 then some (l.set i ((i:Int)+1,n.2.1+1,true,dir,0,[],parent,[]),i,n.2.1+1) else none
theorem qNZ{l l':List Ino}{dir:Bool}{parent g:Int}{i:Nat}(h:Alc l dir parent l' i g):allocF l dir parent=some (l',i,g):=by
 unfold allocF;have hs:=h.slot;have hlen:=h.len;cases hf:freeAt l with
 |none=>
  rw[hf] at hs;have hs:i=l.length:=hs;rw[if_neg (by omega)] at hlen;have:=h.few;have hg:g=0+1:=by
   have:=h.gen;rw[List.getElem?_eq_none (by omega)] at this;exact this
  rw[if_pos (by omega)];subst hs hg;show some (l++[((l.length:Int)+1,1,true,dir,0,[],parent,[])],l.length,(1:Int))=some (l',l.length,0+1);have e:l++[((l.length:Int)+1,1,true,dir,0,[],parent,[])]=l':= ?_
  ·rw[e];rfl
  refine List.ext_getElem? fun j=> ?_;by_cases hj:j=l.length
  ·subst hj;rw[h.new];simp
  ·rw[h.old j hj];by_cases hj2:j<l.length
   ·rw[List.getElem?_append_left hj2]
   ·rw[List.getElem?_eq_none (by simp;omega),List.getElem?_eq_none (by omega)]
 |some k=>
  rw[hf] at hs;have hs:i=k:=hs;subst hs;obtain⟨hk,_,_⟩:=List.findIdx?_eq_some_iff_getElem.1 hf;have hg:l[i]? =some l[i]:=List.getElem?_eq_getElem hk;have hgen:=h.gen;rw[hg] at hgen;have hgen:g=l[i].2.1+1:=hgen;have:=h.top;simp only[hg];rw[if_pos (by omega),<-hgen];congr 2;refine List.ext_getElem? fun j=> ?_;by_cases hj:j=i
  ·subst hj;rw[h.new,List.getElem?_set_self hk]
  ·rw[h.old j hj,List.getElem?_set_ne (by omega)]
theorem lSZ{l:List Ino}(h:noRoom l)(dir:Bool)(parent:Int):allocF l dir parent=none:=by
 unfold noRoom at h;unfold allocF;cases hf:freeAt l with
 |none=>rw[hf] at h;exact if_neg (by omega)
 |some i=>
  rw[hf] at h;obtain⟨n,hn,hg⟩:=h;simp only[hn];exact if_neg (by omega)
def findE(l:List Ent)(s:List UInt8):Option Int:=(l.find? fun e=>e.1==s).map (·.2)
theorem dhZ{l:List Ent}(h:Srt l){s:List UInt8}{id:Int}(hm:(s,id)∈l):findE l s=some id:=by
 unfold findE;cases hf:l.find? (fun e=>e.1==s) with
 |none=>have:=List.find?_eq_none.1 hf _ hm;simp at this
 |some e=>
  have h1:=List.mem_of_find?_eq_some hf;have h2:=List.find?_some hf;have h2:e.1=s:=by simpa using h2
  have:(s,e.2)∈l:=by rw[<-h2];exact h1
  rw[ddZ h hm this]
  rfl
theorem doZ{l:List Ent}{s:List UInt8}(h:hasN l s=false):findE l s=none:=by
 unfold findE;rw[List.find?_eq_none.2]
 ·rfl
 ·intro e he hh;have h2:e.1=s:=by simpa using hh
  have:=(a7Z (l:=l) (s:=s)).2 ⟨e.2,by rw[<-h2];exact he⟩;rw[h] at this;cases this
def ancB(l:List Ino)(top:Int):Nat->Int->Bool
 |0,id=>id==top
 |k+1,id=>bif id==top then true else bif id==1 then false else match l[(id-1).toNat]? with
  |some n=>n.2.2.1&&ancB l top k n.2.2.2.2.2.2.1
  |none=>false
theorem ngZ{l:List Ino}(top:Int):∀(k:Nat) (id:Int),reachN l k id=true->(ancB l top k id=true↔Anc l top id)
 |0,id,h=>by
  have h:id=1:=by unfold reachN at h;simpa using h
  unfold ancB;rw[beq_iff_eq];constructor
  ·rintro rfl;exact .refl
  ·intro ha;cases ha with
   |refl=>rfl
   |step h1=>exact absurd h h1
 |k+1,id,h=>by
  unfold ancB;cases h1:(id==top) with
  |true=>rw[beq_iff_eq] at h1;subst h1;simp;exact .refl
  |false=>
   cases h2:(id==1) with
   |true=>
    simp only[cond_false,cond_true];constructor
    ·intro hc;cases hc
    ·intro ha;cases ha with
     |refl=>rw[beq_self_eq_true] at h1;cases h1
     |step h3=>rw[beq_iff_eq] at h2;exact absurd h2 h3
   |false=>
    unfold reachN at h;rw[h2] at h;simp only[cond_false] at h⊢;cases hg:l[(id-1).toNat]? with
    |none=>rw[hg] at h;cases h
    |some n=>
     rw[hg] at h;simp only[Bool.and_eq_true] at h⊢;rw[ngZ top k _ h.2];constructor
     ·rintro⟨h3,h4⟩;exact .step (by simpa using h2) hg h3 h4
     ·intro ha;cases ha with
      |refl=>rw[beq_self_eq_true] at h1;cases h1
      |step _ h4 h5 h6=>rw[hg] at h4;cases h4;exact⟨h5,h6⟩
theorem leZ{t:Tree}(h:TreeOK t){b:Int×Int}{nb:Ino}(hb:IsD t.1 b nb)(top:Int):ancB t.1 top t.1.length b.1=true↔Anc t.1 top b.1:=by
 have hlt:=(List.getElem?_eq_some_iff.1 hb.1.2.1).1;have hdb:=evZ hb;have hb1:=hb.1.1;exact ngZ top _ _ (eAZ h.r.len.1 (fun j x hx hxu=>(h.r.ino j x hx).par hxu) hb1 (by omega) (by have:=h.a _ nb hb.1.2.1 hb.1.2.2.1;rw[hdb] at this;exact this))
def makeF(t:Tree)(d:Int×Int)(s:List UInt8)(is:Bool):Tree×(Int×Int)×Int:=
 if dirE t.1 d=0 then
  if namedB s=true then
   match t.1[(d.1-1).toNat]? with
   |none=>(t,(0,0),170)
   |some n=>if hasN n.2.2.2.2.2.2.2 s=true then(t,(0,0),172) else if 100<=n.2.2.2.2.2.2.2.length then(t,(0,0),5) else
    match allocF t.1 is d.1 with
    |none=>(t,(0,0),5)
    |some (l',i,g)=>((putL l' d.1 s ((i:Int)+1),t.2),((i:Int)+1,g),0)
  else(t,(0,0),176)
 else(t,(0,0),dirE t.1 d)
theorem nGZ{t:Tree}(h:TreeOK t)(d:Int×Int)(s:List UInt8)(is:Bool):tree_Make fuel t d s is=some ((makeF t d s is).1.1,((makeF t d s is).1.2,((makeF t d s is).2.1.1,((makeF t d s is).2.1.2,(makeF t d s is).2.2))))/\TreeOK (makeF t d s is).1:=by
 unfold makeF;rcases bxZ t.1 d with⟨n,hn⟩|⟨hb,_⟩
 ·rw[if_pos (bSZ hn),hn.1.2.1];simp only;cases hs:namedB s with
  |false=>rw[if_neg (by simp)];exact⟨mZZ h is hn hs,h⟩
  |true=>
   rw[if_pos rfl];cases hh:hasN n.2.2.2.2.2.2.2 s with
   |true=>rw[if_pos rfl];exact⟨lNZ h is hn hs hh,h⟩
   |false=>
    rw[if_neg (by simp)];by_cases hl:100<=n.2.2.2.2.2.2.2.length
    ·rw[if_pos hl];exact⟨nDZ h is hn hs hh hl,h⟩
    ·rw[if_neg hl];rcases lFZ h is hn hs hh (by omega) with⟨hno,hm⟩|⟨l',i,g,hA,hm⟩
     ·rw[lSZ hno];exact⟨hm,h⟩
     ·rw[qNZ hA,hm,pfZ hn hA];exact⟨rfl,oFZ h hn hs hh (by omega) hA⟩
 ·rw[if_neg hb];exact⟨pEZ h s is hb,h⟩
def removeF(t:Tree)(d:Int×Int)(s:List UInt8)(is:Bool):Tree×List Part×Int:=
 if dirE t.1 d=0 then
  if namedB s=true then
   match t.1[(d.1-1).toNat]? with
   |none=>(t,[],170)
   |some n=>match findE n.2.2.2.2.2.2.2 s with
    |none=>(t,[],171)
    |some id=>match t.1[(id-1).toNat]? with
     |none=>(t,[],170)
     |some x=>if misE is x=0 then((dropL (takeL t.1 d.1 s) id,t.2),keptP x.2.2.2.2.2.1,0) else(t,[],misE is x)
  else(t,[],176)
 else(t,[],dirE t.1 d)
theorem iJZ{t:Tree}(h:TreeOK t)(d:Int×Int)(s:List UInt8)(is:Bool):tRem fuel t d s is=some ((removeF t d s is).1.1,((removeF t d s is).1.2,((removeF t d s is).2.1,(removeF t d s is).2.2)))/\TreeOK (removeF t d s is).1:=by
 unfold removeF;rcases bxZ t.1 d with⟨n,hn⟩|⟨hb,_⟩
 ·rw[if_pos (bSZ hn),hn.1.2.1];simp only;cases hs:namedB s with
  |false=>rw[if_neg (by simp)];exact⟨keZ h is hn hs,h⟩
  |true=>
   rw[if_pos rfl];cases hh:hasN n.2.2.2.2.2.2.2 s with
   |false=>rw[doZ hh];exact⟨kfZ h is hn hs hh,h⟩
   |true=>
    obtain⟨id,he⟩:=a7Z.1 hh;obtain⟨_,_,_,x,hx,hu,_⟩:=h.ent hn he;rw[dhZ (h.srt hn.1) he];simp only[hx];have hr:=kbZ h is hn he hx;by_cases hm:misE is x=0
    ·rw[if_pos hm] at hr⊢;exact⟨hr,k2Z h hn he hx (iiZ hm).1⟩
    ·rw[if_neg hm] at hr⊢;exact⟨hr,h⟩
 ·rw[if_neg hb];exact⟨lCZ h s is hb,h⟩
def renameF(t:Tree)(a:Int×Int)(old:List UInt8)(b:Int×Int)(name:List UInt8):Tree×List Part×Int:=
 if dirE t.1 a=0 then
  if dirE t.1 b=0 then
   if(namedB old&&namedB name)=true then
    match t.1[(a.1-1).toNat]? with
    |none=>(t,[],170)
    |some na=>match t.1[(b.1-1).toNat]? with
     |none=>(t,[],170)
     |some nb=>match findE na.2.2.2.2.2.2.2 old with
      |none=>(t,[],171)
      |some id=>match t.1[(id-1).toNat]? with
       |none=>(t,[],170)
       |some x=>if(x.2.2.2.1&&ancB t.1 id t.1.length b.1)=true then(t,[],178) else
        match findE nb.2.2.2.2.2.2.2 name with
        |none=>if a.1≠b.1/\100<=nb.2.2.2.2.2.2.2.length then(t,[],5) else((mvL t.1 a.1 old b.1 name id,t.2),[],0)
        |some other=>if other=id then(t,[],0) else match t.1[(other-1).toNat]? with
         |none=>(t,[],170)
         |some z=>if misE x.2.2.2.1 z=0 then((mvL (dropL (takeL t.1 b.1 name) other) a.1 old b.1 name id,t.2),keptP z.2.2.2.2.2.1,0) else(t,[],misE x.2.2.2.1 z)
   else(t,[],176)
  else(t,[],dirE t.1 b)
 else(t,[],dirE t.1 a)
theorem i0Z{t:Tree}(h:TreeOK t)(a:Int×Int)(old:List UInt8)(b:Int×Int)(name:List UInt8):tRen fuel t a old b name=some ((renameF t a old b name).1.1,((renameF t a old b name).1.2,((renameF t a old b name).2.1,(renameF t a old b name).2.2)))/\TreeOK (renameF t a old b name).1:=by
 unfold renameF;rcases bxZ t.1 a with⟨na,ha⟩|⟨hb,_⟩
 ·rw[if_pos (bSZ ha)];rcases bxZ t.1 b with⟨nb,hb⟩|⟨hb,_⟩
  ·rw[if_pos (bSZ hb)];cases hsn:(namedB old&&namedB name) with
   |false=>rw[if_neg (by simp)];exact⟨jxZ h ha hb hsn,h⟩
   |true=>
    rw[if_pos rfl,ha.1.2.1,hb.1.2.1];simp only;rw[Bool.and_eq_true] at hsn;obtain⟨hso,hs⟩:=hsn;cases hh:hasN na.2.2.2.2.2.2.2 old with
    |false=>rw[doZ hh];exact⟨jVZ h ha hb hso hs hh,h⟩
    |true=>
     obtain⟨id,hea⟩:=a7Z.1 hh;obtain⟨_,_,_,x,hx,hu,hp⟩:=h.ent ha hea;rw[dhZ (h.srt ha.1) hea];simp only[hx];by_cases hl:(x.2.2.2.1&&ancB t.1 id t.1.length b.1)=true
     ·rw[if_pos hl];rw[Bool.and_eq_true] at hl;exact⟨kaZ h ha hb hs hea hx hl.1 ((leZ h hb id).1 hl.2),h⟩
     ·rw[if_neg hl];have hanc:x.2.2.2.1=true->¬Anc t.1 id b.1:=fun h1 h2=>hl (by rw[h1,(leZ h hb id).2 h2];rfl);have hanc':=saZ h ha hb hea hx hanc;cases hhb:hasN nb.2.2.2.2.2.2.2 name with
      |false=>
       rw[doZ hhb];simp only;by_cases hfull:a.1≠b.1/\100<=nb.2.2.2.2.2.2.2.length
       ·rw[if_pos hfull];exact⟨jDZ h ha hb hs hea hx hanc hhb hfull.1 hfull.2,h⟩
       ·rw[if_neg hfull];have hfw:a.1≠b.1->nb.2.2.2.2.2.2.2.length<100:=fun hc=>by
         have:¬100<=nb.2.2.2.2.2.2.2.length:=fun hh=>hfull ⟨hc,hh⟩;omega
        have m:MvOk t a old b name id na nb x:=⟨ha,hb,hea,hx,hs,hhb,hfw,hanc'⟩;exact⟨jyZ h m hanc,k6Z h m⟩
      |true=>
       obtain⟨other,heb⟩:=a7Z.1 hhb;obtain⟨_,_,_,z,hz,hzu,hzp⟩:=h.ent hb heb;rw[dhZ (h.srt hb.1) heb];simp only;by_cases hne:other=id
       ·subst hne;rw[if_pos rfl];exact⟨jYZ h ha hb hs hea hx hanc heb,h⟩
       ·rw[if_neg hne,hz];simp only;by_cases hm:misE x.2.2.2.1 z=0
        ·rw[if_pos hm];have hze:=(iiZ hm).1;have h0:=k2Z h hb heb hz hze;obtain⟨na',nb',m,_⟩:=q7Z h ha hb hs hea hx hanc' heb hne hz hze;exact⟨j1Z h ha hb hs hea hx hanc heb hne hz hm h0 m,k6Z h0 m⟩
        ·rw[if_neg hm];exact⟨lHZ h ha hb hs hea hx hanc heb hne hz hm,h⟩
  ·rw[if_neg hb];exact⟨jBZ h ha hb,h⟩
 ·rw[if_neg hb];exact⟨jSZ h hb,h⟩
end Go.Ab.D
namespace Go.Ab.D
abbrev CallT:Type:=Int×(Int×(UInt8×((Int×Int)×(List UInt8×((Int×Int)×(List UInt8×(Int×(Int×List UInt8))))))))
abbrev Has:Type:=Bool×(Bool×(Bool×(Bool×(Int×(Bool×Bool)))))
instance hasD1:DecidableEq (Int×(Bool×Bool)):=instDecidableEqProd
instance hasD2:DecidableEq (Bool×(Int×(Bool×Bool))):=instDecidableEqProd
instance hasD3:DecidableEq (Bool×(Bool×(Int×(Bool×Bool)))):=instDecidableEqProd
instance hasD4:DecidableEq (Bool×(Bool×(Bool×(Int×(Bool×Bool))))):=instDecidableEqProd
instance hasD5:DecidableEq Has:=instDecidableEqProd
def shapeN(o:Nat):Has:=
 if o=1\/o=2\/o=3\/o=7\/o=8 then(true,(true,(false,(false,(0,(false,true))))))
 else if o=4 then(true,(false,(false,(true,(4096,(false,true))))))
 else if o=5 then(true,(false,(false,(true,(0,(true,true))))))
 else if o=6 then(true,(false,(false,(false,(2147483648,(false,true))))))
 else if o=9 then(true,(true,(true,(false,(0,(false,true))))))
 else if o=10 then(true,(true,(false,(false,(4096,(false,true))))))
 else if o=11 then(true,(false,(false,(false,(0,(false,true))))))
 else if o=12 then(false,(false,(false,(false,(0,(false,true))))))
 else(false,(false,(false,(false,(0,(false,false))))))
theorem nSZ:∀n:Nat,n<256->csha fuel ((n:Nat):Int)=some (shapeN n):=by decide+kernel
theorem pzZ(o:UInt8):csha fuel ((o.toNat:Nat):Int)=some (shapeN o.toNat):=nSZ _ o.toNat_lt
def whoseB(a b:Int):Bool:=decide (0<=a/\a<16/\1<=b/\b<=1099511627776)
theorem pGZ(a b:Int):cwho fuel a b=some (whoseB a b):=by
 unfold cwho whoseB;by_cases h1:a>=0<;>by_cases h2:a<16<;>by_cases h3:b>=1<;>by_cases h4:b<=1099511627776<;>
  simp[h1,h2,h3,h4]<;>omega
def handleB(h:Int×Int):Bool:=decide (1<=h.1/\h.1<=500/\1<=h.2/\h.2<=1099511627776)
theorem niZ(h:Int×Int):hRig fuel h=some (handleB h):=by
 unfold hRig handleB;by_cases h1:h.1>=1<;>by_cases h2:h.1<=500<;>by_cases h3:h.2>=1<;>by_cases h4:h.2<=1099511627776<;>
  simp[h1,h2,h3,h4]<;>omega
def ofB(is:Bool)(h:Int×Int):Bool:=bif is then handleB h else((h.1==0)&&(h.2==0))
theorem rHZ(is:Bool)(h:Int×Int):cRigCal1 fuel is h=some (ofB is h):=by
 unfold cRigCal1 ofB;cases is with
 |true=>
  simp only[cond_true];rw[niZ];have:handleB (h.1,h.2)=handleB h:=rfl;rw[this];simp only[Option.bind_some];cases handleB h<;>rfl
 |false=>rfl
def saidB(is:Bool)(l:List UInt8):Bool:=(l==[])||(is&&decide (l.length<=100))
theorem nRZ(is:Bool)(l:List UInt8):cRigCal2 fuel is l=some (saidB is l):=by
 unfold cRigCal2 saidB;have e:decide (((l.length:Nat):Int)<=100)=decide (l.length<=100):=by
  by_cases h:l.length<=100
  ·rw[decide_eq_true h,decide_eq_true (by omega)]
  ·rw[decide_eq_false h,decide_eq_false (by omega)]
 rw[e];cases(l==[])<;>cases is<;>rfl
def rightS(s:Has)(c:CallT):Bool:=
 s.2.2.2.2.2.2&&(whoseB c.1 c.2.1&&(ofB s.1 c.2.2.2.1&&(ofB s.2.2.1 c.2.2.2.2.2.1&&(saidB s.2.1 c.2.2.2.2.1&&(saidB s.2.2.1 c.2.2.2.2.2.2.1&&
  (decide (0<=c.2.2.2.2.2.2.2.1/\c.2.2.2.2.2.2.2.1<=2147483648)&&((s.2.2.2.1||(c.2.2.2.2.2.2.2.1==0))&&(decide (0<=c.2.2.2.2.2.2.2.2.1/\c.2.2.2.2.2.2.2.2.1<=s.2.2.2.2.1)&&
   (decide (c.2.2.2.2.2.2.2.2.2.length=0)||(s.2.2.2.2.2.1&&decide (c.2.2.2.2.2.2.2.2.2.length<=4096)))))))))))
def rightCall(c:CallT):Bool:=rightS (shapeN c.2.2.1.toNat) c
theorem a4Z(c:CallT):cRigCal fuel c=some (rightCall c):=by
 obtain⟨c1,c2,c3,⟨h1,h2⟩,nm,⟨t1,t2⟩,nw,off,n,bs⟩:=c;unfold cRigCal rightCall;simp only;rw[pzZ];generalize shapeN c3.toNat=s;obtain⟨sh,sn,st,so,sN,sb,ok⟩:=s;unfold rightS;simp only[Option.bind_some];cases ok with
 |false=>rfl
 |true=>
  simp only[Bool.not_true,cond_false];rw[pGZ];generalize whoseB c1 c2=w;cases w with
  |false=>rfl
  |true=>
   simp only[Option.bind_some,Bool.not_true,cond_false];rw[rHZ];generalize ofB sh (h1,h2)=a1;cases a1 with
   |false=>rfl
   |true=>
    simp only[Option.bind_some,Bool.not_true,cond_false];rw[rHZ];generalize ofB st (t1,t2)=a2;cases a2 with
    |false=>rfl
    |true=>
     simp only[Option.bind_some,Bool.not_true,cond_false];rw[nRZ];generalize saidB sn nm=a3;cases a3 with
     |false=>rfl
     |true=>
      simp only[Option.bind_some,Bool.not_true,cond_false];rw[nRZ];generalize saidB st nw=a4;cases a4 with
      |false=>rfl
      |true=>
       simp only[Option.bind_some,Bool.not_true,cond_false,Bool.true_and];by_cases o1:off<0
       ·rw[decide_eq_true o1,decide_eq_false (show¬(0<=off/\off<=2147483648) by omega)];rfl
       by_cases o2:off>2147483648
       ·rw[decide_eq_false o1,decide_eq_true o2,decide_eq_false (show¬(0<=off/\off<=2147483648) by omega)];rfl
       rw[decide_eq_false o1,decide_eq_false o2,decide_eq_true (show 0<=off/\off<=2147483648 by omega)];have eb:decide (((bs.length:Nat):Int)<=4096)=decide (bs.length<=4096):=by
        by_cases h:bs.length<=4096
        ·rw[decide_eq_true h,decide_eq_true (by omega)]
        ·rw[decide_eq_false h,decide_eq_false (by omega)]
       have e0:(((bs.length:Nat):Int)==0)=decide (bs.length=0):=by
        by_cases h:bs.length=0
        ·rw[decide_eq_true h,h];rfl
        ·rw[decide_eq_false h,beq_eq_false_iff_ne.2 (by omega)]
       by_cases n1:n<0
       ·rw[decide_eq_true n1,decide_eq_false (show¬(0<=n/\n<=sN) by omega)];cases so<;>cases(off==0)<;>rfl
       by_cases n2:n>sN
       ·rw[decide_eq_false n1,decide_eq_true n2,decide_eq_false (show¬(0<=n/\n<=sN) by omega)];cases so<;>cases(off==0)<;>rfl
       rw[decide_eq_false n1,decide_eq_false n2,decide_eq_true (show 0<=n/\n<=sN by omega),<-e0,<-eb];cases so<;>cases(off==0)<;>simp only[cond_true,cond_false,Bool.not_true,Bool.not_false,Option.bind_some,Bool.true_and,Bool.or_false,Bool.or_true,Bool.false_and,e0,eb]<;>
        (generalize decide (bs.length=0)=x0)<;>(generalize decide (bs.length<=4096)=x1)<;>cases x0<;>cases sb<;>cases x1<;>rfl
end Go.Ab.D
namespace Go.Ab.D
open Go Go.Ab
abbrev Byt:=List UInt8
abbrev Mod:=Tree×List Byt
structure ModelOK (m:Mod):Prop where
 t:TreeOK m.1
 n:m.2.length=m.1.1.length
 p:∀(i:Nat) x,m.1.1[i]? =some x->x.2.2.2.2.2.1=[]
 s:∀(i:Nat) x b,m.1.1[i]? =some x->m.2[i]? =some b->((b.length:Nat):Int)=x.2.2.2.2.1
theorem qIZ{t:Tree}(h:TreeOK t){i:Nat}{x:Ino}(hx:t.1[i]? =some x):0<=x.2.2.2.2.1/\x.2.2.2.2.1<=65536/\(x.2.2.1=false->x.2.2.2.2.1=0)/\(x.2.2.2.1=true->x.2.2.2.2.1=0):=by
 have o:=h.r.ino i x hx;cases hu:x.2.2.1 with
 |false=>have:=o.bare hu;refine⟨by omega,by omega,fun _=>this.2.1,fun hd=> ?_⟩;rw[this.1] at hd;cases hd
 |true=>
  cases hd:x.2.2.2.1 with
  |true=>have:=o.dir hu hd;exact⟨by omega,by omega,(by simp),fun _=>this.1⟩
  |false=>have:=o.file hu hd;exact⟨this.1.1,this.1.2,(by simp),(by simp)⟩
theorem ModelOK.at{m:Mod}(h:ModelOK m){i:Nat}{x:Ino}(hx:m.1.1[i]? =some x):∃b,m.2[i]? =some b/\((b.length:Nat):Int)=x.2.2.2.2.1/\b.length<=65536:=by
 have hlt:=(List.getElem?_eq_some_iff.1 hx).1;obtain⟨b,hb⟩:∃b,m.2[i]? =some b:=⟨_,List.getElem?_eq_getElem (by rw[h.n];exact hlt)⟩;have h1:=h.s i x b hx hb;have h2:=qIZ h.t hx;exact⟨b,hb,h1,by omega⟩
theorem ModelOK.byt{m:Mod}(h:ModelOK m){i:Nat}{b:Byt}(hb:m.2[i]? =some b):b.length<=65536:=by
 have hlt:=(List.getElem?_eq_some_iff.1 hb).1;obtain⟨x,hx⟩:∃x,m.1.1[i]? =some x:=⟨_,List.getElem?_eq_getElem (by rw[<-h.n];exact hlt)⟩;obtain⟨b',hb',_,h2⟩:=h.at hx;rw[hb] at hb';cases hb';exact h2
theorem ModelOK.len{m:Mod}(h:ModelOK m):1<=m.1.1.length/\m.1.1.length<=500:=h.t.r.len
theorem ModelOK.fit{m:Mod}(h:ModelOK m):Fit m.1.1:=h.t.r.fit
theorem axZ{m:Mod}(h:ModelOK m):mRig fuel m=some true:=by
 unfold mRig;have hl:=h.len;rw[show((m.1.1,m.1.2):Tree)=m.1 from rfl,bJZ h.t,Option.bind_some];simp only[Bool.not_true,cond_false,Option.bind_some];rw[h.n,beq_self_eq_true];simp only[Bool.not_true,cond_false];have loop:mRig_l0_it fuel (false,(m.1.1,(m.1.2,m.2))) (0,(m.1.1,(m.1.2,m.2)))=some (.inl ()):=by
  unfold mRig_l0_it;refine baZ (fun k=>((k:Int),(m.1.1,(m.1.2,m.2)))) m.1.1.length (by omega) (fun k hk=> ?_) ?_
  ·unfold mRig_l0;obtain⟨x,hx⟩:∃x,m.1.1[k]? =some x:=⟨_,List.getElem?_eq_getElem hk⟩;obtain⟨b,hb,hs,_⟩:=h.at hx;simp only[aPZ hk,cond_true];rw[alZ hk];simp only[Option.bind_some,hx];rw[h.p k x hx];simp only[List.length_nil,Int.natCast_zero,show decide ((0:Int)>0)=false from rfl,cond_false];rw[alZ (by rw[h.n];exact hk)];simp only[Option.bind_some,hb];rw[hs,beq_self_eq_true,w64 (by omega)]
   rfl
  ·unfold mRig_l0;simp only[a8Z (Nat.lt_irrefl _),cond_false]
 rw[loop,Option.bind_some]
theorem dpZ{t:Tree}(h:Fit t.1):mcop fuel t=some (t.2,t.1):=by
 unfold mcop;rw[dsZ h.n,Option.bind_some];have loop:mcop_l0_it fuel t.1 (0,(t.2,(t.1,0)))=some (t.2,(t.1,0)):=by
  unfold mcop_l0_it;refine baZ (fun k=>((k:Int),(t.2,(t.1,0)))) t.1.length (by have:=h.n;omega) (fun k hk=> ?_) ?_
  ·unfold mcop_l0;obtain⟨n,hg⟩:∃n,t.1[k]? =some n:=⟨_,List.getElem?_eq_getElem hk⟩;have hsm:=h.at hg;have hs:t.1.set k n=t.1:=gUZ hg;simp only[aPZ hk,cond_true];rw[alZ hk];simp only[Option.bind_some,hg];rw[edZ hsm.1,Option.bind_some,epZ hsm.2,Option.bind_some];show((idx? ((k:Nat):Int) (t.1.set k n).length).bind fun q3=>((t.1.set k n)[q3]?.bind _))=_;rw[hs,alZ hk,Option.bind_some,hg,Option.bind_some,w64 (by have:=h.n;omega)];show some (Sum.inl (_,(t.2,(t.1.set k n,0))))=_;rw[hs]
   rfl
  ·unfold mcop_l0;simp only[a8Z (Nat.lt_irrefl _),cond_false]
 rw[loop,Option.bind_some]
theorem hoZ{l:Byt}(h:l.length<=100000):sClo4 fuel l=some l:=by
 unfold sClo4;rw[cPZ]
 ·simp only[cond_false];rw[aaZ (by simp only[Bool.and_eq_true,Nat.ble_eq,aHZ];omega)]
 ·intro h0;obtain rfl:=List.eq_nil_of_length_eq_zero h0
  rfl
theorem iFZ{l:List Byt}(h:l.length<=100000):sClo5 fuel l=some l:=by
 unfold sClo5;rw[cPZ]
 ·simp only[cond_false];rw[aaZ (by simp only[Bool.and_eq_true,Nat.ble_eq,aHZ];omega)]
 ·intro h0;obtain rfl:=List.eq_nil_of_length_eq_zero h0
  rfl
end Go.Ab.D
namespace Go.Ab.D
open Go Go.Ab
abbrev Rep:=(Int×Int)×Bool×Int×Byt×List Ent×Bool×Int
abbrev DoR:=Int×Mod×Rep
def rep0:Rep:=((0,0),false,0,[],[],false,0)
def stO(q:DoR)(c:CallT):Int×(List Ino×(Int×(List Byt×(Int×(Int×(Int×(Int×(Int×(Byt×(Int×(Int×(Byt×(Int×(Int×(Byt×(Int×(Int×(Int×(Int×(Int×(Bool×(Int×(Bool×Int))))))))))))))))))))))):=(q.1,(q.2.1.1.1,(q.2.1.1.2,(q.2.1.2,(c.1,(c.2.1,(((c.2.2.1.toNat:Nat):Int),(c.2.2.2.1.1,(c.2.2.2.1.2,(c.2.2.2.2.1,(c.2.2.2.2.2.1.1,(c.2.2.2.2.2.1.2,(c.2.2.2.2.2.2.1,(c.2.2.2.2.2.2.2.1,(c.2.2.2.2.2.2.2.2.1,(c.2.2.2.2.2.2.2.2.2,(c.1,(c.2.1,(0,(q.2.2.1.1,(q.2.2.1.2,(q.2.2.2.1,(q.2.2.2.2.1,(q.2.2.2.2.2.2.2.1,q.2.2.2.2.2.2.2.2))))))))))))))))))))))))
def stB(q:DoR)(c:CallT):Int×(List Ino×(Int×(List Byt×(Int×(Int×(Int×(Int×(Int×(Byt×(Int×(Int×(Byt×(Int×(Int×(Byt×(Int×(Int×(Int×(Int×(Int×(Bool×(Int×(Byt×(Bool×Int)))))))))))))))))))))))):=(q.1,(q.2.1.1.1,(q.2.1.1.2,(q.2.1.2,(c.1,(c.2.1,(((c.2.2.1.toNat:Nat):Int),(c.2.2.2.1.1,(c.2.2.2.1.2,(c.2.2.2.2.1,(c.2.2.2.2.2.1.1,(c.2.2.2.2.2.1.2,(c.2.2.2.2.2.2.1,(c.2.2.2.2.2.2.2.1,(c.2.2.2.2.2.2.2.2.1,(c.2.2.2.2.2.2.2.2.2,(c.1,(c.2.1,(0,(q.2.2.1.1,(q.2.2.1.2,(q.2.2.2.1,(q.2.2.2.2.1,(q.2.2.2.2.2.1,(q.2.2.2.2.2.2.2.1,q.2.2.2.2.2.2.2.2)))))))))))))))))))))))))
def stE(q:DoR)(c:CallT):Int×(List Ino×(Int×(List Byt×(Int×(Int×(Int×(Int×(Int×(Byt×(Int×(Int×(Byt×(Int×(Int×(Byt×(Int×(Int×(Int×(Int×(Int×(Bool×(Int×(List Ent×(Bool×Int)))))))))))))))))))))))):=(q.1,(q.2.1.1.1,(q.2.1.1.2,(q.2.1.2,(c.1,(c.2.1,(((c.2.2.1.toNat:Nat):Int),(c.2.2.2.1.1,(c.2.2.2.1.2,(c.2.2.2.2.1,(c.2.2.2.2.2.1.1,(c.2.2.2.2.2.1.2,(c.2.2.2.2.2.2.1,(c.2.2.2.2.2.2.2.1,(c.2.2.2.2.2.2.2.2.1,(c.2.2.2.2.2.2.2.2.2,(c.1,(c.2.1,(0,(q.2.2.1.1,(q.2.2.1.2,(q.2.2.2.1,(q.2.2.2.2.1,(q.2.2.2.2.2.2.1,(q.2.2.2.2.2.2.2.1,q.2.2.2.2.2.2.2.2)))))))))))))))))))))))))
def lookF(t:Tree)(d:Int×Int)(s:Byt):Int×(Int×Int):=
 if dirE t.1 d=0 then
  if namedB s=true then
   match t.1[(d.1-1).toNat]? with
   |none=>(170,(0,0))
   |some n=>match findE n.2.2.2.2.2.2.2 s with
    |none=>(171,(0,0))
    |some id=>match t.1[(id-1).toNat]? with
     |none=>(170,(0,0))
     |some x=>(0,(id,x.2.1))
  else(176,(0,0))
 else(dirE t.1 d,(0,0))
theorem rqZ{t:Tree}(h:TreeOK t)(d:Int×Int)(s:Byt):tLoo fuel t d s=some ((lookF t d s).2.1,((lookF t d s).2.2,(lookF t d s).1))/\((lookF t d s).1=0->1<=(lookF t d s).2.1/\(lookF t d s).2.1<=t.1.length/\∃x,t.1[((lookF t d s).2.1-1).toNat]? =some x):=by
 unfold lookF;rcases bxZ t.1 d with⟨n,hn⟩|⟨hb,_⟩
 ·rw[if_pos (bSZ hn),hn.1.2.1];simp only;cases hs:namedB s with
  |false=>rw[if_neg (by simp)];exact⟨koZ h hn hs,fun h0=>by cases h0⟩
  |true=>
   rw[if_pos rfl];cases hh:hasN n.2.2.2.2.2.2.2 s with
   |false=>rw[doZ hh];exact⟨jAZ h hn hs hh,fun h0=>by cases h0⟩
   |true=>
    obtain⟨id,he⟩:=a7Z.1 hh;obtain⟨_,q1,q2,x,hx,hu,_⟩:=h.ent hn he;rw[dhZ (h.srt hn.1) he];simp only[hx];exact⟨jQZ h hn he hx,fun _=>⟨by omega,q2,x,rfl⟩⟩
 ·rw[if_neg hb];exact⟨m8Z h s hb,fun h0=>absurd h0 hb⟩
def getF(l:List Ino)(h:Int×Int):Option Ino:=
 if 1<=h.1 then match l[(h.1-1).toNat]? with
  |some n=>if n.2.2.1=true/\n.2.1=h.2 then some n else none
  |none=>none
 else none
theorem dJZ{l:List Ino}{h:Int×Int}{n:Ino}:getF l h=some n↔IsH l h n:=by
 unfold getF IsH;by_cases h1:1<=h.1
 ·rw[if_pos h1];cases hx:l[(h.1-1).toNat]? with
  |none=>simp
  |some x=>
   simp only;by_cases hc:x.2.2.1=true/\x.2.1=h.2
   ·rw[if_pos hc];constructor
    ·rintro⟨⟩;exact⟨h1,rfl,hc.1,hc.2⟩
    ·rintro⟨_,⟨⟩,_,_⟩;rfl
   ·rw[if_neg hc];constructor
    ·intro h;cases h
    ·rintro⟨_,⟨⟩,h2,h3⟩;exact absurd ⟨h2,h3⟩ hc
 ·rw[if_neg h1];constructor
  ·intro h;cases h
  ·rintro⟨h2,_⟩;exact absurd h2 h1
theorem iMZ{l:List Ino}{h:Int×Int}(hn:getF l h=none):¬∃n,IsH l h n:=fun⟨n,h1⟩=>by rw[dJZ.2 h1] at hn;cases hn
theorem ntZ{t:Tree}(ht:TreeOK t){h:Int×Int}{n:Ino}(hn:IsH t.1 h n):n.1=h.1/\1<=h.1/\(h.1-1).toNat<t.1.length:=by
 have h1:=ht.r.id hn.2.1;have h2:=hn.1;exact⟨by omega,h2,(List.getElem?_eq_some_iff.1 hn.2.1).1⟩
def listF(t:Tree)(d:Int×Int)(s:Byt)(most:Int):Int×Bool×List Ent:=
 if dirE t.1 d=0 then
  if most<0\/most>4096 then(2,false,[])
  else match t.1[(d.1-1).toNat]? with
   |none=>(170,false,[])
   |some n=>(0,decide ((behind n.2.2.2.2.2.2.2 s).length>most.toNat),(behind n.2.2.2.2.2.2.2 s).take most.toNat)
 else(dirE t.1 d,false,[])
theorem rwZ{t:Tree}(h:TreeOK t)(d:Int×Int)(s:Byt)(most:Int):tree_List fuel t d s most=some ((listF t d s most).2.1,((listF t d s most).1,(listF t d s most).2.2)):=by
 unfold listF;rcases bxZ t.1 d with⟨n,hn⟩|⟨hb,_⟩
 ·rw[if_pos (bSZ hn)];by_cases hm:most<0\/most>4096
  ·rw[if_pos hm];exact o0Z h s hn hm
  ·rw[if_neg hm,hn.1.2.1];have:=n2Z h s (most:=most.toNat) hn (by omega);rw[show((most.toNat:Nat):Int)=most by omega] at this;exact this
 ·rw[if_neg hb];exact oAZ h s most hb
def lookA(m:Mod)(c:CallT):DoR:=
 if(lookF m.1 c.2.2.2.1 c.2.2.2.2.1).1=0 then match m.1.1[((lookF m.1 c.2.2.2.1 c.2.2.2.2.1).2.1-1).toNat]? with
  |some x=>(0,m,((lookF m.1 c.2.2.2.1 c.2.2.2.2.1).2,x.2.2.2.1,x.2.2.2.2.1,[],[],false,0))
  |none=>(170,m,rep0)
 else((lookF m.1 c.2.2.2.1 c.2.2.2.2.1).1,m,rep0)
def makeA(m:Mod)(c:CallT):DoR:=
 if(makeF m.1 c.2.2.2.1 c.2.2.2.2.1 (((c.2.2.1.toNat:Nat):Int)==3)).2.2=0 then
  (0,((makeF m.1 c.2.2.2.1 c.2.2.2.2.1 (((c.2.2.1.toNat:Nat):Int)==3)).1,m.2),((makeF m.1 c.2.2.2.1 c.2.2.2.2.1 (((c.2.2.1.toNat:Nat):Int)==3)).2.1,(((c.2.2.1.toNat:Nat):Int)==3),0,[],[],false,0))
 else((makeF m.1 c.2.2.2.1 c.2.2.2.2.1 (((c.2.2.1.toNat:Nat):Int)==3)).2.2,m,rep0)
def removeA(m:Mod)(c:CallT):DoR:=
 if(removeF m.1 c.2.2.2.1 c.2.2.2.2.1 (((c.2.2.1.toNat:Nat):Int)==8)).2.2=0 then
  (0,((removeF m.1 c.2.2.2.1 c.2.2.2.2.1 (((c.2.2.1.toNat:Nat):Int)==8)).1,m.2),rep0)
 else((removeF m.1 c.2.2.2.1 c.2.2.2.2.1 (((c.2.2.1.toNat:Nat):Int)==8)).2.2,m,rep0)
def renameA(m:Mod)(c:CallT):DoR:=
 if(renameF m.1 c.2.2.2.1 c.2.2.2.2.1 c.2.2.2.2.2.1 c.2.2.2.2.2.2.1).2.2=0 then
  (0,((renameF m.1 c.2.2.2.1 c.2.2.2.2.1 c.2.2.2.2.2.1 c.2.2.2.2.2.2.1).1,m.2),rep0)
 else((renameF m.1 c.2.2.2.1 c.2.2.2.2.1 c.2.2.2.2.2.1 c.2.2.2.2.2.2.1).2.2,m,rep0)
def listA(m:Mod)(c:CallT):DoR:=
 ((listF m.1 c.2.2.2.1 c.2.2.2.2.1 c.2.2.2.2.2.2.2.2.1).1,m,((0,0),false,0,[],(listF m.1 c.2.2.2.1 c.2.2.2.2.1 c.2.2.2.2.2.2.2.2.1).2.2,(listF m.1 c.2.2.2.1 c.2.2.2.2.1 c.2.2.2.2.2.2.2.2.1).2.1,0))
def getA(m:Mod)(c:CallT):DoR:=
 match getF m.1.1 c.2.2.2.1 with
 |some x=>(0,m,(c.2.2.2.1,x.2.2.2.1,x.2.2.2.2.1,[],[],false,0))
 |none=>(170,m,rep0)
def usedN(l:List Ino):Nat:=l.countP (·.2.2.1)
def statA(m:Mod):DoR:=(0,m,((0,0),false,0,[],[],false,500-((usedN m.1.1:Nat):Int)))
theorem pKZ{m:Mod}(h:ModelOK m)(c:CallT):mdoeloo fuel m.1.1 m.1.2 m.2 c.1 c.2.1 ((c.2.2.1.toNat:Nat):Int) c.2.2.2.1.1 c.2.2.2.1.2 c.2.2.2.2.1 c.2.2.2.2.2.1.1 c.2.2.2.2.2.1.2 c.2.2.2.2.2.2.1 c.2.2.2.2.2.2.2.1 c.2.2.2.2.2.2.2.2.1 c.2.2.2.2.2.2.2.2.2 c.1 c.2.1 0 0 0 false 0 false 0=some (stO (lookA m c) c):=by
 unfold mdoeloo lookA;obtain⟨h1,h2⟩:=rqZ h.t c.2.2.2.1 c.2.2.2.2.1;rw[show((m.1.1,m.1.2):Tree)=m.1 from rfl,show((c.2.2.2.1.1,c.2.2.2.1.2):Int×Int)=c.2.2.2.1 from rfl,h1,Option.bind_some];simp only;by_cases h0:(lookF m.1 c.2.2.2.1 c.2.2.2.2.1).1=0
 ·obtain⟨q1,q2,x,hx⟩:=h2 h0;have hl:=h.len;rw[if_pos h0,h0,show((0:Int)==0)=true from rfl];simp only[cond_true];rw[w64 (by omega),azZ (by omega) (by omega),Option.bind_some,hx,Option.bind_some]
  rfl
 ·rw[if_neg h0,beq_eq_false_iff_ne.2 h0]
  rfl
theorem pSZ{m:Mod}(h:ModelOK m)(c:CallT):mdoemak fuel m.1.1 m.1.2 m.2 c.1 c.2.1 ((c.2.2.1.toNat:Nat):Int) c.2.2.2.1.1 c.2.2.2.1.2 c.2.2.2.2.1 c.2.2.2.2.2.1.1 c.2.2.2.2.2.1.2 c.2.2.2.2.2.2.1 c.2.2.2.2.2.2.2.1 c.2.2.2.2.2.2.2.2.1 c.2.2.2.2.2.2.2.2.2 c.1 c.2.1 0 0 0 false 0 false 0=some (stO (makeA m c) c):=by
 unfold mdoemak makeA;rw[show((m.1.1,m.1.2):Tree)=m.1 from rfl,show((c.2.2.2.1.1,c.2.2.2.1.2):Int×Int)=c.2.2.2.1 from rfl,(nGZ h.t c.2.2.2.1 c.2.2.2.2.1 _).1,Option.bind_some];simp only;by_cases h0:(makeF m.1 c.2.2.2.1 c.2.2.2.2.1 (((c.2.2.1.toNat:Nat):Int)==3)).2.2=0
 ·rw[if_pos h0,h0];rfl
 ·rw[if_neg h0,beq_eq_false_iff_ne.2 h0];rfl
theorem kLZ{m:Mod}(h:ModelOK m)(c:CallT):mdoerem fuel m.1.1 m.1.2 m.2 c.1 c.2.1 ((c.2.2.1.toNat:Nat):Int) c.2.2.2.1.1 c.2.2.2.1.2 c.2.2.2.2.1 c.2.2.2.2.2.1.1 c.2.2.2.2.2.1.2 c.2.2.2.2.2.2.1 c.2.2.2.2.2.2.2.1 c.2.2.2.2.2.2.2.2.1 c.2.2.2.2.2.2.2.2.2 c.1 c.2.1 0 0 0 false 0 false 0=some (stO (removeA m c) c):=by
 unfold mdoerem removeA;rw[show((m.1.1,m.1.2):Tree)=m.1 from rfl,show((c.2.2.2.1.1,c.2.2.2.1.2):Int×Int)=c.2.2.2.1 from rfl,(iJZ h.t c.2.2.2.1 c.2.2.2.2.1 _).1,Option.bind_some];simp only;by_cases h0:(removeF m.1 c.2.2.2.1 c.2.2.2.2.1 (((c.2.2.1.toNat:Nat):Int)==8)).2.2=0
 ·rw[if_pos h0,h0];rfl
 ·rw[if_neg h0,beq_eq_false_iff_ne.2 h0];rfl
theorem pCZ{m:Mod}(h:ModelOK m)(c:CallT):mdoeren fuel m.1.1 m.1.2 m.2 c.1 c.2.1 ((c.2.2.1.toNat:Nat):Int) c.2.2.2.1.1 c.2.2.2.1.2 c.2.2.2.2.1 c.2.2.2.2.2.1.1 c.2.2.2.2.2.1.2 c.2.2.2.2.2.2.1 c.2.2.2.2.2.2.2.1 c.2.2.2.2.2.2.2.2.1 c.2.2.2.2.2.2.2.2.2 c.1 c.2.1 0 0 0 false 0 false 0=some (stO (renameA m c) c):=by
 unfold mdoeren renameA;rw[show((m.1.1,m.1.2):Tree)=m.1 from rfl,show((c.2.2.2.1.1,c.2.2.2.1.2):Int×Int)=c.2.2.2.1 from rfl,show((c.2.2.2.2.2.1.1,c.2.2.2.2.2.1.2):Int×Int)=c.2.2.2.2.2.1 from rfl,(i0Z h.t _ _ _ _).1,Option.bind_some];simp only;by_cases h0:(renameF m.1 c.2.2.2.1 c.2.2.2.2.1 c.2.2.2.2.2.1 c.2.2.2.2.2.2.1).2.2=0
 ·rw[if_pos h0,h0];rfl
 ·rw[if_neg h0,beq_eq_false_iff_ne.2 h0];rfl
theorem rxZ{m:Mod}(h:ModelOK m)(c:CallT):mdoelis fuel m.1.1 m.1.2 m.2 c.1 c.2.1 ((c.2.2.1.toNat:Nat):Int) c.2.2.2.1.1 c.2.2.2.1.2 c.2.2.2.2.1 c.2.2.2.2.2.1.1 c.2.2.2.2.2.1.2 c.2.2.2.2.2.2.1 c.2.2.2.2.2.2.2.1 c.2.2.2.2.2.2.2.2.1 c.2.2.2.2.2.2.2.2.2 c.1 c.2.1 0 0 0 false 0 false 0=some (stE (listA m c) c):=by
 unfold mdoelis listA;rw[show((m.1.1,m.1.2):Tree)=m.1 from rfl,show((c.2.2.2.1.1,c.2.2.2.1.2):Int×Int)=c.2.2.2.1 from rfl,rwZ h.t,Option.bind_some]
 rfl
theorem sjZ{m:Mod}(h:ModelOK m)(c:CallT):mdoeget fuel m.1.1 m.1.2 m.2 c.1 c.2.1 ((c.2.2.1.toNat:Nat):Int) c.2.2.2.1.1 c.2.2.2.1.2 c.2.2.2.2.1 c.2.2.2.2.2.1.1 c.2.2.2.2.2.1.2 c.2.2.2.2.2.2.1 c.2.2.2.2.2.2.2.1 c.2.2.2.2.2.2.2.2.1 c.2.2.2.2.2.2.2.2.2 c.1 c.2.1 0 0 0 false 0 false 0=some (stO (getA m c) c):=by
 unfold mdoeget getA;rw[show((m.1.1,m.1.2):Tree)=m.1 from rfl,show((c.2.2.2.1.1,c.2.2.2.1.2):Int×Int)=c.2.2.2.1 from rfl];cases hg:getF m.1.1 c.2.2.2.1 with
 |none=>rw[hiZ h.fit (iMZ hg),Option.bind_some];rfl
 |some x=>rw[eZZ h.fit (dJZ.1 hg),Option.bind_some];rfl
end Go.Ab.D
namespace Go.Ab.D
open Go Go.Ab
def fileF(m:Mod)(h:Int×Int):Int×Byt×Int:=
 match getF m.1.1 h with
 |none=>(0,[],170)
 |some x=>bif x.2.2.2.1 then(0,[],174) else match m.2[(h.1-1).toNat]? with
  |some b=>(h.1,b,0)
  |none=>(0,[],170)
abbrev stF(q:Int×Byt×Int)(m:Mod)(c:CallT):Int×(Byt×(Int×(List Ino×(Int×(List Byt×(Int×(Int×(Int×(Int×(Int×(Byt×(Int×(Int×(Byt×(Int×(Int×(Byt×(Int×(Int×(Int×(Int×(Int×(Bool×(Int×(Bool×Int))))))))))))))))))))))))):=(q.1,(q.2.1,(q.2.2,(m.1.1,(m.1.2,(m.2,(c.1,(c.2.1,(((c.2.2.1.toNat:Nat):Int),(c.2.2.2.1.1,(c.2.2.2.1.2,(c.2.2.2.2.1,(c.2.2.2.2.2.1.1,(c.2.2.2.2.2.1.2,(c.2.2.2.2.2.2.1,(c.2.2.2.2.2.2.2.1,(c.2.2.2.2.2.2.2.2.1,(c.2.2.2.2.2.2.2.2.2,(c.1,(c.2.1,(0,(0,(0,(false,(0,(false,0))))))))))))))))))))))))))
def IsF(m:Mod)(h:Int×Int)(x:Ino)(b:Byt):Prop:=IsH m.1.1 h x/\x.2.2.2.1=false/\m.2[(h.1-1).toNat]? =some b
theorem dQZ{m:Mod}{h:Int×Int}(h0:(fileF m h).2.2=0):∃x,IsF m h x (fileF m h).2.1/\(fileF m h).1=h.1:=by
 unfold fileF at h0⊢;cases hg:getF m.1.1 h with
 |none=>rw[hg] at h0;cases h0
 |some x=>
  rw[hg] at h0;simp only at h0⊢;cases hd:x.2.2.2.1 with
  |true=>rw[hd] at h0;cases h0
  |false=>
   rw[hd] at h0;simp only[cond_false] at h0⊢;cases hb:m.2[(h.1-1).toNat]? with
   |none=>rw[hb] at h0;cases h0
   |some b=>exact⟨x,⟨dJZ.1 hg,hd,hb⟩,rfl⟩
theorem nNZ{m:Mod}(h:ModelOK m)(c:CallT):mdoefil fuel m.1.1 m.1.2 m.2 c.1 c.2.1 ((c.2.2.1.toNat:Nat):Int) c.2.2.2.1.1 c.2.2.2.1.2 c.2.2.2.2.1 c.2.2.2.2.2.1.1 c.2.2.2.2.2.1.2 c.2.2.2.2.2.2.1 c.2.2.2.2.2.2.2.1 c.2.2.2.2.2.2.2.2.1 c.2.2.2.2.2.2.2.2.2 c.1 c.2.1 0 0 0 false 0 false 0=some (stF (fileF m c.2.2.2.1) m c):=by
 unfold mdoefil fileF;rw[show((m.1.1,m.1.2):Tree)=m.1 from rfl,show((c.2.2.2.1.1,c.2.2.2.1.2):Int×Int)=c.2.2.2.1 from rfl];cases hg:getF m.1.1 c.2.2.2.1 with
 |none=>rw[hiZ h.fit (iMZ hg),Option.bind_some];rfl
 |some x=>
  have hx:=dJZ.1 hg;obtain⟨q1,q2,q3⟩:=ntZ h.t hx;rw[eZZ h.fit hx,Option.bind_some];simp only[beq_self_eq_true,Bool.not_true,cond_false];cases hd:x.2.2.2.1 with
  |true=>rfl
  |false=>
   simp only[cond_false];have hl:=h.len;obtain⟨b,hb,_⟩:=h.at hx.2.1;rw[q1,w64 (by omega),azZ (by omega) (by rw[h.n];omega),Option.bind_some,hb,Option.bind_some]
def readL(b:Byt)(off n:Int):Byt:=(b.take (max (min off.toNat b.length) (min (off+n).toNat b.length))).drop (min off.toNat b.length)
def readA(m:Mod)(c:CallT):DoR:=
 if(fileF m c.2.2.2.1).2.2=0 then
  (0,m,((0,0),false,(((fileF m c.2.2.2.1).2.1.length:Nat):Int),readL (fileF m c.2.2.2.1).2.1 c.2.2.2.2.2.2.2.1 c.2.2.2.2.2.2.2.2.1,[],decide (c.2.2.2.2.2.2.2.1+c.2.2.2.2.2.2.2.2.1<(((fileF m c.2.2.2.1).2.1.length:Nat):Int)),0))
 else((fileF m c.2.2.2.1).2.2,m,rep0)
theorem rXZ{m:Mod}(h:ModelOK m)(c:CallT)(ho:0<=c.2.2.2.2.2.2.2.1/\c.2.2.2.2.2.2.2.1<=2147483648)(hn:0<=c.2.2.2.2.2.2.2.2.1/\c.2.2.2.2.2.2.2.2.1<=2147483648):
 mdoerea fuel m.1.1 m.1.2 m.2 c.1 c.2.1 ((c.2.2.1.toNat:Nat):Int) c.2.2.2.1.1 c.2.2.2.1.2 c.2.2.2.2.1 c.2.2.2.2.2.1.1 c.2.2.2.2.2.1.2 c.2.2.2.2.2.2.1 c.2.2.2.2.2.2.2.1 c.2.2.2.2.2.2.2.2.1 c.2.2.2.2.2.2.2.2.2 c.1 c.2.1 0 0 0 false 0 false 0=some (stB (readA m c) c):=by
 unfold mdoerea readA;rw[nNZ h c,Option.bind_some];by_cases h0:(fileF m c.2.2.2.1).2.2=0
 ·rw[if_pos h0];obtain⟨x,hx,hid⟩:=dQZ h0;have hbl:=h.byt hx.2.2;simp only[stF];rw[h0];simp only[beq_self_eq_true,Bool.not_true,cond_false];rw[w64 (by omega)];rw[show(if(((fileF m c.2.2.2.1).2.1.length:Nat):Int)<c.2.2.2.2.2.2.2.1+c.2.2.2.2.2.2.2.2.1 then(((fileF m c.2.2.2.1).2.1.length:Nat):Int) else c.2.2.2.2.2.2.2.1+c.2.2.2.2.2.2.2.2.1)=((min (c.2.2.2.2.2.2.2.1+c.2.2.2.2.2.2.2.2.1).toNat (fileF m c.2.2.2.1).2.1.length:Nat):Int) from by split<;>omega,
   show(if(((fileF m c.2.2.2.1).2.1.length:Nat):Int)<c.2.2.2.2.2.2.2.1 then(((fileF m c.2.2.2.1).2.1.length:Nat):Int) else c.2.2.2.2.2.2.2.1)=((min c.2.2.2.2.2.2.2.1.toNat (fileF m c.2.2.2.1).2.1.length:Nat):Int) from by split<;>omega]
  rw[show(if((min (c.2.2.2.2.2.2.2.1+c.2.2.2.2.2.2.2.2.1).toNat (fileF m c.2.2.2.1).2.1.length:Nat):Int)>((min c.2.2.2.2.2.2.2.1.toNat (fileF m c.2.2.2.1).2.1.length:Nat):Int) then((min (c.2.2.2.2.2.2.2.1+c.2.2.2.2.2.2.2.2.1).toNat (fileF m c.2.2.2.1).2.1.length:Nat):Int) else((min c.2.2.2.2.2.2.2.1.toNat (fileF m c.2.2.2.1).2.1.length:Nat):Int))=((max (min c.2.2.2.2.2.2.2.1.toNat (fileF m c.2.2.2.1).2.1.length) (min (c.2.2.2.2.2.2.2.1+c.2.2.2.2.2.2.2.2.1).toNat (fileF m c.2.2.2.1).2.1.length):Nat):Int) from by split<;>omega];rw[aUZ (by omega),Option.bind_some,aUZ (by omega),Option.bind_some,hoZ (by rw[List.length_drop,List.length_take];omega),Option.bind_some]
  rfl
 ·rw[if_neg h0];simp only[stF,beq_eq_false_iff_ne.2 h0,Bool.not_false,cond_true]
  rfl
def sizedL(b:Byt)(n:Nat):Byt:=b.take n++List.replicate (n-b.length) 0
theorem beZ(b:Byt)(n:Nat):(sizedL b n).length=n:=by unfold sizedL;simp;omega
theorem ooZ(b:Byt)(n:Nat):splice (List.replicate (α:=UInt8) n 0) 0 (List.take (List.replicate (α:=UInt8) n 0).length b)=sizedL b n:=by
 unfold splice sizedL;simp only[List.length_replicate,List.take_zero,List.nil_append,Nat.zero_add,List.drop_replicate,List.length_take];congr 2;omega
def setSize(l:List Ino)(h:Int×Int)(n:Int):List Ino:=
 match l[(h.1-1).toNat]? with
 |some x=>l.set (h.1-1).toNat (x.1,x.2.1,x.2.2.1,x.2.2.2.1,n,x.2.2.2.2.2)
 |none=>l
def putB(m:Mod)(h:Int×Int)(b:Byt):Mod:=((setSize m.1.1 h ((b.length:Nat):Int),m.1.2),m.2.set (h.1-1).toNat b)
def sizeA(m:Mod)(c:CallT):DoR:=
 if(fileF m c.2.2.2.1).2.2=0 then
  if c.2.2.2.2.2.2.2.2.1>65536 then(177,m,rep0)
  else(0,putB m c.2.2.2.1 (sizedL (fileF m c.2.2.2.1).2.1 c.2.2.2.2.2.2.2.2.1.toNat),(c.2.2.2.1,false,c.2.2.2.2.2.2.2.2.1,[],[],false,0))
 else((fileF m c.2.2.2.1).2.2,m,rep0)
theorem rBZ{m:Mod}(h:ModelOK m)(c:CallT)(hn:0<=c.2.2.2.2.2.2.2.2.1):
 mdoesiz fuel m.1.1 m.1.2 m.2 c.1 c.2.1 ((c.2.2.1.toNat:Nat):Int) c.2.2.2.1.1 c.2.2.2.1.2 c.2.2.2.2.1 c.2.2.2.2.2.1.1 c.2.2.2.2.2.1.2 c.2.2.2.2.2.2.1 c.2.2.2.2.2.2.2.1 c.2.2.2.2.2.2.2.2.1 c.2.2.2.2.2.2.2.2.2 c.1 c.2.1 0 0 0 false 0 false 0=some (stO (sizeA m c) c):=by
 unfold mdoesiz sizeA;rw[nNZ h c,Option.bind_some];by_cases h0:(fileF m c.2.2.2.1).2.2=0
 ·rw[if_pos h0];obtain⟨x,hx,hid⟩:=dQZ h0;have hbl:=h.byt hx.2.2;have hl:=h.len;obtain⟨q1,q2,q3⟩:=ntZ h.t hx.1;simp only[stF];rw[h0];simp only[beq_self_eq_true,Bool.not_true,cond_false];by_cases hb:c.2.2.2.2.2.2.2.2.1>65536
  ·rw[if_pos hb,decide_eq_true hb];rfl
  ·rw[if_neg hb,decide_eq_false hb];simp only[cond_false];unfold mdoesiz2;rw[hid,cmZ hn (by rw[aHZ];omega),Option.bind_some,cmZ hn (by omega),Option.bind_some,aaZ (by rw[Nat.ble_eq,aHZ];omega),w64 (by omega),azZ (by omega) (by rw[h.n];omega),Option.bind_some,hx.2.2,Option.bind_some,
    iFZ (by rw[h.n];omega),Option.bind_some,azZ (by omega) (by rw[h.n];omega),Option.bind_some,hx.2.2,Option.bind_some,show((m.1.1,m.1.2):Tree)=m.1 from rfl,dpZ h.fit,Option.bind_some]
   simp only;rw[azZ (by omega) (by omega),Option.bind_some,hx.1.2.1,Option.bind_some,Option.bind_some,ooZ];simp only[stO,putB,setSize,hx.1.2.1,beZ];rw[show((c.2.2.2.2.2.2.2.2.1.toNat:Nat):Int)=c.2.2.2.2.2.2.2.2.1 by omega]
 ·rw[if_neg h0];simp only[stF,beq_eq_false_iff_ne.2 h0,Bool.not_false,cond_true]
  rfl
def writeN(b:Byt)(off:Int)(bs:Byt):Nat:=max b.length (if bs.length=0 then 0 else off.toNat+bs.length)
def writeL(b:Byt)(off:Int)(bs:Byt):Byt:=splice (sizedL b (writeN b off bs)) (min off.toNat (writeN b off bs)) bs
def writeA(m:Mod)(c:CallT):DoR:=
 if(fileF m c.2.2.2.1).2.2=0 then
  if c.2.2.2.2.2.2.2.1+((c.2.2.2.2.2.2.2.2.2.length:Nat):Int)>65536 then(177,m,rep0)
  else(0,putB m c.2.2.2.1 (writeL (fileF m c.2.2.2.1).2.1 c.2.2.2.2.2.2.2.1 c.2.2.2.2.2.2.2.2.2),(c.2.2.2.1,false,((writeN (fileF m c.2.2.2.1).2.1 c.2.2.2.2.2.2.2.1 c.2.2.2.2.2.2.2.2.2:Nat):Int),[],[],false,0))
 else((fileF m c.2.2.2.1).2.2,m,rep0)
theorem dlZ(b:Byt)(off:Int)(bs:Byt):(writeL b off bs).length=writeN b off bs:=by
 unfold writeL splice;rw[List.length_append,List.length_append,List.length_take,List.length_drop,beZ];unfold writeN;by_cases h:bs.length=0
 ·rw[if_pos h];omega
 ·rw[if_neg h];omega
theorem gLZ(g:(Byt⊕Option (Nat×(Nat×Nat)))->Option Byt)(hg:∀b,g (.inl b)=some b)(y:Byt⊕Option (Nat×(Nat×Nat)))(v:Byt)(hy:g y=some v):∀(l:List Byt) (i:Nat),i<l.length->unrefL g ((l.map Sum.inl).set i y)=some (l.set i v)
 |[],i,h=>by simp at h
 |a::l,0,_=>by
  have e:unrefL g (l.map Sum.inl)=some l:=by
   induction l with
   |nil=>rfl
   |cons x l ih=>simp[unrefL,hg,ih]
  simp[unrefL,hy,e]
 |a::l,i+1,h=>by
  have:=gLZ g hg y v hy l i (by simpa using h);simp[unrefL,hg,this]
end Go.Ab.D
namespace Go.Ab.D
open Go Go.Ab
theorem lkZ(l:Byt)(k:Nat):splice l k []=l:=by unfold splice;simp
theorem pcZ(out bs:Byt)(q:Nat)(hq:q<=out.length)(hb:bs=[]\/q+bs.length<=out.length):
 ∃k,refPut (α:=UInt8) [(1,out)] (refSub (α:=UInt8) (.inr (some (0,(0,out.length)))) q (out.length-q)) bs=some ([(1,splice out q bs)],k):=by
 unfold refSub;by_cases h0:out.length-q=0
 ·have hbs:bs=[]:=by
   rcases hb with h|h
   ·exact h
   ·exact List.eq_nil_of_length_eq_zero (by omega)
  subst hbs;rw[h0,lkZ];exact⟨0,rfl⟩
 ·rw[show Nat.beq (out.length-q) 0=false from ajZ h0];simp only[bq_false];unfold refPut;simp only[List.getElem?_cons_zero,Option.bind_some];rw[aaZ (by simp[Nat.beq_refl];omega)];have:bs.take (out.length-q)=bs:=List.take_of_length_le (by
   rcases hb with h|h
   ·simp[h]
   ·omega)
  rw[this,Nat.zero_add];exact⟨_,rfl⟩
theorem pyZ(w:Byt)(n:Nat)(hn:n=w.length):unrefD [⟨3,.byte,List.map frz1 [(1,w)]⟩] (.ref 3 .byte) (.inr (some (0,(0,n))))=some w:=by
 subst hn;show memb [(2,w)] 0 0 w.length=some w;unfold memb;simp only[List.getElem?_cons_zero,Nat.zero_add,List.drop_zero,List.take_length];rw[eiZ (Nat.le_refl w.length)]
 rfl
theorem roZ{m:Mod}(h:ModelOK m)(c:CallT)(ho:0<=c.2.2.2.2.2.2.2.1/\c.2.2.2.2.2.2.2.1<=2147483648)(hbs:c.2.2.2.2.2.2.2.2.2.length<=4096):
 mdoewri fuel m.1.1 m.1.2 m.2 c.1 c.2.1 ((c.2.2.1.toNat:Nat):Int) c.2.2.2.1.1 c.2.2.2.1.2 c.2.2.2.2.1 c.2.2.2.2.2.1.1 c.2.2.2.2.2.1.2 c.2.2.2.2.2.2.1 c.2.2.2.2.2.2.2.1 c.2.2.2.2.2.2.2.2.1 c.2.2.2.2.2.2.2.2.2 c.1 c.2.1 0 0 0 false 0 false 0=some (stO (writeA m c) c):=by
 unfold mdoewri writeA;rw[nNZ h c,Option.bind_some];by_cases h0:(fileF m c.2.2.2.1).2.2=0
 ·rw[if_pos h0];obtain⟨x,hx,hid⟩:=dQZ h0;have hbl:=h.byt hx.2.2;have hl:=h.len;obtain⟨q1,q2,q3⟩:=ntZ h.t hx.1;simp only[stF];rw[h0,hid];simp only[beq_self_eq_true,Bool.not_true,cond_false];have hx2:=hx.2.2;generalize (fileF m c.2.2.2.1).2.1=b at hbl hx2⊢;rw[w64 (by omega)];by_cases hb:c.2.2.2.2.2.2.2.1+((c.2.2.2.2.2.2.2.2.2.length:Nat):Int)>65536
  ·rw[if_pos hb,decide_eq_true hb];rfl
  ·rw[if_neg hb,decide_eq_false hb];simp only[cond_false];have hN:writeN b c.2.2.2.2.2.2.2.1 c.2.2.2.2.2.2.2.2.2<=65536:=by unfold writeN;split<;>omega
   have key:∀(e:Int),(if e>((b.length:Nat):Int) then e else((b.length:Nat):Int))=((writeN b c.2.2.2.2.2.2.2.1 c.2.2.2.2.2.2.2.2.2:Nat):Int)->
    ((mdoesizW fuel c.2.2.2.1.1 (if e>((b.length:Nat):Int) then e else((b.length:Nat):Int)) m.1.1 m.1.2 m.2 c.1 c.2.1 ((c.2.2.1.toNat:Nat):Int) c.2.2.2.1.1 c.2.2.2.1.2 c.2.2.2.2.1 c.2.2.2.2.2.1.1 c.2.2.2.2.2.1.2 c.2.2.2.2.2.2.1 c.2.2.2.2.2.2.2.1 c.2.2.2.2.2.2.2.2.1 c.2.2.2.2.2.2.2.2.2 c.1 c.2.1 0 0 0 false 0 false 0).bind fun r1=>
      (upto? (if(((refLen (s:=.byte) r1.1):Nat):Int)<r1.2.2.2.2.2.2.2.2.2.2.2.1 then(((refLen (s:=.byte) r1.1):Nat):Int) else r1.2.2.2.2.2.2.2.2.2.2.2.1) (refLen (s:=.byte) r1.1)).bind fun q=>
      (refPut (α:=UInt8) r1.2.2.2.2.2.2.2.2.2.2.2.2.2.2.2.2.2.2.2.2.2.2.2.2.2 (refSub (α:=UInt8) r1.1 q ((refLen (s:=.byte) r1.1)-q)) r1.2.2.2.2.2.2.2.2.2.2.2.2.2.1).bind fun m=>
      (unrefL (unrefD [⟨3,.byte,(List.map frz1 m.1)⟩] (.ref 3 .byte)) r1.2.2.2.2.2.2.2.2.2.2.2.2.2.2.2.2.2.2.2.2.2.2.2.2.1).bind fun l=>
      some ((0:Int),(r1.2.2.2.2.2.2.2.2.2.2.2.2.2.2.2.2.2.2.2.2.2.2.2.1,(r1.2.1,(l,(r1.2.2.1,(r1.2.2.2.1,(r1.2.2.2.2.1,(r1.2.2.2.2.2.1,(r1.2.2.2.2.2.2.1,(r1.2.2.2.2.2.2.2.1,(r1.2.2.2.2.2.2.2.2.1,(r1.2.2.2.2.2.2.2.2.2.1,(r1.2.2.2.2.2.2.2.2.2.2.1,(r1.2.2.2.2.2.2.2.2.2.2.2.1,(r1.2.2.2.2.2.2.2.2.2.2.2.2.1,(r1.2.2.2.2.2.2.2.2.2.2.2.2.2.1,(r1.2.2.2.2.2.2.2.2.2.2.2.2.2.2.1,(r1.2.2.2.2.2.2.2.2.2.2.2.2.2.2.2.1,(r1.2.2.2.2.2.2.2.2.2.2.2.2.2.2.2.2.1,(r1.2.2.2.2.2.2.2.2.2.2.2.2.2.2.2.2.2.1,(r1.2.2.2.2.2.2.2.2.2.2.2.2.2.2.2.2.2.2.1,(r1.2.2.2.2.2.2.2.2.2.2.2.2.2.2.2.2.2.2.2.1,(r1.2.2.2.2.2.2.2.2.2.2.2.2.2.2.2.2.2.2.2.2.1,(r1.2.2.2.2.2.2.2.2.2.2.2.2.2.2.2.2.2.2.2.2.2.1,r1.2.2.2.2.2.2.2.2.2.2.2.2.2.2.2.2.2.2.2.2.2.2.1)))))))))))))))))))))))))=
    some (stO (0,putB m c.2.2.2.1 (writeL b c.2.2.2.2.2.2.2.1 c.2.2.2.2.2.2.2.2.2),(c.2.2.2.1,false,((writeN b c.2.2.2.2.2.2.2.1 c.2.2.2.2.2.2.2.2.2:Nat):Int),[],[],false,0)) c):=by
    intro e he;rw[he];have hlen:(List.map (liftT (.ref 3 .byte)) m.2).length=m.1.1.length:=(show(List.map (liftT (.ref 3 .byte)) m.2).length=m.2.length from List.length_map _).trans h.n;have hget:(List.map (liftT (.ref 3 .byte)) m.2)[(c.2.2.2.1.1-1).toNat]? =some (.inl b):=(show(List.map (liftT (.ref 3 .byte)) m.2)[(c.2.2.2.1.1-1).toNat]? =Option.map (liftT (.ref 3 .byte)) m.2[(c.2.2.2.1.1-1).toNat]? from List.getElem?_map).trans (congrArg (Option.map (liftT (.ref 3 .byte))) hx2);unfold mdoesizW;rw[aUZ (by rw[aHZ];omega),Option.bind_some,aUZ (Nat.le_refl _),Option.bind_some,aaZ (by rw[Nat.ble_eq,aHZ];omega),w64 (by omega),azZ (by omega) (by rw[h.n];omega),Option.bind_some,hx2,Option.bind_some,
     iFZ (by rw[h.n];omega),Option.bind_some,azZ (by omega) (by rw[hlen];omega),Option.bind_some,hget,Option.bind_some,show((m.1.1,m.1.2):Tree)=m.1 from rfl,dpZ h.fit,Option.bind_some]
    simp only;rw[azZ (by omega) (by omega),Option.bind_some,hx.1.2.1,Option.bind_some,Option.bind_some,ooZ,beZ];simp only[List.nil_append];have hR:refLen (s:=.byte) (.inr (some (0,(0,writeN b c.2.2.2.2.2.2.2.1 c.2.2.2.2.2.2.2.2.2))))=writeN b c.2.2.2.2.2.2.2.1 c.2.2.2.2.2.2.2.2.2:=rfl;rw[hR,show(if((writeN b c.2.2.2.2.2.2.2.1 c.2.2.2.2.2.2.2.2.2:Nat):Int)<c.2.2.2.2.2.2.2.1 then((writeN b c.2.2.2.2.2.2.2.1 c.2.2.2.2.2.2.2.2.2:Nat):Int) else c.2.2.2.2.2.2.2.1)=((min c.2.2.2.2.2.2.2.1.toNat (writeN b c.2.2.2.2.2.2.2.1 c.2.2.2.2.2.2.2.2.2):Nat):Int) from by split<;>omega,
     aUZ (by omega),Option.bind_some]
    obtain⟨k,hk⟩:=pcZ (sizedL b (writeN b c.2.2.2.2.2.2.2.1 c.2.2.2.2.2.2.2.2.2)) c.2.2.2.2.2.2.2.2.2 (min c.2.2.2.2.2.2.2.1.toNat (writeN b c.2.2.2.2.2.2.2.1 c.2.2.2.2.2.2.2.2.2)) (by rw[beZ];omega) (by
     by_cases hz:c.2.2.2.2.2.2.2.2.2.length=0
     ·exact .inl (List.eq_nil_of_length_eq_zero hz)
     ·right;rw[beZ];unfold writeN;rw[if_neg hz];omega)
    rw[beZ] at hk;rw[hk,Option.bind_some];have hu:=gLZ (unrefD [⟨3,.byte,List.map frz1 [(1,writeL b c.2.2.2.2.2.2.2.1 c.2.2.2.2.2.2.2.2.2)]⟩] (.ref 3 .byte)) (fun _=>rfl) (.inr (some (0,(0,writeN b c.2.2.2.2.2.2.2.1 c.2.2.2.2.2.2.2.2.2)))) _ (pyZ _ _ (dlZ b _ _).symm) m.2 (c.2.2.2.1.1-1).toNat (by rw[h.n];omega);have hu':unrefL (unrefD [⟨3,.byte,List.map frz1 [(1,splice (sizedL b (writeN b c.2.2.2.2.2.2.2.1 c.2.2.2.2.2.2.2.2.2)) (min c.2.2.2.2.2.2.2.1.toNat (writeN b c.2.2.2.2.2.2.2.1 c.2.2.2.2.2.2.2.2.2)) c.2.2.2.2.2.2.2.2.2)]⟩] (.ref 3 .byte)) ((m.2.map Sum.inl).set (c.2.2.2.1.1-1).toNat (.inr (some (0,(0,writeN b c.2.2.2.2.2.2.2.1 c.2.2.2.2.2.2.2.2.2)))))=some (m.2.set (c.2.2.2.1.1-1).toNat (writeL b c.2.2.2.2.2.2.2.1 c.2.2.2.2.2.2.2.2.2)):=hu;refine(congrArg (fun o=>Option.bind o _) hu').trans ?_;have hset:putB m c.2.2.2.1 (writeL b c.2.2.2.2.2.2.2.1 c.2.2.2.2.2.2.2.2.2)=((m.1.1.set (c.2.2.2.1.1-1).toNat (x.1,x.2.1,x.2.2.1,x.2.2.2.1,((writeN b c.2.2.2.2.2.2.2.1 c.2.2.2.2.2.2.2.2.2:Nat):Int),x.2.2.2.2.2),m.1.2),m.2.set (c.2.2.2.1.1-1).toNat (writeL b c.2.2.2.2.2.2.2.1 c.2.2.2.2.2.2.2.2.2)):=by
     unfold putB setSize;rw[hx.1.2.1,dlZ]
    rw[hset]
    rfl
   by_cases hz:c.2.2.2.2.2.2.2.2.2.length=0
   ·rw[show(((c.2.2.2.2.2.2.2.2.2.length:Nat):Int)==0)=true from by rw[hz];rfl];simp only[cond_true,Option.bind_some];exact key 0 (by unfold writeN;rw[if_pos hz];split<;>omega)
   ·rw[show(((c.2.2.2.2.2.2.2.2.2.length:Nat):Int)==0)=false from beq_eq_false_iff_ne.2 (by omega)];simp only[cond_false,Option.bind_some];exact key _ (by unfold writeN;rw[if_neg hz];split<;>omega)
 ·rw[if_neg h0];simp only[stF,beq_eq_false_iff_ne.2 h0,Bool.not_false,cond_true]
  rfl
def statS(m:Mod)(c:CallT)(k:Nat):Int×(List Ino×(Int×(List Byt×(Int×(Int×(Int×(Int×(Int×(Byt×(Int×(Int×(Byt×(Int×(Int×(Byt×(Int×(Int×(Int×(Int×(Int×(Bool×(Int×(Bool×Int))))))))))))))))))))))):=(fun fr:Int=>((k:Int),(m.1.1,(m.1.2,(m.2,(c.1,(c.2.1,(((c.2.2.1.toNat:Nat):Int),(c.2.2.2.1.1,(c.2.2.2.1.2,(c.2.2.2.2.1,(c.2.2.2.2.2.1.1,(c.2.2.2.2.2.1.2,(c.2.2.2.2.2.2.1,(c.2.2.2.2.2.2.2.1,(c.2.2.2.2.2.2.2.2.1,(c.2.2.2.2.2.2.2.2.2,(c.1,(c.2.1,(0,(0,(0,(false,(0,(false,fr))))))))))))))))))))))))) (500-((usedN (m.1.1.take k):Nat):Int))
theorem r6Z{m:Mod}(h:ModelOK m)(c:CallT):mdoesta fuel m.1.1 m.1.2 m.2 c.1 c.2.1 ((c.2.2.1.toNat:Nat):Int) c.2.2.2.1.1 c.2.2.2.1.2 c.2.2.2.2.1 c.2.2.2.2.2.1.1 c.2.2.2.2.2.1.2 c.2.2.2.2.2.2.1 c.2.2.2.2.2.2.2.1 c.2.2.2.2.2.2.2.2.1 c.2.2.2.2.2.2.2.2.2 c.1 c.2.1 0 0 0 false 0 false 0=some (stO (statA m) c):=by
 unfold mdoesta;have hl:=h.len;have hS:∀k,usedN (m.1.1.take k)<=500:=fun k=>by
  unfold usedN;have:=List.countP_le_length (p:=fun x:Ino=>x.2.2.1) (l:=m.1.1.take k);rw[List.length_take] at this;omega
 have loop:mdoesta_l0_it fuel m.1.1 (statS m c 0)=some ((fun(fr:Int)=>(m.1.1,(m.1.2,(m.2,(c.1,(c.2.1,(((c.2.2.1.toNat:Nat):Int),(c.2.2.2.1.1,(c.2.2.2.1.2,(c.2.2.2.2.1,(c.2.2.2.2.2.1.1,(c.2.2.2.2.2.1.2,(c.2.2.2.2.2.2.1,(c.2.2.2.2.2.2.2.1,(c.2.2.2.2.2.2.2.2.1,(c.2.2.2.2.2.2.2.2.2,(c.1,(c.2.1,(0,(0,(0,(false,(0,(false,fr)))))))))))))))))))))))) (500-((usedN m.1.1:Nat):Int))):=by
  unfold mdoesta_l0_it;refine baZ (statS m c) m.1.1.length (by omega) (fun k hk=> ?_) ?_
  ·simp only[statS];unfold mdoesta_l0;obtain⟨x,hx⟩:∃x,m.1.1[k]? =some x:=⟨_,List.getElem?_eq_getElem hk⟩;have hk1:=hS k;simp only[aPZ hk,cond_true];rw[alZ hk,Option.bind_some,hx,Option.bind_some];have ht:m.1.1.take (k+1)=m.1.1.take k++[x]:=by rw[List.take_add_one,hx];rfl
   have hu:usedN (m.1.1.take (k+1))=usedN (m.1.1.take k)+(if x.2.2.1=true then 1 else 0):=by
    rw[ht];unfold usedN;rw[List.countP_append];cases hb:x.2.2.1<;>simp[List.countP_cons,hb]
   cases hb:x.2.2.1 with
   |true=>
    rw[hb,if_pos rfl] at hu;simp only[cond_true,Option.bind_some];rw[w64 (by omega),w64 (by omega),show(500:Int)-((usedN (m.1.1.take k):Nat):Int)-1=500-((usedN (m.1.1.take (k+1)):Nat):Int) by omega]
    rfl
   |false=>
    rw[hb,if_neg (by simp)] at hu;simp only[cond_false,Option.bind_some];rw[w64 (by omega),hu]
    rfl
  ·simp only[statS];unfold mdoesta_l0;simp only[a8Z (Nat.lt_irrefl _),cond_false];rw[List.take_length]
 refine(congrArg (fun o=>Option.bind o _) loop).trans ?_
 rfl
end Go.Ab.D
namespace Go.Ab.D
open Go Go.Ab
def madeD(l:List Ino)(d:List Byt):List Byt:=l.mapIdx fun i x=>bif x.2.2.1 then(d[i]?).getD [] else[]
theorem fSZ(l:List Ino)(d:List Byt):(madeD l d).length=l.length:=by unfold madeD;simp
theorem iEZ{l:List Ino}(d:List Byt){i:Nat}{x:Ino}(h:l[i]? =some x):(madeD l d)[i]? =some (bif x.2.2.1 then(d[i]?).getD [] else[]):=by
 unfold madeD;rw[List.getElem?_mapIdx,h]
 rfl
theorem irZ{α:Type}{l:List α}{k:Nat}{x:α}(h:l[k]? =some x):l.take (k+1)=l.take k++[x]:=by rw[List.take_add_one,h];rfl
def madeS(l:List Ino)(s:Int)(d:List Byt)(x3:Int)(x4:Int)(x5:Int)(x6:Int)(x7:Int)(x8:Byt)(x9:Int)(x10:Int)(x11:Byt)(x12:Int)(x13:Int)(x14:Byt)(x15:Int)(x16:Int)(x17:Int)(x18:Int)(x19:Int)(x20:Bool)(x21:Int)(x22:Byt)(x23:List Ent)(x24:Bool)(x25:Int)(k:Nat):Int×(List Ino×(Int×(List Byt×(Int×(Int×(Int×(Int×(Int×(Byt×(Int×(Int×(Byt×(Int×(Int×(Byt×(Int×(Int×(Int×(Int×(Int×(Bool×(Int×(Byt×(List Ent×(Bool×(Int×(Int×(Int×(List Ino×(List Byt)))))))))))))))))))))))))))))):=((k:Int),(l,(s,(d,(x3,(x4,(x5,(x6,(x7,(x8,(x9,(x10,(x11,(x12,(x13,(x14,(x15,(x16,(x17,(x18,(x19,(x20,(x21,(x22,(x23,(x24,(x25,(0,(s,(l,(madeD l d).take k))))))))))))))))))))))))))))))
theorem rYZ(l:List Ino)(s:Int)(d:List Byt)(x3:Int)(x4:Int)(x5:Int)(x6:Int)(x7:Int)(x8:Byt)(x9:Int)(x10:Int)(x11:Byt)(x12:Int)(x13:Int)(x14:Byt)(x15:Int)(x16:Int)(x17:Int)(x18:Int)(x19:Int)(x20:Bool)(x21:Int)(x22:Byt)(x23:List Ent)(x24:Bool)(x25:Int)(hf:Fit l)(hl:l.length<=500)(hd:∀(i:Nat) b,d[i]? =some b->b.length<=65536):
 mdoemad fuel l s d x3 x4 x5 x6 x7 x8 x9 x10 x11 x12 x13 x14 x15 x16 x17 x18 x19 x20 x21 x22 x23 x24 x25=some (s,(l,(s,(d,(x3,(x4,(x5,(x6,(x7,(x8,(x9,(x10,(x11,(x12,(x13,(x14,(x15,(x16,(x17,(x18,(x19,(x20,(x21,(x22,(x23,(x24,(x25,(l,madeD l d)))))))))))))))))))))))))))):=by
 unfold mdoemad;rw[dpZ (t:=(l,s)) hf,Option.bind_some];have loop:mdoemad_l0_it fuel (s,l) (madeS l s d x3 x4 x5 x6 x7 x8 x9 x10 x11 x12 x13 x14 x15 x16 x17 x18 x19 x20 x21 x22 x23 x24 x25 0)=some (l,(s,(d,(x3,(x4,(x5,(x6,(x7,(x8,(x9,(x10,(x11,(x12,(x13,(x14,(x15,(x16,(x17,(x18,(x19,(x20,(x21,(x22,(x23,(x24,(x25,(0,(s,(l,madeD l d))))))))))))))))))))))))))))):=by
  unfold mdoemad_l0_it;refine baZ (madeS l s d x3 x4 x5 x6 x7 x8 x9 x10 x11 x12 x13 x14 x15 x16 x17 x18 x19 x20 x21 x22 x23 x24 x25) l.length (by omega) (fun k hk=> ?_) ?_
  ·simp only[madeS];unfold mdoemad_l0;obtain⟨x,hx⟩:∃x,l[k]? =some x:=⟨_,List.getElem?_eq_getElem hk⟩;have hm:=iEZ d hx;have hlen:((madeD l d).take k).length<=500:=by rw[List.length_take,fSZ];omega
   simp only[aPZ hk,cond_true];rw[alZ hk,Option.bind_some,hx,Option.bind_some,irZ hm];by_cases hkd:k<d.length
   ·obtain⟨b,hb⟩:∃b,d[k]? =some b:=⟨_,List.getElem?_eq_getElem hkd⟩;have hbl:=hd k b hb;rw[aPZ hkd,hb];simp only[cond_true,Option.bind_some];cases hu:x.2.2.1 with
    |true=>
     simp only[cond_true];rw[alZ hkd,Option.bind_some,hb,Option.bind_some,hoZ (by omega),Option.bind_some,Option.bind_some];simp only;rw[aaZ (by simp only[Bool.and_eq_true,Nat.ble_eq,aHZ];omega),w64 (by omega)]
     rfl
    |false=>
     simp only[cond_false,Option.bind_some];rw[aaZ (by simp only[Bool.and_eq_true,Nat.ble_eq,aHZ];omega),w64 (by omega)]
     rfl
   ·rw[a8Z hkd,List.getElem?_eq_none (show d.length<=k by omega)];simp only[cond_false,Option.bind_some];rw[aaZ (by simp only[Bool.and_eq_true,Nat.ble_eq,aHZ];omega),w64 (by omega)];cases hu:x.2.2.1<;>rfl
  ·simp only[madeS];unfold mdoemad_l0;simp only[a8Z (Nat.lt_irrefl _),cond_false];rw[List.take_of_length_le (by rw[fSZ];exact Nat.le_refl _)]
 refine(congrArg (fun o=>Option.bind o _) loop).trans ?_
 rfl
def doS(y1:Int)(y2:Int)(y3:Int)(y4:Int)(y5:Int)(y6:Byt)(y7:Int)(y8:Int)(y9:Byt)(y10:Int)(y11:Int)(y12:Byt)(y13:Int)(y14:Int)(y15:Int)(y16:Int)(y17:Int)(y18:Int)(y19:Bool)(y20:Int)(y21:Bool)(y22:Int)(st:Int)(l:List Ino)(d:List Byt)(k:Nat):Int×(Int×(Int×(Int×(Int×(Int×(Byt×(Int×(Int×(Byt×(Int×(Int×(Byt×(Int×(Int×(Int×(Int×(Int×(Int×(Bool×(Int×(Bool×(Int×(Int×(List Ino×(List Byt))))))))))))))))))))))))):=((k:Int),(y1,(y2,(y3,(y4,(y5,(y6,(y7,(y8,(y9,(y10,(y11,(y12,(y13,(y14,(y15,(y16,(y17,(y18,(y19,(y20,(y21,(y22,(st,(l,d.take k)))))))))))))))))))))))))
theorem scZ(o1:Int×(List Ino×(Int×(List Byt×(Int×(Int×(Int×(Int×(Int×(Byt×(Int×(Int×(Byt×(Int×(Int×(Byt×(Int×(Int×(Int×(Int×(Int×(Int×(Bool×(Int×(Bool×(Int×(List Ino×(Int×(List Byt×(Int×(Int×(Int×(Int×(Int×(Byt×(Int×(Int×(Byt×(Int×(Int×(Byt×(Int×(Int×(Int×(Int×(Int×(Bool×(Int×(Byt×(List Ent×(Bool×Int)))))))))))))))))))))))))))))))))))))))))))))))))))(y1:Int)(y2:Int)(y3:Int)(y4:Int)(y5:Int)(y6:Byt)(y7:Int)(y8:Int)(y9:Byt)(y10:Int)(y11:Int)(y12:Byt)(y13:Int)(y14:Int)(y15:Int)(y16:Int)(y17:Int)(y18:Int)(y19:Bool)(y20:Int)(y21:Bool)(y22:Int)(st:Int)(l:List Ino)(d:List Byt)(ho:o1.2.2.2.1=d)(hl:d.length<=501)(hd:∀(i:Nat) b,d[i]? =some b->b.length<=65536):
 model_Do_l0_it fuel o1 (doS y1 y2 y3 y4 y5 y6 y7 y8 y9 y10 y11 y12 y13 y14 y15 y16 y17 y18 y19 y20 y21 y22 st l d 0)=some (y1,(y2,(y3,(y4,(y5,(y6,(y7,(y8,(y9,(y10,(y11,(y12,(y13,(y14,(y15,(y16,(y17,(y18,(y19,(y20,(y21,(y22,(st,(l,d)))))))))))))))))))))))):=by
 subst ho;unfold model_Do_l0_it;refine baZ (doS y1 y2 y3 y4 y5 y6 y7 y8 y9 y10 y11 y12 y13 y14 y15 y16 y17 y18 y19 y20 y21 y22 st l o1.2.2.2.1) o1.2.2.2.1.length (by omega) (fun k hk=> ?_) ?_
 ·simp only[doS];unfold model_Do_l0;obtain⟨b,hb⟩:∃b,o1.2.2.2.1[k]? =some b:=⟨_,List.getElem?_eq_getElem hk⟩;have hbl:=hd k b hb;have hlen:(o1.2.2.2.1.take k).length<=501:=by rw[List.length_take];omega
  simp only[aPZ hk,cond_true];rw[alZ hk,Option.bind_some,hb,Option.bind_some,hoZ (by omega),Option.bind_some,aaZ (by simp only[Bool.and_eq_true,Nat.ble_eq,aHZ];omega),w64 (by omega),irZ hb]
  rfl
 ·simp only[doS];unfold model_Do_l0;simp only[a8Z (Nat.lt_irrefl _),cond_false];rw[List.take_length]
theorem r2Z(o1:Int×(List Ino×(Int×(List Byt×(Int×(Int×(Int×(Int×(Int×(Byt×(Int×(Int×(Byt×(Int×(Int×(Byt×(Int×(Int×(Int×(Int×(Int×(Int×(Bool×(Int×(Bool×(Int×(List Ino×(Int×(List Byt×(Int×(Int×(Int×(Int×(Int×(Byt×(Int×(Int×(Byt×(Int×(Int×(Byt×(Int×(Int×(Int×(Int×(Int×(Bool×(Int×(Byt×(List Ent×(Bool×Int)))))))))))))))))))))))))))))))))))))))))))))))))))(y1:Int)(y2:Int)(y3:Int)(y4:Int)(y5:Int)(y6:Byt)(y7:Int)(y8:Int)(y9:Byt)(y10:Int)(y11:Int)(y12:Byt)(y13:Int)(y14:Int)(y15:Int)(y16:Int)(y17:Int)(y18:Int)(y19:Bool)(y20:Int)(y21:Bool)(y22:Int)(st:Int)(l:List Ino)(d:List Byt)(ho:o1.2.2.2.1=d)(hl:d.length<=501)(hd:∀(i:Nat) b,d[i]? =some b->b.length<=65536):
 model_Do_l0_it fuel o1 (0,(y1,(y2,(y3,(y4,(y5,(y6,(y7,(y8,(y9,(y10,(y11,(y12,(y13,(y14,(y15,(y16,(y17,(y18,(y19,(y20,(y21,(y22,(st,(l,[])))))))))))))))))))))))))=some (y1,(y2,(y3,(y4,(y5,(y6,(y7,(y8,(y9,(y10,(y11,(y12,(y13,(y14,(y15,(y16,(y17,(y18,(y19,(y20,(y21,(y22,(st,(l,d)))))))))))))))))))))))):=scZ o1 y1 y2 y3 y4 y5 y6 y7 y8 y9 y10 y11 y12 y13 y14 y15 y16 y17 y18 y19 y20 y21 y22 st l d ho hl hd
end Go.Ab.D
namespace Go.Ab.D
open Go Go.Ab
def Kept(l:List Ino)(d:List Byt):Prop:=∀(i:Nat) x,l[i]? =some x->x.2.2.1=true->x.2.2.2.2.2.1=[]/\((((d[i]?).getD []).length:Nat):Int)=x.2.2.2.2.1
theorem ModelOK.kept{m:Mod}(h:ModelOK m):Kept m.1.1 m.2:=fun i x hx _=>by
 obtain⟨b,hb,hs,_⟩:=h.at hx;rw[hb];exact⟨h.p i x hx,hs⟩
theorem Kept.model{t:Tree}{d:List Byt}(h:TreeOK t)(k:Kept t.1 d):ModelOK (t,madeD t.1 d):=by
 refine⟨h,fSZ _ _,fun i x hx=> ?_,fun i x b hx hb=> ?_⟩
 ·cases hu:x.2.2.1 with
  |true=>exact(k i x hx hu).1
  |false=>exact((h.r.ino i x hx).bare hu).2.2.2.1
 ·rw[iEZ d hx] at hb;simp only[Option.some.injEq] at hb;subst hb;cases hu:x.2.2.1 with
  |true=>exact(k i x hx hu).2
  |false=>rw[((h.r.ino i x hx).bare hu).2.1];rfl
theorem dUZ{l:List Ino}{d:List Byt}(k:Kept l d)(i:Nat)(f:Ino->Ino)(hf:∀n,(f n).2.2.1=true->n.2.2.1=true/\(f n).2.2.2.2.2.1=n.2.2.2.2.2.1/\(f n).2.2.2.2.1=n.2.2.2.2.1):Kept (modL l i f) d:=by
 intro j x hx hu;rw[btZ] at hx;split at hx
 ·cases hn:l[j]? with
  |none=>rw[hn] at hx;cases hx
  |some n=>
   rw[hn] at hx;simp only[Option.map_some,Option.some.injEq] at hx;subst hx;obtain⟨q1,q2,q3⟩:=hf n hu;rw[q2,q3];exact k j n hn q1
 ·exact k j x hx hu
theorem i8Z{l:List Ino}{d:List Byt}(k:Kept l d)(a:Int)(s:List UInt8)(id:Int):Kept (putL l a s id) d:=dUZ k _ _ fun _ h=>⟨h,rfl,rfl⟩
theorem etZ{l:List Ino}{d:List Byt}(k:Kept l d)(a:Int)(s:List UInt8):Kept (takeL l a s) d:=dUZ k _ _ fun _ h=>⟨h,rfl,rfl⟩
theorem n4Z{l:List Ino}{d:List Byt}(k:Kept l d)(a p:Int):Kept (parL l a p) d:=dUZ k _ _ fun _ h=>⟨h,rfl,rfl⟩
theorem gBZ{l:List Ino}{d:List Byt}(k:Kept l d)(a:Int):Kept (dropL l a) d:=dUZ k _ _ fun _ h=>by cases h
theorem k5Z{l:List Ino}{d:List Byt}(k:Kept l d)(a:Int)(old:List UInt8)(b:Int)(name:List UInt8)(id:Int):Kept (mvL l a old b name id) d:=n4Z (i8Z (etZ k _ _) _ _ _) _ _
theorem l9Z{m:Mod}(h:ModelOK m){dir:Bool}{parent g:Int}{l':List Ino}{i:Nat}(ha:allocF m.1.1 dir parent=some (l',i,g)):Kept l' m.2:=by
 unfold allocF at ha;cases hf:freeAt m.1.1 with
 |none=>
  rw[hf] at ha;simp only at ha;split at ha
  ·simp only[Option.some.injEq,Prod.mk.injEq] at ha;obtain⟨rfl,rfl,rfl⟩:=ha;intro j x hx hu;by_cases hj:j<m.1.1.length
   ·rw[List.getElem?_append_left hj] at hx;exact h.kept j x hx hu
   ·rw[List.getElem?_append_right (by omega)] at hx;have hj0:j-m.1.1.length=0:=by
     cases hq:j-m.1.1.length with
     |zero=>rfl
     |succ q=>rw[hq] at hx;simp at hx
    rw[hj0] at hx;simp only[List.getElem?_cons_zero,Option.some.injEq] at hx;subst hx;rw[List.getElem?_eq_none (by rw[h.n];omega)];exact⟨rfl,rfl⟩
  ·cases ha
 |some k=>
  rw[hf] at ha;simp only at ha;obtain⟨hk,hused,_⟩:=List.findIdx?_eq_some_iff_getElem.1 hf;have hg:m.1.1[k]? =some m.1.1[k]:=List.getElem?_eq_getElem hk;rw[hg] at ha;simp only at ha;split at ha
  ·simp only[Option.some.injEq,Prod.mk.injEq] at ha;obtain⟨rfl,rfl,rfl⟩:=ha;intro j x hx hu;by_cases hj:j=k
   ·subst hj;rw[List.getElem?_set_self hk] at hx;simp only[Option.some.injEq] at hx;subst hx;obtain⟨b,hb,hs,_⟩:=h.at hg;have hun:(m.1.1[j]).2.2.1=false:=by simpa using hused
    rw[((h.t.r.ino j _ hg).bare hun).2.1] at hs;rw[hb];exact⟨rfl,hs⟩
   ·rw[List.getElem?_set_ne (fun e=>hj e.symm)] at hx;exact h.kept j x hx hu
  ·cases ha
theorem n3Z{m:Mod}(h:ModelOK m)(d:Int×Int)(s:List UInt8)(is:Bool):Kept (makeF m.1 d s is).1.1 m.2:=by
 unfold makeF;have k:=h.kept;split
 ·split
  ·split
   ·exact k
   ·split
    ·exact k
    ·split
     ·exact k
     ·split
      ·exact k
      ·rename_i l' i g ha;exact i8Z (l9Z h ha) _ _ _
  ·exact k
 ·exact k
theorem jmZ{m:Mod}(h:ModelOK m)(d:Int×Int)(s:List UInt8)(is:Bool):Kept (removeF m.1 d s is).1.1 m.2:=by
 unfold removeF;have k:=h.kept;split
 ·split
  ·split
   ·exact k
   ·split
    ·exact k
    ·split
     ·exact k
     ·split
      ·exact gBZ (etZ k _ _) _
      ·exact k
  ·exact k
 ·exact k
theorem klZ{m:Mod}(h:ModelOK m)(a:Int×Int)(old:List UInt8)(b:Int×Int)(name:List UInt8):Kept (renameF m.1 a old b name).1.1 m.2:=by
 unfold renameF;have k:=h.kept;split
 ·split
  ·split
   ·split
    ·exact k
    ·split
     ·exact k
     ·split
      ·exact k
      ·split
       ·exact k
       ·split
        ·exact k
        ·split
         ·split
          ·exact k
          ·exact k5Z k _ _ _ _ _
         ·split
          ·exact k
          ·split
           ·exact k
           ·split
            ·exact k5Z (gBZ (etZ k _ _) _) _ _ _ _ _
            ·exact k
   ·exact k
  ·exact k
 ·exact k
def wS(x:Ino)(n:Int):Ino:=(x.1,x.2.1,x.2.2.1,x.2.2.2.1,n,x.2.2.2.2.2)
theorem kNZ{l:List Ino}{i:Nat}{x:Ino}(hx:l[i]? =some x)(n:Int){j:Nat}{y:Ino}(hy:l[j]? =some y):∃y',(l.set i (wS x n))[j]? =some y'/\y'=wS y y'.2.2.2.2.1:=by
 by_cases hj:j=i
 ·subst hj;rw[hx] at hy;cases hy;exact⟨_,List.getElem?_set_self (List.getElem?_eq_some_iff.1 hx).1,rfl⟩
 ·exact⟨y,by rw[List.getElem?_set_ne (fun e=>hj e.symm)];exact hy,rfl⟩
theorem ihZ{l:List Ino}{i:Nat}{x:Ino}(hx:l[i]? =some x)(n:Int){j:Nat}{y':Ino}(hy:(l.set i (wS x n))[j]? =some y'):∃y,l[j]? =some y/\y'=wS y y'.2.2.2.2.1/\(j≠i->y'=y)/\(j=i->y=x/\y'=wS x n):=by
 by_cases hj:j=i
 ·subst hj;rw[List.getElem?_set_self (List.getElem?_eq_some_iff.1 hx).1] at hy;simp only[Option.some.injEq] at hy;subst hy;exact⟨x,hx,rfl,fun h=>absurd rfl h,fun _=>⟨rfl,rfl⟩⟩
 ·rw[List.getElem?_set_ne (fun e=>hj e.symm)] at hy;exact⟨y',hy,rfl,fun _=>rfl,fun h=>absurd h hj⟩
theorem r3Z{l:List Ino}{i:Nat}{x:Ino}(hx:l[i]? =some x)(n:Int){id:Int}(h:Rch l id):Rch (l.set i (wS x n)) id:=by
 induction h with
 |root=>exact .root
 |step hy hu _ ih=>
  obtain⟨y',h1,h2⟩:=kNZ hx n hy;have hu':y'.2.2.1=true:=by rw[h2];exact hu
  have:=Rch.step h1 hu';rw[h2] at this;exact this ih
theorem lZZ{t:Tree}(h:TreeOK t){i:Nat}{x:Ino}(hx:t.1[i]? =some x)(hu:x.2.2.1=true)(hd:x.2.2.2.1=false){n:Int}(hn:0<=n/\n<=65536):TreeOK (t.1.set i (wS x n),t.2):=by
 have hlen:(t.1.set i (wS x n)).length=t.1.length:=List.length_set;refine⟨⟨by rw[hlen];exact h.r.len,h.r.str,fun j y' hy=> ?_,?_,?_⟩,fun j y' hy s id he=> ?_,fun j y' hy hu' hj=> ?_,fun j y' hy hu'=> ?_⟩
 ·obtain⟨y,h1,h2,h3,h4⟩:=ihZ hx n hy;have o:=h.r.ino j y h1;show okIno (t.1.set i (wS x n)).length t.2 j y';rw[hlen];by_cases hj:j=i
  ·obtain⟨rfl,h5⟩:=h4 hj;have f:=o.file hu hd;subst h5;exact⟨o.id,o.gen,o.par,fun _ hq=>(by have hq:y.2.2.2.1=true:=hq;rw[hd] at hq;cases hq),fun _ _=>⟨hn,f.2.1,f.2.2.1,f.2.2.2⟩,fun hq=>(by have hq:y.2.2.1=false:=hq;rw[hu] at hq;cases hq)⟩
  ·rw[h3 hj];exact o
 ·have e:allStripes (t.1.set i (wS x n))=allStripes t.1:=by
   unfold allStripes;rw[show(t.1.set i (wS x n)).flatMap (fun n=>stripes n.2.2.2.2.2.1)=((t.1.set i (wS x n)).map fun n=>n.2.2.2.2.2.1).flatMap stripes from by rw[List.flatMap_map],
    show t.1.flatMap (fun n=>stripes n.2.2.2.2.2.1)=(t.1.map fun n=>n.2.2.2.2.2.1).flatMap stripes from by rw[List.flatMap_map],List.map_set]
   congr 1;exact gUZ (by rw[List.getElem?_map,hx];rfl)
  show(allStripes (t.1.set i (wS x n))).Nodup;rw[e];exact h.r.nod
 ·obtain⟨r,q1,q2,q3,q4⟩:=h.r.root;obtain⟨r',h1,h2⟩:=kNZ hx n q1;refine⟨r',h1,?_,?_,?_⟩<;>rw[h2]
  ·exact q2
  ·exact q3
  ·exact q4
 ·obtain⟨y,h1,h2,_⟩:=ihZ hx n hy;rw[h2] at he;obtain⟨q1,q2,z,q3,q4,q5⟩:=h.e j y h1 s id he;obtain⟨z',h3,h4⟩:=kNZ hx n q3;exact⟨q1,q2,z',h3,by rw[h4];exact q4,by rw[h4];exact q5⟩
 ·obtain⟨y,h1,h2,_⟩:=ihZ hx n hy;rw[h2] at hu';obtain⟨z,s,q1,q2,q3⟩:=h.u j y h1 hu' hj;obtain⟨z',h3,h4⟩:=kNZ hx n q1;refine⟨z',s,by rw[h2];exact h3,by rw[h4];exact q2,fun s' hs=> ?_⟩;rw[h4] at hs;exact q3 s' hs
 ·obtain⟨y,h1,h2,_⟩:=ihZ hx n hy;rw[h2] at hu';exact r3Z hx n (h.a j y h1 hu')
theorem jCZ{m:Mod}(h:ModelOK m){hd:Int×Int}{x:Ino}{b:Byt}(hx:IsF m hd x b){c:Byt}(hc:c.length<=65536):TreeOK (putB m hd c).1/\Kept (putB m hd c).1.1 (putB m hd c).2/\(putB m hd c).1.1.length=m.1.1.length/\(putB m hd c).2.length=m.2.length/\
 ∀(i:Nat) z,(putB m hd c).2[i]? =some z->z.length<=65536:=by
 obtain⟨⟨h1,hg,hu,hgen⟩,hdir,hb⟩:=hx;have e:putB m hd c=((m.1.1.set (hd.1-1).toNat (wS x ((c.length:Nat):Int)),m.1.2),m.2.set (hd.1-1).toNat c):=by
  unfold putB setSize;rw[hg]
  rfl
 rw[e];have hlt:=(List.getElem?_eq_some_iff.1 hg).1;refine⟨lZZ h.t hg hu hdir (by omega),fun j y' hy hu'=> ?_,List.length_set,List.length_set,fun i z hz=> ?_⟩
 ·obtain⟨y,q1,q2,q3,q4⟩:=ihZ hg _ hy;by_cases hj:j=(hd.1-1).toNat
  ·obtain⟨rfl,q5⟩:=q4 hj;subst q5 hj;show _/\(((((m.2.set (hd.1-1).toNat c)[(hd.1-1).toNat]?).getD []).length:Nat):Int)=_;rw[List.getElem?_set_self (by rw[h.n];exact hlt)];exact⟨h.p _ y q1,rfl⟩
  ·rw[q3 hj] at hu'⊢;show _/\(((((m.2.set (hd.1-1).toNat c)[j]?).getD []).length:Nat):Int)=_;rw[List.getElem?_set_ne (fun e=>hj e.symm)];exact h.kept j y q1 hu'
 ·by_cases hi:i=(hd.1-1).toNat
  ·subst hi;have hz:(m.2.set (hd.1-1).toNat c)[(hd.1-1).toNat]? =some z:=hz;rw[List.getElem?_set_self (by rw[h.n];exact hlt)] at hz;cases hz;exact hc
  ·have hz:(m.2.set (hd.1-1).toNat c)[i]? =some z:=hz;rw[List.getElem?_set_ne (fun e=>hi e.symm)] at hz;exact h.byt hz
end Go.Ab.D
namespace Go.Ab.D
open Go Go.Ab
def actF(m:Mod)(c:CallT):DoR:=if c.2.2.1=UInt8.ofNat 1 then lookA m c else if c.2.2.1=UInt8.ofNat 2 then makeA m c else if c.2.2.1=UInt8.ofNat 3 then makeA m c else if c.2.2.1=UInt8.ofNat 4 then readA m c else if c.2.2.1=UInt8.ofNat 5 then writeA m c else if c.2.2.1=UInt8.ofNat 6 then sizeA m c else if c.2.2.1=UInt8.ofNat 7 then removeA m c else if c.2.2.1=UInt8.ofNat 8 then removeA m c else if c.2.2.1=UInt8.ofNat 9 then renameA m c else if c.2.2.1=UInt8.ofNat 10 then listA m c else if c.2.2.1=UInt8.ofNat 11 then getA m c else if c.2.2.1=UInt8.ofNat 12 then statA m else(179,m,rep0)
structure Sane (q:DoR):Prop where
 t:TreeOK q.2.1.1
 k:Kept q.2.1.1.1 q.2.1.2
 n:q.2.1.2.length<=501
 b:∀(i:Nat) z,q.2.1.2[i]? =some z->z.length<=65536
theorem Sane.same{m:Mod}(h:ModelOK m){q:DoR}(e:q.2.1=m):Sane q:=by
 obtain⟨e1,m',r⟩:=q;have e:m'=m:=e;subst e;exact⟨h.t,h.kept,by have:=h.len;have:=h.n;show m'.2.length<=501;omega,fun i z hz=>h.byt hz⟩
section
variable {m : Mod} (h : ModelOK m) (c : CallT)
include h
theorem dlen:m.2.length<=501:=by have:=h.len;have:=h.n;omega
theorem mEZ:Sane (lookA m c):=.same h (by unfold lookA;split<;>first|rfl|(split<;>rfl))
theorem noZ:Sane (readA m c):=.same h (by unfold readA;split<;>rfl)
theorem p5Z:Sane (getA m c):=.same h (by unfold getA;split<;>rfl)
theorem ikZ:Sane (makeA m c):=by
 unfold makeA;split
 ·exact⟨(nGZ h.t _ _ _).2,n3Z h _ _ _,dlen (m:=m) h,fun i z hz=>h.byt hz⟩
 ·exact .same h rfl
theorem fGZ:Sane (removeA m c):=by
 unfold removeA;split
 ·exact⟨(iJZ h.t _ _ _).2,jmZ h _ _ _,dlen (m:=m) h,fun i z hz=>h.byt hz⟩
 ·exact .same h rfl
theorem jqZ:Sane (renameA m c):=by
 unfold renameA;split
 ·exact⟨(i0Z h.t _ _ _ _).2,klZ h _ _ _ _,dlen (m:=m) h,fun i z hz=>h.byt hz⟩
 ·exact .same h rfl
theorem nxZ(hn:0<=c.2.2.2.2.2.2.2.2.1/\c.2.2.2.2.2.2.2.2.1<=2147483648):Sane (sizeA m c):=by
 unfold sizeA;split
 ·rename_i h0;obtain⟨x,hx,_⟩:=dQZ h0;split
  ·exact .same h rfl
  ·obtain⟨q1,q2,q3,q4,q5⟩:=jCZ h hx (c:=sizedL (fileF m c.2.2.2.1).2.1 c.2.2.2.2.2.2.2.2.1.toNat) (by rw[beZ];omega);exact⟨q1,q2,by have:=dlen h;show(putB m _ _).2.length<=501;omega,q5⟩
 ·exact .same h rfl
theorem mqZ(hbs:c.2.2.2.2.2.2.2.2.2.length<=4096):Sane (writeA m c):=by
 unfold writeA;split
 ·rename_i h0;obtain⟨x,hx,_⟩:=dQZ h0;have hbl:=h.byt hx.2.2;split
  ·exact .same h rfl
  ·obtain⟨q1,q2,q3,q4,q5⟩:=jCZ h hx (c:=writeL (fileF m c.2.2.2.1).2.1 c.2.2.2.2.2.2.2.1 c.2.2.2.2.2.2.2.2.2) (by rw[dlZ];unfold writeN;split<;>omega);exact⟨q1,q2,by have:=dlen h;show(putB m _ _).2.length<=501;omega,q5⟩
 ·exact .same h rfl
theorem bcZ(hn:0<=c.2.2.2.2.2.2.2.2.1/\c.2.2.2.2.2.2.2.2.1<=2147483648)(hbs:c.2.2.2.2.2.2.2.2.2.length<=4096):Sane (actF m c):=by
 unfold actF;by_cases h1:c.2.2.1=UInt8.ofNat 1
 ·rw[if_pos h1];exact mEZ h c
 rw[if_neg h1];by_cases h2:c.2.2.1=UInt8.ofNat 2
 ·rw[if_pos h2];exact ikZ h c
 rw[if_neg h2];by_cases h3:c.2.2.1=UInt8.ofNat 3
 ·rw[if_pos h3];exact ikZ h c
 rw[if_neg h3];by_cases h4:c.2.2.1=UInt8.ofNat 4
 ·rw[if_pos h4];exact noZ h c
 rw[if_neg h4];by_cases h5:c.2.2.1=UInt8.ofNat 5
 ·rw[if_pos h5];exact mqZ h c hbs
 rw[if_neg h5];by_cases h6:c.2.2.1=UInt8.ofNat 6
 ·rw[if_pos h6];exact nxZ h c hn
 rw[if_neg h6];by_cases h7:c.2.2.1=UInt8.ofNat 7
 ·rw[if_pos h7];exact fGZ h c
 rw[if_neg h7];by_cases h8:c.2.2.1=UInt8.ofNat 8
 ·rw[if_pos h8];exact fGZ h c
 rw[if_neg h8];by_cases h9:c.2.2.1=UInt8.ofNat 9
 ·rw[if_pos h9];exact jqZ h c
 rw[if_neg h9];by_cases h10:c.2.2.1=UInt8.ofNat 10
 ·rw[if_pos h10];exact .same h rfl
 rw[if_neg h10];by_cases h11:c.2.2.1=UInt8.ofNat 11
 ·rw[if_pos h11];exact p5Z h c
 rw[if_neg h11];by_cases h12:c.2.2.1=UInt8.ofNat 12
 ·rw[if_pos h12];exact .same h rfl
 rw[if_neg h12];exact .same h rfl
end
theorem mIZ(o:Nat):(shapeN o).2.2.2.2.1<=2147483648:=by unfold shapeN;(repeat' split)<;>decide
theorem aSZ{c:CallT}(hr:rightCall c=true):(0<=c.2.2.2.2.2.2.2.1/\c.2.2.2.2.2.2.2.1<=2147483648)/\(0<=c.2.2.2.2.2.2.2.2.1/\c.2.2.2.2.2.2.2.2.1<=2147483648)/\c.2.2.2.2.2.2.2.2.2.length<=4096:=by
 unfold rightCall rightS at hr;have hs:=mIZ c.2.2.1.toNat;simp only[Bool.and_eq_true,Bool.or_eq_true,decide_eq_true_eq] at hr;obtain⟨_,_,_,_,_,_,h1,_,h2,h3⟩:=hr;refine⟨h1,⟨h2.1,by omega⟩,?_⟩;rcases h3 with h3|h3
 ·omega
 ·exact h3.2
theorem rdZ:∀n:Nat,n<256->(shapeN n).2.2.2.2.2.2=true->UInt8.ofNat n=UInt8.ofNat 1\/UInt8.ofNat n=UInt8.ofNat 2\/UInt8.ofNat n=UInt8.ofNat 3\/UInt8.ofNat n=UInt8.ofNat 4\/UInt8.ofNat n=UInt8.ofNat 5\/UInt8.ofNat n=UInt8.ofNat 6\/UInt8.ofNat n=UInt8.ofNat 7\/UInt8.ofNat n=UInt8.ofNat 8\/UInt8.ofNat n=UInt8.ofNat 9\/UInt8.ofNat n=UInt8.ofNat 10\/UInt8.ofNat n=UInt8.ofNat 11\/UInt8.ofNat n=UInt8.ofNat 12:=by decide+kernel
theorem p1Z{c:CallT}(hr:rightCall c=true):c.2.2.1=UInt8.ofNat 1\/c.2.2.1=UInt8.ofNat 2\/c.2.2.1=UInt8.ofNat 3\/c.2.2.1=UInt8.ofNat 4\/c.2.2.1=UInt8.ofNat 5\/c.2.2.1=UInt8.ofNat 6\/c.2.2.1=UInt8.ofNat 7\/c.2.2.1=UInt8.ofNat 8\/c.2.2.1=UInt8.ofNat 9\/c.2.2.1=UInt8.ofNat 10\/c.2.2.1=UInt8.ofNat 11\/c.2.2.1=UInt8.ofNat 12:=by
 unfold rightCall rightS at hr;simp only[Bool.and_eq_true] at hr;have:=rdZ c.2.2.1.toNat c.2.2.1.toNat_lt hr.1;rwa [show UInt8.ofNat c.2.2.1.toNat=c.2.2.1 from by simp] at this
theorem nKZ(m:Mod)(c:CallT):(lookA m c).2.2.2.2.2.1=[]/\(lookA m c).2.2.2.2.2.2.1=[]:=by unfold lookA;(repeat' split)<;>exact⟨rfl,rfl⟩
theorem gOZ(m:Mod)(c:CallT):(makeA m c).2.2.2.2.2.1=[]/\(makeA m c).2.2.2.2.2.2.1=[]:=by unfold makeA;(repeat' split)<;>exact⟨rfl,rfl⟩
theorem egZ(m:Mod)(c:CallT):(removeA m c).2.2.2.2.2.1=[]/\(removeA m c).2.2.2.2.2.2.1=[]:=by unfold removeA;(repeat' split)<;>exact⟨rfl,rfl⟩
theorem iGZ(m:Mod)(c:CallT):(renameA m c).2.2.2.2.2.1=[]/\(renameA m c).2.2.2.2.2.2.1=[]:=by unfold renameA;(repeat' split)<;>exact⟨rfl,rfl⟩
theorem nQZ(m:Mod)(c:CallT):(sizeA m c).2.2.2.2.2.1=[]/\(sizeA m c).2.2.2.2.2.2.1=[]:=by unfold sizeA;(repeat' split)<;>exact⟨rfl,rfl⟩
theorem kYZ(m:Mod)(c:CallT):(writeA m c).2.2.2.2.2.1=[]/\(writeA m c).2.2.2.2.2.2.1=[]:=by unfold writeA;(repeat' split)<;>exact⟨rfl,rfl⟩
theorem qfZ(m:Mod)(c:CallT):(getA m c).2.2.2.2.2.1=[]/\(getA m c).2.2.2.2.2.2.1=[]:=by unfold getA;(repeat' split)<;>exact⟨rfl,rfl⟩
theorem qRZ(m:Mod)(c:CallT):(readA m c).2.2.2.2.2.2.1=[]:=by unfold readA;(repeat' split)<;>rfl
def resF(m:Mod)(c:CallT):Mod×Int×Rep:=
 if rightCall c=true then
  if(actF m c).1=0 then(((actF m c).2.1.1,madeD (actF m c).2.1.1.1 (actF m c).2.1.2),0,(actF m c).2.2)
  else(m,(actF m c).1,rep0)
 else(m,179,rep0)
def doT(r:Mod×Int×Rep)(c:CallT):Int×(Int×(Int×(Int×(Int×(Int×(Bool×(Int×(Byt×(List Ent×(Bool×(Int×(List Ino×List Byt)))))))))))):=(r.1.1.2,(c.1,(c.2.1,(r.2.1,(r.2.2.1.1,(r.2.2.1.2,(r.2.2.2.1,(r.2.2.2.2.1,(r.2.2.2.2.2.1,(r.2.2.2.2.2.2.1,(r.2.2.2.2.2.2.2.1,(r.2.2.2.2.2.2.2.2,(r.1.1.1,r.1.2)))))))))))))
theorem hMZ{m:Mod}(h:ModelOK m)(c:CallT):ModelOK (resF m c).1:=by
 unfold resF;by_cases hr:rightCall c=true
 ·rw[if_pos hr];obtain⟨ho,hn,hbs⟩:=aSZ hr;have s:=bcZ h c hn hbs;by_cases h0:(actF m c).1=0
  ·rw[if_pos h0];exact s.k.model s.t
  ·rw[if_neg h0];exact h
 ·rw[if_neg hr];exact h
end Go.Ab.D
set_option maxHeartbeats 4000000
set_option maxRecDepth 100000
namespace Go.Ab.D
open Go Go.Ab
theorem arZ(u:UInt8):byte? ((u.toNat:Nat):Int)=some u:=by rw[o8Z u.toNat_lt];simp
def finF(m:Mod)(q:DoR):Mod×Int×Rep:=
 if q.1=0 then((q.2.1.1,madeD q.2.1.1.1 q.2.1.2),0,q.2.2) else(m,q.1,rep0)
theorem bEZ{m:Mod}{c:CallT}(hr:rightCall c=true):resF m c=finF m (actF m c):=by unfold resF finF;rw[if_pos hr]
def mkO(q:DoR)(by_:Byt)(en:List Ent)(m:Mod)(c:CallT):qT9:=(q.1,(m.1.1,(m.1.2,(m.2,(c.1,(c.2.1,(((c.2.2.1.toNat:Nat):Int),(c.2.2.2.1.1,(c.2.2.2.1.2,(c.2.2.2.2.1,(c.2.2.2.2.2.1.1,(c.2.2.2.2.2.1.2,(c.2.2.2.2.2.2.1,(c.2.2.2.2.2.2.2.1,(c.2.2.2.2.2.2.2.2.1,(c.2.2.2.2.2.2.2.2.2,(0,(0,(0,(0,(0,(0,(false,(0,(false,(0,(q.2.1.1.1,(q.2.1.1.2,(q.2.1.2,(c.1,(c.2.1,(((c.2.2.1.toNat:Nat):Int),(c.2.2.2.1.1,(c.2.2.2.1.2,(c.2.2.2.2.1,(c.2.2.2.2.2.1.1,(c.2.2.2.2.2.1.2,(c.2.2.2.2.2.2.1,(c.2.2.2.2.2.2.2.1,(c.2.2.2.2.2.2.2.2.1,(c.2.2.2.2.2.2.2.2.2,(c.1,(c.2.1,(0,(q.2.2.1.1,(q.2.2.1.2,(q.2.2.2.1,(q.2.2.2.2.1,(by_,(en,(q.2.2.2.2.2.2.2.1,q.2.2.2.2.2.2.2.2)))))))))))))))))))))))))))))))))))))))))))))))))))
noncomputable def doTail (o1 : qT9) : Option (Int × (Int × (Int × (Int × (Int × (Int × (Bool × (Int × (Byt × (List Ent × (Bool × (Int × (List Ino × List Byt))))))))))))) :=
 bif (!(o1.1==0)) then
  (mcop fuel (o1.2.1,o1.2.2.1)).bind fun r14=>
  (model_Do_l0_it fuel o1 (0,(o1.2.2.2.2.1,(o1.2.2.2.2.2.1,(o1.2.2.2.2.2.2.1,(o1.2.2.2.2.2.2.2.1,(o1.2.2.2.2.2.2.2.2.1,(o1.2.2.2.2.2.2.2.2.2.1,(o1.2.2.2.2.2.2.2.2.2.2.1,(o1.2.2.2.2.2.2.2.2.2.2.2.1,(o1.2.2.2.2.2.2.2.2.2.2.2.2.1,(o1.2.2.2.2.2.2.2.2.2.2.2.2.2.1,(o1.2.2.2.2.2.2.2.2.2.2.2.2.2.2.1,(o1.2.2.2.2.2.2.2.2.2.2.2.2.2.2.2.1,(o1.2.2.2.2.2.2.2.2.2.2.2.2.2.2.2.2.1,(o1.2.2.2.2.2.2.2.2.2.2.2.2.2.2.2.2.2.1,(o1.2.2.2.2.2.2.2.2.2.2.2.2.2.2.2.2.2.2.1,(o1.2.2.2.2.2.2.2.2.2.2.2.2.2.2.2.2.2.2.2.1,(o1.2.2.2.2.2.2.2.2.2.2.2.2.2.2.2.2.2.2.2.2.1,(o1.2.2.2.2.2.2.2.2.2.2.2.2.2.2.2.2.2.2.2.2.2.1,(o1.2.2.2.2.2.2.2.2.2.2.2.2.2.2.2.2.2.2.2.2.2.2.1,(o1.2.2.2.2.2.2.2.2.2.2.2.2.2.2.2.2.2.2.2.2.2.2.2.1,(o1.2.2.2.2.2.2.2.2.2.2.2.2.2.2.2.2.2.2.2.2.2.2.2.2.1,(o1.2.2.2.2.2.2.2.2.2.2.2.2.2.2.2.2.2.2.2.2.2.2.2.2.2.1,(r14.1,(r14.2,[])))))))))))))))))))))))))).bind fun o2=>
  some (o2.2.2.2.2.2.2.2.2.2.2.2.2.2.2.2.2.2.2.2.2.2.2.1,(o2.1,(o2.2.1,(o1.1,(0,(0,(false,(0,([],([],(false,(0,(o2.2.2.2.2.2.2.2.2.2.2.2.2.2.2.2.2.2.2.2.2.2.2.2.1,o2.2.2.2.2.2.2.2.2.2.2.2.2.2.2.2.2.2.2.2.2.2.2.2.2)))))))))))))
 else
  (mdoemad fuel o1.2.2.2.2.2.2.2.2.2.2.2.2.2.2.2.2.2.2.2.2.2.2.2.2.2.2.1 o1.2.2.2.2.2.2.2.2.2.2.2.2.2.2.2.2.2.2.2.2.2.2.2.2.2.2.2.1 o1.2.2.2.2.2.2.2.2.2.2.2.2.2.2.2.2.2.2.2.2.2.2.2.2.2.2.2.2.1 o1.2.2.2.2.2.2.2.2.2.2.2.2.2.2.2.2.2.2.2.2.2.2.2.2.2.2.2.2.2.1 o1.2.2.2.2.2.2.2.2.2.2.2.2.2.2.2.2.2.2.2.2.2.2.2.2.2.2.2.2.2.2.1 o1.2.2.2.2.2.2.2.2.2.2.2.2.2.2.2.2.2.2.2.2.2.2.2.2.2.2.2.2.2.2.2.1 o1.2.2.2.2.2.2.2.2.2.2.2.2.2.2.2.2.2.2.2.2.2.2.2.2.2.2.2.2.2.2.2.2.1 o1.2.2.2.2.2.2.2.2.2.2.2.2.2.2.2.2.2.2.2.2.2.2.2.2.2.2.2.2.2.2.2.2.2.1 o1.2.2.2.2.2.2.2.2.2.2.2.2.2.2.2.2.2.2.2.2.2.2.2.2.2.2.2.2.2.2.2.2.2.2.1 o1.2.2.2.2.2.2.2.2.2.2.2.2.2.2.2.2.2.2.2.2.2.2.2.2.2.2.2.2.2.2.2.2.2.2.2.1 o1.2.2.2.2.2.2.2.2.2.2.2.2.2.2.2.2.2.2.2.2.2.2.2.2.2.2.2.2.2.2.2.2.2.2.2.2.1 o1.2.2.2.2.2.2.2.2.2.2.2.2.2.2.2.2.2.2.2.2.2.2.2.2.2.2.2.2.2.2.2.2.2.2.2.2.2.1 o1.2.2.2.2.2.2.2.2.2.2.2.2.2.2.2.2.2.2.2.2.2.2.2.2.2.2.2.2.2.2.2.2.2.2.2.2.2.2.1 o1.2.2.2.2.2.2.2.2.2.2.2.2.2.2.2.2.2.2.2.2.2.2.2.2.2.2.2.2.2.2.2.2.2.2.2.2.2.2.2.1 o1.2.2.2.2.2.2.2.2.2.2.2.2.2.2.2.2.2.2.2.2.2.2.2.2.2.2.2.2.2.2.2.2.2.2.2.2.2.2.2.2.1 o1.2.2.2.2.2.2.2.2.2.2.2.2.2.2.2.2.2.2.2.2.2.2.2.2.2.2.2.2.2.2.2.2.2.2.2.2.2.2.2.2.2.1 o1.2.2.2.2.2.2.2.2.2.2.2.2.2.2.2.2.2.2.2.2.2.2.2.2.2.2.2.2.2.2.2.2.2.2.2.2.2.2.2.2.2.2.1 o1.2.2.2.2.2.2.2.2.2.2.2.2.2.2.2.2.2.2.2.2.2.2.2.2.2.2.2.2.2.2.2.2.2.2.2.2.2.2.2.2.2.2.2.1 o1.2.2.2.2.2.2.2.2.2.2.2.2.2.2.2.2.2.2.2.2.2.2.2.2.2.2.2.2.2.2.2.2.2.2.2.2.2.2.2.2.2.2.2.2.1 o1.2.2.2.2.2.2.2.2.2.2.2.2.2.2.2.2.2.2.2.2.2.2.2.2.2.2.2.2.2.2.2.2.2.2.2.2.2.2.2.2.2.2.2.2.2.1 o1.2.2.2.2.2.2.2.2.2.2.2.2.2.2.2.2.2.2.2.2.2.2.2.2.2.2.2.2.2.2.2.2.2.2.2.2.2.2.2.2.2.2.2.2.2.2.1 o1.2.2.2.2.2.2.2.2.2.2.2.2.2.2.2.2.2.2.2.2.2.2.2.2.2.2.2.2.2.2.2.2.2.2.2.2.2.2.2.2.2.2.2.2.2.2.2.1 o1.2.2.2.2.2.2.2.2.2.2.2.2.2.2.2.2.2.2.2.2.2.2.2.2.2.2.2.2.2.2.2.2.2.2.2.2.2.2.2.2.2.2.2.2.2.2.2.2.1 o1.2.2.2.2.2.2.2.2.2.2.2.2.2.2.2.2.2.2.2.2.2.2.2.2.2.2.2.2.2.2.2.2.2.2.2.2.2.2.2.2.2.2.2.2.2.2.2.2.2.1 o1.2.2.2.2.2.2.2.2.2.2.2.2.2.2.2.2.2.2.2.2.2.2.2.2.2.2.2.2.2.2.2.2.2.2.2.2.2.2.2.2.2.2.2.2.2.2.2.2.2.2.1 o1.2.2.2.2.2.2.2.2.2.2.2.2.2.2.2.2.2.2.2.2.2.2.2.2.2.2.2.2.2.2.2.2.2.2.2.2.2.2.2.2.2.2.2.2.2.2.2.2.2.2.2).bind fun r17=>
  some (r17.1,(o1.2.2.2.2.2.2.2.2.2.2.2.2.2.2.2.2.2.2.2.2.2.2.2.2.2.2.2.2.2.2.2.2.2.2.2.2.2.2.2.2.2.1,(o1.2.2.2.2.2.2.2.2.2.2.2.2.2.2.2.2.2.2.2.2.2.2.2.2.2.2.2.2.2.2.2.2.2.2.2.2.2.2.2.2.2.2.1,(o1.2.2.2.2.2.2.2.2.2.2.2.2.2.2.2.2.2.2.2.2.2.2.2.2.2.2.2.2.2.2.2.2.2.2.2.2.2.2.2.2.2.2.2.1,(o1.2.2.2.2.2.2.2.2.2.2.2.2.2.2.2.2.2.2.2.2.2.2.2.2.2.2.2.2.2.2.2.2.2.2.2.2.2.2.2.2.2.2.2.2.1,(o1.2.2.2.2.2.2.2.2.2.2.2.2.2.2.2.2.2.2.2.2.2.2.2.2.2.2.2.2.2.2.2.2.2.2.2.2.2.2.2.2.2.2.2.2.2.1,(o1.2.2.2.2.2.2.2.2.2.2.2.2.2.2.2.2.2.2.2.2.2.2.2.2.2.2.2.2.2.2.2.2.2.2.2.2.2.2.2.2.2.2.2.2.2.2.1,(o1.2.2.2.2.2.2.2.2.2.2.2.2.2.2.2.2.2.2.2.2.2.2.2.2.2.2.2.2.2.2.2.2.2.2.2.2.2.2.2.2.2.2.2.2.2.2.2.1,(o1.2.2.2.2.2.2.2.2.2.2.2.2.2.2.2.2.2.2.2.2.2.2.2.2.2.2.2.2.2.2.2.2.2.2.2.2.2.2.2.2.2.2.2.2.2.2.2.2.1,(o1.2.2.2.2.2.2.2.2.2.2.2.2.2.2.2.2.2.2.2.2.2.2.2.2.2.2.2.2.2.2.2.2.2.2.2.2.2.2.2.2.2.2.2.2.2.2.2.2.2.1,(o1.2.2.2.2.2.2.2.2.2.2.2.2.2.2.2.2.2.2.2.2.2.2.2.2.2.2.2.2.2.2.2.2.2.2.2.2.2.2.2.2.2.2.2.2.2.2.2.2.2.2.1,(o1.2.2.2.2.2.2.2.2.2.2.2.2.2.2.2.2.2.2.2.2.2.2.2.2.2.2.2.2.2.2.2.2.2.2.2.2.2.2.2.2.2.2.2.2.2.2.2.2.2.2.2,(r17.2.2.2.2.2.2.2.2.2.2.2.2.2.2.2.2.2.2.2.2.2.2.2.2.2.2.2.1,r17.2.2.2.2.2.2.2.2.2.2.2.2.2.2.2.2.2.2.2.2.2.2.2.2.2.2.2.2)))))))))))))
theorem b1Z{m:Mod}(h:ModelOK m)(c:CallT){q:DoR}(s:Sane q){by_:Byt}{en:List Ent}(n1:q.2.2.2.2.2.1=by_)(n2:q.2.2.2.2.2.2.1=en):doTail (mkO q by_ en m c)=some (doT (finF m q) c):=by
 have hl:=h.len;unfold finF doTail;by_cases h0:q.1=0
 ·rw[if_pos h0];simp only[mkO,h0,beq_self_eq_true,Bool.not_true,cond_false];rw[rYZ (hf:=s.t.r.fit) (hl:=s.t.r.len.2) (hd:=s.b),Option.bind_some];simp only[doT,n1,n2]
 ·rw[if_neg h0];simp only[mkO,beq_eq_false_iff_ne.2 h0,Bool.not_false,cond_true];rw[show((m.1.1,m.1.2):Tree)=m.1 from rfl,dpZ h.fit,Option.bind_some,r2Z _ _ _ _ _ _ _ _ _ _ _ _ _ _ _ _ _ _ _ _ _ _ _ _ _ m.2 rfl (dlen h) (fun i z hz=>h.byt hz),Option.bind_some]
  rfl
theorem do_1{m:Mod}(h:ModelOK m)(c:CallT)(hr:rightCall c=true)(hk:c.2.2.1=UInt8.ofNat 1):model_Do fuel m c=some (doT (resF m c) c):=by
 obtain⟨ho,hn,hbs⟩:=aSZ hr;have s:=bcZ h c hn hbs;have hA:actF m c=lookA m c:=by unfold actF;rw[hk];rfl
 have e1:(c.2.2.1==UInt8.ofNat 1)=true:=by rw[hk];rfl
 rw[bEZ hr,hA];rw[hA] at s;unfold model_Do;rw[aaZ (by decide),aaZ (by decide),aaZ (by decide),aaZ (by decide),aaZ (by decide),aaZ (by decide),aaZ (by decide),aaZ (by decide),aaZ (by decide),aaZ (by decide),aaZ (by decide)];rw[show(((m.1.1,m.1.2),m.2):Mod)=m from rfl,axZ h,Option.bind_some,cond_true,arZ,Option.bind_some,show((c.1,(c.2.1,(c.2.2.1,((c.2.2.2.1.1,c.2.2.2.1.2),(c.2.2.2.2.1,((c.2.2.2.2.2.1.1,c.2.2.2.2.2.1.2),(c.2.2.2.2.2.2.1,(c.2.2.2.2.2.2.2.1,(c.2.2.2.2.2.2.2.2.1,c.2.2.2.2.2.2.2.2.2))))))))):CallT)=c from rfl,a4Z,Option.bind_some,hr,cond_true];rw[Option.bind_some,e1,cond_true,pKZ h c,Option.bind_some,Option.bind_some,Option.bind_some];exact b1Z h c s (nKZ m c).1 (nKZ m c).2
theorem do_2{m:Mod}(h:ModelOK m)(c:CallT)(hr:rightCall c=true)(hk:c.2.2.1=UInt8.ofNat 2):model_Do fuel m c=some (doT (resF m c) c):=by
 obtain⟨ho,hn,hbs⟩:=aSZ hr;have s:=bcZ h c hn hbs;have hA:actF m c=makeA m c:=by unfold actF;rw[hk];rfl
 have e1:(c.2.2.1==UInt8.ofNat 1)=false:=by rw[hk];rfl
 have e2:(c.2.2.1==UInt8.ofNat 2)=true:=by rw[hk];rfl
 rw[bEZ hr,hA];rw[hA] at s;unfold model_Do;rw[aaZ (by decide),aaZ (by decide),aaZ (by decide),aaZ (by decide),aaZ (by decide),aaZ (by decide),aaZ (by decide),aaZ (by decide),aaZ (by decide),aaZ (by decide),aaZ (by decide)];rw[show(((m.1.1,m.1.2),m.2):Mod)=m from rfl,axZ h,Option.bind_some,cond_true,arZ,Option.bind_some,show((c.1,(c.2.1,(c.2.2.1,((c.2.2.2.1.1,c.2.2.2.1.2),(c.2.2.2.2.1,((c.2.2.2.2.2.1.1,c.2.2.2.2.2.1.2),(c.2.2.2.2.2.2.1,(c.2.2.2.2.2.2.2.1,(c.2.2.2.2.2.2.2.2.1,c.2.2.2.2.2.2.2.2.2))))))))):CallT)=c from rfl,a4Z,Option.bind_some,hr,cond_true];rw[Option.bind_some,e1,cond_false,e2,cond_true,pSZ h c,Option.bind_some,Option.bind_some,Option.bind_some];exact b1Z h c s (gOZ m c).1 (gOZ m c).2
theorem do_3{m:Mod}(h:ModelOK m)(c:CallT)(hr:rightCall c=true)(hk:c.2.2.1=UInt8.ofNat 3):model_Do fuel m c=some (doT (resF m c) c):=by
 obtain⟨ho,hn,hbs⟩:=aSZ hr;have s:=bcZ h c hn hbs;have hA:actF m c=makeA m c:=by unfold actF;rw[hk];rfl
 have e1:(c.2.2.1==UInt8.ofNat 1)=false:=by rw[hk];rfl
 have e2:(c.2.2.1==UInt8.ofNat 2)=false:=by rw[hk];rfl
 have e3:(c.2.2.1==UInt8.ofNat 3)=true:=by rw[hk];rfl
 rw[bEZ hr,hA];rw[hA] at s;unfold model_Do;rw[aaZ (by decide),aaZ (by decide),aaZ (by decide),aaZ (by decide),aaZ (by decide),aaZ (by decide),aaZ (by decide),aaZ (by decide),aaZ (by decide),aaZ (by decide),aaZ (by decide)];rw[show(((m.1.1,m.1.2),m.2):Mod)=m from rfl,axZ h,Option.bind_some,cond_true,arZ,Option.bind_some,show((c.1,(c.2.1,(c.2.2.1,((c.2.2.2.1.1,c.2.2.2.1.2),(c.2.2.2.2.1,((c.2.2.2.2.2.1.1,c.2.2.2.2.2.1.2),(c.2.2.2.2.2.2.1,(c.2.2.2.2.2.2.2.1,(c.2.2.2.2.2.2.2.2.1,c.2.2.2.2.2.2.2.2.2))))))))):CallT)=c from rfl,a4Z,Option.bind_some,hr,cond_true];rw[Option.bind_some,e1,cond_false,e2,cond_false,e3,cond_true,pSZ h c,Option.bind_some,Option.bind_some,Option.bind_some];exact b1Z h c s (gOZ m c).1 (gOZ m c).2
theorem do_4{m:Mod}(h:ModelOK m)(c:CallT)(hr:rightCall c=true)(hk:c.2.2.1=UInt8.ofNat 4):model_Do fuel m c=some (doT (resF m c) c):=by
 obtain⟨ho,hn,hbs⟩:=aSZ hr;have s:=bcZ h c hn hbs;have hA:actF m c=readA m c:=by unfold actF;rw[hk];rfl
 have e1:(c.2.2.1==UInt8.ofNat 1)=false:=by rw[hk];rfl
 have e2:(c.2.2.1==UInt8.ofNat 2)=false:=by rw[hk];rfl
 have e3:(c.2.2.1==UInt8.ofNat 3)=false:=by rw[hk];rfl
 have e4:(c.2.2.1==UInt8.ofNat 4)=true:=by rw[hk];rfl
 rw[bEZ hr,hA];rw[hA] at s;unfold model_Do;rw[aaZ (by decide),aaZ (by decide),aaZ (by decide),aaZ (by decide),aaZ (by decide),aaZ (by decide),aaZ (by decide),aaZ (by decide),aaZ (by decide),aaZ (by decide),aaZ (by decide)];rw[show(((m.1.1,m.1.2),m.2):Mod)=m from rfl,axZ h,Option.bind_some,cond_true,arZ,Option.bind_some,show((c.1,(c.2.1,(c.2.2.1,((c.2.2.2.1.1,c.2.2.2.1.2),(c.2.2.2.2.1,((c.2.2.2.2.2.1.1,c.2.2.2.2.2.1.2),(c.2.2.2.2.2.2.1,(c.2.2.2.2.2.2.2.1,(c.2.2.2.2.2.2.2.2.1,c.2.2.2.2.2.2.2.2.2))))))))):CallT)=c from rfl,a4Z,Option.bind_some,hr,cond_true];rw[Option.bind_some,e1,cond_false,e2,cond_false,e3,cond_false,e4,cond_true,rXZ h c ho hn,Option.bind_some,Option.bind_some,Option.bind_some];exact b1Z h c s rfl (qRZ m c)
theorem do_5{m:Mod}(h:ModelOK m)(c:CallT)(hr:rightCall c=true)(hk:c.2.2.1=UInt8.ofNat 5):model_Do fuel m c=some (doT (resF m c) c):=by
 obtain⟨ho,hn,hbs⟩:=aSZ hr;have s:=bcZ h c hn hbs;have hA:actF m c=writeA m c:=by unfold actF;rw[hk];rfl
 have e1:(c.2.2.1==UInt8.ofNat 1)=false:=by rw[hk];rfl
 have e2:(c.2.2.1==UInt8.ofNat 2)=false:=by rw[hk];rfl
 have e3:(c.2.2.1==UInt8.ofNat 3)=false:=by rw[hk];rfl
 have e4:(c.2.2.1==UInt8.ofNat 4)=false:=by rw[hk];rfl
 have e5:(c.2.2.1==UInt8.ofNat 5)=true:=by rw[hk];rfl
 rw[bEZ hr,hA];rw[hA] at s;unfold model_Do;rw[aaZ (by decide),aaZ (by decide),aaZ (by decide),aaZ (by decide),aaZ (by decide),aaZ (by decide),aaZ (by decide),aaZ (by decide),aaZ (by decide),aaZ (by decide),aaZ (by decide)];rw[show(((m.1.1,m.1.2),m.2):Mod)=m from rfl,axZ h,Option.bind_some,cond_true,arZ,Option.bind_some,show((c.1,(c.2.1,(c.2.2.1,((c.2.2.2.1.1,c.2.2.2.1.2),(c.2.2.2.2.1,((c.2.2.2.2.2.1.1,c.2.2.2.2.2.1.2),(c.2.2.2.2.2.2.1,(c.2.2.2.2.2.2.2.1,(c.2.2.2.2.2.2.2.2.1,c.2.2.2.2.2.2.2.2.2))))))))):CallT)=c from rfl,a4Z,Option.bind_some,hr,cond_true];rw[Option.bind_some,e1,cond_false,e2,cond_false,e3,cond_false,e4,cond_false,e5,cond_true,roZ h c ho hbs,Option.bind_some,Option.bind_some,Option.bind_some];exact b1Z h c s (kYZ m c).1 (kYZ m c).2
theorem do_6{m:Mod}(h:ModelOK m)(c:CallT)(hr:rightCall c=true)(hk:c.2.2.1=UInt8.ofNat 6):model_Do fuel m c=some (doT (resF m c) c):=by
 obtain⟨ho,hn,hbs⟩:=aSZ hr;have s:=bcZ h c hn hbs;have hA:actF m c=sizeA m c:=by unfold actF;rw[hk];rfl
 have e1:(c.2.2.1==UInt8.ofNat 1)=false:=by rw[hk];rfl
 have e2:(c.2.2.1==UInt8.ofNat 2)=false:=by rw[hk];rfl
 have e3:(c.2.2.1==UInt8.ofNat 3)=false:=by rw[hk];rfl
 have e4:(c.2.2.1==UInt8.ofNat 4)=false:=by rw[hk];rfl
 have e5:(c.2.2.1==UInt8.ofNat 5)=false:=by rw[hk];rfl
 have e6:(c.2.2.1==UInt8.ofNat 6)=true:=by rw[hk];rfl
 rw[bEZ hr,hA];rw[hA] at s;unfold model_Do;rw[aaZ (by decide),aaZ (by decide),aaZ (by decide),aaZ (by decide),aaZ (by decide),aaZ (by decide),aaZ (by decide),aaZ (by decide),aaZ (by decide),aaZ (by decide),aaZ (by decide)];rw[show(((m.1.1,m.1.2),m.2):Mod)=m from rfl,axZ h,Option.bind_some,cond_true,arZ,Option.bind_some,show((c.1,(c.2.1,(c.2.2.1,((c.2.2.2.1.1,c.2.2.2.1.2),(c.2.2.2.2.1,((c.2.2.2.2.2.1.1,c.2.2.2.2.2.1.2),(c.2.2.2.2.2.2.1,(c.2.2.2.2.2.2.2.1,(c.2.2.2.2.2.2.2.2.1,c.2.2.2.2.2.2.2.2.2))))))))):CallT)=c from rfl,a4Z,Option.bind_some,hr,cond_true];rw[Option.bind_some,e1,cond_false,e2,cond_false,e3,cond_false,e4,cond_false,e5,cond_false,e6,cond_true,rBZ h c hn.1,Option.bind_some,Option.bind_some,Option.bind_some];exact b1Z h c s (nQZ m c).1 (nQZ m c).2
theorem do_7{m:Mod}(h:ModelOK m)(c:CallT)(hr:rightCall c=true)(hk:c.2.2.1=UInt8.ofNat 7):model_Do fuel m c=some (doT (resF m c) c):=by
 obtain⟨ho,hn,hbs⟩:=aSZ hr;have s:=bcZ h c hn hbs;have hA:actF m c=removeA m c:=by unfold actF;rw[hk];rfl
 have e1:(c.2.2.1==UInt8.ofNat 1)=false:=by rw[hk];rfl
 have e2:(c.2.2.1==UInt8.ofNat 2)=false:=by rw[hk];rfl
 have e3:(c.2.2.1==UInt8.ofNat 3)=false:=by rw[hk];rfl
 have e4:(c.2.2.1==UInt8.ofNat 4)=false:=by rw[hk];rfl
 have e5:(c.2.2.1==UInt8.ofNat 5)=false:=by rw[hk];rfl
 have e6:(c.2.2.1==UInt8.ofNat 6)=false:=by rw[hk];rfl
 have e7:(c.2.2.1==UInt8.ofNat 7)=true:=by rw[hk];rfl
 rw[bEZ hr,hA];rw[hA] at s;unfold model_Do;rw[aaZ (by decide),aaZ (by decide),aaZ (by decide),aaZ (by decide),aaZ (by decide),aaZ (by decide),aaZ (by decide),aaZ (by decide),aaZ (by decide),aaZ (by decide),aaZ (by decide)];rw[show(((m.1.1,m.1.2),m.2):Mod)=m from rfl,axZ h,Option.bind_some,cond_true,arZ,Option.bind_some,show((c.1,(c.2.1,(c.2.2.1,((c.2.2.2.1.1,c.2.2.2.1.2),(c.2.2.2.2.1,((c.2.2.2.2.2.1.1,c.2.2.2.2.2.1.2),(c.2.2.2.2.2.2.1,(c.2.2.2.2.2.2.2.1,(c.2.2.2.2.2.2.2.2.1,c.2.2.2.2.2.2.2.2.2))))))))):CallT)=c from rfl,a4Z,Option.bind_some,hr,cond_true];rw[Option.bind_some,e1,cond_false,e2,cond_false,e3,cond_false,e4,cond_false,e5,cond_false,e6,cond_false,e7,cond_true,kLZ h c,Option.bind_some,Option.bind_some,Option.bind_some];exact b1Z h c s (egZ m c).1 (egZ m c).2
theorem do_8{m:Mod}(h:ModelOK m)(c:CallT)(hr:rightCall c=true)(hk:c.2.2.1=UInt8.ofNat 8):model_Do fuel m c=some (doT (resF m c) c):=by
 obtain⟨ho,hn,hbs⟩:=aSZ hr;have s:=bcZ h c hn hbs;have hA:actF m c=removeA m c:=by unfold actF;rw[hk];rfl
 have e1:(c.2.2.1==UInt8.ofNat 1)=false:=by rw[hk];rfl
 have e2:(c.2.2.1==UInt8.ofNat 2)=false:=by rw[hk];rfl
 have e3:(c.2.2.1==UInt8.ofNat 3)=false:=by rw[hk];rfl
 have e4:(c.2.2.1==UInt8.ofNat 4)=false:=by rw[hk];rfl
 have e5:(c.2.2.1==UInt8.ofNat 5)=false:=by rw[hk];rfl
 have e6:(c.2.2.1==UInt8.ofNat 6)=false:=by rw[hk];rfl
 have e7:(c.2.2.1==UInt8.ofNat 7)=false:=by rw[hk];rfl
 have e8:(c.2.2.1==UInt8.ofNat 8)=true:=by rw[hk];rfl
 rw[bEZ hr,hA];rw[hA] at s;unfold model_Do;rw[aaZ (by decide),aaZ (by decide),aaZ (by decide),aaZ (by decide),aaZ (by decide),aaZ (by decide),aaZ (by decide),aaZ (by decide),aaZ (by decide),aaZ (by decide),aaZ (by decide)];rw[show(((m.1.1,m.1.2),m.2):Mod)=m from rfl,axZ h,Option.bind_some,cond_true,arZ,Option.bind_some,show((c.1,(c.2.1,(c.2.2.1,((c.2.2.2.1.1,c.2.2.2.1.2),(c.2.2.2.2.1,((c.2.2.2.2.2.1.1,c.2.2.2.2.2.1.2),(c.2.2.2.2.2.2.1,(c.2.2.2.2.2.2.2.1,(c.2.2.2.2.2.2.2.2.1,c.2.2.2.2.2.2.2.2.2))))))))):CallT)=c from rfl,a4Z,Option.bind_some,hr,cond_true];rw[Option.bind_some,e1,cond_false,e2,cond_false,e3,cond_false,e4,cond_false,e5,cond_false,e6,cond_false,e7,cond_false,e8,cond_true,kLZ h c,Option.bind_some,Option.bind_some,Option.bind_some];exact b1Z h c s (egZ m c).1 (egZ m c).2
theorem do_9{m:Mod}(h:ModelOK m)(c:CallT)(hr:rightCall c=true)(hk:c.2.2.1=UInt8.ofNat 9):model_Do fuel m c=some (doT (resF m c) c):=by
 obtain⟨ho,hn,hbs⟩:=aSZ hr;have s:=bcZ h c hn hbs;have hA:actF m c=renameA m c:=by unfold actF;rw[hk];rfl
 have e1:(c.2.2.1==UInt8.ofNat 1)=false:=by rw[hk];rfl
 have e2:(c.2.2.1==UInt8.ofNat 2)=false:=by rw[hk];rfl
 have e3:(c.2.2.1==UInt8.ofNat 3)=false:=by rw[hk];rfl
 have e4:(c.2.2.1==UInt8.ofNat 4)=false:=by rw[hk];rfl
 have e5:(c.2.2.1==UInt8.ofNat 5)=false:=by rw[hk];rfl
 have e6:(c.2.2.1==UInt8.ofNat 6)=false:=by rw[hk];rfl
 have e7:(c.2.2.1==UInt8.ofNat 7)=false:=by rw[hk];rfl
 have e8:(c.2.2.1==UInt8.ofNat 8)=false:=by rw[hk];rfl
 have e9:(c.2.2.1==UInt8.ofNat 9)=true:=by rw[hk];rfl
 rw[bEZ hr,hA];rw[hA] at s;unfold model_Do;rw[aaZ (by decide),aaZ (by decide),aaZ (by decide),aaZ (by decide),aaZ (by decide),aaZ (by decide),aaZ (by decide),aaZ (by decide),aaZ (by decide),aaZ (by decide),aaZ (by decide)];rw[show(((m.1.1,m.1.2),m.2):Mod)=m from rfl,axZ h,Option.bind_some,cond_true,arZ,Option.bind_some,show((c.1,(c.2.1,(c.2.2.1,((c.2.2.2.1.1,c.2.2.2.1.2),(c.2.2.2.2.1,((c.2.2.2.2.2.1.1,c.2.2.2.2.2.1.2),(c.2.2.2.2.2.2.1,(c.2.2.2.2.2.2.2.1,(c.2.2.2.2.2.2.2.2.1,c.2.2.2.2.2.2.2.2.2))))))))):CallT)=c from rfl,a4Z,Option.bind_some,hr,cond_true];rw[Option.bind_some,e1,cond_false,e2,cond_false,e3,cond_false,e4,cond_false,e5,cond_false,e6,cond_false,e7,cond_false,e8,cond_false,e9,cond_true,pCZ h c,Option.bind_some,Option.bind_some,Option.bind_some];exact b1Z h c s (iGZ m c).1 (iGZ m c).2
theorem shZ{m:Mod}(h:ModelOK m)(c:CallT)(hr:rightCall c=true)(hk:c.2.2.1=UInt8.ofNat 10):model_Do fuel m c=some (doT (resF m c) c):=by
 obtain⟨ho,hn,hbs⟩:=aSZ hr;have s:=bcZ h c hn hbs;have hA:actF m c=listA m c:=by unfold actF;rw[hk];rfl
 have e1:(c.2.2.1==UInt8.ofNat 1)=false:=by rw[hk];rfl
 have e2:(c.2.2.1==UInt8.ofNat 2)=false:=by rw[hk];rfl
 have e3:(c.2.2.1==UInt8.ofNat 3)=false:=by rw[hk];rfl
 have e4:(c.2.2.1==UInt8.ofNat 4)=false:=by rw[hk];rfl
 have e5:(c.2.2.1==UInt8.ofNat 5)=false:=by rw[hk];rfl
 have e6:(c.2.2.1==UInt8.ofNat 6)=false:=by rw[hk];rfl
 have e7:(c.2.2.1==UInt8.ofNat 7)=false:=by rw[hk];rfl
 have e8:(c.2.2.1==UInt8.ofNat 8)=false:=by rw[hk];rfl
 have e9:(c.2.2.1==UInt8.ofNat 9)=false:=by rw[hk];rfl
 have e10:(c.2.2.1==UInt8.ofNat 10)=true:=by rw[hk];rfl
 rw[bEZ hr,hA];rw[hA] at s;unfold model_Do;rw[aaZ (by decide),aaZ (by decide),aaZ (by decide),aaZ (by decide),aaZ (by decide),aaZ (by decide),aaZ (by decide),aaZ (by decide),aaZ (by decide),aaZ (by decide),aaZ (by decide)];rw[show(((m.1.1,m.1.2),m.2):Mod)=m from rfl,axZ h,Option.bind_some,cond_true,arZ,Option.bind_some,show((c.1,(c.2.1,(c.2.2.1,((c.2.2.2.1.1,c.2.2.2.1.2),(c.2.2.2.2.1,((c.2.2.2.2.2.1.1,c.2.2.2.2.2.1.2),(c.2.2.2.2.2.2.1,(c.2.2.2.2.2.2.2.1,(c.2.2.2.2.2.2.2.2.1,c.2.2.2.2.2.2.2.2.2))))))))):CallT)=c from rfl,a4Z,Option.bind_some,hr,cond_true];rw[Option.bind_some,e1,cond_false,e2,cond_false,e3,cond_false,e4,cond_false,e5,cond_false,e6,cond_false,e7,cond_false,e8,cond_false,e9,cond_false,e10,cond_true,rxZ h c,Option.bind_some,Option.bind_some,Option.bind_some];exact b1Z h c s rfl rfl
theorem seZ{m:Mod}(h:ModelOK m)(c:CallT)(hr:rightCall c=true)(hk:c.2.2.1=UInt8.ofNat 11):model_Do fuel m c=some (doT (resF m c) c):=by
 obtain⟨ho,hn,hbs⟩:=aSZ hr;have s:=bcZ h c hn hbs;have hA:actF m c=getA m c:=by unfold actF;rw[hk];rfl
 have e1:(c.2.2.1==UInt8.ofNat 1)=false:=by rw[hk];rfl
 have e2:(c.2.2.1==UInt8.ofNat 2)=false:=by rw[hk];rfl
 have e3:(c.2.2.1==UInt8.ofNat 3)=false:=by rw[hk];rfl
 have e4:(c.2.2.1==UInt8.ofNat 4)=false:=by rw[hk];rfl
 have e5:(c.2.2.1==UInt8.ofNat 5)=false:=by rw[hk];rfl
 have e6:(c.2.2.1==UInt8.ofNat 6)=false:=by rw[hk];rfl
 have e7:(c.2.2.1==UInt8.ofNat 7)=false:=by rw[hk];rfl
 have e8:(c.2.2.1==UInt8.ofNat 8)=false:=by rw[hk];rfl
 have e9:(c.2.2.1==UInt8.ofNat 9)=false:=by rw[hk];rfl
 have e10:(c.2.2.1==UInt8.ofNat 10)=false:=by rw[hk];rfl
 have e11:(c.2.2.1==UInt8.ofNat 11)=true:=by rw[hk];rfl
 rw[bEZ hr,hA];rw[hA] at s;unfold model_Do;rw[aaZ (by decide),aaZ (by decide),aaZ (by decide),aaZ (by decide),aaZ (by decide),aaZ (by decide),aaZ (by decide),aaZ (by decide),aaZ (by decide),aaZ (by decide),aaZ (by decide)];rw[show(((m.1.1,m.1.2),m.2):Mod)=m from rfl,axZ h,Option.bind_some,cond_true,arZ,Option.bind_some,show((c.1,(c.2.1,(c.2.2.1,((c.2.2.2.1.1,c.2.2.2.1.2),(c.2.2.2.2.1,((c.2.2.2.2.2.1.1,c.2.2.2.2.2.1.2),(c.2.2.2.2.2.2.1,(c.2.2.2.2.2.2.2.1,(c.2.2.2.2.2.2.2.2.1,c.2.2.2.2.2.2.2.2.2))))))))):CallT)=c from rfl,a4Z,Option.bind_some,hr,cond_true];rw[Option.bind_some,e1,cond_false,e2,cond_false,e3,cond_false,e4,cond_false,e5,cond_false,e6,cond_false,e7,cond_false,e8,cond_false,e9,cond_false,e10,cond_false,e11,cond_true,sjZ h c,Option.bind_some,Option.bind_some,Option.bind_some];exact b1Z h c s (qfZ m c).1 (qfZ m c).2
theorem sgZ{m:Mod}(h:ModelOK m)(c:CallT)(hr:rightCall c=true)(hk:c.2.2.1=UInt8.ofNat 12):model_Do fuel m c=some (doT (resF m c) c):=by
 obtain⟨ho,hn,hbs⟩:=aSZ hr;have s:=bcZ h c hn hbs;have hA:actF m c=statA m:=by unfold actF;rw[hk];rfl
 have e1:(c.2.2.1==UInt8.ofNat 1)=false:=by rw[hk];rfl
 have e2:(c.2.2.1==UInt8.ofNat 2)=false:=by rw[hk];rfl
 have e3:(c.2.2.1==UInt8.ofNat 3)=false:=by rw[hk];rfl
 have e4:(c.2.2.1==UInt8.ofNat 4)=false:=by rw[hk];rfl
 have e5:(c.2.2.1==UInt8.ofNat 5)=false:=by rw[hk];rfl
 have e6:(c.2.2.1==UInt8.ofNat 6)=false:=by rw[hk];rfl
 have e7:(c.2.2.1==UInt8.ofNat 7)=false:=by rw[hk];rfl
 have e8:(c.2.2.1==UInt8.ofNat 8)=false:=by rw[hk];rfl
 have e9:(c.2.2.1==UInt8.ofNat 9)=false:=by rw[hk];rfl
 have e10:(c.2.2.1==UInt8.ofNat 10)=false:=by rw[hk];rfl
 have e11:(c.2.2.1==UInt8.ofNat 11)=false:=by rw[hk];rfl
 have e12:(c.2.2.1==UInt8.ofNat 12)=true:=by rw[hk];rfl
 rw[bEZ hr,hA];rw[hA] at s;unfold model_Do;rw[aaZ (by decide),aaZ (by decide),aaZ (by decide),aaZ (by decide),aaZ (by decide),aaZ (by decide),aaZ (by decide),aaZ (by decide),aaZ (by decide),aaZ (by decide),aaZ (by decide)];rw[show(((m.1.1,m.1.2),m.2):Mod)=m from rfl,axZ h,Option.bind_some,cond_true,arZ,Option.bind_some,show((c.1,(c.2.1,(c.2.2.1,((c.2.2.2.1.1,c.2.2.2.1.2),(c.2.2.2.2.1,((c.2.2.2.2.2.1.1,c.2.2.2.2.2.1.2),(c.2.2.2.2.2.2.1,(c.2.2.2.2.2.2.2.1,(c.2.2.2.2.2.2.2.2.1,c.2.2.2.2.2.2.2.2.2))))))))):CallT)=c from rfl,a4Z,Option.bind_some,hr,cond_true];rw[Option.bind_some,e1,cond_false,e2,cond_false,e3,cond_false,e4,cond_false,e5,cond_false,e6,cond_false,e7,cond_false,e8,cond_false,e9,cond_false,e10,cond_false,e11,cond_false,e12,cond_true,r6Z h c,Option.bind_some,Option.bind_some,Option.bind_some];exact b1Z h c s rfl rfl
theorem fOZ{m:Mod}(h:ModelOK m)(c:CallT):model_Do fuel m c=some (doT (resF m c) c):=by
 cases hr:rightCall c with
 |true=>
  rcases p1Z hr with hk|hk|hk|hk|hk|hk|hk|hk|hk|hk|hk|hk
  ·exact do_1 h c hr hk
  ·exact do_2 h c hr hk
  ·exact do_3 h c hr hk
  ·exact do_4 h c hr hk
  ·exact do_5 h c hr hk
  ·exact do_6 h c hr hk
  ·exact do_7 h c hr hk
  ·exact do_8 h c hr hk
  ·exact do_9 h c hr hk
  ·exact shZ h c hr hk
  ·exact seZ h c hr hk
  ·exact sgZ h c hr hk
 |false=>
  have e:resF m c=finF m (179,m,rep0):=by unfold resF finF;rw[hr,if_neg (by simp),if_neg (show¬((179:Int)=0) by decide)]
  rw[e];unfold model_Do;rw[aaZ (by decide),aaZ (by decide),aaZ (by decide),aaZ (by decide),aaZ (by decide),aaZ (by decide),aaZ (by decide),aaZ (by decide),aaZ (by decide),aaZ (by decide),aaZ (by decide)];rw[show(((m.1.1,m.1.2),m.2):Mod)=m from rfl,axZ h,Option.bind_some,cond_true,arZ,Option.bind_some,show((c.1,(c.2.1,(c.2.2.1,((c.2.2.2.1.1,c.2.2.2.1.2),(c.2.2.2.2.1,((c.2.2.2.2.2.1.1,c.2.2.2.2.2.1.2),(c.2.2.2.2.2.2.1,(c.2.2.2.2.2.2.2.1,(c.2.2.2.2.2.2.2.2.1,c.2.2.2.2.2.2.2.2.2))))))))):CallT)=c from rfl,a4Z,Option.bind_some,hr,cond_false,Option.bind_some];exact b1Z h c (q:=(179,m,rep0)) (.same h rfl) rfl rfl
end Go.Ab.D
namespace Go.Ab.D
open Go Go.Ab
end Go.Ab.D
namespace Go.Ab.D
end Go.Ab.D
set_option maxHeartbeats 4000000
namespace Go.Ab.D
open Go Go.Ab
def M0:Mod:=(([(1,1,true,true,0,[],1,[])],0),[[]])
theorem o9Z:ModelOK M0:=by
 refine⟨ryZ,rfl,fun i x hx=> ?_,fun i x b hx hb=> ?_⟩
 ·cases i with
  |zero=>simp[M0] at hx;subst hx;rfl
  |succ i=>simp[M0] at hx
 ·cases i with
  |zero=>simp[M0] at hx hb;subst hx hb;rfl
  |succ i=>simp[M0] at hx
theorem pZZ:model_New fuel=some (M0.1.2,(M0.1.1,M0.2)):=by kernel_rfl
def cA:CallT:=(0,(1,(UInt8.ofNat 2,((1,1),([102],((0,0),([],(0,(0,[])))))))))
def MA:Mod:=(([(1,1,true,true,0,[],1,[([102],2)]),(2,1,true,false,0,[],1,[])],0),[[],[]])
def cB:CallT:=(0,(1,(UInt8.ofNat 5,((2,1),([],((0,0),([],(2,(0,[UInt8.ofNat 97,UInt8.ofNat 98,UInt8.ofNat 99])))))))))
def MB:Mod:=(([(1,1,true,true,0,[],1,[([102],2)]),(2,1,true,false,5,[],1,[])],0),[[],[0,0,97,98,99]])
def cC:CallT:=(0,(1,(UInt8.ofNat 4,((2,1),([],((0,0),([],(0,(9,[])))))))))
def cD:CallT:=(0,(1,(UInt8.ofNat 6,((2,1),([],((0,0),([],(0,(3,[])))))))))
def MD:Mod:=(([(1,1,true,true,0,[],1,[([102],2)]),(2,1,true,false,3,[],1,[])],0),[[],[0,0,97]])
def cE:CallT:=(0,(1,(UInt8.ofNat 6,((2,1),([],((0,0),([],(0,(5,[])))))))))
def ME:Mod:=(([(1,1,true,true,0,[],1,[([102],2)]),(2,1,true,false,5,[],1,[])],0),[[],[0,0,97,0,0]])
def cG:CallT:=(0,(1,(UInt8.ofNat 12,((0,0),([],((0,0),([],(0,(0,[])))))))))
theorem x1:resF M0 cA=(MA,0,((2,1),false,0,[],[],false,0)):=by kernel_rfl
theorem x2:resF MA cB=(MB,0,((2,1),false,5,[],[],false,0)):=by kernel_rfl
theorem x3:resF MB cC=(MB,0,((0,0),false,5,[0,0,97,98,99],[],false,0)):=by kernel_rfl
theorem x4:resF MB cD=(MD,0,((2,1),false,3,[],[],false,0)):=by kernel_rfl
theorem x5:resF MD cE=(ME,0,((2,1),false,5,[],[],false,0)):=by kernel_rfl
theorem x6:resF ME cC=(ME,0,((0,0),false,5,[0,0,97,0,0],[],false,0)):=by kernel_rfl
theorem x7:resF ME cG=(ME,0,((0,0),false,0,[],[],false,498)):=by kernel_rfl
theorem rmZ:law22_awake fuel=some true:=by
 have o1:=hMZ o9Z cA;rw[x1] at o1;have d1:model_Do fuel ((M0.1.1,M0.1.2),M0.2) (0,(1,(UInt8.ofNat 2,((1,1),([102],((0,0),([],(0,(0,[])))))))))=some (doT _ cA):=fOZ o9Z cA;rw[x1] at d1;have o2:=hMZ o1 cB;rw[x2] at o2;have d2:model_Do fuel ((MA.1.1,MA.1.2),MA.2) (0,(1,(UInt8.ofNat 5,((2,1),([],((0,0),([],(2,(0,[UInt8.ofNat 97,UInt8.ofNat 98,UInt8.ofNat 99])))))))))=some (doT _ cB):=fOZ o1 cB;rw[x2] at d2;have d3:model_Do fuel ((MB.1.1,MB.1.2),MB.2) (0,(1,(UInt8.ofNat 4,((2,1),([],((0,0),([],(0,(9,[])))))))))=some (doT _ cC):=fOZ o2 cC;rw[x3] at d3;have o4:=hMZ o2 cD;rw[x4] at o4;have d4:model_Do fuel ((MB.1.1,MB.1.2),MB.2) (0,(1,(UInt8.ofNat 6,((2,1),([],((0,0),([],(0,(3,[])))))))))=some (doT _ cD):=fOZ o2 cD;rw[x4] at d4;have o5:=hMZ o4 cE;rw[x5] at o5;have d5:model_Do fuel ((MD.1.1,MD.1.2),MD.2) (0,(1,(UInt8.ofNat 6,((2,1),([],((0,0),([],(0,(5,[])))))))))=some (doT _ cE):=fOZ o4 cE;rw[x5] at d5;have d6:model_Do fuel ((ME.1.1,ME.1.2),ME.2) (0,(1,(UInt8.ofNat 4,((2,1),([],((0,0),([],(0,(9,[])))))))))=some (doT _ cC):=fOZ o5 cC;rw[x6] at d6;have d7:model_Do fuel ((ME.1.1,ME.1.2),ME.2) (0,(1,(UInt8.ofNat 12,((0,0),([],((0,0),([],(0,(0,[])))))))))=some (doT _ cG):=fOZ o5 cG;rw[x7] at d7;unfold law22_awake law22_ask;rw[pZZ,Option.bind_some];simp only[Option.bind_some]
 try rw[arZ]
 rw[Option.bind_some,d1,Option.bind_some];simp only[doT]
 try rw[arZ]
 rw[Option.bind_some,d2,Option.bind_some];simp only[doT]
 try rw[arZ]
 rw[Option.bind_some,d3,Option.bind_some];simp only[doT]
 try rw[arZ]
 rw[Option.bind_some,d4,Option.bind_some];simp only[doT]
 try rw[arZ]
 rw[Option.bind_some,d5,Option.bind_some];simp only[doT]
 try rw[arZ]
 rw[Option.bind_some,d6,Option.bind_some];simp only[doT]
 try rw[arZ]
 rw[Option.bind_some,d7,Option.bind_some];simp only[doT]
 rfl
end Go.Ab.D
set_option maxHeartbeats 4000000
set_option maxRecDepth 100000
namespace Go.Ab.D
open Go Go.Ab
def MF(b:Byt):Mod:=(([(1,1,true,true,0,[],1,[([102],2)]),(2,1,true,false,((b.length:Nat):Int),[],1,[])],0),[[],b])
theorem skZ:ModelOK MA:=by
 have o:=hMZ o9Z cA;rw[x1] at o;exact o
theorem q1Z{b:Byt}(hb:b.length<=65536):ModelOK (MF b):=by
 have hx:IsF MA (2,1) (2,1,true,false,0,[],1,[]) []:=⟨⟨by decide,rfl,rfl,rfl⟩,rfl,rfl⟩;obtain⟨q1,q2,_⟩:=jCZ skZ hx (c:=b) hb;exact q2.model q1
def wrC(off:Int)(bs:Byt):CallT:=(0,(1,(UInt8.ofNat 5,((2,1),([],((0,0),([],(off,(0,bs)))))))))
def szC(n:Int):CallT:=(0,(1,(UInt8.ofNat 6,((2,1),([],((0,0),([],(0,(n,[])))))))))
theorem pnZ{off:Int}{bs:Byt}(ho:0<=off/\off<=2147483648)(hb:bs.length<=4096):rightCall (wrC off bs)=true:=by
 show rightS (true,(false,(false,(true,(0,(true,true)))))) (wrC off bs)=true;unfold rightS wrC;simp only[Bool.true_and,Bool.true_or,decide_eq_true ho,decide_eq_true hb,Bool.or_true,Bool.and_true]
 rfl
theorem plZ{n:Int}(hn:0<=n/\n<=2147483648):rightCall (szC n)=true:=by
 show rightS (true,(false,(false,(false,(2147483648,(false,true)))))) (szC n)=true;unfold rightS szC;simp only[Bool.true_and,decide_eq_true hn]
 rfl
theorem rFZ{b:Byt}{off:Int}{bs:Byt}(ho:0<=off/\off<=2147483648)(hb:bs.length<=4096)(hs:off+((bs.length:Nat):Int)<=65536):resF (MF b) (wrC off bs)=(MF (writeL b off bs),0,((2,1),false,((writeN b off bs:Nat):Int),[],[],false,0)):=by
 have hA:actF (MF b) (wrC off bs)=(0,MF (writeL b off bs),((2,1),false,((writeN b off bs:Nat):Int),[],[],false,0)):=by
  show writeA (MF b) (wrC off bs)=_;unfold writeA;rw[if_pos (show(fileF (MF b) (wrC off bs).2.2.2.1).2.2=0 from rfl),if_neg (show¬((wrC off bs).2.2.2.2.2.2.2.1+(((wrC off bs).2.2.2.2.2.2.2.2.2.length:Nat):Int)>65536) from by show¬(off+((bs.length:Nat):Int)>65536);omega)]
  rfl
 unfold resF;rw[if_pos (pnZ ho hb),hA]
 rfl
theorem rQZ{b:Byt}{n:Int}(hn:0<=n/\n<=65536):resF (MF b) (szC n)=(MF (sizedL b n.toNat),0,((2,1),false,n,[],[],false,0)):=by
 have hA:actF (MF b) (szC n)=(0,MF (sizedL b n.toNat),((2,1),false,n,[],[],false,0)):=by
  show sizeA (MF b) (szC n)=_;unfold sizeA;rw[if_pos (show(fileF (MF b) (szC n).2.2.2.1).2.2=0 from rfl),if_neg (show¬((szC n).2.2.2.2.2.2.2.2.1>65536) from by show¬(n>65536);omega)]
  rfl
 unfold resF;rw[if_pos (plZ (by omega)),hA]
 rfl
def rdC:CallT:=(0,(1,(UInt8.ofNat 4,((2,1),([],((0,0),([],(0,(4096,[])))))))))
theorem rEZ{b:Byt}(hb:b.length<=4096):resF (MF b) rdC=(MF b,0,((0,0),false,((b.length:Nat):Int),b,[],false,0)):=by
 have hr:rightCall rdC=true:=by kernel_rfl
 have hL:readL b 0 4096=b:=by
  unfold readL;simp only[show(0:Int).toNat=0 from rfl,Nat.zero_min,Nat.zero_max,List.drop_zero,Int.zero_add,show(4096:Int).toNat=4096 from rfl];exact List.take_of_length_le (by omega)
 have hA:actF (MF b) rdC=(0,MF b,((0,0),false,((b.length:Nat):Int),b,[],false,0)):=by
  show readA (MF b) rdC=_;unfold readA;rw[if_pos (show(fileF (MF b) rdC.2.2.2.1).2.2=0 from rfl)];show(0,MF b,((0,0),false,((b.length:Nat):Int),readL b 0 4096,[],decide ((0:Int)+4096<((b.length:Nat):Int)),0))=_;rw[hL,decide_eq_false (by omega)]
 unfold resF;rw[if_pos hr,hA]
 rfl
end Go.Ab.D
set_option maxHeartbeats 4000000
set_option maxRecDepth 100000
namespace Go.Ab.D
open Go Go.Ab
theorem kBZ(q k:Nat)(v:UInt8)(hk:k<q):(List.replicate k v++List.replicate (q-k) 0).set k v=List.replicate (k+1) v++List.replicate (q-(k+1)) (0:UInt8):=by
 rw[List.set_append_right _ _ (by simp),List.length_replicate,Nat.sub_self];obtain⟨r,hr⟩:∃r,q-k=r+1:=⟨q-k-1,by omega⟩;rw[hr,show q-(k+1)=r by omega,List.replicate_succ (n:=r),List.set_cons_zero,List.replicate_succ',List.append_assoc]
 rfl
theorem pdZ(q:Nat)(hq:q<=1000)(h h1 h2:Int)(h3:List Ino)(h4:List Byt):law22_ModelHoles_l0_it fuel q (0,(h,(h1,(h2,(h3,(h4,List.replicate q 0))))))=some (h,(h1,(h2,(h3,(h4,List.replicate q 1))))):=by
 unfold law22_ModelHoles_l0_it;have e:((0:Int),(h,(h1,(h2,(h3,(h4,(List.replicate q 0:Byt)))))))=(fun k:Nat=>((k:Int),(h,(h1,(h2,(h3,(h4,(List.replicate k 1++List.replicate (q-k) 0:Byt)))))))) 0:=by simp
 refine(congrArg (iter fuel _) e).trans ?_;refine baZ (fun k:Nat=>((k:Int),(h,(h1,(h2,(h3,(h4,(List.replicate k 1++List.replicate (q-k) 0:Byt)))))))) q (by omega) (fun k hk=> ?_) ?_
 ·dsimp only;unfold law22_ModelHoles_l0;have hl:(List.replicate k (1:UInt8)++List.replicate (q-k) 0).length=q:=by simp;omega
  rw[decide_eq_true (show(k:Int)<(((List.replicate (α:=UInt8) q 0).length:Nat):Int) by simp;omega),cond_true,alZ (by rw[hl];exact hk),Option.bind_some];obtain⟨x,hx⟩:∃x,(List.replicate k (1:UInt8)++List.replicate (q-k) 0)[k]? =some x:=⟨_,List.getElem?_eq_getElem (by rw[hl];exact hk)⟩;rw[hx,Option.bind_some,show UInt8.ofNat 1=1 from rfl,kBZ q k 1 hk,w64 (by omega)]
  rfl
 ·dsimp only;unfold law22_ModelHoles_l0;rw[decide_eq_false (show¬((q:Int)<(((List.replicate (α:=UInt8) q 0).length:Nat):Int)) by simp),cond_false];simp
theorem peZ(q:Nat)(hq:q<=1000)(h h1 h2:Int)(h3:List Ino)(h4:List Byt)(h5:Byt):law22_ModelHoles_l1_it fuel q (0,(h,(h1,(h2,(h3,(h4,(h5,List.replicate q 0)))))))=some (h,(h1,(h2,(h3,(h4,(h5,List.replicate q 2)))))):=by
 unfold law22_ModelHoles_l1_it;have e:((0:Int),(h,(h1,(h2,(h3,(h4,(h5,(List.replicate q 0:Byt))))))))=(fun k:Nat=>((k:Int),(h,(h1,(h2,(h3,(h4,(h5,(List.replicate k 2++List.replicate (q-k) 0:Byt))))))))) 0:=by simp
 refine(congrArg (iter fuel _) e).trans ?_;refine baZ (fun k:Nat=>((k:Int),(h,(h1,(h2,(h3,(h4,(h5,(List.replicate k 2++List.replicate (q-k) 0:Byt))))))))) q (by omega) (fun k hk=> ?_) ?_
 ·dsimp only;unfold law22_ModelHoles_l1;have hl:(List.replicate k (2:UInt8)++List.replicate (q-k) 0).length=q:=by simp;omega
  rw[decide_eq_true (show(k:Int)<(((List.replicate (α:=UInt8) q 0).length:Nat):Int) by simp;omega),cond_true,alZ (by rw[hl];exact hk),Option.bind_some];obtain⟨x,hx⟩:∃x,(List.replicate k (2:UInt8)++List.replicate (q-k) 0)[k]? =some x:=⟨_,List.getElem?_eq_getElem (by rw[hl];exact hk)⟩;rw[hx,Option.bind_some,show UInt8.ofNat 2=2 from rfl,kBZ q k 2 hk,w64 (by omega)]
  rfl
 ·dsimp only;unfold law22_ModelHoles_l1;rw[decide_eq_false (show¬((q:Int)<(((List.replicate (α:=UInt8) q 0).length:Nat):Int)) by simp),cond_false];simp
def padL(w:Byt)(n:Nat):Byt:=w++List.replicate (n-w.length) 0
theorem oJZ(a:Int)(w:Byt)(h h1 h2:Int)(h3:List Ino)(h4:List Byt)(h5:Byt)(ha:0<=Int.tmod a 301/\Int.tmod a 301<=300)(hw:w.length<=1000)(h5l:h5.length<=1000):
 law22_ModelHoles_l2_it fuel a (w,(h,(h1,(h2,(h3,(h4,h5))))))=some (padL w ((Int.tmod a 301).toNat+h5.length),(h,(h1,(h2,(h3,(h4,h5)))))):=by
 unfold law22_ModelHoles_l2_it;have e:(w,(h,(h1,(h2,(h3,(h4,h5))))))=(fun k:Nat=>((w++List.replicate k 0:Byt),(h,(h1,(h2,(h3,(h4,h5))))))) 0:=by simp
 refine(congrArg (iter fuel _) e).trans ?_;refine baZ (fun k:Nat=>((w++List.replicate k 0:Byt),(h,(h1,(h2,(h3,(h4,h5))))))) ((Int.tmod a 301).toNat+h5.length-w.length) (by omega) (fun k hk=> ?_) ?_
 ·dsimp only;unfold law22_ModelHoles_l2;have hl:(w++List.replicate k (0:UInt8)).length=w.length+k:=by simp
  rw[hl,w64 (x:=Int.tmod a 301) (by omega),w64 (by omega),decide_eq_true (show((w.length+k:Nat):Int)<Int.tmod a 301+((h5.length:Nat):Int) by omega),cond_true,aaZ (by simp only[Bool.and_eq_true,Nat.ble_eq,aHZ];omega),List.append_assoc,show UInt8.ofNat 0=0 from rfl,<-List.replicate_succ']
 ·dsimp only;unfold law22_ModelHoles_l2;have hl:(w++List.replicate ((Int.tmod a 301).toNat+h5.length-w.length) (0:UInt8)).length=w.length+((Int.tmod a 301).toNat+h5.length-w.length):=by simp
  rw[hl,w64 (x:=Int.tmod a 301) (by omega),w64 (by omega),decide_eq_false (show¬(((w.length+((Int.tmod a 301).toNat+h5.length-w.length):Nat):Int)<Int.tmod a 301+((h5.length:Nat):Int)) by omega),cond_false]
  rfl
end Go.Ab.D
set_option maxHeartbeats 4000000
set_option maxRecDepth 100000
namespace Go.Ab.D
open Go Go.Ab
theorem jWZ{b:Byt}(hb:b.length<=65536)(k:UInt8)(off n:Int)(bs:Byt):
 law22_ModelHoles_1__coo fuel (0,(0,(k,((0,0),([],((0,0),([],(off,(n,bs))))))))) 2 1 (MF b).1.2 (MF b).1.1 (MF b).2=
  (model_Do fuel (MF b) (0,(1,(k,((2,1),([],((0,0),([],(off,(n,bs)))))))))).bind fun r1=>some (r1.2.1,(r1.2.2.1,(r1.2.2.2.1,(r1.2.2.2.2.1,(r1.2.2.2.2.2.1,(r1.2.2.2.2.2.2.1,(r1.2.2.2.2.2.2.2.1,(r1.2.2.2.2.2.2.2.2.1,(r1.2.2.2.2.2.2.2.2.2.1,(r1.2.2.2.2.2.2.2.2.2.2.1,(r1.2.2.2.2.2.2.2.2.2.2.2.1,(2,(1,(r1.1,((MF b).1.1,((MF b).2,(r1.2.2.2.2.2.2.2.2.2.2.2.2.1,r1.2.2.2.2.2.2.2.2.2.2.2.2.2))))))))))))))))):=by
 unfold law22_ModelHoles_1__coo;rw[arZ,Option.bind_some];unfold law22_ask;rw[Option.bind_some];simp only;rw[arZ,Option.bind_some]
def outH(b:Byt)(r:Mod×Int×Rep)(c:CallT):Int×(Int×(Int×(Int×(Int×(Bool×(Int×(Byt×(List Ent×(Bool×(Int×(Int×(Int×(Int×(List Ino×(List Byt×(List Ino×List Byt)))))))))))))))):=(c.1,(c.2.1,(r.2.1,(r.2.2.1.1,(r.2.2.1.2,(r.2.2.2.1,(r.2.2.2.2.1,(r.2.2.2.2.2.1,(r.2.2.2.2.2.2.1,(r.2.2.2.2.2.2.2.1,(r.2.2.2.2.2.2.2.2,(2,(1,(r.1.1.2,((MF b).1.1,((MF b).2,(r.1.1.1,r.1.2)))))))))))))))))
theorem kZZ{b:Byt}(hb:b.length<=65536){off:Int}{bs:Byt}(ho:0<=off/\off<=2147483648)(hbs:bs.length<=4096)(hs:off+((bs.length:Nat):Int)<=65536):
 law22_ModelHoles_1__coo fuel (0,(0,(UInt8.ofNat 5,((0,0),([],((0,0),([],(off,(0,bs))))))))) 2 1 (MF b).1.2 (MF b).1.1 (MF b).2=some (outH b (MF (writeL b off bs),0,((2,1),false,((writeN b off bs:Nat):Int),[],[],false,0)) (wrC off bs)):=by
 rw[jWZ hb];have:=fOZ (q1Z hb) (wrC off bs);rw[rFZ ho hbs hs] at this;refine(congrArg (fun o=>Option.bind o _) (show model_Do fuel (MF b) _=_ from this)).trans ?_
 rfl
theorem kEZ{b:Byt}(hb:b.length<=65536){n:Int}(hn:0<=n/\n<=65536):
 law22_ModelHoles_1__coo fuel (0,(0,(UInt8.ofNat 6,((0,0),([],((0,0),([],(0,(n,[]))))))))) 2 1 (MF b).1.2 (MF b).1.1 (MF b).2=some (outH b (MF (sizedL b n.toNat),0,((2,1),false,n,[],[],false,0)) (szC n)):=by
 rw[jWZ hb];have:=fOZ (q1Z hb) (szC n);rw[rQZ hn] at this;refine(congrArg (fun o=>Option.bind o _) (show model_Do fuel (MF b) _=_ from this)).trans ?_
 rfl
theorem o7Z{b:Byt}(hb:b.length<=4096):
 law22_ModelHoles_1__coo fuel (0,(0,(UInt8.ofNat 4,((0,0),([],((0,0),([],(0,(4096,[]))))))))) 2 1 (MF b).1.2 (MF b).1.1 (MF b).2=some (outH b (MF b,0,((0,0),false,((b.length:Nat):Int),b,[],false,0)) rdC):=by
 rw[jWZ (by omega)];have:=fOZ (q1Z (show b.length<=65536 by omega)) rdC;rw[rEZ hb] at this;refine(congrArg (fun o=>Option.bind o _) (show model_Do fuel (MF b) _=_ from this)).trans ?_
 rfl
end Go.Ab.D
set_option maxHeartbeats 4000000
set_option maxRecDepth 100000
namespace Go.Ab.D
open Go Go.Ab
theorem n1Z(x:Int)(n:Int)(hx:0<=x)(hn:0<n):0<=Int.tmod x n/\Int.tmod x n<n:=⟨Int.tmod_nonneg _ hx,Int.tmod_lt_of_pos x hn⟩
theorem juZ(ones at_ twos short long:Int)(b1:0<=ones/\ones<=65535)(b2:0<=at_/\at_<=65535)(b3:0<=twos/\twos<=65535)(b4:0<=short/\short<=65535)(b5:0<=long/\long<=65535):law22_ModelHoles fuel ones at_ twos short long=some true:=by
 have r1:=n1Z ones 61 b1.1 (by decide);have r2:=n1Z at_ 301 b2.1 (by decide);have r3:=n1Z twos 20 b3.1 (by decide);unfold law22_ModelHoles law22_ask;rw[pZZ,Option.bind_some];simp only[Option.bind_some];rw[arZ,Option.bind_some];have d1:model_Do fuel ((M0.1.1,M0.1.2),M0.2) (0,(1,(UInt8.ofNat 2,((1,1),([102],((0,0),([],(0,(0,[])))))))))=some (doT _ cA):=fOZ o9Z cA;rw[x1] at d1;rw[d1,Option.bind_some];simp only[doT];rw[cmZ r1.1 (by rw[aHZ];omega),Option.bind_some,cmZ r1.1 (by omega),Option.bind_some,aaZ (by rw[Nat.ble_eq,aHZ];omega),pdZ _ (by omega),Option.bind_some,wu16 (by omega),cmZ (by omega) (by rw[aHZ];omega),Option.bind_some,cmZ (by omega) (by omega),Option.bind_some,aaZ (by rw[Nat.ble_eq,aHZ];omega),peZ _ (by omega),Option.bind_some];simp only;rw[w64 (x:=Int.tmod at_ 301) (by omega)];generalize hA:(Int.tmod ones 61).toNat=na;generalize hB:(1+Int.tmod twos 20).toNat=nb;have hna:na<=60:=by omega
 have hnb:1<=nb/\nb<=20:=by omega
 have hw1:(List.replicate na (1:UInt8)).length=na:=List.length_replicate;have hw2:(List.replicate nb (2:UInt8)).length=nb:=List.length_replicate;generalize hl1:(List.replicate na (1:UInt8))=w1 at hw1⊢;generalize hl2:(List.replicate nb (2:UInt8))=w2 at hw2⊢;rw[show MA=MF [] from rfl,kZZ (b:=[]) (by simp) (off:=0) (by omega) (by omega) (by omega),Option.bind_some];simp only[outH];have e1:writeL [] 0 w1=w1:=by
  unfold writeL writeN sizedL splice;by_cases h0:w1.length=0
  ·have:=List.eq_nil_of_length_eq_zero h0;subst this;simp
  ·simp[h0]
 rw[e1,kZZ (b:=w1) (by omega) (off:=Int.tmod at_ 301) (by omega) (by omega) (by omega),Option.bind_some];simp only[outH];rw[aaZ (by simp only[Bool.and_eq_true,Nat.ble_eq,aHZ];omega),oJZ _ _ _ _ _ _ _ _ (by omega) (by omega) (by omega),Option.bind_some];simp only;generalize hat:(Int.tmod at_ 301).toNat=a;have hat':Int.tmod at_ 301=(a:Int):=by omega
 rw[hat',w64 (by omega)];have hpl:(padL w1 (a+w2.length)).length=max na (a+nb):=by unfold padL;simp[hw1,hw2];omega
 have hat1:a<=300:=by omega
 have eW:splice (padL w1 (a+w2.length)) a (List.take ((padL w1 (a+w2.length)).length-a) w2)=writeL w1 (a:Int) w2:=by
  rw[List.take_of_length_le (show w2.length<=(padL w1 (a+w2.length)).length-a by rw[hpl];omega)];unfold writeL;have hN:writeN w1 (a:Int) w2=max na (a+nb):=by unfold writeN;rw[if_neg (by omega),hw1,hw2];simp
  rw[hN,show min (a:Int).toNat (max na (a+nb))=a by omega];congr 1;unfold padL sizedL;rw[hw1,hw2,List.take_of_length_le (by omega)];congr 2;omega
 have hWl:(writeL w1 (a:Int) w2).length=max na (a+nb):=by rw[dlZ];unfold writeN;rw[if_neg (by omega),hw1,hw2];simp
 rw[aUZ (by rw[hpl];omega),Option.bind_some,aaZ (by rw[Nat.ble_eq,hpl];omega)];simp only[eW];generalize hWd:writeL w1 (a:Int) w2=W at hWl⊢;have hWb:1<=W.length/\W.length<=320:=by omega
 rw[w64 (x:=long) (by omega),w64 (x:=((W.length:Nat):Int)+1) (by omega)];have r4:=n1Z short (((W.length:Nat):Int)+1) b4.1 (by omega);generalize hcut:Int.tmod short (((W.length:Nat):Int)+1)=cut at r4⊢;rw[if_neg (show¬(400<cut) by omega),w64 (x:=401-cut) (by omega)];have r5:=n1Z long (401-cut) b5.1 (by omega);generalize hgr:Int.tmod long (401-cut)=grow at r5⊢;rw[w64 (x:=cut+grow) (by omega)];rw[aaZ (by simp;omega),aaZ (by simp;omega)];rw[kEZ (b:=W) (by omega) (n:=cut) (by omega),Option.bind_some];simp only[outH];rw[kEZ (b:=sizedL W cut.toNat) (by rw[beZ];omega) (n:=cut+grow) (by omega),Option.bind_some];simp only[outH];rw[cmZ (x:=cut) (n:=W.length) (by omega) (by omega),Option.bind_some,aaZ (by rw[Nat.ble_eq];omega),aaZ (by simp only[Bool.and_eq_true,Nat.ble_eq,aHZ,List.length_take,List.drop_zero];omega)];rw[show cut+grow-cut=grow by omega,w64 (x:=grow) (by omega),cmZ (x:=grow) (by omega) (by rw[aHZ];omega),Option.bind_some,aaZ (by simp only[Bool.and_eq_true,Nat.ble_eq,aHZ,List.length_take,List.drop_zero];omega)];rw[o7Z (b:=sizedL (sizedL W cut.toNat) (cut+grow).toNat) (by rw[beZ];omega),Option.bind_some];simp only[outH];have eB:sizedL (sizedL W cut.toNat) (cut+grow).toNat=List.take cut.toNat (List.drop 0 W)++List.replicate grow.toNat 0:=by
  have h1:sizedL W cut.toNat=W.take cut.toNat:=by
   unfold sizedL;rw[show cut.toNat-W.length=0 by omega];simp
  rw[h1];unfold sizedL;rw[List.length_take,List.drop_zero,List.take_take,show min (cut+grow).toNat cut.toNat=cut.toNat by omega,show(cut+grow).toNat-min cut.toNat W.length=grow.toNat by omega]
 rw[eB];simp only[beq_self_eq_true,cond_true,Bool.not_false];rw[rmZ]
 rfl
theorem law22_ModelHoles_true(ones at_ twos short long:Int)(k0:OkV (.int .u16) ones)(k1:OkV (.int .u16) at_)(k2:OkV (.int .u16) twos)(k3:OkV (.int .u16) short)(k4:OkV (.int .u16) long):law22_ModelHoles fuel ones at_ twos short long=some true:=by
 have f:∀x:Int,OkV (.int .u16) x->0<=x/\x<=65535:=fun x h=>h;exact juZ ones at_ twos short long (f _ k0) (f _ k1) (f _ k2) (f _ k3) (f _ k4)
end Go.Ab.D
