/- An evaluator of the model's code over plain values, and its soundness; of no program. -/
import Derived.Test.YtcfchfhdaggmpaaGreatDoorE1
import Derived.Laws.StructEq
import Derived.Laws.Cover3
import Derived.ChangeKeysEq
import Derived.Laws.BytesString
import Derived.MapKept
import Derived.WideKeyRuns
import Derived.Deep.AppendSrc
import Derived.Laws.MakeOwn
import Derived.Great.BuildSlice
import Derived.Deep.Upon
set_option linter.all false
namespace Go.Ab
theorem ZAP:type_of% @Bool.not_true:=@Bool.not_true
theorem ZAV.{u}:type_of% @beq_self_eq_true.{u}:=@beq_self_eq_true.{u}
theorem ZAW.{u,v}:type_of% @List.getElem?_map.{u,v}:=@List.getElem?_map.{u,v}
theorem ZAb.{u}:type_of% @List.mem_cons_of_mem.{u}:=@List.mem_cons_of_mem.{u}
theorem ZAn.{u}:type_of% @List.getElem?_take.{u}:=@List.getElem?_take.{u}
theorem ZAx.{u}:type_of% @List.length_replicate.{u}:=@List.length_replicate.{u}
theorem ZAz:type_of% @Nat.add_sub_cancel_left:=@Nat.add_sub_cancel_left
theorem ZA0.{u}:type_of% @Array.getElem?_toList.{u}:=@Array.getElem?_toList.{u}
theorem ZA4:type_of% @Bool.true_and:=@Bool.true_and
theorem ZA8:type_of% @Nat.min_eq_left:=@Nat.min_eq_left
theorem ZBB.{u,v}:type_of% @List.length_map.{u,v}:=@List.length_map.{u,v}
theorem ZBD.{u}:type_of% @Array.mem_toList_iff.{u}:=@Array.mem_toList_iff.{u}
theorem ZBF.{u}:type_of% @Array.getElem?_eq_some_iff.{u}:=@Array.getElem?_eq_some_iff.{u}
theorem ZBH.{u}:type_of% @Array.size_append.{u}:=@Array.size_append.{u}
theorem ZBL:type_of% @Nat.lt_irrefl:=@Nat.lt_irrefl
theorem ZBO.{u}:type_of% @List.size_toArray.{u}:=@List.size_toArray.{u}
theorem ZBP:type_of% @Bool.false_eq_true:=@Bool.false_eq_true
theorem ZBU.{u}:type_of% @List.take_length.{u}:=@List.take_length.{u}
theorem ZBV.{u}:type_of% @Array.toList_extract.{u}:=@Array.toList_extract.{u}
theorem ZBX.{u}:type_of% @List.eq_of_mem_replicate.{u}:=@List.eq_of_mem_replicate.{u}
theorem ZBb:type_of% @Nat.le_succ:=@Nat.le_succ
theorem ZBe.{u}:type_of% @List.extract_eq_take_drop.{u}:=@List.extract_eq_take_drop.{u}
theorem ZBg.{u}:type_of% @Array.ext'.{u}:=@Array.ext'.{u}
theorem ZBk.{u,v}:type_of% @Option.map_some.{u,v}:=@Option.map_some.{u,v}
theorem ZBp.{u}:type_of% @Array.toList_append.{u}:=@Array.toList_append.{u}
theorem ZB1.{u}:type_of% @List.getElem?_replicate.{u}:=@List.getElem?_replicate.{u}
theorem ZB4.{u}:type_of% @List.all_eq_true.{u}:=@List.all_eq_true.{u}
theorem ZB6.{u,v}:type_of% @List.map_cons.{u,v}:=@List.map_cons.{u,v}
theorem ZCB.{u,v}:type_of% @List.mem_map.{u,v}:=@List.mem_map.{u,v}
theorem ZCH.{u}:type_of% @if_true.{u}:=@if_true.{u}
end Go.Ab
namespace Go.Ab
section
variable {P : Program} {β : Type} {z : Z} {H : Hp}
theorem OkP.mk'{s:Sem Value}{K:AV->Option β}{r:β}{x:AV}{v:Value}(h1:s.run P z.w= .ok v z.w)(h2:ARep z x v)(h3:K x=some r):OkP P s z K r:=⟨x,v,h1,h2,h3⟩
theorem a0Z{t n:Nat}(w:World)(h:P.cellsOf t=n)(h0:n≠0):(sizeOf t).run P w= .ok n w:=by
 have hi:=bkZ h h0;cases hq:P.info? t with
 |none=>simp[hq] at hi
 |some i=>simp[hq] at hi;simp[sizeOf,typeInfo,Sem.run_bind,hq,hi]
theorem dlZ{s:TypeId}{f o:Nat}{t:TypeId}(h:fieldOff P s f=some (o,t)):∃fs x,P.underlying s=some (.struct fs)/\fs[f]? =some x/\P.cellsOf x.type≠0/\x.offset=o/\x.type=t:=by
 unfold fieldOff at h;split at h
 ·rename_i fs hu;obtain⟨x,h1,h2⟩:=agZ.1 h;cases hb:Nat.beq (P.cellsOf x.type) 0<;>rw[hb] at h2<;>simp only[bq_true,bq_false] at h2
  ·simp only[ZAI,ZAs] at h2;exact⟨fs,x,hu,h1,fun h=>(by rw[h] at hb;cases hb),h2.1,h2.2⟩
  ·cases h2
 ·cases h
theorem dmZ{s:TypeId}{f o b p:Nat}{t:TypeId}(h:fieldOff P s f=some (o,t))(w:World):(Instr.fieldAt s (.pointer (some ⟨b,p,none⟩)) f).run P w= .ok (.pointer (some ⟨b,p+o,none⟩)) w:=by
 obtain⟨fs,x,h1,h2,h3,h4,h5⟩:=dlZ h;have hs:=a0Z (P:=P) (t:=x.type) w rfl h3;simp[Instr.fieldAt,Sem.run_bind,run_underlying h1,h2,Instr.sureAddr,fieldPlace,hs,h3,h4,Addr.add_mid]
theorem fTZ{s:TypeId}{a:AV}{f:Nat}{K:AV->Option β}{r:β}{v:Value}(h:evFieldAddr P s a f K=some r)(ha:ARep z a v):OkP P (Instr.fieldAt s v f) z K r:=by
 unfold evFieldAddr at h;split at h
 ·rename_i o t es id i j ho;cases ha with
  |own _ _ _ _ g sz n hρ=>exact .mk' (by rw[dmZ ho];rw[ZBq]) (.own _ _ _ _ _ _ _ hρ) h
 ·rename_i o t u l i j ho;cases ha with
  |pt _ _ _ _ b off hM hlt hr=>exact .mk' (by rw[dmZ ho,ZBq (off+i*u.cells)]) (.pt _ _ _ _ _ _ hM hlt hr) h
 ·rename_i o t f' es k i j ho;cases ha with
  |rp _ _ _ _ _ g sz n hρ=>exact .mk' (by rw[dmZ ho];rw[ZBq]) (.rp _ _ _ _ _ _ _ _ hρ) h
 ·cases h
theorem aZZ{t:TypeId}{cs:Array Value}{o n:Nat}(w:World)(h:isAggT P t=true)(hn:P.cellsOf t=n)(h0:n≠0):(part t cs o).run P w= .ok (.agg (cs.extract o (o+n))) w:=by
 obtain⟨d,hd,hr⟩:=edZ h;have hs:=a0Z (P:=P) w hn h0;have ha:(isAgg t).run P w= .ok true w:=by
  unfold isAgg;rw[Sem.run_bind,run_underlying hd w];cases d<;>simp_all
 simp[part,Sem.run_bind,ha,hs]
theorem aQZ{t:TypeId}{cs:Array Value}{o:Nat}{v:Value}(w:World)(h:isScal P t=true)(hv:cs[o]? =some v):(part t cs o).run P w= .ok v w:=by
 simp[part,Sem.run_bind,icZ w h,hv]
theorem qbZ{u:Ty}{t:TypeId}{x:u.den}{cs:Array Value}{o:Nat}{K:AV->Option β}{r:β}(h:rdRow P u t x o K=some r)(hc:Cl z.w z.M z.ρ u x cs.toList):OkP P (part t cs o) z K r:=by
 unfold rdRow at h;obtain⟨want,h1,h2⟩:=agZ.1 h;obtain⟨t1,t2,t3,t4⟩:=cmZ h1;obtain⟨t',y,e1,e2,q1,q3⟩:∃(t':Ty) (y:t'.den),t'.cells=want.cells/\t'.isAgg=want.isAgg/\Cl z.w z.M z.ρ t' y ((cs.toList.drop o).take t'.cells)/\K (.ofTy t' y)=some r:=by
  cases hnr:u.noRef<;>rw[hnr] at h2<;>simp only[bq_true,bq_false] at h2
  ·obtain⟨t',y,q0,q1,q2,q3⟩:=eJZ h2 hc;exact⟨t',y,by rw[<-q0,azZ],by rw[<-q0,fwZ],q1,q3⟩
  ·obtain⟨y,q1,q2,q3⟩:=i4Z h2 hc;exact⟨want,y,rfl,rfl,q1,q3⟩
 rw[<-e1] at t1 t2;rw[<-e2] at t3 t4;clear h2 h1 e1 e2;have hl:=q1.len;cases hagg:t'.isAgg
 ·have hcells:t'.cells=1:=by cases t'<;>first|rfl|(simp[Ty.isAgg] at hagg;done)
  match hvs:(cs.toList.drop o).take t'.cells,hl with
  |[],hl=>rw[hcells] at hl;simp at hl
  |_::_::_,hl=>rw[hcells] at hl;simp at hl
  |[v],_=>
   rw[hvs] at q1;have hv:cs[o]? =some v:=by
    have:((cs.toList.drop o).take t'.cells)[0]? =some v:=by rw[hvs];rfl
    rw[hcells] at this;simpa using this
   exact .mk' (aQZ z.w (t4 hagg) hv) (b8Z (.mkSc q1 hagg)) q3
 ·refine .mk' (aZZ z.w (t3 hagg) t1.symm (by omega)) (b8Z ⟨_,q1,?_⟩) q3;rw[hagg];simp only[ZAK];congr 1;apply ZBg;rw[ZBV];simp[List.extract]
theorem ldZ{s:TypeId}{a:AV}{f:Nat}{K:AV->Option β}{r:β}{v:Value}(h:evField P s a f K=some r)(ha:ARep z a v):OkP P (Instr.field s v f) z K r:=by
 have run:∀{o t} {cs:Array Value},fieldOff P s f=some (o,t)->(Instr.field s (.agg cs) f).run P z.w=(part t cs o).run P z.w:=fun{o t cs} ho=>by
  obtain⟨fs,x,h1,h2,h3,h4,h5⟩:=dlZ ho;simp[Instr.field,Sem.run_bind,run_underlying h1,h2,asAgg,h4,h5]
 unfold evField at h;split at h
 ·rename_i o t c ho;obtain⟨fs,x,h1,h2,h3,h4,h5⟩:=dlZ ho;cases ha with|agg _ cs hs q1 q2=>
  have hc:AReps z c cs.toList:=⟨by simp[hs],fun i a v p1 p2=>q2 i a v p1 (by simpa using p2)⟩;cases hagg:isAggT P t<;>rw[hagg] at h<;>simp only[bq_true,bq_false] at h
  ·cases hsc:isScal P t<;>rw[hsc] at h<;>simp only[bq_true,bq_false] at h
   ·cases h
   ·obtain⟨a',p1,p2⟩:=agZ.1 h;obtain⟨v,p3,p4⟩:=hc.get p1;exact .mk' (by rw[run ho];exact aQZ z.w hsc (by simpa using p3)) p4 p2
  ·obtain⟨p1,p2⟩:=aeZ.1 h;rw[ZAm] at p1;have h0:P.cellsOf t≠0:=by rw[<-h5];exact h3
   have hd:=(hc.drop o).take (P.cellsOf t);refine .mk' (by rw[run ho];exact aZZ z.w hagg rfl h0) (.agg _ _ ?_ (fun v hv=> ?_) (fun i x v e1 e2=>hd.2 i x v e1 ?_)) p2
   ·have:=hd.1;rw[this];rw[<-Array.length_toList,ZBV];simp[List.extract]
   ·have hv':=ZBD.2 hv;rw[ZBV] at hv';exact q1 v (ZBD.1 (List.mem_of_mem_drop (ZCA (by simpa[List.extract] using hv'))))
   ·have:(cs.extract o (o+P.cellsOf t)).toList[i]? =some v:=by rw[ZA0];exact e2
    rw[ZBV,ZBe,ZAz] at this;exact this
 ·rename_i o t u x ho;cases hagg:u.isAgg<;>rw[hagg] at h<;>simp only[bq_true,bq_false] at h
  ·cases h
  ·obtain⟨vs,p1,p2⟩:=ha.v;rw[hagg] at p2;simp only[ZAK] at p2;subst p2;obtain⟨y,v,e1,e2,e3⟩:=qbZ (cs:=vs.toArray) h (by simpa using p1);exact .mk' (by rw[run ho];exact e1) e2 e3
 ·cases h
theorem bAZ{i:Int}{n q:Nat}(h:idx? i n=some q):0<=i/\i<n/\i.toNat=q:=by
 unfold idx? at h;split at h
 ·rename_i hc;simp at h;exact⟨hc.1,hc.2,h⟩
 ·cases h
theorem bIZ{i:Int}{n q:Nat}(h:upto? i n=some q):0<=i/\i<=n/\i.toNat=q:=by
 unfold upto? at h;split at h
 ·rename_i hc;simp at h;exact⟨hc.1,hc.2,h⟩
 ·cases h
theorem cFZ{es id:Nat}{K:(u:Ty)->List u.den->Option β}{r:β}(h:ownRows H es id K=some r):∃fz e u l,hget H id=some ⟨fz,.rows e u l⟩/\es=u.cells/\K u l=some r:=by
 unfold ownRows at h;split at h
 ·rename_i fz e u l hg;cases hb:Nat.beq es u.cells<;>rw[hb] at h<;>simp only[bq_true,bq_false] at h
  ·cases h
  ·exact⟨fz,e,u,l,hg,(acZ _ _).1 hb,h⟩
 ·cases h
theorem gBZ{es id n:Nat}{v:Value}(h:varsLen H es id=some n)(hH:HRep z H)(ha:ARep z (.slf es id) v):
 es=1/\∃g sz c,z.ρ id= .real g sz n/\v= .slice (some ⟨g,0,none⟩) n c/\n<=c/\c<=maxLen:=by
 unfold varsLen at h;split at h
 ·rename_i fz c hg;cases hb:Nat.beq es 1<;>rw[hb] at h<;>simp only[bq_true,bq_false] at h
  ·cases h
  ·rw[acZ] at hb;simp only[ZAI] at h;subst h;cases ha with
   |slfV _ _ A hρ=>exact absurd (hH.virt hg hρ) (fun h=>h)
   |slf _ _ g sz n k hρ hn hs hm=>
    obtain⟨_,_,_,cs,e,fr,a1,a2,a3,⟨a4,a5⟩,_⟩:=hH.real hg hρ;have e1:n=c.length:=by omega
    subst e1;exact⟨hb,g,sz,k,hρ,rfl,hn,hm⟩
 ·cases h
theorem hLZ{es id:Nat}{v:Value}{fz:Bool}{e:TypeId}{u:Ty}{l:List u.den}(hH:HRep z H)(hg:hget H id=some ⟨fz,.rows e u l⟩)(ha:ARep z (.slf es id) v):
 ∃A c,v= .slice A l.length c/\l.length<=c/\(l.length≠0->∃g sz n,z.ρ id= .real g sz n/\A=some ⟨g,0,none⟩/\c*es<=sz/\c<=maxLen)/\
  (z.ρ id= .virt\/∃g sz n,z.ρ id= .real g sz n/\A=some ⟨g,0,none⟩/\c*es<=sz/\c<=maxLen)/\c<=maxLen:=by
 cases ha with
 |slfV _ _ A hρ=>
  obtain⟨rfl,_⟩:=hH.virt hg hρ;exact⟨A,0,rfl,ZAM _,fun h=>absurd rfl h,.inl hρ,by unfold maxLen;omega⟩
 |slf _ _ g sz n c hρ hn hs hm=>
  obtain⟨_,_,_,cs,fr,a1,a2,a3,a4,a5,a6,a7⟩:=hH.real hg hρ;rw[<-a4] at hn⊢;exact⟨_,c,rfl,hn,fun _=>⟨g,sz,_,hρ,rfl,hs,hm⟩,.inr ⟨g,sz,_,hρ,rfl,hs,hm⟩,hm⟩
theorem aIZ{t e:TypeId}{b o n c q m:Nat}{k:IntKind}{x:Int}(w:World)(h:P.underlying t=some (.slice e))(h0:0<=x)(h1:x<n)(h2:x.toNat=q)(hm:P.cellsOf e=m)(hm0:m≠0):
 (Instr.indexAt t (.slice (some ⟨b,o,none⟩) n c) (.int k x)).run P w= .ok (.pointer (some ⟨b,o+q*m,none⟩)) w:=by
 have hs:=a0Z (P:=P) w hm hm0;simp[Instr.indexAt,Sem.run_bind,asIntOf,run_underlying h,h0,h1,hs,h2,Addr.add_mid]
theorem beZ{t e:TypeId}{b o n q m:Nat}{k:IntKind}{x:Int}(w:World)(h:P.underlying t=some (.array n e))(h0:0<=x)(h1:x<n)(h2:x.toNat=q)(hm:P.cellsOf e=m)(hm0:m≠0):
 (Instr.indexAt t (.pointer (some ⟨b,o,none⟩)) (.int k x)).run P w= .ok (.pointer (some ⟨b,o+q*m,none⟩)) w:=by
 have hs:=a0Z (P:=P) w hm hm0;simp[Instr.indexAt,Sem.run_bind,asIntOf,run_underlying h,h0,h1,hs,h2,Addr.add_mid,Instr.sureAddr]
end
end Go.Ab
namespace Go.Ab
section
variable {P : Program} {β : Type} {z : Z} {H : Hp}
theorem ggZ{t:TypeId}{a ix:AV}{K:AV->Option β}{r:β}{v vi:Value}(h:evIndexAddr P t a ix H K=some r)(hH:HRep z H)(ha:ARep z a v)(hi:ARep z ix vi):
 OkP P (Instr.indexAt t v vi) z K r:=by
 unfold evIndexAddr at h;obtain⟨x,h1,h2⟩:=agZ.1 h;obtain⟨k,rfl⟩:=bfZ h1 hi;split at h2
 ·rename_i n e hu;have hh:=aeZ.1 h2;clear h2 h;obtain⟨h0,h2⟩:=hh;simp only[ZAc] at h0;have hm0:P.cellsOf e≠0:=fun h=>by rw[h] at h0;cases h0
  split at h2
  ·rename_i es id i j;cases ha with|own _ _ _ _ g sz m hρ=>
   cases hb:(Nat.beq es (P.cellsOf e)&&Nat.beq i 0&&Nat.beq j 0)<;>rw[hb] at h2<;>simp only[bq_true,bq_false] at h2
   ·obtain⟨q,h3,h4⟩:=ZAF.1 h2;obtain⟨q1,q2,q3⟩:=bAZ h3;exact .mk' (by rw[beZ z.w hu q1 q2 q3 rfl hm0,ZBq]) (.own _ _ _ _ _ _ _ hρ) h4
   ·obtain⟨q,h3,h4⟩:=ZAF.1 h2;obtain⟨q1,q2,q3⟩:=bAZ h3;simp only[ZAB,acZ] at hb;obtain⟨⟨rfl,rfl⟩,rfl⟩:=hb;exact .mk' (by rw[beZ z.w hu q1 q2 q3 rfl hm0];simp) (.own _ _ _ _ _ _ _ hρ) h4
  ·rename_i u l i j;cases ha with|pt _ _ _ _ b off hM hlt hr=>
   cases hb:(Nat.beq u.cells (P.cellsOf e)&&Nat.beq i 0&&Nat.beq j 0)<;>rw[hb] at h2<;>simp only[bq_true,bq_false] at h2
   ·obtain⟨q,h3,h4⟩:=ZAF.1 h2;obtain⟨q1,q2,q3⟩:=bAZ h3;exact .mk' (by rw[beZ z.w hu q1 q2 q3 rfl hm0,ZBq (off+i*u.cells)]) (.pt _ _ _ _ _ _ hM hlt hr) h4
   ·obtain⟨q,h3,h4⟩:=ZAF.1 h2;obtain⟨q1,q2,q3⟩:=bAZ h3;simp only[ZAB,acZ] at hb;obtain⟨⟨hb1,rfl⟩,rfl⟩:=hb;exact .mk' (by rw[beZ z.w hu q1 q2 q3 rfl hm0,<-hb1];simp) (.pt _ _ q 0 _ _ hM hlt hr) h4
  ·cases h2
 ·rename_i e hu;have hh:=aeZ.1 h2;clear h2 h;obtain⟨h0,h2⟩:=hh;simp only[ZAc] at h0;have hm0:P.cellsOf e≠0:=fun h=>by rw[h] at h0;cases h0
  split at h2
  ·rename_i es id;cases hb:Nat.beq es (P.cellsOf e)<;>rw[hb] at h2<;>simp only[bq_true,bq_false] at h2
   ·cases h2
   ·rw[acZ] at hb;split at h2
    ·rename_i n hvl;obtain⟨q,h4,h5⟩:=ZAF.1 h2;obtain⟨q1,q2,q3⟩:=bAZ h4;obtain⟨_,g,sz,c,hρ,rfl,_⟩:=gBZ hvl hH ha;refine .mk' (aIZ z.w hu q1 q2 q3 hb.symm (by rw[hb];exact hm0)) ?_ h5;rw[ZAj];exact .own _ _ q 0 _ _ _ hρ
    obtain⟨fz,e',u,l,hg,he,h3⟩:=cFZ h2;obtain⟨q,h4,h5⟩:=ZAF.1 h3;obtain⟨q1,q2,q3⟩:=bAZ h4;obtain⟨A,c,rfl,hc,hA,_⟩:=hLZ hH hg ha;obtain⟨g,sz,m,hρ,rfl,_⟩:=hA (by omega);refine .mk' (aIZ z.w hu q1 q2 q3 hb.symm (by rw[hb];exact hm0)) ?_ h5;rw[ZAj];exact .own _ _ q 0 _ _ _ hρ
  ·rename_i es id off n;cases hb:Nat.beq es (P.cellsOf e)<;>rw[hb] at h2<;>simp only[bq_true,bq_false] at h2
   ·cases h2
   ·rw[acZ] at hb;obtain⟨q,h4,h5⟩:=ZAF.1 h2;obtain⟨q1,q2,q3⟩:=bAZ h4;cases ha with
    |slV=>omega
    |slE=>omega
    |sl _ _ _ _ g sz m c hρ hn hs hm=>
     refine .mk' (aIZ z.w hu q1 q2 q3 hb.symm (by rw[hb];exact hm0)) ?_ h5;have:=ARep.own (z:=z) es id (off+q) 0 g sz m hρ;rw[ZAo,ZB3] at this;exact this
  ·rename_i u l;cases hb:Nat.beq u.cells (P.cellsOf e)<;>rw[hb] at h2<;>simp only[bq_true,bq_false] at h2
   ·cases h2
   ·rw[acZ] at hb;obtain⟨q,h4,h5⟩:=ZAF.1 h2;obtain⟨q1,q2,q3⟩:=bAZ h4;obtain⟨A,c,rfl,hc,hm,_,hA⟩:=VRep.sl (t:=u) ha.v;obtain⟨b,off,rfl,hM,hlt,hr⟩:=hA (by omega);refine .mk' (aIZ z.w hu q1 q2 q3 hb.symm (by rw[hb];exact hm0)) ?_ h5;exact .pt (z:=z) u l q 0 b off hM hlt hr
  ·rename_i f u rr;cases hb:Nat.beq u.cells (P.cellsOf e)<;>rw[hb] at h2<;>simp only[bq_true,bq_false] at h2
   ·cases h2
   ·rw[acZ] at hb;obtain⟨⟨k,off,n⟩,h3,h2'⟩:=ZAF.1 h2;have:rr= .inr (some (k,off,n)):=by
     unfold refO at h3;split at h3
     ·rw[h3]
     ·cases h3
    subst this
    ·obtain⟨q,h4,h5⟩:=ZAF.1 h2';simp only at h4 h5;obtain⟨q1,q2,q3⟩:=bAZ h4;rcases ha.v.scal rfl rfl with⟨A,_,rfl,_⟩|⟨g,sz,m,c,hρ,hn,hs,hm,hv⟩
     ·omega
     ·simp only[ZAq,ZBi] at hv;subst hv;refine .mk' (aIZ z.w hu q1 q2 q3 hb.symm (by rw[hb];exact hm0)) ?_ h5;have:=ARep.rp (z:=z) f u.cells k (off+q) 0 g sz m hρ;rw[ZAo,ZB3] at this;exact this
  ·cases h2
 ·cases h2
theorem eeZ{css:List (List Value)}{c:Nat}(hl:∀u∈css,u.length=c):∀(q:Nat) u,css[q]? =some u->(css.flatten.drop (q*c)).take c=u:=by
 induction css with
 |nil=>intro q u h;simp at h
 |cons w css ih=>
  intro q u h;have hw:=hl w (by simp)
  match q with
  |0=>
   simp at h;subst h;rw[ZBa,ZBr,ZBM,ZBG (by omega),ZAu (by omega)]
  |q+1=>
   rw[ZBM,ZBY,Nat.add_comm,List.drop_append,hw,ZA9 (by omega),ZBA,ZAz];exact ih (fun u hu=>hl u (by simp[hu])) q u (by simpa using h)
theorem Cl.nth{w:World}{M:Nat->Prop}{ρ:Rho}{n:Nat}{u:Ty}{l:List u.den}{cs:List Value}(h:Cl w M ρ (.arr n u) l cs){q:Nat}{y:u.den}(hy:l[q]? =some y):Cl w M ρ u y ((cs.drop (q*u.cells)).take u.cells):=by
 obtain⟨hn,css,h1,rfl,h2⟩:=h;have hq:q<css.length:=by
  have:=(ZAC.1 hy).1;have hn':l.length=n:=hn;omega
 have hl:∀u'∈css,u'.length=u.cells:=fun u' hu=>by
  obtain⟨k,hk⟩:=ZAe hu;obtain⟨e,he⟩:=aJZ (l:=l) (h1.trans hn.symm) hk;exact(h2 k e u' he hk).len
 rw[eeZ hl q _ (ZAD hq)];exact h2 q y _ hy (ZAD hq)
theorem lYZ{t:TypeId}{a ix:AV}{K:AV->Option β}{r:β}{v vi:Value}(h:evIndex P t a ix K=some r)(ha:ARep z a v)(hi:ARep z ix vi):
 OkP P (Instr.index t v vi) z K r:=by
 unfold evIndex at h;obtain⟨x,h1,h2⟩:=agZ.1 h;obtain⟨k,rfl⟩:=bfZ h1 hi;split at h2
 ·rename_i hu;obtain⟨l,h3,h4⟩:=agZ.1 h2;obtain⟨q,h5,h6⟩:=ZAF.1 h4;obtain⟨c,h7,h8⟩:=ZAF.1 h6;obtain rfl:=diZ h3 ha;obtain⟨q1,q2,q3⟩:=bAZ h5;have hget:(⟨⟨l⟩⟩:ByteArray)[x.toNat]? =some c:=by
   rw[q3];have:q<(⟨⟨l⟩⟩:ByteArray).size:=(ZAC.1 h7).1;rw[getElem?_pos (⟨⟨l⟩⟩:ByteArray) q this];congr 1;exact ZAk ((ZAD (l:=l) (i:=q) this).symm.trans h7)
  exact .mk' (by simp[Instr.index,Sem.run_bind,asIntOf,run_underlying hu,q1,hget]) (.mkI _ _) h8
 ·rename_i n e hu;obtain⟨u,h3,h4⟩:=agZ.1 h2;obtain⟨t1,t2,t3,t4⟩:=cmZ h3;obtain⟨l,h5,h6⟩:=bxZ h4 ha;obtain⟨q,h7,h8⟩:=ZAF.1 h6;obtain⟨y,h9,h10⟩:=ZAF.1 h8;obtain⟨q1,q2,q3⟩:=bAZ h7;obtain⟨cs,c1,c2⟩:=h5;simp only[Ty.isAgg,ZAK] at c2;subst c2;have hc:=Cl.nth (l:=l) c1 h9;have hs:=a0Z (P:=P) (t:=e) z.w t1.symm (by omega);have hrun:(Instr.index t (.agg cs.toArray) (.int k x)).run P z.w=(part e cs.toArray (q*u.cells)).run P z.w:=by
   simp[Instr.index,Sem.run_bind,asIntOf,run_underlying hu,q1,q2,hs,q3]
  have hl:=hc.len;cases hagg:u.isAgg
  ·have hcells:u.cells=1:=by cases u<;>first|rfl|(simp[Ty.isAgg] at hagg;done)
   match hvs:(cs.drop (q*u.cells)).take u.cells,hl with
   |[],hl=>rw[hcells] at hl;simp at hl
   |_::_::_,hl=>rw[hcells] at hl;simp at hl
   |[v],_=>
    rw[hvs] at hc;have hv:cs.toArray[q*u.cells]? =some v:=by
     have:((cs.drop (q*u.cells)).take u.cells)[0]? =some v:=by rw[hvs];rfl
     rw[ZBN (by omega),ZAw] at this;simpa using this
    exact .mk' (by rw[hrun];exact aQZ z.w (t4 hagg) hv) (b8Z (.mkSc hc hagg)) h10
  ·refine .mk' (by rw[hrun];exact aZZ z.w (t3 hagg) t1.symm (by omega)) (b8Z ⟨_,hc,?_⟩) h10;rw[hagg];simp only[ZAK];congr 1;apply ZBg;rw[ZBV,ZBe,ZAz]
 ·cases h2
def Bnd(a:Option AV)(v:Option Value)(d m k:Nat):Prop:=(a=none/\v=none/\k=d)\/∃kk n,v=some (.int kk n)/\0<=n/\n<=m/\n.toNat=k
def ORep(z:Z)(a:Option AV)(v:Option Value):Prop:=(a=none/\v=none)\/∃x u,a=some x/\v=some u/\ARep z x u
theorem bUZ{a:Option AV}{v:Option Value}{d m:Nat}{K:Nat->Option β}{r:β}(h:optI a d m K=some r)(ha:ORep z a v):∃k,Bnd a v d m k/\K k=some r:=by
 unfold optI at h;rcases ha with⟨rfl,rfl⟩|⟨x,u,rfl,rfl,hx⟩
 ·exact⟨d,.inl ⟨rfl,rfl,rfl⟩,h⟩
 ·obtain⟨n,h1,h2⟩:=agZ.1 h;obtain⟨k,h3,h4⟩:=ZAF.1 h2;obtain⟨kk,rfl⟩:=bfZ h1 hx;obtain⟨q1,q2,q3⟩:=bIZ h3;exact⟨k,.inr ⟨kk,n,rfl,q1,q2,q3⟩,h4⟩
theorem Bnd.le{a:Option AV}{v:Option Value}{d m k:Nat}(h:Bnd a v d m k)(hd:d<=m):k<=m:=by
 rcases h with⟨_,_,rfl⟩|⟨kk,n,_,h1,h2,h3⟩
 ·exact hd
 ·omega
theorem aVZ{isSlice:Bool}{len cap h b:Nat}{lo hi:Option AV}{vlo vhi:Option Value}(w:World)(hc:len<=cap)(hh:Bnd hi vhi len len h)(hb:Bnd lo vlo 0 h b):
 (Instr.sliceBounds isSlice len cap vlo vhi none).run P w= .ok (b,h,cap) w:=by
 have sb:∀(kk:IntKind) (n:Int) (y:Nat) (code:BoundsCode),0<=n->n<=y->(Instr.sliceBound (.int kk n) y code).run P w= .ok n.toNat w:=fun kk n y code h0 h1=>by
  simp[Instr.sliceBound,Sem.run_bind,asIntOf,h0,h1]
 rcases hh with⟨_,rfl,rfl⟩|⟨kk,n,rfl,h1,h2,h3⟩
 ·rcases hb with⟨_,rfl,rfl⟩|⟨kk',n',rfl,p1,p2,p3⟩
  ·simp[Instr.sliceBounds,Sem.run_bind]
  ·simp[Instr.sliceBounds,Sem.run_bind,sb kk' n' _ _ p1 p2,p3]
 ·rcases hb with⟨_,rfl,rfl⟩|⟨kk',n',rfl,p1,p2,p3⟩
  ·simp[Instr.sliceBounds,Sem.run_bind,sb kk n cap _ h1 (by omega),h3]
  ·simp[Instr.sliceBounds,Sem.run_bind,sb kk n cap _ h1 (by omega),h3,sb kk' n' _ _ p1 p2,p3]
theorem ayZ{t e:TypeId}{A:Option Addr}{len cap h b m:Nat}{lo hi:Option AV}{vlo vhi:Option Value}(w:World)(hu:P.underlying t=some (.slice e))(hm:P.cellsOf e=m)(hm0:m≠0)
 (hc:len<=cap)(hh:Bnd hi vhi len len h)(hb:Bnd lo vlo 0 h b):
 (Instr.sliceAt t (.slice A len cap) vlo vhi none).run P w= .ok (.slice (if cap=b then A else A.map (·.add (b*m))) (h-b) (cap-b)) w:=by
 have hs:=a0Z (P:=P) w hm hm0;simp[Instr.sliceAt,Instr.slice,Sem.run_bind,run_underlying hu,aVZ w hc hh hb,hs]
theorem bBZ{t e:TypeId}{g o n h b m:Nat}{lo hi:Option AV}{vlo vhi:Option Value}(w:World)(hu:P.underlying t=some (.array n e))(hm:P.cellsOf e=m)(hm0:m≠0)
 (hh:Bnd hi vhi n n h)(hb:Bnd lo vlo 0 h b):
 (Instr.sliceAt t (.pointer (some ⟨g,o,none⟩)) vlo vhi none).run P w= .ok (.slice (some (if n=b then⟨g,o,none⟩ else⟨g,o+b*m,none⟩)) (h-b) (n-b)) w:=by
 have hs:=a0Z (P:=P) w hm hm0;simp[Instr.sliceAt,Sem.run_bind,run_underlying hu,aVZ w (ZAM n) hh hb,hs,Instr.sureAddr,Addr.add_mid]
theorem jMZ{es id off c g sz m h b:Nat}(hρ:z.ρ id= .real g sz m)(hbh:b<=h)(hc:h<=c)(hs:(off+c)*es<=sz)(hm:c<=maxLen):
 ARep z (.sl es id (off+b) (h-b)) (.slice (if c=b then some ⟨g,off*es,none⟩ else(some ⟨g,off*es,none⟩:Option Addr).map (·.add (b*es))) (h-b) (c-b)):=by
 by_cases hcb:c=b
 ·rw[ZAT hcb];rw[show h-b=0 from by omega,show c-b=0 from by omega];exact .slE _ _ _ _ _ _ _ hρ
 ·rw[ZAQ hcb];simp only[ZBk,Addr.add_mid];rw[<-Nat.add_mul];exact .sl _ _ _ _ _ _ _ _ hρ (by omega) (by rw[show off+b+(c-b)=off+c from by omega];exact hs) (by omega)
theorem jDZ{α:Type}{l:List α}{lo hi:Option AV}{vlo vhi:Option Value}{K:List α->Option β}{r:β}(h:cutL l lo hi K=some r)(hlo:ORep z lo vlo)(hhi:ORep z hi vhi):
 ∃b h' l',Bnd hi vhi l.length l.length h'/\Bnd lo vlo 0 h' b/\l'=(l.take h').drop b/\h'<=l.length/\b<=h'/\K l'=some r:=by
 unfold cutL at h;rcases hlo with⟨rfl,rfl⟩|⟨x,u,rfl,rfl,hx⟩
 ·rcases hhi with⟨rfl,rfl⟩|⟨y,w,rfl,rfl,hy⟩
  ·exact⟨0,l.length,l,.inl ⟨rfl,rfl,rfl⟩,.inl ⟨rfl,rfl,rfl⟩,by simp,ZAM _,ZBS _,h⟩
  ·obtain⟨n,h1,h2⟩:=agZ.1 h;obtain⟨k,h3,h4⟩:=ZAF.1 h2;obtain⟨kk,rfl⟩:=bfZ h1 hy;obtain⟨q1,q2,q3⟩:=bIZ h3;exact⟨0,k,_,.inr ⟨kk,n,rfl,q1,q2,q3⟩,.inl ⟨rfl,rfl,rfl⟩,by simp,by omega,ZBS _,h4⟩
 ·rcases hhi with⟨rfl,rfl⟩|⟨y,w,rfl,rfl,hy⟩
  ·obtain⟨n,h1,h2⟩:=agZ.1 h;obtain⟨k,h3,h4⟩:=ZAF.1 h2;obtain⟨kk,rfl⟩:=bfZ h1 hx;obtain⟨q1,q2,q3⟩:=bIZ h3;exact⟨k,l.length,_,.inl ⟨rfl,rfl,rfl⟩,.inr ⟨kk,n,rfl,q1,q2,q3⟩,by simp,ZAM _,by omega,h4⟩
  ·obtain⟨n,h1,h2⟩:=agZ.1 h;obtain⟨k,h3,h4⟩:=ZAF.1 h2;obtain⟨n',h5,h6⟩:=agZ.1 h4;obtain⟨k',h7,h8⟩:=ZAF.1 h6;obtain⟨kk,rfl⟩:=bfZ h1 hy;obtain⟨q1,q2,q3⟩:=bIZ h3;obtain⟨kk',rfl⟩:=bfZ h5 hx;obtain⟨p1,p2,p3⟩:=bIZ h7;exact⟨k',k,_,.inr ⟨kk,n,rfl,q1,q2,q3⟩,.inr ⟨kk',n',rfl,p1,p2,p3⟩,rfl,by omega,by omega,h8⟩
theorem ksZ{u:Ty}{l:List u.den}{A:Option Addr}{c b h:Nat}(hc:l.length<=c)(hm:c<=maxLen)(hn:A=none->c=0)
 (hA:l.length≠0->∃b off,A=some ⟨b,off,none⟩/\¬z.M b/\b<z.w.heap.size/\RowAt z.w z.M z.ρ b off u l)(hh:h<=l.length)(hb:b<=h):
 ARep z (.p (.sl u) ((l.take h).drop b)) (.slice (if c=b then A else A.map (·.add (b*u.cells))) (h-b) (c-b)):=by
 have hlen:((l.take h).drop b).length=h-b:=by rw[ZAv,ZAS];omega
 have:VRep z.w z.M z.ρ (.sl u) ((l.take h).drop b) (.slice (if c=b then A else A.map (·.add (b*u.cells))) ((l.take h).drop b).length (c-b)):=by
  refine .mkSc ⟨_,_,rfl,by rw[hlen];omega,by omega,fun h0=> ?_,fun h0=> ?_⟩ rfl
  ·split at h0
   ·omega
   ·cases A with
    |none=>rw[hn rfl];simp
    |some a=>simp at h0
  ·have h0':h-b≠0:=by rwa [hlen] at h0
   obtain⟨b0,off,rfl,h1,h2,h3⟩:=hA (by omega);refine⟨b0,off+b*u.cells,?_,h1,h2,?_⟩
   ·rw[ZAQ (by omega)];simp[Addr.add_mid]
   ·have:=h3.sub b (h-b);rwa [<-List.drop_take] at this
 rw[hlen] at this;exact .p _ _ _ this
theorem lyZ{t:TypeId}{a:AV}{lo hi:Option AV}{K:AV->Option β}{r:β}{v:Value}{vlo vhi:Option Value}(h:evSlice P t a lo hi H K=some r)(hH:HRep z H)(ha:ARep z a v)
 (hlo:ORep z lo vlo)(hhi:ORep z hi vhi):OkP P (Instr.sliceAt t v vlo vhi none) z K r:=by
 unfold evSlice at h;split at h
 ·rename_i hu;obtain⟨l,h1,h2⟩:=agZ.1 h;obtain rfl:=diZ h1 ha;obtain⟨b,h',l',q1,q2,rfl,q3,q4,q5⟩:=jDZ h2 hlo hhi;refine .mk' ?_ (.mkS _) q5;have hsz:(⟨⟨l⟩⟩:ByteArray).size=l.length:=rfl;simp only[Instr.sliceAt,Instr.slice,Sem.run_bind,run_underlying hu,Result.andThen_ok];simp only[Option.isSome_none,ZBP,if_false,hsz];have:=aVZ (P:=P) (isSlice:=false) z.w (ZAM l.length) q1 q2;simp only[Sem.run_bind,Sem.run_pure,Result.andThen_ok,this];congr 2;apply ByteArray.ext;rw[ByteArray.data_extract];apply ZBg;rw[ZBV,ZBe,List.drop_take]
 ·rename_i e hu;split at h
  ·rename_i es id;cases hb:(Nat.beq es (P.cellsOf e)&& !Nat.beq es 0)<;>rw[hb] at h<;>simp only[bq_true,bq_false] at h
   ·cases h
   simp only[ZAB,ZAc,acZ] at hb;obtain⟨he,he0⟩:=hb;have hm0:es≠0:=fun h=>by rw[h] at he0;cases he0
   split at h
   ·obtain⟨_,rfl⟩:(none:Option AV)=none/\vlo=none:=by rcases hlo with h|⟨_,_,h,_⟩<;>first|exact h|cases h
    obtain⟨_,rfl⟩:(none:Option AV)=none/\vhi=none:=by rcases hhi with h|⟨_,_,h,_⟩<;>first|exact h|cases h
    have form:∃A n c,v= .slice A n c/\n<=c:=by
     cases ha with
     |slfV _ _ A hρ=>exact⟨A,0,0,rfl,ZAM _⟩
     |slf _ _ g sz n c hρ hn hs hm=>exact⟨_,n,c,rfl,hn⟩
    obtain⟨A,n,c,rfl,hnc⟩:=form;have hrun:=ayZ (P:=P) (A:=A) (lo:=none) (hi:=none) z.w hu he.symm hm0 hnc (.inl ⟨rfl,rfl,rfl⟩) (.inl ⟨rfl,rfl,rfl⟩);have e1:(if c=0 then A else A.map (·.add (0*es)))=A:=by
     split
     ·rfl
     ·cases A<;>simp[Addr.add]
    rw[e1] at hrun;exact .mk' hrun (by simpa using ha) h
   ·rename_i lo hi _;obtain⟨fz,e',u,l,hg,heu,h3⟩:=cFZ h;obtain⟨h',q1,h4⟩:=bUZ h3 hhi;obtain⟨b,q2,h5⟩:=bUZ h4 hlo;have l1:=q1.le (ZAM _);have l2:=q2.le (ZBS _);obtain⟨A,c,rfl,hc,_,hA,_⟩:=hLZ hH hg ha;refine .mk' (ayZ z.w hu he.symm hm0 hc q1 q2) ?_ h5;rcases hA with hρ|⟨g,sz,n,hρ,rfl,hs,hm⟩
    ·obtain⟨rfl,_⟩:=hH.virt hg hρ;have e0:h'=0:=Nat.le_zero.1 l1;have e1:b=0:=by omega
     subst e0;subst e1;cases ha with
     |slfV _ _ _ _=>exact .slV _ _ _ _ hρ
     |slf _ _ _ _ _ _ h'=>rw[hρ] at h';cases h'
    ·have:=jMZ (z:=z) (off:=0) hρ l2 (by omega:h'<=c) (by rw[ZAj];exact hs) hm;simpa using this
  ·rename_i es id off n;cases hb:(Nat.beq es (P.cellsOf e)&& !Nat.beq es 0)<;>rw[hb] at h<;>simp only[bq_true,bq_false] at h
   ·cases h
   simp only[ZAB,ZAc,acZ] at hb;obtain⟨he,he0⟩:=hb;have hm0:es≠0:=fun h=>by rw[h] at he0;cases he0
   obtain⟨h',q1,h4⟩:=bUZ h hhi;obtain⟨b,q2,h5⟩:=bUZ h4 hlo;have l1:=q1.le (ZAM _);have l2:=q2.le (ZBS _);cases ha with
   |slV _ _ _ A hρ=>
    refine .mk' (ayZ z.w hu he.symm hm0 (ZAM 0) q1 q2) ?_ h5;have e0:h'=0:=by omega
    have e1:b=0:=by omega
    subst e0;subst e1;exact .slV _ _ _ _ hρ
   |slE _ _ _ g sz m o hρ=>
    refine .mk' (ayZ z.w hu he.symm hm0 (ZAM 0) q1 q2) ?_ h5;have e0:h'=0:=by omega
    have e1:b=0:=by omega
    subst e0;subst e1;exact .slE _ _ _ _ _ _ _ hρ
   |sl _ _ _ _ g sz m c hρ hn hs hm=>
    exact .mk' (ayZ z.w hu he.symm hm0 hn q1 q2) (jMZ hρ l2 (by omega) hs hm) h5
  ·rename_i u l;cases hb:(Nat.beq u.cells (P.cellsOf e)&& !Nat.beq u.cells 0)<;>rw[hb] at h<;>simp only[bq_true,bq_false] at h
   ·cases h
   simp only[ZAB,ZAc,acZ] at hb;obtain⟨he,he0⟩:=hb;have hm0:u.cells≠0:=fun h=>by rw[h] at he0;cases he0
   obtain⟨b,h',l',q1,q2,rfl,q3,q4,q5⟩:=jDZ h hlo hhi;obtain⟨A,c,rfl,hc,hm,hn,hA⟩:=VRep.sl (t:=u) ha.v;exact .mk' (ayZ z.w hu he.symm hm0 hc q1 q2) (ksZ hc hm hn hA q3 q4) q5
  ·obtain⟨hm,h3⟩:=aeZ.1 h;simp only[ZAc] at hm;have hm0:P.cellsOf e≠0:=fun h=>by rw[h] at hm;cases hm
   obtain⟨h',q1,h4⟩:=bUZ h3 hhi;obtain⟨b,q2,h5⟩:=bUZ h4 hlo;have l1:=q1.le (ZAM _);have l2:=q2.le (ZBS _);have e0:h'=0:=by omega
   have e1:b=0:=by omega
   subst e0;subst e1;obtain⟨rfl,_⟩:=ha.v.opq;have hrun:=ayZ (P:=P) (A:=none) z.w hu rfl hm0 (ZAM 0) q1 q2;exact .mk' (x:=.p .opq (.slice none 0 0)) (v:=.slice none 0 0) (by simpa using hrun) ha h5
  ·rename_i f u x;cases hb:(Nat.beq u.cells (P.cellsOf e)&& !Nat.beq u.cells 0)<;>rw[hb] at h<;>simp only[bq_true,bq_false] at h
   ·cases h
   simp only[ZAB,ZAc,acZ] at hb;obtain⟨he,he0⟩:=hb;have hm0:u.cells≠0:=fun h=>by rw[h] at he0;cases he0
   obtain⟨h',q1,h4⟩:=bUZ h hhi;obtain⟨b,q2,h5⟩:=bUZ h4 hlo;have l1:=q1.le (ZAM _);have l2:=q2.le (ZBS _);have hx:=ha.v.scal rfl rfl;have empty:∀A c,c<=maxLen->(A=none->c=0)->ARep z (.p (.ref f u) (.inl [])) (.slice A 0 c):=fun A c h1 h2=>
    .p _ _ _ (.mkSc ⟨A,c,rfl,ZBS _,h1,h2,fun h=>absurd rfl h⟩ rfl)
   rcases x with l|(_|⟨k,off,n⟩)
   ·have hv:VRep z.w z.M z.ρ (.sl u) l v:=.mkSc hx rfl;obtain⟨A,c,rfl,hc,hm,hn,hA⟩:=VRep.sl (t:=u) hv;refine .mk' (ayZ z.w hu he.symm hm0 hc q1 q2) ?_ h5;have hcut:=(ksZ (z:=z) hc hm hn hA l1 l2).v.scal rfl rfl;rw[show refSub (α:=u.den) (.inl l) b (h'-b)= .inl ((l.take h').drop b) from by unfold refSub;rw[show b+(h'-b)=h' from by omega]];exact .p _ _ _ (.mkSc hcut rfl)
   ·have hx:[v]=[.slice none 0 0]:=hx;simp only[ZAq,ZBi] at hx;subst hx;have l1:h'<=0:=l1;obtain rfl:h'=0:=by omega
    obtain rfl:b=0:=by omega
    have hrun:=ayZ (P:=P) (A:=none) z.w hu he.symm hm0 (ZAM 0) q1 q2;refine .mk' (v:=.slice none 0 0) (by simpa using hrun) ?_ h5;exact .p _ _ _ (.mkSc rfl rfl)
   ·have l1:h'<=n:=l1;have q1:Bnd hi vhi n n h':=q1;rcases hx with⟨A,hρ,rfl,hx⟩|⟨g,sz,m,c,hρ,hnc,hs,hm,hx⟩
    ·simp only[ZAq,ZBi] at hx;subst hx;obtain rfl:h'=0:=by omega
     obtain rfl:b=0:=by omega
     have hrun:=ayZ (P:=P) (A:=A) z.w hu he.symm hm0 (ZAM 0) q1 q2;refine .mk' hrun ?_ h5;exact empty _ _ (ZBS _) fun _=>rfl
    ·simp only[ZAq,ZBi] at hx;subst hx;refine .mk' (ayZ z.w hu he.symm hm0 hnc q1 q2) ?_ h5;by_cases h0:h'-b=0
     ·rw[show refSub (α:=u.den) (.inr (some (k,off,n))) b (h'-b)= .inl [] from by unfold refSub;rw[h0];rfl,h0];refine empty _ _ (by omega) fun hA=> ?_;split at hA
      ·cases hA
      ·cases hA
     ·rw[show refSub (α:=u.den) (.inr (some (k,off,n))) b (h'-b)= .inr (some (k,off+b,h'-b)) from by
       unfold refSub;have:Nat.beq (h'-b) 0=false:=by
        cases hh:Nat.beq (h'-b) 0 with
        |false=>rfl
        |true=>rw[acZ] at hh;exact absurd hh h0
       rw[this];rfl,ZAQ (by omega)]
      refine .p _ _ _ (.mkSc (.inr ⟨g,sz,m,c-b,hρ,by omega,?_,by omega,?_⟩) rfl)
      ·have:off+b+(c-b)=off+c:=by omega
       rw[this];exact hs
      ·simp[Addr.add_mid,ZAo]
  ·cases h
 ·rename_i n e hu;split at h
  ·rename_i es id;cases hb:(Nat.beq es (P.cellsOf e)&& !Nat.beq es 0)<;>rw[hb] at h<;>simp only[bq_true,bq_false] at h
   ·cases h
   simp only[ZAB,ZAc,acZ] at hb;obtain⟨he,he0⟩:=hb;have hm0:es≠0:=fun h=>by rw[h] at he0;cases he0
   obtain⟨fz,e',u,l,hg,heu,h3⟩:=cFZ h;obtain⟨h4,h5⟩:=aeZ.1 h3;simp only[ZAB,acZ,ZAm] at h4;obtain⟨hroom,h4⟩:=h4;cases ha with|own _ _ _ _ g sz m hρ=>
   obtain⟨_,_,_,cs,fr,a1,a2,a3,a4,a5,a6,a7⟩:=hH.real hg hρ;have hml:n<=maxLen:=by unfold room at hroom;unfold maxLen;omega
   split at h5
   ·obtain⟨_,rfl⟩:(none:Option AV)=none/\vlo=none:=by rcases hlo with h|⟨_,_,h,_⟩<;>first|exact h|cases h
    obtain⟨_,rfl⟩:(none:Option AV)=none/\vhi=none:=by rcases hhi with h|⟨_,_,h,_⟩<;>first|exact h|cases h
    have hrun:=bBZ (P:=P) (g:=g) (o:=0*es+0) (lo:=none) (hi:=none) z.w hu he.symm hm0 (.inl ⟨rfl,rfl,rfl⟩) (.inl ⟨rfl,rfl,rfl⟩);refine .mk' hrun ?_ h5;have:(if n=0 then(⟨g,0*es+0,none⟩:Addr) else⟨g,0*es+0+0*es,none⟩)=⟨g,0,none⟩:=by split<;>simp
    rw[this];have a4':n=m:=h4.trans a4;subst a4';exact .slf _ _ _ _ _ _ hρ (by omega) (by rw[heu,Nat.sub_zero,h4];exact a5) (by omega)
   ·obtain⟨h',q1,h6⟩:=bUZ h5 hhi;obtain⟨b,q2,h7⟩:=bUZ h6 hlo;have l1:=q1.le (ZAM _);have l2:=q2.le (ZBS _);refine .mk' (bBZ z.w hu he.symm hm0 q1 q2) ?_ h7;have:=jMZ (z:=z) (es:=es) (off:=0) (c:=n) hρ l2 l1 (by rw[ZAj,heu,h4];exact a5) hml;simp only[ZBa,ZAj,ZB3] at this⊢;split at this
    ·rename_i hnb;rw[ZAT hnb];exact this
    ·rename_i hnb;rw[ZAQ hnb];simpa[Addr.add_mid] using this
  ·rename_i u l;cases hb:(Nat.beq u.cells (P.cellsOf e)&& !Nat.beq u.cells 0&&Nat.ble n room&&Nat.beq n l.length)<;>rw[hb] at h<;>simp only[bq_true,bq_false] at h
   ·cases h
   simp only[ZAB,ZAc,acZ,ZAm] at hb;obtain⟨⟨⟨he,he0⟩,hroom⟩,hn⟩:=hb;have hm0:u.cells≠0:=fun h=>by rw[h] at he0;cases he0
   cases ha with|pt _ _ _ _ b0 off hM hlt hr=>
   obtain⟨b,h',l',q1,q2,rfl,q3,q4,q5⟩:=jDZ h hlo hhi;rw[<-hn] at q1;refine .mk' (bBZ z.w hu he.symm hm0 q1 q2) ?_ q5;have:=ksZ (z:=z) (u:=u) (l:=l) (A:=some ⟨b0,off,none⟩) (c:=n) (by omega) (by unfold room at hroom;unfold maxLen;omega) (fun h=>by cases h) (fun _=>⟨b0,off,rfl,hM,hlt,hr⟩) q3 q4;simp only[ZBa,ZB3] at this⊢;split at this
   ·rename_i hnb;rw[ZAT hnb];exact this
   ·rename_i hnb;rw[ZAQ hnb];simpa[Addr.add_mid] using this
  ·cases h
 ·cases h
theorem c5Z{t e:TypeId}{A:Option Addr}{len cap h b m y:Nat}{lo:Option AV}{vlo vhi vmx:Option Value}{kx ky:IntKind}{nx ny:Int}(w:World)(hu:P.underlying t=some (.slice e))(hm:P.cellsOf e=m)(hm0:m≠0)
 (hmx:vmx=some (.int ky ny))(hy0:0<=ny)(hy1:ny<=cap)(hy:ny.toNat=y)(hhi:vhi=some (.int kx nx))(hx0:0<=nx)(hx1:nx<=y)(hx:nx.toNat=h)(hb:Bnd lo vlo 0 h b):
 (Instr.sliceAt t (.slice A len cap) vlo vhi vmx).run P w= .ok (.slice (if y=b then A else A.map (·.add (b*m))) (h-b) (y-b)) w:=by
 have sb:∀(kk:IntKind) (n:Int) (y:Nat) (code:BoundsCode),0<=n->n<=y->(Instr.sliceBound (.int kk n) y code).run P w= .ok n.toNat w:=fun kk n y code h0 h1=>by
  simp[Instr.sliceBound,Sem.run_bind,asIntOf,h0,h1]
 have hs:=a0Z (P:=P) w hm hm0;subst hmx hhi;have hbd:(Instr.sliceBounds true len cap vlo (some (.int kx nx)) (some (.int ky ny))).run P w= .ok (b,h,y) w:=by
  rcases hb with⟨_,rfl,rfl⟩|⟨kk',n',rfl,p1,p2,p3⟩
  ·simp[Instr.sliceBounds,Sem.run_bind,sb ky ny cap _ hy0 hy1,hy,sb kx nx y _ hx0 hx1,hx]
  ·simp[Instr.sliceBounds,Sem.run_bind,sb ky ny cap _ hy0 hy1,hy,sb kx nx y _ hx0 hx1,hx,sb kk' n' _ _ p1 p2,p3]
 simp[Instr.sliceAt,Instr.slice,Sem.run_bind,run_underlying hu,hbd,hs]
theorem jkZ{t:TypeId}{a hi mx:AV}{lo:Option AV}{K:AV->Option β}{r:β}{v vhi vmx:Value}{vlo:Option Value}(h:evSlice3 P t a lo hi mx K=some r)(ha:ARep z a v)
 (hlo:ORep z lo vlo)(hhi:ARep z hi vhi)(hmx:ARep z mx vmx):OkP P (Instr.sliceAt t v vlo (some vhi) (some vmx)) z K r:=by
 unfold evSlice3 at h;split at h
 ·rename_i e hu;split at h
  ·rename_i u l;cases hb:(Nat.beq u.cells (P.cellsOf e)&& !Nat.beq u.cells 0)<;>rw[hb] at h<;>simp only[bq_true,bq_false] at h
   ·cases h
   simp only[ZAB,ZAc,acZ] at hb;obtain⟨he,he0⟩:=hb;have hm0:u.cells≠0:=fun h=>by rw[h] at he0;cases he0
   obtain⟨y,h1,h2⟩:=agZ.1 h;obtain⟨m,h3,h4⟩:=ZAF.1 h2;obtain⟨ky,rfl⟩:=bfZ h1 hmx;obtain⟨q1,q2,q3⟩:=bIZ h3;obtain⟨x,h5,h6⟩:=agZ.1 h4;obtain⟨h',h7,h8⟩:=ZAF.1 h6;obtain⟨kx,rfl⟩:=bfZ h5 hhi;obtain⟨p1,p2,p3⟩:=bIZ h7;obtain⟨A,c,rfl,hc,hm,hn,hA⟩:=VRep.sl (t:=u) ha.v;have hml:m<=List.length (α:=u.den) l:=by omega
   have hhm:h'<=m:=by omega
   have htl:(List.take (α:=u.den) m l).length=m:=by rw[ZAS];omega
   have cut:∀b,b<=h'->ARep z (.p (.sl u) (((List.take (α:=u.den) m l).take h').drop b)) (.slice (if m=b then A else A.map (·.add (b*u.cells))) (h'-b) (m-b)):=fun b hbh=>by
    have:=ksZ (z:=z) (u:=u) (l:=List.take (α:=u.den) m l) (A:=A) (c:=m) (by rw[htl];exact ZAM _) (by omega) (fun h0=>by have:=hn h0;omega) (fun h0=>by
     rw[htl] at h0;obtain⟨b0,off,e1,e2,e3,e4⟩:=hA (by omega);exact⟨b0,off,e1,e2,e3,fun i e he'=>e4 i e (by rw[ZAn] at he';split at he'<;>first|exact he'|cases he')⟩) (by rw[htl];exact hhm) hbh
    exact this
   have ett:((List.take (α:=u.den) m l).take h')=List.take (α:=u.den) h' l:=by rw[List.take_take,ZA8 hhm]
   rcases hlo with⟨rfl,rfl⟩|⟨xl,vl,rfl,rfl,hxl⟩
   ·refine .mk' (c5Z (lo:=none) (b:=0) z.w hu he.symm hm0 rfl q1 (by omega) q3 rfl p1 (by omega) p3 (.inl ⟨rfl,rfl,rfl⟩)) ?_ h8;have:=cut 0 (ZBS _);rw[ett,ZBr] at this;exact this
   ·simp only at h8;obtain⟨n,g1,g2⟩:=agZ.1 h8;obtain⟨b,g3,g4⟩:=ZAF.1 g2;obtain⟨kl,rfl⟩:=bfZ g1 hxl;obtain⟨r1,r2,r3⟩:=bIZ g3;refine .mk' (c5Z (lo:=some xl) (b:=b) z.w hu he.symm hm0 rfl q1 (by omega) q3 rfl p1 (by omega) p3 (.inr ⟨kl,n,rfl,r1,r2,r3⟩)) ?_ g4;have:=cut b (by omega);rw[ett] at this;exact this
  ·cases h
 ·cases h
end
end Go.Ab
namespace Go.Ab
section
variable {P : Program} {β : Type} {z : Z} {H : Hp}
def RowsRep(z:Z)(u:Ty)(m:List u.den)(v:Value):Prop:=
 (∃h:u= .byte,v= .string ⟨⟨Ty.toL h m⟩⟩)\/
 ∃A c,v= .slice A m.length c/\m.length<=c/\c<=maxLen/\(m.length≠0->∃b off,A=some ⟨b,off,none⟩/\b<z.w.heap.size/\RowAt z.w z.M z.ρ b off u m)
theorem fzZ{u:Ty}{a:AV}{K:List u.den->Option β}{r:β}{v:Value}(h:rowsOf H u a K=some r)(hH:HRep z H)(ha:ARep z a v):∃m,RowsRep z u m v/\K m=some r:=by
 have e0:∀(A:Option Addr),RowsRep z u [] (.slice A 0 0):=fun A=>.inr ⟨A,0,rfl,ZAM _,by unfold maxLen;omega,fun h=>absurd rfl h⟩;unfold rowsOf at h;split at h
 ·rename_i t x;rcases aFZ h with⟨ht,h⟩|h
  ·subst ht;obtain⟨A,c,rfl,hc,hm,hn,hA⟩:=VRep.sl (t:=u) ha.v;exact⟨x,.inr ⟨A,c,rfl,hc,hm,fun h0=>by obtain⟨b,off,e,_,h2,h3⟩:=hA h0;exact⟨b,off,e,h2,h3⟩⟩,h⟩
  ·rcases aFZ h with⟨ht,h⟩|h
   ·rcases aFZ h with⟨hu,h⟩|h
    ·subst ht;obtain rfl:u= .byte:=by injection hu with hu;exact hu.symm
     obtain rfl:=ha.v.str;exact⟨x,.inl ⟨rfl,rfl⟩,h⟩
    ·cases h
   ·obtain⟨l,h1,h2⟩:=agZ.1 h;obtain⟨A,c,rfl,hc,hm,hn,hA⟩:=VRep.sl (t:=u) (jVZ h1 ha.v);exact⟨l,.inr ⟨A,c,rfl,hc,hm,fun h0=>by obtain⟨b,off,e,_,h2,h3⟩:=hA h0;exact⟨b,off,e,h2,h3⟩⟩,h2⟩
 ·rename_i es id;split at h
  ·rename_i fz e t l hg;rcases aFZ h with⟨ht,h⟩|h
   ·subst ht;cases hb:Nat.beq es t.cells<;>rw[hb] at h<;>simp only[bq_true,bq_false] at h
    ·cases h
    ·obtain⟨A,c,rfl,hc,_,hA,hml⟩:=hLZ hH hg ha;refine⟨l,.inr ⟨A,c,rfl,hc,hml,fun h0=> ?_⟩,h⟩
     ·rcases hA with hρ|⟨g,sz,n,hρ,rfl,hs,hm⟩
      ·obtain⟨rfl,_⟩:=hH.virt hg hρ;exact absurd rfl h0
      ·exact⟨g,0,rfl,(hH.real hg hρ).1,(hH.real hg hρ).2.2.2.rowAt⟩
   ·cases h
  ·cases h
 ·rename_i es id off n;split at h
  ·rename_i fz e t l hg;rcases aFZ h with⟨ht,h5⟩|h
   ·subst ht;clear h;cases hb:(Nat.beq es t.cells&&Nat.ble (off+n) l.length)<;>rw[hb] at h5<;>simp only[bq_true,bq_false] at h5
    ·cases h5
    ·simp only[ZAB,acZ,ZAm] at hb;obtain⟨rfl,hb⟩:=hb;have hlen:((l.drop off).take n).length=n:=by rw[ZAS,ZAv];omega
     have key:RowsRep z t ((l.drop off).take n) v:=by
      refine .inr ?_;rw[hlen];cases ha with
      |slV _ _ _ A hρ=>exact⟨A,0,rfl,ZAM _,by unfold maxLen;omega,fun h=>absurd rfl h⟩
      |slE _ _ _ g sz m o hρ=>exact⟨_,0,rfl,ZAM _,by unfold maxLen;omega,fun h=>absurd rfl h⟩
      |sl _ _ _ _ g sz m c hρ hn hs hm=>
       refine⟨_,c,rfl,hn,hm,fun _=>⟨g,off*t.cells,rfl,(hH.real hg hρ).1,?_⟩⟩;have:=(hH.real hg hρ).2.2.2.rowAt.sub off n;rwa [ZAj] at this
     exact⟨_,key,h5⟩
   ·cases h
  ·cases h
 ·cases h
theorem luZ(l:List UInt8):∀(s:ByteArray),((l.map fun c=>(c.toNat:Int)).foldl (fun r n=>r.push (UInt8.ofNat n.toNat)) s).data.toList=s.data.toList++l:=by
 induction l with
 |nil=>intro s;simp
 |cons c l ih=>
  intro s;simp only[ZB6,List.foldl_cons];rw[ih];simp
theorem RowAt.bytes{w:World}{M:Nat->Prop}{ρ:Rho}{b off:Nat}{l:List UInt8}(h:RowAt w M ρ b off .byte l):w.rangeAt b off (l.map fun c=>Value.int .u8 (c.toNat:Int)):=fun j v hj=>by
 rw[ZAW] at hj;obtain⟨c,h1,rfl⟩:=ZAH.1 hj;obtain⟨u,h2,h3⟩:=h j c h1;simp only[Cl] at h2;subst h2;have:=h3 0 _ rfl;simpa[Ty.cells] using this
theorem jcZ{A:Option Addr}{l:List UInt8}{c:Nat}(hA:l.length≠0->∃b off,A=some ⟨b,off,none⟩/\b<z.w.heap.size/\RowAt z.w z.M z.ρ b off .byte l):
 (Conv.bytesToString (.slice A l.length c)).run P z.w= .ok (.string ⟨⟨l⟩⟩) z.w:=by
 cases A with
 |none=>
  have:l=[]:=by
   rcases ZBj l.length with h|h
   ·exact ZAR h
   ·obtain⟨_,_,h1,_⟩:=hA (by omega);cases h1
  subst this;simp[Conv.bytesToString]
  rfl
 |some a=>
  have hl:(loadCells a l.length).run P z.w= .ok ((l.map fun c=>(c.toNat:Int)).map (Value.int .u8)).toArray z.w:=by
   have:=run_loadCells_list (P:=P) z.w a (l.map fun c=>Value.int .u8 (c.toNat:Int)) (fun j v hj=>by
    have hj':j<l.length:=by
     have:=(ZAC.1 hj).1;simpa using this
    obtain⟨b,off,h1,_,h3⟩:=hA (by omega);injection h1 with h1;subst h1;rw[Addr.add_mid];exact h3.bytes j v hj)
   simpa[Function.comp_def] using this
  rw[run_bytesToString z.w a l.length c _ hl];congr 2;apply ByteArray.ext;apply ZBg;rw[luZ]
  rfl
theorem qtZ{e:TypeId}(h:isB P e=true):P.underlying e=some (.int .u8):=by
 unfold isB at h;split at h
 ·assumption
 ·cases h
theorem ewZ{src dst:TypeId}{a:AV}{K:AV->Option β}{r:β}{v:Value}(h:evConvert P src dst a H K=some r)(hH:HRep z H)(ha:ARep z a v):OkP P (convert src dst v) z K r:=by
 unfold evConvert at h;split at h
 ·rename_i ks k hs hd;obtain⟨n,h1,h2⟩:=agZ.1 h;obtain rfl:=ddZ h1 ha;exact .mk' (by simp[convert,Sem.run_bind,run_underlying hs,run_underlying hd,Conv.intToInt]) (.mkI _ _) h2
 ·rename_i hs hd;obtain⟨l,h1,h2⟩:=agZ.1 h;obtain rfl:=diZ h1 ha;exact .mk' (by simp[convert,Sem.run_bind,run_underlying hs,run_underlying hd]) (.mkS _) h2
 ·rename_i e hs hd;cases hb:isB P e<;>rw[hb] at h<;>simp only[bq_true,bq_false] at h
  ·cases h
  ·obtain⟨m,h1,h2⟩:=fzZ h hH ha;rcases h1 with⟨hh,rfl⟩|⟨A,c,rfl,q1,q2,q3⟩
   ·have:Ty.toL hh m=m:=rfl;rw[this];exact .mk' (by simp[convert,Sem.run_bind,run_underlying hs,run_underlying hd]) (.mkS _) h2
   ·refine .mk' ?_ (.mkS _) h2;have:=jcZ (P:=P) (z:=z) (c:=c) q3;cases A<;>simp[convert,Sem.run_bind,run_underlying hs,run_underlying hd,run_underlying (qtZ hb),this]
 ·cases h
 ·cases h
theorem pkZ{op:BinOp}{k k':IntKind}{x y:Int}{t:TypeId}{K:AV->Option β}{r:β}(h:evInt op k x y K=some r)(hk:sameK op k k'=true):
 OkP P (binOp op t (.int k x) (.int k' y)) z K r:=by
 cases op<;>simp only[evInt] at h<;>simp only[sameK,ZBf] at hk
 case quo=>
  obtain⟨h1,h2⟩:=aeZ.1 h;simp only[ZAc,ZA6] at h1;subst hk;exact .mk' (by simp[binOp,Op.intDiv,h1]) (.mkI _ _) h2
 case rem=>
  obtain⟨h1,h2⟩:=aeZ.1 h;simp only[ZAc,ZA6] at h1;subst hk;exact .mk' (by simp[binOp,Op.intDiv,h1]) (.mkI _ _) h2
 case shl=>
  obtain⟨h1,h2⟩:=aeZ.1 h;simp only[ZAd] at h1;exact .mk' (by simp[binOp,Op.shift,show¬y<0 from by omega]) (.mkI _ _) h2
 case shr=>
  obtain⟨h1,h2⟩:=aeZ.1 h;simp only[ZAd] at h1;exact .mk' (by simp[binOp,Op.shift,show¬y<0 from by omega]) (.mkI _ _) h2
 case add=>subst hk;exact .mk' (by simp[binOp,Op.intArith]) (.mkI _ _) h
 case sub=>subst hk;exact .mk' (by simp[binOp,Op.intArith]) (.mkI _ _) h
 case mul=>subst hk;exact .mk' (by simp[binOp,Op.intArith]) (.mkI _ _) h
 case and=>subst hk;exact .mk' (by simp[binOp,Op.intBits,bitsI]) (.mkI _ _) h
 case or=>subst hk;exact .mk' (by simp[binOp,Op.intBits,bitsI]) (.mkI _ _) h
 case xor=>subst hk;exact .mk' (by simp[binOp,Op.intBits,bitsI]) (.mkI _ _) h
 case andNot=>subst hk;exact .mk' (by simp[binOp,Op.intBits,bitsI]) (.mkI _ _) h
 case eql=>subst hk;exact .mk' (by simp[binOp,Op.intCmp]) (.mkB _) h
 case neq=>subst hk;exact .mk' (by simp[binOp,Op.intCmp,bne]) (.mkB _) h
 case lss=>subst hk;exact .mk' (by simp[binOp,Op.intCmp]) (.mkB _) h
 case leq=>subst hk;exact .mk' (by simp[binOp,Op.intCmp]) (.mkB _) h
 case gtr=>subst hk;exact .mk' (by simp[binOp,Op.intCmp]) (.mkB _) h
 case geq=>subst hk;exact .mk' (by simp[binOp,Op.intCmp]) (.mkB _) h
theorem bJZ(l:List UInt8):(⟨⟨l⟩⟩:ByteArray).toList=l:=by rw[ByteArray.toList_eq]
theorem iGZ(l m:List UInt8):(⟨⟨l⟩⟩:ByteArray)++(⟨⟨m⟩⟩:ByteArray)=⟨⟨l++m⟩⟩:=by
 apply ByteArray.ext;rw[ByteArray.data_append];simp
theorem pbZ{op:BinOp}{x y:List UInt8}{t:TypeId}{K:AV->Option β}{r:β}(h:evStr op x y K=some r):OkP P (binOp op t (.string ⟨⟨x⟩⟩) (.string ⟨⟨y⟩⟩)) z K r:=by
 cases op<;>simp only[evStr] at h<;>first|(cases h;done)|skip
 case add=>
  obtain⟨h1,h2⟩:=aeZ.1 h;rw[ZAm] at h1;refine .mk' ?_ (.mkS _) h2;have:¬(((⟨⟨x⟩⟩:ByteArray).size+(⟨⟨y⟩⟩:ByteArray).size:Nat):Int)>IntKind.i64.max:=by
   show¬((x.length+y.length:Nat):Int)>_;have:IntKind.i64.max=9223372036854775807:=by decide
   unfold room at h1;omega
  simp only[binOp,Op.stringOp];rw[ZAQ this,iGZ]
  rfl
 all_goals exact .mk' (by simp only[binOp,Op.stringOp,bJZ];rfl) (.mkB _) h
theorem q9Z{f:TypeId->Ty->Bool}{d:Nat}(w:World){M:Nat->Prop}{ρ:Rho}
 (hf:∀t u,f t u=true->∀(x y:u.den) (vx vy:Value),VRep w M ρ u x vx->VRep w M ρ u y vy->(Op.equalIn d t vx vy).run P w= .ok (u.eqb x y) w)
 (hagg:∀t u,f t u=true->0<u.cells/\(u.isAgg=true->isAggT P t=true)/\(u.isAgg=false->isScal P t=true)):
 ∀(fs:List Field) (o:Nat) (u:Ty),eqFs P f fs o u=true->∀(x y:u.den) (xs ys:Array Value),Cl w M ρ u x ((xs.toList.drop o).take u.cells)->Cl w M ρ u y ((ys.toList.drop o).take u.cells)->
  (Op.eqFields d xs ys fs).run P w= .ok (u.eqb x y) w:=by
 have part1:∀(x:Field) (o:Nat) (u:Ty),(x.name != "_" &&Nat.beq x.offset o&&Nat.beq (P.cellsOf x.type) u.cells&&f x.type u)=true->∀(a:u.den) (xs:Array Value),Cl w M ρ u a ((xs.toList.drop o).take u.cells)->
  x.name≠ "_" /\∃v,(part x.type xs x.offset).run P w= .ok v w/\VRep w M ρ u a v:=by
  intro x o u h a xs hc;simp only[ZAB,bne_iff_ne,ne_eq,acZ] at h;obtain⟨⟨⟨h1,rfl⟩,h3⟩,h4⟩:=h;obtain⟨g1,g2,g3⟩:=hagg _ _ h4;refine⟨h1,?_⟩;have hl:=hc.len;cases hg:u.isAgg
  ·have hcells:u.cells=1:=by cases u<;>first|rfl|(simp[Ty.isAgg] at hg;done)
   match hvs:(xs.toList.drop x.offset).take u.cells,hl with
   |[],hl=>rw[hcells] at hl;simp at hl
   |_::_::_,hl=>rw[hcells] at hl;simp at hl
   |[v],_=>
    rw[hvs] at hc;have hv:xs[x.offset]? =some v:=by
     have:((xs.toList.drop x.offset).take u.cells)[0]? =some v:=by rw[hvs];rfl
     rw[hcells] at this;simpa using this
    exact⟨v,aQZ w (g3 hg) hv,.mkSc hc hg⟩
  ·refine⟨_,aZZ w (g2 hg) h3 (by omega),⟨_,hc,?_⟩⟩;rw[hg];simp only[ZAK];congr 1;apply ZBg;rw[ZBV,ZBe,ZAz]
 intro fs;induction fs with
 |nil=>intro o u h;simp[eqFs] at h
 |cons x fs ih=>
  intro o u h a b xs ys ha hb
  match fs,u,h with
  |[],u,h=>
   have h':(x.name != "_" &&Nat.beq x.offset o&&Nat.beq (P.cellsOf x.type) u.cells&&f x.type u)=true:=by
    cases u<;>simpa only[eqFs] using h
   obtain⟨h1,v1,q1,q2⟩:=part1 x o u h' a xs ha;obtain⟨_,v2,p1,p2⟩:=part1 x o u h' b ys hb;have hfx:f x.type u=true:=by
    simp only[ZAB] at h';exact h'.2
   have:=hf _ _ hfx a b v1 v2 q2 p2;simp only[Op.eqFields,h1,ne_eq,not_false_eq_true,ZCH,Sem.run_bind,q1,p1,this,Result.andThen_ok];cases u.eqb a b<;>simp
  |y::fs,.pair s t,h=>
   simp only[eqFs] at h;have h':(x.name != "_" &&Nat.beq x.offset o&&Nat.beq (P.cellsOf x.type) s.cells&&f x.type s)=true/\eqFs P f (y::fs) (o+s.cells) t=true:=by
    simp only[ZAB] at h⊢;exact h
   obtain⟨h',h''⟩:=h';obtain⟨u1,u2,e1,c1,c2⟩:=ha;obtain⟨w1,w2,e2,d1,d2⟩:=hb;have cut:∀(l v1 v2:List Value),(l.drop o).take (Ty.pair s t).cells=v1++v2->v1.length=s.cells->v2.length=t.cells->(l.drop o).take s.cells=v1/\(l.drop (o+s.cells)).take t.cells=v2:=by
    intro l v1 v2 e l1 l2;simp only[Ty.cells] at e;constructor
    ·rw[show(l.drop o).take s.cells=((l.drop o).take (s.cells+t.cells)).take s.cells from by rw[List.take_take,ZA8 (by omega)],e,ZBG (by omega),ZAu (by omega)]
    ·rw[show(l.drop (o+s.cells)).take t.cells=((l.drop o).take (s.cells+t.cells)).drop s.cells from by rw[List.drop_take,List.drop_drop,ZAz],e,ZBT (by omega),ZA9 (by omega),ZBA]
   obtain⟨ea1,ea2⟩:=cut _ _ _ e1 c1.len c2.len;obtain⟨eb1,eb2⟩:=cut _ _ _ e2 d1.len d2.len;obtain⟨h1,v1,q1,q2⟩:=part1 x o s h' a.1 xs (by rw[ea1];exact c1);obtain⟨_,v2,p1,p2⟩:=part1 x o s h' b.1 ys (by rw[eb1];exact d1);have hfx:f x.type s=true:=by
    simp only[ZAB] at h';exact h'.2
   have:=hf _ _ hfx a.1 b.1 v1 v2 q2 p2;have hr:=ih (o+s.cells) t h'' a.2 b.2 xs ys (by rw[ea2];exact c2) (by rw[eb2];exact d2);rw[Op.eqFields];simp only[h1,ne_eq,not_false_eq_true,ZCH,Sem.run_bind,q1,p1,this,Result.andThen_ok];simp only[Ty.eqb];cases s.eqb a.1 b.1
   ·simp
   ·simp only[ZAP,ZBP,if_false,ZA4];exact hr
  |_::_,.one _,h|_::_,.int _,h|_::_,.byte,h|_::_,.bool,h|_::_,.str,h|_::_,.opq,h|_::_,.nat,h|_::_,.ptr _,h|_::_,.sl _,h|_::_,.ref _ _,h|_::_,.arr _ _,h=>simp[eqFs] at h
end
end Go.Ab
namespace Go.Ab
section
variable {P : Program} {β : Type} {z : Z} {H : Hp}
theorem dEZ{t:TypeId}{u:Ty}(h:formOk P t u=true):0<u.cells/\(u.isAgg=true->isAggT P t=true)/\(u.isAgg=false->isScal P t=true):=by
 unfold formOk at h;simp only[ZAB,ZAc] at h;obtain⟨h1,h2⟩:=h;refine⟨?_,fun h=>by rw[h] at h2;exact h2,fun h=>by rw[h] at h2;exact h2⟩;rcases ZBj u.cells with h|h
 ·rw[h] at h1;cases h1
 ·exact h
theorem dZZ{w:World}{M:Nat->Prop}{ρ:Rho}{u:Ty}{x:u.den}{cs:List Value}(h:Cl w M ρ u x cs):Cl w M ρ u x ((cs.drop 0).take u.cells):=by
 rw[ZBr,ZAu (by rw[h.len];exact ZAM _)];exact h
theorem dIZ{α:Type}{l:List α}{i:Nat}{x:α}(h:l[i]? =some x):l.drop i=x::l.drop (i+1):=by
 have hi:=(ZAC.1 h).1;rw[List.drop_eq_getElem_cons hi];congr 1;exact(ZAC.1 h).2
theorem k0Z(w:World){M:Nat->Prop}{ρ:Rho}:∀(n:Nat) (t:TypeId) (u:Ty),eqT P n t u=true->∀(d:Nat),n<=d->∀(x y:u.den) (vx vy:Value),VRep w M ρ u x vx->VRep w M ρ u y vy->
 (Op.equalIn d t vx vy).run P w= .ok (u.eqb x y) w
 |0,_,_,h,_,_,_,_,_,_,_,_=>by simp[eqT] at h
 |n+1,t,u,h,d,hd,x,y,vx,vy,hx,hy=>by
  obtain⟨d,rfl⟩:∃d',d=d'+1:=⟨d-1,by omega⟩;have hd':n<=d:=by omega
  have struct:∀(fs:Array Field) (v:Ty) (x y:v.den) (cx cy:List Value),P.underlying t=some (.struct fs)->(!P.stoodInHeld t&&eqFs P (fun t u=>formOk P t u&&eqT P n t u) fs.toList 0 v)=true->Cl w M ρ v x cx->Cl w M ρ v y cy->
   (Op.equalIn (d+1) t (.agg cx.toArray) (.agg cy.toArray)).run P w= .ok (v.eqb x y) w:=by
   intro fs v x y cx cy hu hc h1 h2;simp only[ZAB,ZAc] at hc;have hfs:P.fieldsOf t=fs:=by simp[Program.fieldsOf,hu]
   rw[run_equalIn_struct w d t _ _ (by rw[hfs];exact hu) hc.1,hfs];refine q9Z w (M:=M) (ρ:=ρ) (fun t u hf x y vx vy hx hy=> ?_) (fun t u hf=> ?_) _ 0 v hc.2 x y _ _ ?_ ?_
   ·simp only[ZAB] at hf;exact k0Z w n t u hf.2 d hd' x y vx vy hx hy
   ·simp only[ZAB] at hf;exact dEZ hf.1
   ·exact dZZ h1
   ·exact dZZ h2
  simp only[eqT] at h;split at h
  ·rename_i k k' hu;simp only[ZAd] at h;obtain rfl:=hx.int;obtain rfl:=hy.int;exact run_equalIn_int w d t k' k x y hu
  ·rename_i k hu;simp only[ZAd] at h;have e1:=hx.scal rfl rfl;have e2:=hy.scal rfl rfl;simp only[Cl,ZAq,ZBi] at e1 e2;subst e1;subst e2;rw[run_equalIn_int w d t .u8 k _ _ hu];congr 1;show(((x:UInt8).toNat:Int)==((y:UInt8).toNat:Int))=((x:UInt8)==y);rw[Bool.eq_iff_iff];simp only[ZBf];constructor
   ·intro h;exact UInt8.toNat_inj.1 (by omega)
   ·intro h;rw[h]
  ·rename_i hu;obtain rfl:=hx.bool;obtain rfl:=hy.bool;exact run_equalIn_bool w d t x y hu
  ·rename_i hu;obtain rfl:=hx.str;obtain rfl:=hy.str;rw[run_equalIn_string w d t _ _ hu,bJZ,bJZ]
   rfl
  ·rename_i fs v hu;obtain⟨cx,h1,rfl⟩:=hx;obtain⟨cy,h2,rfl⟩:=hy;exact struct fs v x y cx cy hu h h1 h2
  ·rename_i fs a b hu;obtain⟨cx,h1,rfl⟩:=hx;obtain⟨cy,h2,rfl⟩:=hy;exact struct fs (.pair a b) x y cx cy hu h h1 h2
  ·rename_i m e m' v hu;simp only[ZAB,acZ] at h;obtain⟨⟨⟨rfl,hc⟩,hf⟩,he⟩:=h;obtain⟨cx,h1,rfl⟩:=hx;obtain⟨cy,h2,rfl⟩:=hy;obtain⟨f1,f2,f3⟩:=dEZ hf;have hi:=bkZ hc (by omega);cases hq:P.info? e with
   |none=>simp[hq] at hi
   |some i=>
    rw[show(bif (Ty.arr m v).isAgg then Value.agg cx.toArray else cx.headD undef)= .agg cx.toArray from rfl,show(bif (Ty.arr m v).isAgg then Value.agg cy.toArray else cy.headD undef)= .agg cy.toArray from rfl,
     run_equalIn_array w d _ _ hu hq,hc]
    have hlx:List.length (α:=v.den) x=m:=h1.1;have hly:List.length (α:=v.den) y=m:=h2.1;have pt:∀(cs:List Value) (l:List v.den) (q:Nat) (a:v.den),Cl w M ρ (.arr m v) l cs->l[q]? =some a->∃va,(part e cs.toArray (q*v.cells)).run P w= .ok va w/\VRep w M ρ v a va:=by
     intro cs l q a hcs ha;have hc':=Cl.nth (l:=l) hcs ha;have hl:=hc'.len;cases hagg:v.isAgg
     ·have hcells:v.cells=1:=by cases v<;>first|rfl|(simp[Ty.isAgg] at hagg;done)
      match hvs:(cs.drop (q*v.cells)).take v.cells,hl with
      |[],hl=>rw[hcells] at hl;simp at hl
      |_::_::_,hl=>rw[hcells] at hl;simp at hl
      |[u],_=>
       rw[hvs] at hc';have hv:cs.toArray[q*v.cells]? =some u:=by
        have:((cs.drop (q*v.cells)).take v.cells)[0]? =some u:=by rw[hvs];rfl
        rw[ZBN (by omega),ZAw] at this;simpa using this
       exact⟨u,aQZ w (f3 hagg) hv,.mkSc hc' hagg⟩
     ·refine⟨_,aZZ w (f2 hagg) hc (by omega),⟨_,hc',?_⟩⟩;rw[hagg];simp only[ZAK];congr 1;apply ZBg;rw[ZBV,ZBe,ZAz]
    have key:∀(k i:Nat),i+k=m->(Op.eqItems d e v.cells cx.toArray cy.toArray (List.range' i k)).run P w= .ok (listEqb v.eqb (List.drop (α:=v.den) i x) (List.drop (α:=v.den) i y)) w:=by
     intro k;induction k with
     |zero=>
      intro i hi;rw[ZA9 (by omega),ZA9 (by omega)];simp[Op.eqItems,listEqb]
     |succ k ih=>
      intro i hi;have hxi:(show List v.den from x)[i]? =some ((show List v.den from x)[i]'(by rw[hlx];omega)):=ZAD _;have hyi:(show List v.den from y)[i]? =some ((show List v.den from y)[i]'(by rw[hly];omega)):=ZAD _;generalize (show List v.den from x)[i]'(by rw[hlx];omega)=xi at hxi;generalize (show List v.den from y)[i]'(by rw[hly];omega)=yi at hyi;obtain⟨va,q1,q2⟩:=pt cx x i xi h1 hxi;obtain⟨vb,p1,p2⟩:=pt cy y i yi h2 hyi;have heq:=k0Z w n e v he d hd' xi yi va vb q2 p2;rw[dIZ hxi,dIZ hyi,List.range'_succ];simp only[Op.eqItems,Sem.run_bind,q1,p1,heq,Result.andThen_ok,listEqb];cases v.eqb xi yi
      ·simp
      ·simp only[ZAP,ZBP,if_false,ZA4];exact ih (i+1) (by omega)
    have:=key m 0 (by omega);rw[<-List.range_eq_range'] at this;exact this
  ·cases h
theorem hNZ{op:BinOp}{t:TypeId}{x y:Operand}{a b:Value}(w:World)(h1:a≠.nilIface)(h2:(∃xs,a= .agg xs)->P.eqGuardType P.depth t=false):
 (eqGuard op t x y a b).run P w= .ok () w:=by
 cases a with
 |nilIface=>exact absurd rfl h1
 |agg xs=>
  cases b with
  |agg ys=>exact run_eqGuard_agg w op t x y xs ys (h2 ⟨xs,rfl⟩)
  |_=>cases op<;>rfl
 |_=>cases op<;>rfl
theorem hGZ{a:AV}{K:Nat->Option β}{r:β}{v:Value}(h:lenS H a K=some r)(hH:HRep z H)(ha:ARep z a v):∃A n c,v= .slice A n c/\n<=c/\c<=maxLen/\(A=none->n=0)/\K n=some r:=by
 unfold lenS at h;split at h
 ·cases ha with
  |slV _ _ _ A hρ=>exact⟨A,0,0,rfl,ZAM _,by unfold maxLen;omega,fun _=>rfl,h⟩
  |slE=>exact⟨_,0,0,rfl,ZAM _,by unfold maxLen;omega,fun _=>rfl,h⟩
  |sl _ _ _ _ g sz m c hρ hn hs hm=>exact⟨_,_,c,rfl,hn,hm,(fun h=>by cases h),h⟩
 ·split at h
  ·rename_i n hvl;obtain⟨_,g,sz,c,hρ,rfl,h1,h2⟩:=gBZ hvl hH ha;exact⟨_,_,c,rfl,h1,h2,(fun h=>by cases h),h⟩
  obtain⟨fz,e,u,l,hg,he,h3⟩:=cFZ h;obtain⟨A,c,rfl,hc,hA,_,hm⟩:=hLZ hH hg ha;refine⟨A,_,c,rfl,hc,hm,fun h0=> ?_,h3⟩;rcases ZBj l.length with h|h
  ·exact h
  ·obtain⟨g,sz,n,_,h1,_⟩:=hA (by omega);rw[h0] at h1;cases h1
 ·rename_i u l;obtain⟨A,c,rfl,hc,hm,hn,hA⟩:=VRep.sl (t:=u) ha.v;exact⟨A,_,c,rfl,hc,hm,fun h0=>by have:=hn h0;omega,h⟩
 ·obtain⟨rfl,_⟩:=ha.v.opq;exact⟨none,0,0,rfl,ZAM _,by unfold maxLen;omega,fun _=>rfl,h⟩
 ·rename_i f u x;have hc:=ha.v.scal rfl rfl
  match x,h,hc with
  |.inl l,h,hc=>
   obtain⟨A,c,h1,h2,h3,h4,_⟩:=hc;simp only[ZAq,ZBi] at h1;subst h1;exact⟨A,_,c,rfl,h2,h3,fun h0=>by have:=h4 h0;omega,h⟩
  |.inr none,h,hc=>
   have hc:[v]=[Value.slice none 0 0]:=hc;simp only[ZAq,ZBi] at hc;subst hc;exact⟨none,0,0,rfl,ZAM _,by unfold maxLen;omega,fun _=>rfl,h⟩
  |.inr (some (k,off,n)),h,hc=>
   rcases hc with⟨A,_,rfl,h1⟩|⟨g,sz,m,c,_,h2,_,h3,h1⟩
   ·simp only[ZAq,ZBi] at h1;subst h1;exact⟨A,0,0,rfl,ZAM _,by unfold maxLen;omega,fun _=>rfl,h⟩
   ·simp only[ZAq,ZBi] at h1;subst h1;exact⟨_,n,c,rfl,h2,h3,(fun h=>by cases h),h⟩
 ·cases h
theorem mgZ{a b:AV}{q:Bool}{va vb:Value}(h:eqNilP a b=some q)(ha:ARep z a va)(hb:ARep z b vb):
 ∃p p',va= .pointer p/\vb= .pointer p'/\(p=none\/p'=none)/\q=(p.isNone&&p'.isNone):=by
 unfold eqNilP at h;split at h<;>first|(cases h;done)|skip
 all_goals simp only[ZAI] at h
 all_goals subst h
 ·obtain⟨rfl,_⟩:=ha.v.opq;obtain⟨rfl,_⟩:=hb.v.opq;exact⟨none,none,rfl,rfl,.inl rfl,rfl⟩
 ·obtain⟨rfl,_⟩:=hb.v.opq;cases ha;exact⟨_,none,rfl,rfl,.inr rfl,rfl⟩
 ·obtain⟨rfl,_⟩:=ha.v.opq;cases hb;exact⟨none,_,rfl,rfl,.inl rfl,rfl⟩
 ·obtain⟨rfl,_⟩:=hb.v.opq;cases ha;exact⟨_,none,rfl,rfl,.inr rfl,rfl⟩
 ·obtain⟨rfl,_⟩:=ha.v.opq;cases hb;exact⟨none,_,rfl,rfl,.inl rfl,rfl⟩
 ·rename_i t l;obtain⟨rfl,_⟩:=hb.v.opq;have hl:List t.den:=l;rcases ha.v.scal rfl rfl with⟨h1,h2⟩|⟨h1,b,off,h2,_⟩
  ·obtain rfl:=List.cons.inj h2|>.1;refine⟨none,none,rfl,rfl,.inl rfl,?_⟩;rw[List.length_eq_zero_iff.1 h1];rfl
  ·obtain rfl:=List.cons.inj h2|>.1;refine⟨_,none,rfl,rfl,.inr rfl,?_⟩;revert h1;cases(show List t.den from l) with
   |nil=>intro h1;exact absurd rfl h1
   |cons x r=>intro _;rfl
theorem noZ{a b:AV}{q:Bool}{va vb:Value}(h:eqNilM a b=some q)(ha:ARep z a va)(hb:ARep z b vb):
 ∃p p',va= .map p/\vb= .map p'/\(p=none\/p'=none)/\q=(p.isNone&&p'.isNone):=by
 unfold eqNilM at h;split at h<;>first|(cases h;done)|skip
 all_goals simp only[ZAI] at h
 all_goals subst h
 ·obtain⟨rfl,_⟩:=hb.v.opq;cases ha;exact⟨_,none,rfl,rfl,.inr rfl,rfl⟩
 ·obtain⟨rfl,_⟩:=ha.v.opq;cases hb;exact⟨none,_,rfl,rfl,.inl rfl,rfl⟩
 ·obtain⟨rfl,_⟩:=ha.v.opq;obtain⟨rfl,_⟩:=hb.v.opq;exact⟨none,none,rfl,rfl,.inl rfl,rfl⟩
theorem mrZ{a b:AV}{q:Bool}{va vb:Value}(h:eqNilF a b=some q)(ha:ARep z a va)(hb:ARep z b vb):
 (va= .nilFunc/\vb= .nilFunc/\q=true)\/(∃f x y,va= .func f x y/\vb= .nilFunc/\q=false)\/(∃f x y,va= .nilFunc/\vb= .func f x y/\q=false):=by
 unfold eqNilF at h;split at h<;>first|(cases h;done)|skip
 all_goals simp only[ZAI] at h
 all_goals subst h
 ·obtain⟨rfl,_⟩:=ha.v.opq;obtain⟨rfl,_⟩:=hb.v.opq;exact .inl ⟨rfl,rfl,rfl⟩
 ·obtain⟨rfl,_⟩:=hb.v.opq;cases ha;exact .inr (.inl ⟨_,_,_,rfl,rfl,rfl⟩)
 ·obtain⟨rfl,_⟩:=ha.v.opq;cases hb;exact .inr (.inr ⟨_,_,_,rfl,rfl,rfl⟩)
theorem mLZ{n:Nat}{K:Bool->Option β}{r:β}{A:Option Addr}(h:nilQ n K=some r)(hA:A=none->n=0):K A.isNone=some r:=by
 unfold nilQ at h;split at h
 ·rename_i hq;cases A with
  |none=>rw[<-hq (hA rfl)] at h;exact h
  |some a=>exact h
 ·cases h
def ByEqual(P:Program)(t:TypeId)(va vb:Value):Prop:=
 va≠.nilIface/\((∃xs,va= .agg xs)->P.eqGuardType P.depth t=false)/\binOp .eql t va vb=(do pure (.bool (<-Op.equal t va vb)))/\binOp .neq t va vb=(do pure (.bool (!(<-Op.equal t va vb))))
theorem cSZ{t:TypeId}{x y:Value}{w:World}{q:Bool}(h:∀d,(Op.equalIn (d+1) t x y).run P w= .ok q w):(Op.equal t x y).run P w= .ok q w:=h 9999
theorem nqZ{t:TypeId}{a b:AV}{K:Bool->Option β}{r:β}{va vb:Value}(h:evEq P t a b H K=some r)(hH:HRep z H)(ha:ARep z a va)(hb:ARep z b vb)
 (hni:∀k,P.underlying t≠some (.int k))(hns:P.underlying t≠some .string):
 ∃q,(Op.equal t va vb).run P z.w= .ok q z.w/\K q=some r/\ByEqual P t va vb:=by
 unfold evEq at h;split at h
 ·rename_i e hu;obtain⟨q,h1,h2⟩:=agZ.1 h;obtain⟨p,p',rfl,rfl,hn,rfl⟩:=mgZ h1 ha hb;refine⟨_,cSZ fun d=> ?_,h2,by simp,by simp,rfl,rfl⟩;rcases hn with rfl|rfl
  ·cases p'<;>simp[Op.equalIn,Sem.run_bind,run_underlying hu]
  ·cases p<;>simp[Op.equalIn,Sem.run_bind,run_underlying hu]
 ·rename_i k e hu;obtain⟨q,h1,h2⟩:=agZ.1 h;obtain⟨p,p',rfl,rfl,hn,rfl⟩:=noZ h1 ha hb;refine⟨_,cSZ fun d=> ?_,h2,by simp,by simp,rfl,rfl⟩;rcases hn with rfl|rfl
  ·cases p'<;>simp[Op.equalIn,Sem.run_bind,run_underlying hu]
  ·cases p<;>simp[Op.equalIn,Sem.run_bind,run_underlying hu]
 ·rename_i p1 p2 p3 hu;obtain⟨q,h1,h2⟩:=agZ.1 h;rcases mrZ h1 ha hb with⟨rfl,rfl,rfl⟩|⟨f,x,y,rfl,rfl,rfl⟩|⟨f,x,y,rfl,rfl,rfl⟩
  all_goals exact⟨_,cSZ fun d=>by simp[Op.equalIn,Sem.run_bind,run_underlying hu],h2,by simp,by simp,rfl,rfl⟩
 ·rename_i e hu;split at h
  ·obtain⟨rfl,_⟩:=ha.v.opq;obtain⟨rfl,_⟩:=hb.v.opq;exact⟨_,cSZ fun d=>by simp[Op.equalIn,Sem.run_bind,run_underlying hu],h,by simp,by simp,rfl,rfl⟩
  ·obtain⟨rfl,_⟩:=hb.v.opq;obtain⟨A,n,c,rfl,_,_,hA,h2⟩:=hGZ h hH ha;exact⟨_,cSZ fun d=>run_equalIn_slice_nil z.w d t e A n c hu,mLZ h2 hA,by simp,by simp,rfl,rfl⟩
  ·obtain⟨rfl,_⟩:=ha.v.opq;obtain⟨A,n,c,rfl,_,_,hA,h2⟩:=hGZ h hH hb;exact⟨_,cSZ fun d=>by simp[Op.equalIn,Sem.run_bind,run_underlying hu],mLZ h2 hA,by simp,by simp,rfl,rfl⟩
  ·cases h
 ·obtain⟨u,h1,h2⟩:=agZ.1 h;obtain⟨h3,h4⟩:=aeZ.1 h2;simp only[ZAB,ZAc] at h3;obtain⟨x,h5,h6⟩:=bxZ h4 ha;obtain⟨y,h7,h8⟩:=bxZ h6 hb;have hq:(Op.equal t va vb).run P z.w= .ok (u.eqb x y) z.w:=k0Z z.w typesFuel t u h3.1 10000 (by unfold typesFuel;omega) x y va vb h5 h7;have form:(∃xs ys,va= .agg xs/\vb= .agg ys)\/(∃p q,va= .bool p/\vb= .bool q):=by
   have he:=h3.1;unfold typesFuel at he;simp only[eqT] at he;split at he
   ·rename_i hu;exact absurd hu (hni _)
   ·rename_i hu;exact absurd hu (hni _)
   ·exact .inr ⟨x,y,h5.bool,h7.bool⟩
   ·rename_i hu;exact absurd hu hns
   ·obtain⟨c1,_,rfl⟩:=h5;obtain⟨c2,_,rfl⟩:=h7;exact .inl ⟨_,_,rfl,rfl⟩
   ·obtain⟨c1,_,rfl⟩:=h5;obtain⟨c2,_,rfl⟩:=h7;exact .inl ⟨_,_,rfl,rfl⟩
   ·obtain⟨c1,_,rfl⟩:=h5;obtain⟨c2,_,rfl⟩:=h7;exact .inl ⟨_,_,rfl,rfl⟩
   ·cases he
  refine⟨_,hq,h8,?_⟩;rcases form with⟨xs,ys,rfl,rfl⟩|⟨p,q,rfl,rfl⟩
  ·exact⟨by simp,fun _=>h3.2,rfl,rfl⟩
  ·exact⟨by simp,by simp,rfl,rfl⟩
theorem oGZ{op:BinOp}{t u:TypeId}{a b:AV}{K:AV->Option β}{r:β}{va vb:Value}(x y:Operand)(h:evBin P op t u a b H K=some r)(hH:HRep z H)(ha:ARep z a va)(hb:ARep z b vb):
 OkP P (do eqGuard op t x y va vb;binOp op t va vb) z K r:=by
 have triv:∀{s:Sem Value},va≠.nilIface->((∃xs,va= .agg xs)->P.eqGuardType P.depth t=false)->OkP P s z K r->OkP P (do eqGuard op t x y va vb;s) z K r:=fun{s} h1 h2 ⟨q,v,e1,e2,e3⟩=>
  ⟨q,v,by rw[Sem.run_bind,hNZ z.w h1 h2];exact e1,e2,e3⟩
 unfold evBin at h;split at h
 ·rename_i k hu;split at h
  ·rename_i k' hu';obtain⟨m,h1,h2⟩:=agZ.1 h;obtain⟨n,h3,h4⟩:=agZ.1 h2;obtain⟨h5,h6⟩:=aeZ.1 h4;obtain rfl:=ddZ h1 ha;obtain rfl:=ddZ h3 hb;exact triv (by simp) (by simp) (pkZ h6 h5)
  ·cases h
 ·obtain⟨m,h1,h2⟩:=agZ.1 h;obtain⟨n,h3,h4⟩:=agZ.1 h2;obtain rfl:=diZ h1 ha;obtain rfl:=diZ h3 hb;exact triv (by simp) (by simp) (pbZ h4)
 ·rename_i hni hns;split at h
  ·obtain⟨q,h1,h2,h3,h4,h5,h6⟩:=nqZ h hH ha hb (fun k e=>hni k e) (fun e=>hns e);refine triv h3 h4 ⟨_,_,?_,.mkB q,h2⟩;rw[h5];simp[Sem.run_bind,h1]
  ·obtain⟨q,h1,h2,h3,h4,h5,h6⟩:=nqZ h hH ha hb (fun k e=>hni k e) (fun e=>hns e);refine triv h3 h4 ⟨_,_,?_,.mkB (!q),h2⟩;rw[h6];simp[Sem.run_bind,h1]
  ·cases h
theorem qyZ{op:UnOp}{t:TypeId}{a:AV}{K:AV->Option β}{r:β}{va:Value}(h:evUn P op t a K=some r)(ha:ARep z a va):OkP P (Op.unary op va) z K r:=by
 unfold evUn at h;split at h
 ·obtain⟨x,h1,h2⟩:=agZ.1 h;obtain rfl:=b2Z h1 ha;exact .mk' (by simp[Op.unary]) (.mkB _) h2
 ·obtain⟨x,h1,h2⟩:=agZ.1 h;obtain rfl:=ddZ h1 ha;exact .mk' (by simp[Op.unary,Op.intArith]) (.mkI _ _) h2
 ·obtain⟨x,h1,h2⟩:=agZ.1 h;obtain rfl:=ddZ h1 ha;exact .mk' (by simp[Op.unary,Op.intBits,bitsI]) (.mkI _ _) h2
 ·cases h
theorem nzZ{t:TypeId}{c a b:AV}{K:AV->Option β}{r:β}{vc va vb:Value}(h:evPick P t c a b K=some r)(hc:ARep z c vc)(ha:ARep z a va)(hb:ARep z b vb):
 OkP P (do pure (if<-asBool vc then va else vb)) z K r:=by
 unfold evPick at h;obtain⟨q,h1,h2⟩:=agZ.1 h;obtain rfl:=b2Z h1 hc;have run:(do pure (if<-asBool (.bool q) then va else vb):Sem Value).run P z.w= .ok (if q then va else vb) z.w:=by simp[asBool,Sem.run_bind]
 split at h2
 ·split at h2
  ·rename_i x y hx hy;obtain rfl:=b2Z hx ha;obtain rfl:=b2Z hy hb;refine .mk' run ?_ h2;cases q
   ·exact .mkB _
   ·exact .mkB _
  ·rename_i x hx hx2;obtain rfl:=b2Z hx ha;obtain⟨h3,h4⟩:=aeZ.1 h2;subst h3;exact .mk' run (.mkB _) h4
  ·rename_i y hx hy;obtain rfl:=b2Z hy hb;obtain⟨h3,h4⟩:=aeZ.1 h2;simp only[ZAc] at h3;subst h3;exact .mk' run (.mkB _) h4
  ·cases h2
 ·cases q
  ·exact .mk' run hb h2
  ·exact .mk' run ha h2
end
end Go.Ab
namespace Go.Ab
section
variable {P : Program} {β : Type} {z : Z} {H : Hp}
theorem pJZ(v:Value)(h:v.oneCell'=true\/∃cs,v= .tuple cs):ARep z (AV.lit v) v:=by
 unfold AV.lit;split
 ·exact .mkI _ _
 ·exact .mkB _
 ·rename_i s;obtain⟨⟨l⟩⟩:=s;exact .mkS _
 ·exact .junk _
 ·exact .junk _
 ·rename_i h1 h2 h3 h4 h5;refine .p _ _ _ (.mkSc ⟨rfl,?_⟩ rfl);rcases h with h|⟨cs,rfl⟩
  ·exact h
  ·exact absurd rfl (h5 cs)
theorem qCZ(l:List Value)(h:∀v∈l,v.oneCell'=true):AReps z (l.map AV.lit) l:=by
 refine⟨by simp,fun i a v h1 h2=> ?_⟩;rw[ZAW,h2] at h1;simp at h1;subst h1;exact pJZ v (.inl (h v (ZAN h2)))
theorem fkZ{t:TypeId}{l:List AV}(h:zeroOf P t=some l):∃i v,P.info? t=some i/\i.zero=some v/\AReps z l v.cells.toList/\∀u∈v.cells,u.oneCell'=true:=by
 unfold zeroOf at h;obtain⟨i,h1,h2⟩:=agZ.1 h;obtain⟨v,h3,h4⟩:=agZ.1 h2;cases hb:v.cells.toList.all Value.oneCell'<;>rw[hb] at h4<;>simp only[bq_true,bq_false] at h4
 ·cases h4
 ·simp only[ZAI] at h4;subst h4;rw[ZB4] at hb;exact⟨i,v,h1,h3,qCZ _ hb,fun u hu=>hb u (by simpa using hu)⟩
theorem gJZ{t:TypeId}{i:TypeInfo}{v:Value}(h1:P.info? t=some i)(h3:i.zero=some v)(w:World):(zeroValue t).run P w= .ok v w:=by
 simp[zeroValue,typeInfo,Sem.run_bind,h1,h3]
theorem AReps.setFrom{c l:List AV}{vs us:List Value}(h:AReps z c vs)(h':AReps z l us)(j:Nat)(hj:j+l.length<=c.length):AReps z (setFrom c j l) (setFrom vs j us):=by
 refine⟨by rw[crZ,crZ];exact h.1,fun i a v h1 h2=> ?_⟩;rw[cvZ _ _ _ _ hj] at h1;rw[cvZ _ _ _ _ (by rw[<-h'.1,<-h.1];exact hj),<-h'.1] at h2;split at h1
 ·rename_i hc;rw[ZAT hc] at h2;exact h'.2 _ a v h1 h2
 ·rename_i hc;rw[ZAQ hc] at h2;exact h.2 _ a v h1 h2
theorem nHZ(cs:List Value):∀(a:Array Value) (off k:Nat),((cs.zipIdx k).foldl (fun(cs:Array Value) (x:Value×Nat)=>cs.setIfInBounds (off+x.2) x.1) a).toList=Go.Ab.setFrom a.toList (off+k) cs:=by
 induction cs with
 |nil=>intro a off k;rfl
 |cons c cs ih=>
  intro a off k;simp only[List.zipIdx_cons,List.foldl_cons,Go.Ab.setFrom];rw[ih];simp[ZBq]
theorem e8Z{pl:Nat->Option (Nat×Nat)}:∀{parts:List (Nat×AV)} {vparts:List (Nat×Value)} {c c':List AV} {cs:Array Value},fillA pl c parts=some c'->AReps z c cs.toList->(∀u∈cs,u.oneCell'=true)->
 parts.length=vparts.length->(∀(i:Nat) x y,parts[i]? =some x->vparts[i]? =some y->x.1=y.1/\ARep z x.2 y.2)->
 ∃cs',Instr.fill pl cs vparts=some cs'/\AReps z c' cs'.toList/\∀u∈cs',u.oneCell'=true
 |[],[],c,c',cs,h,hc,h1,_,_=>by
  simp[fillA] at h;subst h;exact⟨cs,rfl,hc,h1⟩
 |(i,a)::parts,(i',v)::vparts,c,c',cs,h,hc,h1,hl,hp=>by
  obtain⟨rfl,ha⟩:=hp 0 _ _ rfl rfl;simp only[fillA] at h;obtain⟨⟨off,size⟩,h2,h3⟩:=agZ.1 h;obtain⟨l,h4,h5⟩:=agZ.1 h3;cases hb:(Nat.beq l.length size&&Nat.ble (off+l.length) c.length)<;>rw[hb] at h5<;>simp only[bq_true,bq_false] at h5
  ·cases h5
  ·simp only[ZAB,acZ,ZAm] at hb;obtain⟨hs,hfit⟩:=hb;obtain⟨q1,q2,q3⟩:=caZ h4 ha;have hvs:v.cells.size=l.length:=by have:=q1.1;simpa using this.symm
   have hcs:cs.size=c.length:=by have:=hc.1;simpa using this.symm
   have hset:=hc.setFrom q1 off hfit;have hfold:(v.cells.zipIdx.foldl (fun(cs:Array Value) (x:Value×Nat)=>cs.setIfInBounds (off+x.2) x.1) cs).toList=setFrom cs.toList off v.cells.toList:=by
    rw[<-Array.foldl_toList,Array.toList_zipIdx];exact nHZ _ _ _ _
   obtain⟨cs',p1,p2,p3⟩:=e8Z (cs:=v.cells.zipIdx.foldl (fun(cs:Array Value) (x:Value×Nat)=>cs.setIfInBounds (off+x.2) x.1) cs) (vparts:=vparts) h5 (by rw[hfold];exact hset) (fun u hu=>by
    have hu':u∈setFrom cs.toList off v.cells.toList:=by rw[<-hfold];simpa using hu
    obtain⟨k,hk⟩:=ZAe hu';rw[cvZ _ _ _ _ (by simp;omega)] at hk;split at hk
    ·exact q2 u (by have:=ZAN hk;simpa using this)
    ·exact h1 u (by have:=ZAN hk;simpa using this)) (by simpa using hl) (fun i x y e1 e2=>hp (i+1) x y (by simpa using e1) (by simpa using e2))
   refine⟨cs',?_,p2,p3⟩;simp only[Instr.fill,h2];rw[ZAQ (by simp only[ZAp,ZAd,bne_iff_ne,ne_eq,not_or];omega)];exact p1
 |[],_::_,_,_,_,_,_,_,hl,_=>by simp at hl
 |_::_,[],_,_,_,_,_,_,hl,_=>by simp at hl
def PReps(z:Z)(parts:List (Nat×AV))(vparts:List (Nat×Value)):Prop:=
 parts.length=vparts.length/\∀(i:Nat) x y,parts[i]? =some x->vparts[i]? =some y->x.1=y.1/\ARep z x.2 y.2
theorem lTZ{t:TypeId}{parts:List (Nat×AV)}{vparts:Array (Nat×Value)}{K:AV->Option β}{r:β}(h:evBuild P t parts K=some r)(hp:PReps z parts vparts.toList):
 OkP P (Instr.build t vparts) z K r:=by
 unfold evBuild at h;obtain⟨l,h1,h2⟩:=agZ.1 h;obtain⟨i,v0,q1,q2,q3,q4⟩:=fkZ (z:=z) h1;split at h2
 ·rename_i fs hu;obtain⟨places,h3,h4⟩:=agZ.1 h2;obtain⟨c,h5,h6⟩:=agZ.1 h4;obtain⟨cs',p1,p2,p3⟩:=e8Z h5 q3 q4 hp.1 hp.2;refine .mk' (run_build z.w t vparts cs' ?_) (.agg _ _ ?_ p3 fun i x v e1 e2=>p2.2 i x v e1 (by simpa using e2)) h6
  ·unfold Program.built;simp only[q1,hu,q2,h3];exact p1
  ·have:=p2.1;simpa using this.symm
 ·rename_i m e hu;obtain⟨ie,h3,h4⟩:=agZ.1 h2;obtain⟨c,h5,h6⟩:=agZ.1 h4;obtain⟨cs',p1,p2,p3⟩:=e8Z h5 q3 q4 hp.1 hp.2;refine .mk' (run_build z.w t vparts cs' ?_) (.agg _ _ ?_ p3 fun i x v e1 e2=>p2.2 i x v e1 (by simpa using e2)) h6
  ·unfold Program.built;simp only[q1,hu,q2,h3];exact p1
  ·have:=p2.1;simpa using this.symm
 ·cases h2
theorem pXZ{t:TypeId}{a:AV}{K:Nat->Option β}{r:β}{v:Value}(ty:TypeId)(h:lenT P t H a K=some r)(hH:HRep z H)(ha:ARep z a v):
 ∃n:Nat,(Builtin.len_ #[t] ty #[v]).run P z.w= .ok (.int .i64 (n:Int)) z.w/\K n=some r:=by
 unfold lenT at h;split at h
 ·rename_i hu;obtain⟨l,h1,h2⟩:=agZ.1 h;obtain rfl:=diZ h1 ha;exact⟨l.length,by simp[Builtin.len_,Sem.run_bind,run_underlying hu,goInt];rfl,h2⟩
 ·rename_i e hu;obtain⟨A,n,c,rfl,_,_,_,h2⟩:=hGZ h hH ha;exact⟨n,by simp[Builtin.len_,Sem.run_bind,run_underlying hu,goInt],h2⟩
 ·rename_i k e hu;unfold lenM at h;split at h
  ·obtain⟨rfl,_⟩:=ha.v.opq;exact⟨0,by simp[Builtin.len_,Sem.run_bind,run_underlying hu,goInt],h⟩
  ·rename_i id;split at h
   ·rename_i fz kt vt m hg;cases ha with|mp _ g sz n hρ=>
    obtain⟨_,_,_,es,a1,a2,_⟩:=hH.real hg hρ;refine⟨m.1.length,?_,h⟩;simp[Builtin.len_,Sem.run_bind,run_underlying hu,goInt,getObj,Sem.run,a1,a2]
   ·cases h
  ·cases h
 ·rename_i n e hu;exact⟨n,by simp[Builtin.len_,Sem.run_bind,run_underlying hu,goInt],h⟩
 ·cases h
theorem gKZ{k:IntKind}:∀{l:List AV} {ns:List Int} {vs:List Value},ints? k l=some ns->AReps z l vs->vs=ns.map (Value.int k)
 |[],ns,vs,h,hr=>by
  simp[ints?] at h;subst h;exact ZAR hr.1.symm
 |a::l,ns,vs,h,hr=>by
  simp only[ints?] at h;obtain⟨n,h1,h2⟩:=agZ.1 h;obtain⟨r,h3,rfl⟩:=ZAH.1 h2
  match vs,hr with
  |[],hr=>have:=hr.1;simp at this
  |v::vs,hr=>
   rw[ddZ h1 hr.head,gKZ h3 hr.tail]
   rfl
theorem f9Z{k:IntKind}(w:World):∀(l:List Int) (x:Int),((l.map (Value.int k)).foldlM Builtin.min2 (.int k x)).run P w= .ok (.int k (minI l x)) w
 |[],x=>by simp[minI]
 |y::l,x=>by
  simp only[ZB6,List.foldlM_cons,Sem.run_bind];rw[show(Builtin.min2 (.int k x) (.int k y)).run P w= .ok (.int k (if y<x then y else x)) w from rfl];exact f9Z w l _
theorem eTZ{k:IntKind}(w:World):∀(l:List Int) (x:Int),((l.map (Value.int k)).foldlM Builtin.max2 (.int k x)).run P w= .ok (.int k (maxI l x)) w
 |[],x=>by simp[maxI]
 |y::l,x=>by
  simp only[ZB6,List.foldlM_cons,Sem.run_bind];rw[show(Builtin.max2 (.int k x) (.int k y)).run P w= .ok (.int k (if y>x then y else x)) w from rfl];exact eTZ w l _
theorem pVZ{n:Nat}{K:Int->Option β}{r:β}(h:capQ n K=some r)(c:Nat)(h1:n<=c)(h2:c<=maxLen):K (c:Int)=some r:=by
 unfold capQ at h;split at h
 ·rename_i hc;simp only[ZAI] at h;rw[<-h];exact hc.choose_spec c h1 (by unfold maxLen at h2;omega)
 ·cases h
end
end Go.Ab
namespace Go.Ab
section
variable {P : Program} {β : Type} {z : Z} {H : Hp}
theorem d0Z{w:World}{M:Nat->Prop}{ρ:Rho}{u:Ty}{a:u.den}{t:TypeId}{xs:Array Value}{o:Nat}(hf:0<u.cells/\(u.isAgg=true->isAggT P t=true)/\(u.isAgg=false->isScal P t=true))(hc':P.cellsOf t=u.cells)
 (hc:Cl w M ρ u a ((xs.toList.drop o).take u.cells))(w':World):∃v,(part t xs o).run P w'= .ok v w'/\VRep w M ρ u a v:=by
 obtain⟨g1,g2,g3⟩:=hf;have hl:=hc.len;cases hg:u.isAgg
 ·have hcells:u.cells=1:=by cases u<;>first|rfl|(simp[Ty.isAgg] at hg;done)
  match hvs:(xs.toList.drop o).take u.cells,hl with
  |[],hl=>rw[hcells] at hl;simp at hl
  |_::_::_,hl=>rw[hcells] at hl;simp at hl
  |[v],_=>
   rw[hvs] at hc;have hv:xs[o]? =some v:=by
    have:((xs.toList.drop o).take u.cells)[0]? =some v:=by rw[hvs];rfl
    rw[hcells] at this;simpa using this
   exact⟨v,aQZ w' (g3 hg) hv,.mkSc hc hg⟩
 ·refine⟨_,aZZ w' (g2 hg) hc' (by omega),⟨_,hc,?_⟩⟩;rw[hg];simp only[ZAK];congr 1;apply ZBg;rw[ZBV,ZBe,ZAz]
theorem phZ{s t:Ty}{o:Nat}{l v1 v2:List Value}(e:(l.drop o).take (Ty.pair s t).cells=v1++v2)(l1:v1.length=s.cells)(l2:v2.length=t.cells):
 (l.drop o).take s.cells=v1/\(l.drop (o+s.cells)).take t.cells=v2:=by
 simp only[Ty.cells] at e;constructor
 ·rw[show(l.drop o).take s.cells=((l.drop o).take (s.cells+t.cells)).take s.cells from by rw[List.take_take,ZA8 (by omega)],e,ZBG (by omega),ZAu (by omega)]
 ·rw[show(l.drop (o+s.cells)).take t.cells=((l.drop o).take (s.cells+t.cells)).drop s.cells from by rw[List.drop_take,List.drop_drop,ZAz],e,ZBT (by omega),ZA9 (by omega),ZBA]
theorem pZZ{f:TypeId->Ty->Bool}{d:Nat}{em:Bool}(w:World){M:Nat->Prop}{ρ:Rho}
 (hf:∀t u,f t u=true->∀(x:u.den) (vx:Value),VRep w M ρ u x vx->(Instr.checkKey em d t vx).run P w= .ok () w)
 (hagg:∀t u,f t u=true->0<u.cells/\(u.isAgg=true->isAggT P t=true)/\(u.isAgg=false->isScal P t=true)):
 ∀(fs:List Field) (o:Nat) (u:Ty),eqFs P f fs o u=true->∀(x:u.den) (xs:Array Value),Cl w M ρ u x ((xs.toList.drop o).take u.cells)->
  (forIn (m:=Sem) fs PUnit.unit fun f _=>do
   if f.name≠ "_" then do
    Instr.checkKey em d f.type (<-part f.type xs f.offset)
    pure (ForInStep.yield PUnit.unit)
   else pure (ForInStep.yield PUnit.unit)).run P w= .ok PUnit.unit w:=by
 have one:∀(x:Field) (o:Nat) (u:Ty),(x.name != "_" &&Nat.beq x.offset o&&Nat.beq (P.cellsOf x.type) u.cells&&f x.type u)=true->∀(a:u.den) (xs:Array Value),Cl w M ρ u a ((xs.toList.drop o).take u.cells)->
  x.name≠ "_" /\∃v,(part x.type xs x.offset).run P w= .ok v w/\(Instr.checkKey em d x.type v).run P w= .ok () w:=by
  intro x o u h a xs hc;simp only[ZAB,bne_iff_ne,ne_eq,acZ] at h;obtain⟨⟨⟨h1,rfl⟩,h3⟩,h4⟩:=h;obtain⟨v,q1,q2⟩:=d0Z (hagg _ _ h4) h3 hc w;exact⟨h1,v,q1,hf _ _ h4 a v q2⟩
 intro fs;induction fs with
 |nil=>intro o u h;simp[eqFs] at h
 |cons x fs ih=>
  intro o u h a xs ha
  match fs,u,h with
  |[],u,h=>
   have h':(x.name != "_" &&Nat.beq x.offset o&&Nat.beq (P.cellsOf x.type) u.cells&&f x.type u)=true:=by
    cases u<;>simpa only[eqFs] using h
   obtain⟨h1,v1,q1,q2⟩:=one x o u h' a xs ha;simp[List.forIn_cons,Sem.run_bind,h1,q1,q2]
  |y::fs,.pair s t,h=>
   simp only[eqFs] at h;have h':(x.name != "_" &&Nat.beq x.offset o&&Nat.beq (P.cellsOf x.type) s.cells&&f x.type s)=true/\eqFs P f (y::fs) (o+s.cells) t=true:=by
    simp only[ZAB] at h⊢;exact h
   obtain⟨h',h''⟩:=h';obtain⟨u1,u2,e1,c1,c2⟩:=ha;obtain⟨ea1,ea2⟩:=phZ e1 c1.len c2.len;obtain⟨h1,v1,q1,q2⟩:=one x o s h' a.1 xs (by rw[ea1];exact c1);have hr:=ih (o+s.cells) t h'' a.2 xs (by rw[ea2];exact c2);rw[List.forIn_cons];simp only[h1,ne_eq,not_false_eq_true,ZCH,Sem.run_bind,q1,q2,Result.andThen_ok,Sem.run_pure];exact hr
  |_::_,.one _,h|_::_,.int _,h|_::_,.byte,h|_::_,.bool,h|_::_,.str,h|_::_,.opq,h|_::_,.nat,h|_::_,.ptr _,h|_::_,.sl _,h|_::_,.ref _ _,h|_::_,.arr _ _,h=>simp[eqFs] at h
theorem aUZ(w:World){M:Nat->Prop}{ρ:Rho}{em:Bool}:∀(n:Nat) (t:TypeId) (u:Ty),eqT P n t u=true->∀(d:Nat),n<=d->∀(x:u.den) (vx:Value),VRep w M ρ u x vx->
 (Instr.checkKey em d t vx).run P w= .ok () w
 |0,_,_,h,_,_,_,_,_=>by simp[eqT] at h
 |n+1,t,u,h,d,hd,x,vx,hx=>by
  obtain⟨d,rfl⟩:∃d',d=d'+1:=⟨d-1,by omega⟩;have hd':n<=d:=by omega
  have struct:∀(fs:Array Field) (v:Ty) (x:v.den) (cx:List Value),P.underlying t=some (.struct fs)->(!P.stoodInHeld t&&eqFs P (fun t u=>formOk P t u&&eqT P n t u) fs.toList 0 v)=true->Cl w M ρ v x cx->
   (Instr.checkKey em (d+1) t (.agg cx.toArray)).run P w= .ok () w:=by
   intro fs v x cx hu hc h1;simp only[ZAB,ZAc] at hc;rw[Instr.checkKey];simp only[Sem.run_bind,run_underlying hu,Result.andThen_ok];rw[<-Array.forIn_toList];have:=pZZ (em:=em) (d:=d) w (M:=M) (ρ:=ρ) (f:=fun t u=>formOk P t u&&eqT P n t u) (fun t u hf x vx hx=>by
    simp only[ZAB] at hf;exact aUZ w n t u hf.2 d hd' x vx hx) (fun t u hf=>by
    simp only[ZAB] at hf;exact dEZ hf.1) fs.toList 0 v hc.2 x cx.toArray (dZZ h1)
   simp at this⊢;rw[this]
   rfl
  simp only[eqT] at h;split at h
  ·rename_i k k' hu;obtain rfl:=hx.int;simp[Instr.checkKey,Sem.run_bind,run_underlying hu]
  ·rename_i k hu;simp[Instr.checkKey,Sem.run_bind,run_underlying hu]
  ·rename_i hu;simp[Instr.checkKey,Sem.run_bind,run_underlying hu]
  ·rename_i hu;simp[Instr.checkKey,Sem.run_bind,run_underlying hu]
  ·rename_i fs v hu;obtain⟨cx,h1,rfl⟩:=hx;exact struct fs v x cx hu h h1
  ·rename_i fs a b hu;obtain⟨cx,h1,rfl⟩:=hx;exact struct fs (.pair a b) x cx hu h h1
  ·rename_i m e m' v hu;simp only[ZAB,acZ] at h;obtain⟨⟨⟨rfl,hc⟩,hf⟩,he⟩:=h;obtain⟨cx,h1,rfl⟩:=hx;have hfo:=dEZ hf;have hs:=fun w=>a0Z (P:=P) (t:=e) w hc (by omega);rw[show(bif (Ty.arr m v).isAgg then Value.agg cx.toArray else cx.headD undef)= .agg cx.toArray from rfl,Instr.checkKey];simp only[Sem.run_bind,run_underlying hu,Result.andThen_ok];simp only[Std.Legacy.Range.forIn_eq_forIn_range',Std.Legacy.Range.size,Nat.sub_zero,Nat.add_one_sub_one,Nat.div_one];have hlx:List.length (α:=v.den) x=m:=h1.1;have key:∀(k i:Nat),i+k=m->∀(f:Nat->PUnit->Sem (ForInStep PUnit)),(∀j,j<m->(f j PUnit.unit).run P w= .ok (.yield PUnit.unit) w)->(forIn (m:=Sem) (List.range' i k) PUnit.unit f).run P w= .ok PUnit.unit w:=by
    intro k;induction k with
    |zero=>intro i _ f _;simp
    |succ k ih=>
     intro i hi f hfj;rw[List.range'_succ,List.forIn_cons];simp only[Sem.run_bind,hfj i (by omega),Result.andThen_ok];exact ih (i+1) (by omega) f hfj
   refine(congrArg (fun r=>Result.andThen r _) (key m 0 (by omega) _ fun j hj=> ?_)).trans (by simp);have hxi:(show List v.den from x)[j]? =some ((show List v.den from x)[j]'(by rw[hlx];omega)):=ZAD _;have hc':=Cl.nth (l:=(show List v.den from x)) h1 hxi;obtain⟨va,q1,q2⟩:=d0Z (xs:=cx.toArray) hfo hc hc' w;have:=aUZ (em:=em) w n e v he d hd' _ va q2;simp[Sem.run_bind,hs,q1,this]
  ·cases h
theorem ejZ{k v:Ty}:∀{l:List ((k.den×v.den)×Nat)} {x:k.den},mfind l x=none->∀(i:Nat) e,l[i]? =some e->k.eqb x e.1.1=false
 |((a,b),n)::l,x,h,i,e,he=>by
  simp only[mfind] at h;cases hq:k.eqb x a<;>rw[hq] at h<;>simp only[ZAK,ZAE] at h
  ·match i with
   |0=>simp at he;subst he;exact hq
   |i+1=>exact ejZ h i e (by simpa using he)
  ·cases h
theorem bXZ{k v:Ty}:∀{l:List ((k.den×v.den)×Nat)} {x:k.den} {y:v.den×Nat},mfind l x=some y->
 ∃(i:Nat) (a:k.den),l[i]? =some ((a,y.1),y.2)/\k.eqb x a=true/\∀j e,j<i->l[j]? =some e->k.eqb x e.1.1=false
 |((a,b),n)::l,x,y,h=>by
  simp only[mfind] at h;cases hq:k.eqb x a<;>rw[hq] at h<;>simp only[ZAK,ZAE] at h
  ·obtain⟨i,a',h1,h2,h3⟩:=bXZ h;refine⟨i+1,a',by simpa using h1,h2,fun j e hj he=> ?_⟩
   match j with
   |0=>simp at he;subst he;exact hq
   |j+1=>exact h3 j e (by omega) (by simpa using he)
  ·simp only[ZAI] at h;subst h;exact⟨0,a,rfl,hq,fun j e hj=>by omega⟩
def Found(es:List MapEntry)(eq:Nat->Bool):Nat->Option (Nat×Value)->Prop
 |i,none=>∀j,j<es.length->eq (i+j)=false
 |i,some (p,v)=>∃j e,p=i+j/\es[j]? =some e/\e.val=v/\eq (i+j)=true/\∀j',j'<j->eq (i+j')=false
theorem gvZ{d:TypeDesc}{x:Value}{eq:Nat->Bool}:∀(es:List MapEntry) (i:Nat),(∀(j:Nat) e,es[j]? =some e->Instr.sameNow d x e.key=some (eq (i+j)))->∃r,Instr.findNow d x es i=some r/\Found es eq i r
 |[],i,_=>⟨none,rfl,fun j hj=>by simp at hj⟩
 |e::es,i,h=>by
  have h0:=h 0 e rfl;simp only[ZB3] at h0;cases hq:eq i
  ·obtain⟨r,h1,h2⟩:=gvZ es (i+1) (fun j e' he'=>by have:=h (j+1) e' (by simpa using he');rwa [show i+(j+1)=i+1+j from by omega] at this);refine⟨r,by simp[Instr.findNow,h0,hq,h1],?_⟩
   match r,h2 with
   |none,h2=>
    intro j hj
    match j with
    |0=>exact hq
    |j+1=>rw[show i+(j+1)=i+1+j from by omega];exact h2 j (by simpa using hj)
   |some (p,v),⟨j,e',e1,e2,e3,e4,e5⟩=>
    refine⟨j+1,e',by omega,by simpa using e2,e3,by rw[show i+(j+1)=i+1+j from by omega];exact e4,fun j' hj'=> ?_⟩
    match j' with
    |0=>exact hq
    |j'+1=>rw[show i+(j'+1)=i+1+j' from by omega];exact e5 j' (by omega)
  ·exact⟨some (i,e.val),by simp[Instr.findNow,h0,hq],0,e,rfl,rfl,rfl,hq,fun j' hj'=>by omega⟩
theorem d7Z{kt:TypeId}{x:Value}{eq:Nat->Bool}(w:World):∀(es:List MapEntry) (i:Nat),(∀(j:Nat) e,es[j]? =some e->(Op.equal kt x e.key).run P w= .ok (eq (i+j)) w)->
 ∃r,(Instr.findAsking kt x es i).run P w= .ok r w/\Found es eq i r
 |[],i,_=>⟨none,by simp[Instr.findAsking],fun j hj=>by simp at hj⟩
 |e::es,i,h=>by
  have h0:=h 0 e rfl;simp only[ZB3] at h0;cases hq:eq i
  ·obtain⟨r,h1,h2⟩:=d7Z w es (i+1) (fun j e' he'=>by have:=h (j+1) e' (by simpa using he');rwa [show i+(j+1)=i+1+j from by omega] at this);refine⟨r,by simp[Instr.findAsking,Sem.run_bind,h0,hq,h1],?_⟩
   match r,h2 with
   |none,h2=>
    intro j hj
    match j with
    |0=>exact hq
    |j+1=>rw[show i+(j+1)=i+1+j from by omega];exact h2 j (by simpa using hj)
   |some (p,v),⟨j,e',e1,e2,e3,e4,e5⟩=>
    refine⟨j+1,e',by omega,by simpa using e2,e3,by rw[show i+(j+1)=i+1+j from by omega];exact e4,fun j' hj'=> ?_⟩
    match j' with
    |0=>exact hq
    |j'+1=>rw[show i+(j'+1)=i+1+j' from by omega];exact e5 j' (by omega)
  ·exact⟨some (i,e.val),by simp[Instr.findAsking,Sem.run_bind,h0,hq],0,e,rfl,rfl,rfl,hq,fun j' hj'=>by omega⟩
theorem cQZ{kt:TypeId}{k:Ty}(h:keyOk P kt k=true):ty P kt=some k/\eqT P typesFuel kt k=true:=by
 unfold keyOk at h;simp only[ZAB,ZAd] at h;exact h.1
theorem ccZ{kt:TypeId}{k:Ty}(hk:keyOk P kt k=true)(w:World){M:Nat->Prop}{ρ:Rho}{x:k.den}{vx:Value}(hx:VRep w M ρ k x vx)(es:List MapEntry)(ks:List k.den)(hl:ks.length=es.length)
 (hks:∀(j:Nat) a e,ks[j]? =some a->es[j]? =some e->VRep w M ρ k a e.key):
 ∃r,(Instr.findKey kt vx es).run P w= .ok r w/\Found es (fun j=>match ks[j]? with|some a=>k.eqb x a|none=>false) 0 r:=by
 have he:=(cQZ hk).2;have hget:∀(j:Nat) e,es[j]? =some e->∃a,ks[j]? =some a/\VRep w M ρ k a e.key:=fun j e hj=>by
  obtain⟨a,ha⟩:=aJZ (l:=ks) hl.symm hj;exact⟨a,ha,hks j a e ha hj⟩
 cases hu:P.underlying kt with
 |none=>simp only[typesFuel,eqT,hu] at he;cases he
 |some d=>
  have ask:(∀j e,es[j]? =some e->(Op.equal kt vx e.key).run P w= .ok (match ks[0+j]? with|some a=>k.eqb x a|none=>false) w):=fun j e hj=>by
   obtain⟨a,ha,hv⟩:=hget j e hj;rw[ZAj,ha];exact k0Z w typesFuel kt k he 10000 (by unfold typesFuel;omega) x a vx e.key hx hv
  by_cases hwide:(match P.underlying kt with|some (.array _ _)|some (.struct _)=>true|_=>false)=true
  ·rw[run_findKey_eq w hwide];exact d7Z w es 0 ask
  ·have now:∃r,Instr.findNow d vx es 0=some r/\Found es (fun j=>match ks[j]? with|some a=>k.eqb x a|none=>false) 0 r:=by
    refine gvZ es 0 fun j e hj=> ?_;obtain⟨a,ha,hv⟩:=hget j e hj;simp only[ZAj,ha];unfold typesFuel at he;simp only[eqT] at he;split at he
    ·rename_i q q' hu';rw[hu] at hu';injection hu' with hu';subst hu';rw[hx.int,hv.int];simp[Instr.sameNow]
     rfl
    ·rename_i q hu';rw[hu] at hu';injection hu' with hu';subst hu';have e1:=hx.scal rfl rfl;have e2:=hv.scal rfl rfl;simp only[Cl,ZAq,ZBi] at e1 e2;rw[e1,e2];simp only[Instr.sameNow,ZCH,ZAI];show(((x:UInt8).toNat:Int)==((a:UInt8).toNat:Int))=((x:UInt8)==a);rw[Bool.eq_iff_iff];simp only[ZBf];constructor
     ·intro h;exact UInt8.toNat_inj.1 (by omega)
     ·intro h;rw[h]
    ·rename_i hu';rw[hu] at hu';injection hu' with hu';subst hu';rw[hx.bool,hv.bool]
     rfl
    ·rename_i hu';rw[hu] at hu';injection hu' with hu';subst hu';rw[hx.str,hv.str];simp only[Instr.sameNow,ZAI,beq_toListBytes,bJZ]
     rfl
    ·rename_i hu';rw[hu'] at hwide;exact absurd rfl hwide
    ·rename_i hu';rw[hu'] at hwide;exact absurd rfl hwide
    ·rename_i hu';rw[hu'] at hwide;exact absurd rfl hwide
    ·cases he
   obtain⟨r,h1,h2⟩:=now;exact⟨r,by simp[Instr.findKey,Sem.run_bind,run_underlying hu,h1],h2⟩
theorem gpZ:∀{l r:List Value},zlistOk l r=true->l.length=r.length/\∀(i:Nat) a b,l[i]? =some a->r[i]? =some b->zcellOk a b=true
 |[],[],_=>⟨rfl,fun i a b h=>by simp at h⟩
 |x::l,y::r,h=>by
  simp only[zlistOk,ZAB] at h;obtain⟨h1,h2⟩:=gpZ h.2;refine⟨by simp[h1],fun i a b ha hb=> ?_⟩
  match i with
  |0=>simp at ha hb;subst ha;subst hb;exact h.1
  |i+1=>exact h2 i a b (by simpa using ha) (by simpa using hb)
 |[],_::_,h|_::_,[],h=>by simp[zlistOk] at h
theorem l5Z{a b:Value}(h:zcellOk a b=true):a=b:=by
 unfold zcellOk at h;split at h
 ·simp only[ZAB,ZBf] at h;rw[h.1,h.2]
 ·simp only[ZBf] at h;rw[h]
 ·rename_i x y;simp only[ZAB,ZBf] at h;obtain⟨⟨lx⟩⟩:=x;obtain⟨⟨ly⟩⟩:=y;simp at h;obtain⟨h1,h2⟩:=h;rw[h2] at h1;simp at h1;obtain rfl:=ZAR h1.symm;subst h2
  rfl
 ·rfl
 ·rfl
 ·cases h
theorem pgZ{l r:List Value}(h:zlistOk l r=true):l=r:=by
 obtain⟨h1,h2⟩:=gpZ h;apply List.ext_getElem? fun i=> ?_;by_cases hi:i<l.length
 ·have e1:l[i]? =some l[i]:=ZAD hi;have e2:r[i]? =some r[i]:=ZAD (by omega);rw[e1,e2,l5Z (h2 i _ _ e1 e2)]
 ·rw[ZAt (by omega),ZAt (by omega)]
theorem Cl.zero{w:World}{M:Nat->Prop}{ρ:Rho}:{u:Ty}->u.plain=true->Cl w M ρ u u.zero u.zeros
 |.int _,_|.bool,_=>rfl
 |.byte,_=>rfl
 |.str,_=>rfl
 |.sl t,_=>⟨none,0,rfl,ZAM _,by unfold maxLen;omega,fun _=>rfl,fun h=>absurd rfl h⟩
 |.ref f t,_=>rfl
 |.ptr t,_=>.inl ⟨rfl,rfl⟩
 |.one t,h=>Cl.zero (u:=t) h
 |.pair a b,h=>by
  simp only[Ty.plain,ZAB] at h;exact⟨_,_,rfl,Cl.zero h.1,Cl.zero h.2⟩
 |.arr n t,h=>by
  refine⟨by simp[Ty.zero],List.replicate n t.zeros,by simp,rfl,fun i e u h1 h2=> ?_⟩;have hi:i<n:=by
   have:=(ZAC.1 h2).1;simpa using this
  have h1':(List.replicate n t.zero)[i]? =some e:=h1;simp[hi] at h1' h2;subst h1';subst h2;exact Cl.zero (u:=t) h
theorem bEZ{t:TypeId}{u:Ty}(h:zeroOk P t u=true):∃i v,P.info? t=some i/\i.zero=some v/\∀w M ρ,VRep w M ρ u u.zero v:=by
 unfold zeroOk at h;simp only[ZAB] at h;obtain⟨hp,h⟩:=h;split at h
 ·rename_i i hi;split at h
  ·rename_i v hv;simp only[ZAB] at h;have hz:=pgZ h.1;refine⟨i,v,hi,hv,fun w M ρ=>⟨u.zeros,Cl.zero hp,?_⟩⟩;have h2:=h.2;split at h2
   ·rename_i cs;rw[h2];simp only[ZAK];have hz':cs.toList=u.zeros:=hz;rw[<-hz']
   ·rename_i hne;simp only[ZAc] at h2;rw[h2];simp only[ZAE];rw[<-hz];cases v<;>first|rfl|exact absurd rfl (hne _)
  ·cases h
 ·cases h
theorem d5Z{c:Bool}{a:AV}{v:Value}{q:Bool}(h:ARep z a v):ARep z (tupIf c a q) (if c then .tuple #[v,.bool q] else v):=by
 unfold tupIf;cases c
 ·exact h
 ·refine .tup _ _ rfl fun i x u h1 h2=> ?_
  match i with
  |0=>simp at h1 h2;subst h1;subst h2;exact h
  |1=>simp at h1 h2;subst h1;subst h2;exact .mkB q
  |i+2=>simp at h1
theorem g5Z{t kt et:TypeId}{g:Nat}{es:Array MapEntry}{clock:Nat}{vk:Value}{c:Bool}{r:Option (Nat×Value)}{i:TypeInfo}{zv:Value}(hu:P.underlying t=some (.map kt et))
 (hg:z.w.heap[g]? =some (.map es clock))(hck:(Instr.checkKey es.isEmpty 10000 kt vk).run P z.w= .ok () z.w)(hf:(Instr.findKey kt vk es.toList).run P z.w= .ok r z.w)(hi:r=none->P.info? et=some i/\i.zero=some zv):
 (Instr.lookup t (.map (some g)) vk c).run P z.w= .ok (let x:=(match r with|some (_,v)=>v|none=>zv);if c then .tuple #[x,.bool r.isSome] else x) z.w:=by
 have ho:(getObj g).run P z.w= .ok (.map es clock) z.w:=by simp[getObj,Sem.run,hg]
 cases r with
 |none=>
  obtain⟨h1,h2⟩:=hi rfl;cases c<;>simp[Instr.lookup,Sem.run_bind,run_underlying hu,ho,hck,hf,gJZ h1 h2]
 |some p=>cases c<;>simp[Instr.lookup,Sem.run_bind,run_underlying hu,ho,hck,hf]
theorem imZ{k:Ty}{x:k.den}{K:Option AV->Option β}{r:β}:∀{l:List (k.den×AV)},fchain l x K=some r->
 ((∀(i:Nat) (e:k.den×AV),l[i]? =some e->k.eqb x e.1=false)/\K none=some r)\/∃(i:Nat) (e:k.den×AV),l[i]? =some e/\k.eqb x e.1=true/\(∀(j:Nat) (e':k.den×AV),j<i->l[j]? =some e'->k.eqb x e'.1=false)/\K (some e.2)=some r
 |[],h=>.inl ⟨fun i e h=>by simp at h,h⟩
 |(a,b)::l,h=>by
  simp only[fchain] at h;cases hq:k.eqb x a<;>rw[hq] at h<;>simp only[bq_true,bq_false] at h
  ·rcases imZ h with⟨h1,h2⟩|⟨i,e,h1,h2,h3,h4⟩
   ·refine .inl ⟨fun i e he=> ?_,h2⟩
    match i with
    |0=>simp at he;subst he;exact hq
    |i+1=>exact h1 i e (by simpa using he)
   ·refine .inr ⟨i+1,e,by simpa using h1,h2,fun j e' hj he'=> ?_,h4⟩
    match j with
    |0=>simp at he';subst he';exact hq
    |j+1=>exact h3 j e' (by omega) (by simpa using he')
  ·exact .inr ⟨0,(a,b),rfl,hq,fun j e' hj=>by omega,h⟩
theorem Found.split{es:List MapEntry}{k:Ty}{ks:List k.den}{x:k.den}{r:Option (Nat×Value)}(hl:ks.length=es.length)(h:Found es (fun j=>match ks[j]? with|some a=>k.eqb x a|none=>false) 0 r):
 (r=none/\∀(i:Nat) (a:k.den),ks[i]? =some a->k.eqb x a=false)\/∃(i:Nat) (a:k.den) (e:MapEntry),r=some (i,e.val)/\ks[i]? =some a/\es[i]? =some e/\k.eqb x a=true/\∀(j:Nat) (a':k.den),j<i->ks[j]? =some a'->k.eqb x a'=false:=by
 match r,h with
 |none,h=>
  refine .inl ⟨rfl,fun i a ha=> ?_⟩;have hi:i<es.length:=by
   have:=(ZAC.1 ha).1;omega
  have:=h i hi;simp only[ZAj,ha] at this;exact this
 |some (p,v),⟨j,e,h1,h2,h3,h4,h5⟩=>
  simp only[ZAj] at h1 h4;obtain⟨a,ha⟩:=aJZ (l:=ks) hl.symm h2;rw[ha] at h4;refine .inr ⟨j,a,e,by rw[h1,h3],ha,h2,h4,fun j' a' hj' ha'=> ?_⟩;have:=h5 j' hj';simp only[ZAj,ha'] at this;exact this
theorem jRZ{t:TypeId}{m ix:AV}{c:Bool}{K:AV->Option β}{r:β}{vm vk:Value}(h:evLookup P t m ix c H K=some r)(hH:HRep z H)(hm:ARep z m vm)(hk:ARep z ix vk):
 OkP P (Instr.lookup t vm vk c) z K r:=by
 unfold evLookup at h;split at h
 ·rename_i id;cases hm with|mp _ g sz n hρ=>
  split at h
  ·rename_i fz k v M hg;obtain⟨h1,h2⟩:=aeZ.1 h;obtain⟨x,h3,h4⟩:=bxZ h2 hk;unfold mapOk at h1;split at h1
   ·rename_i kt et hu;simp only[ZAB,ZAd] at h1;obtain⟨⟨h5,h6⟩,h7⟩:=h1;obtain⟨i,zv,z1,z2,z3⟩:=bEZ h7;obtain⟨_,_,_,es,a1,a2,a3,_⟩:=hH.real hg hρ;have hck:=aUZ (em:=es.isEmpty) z.w typesFuel kt k (cQZ h5).2 10000 (by unfold typesFuel;omega) x vk h3;obtain⟨q,f1,f2⟩:=ccZ h5 z.w h3 es.toList (M.1.map (·.1.1)) (by simp[a2]) (fun j a e e1 e2=>by
     rw[ZAW] at e1;obtain⟨y,e3,rfl⟩:=ZAH.1 e1;exact(a3 j y e e3 (by simpa using e2)).1)
    have hrun:=g5Z (c:=c) hu a1 hck f1 (fun _=>⟨z1,z2⟩);unfold lookRes at h4;rcases f2.split (by simp[a2]) with⟨rfl,f3⟩|⟨j,a,e,rfl,f3,f4,f5,f6⟩
    ·have hm:mget M x=none:=by
      unfold mget;cases hq:mfind M.1 x with
      |none=>rfl
      |some y=>
       obtain⟨j,a,q1,q2,_⟩:=bXZ hq;have:=f3 j a (by simp[q1]);rw[q2] at this;cases this
     rw[hm] at h4;exact .mk' hrun (d5Z (b8Z (z3 _ _ _))) h4
    ·rw[ZAW] at f3;obtain⟨y,f7,rfl⟩:=ZAH.1 f3;have hm:mget M x=some y.1.2:=by
      unfold mget;cases hq:mfind M.1 x with
      |none=>
       have:=ejZ hq j y f7;rw[f5] at this;cases this
      |some y'=>
       obtain⟨j',a',q1,q2,q3⟩:=bXZ hq;have hjj:j'=j:=by
        rcases Nat.lt_trichotomy j' j with hlt|heq|hgt
        ·have:=f6 j' a' hlt (by simp[q1]);rw[q2] at this;cases this
        ·exact heq
        ·have:=q3 j y hgt f7;rw[f5] at this;cases this
       subst hjj;rw[q1] at f7;injection f7 with f7;rw[<-f7]
       rfl
     rw[hm] at h4;refine .mk' hrun (d5Z (b8Z ?_)) h4;exact(a3 j y e f7 (by simpa using f4)).2.1
   ·cases h1
  ·rename_i fz k l hg;obtain⟨h1,h2⟩:=aeZ.1 h;obtain⟨x,h3,h4⟩:=bxZ h2 hk;unfold fmapOk at h1;split at h1
   ·rename_i kt et hu;simp only[ZAB] at h1;obtain⟨⟨h5,h6⟩,h7⟩:=h1;obtain⟨_,_,_,es,clock,a1,a2,a3⟩:=hH.real hg hρ;have hz:∃i,P.info? et=some i/\i.zero=some .nilFunc:=by
     split at h7
     ·rename_i i hi;split at h7
      ·rename_i hz;exact⟨i,hi,hz⟩
      ·cases h7
     ·cases h7
    obtain⟨i,z1,z2⟩:=hz;have hck:=aUZ (em:=es.isEmpty) z.w typesFuel kt k (cQZ h5).2 10000 (by unfold typesFuel;omega) x vk h3;obtain⟨q,f1,f2⟩:=ccZ h5 z.w h3 es.toList (l.map (·.1)) (by simp[a2]) (fun j a e e1 e2=>by
     rw[ZAW] at e1;obtain⟨y,e3,rfl⟩:=ZAH.1 e1;exact(a3 j y e e3 (by simpa using e2)).1)
    have hrun:=g5Z (c:=c) hu a1 hck f1 (fun _=>⟨z1,z2⟩);rcases imZ h4 with⟨g1,g2⟩|⟨j',e',g1,g2,g3,g4⟩
    ·rcases f2.split (by simp[a2]) with⟨rfl,f3⟩|⟨j,a,e,rfl,f3,f4,f5,f6⟩
     ·exact .mk' hrun (d5Z (.p _ _ _ (VRep.mkSc (t:=.opq) (x:=Value.nilFunc) ⟨rfl,rfl⟩ rfl))) g2
     ·rw[ZAW] at f3;obtain⟨y,f7,rfl⟩:=ZAH.1 f3;have:=g1 j y f7;rw[f5] at this;cases this
    ·rcases f2.split (by simp[a2]) with⟨rfl,f3⟩|⟨j,a,e,rfl,f3,f4,f5,f6⟩
     ·have:=f3 j' e'.1 (by simp[g1]);rw[g2] at this;cases this
     ·rw[ZAW] at f3;obtain⟨y,f7,rfl⟩:=ZAH.1 f3;have hjj:j'=j:=by
       rcases Nat.lt_trichotomy j' j with hlt|heq|hgt
       ·have:=f6 j' e'.1 hlt (by simp[g1]);rw[g2] at this;cases this
       ·exact heq
       ·have:=g3 j y hgt f7;rw[f5] at this;cases this
      subst hjj;rw[g1] at f7;injection f7 with f7;subst f7;exact .mk' hrun (d5Z (a3 j' e' e g1 (by simpa using f4)).2) g4
   ·cases h1
  ·cases h
 ·split at h
  ·rename_i kt et hu;obtain⟨k,h1,h2⟩:=agZ.1 h;obtain⟨v,h3,h4⟩:=agZ.1 h2;obtain⟨h5,h6⟩:=aeZ.1 h4;obtain⟨x,h7,h8⟩:=bxZ h6 hk;unfold mapOk at h5;rw[hu] at h5;simp only[ZAB,ZAd] at h5;obtain⟨⟨h9,h10⟩,h11⟩:=h5;obtain⟨i,zv,z1,z2,z3⟩:=bEZ h11;obtain⟨rfl,_⟩:=hm.v.opq;have hck:=aUZ (em:=true) z.w typesFuel kt k (cQZ h9).2 10000 (by unfold typesFuel;omega) x vk h7;obtain⟨q,f1,f2⟩:=ccZ h9 z.w h7 [] [] rfl (fun j a e e1=>by simp at e1);have hq:q=none:=by
    rcases Found.split (k:=k) (ks:=[]) (x:=x) rfl f2 with⟨h,_⟩|⟨j,a,e,_,e1,_⟩
    ·exact h
    ·simp at e1
   subst hq;unfold lookRes at h8;refine .mk' ?_ (d5Z (c:=c) (q:=false) (b8Z (z3 _ _ _))) h8;cases c<;>simp[Instr.lookup,Sem.run_bind,run_underlying hu,hck,f1,gJZ z1 z2]
  ·cases h
 ·cases h
end
end Go.Ab
namespace Go.Ab
section
variable {P : Program} {β : Type} {z : Z} {H : Hp}
theorem cfZ{ρ:Operand->Value}{o:Oper}{s:Sem Value}{K:AV->Option β}{res:β}(he:execOp ρ o=(do pure (.value (<-s))))(h:OkP P s z K res):
 ∃x v,(execOp ρ o).run P z.w= .ok (.value v) z.w/\ARep z x v/\K x=some res:=by
 obtain⟨x,v,h1,h2,h3⟩:=h;exact⟨x,v,by rw[he,Sem.run_bind,h1];rfl,h2,h3⟩
theorem dwZ{ρ:Operand->Value}{o:Oper}{c:Call}{b:Builtin}{s:Sem Value}{K:AV->Option β}{res:β}(ho:o.op= .call c)(hc:c.callee= .builtin b)
 (hb:∀consts,builtin b c.argTypes o.type consts (c.args.map ρ)=(do pure (.value (<-s))))(h:OkP P s z K res):
 ∃x v,(execOp ρ o).run P z.w= .ok (.value v) z.w/\ARep z x v/\K x=some res:=by
 obtain⟨x,v,h1,h2,h3⟩:=h;refine⟨x,v,?_,h2,h3⟩;unfold execOp;simp only[ho,resolve,hc,Sem.run_bind,Sem.run_pure,Result.andThen_ok,invoke,hb,h1]
theorem AReps.map{l:List Operand}{r:Operand->AV}{ρ:Operand->Value}(hr:∀x,ARep z (r x) (ρ x)):AReps z (l.map r) (l.map ρ):=by
 refine⟨by simp,fun i a v h1 h2=> ?_⟩;rw[ZAW] at h1 h2;obtain⟨x,h3,rfl⟩:=ZAH.1 h1;rw[h3] at h2;simp at h2;subst h2;exact hr x
theorem ORep.map{a:Option Operand}{r:Operand->AV}{ρ:Operand->Value}(hr:∀x,ARep z (r x) (ρ x)):ORep z (a.map r) (a.map ρ):=by
 cases a with
 |none=>exact .inl ⟨rfl,rfl⟩
 |some x=>exact .inr ⟨_,_,rfl,rfl,hr x⟩
theorem r3Z{o:Oper}{r:Operand->AV}{ρ:Operand->Value}{K:AV->Option β}{res:β}(h:evR P o r H K=some res)(hH:HRep z H)(hr:∀x,ARep z (r x) (ρ x)):
 ∃x v,(execOp ρ o).run P z.w= .ok (.value v) z.w/\ARep z x v/\K x=some res:=by
 unfold evR at h;split at h
 ·rename_i x ho;exact⟨_,ρ x,by simp[execOp,ho],hr x,h⟩
 ·rename_i x ho;exact⟨_,ρ x,by simp[execOp,ho],hr x,h⟩
 ·rename_i c a b ho;obtain⟨x,v,h1,h2,h3⟩:=nzZ h (hr c) (hr a) (hr b);refine⟨x,v,?_,h2,h3⟩;simp only[Sem.run_bind] at h1;simp only[execOp,ho,Sem.run_bind];generalize (asBool (ρ c)).run P z.w=q at h1⊢;cases q<;>simp[Result.andThen] at h1⊢;obtain⟨h4,h5⟩:=h1;exact⟨h4,h5⟩
 ·rename_i t ps ho;refine cfZ (s:=Instr.build t (ps.map fun(i,x)=>(i,ρ x))) (by simp[execOp,ho]) (lTZ h ⟨by simp,fun i x y h1 h2=> ?_⟩);simp only[Array.toList_map] at h2;rw[ZAW] at h1 h2;obtain⟨q,h3,rfl⟩:=ZAH.1 h1;rw[h3] at h2;simp at h2;subst h2;exact⟨rfl,hr _⟩
 ·rename_i t a ho;exact cfZ (s:=Instr.loadAt t (ρ a)) (by simp[execOp,ho]) (hSZ h hH (hr a))
 ·rename_i x ho;have hx:=hr x;split at h
  ·rename_i es id i j hq;rw[hq] at hx;cases hv:ρ x<;>rw[hv] at hx<;>first|(cases hx;done)|skip;rename_i p;cases hx with|own _ _ _ _ g sz n hρ=>exact⟨_,ρ x,by simp[execOp,ho,hv],by rw[hv];exact .own _ _ _ _ _ _ _ hρ,h⟩
  ·rename_i u l i j hq;rw[hq] at hx;cases hv:ρ x<;>rw[hv] at hx<;>first|(cases hx;done)|skip;cases hx with|pt _ _ _ _ b off hM hlt hrr=>exact⟨_,ρ x,by simp[execOp,ho,hv],by rw[hv];exact .pt _ _ _ _ _ _ hM hlt hrr,h⟩
  ·rename_i f a c hq;rw[hq] at hx;cases hv:ρ x<;>rw[hv] at hx<;>first|(cases hx;done)|skip;cases hx with|fn _ _ _ va vc h1 h2 h3 h4=>exact⟨_,ρ x,by simp[execOp,ho,hv],by rw[hv];exact .fn _ _ _ _ _ h1 h2 h3 h4,h⟩
  ·rename_i f es k i j hq;rw[hq] at hx;cases hv:ρ x<;>rw[hv] at hx<;>first|(cases hx;done)|skip;cases hx with|rp _ _ _ _ _ g sz n hρ=>exact⟨_,ρ x,by simp[execOp,ho,hv],by rw[hv];exact .rp _ _ _ _ _ _ _ _ hρ,h⟩
  ·rename_i t l hq;rw[hq] at hx;obtain⟨h1,h2⟩:=aeZ.1 h;rcases hx.v.scal rfl rfl with⟨h3,_⟩|⟨_,b,off,h4,h5,h6,h7⟩
   ·obtain rfl:l=([]:List t.den):=List.length_eq_zero_iff.1 h3;cases h1
   ·have hv:=(List.cons.inj h4).1;have q:=ARep.pt (z:=z) t l 0 0 b off h5 h6 h7;rw[ZBa] at q;exact⟨_,ρ x,by simp[execOp,ho,hv],by rw[hv];exact q,h2⟩
  ·cases h
 ·rename_i op t x y u ho;exact cfZ (s:=do eqGuard op t x y (ρ x) (ρ y);binOp op t (ρ x) (ρ y)) (by simp[execOp,ho]) (oGZ x y h hH (hr x) (hr y))
 ·rename_i t x ix c ho;exact cfZ (s:=Instr.lookup t (ρ x) (ρ ix) c) (by simp[execOp,ho]) (jRZ h hH (hr x) (hr ix))
 ·rename_i op t x ho;exact cfZ (s:=Op.unary op (ρ x)) (by simp[execOp,ho]) (qyZ h (hr x))
 ·rename_i s d x ho;exact cfZ (s:=convert s d (ρ x)) (by simp[execOp,ho]) (ewZ h hH (hr x))
 ·rename_i f a c ho;refine⟨_,.func (.func f) (a.map ρ) (c.map ρ),by simp[execOp,ho,Instr.makeFunc],.fn _ _ _ _ _ (by simp) (by simp) (fun i x v h1 h2=> ?_) (fun i x v h1 h2=> ?_),h⟩
  ·exact(AReps.map (l:=a.toList) hr).2 i x v h1 (by simpa using h2)
  ·exact(AReps.map (l:=c.toList) hr).2 i x v h1 (by simpa using h2)
 ·rename_i t x lo hi ho;exact cfZ (s:=Instr.sliceAt t (ρ x) (lo.map ρ) (hi.map ρ) none) (by simp[execOp,ho]) (lyZ h hH (hr x) (.map hr) (.map hr))
 ·rename_i t x lo hi mx ho;exact cfZ (s:=Instr.sliceAt t (ρ x) (lo.map ρ) (some (ρ hi)) (some (ρ mx))) (by simp[execOp,ho]) (jkZ h (hr x) (.map hr) (hr hi) (hr mx))
 ·rename_i s x f ho;exact cfZ (s:=Instr.fieldAt s (ρ x) f) (by simp[execOp,ho]) (fTZ h (hr x))
 ·rename_i s x f ho;exact cfZ (s:=Instr.field s (ρ x) f) (by simp[execOp,ho]) (ldZ h (hr x))
 ·rename_i t x ix ho;exact cfZ (s:=Instr.indexAt t (ρ x) (ρ ix)) (by simp[execOp,ho]) (ggZ h hH (hr x) (hr ix))
 ·rename_i t x ix ho;exact cfZ (s:=Instr.index t (ρ x) (ρ ix)) (by simp[execOp,ho]) (lYZ h (hr x) (hr ix))
 ·rename_i x i ho;obtain⟨l,h1,h2⟩:=agZ.1 h;obtain⟨y,h3,h4⟩:=agZ.1 h2;obtain⟨vs,h5,h6,h7⟩:=hEZ h1 (hr x);have hlt:i<vs.size:=by
   have:=(ZAC.1 h3).1;omega
  have hv:vs[i]? =some vs[i]:=ZA7 hlt;exact cfZ (s:=Instr.extract (ρ x) i) (by simp[execOp,ho]) ⟨y,vs[i],by simp[Instr.extract,h5,hv],h7 i y _ h3 hv,h4⟩
 ·rename_i c ho;split at h
  ·rename_i hc;split at h
   ·rename_i a t ha ht;obtain⟨n,h1,h2⟩:=pXZ o.type h hH (hr a);refine dwZ (s:=Builtin.len_ #[t] o.type #[ρ a]) ho hc (fun consts=> ?_) ⟨_,_,h1,.mkI _ _,h2⟩;have e1:c.args=#[a]:=by apply ZBg;rw[ha]
    have e2:c.argTypes=#[t]:=by apply ZBg;rw[ht]
    simp[builtin,e1,e2]
   ·cases h
  ·rename_i hc;split at h
   ·rename_i a t ha ht;have e1:c.args=#[a]:=by apply ZBg;rw[ha]
    have e2:c.argTypes=#[t]:=by apply ZBg;rw[ht]
    split at h
    ·rename_i e hu;have run:∀A n m,ρ a= .slice A n m->(Builtin.cap_ #[t] o.type #[ρ a]).run P z.w= .ok (.int .i64 (m:Int)) z.w:=fun A n m hv=>by
      simp[Builtin.cap_,Sem.run_bind,hv,run_underlying hu,goInt]
     have key:∀m:Nat,(∃A n,ρ a= .slice A n m)->K (.i .i64 (m:Int))=some res->∃x v,(execOp ρ o).run P z.w= .ok (.value v) z.w/\ARep z x v/\K x=some res:=fun m ⟨A,n,hv⟩ hk=>
      dwZ (s:=Builtin.cap_ #[t] o.type #[ρ a]) ho hc (fun consts=>by simp[builtin,e1,e2]) ⟨_,_,run A n m hv,.mkI _ _,hk⟩
     split at h
     ·rename_i hq;have hx:=hr a;rw[hq] at hx;exact key 0 ⟨none,0,hx.v.opq.1⟩ h
     ·obtain⟨A,n,m,hv,h1,h2,_,h3⟩:=hGZ h hH (hr a);exact key m ⟨A,n,hv⟩ (pVZ h3 m h1 h2)
    ·cases h
   ·cases h
  ·rename_i hc;split at h
   ·rename_i k hu;obtain⟨l,h1,h2⟩:=agZ.1 h;have hv:=gKZ h1 (AReps.map (l:=c.args.toList) hr);split at h2
    ·rename_i x l;refine dwZ (s:=Builtin.min_ c.argTypes o.type (c.args.map ρ)) ho hc (fun consts=>rfl) ⟨_,_,?_,.mkI _ _,h2⟩;unfold Builtin.min_;rw[Array.toList_map,hv];exact f9Z z.w l x
    ·cases h2
   ·cases h
  ·rename_i hc;split at h
   ·rename_i k hu;obtain⟨l,h1,h2⟩:=agZ.1 h;have hv:=gKZ h1 (AReps.map (l:=c.args.toList) hr);split at h2
    ·rename_i x l;refine dwZ (s:=Builtin.max_ c.argTypes o.type (c.args.map ρ)) ho hc (fun consts=>rfl) ⟨_,_,?_,.mkI _ _,h2⟩;unfold Builtin.max_;rw[Array.toList_map,hv];exact eTZ z.w l x
    ·cases h2
   ·cases h
  ·cases h
 ·cases h
end
end Go.Ab
namespace Go.Ab
section
variable {P : Program} {β : Type} {z : Z} {H : Hp}
def RowsIn(w:World)(M:Nat->Prop)(ρ:Rho)(u:Ty)(l:List u.den)(cs:List Value):Prop:=
 ∀(i:Nat) x,l[i]? =some x->∃us,Cl w M ρ u x us/\∀(j:Nat) v,us[j]? =some v->cs[i*u.cells+j]? =some v
theorem RowsIn.kp{z':Z}(k:Kp z z'){u:Ty}{l:List u.den}{cs:List Value}(h:RowsIn z.w z.M z.ρ u l cs):RowsIn z'.w z'.M z'.ρ u l cs:=fun i x hx=>by
 obtain⟨us,h1,h2⟩:=h i x hx;exact⟨us,h1.kp k,h2⟩
theorem gLZ{c:Nat}:∀{css:List (List Value)},(∀u∈css,u.length=c)->∀{k:Nat} {us:List Value},css[k]? =some us->∀{q:Nat} {w:Value},us[q]? =some w->css.flatten[k*c+q]? =some w
 |[],_,k,us,h,_,_,_=>by simp at h
 |u::css,hl,0,us,h,q,w,hq=>by
  simp at h;subst h;rw[ZBM,ZBa,ZAj,ZAL (ZAC.1 hq).1];exact hq
 |u::css,hl,k+1,us,h,q,w,hq=>by
  have hc:=hl u (by simp);rw[ZBM,ZAO (by rw[ZBY];omega)];have:=gLZ (fun u hu=>hl u (ZAb _ hu)) (by simpa using h) hq;rw[<-this];congr 1;rw[ZBY];omega
theorem cjZ{w:World}{M:Nat->Prop}{ρ:Rho}{u:Ty}{l:List u.den}{css:List (List Value)}(hl:css.length=l.length)(h:∀(i:Nat) e us,l[i]? =some e->css[i]? =some us->Cl w M ρ u e us):∀us∈css,us.length=u.cells:=fun us hu=>by
 obtain⟨k,hk⟩:=ZAe hu;obtain⟨e,he⟩:=aJZ (l:=l) hl hk;exact(h k e us he hk).len
theorem RowsIn.css{w:World}{M:Nat->Prop}{ρ:Rho}{u:Ty}{l:List u.den}{css:List (List Value)}(hl:css.length=l.length)(h:∀(i:Nat) e us,l[i]? =some e->css[i]? =some us->Cl w M ρ u e us)
 (rest:List Value):RowsIn w M ρ u l (css.flatten++rest):=fun i x hx=>by
 have hi:i<css.length:=by rw[hl];exact(ZAC.1 hx).1
 refine⟨css[i],h i x _ hx (ZAD hi),fun j v hj=> ?_⟩;have:=gLZ (cjZ hl h) (ZAD hi) hj;rw[ZAL (ZAC.1 this).1];exact this
theorem RowsIn.arr{w:World}{M:Nat->Prop}{ρ:Rho}{u:Ty}{n:Nat}{l:List u.den}{cs:List Value}(h:Cl w M ρ (.arr n u) l cs):RowsIn w M ρ u l cs:=by
 obtain⟨hn,css,h1,rfl,h2⟩:=h;have:=RowsIn.css (l:=l) (by rw[h1];exact hn.symm) h2 [];rwa [ZA1] at this
theorem a5Z{id:Nat}{b:Blk}{K:Hp->Option β}{r:β}:newAt H id b K=some r↔(hkey H id=false/\id<famBase)/\K (hset H id (some ⟨false,b⟩))=some r:=by
 unfold newAt;cases hk:hkey H id
 ·cases hb:Nat.ble famBase id
  ·have:id<famBase:=ZBK.1 fun h=>by rw[ZAi h] at hb;cases hb
   simp[this]
  ·have:=ZBC hb;simp;omega
 ·simp
theorem aKZ{id:Nat}{cs:Array Value}{e:TypeId}{fr:Nat×Nat}{w':World}{u:Ty}{l:List u.den}(hH:HRep z H)(hk:hkey H id=false/\id<famBase)(hd:¬z.D id)(hw:w'.heap[z.w.heap.size]? =some (.cells cs e fr))(hf:okR u cs fr)
 (hos:w'.os=z.w.os)(htape:w'.tape=z.w.tape/\z.w.drawn<=w'.drawn)(hout:w'.output=z.w.output)(hold:∀k,k<z.w.heap.size->w'.heap[k]? =z.w.heap[k]?)(hl:l.length*u.cells<=cs.size)(h0:0<u.cells)(hr:RowsIn z.w z.M z.ρ u l cs.toList):
 ∃z',z'.w=w'/\HRep z' (hset H id (some ⟨false,.rows e u l⟩))/\Nx z z'/\z'.ρ id= .real z.w.heap.size cs.size l.length:=by
 have hlt:z.w.heap.size<w'.heap.size:=(ZBF.1 hw).1;refine hH.new hk hd (ZAM _) hlt hos htape hout (Nat.le_of_lt hlt) hold fun z' hz k=> ?_;subst hz;refine⟨cs,fr,hw,hf,rfl,rfl,hl,h0,fun i x hx=> ?_⟩;obtain⟨us,h1,h2⟩:=hr.kp k i x hx;exact⟨us,h1,fun j v hj=>by simpa using h2 j v hj⟩
theorem hCZ{id:Nat}{cs:Array Value}{e:TypeId}{fr:Nat×Nat}{w':World}{c:List AV}(hH:HRep z H)(hk:hkey H id=false/\id<famBase)(hd:¬z.D id)(hw:w'.heap[z.w.heap.size]? =some (.cells cs e fr))(hf:okF cs fr)
 (hos:w'.os=z.w.os)(htape:w'.tape=z.w.tape/\z.w.drawn<=w'.drawn)(hout:w'.output=z.w.output)(hold:∀k,k<z.w.heap.size->w'.heap[k]? =z.w.heap[k]?)(hr:AReps z c cs.toList)(h1:∀u∈cs,u.oneCell'=true):
 ∃z',z'.w=w'/\HRep z' (hset H id (some ⟨false,.vars c⟩))/\Nx z z'/\z'.ρ id= .real z.w.heap.size cs.size cs.size:=by
 have hlt:z.w.heap.size<w'.heap.size:=(ZBF.1 hw).1;refine hH.new hk hd (ZAM _) hlt hos htape hout (Nat.le_of_lt hlt) hold fun z' hz k=> ?_;subst hz;refine⟨cs,e,fr,hw,hf,rfl,⟨by have:=hr.1;simpa using this,rfl⟩,fun i a v p q=>(hr.2 i a v p (by simpa using q)).kp k,h1⟩
theorem okF0(cs:Array Value):okF cs (0,0):=.inl rfl
theorem Ok.mk'{s:Sem Value}{K:AV->Hp->Option β}{r:β}{x:AV}{v:Value}{H':Hp}{z':Z}(h:s.run P z.w= .ok v z'.w)(hH:HRep z' H')(ha:ARep z' x v)(hn:Nx z z')(hK:K x H'=some r):Ok P s z K r:=⟨x,v,H',z',h,hH,ha,hn,hK⟩
theorem jIZ(w:World)(t:TypeId)(v:Value):(Instr.box t v).run P w= .ok (.pointer (some ⟨w.heap.size,0,none⟩)) (w.alloc (.cells v.cells t)):=rfl
theorem chZ{t:TypeId}{i:TypeInfo}{v:Value}(h1:P.info? t=some i)(h3:i.zero=some v)(w:World):(Instr.alloc t true (.tuple #[])).run P w= .ok (.pointer (some ⟨w.heap.size,0,none⟩)) (w.alloc (.cells v.cells t)):=by
 unfold Instr.alloc;rw[Sem.run_bind,gJZ h1 h3]
 rfl
theorem RowsIn.one'{w:World}{M:Nat->Prop}{ρ:Rho}{u:Ty}{x:u.den}{vs:List Value}(h:Cl w M ρ u x vs):RowsIn w M ρ u [x] vs:=fun i y hy=>by
 cases i with
 |zero=>
  obtain rfl:=ZAk hy;exact⟨vs,h,fun j v hj=>by rw[ZBa,ZAj];exact hj⟩
 |succ i=>cases hy
theorem j8Z{t:TypeId}{id:Nat}{K:AV->Hp->Option β}{r:β}(h:evAlloc1 P t id H K=some r)(hH:HRep z H)(hd:¬z.D id):Ok P (Instr.alloc t true (.tuple #[])) z K r:=by
 unfold evAlloc1 at h;obtain⟨u,h1,h2⟩:=agZ.1 h;obtain⟨h3,h4⟩:=aeZ.1 h2;obtain⟨h5,h6⟩:=a5Z.1 h4;obtain⟨t1,t2,_⟩:=cmZ h1;obtain⟨i,v,q1,q2,q3⟩:=bEZ h3;obtain⟨c1,c2⟩:=(q3 z.w z.M z.ρ).cells;have hl:v.cells.size=u.cells:=by simpa using c1.len
 obtain⟨z',p1,p2,p3,p4⟩:=aKZ (z:=z) (w':=z.w.alloc (.cells v.cells t)) (e:=t) (l:=[u.zero]) hH h5 hd (heap_alloc_new _ _) (okR0 _) rfl ⟨rfl,ZAM _⟩ rfl (fun k hk=>heap_alloc_old _ _ _ hk)
  (by rw[hl];simp) t2 (.one' c1)
 refine .mk' (by rw[p1];exact chZ q1 q2 z.w) p2 (x:=.own u.cells id 0 0) ?_ p3 h6;have:=ARep.own (z:=z') u.cells id 0 0 _ _ _ p4;simpa using this
theorem m5Z{t:TypeId}{a:AV}{v:Value}{id:Nat}{K:AV->Hp->Option β}{r:β}(h:evBox1 P t a id H K=some r)(hH:HRep z H)(hd:¬z.D id)(ha:ARep z a v):Ok P (Instr.box t v) z K r:=by
 unfold evBox1 at h;obtain⟨u,h1,h2⟩:=agZ.1 h;obtain⟨⟨a',H1⟩,h3,h4⟩:=agZ.1 h2;obtain⟨z1,s1,s2,s3,s4,s5⟩:=byZ hH h3 ha;obtain⟨y,h5,h6⟩:=bxZ h4 s5;obtain⟨h9,h10⟩:=a5Z.1 h6;obtain⟨t1,t2,_⟩:=cmZ h1;obtain⟨c1,c2⟩:=h5.cells;have hl:v.cells.size=u.cells:=by simpa using c1.len
 obtain⟨z',p1,p2,p3,p4⟩:=aKZ (z:=z1) (w':=z1.w.alloc (.cells v.cells t)) (e:=t) (l:=[y]) s2 h9 (by rw[s3.dom];exact hd) (heap_alloc_new _ _) (okR0 _) rfl ⟨rfl,ZAM _⟩ rfl (fun k hk=>heap_alloc_old _ _ _ hk)
  (by rw[hl];simp) t2 (.one' c1)
 refine .mk' (by rw[p1,s1];exact jIZ z.w t v) p2 (x:=.own u.cells id 0 0) ?_ (s3.trans p3) h10;have:=ARep.own (z:=z') u.cells id 0 0 _ _ _ p4;simpa[s1] using this
theorem leZ{t:TypeId}{id:Nat}{K:AV->Hp->Option β}{r:β}(h:evAlloc P t id H K=some r)(hH:HRep z H)(hd:¬z.D id):Ok P (Instr.alloc t true (.tuple #[])) z K r:=by
 unfold evAlloc at h;split at h
 ·rename_i n e hu;obtain⟨u,h1,h2⟩:=agZ.1 h;obtain⟨h3,h4⟩:=aeZ.1 h2;obtain⟨h5,h6⟩:=a5Z.1 h4;obtain⟨t1,t2,_⟩:=cmZ h1;obtain⟨i,v,q1,q2,q3⟩:=bEZ h3;obtain⟨c1,c2⟩:=(q3 z.w z.M z.ρ).cells;have hl:v.cells.size=n*u.cells:=by simpa[Ty.cells] using c1.len
  obtain⟨z',p1,p2,p3,p4⟩:=aKZ (z:=z) (w':=z.w.alloc (.cells v.cells t)) (e:=t) (l:=List.replicate n u.zero) hH h5 hd (heap_alloc_new _ _) (okR0 _) rfl ⟨rfl,ZAM _⟩ rfl (fun k hk=>heap_alloc_old _ _ _ hk)
   (by rw[ZAx,hl];exact ZAM _) t2 (.arr c1)
  refine .mk' (by rw[p1];exact chZ q1 q2 z.w) p2 (x:=.own u.cells id 0 0) ?_ p3 h6;have:=ARep.own (z:=z') u.cells id 0 0 _ _ _ p4;simpa using this
 ·obtain⟨l,h1,h2⟩:=agZ.1 h;obtain⟨h5,h6⟩:=a5Z.1 h2;obtain⟨i,v,q1,q2,q3,q4⟩:=fkZ (z:=z) h1;obtain⟨z',p1,p2,p3,p4⟩:=hCZ (z:=z) (w':=z.w.alloc (.cells v.cells t)) hH h5 hd (heap_alloc_new _ _) (okF0 _) rfl ⟨rfl,ZAM _⟩ rfl (fun k hk=>heap_alloc_old _ _ _ hk) q3 q4;refine .mk' (by rw[p1];exact chZ q1 q2 z.w) p2 (x:=.own 0 id 0 0) ?_ p3 h6;have:=ARep.own (z:=z') 0 id 0 0 _ _ _ p4;simpa using this
theorem oKZ{t:TypeId}{a:AV}{v:Value}{id:Nat}{K:AV->Hp->Option β}{r:β}(h:evBox P t a id H K=some r)(hH:HRep z H)(hd:¬z.D id)(ha:ARep z a v):Ok P (Instr.box t v) z K r:=by
 unfold evBox at h;split at h
 ·rename_i n e hu;obtain⟨u,h1,h2⟩:=agZ.1 h;obtain⟨⟨a',H1⟩,h3,h4⟩:=agZ.1 h2;obtain⟨z1,s1,s2,s3,s4,s5⟩:=byZ hH h3 ha;obtain⟨l,h5,h6⟩:=bxZ h4 s5;obtain⟨h7,h8⟩:=aeZ.1 h6;obtain⟨h9,h10⟩:=a5Z.1 h8;rw[acZ] at h7;obtain⟨t1,t2,_⟩:=cmZ h1;obtain⟨c1,c2⟩:=h5.cells;have hl:v.cells.size=n*u.cells:=by simpa[Ty.cells] using c1.len
  obtain⟨z',p1,p2,p3,p4⟩:=aKZ (z:=z1) (w':=z1.w.alloc (.cells v.cells t)) (e:=t) (l:=l) s2 h9 (by rw[s3.dom];exact hd) (heap_alloc_new _ _) (okR0 _) rfl ⟨rfl,ZAM _⟩ rfl (fun k hk=>heap_alloc_old _ _ _ hk)
   (by rw[h7,hl];exact ZAM _) t2 (.arr c1)
  refine .mk' (by rw[p1,s1];exact jIZ z.w t v) p2 (x:=.own u.cells id 0 0) ?_ (s3.trans p3) h10;have:=ARep.own (z:=z') u.cells id 0 0 _ _ _ p4;simpa[s1] using this
 ·obtain⟨l,h1,h2⟩:=agZ.1 h;obtain⟨h5,h6⟩:=a5Z.1 h2;obtain⟨q1,q2,_⟩:=caZ h1 ha;obtain⟨z',p1,p2,p3,p4⟩:=hCZ (z:=z) (w':=z.w.alloc (.cells v.cells t)) hH h5 hd (heap_alloc_new _ _) (okF0 _) rfl ⟨rfl,ZAM _⟩ rfl (fun k hk=>heap_alloc_old _ _ _ hk) q1 q2;refine .mk' (by rw[p1];exact jIZ z.w t v) p2 (x:=.own 0 id 0 0) ?_ p3 h6;have:=ARep.own (z:=z') 0 id 0 0 _ _ _ p4;simpa using this
theorem kdZ(zs:Array Value)(n k:Nat)(hk:k<n)(h:0<zs.size):(madeCells zs n)[k]? =zs[k%zs.size]? :=by
 have hm:=ZCF k h;simp[madeCells,hk,hm]
theorem RowsIn.made{w:World}{M:Nat->Prop}{ρ:Rho}{u:Ty}{zs:Array Value}(hc:Cl w M ρ u u.zero zs.toList)(n m:Nat)(hnm:n<=m)(h0:0<u.cells):RowsIn w M ρ u (List.replicate n u.zero) (madeCells zs (m*u.cells)).toList:=fun i x hx=>by
 have hi:i<n:=by
  have:=(ZAC.1 hx).1;simpa using this
 obtain rfl:u.zero=x:=by
  rw[ZB1] at hx;simpa[hi] using hx
 refine⟨_,hc,fun j v hj=> ?_⟩;have hl:zs.size=u.cells:=by simpa using hc.len
 have hjl:j<u.cells:=by
  have:=(ZAC.1 hj).1;simpa[hl] using this
 have hlt:=kBZ (es:=u.cells) (show i<m by omega) hjl;rw[ZA0,kdZ _ _ _ hlt (by omega),hl,Nat.mul_comm i,Nat.mul_add_mod,Nat.mod_eq_of_lt hjl];simpa using hj
theorem nbZ{t:TypeId}{al ac:AV}{vl vc:Value}{id:Nat}{K:AV->Hp->Option β}{r:β}(h:evMake P t al ac id H K=some r)(hH:HRep z H)(hd:¬z.D id)(hl:ARep z al vl)(hc:ARep z ac vc):
 Ok P (Instr.makeSlice t vl vc) z K r:=by
 unfold evMake at h;split at h
 ·rename_i e hu;obtain⟨n,h1,h2⟩:=agZ.1 h;obtain⟨m,h3,h4⟩:=agZ.1 h2;obtain⟨m',h5,h6⟩:=ZAF.1 h4;obtain⟨n',h7,h8⟩:=ZAF.1 h6;obtain⟨u,h9,h10⟩:=agZ.1 h8;obtain⟨h11,h12⟩:=aeZ.1 h10;obtain⟨h13,h14⟩:=a5Z.1 h12;simp only[ZAB,ZAm] at h11;obtain⟨h15,h16⟩:=h11;obtain⟨kl,rfl⟩:=bfZ h1 hl;obtain⟨kc,rfl⟩:=bfZ h3 hc;unfold upto? at h5 h7;split at h5
  ·rename_i hm;split at h7
   ·rename_i hn;simp only[ZAI] at h5 h7;obtain⟨t1,t2,_⟩:=cmZ h9;obtain⟨i,v,q1,q2,q3⟩:=bEZ h15;obtain⟨c1,c2⟩:=(q3 z.w z.M z.ρ).cells;have hb:P.bytesOf e=i.bytes:=by simp[Program.bytesOf,q1]
    have hsz:i.size=u.cells:=by
     rw[t1];simp[Program.cellsOf,q1]
    have hroom:room=140737488355328:=rfl;have hbytes:(i.bytes:Int)*m<=281474976710656:=by
     rw[hb,hroom] at h16;have e1:m=(m':Int):=by omega
     have e2:((m'*i.bytes:Nat):Int)<=140737488355328:=by omega
     rw[e1,Int.mul_comm];rw[Int.natCast_mul] at e2;omega
    have hrun:=run_make (P:=P) z.w t e i v hu q1 q2 kl kc n m hn.1 (by omega) hbytes (by rw[hroom] at hm;omega);rw[hsz] at hrun;have hnm:n'<=m':=by omega
    obtain⟨z',p1,p2,p3,p4⟩:=aKZ (z:=z) (w':=z.w.alloc (.cells (madeCells v.cells (m.toNat*u.cells)) e)) (e:=e) (l:=List.replicate n' u.zero) hH h13 hd (heap_alloc_new _ _) (okR0 _) rfl ⟨rfl,ZAM _⟩ rfl (fun k hk=>heap_alloc_old _ _ _ hk)
     (by rw[ZAx,size_madeCells];exact ZAf _ (by omega)) t2 (RowsIn.made c1 n' m.toNat (by omega) t2)
    refine .mk' (by rw[p1];exact hrun) p2 (x:=.slf u.cells id) ?_ p3 h14;rw[h7];refine .slf _ _ _ _ _ _ (by rw[p4,ZAx]) (by omega) (by rw[size_madeCells];exact ZAM _) ?_;rw[hroom] at hm;unfold maxLen;omega
   ·cases h7
  ·cases h5
 ·cases h
end
end Go.Ab
namespace Go.Ab
section
variable {P : Program} {β : Type} {z : Z} {H : Hp}
theorem f0Z{pl:Nat->Option (Nat×Nat)}:∀{parts:List (Nat×AV)} {c c':List AV},fillA pl c parts=some c'->c'.length=c.length
 |[],c,c',h=>by simp[fillA] at h;rw[h]
 |(i,a)::parts,c,c',h=>by
  simp only[fillA] at h;obtain⟨⟨off,size⟩,h2,h3⟩:=agZ.1 h;obtain⟨l,h4,h5⟩:=agZ.1 h3;cases hb:(Nat.beq l.length size&&Nat.ble (off+l.length) c.length)<;>rw[hb] at h5<;>simp only[bq_true,bq_false] at h5
  ·cases h5
  ·rw[f0Z h5,crZ]
theorem AReps.rep{l:List AV}{vs:List Value}(h:AReps z l vs):∀n,AReps z (List.replicate n l).flatten (List.replicate n vs).flatten
 |0=>.nil
 |n+1=>by
  rw[List.replicate_succ,List.replicate_succ,ZBM,ZBM];exact h.append (AReps.rep h n)
theorem jzZ{α:Type}(l:List α)(n:Nat):(List.replicate n l).flatten.length=n*l.length:=by simp
theorem fbZ(zs:Array Value)(n:Nat):(madeCells zs (n*zs.size)).toList=(List.replicate n zs.toList).flatten:=by
 rcases ZBj zs.size with h0|h0
 ·have hz:zs.toList=[]:=ZAR (by simpa using h0);rw[h0,Nat.mul_zero,hz];simp[madeCells]
 ·apply List.ext_getElem?;intro k;by_cases hk:k<n*zs.size
  ·have hq:k/zs.size<n:=Nat.div_lt_of_lt_mul (by rw[Nat.mul_comm];exact hk);have hm:k%zs.size<zs.size:=ZCF _ h0;rw[ZA0,kdZ _ _ _ hk h0];have:=gLZ (css:=List.replicate n zs.toList) (c:=zs.size) (fun u hu=>by rw[ZBX hu];simp) (k:=k/zs.size) (us:=zs.toList) (by rw[ZB1];simp[hq]) (q:=k%zs.size) (w:=zs[k%zs.size]) (by simp[hm]);rw[Nat.mul_comm,Nat.div_add_mod] at this;rw[this];simp[hm]
  ·rw[ZAt,ZAt]
   ·rw[jzZ];simp;omega
   ·rw[ZA3,size_madeCells];omega
theorem bLZ(w:World)(t e:TypeId)(len:Nat)(parts:Array (Nat×Value))(cells:Array Value)(ie:TypeInfo)(z:Value)
 (hu:P.underlying t=some (.slice e))(hie:P.info? e=some ie)(hz:ie.zero=some z)(hsmall:¬len*ie.size>2^24)
 (h:Instr.fill (fun i=>some (i*ie.size,ie.size)) (madeCells z.cells (len*ie.size)) parts.toList=some cells):
 (Instr.buildSlice t len parts).run P w= .ok (.slice (some ⟨w.heap.size,0,none⟩) len len) (w.alloc (.cells cells e)):=by
 by_cases hpos:len*ie.size=0
 ·have hm:madeCells z.cells (len*ie.size)=#[]:=by rw[hpos];simp[madeCells,Array.range_zero']
  rw[hm] at h;simp[Instr.buildSlice,run_underlying hu,sizeOf,typeInfo,hie,hpos,Array.range_zero',h,newRow]
 ·exact run_buildSlice w t e len parts cells ie z hu hie hz hsmall hpos h
theorem ePZ{t:TypeId}{len:Nat}{parts:List (Nat×AV)}{vparts:Array (Nat×Value)}{vs:Bool}{rb:Option Nat}{id:Nat}{K:AV->Hp->Option β}{r:β}(h:evBuildSlice P t len parts vs rb id H K=some r)(hH:HRep z H)(hd:¬z.D id)
 (hp:PReps z parts vparts.toList):Ok P (Instr.buildSlice t len vparts) z K r:=by
 unfold evBuildSlice at h;simp only[dqZ] at h;split at h
 ·rename_i e hu;obtain⟨zl,h1,h2⟩:=agZ.1 h;obtain⟨u,h3,h4⟩:=agZ.1 h2;obtain⟨h5,h6⟩:=aeZ.1 h4;obtain⟨c,h7,h8⟩:=agZ.1 h6;simp only[ZAB,acZ,ZAm] at h5;obtain⟨h11,h12⟩:=h5;have h12':len*u.cells<=16777216:=by rw[<-h11];exact h12
  obtain⟨t1,t2,_⟩:=cmZ h3;obtain⟨i,v0,q1,q2,q3,q4⟩:=fkZ (z:=z) h1;have hsz:i.size=u.cells:=by rw[t1];simp[Program.cellsOf,q1]
  have hv0:v0.cells.size=u.cells:=by have:=q3.1;simp at this;omega
  have hcell:P.cellsOf e=i.size:=by simp[Program.cellsOf,q1]
  have hzero:(madeCells v0.cells (len*i.size)).toList=(List.replicate len v0.cells.toList).flatten:=by
   rw[hsz,<-hv0];exact fbZ _ _
  rw[hcell] at h7;obtain⟨cs',p1,p2,p3⟩:=e8Z (cs:=madeCells v0.cells (len*i.size)) h7 (by rw[hzero];exact q3.rep len) (fun x hx=>by
   have:x∈(List.replicate len v0.cells.toList).flatten:=by rw[<-hzero];simpa using hx
   obtain⟨y,hy,hxy⟩:=List.mem_flatten.1 this;rw[ZBX hy] at hxy;exact q4 x (by simpa using hxy)) hp.1 hp.2
  cases vs<;>simp only[bq_true,bq_false] at h8
  case true=>
   obtain⟨hu1,hb⟩:=aeZ.1 h8;rw[acZ] at hu1;obtain⟨b1,b2⟩:=a5Z.1 hb;have hcl:c.length=len*u.cells:=by rw[f0Z h7,jzZ,h11]
   have hcs:cs'.size=len:=by have:=p2.1;simp at this;rw[hu1,Nat.mul_one] at hcl;omega
   obtain⟨z',d1,d2,d3,d4⟩:=hCZ (z:=z) (w':=z.w.alloc (.cells cs' e)) hH b1 hd (heap_alloc_new _ _) (okF0 _) rfl ⟨rfl,ZAM _⟩ rfl (fun k hk=>heap_alloc_old _ _ _ hk) p2 (fun v hv=>p3 v (by simpa using hv));refine .mk' (by rw[d1];exact bLZ z.w t e len vparts cs' i v0 hu q1 q2 (by rw[hsz];omega) p1) d2 (x:=.slf 1 id) ?_ d3 b2;exact .slf _ _ _ _ _ _ (by rw[d4,hcs]) (ZAM _) (by rw[Nat.mul_one];omega) (by rw[hu1,Nat.mul_one] at h12';unfold maxLen;omega)
  obtain⟨⟨c',H1⟩,h9,h10⟩:=agZ.1 h8;obtain⟨z1,s1,s2,s3,s4,s5⟩:=gPZ hH h9 p2;have hcl:c.length=len*u.cells:=by rw[f0Z h7,jzZ,h11]
  have hc'l:c'.length=len*u.cells:=by
   have e1:=s5.1;have e2:=p2.1;omega
  have hwc:(rowTy H rb u).cells=u.cells:=by
   unfold rowTy
   repeat' split
   all_goals first|rfl|(rename_i hq;rw[<-hq];first|rfl|exact(azZ _).symm)
  generalize rowTy H rb u=wt at h10 hwc;obtain⟨l,css,a1,a2,a3,a4,a5⟩:=jhZ (z:=z1) (t:=wt) (c:=u.cells) (asm wt) (fun h hr hl h1=>gnZ h hr (by rw[hwc];exact hl) h1) len h10 s5 hc'l (fun v hv=>p3 v (by simpa using hv));obtain⟨b1,b2⟩:=a5Z.1 a5;have hcs:cs'.size=len*u.cells:=by have:=p2.1;simp at this;omega
  obtain⟨z',d1,d2,d3,d4⟩:=aKZ (z:=z1) (w':=z1.w.alloc (.cells cs' e)) (e:=e) (l:=l) s2 b1 (by rw[s3.dom];exact hd) (heap_alloc_new _ _) (okR0 _) rfl ⟨rfl,ZAM _⟩ rfl (fun k hk=>heap_alloc_old _ _ _ hk)
   (by rw[a1,hcs,hwc];exact ZAM _) (by rw[hwc];exact t2) (by have:=RowsIn.css (by rw[a1,a2]) a4 [];rw[ZA1,<-a3] at this;exact this)
  refine .mk' (by rw[d1,s1];exact bLZ z.w t e len vparts cs' i v0 hu q1 q2 (by rw[hsz];omega) p1) d2 (x:=.slf u.cells id) ?_ (s3.trans d3) b2;rw[<-s1];refine .slf _ _ _ _ _ _ (by rw[d4,a1]) (ZAM _) (by rw[hcs];exact ZAM _) ?_;have:len<=len*u.cells:=Nat.le_mul_of_pos_right _ t2;unfold maxLen;omega
 ·cases h
theorem jfZ(w:World)(C:Array Value)(e:TypeId)(k:Nat):(w.alloc (.cells C e)).freeze ⟨w.heap.size,k,none⟩ 1=w.alloc (.cells C e (k,k+1)):=by
 have hm:∀(a:Array Obj) (x:Obj) (f:Obj->Obj),(a.push x).modify a.size f=a.push (f x):=by
  intro a x f;apply Array.ext
  ·simp
  ·intro i h1 h2;simp only[Array.getElem_modify,Array.getElem_push];by_cases h:a.size=i
   ·subst h;simp
   ·have hi:i<a.size:=by simp at h1;omega
    simp[h,hi]
 unfold World.freeze;rw[ZAQ (by decide)];show({w.alloc (.cells C e) with heap:=(w.heap.push (.cells C e)).modify w.heap.size _}:World)=_;rw[hm]
 rfl
theorem l6Z(w:World)(C:Array Value)(e:TypeId):(w.alloc (.cells C e)).shape? w.heap.size=some (e,C.size):=by
 unfold World.shape?;rw[heap_alloc_new]
def byteRow(l:List UInt8)(c:Nat):Array Value:=(l.map fun b=>Value.int .u8 (b.toNat:Int)).toArray++Array.replicate (c-l.length) (.int .u8 0)
theorem eaZ(w:World)(l:List UInt8)(e:TypeId):(Conv.stringToBytes e ⟨⟨l⟩⟩).run P w=
 .ok (.slice (some ⟨w.heap.size,0,none⟩) l.length (grownCap w l.length 0 e)) (w.drew.alloc (.cells (byteRow l (grownCap w l.length 0 e)) e ((byteRow l (grownCap w l.length 0 e)).size,(byteRow l (grownCap w l.length 0 e)).size+1))):=by
 have hs:(w.drew.alloc (.cells (byteRow l (grownCap w l.length 0 e)) e)).shape? w.heap.size=_:=l6Z w.drew (byteRow l (grownCap w l.length 0 e)) e;have hf:(w.drew.alloc (.cells (byteRow l (grownCap w l.length 0 e)) e)).freeze ⟨w.heap.size,_,none⟩ 1=_:=jfZ w.drew (byteRow l (grownCap w l.length 0 e)) e (byteRow l (grownCap w l.length 0 e)).size;have hq:(Question.appendCap (⟨⟨l⟩⟩:ByteArray).size 0 e).cut (w.tape w.drawn (.appendCap (⟨⟨l⟩⟩:ByteArray).size 0 e))=grownCap w l.length 0 e:=rfl;have e1:(List.map (fun b=>Value.int IntKind.u8 (b.toNat:Int)) l).toArray++Array.replicate (grownCap w l.length 0 e-(⟨⟨l⟩⟩:ByteArray).size) (Value.int IntKind.u8 0)=byteRow l (grownCap w l.length 0 e):=rfl;simp[Conv.stringToBytes,newRow,markStringish,Question.forced,hq];rw[e1,hs];simp[hf]
 rfl
theorem lRZ{w:World}{M:Nat->Prop}{ρ:Rho}(l:List UInt8)(c:Nat):RowsIn w M ρ .byte l (byteRow l c).toList:=fun i x hx=>by
 refine⟨[.int .u8 (x.toNat:Int)],rfl,fun j v hj=> ?_⟩
 match j with
 |0=>
  simp at hj;have hi:i<l.length:=(ZAC.1 hx).1;simp only[byteRow,ZBp];rw[ZAL (by simp[Ty.cells];omega)];simp[Ty.cells,hx,hj]
 |j+1=>simp at hj
theorem HRep.cut{f:Nat}{e:TypeId}{s:Ty}{ms ms2:List (Nat×List s.den)}(hH:HRep z H)(hg:hget H (famId f)=some ⟨false,.fam e s ms⟩)(hlen:ms2.length=ms.length)
 (hm:∀(k:Nat) (m:Nat×List s.den),ms2[k]? =some m->m.1≠0->ms[k]? =some m):HRep z (hset H (famId f) (some ⟨false,.fam e s ms2⟩))/\
  (∀i x,hgetX (hset H (famId f) (some ⟨false,.fam e s ms2⟩)) i=some x->hgetX H i=some x/\∀k,i=enc f k->∃m,ms2[k]? =some m/\m.1≠0)/\
  ∀i,hkey (hset H (famId f) (some ⟨false,.fam e s ms2⟩)) i=hkey H i:=by
 have hX:∀i x,hgetX (hset H (famId f) (some ⟨false,.fam e s ms2⟩)) i=some x->hgetX H i=some x/\∀k,i=enc f k->∃m,ms2[k]? =some m/\m.1≠0:=fun i x h=>by
  by_cases hi:∃k,i=enc f k
  ·obtain⟨k,rfl⟩:=hi;rw[(bpZ H f _ 0).1 k] at h;simp only[ZAA,pick] at h;cases hk:ms2[k]? with
   |none=>rw[hk] at h;cases h
   |some m=>
    rw[hk] at h;obtain⟨st,l⟩:=m;simp only at h;by_cases h0:st=0
    ·rw[ZAT h0] at h;cases h
    ·refine⟨?_,fun k' hk'=> ?_⟩
     ·rw[cdZ,hg];simp only[ZAA,pick];rw[hm k _ hk h0];exact h
     ·obtain rfl:=(hyZ hk').2;exact⟨_,hk,h0⟩
  ·rw[(bpZ H f _ i).2 fun k h=>hi ⟨k,h⟩] at h;exact⟨h,fun k hk=>absurd ⟨k,hk⟩ hi⟩
 have hK:∀i,hkeyX (hset H (famId f) (some ⟨false,.fam e s ms2⟩)) i=false->hkeyX H i=false:=fun i hi=>by
  by_cases hi':∃k,i=enc f k
  ·obtain⟨k,rfl⟩:=hi';rw[(b5Z H f _ 0).1 k] at hi;rw[awZ (bvZ f k),cVZ,l4Z,hg];simpa[Ent.has,hlen] using hi
  ·rwa [(b5Z H f _ i).2 fun k h=>hi' ⟨k,h⟩] at hi
 have hk1:∀i,hkey (hset H (famId f) (some ⟨false,.fam e s ms2⟩)) i=hkey H i:=fun i=>by
  rw[asZ];by_cases hi:i=famId f
  ·rw[hi,ahZ hg];simp
  ·simp[hi]
 refine⟨⟨fun i x h=>hH.ent i x (hX i x h).1,fun i i' x x' g sz n g' sz' n' hii p1 p2 m1 m2 p3 p4=>hH.inj i i' x x' g sz n g' sz' n' hii (hX _ _ p1).1 (hX _ _ p2).1 m1 m2 p3 p4,fun i hi=>hH.fresh i (hK i hi),hH.sub,fun i x h=> ?_,fun i h=>hH.key i (by rw[<-hk1];exact h),fun i hd h=>hH.dyn i hd (by rw[<-hk1];exact h),hH.nos⟩,hX,hk1⟩;rw[aoZ] at h;by_cases hi:i=famId f
 ·rw[ZAT hi] at h;injection h with h;subst h;rw[hi];have hf:=hH.fam _ _ hg;exact hf
 ·rw[ZAQ hi] at h;exact hH.fam i x h
theorem HRep.same{H':Hp}(hH:HRep z H)(h1:∀id,hget H' id=hget H id)(h2:∀id,hkey H' id=hkey H id):HRep z H':=by
 have hX:∀id,hgetX H' id=hgetX H id:=fun id=>bOZ (h1 _);have hK:∀id,hkeyX H' id=hkeyX H id:=fun id=>cBZ (h1 _) (h2 _);exact⟨fun i e hi=>hH.ent i e (by rw[<-hX];exact hi),fun i i' e e' a sa na a' sa' na' hii q1 q2=>hH.inj i i' e e' a sa na a' sa' na' hii (by rw[<-hX];exact q1) (by rw[<-hX];exact q2),fun i hi=>hH.fresh i (by rw[<-hK];exact hi),hH.sub,
  fun i x h=>hH.fam i x (by rw[<-h1];exact h),fun i h=>hH.key i (by rw[<-h2];exact h),fun i hd h=>hH.dyn i hd (by rw[<-h2];exact h),hH.nos⟩
theorem HRep.unset{id:Nat}{e:Ent}(hg:hget H id=some e)(hH:HRep z (hset H id (some e))):HRep z H:=by
 refine hH.same (fun k=> ?_) fun k=> ?_
 ·rw[aoZ];by_cases h:k=id
  ·subst h;rw[ZAT rfl,hg]
  ·rw[ZAQ h]
 ·rw[asZ];by_cases h:k=id
  ·subst h;simp[ahZ hg]
  ·simp[h]
theorem pSZ{w:World}{g:Nat}{cs:Array Value}{e:TypeId}{fr:Nat×Nat}(h:w.heap[g]? =some (.cells cs e fr))(hf:okF cs fr):
 ∃w' fr',(markStringish ⟨g,0,none⟩).run P w= .ok () w'/\w'.heap[g]? =some (.cells cs e fr')/\okF cs fr'/\w'.os=w.os/\(w'.tape=w.tape/\w.drawn<=w'.drawn)/\w'.output=w.output/\w'.heap.size=w.heap.size/\∀b,b≠g->w'.heap[b]? =w.heap[b]? :=by
 have hs:w.shape? g=some (e,cs.size):=by unfold World.shape?;rw[h]
 refine⟨w.freeze ⟨g,cs.size,none⟩ 1,(if fr.1==fr.2 then(cs.size,cs.size+1) else(min fr.1 cs.size,max fr.2 (cs.size+1))),by simp[markStringish,hs],?_,?_,rfl,⟨rfl,ZAM _⟩,rfl,?_,fun b hb=> ?_⟩
 ·simp[World.freeze,ZBv,h]
 ·unfold okF;rcases hf with hf|hf
  ·simp[hf]
  ·split
   ·simp
   ·right;simp only;omega
 ·simp[World.freeze]
 ·simp[World.freeze,ZBv,ZBd hb]
theorem hkZ{src dst:TypeId}{a:AV}{v:Value}{id:Nat}{K:AV->Hp->Option β}{r:β}(h:evConvertW P src dst a id H K=some r)(hH:HRep z H)(hD:P.underlying src=some .string->¬z.D id)(ha:ARep z a v):Ok P (convert src dst v) z K r:=by
 unfold evConvertW at h;split at h
 ·rename_i e hs hd;cases hb:isB P e<;>rw[hb] at h<;>simp only[bq_true,bq_false] at h
  ·cases h
  obtain⟨l,h1,h2⟩:=agZ.1 h;obtain⟨h3,h4⟩:=aeZ.1 h2;obtain⟨h5,h6⟩:=a5Z.1 h4;rw[ZAm] at h3;obtain rfl:=diZ h1 ha;have he:=qtZ hb;have hroom:room=140737488355328:=rfl;have hrun:(convert src dst (.string ⟨⟨l⟩⟩)).run P z.w=(Conv.stringToBytes e ⟨⟨l⟩⟩).run P z.w:=by
   simp only[convert,Sem.run_bind,run_underlying hs,run_underlying hd,Result.andThen_ok,run_underlying he]
  have hge:=grownCap_ge z.w l.length 0 e;have hbs:(byteRow l (grownCap z.w l.length 0 e)).size=grownCap z.w l.length 0 e:=by simp[byteRow];omega
  obtain⟨z',p1,p2,p3,p4⟩:=aKZ (z:=z) (u:=.byte) (w':=z.w.drew.alloc (.cells (byteRow l (grownCap z.w l.length 0 e)) e ((byteRow l (grownCap z.w l.length 0 e)).size,(byteRow l (grownCap z.w l.length 0 e)).size+1))) (e:=e) (l:=l) hH h5 (hD hs)
   (heap_alloc_new z.w.drew _) (.inr ⟨rfl,ZAM _⟩) rfl ⟨rfl,ZBb _⟩ rfl (fun k hk=>heap_alloc_old z.w.drew _ _ hk)
   (by rw[hbs];simp[Ty.cells];exact hge) (by decide) (lRZ _ _)
  refine .mk' (by rw[p1];exact hrun.trans (eaZ z.w l e)) p2 (x:=.slf 1 id) ?_ p3 h6;exact .slf _ _ _ _ _ _ p4 hge (by rw[hbs,Nat.mul_one];exact ZAM _) (grownCap_le_maxLen _ _ _ _ (by unfold maxLen;omega))
 ·rename_i e0 e hs hd;split at h
  ·rename_i es old;split at h
   ·rename_i e' l hg;cases hb:(Nat.beq src dst&&isB P e&&Nat.beq es 1)<;>rw[hb] at h<;>simp only[bq_true,bq_false] at h
    ·cases h
    simp only[ZAB,acZ] at hb;obtain⟨⟨rfl,hB⟩,rfl⟩:=hb;obtain rfl:e0=e:=by rw[hs] at hd;simpa using hd
    obtain⟨h1,h2⟩:=aeZ.1 h;have h1':0<List.length (α:=UInt8) l:=by simpa[ZBW] using h1
    have he:=qtZ hB;cases ha with
    |slfV _ _ A hρ=>
     obtain⟨rfl,_⟩:=hH.virt hg hρ;exact absurd h1' (ZBL _)
    |slf _ _ g sz n c hρ hn hs' hm=>
     obtain⟨b1,b2,b3,b4⟩:=hH.real hg hρ;obtain⟨cs,fr,a1,a2,a3,a4,a5,a6,a7⟩:=b4;obtain⟨w',fr',m1,m2,m3,m4,m5,m6,m7,m8⟩:=pSZ (P:=P) a1 a2.f;obtain⟨p1,p2⟩:=hH.write (w':=w') (b:=.rows e' .byte l) hg hρ m4 m5 m6 m7 m8 (fun k=>by
      refine⟨cs,fr',m2,m3.imp (fun h=>h) (fun h=>⟨rfl,h⟩),a3,a4,a5,a6,fun i x hx=> ?_⟩;obtain⟨u,c1,c2⟩:=a7 i x hx;exact⟨u,c1.kp k,c2⟩)
     refine .mk' (z':={z with w:=w'}) ?_ (p1.unset hg) (x:=.slf 1 old) (.slf _ _ _ _ _ _ hρ hn hs' hm) p2 h2;simp only[convert,Sem.run_bind,run_underlying hs,run_underlying hd,Result.andThen_ok,run_underlying he,ZAV,m1]
     rfl
   ·cases h
  ·cases h
 ·cases h
end
end Go.Ab
namespace Go.Ab
section
variable {P : Program} {β : Type} {z : Z} {H : Hp}
theorem HRep.moveX{old id g sz n n':Nat}{b0 b:Blk}{w':World}{H1:Hp}(hH:HRep z H)(hg:hgetX H old=some ⟨false,b0⟩)(hρ:z.ρ old= .real g sz n)(h1H:HRep z H1)(hX1:∀i e,hgetX H1 i=some e->hgetX H i=some e/\i≠old/\¬(Ro i/\Ro old))(hk:hkey H1 id=false/\id<famBase)(hd:¬z.D id)
 (hos:w'.os=z.w.os)(htape:w'.tape=z.w.tape/\z.w.drawn<=w'.drawn)(hout:w'.output=z.w.output)(hsz:w'.heap.size=z.w.heap.size)(hne:∀b,b≠g->w'.heap[b]? =z.w.heap[b]?)
 (hb:∀z',z'.w=w'->Kp z z'->BRep z' g sz n' b):
 ∃z',z'.w=w'/\HRep z' (hset H1 id (some ⟨false,b⟩))/\Nx z z'/\z'.ρ id= .real g sz n':=by
 obtain⟨hk,hid⟩:=hk;have hC:=(hH.realX hg hρ).2.1 rfl;have hno:=(h1H.fresh id (by rw[a3Z hid];exact hk)).resolve_right hd
 let z':Z:={z with w:=w',ρ:=fun i=>if i=id then .real g sz n' else z.ρ i}
 have e1:∀i,i≠id->z'.ρ i=z.ρ i:=fun i hi=>ZAQ hi;have e2:z'.ρ id= .real g sz n':=ZAT rfl;have hn:Nx z z':=⟨hos,htape,hout,Nat.le_of_eq hsz.symm,fun b _ hb=>hne b (fun h=>hb (h▸hC)),fun _ h=>.inl h,fun _ h=>.inl h,fun _ _ h _=>h,fun i hi=>e1 i (by rintro rfl;exact hi hno),rfl⟩;have hkp:=hn.kp hH.sub;have hold:∀i e,i≠id->hgetX (hset H1 id (some ⟨false,b⟩)) i=some e->hgetX H i=some e/\i≠old/\¬(Ro i/\Ro old):=fun i e hi h=>by
  rw[a1Z hid,ZAQ hi] at h;exact hX1 i e h
 have s:=h1H.side (z':=z') (e:=some ⟨false,b⟩) hid (fun x hx=>by injection hx with hx;subst hx;exact(hb z' rfl hkp).famOk hid) rfl (fun i h1 _=>e1 i (by omega));refine⟨z',rfl,⟨fun i e hi=> ?_,fun i i' e e' a sa na a' sa' na' hii h1 h2 m1 m2 h3 h4=> ?_,fun i hi=> ?_,hH.sub,s.1,s.2.1,s.2.2.1,s.2.2.2⟩,hn,e2⟩
 ·by_cases h:i=id
  ·subst h;rw[a1Z hid,ZAT rfl] at hi;injection hi with hi;subst hi;unfold ERep;rw[e2];exact⟨by show g<w'.heap.size;rw[hsz];exact(hH.realX hg hρ).1,fun _=>hC,(fun h=>by cases h),hb z' rfl hkp⟩
  ·obtain⟨hi,ho,hr⟩:=hold i e h hi;refine(hH.ent _ _ hi).kp hkp fun a sa na ha=>⟨hne a (fun hag=> ?_),fun h=>h⟩;subst hag;exact hH.ne ho hi hg rfl ha hρ hr rfl
 ·by_cases hi:i=id
  ·have hi':i'≠id:=fun h=>hii (hi.trans h.symm);obtain⟨h2,ho,hr⟩:=hold i' e' hi' h2;rw[hi,e2] at h3;rw[e1 _ hi'] at h4;injection h3 with h3;subst h3;exact fun _=>hH.inj old i' _ _ _ _ _ _ _ _ (ZBd ho) hg h2 rfl m2 hρ h4 fun h=>hr h.symm
  ·obtain⟨h1,ho,hr⟩:=hold i e hi h1;rw[e1 _ hi] at h3;by_cases hi':i'=id
   ·rw[hi',e2] at h4;injection h4 with h4;subst h4;exact fun _=>hH.inj i old _ _ _ _ _ _ _ _ ho h1 hg m1 rfl h3 hρ hr
   ·obtain⟨h2,ho',_⟩:=hold i' e' hi' h2;rw[e1 _ hi'] at h4;exact hH.inj i i' _ _ _ _ _ _ _ _ hii h1 h2 m1 m2 h3 h4
 ·rw[bbZ hid] at hi;simp at hi;rw[e1 _ hi.1];exact h1H.fresh i hi.2
theorem HRep.move{old id g sz n n':Nat}{b0 b:Blk}{w':World}(hH:HRep z H)(hg:hget H old=some ⟨false,b0⟩)(hρ:z.ρ old= .real g sz n)(hk:hkey (hset H old none) id=false/\id<famBase)(hd:¬z.D id)
 (hos:w'.os=z.w.os)(htape:w'.tape=z.w.tape/\z.w.drawn<=w'.drawn)(hout:w'.output=z.w.output)(hsz:w'.heap.size=z.w.heap.size)(hne:∀b,b≠g->w'.heap[b]? =z.w.heap[b]?)
 (hb:∀z',z'.w=w'->Kp z z'->BRep z' g sz n' b):
 ∃z',z'.w=w'/\HRep z' (hset (hset H old none) id (some ⟨false,b⟩))/\Nx z z'/\z'.ρ id= .real g sz n':=by
 have hlow:=hH.low hg (aGZ hρ);refine hH.moveX (hH.x hg (aGZ hρ)) hρ (hH.kill (ahZ hg)) (fun i e h=> ?_) hk hd hos htape hout hsz hne hb;rw[a1Z hlow] at h;by_cases ho:i=old
 ·rw[ZAT ho] at h;cases h
 ·rw[ZAQ ho] at h;exact⟨h,ho,fun h=>bwZ hlow h.2⟩
theorem RowsIn.append{w:World}{M:Nat->Prop}{ρ:Rho}{u:Ty}{l m:List u.den}{cs cs':List Value}{css:List (List Value)}(h:RowsIn w M ρ u l cs)(hl:css.length=m.length)
 (hm:∀(i:Nat) e us,m[i]? =some e->css[i]? =some us->Cl w M ρ u e us)(h1:∀q,q<l.length*u.cells->cs'[q]? =cs[q]?)(h2:∀q v,css.flatten[q]? =some v->cs'[l.length*u.cells+q]? =some v):
 RowsIn w M ρ u (l++m) cs':=fun i x hx=>by
 by_cases hi:i<l.length
 ·rw[ZAL hi] at hx;obtain⟨us,a1,a2⟩:=h i x hx;refine⟨us,a1,fun j v hj=> ?_⟩;have hjl:j<u.cells:=by
   have:=(ZAC.1 hj).1;rw[a1.len] at this;exact this
  rw[h1 _ (kBZ hi hjl)];exact a2 j v hj
 ·rw[ZAO (by omega)] at hx;obtain⟨us,a1,a2⟩:=RowsIn.css hl hm [] _ x hx;refine⟨us,a1,fun j v hj=> ?_⟩;have:=a2 j v hj;rw[ZA1] at this;have:=h2 _ _ this;rw[<-this];congr 1;obtain⟨d,hd⟩:∃d,i=l.length+d:=⟨i-l.length,by omega⟩;subst hd;rw[ZAz,ZAo];omega
theorem RowsIn.take{w:World}{M:Nat->Prop}{ρ:Rho}{u:Ty}{l:List u.den}{cs:List Value}(h:RowsIn w M ρ u l cs)(n:Nat):RowsIn w M ρ u (l.take n) cs:=fun i x hx=>by
 rw[ZAn] at hx;split at hx
 ·exact h i x hx
 ·cases hx
theorem q7Z(b o j:Nat):(⟨b,o,none⟩:Addr).add j=⟨b,o+j,none⟩:=by unfold Addr.add;split<;>simp_all
theorem RowsRep.src{u:Ty}{m:List u.den}{v:Value}{tx:TypeId}(hk:(∃e',P.underlying tx=some (.slice e'))\/P.underlying tx=some .string)(h:RowsRep z u m v):
 ∃css:List (List Value),Src P u.cells tx v m.length css.flatten z.w/\css.length=m.length/\∀(i:Nat) e us,m[i]? =some e->css[i]? =some us->Cl z.w z.M z.ρ u e us:=by
 rcases h with⟨hu,rfl⟩|⟨A,c,rfl,hc,hm,hA⟩
 ·subst hu;refine⟨m.map fun b=>[Value.int .u8 (b.toNat:Int)],?_,by simp,fun i e us h1 h2=> ?_⟩
  ·have e1:(List.map (fun b:UInt8=>[Value.int .u8 (b.toNat:Int)]) m).flatten=byteCells ⟨⟨m⟩⟩:=by
    show _=List.map _ m;generalize (m:List UInt8)=q;induction q with
    |nil=>rfl
    |cons b q ih=>simp[ih]
   rw[e1];exact⟨hk,fun _=>rfl,firstCells_string ⟨⟨m⟩⟩ z.w,firstCells_string ⟨⟨m⟩⟩ z.w.drew,by rw[byteCells_length];simp[Ty.cells];rfl,fun u hu=>by
    obtain⟨_,_,rfl⟩:=ZCB.1 hu
    rfl⟩
  ·rw[ZAW] at h2;obtain⟨b,h3,rfl⟩:=ZAH.1 h2;have:some e=some b:=h1.symm.trans h3;injection this with this;subst this
   rfl
 ·by_cases h0:m.length=0
  ·obtain rfl:m=[]:=ZAR h0;refine⟨[],⟨hk,fun _=>rfl,?_,?_,by simp,fun _ h=>by cases h⟩,rfl,fun i e us h=>by simp at h⟩
   ·cases A with
    |none=>exact run_firstCells_none z.w u.cells 0 0 c
    |some a=>exact run_firstCells_some z.w u.cells 0 a 0 c [] (by simp) (fun j v h=>by simp at h)
   ·cases A with
    |none=>exact run_firstCells_none z.w.drew u.cells 0 0 c
    |some a=>exact run_firstCells_some z.w.drew u.cells 0 a 0 c [] (by simp) (fun j v h=>by simp at h)
  ·obtain⟨b,off,rfl,_,hr⟩:=hA h0;obtain⟨css,q1,q2,q3⟩:=hr.cells;have hl:css.flatten.length=m.length*u.cells:=by rw[aMZ (n:=u.cells) (cjZ q1 q2),q1]
   have hcell:∀j v,css.flatten[j]? =some v->z.w.cell? ((⟨b,off,none⟩:Addr).add j)=some v:=fun j v hj=>by rw[q7Z];exact q3 j v hj
   refine⟨css,⟨hk,fun _=>rfl,run_firstCells_some z.w u.cells _ _ _ _ _ hl hcell,run_firstCells_some z.w.drew u.cells _ _ _ _ _ hl hcell,hl,fun v hv=> ?_⟩,q1,q2⟩;obtain⟨us,h1,h2⟩:=List.mem_flatten.1 hv;obtain⟨k,hk⟩:=ZAe h1;obtain⟨e,he⟩:=aJZ (l:=m) q1 hk;exact(q2 k e us he hk).one v h2
theorem RowsRep.lift{t:Ty}{m:List t.unref.den}{v:Value}(h:RowsRep z t.unref m v):RowsRep z t (m.map (liftT t)) v:=by
 rcases h with⟨hb,rfl⟩|⟨A,c,rfl,h1,h2,h3⟩
 ·cases t<;>first|(cases hb;done)|skip;refine .inl ⟨rfl,?_⟩;have:(m.map (liftT .byte))=m:=List.map_id m;rw[this]
  rfl
 ·have hl:(m.map (liftT t)).length=m.length:=ZBB _;refine .inr ⟨A,c,by rw[hl],by rw[hl];exact h1,h2,fun h0=> ?_⟩;rw[hl] at h0;obtain⟨b,off,q1,q2,q3⟩:=h3 h0;refine⟨b,off,q1,q2,fun i x hx=> ?_⟩;rw[ZAW] at hx;obtain⟨y,hy,rfl⟩:=ZAH.1 hx;obtain⟨us,p1,p2⟩:=q3 i y hy;rw[azZ] at p2;exact⟨us,dDZ p1,p2⟩
theorem nxZ{e:TypeId}{n:Nat}(h:zlen P e n=true):∃i v,P.info? e=some i/\i.zero=some v/\v.cells.size=n:=by
 unfold zlen at h;split at h
 ·rename_i i hi;split at h
  ·rename_i v hv;rw[acZ] at h;exact⟨i,v,hi,hv,h⟩
  ·cases h
 ·cases h
theorem dOZ{e:TypeId}{n:Nat}{i:TypeInfo}(h:roomOk P e n=true)(hi:P.info? e=some i):n*i.bytes<=140737488355328/\n<=140737488355328:=by
 unfold roomOk at h;simp only[ZAB,ZAm] at h;have hb:P.bytesOf e=i.bytes:=by simp[Program.bytesOf,hi]
 rw[hb] at h;exact h
theorem cgZ{t tx ty e:TypeId}{A:Option Addr}{u:Ty}{m:List u.den}{x:Value}{id:Nat}{K:AV->Hp->Option β}{r:β}(hH:HRep z H)(hk:hkey H id=false/\id<famBase)(hd:¬z.D id)(hu:P.underlying t=some (.slice e))
 (hc:u.cells=P.cellsOf e)(hc0:0<u.cells)(hz:zlen P e u.cells=true)(hroom:roomOk P e m.length=true)
 (hkd:(∃e',P.underlying tx=some (.slice e'))\/P.underlying tx=some .string)(hx:RowsRep z u m x)(h:K (.slf u.cells id) (hset H id (some ⟨false,.rows e u m⟩))=some r):
 Ok P (Builtin.append_ #[t,tx] ty #[.slice A 0 0,x]) z K r:=by
 obtain⟨i,v,q1,q2,q3⟩:=nxZ hz;obtain⟨r1,r2⟩:=dOZ hroom q1;have hsz:i.size=u.cells:=by rw[hc];simp[Program.cellsOf,q1]
 obtain⟨css,s1,s2,s3⟩:=hx.src hkd;rcases ZBj m.length with h0|h0
 ·obtain rfl:m=[]:=ZAR h0;obtain rfl:css=[]:=ZAR s2;obtain⟨z',p1,p2,p3,p4⟩:=hH.newV (b:=.rows e u []) hk hd ⟨rfl,hc0⟩;exact .mk' (by rw[p1];exact run_append_nothing z.w t tx ty e i hu q1 A 0 0 (ZAM _) x (by rw[hsz];exact s1)) p2 (.slfV _ _ A p4) p3 h
 ·have hge:=grownCap_ge z.w m.length 0 e;have hrun:=run_append_grow_src (P:=P) z.w t tx ty e i v hu q1 q2 A 0 0 [] (by cases A with
   |none=>exact run_firstCells_none z.w.drew i.size 0 0 0
   |some a=>exact run_firstCells_some z.w.drew i.size 0 a 0 0 [] (by simp) (fun j v h=>by simp at h)) x m.length css.flatten (by rw[hsz];exact s1) (by omega) (by omega) (growslice_fits (by omega) (by rw[ZAj];exact r1))
  rw[ZAj,ZBA] at hrun;have hcs:(css.flatten.toArray++Builtin.zeroCells v.cells (grownCap z.w m.length 0 e-m.length)).size=grownCap z.w m.length 0 e*u.cells:=by
   rw[ZBH,size_zeroCells,q3,ZBO,aMZ (n:=u.cells) (cjZ s2 s3),s2,<-Nat.add_mul];congr 1;omega
  obtain⟨z',p1,p2,p3,p4⟩:=aKZ (z:=z) (w':=z.w.drew.alloc (.cells (css.flatten.toArray++Builtin.zeroCells v.cells (grownCap z.w m.length 0 e-m.length)) e)) (e:=e) (l:=m) hH hk hd
   (heap_alloc_new z.w.drew _) (okR0 _) rfl ⟨rfl,ZBb _⟩ rfl (fun k hk=>heap_alloc_old z.w.drew _ _ hk) (by rw[hcs];exact ZAf _ hge) hc0 (by
    rw[ZBp];exact RowsIn.css s2 s3 _)
  exact .mk' (by rw[p1];exact hrun) p2 (.slf _ _ _ _ _ _ p4 hge (by rw[hcs];exact ZAM _) (grownCap_le_maxLen _ _ _ _ (by unfold maxLen;omega))) p3 h
theorem jtZ{t tx ty e e':TypeId}{u:Ty}{l m:List u.den}{x:Value}{id g c:Nat}{i:TypeInfo}{v:Value}{css:List (List Value)}{cs:Array Value}{fr:Nat×Nat}{Hk:Hp}(hK:HRep z Hk)(hk:hkey Hk id=false/\id<famBase)(hd:¬z.D id)
 (a1:z.w.heap[g]? =some (.cells cs e' fr))(hin:RowsIn z.w z.M z.ρ u l cs.toList)(hls:l.length*u.cells<=cs.size)(hc0:0<u.cells)(hsz:i.size=u.cells)(q3:v.cells.size=u.cells)(hbig:l.length+m.length<=140737488355328)
 (s2:css.length=m.length)(s3:∀(i:Nat) e us,m[i]? =some e->css[i]? =some us->Cl z.w z.M z.ρ u e us)(hlt:c<l.length+m.length)
 (hgrow:∀olds:List Value,(Builtin.firstCells i.size l.length (.slice (some ⟨g,0,none⟩) l.length c)).run P z.w.drew= .ok olds.toArray z.w.drew->c<l.length+m.length->
  (Builtin.append_ #[t,tx] ty #[.slice (some ⟨g,0,none⟩) l.length c,x]).run P z.w= .ok (.slice (some ⟨z.w.heap.size,0,none⟩) (l.length+m.length) (grownCap z.w (l.length+m.length) c e))
   (z.w.drew.alloc (.cells ((olds++css.flatten).toArray++Builtin.zeroCells v.cells (grownCap z.w (l.length+m.length) c e-(l.length+m.length))) e))):
 ∃z' V,(Builtin.append_ #[t,tx] ty #[.slice (some ⟨g,0,none⟩) l.length c,x]).run P z.w= .ok V z'.w/\HRep z' (hset Hk id (some ⟨false,.rows e u (l++m)⟩))/\Nx z z'/\ARep z' (.slf u.cells id) V:=by
 have hfl:css.flatten.length=m.length*u.cells:=by rw[aMZ (n:=u.cells) (cjZ s2 s3),s2]
 have hgc:=grownCap_ge z.w (l.length+m.length) c e;have holds:∀j v,(cs.toList.take (l.length*u.cells))[j]? =some v->z.w.cell? ((⟨g,0,none⟩:Addr).add j)=some v:=fun j v hj=>by
  rw[q7Z,bjZ a1,ZAj];rw[ZAn] at hj;split at hj
  ·simpa using hj
  ·cases hj
 have hol:(cs.toList.take (l.length*u.cells)).length=l.length*u.cells:=by rw[ZAS,ZA3 (xs:=cs)];omega
 have hrun:=hgrow (cs.toList.take (l.length*u.cells)) (by
  rw[hsz];exact run_firstCells_some z.w.drew _ _ _ _ _ _ hol holds) hlt
 have hcs':((cs.toList.take (l.length*u.cells)++css.flatten).toArray++Builtin.zeroCells v.cells (grownCap z.w (l.length+m.length) c e-(l.length+m.length))).size=grownCap z.w (l.length+m.length) c e*u.cells:=by
  rw[ZBH,size_zeroCells,q3,ZBO,ZAY,hol,hfl,<-Nat.add_mul,<-Nat.add_mul];congr 1;omega
 obtain⟨z',p1,p2,p3,p4⟩:=aKZ (z:=z) (w':=z.w.drew.alloc (.cells ((cs.toList.take (l.length*u.cells)++css.flatten).toArray++Builtin.zeroCells v.cells (grownCap z.w (l.length+m.length) c e-(l.length+m.length))) e)) (e:=e) (l:=l++m) hK hk hd
  (heap_alloc_new z.w.drew _) (okR0 _) rfl ⟨rfl,ZBb _⟩ rfl (fun k hk=>heap_alloc_old z.w.drew _ _ hk) (by rw[hcs',ZAY];exact ZAf _ hgc) hc0 (by
   refine hin.append s2 s3 (fun q hq=> ?_) fun q v hq=> ?_
   ·rw[ZBp,ZAL (by show _<(cs.toList.take (l.length*u.cells)++css.flatten).length;rw[ZAY,hol,hfl];omega)];rw[ZAL (by rw[hol];exact hq),ZBN hq]
   ·have hq':=(ZAC.1 hq).1;rw[ZBp,ZAL (by show _<(cs.toList.take (l.length*u.cells)++css.flatten).length;rw[ZAY,hol,hfl];omega)];rw[ZAO (by rw[hol];omega),hol,ZAz];exact hq)
 exact⟨z',_,by rw[p1];exact hrun,p2,p3,.slf _ _ _ _ _ _ (by rw[p4,ZAY]) hgc (by rw[hcs'];exact ZAM _) (grownCap_le_maxLen _ _ _ _ (by unfold maxLen;omega))⟩
theorem feZ{t tx ty e:TypeId}{u:Ty}{l m:List u.den}{L:List u.den}{x:Value}{id old g sz n c:Nat}{K:AV->Hp->Option β}{r:β}{i:TypeInfo}{v:Value}{css:List (List Value)}(hH:HRep z H)(hg:hget H old=some ⟨false,.rows e u L⟩)(hρ:z.ρ old= .real g sz n)
 (hk:hkey (hset H old none) id=false/\id<famBase)(hd:¬z.D id)(hl:∃k,l=L.take k)(hlc:l.length<=c)(hcs:c*u.cells<=sz)(hcm:c<=maxLen)
 (hc0:0<u.cells)(hsz:i.size=u.cells)(q3:v.cells.size=u.cells)(hbig:l.length+m.length<=140737488355328)(s2:css.length=m.length)(s3:∀(i:Nat) e us,m[i]? =some e->css[i]? =some us->Cl z.w z.M z.ρ u e us)
 (hgrow:∀olds:List Value,(Builtin.firstCells i.size l.length (.slice (some ⟨g,0,none⟩) l.length c)).run P z.w.drew= .ok olds.toArray z.w.drew->c<l.length+m.length->
  (Builtin.append_ #[t,tx] ty #[.slice (some ⟨g,0,none⟩) l.length c,x]).run P z.w= .ok (.slice (some ⟨z.w.heap.size,0,none⟩) (l.length+m.length) (grownCap z.w (l.length+m.length) c e))
   (z.w.drew.alloc (.cells ((olds++css.flatten).toArray++Builtin.zeroCells v.cells (grownCap z.w (l.length+m.length) c e-(l.length+m.length))) e)))
 (hroomR:l.length+m.length<=c->(∀j,j<css.flatten.length->(z.w.cell? ⟨g,0+l.length*i.size+j,none⟩).isSome=true)->(∀j,j<css.flatten.length->z.w.frozen? ⟨g,0+l.length*i.size+j,none⟩=false)->
  (Builtin.append_ #[t,tx] ty #[.slice (some ⟨g,0,none⟩) l.length c,x]).run P z.w= .ok (.slice (some ⟨g,0,none⟩) (l.length+m.length) c) (z.w.setCells g (0+l.length*i.size) css.flatten))
 (h:K (.slf u.cells id) (hset (hset H old none) id (some ⟨false,.rows e u (l++m)⟩))=some r):
 Ok P (Builtin.append_ #[t,tx] ty #[.slice (some ⟨g,0,none⟩) l.length c,x]) z K r:=by
 have hfl:css.flatten.length=m.length*u.cells:=by rw[aMZ (n:=u.cells) (cjZ s2 s3),s2]
 obtain⟨_,_,_,cs,fr,a1,a2,a3,a4,a5,a6,a7⟩:=hH.real hg hρ;obtain⟨k,hk'⟩:=hl;have hin:RowsIn z.w z.M z.ρ u l cs.toList:=by
  rw[hk'];refine RowsIn.take (fun i x hx=> ?_) k;obtain⟨us,b1,b2⟩:=a7 i x hx;exact⟨us,b1,fun j v hj=>by simpa using b2 j v hj⟩
 have hlsz:l.length*u.cells<=c*u.cells:=ZAf _ hlc;rcases ZB2 c (l.length+m.length) with hlt|hge
 ·obtain⟨z',V,p1,p2,p3,p4⟩:=jtZ (hH.kill (ahZ hg)) hk hd a1 hin (by omega) hc0 hsz q3 hbig s2 s3 hlt hgrow;exact .mk' p1 p2 p4 p3 h
 ·have hfit:l.length*u.cells+m.length*u.cells<=cs.size:=by
   have:(l.length+m.length)*u.cells<=c*u.cells:=ZAf _ hge;rw[ZAo] at this;omega
  have hth:=csZ (o:=0+l.length*i.size) (n:=css.flatten.length) a1 a2.f (by rw[hsz,hfl];omega);have hrun:=hroomR hge (fun j hj=>(hth j hj).1) (fun j hj=>(hth j hj).2);obtain⟨w1,w2,w3,w4⟩:=arZ css.flatten z.w g (0+l.length*i.size);obtain⟨z',p1,p2,p3,p4⟩:=hH.move (n':=(l++m).length) (b:=.rows e u (l++m)) hg hρ hk hd w2 w3 w4 w1 (fun b hb=>alZ _ _ _ _ _ hb) (fun z' hz kk=>by
   refine⟨_,fr,(by rw[hz];exact amZ _ _ _ _ _ _ _ a1),djZ a2 (akZ _ _ _),by rw[akZ];exact a3,rfl,?_,a6,?_⟩
   ·rw[ZAY,ZAo];omega
   ·have:=(hin.append (cs':=(setArr cs (0+l.length*i.size) css.flatten).toList) s2 s3 (fun q hq=> ?_) fun q v hq=> ?_).kp kk
    ·intro i x hx;obtain⟨us,b1,b2⟩:=this i x hx;exact⟨us,b1,fun j v hj=>by simpa using b2 j v hj⟩
    ·rw[hsz,ZA0,auZ _ _ _ _ (by omega),ZAQ (by omega)];simp
    ·have hq':=(ZAC.1 hq).1;rw[hsz,ZA0,auZ _ _ _ _ (by omega),ZAT (by omega),<-hq];congr 1;omega)
  have hv:ARep z' (.slf u.cells id) (.slice (some ⟨g,0,none⟩) (l.length+m.length) c):=by
   have:=ARep.slf (z:=z') u.cells id g sz (l++m).length c p4 (by rw[ZAY];exact hge) hcs hcm;rwa [ZAY] at this
  exact .mk' (by rw[p1];exact hrun) p2 hv p3 h
theorem gzZ{t tx ty e:TypeId}{u:Ty}{l m:List u.den}{L:List u.den}{x:Value}{id old g sz n c:Nat}{K:AV->Hp->Option β}{r:β}(hH:HRep z H)(hg:hget H old=some ⟨false,.rows e u L⟩)(hρ:z.ρ old= .real g sz n)
 (hk:hkey (hset H old none) id=false/\id<famBase)(hd:¬z.D id)(hu:P.underlying t=some (.slice e))(hl:∃k,l=L.take k)(hlc:l.length<=c)(hcs:c*u.cells<=sz)(hcm:c<=maxLen)
 (hc:u.cells=P.cellsOf e)(hc0:0<u.cells)(hz:zlen P e u.cells=true)(hroom:roomOk P e (l.length+m.length)=true)
 (hkd:(∃e',P.underlying tx=some (.slice e'))\/P.underlying tx=some .string)(hx:RowsRep z u m x)(h:K (.slf u.cells id) (hset (hset H old none) id (some ⟨false,.rows e u (l++m)⟩))=some r):
 Ok P (Builtin.append_ #[t,tx] ty #[.slice (some ⟨g,0,none⟩) l.length c,x]) z K r:=by
 obtain⟨i,v,q1,q2,q3⟩:=nxZ hz;obtain⟨r1,r2⟩:=dOZ hroom q1;have hsz:i.size=u.cells:=by rw[hc];simp[Program.cellsOf,q1]
 obtain⟨css,s1,s2,s3⟩:=hx.src hkd;exact feZ (i:=i) (v:=v) (css:=css) hH hg hρ hk hd hl hlc hcs hcm hc0 hsz q3 (by omega) s2 s3
  (fun olds ho hlt=>run_append_grow_src (P:=P) z.w t tx ty e i v hu q1 q2 (some ⟨g,0,none⟩) l.length c olds ho x m.length css.flatten (by rw[hsz];exact s1) hlt (by omega) (growslice_fits hlt r1))
  (fun hge h1 h2=>run_append_room_src (P:=P) z.w t tx ty e i hu q1 g 0 l.length c x m.length css.flatten (by rw[hsz];exact s1) hge h1 h2) h
theorem eOZ{t tx:TypeId}(ty:TypeId){a ax:AV}{v vx:Value}{id:Nat}{K:AV->Hp->Option β}{r:β}(h:evAppend P t a ax id H K=some r)(hH:HRep z H)(hd:¬z.D id)(ha:ARep z a v)(hx:ARep z ax vx)
 (hkd:(∃e',P.underlying tx=some (.slice e'))\/P.underlying tx=some .string):Ok P (Builtin.append_ #[t,tx] ty #[v,vx]) z K r:=by
 unfold evAppend at h;split at h
 ·rename_i e hu;obtain⟨u,h1,h2⟩:=agZ.1 h;obtain⟨t1,t2,_⟩:=cmZ h1;obtain⟨m,hm,h3⟩:=fzZ h2 hH hx;split at h3
  ·obtain rfl:=ha.v.opq.1;obtain⟨h4,h5⟩:=aeZ.1 h3;obtain⟨h6,h7⟩:=a5Z.1 h5;rw[ZAB] at h4;exact cgZ hH h6 hd hu t1 t2 h4.1 h4.2 hkd hm h7
  ·rename_i es old;split at h3
   ·rename_i e' t' l hg;have key:∀(m':List t'.den),RowsRep z t' m' vx->t'.cells=P.cellsOf e->0<t'.cells->need (zlen P e t'.cells&&Nat.beq e e'&&Nat.beq es t'.cells&&roomOk P e (l.length+m'.length)) (newAt (hset H old none) id (.rows e t' (l++m')) fun H'=>K (.slf es id) H')=some r->Ok P (Builtin.append_ #[t,tx] ty #[v,vx]) z K r:=fun m' hm t1 t2 h4=>by
     obtain⟨h5,h6⟩:=aeZ.1 h4;obtain⟨h7,h8⟩:=a5Z.1 h6;simp only[ZAB,acZ] at h5;obtain⟨⟨⟨h9,rfl⟩,rfl⟩,h10⟩:=h5;cases ha with
     |slfV _ _ A hρ=>
      obtain⟨rfl,_⟩:=hH.virt hg hρ;exact cgZ (hH.kill (ahZ hg)) h7 hd hu t1 t2 h9 (by simpa using h10) hkd hm h8
     |slf _ _ g sz n c hρ hn hs hm'=>
      have hl:l.length=n:=by obtain⟨_,_,_,cs,fr,a1,a2,a3,a4,_⟩:=hH.real hg hρ;exact a4
      subst hl;exact gzZ hH hg hρ h7 hd hu ⟨l.length,(ZBU).symm⟩ hn hs hm' t1 t2 h9 h10 hkd hm h8
    rcases aFZ h3 with⟨rfl,h4⟩|h4
    ·exact key m hm t1 t2 h4
    ·rcases aFZ h4 with⟨rfl,h5⟩|h5
     ·rw[azZ] at t1 t2;refine key (m.map (liftT t')) hm.lift t1 t2 ?_;rw[ZBB,<-azZ t'];simp only[azZ] at h5⊢;exact h5
     ·cases h5
   ·cases h3
  ·rename_i es old n;split at h3
   ·rename_i e' t' l hg;rcases aFZ h3 with⟨rfl,h4⟩|h4
    ·obtain⟨h5,h6⟩:=aeZ.1 h4;obtain⟨h7,h8⟩:=a5Z.1 h6;simp only[ZAB,acZ,ZAm] at h5;obtain⟨⟨⟨⟨h9,rfl⟩,rfl⟩,h11⟩,h10⟩:=h5;have hz:∀{q:List t'.den},q=[]->(l.take 0++q)=q:=fun _=>by simp
     cases ha with
     |slV _ _ _ A hρ=>
      exact cgZ (hH.kill (ahZ hg)) h7 hd hu t1 t2 h9 (by simpa using h10) hkd hm (by simpa using h8)
     |slE _ _ _ g sz m' o hρ=>
      exact cgZ (hH.kill (ahZ hg)) h7 hd hu t1 t2 h9 (by simpa using h10) hkd hm (by simpa using h8)
     |sl _ _ _ _ g sz m' c hρ hn hs hm'=>
      have hl:(l.take n).length=n:=by rw[ZAS];omega
      rw[ZAj] at hs;rw[ZBa];have:=gzZ (l:=l.take n) (x:=vx) (tx:=tx) (ty:=ty) (c:=c) hH hg hρ h7 hd hu ⟨n,rfl⟩ (by rw[hl];exact hn) hs hm' t1 t2 h9 (by rw[hl];exact h10) hkd hm h8;rwa [hl] at this
    ·cases h4
   ·cases h3
  ·cases h3
 ·cases h
end
end Go.Ab
namespace Go.Ab
section
variable {P : Program} {β : Type} {z : Z} {H : Hp}
theorem jaZ(z:Array Value)(n:Nat):Builtin.zeroCells z n=madeCells z (n*z.size):=rfl
theorem lFZ(z:Array Value):Builtin.zeroCells z 0=#[]:=by simp[Builtin.zeroCells]
theorem e1Z(w:World)(t tx ty e:TypeId)(i:TypeInfo)(zv:Value)(k kx:IntKind)(ht:P.underlying t=some (.slice e))(hk:P.underlying tx=some (.int k))(hi:P.info? e=some i)(hz:i.zero=some zv)
 (x:Int)(n:Nat)(hx:x=(n:Int))(hn:n<=140737488355328)(hb:n*i.bytes<=140737488355328)(hs:i.size≠0)(b off sLen sCap:Nat)(hroom:sLen+n<=sCap)
 (hc:∀j,j<(Builtin.zeroCells zv.cells n).toList.length->(w.cell? ⟨b,off+sLen*i.size+j,none⟩).isSome=true)(hf:∀j,j<(Builtin.zeroCells zv.cells n).toList.length->w.frozen? ⟨b,off+sLen*i.size+j,none⟩=false)
 (h1:∀u∈(Builtin.zeroCells zv.cells n).toList,u.oneCell'=true):
 (Builtin.append_ #[t,tx] ty #[.slice (some ⟨b,off,none⟩) sLen sCap,.int kx x]).run P w= .ok (.slice (some ⟨b,off,none⟩) (sLen+n) sCap) (w.setCells b (off+sLen*i.size) (Builtin.zeroCells zv.cells n).toList):=by
 subst hx;have hst:=run_storeCells_cells (P:=P) b (off+sLen*i.size) (Builtin.zeroCells zv.cells n).toList 0 w (by simpa using hc) (by simpa using hf) h1;simp only[ZB3] at hst;have hw:IntKind.i64.wrap (n:Int)=(n:Int):=by rw[IntKind.wrap_i64];omega
 have n1:¬((n:Int)<0):=by omega
 have n2:¬(281474976710656<(n:Int)*(i.bytes:Int)):=by
  have:((n*i.bytes:Nat):Int)<=140737488355328:=by omega
  rw[Int.natCast_mul] at this;omega
 by_cases h0:n=0
 ·subst h0;have hw0:IntKind.i64.wrap 0=0:=by rw[IntKind.wrap_i64];omega
  rw[lFZ] at hst⊢;simp only[Array.toList_empty] at hst;simp[Builtin.append_,run_underlying ht,run_underlying hk,sizeOf,typeInfo,zeroValue,hi,hz,asInt,asIntOf,hw0,Addr.add_lit,show sLen<=sCap by omega,hst]
 ·have hm:¬n*i.size=0:=Nat.mul_ne_zero h0 hs;simp[Builtin.append_,run_underlying ht,run_underlying hk,sizeOf,typeInfo,zeroValue,hi,hz,asInt,asIntOf,hw,n1,n2,hm,hroom,Addr.add_lit,hst]
theorem cwZ(w:World)(t tx ty e:TypeId)(i:TypeInfo)(zv:Value)(k kx:IntKind)(ht:P.underlying t=some (.slice e))(hk:P.underlying tx=some (.int k))(hi:P.info? e=some i)(hz:i.zero=some zv)
 (x:Int)(n:Nat)(hx:x=(n:Int))(hn:n<=140737488355328)(hb:n*i.bytes<=140737488355328)(hs:i.size≠0)(base:Option Addr)(sLen sCap:Nat)(olds:List Value)
 (hold:(Builtin.firstCells i.size sLen (.slice base sLen sCap)).run P w.drew= .ok olds.toArray w.drew)(hle:sLen<=sCap)(hg:sCap<sLen+n)(h63:((sLen+n:Nat):Int)<=9223372036854775807)(hfit:Builtin.nextslicecap (sLen+n) sCap*i.bytes<=281474976710656):
 (Builtin.append_ #[t,tx] ty #[.slice base sLen sCap,.int kx x]).run P w=
  .ok (.slice (some ⟨w.heap.size,0,none⟩) (sLen+n) (grownCap w (sLen+n) sCap e))
    (w.drew.alloc (.cells ((olds++(Builtin.zeroCells zv.cells n).toList).toArray++Builtin.zeroCells zv.cells (grownCap w (sLen+n) sCap e-(sLen+n))) e)):=by
 subst hx;have hw:IntKind.i64.wrap (n:Int)=(n:Int):=by rw[IntKind.wrap_i64];omega
 have n1:¬((n:Int)<0):=by omega
 have n2:¬(281474976710656<(n:Int)*(i.bytes:Int)):=by
  have:((n*i.bytes:Nat):Int)<=140737488355328:=by omega
  rw[Int.natCast_mul] at this;omega
 have hn':¬(sLen+n<=sCap):=by omega
 have h63':¬(9223372036854775807<((sLen:Int)+(n:Int))):=by omega
 have h48':¬(281474976710656<Builtin.nextslicecap (sLen+n) sCap*i.bytes):=by omega
 have hm:¬n*i.size=0:=Nat.mul_ne_zero (by omega) hs;have h0:n≠0:=by omega
 simp[Builtin.append_,run_underlying ht,run_underlying hk,sizeOf,typeInfo,zeroValue,hi,hz,asInt,asIntOf,hw,n1,n2,hm,hn',h63',h48',Question.forced,hold,newRow,grownCap];congr 2;apply ZBg;simp[ZAr]
theorem fiZ(zs:Array Value)(n:Nat):(List.replicate n zs.toList).flatten=(Builtin.zeroCells zs n).toList:=by rw[jaZ,fbZ]
theorem jxZ{t tx ty e:TypeId}{u:Ty}{l:List u.den}{L:List u.den}{id old g sz n c m:Nat}{k kx:IntKind}{i:TypeInfo}{zv:Value}{x:Int}{K:AV->Hp->Option β}{r:β}(hH:HRep z H)(hg:hget H old=some ⟨false,.rows e u L⟩)(hρ:z.ρ old= .real g sz n)
 (hk:hkey (hset H old none) id=false/\id<famBase)(hd:¬z.D id)(hu:P.underlying t=some (.slice e))(hkx:P.underlying tx=some (.int k))(hl:∃k,l=L.take k)(hlc:l.length<=c)(hcs:c*u.cells<=sz)(hcm:c<=maxLen)
 (hi:P.info? e=some i)(hz:i.zero=some zv)(hc0:0<u.cells)(hsz:i.size=u.cells)(c1:Cl z.w z.M z.ρ u u.zero zv.cells.toList)(c2:∀v∈zv.cells,v.oneCell'=true)(hx:x=(m:Int))(r1:(l.length+m)*i.bytes<=140737488355328)(r2:l.length+m<=140737488355328)
 (h:K (.slf u.cells id) (hset (hset H old none) id (some ⟨false,.rows e u (l++List.replicate m u.zero)⟩))=some r):
 Ok P (Builtin.append_ #[t,tx] ty #[.slice (some ⟨g,0,none⟩) l.length c,.int kx x]) z K r:=by
 have hzs:zv.cells.size=u.cells:=by simpa using c1.len
 have hb:m*i.bytes<=140737488355328:=ZBI (ZAf _ (by omega)) r1;have hz1:∀v∈(Builtin.zeroCells zv.cells m).toList,v.oneCell'=true:=fun v hv=>by
  rw[<-fiZ] at hv;obtain⟨w,h1,h2⟩:=List.mem_flatten.1 hv;rw[ZBX h1] at h2;exact c2 v (ZBD.1 h2)
 refine feZ (m:=List.replicate m u.zero) (i:=i) (v:=zv) (css:=List.replicate m zv.cells.toList) hH hg hρ hk hd hl hlc hcs hcm hc0 hsz hzs (by rw[ZAx];exact r2) (by simp) (fun j e us h1 h2=> ?_) (fun olds ho hlt=> ?_) (fun hge h1 h2=> ?_) h
 ·rw[ZB1] at h1 h2;split at h1
  ·rename_i hj;rw[ZAT hj] at h2;simp only[ZAI] at h1 h2;subst h1 h2;exact c1
  ·cases h1
 ·rw[ZAx] at hlt⊢;rw[fiZ];exact cwZ z.w t tx ty e i zv k kx hu hkx hi hz x m hx (by omega) hb (by omega) _ _ _ olds ho hlc hlt (by omega) (growslice_fits hlt r1)
 ·rw[fiZ] at h1 h2⊢;rw[ZAx] at hge⊢;exact e1Z z.w t tx ty e i zv k kx hu hkx hi hz x m hx (by omega) hb (by omega) g 0 l.length c hge h1 h2 hz1
theorem gYZ(w:World)(t tx ty e:TypeId)(i:TypeInfo)(k kx:IntKind)(ht:P.underlying t=some (.slice e))(hk:P.underlying tx=some (.int k))(hi:P.info? e=some i)(A:Option Addr):
 (Builtin.append_ #[t,tx] ty #[.slice A 0 0,.int kx 0]).run P w= .ok (.slice A 0 0) w:=by
 have hw:IntKind.i64.wrap 0=0:=by rw[IntKind.wrap_i64];omega
 cases A<;>simp[Builtin.append_,run_underlying ht,run_underlying hk,sizeOf,typeInfo,hi,asInt,asIntOf,hw,storeCells]
theorem evZ{t tx ty e:TypeId}{u:Ty}{A:Option Addr}{id m:Nat}{k kx:IntKind}{i:TypeInfo}{zv:Value}{x:Int}{K:AV->Hp->Option β}{r:β}(hH:HRep z H)(hk:hkey H id=false/\id<famBase)(hd:¬z.D id)(hu:P.underlying t=some (.slice e))(hkx:P.underlying tx=some (.int k))
 (hi:P.info? e=some i)(hz:i.zero=some zv)(hc0:0<u.cells)(hsz:i.size=u.cells)(c1:Cl z.w z.M z.ρ u u.zero zv.cells.toList)(hx:x=(m:Int))(r1:m*i.bytes<=140737488355328)(r2:m<=140737488355328)
 (h:K (.slf u.cells id) (hset H id (some ⟨false,.rows e u (List.replicate m u.zero)⟩))=some r):
 Ok P (Builtin.append_ #[t,tx] ty #[.slice A 0 0,.int kx x]) z K r:=by
 have hzs:zv.cells.size=u.cells:=by simpa using c1.len
 rcases ZBj m with h0|h0
 ·subst h0;obtain rfl:x=0:=by omega
  obtain⟨z',p1,p2,p3,p4⟩:=hH.newV (b:=.rows e u []) hk hd ⟨rfl,hc0⟩;exact .mk' (by rw[p1];exact gYZ z.w t tx ty e i k kx hu hkx hi A) p2 (.slfV _ _ A p4) p3 h
 ·have hge:=grownCap_ge z.w m 0 e;have hrun:=cwZ (P:=P) z.w t tx ty e i zv k kx hu hkx hi hz x m hx (by omega) r1 (by omega) A 0 0 [] (by cases A with
   |none=>exact run_firstCells_none z.w.drew i.size 0 0 0
   |some a=>exact run_firstCells_some z.w.drew i.size 0 a 0 0 [] (by simp) (fun j v h=>by simp at h)) (ZAM _) (by omega) (by omega) (growslice_fits (by omega) (by rw[ZAj];exact r1))
  rw[ZAj,ZBA] at hrun;obtain⟨z',p1,p2,p3,p4⟩:=aKZ (z:=z) (w':=z.w.drew.alloc (.cells ((Builtin.zeroCells zv.cells m).toList.toArray++Builtin.zeroCells zv.cells (grownCap z.w m 0 e-m)) e)) (e:=e) (l:=List.replicate m u.zero) hH hk hd
   (heap_alloc_new z.w.drew _) (okR0 _) rfl ⟨rfl,ZBb _⟩ rfl (fun k hk=>heap_alloc_old z.w.drew _ _ hk) (by
    rw[ZAx,Array.toArray_toList,ZBH,size_zeroCells,hzs];exact ZBn _ _) hc0 (fun i x hx=>by
    obtain⟨us,b1,b2⟩:=RowsIn.made c1 m m (ZAM _) hc0 i x hx;refine⟨us,b1,fun j v hj=> ?_⟩;have:=b2 j v hj;rw[Array.toArray_toList,ZBp,ZAL (by
     have:=(ZAC.1 this).1;simp only[ZA3,size_madeCells] at this;rw[ZA3,size_zeroCells,hzs];exact this),jaZ,hzs]
    exact this)
  refine .mk' (by rw[p1];exact hrun) p2 (.slf _ _ _ _ _ _ (by rw[p4,ZAx]) hge ?_ (grownCap_le_maxLen _ _ _ _ (by unfold maxLen;omega))) p3 h;rw[Array.toArray_toList,ZBH,size_zeroCells,size_zeroCells,hzs,<-Nat.add_mul];exact ZAf _ (by omega)
theorem hZZ{t tx:TypeId}(ty:TypeId){a ax:AV}{v vx:Value}{id:Nat}{k:IntKind}{K:AV->Hp->Option β}{r:β}(h:evAppendZ P t a ax id H K=some r)(hH:HRep z H)(hd:¬z.D id)(ha:ARep z a v)(hx:ARep z ax vx)
 (hk:P.underlying tx=some (.int k)):Ok P (Builtin.append_ #[t,tx] ty #[v,vx]) z K r:=by
 unfold evAppendZ at h;split at h
 ·rename_i e hu;obtain⟨u,h1,h2⟩:=agZ.1 h;obtain⟨h3,h4⟩:=aeZ.1 h2;obtain⟨n,h5,h6⟩:=agZ.1 h4;obtain⟨m,h7,h8⟩:=ZAF.1 h6;obtain⟨t1,t2,_⟩:=cmZ h1;obtain⟨i,zv,q1,q2,q3⟩:=bEZ h3;obtain⟨c1,c2⟩:=(q3 z.w z.M z.ρ).cells;have hsz:i.size=u.cells:=by rw[t1];simp[Program.cellsOf,q1]
  obtain⟨kx,rfl⟩:=bfZ h5 hx;have hnm:n=(m:Int):=by
   unfold upto? at h7;split at h7
   ·simp only[ZAI] at h7;omega
   ·cases h7
  split at h8
  ·obtain⟨h9,h10⟩:=aeZ.1 h8;obtain⟨h11,h12⟩:=a5Z.1 h10;obtain rfl:=ha.v.opq.1;obtain⟨r1,r2⟩:=dOZ h9 q1;exact evZ hH h11 hd hu hk q1 q2 t2 hsz c1 hnm r1 r2 h12
  ·rename_i es old;split at h8
   ·rename_i e' t' l hg;rcases aFZ h8 with⟨rfl,h9⟩|h9
    ·obtain⟨h10,h11⟩:=aeZ.1 h9;obtain⟨h12,h13⟩:=a5Z.1 h11;simp only[ZAB,acZ] at h10;obtain⟨⟨rfl,rfl⟩,h14⟩:=h10;obtain⟨r1,r2⟩:=dOZ h14 q1;cases ha with
     |slfV _ _ A hρ=>
      obtain⟨rfl,_⟩:=hH.virt hg hρ;exact evZ (hH.kill (ahZ hg)) h12 hd hu hk q1 q2 t2 hsz c1 hnm (by simpa using r1) (by simpa using r2) h13
     |slf _ _ g sz n' c hρ hn hs hm'=>
      have hl:l.length=n':=by obtain⟨_,_,_,cs,fr,a1,a2,a3,a4,_⟩:=hH.real hg hρ;exact a4
      subst hl;exact jxZ hH hg hρ h12 hd hu hk ⟨l.length,(ZBU).symm⟩ hn hs hm' q1 q2 t2 hsz c1 c2 hnm r1 r2 h13
    ·cases h9
   ·cases h8
  ·cases h8
 ·cases h
theorem RowsRep.first{u:Ty}{m:List u.den}{v:Value}(h:RowsRep z u m v)(k:Nat)(hk:k<=m.length):
 ∃css:List (List Value),(Builtin.firstCells u.cells k v).run P z.w= .ok css.flatten.toArray z.w/\css.length=k/\∀(i:Nat) e us,(m.take k)[i]? =some e->css[i]? =some us->Cl z.w z.M z.ρ u e us:=by
 rcases h with⟨hu,rfl⟩|⟨A,c,rfl,hc,hm,hA⟩
 ·subst hu;have hml:(m.take k).length=k:=by rw[ZAS];omega
  refine⟨(m.take k).map fun b=>[Value.int .u8 (b.toNat:Int)],?_,by rw[ZBB,hml],fun i e us h1 h2=> ?_⟩
  ·have e1:(List.map (fun b:UInt8=>[Value.int .u8 (b.toNat:Int)]) (m.take k)).flatten=byteCells ⟨⟨m.take k⟩⟩:=by
    show _=List.map _ (m.take k);generalize (m.take k:List UInt8)=q;induction q with
    |nil=>rfl
    |cons b q ih=>simp[ih]
   rw[e1];simp only[Builtin.firstCells,Sem.run_pure];congr 1;apply ZBg;simp only[byteCells,Array.toList_map];congr 1;simp[Ty.toL,ByteArray.extract,ByteArray.copySlice]
  ·rw[ZAW] at h2;obtain⟨b,h3,rfl⟩:=ZAH.1 h2;have:some e=some b:=h1.symm.trans h3;injection this with this;subst this
   rfl
 ·by_cases h0:k=0
  ·subst h0;refine⟨[],?_,rfl,fun i e us h=>by simp at h⟩;cases A with
   |none=>exact run_firstCells_none z.w u.cells 0 _ c
   |some a=>exact run_firstCells_some z.w u.cells 0 a _ c [] (by simp) (fun j v h=>by simp at h)
  ·obtain⟨b,off,rfl,_,hr⟩:=hA (by omega);have hr':=hr.sub 0 k;rw[ZBa,ZB3,ZBr] at hr';obtain⟨css,q1,q2,q3⟩:=hr'.cells;have hml:(m.take k).length=k:=by rw[ZAS];omega
   have hl:css.flatten.length=k*u.cells:=by rw[aMZ (n:=u.cells) (cjZ q1 q2),q1,hml]
   exact⟨css,run_firstCells_some z.w u.cells _ _ _ _ _ hl (fun j v hj=>by rw[q7Z];exact q3 j v hj),by rw[q1,hml],q2⟩
theorem kGZ{α:Type}{l m:List α}{at_:Nat}(h:at_+m.length<=l.length):(splice l at_ m).length=l.length:=by
 unfold splice;simp;omega
theorem kLZ{α:Type}{l m:List α}{at_:Nat}(h:at_+m.length<=l.length)(i:Nat):(splice l at_ m)[i]? =if at_<=i/\i<at_+m.length then m[i-at_]? else l[i]? :=by
 unfold splice;have h1:(l.take at_).length=at_:=by rw[ZAS];omega
 by_cases hi:i<at_
 ·rw[ZAr,ZAL (by omega),ZBN hi,ZAQ (by omega)]
 ·rw[ZAr,ZAO (by omega),h1];by_cases h2:i<at_+m.length
  ·rw[ZAL (by omega),ZAT (by omega)]
  ·rw[ZAO (by omega),ZAw,ZAQ (by omega)];congr 1;omega
theorem HRep.reset{id:Nat}{e:Ent}(hg:hget H id=some e)(hH:HRep z H):HRep z (hset H id (some e)):=by
 refine hH.same (fun k=> ?_) fun k=> ?_
 ·rw[aoZ];by_cases h:k=id
  ·subst h;rw[ZAT rfl,hg]
  ·rw[ZAQ h]
 ·rw[asZ];by_cases h:k=id
  ·subst h;simp[ahZ hg]
  ·simp[h]
theorem dVZ{u:Ty}{m:List u.den}{v:Value}(h:RowsRep z u m v)(w:World):(Builtin.lenOf v).run P w= .ok m.length w:=by
 rcases h with⟨hu,rfl⟩|⟨A,c,rfl,_⟩
 ·subst hu;rfl
 ·rfl
theorem kCZ{H':Hp}{u:Ty}{l m:List u.den}{e':TypeId}{id g sz n off:Nat}{css:List (List Value)}(hH:HRep z H)(hg:hgetX H id=some ⟨false,.rows e' u l⟩)(hρ:z.ρ id= .real g sz n)
 (hdl:off+m.length<=l.length)(f2:css.length=m.length)(f3:∀(i:Nat) e us,m[i]? =some e->css[i]? =some us->Cl z.w z.M z.ρ u e us)(hu:Upd H id (.rows e' u (splice l off m)) H')(hro:¬Ro id):
 (storeCells ⟨g,off*u.cells,none⟩ css.flatten).run P z.w= .ok () (z.w.setCells g (off*u.cells) css.flatten)/\
  HRep {z with w:=z.w.setCells g (off*u.cells) css.flatten} H'/\Nx z {z with w:=z.w.setCells g (off*u.cells) css.flatten}:=by
 obtain⟨_,_,_,cs,fr,a1,a2,a3,a4,a5,a6,a7⟩:=hH.realX hg hρ;have hfl:css.flatten.length=m.length*u.cells:=by rw[aMZ (n:=u.cells) (cjZ f2 f3),f2]
 have hfit:off*u.cells+css.flatten.length<=cs.size:=by
  have:(off+m.length)*u.cells<=l.length*u.cells:=ZAf _ hdl;rw[ZAo] at this;omega
 have hth:=csZ (o:=off*u.cells) (n:=css.flatten.length) a1 a2.f hfit;have h1:∀v∈css.flatten,v.oneCell'=true:=fun v hv=>by
  obtain⟨us,h1,h2⟩:=List.mem_flatten.1 hv;obtain⟨k,hk⟩:=ZAe h1;obtain⟨e,he⟩:=aJZ (l:=m) f2 hk;exact(f3 k e us he hk).one v h2
 have hst:=run_storeCells_cells (P:=P) g (off*u.cells) css.flatten 0 z.w (fun j hj=>by simpa using(hth j hj).1) (fun j hj=>by simpa using(hth j hj).2) h1;simp only[ZB3] at hst;obtain⟨w1,w2,w3,w4⟩:=arZ css.flatten z.w g (off*u.cells);have hsl:(splice l off m).length=l.length:=kGZ hdl;obtain⟨p1,p2⟩:=hH.writeX (w':=z.w.setCells g (off*u.cells) css.flatten) (b:=.rows e' u (splice l off m)) hg hρ w2 w3 w4 w1 (fun b hb=>alZ _ _ _ _ _ hb) (fun kk=>by
  refine⟨_,fr,amZ _ _ _ _ _ _ _ a1,djZ a2 (akZ _ _ _),by rw[akZ];exact a3,by rw[hsl];exact a4,by rw[hsl];exact a5,a6,fun i x hx=> ?_⟩;rw[kLZ hdl] at hx;by_cases hin:off<=i/\i<off+m.length
  ·rw[ZAT hin] at hx;obtain⟨us,b1,b2⟩:=RowsIn.css f2 f3 [] _ _ hx;refine⟨us,b1.kp kk,fun j v hj=> ?_⟩;have hb:=b2 j v hj;rw[ZA1] at hb;have hbl:=(ZAC.1 hb).1;obtain⟨d,hd⟩:∃d,i=off+d:=⟨i-off,by omega⟩;subst hd;rw[ZAz] at hb hbl;rw[ZAo,auZ _ _ _ _ hfit,ZAT (by omega),<-hb];congr 1;omega
  ·rw[ZAQ hin] at hx;obtain⟨us,b1,b2⟩:=a7 i x hx;refine⟨us,b1.kp kk,fun j v hj=> ?_⟩;have hjl:j<u.cells:=by
    have:=(ZAC.1 hj).1;rw[b1.len] at this;exact this
   rw[auZ _ _ _ _ hfit,ZAQ,b2 j v hj];rw[hfl];rcases ZB2 i off with hlt|hge
   ·have:=kBZ (es:=u.cells) hlt hjl;omega
   ·have:(off+m.length)*u.cells<=i*u.cells:=ZAf _ (by omega);rw[ZAo] at this;omega) hu hro
 exact⟨hst,p1,p2⟩
theorem lsZ{u:Ty}{l m:List u.den}{e':TypeId}{id g sz n off:Nat}{css:List (List Value)}(hH:HRep z H)(hg:hget H id=some ⟨false,.rows e' u l⟩)(hρ:z.ρ id= .real g sz n)
 (hdl:off+m.length<=l.length)(f2:css.length=m.length)(f3:∀(i:Nat) e us,m[i]? =some e->css[i]? =some us->Cl z.w z.M z.ρ u e us):
 (storeCells ⟨g,off*u.cells,none⟩ css.flatten).run P z.w= .ok () (z.w.setCells g (off*u.cells) css.flatten)/\
  HRep {z with w:=z.w.setCells g (off*u.cells) css.flatten} (hset H id (some ⟨false,.rows e' u (splice l off m)⟩))/\Nx z {z with w:=z.w.setCells g (off*u.cells) css.flatten}:=
 kCZ hH (hH.x hg (aGZ hρ)) hρ hdl f2 f3 (.stat (hH.low hg (aGZ hρ)) hg (hH.low hg (aGZ hρ))) (bwZ (hH.low hg (aGZ hρ)))
theorem puZ{H':Hp}{t e ty sT:TypeId}{u:Ty}{l m:List u.den}{e':TypeId}{x:Value}{id g sz n off dl c:Nat}{K:AV->Hp->Option β}{r:β}(hH:HRep z H)(hg:hgetX H id=some ⟨false,.rows e' u l⟩)(hρ:z.ρ id= .real g sz n)
 (hu:P.underlying t=some (.slice e))(hc:u.cells=P.cellsOf e)(hx:RowsRep z u m x)(hdl:off+dl<=l.length)
 (hup:Upd H id (.rows e' u (splice l off (m.take dl))) H')(hro:¬Ro id)(h:K (.i .i64 ((min m.length dl:Nat):Int)) H'=some r):
 Ok P (Builtin.copy_ #[t,sT] ty #[.slice (some ⟨g,off*u.cells,none⟩) dl c,x]) z K r:=by
 obtain⟨_,_,_,cs,fr,a1,a2,a3,a4,a5,a6,a7⟩:=hH.realX hg hρ;have hi:∃i,P.info? e=some i/\i.size=u.cells:=by
  have:=bkZ hc.symm (by omega);obtain⟨i,h1,h2⟩:=ZAH.1 this;exact⟨i,h1,h2⟩
 obtain⟨i,i1,i2⟩:=hi;obtain⟨css,f1,f2,f3⟩:=hx.first (P:=P) (min m.length dl) (Nat.min_le_left _ _);have hmt:m.take (min m.length dl)=m.take dl:=by rw[List.take_eq_take_iff];omega
 have hmtl:(m.take dl).length=min m.length dl:=by rw[ZAS];omega
 rw[hmt] at f3;obtain⟨hst,p1,p2⟩:=kCZ (P:=P) hH hg hρ (m:=m.take dl) (off:=off) (by rw[hmtl];omega) (by rw[f2,hmtl]) f3 hup hro;have hrun:(Builtin.copy_ #[t,sT] ty #[.slice (some ⟨g,off*u.cells,none⟩) dl c,x]).run P z.w= .ok (.int .i64 ((min m.length dl:Nat):Int)) (z.w.setCells g (off*u.cells) css.flatten):=by
  have hmin:Nat.min m.length dl=min m.length dl:=rfl;simp[Builtin.copy_,run_underlying hu,dVZ hx,hmin,sizeOf,typeInfo,i1,i2,f1,hst,goInt]
 exact .mk' (z':={z with w:=z.w.setCells g (off*u.cells) css.flatten}) hrun p1 (.mkI _ _) p2 h
theorem kjZ{t e ty sT:TypeId}{u:Ty}{l m:List u.den}{e':TypeId}{x:Value}{id g sz n off dl c:Nat}{K:AV->Hp->Option β}{r:β}(hH:HRep z H)(hg:hget H id=some ⟨false,.rows e' u l⟩)(hρ:z.ρ id= .real g sz n)
 (hu:P.underlying t=some (.slice e))(hc:u.cells=P.cellsOf e)(hx:RowsRep z u m x)(hdl:off+dl<=l.length)
 (h:K (.i .i64 ((min m.length dl:Nat):Int)) (hset H id (some ⟨false,.rows e' u (splice l off (m.take dl))⟩))=some r):
 Ok P (Builtin.copy_ #[t,sT] ty #[.slice (some ⟨g,off*u.cells,none⟩) dl c,x]) z K r:=
 puZ hH (hH.x hg (aGZ hρ)) hρ hu hc hx hdl (.stat (hH.low hg (aGZ hρ)) hg (hH.low hg (aGZ hρ))) (bwZ (hH.low hg (aGZ hρ))) h
theorem fDZ{t e ty sT:TypeId}{u:Ty}{m:List u.den}{e':TypeId}{x:Value}{id off:Nat}{A:Option Addr}{K:AV->Hp->Option β}{r:β}{l:List u.den}(hH:HRep z H)(hg:hget H id=some ⟨false,.rows e' u l⟩)
 (hu:P.underlying t=some (.slice e))(hc:u.cells=P.cellsOf e)(hc0:0<u.cells)(hx:RowsRep z u m x)
 (h:K (.i .i64 ((min m.length 0:Nat):Int)) (hset H id (some ⟨false,.rows e' u (splice l off (m.take 0))⟩))=some r):
 Ok P (Builtin.copy_ #[t,sT] ty #[.slice A 0 0,x]) z K r:=by
 have hi:∃i,P.info? e=some i/\i.size=u.cells:=by
  have:=bkZ hc.symm (by omega);obtain⟨i,h1,h2⟩:=ZAH.1 this;exact⟨i,h1,h2⟩
 obtain⟨i,i1,i2⟩:=hi;obtain⟨css,f1,f2,f3⟩:=hx.first (P:=P) 0 (ZBS _);obtain rfl:css=[]:=ZAR f2;have hs:splice l off (m.take 0)=l:=by simp[splice]
 rw[hs] at h;refine .mk' (z':=z) ?_ (hH.reset hg) (.mkI _ _) (Nx.refl z) h;have hmin:Nat.min m.length 0=0:=Nat.min_eq_right (ZBS _);cases A<;>simp[Builtin.copy_,run_underlying hu,dVZ hx,hmin,sizeOf,typeInfo,i1,i2,f1,goInt,storeCells]
theorem mXZ{t sT:TypeId}(ty:TypeId){a ax:AV}{v vx:Value}{K:AV->Hp->Option β}{r:β}(h:evCopy P t a ax H K=some r)(hH:HRep z H)(ha:ARep z a v)(hx:ARep z ax vx):
 Ok P (Builtin.copy_ #[t,sT] ty #[v,vx]) z K r:=by
 unfold evCopy at h;split at h
 ·rename_i e hu;obtain⟨u,h1,h2⟩:=agZ.1 h;obtain⟨t1,t2,_⟩:=cmZ h1;obtain⟨m,hm,h3⟩:=fzZ h2 hH hx;split at h3
  ·rename_i es id;split at h3
   ·rename_i e' t' l hg;rcases aFZ h3 with⟨rfl,h4⟩|h4
    ·obtain⟨h5,h6⟩:=aeZ.1 h4;rw[acZ] at h5;subst h5;cases ha with
     |slfV _ _ A hρ=>
      obtain⟨rfl,_⟩:=hH.virt hg hρ;exact fDZ hH hg hu t1 t2 hm h6
     |slf _ _ g sz n c hρ hn hs hm'=>
      have hl:l.length=n:=by obtain⟨_,_,_,cs,fr,a1,a2,a3,a4,_⟩:=hH.real hg hρ;exact a4
      subst hl;have:=kjZ (sT:=sT) (ty:=ty) (off:=0) (dl:=l.length) (c:=c) hH hg hρ hu t1 hm (by omega) h6;rwa [ZBa] at this
    ·cases h4
   ·cases h3
  ·rename_i es id off n;split at h3
   ·rename_i e' t' l hg;rcases aFZ h3 with⟨rfl,h4⟩|h4
    ·obtain⟨h5,h6⟩:=aeZ.1 h4;simp only[ZAB,acZ,ZAm] at h5;obtain⟨rfl,h7⟩:=h5;cases ha with
     |slV _ _ _ A hρ=>exact fDZ hH hg hu t1 t2 hm h6
     |slE _ _ _ g sz m' o hρ=>exact fDZ hH hg hu t1 t2 hm h6
     |sl _ _ _ _ g sz m' c hρ hn hs hm'=>exact kjZ hH hg hρ hu t1 hm h7 h6
    ·cases h4
   ·cases h3
  ·rename_i f s x;obtain⟨hnr,h3⟩:=aeZ.1 h3;split at h3
   ·rename_i e' s' ms hg;rcases aFZ h3 with⟨rfl,h4⟩|h4
    ·rcases aFZ h4 with⟨rfl,h5⟩|h5
     ·obtain⟨y,h6,h7⟩:=ZAF.1 h5;have h6:refPut ms x m=some y:=h6;have hc0:0<u.cells:=t2;have hx':=ha.v.scal rfl rfl;have none0:∀{A:Option Addr} {c:Nat},K (.i .i64 0) (hset H (famId f) (some ⟨false,.fam e' u ms⟩))=some r->Ok P (Builtin.copy_ #[t,sT] ty #[.slice A 0 c,vx]) z K r:=fun{A c} hk=>by
       have hi:∃i,P.info? e=some i/\i.size=u.cells:=by
        have:=bkZ t1.symm (by omega);obtain⟨i,h1,h2⟩:=ZAH.1 this;exact⟨i,h1,h2⟩
       obtain⟨i,i1,i2⟩:=hi;obtain⟨css,f1,f2,f3⟩:=hm.first (P:=P) 0 (ZBS _);obtain rfl:css=[]:=ZAR f2;refine .mk' (z':=z) ?_ (hH.reset hg) (.mkI _ _) (Nx.refl z) hk;have hmin:Nat.min m.length 0=0:=Nat.min_eq_right (ZBS _);cases A<;>simp[Builtin.copy_,run_underlying hu,dVZ hm,hmin,sizeOf,typeInfo,i1,i2,f1,goInt,storeCells]
      rcases x with l|(_|⟨k,off,n⟩)
      ·unfold refPut at h6;obtain⟨h8,h9⟩:=aeZ.1 h6;rw[acZ] at h8;cases h9;obtain⟨A,c,hv,_⟩:=hx';simp only[ZAq,ZBi] at hv;have:List.length (α:=u.den) l=0:=h8;rw[this] at hv;subst hv;exact none0 h7
      ·cases h6;have hv:[v]=[.slice none 0 0]:=hx';simp only[ZAq,ZBi] at hv;subst hv;exact none0 h7
      ·obtain⟨p,g3,h8⟩:=ZAF.1 h6;obtain⟨h9,h10⟩:=aeZ.1 h8;cases h10;simp only[ZAB,acZ,ZAm] at h9;obtain⟨g4,hle⟩:=h9;rcases hx' with⟨A,hρ,rfl,hv⟩|⟨g,sz,m',c,hρ,hnc,hs,hcm,hv⟩
       ·simp only[ZAq,ZBi] at hv;subst hv;have hs:splice p.2 off (m.take 0)=p.2:=by simp[splice]
        rw[hs] at h7;have hms:ms.set k (1,p.2)=ms:=by
         obtain⟨hk,hpe⟩:=ZAC.1 g3;have:((1,p.2):Nat×List u.den)=ms[k]:=by rw[hpe,<-g4]
         rw[this];exact List.set_getElem_self hk
        rw[hms] at h7;exact none0 (by simpa using h7)
       ·simp only[ZAq,ZBi] at hv;subst hv;have hgX:=fgZ hg g3 (by rw[g4];omega);have hfz:((⟨false||Nat.ble 2 p.1,.rows e' u p.2⟩:Ent))=⟨false,.rows e' u p.2⟩:=by rw[g4];rfl
        rw[hfz] at hgX;exact puZ hH hgX hρ hu t1 hm hle (.mem hg (hH.fam _ _ hg) g3 _) (jwZ hnr) h7
     ·cases h5
    ·cases h4
   ·cases h3
  ·cases h3
 ·cases h
theorem bTZ{t e ty:TypeId}{A:Option Addr}{c:Nat}(w:World)(hu:P.underlying t=some (.slice e)):(Builtin.clear_ #[t] ty #[.slice A 0 c]).run P w= .ok (.tuple #[]) w:=by
 cases A<;>simp[Builtin.clear_,run_underlying hu]
theorem geZ{t e ty:TypeId}{a:Addr}{n c:Nat}{i:TypeInfo}{zv:Value}{w w':World}(hu:P.underlying t=some (.slice e))(hi:P.info? e=some i)(hz:i.zero=some zv)(hn:n≠0)
 (h:(storeCells a (Builtin.zeroCells zv.cells n).toList).run P w= .ok () w'):(Builtin.clear_ #[t] ty #[.slice (some a) n c]).run P w= .ok (.tuple #[]) w':=by
 obtain⟨k,rfl⟩:∃k,n=k+1:=⟨n-1,by omega⟩;simp[Builtin.clear_,run_underlying hu,zeroValue,typeInfo,hi,hz,h]
theorem fUZ(zs:Array Value)(n:Nat):(Builtin.zeroCells zs n).toList=(List.replicate n zs.toList).flatten:=fbZ zs n
theorem iHZ{t e ty:TypeId}{u:Ty}{l:List u.den}{e':TypeId}{id g sz n off dl c:Nat}{K:AV->Hp->Option β}{r:β}(hH:HRep z H)(hg:hget H id=some ⟨false,.rows e' u l⟩)(hρ:z.ρ id= .real g sz n)
 (hu:P.underlying t=some (.slice e))(hz:zeroOk P e u=true)(hdl:off+dl<=l.length)
 (h:K (.tup []) (hset H id (some ⟨false,.rows e' u (splice l off (List.replicate dl u.zero))⟩))=some r):
 Ok P (Builtin.clear_ #[t] ty #[.slice (some ⟨g,off*u.cells,none⟩) dl c]) z K r:=by
 obtain⟨i,zv,q1,q2,q3⟩:=bEZ hz;obtain⟨c1,c2⟩:=(q3 z.w z.M z.ρ).cells;rcases ZBj dl with h0|h0
 ·subst h0;have hs:splice l off (List.replicate 0 u.zero)=l:=by simp[splice]
  rw[hs] at h;exact .mk' (z':=z) (bTZ z.w hu) (hH.reset hg) (.tup _ _ rfl (fun i x v h=>by simp at h)) (Nx.refl z) h
 ·obtain⟨hst,p1,p2⟩:=lsZ (P:=P) hH hg hρ (m:=List.replicate dl u.zero) (off:=off) (css:=List.replicate dl zv.cells.toList) (by rw[ZAx];exact hdl) (by simp) (fun i e us h1 h2=>by
   have e1:=ZBX (ZAN h1);have e2:=ZBX (ZAN h2);rw[e1,e2];exact c1)
  rw[<-fUZ] at hst p1 p2;exact .mk' (z':={z with w:=z.w.setCells g (off*u.cells) (Builtin.zeroCells zv.cells dl).toList}) (geZ hu q1 q2 (by omega) hst) p1 (.tup _ _ rfl (fun i x v h=>by simp at h)) p2 h
theorem ljZ{t:TypeId}(ty:TypeId){a:AV}{v:Value}{K:AV->Hp->Option β}{r:β}(h:evClear P t a H K=some r)(hH:HRep z H)(ha:ARep z a v):Ok P (Builtin.clear_ #[t] ty #[v]) z K r:=by
 unfold evClear at h;split at h
 ·rename_i e hu;obtain⟨u,h1,h2⟩:=agZ.1 h;obtain⟨hz,h3⟩:=aeZ.1 h2;have tupK:∀{z':Z},ARep z' (.tup []) (.tuple #[]):=.tup _ _ rfl (fun i x v h=>by simp at h);have none0:∀{A:Option Addr} {c:Nat} {u':Ty} {l:List u'.den} {id:Nat} {e':TypeId} {off:Nat},hget H id=some ⟨false,.rows e' u' l⟩->K (.tup []) (hset H id (some ⟨false,.rows e' u' (splice l off (List.replicate 0 u'.zero))⟩))=some r->
   Ok P (Builtin.clear_ #[t] ty #[.slice A 0 c]) z K r:=fun{A c u' l id e' off} hg hk=>by
   have hs:splice l off (List.replicate 0 u'.zero)=l:=by simp[splice]
   rw[hs] at hk;exact .mk' (z':=z) (bTZ z.w hu) (hH.reset hg) tupK (Nx.refl z) hk
  split at h3
  ·obtain rfl:=ha.v.opq.1;exact .mk' (z':=z) (bTZ z.w hu) hH tupK (Nx.refl z) h3
  ·rename_i es id;split at h3
   ·rename_i e' t' l hg;rcases aFZ h3 with⟨rfl,h4⟩|h4
    ·obtain⟨h5,h6⟩:=aeZ.1 h4;rw[acZ] at h5;subst h5;cases ha with
     |slfV _ _ A hρ=>
      obtain⟨rfl,_⟩:=hH.virt hg hρ;exact none0 hg h6
     |slf _ _ g sz n c hρ hn hs hm'=>
      have hl:l.length=n:=by obtain⟨_,_,_,cs,fr,a1,a2,a3,a4,_⟩:=hH.real hg hρ;exact a4
      subst hl;have:=iHZ (ty:=ty) (off:=0) (dl:=l.length) (c:=c) hH hg hρ hu hz (by omega) h6;rwa [ZBa] at this
    ·cases h4
   ·cases h3
  ·rename_i es id off n;split at h3
   ·rename_i e' t' l hg;rcases aFZ h3 with⟨rfl,h4⟩|h4
    ·obtain⟨h5,h6⟩:=aeZ.1 h4;simp only[ZAB,acZ,ZAm] at h5;obtain⟨rfl,h7⟩:=h5;cases ha with
     |slV _ _ _ A hρ=>exact none0 hg h6
     |slE _ _ _ g sz m' o hρ=>exact none0 hg h6
     |sl _ _ _ _ g sz m' c hρ hn hs hm'=>exact iHZ hH hg hρ hu hz h7 h6
    ·cases h4
   ·cases h3
  ·cases h3
 ·cases h
end
end Go.Ab
namespace Go.Ab
section
variable {P : Program} {β : Type} {z : Z} {H : Hp}
theorem gkZ{α:Type}{f:α->α->Bool}(hf:∀{a b},f a b=true->a=b):∀{l r:List α},listEqb f l r=true->l=r
 |[],[],_=>rfl
 |a::l,b::r,h=>by
  simp only[listEqb,ZAB] at h;rw[hf h.1,gkZ hf h.2]
 |[],_::_,h=>by simp[listEqb] at h
 |_::_,[],h=>by simp[listEqb] at h
theorem dvZ:(k:Ty)->k.keyed=true->{x a:k.den}->k.eqb x a=true->x=a
 |.int _,_,x,a,h=>by
  have:((x:Int)==(a:Int))=true:=h;exact ZBf.1 this
 |.byte,_,x,a,h=>by
  have:((x:UInt8)==(a:UInt8))=true:=h;exact ZBf.1 this
 |.bool,_,x,a,h=>by
  have:((x:Bool)==(a:Bool))=true:=h;exact ZBf.1 this
 |.str,_,x,a,h=>by
  have:((x:List UInt8)==(a:List UInt8))=true:=h;exact ZBf.1 this
 |.one t,hk,x,a,h=>dvZ t hk h
 |.pair s t,hk,x,a,h=>by
  simp only[Ty.keyed,ZAB] at hk;simp only[Ty.eqb,ZAB] at h;exact Prod.ext (dvZ s hk.1 h.1) (dvZ t hk.2 h.2)
 |.arr _ t,hk,x,a,h=>gkZ (fun h=>dvZ t hk h) h
theorem j7Z{kt:TypeId}{k:Ty}(h:keyOk P kt k=true):k.keyed=true:=by
 unfold keyOk at h;simp only[ZAB] at h;exact h.2
def setO(w:World)(g:Nat)(o:Obj):World:={w with heap:=w.heap.setIfInBounds g o}
theorem hhZ{w:World}{g:Nat}{es:Array MapEntry}{c:Nat}(h:w.heap[g]? =some (.map es c))(o:Obj):(setObj g o).run P w= .ok () (setO w g o):=by
 simp[setObj,Sem.run,h]
 rfl
theorem gVZ{w:World}{g:Nat}{es:Array MapEntry}{c:Nat}(h:w.heap[g]? =some (.map es c)):(getObj g).run P w= .ok (.map es c) w:=by
 simp[getObj,Sem.run,h]
theorem nQZ(w:World)(old new:Value):∃v w',(Instr.keyThatStays old new).run P w= .ok v w'/\(v=old\/v=new)/\w'.heap=w.heap/\w'.os=w.os/\(w'.tape=w.tape/\w.drawn<=w'.drawn)/\w'.output=w.output:=by
 by_cases h:Instr.sameBits 10000 old new=true
 ·exact⟨new,w,by simp[Instr.keyThatStays,h],.inr rfl,rfl,rfl,⟨rfl,ZAM _⟩,rfl⟩
 ·by_cases h2:(Question.extern "map.whichKeyStays" 2).cut (w.tape w.drawn (.extern "map.whichKeyStays" 2))=0
  ·exact⟨new,w.drew,by simp[Instr.keyThatStays,h,Question.forced,h2],.inr rfl,rfl,rfl,⟨rfl,ZBb _⟩,rfl⟩
  ·exact⟨old,w.drew,by simp[Instr.keyThatStays,h,Question.forced,h2],.inl rfl,rfl,rfl,⟨rfl,ZBb _⟩,rfl⟩
theorem eZZ{id g sz n:Nat}{b0 b:Blk}{w1:World}{o:Obj}(hH:HRep z H)(hg:hget H id=some ⟨false,b0⟩)(hρ:z.ρ id= .real g sz n)(h1:w1.heap=z.w.heap)(h2:w1.os=z.w.os)(h3:w1.tape=z.w.tape/\z.w.drawn<=w1.drawn)(h4:w1.output=z.w.output)
 (hb:∀z',Kp z z'->z'.w.heap[g]? =some o->BRep z' g sz n b):HRep {z with w:=setO w1 g o} (hset H id (some ⟨false,b⟩))/\Nx z {z with w:=setO w1 g o}:=by
 have hlt:=(hH.real hg hρ).1;refine hH.write (w':=setO w1 g o) hg hρ h2 h3 h4 (by simp[setO,h1]) (fun b hb=> ?_) fun k=>hb _ k ?_
 ·simp[setO,h1,Array.getElem?_setIfInBounds,ZBd hb]
 ·simp[setO,h1,hlt]
section
variable {k v : Ty}
theorem m4Z:∀{l:List ((k.den×v.den)×Nat)} {j:Nat} {a x:k.den} {b y:v.den} {n:Nat},l[j]? =some ((a,b),n)->k.eqb x a=true->(∀j' e,j'<j->l[j']? =some e->k.eqb x e.1.1=false)->mset l x y=l.set j ((x,y),n)
 |[],j,_,_,_,_,_,h,_,_=>by simp at h
 |((a',b'),n')::l,0,a,x,b,y,n,h,hq,hf=>by
  simp at h;obtain⟨⟨rfl,rfl⟩,rfl⟩:=h;simp[mset,hq]
 |((a',b'),n')::l,j+1,a,x,b,y,n,h,hq,hf=>by
  have:=hf 0 _ (by omega) rfl;simp only[mset,this,ZAE,List.set_cons_succ];rw[m4Z (by simpa using h) hq fun j' e hj he=>hf (j'+1) e (by omega) (by simpa using he)]
theorem paZ:∀{l:List ((k.den×v.den)×Nat)} {j:Nat} {a x:k.den} {b:v.den} {n:Nat},l[j]? =some ((a,b),n)->k.eqb x a=true->(∀j' e,j'<j->l[j']? =some e->k.eqb x e.1.1=false)->mdelL l x=l.eraseIdx j
 |[],j,_,_,_,_,h,_,_=>by simp at h
 |((a',b'),n')::l,0,a,x,b,n,h,hq,hf=>by
  simp at h;obtain⟨⟨rfl,rfl⟩,rfl⟩:=h;simp[mdelL,hq]
 |((a',b'),n')::l,j+1,a,x,b,n,h,hq,hf=>by
  have:=hf 0 _ (by omega) rfl;simp only[mdelL,this,ZAE,List.eraseIdx_cons_succ];rw[paZ (by simpa using h) hq fun j' e hj he=>hf (j'+1) e (by omega) (by simpa using he)]
theorem kPZ:∀{l:List ((k.den×v.den)×Nat)} {x:k.den},mfind l x=none->mdelL l x=l
 |[],_,_=>rfl
 |((a,b),n)::l,x,h=>by
  simp only[mfind] at h;cases hq:k.eqb x a<;>rw[hq] at h<;>simp only[ZAK,ZAE] at h
  ·simp only[mdelL,hq,ZAE];rw[kPZ h]
  ·cases h
theorem piZ:∀{l l':List ((k.den×v.den)×Nat)} {i:Int} {y:v.den},msetN l i y=some l'->∃(j:Nat) (a:k.den) (b:v.den) (n:Nat),l[j]? =some ((a,b),n)/\(n:Int)=i/\l'=l.set j ((a,y),n)/\∀j' e,j'<j->l[j']? =some e->(e.2:Int)≠i
 |[],_,_,_,h=>by simp[msetN] at h
 |((a,b),n)::l,l',i,y,h=>by
  simp only[msetN] at h;cases hq:((n:Int)==i)<;>rw[hq] at h<;>simp only[ZAK,ZAE] at h
  ·obtain⟨l1,h1,rfl⟩:=ZAH.1 h;obtain⟨j,a',b',n',q1,q2,q3,q4⟩:=piZ h1;refine⟨j+1,a',b',n',by simpa using q1,q2,by rw[q3];rfl,fun j' e hj he=> ?_⟩
   match j' with
   |0=>simp at he;subst he;simpa using hq
   |j'+1=>exact q4 j' e (by omega) (by simpa using he)
  ·simp only[ZAI] at h;exact⟨0,a,b,n,rfl,by simpa using hq,h.symm,fun j' e hj=>by omega⟩
end
def MRep(z:Z)(k v:Ty)(M:GMap k v)(es:Array MapEntry):Prop:=
 es.size=M.1.length/\(∀(i:Nat) x e,M.1[i]? =some x->es[i]? =some e->VRep z.w z.M z.ρ k x.1.1 e.key/\VRep z.w z.M z.ρ v x.1.2 e.val/\e.born=x.2)/\
  (∀(i j:Nat) x y,M.1[i]? =some x->M.1[j]? =some y->x.2=y.2->i=j)/\(∀(i:Nat) x,M.1[i]? =some x->x.2<M.2)
theorem MRep.kp{z':Z}(kk:Kp z z'){k v:Ty}{M:GMap k v}{es:Array MapEntry}(h:MRep z k v M es):MRep z' k v M es:=
 ⟨h.1,fun i x e q1 q2=>⟨(h.2.1 i x e q1 q2).1.kp kk,(h.2.1 i x e q1 q2).2.1.kp kk,(h.2.1 i x e q1 q2).2.2⟩,h.2.2⟩
theorem j4Z{k v:Ty}{l:List ((k.den×v.den)×Nat)}{j n:Nat}{p q:k.den×v.den}(hj:l[j]? =some (p,n)){i:Nat}{x:(k.den×v.den)×Nat}(h:(l.set j (q,n))[i]? =some x):∃y,l[i]? =some y/\y.2=x.2:=by
 by_cases hi:j=i
 ·subst hi;have:=(ZAC.1 hj).1;rw[ZAU this] at h;simp only[ZAI] at h;subst h;exact⟨_,hj,rfl⟩
 ·rw[ZAg hi] at h;exact⟨x,h,rfl⟩
theorem MRep.set{k v:Ty}{M:GMap k v}{es es':Array MapEntry}{j n:Nat}{p:k.den×v.den}{x:k.den}{y:v.den}{e':MapEntry}(h:MRep z k v M es)(hj:M.1[j]? =some (p,n))(hx:VRep z.w z.M z.ρ k x e'.key)(hy:VRep z.w z.M z.ρ v y e'.val)(hb:e'.born=n)
 (hs:es'.size=es.size)(h1:es'[j]? =some e')(h2:∀i,i≠j->es'[i]? =es[i]?):MRep z k v (M.1.set j ((x,y),n),M.2) es':=by
 obtain⟨a1,a2,a3,a4⟩:=h;refine⟨by rw[hs,a1];simp,fun i a e q1 q2=> ?_,fun i i' a b q1 q2 q3=> ?_,fun i a q1=> ?_⟩
 ·by_cases hi:j=i
  ·subst hi;have:=(ZAC.1 hj).1;rw[ZAU this] at q1;rw[h1] at q2;simp only[ZAI] at q1 q2;subst q1;subst q2;exact⟨hx,hy,hb⟩
  ·rw[ZAg hi] at q1;rw[h2 i (ZBd hi)] at q2;exact a2 i a e q1 q2
 ·obtain⟨y1,r1,r2⟩:=j4Z hj q1;obtain⟨y2,r3,r4⟩:=j4Z hj q2;exact a3 i i' y1 y2 r1 r3 (by rw[r2,r4,q3])
 ·obtain⟨y1,r1,r2⟩:=j4Z hj q1;rw[<-r2];exact a4 i y1 r1
theorem MRep.push{k v:Ty}{M:GMap k v}{es:Array MapEntry}{x:k.den}{y:v.den}{e':MapEntry}(h:MRep z k v M es)(hx:VRep z.w z.M z.ρ k x e'.key)(hy:VRep z.w z.M z.ρ v y e'.val)(hb:e'.born=M.2):
 MRep z k v (M.1++[((x,y),M.2)],M.2+1) (es.push e'):=by
 obtain⟨a1,a2,a3,a4⟩:=h;have key:∀(i:Nat) a,(M.1++[((x,y),M.2)])[i]? =some a->(i<M.1.length/\M.1[i]? =some a)\/(i=M.1.length/\a=((x,y),M.2)):=fun i a h=>by
  by_cases hi:i<M.1.length
  ·rw[ZAL hi] at h;exact .inl ⟨hi,h⟩
  ·rw[ZAO (by omega)] at h;have hi0:i-M.1.length=0:=by
    have:=(ZAC.1 h).1;simpa using this
   rw[hi0] at h;simp at h;exact .inr ⟨by omega,h.symm⟩
 refine⟨by simp[a1],fun i a e q1 q2=> ?_,fun i i' a b q1 q2 q3=> ?_,fun i a q1=> ?_⟩
 ·rcases key i a q1 with⟨hi,q1⟩|⟨rfl,rfl⟩
  ·rw[Array.getElem?_push,ZAQ (by omega)] at q2;exact a2 i a e q1 q2
  ·rw[Array.getElem?_push,ZAT a1.symm] at q2;simp only[ZAI] at q2;subst q2;exact⟨hx,hy,hb⟩
 ·rcases key i a q1 with⟨hi,q1⟩|⟨rfl,rfl⟩<;>rcases key i' b q2 with⟨hi',q2⟩|⟨rfl,rfl⟩
  ·exact a3 i i' a b q1 q2 q3
  ·have:=a4 i a q1;simp only at q3;omega
  ·have:=a4 i' b q2;simp only at q3;omega
  ·rfl
 ·rcases key i a q1 with⟨hi,q1⟩|⟨rfl,rfl⟩
  ·have:=a4 i a q1;simp only;omega
  ·simp
theorem MRep.find{k v:Ty}{M:GMap k v}{es:Array MapEntry}{kt:TypeId}{x:k.den}{vk:Value}(h:MRep z k v M es)(hk:keyOk P kt k=true)(hx:VRep z.w z.M z.ρ k x vk):
 ∃q,(Instr.findKey kt vk es.toList).run P z.w= .ok q z.w/\((q=none/\mfind M.1 x=none)\/
  ∃(j:Nat) (b:v.den) (n:Nat) (e:MapEntry),q=some (j,e.val)/\M.1[j]? =some ((x,b),n)/\es[j]? =some e/\mfind M.1 x=some (b,n)/\k.eqb x x=true/\∀(j':Nat) e',j'<j->M.1[j']? =some e'->k.eqb x e'.1.1=false):=by
 obtain⟨a2,a3,_⟩:=h;obtain⟨q,f1,f2⟩:=ccZ hk z.w hx es.toList (M.1.map (·.1.1)) (by simp[a2]) (fun j a e e1 e2=>by
  rw[ZAW] at e1;obtain⟨y,e3,rfl⟩:=ZAH.1 e1;exact(a3 j y e e3 (by simpa using e2)).1)
 refine⟨q,f1,?_⟩;rcases f2.split (by simp[a2]) with⟨rfl,f3⟩|⟨j,a,e,rfl,f3,f4,f5,f6⟩
 ·refine .inl ⟨rfl,?_⟩;cases hq:mfind M.1 x with
  |none=>rfl
  |some y=>
   obtain⟨j,a,q1,q2,_⟩:=bXZ hq;have:=f3 j a (by simp[q1]);rw[q2] at this;cases this
 ·rw[ZAW] at f3;obtain⟨⟨⟨a',b⟩,n⟩,f7,rfl⟩:=ZAH.1 f3;simp only at f5;obtain rfl:=dvZ k (j7Z hk) f5;refine .inr ⟨j,b,n,e,rfl,f7,by simpa using f4,?_,f5,fun j' e' hj' he'=>f6 j' e'.1.1 hj' (by simp[he'])⟩;cases hq:mfind M.1 x with
  |none=>
   have:=ejZ hq j _ f7;rw[f5] at this;cases this
  |some y'=>
   obtain⟨j',a',q1,q2,q3⟩:=bXZ hq;have hjj:j'=j:=by
    rcases Nat.lt_trichotomy j' j with hlt|heq|hgt
    ·have:=f6 j' a' hlt (by simp[q1]);rw[q2] at this;cases this
    ·exact heq
    ·have:=q3 j _ hgt f7;rw[f5] at this;cases this
   subst hjj;rw[q1] at f7;injection f7 with f7;injection f7 with f8 f9;injection f8 with f8 f10;rw[<-f9,<-f10]
def OkU(P:Program)(s:Sem Unit)(z:Z)(K:AV->Hp->Option β)(r:β):Prop:=
 ∃H' z',s.run P z.w= .ok () z'.w/\HRep z' H'/\Nx z z'/\K .junk H'=some r
theorem foZ{t kt et:TypeId}{q:Option Value}(hu:P.underlying t=some (.map kt et))(hq:∀v,q=some v->∃k n,v= .int k n)(w:World):(Instr.makeMap t q).run P w= .ok (.map (some w.heap.size)) (w.alloc (.map #[] 0)):=by
 cases q with
 |none=>rfl
 |some v=>
  obtain⟨k,n,rfl⟩:=hq v rfl;simp[Instr.makeMap,run_underlying hu,asInt,asIntOf]
theorem iWZ{t:TypeId}{a:Option AV}{v:Option Value}{md:List Nat}{id:Nat}{K:AV->Hp->Option β}{r:β}(h:evMakeMap P t a md id H K=some r)(hH:HRep z H)(hd:¬z.D id)(ha:ORep z a v):Ok P (Instr.makeMap t v) z K r:=by
 unfold evMakeMap at h;split at h
 ·rename_i kt et hu;obtain⟨k,h1,h2⟩:=agZ.1 h;obtain⟨h3,h4⟩:=aeZ.1 h2;have hq:∀x,v=some x->∃k n,x= .int k n:=fun x hx=>by
   rcases ha with⟨rfl,rfl⟩|⟨y,u,rfl,rfl,hy⟩
   ·cases hx
   ·simp only[ZAI] at hx;subst hx;cases hn:y.any? with
    |none=>simp only[hn] at h3;cases h3
    |some n=>
     obtain⟨kk,e⟩:=bfZ hn hy;exact⟨kk,n,e⟩
  have hrun:=foZ (P:=P) hu hq z.w;have hnew:∀b,(hkey H id=false/\id<famBase)->(∀z',Kp z z'->z'.w.heap[z.w.heap.size]? =some (.map #[] 0)->BRep z' z.w.heap.size 0 0 b)->K (.mp id) (hset H id (some ⟨false,b⟩))=some r->Ok P (Instr.makeMap t v) z K r:=fun b hk hb hK=>by
   have hlt:z.w.heap.size<(z.w.alloc (.map #[] 0)).heap.size:=(ZBF.1 (heap_alloc_new z.w (.map #[] 0))).1;obtain⟨z',p1,p2,p3,p4⟩:=hH.new (w':=z.w.alloc (.map #[] 0)) (g:=z.w.heap.size) (sz:=0) (n:=0) (b:=b) hk hd (ZAM _) hlt rfl ⟨rfl,ZAM _⟩ rfl (Nat.le_of_lt hlt) (fun k hk=>heap_alloc_old _ _ _ hk) (fun z' hz kk=>hb z' kk (by rw[hz];exact heap_alloc_new _ _));exact .mk' (by rw[p1];exact hrun) p2 (.mp _ _ _ _ p4) p3 hK
  cases hf:isFuncT P et<;>rw[hf] at h4<;>simp only[bq_true,bq_false] at h4
  ·obtain⟨u,h5,h6⟩:=agZ.1 h4;obtain⟨h7,h8⟩:=a5Z.1 h6;exact hnew (.map k (mapVal md u) ([],0)) h7 (fun z' kk hz=>⟨#[],hz,rfl,fun i x e h=>by simp at h,fun i j x y h=>by simp at h,fun i x h=>by simp at h⟩) h8
  ·obtain⟨h7,h8⟩:=a5Z.1 h4;exact hnew (.fmap k []) h7 (fun z' kk hz=>⟨#[],0,hz,rfl,fun i x e h=>by simp at h⟩) h8
 ·cases h
theorem ppZ{t:TypeId}{k v:Ty}(h:mapOk P t k v=true):∃kt et,P.underlying t=some (.map kt et)/\keyOk P kt k=true/\ty P et=some v.unref/\zeroOk P et v=true:=by
 unfold mapOk at h;split at h
 ·rename_i kt et hu;simp only[ZAB,ZAd] at h;exact⟨kt,et,hu,h.1.1,h.1.2,h.2⟩
 ·cases h
theorem ouZ{id:Nat}{a a':AV}{H':Hp}{v:Value}(hH:HRep z H)(h:mapIn H id a=some (a',H'))(ha:ARep z a v):
 ∃z',z'.w=z.w/\HRep z' H'/\Nx z z'/\ARep z' a' v:=by
 unfold mapIn at h;split at h
 ·rename_i fz k u M hg;cases hb:u.noRef<;>rw[hb] at h<;>simp only[bq_true,bq_false] at h
  ·obtain⟨⟨y,H1⟩,h1,h2⟩:=agZ.1 h;obtain⟨z1,q1,q2,q3,q5⟩:=mqZ hH h1 ha;obtain⟨z2,r1,r2,r3,_,r5⟩:=byZ q2 h2 q5;exact⟨z2,r1.trans q1,r2,q3.trans r3,r5⟩
  ·obtain⟨z2,r1,r2,r3,_,r5⟩:=byZ hH h ha;exact⟨z2,r1,r2,r3,r5⟩
 ·obtain⟨z2,r1,r2,r3,_,r5⟩:=byZ hH h ha;exact⟨z2,r1,r2,r3,r5⟩
theorem eHZ{t:TypeId}{m ak ax:AV}{vm vk vx:Value}{K:AV->Hp->Option β}{r:β}(h:evMapUpd P t m ak ax H K=some r)(hH:HRep z H)(hm:ARep z m vm)(hk:ARep z ak vk)(hx:ARep z ax vx):OkU P (Instr.mapUpdate t vm vk vx) z K r:=by
 unfold evMapUpd at h;split at h
 ·rename_i id;cases hm with|mp _ g sz n hρ=>
  split at h
  ·rename_i k l hg;obtain⟨h1,h2⟩:=aeZ.1 h;obtain⟨x,h3,h4⟩:=bxZ h2 hk;obtain⟨h5,h6⟩:=aeZ.1 h4;obtain⟨c,h7,h8⟩:=agZ.1 h6;obtain⟨h9,h10⟩:=aeZ.1 h8;unfold fmapOk at h1;split at h1
   ·rename_i kt et hu;simp only[ZAB] at h1;obtain⟨⟨hK,_⟩,_⟩:=h1;obtain⟨_,_,_,es,clock,a1,a2,a3⟩:=hH.real hg hρ;have hck:=aUZ (em:=false) z.w typesFuel kt k (cQZ hK).2 10000 (by unfold typesFuel;omega) x vk h3;obtain⟨q,f1,f2⟩:=ccZ hK z.w h3 es.toList (l.map (·.1)) (by simp[a2]) (fun j a e e1 e2=>by
     rw[ZAW] at e1;obtain⟨y,e3,rfl⟩:=ZAH.1 e1;exact(a3 j y e e3 (by simpa using e2)).1)
    have hno:∀(l:List (k.den×AV)),noKey l x=true->∀(i:Nat) e,l[i]? =some e->k.eqb x e.1=false:=by
     intro l;induction l with
     |nil=>intro _ i e he;simp at he
     |cons a l ih=>
      intro hn i e he;simp only[noKey,ZAB,ZAc] at hn
      match i with
      |0=>simp at he;subst he;exact hn.1
      |i+1=>exact ih hn.2 i e (by simpa using he)
    rcases f2.split (by simp[a2]) with⟨rfl,f3⟩|⟨j,a,e,rfl,f3,f4,f5,f6⟩
    ·obtain⟨p1,p2⟩:=eZZ (w1:=z.w) (o:=.map (es.push {key:=vk,val:=vx,born:=clock}) (clock+1)) (b:=.fmap k (l++[(x,ax)])) hH hg hρ rfl rfl ⟨rfl,ZAM _⟩ rfl (fun z' kk hz=>by
      refine⟨_,_,hz,by simp[a2],fun i a e q1 q2=> ?_⟩;by_cases hi:i<l.length
      ·rw[ZAL hi] at q1;rw[Array.getElem?_push,ZAQ (by omega)] at q2;exact⟨(a3 i a e q1 q2).1.kp kk,(a3 i a e q1 q2).2.kp kk⟩
      ·rw[ZAO (by omega)] at q1;have hi0:i-l.length=0:=by
        have:=(ZAC.1 q1).1;simpa using this
       rw[hi0] at q1;rw[Array.getElem?_push,ZAT (by omega)] at q2;simp at q1 q2;subst q1;subst q2;exact⟨h3.kp kk,hx.kp kk⟩)
     refine⟨_,_,?_,p1,p2,h10⟩;simp[Instr.mapUpdate,run_underlying hu,gVZ a1,hck,f1,hhZ a1]
    ·rw[ZAW] at f3;obtain⟨y,f7,rfl⟩:=ZAH.1 f3;have:=hno l h5 j y f7;rw[f5] at this;cases this
   ·cases h1
  ·obtain⟨⟨y,H1⟩,h1,h2⟩:=agZ.1 h;obtain⟨z1,s1,s2,s3,s5⟩:=ouZ hH h1 hx;split at h2
   ·rename_i k v M hg;obtain⟨h3,h4⟩:=aeZ.1 h2;obtain⟨x,h5,h6⟩:=bxZ h4 (hk.kp (s3.kp hH.sub));obtain⟨w,h7,h8⟩:=bxZ h6 s5;obtain⟨kt,et,hu,hK,_,_⟩:=ppZ h3;have hρ1:z1.ρ id= .real g sz n:=by rw[s3.ext id (by rw[hρ];intro h;cases h)];exact hρ
    obtain⟨_,_,_,es,a1,a2⟩:=s2.real hg hρ1;have a2':MRep z1 k v M es:=a2;have hck:=aUZ (em:=false) z1.w typesFuel kt k (cQZ hK).2 10000 (by unfold typesFuel;omega) x vk h5;obtain⟨q,f1,f2⟩:=a2'.find hK h5;rcases f2 with⟨rfl,f3⟩|⟨j,b,nb,e,rfl,f3,f4,f5,f6,f7⟩
    ·have hp:mput M x w=(M.1++[((x,w),M.2)],M.2+1):=by unfold mput;rw[f3]
     rw[hp] at h8;obtain⟨p1,p2⟩:=eZZ (w1:=z1.w) (o:=.map (es.push {key:=vk,val:=vx,born:=M.2}) (M.2+1)) (b:=.map k v (M.1++[((x,w),M.2)],M.2+1)) s2 hg hρ1 rfl rfl ⟨rfl,ZAM _⟩ rfl (fun z' kk hz=>⟨_,hz,(a2'.push h5 h7 rfl).kp kk⟩);refine⟨_,_,?_,p1,s3.trans p2,h8⟩;rw[<-s1];simp[Instr.mapUpdate,run_underlying hu,gVZ a1,hck,f1,hhZ a1]
    ·have hp:mput M x w=(M.1.set j ((x,w),nb),M.2):=by unfold mput;rw[f5];simp only;rw[m4Z f3 f6 f7]
     rw[hp] at h8;obtain⟨key,w1,k1,k2,k3,k4,k5,k6⟩:=nQZ (P:=P) z1.w e.key vk;obtain⟨r1,r2,r3⟩:=a2'.2.1 j _ e f3 f4;have hkey:VRep z1.w z1.M z1.ρ k x key:=by rcases k2 with rfl|rfl<;>first|exact r1|exact h5
     have hj:=(ZBF.1 f4).1;obtain⟨p1,p2⟩:=eZZ (w1:=w1) (o:=.map (es.modify j fun e=>{e with key,val:=vx}) M.2) (b:=.map k v (M.1.set j ((x,w),nb),M.2)) s2 hg hρ1 k3 k4 k5 k6 (fun z' kk hz=>by
      refine⟨_,hz,(a2'.set (e':={e with key,val:=vx}) f3 hkey h7 r3 (by simp) (by simp[ZBv,f4]) (fun i hi=>by simp[ZBv,ZBd hi])).kp kk⟩)
     refine⟨_,_,?_,p1,s3.trans p2,h8⟩;rw[<-s1];have a1':w1.heap[g]? =some (.map es M.2):=by rw[k3];exact a1
     simp[Instr.mapUpdate,run_underlying hu,gVZ a1,hck,f1,f4,k1,hhZ a1']
   ·cases h2
 ·cases h
theorem MRep.erase{k v:Ty}{M:GMap k v}{es es':Array MapEntry}{j:Nat}(h:MRep z k v M es)(hs:es'.toList=es.toList.eraseIdx j):MRep z k v (M.1.eraseIdx j,M.2) es':=by
 obtain⟨a1,a2,a3,a4⟩:=h;have key:∀{α:Type} (l:List α) (i:Nat),(l.eraseIdx j)[i]? =l[if i<j then i else i+1]? :=fun l i=>by
  rw[List.getElem?_eraseIdx];split<;>rfl
 have hl:es.toList.length=M.1.length:=by simp[a1]
 refine⟨?_,fun i a e q1 q2=> ?_,fun i i' a b q1 q2 q3=> ?_,fun i a q1=> ?_⟩
 ·rw[<-Array.length_toList,hs,List.length_eraseIdx,List.length_eraseIdx,hl]
 ·rw[key] at q1;rw[<-Array.getElem?_toList,hs,key] at q2;exact a2 _ a e q1 (by simpa using q2)
 ·rw[key] at q1 q2;have:=a3 _ _ a b q1 q2 q3;split at this<;>split at this<;>omega
 ·rw[key] at q1;exact a4 _ a q1
end
end Go.Ab
namespace Go.Ab
section
variable {P : Program} {T : Tbl} {β : Type} {z : Z} {H : Hp}
def OkX(P:Program)(s:Sem Next)(z:Z)(K:AV->Hp->Option β)(r:β):Prop:=
 ∃x H' z' nx,s.run P z.w= .ok nx z'.w/\HRep z' H'/\Nx z z'/\((∃v,nx= .value v/\ARep z' x v)\/(nx= .skip/\x= .junk))/\K x H'=some r
theorem OkX.v{ρ:Operand->Value}{o:Oper}{s:Sem Value}{K:AV->Hp->Option β}{r:β}(he:execOp ρ o=(do pure (.value (<-s))))(h:Ok P s z K r):OkX P (execOp ρ o) z K r:=by
 obtain⟨x,v,H',z',h1,h2,h3,h4,h5⟩:=h;exact⟨x,H',z',.value v,by rw[he,Sem.run_bind,h1];rfl,h2,h4,.inl ⟨v,rfl,h3⟩,h5⟩
theorem OkX.u{ρ:Operand->Value}{o:Oper}{s:Sem Unit}{K:AV->Hp->Option β}{r:β}(he:execOp ρ o=(do s;pure .skip))(h:OkU P s z K r):OkX P (execOp ρ o) z K r:=by
 obtain⟨H',z',h1,h2,h3,h4⟩:=h;exact⟨.junk,H',z',.skip,by rw[he,Sem.run_bind,h1];rfl,h2,h3,.inr ⟨rfl,rfl⟩,h4⟩
theorem OkX.call{ρ:Operand->Value}{o:Oper}{c:Call}{b:Builtin}{s:Sem Value}{K:AV->Hp->Option β}{r:β}(ho:o.op= .call c)(hc:c.callee= .builtin b)
 (hb:∀consts,builtin b c.argTypes o.type consts (c.args.map ρ)=(do pure (.value (<-s))))(h:Ok P s z K r):OkX P (execOp ρ o) z K r:=by
 obtain⟨x,v,H',z',h1,h2,h3,h4,h5⟩:=h;refine⟨x,H',z',.value v,?_,h2,h4,.inl ⟨v,rfl,h3⟩,h5⟩;unfold execOp;simp only[ho,resolve,hc,Sem.run_bind,Sem.run_pure,Result.andThen_ok,invoke,hb,h1]
def isCall(o:Oper):Bool:=match o.op with|.call c=>(match c.callee with|.value _=>true|_=>false)|_=>false
theorem PReps.map{ps:Array (Nat×Operand)}{r:Operand->AV}{ρ:Operand->Value}(hr:∀x,ARep z (r x) (ρ x)):PReps z (ps.toList.map fun x=>(x.1,r x.2)) (ps.map fun(i,x)=>(i,ρ x)).toList:=by
 refine⟨by simp,fun i x y h1 h2=> ?_⟩;simp only[Array.toList_map] at h2;rw[ZAW] at h1 h2;obtain⟨q,h3,rfl⟩:=ZAH.1 h1;rw[h3] at h2;simp at h2;subst h2;exact⟨rfl,hr _⟩
theorem rpZ{o:Oper}{an:Ann}{r:Operand->AV}{ρ:Operand->Value}{K:AV->Hp->Option β}{res:β}(h:evW P T o an r H K=some res)(hH:HRep z H)(hd:mkOp P o=true->¬z.D (an.ids.headD 0))(hr:∀x,ARep z (r x) (ρ x))(hc:isCall o=false):
 OkX P (execOp ρ o) z K res:=by
 unfold evW at h;split at h
 ·rename_i t ho;exact .v (s:=Instr.alloc t true (.tuple #[])) (by simp[execOp,ho]) (by cases hq:nilL an.md<;>rw[hq] at h<;>first|exact j8Z h hH (hd (by simp[mkOp,ho]))|exact leZ h hH (hd (by simp[mkOp,ho])))
 ·rename_i t x ho;exact .v (s:=Instr.box t (ρ x)) (by simp[execOp,ho]) (by cases hq:nilL an.md<;>rw[hq] at h<;>first|exact m5Z h hH (hd (by simp[mkOp,ho])) (hr x)|exact oKZ h hH (hd (by simp[mkOp,ho])) (hr x))
 ·rename_i t n ps ho;exact .v (s:=Instr.buildSlice t n (ps.map fun(i,x)=>(i,ρ x))) (by simp[execOp,ho]) (ePZ h hH (hd (by simp[mkOp,ho])) (PReps.map hr))
 ·rename_i t a x ho;exact .u (s:=Instr.storeAt t (ρ a) (ρ x)) (by simp[execOp,ho]) (kDZ h hH (hr a) (hr x))
 ·rename_i s d x ho;split at h
  ·obtain⟨y,v,h1,h2,h3⟩:=ewZ h hH (hr x);exact .v (s:=convert s d (ρ x)) (by simp[execOp,ho]) ⟨y,v,H,z,h1,hH,h2,Nx.refl z,h3⟩
  ·exact .v (s:=convert s d (ρ x)) (by simp[execOp,ho]) (hkZ h hH (fun hs=>hd (by simp[mkOp,ho,hs])) (hr x))
 ·rename_i t l c ho;exact .v (s:=Instr.makeSlice t (ρ l) (ρ c)) (by simp[execOp,ho]) (nbZ h hH (hd (by simp[mkOp,ho])) (hr l) (hr c))
 ·rename_i t q ho;exact .v (s:=Instr.makeMap t (q.map ρ)) (by simp[execOp,ho]) (iWZ h hH (hd (by simp[mkOp,ho])) (.map hr))
 ·rename_i t m k x ho;exact .u (s:=Instr.mapUpdate t (ρ m) (ρ k) (ρ x)) (by simp[execOp,ho]) (eHZ h hH (hr m) (hr k) (hr x))
 ·rename_i t m k x ho;exact .u (s:=Instr.mapUpdate t (ρ m) (ρ k) (ρ x)) (by simp[execOp,ho]) (eHZ h hH (hr m) (hr k) (hr x))
 ·rename_i c ho;have two:∀{α:Type} {l:Array α} {a b:α},l.toList=[a,b]->l=#[a,b]:=fun hl=>by apply ZBg;rw[hl]
  split at h
  ·rename_i hcb;split at h
   ·rename_i s x t u ha ht;have e1:=two ha;have e2:=two ht;have hb:∀consts,builtin .append c.argTypes o.type consts (c.args.map ρ)=(do pure (.value (<-Builtin.append_ #[t,u] o.type #[ρ s,ρ x]))):=fun consts=>by simp[builtin,e1,e2]
    split at h
    ·rename_i k hu;exact .call ho hcb hb (hZZ o.type h hH (hd (by simp[mkOp,ho,hcb])) (hr s) (hr x) hu)
    ·rename_i e' hu;exact .call ho hcb hb (eOZ o.type h hH (hd (by simp[mkOp,ho,hcb])) (hr s) (hr x) (.inl ⟨e',hu⟩))
    ·rename_i hu;exact .call ho hcb hb (eOZ o.type h hH (hd (by simp[mkOp,ho,hcb])) (hr s) (hr x) (.inr hu))
    ·cases h
   ·cases h
  ·rename_i hcb;split at h
   ·rename_i d x t ts ha ht;have e1:=two ha;refine .call (s:=Builtin.copy_ c.argTypes o.type #[ρ d,ρ x]) ho hcb (fun consts=>by simp[builtin,e1]) ?_;have e0:c.argTypes[0]? =some t:=by rw[<-Array.getElem?_toList,ht];rfl
    have e2:Builtin.copy_ c.argTypes o.type #[ρ d,ρ x]=Builtin.copy_ #[t,t] o.type #[ρ d,ρ x]:=by simp[Builtin.copy_,e0]
    rw[e2];exact mXZ o.type h hH (hr d) (hr x)
   ·cases h
  ·rename_i hcb;split at h
   ·rename_i d t ha ht;have e1:c.args=#[d]:=by apply ZBg;rw[ha]
    have e2:c.argTypes=#[t]:=by apply ZBg;rw[ht]
    exact .call (s:=Builtin.clear_ #[t] o.type #[ρ d]) ho hcb (fun consts=>by simp[builtin,e1,e2]) (ljZ o.type h hH (hr d))
   ·cases h
  ·rename_i f hcb;simp[isCall,ho,hcb] at hc
  ·cases h
 ·cases h
end
end Go.Ab
