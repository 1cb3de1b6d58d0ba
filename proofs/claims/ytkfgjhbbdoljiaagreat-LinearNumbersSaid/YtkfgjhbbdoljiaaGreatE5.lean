/- An evaluator of the model's code over plain values, and its soundness; of no program. -/
import Derived.Test.YtkfgjhbbdoljiaaGreatE4
import Derived.Shelf.Strings.IndexAnyAll
import Derived.WalkMore
import Derived.Shelf.Small.Utf8
import Derived.Laws.Runes
import Derived.Lib.Bytealg
set_option linter.all false
namespace Go.Ab
open Go.Proofs Go.Shelf
section
variable {z : Z} {H : Hp}
theorem c9Z{H H':Hp}(h:∀j,hget H j=hget H' j)(id:Nat):hgetX H id=hgetX H' id:=by
 unfold hgetX;rw[h,h]
theorem HRep.forget(hH:HRep z H){H2:Hp}{a:Nat}(ha:a<famBase)(hg:∀j,hget H2 j=hget H j)(hk:∀j,hkey H2 j=(hkey H j&& !Nat.beq a j)):HRep {z with D:=fun k=>z.D k\/k=a} H2:=by
 have h0:=c3Z;have hkk:∀j,hkey H2 j=true->hkey H j=true:=fun j h=>by rw[hk] at h;simp at h;exact h.1
 refine⟨fun id e he=>(hH.ent id e (by rw[<-c9Z hg];exact he)).rho rfl rfl (.inl (.eq rfl)) rfl (fun _ _=>rfl) (fun _ _ _ _ _ h=>h),fun i i' e e' g sz n g' sz' n' hii h1 h2=>hH.inj i i' e e' g sz n g' sz' n' hii (by rw[<-c9Z hg];exact h1) (by rw[<-c9Z hg];exact h2),fun id hid=> ?_,hH.sub,fun id e h=>hH.fam id e (by rw[<-hg];exact h),fun i h=>hH.key i (hkk i h),fun i hd h=> ?_,hH.nos⟩
 ·by_cases hia:id=a
  ·exact .inr (.inr hia)
  ·have:hkeyX H id=false:=by
    unfold hkeyX at hid⊢;by_cases hd:dynBase<=id
    ·rw[if_pos hd] at hid⊢;have hra:a≠rt id:=by have:=(btZ hd).1;omega
     rw[hg,hk] at hid;have hb:Nat.beq a (rt id)=false:=aiZ hra;rw[hb] at hid;simpa using hid
    ·rw[if_neg hd] at hid⊢;by_cases hf:famBase<=id
     ·rw[if_pos hf]
     ·rw[if_neg hf] at hid⊢;rw[hk,aiZ (Ne.symm hia)] at hid;simpa using hid
   rcases hH.fresh id this with h2|h2
   ·exact .inl h2
   ·exact .inr (.inl h2)
 ·rintro(h2|h2)
  ·exact hH.dyn i hd (hkk _ h) h2
  ·omega
end
section
variable {w : World} {M : Nat → Prop} {ρ : Rho} {u : Ty}
theorem RowsIn.eq{l:List u.den}{cs cs':List Value}(h:RowsIn w M ρ u l cs)(he:∀j,j<l.length*u.cells->cs'[j]? =cs[j]?):RowsIn w M ρ u l cs':=fun i x hx=>by
 obtain⟨us,h1,h2⟩:=h i x hx;refine⟨us,h1,fun j v hj=> ?_⟩;have hi:=(List.getElem?_eq_some_iff.1 hx).1;have hjl:=(List.getElem?_eq_some_iff.1 hj).1;rw[h1.len] at hjl;have hup:(i+1)*u.cells<=l.length*u.cells:=Nat.mul_le_mul_right _ hi;rw[Nat.succ_mul] at hup;rw[he _ (by omega)];exact h2 j v hj
theorem RowsIn.app{l m:List u.den}{cs ds:List Value}(h:RowsIn w M ρ u l cs)(hc:cs.length=l.length*u.cells)(h':RowsIn w M ρ u m ds):RowsIn w M ρ u (l++m) (cs++ds):=fun i x hx=>by
 by_cases hi:i<l.length
 ·rw[List.getElem?_append_left hi] at hx;obtain⟨us,h1,h2⟩:=h i x hx;refine⟨us,h1,fun j v hj=> ?_⟩;have:=h2 j v hj;rw[List.getElem?_append_left (List.getElem?_eq_some_iff.1 this).1];exact this
 ·rw[List.getElem?_append_right (by omega)] at hx;obtain⟨us,h1,h2⟩:=h' _ x hx;refine⟨us,h1,fun j v hj=> ?_⟩;have:=h2 j v hj;have e:i*u.cells=cs.length+(i-l.length)*u.cells:=by rw[hc,<-Nat.add_mul];congr 1;omega
  rw[e,Nat.add_assoc,List.getElem?_append_right (by omega),Nat.add_sub_cancel_left];exact this
theorem RowsIn.takeC{l:List u.den}{cs:List Value}(h:RowsIn w M ρ u l cs)(q:Nat):RowsIn w M ρ u (l.take q) (cs.take (q*u.cells)):=
 (h.take q).eq fun j hj=>by
  rw[List.getElem?_take,if_pos];have:(l.take q).length*u.cells<=q*u.cells:=Nat.mul_le_mul_right _ (by rw[List.length_take];omega);omega
theorem RowsIn.dropC{l:List u.den}{cs:List Value}(h:RowsIn w M ρ u l cs)(q:Nat):RowsIn w M ρ u (l.drop q) (cs.drop (q*u.cells)):=fun i x hx=>by
 rw[List.getElem?_drop] at hx;obtain⟨us,h1,h2⟩:=h _ x hx;refine⟨us,h1,fun j v hj=> ?_⟩;rw[List.getElem?_drop];have:=h2 j v hj;rw[Nat.add_mul,Nat.add_assoc] at this;exact this
theorem RowsIn.cut{l:List u.den}{cs:List Value}(h:RowsIn w M ρ u l cs)(hc:l.length*u.cells<=cs.length)(h0:0<u.cells):
 RowsIn w M ρ u l (cs.take (l.length*u.cells))/\(cs.take (l.length*u.cells)).length=l.length*u.cells/\∀v∈cs.take (l.length*u.cells),v.oneCell'=true:=by
 refine⟨h.eq fun j hj=>by rw[List.getElem?_take,if_pos hj],by rw[List.length_take];omega,fun v hv=> ?_⟩;obtain⟨j,hj⟩:=List.getElem?_of_mem hv;rw[List.getElem?_take] at hj;split at hj
 ·rename_i hlt;have hi:j/u.cells<l.length:=Nat.div_lt_of_lt_mul (by rw[Nat.mul_comm];exact hlt);obtain⟨us,h1,h2⟩:=h _ _ (List.getElem?_eq_getElem hi);have hr:j%u.cells<us.length:=by rw[h1.len];exact Nat.mod_lt _ h0
  have:=h2 _ _ (List.getElem?_eq_getElem hr);rw[show j/u.cells*u.cells+j%u.cells=j from by rw[Nat.mul_comm];exact Nat.div_add_mod _ _] at this;rw[this] at hj;cases hj;exact h1.one _ (List.getElem_mem hr)
 ·cases hj
end
theorem nAZ{z:Z}{a b c:AV}{vals:List Value}(h:AReps z [a,b,c] vals):∃u v w,vals=[u,v,w]/\ARep z a u/\ARep z b v/\ARep z c w:=by
 obtain⟨h1,h2⟩:=h
 match vals,h1,h2 with
 |[u,v,w],_,h2=>exact⟨u,v,w,rfl,h2 0 a u rfl rfl,h2 1 b v rfl rfl,h2 2 c w rfl rfl⟩
def insS(u:Ty)(by_:Nat)(t:Int×(List u.den×List u.den)):Option (List u.den×List u.den):=
 (upto? t.1 t.2.1.length).bind fun q=>need (Nat.blt 0 t.2.2.length&&Nat.ble ((t.2.1.length+t.2.2.length)*by_) room&&Nat.ble (t.2.1.length+t.2.2.length) room) (some (t.2.2,t.2.1.take q++t.2.2++t.2.1.drop q))
section
variable {P : Program} {ρr : Ren}
theorem h2Z(L:InsLay P ρr){u:Ty}{by_:Nat}{ag:Bool}(h0:0<u.cells)(hub:u≠.byte)(z9:∀w,(Go.sizeOf (ρr.t 9)).run P w= .ok u.cells w)(a9:∀w,(isAgg (ρr.t 9)).run P w= .ok ag w)
 (hi9:(P.info? (ρr.t 9)).map (fun i=>(i.size,i.bytes,i.zero.map fun v=>v.cells.size))=some (u.cells,by_,some u.cells))
 (hent:∃fn c,P.funcs[ρr.f 22]? =some fn/\fn.body=some c/\(fn.name== "runtime.NumGoroutine")=false):
 Told P ⟨ρr.f 22,⟨.cons (.slf u.cells 0) (.cons (.p (.int .i64)) (.cons (.slf u.cells 1) .nil)),[(0,false,.rows (ρr.t 9) u),(1,false,.rows (ρr.t 9) u)]⟩,[⟨.cons (.slf u.cells 2) .nil,[(1,false,.rows (ρr.t 9) u),(2,false,.rows (ρr.t 9) u)]⟩],insS u by_⟩:=by
 refine Told.of hent fun t r hr z vals hH hv hD=> ?_;obtain⟨⟨qi,l,v⟩,rfl⟩:∃t':Int×(List u.den×List u.den),t'=t:=⟨t,rfl⟩;have hr:insS u by_ (qi,(l,v))=some r:=hr;unfold insS at hr;dsimp only at hr;obtain⟨q,hq,hr⟩:=Option.bind_eq_some_iff.1 hr;obtain⟨hr0,hr⟩:=adZ.1 hr;simp only[Bool.and_eq_true,Nat.blt_eq,Nat.ble_eq,show room=140737488355328 from rfl] at hr0;injection hr with hr;subst hr;have hH:HRep z [(0,some ⟨false,.rows (ρr.t 9) u l⟩),(1,some ⟨false,.rows (ρr.t 9) u v⟩)]:=hH;have hv:AReps z [.slf u.cells 0,.p (.int .i64) qi,.slf u.cells 1] vals:=hv;obtain⟨v1,v2,v3,rfl,k1,k2,k3⟩:=nAZ hv;obtain rfl:=k2.v.int;have hqi:0<=qi/\qi<=l.length/\q=qi.toNat:=by
  unfold upto? at hq;split at hq
  ·rename_i h;simp at hq;exact⟨h.1,h.2,hq.symm⟩
  ·cases hq
 obtain rfl:qi=(q:Int):=by omega
 have hql:q<=l.length:=by omega
 have hg0:hget [(0,some (⟨false,.rows (ρr.t 9) u l⟩:Ent)),(1,some ⟨false,.rows (ρr.t 9) u v⟩)] 0=some ⟨false,.rows (ρr.t 9) u l⟩:=rfl;have hg1:hget [(0,some (⟨false,.rows (ρr.t 9) u l⟩:Ent)),(1,some ⟨false,.rows (ρr.t 9) u v⟩)] 1=some ⟨false,.rows (ρr.t 9) u v⟩:=rfl;obtain⟨i0,hi0,hi0'⟩:=Option.map_eq_some_iff.1 hi9;simp only[Prod.mk.injEq] at hi0';obtain⟨hs0,hby,hz0⟩:=hi0';obtain⟨zv,hzv,hzl⟩:=Option.map_eq_some_iff.1 hz0;have hsz:(P.info? (ρr.t 9)).map (·.size)=some u.cells:=by rw[hi0];simp[hs0]
 have hbig:(l.length+v.length)*i0.bytes<=140737488355328:=by rw[hby];exact hr0.1.2
 have hfb:(0:Nat)<famBase/\(1:Nat)<famBase/\(2:Nat)<famBase:=by simp[famBase]
 cases k3 with
 |slfV _ _ A hρ=>
  have:v=[]:=(hH.virt hg1 hρ).1;rw[this] at hr0;simp at hr0
 |slf _ _ g3 sz3 m c3 hρ3 hn3 hs3 hm3=>
 obtain⟨hlt3,hC3,_,cs3,fr3,b1,b2,b3,b4,b5,b6,b7⟩:=hH.real hg1 hρ3;obtain rfl:v.length=m:=b4;have R3:RowsIn z.w z.M z.ρ u v cs3.toList:=fun i x hx=>by obtain⟨us,q1,q2⟩:=b7 i x hx;exact⟨us,q1,fun j v hj=>by simpa using q2 j v hj⟩
 obtain⟨V1,V2,V3⟩:=R3.cut (by rw[Array.length_toList (xs:=cs3)];omega) h0;generalize hVS:cs3.toList.take (v.length*u.cells)=VS at V1 V2 V3;have hvs:∀j x,VS[j]? =some x->z.w.cell? ⟨g3,j,none⟩=some x:=fun j x hj=>by
  rw[<-hVS,List.getElem?_take] at hj;split at hj
  ·rw[bOZ b1];simpa using hj
  ·cases hj
 have htup:∀(z':Z) (x:Value),ARep z' (.slf u.cells 2) x->ARep z' (tupA [.slf u.cells 2]) x:=fun z' x h=>h;have fin:∀(w':World) (val:Value) (z':Z),z'.w=w'->HRep z' [(0,none),(1,some ⟨false,.rows (ρr.t 9) u v⟩),(2,some ⟨false,.rows (ρr.t 9) u (l.take q++v++l.drop q)⟩)]->Nx z z'->ARep z' (.slf u.cells 2) val->
  ∃vv z'',Ending.returned val= .returned vv/\z''.w=w'/\Nx z {z'' with D:=z.D}/\(∀k,z''.D k->k∈hkKeys [(0,false,BKd.rows (ρr.t 9) u),(1,false,BKd.rows (ρr.t 9) u)])/\
   OutS.on [⟨.cons (.slf u.cells 2) .nil,[(1,false,.rows (ρr.t 9) u),(2,false,.rows (ρr.t 9) u)]⟩] (v,l.take q++v++l.drop q) fun o x=>HRep z'' (o.emb x).2/\ARep z'' (tupA (o.emb x).1) vv:=fun w' val z' e1 e2 e3 e4=>by
  refine⟨val,{z' with D:=fun k=>z'.D k\/k=0},rfl,e1,?_,fun k hk=> ?_,?_,?_⟩
  ·exact⟨e3.os,e3.tape,e3.output,e3.size,e3.block,e3.subM,e3.subC,e3.keepM,e3.ext,rfl⟩
  ·rcases hk with hk|hk
   ·rw[e3.dom] at hk;exact absurd hk (hD k)
   ·subst hk;simp[hkKeys]
  ·have:=e2.forget (a:=0) hfb.1 (H2:=[(1,some ⟨false,.rows (ρr.t 9) u v⟩),(2,some ⟨false,.rows (ρr.t 9) u (l.take q++v++l.drop q)⟩)]) (fun j=>by
    simp only[hget];cases hb:Nat.beq 0 j with
    |false=>rfl
    |true=>
     have:j=0:=(Nat.eq_of_beq_eq_true hb).symm;subst this
     rfl) (fun j=>by
    simp only[hkey];cases hb:Nat.beq 0 j with
    |false=>simp
    |true=>
     have:j=0:=(Nat.eq_of_beq_eq_true hb).symm;subst this
     rfl)
   exact this
  ·exact e4.less rfl rfl fun g h=>h
 have hok2:hkey [(0,(none:Option Ent)),(1,some ⟨false,.rows (ρr.t 9) u v⟩)] 2=false/\2<famBase:=⟨rfl,hfb.2.2⟩;have nD:∀k,¬z.D k:=hD;have h3len:(l.take q++v++l.drop q).length=l.length+v.length:=by simp;omega
 have hVS0:VS.length=v.length*u.cells:=V2;have hvz:∀(W:World),(∀x,W.cell? x=z.w.cell? x)->True:=fun _ _=>trivial;cases k1 with
 |slfV _ _ A hρ=>
  have hl:l=[]:=(hH.virt hg0 hρ).1;subst hl;obtain rfl:q=0:=by simpa using hql
  have hins:=drZ (k:=u.cells) L z9 a9 (Zc:=zv.cells) rfl hi0 hs0 hzv A 0 0 g3 v.length c3 [] VS z.w hr0.1.1 (Nat.le_refl _) (by omega) (by simpa using hbig) (by have:=hr0.2;simpa using this) (by simp) V2 (fun _=>rfl) (fun a _ j x hx=>by simp at hx) hvs V3;refine hins.mono ?_;rintro en w' ⟨rfl,rfl⟩;generalize hG:grownCap z.w (0+v.length) 0 (ρr.t 9)=G at*;have hge:v.length<=G:=by rw[<-hG];have:=grownCap_ge z.w (0+v.length) 0 (ρr.t 9);omega
  have hGm:G<=maxLen:=by rw[<-hG];exact grownCap_le_maxLen _ _ _ _ (by unfold maxLen;omega)
  have hcs:(([]++VS).toArray++Builtin.zeroCells zv.cells (G-(0+v.length))).size=G*u.cells:=by
   rw[Array.size_append,size_zeroCells,hzl,List.nil_append,List.size_toArray,V2,<-Nat.add_mul];congr 1;omega
  obtain⟨z',p1,p2,p3,p4⟩:=baZ (z:=z) (w':=z.w.drew.alloc (.cells (([]++VS).toArray++Builtin.zeroCells zv.cells (G-(0+v.length))) (ρr.t 9))) (e:=ρr.t 9) (l:=([]:List u.den).take 0++v++([]:List u.den).drop 0) (hH.kill (ahZ hg0)) hok2 (nD 2)
   (heap_alloc_new z.w.drew _) (okR0 _) rfl ⟨rfl,Nat.le_succ _⟩ rfl (fun k hk=>heap_alloc_old z.w.drew _ hk) (by rw[hcs];simpa using Nat.mul_le_mul_right _ hge) h0 (by
    have:(([]:List u.den).take 0++v++([]:List u.den).drop 0)=v:=by simp
    rw[this];refine V1.eq fun j hj=> ?_;rw[Array.toList_append,List.getElem?_append_left (by simp;omega)];simp)
  exact fin _ _ z' p1 p2 p3 (.slf _ _ _ _ (0+v.length) _ (by rw[p4];congr 1) (by simpa using hge) (by rw[hcs];exact Nat.le_refl _) hGm)
 |slf _ _ g sz n c hρ hn hs hm=>
 obtain⟨hlt,hC,_,cs,fr,a1,a2,a3,a4,a5,a6,a7⟩:=hH.real hg0 hρ;obtain rfl:l.length=n:=a4;have hne:g3≠g:=hH.inj 1 0 _ _ g3 sz3 _ g sz _ (by decide) (by rw[anZ hfb.2.1];exact hg1) (by rw[anZ hfb.1];exact hg0) rfl rfl hρ3 hρ;have R1:RowsIn z.w z.M z.ρ u l cs.toList:=fun i x hx=>by obtain⟨us,q1,q2⟩:=a7 i x hx;exact⟨us,q1,fun j v hj=>by simpa using q2 j v hj⟩
 obtain⟨S1,S2,S3⟩:=R1.cut (by rw[Array.length_toList (xs:=cs)];omega) h0;generalize hCS:cs.toList.take (l.length*u.cells)=CS at S1 S2 S3;have hcsj:∀j x,CS[j]? =some x->cs[j]? =some x:=fun j x hj=>by
  rw[<-hCS,List.getElem?_take] at hj;split at hj
  ·simpa using hj
  ·cases hj
 have hcell:∀j x,CS[j]? =some x->z.w.cell? ⟨g,j,none⟩=some x:=fun j x hj=>by rw[bOZ a1];exact hcsj j x hj
 have hcsl:∀j,j<l.length*u.cells->cs[j]? =CS[j]? :=fun j hj=>by rw[<-hCS,List.getElem?_take,if_pos hj];simp
 have hqk:q*u.cells<=l.length*u.cells:=Nat.mul_le_mul_right _ hql;have RL:RowsIn z.w z.M z.ρ u (l.take q++v++l.drop q) (CS.take (q*u.cells)++VS++CS.drop (q*u.cells)):=by
  refine RowsIn.app (RowsIn.app (S1.takeC q) ?_ V1) ?_ (S1.dropC q)
  ·rw[List.length_take,List.length_take,S2,Nat.min_eq_left hqk,Nat.min_eq_left hql]
  ·rw[List.length_append,List.length_append,List.length_take,List.length_take,S2,V2,Nat.min_eq_left hqk,Nat.min_eq_left hql,Nat.add_mul]
 have hL':(CS.take (q*u.cells)++VS++CS.drop (q*u.cells)).length=(l.length+v.length)*u.cells:=by
  rw[List.length_append,List.length_append,List.length_take,List.length_drop,S2,V2,Nat.min_eq_left hqk,Nat.add_mul];omega
 have hdk:(CS.drop (q*u.cells)).length=(l.length-q)*u.cells:=by rw[List.length_drop,S2,Nat.sub_mul]
 have hget3:∀j,(CS.take (q*u.cells)++VS++CS.drop (q*u.cells))[j]? =if j<q*u.cells then CS[j]? else if j<(q+v.length)*u.cells then VS[j-q*u.cells]? else CS[j-v.length*u.cells]? :=fun j=>by
  have e1:(CS.take (q*u.cells)).length=q*u.cells:=by rw[List.length_take,S2];omega
  have e2:(CS.take (q*u.cells)++VS).length=(q+v.length)*u.cells:=by rw[List.length_append,e1,V2,Nat.add_mul]
  have e3:(q+v.length)*u.cells=q*u.cells+v.length*u.cells:=Nat.add_mul _ _ _;by_cases h1:j<q*u.cells
  ·rw[if_pos h1,List.getElem?_append_left (by omega),List.getElem?_append_left (by omega),List.getElem?_take,if_pos h1]
  ·rw[if_neg h1];by_cases h2:j<(q+v.length)*u.cells
   ·rw[if_pos h2,List.getElem?_append_left (by omega),List.getElem?_append_right (by omega),e1]
   ·rw[if_neg h2,List.getElem?_append_right (by omega),e2,List.getElem?_drop];congr 1;omega
 have eqv:(q+v.length)*u.cells=q*u.cells+v.length*u.cells:=Nat.add_mul _ _ _;have elv:(l.length+v.length)*u.cells=l.length*u.cells+v.length*u.cells:=Nat.add_mul _ _ _;have eqd:(l.length-q)*u.cells=l.length*u.cells-q*u.cells:=Nat.sub_mul _ _ _;have hvk:0<v.length*u.cells:=Nat.mul_pos hr0.1.1 h0;by_cases hroom:l.length+v.length<=c
 ·
  have hfit:(l.length+v.length)*u.cells<=cs.size:=by
   have:(l.length+v.length)*u.cells<=c*u.cells:=Nat.mul_le_mul_right _ hroom;omega
  have hth:=cTZ (o:=0) (n:=(l.length+v.length)*u.cells) a1 a2.f (by omega);have hend:∀(w':World) (cs':Array Value),w'.heap[g]? =some (.cells cs' (ρr.t 9) fr)->cs'.size=cs.size->w'.os=z.w.os->(w'.tape=z.w.tape/\z.w.drawn<=w'.drawn)->w'.output=z.w.output->w'.heap.size=z.w.heap.size->(∀b,b≠g->w'.heap[b]? =z.w.heap[b]?)->
   (∀j,j<(l.length+v.length)*u.cells->cs'[j]? =(CS.take (q*u.cells)++VS++CS.drop (q*u.cells))[j]?)->
   ∃z',z'.w=w'/\HRep z' [(0,none),(1,some ⟨false,.rows (ρr.t 9) u v⟩),(2,some ⟨false,.rows (ρr.t 9) u (l.take q++v++l.drop q)⟩)]/\Nx z z'/\ARep z' (.slf u.cells 2) (.slice (some ⟨g,0,none⟩) (l.length+v.length) c):=fun w' cs' d1 d2 d3 d4 d5 d6 d7 d8=>by
   obtain⟨z',p1,p2,p3,p4⟩:=hH.move (id:=2) (n':=l.length+v.length) (b:=.rows (ρr.t 9) u (l.take q++v++l.drop q)) hg0 hρ hok2 (nD 2) d3 d4 d5 d6 d7 (fun z' hz kk=>by
    refine⟨cs',fr,by rw[hz];exact d1,evZ a2 d2,by rw[d2];exact a3,h3len,by rw[h3len];omega,a6,fun i x hx=> ?_⟩;have hR:=(RL.eq (cs':=cs'.toList) fun j hj=>by rw[h3len] at hj;simpa using d8 j hj).kp kk;obtain⟨us,q1,q2⟩:=hR i x hx;exact⟨us,q1,fun j y hj=>by simpa using q2 j y hj⟩)
   exact⟨z',p1,p2,p3,.slf _ _ _ _ _ _ p4 hroom hs hm⟩
  by_cases hqn:q<l.length
  ·have hn0:l.length*u.cells≠0:=by have:=Nat.mul_pos (show 0<l.length by omega) h0;omega
   have hsh:∀{gg:Nat} {cc:Array Value} {ee:TypeId} {ff:Nat×Nat},z.w.heap[gg]? =some (.cells cc ee ff)->z.w.shape? gg=some (ee,cc.size):=fun h=>by unfold World.shape?;rw[h]
   have hfr3:∀o,z.w.frozen? ⟨g3,o,none⟩=false:=fun o=>by
    have hf:fr3.1=fr3.2:=by
     rcases b2 with h|h
     ·exact h
     ·exact absurd h.1 hub
    unfold World.frozen?;rw[b1];simp only[Bool.and_eq_false_iff,decide_eq_false_iff_not];omega
   have hins:=kKZ (k:=u.cells) L h0 z9 a9 hsz g l.length c q g3 v.length c3 CS VS z.w hqn hr0.1.1 hroom (by unfold maxLen at hm;omega) hne S2 V2 hcell
    (fun j hj=>by have:=(hth j hj).1;simpa using this) (fun j hj=>by have:=(hth j hj).2;simpa using this) hvs S3 V3 _ _ _ _ (hsh b1) (hsh a1) (by omega) (hfr3 0) (hfr3 _)
   refine hins.mono ?_;rintro en w' ⟨rfl,rfl⟩;obtain⟨e1,e2,e3,e4⟩:=a3Z (CS.drop (q*u.cells)) z.w.drew g ((q+v.length)*u.cells);obtain⟨f1,f2,f3,f4⟩:=a3Z VS (z.w.drew.setCells g ((q+v.length)*u.cells) (CS.drop (q*u.cells))) g (q*u.cells);have hA:z.w.drew.heap[g]? =some (.cells cs (ρr.t 9) fr):=a1;obtain⟨z',y1,y2,y3,y4⟩:=hend _ (setArr (setArr cs ((q+v.length)*u.cells) (CS.drop (q*u.cells))) (q*u.cells) VS) (awZ _ _ _ _ _ _ _ (awZ _ _ _ _ _ _ _ hA)) (by rw[asZ,asZ])
    (f2.trans e2) ⟨f3.1.trans e3.1,Nat.le_trans (Nat.le_trans (Nat.le_succ _) e3.2) f3.2⟩ (f4.trans e4) (f1.trans e1) (fun b hb=>(avZ _ _ _ _ _ hb).trans (avZ _ _ _ _ _ hb)) (fun j hj=>by
     rw[hget3 j,a0Z _ _ _ _ (by rw[asZ,V2];omega),V2,a0Z _ _ _ _ (by rw[hdk];omega),hdk];by_cases c1:j<q*u.cells
     ·rw[if_neg (by omega),if_neg (by omega),if_pos c1];exact hcsl j (by omega)
     ·rw[if_neg c1];by_cases c2:j<(q+v.length)*u.cells
      ·rw[if_pos (by omega),if_pos c2]
      ·rw[if_neg (by omega),if_pos (by omega),if_neg c2,List.getElem?_drop];congr 1;omega)
   exact fin _ _ z' y1 y2 y3 y4
  ·obtain rfl:q=l.length:=by omega
   have hins:=fLZ (k:=u.cells) L z9 a9 hi0 hs0 g l.length c g3 v.length c3 VS z.w hr0.1.1 hroom (by unfold maxLen at hm;omega) V2 (fun j hj=>by have:=(hth (l.length*u.cells+j) (by omega)).1;simpa using this) (fun j hj=>by have:=(hth (l.length*u.cells+j) (by omega)).2;simpa using this) hvs V3;refine hins.mono ?_;rintro en w' ⟨rfl,rfl⟩;obtain⟨e1,e2,e3,e4⟩:=a3Z VS z.w g (l.length*u.cells);obtain⟨z',y1,y2,y3,y4⟩:=hend _ (setArr cs (l.length*u.cells) VS) (awZ _ _ _ _ _ _ _ a1) (asZ _ _ _) e2 e3 e4 e1 (fun b hb=>avZ _ _ _ _ _ hb) (fun j hj=>by
    rw[hget3 j,a0Z _ _ _ _ (by rw[V2];omega),V2];by_cases c1:j<l.length*u.cells
    ·rw[if_neg (by omega),if_pos c1];exact hcsl j c1
    ·rw[if_neg c1,if_pos (by omega),if_pos (by omega)])
   exact fin _ _ z' y1 y2 y3 y4
 ·
  have hroom':c<l.length+v.length:=by omega
  generalize hG:grownCap z.w (l.length+v.length) c (ρr.t 9)=G;have hge:l.length+v.length<=G:=by rw[<-hG];exact grownCap_ge _ _ _ _
  have hGm:G<=maxLen:=by rw[<-hG];exact grownCap_le_maxLen _ _ _ _ (by unfold maxLen;omega)
  have hgk:(l.length+v.length)*u.cells<=G*u.cells:=Nat.mul_le_mul_right _ hge;have hend:∀(w':World) (cs':Array Value),w'.heap[z.w.heap.size]? =some (.cells cs' (ρr.t 9) (0,0))->cs'.size=G*u.cells->w'.os=z.w.os->(w'.tape=z.w.tape/\z.w.drawn<=w'.drawn)->w'.output=z.w.output->(∀b,b<z.w.heap.size->w'.heap[b]? =z.w.heap[b]?)->
   (∀j,j<(l.length+v.length)*u.cells->cs'[j]? =(CS.take (q*u.cells)++VS++CS.drop (q*u.cells))[j]?)->
   ∃z',z'.w=w'/\HRep z' [(0,none),(1,some ⟨false,.rows (ρr.t 9) u v⟩),(2,some ⟨false,.rows (ρr.t 9) u (l.take q++v++l.drop q)⟩)]/\Nx z z'/\ARep z' (.slf u.cells 2) (.slice (some ⟨z.w.heap.size,0,none⟩) (l.length+v.length) G):=fun w' cs' d1 d2 d3 d4 d5 d7 d8=>by
   obtain⟨z',p1,p2,p3,p4⟩:=baZ (z:=z) (w':=w') (e:=ρr.t 9) (l:=l.take q++v++l.drop q) (hH.kill (ahZ hg0)) hok2 (nD 2) d1 (okR0 _) d3 d4 d5 d7 (by rw[h3len,d2];exact hgk) h0 (RL.eq (cs':=cs'.toList) fun j hj=>by rw[h3len] at hj;simpa using d8 j hj);exact⟨z',p1,p2,p3,.slf _ _ _ _ _ _ (by rw[p4,h3len]) hge (by rw[d2];exact Nat.le_refl _) hGm⟩
  by_cases hqn:q<l.length
  ·have hins:=l4Z (k:=u.cells) L h0 z9 a9 hsz (Zc:=zv.cells) rfl hi0 hs0 hzv hzl g l.length c q g3 v.length c3 CS VS z.w hqn hr0.1.1 hn hroom' hbig hr0.2 S2 V2 hcell hvs S3 V3;rw[hG] at hins;refine hins.mono ?_;rintro en w' ⟨rfl,rfl⟩;generalize hROW:(CS.take (q*u.cells)).toArray++Builtin.zeroCells zv.cells (l.length+v.length-q)++Builtin.zeroCells zv.cells (G-(l.length+v.length))=ROW;have hRs:ROW.size=G*u.cells:=by
    rw[<-hROW,Array.size_append,Array.size_append,size_zeroCells,size_zeroCells,hzl,List.size_toArray,List.length_take,S2,Nat.min_eq_left hqk,<-Nat.add_mul,<-Nat.add_mul];congr 1;omega
   have hR0:∀j,j<q*u.cells->ROW[j]? =CS[j]? :=fun j hj=>by
    have e1:(CS.take (q*u.cells)).length=q*u.cells:=by rw[List.length_take,S2];omega
    rw[<-hROW,Array.append_assoc,Array.getElem?_append_left (by rw[List.size_toArray,e1];exact hj),List.getElem?_toArray,List.getElem?_take,if_pos hj]
   have hnew:(z.w.alloc (.cells ROW (ρr.t 9))).drew.heap[z.w.heap.size]? =some (.cells ROW (ρr.t 9) (0,0)):=heap_alloc_new z.w _;obtain⟨e1,e2,e3,e4⟩:=a3Z VS (z.w.alloc (.cells ROW (ρr.t 9))).drew z.w.heap.size (q*u.cells);obtain⟨f1,f2,f3,f4⟩:=a3Z (CS.drop (q*u.cells)) ((z.w.alloc (.cells ROW (ρr.t 9))).drew.setCells z.w.heap.size (q*u.cells) VS).drew z.w.heap.size ((q+v.length)*u.cells);obtain⟨z',y1,y2,y3,y4⟩:=hend (((z.w.alloc (.cells ROW (ρr.t 9))).drew.setCells z.w.heap.size (q*u.cells) VS).drew.setCells z.w.heap.size ((q+v.length)*u.cells) (CS.drop (q*u.cells))) (setArr (setArr ROW (q*u.cells) VS) ((q+v.length)*u.cells) (CS.drop (q*u.cells))) (awZ _ _ _ _ _ _ _ (show((z.w.alloc (.cells ROW (ρr.t 9))).drew.setCells z.w.heap.size (q*u.cells) VS).heap[z.w.heap.size]? =_ from awZ _ _ _ _ _ _ _ hnew)) (by rw[asZ,asZ,hRs])
    (f2.trans e2) ⟨f3.1.trans e3.1,Nat.le_trans (Nat.le_trans (Nat.le_trans (Nat.le_succ _) e3.2) (Nat.le_succ _)) f3.2⟩ (f4.trans e4) (fun b hb=>(avZ _ _ _ _ _ (by omega)).trans ((avZ _ _ _ _ _ (by omega)).trans (heap_alloc_old z.w _ hb))) (fun j hj=>by
     rw[hget3 j,a0Z _ _ _ _ (by rw[asZ,hdk,hRs];omega),hdk,a0Z _ _ _ _ (by rw[V2,hRs];omega),V2];by_cases c1:j<q*u.cells
     ·rw[if_neg (by omega),if_neg (by omega),if_pos c1];exact hR0 j c1
     ·rw[if_neg c1];by_cases c2:j<(q+v.length)*u.cells
      ·rw[if_neg (by omega),if_pos (by omega),if_pos c2]
      ·rw[if_pos (by omega),if_neg c2,List.getElem?_drop];congr 1;omega)
   exact fin _ _ z' y1 y2 y3 y4
  ·obtain rfl:q=l.length:=by omega
   have hins:=drZ (k:=u.cells) L z9 a9 (Zc:=zv.cells) rfl hi0 hs0 hzv (some ⟨g,0,none⟩) l.length c g3 v.length c3 CS VS z.w hr0.1.1 hn hroom' hbig hr0.2 S2 V2 (fun h=>by cases h) (fun a ha j x hx=>by cases ha;rw[Addr.add_lit,Nat.zero_add];exact hcell j x hx) hvs V3;rw[hG] at hins;refine hins.mono ?_;rintro en w' ⟨rfl,rfl⟩;have hcs:((CS++VS).toArray++Builtin.zeroCells zv.cells (G-(l.length+v.length))).size=G*u.cells:=by
    rw[Array.size_append,size_zeroCells,hzl,List.size_toArray,List.length_append,S2,V2,<-Nat.add_mul,<-Nat.add_mul];congr 1;omega
   obtain⟨z',y1,y2,y3,y4⟩:=hend _ _ (heap_alloc_new z.w.drew _) hcs rfl ⟨rfl,Nat.le_succ _⟩ rfl (fun b hb=>heap_alloc_old z.w.drew _ hb) (fun j hj=>by
    rw[Array.getElem?_append_left (by rw[List.size_toArray,List.length_append,S2,V2];omega),List.getElem?_toArray];congr 1;rw[List.take_of_length_le (by omega),List.drop_eq_nil_of_le (by omega),List.append_nil])
   exact fin _ _ z' y1 y2 y3 y4
end
end Go.Ab
namespace Go.Ab
open Go.Proofs Go.Shelf
section
variable {P : Program} {ρr : Ren}
end
end Go.Ab
namespace Go.Proofs
open Go.Shelf Go.RowKit Go.Lib
variable {P : Program} {ρ : Ren}
set_option maxHeartbeats 8000000 in
set_option maxRecDepth 1000000 in
theorem iSZ(L:Lays.n152 P ρ)(s:ByteArray)(r:Int)(w:World)(h:128<=r)(h3:r≠65533)(hv:Lib.validRune r=false):
 Calls P (ρ.f 152) #[.string s,.int .i32 r] w fun e w'=>e= .returned (.int .i64 (-1))/\w'=w:=by
 have mixed:=L.mixed;have t3:=L.t3;have a3:=L.a3;have z3:=L.z3;have v3:=L.v3;have t4:=L.t4;have a4:=L.a4;have z4:=L.z4;have v4:=L.v4;have t5:=L.t5;have a5:=L.a5;have z5:=L.z5;have v5:=L.v5;have t9:=L.t9;have a9:=L.a9;have z9:=L.z9;have v9:=L.v9;have t21:=L.t21;have a21:=L.a21;have z21:=L.z21;have v21:=L.v21;have e119:∀args w,(callFunc (ρ.f 119) args).run P w= .ok (.enter (ρ.f 119) args) w:=enters_of L.f119 (by kernel_rfl) rfl;have h0:(0:Int)<=r:=by omega
 have hd:¬(r<128):=by omega
 have hd':decide (r<128)=false:=decide_eq_false (by omega);have hq:(r==65533)=false:=beq_eq_false_iff_ne.2 h3
 go_enter L.f152,Body.n152_ntmps ρ
 go_wp2_with (go_at_fn (ρ.f 119);refine(Any.utf8_ValidRune {L with} _ _).mono ?_;rintro e w' ⟨rfl,hw⟩;rw[hw,hv])
 go_ret
 exact⟨rfl,rfl⟩
set_option maxHeartbeats 8000000 in
set_option maxRecDepth 1000000 in
theorem gtZ(L:Lays.n152 P ρ)(s:ByteArray)(w:World)(ha:∀(j:Nat) b,s.data.toList[j]? =some b->b.toNat<128):
 Calls P (ρ.f 152) #[.string s,.int .i32 65533] w fun e w'=>e= .returned (.int .i64 (-1))/\∃pos,w'=w.iter s pos:=by
 have HA:Aside (∀(j:Nat) b,s.data.toList[j]? =some b->b.toNat<128):=ha;clear ha;have mixed:=L.mixed;have t3:=L.t3;have a3:=L.a3;have z3:=L.z3;have v3:=L.v3;have t4:=L.t4;have a4:=L.a4;have z4:=L.z4;have v4:=L.v4;have t5:=L.t5;have a5:=L.a5;have z5:=L.z5;have v5:=L.v5;have t9:=L.t9;have a9:=L.a9;have z9:=L.z9;have v9:=L.v9;have t21:=L.t21;have a21:=L.a21;have z21:=L.z21;have v21:=L.v21
 go_enter L.f152,Body.n152_ntmps ρ
 go_wp2
 go_loopg [5,6] s.size (fun g _ _ wx=>∃i:Nat,i+g=s.size/\wx=w.iter s i)
 case atStart=>exact⟨0,by omega,rfl⟩
 case round=>
  obtain⟨i,hig,rfl⟩:=hrel;cases gk with
  |zero=>
   obtain rfl:i=s.size:=by omega
   have hnx:=run_next_end (P:=P) w s s.size
   go_wp2
   go_ret
   exact⟨rfl,_,rfl⟩
  |succ g=>
   have hi:i<s.size:=by omega
   obtain⟨x,hx⟩:∃x:UInt8,s[i]'hi=x:=⟨_,rfl⟩;have hx128:x.toNat<128:=HA.out i x (by rw[<-hx];exact Lib.data_getElem? s i hi);have hnx:=fun ty=>run_next_ascii (P:=P) w s i ty hi (by rw[hx];exact hx128);rw[hx] at hnx;clear hx;have hne:(((x.toNat:Nat):Int)==65533)=false:=beq_eq_false_iff_ne.2 (by omega)
   go_wp2
   go_roundg g
   case measure=>omega
   case rel=>exact⟨i+1,by omega,rfl⟩
set_option maxHeartbeats 8000000 in
set_option maxRecDepth 1000000 in
theorem fnZ(L:Lays.n152 P ρ)(s:ByteArray)(r:Int)(w:World)(h:128<=r)(h3:r≠65533)(hv:Lib.validRune r=true)(hs:s.size=2)(ha:∀(j:Nat) b,s.data.toList[j]? =some b->b.toNat<128)(hz:(Utf8.encode r).size≠2):
 Calls P (ρ.f 152) #[.string s,.int .i32 r] w fun e w'=>e= .returned (.int .i64 (-1))/\w'=w:=by
 have hval:Utf8.valid r=true:=by
  unfold Lib.validRune at hv;unfold Utf8.valid;simp at hv⊢;omega
 obtain⟨e1,e2,e3⟩:=encode_facts r hval h;have mixed:=L.mixed;have t3:=L.t3;have a3:=L.a3;have z3:=L.z3;have v3:=L.v3;have t4:=L.t4;have a4:=L.a4;have z4:=L.z4;have v4:=L.v4;have t5:=L.t5;have a5:=L.a5;have z5:=L.z5;have v5:=L.v5;have t9:=L.t9;have a9:=L.a9;have z9:=L.z9;have v9:=L.v9;have t21:=L.t21;have a21:=L.a21;have z21:=L.z21;have v21:=L.v21;have e119:∀args w,(callFunc (ρ.f 119) args).run P w= .ok (.enter (ρ.f 119) args) w:=enters_of L.f119 (by kernel_rfl) rfl;have h0:(0:Int)<=r:=by omega
 have hd:¬(r<128):=by omega
 have hd':decide (r<128)=false:=decide_eq_false (by omega);have hq:(r==65533)=false:=beq_eq_false_iff_ne.2 h3;have e137:∀args w,(callFunc (ρ.f 137) args).run P w= .ok (.enter (ρ.f 137) args) w:=enters_of L.f137 (by kernel_rfl) rfl;have hwr:wrap64 (((Utf8.encode r).size:Int)-1)=((Utf8.encode r).size:Int)-1:=by unfold wrap64;omega
 go_enter L.f152,Body.n152_ntmps ρ
 go_wp2_with (go_at_fn (ρ.f 119);refine(Any.utf8_ValidRune {L with} _ _).mono ?_;rintro e w' ⟨rfl,hw⟩;rw[hw,hv])
 go_step3
 go_wp2
 go_loopg [9] 1 (fun _ v9 wx=>v9= .int .i64 (((Utf8.encode r).size:Int)-1)/\wx=w)
 case atStart=>exact⟨rfl,rfl⟩
 case round=>
  obtain⟨rfl,rfl⟩:=hrel;have hlt:¬(((Utf8.encode r).size:Int)-1<(s.size:Int)):=by omega
  go_wp2
  go_ret
  exact⟨rfl,rfl⟩
set_option maxHeartbeats 8000000 in
set_option maxRecDepth 1000000 in
theorem fmZ(L:Lays.n152 P ρ)(s:ByteArray)(r:Int)(w:World)(h:128<=r)(h3:r≠65533)(hv:Lib.validRune r=true)(hs:s.size=2)(ha:∀(j:Nat) b,s.data.toList[j]? =some b->b.toNat<128)(hz:(Utf8.encode r).size=2):
 Calls P (ρ.f 152) #[.string s,.int .i32 r] w fun e w'=>e= .returned (.int .i64 (-1))/\Below w.heap.size w w'/\w.drawn<=w'.drawn:=by
 have hval:Utf8.valid r=true:=by
  unfold Lib.validRune at hv;unfold Utf8.valid;simp at hv⊢;omega
 obtain⟨e1,e2,e3⟩:=encode_facts r hval h;have mixed:=L.mixed;have t3:=L.t3;have a3:=L.a3;have z3:=L.z3;have v3:=L.v3;have t4:=L.t4;have a4:=L.a4;have z4:=L.z4;have v4:=L.v4;have t5:=L.t5;have a5:=L.a5;have z5:=L.z5;have v5:=L.v5;have t9:=L.t9;have a9:=L.a9;have z9:=L.z9;have v9:=L.v9;have t21:=L.t21;have a21:=L.a21;have z21:=L.z21;have v21:=L.v21;have e119:∀args w,(callFunc (ρ.f 119) args).run P w= .ok (.enter (ρ.f 119) args) w:=enters_of L.f119 (by kernel_rfl) rfl;have h0:(0:Int)<=r:=by omega
 have hd:¬(r<128):=by omega
 have hd':decide (r<128)=false:=decide_eq_false (by omega);have hq:(r==65533)=false:=beq_eq_false_iff_ne.2 h3;have e137:∀args w,(callFunc (ρ.f 137) args).run P w= .ok (.enter (ρ.f 137) args) w:=enters_of L.f137 (by kernel_rfl) rfl;obtain⟨x,hx⟩:∃x:UInt8,s[1]'(by omega)=x:=⟨_,rfl⟩;have hx128:x.toNat<128:=ha 1 x (by rw[<-hx];exact Lib.data_getElem? s 1 (by omega));obtain⟨y,hy⟩:∃y:UInt8,(Utf8.encode r)[1]'(by omega)=y:=⟨_,rfl⟩;have hy128:128<=y.toNat:=by
  have:=e3 (by omega);simp only[hz] at this;rw[<-hy];exact this
 have hne:(((x.toNat:Nat):Int)==((y.toNat:Nat):Int))=false:=beq_eq_false_iff_ne.2 (by omega);clear ha e3 e1 e2;obtain⟨rs,hE⟩:∃rs,Utf8.encode r=rs:=⟨_,rfl⟩;simp only[hE] at hz hy
 go_enter L.f152,Body.n152_ntmps ρ
 go_wp2_with (go_at_fn (ρ.f 119);refine(Any.utf8_ValidRune {L with} _ _).mono ?_;rintro e w' ⟨rfl,hw⟩;rw[hw,hv])
 go_step3
 go_wp2
 go_loopg [9] 1 (fun _ v9 wx=>v9= .int .i64 1/\wx=w)
 case atStart=>exact⟨rfl,rfl⟩
 case round=>
  obtain⟨rfl,rfl⟩:=hrel
  go_wp2
  go_step3
  go_wp2
  go_region_o
  all_goals(
   go_wp2
   go_region_with_o (go_at_fn (ρ.f 137);refine(Any.strings_IndexByte {L with} _ _ _).mono ?_;rintro e w' ⟨rfl,hw⟩;rw[hw])
   all_goals(
    go_wp2
    simp only[Exit.noGoto_ret,go_sem]
    go_ret
    exact⟨rfl,((Below.refl _ _).drew).drew,Nat.le_add_right _ 2⟩))
def Fwd(w w':World):Prop:=Below w.heap.size w w'/\w.drawn<=w'.drawn
theorem Fwd.refl(w:World):Fwd w w:=⟨Below.refl _ _,Nat.le_refl _⟩
theorem Fwd.trans{a b c:World}(h:Fwd a b)(k:Fwd b c):Fwd a c:=⟨h.1.trans (k.1.mono h.1.size),Nat.le_trans h.2 k.2⟩
theorem Fwd.alloc(w:World)(o:Obj):Fwd w (w.alloc o):=⟨(Below.refl _ _).alloc (Nat.le_refl _) o,Nat.le_refl _⟩
theorem h0Z(L:Lays.n152 P ρ)(s:ByteArray)(r:Int)(w:World)(h:128<=r)(hs:s.size=2)(ha:∀(j:Nat) b,s.data.toList[j]? =some b->b.toNat<128):
 Calls P (ρ.f 152) #[.string s,.int .i32 r] w fun e w'=>e= .returned (.int .i64 (-1))/\Fwd w w':=by
 by_cases h1:r=65533
 ·subst h1;exact(gtZ L s w ha).mono fun e w' ⟨e1,pos,e2⟩=>⟨e1,by rw[e2];exact Fwd.alloc _ _⟩
 ·cases hv:Lib.validRune r with
  |false=>exact(iSZ L s r w h h1 hv).mono fun e w' ⟨e1,e2⟩=>⟨e1,by rw[e2];exact Fwd.refl _⟩
  |true=>
   by_cases hz:(Utf8.encode r).size=2
   ·exact(fmZ L s r w h h1 hv hs ha hz).mono fun e w' ⟨e1,e2⟩=>⟨e1,e2⟩
   ·exact(fnZ L s r w h h1 hv hs ha hz).mono fun e w' ⟨e1,e2⟩=>⟨e1,by rw[e2];exact Fwd.refl _⟩
def decA(A:Nat->Nat)(C:Nat->Bool):Nat×Nat:=
 if A 0<0x80 then(A 0,1)
 else if A 0/32==6&&C 1 then
  if(A 0%32)*64+A 1%64>=0x80 then((A 0%32)*64+A 1%64,2) else(Utf8.runeError,1)
 else if A 0/16==14&&C 1&&C 2 then
  if(A 0%16)*4096+(A 1%64)*64+A 2%64>=0x800&&Utf8.valid ((A 0%16)*4096+(A 1%64)*64+A 2%64:Nat) then((A 0%16)*4096+(A 1%64)*64+A 2%64,3) else(Utf8.runeError,1)
 else if A 0/8==30&&C 1&&C 2&&C 3 then
  if(A 0%8)*262144+(A 1%64)*4096+(A 2%64)*64+A 3%64>=0x10000&&Utf8.valid ((A 0%8)*262144+(A 1%64)*4096+(A 2%64)*64+A 3%64:Nat) then((A 0%8)*262144+(A 1%64)*4096+(A 2%64)*64+A 3%64,4) else(Utf8.runeError,1)
 else(Utf8.runeError,1)
theorem m0Z(s:ByteArray)(i:Nat):Utf8.decode s i=decA (fun k=>(s.get! (i+k)).toNat) (fun k=>i+k<s.size&&(s.get! (i+k)).toNat/64==2):=rfl
theorem kGZ(A:Nat->Nat)(C:Nat->Bool)(h:128<=A 0):∃c k,decA A C=(c,k)/\128<=c/\1<=k/\∀j,1<=j->j<k->C j=true:=by
 have e128:128<=Utf8.runeError:=by decide
 have one:∃c k,(Utf8.runeError,1)=(c,k)/\128<=c/\1<=k/\∀j,1<=j->j<k->C j=true:=⟨_,1,rfl,e128,Nat.le_refl _,fun j h1 h2=>by omega⟩;have hnl:¬A 0<128:=by omega
 unfold decA;rw[if_neg hnl];split
 ·rename_i h;rw[Bool.and_eq_true] at h;split
  ·rename_i hc;refine⟨_,2,rfl,hc,by omega,fun j h1 h2=> ?_⟩;obtain rfl:j=1:=by omega
   exact h.2
  ·exact one
 ·split
  ·rename_i h;rw[Bool.and_eq_true,Bool.and_eq_true] at h;split
   ·rename_i hc;rw[Bool.and_eq_true,decide_eq_true_eq] at hc;refine⟨_,3,rfl,by omega,by omega,fun j h1 h2=> ?_⟩;have:j=1\/j=2:=by omega
    rcases this with rfl|rfl
    ·exact h.1.2
    ·exact h.2
   ·exact one
  ·split
   ·rename_i h;rw[Bool.and_eq_true,Bool.and_eq_true,Bool.and_eq_true] at h;split
    ·rename_i hc;rw[Bool.and_eq_true,decide_eq_true_eq] at hc;refine⟨_,4,rfl,by omega,by omega,fun j h1 h2=> ?_⟩;have:j=1\/j=2\/j=3:=by omega
     rcases this with rfl|rfl|rfl
     ·exact h.1.1.2
     ·exact h.1.2
     ·exact h.2
    ·exact one
   ·exact one
theorem mbZ(s:ByteArray)(j:Nat)(hj:j<s.size):s.get! j=s[j]'hj:=by
 simp[ByteArray.get!,getElem!_pos,hj]
 rfl
theorem hQZ(s:ByteArray)(i:Nat)(hi:i<s.size)(hx:128<=(s[i]'hi).toNat):∃c k,Utf8.decode s i=(c,k)/\128<=c/\1<=k/\i+k<=s.size/\∀j (hj:j<s.size),i<=j->j<i+k->128<=(s[j]'hj).toNat:=by
 obtain⟨c,k,e1,e2,e3,e4⟩:=kGZ (fun k=>(s.get! (i+k)).toNat) (fun k=>i+k<s.size&&(s.get! (i+k)).toNat/64==2) (by
  show 128<=(s.get! i).toNat;rw[mbZ s i hi];exact hx)
 rw[<-m0Z] at e1;refine⟨c,k,e1,e2,e3,?_,fun j hj h1 h2=> ?_⟩
 ·by_cases hk:k=1
  ·omega
  ·have:=e4 (k-1) (by omega) (by omega);rw[Bool.and_eq_true,decide_eq_true_eq] at this;omega
 ·by_cases hji:j=i
  ·subst hji;exact hx
  ·have:=e4 (j-i) (by omega) (by omega);rw[Bool.and_eq_true] at this;have h3:=this.2;have e:i+(j-i)=j:=by omega
   simp only[e] at h3;rw[mbZ s j hj] at h3;have:=beq_iff_eq.1 h3;omega
theorem run_next_at(W:World)(g:Nat)(s:ByteArray)(pos c k:Nat)(ty:TypeId)(hg:W.heap[g]? =some (.stringIter s pos))(h:pos<s.size)(hd:Utf8.decode s pos=(c,k)):
 (Instr.next (.pointer (some ⟨g,0,none⟩)) true ty).run P W= .ok (.tuple #[.bool true,.int .i64 pos,.int .i32 c]) {W with heap:=W.heap.setIfInBounds g (.stringIter s (pos+k))}:=by
 have hgl:g<W.heap.size:=(Array.getElem?_eq_some_iff.1 hg).1;simp only[Instr.next,getObj,setObj,Sem.run_bind,Sem.run,hg,Result.andThen,h,if_true,hd];simp[goInt,Sem.run,hg]
theorem dWZ(W:World)(g:Nat)(s:ByteArray)(pos:Nat)(ty:TypeId)(hg:W.heap[g]? =some (.stringIter s pos))(h:¬pos<s.size):
 (Instr.next (.pointer (some ⟨g,0,none⟩)) true ty).run P W= .ok (.tuple #[.bool false]) W:=by
 simp[Instr.next,getObj,Sem.run,hg,h]
end Go.Proofs
namespace Go.Proofs
open Go.Shelf Go.RowKit Go.Lib
variable {P : Program} {ρ : Ren}
theorem NoAny.skip{s chars:List UInt8}{i k:Nat}(h:Lib.NoAny s chars i)(hac:∀(j:Nat) b,chars[j]? =some b->b.toNat<128)(hk:∀j b,i<=j->j<i+k->s[j]? =some b->128<=b.toNat):Lib.NoAny s chars (i+k):=by
 have:∀n,n<=k->Lib.NoAny s chars (i+n):=by
  intro n;induction n with
  |zero=>intro _;exact h
  |succ n ih=>
   intro hn;have h1:=ih (by omega);cases hb:s[i+n]? with
   |none=>
    intro j b hj hb';by_cases hji:j<i+n
    ·exact h1 j b hji hb'
    ·have:j=i+n:=by omega
     subst this;rw[hb] at hb';cases hb'
   |some b=>
    refine h1.succ hb ?_;have hb8:=hk (i+n) b (by omega) (by omega) hb;cases hc:chars.contains b with
    |false=>rfl
    |true=>
     obtain⟨j,hj⟩:=List.getElem?_of_mem (List.contains_iff_mem.1 hc);have:=hac j b hj;omega
 exact this k (Nat.le_refl _)
set_option maxHeartbeats 8000000 in
set_option maxRecDepth 1000000 in
theorem hkZ(L:Lays.n153 P ρ)(s chars:ByteArray)(w:World)(h2:chars.size=2)(h8:s.size<=8)(hac:∀(j:Nat) b,chars.data.toList[j]? =some b->b.toNat<128):
 Calls P (ρ.f 153) #[.string s,.string chars] w fun e w'=>e= .returned (.int .i64 (Lib.indexAny s.data.toList chars.data.toList))/\Fwd w w':=by
 have HA:Aside (∀(j:Nat) b,chars.data.toList[j]? =some b->b.toNat<128):=hac;clear hac;have hemp:chars.toList.isEmpty=false:=by
  rw[Lib.toList_data];cases h:chars.data.toList with
  |nil=>have:=Lib.size_eq chars;rw[h,List.length_nil] at this;omega
  |cons _ _=>rfl
 have hn1:((chars.size:Int)==1)=false:=beq_eq_false_iff_ne.2 (by omega);have h8z:decide ((8:Int)<(s.size:Int))=false:=decide_eq_false (by omega);have t3:=L.t3;have a3:=L.a3;have z3:=L.z3;have v3:=L.v3;have t4:=L.t4;have a4:=L.a4;have z4:=L.z4;have v4:=L.v4;have t5:=L.t5;have a5:=L.a5;have z5:=L.z5;have v5:=L.v5;have t9:=L.t9;have a9:=L.a9;have z9:=L.z9;have v9:=L.v9;have t21:=L.t21;have a21:=L.a21;have z21:=L.z21;have v21:=L.v21;have e152:∀args w,(callFunc (ρ.f 152) args).run P w= .ok (.enter (ρ.f 152) args) w:=enters_of L.f152 (by kernel_rfl) rfl;have e226:∀args w,(callFunc (ρ.f 226) args).run P w= .ok (.enter (ρ.f 226) args) w:=enters_of L.f226 (by kernel_rfl) rfl
 go_enter L.f153,Body.n153_ntmps ρ
 go_wp2_with (go_at_fn (ρ.f 226);refine(Any.strings_shouldUseASCIISet {L with} _ _).mono ?_;rintro e w' ⟨rfl,hw⟩;rw[hw,h8z])
 go_loopg [9,10] s.size (fun g _ _ wx=>∃i:Nat,s.size<=i+g/\i<=s.size/\wx.heap[w.heap.size]? =some (.stringIter s i)/\Fwd w wx/\Lib.NoAny s.data.toList chars.data.toList i)
 case atStart=>exact⟨0,by omega,by omega,World.iter_heap w s 0,Fwd.alloc _ _,Lib.NoAny.zero _ _⟩
 case round=>
  obtain⟨i,hig,hil,hit,hfw,hno⟩:=hrel;have HN:Aside (Lib.NoAny s.data.toList chars.data.toList i):=hno;have HF:Aside (Fwd w wr):=hfw;clear hno hfw;by_cases hi:i<s.size
  ·obtain⟨g,rfl⟩:∃g,gk=g+1:=⟨gk-1,by omega⟩;obtain⟨x,hx⟩:∃x:UInt8,s[i]'hi=x:=⟨_,rfl⟩;have hxl:s.data.toList[i]? =some x:=by rw[<-hx];exact Lib.data_getElem? s i hi
   have hgl:w.heap.size<wr.heap.size:=(Array.getElem?_eq_some_iff.1 hit).1;have step:∀k,∃W1:World,W1={wr with heap:=wr.heap.setIfInBounds w.heap.size (.stringIter s (i+k))}/\W1.heap[w.heap.size]? =some (.stringIter s (i+k))/\Fwd w W1:=fun k=>by
    refine⟨_,rfl,?_,⟨⟨HF.out.1.os,HF.out.1.tape,HF.out.1.output,?_,fun b hb=> ?_⟩,HF.out.2⟩⟩
    ·show(wr.heap.setIfInBounds w.heap.size (.stringIter s (i+k)))[w.heap.size]? =_;rw[Array.getElem?_setIfInBounds_self_of_lt hgl]
    ·show _<=(wr.heap.setIfInBounds _ _).size;rw[Array.size_setIfInBounds];exact HF.out.1.size
    ·show(wr.heap.setIfInBounds _ _)[b]? =_;rw[Array.getElem?_setIfInBounds_ne (by omega)];exact HF.out.1.block b hb
   by_cases hx8:x.toNat<128
   ·obtain⟨W1,hW1,hW2,hW3⟩:=step 1;have hnx:=fun ty=>run_next_at (P:=P) wr w.heap.size s i x.toNat 1 ty hit hi (by rw[decode_ascii s i hi (by rw[hx];exact hx8),hx]);rw[<-hW1] at hnx;have Hx:Aside (s.data.toList[i]? =some x):=hxl;have HW:Aside (W1.heap[w.heap.size]? =some (.stringIter s (i+1))/\Fwd w W1):=⟨hW2,hW3⟩;clear hxl hx hW1 hW2 hW3 step hit;have hcon:=Lib.contains_iff_indexByte chars.data.toList x;have hback:((x.toNat:Int)).toNat.toUInt8=x:=by simp
    cases hin:chars.data.toList.contains x
    ·rw[hin] at hcon;have hlt:¬((0:Int)<=Lib.indexByte chars.data.toList x):=of_decide_eq_false hcon.symm;clear hcon
     go_wp2_with (go_at_fn (ρ.f 152);refine(Any.strings_IndexRune_ascii {L with} _ _ _ (by omega) (by omega)).mono ?_;rintro e w' ⟨rfl,hw⟩;rw[hw,hback])
     go_roundg g
     case measure=>omega
     case rel=>exact⟨i+1,by omega,by omega,HW.out.1,HW.out.2,HN.out.succ Hx.out hin⟩
    ·rw[hin] at hcon;have hge:(0:Int)<=Lib.indexByte chars.data.toList x:=of_decide_eq_true hcon.symm;clear hcon
     go_wp2_with (go_at_fn (ρ.f 152);refine(Any.strings_IndexRune_ascii {L with} _ _ _ (by omega) (by omega)).mono ?_;rintro e w' ⟨rfl,hw⟩;rw[hw,hback])
     go_ret
     exact⟨by rw[Lib.indexAny_hit HN.out Hx.out hin];rfl,HW.out.2⟩
   ·obtain⟨c,k,hd,hc,hk1,hk2,hk3⟩:=hQZ s i hi (by rw[hx];omega);obtain⟨W1,hW1,hW2,hW3⟩:=step k;have hnx:=fun ty=>run_next_at (P:=P) wr w.heap.size s i c k ty hit hi hd;rw[<-hW1] at hnx;have HW:Aside (W1.heap[w.heap.size]? =some (.stringIter s (i+k))/\Fwd w W1):=⟨hW2,hW3⟩;have HK:Aside (∀j (hj:j<s.size),i<=j->j<i+k->128<=(s[j]'hj).toNat):=hk3;clear hxl hx hW1 hW2 hW3 step hit hk3 hd
    go_wp2_with (go_at_fn (ρ.f 152);refine(h0Z {L with} _ _ _ (by omega) h2 HA.out).mono ?_;rintro e w' ⟨rfl,hw⟩)
    go_roundg g
    case measure=>omega
    case rel=>
     have hgl1:w.heap.size<W1.heap.size:=(Array.getElem?_eq_some_iff.1 HW.out.1).1;refine⟨i+k,by omega,hk2,by rw[hw.1.block _ hgl1];exact HW.out.1,HW.out.2.trans hw,NoAny.skip HN.out HA.out fun j b h1 h3 hb=> ?_⟩;have hj:j<s.size:=by omega
     have:=HK.out j hj h1 h3;have hb2:s.data.toList[j]? =some (s[j]'hj):=Lib.data_getElem? s j hj;rw[hb] at hb2;injection hb2 with hb2;rw[hb2];exact this
  ·obtain rfl:i=s.size:=by omega
   have hnx:=fun ty=>dWZ (P:=P) wr w.heap.size s s.size ty hit hi
   go_wp2
   go_ret
   exact⟨by rw[Lib.indexAny_none (by rw[<-Lib.size_eq];exact HN.out)];rfl,HF.out⟩
theorem jKZ(L:Lays.n153 P ρ)(h116:(P.info? (ρ.t 116)).map (fun i=>(i.zero,i.size))=some (some (.agg (Array.replicate 256 (.bool false))),256))(s chars:ByteArray)(w:World)(h2:chars.size=2)(hs:s.size<4294967281)(hac:∀(j:Nat) b,chars.data.toList[j]? =some b->b.toNat<128):
 Calls P (ρ.f 153) #[.string s,.string chars] w fun e w'=>e= .returned (.int .i64 (Lib.indexAny s.data.toList chars.data.toList))/\Fwd w w':=by
 by_cases h8:s.size<=8
 ·exact hkZ L s chars w h2 h8 hac
 ·refine(Any.strings_IndexAny_long L (zero_of_info h116).1 (zero_of_info h116).2 s chars w (by omega) (by omega) hs (by omega) hac).mono fun e w' ⟨h1,h2⟩=>⟨h1,?_⟩;rw[h2];exact(Fwd.alloc _ _).trans (Fwd.alloc _ _)
set_option maxHeartbeats 1000000 in
theorem dZZ(L:Lays.n150 P ρ)(h116:(P.info? (ρ.t 116)).map (fun i=>(i.zero,i.size))=some (some (.agg (Array.replicate 256 (.bool false))),256))(s chars:ByteArray)(w:World)(h2:chars.size=2)(hs:s.size<4294967281)(hac:∀(j:Nat) b,chars.data.toList[j]? =some b->b.toNat<128):
 Calls P (ρ.f 150) #[.string s,.string chars] w fun e w'=>e= .returned (.bool (Lib.containsAny s.data.toList chars.data.toList))/\Fwd w w':=by
 have c:=jKZ {L with} h116 s chars w h2 hs hac;have t3:=L.t3;have a3:=L.a3;have z3:=L.z3;have v3:=L.v3;have t4:=L.t4;have a4:=L.a4;have z4:=L.z4;have v4:=L.v4;have t9:=L.t9;have a9:=L.a9;have z9:=L.z9;have v9:=L.v9;have e153:∀args w,(callFunc (ρ.f 153) args).run P w= .ok (.enter (ρ.f 153) args) w:=enters_of L.f153 (by kernel_rfl) rfl
 go_enter L.f150,Body.n150_ntmps ρ
 go_wp2_with (go_at_fn (ρ.f 153);refine c.mono ?_;rintro e w' ⟨rfl,hw⟩)
 go_ret
 exact⟨rfl,hw⟩
end Go.Proofs
namespace Go.Ab
open Go.Proofs Go.Shelf
def caS(t:List UInt8×List UInt8):Option Bool:=
 need (Nat.beq t.2.length 2&&t.2.all (fun b=>Nat.blt b.toNat 128)&&Nat.blt t.1.length 4294967281) (some (Go.Lib.containsAny t.1 t.2))
theorem dxZ{P:Program}{ρr:Ren}(L:Lays.n150 P ρr)(h116:(P.info? (ρr.t 116)).map (fun i=>(i.zero,i.size))=some (some (.agg (Array.replicate 256 (.bool false))),256))
 (hent:∃fn c,P.funcs[ρr.f 150]? =some fn/\fn.body=some c/\(fn.name== "runtime.NumGoroutine")=false):
 Told P ⟨ρr.f 150,⟨.cons (.p .str) (.cons (.p .str) .nil),[]⟩,[⟨.cons (.p .bool) .nil,[]⟩],caS⟩:=by
 refine Told.of hent fun t r hr z vals hH hv hD=> ?_;obtain⟨⟨s,c⟩,rfl⟩:∃t':List UInt8×List UInt8,t'=t:=⟨t,rfl⟩;have hr:caS (s,c)=some r:=hr;unfold caS at hr;obtain⟨hc,hr⟩:=adZ.1 hr;injection hr with hr;subst hr;simp only[Bool.and_eq_true,Nat.blt_eq,abZ,List.all_eq_true] at hc;obtain⟨⟨hc1,hc2⟩,hc3⟩:=hc;have hv:AReps z [.p .str s,.p .str c] vals:=hv;obtain⟨h1,h2⟩:=hv
 match vals,h1,h2 with
 |[a,b],_,h2=>
  have k1:ARep z (.p .str s) a:=h2 0 _ a rfl rfl;have k2:ARep z (.p .str c) b:=h2 1 _ b rfl rfl;obtain rfl:=k1.v.str;obtain rfl:=k2.v.str;refine(dZZ L h116 ⟨⟨s⟩⟩ ⟨⟨c⟩⟩ z.w (by simpa[ByteArray.size] using hc1) (by simpa[ByteArray.size] using hc3) (fun j b hj=>hc2 b (List.mem_of_getElem? hj))).mono ?_;rintro en w' ⟨rfl,hw⟩
  let z':Z:={z with w:=w'}
  have hH':HRep z' []:=⟨fun id e h=>(by rw[bMZ] at h;cases h),fun i i' e e' g sz n g' sz' n' _ h=>(by rw[bMZ] at h;cases h),hH.fresh,hH.sub,fun i x h=>by simp[hget] at h,fun i h=>by simp[hkey] at h,fun i _ h=>by simp[hkey] at h,hH.nos⟩;have hN:Nx z z':=⟨hw.1.os,⟨hw.1.tape,hw.2⟩,hw.1.output,hw.1.size,fun b hb _=>hw.1.block b hb,fun _ h=>.inl h,fun _ h=>.inl h,fun _ _ h _=>h,fun _ _=>rfl,rfl⟩;exact⟨_,z',rfl,rfl,hN,fun k hk=>absurd hk (hD k),hH',.p _ _ _ ⟨[.bool (Go.Lib.containsAny s c)],rfl,rfl⟩⟩
end Go.Ab
namespace Go.Ab
theorem e3Z{P:Program}{f:FuncId}{fn:Func}(hf:P.funcs[f]? =some fn)(hname:(fn.name== "runtime.NumGoroutine")=false)(hb:fn.body.isNone=true)(hn:(Extern.findNext fn).isNone=true)(he:Extern.find fn=some Extern.BytealgCompare.compare):
 Told P ⟨f,⟨.cons (.p .str) (.cons (.p .str) .nil),[]⟩,[⟨.cons (.p (.int .i64)) .nil,[]⟩],fun t:List UInt8×List UInt8=>some (Go.Lib.compareBytes t.1 t.2)⟩:=by
 refine⟨fun t r hr z vals hH hv hD=>.inr ?_⟩;obtain⟨⟨l,c⟩,rfl⟩:∃t':List UInt8×List UInt8,t'=t:=⟨t,rfl⟩;have hr:some (Go.Lib.compareBytes l c)=some r:=hr;injection hr with hr;subst hr;have hv:AReps z [.p .str l,.p .str c] vals:=hv;obtain⟨h1,h2⟩:=hv
 match vals,h1,h2 with
 |[a,b],_,h2=>
  have k1:ARep z (.p .str l) a:=h2 0 _ a rfl rfl;have k2:ARep z (.p .str c) b:=h2 1 _ b rfl rfl;obtain rfl:=k1.v.str;obtain rfl:=k2.v.str;refine⟨.int .i64 (Go.Lib.compareBytes l c),z.w,?_,_,z,rfl,rfl,Nx.refl z,fun k hk=>absurd hk (hD k),hH,.p _ _ _ ⟨[.int .i64 (Go.Lib.compareBytes l c)],rfl,rfl⟩⟩;have hn':Extern.findNext fn=none:=by simpa using hn
  rw[run_callFunc_extern hf hname hb hn' he,Go.Lib.run_compareString]
  rfl
end Go.Ab
