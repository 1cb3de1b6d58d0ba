/- An evaluator of the model's code over plain values, and its soundness; of no program. -/
import Derived.Test.YtkfgjhbbdoljiaaGreatE2
set_option linter.all false
namespace Go.Ab
section
variable {P : Program} {β : Type} {z : Z} {H : Hp}
theorem gUZ(z:Array Value)(n:Nat):Builtin.zeroCells z n=madeCells z (n*z.size):=rfl
theorem iQZ(z:Array Value):Builtin.zeroCells z 0=#[]:=by simp[Builtin.zeroCells]
theorem dwZ(w:World)(t tx ty e:TypeId)(i:TypeInfo)(zv:Value)(k kx:IntKind)(ht:P.underlying t=some (.slice e))(hk:P.underlying tx=some (.int k))(hi:P.info? e=some i)(hz:i.zero=some zv)
 (x:Int)(n:Nat)(hx:x=(n:Int))(hn:n<=140737488355328)(hb:n*i.bytes<=140737488355328)(hs:i.size≠0)(b off sLen sCap:Nat)(hroom:sLen+n<=sCap)
 (hc:∀j,j<(Builtin.zeroCells zv.cells n).toList.length->(w.cell? ⟨b,off+sLen*i.size+j,none⟩).isSome=true)(hf:∀j,j<(Builtin.zeroCells zv.cells n).toList.length->w.frozen? ⟨b,off+sLen*i.size+j,none⟩=false)
 (h1:∀u∈(Builtin.zeroCells zv.cells n).toList,u.oneCell'=true):
 (Builtin.append_ #[t,tx] ty #[.slice (some ⟨b,off,none⟩) sLen sCap,.int kx x]).run P w= .ok (.slice (some ⟨b,off,none⟩) (sLen+n) sCap) (w.setCells b (off+sLen*i.size) (Builtin.zeroCells zv.cells n).toList):=by
 subst hx;have hst:=run_storeCells_cells (P:=P) b (off+sLen*i.size) (Builtin.zeroCells zv.cells n).toList 0 w (by simpa using hc) (by simpa using hf) h1;simp only[Nat.add_zero] at hst;have hw:IntKind.i64.wrap (n:Int)=(n:Int):=by rw[IntKind.wrap_i64];omega
 have n1:¬((n:Int)<0):=by omega
 have n2:¬(281474976710656<(n:Int)*(i.bytes:Int)):=by
  have:((n*i.bytes:Nat):Int)<=140737488355328:=by omega
  rw[Int.natCast_mul] at this;omega
 by_cases h0:n=0
 ·subst h0;have hw0:IntKind.i64.wrap 0=0:=by rw[IntKind.wrap_i64];omega
  rw[iQZ] at hst⊢;simp only[Array.toList_empty] at hst;simp[Builtin.append_,run_underlying ht,run_underlying hk,sizeOf,typeInfo,zeroValue,hi,hz,asInt,asIntOf,hw0,Addr.add_lit,show sLen<=sCap by omega,hst]
 ·have hm:¬n*i.size=0:=Nat.mul_ne_zero h0 hs;simp[Builtin.append_,run_underlying ht,run_underlying hk,sizeOf,typeInfo,zeroValue,hi,hz,asInt,asIntOf,hw,n1,n2,hm,hroom,Addr.add_lit,hst]
theorem ccZ(w:World)(t tx ty e:TypeId)(i:TypeInfo)(zv:Value)(k kx:IntKind)(ht:P.underlying t=some (.slice e))(hk:P.underlying tx=some (.int k))(hi:P.info? e=some i)(hz:i.zero=some zv)
 (x:Int)(n:Nat)(hx:x=(n:Int))(hn:n<=140737488355328)(hb:n*i.bytes<=140737488355328)(hs:i.size≠0)(base:Option Addr)(sLen sCap:Nat)(olds:List Value)
 (hold:(Builtin.firstCells i.size sLen (.slice base sLen sCap)).run P w.drew= .ok olds.toArray w.drew)(hle:sLen<=sCap)(hg:sCap<sLen+n)(h63:((sLen+n:Nat):Int)<=9223372036854775807)(hfit:Builtin.nextslicecap (sLen+n) sCap*i.bytes<=281474976710656):
 (Builtin.append_ #[t,tx] ty #[.slice base sLen sCap,.int kx x]).run P w=
  .ok (.slice (some ⟨w.heap.size,0,none⟩) (sLen+n) (grownCap w (sLen+n) sCap e))
    (w.drew.alloc (.cells ((olds++(Builtin.zeroCells zv.cells n).toList).toArray++Builtin.zeroCells zv.cells (grownCap w (sLen+n) sCap e-(sLen+n))) e)):=by
 subst hx;have hw:IntKind.i64.wrap (n:Int)=(n:Int):=by rw[IntKind.wrap_i64];omega
 have n1:¬((n:Int)<0):=by omega
 have n2:¬(281474976710656<(n:Int)*(i.bytes:Int)):=by
  have:((n*i.bytes:Nat):Int)<=140737488355328:=by omega
  rw[Int.natCast_mul] at this;omega
 have hn':¬(sLen+n<=sCap):=by omega
 have h63':¬(9223372036854775807<((sLen:Int)+(n:Int))):=by omega
 have h48':¬(281474976710656<Builtin.nextslicecap (sLen+n) sCap*i.bytes):=by omega
 have hm:¬n*i.size=0:=Nat.mul_ne_zero (by omega) hs;have h0:n≠0:=by omega
 simp[Builtin.append_,run_underlying ht,run_underlying hk,sizeOf,typeInfo,zeroValue,hi,hz,asInt,asIntOf,hw,n1,n2,hm,hn',h63',h48',Question.forced,hold,newRow,grownCap];congr 2;apply Array.ext';simp[List.append_assoc]
theorem dYZ(zs:Array Value)(n:Nat):(List.replicate n zs.toList).flatten=(Builtin.zeroCells zs n).toList:=by rw[gUZ,eoZ]
theorem hFZ{t tx ty e:TypeId}{u:Ty}{l:List u.den}{L:List u.den}{id old g sz n c m:Nat}{k kx:IntKind}{i:TypeInfo}{zv:Value}{x:Int}{K:AV->Hp->Option β}{r:β}(hH:HRep z H)(hg:hget H old=some ⟨false,.rows e u L⟩)(hρ:z.ρ old= .real g sz n)
 (hk:hkey (hset H old none) id=false/\id<famBase)(hd:¬z.D id)(hu:P.underlying t=some (.slice e))(hkx:P.underlying tx=some (.int k))(hl:∃k,l=L.take k)(hlc:l.length<=c)(hcs:c*u.cells<=sz)(hcm:c<=maxLen)
 (hi:P.info? e=some i)(hz:i.zero=some zv)(hc0:0<u.cells)(hsz:i.size=u.cells)(c1:Cl z.w z.M z.ρ u u.zero zv.cells.toList)(c2:∀v∈zv.cells,v.oneCell'=true)(hx:x=(m:Int))(r1:(l.length+m)*i.bytes<=140737488355328)(r2:l.length+m<=140737488355328)
 (h:K (.slf u.cells id) (hset (hset H old none) id (some ⟨false,.rows e u (l++List.replicate m u.zero)⟩))=some r):
 Ok P (Builtin.append_ #[t,tx] ty #[.slice (some ⟨g,0,none⟩) l.length c,.int kx x]) z K r:=by
 have hzs:zv.cells.size=u.cells:=by simpa using c1.len
 have hb:m*i.bytes<=140737488355328:=Nat.le_trans (Nat.mul_le_mul_right _ (by omega)) r1;have hz1:∀v∈(Builtin.zeroCells zv.cells m).toList,v.oneCell'=true:=fun v hv=>by
  rw[<-dYZ] at hv;obtain⟨w,h1,h2⟩:=List.mem_flatten.1 hv;rw[List.eq_of_mem_replicate h1] at h2;exact c2 v (Array.mem_toList_iff.1 h2)
 refine dQZ (m:=List.replicate m u.zero) (i:=i) (v:=zv) (css:=List.replicate m zv.cells.toList) hH hg hρ hk hd hl hlc hcs hcm hc0 hsz hzs (by rw[List.length_replicate];exact r2) (by simp) (fun j e us h1 h2=> ?_) (fun olds ho hlt=> ?_) (fun hge h1 h2=> ?_) h
 ·rw[List.getElem?_replicate] at h1 h2;split at h1
  ·rename_i hj;rw[if_pos hj] at h2;simp only[Option.some.injEq] at h1 h2;subst h1 h2;exact c1
  ·cases h1
 ·rw[List.length_replicate] at hlt⊢;rw[dYZ];exact ccZ z.w t tx ty e i zv k kx hu hkx hi hz x m hx (by omega) hb (by omega) _ _ _ olds ho hlc hlt (by omega) (growslice_fits hlt r1)
 ·rw[dYZ] at h1 h2⊢;rw[List.length_replicate] at hge⊢;exact dwZ z.w t tx ty e i zv k kx hu hkx hi hz x m hx (by omega) hb (by omega) g 0 l.length c hge h1 h2 hz1
theorem f1Z(w:World)(t tx ty e:TypeId)(i:TypeInfo)(k kx:IntKind)(ht:P.underlying t=some (.slice e))(hk:P.underlying tx=some (.int k))(hi:P.info? e=some i)(A:Option Addr):
 (Builtin.append_ #[t,tx] ty #[.slice A 0 0,.int kx 0]).run P w= .ok (.slice A 0 0) w:=by
 have hw:IntKind.i64.wrap 0=0:=by rw[IntKind.wrap_i64];omega
 cases A<;>simp[Builtin.append_,run_underlying ht,run_underlying hk,sizeOf,typeInfo,hi,asInt,asIntOf,hw,storeCells]
theorem doZ{t tx ty e:TypeId}{u:Ty}{A:Option Addr}{id m:Nat}{k kx:IntKind}{i:TypeInfo}{zv:Value}{x:Int}{K:AV->Hp->Option β}{r:β}(hH:HRep z H)(hk:hkey H id=false/\id<famBase)(hd:¬z.D id)(hu:P.underlying t=some (.slice e))(hkx:P.underlying tx=some (.int k))
 (hi:P.info? e=some i)(hz:i.zero=some zv)(hc0:0<u.cells)(hsz:i.size=u.cells)(c1:Cl z.w z.M z.ρ u u.zero zv.cells.toList)(hx:x=(m:Int))(r1:m*i.bytes<=140737488355328)(r2:m<=140737488355328)
 (h:K (.slf u.cells id) (hset H id (some ⟨false,.rows e u (List.replicate m u.zero)⟩))=some r):
 Ok P (Builtin.append_ #[t,tx] ty #[.slice A 0 0,.int kx x]) z K r:=by
 have hzs:zv.cells.size=u.cells:=by simpa using c1.len
 rcases Nat.eq_zero_or_pos m with h0|h0
 ·subst h0;obtain rfl:x=0:=by omega
  obtain⟨z',p1,p2,p3,p4⟩:=hH.newV (b:=.rows e u []) hk hd ⟨rfl,hc0⟩;exact .mk' (by rw[p1];exact f1Z z.w t tx ty e i k kx hu hkx hi A) p2 (.slfV _ _ A p4) p3 h
 ·have hge:=grownCap_ge z.w m 0 e;have hrun:=ccZ (P:=P) z.w t tx ty e i zv k kx hu hkx hi hz x m hx (by omega) r1 (by omega) A 0 0 [] (by cases A with
   |none=>exact run_firstCells_none z.w.drew i.size 0 0 0
   |some a=>exact run_firstCells_some z.w.drew i.size 0 a 0 0 [] (by simp) (fun j v h=>by simp at h)) (Nat.le_refl _) (by omega) (by omega) (growslice_fits (by omega) (by rw[Nat.zero_add];exact r1))
  rw[Nat.zero_add,List.nil_append] at hrun;obtain⟨z',p1,p2,p3,p4⟩:=baZ (z:=z) (w':=z.w.drew.alloc (.cells ((Builtin.zeroCells zv.cells m).toList.toArray++Builtin.zeroCells zv.cells (grownCap z.w m 0 e-m)) e)) (e:=e) (l:=List.replicate m u.zero) hH hk hd
   (heap_alloc_new z.w.drew _) (okR0 _) rfl ⟨rfl,Nat.le_succ _⟩ rfl (fun k hk=>heap_alloc_old z.w.drew _ _ hk) (by
    rw[List.length_replicate,Array.toArray_toList,Array.size_append,size_zeroCells,hzs];exact Nat.le_add_right _ _) hc0 (fun i x hx=>by
    obtain⟨us,b1,b2⟩:=RowsIn.made c1 m m (Nat.le_refl _) hc0 i x hx;refine⟨us,b1,fun j v hj=> ?_⟩;have:=b2 j v hj;rw[Array.toArray_toList,Array.toList_append,List.getElem?_append_left (by
     have:=(List.getElem?_eq_some_iff.1 this).1;simp only[Array.length_toList,size_madeCells] at this;rw[Array.length_toList,size_zeroCells,hzs];exact this),gUZ,hzs]
    exact this)
  refine .mk' (by rw[p1];exact hrun) p2 (.slf _ _ _ _ _ _ (by rw[p4,List.length_replicate]) hge ?_ (grownCap_le_maxLen _ _ _ _ (by unfold maxLen;omega))) p3 h;rw[Array.toArray_toList,Array.size_append,size_zeroCells,size_zeroCells,hzs,<-Nat.add_mul];exact Nat.mul_le_mul_right _ (by omega)
theorem gOZ{t tx:TypeId}(ty:TypeId){a ax:AV}{v vx:Value}{id:Nat}{k:IntKind}{K:AV->Hp->Option β}{r:β}(h:evAppendZ P t a ax id H K=some r)(hH:HRep z H)(hd:¬z.D id)(ha:ARep z a v)(hx:ARep z ax vx)
 (hk:P.underlying tx=some (.int k)):Ok P (Builtin.append_ #[t,tx] ty #[v,vx]) z K r:=by
 unfold evAppendZ at h;split at h
 ·rename_i e hu;obtain⟨u,h1,h2⟩:=aeZ.1 h;obtain⟨h3,h4⟩:=adZ.1 h2;obtain⟨n,h5,h6⟩:=aeZ.1 h4;obtain⟨m,h7,h8⟩:=Option.bind_eq_some_iff.1 h6;obtain⟨t1,t2,_⟩:=cjZ h1;obtain⟨i,zv,q1,q2,q3⟩:=bsZ h3;obtain⟨c1,c2⟩:=(q3 z.w z.M z.ρ).cells;have hsz:i.size=u.cells:=by rw[t1];simp[Program.cellsOf,q1]
  obtain⟨kx,rfl⟩:=aOZ h5 hx;have hnm:n=(m:Int):=by
   unfold upto? at h7;split at h7
   ·simp only[Option.some.injEq] at h7;omega
   ·cases h7
  split at h8
  ·obtain⟨h9,h10⟩:=adZ.1 h8;obtain⟨h11,h12⟩:=a4Z.1 h10;obtain rfl:=ha.v.opq.1;obtain⟨r1,r2⟩:=cNZ h9 q1;exact doZ hH h11 hd hu hk q1 q2 t2 hsz c1 hnm r1 r2 h12
  ·rename_i es old;split at h8
   ·rename_i e' t' l hg;rcases aBZ h8 with⟨rfl,h9⟩|h9
    ·obtain⟨h10,h11⟩:=adZ.1 h9;obtain⟨h12,h13⟩:=a4Z.1 h11;simp only[Bool.and_eq_true,abZ] at h10;obtain⟨⟨rfl,rfl⟩,h14⟩:=h10;obtain⟨r1,r2⟩:=cNZ h14 q1;cases ha with
     |slfV _ _ A hρ=>
      obtain⟨rfl,_⟩:=hH.virt hg hρ;exact doZ (hH.kill (ahZ hg)) h12 hd hu hk q1 q2 t2 hsz c1 hnm (by simpa using r1) (by simpa using r2) h13
     |slf _ _ g sz n' c hρ hn hs hm'=>
      have hl:l.length=n':=by obtain⟨_,_,_,cs,fr,a1,a2,a3,a4,_⟩:=hH.real hg hρ;exact a4
      subst hl;exact hFZ hH hg hρ h12 hd hu hk ⟨l.length,(List.take_length).symm⟩ hn hs hm' q1 q2 t2 hsz c1 c2 hnm r1 r2 h13
    ·cases h9
   ·cases h8
  ·cases h8
 ·cases h
theorem RowsRep.first{u:Ty}{m:List u.den}{v:Value}(h:RowsRep z u m v)(k:Nat)(hk:k<=m.length):
 ∃css:List (List Value),(Builtin.firstCells u.cells k v).run P z.w= .ok css.flatten.toArray z.w/\css.length=k/\∀(i:Nat) e us,(m.take k)[i]? =some e->css[i]? =some us->Cl z.w z.M z.ρ u e us:=by
 rcases h with⟨hu,rfl⟩|⟨A,c,rfl,hc,hm,hA⟩
 ·subst hu;have hml:(m.take k).length=k:=by rw[List.length_take];omega
  refine⟨(m.take k).map fun b=>[Value.int .u8 (b.toNat:Int)],?_,by rw[List.length_map,hml],fun i e us h1 h2=> ?_⟩
  ·have e1:(List.map (fun b:UInt8=>[Value.int .u8 (b.toNat:Int)]) (m.take k)).flatten=byteCells ⟨⟨m.take k⟩⟩:=by
    show _=List.map _ (m.take k);generalize (m.take k:List UInt8)=q;induction q with
    |nil=>rfl
    |cons b q ih=>simp[ih]
   rw[e1];simp only[Builtin.firstCells,Sem.run_pure];congr 1;apply Array.ext';simp only[byteCells,Array.toList_map];congr 1;simp[Ty.toL,ByteArray.extract,ByteArray.copySlice]
  ·rw[List.getElem?_map] at h2;obtain⟨b,h3,rfl⟩:=Option.map_eq_some_iff.1 h2;have:some e=some b:=h1.symm.trans h3;injection this with this;subst this
   rfl
 ·by_cases h0:k=0
  ·subst h0;refine⟨[],?_,rfl,fun i e us h=>by simp at h⟩;cases A with
   |none=>exact run_firstCells_none z.w u.cells 0 _ c
   |some a=>exact run_firstCells_some z.w u.cells 0 a _ c [] (by simp) (fun j v h=>by simp at h)
  ·obtain⟨b,off,rfl,_,hr⟩:=hA (by omega);have hr':=hr.sub 0 k;rw[Nat.zero_mul,Nat.add_zero,List.drop_zero] at hr';obtain⟨css,q1,q2,q3⟩:=hr'.cells;have hml:(m.take k).length=k:=by rw[List.length_take];omega
   have hl:css.flatten.length=k*u.cells:=by rw[aMZ (n:=u.cells) (cpZ q1 q2),q1,hml]
   exact⟨css,run_firstCells_some z.w u.cells _ _ _ _ _ hl (fun j v hj=>by rw[m2Z];exact q3 j v hj),by rw[q1,hml],q2⟩
theorem i6Z{α:Type}{l m:List α}{at_:Nat}(h:at_+m.length<=l.length):(splice l at_ m).length=l.length:=by
 unfold splice;simp;omega
theorem ixZ{α:Type}{l m:List α}{at_:Nat}(h:at_+m.length<=l.length)(i:Nat):(splice l at_ m)[i]? =if at_<=i/\i<at_+m.length then m[i-at_]? else l[i]? :=by
 unfold splice;have h1:(l.take at_).length=at_:=by rw[List.length_take];omega
 by_cases hi:i<at_
 ·rw[List.append_assoc,List.getElem?_append_left (by omega),List.getElem?_take_of_lt hi,if_neg (by omega)]
 ·rw[List.append_assoc,List.getElem?_append_right (by omega),h1];by_cases h2:i<at_+m.length
  ·rw[List.getElem?_append_left (by omega),if_pos (by omega)]
  ·rw[List.getElem?_append_right (by omega),List.getElem?_drop,if_neg (by omega)];congr 1;omega
theorem HRep.reset{id:Nat}{e:Ent}(hg:hget H id=some e)(hH:HRep z H):HRep z (hset H id (some e)):=by
 refine hH.same (fun k=> ?_) fun k=> ?_
 ·rw[akZ];by_cases h:k=id
  ·subst h;rw[if_pos rfl,hg]
  ·rw[if_neg h]
 ·rw[amZ];by_cases h:k=id
  ·subst h;simp[ahZ hg]
  ·simp[h]
theorem dkZ{u:Ty}{m:List u.den}{v:Value}(h:RowsRep z u m v)(w:World):(Builtin.lenOf v).run P w= .ok m.length w:=by
 rcases h with⟨hu,rfl⟩|⟨A,c,rfl,_⟩
 ·subst hu;rfl
 ·rfl
theorem ihZ{H':Hp}{u:Ty}{l m:List u.den}{e':TypeId}{id g sz n off:Nat}{css:List (List Value)}(hH:HRep z H)(hg:hgetX H id=some ⟨false,.rows e' u l⟩)(hρ:z.ρ id= .real g sz n)
 (hdl:off+m.length<=l.length)(f2:css.length=m.length)(f3:∀(i:Nat) e us,m[i]? =some e->css[i]? =some us->Cl z.w z.M z.ρ u e us)(hu:Upd H id (.rows e' u (splice l off m)) H'):
 (storeCells ⟨g,off*u.cells,none⟩ css.flatten).run P z.w= .ok () (z.w.setCells g (off*u.cells) css.flatten)/\
  HRep {z with w:=z.w.setCells g (off*u.cells) css.flatten} H'/\Nx z {z with w:=z.w.setCells g (off*u.cells) css.flatten}:=by
 obtain⟨_,_,_,cs,fr,a1,a2,a3,a4,a5,a6,a7⟩:=hH.realX hg hρ;have hfl:css.flatten.length=m.length*u.cells:=by rw[aMZ (n:=u.cells) (cpZ f2 f3),f2]
 have hfit:off*u.cells+css.flatten.length<=cs.size:=by
  have:(off+m.length)*u.cells<=l.length*u.cells:=Nat.mul_le_mul_right _ hdl;rw[Nat.add_mul] at this;omega
 have hth:=cTZ (o:=off*u.cells) (n:=css.flatten.length) a1 a2.f hfit;have h1:∀v∈css.flatten,v.oneCell'=true:=fun v hv=>by
  obtain⟨us,h1,h2⟩:=List.mem_flatten.1 hv;obtain⟨k,hk⟩:=List.getElem?_of_mem h1;obtain⟨e,he⟩:=a6Z (l:=m) f2 hk;exact(f3 k e us he hk).one v h2
 have hst:=run_storeCells_cells (P:=P) g (off*u.cells) css.flatten 0 z.w (fun j hj=>by simpa using(hth j hj).1) (fun j hj=>by simpa using(hth j hj).2) h1;simp only[Nat.add_zero] at hst;obtain⟨w1,w2,w3,w4⟩:=a3Z css.flatten z.w g (off*u.cells);have hsl:(splice l off m).length=l.length:=i6Z hdl;obtain⟨p1,p2⟩:=hH.writeX (w':=z.w.setCells g (off*u.cells) css.flatten) (b:=.rows e' u (splice l off m)) hg hρ w2 w3 w4 w1 (fun b hb=>avZ _ _ _ _ _ hb) (fun kk=>by
  refine⟨_,fr,awZ _ _ _ _ _ _ _ a1,evZ a2 (asZ _ _ _),by rw[asZ];exact a3,by rw[hsl];exact a4,by rw[hsl];exact a5,a6,fun i x hx=> ?_⟩;rw[ixZ hdl] at hx;by_cases hin:off<=i/\i<off+m.length
  ·rw[if_pos hin] at hx;obtain⟨us,b1,b2⟩:=RowsIn.css f2 f3 [] _ _ hx;refine⟨us,b1.kp kk,fun j v hj=> ?_⟩;have hb:=b2 j v hj;rw[List.append_nil] at hb;have hbl:=(List.getElem?_eq_some_iff.1 hb).1;obtain⟨d,hd⟩:∃d,i=off+d:=⟨i-off,by omega⟩;subst hd;rw[Nat.add_sub_cancel_left] at hb hbl;rw[Nat.add_mul,a0Z _ _ _ _ hfit,if_pos (by omega),<-hb];congr 1;omega
  ·rw[if_neg hin] at hx;obtain⟨us,b1,b2⟩:=a7 i x hx;refine⟨us,b1.kp kk,fun j v hj=> ?_⟩;have hjl:j<u.cells:=by
    have:=(List.getElem?_eq_some_iff.1 hj).1;rw[b1.len] at this;exact this
   rw[a0Z _ _ _ _ hfit,if_neg,b2 j v hj];rw[hfl];rcases Nat.lt_or_ge i off with hlt|hge
   ·have:=hWZ (es:=u.cells) hlt hjl;omega
   ·have:(off+m.length)*u.cells<=i*u.cells:=Nat.mul_le_mul_right _ (by omega);rw[Nat.add_mul] at this;omega) hu
 exact⟨hst,p1,p2⟩
theorem i2Z{u:Ty}{l m:List u.den}{e':TypeId}{id g sz n off:Nat}{css:List (List Value)}(hH:HRep z H)(hg:hget H id=some ⟨false,.rows e' u l⟩)(hρ:z.ρ id= .real g sz n)
 (hdl:off+m.length<=l.length)(f2:css.length=m.length)(f3:∀(i:Nat) e us,m[i]? =some e->css[i]? =some us->Cl z.w z.M z.ρ u e us):
 (storeCells ⟨g,off*u.cells,none⟩ css.flatten).run P z.w= .ok () (z.w.setCells g (off*u.cells) css.flatten)/\
  HRep {z with w:=z.w.setCells g (off*u.cells) css.flatten} (hset H id (some ⟨false,.rows e' u (splice l off m)⟩))/\Nx z {z with w:=z.w.setCells g (off*u.cells) css.flatten}:=
 ihZ hH (hH.x hg (aFZ hρ)) hρ hdl f2 f3 (.stat (hH.low hg (aFZ hρ)) hg (hH.low hg (aFZ hρ)))
theorem lPZ{H':Hp}{t e ty sT:TypeId}{u:Ty}{l m:List u.den}{e':TypeId}{x:Value}{id g sz n off dl c:Nat}{K:AV->Hp->Option β}{r:β}(hH:HRep z H)(hg:hgetX H id=some ⟨false,.rows e' u l⟩)(hρ:z.ρ id= .real g sz n)
 (hu:P.underlying t=some (.slice e))(hc:u.cells=P.cellsOf e)(hx:RowsRep z u m x)(hdl:off+dl<=l.length)
 (hup:Upd H id (.rows e' u (splice l off (m.take dl))) H')(h:K (.i .i64 ((min m.length dl:Nat):Int)) H'=some r):
 Ok P (Builtin.copy_ #[t,sT] ty #[.slice (some ⟨g,off*u.cells,none⟩) dl c,x]) z K r:=by
 obtain⟨_,_,_,cs,fr,a1,a2,a3,a4,a5,a6,a7⟩:=hH.realX hg hρ;have hi:∃i,P.info? e=some i/\i.size=u.cells:=by
  have:=aYZ hc.symm (by omega);obtain⟨i,h1,h2⟩:=Option.map_eq_some_iff.1 this;exact⟨i,h1,h2⟩
 obtain⟨i,i1,i2⟩:=hi;obtain⟨css,f1,f2,f3⟩:=hx.first (P:=P) (min m.length dl) (Nat.min_le_left _ _);have hmt:m.take (min m.length dl)=m.take dl:=by rw[List.take_eq_take_iff];omega
 have hmtl:(m.take dl).length=min m.length dl:=by rw[List.length_take];omega
 rw[hmt] at f3;obtain⟨hst,p1,p2⟩:=ihZ (P:=P) hH hg hρ (m:=m.take dl) (off:=off) (by rw[hmtl];omega) (by rw[f2,hmtl]) f3 hup;have hrun:(Builtin.copy_ #[t,sT] ty #[.slice (some ⟨g,off*u.cells,none⟩) dl c,x]).run P z.w= .ok (.int .i64 ((min m.length dl:Nat):Int)) (z.w.setCells g (off*u.cells) css.flatten):=by
  have hmin:Nat.min m.length dl=min m.length dl:=rfl;simp[Builtin.copy_,run_underlying hu,dkZ hx,hmin,sizeOf,typeInfo,i1,i2,f1,hst,goInt]
 exact .mk' (z':={z with w:=z.w.setCells g (off*u.cells) css.flatten}) hrun p1 (.mkI _ _) p2 h
theorem imZ{t e ty sT:TypeId}{u:Ty}{l m:List u.den}{e':TypeId}{x:Value}{id g sz n off dl c:Nat}{K:AV->Hp->Option β}{r:β}(hH:HRep z H)(hg:hget H id=some ⟨false,.rows e' u l⟩)(hρ:z.ρ id= .real g sz n)
 (hu:P.underlying t=some (.slice e))(hc:u.cells=P.cellsOf e)(hx:RowsRep z u m x)(hdl:off+dl<=l.length)
 (h:K (.i .i64 ((min m.length dl:Nat):Int)) (hset H id (some ⟨false,.rows e' u (splice l off (m.take dl))⟩))=some r):
 Ok P (Builtin.copy_ #[t,sT] ty #[.slice (some ⟨g,off*u.cells,none⟩) dl c,x]) z K r:=
 lPZ hH (hH.x hg (aFZ hρ)) hρ hu hc hx hdl (.stat (hH.low hg (aFZ hρ)) hg (hH.low hg (aFZ hρ))) h
theorem dFZ{t e ty sT:TypeId}{u:Ty}{m:List u.den}{e':TypeId}{x:Value}{id off:Nat}{A:Option Addr}{K:AV->Hp->Option β}{r:β}{l:List u.den}(hH:HRep z H)(hg:hget H id=some ⟨false,.rows e' u l⟩)
 (hu:P.underlying t=some (.slice e))(hc:u.cells=P.cellsOf e)(hc0:0<u.cells)(hx:RowsRep z u m x)
 (h:K (.i .i64 ((min m.length 0:Nat):Int)) (hset H id (some ⟨false,.rows e' u (splice l off (m.take 0))⟩))=some r):
 Ok P (Builtin.copy_ #[t,sT] ty #[.slice A 0 0,x]) z K r:=by
 have hi:∃i,P.info? e=some i/\i.size=u.cells:=by
  have:=aYZ hc.symm (by omega);obtain⟨i,h1,h2⟩:=Option.map_eq_some_iff.1 this;exact⟨i,h1,h2⟩
 obtain⟨i,i1,i2⟩:=hi;obtain⟨css,f1,f2,f3⟩:=hx.first (P:=P) 0 (Nat.zero_le _);obtain rfl:css=[]:=List.eq_nil_of_length_eq_zero f2;have hs:splice l off (m.take 0)=l:=by simp[splice]
 rw[hs] at h;refine .mk' (z':=z) ?_ (hH.reset hg) (.mkI _ _) (Nx.refl z) h;have hmin:Nat.min m.length 0=0:=Nat.min_eq_right (Nat.zero_le _);cases A<;>simp[Builtin.copy_,run_underlying hu,dkZ hx,hmin,sizeOf,typeInfo,i1,i2,f1,goInt,storeCells]
theorem kxZ{t sT:TypeId}(ty:TypeId){a ax:AV}{v vx:Value}{K:AV->Hp->Option β}{r:β}(h:evCopy P t a ax H K=some r)(hH:HRep z H)(ha:ARep z a v)(hx:ARep z ax vx):
 Ok P (Builtin.copy_ #[t,sT] ty #[v,vx]) z K r:=by
 unfold evCopy at h;split at h
 ·rename_i e hu;obtain⟨u,h1,h2⟩:=aeZ.1 h;obtain⟨t1,t2,_⟩:=cjZ h1;obtain⟨m,hm,h3⟩:=edZ h2 hH hx;split at h3
  ·rename_i es id;split at h3
   ·rename_i e' t' l hg;rcases aBZ h3 with⟨rfl,h4⟩|h4
    ·obtain⟨h5,h6⟩:=adZ.1 h4;rw[abZ] at h5;subst h5;cases ha with
     |slfV _ _ A hρ=>
      obtain⟨rfl,_⟩:=hH.virt hg hρ;exact dFZ hH hg hu t1 t2 hm h6
     |slf _ _ g sz n c hρ hn hs hm'=>
      have hl:l.length=n:=by obtain⟨_,_,_,cs,fr,a1,a2,a3,a4,_⟩:=hH.real hg hρ;exact a4
      subst hl;have:=imZ (sT:=sT) (ty:=ty) (off:=0) (dl:=l.length) (c:=c) hH hg hρ hu t1 hm (by omega) h6;rwa [Nat.zero_mul] at this
    ·cases h4
   ·cases h3
  ·rename_i es id off n;split at h3
   ·rename_i e' t' l hg;rcases aBZ h3 with⟨rfl,h4⟩|h4
    ·obtain⟨h5,h6⟩:=adZ.1 h4;simp only[Bool.and_eq_true,abZ,Nat.ble_eq] at h5;obtain⟨rfl,h7⟩:=h5;cases ha with
     |slV _ _ _ A hρ=>exact dFZ hH hg hu t1 t2 hm h6
     |slE _ _ _ g sz m' o hρ=>exact dFZ hH hg hu t1 t2 hm h6
     |sl _ _ _ _ g sz m' c hρ hn hs hm'=>exact imZ hH hg hρ hu t1 hm h7 h6
    ·cases h4
   ·cases h3
  ·rename_i f s x;split at h3
   ·rename_i e' s' ms hg;rcases aBZ h3 with⟨rfl,h4⟩|h4
    ·rcases aBZ h4 with⟨rfl,h5⟩|h5
     ·obtain⟨y,h6,h7⟩:=Option.bind_eq_some_iff.1 h5;have h6:refPut ms x m=some y:=h6;have hc0:0<u.cells:=t2;have hx':=ha.v.scal rfl rfl;have none0:∀{A:Option Addr} {c:Nat},K (.i .i64 0) (hset H (famId f) (some ⟨false,.fam e' u ms⟩))=some r->Ok P (Builtin.copy_ #[t,sT] ty #[.slice A 0 c,vx]) z K r:=fun{A c} hk=>by
       have hi:∃i,P.info? e=some i/\i.size=u.cells:=by
        have:=aYZ t1.symm (by omega);obtain⟨i,h1,h2⟩:=Option.map_eq_some_iff.1 this;exact⟨i,h1,h2⟩
       obtain⟨i,i1,i2⟩:=hi;obtain⟨css,f1,f2,f3⟩:=hm.first (P:=P) 0 (Nat.zero_le _);obtain rfl:css=[]:=List.eq_nil_of_length_eq_zero f2;refine .mk' (z':=z) ?_ (hH.reset hg) (.mkI _ _) (Nx.refl z) hk;have hmin:Nat.min m.length 0=0:=Nat.min_eq_right (Nat.zero_le _);cases A<;>simp[Builtin.copy_,run_underlying hu,dkZ hm,hmin,sizeOf,typeInfo,i1,i2,f1,goInt,storeCells]
      rcases x with l|(_|⟨k,off,n⟩)
      ·unfold refPut at h6;obtain⟨h8,h9⟩:=adZ.1 h6;rw[abZ] at h8;cases h9;obtain⟨A,c,hv,_⟩:=hx';simp only[List.cons.injEq,and_true] at hv;have:List.length (α:=u.den) l=0:=h8;rw[this] at hv;subst hv;exact none0 h7
      ·cases h6;have hv:[v]=[.slice none 0 0]:=hx';simp only[List.cons.injEq,and_true] at hv;subst hv;exact none0 h7
      ·obtain⟨p,g3,h8⟩:=Option.bind_eq_some_iff.1 h6;obtain⟨h9,h10⟩:=adZ.1 h8;cases h10;simp only[Bool.and_eq_true,abZ,Nat.ble_eq] at h9;obtain⟨g4,hle⟩:=h9;rcases hx' with⟨A,hρ,rfl,hv⟩|⟨g,sz,m',c,hρ,hnc,hs,hcm,hv⟩
       ·simp only[List.cons.injEq,and_true] at hv;subst hv;have hs:splice p.2 off (m.take 0)=p.2:=by simp[splice]
        rw[hs] at h7;have hms:ms.set k (1,p.2)=ms:=by
         obtain⟨hk,hpe⟩:=List.getElem?_eq_some_iff.1 g3;have:((1,p.2):Nat×List u.den)=ms[k]:=by rw[hpe,<-g4]
         rw[this];exact List.set_getElem_self hk
        rw[hms] at h7;exact none0 (by simpa using h7)
       ·simp only[List.cons.injEq,and_true] at hv;subst hv;have hgX:=eqZ hg g3 (by rw[g4];omega);have hfz:((⟨false||Nat.ble 2 p.1,.rows e' u p.2⟩:Ent))=⟨false,.rows e' u p.2⟩:=by rw[g4];rfl
        rw[hfz] at hgX;exact lPZ hH hgX hρ hu t1 hm hle (.mem hg (hH.fam _ _ hg) g3 _) h7
     ·cases h5
    ·cases h4
   ·cases h3
  ·cases h3
 ·cases h
theorem bCZ{t e ty:TypeId}{A:Option Addr}{c:Nat}(w:World)(hu:P.underlying t=some (.slice e)):(Builtin.clear_ #[t] ty #[.slice A 0 c]).run P w= .ok (.tuple #[]) w:=by
 cases A<;>simp[Builtin.clear_,run_underlying hu]
theorem e2Z{t e ty:TypeId}{a:Addr}{n c:Nat}{i:TypeInfo}{zv:Value}{w w':World}(hu:P.underlying t=some (.slice e))(hi:P.info? e=some i)(hz:i.zero=some zv)(hn:n≠0)
 (h:(storeCells a (Builtin.zeroCells zv.cells n).toList).run P w= .ok () w'):(Builtin.clear_ #[t] ty #[.slice (some a) n c]).run P w= .ok (.tuple #[]) w':=by
 obtain⟨k,rfl⟩:∃k,n=k+1:=⟨n-1,by omega⟩;simp[Builtin.clear_,run_underlying hu,zeroValue,typeInfo,hi,hz,h]
theorem eEZ(zs:Array Value)(n:Nat):(Builtin.zeroCells zs n).toList=(List.replicate n zs.toList).flatten:=eoZ zs n
theorem gTZ{t e ty:TypeId}{u:Ty}{l:List u.den}{e':TypeId}{id g sz n off dl c:Nat}{K:AV->Hp->Option β}{r:β}(hH:HRep z H)(hg:hget H id=some ⟨false,.rows e' u l⟩)(hρ:z.ρ id= .real g sz n)
 (hu:P.underlying t=some (.slice e))(hz:zeroOk P e u=true)(hdl:off+dl<=l.length)
 (h:K (.tup []) (hset H id (some ⟨false,.rows e' u (splice l off (List.replicate dl u.zero))⟩))=some r):
 Ok P (Builtin.clear_ #[t] ty #[.slice (some ⟨g,off*u.cells,none⟩) dl c]) z K r:=by
 obtain⟨i,zv,q1,q2,q3⟩:=bsZ hz;obtain⟨c1,c2⟩:=(q3 z.w z.M z.ρ).cells;rcases Nat.eq_zero_or_pos dl with h0|h0
 ·subst h0;have hs:splice l off (List.replicate 0 u.zero)=l:=by simp[splice]
  rw[hs] at h;exact .mk' (z':=z) (bCZ z.w hu) (hH.reset hg) (.tup _ _ rfl (fun i x v h=>by simp at h)) (Nx.refl z) h
 ·obtain⟨hst,p1,p2⟩:=i2Z (P:=P) hH hg hρ (m:=List.replicate dl u.zero) (off:=off) (css:=List.replicate dl zv.cells.toList) (by rw[List.length_replicate];exact hdl) (by simp) (fun i e us h1 h2=>by
   have e1:=List.eq_of_mem_replicate (List.mem_of_getElem? h1);have e2:=List.eq_of_mem_replicate (List.mem_of_getElem? h2);rw[e1,e2];exact c1)
  rw[<-eEZ] at hst p1 p2;exact .mk' (z':={z with w:=z.w.setCells g (off*u.cells) (Builtin.zeroCells zv.cells dl).toList}) (e2Z hu q1 q2 (by omega) hst) p1 (.tup _ _ rfl (fun i x v h=>by simp at h)) p2 h
theorem iyZ{t:TypeId}(ty:TypeId){a:AV}{v:Value}{K:AV->Hp->Option β}{r:β}(h:evClear P t a H K=some r)(hH:HRep z H)(ha:ARep z a v):Ok P (Builtin.clear_ #[t] ty #[v]) z K r:=by
 unfold evClear at h;split at h
 ·rename_i e hu;obtain⟨u,h1,h2⟩:=aeZ.1 h;obtain⟨hz,h3⟩:=adZ.1 h2;have tupK:∀{z':Z},ARep z' (.tup []) (.tuple #[]):=.tup _ _ rfl (fun i x v h=>by simp at h);have none0:∀{A:Option Addr} {c:Nat} {u':Ty} {l:List u'.den} {id:Nat} {e':TypeId} {off:Nat},hget H id=some ⟨false,.rows e' u' l⟩->K (.tup []) (hset H id (some ⟨false,.rows e' u' (splice l off (List.replicate 0 u'.zero))⟩))=some r->
   Ok P (Builtin.clear_ #[t] ty #[.slice A 0 c]) z K r:=fun{A c u' l id e' off} hg hk=>by
   have hs:splice l off (List.replicate 0 u'.zero)=l:=by simp[splice]
   rw[hs] at hk;exact .mk' (z':=z) (bCZ z.w hu) (hH.reset hg) tupK (Nx.refl z) hk
  split at h3
  ·obtain rfl:=ha.v.opq.1;exact .mk' (z':=z) (bCZ z.w hu) hH tupK (Nx.refl z) h3
  ·rename_i es id;split at h3
   ·rename_i e' t' l hg;rcases aBZ h3 with⟨rfl,h4⟩|h4
    ·obtain⟨h5,h6⟩:=adZ.1 h4;rw[abZ] at h5;subst h5;cases ha with
     |slfV _ _ A hρ=>
      obtain⟨rfl,_⟩:=hH.virt hg hρ;exact none0 hg h6
     |slf _ _ g sz n c hρ hn hs hm'=>
      have hl:l.length=n:=by obtain⟨_,_,_,cs,fr,a1,a2,a3,a4,_⟩:=hH.real hg hρ;exact a4
      subst hl;have:=gTZ (ty:=ty) (off:=0) (dl:=l.length) (c:=c) hH hg hρ hu hz (by omega) h6;rwa [Nat.zero_mul] at this
    ·cases h4
   ·cases h3
  ·rename_i es id off n;split at h3
   ·rename_i e' t' l hg;rcases aBZ h3 with⟨rfl,h4⟩|h4
    ·obtain⟨h5,h6⟩:=adZ.1 h4;simp only[Bool.and_eq_true,abZ,Nat.ble_eq] at h5;obtain⟨rfl,h7⟩:=h5;cases ha with
     |slV _ _ _ A hρ=>exact none0 hg h6
     |slE _ _ _ g sz m' o hρ=>exact none0 hg h6
     |sl _ _ _ _ g sz m' c hρ hn hs hm'=>exact gTZ hH hg hρ hu hz h7 h6
    ·cases h4
   ·cases h3
  ·cases h3
 ·cases h
end
end Go.Ab
namespace Go.Ab
section
variable {P : Program} {β : Type} {z : Z} {H : Hp}
theorem eGZ{α:Type}{f:α->α->Bool}(hf:∀{a b},f a b=true->a=b):∀{l r:List α},listEqb f l r=true->l=r
 |[],[],_=>rfl
 |a::l,b::r,h=>by
  simp only[listEqb,Bool.and_eq_true] at h;rw[hf h.1,eGZ hf h.2]
 |[],_::_,h=>by simp[listEqb] at h
 |_::_,[],h=>by simp[listEqb] at h
theorem cJZ:(k:Ty)->k.keyed=true->{x a:k.den}->k.eqb x a=true->x=a
 |.int _,_,x,a,h=>by
  have:((x:Int)==(a:Int))=true:=h;exact beq_iff_eq.1 this
 |.byte,_,x,a,h=>by
  have:((x:UInt8)==(a:UInt8))=true:=h;exact beq_iff_eq.1 this
 |.bool,_,x,a,h=>by
  have:((x:Bool)==(a:Bool))=true:=h;exact beq_iff_eq.1 this
 |.str,_,x,a,h=>by
  have:((x:List UInt8)==(a:List UInt8))=true:=h;exact beq_iff_eq.1 this
 |.one t,hk,x,a,h=>cJZ t hk h
 |.pair s t,hk,x,a,h=>by
  simp only[Ty.keyed,Bool.and_eq_true] at hk;simp only[Ty.eqb,Bool.and_eq_true] at h;exact Prod.ext (cJZ s hk.1 h.1) (cJZ t hk.2 h.2)
 |.arr _ t,hk,x,a,h=>eGZ (fun h=>cJZ t hk h) h
theorem h5Z{kt:TypeId}{k:Ty}(h:keyOk P kt k=true):k.keyed=true:=by
 unfold keyOk at h;simp only[Bool.and_eq_true] at h;exact h.2
def setO(w:World)(g:Nat)(o:Obj):World:={w with heap:=w.heap.setIfInBounds g o}
theorem b8Z{w:World}{g:Nat}{es:Array MapEntry}{c:Nat}(h:w.heap[g]? =some (.map es c))(o:Obj):(setObj g o).run P w= .ok () (setO w g o):=by
 simp[setObj,Sem.run,h]
 rfl
theorem b7Z{w:World}{g:Nat}{es:Array MapEntry}{c:Nat}(h:w.heap[g]? =some (.map es c)):(getObj g).run P w= .ok (.map es c) w:=by
 simp[getObj,Sem.run,h]
theorem gfZ(w:World)(old new:Value):∃v w',(Instr.keyThatStays old new).run P w= .ok v w'/\(v=old\/v=new)/\w'.heap=w.heap/\w'.os=w.os/\(w'.tape=w.tape/\w.drawn<=w'.drawn)/\w'.output=w.output:=by
 by_cases h:Instr.sameBits 10000 old new=true
 ·exact⟨new,w,by simp[Instr.keyThatStays,h],.inr rfl,rfl,rfl,⟨rfl,Nat.le_refl _⟩,rfl⟩
 ·by_cases h2:(Question.extern "map.whichKeyStays" 2).cut (w.tape w.drawn (.extern "map.whichKeyStays" 2))=0
  ·exact⟨new,w.drew,by simp[Instr.keyThatStays,h,Question.forced,h2],.inr rfl,rfl,rfl,⟨rfl,Nat.le_succ _⟩,rfl⟩
  ·exact⟨old,w.drew,by simp[Instr.keyThatStays,h,Question.forced,h2],.inl rfl,rfl,rfl,⟨rfl,Nat.le_succ _⟩,rfl⟩
theorem bfZ{id g sz n:Nat}{b0 b:Blk}{w1:World}{o:Obj}(hH:HRep z H)(hg:hget H id=some ⟨false,b0⟩)(hρ:z.ρ id= .real g sz n)(h1:w1.heap=z.w.heap)(h2:w1.os=z.w.os)(h3:w1.tape=z.w.tape/\z.w.drawn<=w1.drawn)(h4:w1.output=z.w.output)
 (hb:∀z',Kp z z'->z'.w.heap[g]? =some o->BRep z' g sz n b):HRep {z with w:=setO w1 g o} (hset H id (some ⟨false,b⟩))/\Nx z {z with w:=setO w1 g o}:=by
 have hlt:=(hH.real hg hρ).1;refine hH.write (w':=setO w1 g o) hg hρ h2 h3 h4 (by simp[setO,h1]) (fun b hb=> ?_) fun k=>hb _ k ?_
 ·simp[setO,h1,Array.getElem?_setIfInBounds,Ne.symm hb]
 ·simp[setO,h1,hlt]
section
variable {k v : Ty}
theorem hfZ:∀{l:List ((k.den×v.den)×Nat)} {j:Nat} {a x:k.den} {b y:v.den} {n:Nat},l[j]? =some ((a,b),n)->k.eqb x a=true->(∀j' e,j'<j->l[j']? =some e->k.eqb x e.1.1=false)->mset l x y=l.set j ((x,y),n)
 |[],j,_,_,_,_,_,h,_,_=>by simp at h
 |((a',b'),n')::l,0,a,x,b,y,n,h,hq,hf=>by
  simp at h;obtain⟨⟨rfl,rfl⟩,rfl⟩:=h;simp[mset,hq]
 |((a',b'),n')::l,j+1,a,x,b,y,n,h,hq,hf=>by
  have:=hf 0 _ (by omega) rfl;simp only[mset,this,cond_false,List.set_cons_succ];rw[hfZ (by simpa using h) hq fun j' e hj he=>hf (j'+1) e (by omega) (by simpa using he)]
theorem ilZ:∀{l:List ((k.den×v.den)×Nat)} {j:Nat} {a x:k.den} {b:v.den} {n:Nat},l[j]? =some ((a,b),n)->k.eqb x a=true->(∀j' e,j'<j->l[j']? =some e->k.eqb x e.1.1=false)->mdelL l x=l.eraseIdx j
 |[],j,_,_,_,_,h,_,_=>by simp at h
 |((a',b'),n')::l,0,a,x,b,n,h,hq,hf=>by
  simp at h;obtain⟨⟨rfl,rfl⟩,rfl⟩:=h;simp[mdelL,hq]
 |((a',b'),n')::l,j+1,a,x,b,n,h,hq,hf=>by
  have:=hf 0 _ (by omega) rfl;simp only[mdelL,this,cond_false,List.eraseIdx_cons_succ];rw[ilZ (by simpa using h) hq fun j' e hj he=>hf (j'+1) e (by omega) (by simpa using he)]
theorem eUZ:∀{l:List ((k.den×v.den)×Nat)} {x:k.den},mfind l x=none->mdelL l x=l
 |[],_,_=>rfl
 |((a,b),n)::l,x,h=>by
  simp only[mfind] at h;cases hq:k.eqb x a<;>rw[hq] at h<;>simp only[cond_true,cond_false] at h
  ·simp only[mdelL,hq,cond_false];rw[eUZ h]
  ·cases h
theorem hZZ:∀{l l':List ((k.den×v.den)×Nat)} {i:Int} {y:v.den},msetN l i y=some l'->∃(j:Nat) (a:k.den) (b:v.den) (n:Nat),l[j]? =some ((a,b),n)/\(n:Int)=i/\l'=l.set j ((a,y),n)/\∀j' e,j'<j->l[j']? =some e->(e.2:Int)≠i
 |[],_,_,_,h=>by simp[msetN] at h
 |((a,b),n)::l,l',i,y,h=>by
  simp only[msetN] at h;cases hq:((n:Int)==i)<;>rw[hq] at h<;>simp only[cond_true,cond_false] at h
  ·obtain⟨l1,h1,rfl⟩:=Option.map_eq_some_iff.1 h;obtain⟨j,a',b',n',q1,q2,q3,q4⟩:=hZZ h1;refine⟨j+1,a',b',n',by simpa using q1,q2,by rw[q3];rfl,fun j' e hj he=> ?_⟩
   match j' with
   |0=>simp at he;subst he;simpa using hq
   |j'+1=>exact q4 j' e (by omega) (by simpa using he)
  ·simp only[Option.some.injEq] at h;exact⟨0,a,b,n,rfl,by simpa using hq,h.symm,fun j' e hj=>by omega⟩
end
def MRep(z:Z)(k v:Ty)(M:GMap k v)(es:Array MapEntry):Prop:=
 es.size=M.1.length/\(∀(i:Nat) x e,M.1[i]? =some x->es[i]? =some e->VRep z.w z.M z.ρ k x.1.1 e.key/\VRep z.w z.M z.ρ v x.1.2 e.val/\e.born=x.2)/\
  (∀(i j:Nat) x y,M.1[i]? =some x->M.1[j]? =some y->x.2=y.2->i=j)/\(∀(i:Nat) x,M.1[i]? =some x->x.2<M.2)
theorem MRep.kp{z':Z}(kk:Kp z z'){k v:Ty}{M:GMap k v}{es:Array MapEntry}(h:MRep z k v M es):MRep z' k v M es:=
 ⟨h.1,fun i x e q1 q2=>⟨(h.2.1 i x e q1 q2).1.kp kk,(h.2.1 i x e q1 q2).2.1.kp kk,(h.2.1 i x e q1 q2).2.2⟩,h.2.2⟩
theorem hrZ{k v:Ty}{l:List ((k.den×v.den)×Nat)}{j n:Nat}{p q:k.den×v.den}(hj:l[j]? =some (p,n)){i:Nat}{x:(k.den×v.den)×Nat}(h:(l.set j (q,n))[i]? =some x):∃y,l[i]? =some y/\y.2=x.2:=by
 by_cases hi:j=i
 ·subst hi;have:=(List.getElem?_eq_some_iff.1 hj).1;rw[List.getElem?_set_self this] at h;simp only[Option.some.injEq] at h;subst h;exact⟨_,hj,rfl⟩
 ·rw[List.getElem?_set_ne hi] at h;exact⟨x,h,rfl⟩
theorem MRep.set{k v:Ty}{M:GMap k v}{es es':Array MapEntry}{j n:Nat}{p:k.den×v.den}{x:k.den}{y:v.den}{e':MapEntry}(h:MRep z k v M es)(hj:M.1[j]? =some (p,n))(hx:VRep z.w z.M z.ρ k x e'.key)(hy:VRep z.w z.M z.ρ v y e'.val)(hb:e'.born=n)
 (hs:es'.size=es.size)(h1:es'[j]? =some e')(h2:∀i,i≠j->es'[i]? =es[i]?):MRep z k v (M.1.set j ((x,y),n),M.2) es':=by
 obtain⟨a1,a2,a3,a4⟩:=h;refine⟨by rw[hs,a1];simp,fun i a e q1 q2=> ?_,fun i i' a b q1 q2 q3=> ?_,fun i a q1=> ?_⟩
 ·by_cases hi:j=i
  ·subst hi;have:=(List.getElem?_eq_some_iff.1 hj).1;rw[List.getElem?_set_self this] at q1;rw[h1] at q2;simp only[Option.some.injEq] at q1 q2;subst q1;subst q2;exact⟨hx,hy,hb⟩
  ·rw[List.getElem?_set_ne hi] at q1;rw[h2 i (Ne.symm hi)] at q2;exact a2 i a e q1 q2
 ·obtain⟨y1,r1,r2⟩:=hrZ hj q1;obtain⟨y2,r3,r4⟩:=hrZ hj q2;exact a3 i i' y1 y2 r1 r3 (by rw[r2,r4,q3])
 ·obtain⟨y1,r1,r2⟩:=hrZ hj q1;rw[<-r2];exact a4 i y1 r1
theorem MRep.push{k v:Ty}{M:GMap k v}{es:Array MapEntry}{x:k.den}{y:v.den}{e':MapEntry}(h:MRep z k v M es)(hx:VRep z.w z.M z.ρ k x e'.key)(hy:VRep z.w z.M z.ρ v y e'.val)(hb:e'.born=M.2):
 MRep z k v (M.1++[((x,y),M.2)],M.2+1) (es.push e'):=by
 obtain⟨a1,a2,a3,a4⟩:=h;have key:∀(i:Nat) a,(M.1++[((x,y),M.2)])[i]? =some a->(i<M.1.length/\M.1[i]? =some a)\/(i=M.1.length/\a=((x,y),M.2)):=fun i a h=>by
  by_cases hi:i<M.1.length
  ·rw[List.getElem?_append_left hi] at h;exact .inl ⟨hi,h⟩
  ·rw[List.getElem?_append_right (by omega)] at h;have hi0:i-M.1.length=0:=by
    have:=(List.getElem?_eq_some_iff.1 h).1;simpa using this
   rw[hi0] at h;simp at h;exact .inr ⟨by omega,h.symm⟩
 refine⟨by simp[a1],fun i a e q1 q2=> ?_,fun i i' a b q1 q2 q3=> ?_,fun i a q1=> ?_⟩
 ·rcases key i a q1 with⟨hi,q1⟩|⟨rfl,rfl⟩
  ·rw[Array.getElem?_push,if_neg (by omega)] at q2;exact a2 i a e q1 q2
  ·rw[Array.getElem?_push,if_pos a1.symm] at q2;simp only[Option.some.injEq] at q2;subst q2;exact⟨hx,hy,hb⟩
 ·rcases key i a q1 with⟨hi,q1⟩|⟨rfl,rfl⟩<;>rcases key i' b q2 with⟨hi',q2⟩|⟨rfl,rfl⟩
  ·exact a3 i i' a b q1 q2 q3
  ·have:=a4 i a q1;simp only at q3;omega
  ·have:=a4 i' b q2;simp only at q3;omega
  ·rfl
 ·rcases key i a q1 with⟨hi,q1⟩|⟨rfl,rfl⟩
  ·have:=a4 i a q1;simp only;omega
  ·simp
theorem MRep.find{k v:Ty}{M:GMap k v}{es:Array MapEntry}{kt:TypeId}{x:k.den}{vk:Value}(h:MRep z k v M es)(hk:keyOk P kt k=true)(hx:VRep z.w z.M z.ρ k x vk):
 ∃q,(Instr.findKey kt vk es.toList).run P z.w= .ok q z.w/\((q=none/\mfind M.1 x=none)\/
  ∃(j:Nat) (b:v.den) (n:Nat) (e:MapEntry),q=some (j,e.val)/\M.1[j]? =some ((x,b),n)/\es[j]? =some e/\mfind M.1 x=some (b,n)/\k.eqb x x=true/\∀(j':Nat) e',j'<j->M.1[j']? =some e'->k.eqb x e'.1.1=false):=by
 obtain⟨a2,a3,_⟩:=h;obtain⟨q,f1,f2⟩:=bKZ hk z.w hx es.toList (M.1.map (·.1.1)) (by simp[a2]) (fun j a e e1 e2=>by
  rw[List.getElem?_map] at e1;obtain⟨y,e3,rfl⟩:=Option.map_eq_some_iff.1 e1;exact(a3 j y e e3 (by simpa using e2)).1)
 refine⟨q,f1,?_⟩;rcases f2.split (by simp[a2]) with⟨rfl,f3⟩|⟨j,a,e,rfl,f3,f4,f5,f6⟩
 ·refine .inl ⟨rfl,?_⟩;cases hq:mfind M.1 x with
  |none=>rfl
  |some y=>
   obtain⟨j,a,q1,q2,_⟩:=bQZ hq;have:=f3 j a (by simp[q1]);rw[q2] at this;cases this
 ·rw[List.getElem?_map] at f3;obtain⟨⟨⟨a',b⟩,n⟩,f7,rfl⟩:=Option.map_eq_some_iff.1 f3;simp only at f5;obtain rfl:=cJZ k (h5Z hk) f5;refine .inr ⟨j,b,n,e,rfl,f7,by simpa using f4,?_,f5,fun j' e' hj' he'=>f6 j' e'.1.1 hj' (by simp[he'])⟩;cases hq:mfind M.1 x with
  |none=>
   have:=diZ hq j _ f7;rw[f5] at this;cases this
  |some y'=>
   obtain⟨j',a',q1,q2,q3⟩:=bQZ hq;have hjj:j'=j:=by
    rcases Nat.lt_trichotomy j' j with hlt|heq|hgt
    ·have:=f6 j' a' hlt (by simp[q1]);rw[q2] at this;cases this
    ·exact heq
    ·have:=q3 j _ hgt f7;rw[f5] at this;cases this
   subst hjj;rw[q1] at f7;injection f7 with f7;injection f7 with f8 f9;injection f8 with f8 f10;rw[<-f9,<-f10]
def OkU(P:Program)(s:Sem Unit)(z:Z)(K:AV->Hp->Option β)(r:β):Prop:=
 ∃H' z',s.run P z.w= .ok () z'.w/\HRep z' H'/\Nx z z'/\K .junk H'=some r
theorem dSZ{t kt et:TypeId}{q:Option Value}(hu:P.underlying t=some (.map kt et))(hq:∀v,q=some v->∃k n,v= .int k n)(w:World):(Instr.makeMap t q).run P w= .ok (.map (some w.heap.size)) (w.alloc (.map #[] 0)):=by
 cases q with
 |none=>rfl
 |some v=>
  obtain⟨k,n,rfl⟩:=hq v rfl;simp[Instr.makeMap,run_underlying hu,asInt,asIntOf]
theorem gKZ{t:TypeId}{a:Option AV}{v:Option Value}{id:Nat}{K:AV->Hp->Option β}{r:β}(h:evMakeMap P t a id H K=some r)(hH:HRep z H)(hd:¬z.D id)(ha:ORep z a v):Ok P (Instr.makeMap t v) z K r:=by
 unfold evMakeMap at h;split at h
 ·rename_i kt et hu;obtain⟨k,h1,h2⟩:=aeZ.1 h;obtain⟨h3,h4⟩:=adZ.1 h2;have hq:∀x,v=some x->∃k n,x= .int k n:=fun x hx=>by
   rcases ha with⟨rfl,rfl⟩|⟨y,u,rfl,rfl,hy⟩
   ·cases hx
   ·simp only[Option.some.injEq] at hx;subst hx;cases hn:y.any? with
    |none=>simp only[hn] at h3;cases h3
    |some n=>
     obtain⟨kk,e⟩:=aOZ hn hy;exact⟨kk,n,e⟩
  have hrun:=dSZ (P:=P) hu hq z.w;have hnew:∀b,(hkey H id=false/\id<famBase)->(∀z',Kp z z'->z'.w.heap[z.w.heap.size]? =some (.map #[] 0)->BRep z' z.w.heap.size 0 0 b)->K (.mp id) (hset H id (some ⟨false,b⟩))=some r->Ok P (Instr.makeMap t v) z K r:=fun b hk hb hK=>by
   have hlt:z.w.heap.size<(z.w.alloc (.map #[] 0)).heap.size:=(Array.getElem?_eq_some_iff.1 (heap_alloc_new z.w (.map #[] 0))).1;obtain⟨z',p1,p2,p3,p4⟩:=hH.new (w':=z.w.alloc (.map #[] 0)) (g:=z.w.heap.size) (sz:=0) (n:=0) (b:=b) hk hd (Nat.le_refl _) hlt rfl ⟨rfl,Nat.le_refl _⟩ rfl (Nat.le_of_lt hlt) (fun k hk=>heap_alloc_old _ _ _ hk) (fun z' hz kk=>hb z' kk (by rw[hz];exact heap_alloc_new _ _));exact .mk' (by rw[p1];exact hrun) p2 (.mp _ _ _ _ p4) p3 hK
  cases hf:isFuncT P et<;>rw[hf] at h4<;>simp only[bq_true,bq_false] at h4
  ·obtain⟨u,h5,h6⟩:=aeZ.1 h4;obtain⟨h7,h8⟩:=a4Z.1 h6;exact hnew (.map k u ([],0)) h7 (fun z' kk hz=>⟨#[],hz,rfl,fun i x e h=>by simp at h,fun i j x y h=>by simp at h,fun i x h=>by simp at h⟩) h8
  ·obtain⟨h7,h8⟩:=a4Z.1 h4;exact hnew (.fmap k []) h7 (fun z' kk hz=>⟨#[],0,hz,rfl,fun i x e h=>by simp at h⟩) h8
 ·cases h
theorem d4Z{t:TypeId}{k v:Ty}(h:mapOk P t k v=true):∃kt et,P.underlying t=some (.map kt et)/\keyOk P kt k=true/\ty P et=some v/\zeroOk P et v=true:=by
 unfold mapOk at h;split at h
 ·rename_i kt et hu;simp only[Bool.and_eq_true,decide_eq_true_eq] at h;exact⟨kt,et,hu,h.1.1,h.1.2,h.2⟩
 ·cases h
theorem dLZ{t:TypeId}{m ak ax:AV}{vm vk vx:Value}{K:AV->Hp->Option β}{r:β}(h:evMapUpd P t m ak ax H K=some r)(hH:HRep z H)(hm:ARep z m vm)(hk:ARep z ak vk)(hx:ARep z ax vx):OkU P (Instr.mapUpdate t vm vk vx) z K r:=by
 unfold evMapUpd at h;split at h
 ·rename_i id;cases hm with|mp _ g sz n hρ=>
  split at h
  ·rename_i k l hg;obtain⟨h1,h2⟩:=adZ.1 h;obtain⟨x,h3,h4⟩:=aWZ h2 hk;obtain⟨h5,h6⟩:=adZ.1 h4;obtain⟨c,h7,h8⟩:=aeZ.1 h6;obtain⟨h9,h10⟩:=adZ.1 h8;unfold fmapOk at h1;split at h1
   ·rename_i kt et hu;simp only[Bool.and_eq_true] at h1;obtain⟨⟨hK,_⟩,_⟩:=h1;obtain⟨_,_,_,es,clock,a1,a2,a3⟩:=hH.real hg hρ;have hck:=aAZ (em:=false) z.w typesFuel kt k (bhZ hK).2 10000 (by unfold typesFuel;omega) x vk h3;obtain⟨q,f1,f2⟩:=bKZ hK z.w h3 es.toList (l.map (·.1)) (by simp[a2]) (fun j a e e1 e2=>by
     rw[List.getElem?_map] at e1;obtain⟨y,e3,rfl⟩:=Option.map_eq_some_iff.1 e1;exact(a3 j y e e3 (by simpa using e2)).1)
    have hno:∀(l:List (k.den×AV)),noKey l x=true->∀(i:Nat) e,l[i]? =some e->k.eqb x e.1=false:=by
     intro l;induction l with
     |nil=>intro _ i e he;simp at he
     |cons a l ih=>
      intro hn i e he;simp only[noKey,Bool.and_eq_true,Bool.not_eq_true'] at hn
      match i with
      |0=>simp at he;subst he;exact hn.1
      |i+1=>exact ih hn.2 i e (by simpa using he)
    rcases f2.split (by simp[a2]) with⟨rfl,f3⟩|⟨j,a,e,rfl,f3,f4,f5,f6⟩
    ·obtain⟨p1,p2⟩:=bfZ (w1:=z.w) (o:=.map (es.push {key:=vk,val:=vx,born:=clock}) (clock+1)) (b:=.fmap k (l++[(x,ax)])) hH hg hρ rfl rfl ⟨rfl,Nat.le_refl _⟩ rfl (fun z' kk hz=>by
      refine⟨_,_,hz,by simp[a2],fun i a e q1 q2=> ?_⟩;by_cases hi:i<l.length
      ·rw[List.getElem?_append_left hi] at q1;rw[Array.getElem?_push,if_neg (by omega)] at q2;exact⟨(a3 i a e q1 q2).1.kp kk,(a3 i a e q1 q2).2.kp kk⟩
      ·rw[List.getElem?_append_right (by omega)] at q1;have hi0:i-l.length=0:=by
        have:=(List.getElem?_eq_some_iff.1 q1).1;simpa using this
       rw[hi0] at q1;rw[Array.getElem?_push,if_pos (by omega)] at q2;simp at q1 q2;subst q1;subst q2;exact⟨h3.kp kk,hx.kp kk⟩)
     refine⟨_,_,?_,p1,p2,h10⟩;simp[Instr.mapUpdate,run_underlying hu,b7Z a1,hck,f1,b8Z a1]
    ·rw[List.getElem?_map] at f3;obtain⟨y,f7,rfl⟩:=Option.map_eq_some_iff.1 f3;have:=hno l h5 j y f7;rw[f5] at this;cases this
   ·cases h1
  ·obtain⟨⟨y,H1⟩,h1,h2⟩:=aeZ.1 h;obtain⟨z1,s1,s2,s3,s4,s5⟩:=bVZ hH h1 hx;split at h2
   ·rename_i k v M hg;obtain⟨h3,h4⟩:=adZ.1 h2;obtain⟨x,h5,h6⟩:=aWZ h4 (hk.kp (s3.kp hH.sub));obtain⟨w,h7,h8⟩:=aWZ h6 s5;obtain⟨kt,et,hu,hK,_,_⟩:=d4Z h3;have hρ1:z1.ρ id= .real g sz n:=by rw[s4];exact hρ
    obtain⟨_,_,_,es,a1,a2⟩:=s2.real hg hρ1;have a2':MRep z1 k v M es:=a2;have hck:=aAZ (em:=false) z1.w typesFuel kt k (bhZ hK).2 10000 (by unfold typesFuel;omega) x vk h5;obtain⟨q,f1,f2⟩:=a2'.find hK h5;rcases f2 with⟨rfl,f3⟩|⟨j,b,nb,e,rfl,f3,f4,f5,f6,f7⟩
    ·have hp:mput M x w=(M.1++[((x,w),M.2)],M.2+1):=by unfold mput;rw[f3]
     rw[hp] at h8;obtain⟨p1,p2⟩:=bfZ (w1:=z1.w) (o:=.map (es.push {key:=vk,val:=vx,born:=M.2}) (M.2+1)) (b:=.map k v (M.1++[((x,w),M.2)],M.2+1)) s2 hg hρ1 rfl rfl ⟨rfl,Nat.le_refl _⟩ rfl (fun z' kk hz=>⟨_,hz,(a2'.push h5 h7 rfl).kp kk⟩);refine⟨_,_,?_,p1,s3.trans p2,h8⟩;rw[<-s1];simp[Instr.mapUpdate,run_underlying hu,b7Z a1,hck,f1,b8Z a1]
    ·have hp:mput M x w=(M.1.set j ((x,w),nb),M.2):=by unfold mput;rw[f5];simp only;rw[hfZ f3 f6 f7]
     rw[hp] at h8;obtain⟨key,w1,k1,k2,k3,k4,k5,k6⟩:=gfZ (P:=P) z1.w e.key vk;obtain⟨r1,r2,r3⟩:=a2'.2.1 j _ e f3 f4;have hkey:VRep z1.w z1.M z1.ρ k x key:=by rcases k2 with rfl|rfl<;>first|exact r1|exact h5
     have hj:=(Array.getElem?_eq_some_iff.1 f4).1;obtain⟨p1,p2⟩:=bfZ (w1:=w1) (o:=.map (es.modify j fun e=>{e with key,val:=vx}) M.2) (b:=.map k v (M.1.set j ((x,w),nb),M.2)) s2 hg hρ1 k3 k4 k5 k6 (fun z' kk hz=>by
      refine⟨_,hz,(a2'.set (e':={e with key,val:=vx}) f3 hkey h7 r3 (by simp) (by simp[Array.getElem?_modify,f4]) (fun i hi=>by simp[Array.getElem?_modify,Ne.symm hi])).kp kk⟩)
     refine⟨_,_,?_,p1,s3.trans p2,h8⟩;rw[<-s1];have a1':w1.heap[g]? =some (.map es M.2):=by rw[k3];exact a1
     simp[Instr.mapUpdate,run_underlying hu,b7Z a1,hck,f1,f4,k1,b8Z a1']
   ·cases h2
 ·cases h
theorem f7Z{t:TypeId}{m ak:AV}{vm vk:Value}{K:AV->Hp->Option β}{r:β}(h:evMapEntry P t m ak H K=some r)(hH:HRep z H)(hm:ARep z m vm)(hk:ARep z ak vk):Ok P (Instr.mapEntry t vm vk) z K r:=by
 unfold evMapEntry at h;split at h
 ·rename_i id;cases hm with|mp _ g sz n hρ=>
  split at h
  ·rename_i k v M hg;obtain⟨h3,h4⟩:=adZ.1 h;rw[Bool.and_eq_true] at h3;obtain⟨x,h5,h6⟩:=aWZ h4 hk;obtain⟨kt,et,hu,hK,_,hZ⟩:=d4Z h3.1;obtain⟨i,zv,z1,z2,z3⟩:=bsZ hZ;obtain⟨_,_,_,es,a1,a2⟩:=hH.real hg hρ;have a2':MRep z k v M es:=a2;have hck:=aAZ (em:=false) z.w typesFuel kt k (bhZ hK).2 10000 (by unfold typesFuel;omega) x vk h5;have mk:∀{z':Z} {a:AV} {u:Value} {n:Int},ARep z' a u->ARep z' (.tup [a,.i .i64 n]) (.tuple #[u,.int .i64 n]):=fun ha=>by
    refine .tup _ _ rfl fun i x u h1 h2=> ?_
    match i with
    |0=>simp at h1 h2;subst h1;subst h2;exact ha
    |1=>simp at h1 h2;subst h1;subst h2;exact .mkI _ _
    |i+2=>simp at h1
   obtain⟨q,f1,f2⟩:=a2'.find hK h5;rcases f2 with⟨rfl,f3⟩|⟨j,b,nb,e,rfl,f3,f4,f5,f6,f7⟩
   ·have e1:ment M x=(M.1++[((x,v.zero),M.2)],M.2+1):=by unfold ment;rw[f3]
    have e2:mget M x=none:=by unfold mget;rw[f3];rfl
    have e3:mborn M x=M.2:=by unfold mborn;rw[f3]
    rw[e1,e2,e3] at h6;obtain⟨p1,p2⟩:=bfZ (w1:=z.w) (o:=.map (es.push {key:=vk,val:=zv,born:=M.2}) (M.2+1)) (b:=.map k v (M.1++[((x,v.zero),M.2)],M.2+1)) hH hg hρ rfl rfl ⟨rfl,Nat.le_refl _⟩ rfl (fun z' kk hz=>⟨_,hz,(a2'.push h5 (z3 _ _ _) rfl).kp kk⟩);refine .mk' (z':={z with w:=setO z.w g (.map (es.push {key:=vk,val:=zv,born:=M.2}) (M.2+1))}) ?_ p1 (mk (aNZ (z3 _ _ _))) p2 h6;simp[Instr.mapEntry,run_underlying hu,b7Z a1,hck,f1,b8Z a1,d6Z z1 z2,goInt]
   ·have e1:ment M x=(M.1.set j ((x,b),nb),M.2):=by unfold ment;rw[f5];simp only;rw[hfZ f3 f6 f7]
    have e2:mget M x=some b:=by unfold mget;rw[f5];rfl
    have e3:mborn M x=nb:=by unfold mborn;rw[f5]
    rw[e1,e2,e3] at h6;obtain⟨key,w1,k1,k2,k3,k4,k5,k6⟩:=gfZ (P:=P) z.w e.key vk;obtain⟨r1,r2,r3⟩:=a2'.2.1 j _ e f3 f4;have hkey:VRep z.w z.M z.ρ k x key:=by rcases k2 with rfl|rfl<;>first|exact r1|exact h5
    obtain⟨p1,p2⟩:=bfZ (w1:=w1) (o:=.map (es.modify j fun e=>{e with key}) M.2) (b:=.map k v (M.1.set j ((x,b),nb),M.2)) hH hg hρ k3 k4 k5 k6 (fun z' kk hz=>by
     refine⟨_,hz,(a2'.set (e':={e with key}) f3 hkey r2 r3 (by simp) (by simp[Array.getElem?_modify,f4]) (fun i hi=>by simp[Array.getElem?_modify,Ne.symm hi])).kp kk⟩)
    refine .mk' (z':={z with w:=setO w1 g (.map (es.modify j fun e=>{e with key}) M.2)}) ?_ p1 (mk (aNZ (r2.kp (p2.kp hH.sub)))) p2 h6;have a1':w1.heap[g]? =some (.map es M.2):=by rw[k3];exact a1
    simp[Instr.mapEntry,run_underlying hu,b7Z a1,hck,f1,f4,k1,b8Z a1',goInt,r3]
  ·cases h
 ·cases h
theorem elZ{t:TypeId}{m at' ax:AV}{vm vs vx:Value}{K:AV->Hp->Option β}{r:β}(h:evEntryStore m at' ax H K=some r)(hH:HRep z H)(hm:ARep z m vm)(hs:ARep z at' vs)(hx:ARep z ax vx):OkU P (Instr.entryStore t vm vs vx) z K r:=by
 unfold evEntryStore at h;split at h
 ·rename_i id;cases hm with|mp _ g sz n hρ=>
  obtain⟨⟨y,H1⟩,h1,h2⟩:=aeZ.1 h;obtain⟨z1,s1,s2,s3,s4,s5⟩:=bVZ hH h1 hx;split at h2
  ·rename_i k v M hg;obtain⟨n',h3,h4⟩:=aeZ.1 h2;obtain⟨w,h5,h6⟩:=aWZ h4 s5;obtain⟨M',h7,h8⟩:=Option.bind_eq_some_iff.1 h6;obtain⟨ks,rfl⟩:=aOZ h3 hs;unfold mstore at h7;obtain⟨l',h9,rfl⟩:=Option.map_eq_some_iff.1 h7;obtain⟨j,a,b,nb,q1,q2,rfl,q4⟩:=hZZ h9;have hρ1:z1.ρ id= .real g sz n:=by rw[s4];exact hρ
   obtain⟨_,_,_,es,a1,a2⟩:=s2.real hg hρ1;have a2':MRep z1 k v M es:=a2;obtain⟨e,he⟩:=a6Z (l:=es.toList) (c:=M.1) (by simp[a2'.1]) q1;have he':es[j]? =some e:=by simpa using he
   obtain⟨r1,r2,r3⟩:=a2'.2.1 j _ e q1 he';have hj:=(Array.getElem?_eq_some_iff.1 he').1;have hfind:es.findIdx? (fun e=>(e.born:Int)==n')=some j:=by
    rw[Array.findIdx?_eq_some_iff_getElem];refine⟨hj,?_,fun j' hj'=> ?_⟩
    ·have:es[j]=e:=(Array.getElem?_eq_some_iff.1 he').2;rw[this,r3];simpa using q2
    ·have hjl:j'<es.size:=by omega
     obtain⟨x',hx'⟩:=a6Z (l:=M.1) (c:=es.toList) (by simp[a2'.1]) (show es.toList[j']? =some es[j'] by simp[hjl]);have:=q4 j' x' hj' hx';have e3:=(a2'.2.1 j' x' _ hx' (Array.getElem?_eq_getElem hjl)).2.2;rw[e3];simpa using this
   obtain⟨p1,p2⟩:=bfZ (w1:=z1.w) (o:=.map (es.modify j fun e=>{e with val:=vx}) M.2) (b:=.map k v (M.1.set j ((a,w),nb),M.2)) s2 hg hρ1 rfl rfl ⟨rfl,Nat.le_refl _⟩ rfl (fun z' kk hz=>by
    refine⟨_,hz,(a2'.set (e':={e with val:=vx}) q1 r1 h5 r3 (by simp) (by simp[Array.getElem?_modify,he']) (fun i hi=>by simp[Array.getElem?_modify,Ne.symm hi])).kp kk⟩)
   refine⟨_,_,?_,p1,s3.trans p2,h8⟩;rw[<-s1];simp[Instr.entryStore,b7Z a1,asInt,asIntOf,hfind,b8Z a1]
  ·cases h2
 ·cases h
theorem MRep.erase{k v:Ty}{M:GMap k v}{es es':Array MapEntry}{j:Nat}(h:MRep z k v M es)(hs:es'.toList=es.toList.eraseIdx j):MRep z k v (M.1.eraseIdx j,M.2) es':=by
 obtain⟨a1,a2,a3,a4⟩:=h;have key:∀{α:Type} (l:List α) (i:Nat),(l.eraseIdx j)[i]? =l[if i<j then i else i+1]? :=fun l i=>by
  rw[List.getElem?_eraseIdx];split<;>rfl
 have hl:es.toList.length=M.1.length:=by simp[a1]
 refine⟨?_,fun i a e q1 q2=> ?_,fun i i' a b q1 q2 q3=> ?_,fun i a q1=> ?_⟩
 ·rw[<-Array.length_toList,hs,List.length_eraseIdx,List.length_eraseIdx,hl]
 ·rw[key] at q1;rw[<-Array.getElem?_toList,hs,key] at q2;exact a2 _ a e q1 (by simpa using q2)
 ·rw[key] at q1 q2;have:=a3 _ _ a b q1 q2 q3;split at this<;>split at this<;>omega
 ·rw[key] at q1;exact a4 _ a q1
theorem hoZ{t:TypeId}(tk ty:TypeId){m ak:AV}{vm vk:Value}{K:AV->Hp->Option β}{r:β}(h:evDelete P t m ak H K=some r)(hH:HRep z H)(hm:ARep z m vm)(hk:ARep z ak vk):Ok P (Builtin.delete_ #[t,tk] ty #[vm,vk]) z K r:=by
 unfold evDelete at h;split at h
 ·rename_i id;cases hm with|mp _ g sz n hρ=>
  split at h
  ·rename_i k v M hg;obtain⟨h3,h4⟩:=adZ.1 h;obtain⟨x,h5,h6⟩:=aWZ h4 hk;obtain⟨kt,et,hu,hK,_,_⟩:=d4Z h3;obtain⟨_,_,_,es,a1,a2⟩:=hH.real hg hρ;have a2':MRep z k v M es:=a2;have hck:=aAZ (em:=es.isEmpty) z.w typesFuel kt k (bhZ hK).2 10000 (by unfold typesFuel;omega) x vk h5;obtain⟨q,f1,f2⟩:=a2'.find hK h5;have h0:∀z',ARep z' (.tup []) (.tuple #[]):=fun z'=>.tup _ _ rfl fun i x u h1=>by simp at h1
   rcases f2 with⟨rfl,f3⟩|⟨j,b,nb,e,rfl,f3,f4,f5,f6,f7⟩
   ·have e1:mdel M x=M:=by unfold mdel;rw[eUZ f3]
    rw[e1] at h6;obtain⟨p1,p2⟩:=bfZ (w1:=z.w) (o:=.map es M.2) (b:=.map k v M) hH hg hρ rfl rfl ⟨rfl,Nat.le_refl _⟩ rfl (fun z' kk hz=>⟨_,hz,a2'.kp kk⟩);refine .mk' (z':={z with w:=setO z.w g (.map es M.2)}) ?_ p1 (h0 _) p2 h6;simp[Builtin.delete_,run_underlying hu,b7Z a1,hck,f1,b8Z a1]
   ·have e1:mdel M x=(M.1.eraseIdx j,M.2):=by unfold mdel;rw[ilZ f3 f6 f7]
    rw[e1] at h6;obtain⟨p1,p2⟩:=bfZ (w1:=z.w) (o:=.map (es.eraseIdxIfInBounds j) M.2) (b:=.map k v (M.1.eraseIdx j,M.2)) hH hg hρ rfl rfl ⟨rfl,Nat.le_refl _⟩ rfl (fun z' kk hz=>⟨_,hz,(a2'.erase (by
     have hj:=(Array.getElem?_eq_some_iff.1 f4).1;simp[Array.eraseIdxIfInBounds,hj])).kp kk⟩)
    refine .mk' (z':={z with w:=setO z.w g (.map (es.eraseIdxIfInBounds j) M.2)}) ?_ p1 (h0 _) p2 h6;simp[Builtin.delete_,run_underlying hu,b7Z a1,hck,f1,b8Z a1]
  ·cases h
 ·obtain rfl:=hm.v.opq.1;split at h
  ·obtain⟨k,_,h1⟩:=aeZ.1 h;obtain⟨v,_,h2⟩:=aeZ.1 h1;obtain⟨h3,h4⟩:=adZ.1 h2;obtain⟨x,h5,h6⟩:=aWZ h4 hk;obtain⟨kt,et,hu,hK,_,_⟩:=d4Z h3;have hck:=aAZ (em:=true) z.w typesFuel kt k (bhZ hK).2 10000 (by unfold typesFuel;omega) x vk h5;have h0:ARep z (.tup []) (.tuple #[]):=.tup _ _ rfl fun i x u h1=>by simp at h1
   refine .mk' (z':=z) ?_ hH h0 (Nx.refl z) h6;simp[Builtin.delete_,run_underlying hu,hck]
  ·cases h
 ·cases h
end
end Go.Ab
namespace Go.Ab
section
variable {P : Program} {T : Tbl} {β : Type} {z : Z} {H : Hp}
def OkX(P:Program)(s:Sem Next)(z:Z)(K:AV->Hp->Option β)(r:β):Prop:=
 ∃x H' z' nx,s.run P z.w= .ok nx z'.w/\HRep z' H'/\Nx z z'/\((∃v,nx= .value v/\ARep z' x v)\/(nx= .skip/\x= .junk))/\K x H'=some r
theorem OkX.v{ρ:Operand->Value}{o:Oper}{s:Sem Value}{K:AV->Hp->Option β}{r:β}(he:execOp ρ o=(do pure (.value (<-s))))(h:Ok P s z K r):OkX P (execOp ρ o) z K r:=by
 obtain⟨x,v,H',z',h1,h2,h3,h4,h5⟩:=h;exact⟨x,H',z',.value v,by rw[he,Sem.run_bind,h1];rfl,h2,h4,.inl ⟨v,rfl,h3⟩,h5⟩
theorem OkX.u{ρ:Operand->Value}{o:Oper}{s:Sem Unit}{K:AV->Hp->Option β}{r:β}(he:execOp ρ o=(do s;pure .skip))(h:OkU P s z K r):OkX P (execOp ρ o) z K r:=by
 obtain⟨H',z',h1,h2,h3,h4⟩:=h;exact⟨.junk,H',z',.skip,by rw[he,Sem.run_bind,h1];rfl,h2,h3,.inr ⟨rfl,rfl⟩,h4⟩
theorem OkX.call{ρ:Operand->Value}{o:Oper}{c:Call}{b:Builtin}{s:Sem Value}{K:AV->Hp->Option β}{r:β}(ho:o.op= .call c)(hc:c.callee= .builtin b)
 (hb:∀consts,builtin b c.argTypes o.type consts (c.args.map ρ)=(do pure (.value (<-s))))(h:Ok P s z K r):OkX P (execOp ρ o) z K r:=by
 obtain⟨x,v,H',z',h1,h2,h3,h4,h5⟩:=h;refine⟨x,H',z',.value v,?_,h2,h4,.inl ⟨v,rfl,h3⟩,h5⟩;unfold execOp;simp only[ho,resolve,hc,Sem.run_bind,Sem.run_pure,Result.andThen_ok,invoke,hb,h1]
def isCall(o:Oper):Bool:=match o.op with|.call c=>(match c.callee with|.value _=>true|_=>false)|_=>false
theorem PReps.map{ps:Array (Nat×Operand)}{r:Operand->AV}{ρ:Operand->Value}(hr:∀x,ARep z (r x) (ρ x)):PReps z (ps.toList.map fun x=>(x.1,r x.2)) (ps.map fun(i,x)=>(i,ρ x)).toList:=by
 refine⟨by simp,fun i x y h1 h2=> ?_⟩;simp only[Array.toList_map] at h2;rw[List.getElem?_map] at h1 h2;obtain⟨q,h3,rfl⟩:=Option.map_eq_some_iff.1 h1;rw[h3] at h2;simp at h2;subst h2;exact⟨rfl,hr _⟩
theorem nwZ{o:Oper}{an:Ann}{r:Operand->AV}{ρ:Operand->Value}{K:AV->Hp->Option β}{res:β}(h:evW P T o an r H K=some res)(hH:HRep z H)(hd:mkOp P o=true->¬z.D (an.ids.headD 0))(hr:∀x,ARep z (r x) (ρ x))(hc:isCall o=false):
 OkX P (execOp ρ o) z K res:=by
 unfold evW at h;split at h
 ·rename_i t ho;exact .v (s:=Instr.alloc t true (.tuple #[])) (by simp[execOp,ho]) (iZZ h hH (hd (by simp[mkOp,ho])))
 ·rename_i t x ho;exact .v (s:=Instr.box t (ρ x)) (by simp[execOp,ho]) (l1Z h hH (hd (by simp[mkOp,ho])) (hr x))
 ·rename_i t n ps ho;exact .v (s:=Instr.buildSlice t n (ps.map fun(i,x)=>(i,ρ x))) (by simp[execOp,ho]) (exZ h hH (hd (by simp[mkOp,ho])) (PReps.map hr))
 ·rename_i t a x ho;exact .u (s:=Instr.storeAt t (ρ a) (ρ x)) (by simp[execOp,ho]) (iUZ h hH (hr a) (hr x))
 ·rename_i s d x ho;split at h
  ·obtain⟨y,v,h1,h2,h3⟩:=dqZ h hH (hr x);exact .v (s:=convert s d (ρ x)) (by simp[execOp,ho]) ⟨y,v,H,z,h1,hH,h2,Nx.refl z,h3⟩
  ·exact .v (s:=convert s d (ρ x)) (by simp[execOp,ho]) (fKZ h hH (fun hs=>hd (by simp[mkOp,ho,hs])) (hr x))
 ·rename_i t l c ho;exact .v (s:=Instr.makeSlice t (ρ l) (ρ c)) (by simp[execOp,ho]) (jQZ h hH (hd (by simp[mkOp,ho])) (hr l) (hr c))
 ·rename_i t q ho;exact .v (s:=Instr.makeMap t (q.map ρ)) (by simp[execOp,ho]) (gKZ h hH (hd (by simp[mkOp,ho])) (.map hr))
 ·rename_i t m k x ho;exact .u (s:=Instr.mapUpdate t (ρ m) (ρ k) (ρ x)) (by simp[execOp,ho]) (dLZ h hH (hr m) (hr k) (hr x))
 ·rename_i t m k x ho;exact .u (s:=Instr.mapUpdate t (ρ m) (ρ k) (ρ x)) (by simp[execOp,ho]) (dLZ h hH (hr m) (hr k) (hr x))
 ·rename_i t m k ho;exact .v (s:=Instr.mapEntry t (ρ m) (ρ k)) (by simp[execOp,ho]) (f7Z h hH (hr m) (hr k))
 ·rename_i t m s x ho;exact .u (s:=Instr.entryStore t (ρ m) (ρ s) (ρ x)) (by simp[execOp,ho]) (elZ h hH (hr m) (hr s) (hr x))
 ·rename_i c ho;have two:∀{α:Type} {l:Array α} {a b:α},l.toList=[a,b]->l=#[a,b]:=fun hl=>by apply Array.ext';rw[hl]
  split at h
  ·rename_i hcb;split at h
   ·rename_i s x t u ha ht;have e1:=two ha;have e2:=two ht;have hb:∀consts,builtin .append c.argTypes o.type consts (c.args.map ρ)=(do pure (.value (<-Builtin.append_ #[t,u] o.type #[ρ s,ρ x]))):=fun consts=>by simp[builtin,e1,e2]
    split at h
    ·rename_i k hu;exact .call ho hcb hb (gOZ o.type h hH (hd (by simp[mkOp,ho,hcb])) (hr s) (hr x) hu)
    ·rename_i e' hu;exact .call ho hcb hb (dTZ o.type h hH (hd (by simp[mkOp,ho,hcb])) (hr s) (hr x) (.inl ⟨e',hu⟩))
    ·rename_i hu;exact .call ho hcb hb (dTZ o.type h hH (hd (by simp[mkOp,ho,hcb])) (hr s) (hr x) (.inr hu))
    ·cases h
   ·cases h
  ·rename_i hcb;split at h
   ·rename_i d x t ts ha ht;have e1:=two ha;refine .call (s:=Builtin.copy_ c.argTypes o.type #[ρ d,ρ x]) ho hcb (fun consts=>by simp[builtin,e1]) ?_;have e0:c.argTypes[0]? =some t:=by rw[<-Array.getElem?_toList,ht];rfl
    have e2:Builtin.copy_ c.argTypes o.type #[ρ d,ρ x]=Builtin.copy_ #[t,t] o.type #[ρ d,ρ x]:=by simp[Builtin.copy_,e0]
    rw[e2];exact kxZ o.type h hH (hr d) (hr x)
   ·cases h
  ·rename_i hcb;split at h
   ·rename_i d t ha ht;have e1:c.args=#[d]:=by apply Array.ext';rw[ha]
    have e2:c.argTypes=#[t]:=by apply Array.ext';rw[ht]
    exact .call (s:=Builtin.clear_ #[t] o.type #[ρ d]) ho hcb (fun consts=>by simp[builtin,e1,e2]) (iyZ o.type h hH (hr d))
   ·cases h
  ·rename_i hcb;split at h
   ·rename_i m k t ts ha ht;have e1:=two ha;refine .call (s:=Builtin.delete_ c.argTypes o.type #[ρ m,ρ k]) ho hcb (fun consts=>by simp[builtin,e1]) ?_;have e0:c.argTypes[0]? =some t:=by rw[<-Array.getElem?_toList,ht];rfl
    have e2:Builtin.delete_ c.argTypes o.type #[ρ m,ρ k]=Builtin.delete_ #[t,t] o.type #[ρ m,ρ k]:=by simp[Builtin.delete_,e0]
    rw[e2];exact hoZ t o.type h hH (hr m) (hr k)
   ·cases h
  ·rename_i f hcb;simp[isCall,ho,hcb] at hc
  ·cases h
 ·cases h
end
end Go.Ab
namespace Go.Ab
theorem eeZ:(ts:List Ty)->(x:HL ts)->untidy ts (tidy ts x)=x
 |[],_=>rfl
 |[_],x=>rfl
 |_::u::r,x=>by
  show(x.1,untidy (u::r) (tidy (u::r) x.2))=x;rw[eeZ (u::r) x.2]
  rfl
section
variable {β : Type} {z : Z}
theorem mlZ{es id i j:Nat}{a:AV}(h:a.own? es id i j=true):a= .own es id i j:=by
 unfold AV.own? at h;split at h
 ·simp only[Bool.and_eq_true,abZ] at h;obtain⟨⟨⟨rfl,rfl⟩,rfl⟩,rfl⟩:=h
  rfl
 ·cases h
theorem lFZ{es id i j:Nat}{a:AV}(h:a.ownx? es id j=some i):a= .own es id i j:=by
 unfold AV.ownx? at h;split at h
 ·rename_i es' id' i' j';cases hb:(Nat.beq es es'&&Nat.beq id id'&&Nat.beq j j')<;>rw[hb] at h<;>simp at h;simp only[Bool.and_eq_true,abZ] at hb;obtain⟨⟨rfl,rfl⟩,rfl⟩:=hb;rw[h]
 ·cases h
theorem n0Z{es id:Nat}{y:Nat×Nat}{a:AV}(h:a.sl? es id=some y):a= .sl es id y.1 y.2:=by
 unfold AV.sl? at h;split at h
 ·rename_i es' id' i n;cases hb:(Nat.beq es es'&&Nat.beq id id')<;>rw[hb] at h<;>simp at h;simp only[Bool.and_eq_true,abZ] at hb;obtain⟨rfl,rfl⟩:=hb;rw[<-h]
 ·cases h
theorem neZ{es id:Nat}{a:AV}(h:a.slf? es id=true):a= .slf es id:=by
 unfold AV.slf? at h;split at h
 ·simp only[Bool.and_eq_true,abZ] at h;obtain⟨rfl,rfl⟩:=h
  rfl
 ·cases h
theorem n3Z{id:Nat}{a:AV}(h:a.mp? id=true):a= .mp id:=by
 unfold AV.mp? at h;split at h
 ·rw[abZ] at h;rw[h]
 ·cases h
theorem npZ{u:Ty}{l:List u.den}{a:AV}(h:a.pt? u=some l):a= .pt u l 0 0:=by
 unfold AV.pt? at h;split at h
 ·split at h
  ·rename_i t l' ht;subst ht;simp at h;rw[h]
  ·cases h
 ·cases h
theorem noZ{f:FuncId}{y:List AV×List AV}{a:AV}{v:Value}(h:a.fn? f=some y)(ha:ARep z a v):ARep z (.fn f y.1 y.2) v:=by
 unfold AV.fn? at h;split at h
 ·rename_i g a c;cases hb:Nat.beq f g<;>rw[hb] at h<;>simp at h;rw[abZ] at hb;subst hb;subst h;exact ha
 ·rename_i g a c;cases hb:(Nat.beq f g&&(Nat.beq a.size 0&&Nat.beq c.size 0))<;>rw[hb] at h<;>simp at h;simp only[Bool.and_eq_true,abZ] at hb;obtain⟨rfl,h1,h2⟩:=hb;subst h;obtain rfl:=ha.v.opq.1;exact .fn _ _ _ _ _ h1 h2 (fun i x v h=>by simp at h) (fun i x v h=>by simp at h)
 ·cases h
theorem l6Z{v x:Value}(h:nilV? v x=true):x=v:=by
 unfold nilV? at h;split at h<;>first|rfl|cases h
theorem mYZ{v:Value}{a:AV}(h:a.nil? v=true):a= .p .opq v:=by
 unfold AV.nil? at h;split at h
 ·rw[l6Z h]
 ·cases h
theorem msZ{a:AV}{l:List AV}{v:Value}(h:cellsA a=some l)(hg:aggA a=true)(ha:ARep z a v):∃cs,v= .agg cs:=by
 obtain⟨_,_,q3⟩:=bLZ h ha;rw[hg] at q3;exact⟨_,q3⟩
mutual
theorem co_ok:(k:Kd)->{r:List Ty}->{a:AV}->{x:HL r}->{K:HL (k.lv r)->Option β}->{res:β}->{v:Value}->co k r a x K=some res->ARep z a v->
 ∃y,K y=some res/\ARep z (emb k r y).1 v/\(emb k r y).2=x
 |.p t,r,a,x,K,res,v,h,ha=>by
  have h:asA t a (fun y=>K (y,x))=some res:=h;obtain⟨y,h1,h2⟩:=aWZ h ha;exact⟨(y,x),h2,.p _ _ _ h1,rfl⟩
 |.pt t,r,a,x,K,res,v,h,ha=>by
  obtain⟨l,h1,h2⟩:=aeZ.1 h;rw[npZ h1] at ha;exact⟨(l,x),h2,ha,rfl⟩
 |.own es id i j,r,a,x,K,res,v,h,ha=>by
  obtain⟨h1,h2⟩:=adZ.1 h;rw[mlZ h1] at ha;exact⟨x,h2,ha,rfl⟩
 |.ownx es id j,r,a,x,K,res,v,h,ha=>by
  obtain⟨i,h1,h2⟩:=aeZ.1 h;rw[lFZ h1] at ha;exact⟨(i,x),h2,ha,rfl⟩
 |.sl es id,r,a,x,K,res,v,h,ha=>by
  obtain⟨y,h1,h2⟩:=aeZ.1 h;rw[n0Z h1] at ha;exact⟨(y.1,y.2,x),h2,ha,rfl⟩
 |.slf es id,r,a,x,K,res,v,h,ha=>by
  obtain⟨h1,h2⟩:=adZ.1 h;rw[neZ h1] at ha;exact⟨x,h2,ha,rfl⟩
 |.mp id,r,a,x,K,res,v,h,ha=>by
  obtain⟨h1,h2⟩:=adZ.1 h;rw[n3Z h1] at ha;exact⟨x,h2,ha,rfl⟩
 |.any,r,a,x,K,res,v,h,ha=>⟨x,h,.junk v,rfl⟩
 |.fn f ka kc,r,a,x,K,res,v,h,ha=>by
  obtain⟨y,h1,h2⟩:=aeZ.1 h;obtain⟨h3,h4⟩:=adZ.1 h2;simp only[Bool.and_eq_true,abZ] at h3;have hf:=noZ h1 ha;cases hf with|fn _ _ _ va vc e1 e2 e3 e4=>
  obtain⟨y1,q1,q2,q3⟩:=dEZ kc (vs:=vc.toList) h4 ⟨by simp[e2],fun i a v p1 p2=>e4 i a v p1 (by simpa using p2)⟩ h3.2;obtain⟨y2,q4,q5,q6⟩:=dEZ ka (vs:=va.toList) q1 ⟨by simp[e1],fun i a v p1 p2=>e3 i a v p1 (by simpa using p2)⟩ h3.1;refine⟨y2,q4,?_,by simp only[emb,q6,q3]⟩;simp only[emb,q6];refine .fn _ _ _ _ _ (by have:=q5.1;simpa using this.symm) (by have:=q2.1;simpa using this.symm) (fun i x v p1 p2=>q5.2 i x v p1 (by simpa using p2)) (fun i x v p1 p2=>q2.2 i x v p1 (by simpa using p2))
 |.agg l,r,a,x,K,res,v,h,ha=>by
  obtain⟨c,h1,h2⟩:=aeZ.1 h;obtain⟨h3,h4⟩:=adZ.1 h2;simp only[Bool.and_eq_true,abZ] at h3;obtain⟨cs,rfl⟩:=msZ h1 h3.1 ha;obtain⟨p1,p2,_⟩:=bLZ h1 ha;obtain⟨y,q1,q2,q3⟩:=dEZ l (vs:=cs.toList) h4 p1 h3.2;refine⟨y,q1,?_,by simp only[emb,q3]⟩;simp only[emb];exact .agg _ _ (by have:=q2.1;simpa using this.symm) (fun v hv=>p2 v hv) fun i x v e1 e2=>q2.2 i x v e1 (by simpa using e2)
 |.tup l,r,a,x,K,res,v,h,ha=>by
  obtain⟨c,h1,h2⟩:=aeZ.1 h;obtain⟨h3,h4⟩:=adZ.1 h2;rw[abZ] at h3;obtain⟨vs,rfl,p1,p2⟩:=fAZ h1 ha;obtain⟨y,q1,q2,q3⟩:=dEZ l (vs:=vs.toList) h4 ⟨by simp[p1],fun i a v e1 e2=>p2 i a v e1 (by simpa using e2)⟩ h3;refine⟨y,q1,?_,by simp only[emb,q3]⟩;simp only[emb];exact .tup _ _ (by have:=q2.1;simpa using this.symm) fun i x v e1 e2=>q2.2 i x v e1 (by simpa using e2)
 |.nilp u,r,a,x,K,res,v,h,ha=>by
  obtain⟨h1,h2⟩:=adZ.1 h;rw[mYZ h1] at ha;exact⟨x,h2,ha,rfl⟩
theorem dEZ:(k:KdL)->{r:List Ty}->{c:List AV}->{x:HL r}->{K:HL (k.lv r)->Option β}->{res:β}->{vs:List Value}->coL k r c x K=some res->AReps z c vs->c.length=k.length->
 ∃y,K y=some res/\AReps z (embL k r y).1 vs/\(embL k r y).2=x
 |.nil,r,c,x,K,res,vs,h,hc,hl=>by
  obtain rfl:c=[]:=List.eq_nil_of_length_eq_zero hl;exact⟨x,h,hc,rfl⟩
 |.cons k l,r,[],x,K,res,vs,h,hc,hl=>by simp[KdL.length] at hl
 |.cons k l,r,a::c,x,K,res,[],h,hc,hl=>by have:=hc.1;simp at this
 |.cons k l,r,a::c,x,K,res,v::vs,h,hc,hl=>by
  simp only[coL,List.tail_cons,List.headD_cons] at h;obtain⟨y1,q1,q2,q3⟩:=dEZ l h hc.tail (by simpa[KdL.length] using hl);obtain⟨y2,q4,q5,q6⟩:=co_ok k q1 hc.head;refine⟨y2,q4,?_,by simp only[embL,q6,q3]⟩;simp only[embL,q6];exact .cons q5 q2
end
def Blk.isFam:Blk->Bool
 |.fam _ _ _=>true
 |_=>false
def EX(z:Z)(id:Nat)(e:Ent):Prop:=e.b.isFam=false->ERep z id e
theorem HRep.ex{H:Hp}(hH:HRep z H){id:Nat}{e:Ent}(h:hget H id=some e):EX z id e:=fun hf=>by
 have h1:=hH.fam id e h;obtain⟨fz,b⟩:=e;have h2:id<famBase:=by cases b<;>first|exact h1|cases hf
 exact hH.ent id _ (by rw[anZ h2];exact h)
theorem mtZ{k:BKd}{r:List Ty}{b:Blk}{x:HL r}{K:HL (k.lv r)->Option β}{res:β}(h:coB k r b x K=some res):
 (b.isFam=true->∃y,K y=some res/\(embB k r y).1=b/\(embB k r y).2=x)/\∀y:HL (k.lv r),(embB k r y).1.isFam=b.isFam:=by
 cases k with
 |vars l=>
  obtain⟨c,h1,h2⟩:=aeZ.1 h;unfold Blk.vars? at h1;split at h1
  ·exact⟨fun h=>(by cases h),fun _=>rfl⟩
  ·cases h1
 |rows e t=>
  obtain⟨l,h1,h2⟩:=aeZ.1 h;unfold Blk.rows? at h1;split at h1
  ·exact⟨fun h=>(by cases h),fun _=>rfl⟩
  ·cases h1
 |map kt vt=>
  obtain⟨m,h1,h2⟩:=aeZ.1 h;unfold Blk.map? at h1;split at h1
  ·exact⟨fun h=>(by cases h),fun _=>rfl⟩
  ·cases h1
 |fam e s=>
  obtain⟨m,h1,h2⟩:=aeZ.1 h;unfold Blk.fam? at h1;split at h1
  ·rename_i e' t' l';cases hb:Nat.beq e e'<;>rw[hb] at h1<;>simp at h1;rw[abZ] at hb;subst hb;obtain⟨ht,h1⟩:=h1;subst ht;subst h1;exact⟨fun _=>⟨(l',x),h2,rfl,rfl⟩,fun _=>rfl⟩
  ·cases h1
theorem lOZ{k:BKd}{r:List Ty}{b:Blk}{x:HL r}{K:HL (k.lv r)->Option β}{res:β}(h:coB k r b x K=some res):
 (∀{g sz n:Nat},BRep z g sz n b->∃y,K y=some res/\BRep z g sz n (embB k r y).1/\(embB k r y).2=x)/\(BEmpty b->∃y,K y=some res/\BEmpty (embB k r y).1/\(embB k r y).2=x):=by
 cases k with
 |vars l=>
  obtain⟨c,h1,h2⟩:=aeZ.1 h;unfold Blk.vars? at h1;split at h1
  ·rename_i c';cases hb:Nat.beq c'.length l.length<;>rw[hb] at h1<;>simp at h1;subst h1;rw[abZ] at hb;refine⟨fun{g sz n} hB=> ?_,fun hB=>hB.elim⟩;obtain⟨cs,e,fr,a1,a2,a3,⟨a4,an⟩,a5,a6⟩:=hB;obtain⟨y,q1,q2,q3⟩:=dEZ l (vs:=cs.toList) h2 ⟨by simp[a4,a3],fun i a v p1 p2=>a5 i a v p1 (by simpa using p2)⟩ hb;refine⟨y,q1,?_,by simp only[embB,q3]⟩;simp only[embB];exact⟨cs,e,fr,a1,a2,a3,⟨by have:=q2.1;simp[a3] at this;exact this,an⟩,fun i a v p1 p2=>q2.2 i a v p1 (by simpa using p2),a6⟩
  ·cases h1
 |rows e t=>
  obtain⟨l,h1,h2⟩:=aeZ.1 h;unfold Blk.rows? at h1;split at h1
  ·rename_i e' t' l';cases hb:Nat.beq e e'<;>rw[hb] at h1<;>simp at h1;rw[abZ] at hb;subst hb;obtain⟨ht,h1⟩:=h1;subst ht;subst h1;exact⟨fun hB=>⟨(l',x),h2,hB,rfl⟩,fun hB=>⟨(l',x),h2,hB,rfl⟩⟩
  ·cases h1
 |map kt vt=>
  obtain⟨m,h1,h2⟩:=aeZ.1 h;unfold Blk.map? at h1;split at h1
  ·rename_i k' v' m';split at h1
   ·rename_i hm;have e1:k'=kt/\v'=vt:=by
     unfold mapTy at hm;injection hm with e1 e2;injection e1 with e1;injection e1 with e1 e3;injection e1 with e1 e4;exact⟨e1,e4⟩
    obtain⟨rfl,rfl⟩:=e1;simp only[Option.some.injEq] at h1;subst h1;exact⟨fun hB=>⟨(m',x),h2,hB,rfl⟩,fun hB=>hB.elim⟩
   ·cases h1
  ·cases h1
 |fam e s=>
  obtain⟨m,h1,h2⟩:=aeZ.1 h;unfold Blk.fam? at h1;split at h1
  ·exact⟨fun hB=>hB.elim,fun hB=>hB.elim⟩
  ·cases h1
theorem myZ{k:BKd}{r:List Ty}{id:Nat}{e:Ent}{x:HL r}{K:HL (k.lv r)->Option β}{res:β}(h:coB k r e.b x K=some res)(he:ERep z id e):
 ∃y,K y=some res/\ERep z id ⟨e.fz,(embB k r y).1⟩/\(embB k r y).2=x:=by
 unfold ERep at*;cases hρ:z.ρ id with
 |no=>rw[hρ] at he;exact he.elim
 |virt=>
  rw[hρ] at he;exact(lOZ (z:=z) h).2 he
 |real g sz n=>
  rw[hρ] at he;obtain⟨h1,h2,h3,h4⟩:=he;obtain⟨y,q1,q2,q3⟩:=(lOZ h).1 h4;exact⟨y,q1,⟨h1,h2,h3,q2⟩,q3⟩
theorem n2Z{k:BKd}{r:List Ty}{id:Nat}{e:Ent}{x:HL r}{K:HL (k.lv r)->Option β}{res:β}(h:coB k r e.b x K=some res)(he:EX z id e):
 ∃y,K y=some res/\EX z id ⟨e.fz,(embB k r y).1⟩/\(embB k r y).2=x/\(embB k r y).1.isFam=e.b.isFam/\(e.b.isFam=true->(embB k r y).1=e.b):=by
 obtain⟨q1,q2⟩:=mtZ h;cases hf:e.b.isFam
 ·obtain⟨y,p1,p2,p3⟩:=myZ h (he hf);exact⟨y,p1,fun _=>p2,p3,(q2 y).trans hf,fun h=>by cases h⟩
 ·obtain⟨y,p1,p2,p3⟩:=q1 hf;refine⟨y,p1,fun h=> ?_,p3,(q2 y).trans hf,fun _=>p2⟩;have h':(embB k r y).1.isFam=false:=h;rw[q2 y,hf] at h';cases h'
theorem lDZ{fz:Bool}{H:Hp}{id:Nat}{b:Blk}(h:hblk? fz H id=some b):hget H id=some ⟨fz,b⟩:=by
 unfold hblk? at h;split at h
 ·rename_i e he;cases hb:(e.fz==fz)<;>rw[hb] at h<;>simp at h;obtain⟨f,b'⟩:=e;simp at hb h;rw[he,hb,h]
 ·cases h
structure Made (H:Hp) (id:Nat) (e:Ent):Prop where
 from_:∃e0,hget H id=some e0/\e0.fz=e.fz/\e.b.isFam=e0.b.isFam/\(e0.b.isFam=true->e=e0)
theorem lWZ{H:Hp}(hH:∀id e,hget H id=some e->EX z id e):(hs:HK)->{r:List Ty}->{x:HL r}->{K:HL (hkLv hs r)->Option β}->{res:β}->coH hs r H x K=some res->
 ∃y,K y=some res/\(embH hs r y).2=x/\∀id e,hget (embH hs r y).1 id=some e->EX z id e/\Made H id e
 |[],r,x,K,res,h=>⟨x,h,rfl,fun id e h=>by simp[embH,hget] at h⟩
 |(id,fz,k)::hs,r,x,K,res,h=>by
  obtain⟨b,h1,h2⟩:=aeZ.1 h;have hb:=lDZ h1;obtain⟨y1,q1,q2,q3⟩:=lWZ hH hs h2;obtain⟨y2,q4,q5,q6,q7,q8⟩:=n2Z (e:=⟨fz,b⟩) q1 (hH _ _ hb);refine⟨y2,q4,by simp only[embH,q6,q2],fun i e he=> ?_⟩;simp only[embH,q6,hget] at he;cases hi:Nat.beq id i<;>rw[hi] at he<;>simp only[cond_true,cond_false] at he
  ·exact q3 i e he
  ·rw[abZ] at hi;subst hi;injection he with he;subst he;exact⟨q5,⟨_,hb,rfl,q7,fun h=>by rw[q8 h]⟩⟩
theorem Shp.co_ok{s:Shp}{vs:List AV}{H:Hp}{K:s.D->Option β}{res:β}{vals:List Value}(h:s.co vs H K=some res)(hH:∀id e,hget H id=some e->EX z id e)(hv:AReps z vs vals):
 s.ok=true/\∃t,K t=some res/\AReps z (s.emb t).1 vals/\∀id e,hget (s.emb t).2 id=some e->EX z id e/\Made H id e:=by
 unfold Shp.co at h;obtain⟨h1,h2⟩:=adZ.1 h;simp only[Bool.and_eq_true,abZ] at h1;obtain⟨y,q1,q2,q3⟩:=lWZ hH s.hs h2;obtain⟨y2,q4,q5,q6⟩:=dEZ s.ks q1 hv h1.2;refine⟨h1.1,_,q4,?_⟩;have key:s.emb (tidy s.tys y2)=((embL s.ks (hkLv s.hs []) y2).1,(embH s.hs [] y).1):=by
  show((embL s.ks (hkLv s.hs []) (untidy s.tys (tidy s.tys y2))).1,(embH s.hs [] (embL s.ks (hkLv s.hs []) (untidy s.tys (tidy s.tys y2))).2).1)=_;rw[show untidy s.tys (tidy s.tys y2)=y2 from eeZ _ _,q6]
 rw[key];exact⟨q5,q3⟩
end
end Go.Ab
namespace Go.Ab
theorem agZ{n:Nat}:∀{l:List Nat},memN n l=true↔n∈l
 |[]=>by simp[memN]
 |i::l=>by
  simp only[memN,List.mem_cons];by_cases h:i=n
  ·subst h;simp[(abZ i i).2 rfl]
  ·rw[aiZ h,cond_false,agZ];constructor
   ·exact .inr
   ·rintro(h'|h')
    ·exact absurd h'.symm h
    ·exact h'
theorem bqZ{l:List Nat}:∀{r:List Nat},allIn r l=true↔∀i∈r,i∈l
 |[]=>by simp[allIn]
 |i::r=>by simp only[allIn,Bool.and_eq_true,agZ,bqZ,List.mem_cons,forall_eq_or_imp]
theorem bJZ:∀{l:List Nat},nodupN l=true↔l.Nodup
 |[]=>by simp[nodupN]
 |i::l=>by
  simp only[nodupN,Bool.and_eq_true,Bool.not_eq_true',List.nodup_cons,bJZ];constructor
  ·rintro⟨h1,h2⟩;exact⟨fun h=>(by rw[agZ.2 h] at h1;cases h1),h2⟩
  ·rintro⟨h1,h2⟩;refine⟨?_,h2⟩;cases hm:memN i l
   ·rfl
   ·exact absurd (agZ.1 hm) h1
theorem cuZ{l:List AV}{a:AV}{id:Nat}(h:a∈l)(hi:id∈AV.ids a):id∈AV.idsL l:=by
 induction l with
 |nil=>cases h
 |cons b l ih=>
  simp only[AV.idsL,List.mem_append];rcases List.mem_cons.1 h with rfl|h
  ·exact .inl hi
  ·exact .inr (ih h)
theorem bSZ(f:Nat->Option Nat)(l:List AV)(i:Nat):(AV.renL f l)[i]? =(l[i]?).map (AV.ren f):=by
 induction l generalizing i with
 |nil=>simp[AV.renL]
 |cons a l ih=>
  match i with
  |0=>simp[AV.renL]
  |i+1=>simpa[AV.renL] using ih i
theorem b3Z(f:Nat->Option Nat)(l:List AV):(AV.renL f l).length=l.length:=by
 induction l with
 |nil=>rfl
 |cons a l ih=>simp[AV.renL,ih]
section
variable {z z' : Z}
theorem ARep.ren{a:AV}{v:Value}{f:Nat->Option Nat}(h:ARep z a v)(hw:z'.w=z.w)(hM:z'.M=z.M)(hd:Agr z.ρ z'.ρ fun fs=>a.famInT fs)(hf:∀id k,id∈AV.ids a->f id=some k->z'.ρ k=z.ρ id):ARep z' (AV.ren f a) v:=by
 obtain⟨w',M',C',ρ',D'⟩:=z';simp only at hw hM hd hf;subst hw;subst hM;induction h with
 |p t x v h=>exact .p t x v (h.to hd)
 |pt t l i j b off h1 h2 h3=>exact .pt t l i j b off h1 h2 (h3.to hd)
 |own es id i j g sz n h=>
  simp only[AV.ren];cases hk:f id with
  |none=>exact .junk _
  |some k=>exact .own es k i j g sz n (by show ρ' k=_;rw[hf id k (by simp[AV.ids]) hk,h])
 |rp g es k' i j g' sz n h=>
  refine .rp g es k' i j g' sz n ?_;show ρ' (enc g k')=_;rcases hd with hd|⟨fs,h1,h2⟩
  ·rw[hd _ (bgZ g k') (by rw[h];intro h;cases h),h]
  ·rw[h1 g k' h2 (by rw[h];intro h;cases h),h]
 |slV es id off A h=>
  simp only[AV.ren];cases hk:f id with
  |none=>exact .junk _
  |some k=>exact .slV es k off A (by show ρ' k=_;rw[hf id k (by simp[AV.ids]) hk,h])
 |slE es id off g sz m o h=>
  simp only[AV.ren];cases hk:f id with
  |none=>exact .junk _
  |some k=>exact .slE es k off g sz m o (by show ρ' k=_;rw[hf id k (by simp[AV.ids]) hk,h])
 |sl es id off n g sz m c h h1 h2 h3=>
  simp only[AV.ren];cases hk:f id with
  |none=>exact .junk _
  |some k=>exact .sl es k off n g sz m c (by show ρ' k=_;rw[hf id k (by simp[AV.ids]) hk,h]) h1 h2 h3
 |slfV es id A h=>
  simp only[AV.ren];cases hk:f id with
  |none=>exact .junk _
  |some k=>exact .slfV es k A (by show ρ' k=_;rw[hf id k (by simp[AV.ids]) hk,h])
 |slf es id g sz n c h h1 h2 h3=>
  simp only[AV.ren];cases hk:f id with
  |none=>exact .junk _
  |some k=>exact .slf es k g sz n c (by show ρ' k=_;rw[hf id k (by simp[AV.ids]) hk,h]) h1 h2 h3
 |mp id g sz n h=>
  simp only[AV.ren];cases hk:f id with
  |none=>exact .junk _
  |some k=>exact .mp k g sz n (by show ρ' k=_;rw[hf id k (by simp[AV.ids]) hk,h])
 |fn g a c va vc ha hc h1 h2 ih1 ih2=>
  simp only[AV.ren];refine .fn g _ _ va vc (by rw[b3Z];exact ha) (by rw[b3Z];exact hc) (fun i x v p1 p2=> ?_) (fun i x v p1 p2=> ?_)
  ·rw[bSZ] at p1;obtain⟨y,p3,rfl⟩:=Option.map_eq_some_iff.1 p1;exact ih1 i y v p3 p2 (hd.mono fun fs h=>by simp only[AV.famInT,Bool.and_eq_true] at h;exact aQZ h.1 (List.mem_of_getElem? p3)) fun id k hi hk=>hf id k (by simp only[AV.ids,List.mem_append];exact .inl (cuZ (List.mem_of_getElem? p3) hi)) hk
  ·rw[bSZ] at p1;obtain⟨y,p3,rfl⟩:=Option.map_eq_some_iff.1 p1;exact ih2 i y v p3 p2 (hd.mono fun fs h=>by simp only[AV.famInT,Bool.and_eq_true] at h;exact aQZ h.2 (List.mem_of_getElem? p3)) fun id k hi hk=>hf id k (by simp only[AV.ids,List.mem_append];exact .inr (cuZ (List.mem_of_getElem? p3) hi)) hk
 |agg l cs hs h1 h ih=>
  simp only[AV.ren];refine .agg _ cs (by rw[b3Z];exact hs) h1 fun i x v p1 p2=> ?_;rw[bSZ] at p1;obtain⟨y,p3,rfl⟩:=Option.map_eq_some_iff.1 p1;exact ih i y v p3 p2 (hd.mono fun fs h=>aQZ h (List.mem_of_getElem? p3)) fun id k hi hk=>hf id k (by simp only[AV.ids];exact cuZ (List.mem_of_getElem? p3) hi) hk
 |tup l vs hs h ih=>
  simp only[AV.ren];refine .tup _ vs (by rw[b3Z];exact hs) fun i x v p1 p2=> ?_;rw[bSZ] at p1;obtain⟨y,p3,rfl⟩:=Option.map_eq_some_iff.1 p1;exact ih i y v p3 p2 (hd.mono fun fs h=>aQZ h (List.mem_of_getElem? p3)) fun id k hi hk=>hf id k (by simp only[AV.ids];exact cuZ (List.mem_of_getElem? p3) hi) hk
 |junk v=>exact .junk v
theorem AReps.ren{l:List AV}{vs:List Value}{f:Nat->Option Nat}(h:AReps z l vs)(hw:z'.w=z.w)(hM:z'.M=z.M)(hd:Agr z.ρ z'.ρ fun fs=>AV.famInTL fs l)(hf:∀id k,id∈AV.idsL l->f id=some k->z'.ρ k=z.ρ id):AReps z' (AV.renL f l) vs:=by
 refine⟨by rw[b3Z];exact h.1,fun i a v p1 p2=> ?_⟩;rw[bSZ] at p1;obtain⟨y,p3,rfl⟩:=Option.map_eq_some_iff.1 p1;exact(h.2 i y v p3 p2).ren hw hM (hd.mono fun fs h=>aQZ h (List.mem_of_getElem? p3)) fun id k hi hk=>hf id k (cuZ (List.mem_of_getElem? p3) hi) hk
mutual
theorem fiZ:(a:AV)->AV.ren some a=a
 |.p _ _|.pt _ _ _ _|.own _ _ _ _|.rp _ _ _ _ _|.sl _ _ _ _|.slf _ _|.mp _|.junk=>rfl
 |.fn g a c=>by simp only[AV.ren,brZ a,brZ c]
 |.agg l=>by simp only[AV.ren,brZ l]
 |.tup l=>by simp only[AV.ren,brZ l]
theorem brZ:(l:List AV)->AV.renL some l=l
 |[]=>rfl
 |a::l=>by simp only[AV.renL,fiZ a,brZ l]
end
theorem ARep.rho{a:AV}{v:Value}(h:ARep z a v)(hw:z'.w=z.w)(hM:z'.M=z.M)(hd:Agr z.ρ z'.ρ fun fs=>a.famInT fs)(hf:∀id∈AV.ids a,z'.ρ id=z.ρ id):ARep z' a v:=by
 have:=h.ren (f:=some) hw hM hd fun id k hi hk=>by
  injection hk with hk;subst hk;exact hf id hi
 rwa [fiZ] at this
theorem AReps.rho{l:List AV}{vs:List Value}(h:AReps z l vs)(hw:z'.w=z.w)(hM:z'.M=z.M)(hd:Agr z.ρ z'.ρ fun fs=>AV.famInTL fs l)(hf:∀id∈AV.idsL l,z'.ρ id=z.ρ id):AReps z' l vs:=by
 have:=h.ren (f:=some) hw hM hd fun id k hi hk=>by
  injection hk with hk;subst hk;exact hf id hi
 rwa [brZ] at this
theorem BRep.ren{g sz n:Nat}{b:Blk}{f:Nat->Option Nat}{fz:Bool}(h:BRep z g sz n b)(hw:z'.w=z.w)(hM:z'.M=z.M)(hd:Agr z.ρ z'.ρ fun fs=>b.famInT fs)(hf:∀id k,id∈Ent.ids ⟨fz,b⟩->f id=some k->z'.ρ k=z.ρ id):BRep z' g sz n (b.ren f):=by
 cases b with
 |vars c=>
  obtain⟨cs,e,fr,a1,a2,a3,⟨a4,an⟩,a5,a6⟩:=h;refine⟨cs,e,fr,by rw[hw];exact a1,a2,a3,⟨by rw[b3Z];exact a4,an⟩,fun i a v p1 p2=> ?_,a6⟩;rw[bSZ] at p1;obtain⟨y,p3,rfl⟩:=Option.map_eq_some_iff.1 p1;exact(a5 i y v p3 p2).ren hw hM (hd.mono fun fs h=>aQZ h (List.mem_of_getElem? p3)) fun id k hi hk=>hf id k (by simp only[Ent.ids];exact cuZ (List.mem_of_getElem? p3) hi) hk
 |rows e t l=>
  obtain⟨cs,fr,a1,a2,a3,a4,a5,a6,a7⟩:=h;refine⟨cs,fr,by rw[hw];exact a1,a2,a3,a4,a5,a6,fun i x hx=> ?_⟩;obtain⟨u,b1,b2⟩:=a7 i x hx;exact⟨u,by rw[hw,hM];exact b1.to hd,b2⟩
 |fam e s ms=>exact h.elim
 |map kt vt m=>
  obtain⟨es,a1,a2,a3,a4⟩:=h;exact⟨es,by rw[hw];exact a1,a2,fun i x e q1 q2=>by rw[hw,hM];exact⟨(a3 i x e q1 q2).1.to (hd.mono fun fs h=>by simp only[Blk.famInT,Bool.and_eq_true] at h;exact h.1),(a3 i x e q1 q2).2.1.to (hd.mono fun fs h=>by simp only[Blk.famInT,Bool.and_eq_true] at h;exact h.2),(a3 i x e q1 q2).2.2⟩,a4⟩
 |fmap kt l=>
  obtain⟨es,clock,a1,a2,a3⟩:=h;refine⟨es,clock,by rw[hw];exact a1,by simp[a2],fun i x e q1 q2=> ?_⟩;rw[List.getElem?_map] at q1;obtain⟨y,q3,rfl⟩:=Option.map_eq_some_iff.1 q1;obtain⟨b1,b2⟩:=a3 i y e q3 q2;refine⟨by rw[hw,hM];exact b1.to (hd.mono fun fs h=>by simp only[Blk.famInT,Bool.and_eq_true] at h;exact h.1),b2.ren hw hM (hd.mono fun fs h=>by simp only[Blk.famInT,Bool.and_eq_true,List.all_eq_true] at h;exact h.2 y (List.mem_of_getElem? q3)) fun id k hi hk=>hf id k ?_ hk⟩;simp only[Ent.ids,List.mem_flatMap];exact⟨y,List.mem_of_getElem? q3,hi⟩
end
end Go.Ab
namespace Go.Ab
theorem csZ:∀{ps:List (Nat×Nat)} {id k:Nat},noOf ps id=some k->(id,k)∈ps
 |(i,j)::ps,id,k,h=>by
  simp only[noOf] at h;cases hb:Nat.beq i id<;>rw[hb] at h<;>simp only[cond_true,cond_false] at h
  ·exact List.mem_cons_of_mem _ (csZ h)
  ·rw[abZ] at hb;simp only[Option.some.injEq] at h;subst hb;subst h;exact List.mem_cons_self
def idOf:List (Nat×Nat)->Nat->Option Nat
 |[],_=>none
 |(i,k)::r,n=>bif Nat.beq k n then some i else idOf r n
theorem a5Z:∀{ps:List (Nat×Nat)} {id k:Nat},idOf ps k=some id->(id,k)∈ps
 |(i,j)::ps,id,k,h=>by
  simp only[idOf] at h;cases hb:Nat.beq j k<;>rw[hb] at h<;>simp only[cond_true,cond_false] at h
  ·exact List.mem_cons_of_mem _ (a5Z h)
  ·rw[abZ] at hb;simp only[Option.some.injEq] at h;subst hb;subst h;exact List.mem_cons_self
theorem crZ{ps:List (Nat×Nat)}{id k:Nat}(h:(id,k)∈ps):k∈sndN ps:=by
 induction ps with
 |nil=>cases h
 |cons x ps ih=>
  obtain⟨i,j⟩:=x;rcases List.mem_cons.1 h with h|h
  ·injection h with h1 h2;subst h2;exact List.mem_cons_self
  ·exact List.mem_cons_of_mem _ (ih h)
theorem d5Z{ps:List (Nat×Nat)}{id k:Nat}(h:(id,k)∈ps):id∈fstN ps:=by
 induction ps with
 |nil=>cases h
 |cons x ps ih=>
  obtain⟨i,j⟩:=x;rcases List.mem_cons.1 h with h|h
  ·injection h with h1 h2;subst h1;exact List.mem_cons_self
  ·exact List.mem_cons_of_mem _ (ih h)
theorem dlZ:∀{ps:List (Nat×Nat)} {id k:Nat},(sndN ps).Nodup->(id,k)∈ps->idOf ps k=some id
 |(i,j)::ps,id,k,hn,h=>by
  simp only[sndN,List.nodup_cons] at hn;simp only[idOf];rcases List.mem_cons.1 h with h|h
  ·injection h with h1 h2;subst h1;subst h2;simp[(abZ k k).2 rfl]
  ·have:j≠k:=fun e=>hn.1 (e▸crZ h);rw[aiZ this,cond_false];exact dlZ hn.2 h
theorem hqZ:∀{ps:List (Nat×Nat)} {id k:Nat},(fstN ps).Nodup->(id,k)∈ps->noOf ps id=some k
 |(i,j)::ps,id,k,hn,h=>by
  simp only[fstN,List.nodup_cons] at hn;simp only[noOf];rcases List.mem_cons.1 h with h|h
  ·injection h with h1 h2;subst h1;subst h2;simp[(abZ id id).2 rfl]
  ·have:i≠id:=fun e=>hn.1 (e▸d5Z h);rw[aiZ this,cond_false];exact hqZ hn.2 h
theorem c8Z{H:Hp}:∀{l:List Nat},liveAll H l=true->∀i∈l,∃e,hget H i=some e
 |[],_,i,h=>by cases h
 |j::l,h,i,hi=>by
  simp only[liveAll,Bool.and_eq_true] at h;rcases List.mem_cons.1 hi with rfl|hi
  ·cases hg:hget H i with
   |none=>rw[hg] at h;exact absurd h.1 (by simp)
   |some e=>exact⟨e,rfl⟩
  ·exact c8Z h.2 i hi
theorem aZZ{H:Hp}{f:Nat->Option Nat}:∀{ps:List (Nat×Nat)},liveAll H (fstN ps)=true->∀k,hget (renH H f ps) k=(idOf ps k).bind (fun id=>(hget H id).map (Ent.ren f))/\hkey (renH H f ps) k=(idOf ps k).isSome
 |[],_,k=>⟨rfl,rfl⟩
 |(i,j)::ps,h,k=>by
  simp only[fstN,liveAll,Bool.and_eq_true] at h;cases hg:hget H i with
  |none=>rw[hg] at h;exact absurd h.1 (by simp)
  |some e=>
   obtain⟨q1,q2⟩:=aZZ (H:=H) (f:=f) h.2 k;simp only[renH,hg,hget,hkey,idOf];cases hb:Nat.beq j k
   ·simp only[cond_false];exact⟨q1,q2⟩
   ·simp[hg]
section
variable {z : Z} {H : Hp}
def Z.ren(z:Z)(H:Hp)(ps:List (Nat×Nat)):Z:=
 {z with ρ:=fun k=>match idOf ps k with|some id=>z.ρ id|none=>if dynBase<=k then z.ρ k else .no,C:=fun g=>∃id e sz n,rt id∈fstN ps/\hgetX H id=some e/\e.fz=false/\z.ρ id= .real g sz n,D:=fun k=>dynBase<=k/\rt k∉sndN ps}
theorem bdZ:∀{l:List Nat} {k:Nat},statN l=true->k∈l->k<dynBase
 |[],k,_,h=>by cases h
 |i::l,k,hs,h=>by
  simp only[statN,Bool.and_eq_true] at hs;rcases List.mem_cons.1 h with rfl|h
  ·exact Nat.le_of_ble_eq_true hs.1
  ·exact bdZ hs.2 h
theorem aUZ:∀{ps:List (Nat×Nat)} {i k:Nat},famFix ps=true->(i,k)∈ps->i=k\/(i<famBase/\k<famBase)
 |[],i,k,_,h=>by cases h
 |(a,b)::ps,i,k,hs,h=>by
  simp only[famFix,Bool.and_eq_true,Bool.or_eq_true,abZ,Nat.blt_eq] at hs;rcases List.mem_cons.1 h with h|h
  ·injection h with h1 h2;subst h1;subst h2;exact hs.1
  ·exact aUZ hs.2 h
theorem Z.ren_dyn{ps:List (Nat×Nat)}(hs:statN (sndN ps)=true){k:Nat}(hk:dynBase<=k):(z.ren H ps).ρ k=z.ρ k:=by
 show(match idOf ps k with|some id=>z.ρ id|none=>if dynBase<=k then z.ρ k else .no)=_;cases h:idOf ps k with
 |none=>simp only[if_pos hk]
 |some id=>
  have:=bdZ hs (crZ (a5Z h));omega
theorem ddZ(e:Ent)(f:Nat->Option Nat)(k:Nat):(e.ren f).has k=e.has k/\(dynBase<=dynBase->pick k (e.ren f)=pick k e):=by
 obtain⟨fz,b⟩:=e;cases b<;>exact⟨rfl,fun _=>rfl⟩
theorem cVZ{e x:Ent}{k:Nat}(h:pick k e=some x)(f:Nat->Option Nat):x.ren f=x/\x.ids=[]:=by
 unfold pick at h;split at h
 ·split at h
  ·split at h
   ·cases h
   ·simp only[Option.some.injEq] at h;subst h;exact⟨rfl,rfl⟩
  ·cases h
 ·cases h
def OfX(ps:List (Nat×Nat))(id k:Nat):Prop:=((id,k)∈ps/\id<famBase/\k<famBase)\/(id=k/\dynBase<=k/\(rt k,rt k)∈ps)
theorem OfX.fst{ps:List (Nat×Nat)}{id k:Nat}(h:OfX ps id k):rt id∈fstN ps:=by
 have h0:=c3Z;rcases h with⟨h1,h2,_⟩|⟨rfl,_,h1⟩
 ·rw[aHZ (by omega)];exact d5Z h1
 ·exact d5Z h1
theorem OfX.inj{ps:List (Nat×Nat)}{id k k':Nat}(hn:(fstN ps).Nodup)(h:OfX ps id k)(h':OfX ps id k'):k=k':=by
 have h0:=c3Z;rcases h with⟨h1,h2,_⟩|⟨rfl,h2,h1⟩<;>rcases h' with⟨h3,h4,_⟩|⟨rfl,h4,h3⟩
 ·have a1:=hqZ hn h1;have a2:=hqZ hn h3;rw[a1] at a2;exact Option.some.inj a2
 ·omega
 ·omega
 ·rfl
theorem renX{H:Hp}{f:Nat->Option Nat}{ps:List (Nat×Nat)}(h1:(fstN ps).Nodup)(h2:(sndN ps).Nodup)(h3:liveAll H (fstN ps)=true)(hf:famFix ps=true){k:Nat}{e':Ent}(h:hgetX (renH H f ps) k=some e'):
 ∃id e,OfX ps id k/\hgetX H id=some e/\e'=e.ren f:=by
 have h0:=c3Z;by_cases hd:dynBase<=k
 ·rw[ayZ hd,(aZZ h3 (rt k)).1] at h;obtain⟨e0,q1,q2⟩:=Option.bind_eq_some_iff.1 h;obtain⟨id,q3,q4⟩:=Option.bind_eq_some_iff.1 q1;obtain⟨e1,q5,rfl⟩:=Option.map_eq_some_iff.1 q4;have hm:=a5Z q3;have:id=rt k:=(aUZ hf hm).resolve_right fun h=>by have:=(btZ hd).1;omega
  subst this;rw[(ddZ e1 f _).2 (Nat.le_refl _)] at q2;refine⟨k,e',.inr ⟨rfl,hd,hm⟩,?_,(cVZ q2 f).1.symm⟩;rw[ayZ hd,q5];exact q2
 ·by_cases hk:famBase<=k
  ·unfold hgetX at h;rw[if_neg hd,if_pos hk] at h;cases h
  ·have hk':k<famBase:=Nat.not_le.1 hk;rw[anZ hk',(aZZ h3 k).1] at h;obtain⟨id,q1,q2⟩:=Option.bind_eq_some_iff.1 h;obtain⟨e,q3,q4⟩:=Option.map_eq_some_iff.1 q2;have hm:=a5Z q1;have hid:id<famBase:=by
    rcases aUZ hf hm with h|h
    ·omega
    ·exact h.1
   exact⟨id,e,.inl ⟨hm,hid,hk'⟩,by rw[anZ hid];exact q3,q4.symm⟩
theorem nnZ{ps:List (Nat×Nat)}(hH:HRep z H)(h1:nodupN (fstN ps)=true)(h2:nodupN (sndN ps)=true)(h3:liveAll H (fstN ps)=true)(hs:statN (sndN ps)=true)(hf:famFix ps=true):
 HRep (z.ren H ps) (renH H (noOf ps) ps)/\(∀id k,(id,k)∈ps->(z.ren H ps).ρ k=z.ρ id)/\∀g,(z.ren H ps).C g->z.C g:=by
 have h0:=c3Z;rw[bJZ] at h1 h2;have hd:SameDyn z.ρ (z.ren H ps).ρ:=fun id hid _=>Z.ren_dyn hs hid;have hρ:∀id k,(id,k)∈ps->(z.ren H ps).ρ k=z.ρ id:=fun id k h=>by
  show(match idOf ps k with|some id=>z.ρ id|none=>if dynBase<=k then z.ρ k else .no)=_;rw[dlZ h2 h]
 have hρX:∀id k,OfX ps id k->(z.ren H ps).ρ k=z.ρ id:=fun id k h=>by
  rcases h with⟨h,_⟩|⟨rfl,h,_⟩
  ·exact hρ id k h
  ·exact Z.ren_dyn hs h
 have hC:∀g,(z.ren H ps).C g->z.C g:=fun g ⟨id,e,sz,n,q1,q2,q3,q4⟩=>(hH.realX q2 q4).2.1 q3;have hlive:∀k,k∈sndN ps->∃id,(id,k)∈ps/\∃e,hget H id=some e:=fun k hk=>by
  have:∀{ps:List (Nat×Nat)},k∈sndN ps->∃id,(id,k)∈ps:=fun{ps}=>by
   induction ps with
   |nil=>intro h;cases h
   |cons x ps ih=>
    obtain⟨i,j⟩:=x;intro h;rcases List.mem_cons.1 h with rfl|h
    ·exact⟨i,List.mem_cons_self⟩
    ·obtain⟨id,h⟩:=ih h;exact⟨id,List.mem_cons_of_mem _ h⟩
  obtain⟨id,h⟩:=this hk;obtain⟨e,he⟩:=c8Z h3 id (d5Z h);exact⟨id,h,e,he⟩
 refine⟨⟨fun k e' h=> ?_,fun k k' e e' g sz n g' sz' n' hkk p1 p2 m1 m2 p3 p4=> ?_,fun k h=> ?_,fun g h=>hH.sub g (hC g h),fun k x h=> ?_,fun k h=> ?_,fun k hdk h=> ?_,fun k hk1 hk2=> ?_⟩,hρ,hC⟩
 ·obtain⟨id,e,q1,q2,rfl⟩:=renX h1 h2 h3 hf h;have h0:=hH.ent _ _ q2;unfold ERep at h0⊢;rw[hρX id k q1];cases hr:z.ρ id with
  |no=>rw[hr] at h0;exact h0.elim
  |virt=>
   rw[hr] at h0;obtain⟨fz,b⟩:=e;cases b<;>first|exact h0.elim|exact h0
  |real g sz n=>
   rw[hr] at h0;obtain⟨a1,a2,a3,a4⟩:=h0;exact⟨a1,fun hf=>⟨id,e,sz,n,q1.fst,q2,hf,hr⟩,a3,a4.ren (fz:=e.fz) rfl rfl (.inl hd) fun id' k' _ hk'=>hρ id' k' (csZ hk')⟩
 ·obtain⟨id,e1,q1,q2,rfl⟩:=renX h1 h2 h3 hf p1;obtain⟨id',e2,q3,q4,rfl⟩:=renX h1 h2 h3 hf p2;rw[hρX id k q1] at p3;rw[hρX id' k' q3] at p4;have hid:id≠id':=fun h=>by
   subst h;exact hkk (q1.inj h1 q3)
  exact hH.inj id id' e1 e2 g sz n g' sz' n' hid q2 q4 m1 m2 p3 p4
 ·by_cases hd:dynBase<=k
  ·by_cases hk:rt k∈sndN ps
   ·left;obtain⟨id,hm,e,he⟩:=hlive _ hk;have:id=rt k:=(aUZ hf hm).resolve_right fun h=>by have:=(btZ hd).1;omega
    subst this;rw[Z.ren_dyn hs hd];refine(hH.fresh k ?_).resolve_right (hH.dyn k hd (ahZ he));rw[atZ hd,(aZZ h3 (rt k)).1,dlZ h2 hm] at h;rw[atZ hd,he];simp only[Option.bind_some,he,Option.map_some] at h;rw[(ddZ e _ _).1] at h;exact h
   ·exact .inr ⟨hd,hk⟩
  ·left;by_cases hk:famBase<=k
   ·show(match idOf ps k with|some id=>z.ρ id|none=>if dynBase<=k then z.ρ k else .no)=_;cases hi:idOf ps k with
    |none=>simp only[if_neg hd]
    |some id=>
     have:id=k:=(aUZ hf (a5Z hi)).resolve_right fun h=>by omega
     subst this;exact hH.nos id hk (by omega)
   ·rw[azZ (by omega),(aZZ h3 k).2] at h;show(match idOf ps k with|some id=>z.ρ id|none=>if dynBase<=k then z.ρ k else .no)=_;cases hk:idOf ps k with
    |none=>simp only[if_neg hd]
    |some id=>rw[hk] at h;cases h
 ·rw[(aZZ h3 k).1] at h;obtain⟨id,q1,q2⟩:=Option.bind_eq_some_iff.1 h;obtain⟨e,q3,rfl⟩:=Option.map_eq_some_iff.1 q2;have hm:=a5Z q1;have hfo:=hH.fam id e q3;obtain⟨fz,b⟩:=e;cases b with
  |fam e s ms=>
   have:id=k:=(aUZ hf hm).resolve_right fun h=>by have:=hfo.1;omega
   subst this;exact hfo
  |_=>
   have hid:id<famBase:=hfo;show k<famBase;rcases aUZ hf hm with h|h
   ·omega
   ·exact h.2
 ·rw[(aZZ h3 k).2] at h;obtain⟨id,hid⟩:=Option.isSome_iff_exists.1 h;exact bdZ hs (crZ (a5Z hid))
 ·rw[(aZZ h3 (rt k)).2] at h;obtain⟨id,hid⟩:=Option.isSome_iff_exists.1 h;exact fun hD=>hD.2 (crZ (a5Z hid))
 ·show(match idOf ps k with|some id=>z.ρ id|none=>if dynBase<=k then z.ρ k else .no)=_;cases hi:idOf ps k with
  |none=>simp only[if_neg (show¬dynBase<=k by omega)]
  |some id=>
   have:id=k:=(aUZ hf (a5Z hi)).resolve_right fun h=>by omega
   subst this;exact hH.nos id hk1 hk2
end
end Go.Ab
namespace Go.Ab
mutual
theorem mUZ:(k:Kd)->{r:List Ty}->(y:HL (k.lv r))->AV.ids (emb k r y).1=k.ids
 |.p _,r,y|.pt _,r,y|.own _ _ _ _,r,y|.ownx _ _ _,r,y|.sl _ _,r,y|.slf _ _,r,y|.mp _,r,y|.any,r,y|.nilp _,r,y=>rfl
 |.fn f a c,r,y=>congr (congrArg HAppend.hAppend (b9Z a (r:=c.lv r) y)) (b9Z c (r:=r) _)
 |.agg l,r,y=>b9Z l (r:=r) y
 |.tup l,r,y=>b9Z l (r:=r) y
theorem b9Z:(k:KdL)->{r:List Ty}->(y:HL (k.lv r))->AV.idsL (embL k r y).1=k.ids
 |.nil,r,y=>rfl
 |.cons k l,r,y=>congr (congrArg HAppend.hAppend (mUZ k (r:=l.lv r) y)) (b9Z l (r:=r) _)
end
theorem lGZ{k:BKd}{r:List Ty}{fz:Bool}(y:HL (k.lv r)):Ent.ids ⟨fz,(embB k r y).1⟩=k.ids:=by
 cases k with
 |vars l=>exact b9Z l (r:=r) y
 |rows e t=>rfl
 |map kt vt=>rfl
 |fam e s=>rfl
theorem b0Z:(hs:HK)->{r:List Ty}->(y:HL (hkLv hs r))->∀id,hkey (embH hs r y).1 id=memN id (hkKeys hs)/\(memN id (hkKeys hs)=true->∃e,hget (embH hs r y).1 id=some e)/\∀e,hget (embH hs r y).1 id=some e->∀i∈e.ids,i∈hkIds hs
 |[],r,y,id=>⟨rfl,fun h=>by simp[hkKeys,memN] at h,fun e h=>by simp[embH,hget] at h⟩
 |(j,fz,k)::hs,r,y,id=>by
  obtain⟨q1,q2,q3⟩:=b0Z hs (embB k (hkLv hs r) y).2 id;simp only[embH,hkey,hget,hkKeys,memN];cases hb:Nat.beq j id
  ·simp only[cond_false];exact⟨q1,q2,fun e he i hi=>by simp only[hkIds,List.mem_append];exact .inr (q3 e he i hi)⟩
  ·simp only[cond_true];refine⟨trivial,fun _=>⟨_,rfl⟩,fun e he i hi=> ?_⟩;injection he with he;subst he;have hi:i∈k.ids:=by
    have:=lGZ (k:=k) (r:=hkLv hs r) (fz:=fz) y;rw[<-this];exact hi
   simp only[hkIds,List.mem_append];exact .inl hi
section
variable {z : Z} {H : Hp} {β : Type}
def Z.cut(z:Z)(ks:List Nat)(ρ0:Rho)(C':Nat->Prop):Z:={z with ρ:=fun k=>bif memN k ks then z.ρ k else if dynBase<=k then z.ρ k else ρ0 k,C:=C',D:=fun k=>memN (rt k) ks=false/\(dynBase<=k\/ρ0 k≠.no)}
theorem Z.cut_dyn(z:Z)(ks:List Nat)(ρ0:Rho)(C':Nat->Prop):SameDyn z.ρ (z.cut ks ρ0 C').ρ:=fun id hid _=>by
 show(bif memN id ks then z.ρ id else if dynBase<=id then z.ρ id else ρ0 id)=_;rw[if_pos hid];cases memN id ks<;>rfl
theorem ERep.rho{z z':Z}{id:Nat}{e:Ent}(h:ERep z id e)(hw:z'.w=z.w)(hM:z'.M=z.M)(hd:Agr z.ρ z'.ρ fun fs=>e.b.famInT fs)(hid:z'.ρ id=z.ρ id)(hf:∀i∈e.ids,z'.ρ i=z.ρ i)(hC:∀g sz n,z.ρ id= .real g sz n->e.fz=false->z.C g->z'.C g):ERep z' id e:=by
 unfold ERep at*;rw[hid];cases hr:z.ρ id with
 |no=>rw[hr] at h;exact h
 |virt=>rw[hr] at h;exact h
 |real g sz n=>
  rw[hr] at h;obtain⟨h1,h2,h3,h4⟩:=h;refine⟨by rw[hw];exact h1,fun hf=>hC g sz n hr hf (h2 hf),fun hf=>by rw[hM];exact h3 hf,?_⟩;have:=h4.ren (z':=z') (f:=some) (fz:=e.fz) hw hM hd fun i k hi hk=>by
   injection hk with hk;subst hk;exact hf i hi
  have e1:e.b.ren some=e.b:=by
   cases e.b with
   |vars c=>simp only[Blk.ren,brZ]
   |rows _ _ _=>rfl
   |map _ _ _=>rfl
   |fam _ _ _=>rfl
   |fmap k l=>
    simp only[Blk.ren];congr 1
    conv=>rhs;rw[<-List.map_id l]
    apply List.map_congr_left;intro x _;simp[fiZ]
  rwa [e1] at this
theorem Shp.rco_ok{s:Shp}{vs:List AV}{ps:List (Nat×Nat)}{K:s.D->Option β}{res:β}{vals:List Value}(ρ0:Rho)(hρ0:∀k,famBase<=k->k<dynBase->ρ0 k= .no)(h:s.rco vs H ps K=some res)(hH:HRep z H)(hv:AReps z vs vals):
 ∃t z',K t=some res/\z'.w=z.w/\z'.M=z.M/\HRep z' (s.emb t).2/\AReps z' (s.emb t).1 vals/\(∀k,memN k (hkKeys s.hs)=true->∃id,(id,k)∈ps/\z'.ρ k=z.ρ id)/\(∀k,memN k (hkKeys s.hs)=false->z'.ρ k=if dynBase<=k then z.ρ k else ρ0 k)/\
  (∀g,z'.C g->z.C g)/\(∀g,z'.C g->∃id e sz n,rt id∈fstN ps/\hgetX H id=some e/\e.fz=false/\z.ρ id= .real g sz n)/\z'.D=(fun k=>memN (rt k) (hkKeys s.hs)=false/\(dynBase<=k\/ρ0 k≠.no))/\(∀k,hkey (s.emb t).2 k=memN k (hkKeys s.hs))/\SameDyn z.ρ z'.ρ/\(∀k,memN k (hkKeys s.hs)=true->k<dynBase)/\(∀i,i∈s.ks.ids\/i∈hkIds s.hs->i∈hkKeys s.hs):=by
 have h0:=c3Z;unfold Shp.rco at h;obtain⟨h1,h2⟩:=adZ.1 h;simp only[Bool.and_eq_true] at h1;obtain⟨⟨g1,g2,g3,g4⟩,g5⟩:=h1;obtain⟨r1,r2,r3⟩:=nnZ hH g1 g2 g5 g3 g4;have hd1:SameDyn z.ρ (z.ren H ps).ρ:=fun id hid _=>Z.ren_dyn g3 hid;have hv':AReps (z.ren H ps) (AV.renL (noOf ps) vs) vals:=hv.ren rfl rfl (.inl hd1) fun id k _ hk=>r2 id k (csZ hk);obtain⟨k1,t,k2,k3,k4⟩:=Shp.co_ok h2 (fun id e he=>r1.ex he) hv';unfold Shp.ok at k1;simp only[Bool.and_eq_true,bqZ,List.mem_append] at k1;have hg:=fun id=>b0Z s.hs (embL s.ks (hkLv s.hs []) (untidy s.tys t)).2 id;have hvi:AV.idsL (s.emb t).1=s.ks.ids:=b9Z s.ks _
 let z':=(z.ren H ps).cut (hkKeys s.hs) ρ0 (z.ren H ps).C
 have hd2:SameDyn (z.ren H ps).ρ z'.ρ:=Z.cut_dyn _ _ _ _;have hin:∀k,k∈hkKeys s.hs->z'.ρ k=(z.ren H ps).ρ k:=fun k hk=>by
  show(bif memN k (hkKeys s.hs) then(z.ren H ps).ρ k else if dynBase<=k then(z.ren H ps).ρ k else ρ0 k)=_;rw[agZ.2 hk];rfl
 have hkm:∀k e,hget (s.emb t).2 k=some e->k∈hkKeys s.hs:=fun k e he=>by
  have:=ahZ he;rw[show hkey (s.emb t).2 k=memN k (hkKeys s.hs) from(hg k).1] at this;exact agZ.1 this
 have hkd:∀k,memN k (hkKeys s.hs)=true->k<dynBase:=fun k hk=>by
  obtain⟨e,he⟩:=(hg k).2.1 hk;obtain⟨_,⟨e0,q1,_⟩⟩:=k4 k e he;have:=ahZ q1;rw[(aZZ g5 k).2] at this;obtain⟨id,hid⟩:=Option.isSome_iff_exists.1 this;exact bdZ g3 (crZ (a5Z hid))
 have hfam:∀k e,hget (s.emb t).2 k=some e->famBase<=k->hget (renH H (noOf ps) ps) k=some e:=fun k e he hk=>by
  obtain⟨_,⟨e0,q1,q2,q3,q4⟩⟩:=k4 k e he;have hfo:=r1.fam k e0 q1;have hf0:e0.b.isFam=true:=by
   obtain⟨fz,b⟩:=e0;cases b<;>first|rfl|(have:k<famBase:=hfo;omega)
  rw[q4 hf0];exact q1
 have hlowf:∀k e,hget (s.emb t).2 k=some e->k<famBase->e.b.isFam=false:=fun k e he hk=>by
  obtain⟨_,⟨e0,q1,q2,q3,q4⟩⟩:=k4 k e he;have hfo:=r1.fam k e0 q1;rw[q3];obtain⟨fz,b⟩:=e0;cases b<;>first|rfl|(have:=hfo.1;omega)
 have hX:∀k e,hgetX (s.emb t).2 k=some e->ERep (z.ren H ps) k e/\(∃e1,hgetX (renH H (noOf ps) ps) k=some e1/\e1.fz=e.fz)/\(k∈hkKeys s.hs\/dynBase<=k)/\∀i∈e.ids,i∈hkKeys s.hs:=fun k e he=>by
  by_cases hd:dynBase<=k
  ·rw[ayZ hd] at he;obtain⟨e0,p1,p2⟩:=Option.bind_eq_some_iff.1 he;have p3:=hfam _ _ p1 (btZ hd).1;have p4:hgetX (renH H (noOf ps) ps) k=some e:=by rw[ayZ hd,p3];exact p2
   exact⟨r1.ent _ _ p4,⟨e,p4,rfl⟩,.inr hd,fun i hi=>by rw[(cVZ p2 some).2] at hi;cases hi⟩
  ·by_cases hk:famBase<=k
   ·unfold hgetX at he;rw[if_neg hd,if_pos hk] at he;cases he
   ·have hk':k<famBase:=Nat.not_le.1 hk;rw[anZ hk'] at he;obtain⟨q0,⟨e0,q1,q2,_⟩⟩:=k4 k e he;have hids:=(hg k).2.2 e he;exact⟨q0 (hlowf k e he hk'),⟨e0,by rw[anZ hk'];exact q1,q2⟩,.inl (hkm k e he),fun i hi=>k1.2 i (.inr (hids i hi))⟩
 have hρX:∀k,k∈hkKeys s.hs\/dynBase<=k->z'.ρ k=(z.ren H ps).ρ k:=fun k hk=>by
  rcases hk with hk|hk
  ·exact hin k hk
  ·show(bif memN k (hkKeys s.hs) then(z.ren H ps).ρ k else if dynBase<=k then(z.ren H ps).ρ k else ρ0 k)=_;rw[if_pos hk];cases memN k (hkKeys s.hs)<;>rfl
 refine⟨t,z',k2,rfl,rfl,⟨fun k e he=> ?_,fun i i' e e' g sz n g' sz' n' hii p1 p2 m1 m2 p3 p4=> ?_,fun k hk=> ?_,r1.sub,fun k x hx=> ?_,fun k hk=>hkd k (by rw[<-(hg k).1];exact hk),fun k hd hk=> ?_,fun k hk1 hk2=> ?_⟩,?_,fun k hk=> ?_,fun k hk=> ?_,r3,fun g hC=>hC,rfl,fun k=>(hg k).1,fun id hid hn=> ?_,hkd,k1.2⟩
 ·obtain⟨q1,_,q3,q4⟩:=hX k e he;exact q1.rho rfl rfl (.inl hd2) (hρX k q3) (fun i hi=>hin i (q4 i hi)) (fun g sz n _ _ h=>h)
 ·obtain⟨_,⟨e0,q1,q2⟩,q3,_⟩:=hX i e p1;obtain⟨_,⟨e0',q4,q5⟩,q6,_⟩:=hX i' e' p2;rw[hρX i q3] at p3;rw[hρX i' q6] at p4;exact r1.inj i i' e0 e0' g sz n g' sz' n' hii q1 q4 (by rw[q2];exact m1) (by rw[q5];exact m2) p3 p4
 ·by_cases hdk:dynBase<=k
  ·rw[atZ hdk] at hk;cases he:hget (s.emb t).2 (rt k) with
   |none=>
    rw[he] at hk;have hk:hkey (s.emb t).2 (rt k)=false:=hk;rw[show hkey (s.emb t).2 (rt k)=memN (rt k) (hkKeys s.hs) from(hg _).1] at hk;exact .inr ⟨hk,.inl hdk⟩
   |some e0=>
    rw[he] at hk;have p3:=hfam _ _ he (btZ hdk).1;left;rw[hρX k (.inr hdk)];refine(r1.fresh k (by rw[atZ hdk,p3];exact hk)).resolve_right (r1.dyn k hdk (ahZ p3))
  ·by_cases hkf:famBase<=k
   ·left;show(bif memN k (hkKeys s.hs) then(z.ren H ps).ρ k else if dynBase<=k then(z.ren H ps).ρ k else ρ0 k)=_;rw[if_neg hdk];cases memN k (hkKeys s.hs)
    ·exact hρ0 k hkf (by omega)
    ·exact r1.nos k hkf (by omega)
   ·rw[azZ (by omega),show hkey (s.emb t).2 k=memN k (hkKeys s.hs) from(hg k).1] at hk;have e1:z'.ρ k=ρ0 k:=by
     show(bif memN k (hkKeys s.hs) then(z.ren H ps).ρ k else if dynBase<=k then(z.ren H ps).ρ k else ρ0 k)=_;rw[hk,if_neg hdk];rfl
    by_cases h0:ρ0 k= .no
    ·left;rw[e1,h0]
    ·exact .inr ⟨by rw[aHZ (by omega)];exact hk,.inr h0⟩
 ·obtain⟨_,⟨e0,q1,q2,q3,q4⟩⟩:=k4 k x hx;have hfo:=r1.fam k e0 q1;by_cases hkf:famBase<=k
  ·have:=hfam k x hx hkf;rw[this] at q1;injection q1 with q1;rw[q1];exact hfo
  ·have:=hlowf k x hx (by omega);obtain⟨fz,b⟩:=x;cases b<;>first|(show k<famBase;omega)|cases this
 ·rw[show hkey (s.emb t).2 (rt k)=memN (rt k) (hkKeys s.hs) from(hg _).1] at hk;exact fun hD=>by have:=hD.1;rw[hk] at this;cases this
 ·show(bif memN k (hkKeys s.hs) then(z.ren H ps).ρ k else if dynBase<=k then(z.ren H ps).ρ k else ρ0 k)=_;rw[if_neg (show¬dynBase<=k by omega)];cases memN k (hkKeys s.hs)
  ·exact hρ0 k hk1 hk2
  ·exact r1.nos k hk1 hk2
 ·exact k3.rho rfl rfl (.inl hd2) fun i hi=>hin i (k1.2 i (.inl (by rw[<-hvi];exact hi)))
 ·obtain⟨e,he⟩:=(hg k).2.1 hk;obtain⟨_,⟨e0,q1,_⟩⟩:=k4 k e he;have:=ahZ q1;rw[(aZZ g5 k).2] at this;obtain⟨id,hid⟩:=Option.isSome_iff_exists.1 this;exact⟨id,a5Z hid,by rw[hin k (agZ.1 hk),r2 id k (a5Z hid)]⟩
 ·show(bif memN k (hkKeys s.hs) then(z.ren H ps).ρ k else if dynBase<=k then(z.ren H ps).ρ k else ρ0 k)=_;rw[hk];by_cases hdk:dynBase<=k
  ·rw[if_pos hdk,if_pos hdk];exact Z.ren_dyn g3 hdk
  ·rw[if_neg hdk,if_neg hdk];rfl
 ·rw[hd2 id hid (by rw[Z.ren_dyn g3 hid];exact hn),Z.ren_dyn g3 hid]
end
end Go.Ab
namespace Go.Ab
section
variable {P : Program} {β γ : Type} {H : Hp} {F : γ → Option β}
theorem alZ{α:Type}{x:Option α}{f:α->Option β}{g:α->Option γ}(h:∀a,f a=(g a).bind F):x.ob f=(x.ob g).bind F:=by
 cases x with
 |none=>rfl
 |some a=>exact h a
theorem apZ{α:Type}{x:Option α}{f:α->Option β}{g:α->Option γ}(h:∀a,f a=(g a).bind F):x.bind f=(x.bind g).bind F:=by
 cases x with
 |none=>rfl
 |some a=>exact h a
theorem ajZ{b:Bool}{f:Option β}{g:Option γ}(h:f=g.bind F):need b f=(need b g).bind F:=by
 cases b
 ·rfl
 ·exact h
theorem a2Z{b:Bool}{f f':Option β}{g g':Option γ}(h:f=g.bind F)(h':f'=g'.bind F):bq b f f'=(bq b g g').bind F:=by
 cases b
 ·exact h'
 ·exact h
theorem bnZ{t u:Ty}{f:t=u->Option β}{f':Option β}{g:t=u->Option γ}{g':Option γ}(h:∀e,f e=(g e).bind F)(h':f'=g'.bind F):dq t u f f'=(dq t u g g').bind F:=by
 unfold dq;simp only;split
 ·exact h _
 ·exact h'
theorem h4Z{δ:Type}{fa:List AV->(δ->Option β)->Option β}{fb:List AV->(δ->Option γ)->Option γ}(hf:∀c (k:δ->Option β) (k':δ->Option γ),(∀x,k x=(k' x).bind F)->fa c k=(fb c k').bind F)(c:Nat):
 ∀(n:Nat) (cs:List AV) {k:List δ->Option β} {k':List δ->Option γ},(∀x,k x=(k' x).bind F)->asmN fa c n cs k=(asmN fb c n cs k').bind F
 |0,cs,k,k',h=>h _
 |n+1,cs,k,k',h=>hf _ _ _ fun x=>h4Z hf c n _ fun l=>h _
theorem ePZ:(t:Ty)->{cs:List AV}->{k:t.den->Option β}->{k':t.den->Option γ}->(∀x,k x=(k' x).bind F)->asm t cs k=(asm t cs k').bind F
 |.byte,cs,k,k',h=>alZ fun n=>apZ h
 |.one t,cs,k,k',h=>ePZ t h
 |.pair a b,cs,k,k',h=>ePZ a fun x=>ePZ b fun y=>h _
 |.arr n t,cs,k,k',h=>h4Z (fa:=asm t) (fb:=asm t) (fun c _ _ h=>ePZ t (cs:=c) h) t.cells n cs h
 |.int _,cs,k,k',h|.bool,cs,k,k',h|.str,cs,k,k',h|.opq,cs,k,k',h|.nat,cs,k,k',h|.sl _,cs,k,k',h|.ref _ _,cs,k,k',h=>alZ h
 |.ptr t,cs,k,k',h=>by
  simp only[asm];split
  ·exact bnZ (fun _=>apZ h) rfl
  ·exact alZ h
theorem lUZ{u:Ty}{a:AV}{k:u.den->Option β}{k':u.den->Option γ}(h:∀x,k x=(k' x).bind F):asC u a k=(asC u a k').bind F:=
 alZ fun _=>ajZ (ePZ u h)
theorem aKZ{u:Ty}{a:AV}{k:u.den->Option β}{k':u.den->Option γ}(h:∀x,k x=(k' x).bind F):asA u a k=(asA u a k').bind F:=by
 unfold asA;split
 ·exact bnZ (fun _=>h _) (lUZ h)
 ·exact lUZ h
theorem isZ:(t:Ty)->{x:t.den}->{o:Nat}->{u:Ty}->{k:u.den->Option β}->{k':u.den->Option γ}->(∀x,k x=(k' x).bind F)->sub t x o u k=(sub t x o u k').bind F
 |.one t,x,o,u,k,k',h=>bnZ (fun _=>a2Z (h _) rfl) (isZ t h)
 |.pair a b,x,o,u,k,k',h=>bnZ (fun _=>a2Z (h _) rfl) (a2Z (isZ a h) (isZ b h))
 |.int _,x,o,u,k,k',h|.bool,x,o,u,k,k',h|.byte,x,o,u,k,k',h|.str,x,o,u,k,k',h|.opq,x,o,u,k,k',h|.nat,x,o,u,k,k',h|.ptr _,x,o,u,k,k',h|.sl _,x,o,u,k,k',h|.arr _ _,x,o,u,k,k',h|.ref _ _,x,o,u,k,k',h=>bnZ (fun _=>a2Z (h _) rfl) rfl
theorem eVZ:(t:Ty)->{x:t.den}->{o:Nat}->{u:Ty}->{y:u.den}->{k:t.den->Option β}->{k':t.den->Option γ}->(∀x,k x=(k' x).bind F)->upd t x o u y k=(upd t x o u y k').bind F
 |.one t,x,o,u,y,k,k',h=>bnZ (fun _=>a2Z (h _) rfl) (eVZ t h)
 |.pair a b,x,o,u,y,k,k',h=>bnZ (fun _=>a2Z (h _) rfl) (a2Z (eVZ a fun _=>h _) (eVZ b fun _=>h _))
 |.int _,x,o,u,y,k,k',h|.bool,x,o,u,y,k,k',h|.byte,x,o,u,y,k,k',h|.str,x,o,u,y,k,k',h|.opq,x,o,u,y,k,k',h|.nat,x,o,u,y,k,k',h|.ptr _,x,o,u,y,k,k',h|.sl _,x,o,u,y,k,k',h|.arr _ _,x,o,u,y,k,k',h|.ref _ _,x,o,u,y,k,k',h=>bnZ (fun _=>a2Z (h _) rfl) rfl
theorem ftZ:(t:Ty)->{x:t.den}->{o:Nat}->{u:Ty}->{k:AV->Option β}->{k':AV->Option γ}->(∀x,k x=(k' x).bind F)->subR t x o u k=(subR t x o u k').bind F
 |.one t,x,o,u,k,k',h=>a2Z (h _) (ftZ t h)
 |.pair a b,x,o,u,k,k',h=>a2Z (h _) (a2Z (ftZ a h) (ftZ b h))
 |.int _,x,o,u,k,k',h|.bool,x,o,u,k,k',h|.byte,x,o,u,k,k',h|.str,x,o,u,k,k',h|.opq,x,o,u,k,k',h|.nat,x,o,u,k,k',h|.ptr _,x,o,u,k,k',h|.sl _,x,o,u,k,k',h|.arr _ _,x,o,u,k,k',h|.ref _ _,x,o,u,k,k',h=>a2Z (h _) rfl
theorem fBZ:(t:Ty)->{x:t.den}->{o:Nat}->{u:Ty}->{v:AV}->{k:t.den->Option β}->{k':t.den->Option γ}->(∀x,k x=(k' x).bind F)->updR t x o u v k=(updR t x o u v k').bind F
 |.one t,x,o,u,v,k,k',h=>a2Z (aKZ h) (fBZ t h)
 |.pair a b,x,o,u,v,k,k',h=>a2Z (aKZ h) (a2Z (fBZ a fun _=>h _) (fBZ b fun _=>h _))
 |.int _,x,o,u,v,k,k',h|.bool,x,o,u,v,k,k',h|.byte,x,o,u,v,k,k',h|.str,x,o,u,v,k,k',h|.opq,x,o,u,v,k,k',h|.nat,x,o,u,v,k,k',h|.ptr _,x,o,u,v,k,k',h|.sl _,x,o,u,v,k,k',h|.arr _ _,x,o,u,v,k,k',h|.ref _ _,x,o,u,v,k,k',h=>a2Z (aKZ h) rfl
section
variable {k : AV → Option β} {k' : AV → Option γ}
theorem fxZ{u:Ty}{t:TypeId}{x:u.den}{j:Nat}(h:∀x,k x=(k' x).bind F):rdRow P u t x j k=(rdRow P u t x j k').bind F:=alZ fun _=>a2Z (isZ u fun _=>h _) (ftZ u h)
theorem dUZ{u:Ty}{t:TypeId}{l:List u.den}{i j:Nat}(h:∀x,k x=(k' x).bind F):rdRows P t u l i j k=(rdRows P t u l i j k').bind F:=by
 unfold rdRows;split
 ·exact a2Z (ajZ (h _)) (apZ fun _=>fxZ h)
 ·exact apZ fun _=>fxZ h
theorem ktZ{t:TypeId}{c:List AV}{j:Nat}(h:∀x,k x=(k' x).bind F):rdVars P t c j k=(rdVars P t c j k').bind F:=a2Z (ajZ (h _)) (a2Z (alZ h) rfl)
theorem kFZ{t:TypeId}{a:AV}(h:∀x,k x=(k' x).bind F):evLoad P t a H k=(evLoad P t a H k').bind F:=by
 unfold evLoad;split
 ·split
  ·exact ktZ h
  ·exact a2Z (dUZ h) rfl
  ·rfl
 ·exact dUZ h
 ·split
  ·exact apZ fun _=>ajZ (dUZ h)
  ·rfl
 ·rfl
theorem jAZ{t:TypeId}{c a b:AV}(h:∀x,k x=(k' x).bind F):evPick P t c a b k=(evPick P t c a b k').bind F:=by
 unfold evPick;refine alZ fun q=> ?_;split
 ·split
  ·exact h _
  ·exact ajZ (h _)
  ·exact ajZ (h _)
  ·rfl
 ·exact a2Z (h _) (h _)
theorem iYZ{t:TypeId}{ps:List (Nat×AV)}(h:∀x,k x=(k' x).bind F):evBuild P t ps k=(evBuild P t ps k').bind F:=by
 unfold evBuild;refine alZ fun q=> ?_;split
 ·exact alZ fun _=>alZ fun _=>h _
 ·exact alZ fun _=>alZ fun _=>h _
 ·rfl
theorem lbZ{op:BinOp}{kk:IntKind}{a b:Int}(h:∀x,k x=(k' x).bind F):evInt op kk a b k=(evInt op kk a b k').bind F:=by
 unfold evInt;split<;>first|exact h _|exact ajZ (h _)
theorem lAZ{op:BinOp}{a b:List UInt8}(h:∀x,k x=(k' x).bind F):evStr op a b k=(evStr op a b k').bind F:=by
 unfold evStr;split<;>first|exact h _|exact ajZ (h _)|rfl
theorem ngZ{op:UnOp}{t:TypeId}{a:AV}(h:∀x,k x=(k' x).bind F):evUn P op t a k=(evUn P op t a k').bind F:=by
 unfold evUn;split<;>first|exact alZ fun _=>h _|rfl
theorem dVZ{u:Ty}{a:AV}{k:List u.den->Option β}{k':List u.den->Option γ}(h:∀x,k x=(k' x).bind F):rowsOf H u a k=(rowsOf H u a k').bind F:=by
 unfold rowsOf;split
 ·exact bnZ (fun _=>h _) (bnZ (fun _=>bnZ (fun _=>h _) rfl) (alZ h))
 ·split
  ·exact bnZ (fun _=>a2Z (h _) rfl) rfl
  ·rfl
 ·split
  ·exact bnZ (fun _=>a2Z (h _) rfl) rfl
  ·rfl
 ·rfl
theorem dnZ{s d:TypeId}{a:AV}(h:∀x,k x=(k' x).bind F):evConvert P s d a H k=(evConvert P s d a H k').bind F:=by
 unfold evConvert;split
 ·exact alZ fun _=>h _
 ·exact alZ fun _=>h _
 ·exact a2Z (dVZ fun _=>h _) rfl
 ·rfl
 ·rfl
theorem cvZ{es id:Nat}{k:(u:Ty)->List u.den->Option β}{k':(u:Ty)->List u.den->Option γ}(h:∀u x,k u x=(k' u x).bind F):ownRows H es id k=(ownRows H es id k').bind F:=by
 unfold ownRows;split
 ·exact a2Z (h _ _) rfl
 ·rfl
theorem niZ{a:AV}{k:Nat->Option β}{k':Nat->Option γ}(h:∀x,k x=(k' x).bind F):lenS H a k=(lenS H a k').bind F:=by
 unfold lenS;split
 ·exact h _
 ·split
  ·exact h _
  ·exact cvZ fun _ _=>h _
 ·exact h _
 ·exact h _
 ·exact h _
 ·rfl
theorem m5Z{a:AV}{k:Nat->Option β}{k':Nat->Option γ}(h:∀x,k x=(k' x).bind F):lenM H a k=(lenM H a k').bind F:=by
 unfold lenM;split
 ·exact h _
 ·split
  ·exact h _
  ·rfl
 ·rfl
theorem mgZ{t:TypeId}{a:AV}{k:Nat->Option β}{k':Nat->Option γ}(h:∀x,k x=(k' x).bind F):lenT P t H a k=(lenT P t H a k').bind F:=by
 unfold lenT;split
 ·exact alZ fun _=>h _
 ·exact niZ h
 ·exact m5Z h
 ·exact h _
 ·rfl
theorem e8Z{s:TypeId}{a:AV}{f:Nat}(h:∀x,k x=(k' x).bind F):evFieldAddr P s a f k=(evFieldAddr P s a f k').bind F:=by
 unfold evFieldAddr;split<;>first|exact h _|rfl
theorem bFZ{a:Option AV}{d m:Nat}{k:Nat->Option β}{k':Nat->Option γ}(h:∀x,k x=(k' x).bind F):optI a d m k=(optI a d m k').bind F:=by
 unfold optI;split
 ·exact h _
 ·exact alZ fun _=>apZ h
theorem hOZ{α:Type}{l:List α}{lo hi:Option AV}{k:List α->Option β}{k':List α->Option γ}(h:∀x,k x=(k' x).bind F):cutL l lo hi k=(cutL l lo hi k').bind F:=by
 unfold cutL;split
 ·exact h _
 ·exact alZ fun _=>apZ fun _=>h _
 ·exact alZ fun _=>apZ fun _=>h _
 ·exact alZ fun _=>apZ fun _=>alZ fun _=>apZ fun _=>h _
theorem jaZ{t:TypeId}{a:AV}{lo hi:Option AV}(h:∀x,k x=(k' x).bind F):evSlice P t a lo hi H k=(evSlice P t a lo hi H k').bind F:=by
 unfold evSlice;split
 ·exact alZ fun _=>hOZ fun _=>h _
 ·split
  ·refine a2Z ?_ rfl;split
   ·exact h _
   ·exact cvZ fun _ _=>bFZ fun _=>bFZ fun _=>h _
  ·exact a2Z (bFZ fun _=>bFZ fun _=>h _) rfl
  ·exact a2Z (hOZ fun _=>h _) rfl
  ·exact ajZ (bFZ fun _=>bFZ fun _=>h _)
  ·exact a2Z (bFZ fun _=>bFZ fun _=>h _) rfl
  ·rfl
 ·split
  ·refine a2Z (cvZ fun _ _=>ajZ ?_) rfl;split
   ·exact h _
   ·exact bFZ fun _=>bFZ fun _=>h _
  ·exact a2Z (hOZ fun _=>h _) rfl
  ·rfl
 ·rfl
theorem h8Z{t:TypeId}{a hi mx:AV}{lo:Option AV}(h:∀x,k x=(k' x).bind F):evSlice3 P t a lo hi mx k=(evSlice3 P t a lo hi mx k').bind F:=by
 unfold evSlice3;split
 ·split
  ·refine a2Z (alZ fun _=>apZ fun _=>alZ fun _=>apZ fun _=> ?_) rfl;split
   ·exact h _
   ·exact alZ fun _=>apZ fun _=>h _
  ·rfl
 ·rfl
theorem jqZ{t:TypeId}{a ix:AV}(h:∀x,k x=(k' x).bind F):evIndex P t a ix k=(evIndex P t a ix k').bind F:=by
 unfold evIndex;refine alZ fun x=> ?_;split
 ·exact alZ fun _=>apZ fun _=>apZ fun _=>h _
 ·exact alZ fun _=>aKZ fun _=>apZ fun _=>apZ fun _=>h _
 ·rfl
theorem ezZ{t:TypeId}{a ix:AV}(h:∀x,k x=(k' x).bind F):evIndexAddr P t a ix H k=(evIndexAddr P t a ix H k').bind F:=by
 unfold evIndexAddr;refine alZ fun x=> ?_;split
 ·refine ajZ ?_;split<;>first|rfl|exact a2Z (apZ fun _=>h _) (apZ fun _=>h _)
 ·refine ajZ ?_;split
  ·refine a2Z ?_ rfl;split
   ·exact apZ fun _=>h _
   ·exact cvZ fun _ _=>apZ fun _=>h _
  ·exact a2Z (apZ fun _=>h _) rfl
  ·exact a2Z (apZ fun _=>h _) rfl
  ·exact a2Z (apZ fun _=>apZ fun _=>h _) rfl
  ·rfl
 ·rfl
theorem i9Z{s:TypeId}{a:AV}{f:Nat}(h:∀x,k x=(k' x).bind F):evField P s a f k=(evField P s a f k').bind F:=by
 unfold evField;split
 ·exact a2Z (ajZ (h _)) (a2Z (alZ h) rfl)
 ·exact a2Z (fxZ h) rfl
 ·rfl
theorem fMZ{kt:Ty}{x:kt.den}{k:Option AV->Option β}{k':Option AV->Option γ}(h:∀x,k x=(k' x).bind F):∀l:List (kt.den×AV),fchain l x k=(fchain l x k').bind F
 |[]=>h _
 |(_,_)::r=>a2Z (h _) (fMZ h r)
theorem hbZ{t:TypeId}{m ix:AV}{c:Bool}(h:∀x,k x=(k' x).bind F):evLookup P t m ix c H k=(evLookup P t m ix c H k').bind F:=by
 unfold evLookup;split
 ·split
  ·exact ajZ (aKZ fun _=>h _)
  ·refine ajZ (aKZ fun _=>fMZ (fun r=> ?_) _);split<;>exact h _
  ·rfl
 ·split
  ·exact alZ fun _=>alZ fun _=>ajZ (aKZ fun _=>h _)
  ·rfl
 ·rfl
theorem jJZ{t:TypeId}{a b:AV}{k:Bool->Option β}{k':Bool->Option γ}(hn:natBin P t=true)(h:∀x,k x=(k' x).bind F):evEq P t a b H k=(evEq P t a b H k').bind F:=by
 unfold evEq;split
 ·exact alZ h
 ·exact alZ h
 ·exact alZ h
 ·rename_i e he;simp[natBin,he] at hn
 ·exact alZ fun _=>ajZ (aKZ fun _=>aKZ fun _=>h _)
theorem ljZ{op:BinOp}{t u:TypeId}{a b:AV}(hn:natBin P t=true)(h:∀x,k x=(k' x).bind F):evBin P op t u a b H k=(evBin P op t u a b H k').bind F:=by
 unfold evBin;split
 ·split
  ·exact alZ fun _=>alZ fun _=>ajZ (lbZ h)
  ·rfl
 ·exact alZ fun _=>alZ fun _=>lAZ h
 ·split
  ·exact jJZ hn fun _=>h _
  ·exact jJZ hn fun _=>h _
  ·rfl
theorem nsZ{o:Oper}{r:Operand->AV}(hn:natR P o=true)(h:∀x,k x=(k' x).bind F):evR P o r H k=(evR P o r H k').bind F:=by
 unfold evR;unfold natR at hn;split
 ·exact h _
 ·exact h _
 ·exact jAZ h
 ·exact iYZ h
 ·exact kFZ h
 ·split<;>first|exact h _|rfl|exact ajZ (h _)
 ·rename_i ho;rw[ho] at hn;exact ljZ hn h
 ·exact hbZ h
 ·exact ngZ h
 ·exact dnZ h
 ·exact h _
 ·exact jaZ h
 ·exact h8Z h
 ·exact e8Z h
 ·exact i9Z h
 ·exact ezZ h
 ·exact jqZ h
 ·exact alZ fun _=>alZ h
 ·rename_i c ho;rw[ho] at hn;simp only at hn;split
  ·split
   ·exact mgZ fun _=>h _
   ·rfl
  ·rename_i hc;rw[hc] at hn;cases hn
  ·split
   ·refine alZ fun l=> ?_;split
    ·exact h _
    ·rfl
   ·rfl
  ·split
   ·refine alZ fun l=> ?_;split
    ·exact h _
    ·rfl
   ·rfl
  ·rfl
 ·rfl
end
section
variable {k : AV → Hp → Option β} {k' : AV → Hp → Option γ}
theorem aCZ{id:Nat}{b:Blk}{k:Hp->Option β}{k':Hp->Option γ}(h:∀H,k H=(k' H).bind F):newAt H id b k=(newAt H id b k').bind F:=a2Z rfl (h _)
theorem iLZ{t:TypeId}{id:Nat}(h:∀x H,k x H=(k' x H).bind F):evAlloc P t id H k=(evAlloc P t id H k').bind F:=by
 unfold evAlloc;split
 ·exact alZ fun _=>ajZ (aCZ fun _=>h _ _)
 ·exact alZ fun _=>aCZ fun _=>h _ _
theorem kPZ{t:TypeId}{v:AV}{id:Nat}(h:∀x H,k x H=(k' x H).bind F):evBox P t v id H k=(evBox P t v id H k').bind F:=by
 unfold evBox;split
 ·exact alZ fun _=>alZ fun _=>aKZ fun _=>ajZ (aCZ fun _=>h _ _)
 ·exact alZ fun _=>aCZ fun _=>h _ _
theorem jMZ{t e:TypeId}{u:Ty}{l:List u.den}{i j id:Nat}{v:AV}(h:∀x H,k x H=(k' x H).bind F):wrRows P t e u l i j id v H k=(wrRows P t e u l i j id v H k').bind F:=by
 unfold wrRows;split
 ·exact a2Z (ajZ (aKZ fun _=>ajZ (h _ _))) (aKZ fun _=>apZ fun _=>eVZ _ fun _=>h _ _)
 ·exact aKZ fun _=>apZ fun _=>eVZ _ fun _=>h _ _
 ·rfl
theorem j5Z{t:TypeId}{a v:AV}(h:∀x H,k x H=(k' x H).bind F):evStore P t a v H k=(evStore P t a v H k').bind F:=by
 unfold evStore;split
 ·split
  ·exact alZ fun _=>ajZ (h _ _)
  ·exact a2Z (a2Z (alZ fun _=>ajZ (jMZ h)) (alZ fun _=>alZ fun _=>alZ fun _=>alZ fun _=>ajZ (apZ fun _=>fBZ _ fun _=>h _ _))) rfl
  ·rfl
 ·unfold wrMem;refine alZ fun _=>alZ fun _=> ?_;split
  ·exact apZ fun _=>ajZ (aKZ fun _=>apZ fun _=>eVZ _ fun _=>h _ _)
  ·rfl
 ·rfl
theorem fqZ{s d:TypeId}{a:AV}{id:Nat}(h:∀x H,k x H=(k' x H).bind F):evConvertW P s d a id H k=(evConvertW P s d a id H k').bind F:=by
 unfold evConvertW;split
 ·exact a2Z (alZ fun _=>ajZ (aCZ fun _=>h _ _)) rfl
 ·split
  ·split
   ·exact a2Z (ajZ (h _ _)) rfl
   ·rfl
  ·rfl
 ·rfl
theorem k9Z{t:TypeId}{l c:AV}{id:Nat}(h:∀x H,k x H=(k' x H).bind F):evMake P t l c id H k=(evMake P t l c id H k').bind F:=by
 unfold evMake;split
 ·exact alZ fun _=>alZ fun _=>apZ fun _=>apZ fun _=>alZ fun _=>ajZ (aCZ fun _=>h _ _)
 ·rfl
theorem fZZ{t:TypeId}{q:Option AV}{id:Nat}(h:∀x H,k x H=(k' x H).bind F):evMakeMap P t q id H k=(evMakeMap P t q id H k').bind F:=by
 unfold evMakeMap;split
 ·exact alZ fun _=>ajZ (a2Z (aCZ fun _=>h _ _) (alZ fun _=>aCZ fun _=>h _ _))
 ·rfl
theorem euZ{t:TypeId}{m key x:AV}(h:∀x H,k x H=(k' x H).bind F):evMapUpd P t m key x H k=(evMapUpd P t m key x H k').bind F:=by
 unfold evMapUpd;split
 ·split
  ·exact ajZ (aKZ fun _=>ajZ (alZ fun _=>ajZ (h _ _)))
  ·refine alZ fun _=> ?_;split
   ·exact ajZ (aKZ fun _=>aKZ fun _=>h _ _)
   ·rfl
 ·rfl
theorem f5Z{t:TypeId}{m key:AV}(h:∀x H,k x H=(k' x H).bind F):evMapEntry P t m key H k=(evMapEntry P t m key H k').bind F:=by
 unfold evMapEntry;split
 ·split
  ·exact ajZ (aKZ fun _=>h _ _)
  ·rfl
 ·rfl
theorem dPZ{m s x:AV}(h:∀x H,k x H=(k' x H).bind F):evEntryStore m s x H k=(evEntryStore m s x H k').bind F:=by
 unfold evEntryStore;split
 ·refine alZ fun _=> ?_;split
  ·exact alZ fun _=>aKZ fun _=>apZ fun _=>h _ _
  ·rfl
 ·rfl
theorem hjZ{t:TypeId}{m key:AV}(h:∀x H,k x H=(k' x H).bind F):evDelete P t m key H k=(evDelete P t m key H k').bind F:=by
 unfold evDelete;split
 ·split
  ·exact ajZ (aKZ fun _=>h _ _)
  ·rfl
 ·split
  ·exact alZ fun _=>alZ fun _=>ajZ (aKZ fun _=>h _ _)
  ·rfl
 ·rfl
theorem eyZ{t:TypeId}{n:Nat}{ps:List (Nat×AV)}{vs:Bool}{rb:Option Nat}{id:Nat}(h:∀x H,k x H=(k' x H).bind F):evBuildSlice P t n ps vs rb id H k=(evBuildSlice P t n ps vs rb id H k').bind F:=by
 unfold evBuildSlice;simp only[cWZ];split
 ·exact alZ fun _=>alZ fun u=>ajZ (alZ fun _=>a2Z (ajZ (aCZ fun _=>h _ _))<|alZ fun _=>h4Z (fa:=asm (rowTy _ rb u)) (fb:=asm (rowTy _ rb u)) (fun c _ _ h=>ePZ (rowTy _ rb u) (cs:=c) h) _ _ _ fun _=>aCZ fun _=>h _ _)
 ·rfl
theorem dCZ{t:TypeId}{s x:AV}{id:Nat}(h:∀x H,k x H=(k' x H).bind F):evAppend P t s x id H k=(evAppend P t s x id H k').bind F:=by
 unfold evAppend;split
 ·refine alZ fun _=>dVZ fun _=> ?_;split
  ·exact ajZ (aCZ fun _=>h _ _)
  ·split
   ·exact bnZ (fun _=>ajZ (aCZ fun _=>h _ _)) (bnZ (fun _=>ajZ (aCZ fun _=>h _ _)) rfl)
   ·rfl
  ·split
   ·exact bnZ (fun _=>ajZ (aCZ fun _=>h _ _)) rfl
   ·rfl
  ·rfl
 ·rfl
theorem gLZ{t:TypeId}{s x:AV}{id:Nat}(h:∀x H,k x H=(k' x H).bind F):evAppendZ P t s x id H k=(evAppendZ P t s x id H k').bind F:=by
 unfold evAppendZ;split
 ·refine alZ fun _=>ajZ (alZ fun _=>apZ fun _=> ?_);split
  ·exact ajZ (aCZ fun _=>h _ _)
  ·split
   ·exact bnZ (fun _=>ajZ (aCZ fun _=>h _ _)) rfl
   ·rfl
  ·rfl
 ·rfl
theorem kEZ{t:TypeId}{s x:AV}(h:∀x H,k x H=(k' x H).bind F):evCopy P t s x H k=(evCopy P t s x H k').bind F:=by
 unfold evCopy;split
 ·refine alZ fun _=>dVZ fun _=> ?_;split
  ·split
   ·exact bnZ (fun _=>ajZ (h _ _)) rfl
   ·rfl
  ·split
   ·exact bnZ (fun _=>ajZ (h _ _)) rfl
   ·rfl
  ·split
   ·exact bnZ (fun _=>bnZ (fun _=>apZ fun _=>h _ _) rfl) rfl
   ·rfl
  ·rfl
 ·rfl
theorem i7Z{t:TypeId}{d:AV}(h:∀x H,k x H=(k' x H).bind F):evClear P t d H k=(evClear P t d H k').bind F:=by
 unfold evClear;split
 ·refine alZ fun _=>ajZ ?_;split
  ·exact h _ _
  ·split
   ·exact bnZ (fun _=>ajZ (h _ _)) rfl
   ·rfl
  ·split
   ·exact bnZ (fun _=>ajZ (h _ _)) rfl
   ·rfl
  ·rfl
 ·rfl
theorem OutS.on_nt:∀{l:List Shp} {x:OutS l} {k:(s:Shp)->s.D->Option β} {k':(s:Shp)->s.D->Option γ},(∀s t,k s t=(k' s t).bind F)->OutS.on l x k=(OutS.on l x k').bind F
 |[],x,_,_,_=>Empty.elim x
 |[s],x,k,k',h=>h s x
 |s::t::r,.inl y,k,k',h=>h s y
 |s::t::r,.inr y,k,k',h=>OutS.on_nt (l:=t::r) (x:=y) h
mutual
theorem co_nt:(q:Kd)->{r:List Ty}->{a:AV}->{x:HL r}->{k:HL (q.lv r)->Option β}->{k':HL (q.lv r)->Option γ}->(∀y,k y=(k' y).bind F)->co q r a x k=(co q r a x k').bind F
 |.p t,r,a,x,k,k',h=>aKZ (u:=t) (k:=fun y=>k (y,x)) (k':=fun y=>k' (y,x)) fun y=>h _
 |.pt t,r,a,x,k,k',h=>alZ fun _=>h _
 |.own es id i j,r,a,x,k,k',h=>ajZ (h _)
 |.ownx es id j,r,a,x,k,k',h=>alZ fun _=>h _
 |.sl es id,r,a,x,k,k',h=>alZ fun _=>h _
 |.slf es id,r,a,x,k,k',h=>ajZ (h _)
 |.mp id,r,a,x,k,k',h=>ajZ (h _)
 |.any,r,a,x,k,k',h=>h _
 |.fn f ka kc,r,a,x,k,k',h=>alZ fun _=>ajZ (dMZ kc fun _=>dMZ ka h)
 |.agg l,r,a,x,k,k',h=>alZ fun _=>ajZ (dMZ l h)
 |.tup l,r,a,x,k,k',h=>alZ fun _=>ajZ (dMZ l h)
 |.nilp v,r,a,x,k,k',h=>ajZ (h _)
theorem dMZ:(q:KdL)->{r:List Ty}->{c:List AV}->{x:HL r}->{k:HL (q.lv r)->Option β}->{k':HL (q.lv r)->Option γ}->(∀y,k y=(k' y).bind F)->coL q r c x k=(coL q r c x k').bind F
 |.nil,r,c,x,k,k',h=>h _
 |.cons q l,r,c,x,k,k',h=>dMZ l fun _=>co_nt q h
end
theorem n4Z{q:BKd}{r:List Ty}{b:Blk}{x:HL r}{k:HL (q.lv r)->Option β}{k':HL (q.lv r)->Option γ}(h:∀y,k y=(k' y).bind F):coB q r b x k=(coB q r b x k').bind F:=by
 cases q with
 |vars l=>exact alZ fun _=>dMZ l h
 |rows e t=>exact alZ fun _=>h _
 |map kt vt=>exact alZ fun _=>h _
 |fam e s=>exact alZ fun _=>h _
theorem lYZ:(hs:HK)->{r:List Ty}->{x:HL r}->{k:HL (hkLv hs r)->Option β}->{k':HL (hkLv hs r)->Option γ}->(∀y,k y=(k' y).bind F)->coH hs r H x k=(coH hs r H x k').bind F
 |[],r,x,k,k',h=>h _
 |(_,_,q)::l,r,x,k,k',h=>alZ fun _=>lYZ l fun _=>n4Z h
theorem Shp.co_nt{s:Shp}{vs:List AV}{k:s.D->Option β}{k':s.D->Option γ}(h:∀y,k y=(k' y).bind F):s.co vs H k=(s.co vs H k').bind F:=
 ajZ (lYZ s.hs fun _=>dMZ s.ks fun _=>h _)
theorem Shp.rco_nt{s:Shp}{vs:List AV}{ps:List (Nat×Nat)}{k:s.D->Option β}{k':s.D->Option γ}(h:∀y,k y=(k' y).bind F):s.rco vs H ps k=(s.rco vs H ps k').bind F:=
 ajZ (Shp.co_nt h)
theorem jHZ{e:FnT}{args:List AV}{an:Ann}(h:∀x H,k x H=(k' x H).bind F):evCall P e args an H k=(evCall P e args an H k').bind F:=by
 unfold evCall;rw[chZ,chZ];exact alZ fun _=>ajZ (Shp.rco_nt fun _=>apZ fun _=>OutS.on_nt fun _ _=>by
  rw[Shp.embC_eq,Shp.embC_eq];exact ajZ (h _ _))
theorem nyZ{T:Tbl}{o:Oper}{an:Ann}{r:Operand->AV}(h:∀x H,k x H=(k' x H).bind F):evW P T o an r H k=(evW P T o an r H k').bind F:=by
 unfold evW;split
 ·exact iLZ h
 ·exact kPZ h
 ·exact eyZ h
 ·exact j5Z h
 ·split
  ·exact dnZ fun _=>h _ _
  ·exact fqZ h
 ·exact k9Z h
 ·exact fZZ h
 ·exact euZ h
 ·exact euZ h
 ·exact f5Z h
 ·exact dPZ h
 ·split
  ·split
   ·split
    ·exact gLZ h
    ·exact dCZ h
    ·exact dCZ h
    ·rfl
   ·rfl
  ·split
   ·exact kEZ h
   ·rfl
  ·split
   ·exact i7Z h
   ·rfl
  ·split
   ·exact hjZ h
   ·rfl
  ·refine alZ fun _=> ?_;split
   ·exact jHZ h
   ·rfl
  ·rfl
 ·rfl
theorem njZ{o:Oper}{r:Operand->AV}{k:AV->Option β}{res:β}(hn:natR P o=true)(h:evR P o r H k=some res):∃x,evR P o r H some=some x/\k x=some res:=by
 have e:evR P o r H k=(evR P o r H some).bind k:=nsZ hn fun _=>rfl;exact Option.bind_eq_some_iff.1 (e▸h)
theorem mjZ{T:Tbl}{o:Oper}{an:Ann}{r:Operand->AV}{k:AV->Hp->Option β}{res:β}(h:evW P T o an r H k=some res):∃x H',evW P T o an r H (fun x H'=>some (x,H'))=some (x,H')/\k x H'=some res:=by
 have e:evW P T o an r H k=(evW P T o an r H fun x H'=>some (x,H')).bind fun p=>k p.1 p.2:=nyZ fun _ _=>rfl;obtain⟨⟨x,H'⟩,h1,h2⟩:=Option.bind_eq_some_iff.1 (e▸h);exact⟨x,H',h1,h2⟩
end
end
end Go.Ab
namespace Go.Ab
theorem aoZ{H:Hp}{id:Nat}(h:hkey H id=false):hget H id=none:=by
 cases hg:hget H id with
 |none=>rfl
 |some e=>rw[ahZ hg] at h;cases h
section
variable {z z' : Z} {H : Hp}
theorem ARep.live{a:AV}{v:Value}(h:ARep z a v):∀id∈AV.ids a,z.ρ id≠.no:=by
 have hL:∀{l:List AV},(∀(i:Nat) (x:AV),l[i]? =some x->∀id∈AV.ids x,z.ρ id≠.no)->∀id∈AV.idsL l,z.ρ id≠.no:=by
  intro l;induction l with
  |nil=>intro _ id h;cases h
  |cons a l ih=>
   intro h id hi;simp only[AV.idsL,List.mem_append] at hi;rcases hi with hi|hi
   ·exact h 0 a rfl id hi
   ·exact ih (fun i x hx=>h (i+1) x hx) id hi
 induction h with
 |p t x v h=>intro id h;cases h
 |pt t l i j b off h1 h2 h3=>intro id h;cases h
 |own es id i j g sz n h=>intro k hk;simp only[AV.ids,List.mem_singleton] at hk;subst hk;rw[h];intro h;cases h
 |rp f es k' i j g sz n h=>intro k hk;cases hk
 |slV es id off A h=>intro k hk;simp only[AV.ids,List.mem_singleton] at hk;subst hk;rw[h];intro h;cases h
 |slE es id off g sz m o h=>intro k hk;simp only[AV.ids,List.mem_singleton] at hk;subst hk;rw[h];intro h;cases h
 |sl es id off n g sz m c h hn hs hm=>intro k hk;simp only[AV.ids,List.mem_singleton] at hk;subst hk;rw[h];intro h;cases h
 |slfV es id A h=>intro k hk;simp only[AV.ids,List.mem_singleton] at hk;subst hk;rw[h];intro h;cases h
 |slf es id g sz n c h hn hs hm=>intro k hk;simp only[AV.ids,List.mem_singleton] at hk;subst hk;rw[h];intro h;cases h
 |mp id g sz n h=>intro k hk;simp only[AV.ids,List.mem_singleton] at hk;subst hk;rw[h];intro h;cases h
 |fn f a c va vc ha hc h1 h2 ih1 ih2=>
  intro k hk;simp only[AV.ids,List.mem_append] at hk;rcases hk with hk|hk
  ·refine hL (fun i x hx=> ?_) k hk;have hlt:i<va.size:=by rw[ha];exact(List.getElem?_eq_some_iff.1 hx).1
   exact ih1 i x va[i] hx (Array.getElem?_eq_getElem hlt)
  ·refine hL (fun i x hx=> ?_) k hk;have hlt:i<vc.size:=by rw[hc];exact(List.getElem?_eq_some_iff.1 hx).1
   exact ih2 i x vc[i] hx (Array.getElem?_eq_getElem hlt)
 |agg l cs hs h1 h ih=>
  intro k hk;refine hL (fun i x hx=> ?_) k hk;have hlt:i<cs.size:=by rw[hs];exact(List.getElem?_eq_some_iff.1 hx).1
  exact ih i x cs[i] hx (Array.getElem?_eq_getElem hlt)
 |tup l vs hs h ih=>
  intro k hk;refine hL (fun i x hx=> ?_) k hk;have hlt:i<vs.size:=by rw[hs];exact(List.getElem?_eq_some_iff.1 hx).1
  exact ih i x vs[i] hx (Array.getElem?_eq_getElem hlt)
 |junk v=>intro k hk;cases hk
theorem BRep.ren'{g sz n:Nat}{b:Blk}{f:Nat->Option Nat}{ρ':Rho}(h:BRep z g sz n b)(hd:SameDyn z.ρ ρ')(hf:∀{id k:Nat},z.ρ id≠.no->f id=some k->ρ' k=z.ρ id):BRep {z with ρ:=ρ'} g sz n (b.ren f):=by
 cases b with
 |vars c=>
  obtain⟨cs,e,fr,a1,a2,a3,⟨a4,an⟩,a5,a6⟩:=h;refine⟨cs,e,fr,a1,a2,a3,⟨by rw[b3Z];exact a4,an⟩,fun i a v p1 p2=> ?_,a6⟩;rw[bSZ] at p1;obtain⟨y,p3,rfl⟩:=Option.map_eq_some_iff.1 p1;exact(a5 i y v p3 p2).ren rfl rfl (.inl hd) fun id k hi hk=>hf ((a5 i y v p3 p2).live id hi) hk
 |rows e t l=>
  obtain⟨cs,fr,a1,a2,a3,a4,a5,a6,a7⟩:=h;refine⟨cs,fr,a1,a2,a3,a4,a5,a6,fun i x hx=> ?_⟩;obtain⟨u,b1,b2⟩:=a7 i x hx;exact⟨u,b1.dyn hd,b2⟩
 |map kt vt m=>
  obtain⟨es,a1,a2,a3,a4⟩:=h;exact⟨es,a1,a2,fun i x e q1 q2=>⟨(a3 i x e q1 q2).1.dyn hd,(a3 i x e q1 q2).2.1.dyn hd,(a3 i x e q1 q2).2.2⟩,a4⟩
 |fmap kt l=>
  obtain⟨es,clock,a1,a2,a3⟩:=h;refine⟨es,clock,a1,by simp[a2],fun i x e q1 q2=> ?_⟩;rw[List.getElem?_map] at q1;obtain⟨y,q3,rfl⟩:=Option.map_eq_some_iff.1 q1;obtain⟨b1,b2⟩:=a3 i y e q3 q2;exact⟨b1.dyn hd,b2.ren rfl rfl (.inl hd) fun id k hi hk=>hf (b2.live id hi) hk⟩
 |fam e s ms=>exact h.elim
def Z.foc(z:Z)(H:Hp)(F:Nat->Bool):Z:=
 {z with C:=fun g=>∃id e sz n,F (rt id)=true/\hgetX H id=some e/\e.fz=false/\z.ρ id= .real g sz n,D:=fun id=>z.D id\/(hkeyX H id=true/\F (rt id)=false)}
theorem nqZ{H1:Hp}{F:Nat->Bool}(hH:HRep z H)(h1:∀id,hget H1 id=if F id then hget H id else none)(h2:∀id,hkey H1 id=(F id&&hkey H id)):HRep (z.foc H F) H1:=by
 have q:∀id e,hgetX H1 id=some e->F (rt id)=true/\hgetX H id=some e:=fun id e h=>by
  cases hF:F (rt id)
  ·exfalso;have e1:hget H1 (rt id)=none:=by rw[h1,hF];rfl
   have:hgetX H1 id=none:=by
    by_cases hd:dynBase<=id
    ·rw[ayZ hd,e1];rfl
    ·rw[aHZ (by omega)] at e1;unfold hgetX;rw[if_neg hd,e1,ite_self]
   rw[this] at h;cases h
  ·exact⟨rfl,by rw[<-b6Z (show hget H1 (rt id)=hget H (rt id) by rw[h1,hF];rfl)];exact h⟩
 refine⟨fun id e h=> ?_,fun id id' e e' g sz n g' sz' n' hii p1 p2 m1 m2 p3 p4=> ?_,fun id h=> ?_,fun g ⟨id,e,sz,n,q1,q2,q3,q4⟩=> ?_,fun id x h=> ?_,fun id h=> ?_,fun id hd h=> ?_,hH.nos⟩
 ·obtain⟨a1,a2⟩:=q id e h;exact(hH.ent _ _ a2).rho rfl rfl (.inl (.eq rfl)) rfl (fun _ _=>rfl) fun g sz n hr hf _=>⟨id,e,sz,n,a1,a2,hf,hr⟩
 ·exact hH.inj id id' e e' g sz n g' sz' n' hii (q _ _ p1).2 (q _ _ p2).2 m1 m2 p3 p4
 ·cases hF:F (rt id)
  ·cases hk:hkeyX H id
   ·exact(hH.fresh id hk).imp (fun h=>h) .inl
   ·exact .inr (.inr ⟨hk,hF⟩)
  ·rw[cqZ (show hget H1 (rt id)=hget H (rt id) by rw[h1,hF];rfl) (by rw[h2,hF];rfl)] at h;exact(hH.fresh id h).imp (fun h=>h) .inl
 ·exact hH.sub _ ((hH.realX q2 q4).2.1 q3)
 ·rw[h1] at h;split at h
  ·exact hH.fam id x h
  ·cases h
 ·rw[h2,Bool.and_eq_true] at h;exact hH.key id h.2
 ·rw[h2,Bool.and_eq_true] at h;rintro(hD|⟨_,hD⟩)
  ·exact hH.dyn id hd h.2 hD
  ·rw[h.1] at hD;cases hD
theorem ivZ{H2 H3:Hp}{F:Nat->Bool}{z2:Z}(hH:HRep z H)(hn:Nx (z.foc H F) z2)(h2:HRep z2 H2)(hF:∀id,hkey H2 id=true->F id=true)
 (h3:∀id,hget H3 id=if hkey H2 id then hget H2 id else if F id then none else hget H id)(h4:∀id,hkey H2 id=true\/hkey H id=true->hkey H3 id=true)(h5:∀id,hkey H3 id=true->hkey H2 id=true\/hkey H id=true\/(id<dynBase/\∀x,rt x=id->¬z.D x)):
 ∃z3,z3.w=z2.w/\z3.M=z2.M/\z3.ρ=z2.ρ/\HRep z3 H3/\Nx z z3:=by
 let z3:Z:={z2 with C:=fun g=>z2.C g\/(z.C g/\¬(z.foc H F).C g/\g<z.w.heap.size),D:=z.D}
 have hC1:∀g,(z.foc H F).C g->z.C g:=fun g ⟨id,e,sz,n,_,q2,q3,q4⟩=>(hH.realX q2 q4).2.1 q3;have hN:Nx z z3:=⟨hn.os,hn.tape,hn.output,hn.size,fun b hb hc=>hn.block b hb fun h=>hc (hC1 b h),hn.subM,fun g hg=>by
  rcases hg with hg|hg
  ·rcases hn.subC g hg with h|h
   ·exact .inl (hC1 g h)
   ·exact .inr h
  ·exact .inl hg.1,fun g hg hM hC=>hn.keepM g hg hM fun h=>hC (hC1 g h),hn.ext,rfl⟩
 have hkp:=hN.kp hH.sub;have key:∀id e,hgetX H3 id=some e->(hgetX H2 id=some e)\/(F (rt id)=false/\hgetX H id=some e):=fun id e h=>by
  have h3':=h3 (rt id);cases hk:hkey H2 (rt id)
  ·rw[hk] at h3';simp only[Bool.false_eq_true,if_false] at h3';cases hf:F (rt id)
   ·rw[hf] at h3';exact .inr ⟨rfl,by rw[<-b6Z (H':=H3) (H:=H) h3'];exact h⟩
   ·exfalso;rw[hf] at h3';have e1:hget H3 (rt id)=none:=h3';have:hgetX H3 id=none:=by
     by_cases hd:dynBase<=id
     ·rw[ayZ hd,e1];rfl
     ·rw[aHZ (by omega)] at e1;unfold hgetX;rw[if_neg hd,e1,ite_self]
    rw[this] at h;cases h
  ·rw[hk] at h3';exact .inl (by rw[<-b6Z (H':=H3) (H:=H2) h3'];exact h)
 have hout:∀id e g sz n,F (rt id)=false->hgetX H id=some e->z.ρ id= .real g sz n->¬(z.foc H F).C g:=by
  rintro id e g sz n hf hg hr ⟨id',e',sz',n',a1,a2,a3,a4⟩;have hne:id≠id':=fun h=>by rw[h,a1] at hf;cases hf
  exact hH.ne hne hg a2 a3 hr a4 rfl
 have houtρ:∀id e,F (rt id)=false->hgetX H id=some e->z.ρ id≠.no:=fun id e _ hg hr=>by
  have:=hH.ent _ _ hg;unfold ERep at this;rw[hr] at this;exact this
 refine⟨z3,rfl,rfl,rfl,⟨fun id e h=> ?_,fun id id' e e' g sz n g' sz' n' hii p1 p2 m1 m2 p3 p4=> ?_,fun id h=> ?_,fun g hg=> ?_,fun id x h=> ?_,fun id h=> ?_,fun id hd h=> ?_,h2.nos⟩,hN⟩
 ·rcases key id e h with h|⟨hf,h⟩
  ·exact(h2.ent _ _ h).rho rfl rfl (.inl (.eq rfl)) rfl (fun _ _=>rfl) fun g _ _ _ _ hC=>.inl hC
  ·refine(hH.ent _ _ h).kp hkp fun g sz n hr=>⟨hn.block g (hH.realX h hr).1 (hout id e g sz n hf h hr),fun hC=>.inr ⟨hC,hout id e g sz n hf h hr,(hH.realX h hr).1⟩⟩
 ·have cross:∀i i' ee ee' gg ssz nn gg' ssz' nn',hgetX H2 i=some ee->F (rt i')=false->hgetX H i'=some ee'->ee.fz=false->z2.ρ i= .real gg ssz nn->z2.ρ i'= .real gg' ssz' nn'->gg≠gg':=by
   rintro i i' ee ee' gg ssz nn gg' ssz' nn' a1 a2 a3 a4 a5 a6 rfl;have hr':z.ρ i'= .real gg ssz' nn':=by rw[<-hN.ext i' (houtρ i' ee' a2 a3)];exact a6
   have hlt:=(hH.realX a3 hr').1;rcases hn.subC gg ((h2.realX a1 a5).2.1 a4) with h|h
   ·exact hout i' ee' gg ssz' nn' a2 a3 hr' h
   ·exact Nat.not_le.2 hlt h
  rcases key id e p1 with q1|⟨f1,q1⟩<;>rcases key id' e' p2 with q2|⟨f2,q2⟩
  ·exact h2.inj id id' e e' g sz n g' sz' n' hii q1 q2 m1 m2 p3 p4
  ·exact cross id id' e e' g sz n g' sz' n' q1 f2 q2 m1 p3 p4
  ·exact fun h=>cross id' id e' e g' sz' n' g sz n q2 f1 q1 m2 p4 p3 h.symm
  ·have r1:z.ρ id= .real g sz n:=by rw[<-hN.ext id (houtρ id e f1 q1)];exact p3
   have r2:z.ρ id'= .real g' sz' n':=by rw[<-hN.ext id' (houtρ id' e' f2 q2)];exact p4
   exact hH.inj id id' e e' g sz n g' sz' n' hii q1 q2 m1 m2 r1 r2
 ·
  have h0:=c3Z;by_cases hfr:famBase<=id/\id<dynBase
  ·exact .inl (h2.nos id hfr.1 hfr.2)
  have hlk:∀(H:Hp),(dynBase<=id->hkeyX H id=(match hget H (rt id) with|some e=>e.has ((id-dynBase)/16)|none=>hkey H (rt id)))/\(¬dynBase<=id->hkeyX H id=hkey H (rt id)):=fun H=>
   ⟨fun hd=>atZ hd,fun hd=>by rw[azZ (by omega),aHZ (by omega)]⟩
  have k2:hkeyX H2 id=false:=by
   by_cases hd:dynBase<=id
   ·rw[(hlk H2).1 hd];rw[(hlk H3).1 hd] at h;cases hk:hkey H2 (rt id)
    ·rw[aoZ hk]
    ·have h3':=h3 (rt id);rw[hk] at h3';rw[if_pos rfl] at h3';rw[h3'] at h;cases hg:hget H2 (rt id) with
     |none=>
      rw[hg] at h;have h:hkey H3 (rt id)=false:=h;rw[h4 (rt id) (.inl hk)] at h;cases h
     |some e=>rw[hg] at h;exact h
   ·rw[(hlk H2).2 hd];rw[(hlk H3).2 hd] at h;cases hk:hkey H2 (rt id)
    ·rfl
    ·rw[h4 (rt id) (.inl hk)] at h;cases h
  have k1:F (rt id)=false->hkeyX H id=false:=fun hf=>by
   have hk2:hkey H2 (rt id)=false:=by
    cases hk:hkey H2 (rt id)
    ·rfl
    ·have:=hF _ hk;rw[hf] at this;cases this
   by_cases hd:dynBase<=id
   ·rw[(hlk H).1 hd];rw[(hlk H3).1 hd] at h;have h3':=h3 (rt id);rw[hk2,hf] at h3';simp only[Bool.false_eq_true,if_false] at h3';rw[h3'] at h;cases hg:hget H (rt id) with
    |none=>
     rw[hg] at h;have h:hkey H3 (rt id)=false:=h;show hkey H (rt id)=false;cases hk:hkey H (rt id)
     ·rfl
     ·rw[h4 (rt id) (.inr hk)] at h;cases h
    |some e=>rw[hg] at h;exact h
   ·rw[(hlk H).2 hd];rw[(hlk H3).2 hd] at h;cases hk:hkey H (rt id)
    ·rfl
    ·rw[h4 (rt id) (.inr hk)] at h;cases h
  rcases h2.fresh id k2 with h0|h0
  ·exact .inl h0
  ·rw[hn.dom] at h0;rcases h0 with h0|⟨h0,hf⟩
   ·exact .inr h0
   ·rw[k1 hf] at h0;cases h0
 ·rcases hg with hg|⟨hg,hng,hlt⟩
  ·exact h2.sub g hg
  ·exact hn.keepM g hlt (hH.sub g hg) hng
 ·rw[h3] at h;split at h
  ·exact h2.fam id x h
  ·split at h
   ·cases h
   ·exact hH.fam id x h
 ·rcases h5 id h with h|h|h
  ·exact h2.key id h
  ·exact hH.key id h
  ·exact h.1
 ·rcases h5 _ h with h|h|h
  ·have:=h2.dyn id hd h;rw[hn.dom] at this;exact fun hD=>this (.inl hD)
  ·exact hH.dyn id hd h
  ·exact h.2 id rfl
def frzE(e:Ent):Ent:=
 match e.b with
 |.fam e' s ms=>⟨e.fz,.fam e' s (ms.map frz1)⟩
 |_=>e
theorem cxZ:∀(H:Hp) (id:Nat),hget (frzF H) id=(hget H id).map frzE/\hkey (frzF H) id=hkey H id
 |[],id=>⟨rfl,rfl⟩
 |(i,none)::H,id=>by
  obtain⟨h1,h2⟩:=cxZ H id;simp only[frzF,hget,hkey];cases Nat.beq i id
  ·exact⟨h1,h2⟩
  ·exact⟨rfl,rfl⟩
 |(i,some ⟨fz,b⟩)::H,id=>by
  obtain⟨h1,h2⟩:=cxZ H id;cases b<;>simp only[frzF,hget,hkey]<;>cases Nat.beq i id<;>first|exact⟨h1,h2⟩|exact⟨rfl,rfl⟩
theorem kVZ(k:Nat)(e:Ent):pick k (frzE e)=(pick k e).map fun x=>⟨true,x.b⟩:=by
 obtain⟨fz,b⟩:=e;cases b with
 |fam e s ms=>
  simp only[frzE,pick,List.getElem?_map];cases hm:ms[k]? with
  |none=>rfl
  |some m=>
   obtain⟨st,l⟩:=m;simp only[Option.map_some,frz1];by_cases h:st=0
   ·subst h;rfl
   ·rw[if_neg h,aiZ h,bq_false,if_neg (by decide)];cases fz<;>rfl
 |_=>rfl
theorem kOZ(e:Ent)(k:Nat):(frzE e).has k=e.has k:=by
 obtain⟨fz,b⟩:=e;cases b<;>simp[frzE,Ent.has]
theorem lXZ(hH:HRep z H)(id:Nat):hgetX (frzF H) id=(hgetX H id).map (fun x=>⟨x.fz||decide (dynBase<=id),x.b⟩)/\hkeyX (frzF H) id=hkeyX H id:=by
 obtain⟨h1,h2⟩:=cxZ H (rt id);by_cases hd:dynBase<=id
 ·rw[ayZ hd,ayZ hd,atZ hd,atZ hd,h1,h2];refine⟨?_,?_⟩
  ·cases hget H (rt id) with
   |none=>rfl
   |some e=>
    simp only[Option.map_some,Option.bind_some,kVZ,hd,decide_true,Bool.or_true]
  ·cases hget H (rt id) with
   |none=>rfl
   |some e=>simp only[Option.map_some,kOZ]
 ·rw[aHZ (by omega)] at h1 h2;by_cases hf:famBase<=id
  ·unfold hgetX hkeyX;simp only[if_neg hd,if_pos hf];exact⟨rfl,trivial⟩
  ·rw[anZ (by omega),anZ (by omega),azZ (by omega),azZ (by omega),h1,h2];refine⟨?_,rfl⟩;cases hg:hget H id with
   |none=>rfl
   |some e=>
    have:=hH.fam id e hg;obtain⟨fz,b⟩:=e;cases b<;>first|(simp[frzE,hd];done)|(have:=this.1;omega)
theorem mKZ(hH:HRep z H):∃z',z'.w=z.w/\HRep z' (frzF H)/\Nx z z'/\z'.ρ=z.ρ:=by
 let mem:Nat->Prop:=fun g=>∃id e sz n,dynBase<=id/\hgetX H id=some e/\e.fz=false/\z.ρ id= .real g sz n
 let z':Z:={z with M:=fun x=>z.M x/\¬mem x,C:=fun x=>z.C x/\¬mem x}
 have hmC:∀g,mem g->z.C g:=fun g ⟨id,e,sz,n,_,q1,q2,q3⟩=>(hH.realX q1 q3).2.1 q2;have hn:Nx z z':=⟨rfl,⟨rfl,Nat.le_refl _⟩,rfl,Nat.le_refl _,fun _ _ _=>rfl,fun x hx=>.inl hx.1,fun x hx=>.inl hx.1,fun x _ hM hx=>⟨hM,fun h=>hx (hmC x h)⟩,fun _ _=>rfl,rfl⟩;have hkp:=hn.kp hH.sub;have hX:=fun id=>(lXZ hH id).1;have hK:=fun id=>(lXZ hH id).2;refine⟨z',rfl,⟨fun i e hi=> ?_,fun i i' e e' a sa na a' sa' na' hii h1 h2 m1 m2 h3 h4=> ?_,fun i hi=> ?_,fun x hx=>⟨hH.sub x hx.1,hx.2⟩,fun i x h=> ?_,fun i h=>hH.key i (by rw[<-(cxZ H i).2];exact h),fun i hd h=>hH.dyn i hd (by rw[<-(cxZ H _).2];exact h),hH.nos⟩,hn,rfl⟩
 ·rw[hX] at hi;obtain⟨e0,q1,rfl⟩:=Option.map_eq_some_iff.1 hi;have h0:=hH.ent _ _ q1;unfold ERep at h0⊢;show match z.ρ i with|.no=>False|.virt=>_|.real g sz n=>_
  cases hρ:z.ρ i with
  |no=>rw[hρ] at h0;exact h0
  |virt=>rw[hρ] at h0;exact h0
  |real g sz n=>
   rw[hρ] at h0;obtain⟨b1,b2,b3,b4⟩:=h0;refine⟨b1,fun hf=> ?_,fun hf hm=> ?_,b4.kp hkp rfl⟩
   ·simp only[Bool.or_eq_false_iff,decide_eq_false_iff_not] at hf;refine⟨b2 hf.1,?_⟩;rintro⟨id',e',sz',n',p1,p2,p3,p4⟩;exact hH.inj i id' _ _ _ _ _ _ _ _ (fun h=>hf.2 (h▸p1)) q1 p2 hf.1 p3 hρ p4 rfl
   ·simp only[Bool.or_eq_true,decide_eq_true_eq] at hf;cases he:e0.fz
    ·rw[he] at hf;exact hm.2 ⟨i,e0,sz,n,hf.resolve_left (by simp),q1,he,hρ⟩
    ·exact b3 he hm.1
 ·rw[hX] at h1 h2;obtain⟨e1,q1,rfl⟩:=Option.map_eq_some_iff.1 h1;obtain⟨e2,q2,rfl⟩:=Option.map_eq_some_iff.1 h2;simp only[Bool.or_eq_false_iff] at m1 m2;exact hH.inj i i' e1 e2 _ _ _ _ _ _ hii q1 q2 m1.1 m2.1 h3 h4
 ·rw[hK] at hi;exact hH.fresh i hi
 ·rw[(cxZ H i).1] at h;obtain⟨e0,q1,rfl⟩:=Option.map_eq_some_iff.1 h;have:=hH.fam i e0 q1;obtain⟨fz,b⟩:=e0;cases b<;>exact this
theorem hvZ{H:Hp}{f:Nat}{s:Ty}:∀{n:Nat} {ms:List (Nat×List s.den)},fmAt f s (fmsFrom H n)=some ms->∃fz e,hget H (famId f)=some ⟨fz,.fam e s ms⟩
 |0,ms,h=>by cases h
 |n+1,ms,h=>by
  simp only[fmsFrom] at h;split at h
  ·rename_i fz e s' ms' hg;simp only[fmAt] at h;cases hb:Nat.beq n (f%16)<;>rw[hb] at h<;>simp only[bq_true,bq_false] at h
   ·exact hvZ h
   ·rw[abZ] at hb;subst hb;rcases aBZ h with⟨hs,h⟩|h
    ·have hs:s'=s:=hs;subst hs;have:=Option.some.inj h;subst this;exact⟨fz,e,hg⟩
    ·cases h
  ·exact hvZ h
theorem nvZ(hH:HRep z H){f:Nat}{s:Ty}{ms:List (Nat×List s.den)}(h:fmAt f s (fmsOf H)=some ms){k st:Nat}{l:List s.den}(hm:ms[k]? =some (st,l))(hst:2<=st):∃e,ERep z (enc f k) ⟨true,.rows e s l⟩:=by
 obtain⟨fz,e,hg⟩:=hvZ h;have:=eqZ hg hm (by simp only;omega);have h2:=hH.ent _ _ this;rw[show(fz||Nat.ble 2 st)=true by rw[Nat.ble_eq_true_of_le hst,Bool.or_true]] at h2;exact⟨e,h2⟩
theorem cfZ(hH:HRep z H):{t:Ty}->{x:t.den}->{y:t.unref.den}->{vs:List Value}->unrefD (fmsOf H) t x=some y->Cl z.w z.M z.ρ t x vs->Cl z.w z.M z.ρ t.unref y vs
 |.one t,x,y,vs,h,hc=>cfZ hH (t:=t) h hc
 |.pair a b,x,y,vs,h,hc=>by
  obtain⟨u,v,rfl,h1,h2⟩:=hc;simp only[unrefD] at h;obtain⟨p,h3,h4⟩:=Option.bind_eq_some_iff.1 h;obtain⟨q,h5,rfl⟩:=Option.map_eq_some_iff.1 h4;exact⟨u,v,rfl,cfZ hH h3 h1,cfZ hH h5 h2⟩
 |.ref f t,.inl l,y,vs,h,hc=>by
  obtain rfl:=Option.some.inj h;exact hc
 |.ref f t,.inr none,y,vs,h,hc=>by
  obtain rfl:=Option.some.inj h;obtain rfl:vs=[.slice none 0 0]:=hc;exact⟨none,0,rfl,Nat.le_refl _,by unfold maxLen;omega,fun _=>rfl,fun h=>absurd rfl h⟩
 |.ref f t,.inr (some (k,off,n)),y,vs,h,hc=>by
  have h:((fmAt f t (fmsOf H)).ob fun ms=>memb ms k off n)=some y:=h;obtain⟨ms,h1,h2⟩:=aeZ.1 h;unfold memb at h2;split at h2
  ·rename_i st l hm;cases hb:(Nat.ble 2 st&&Nat.ble (off+n) l.length)<;>rw[hb] at h2<;>simp only[bq_true,bq_false] at h2
   ·cases h2
   simp only[Bool.and_eq_true,Nat.ble_eq] at hb;obtain⟨hst,hn⟩:=hb;obtain rfl:(l.drop off).take n=y:=Option.some.inj h2;obtain⟨e,hE⟩:=nvZ hH h1 hm hst;have hlen:((l.drop off).take n).length=n:=by rw[List.length_take,List.length_drop];omega
   unfold ERep at hE;rcases hc with⟨A,hρ,rfl,rfl⟩|⟨g,sz,m,c,hρ,h3,h4,h5,rfl⟩
   ·refine⟨A,0,?_,?_,by unfold maxLen;omega,fun _=>rfl,fun h=>absurd hlen h⟩
    ·rw[show List.length (α:=t.den) (List.take 0 (List.drop off l))=0 from hlen]
    ·rw[show List.length (α:=t.den) (List.take 0 (List.drop off l))=0 from hlen];omega
   ·rw[hρ] at hE;obtain⟨q1,_,q2,q3⟩:=hE;refine⟨some ⟨g,off*t.cells,none⟩,c,?_,?_,h5,(fun h=>by cases h),fun _=>⟨g,off*t.cells,rfl,q2 rfl,q1,?_⟩⟩
    ·rw[show List.length (α:=t.den) (List.take n (List.drop off l))=n from hlen]
    ·rw[show List.length (α:=t.den) (List.take n (List.drop off l))=n from hlen];exact h3
    ·have:=q3.rowAt.sub off n;rwa [Nat.zero_add] at this
  ·cases h2
 |.int _,x,y,vs,h,hc|.byte,x,y,vs,h,hc|.bool,x,y,vs,h,hc|.str,x,y,vs,h,hc|.opq,x,y,vs,h,hc|.nat,x,y,vs,h,hc|.ptr _,x,y,vs,h,hc|.sl _,x,y,vs,h,hc|.arr _ _,x,y,vs,h,hc=>by
  obtain rfl:=Option.some.inj h;exact hc
theorem eTZ{α γ:Type}{g:α->Option γ}:∀{l:List α} {l':List γ},unrefL g l=some l'->l'.length=l.length/\∀(i:Nat) y,l'[i]? =some y->∃x,l[i]? =some x/\g x=some y
 |[],l',h=>by
  obtain rfl:=Option.some.inj h;exact⟨rfl,fun i y h=>by simp at h⟩
 |x::l,l',h=>by
  obtain⟨y,h1,h2⟩:=Option.bind_eq_some_iff.1 h;obtain⟨l1,h3,rfl⟩:=Option.map_eq_some_iff.1 h2;obtain⟨q1,q2⟩:=eTZ h3;refine⟨by simp[q1],fun i y' hi=> ?_⟩
  match i with
  |0=>simp at hi;subst hi;exact⟨x,rfl,h1⟩
  |i+1=>exact q2 i y' (by simpa using hi)
theorem hSZ{t:Ty}{g:t.den->Option t.unref.den}(hg:∀{x:t.den} {y:t.unref.den} {vs:List Value},g x=some y->Cl z.w z.M z.ρ t x vs->Cl z.w z.M z.ρ t.unref y vs){l:List t.den}{l':List t.unref.den}{v:Value}(h:unrefL g l=some l')(hv:VRep z.w z.M z.ρ (.sl t) l v):VRep z.w z.M z.ρ (.sl t.unref) l' v:=by
 obtain⟨A,c,rfl,h1,h2,h3,h4⟩:=hv.sl;obtain⟨q1,q2⟩:=eTZ h;refine .mkSc ⟨A,c,?_,?_,h2,h3,fun h0=> ?_⟩ rfl
 ·rw[show List.length (α:=t.unref.den) l'=l.length from q1]
 ·rw[show List.length (α:=t.unref.den) l'=l.length from q1];exact h1
 ·rw[show List.length (α:=t.unref.den) l'=l.length from q1] at h0;obtain⟨b,off,p1,p2,p3,p4⟩:=h4 h0;refine⟨b,off,p1,p2,p3,fun i e he=> ?_⟩;obtain⟨x,hx,hxe⟩:=q2 i e he;obtain⟨u,r1,r2⟩:=p4 i x hx;exact⟨u,hg hxe r1,by rw[aqZ];exact r2⟩
theorem VRep.unref{t:Ty}{x:t.den}{y:t.unref.den}{v:Value}(hv:VRep z.w z.M z.ρ t x v)(h:∀vs,Cl z.w z.M z.ρ t x vs->Cl z.w z.M z.ρ t.unref y vs):VRep z.w z.M z.ρ t.unref y v:=by
 obtain⟨vs,h1,h2⟩:=hv;exact⟨vs,h vs h1,by rw[dIZ];exact h2⟩
section
variable {β : Type}
theorem gXZ(hH:HRep z H){a:AV}{K:AV->Option β}{r:β}{v:Value}(h:unref1 (fmsOf H) a K=some r)(ha:ARep z a v):∃x,ARep z x v/\K x=some r:=by
 unfold unref1 at h;split at h
 ·rename_i t l;cases hn:t.noRef<;>rw[hn] at h<;>simp only[bq_true,bq_false] at h
  ·obtain⟨l',h1,h2⟩:=Option.bind_eq_some_iff.1 h;exact⟨_,.p _ _ _ (hSZ (fun h hc=>cfZ hH h hc) h1 ha.v),h2⟩
  ·exact⟨_,ha,h⟩
 ·rename_i t x _;cases hn:t.noRef<;>rw[hn] at h<;>simp only[bq_true,bq_false] at h
  ·obtain⟨y,h1,h2⟩:=Option.bind_eq_some_iff.1 h;exact⟨_,.p _ _ _ (ha.v.unref fun vs hc=>cfZ hH h1 hc),h2⟩
  ·exact⟨_,ha,h⟩
 ·exact⟨_,ha,(adZ.1 h).2⟩
 ·exact⟨_,ha,h⟩
theorem eJZ(hH:HRep z H):∀{l:List AV} {K:List AV->Option β} {r:β} {vs:List Value},unref1L (fmsOf H) l K=some r->AReps z l vs->∃l',AReps z l' vs/\K l'=some r
 |[],K,r,vs,h,hv=>⟨[],hv,h⟩
 |a::l,K,r,[],h,hv=>by have:=hv.1;simp at this
 |a::l,K,r,v::vs,h,hv=>by
  obtain⟨x,h1,h2⟩:=gXZ hH h hv.head;obtain⟨l',h3,h4⟩:=eJZ hH h2 hv.tail;exact⟨x::l',.cons h1 h3,h4⟩
theorem jVZ{a:AV}{K:AV->Option β}{r:β}{v:Value}(h:low1 a K=some r)(ha:ARep z a v):∃x,ARep z x v/\K x=some r:=by
 unfold low1 at h;split at h
 ·rename_i t l;cases hn:t.noRef<;>rw[hn] at h<;>simp only[bq_true,bq_false] at h
  ·obtain⟨l',h1,h2⟩:=Option.bind_eq_some_iff.1 h;exact⟨_,.p _ _ _ (hSZ (fun h hc=>dHZ h hc) h1 ha.v),h2⟩
  ·exact⟨_,ha,h⟩
 ·rename_i t x _;cases hn:t.noRef<;>rw[hn] at h<;>simp only[bq_true,bq_false] at h
  ·obtain⟨y,h1,h2⟩:=Option.bind_eq_some_iff.1 h;exact⟨_,.p _ _ _ (ha.v.unref fun vs hc=>dHZ h1 hc),h2⟩
  ·exact⟨_,ha,h⟩
 ·exact⟨_,ha,h⟩
theorem hXZ:∀{l:List AV} {K:List AV->Option β} {r:β} {vs:List Value},low1L l K=some r->AReps z l vs->∃l',AReps z l' vs/\K l'=some r
 |[],K,r,vs,h,hv=>⟨[],hv,h⟩
 |a::l,K,r,[],h,hv=>by have:=hv.1;simp at this
 |a::l,K,r,v::vs,h,hv=>by
  obtain⟨x,h1,h2⟩:=jVZ h hv.head;obtain⟨l',h3,h4⟩:=hXZ h2 hv.tail;exact⟨x::l',.cons h1 h3,h4⟩
theorem lZZ{l:List AV}{cs:Array Value}(ha:ARep z (.agg l) (.agg cs)){z':Z}{l':List AV}(h:AReps z' l' cs.toList):ARep z' (.agg l') (.agg cs):=by
 cases ha with|agg _ _ hs h1 h2=>
 exact .agg _ _ (by have:=h.1;simpa using this.symm) h1 fun i x v p1 p2=>h.2 i x v p1 (by simpa using p2)
theorem kUZ{a:AV}{K:AV->Option β}{r:β}{v:Value}(h:lowAK a K=some r)(ha:ARep z a v):∃x,ARep z x v/\K x=some r:=by
 unfold lowAK at h;split at h
 ·rename_i l;cases hv:v<;>rw[hv] at ha<;>first|(cases ha;done)|skip;rename_i cs;obtain⟨l',h1,h2⟩:=hXZ h ha.reps;exact⟨_,lZZ ha h1,h2⟩
 ·exact jVZ h ha
theorem juZ{a:AV}{K:AV->Hp->Option β}{r:β}{v:Value}(hH:HRep z H)(h:unrefAK H a K=some r)(ha:ARep z a v):∃x H' z',z'.w=z.w/\HRep z' H'/\Nx z z'/\z'.ρ=z.ρ/\ARep z' x v/\K x H'=some r:=by
 obtain⟨z',q1,q2,q3,q4⟩:=mKZ hH;have kp:=q3.kp hH.sub;unfold unrefAK at h;split at h
 ·rename_i l;cases hb:anyRefL l<;>rw[hb] at h<;>simp only[bq_true,bq_false] at h
  ·exact⟨_,H,z,rfl,hH,Nx.refl z,rfl,ha,h⟩
  ·cases hv:v<;>rw[hv] at ha<;>first|(cases ha;done)|skip;rename_i cs;obtain⟨l',h1,h2⟩:=eJZ q2 h (ha.reps.kp kp);exact⟨_,_,z',q1,q2,q3,q4,lZZ ha h1,h2⟩
 ·cases hb:a.anyRef<;>rw[hb] at h<;>simp only[bq_true,bq_false] at h
  ·exact⟨_,H,z,rfl,hH,Nx.refl z,rfl,ha,h⟩
  ·obtain⟨x,h1,h2⟩:=gXZ q2 h (ha.kp kp);exact⟨_,_,z',q1,q2,q3,q4,h1,h2⟩
theorem d0Z{a a':AV}{H':Hp}{v:Value}(hH:HRep z H)(h:pureF H a=some (a',H'))(ha:ARep z a v):
 ∃z',z'.w=z.w/\HRep z' H'/\Nx z z'/\z'.ρ=z.ρ/\ARep z' a' v:=by
 unfold pureF at h;obtain⟨⟨x,H1⟩,h1,h2⟩:=aeZ.1 h;obtain⟨z1,p1,p2,p3,p4,p5⟩:=bVZ hH h1 ha;obtain⟨y,H2,z2,q1,q2,q3,q4,q5,q6⟩:=juZ p2 h2 p5;obtain⟨rfl,rfl⟩:=Prod.mk.inj (Option.some.inj q6);exact⟨z2,q1.trans p1,q2,p3.trans q3,q4.trans p4,q5⟩
end
end
end Go.Ab
namespace Go.Ab
section
variable {P : Program} {z : Z} {H : Hp} {β : Type}
theorem a9Z(H:Hp):∀(K:Hp) (id:Nat),hget (setAll H K) id=if hkey K id then hget K id else hget H id
 |[],id=>by simp[setAll,hkey]
 |(i,e)::K,id=>by
  simp only[setAll,akZ,hkey,hget];by_cases h:id=i
  ·subst h;simp[(abZ id id).2 rfl]
  ·simp[aiZ (Ne.symm h),h,a9Z H K id]
theorem a1Z(H:Hp):∀(K:Hp) (id:Nat),hkey (setAll H K) id=(hkey K id||hkey H id)
 |[],id=>by simp[setAll,hkey]
 |(i,e)::K,id=>by
  simp only[setAll,amZ,hkey];by_cases h:id=i
  ·subst h;simp[(abZ id id).2 rfl]
  ·simp[aiZ (Ne.symm h),h,a1Z H K id]
theorem aGZ:∀(l:List Nat) (H:Hp) (id:Nat),hget (killAll H l) id=if memN id l then none else hget H id
 |[],H,id=>by simp[killAll,memN]
 |i::l,H,id=>by
  rw[killAll,aGZ l,akZ];simp only[memN];by_cases h:id=i
  ·subst h;simp[(abZ id id).2 rfl]
  ·simp[aiZ (Ne.symm h),h]
theorem a8Z:∀(l:List Nat) (H:Hp) (id:Nat),hkey (killAll H l) id=(memN id l||hkey H id)
 |[],H,id=>by simp[killAll,memN]
 |i::l,H,id=>by
  rw[killAll,a8Z l,amZ];simp only[memN];by_cases h:id=i
  ·subst h;simp[(abZ id id).2 rfl]
  ·simp[aiZ (Ne.symm h),h]
theorem biZ(H:Hp):∀(l:List Nat) (id:Nat),hget (hsub H l) id=(if memN id l then hget H id else none)/\hkey (hsub H l) id=(memN id l&&hkey H id)
 |[],id=>by simp[hsub,memN,hget,hkey]
 |i::l,id=>by
  obtain⟨h1,h2⟩:=biZ H l id;simp only[hsub,memN];cases hk:hkey H i
  ·simp only[bq_false];rw[h1,h2];by_cases h:i=id
   ·subst h;simp only[(abZ i i).2 rfl,cond_true,if_true,hk,Bool.and_false,Bool.true_and,and_true];rw[aoZ hk];split<;>rfl
   ·simp[aiZ h]
  ·simp only[bq_true,hget,hkey];by_cases h:i=id
   ·subst h;simp[(abZ i i).2 rfl,hk]
   ·simp[aiZ h,h1,h2]
theorem cSZ:∀{H:Hp} {id:Nat},hkey H id=true↔id∈hkeys H
 |[],id=>by simp[hkey,hkeys]
 |(i,e)::H,id=>by
  simp only[hkey,hkeys,List.mem_cons];by_cases h:i=id
  ·subst h;simp[(abZ i i).2 rfl]
  ·simp only[aiZ h,cond_false,cSZ];exact⟨.inr,fun h'=>h'.resolve_left (Ne.symm h)⟩
theorem cGZ{id:Nat}:∀{l:List Nat},id∈nubN l↔id∈l
 |[]=>by simp[nubN]
 |i::l=>by
  simp only[nubN];cases hm:memN i l
  ·simp only[bq_false,List.mem_cons,cGZ]
  ·simp only[bq_true,List.mem_cons,cGZ];exact⟨.inr,fun h=>h.elim (fun e=>e▸agZ.1 hm) fun h=>h⟩
theorem h1Z:∀{l r:List Nat},eqN l r=true↔l=r
 |[],[]=>by simp[eqN]
 |[],_::_=>by simp[eqN]
 |_::_,[]=>by simp[eqN]
 |i::l,k::r=>by simp only[eqN,Bool.and_eq_true,abZ,h1Z,List.cons.injEq]
theorem ARep.less{z':Z}{a:AV}{v:Value}(h:ARep z a v)(hw:z'.w=z.w)(hr:z'.ρ=z.ρ)(hM:∀g,z'.M g->z.M g):ARep z' a v:=
 h.kp ⟨by rw[hw];exact Nat.le_refl _,fun _ _ _=>by rw[hw],fun g hg=>.inl (hM g hg),fun _ _=>by rw[hr]⟩
theorem AReps.less{z':Z}{l:List AV}{vs:List Value}(h:AReps z l vs)(hw:z'.w=z.w)(hr:z'.ρ=z.ρ)(hM:∀g,z'.M g->z.M g):AReps z' l vs:=
 ⟨h.1,fun i a v h1 h2=>(h.2 i a v h1 h2).less hw hr hM⟩
theorem mMZ{m:Nat}{a a':AV}{H':Hp}{v:Value}(hH:HRep z H)(hmd:m<4\/¬z.D (m+100000))(h:argM P H m a=some (a',H'))(ha:ARep z a v):
 ∃z1 Mf,z1.w=z.w/\HRep z1 H'/\Nx z z1/\(∀g,Mf g->z1.M g)/\ARep {z1 with M:=Mf} a' v/\(m≠2->Mf=z1.M):=by
 unfold argM at h;split at h
 ·simp only[Option.some.injEq,Prod.mk.injEq] at h;obtain⟨rfl,rfl⟩:=h;exact⟨z,z.M,rfl,hH,Nx.refl z,fun _ h=>h,ha,fun _=>rfl⟩
 ·obtain⟨z',q1,q2,q3,q4,q5⟩:=d0Z hH h ha;exact⟨z',z'.M,q1,q2,q3,fun _ h=>h,q5,fun _=>rfl⟩
 ·obtain⟨⟨x,H1⟩,h1,h2⟩:=Option.map_eq_some_iff.1 h;simp only[Prod.mk.injEq] at h2;obtain⟨rfl,rfl⟩:=h2;obtain⟨z',q1,q2,q3,q4,q5⟩:=d0Z hH h1 ha;refine⟨z,fun g=>z.M g/\z'.M g,rfl,hH,Nx.refl z,fun _ h=>h.1,?_,fun h=>absurd rfl h⟩;exact q5.less (z':={z with M:=fun g=>z.M g/\z'.M g}) q1.symm q4.symm fun g h=>h.2
 ·obtain⟨x,h1,h2⟩:=kUZ h ha;obtain⟨rfl,rfl⟩:=Prod.mk.inj (Option.some.inj h2);exact⟨z,z.M,rfl,hH,Nx.refl z,fun _ h=>h,h1,fun _=>rfl⟩
 ·rename_i m' h0 h1 h2 h3';have hmm:¬z.D (m+100000):=by
   refine hmd.resolve_left fun hm=> ?_;have:m=0\/m=1\/m=2\/m=3:=by omega
   rcases this with rfl|rfl|rfl|rfl
   ·exact h0 rfl
   ·exact h1 rfl
   ·exact h2 rfl
   ·exact h3' rfl
  clear h0 h1 h2 h3' hmd;split at h
  ·rename_i f s x;split at h
   ·rename_i e s' ms hg;rcases aBZ h with⟨hs,hh⟩|hh
    ·clear h;subst hs;obtain⟨hb,h⟩:=adZ.1 hh;simp only[Bool.and_eq_true,abZ,Nat.blt_eq,Bool.not_eq_true'] at hb;obtain⟨⟨rfl,hk⟩,hlow⟩:=hb;obtain⟨⟨l',ms'⟩,h1,h2⟩:=Option.bind_eq_some_iff.1 h;obtain⟨rfl,rfl⟩:=Prod.mk.inj (Option.some.inj h2);have hfo:=hH.fam _ _ hg;have hD:=hmm;have hne:famId f≠m+100000:=by have:=(b1Z f).1;omega
     clear h2 hh h;have hv:=ha.v.scal rfl rfl
     match x,h1,hv with
     |.inl l,h1,hv=>cases h1
     |.inr none,h1,hv=>
      obtain⟨rfl,rfl⟩:=Prod.mk.inj (Option.some.inj h1);have hv:[v]=[Value.slice none 0 0]:=hv;simp only[List.cons.injEq,and_true] at hv;subst hv;have hsame:HRep z (hset H (famId f) (some ⟨false,.fam ((m-10)%5000) s' ms⟩)):=by
       refine hH.same (fun id=> ?_) fun id=> ?_
       ·rw[akZ];by_cases hi:id=famId f
        ·rw[if_pos hi,hi];exact hg.symm
        ·rw[if_neg hi]
       ·rw[amZ];by_cases hi:id=famId f
        ·rw[hi,ahZ hg];simp
        ·simp[hi]
      obtain⟨z1,p1,p2,p3,p4⟩:=hsame.newV (id:=m+100000) ⟨by rw[amZ,hk];simp[Ne.symm hne],hlow⟩ hD (b:=.rows ((m-10)%5000) s' []) ⟨rfl,hfo.2.2.2.1⟩;exact⟨z1,z1.M,p1,p2,p3,fun _ h=>h,.slfV _ _ _ p4,fun _=>rfl⟩
     |.inr (some (k,off,n)),h1,hv=>
      obtain⟨⟨st,l⟩,h3,h4⟩:=Option.bind_eq_some_iff.1 h1;obtain⟨h5,h6⟩:=adZ.1 h4;simp only[Bool.and_eq_true,abZ,Nat.ble_eq] at h5;obtain⟨⟨hst,rfl⟩,hn⟩:=h5;obtain⟨rfl,rfl⟩:=Prod.mk.inj (Option.some.inj h6);subst hst;have hgX:hgetX H (enc f k)=some ⟨false,.rows ((m-10)%5000) s' l⟩:=eqZ hg h3 (by simp);have hlt:=(List.getElem?_eq_some_iff.1 h3).1;have hX1:∀i,hgetX (hset H (famId f) (some ⟨false,.fam ((m-10)%5000) s' (ms.set k (0,l))⟩)) i=if i=enc f k then none else hgetX H i:=fun i=>by
       by_cases hi:∃k',i=enc f k'
       ·obtain⟨k',rfl⟩:=hi;rw[(bbZ H f _ 0).1 k'];by_cases hk:k'=k
        ·subst hk;rw[if_pos rfl];simp only[Option.bind_some,pick];rw[List.getElem?_set_self hlt]
         rfl
        ·rw[if_neg fun h=>hk (fHZ h).2,bNZ,hg];simp only[Option.bind_some,pick];rw[List.getElem?_set_ne (Ne.symm hk)]
       ·rw[(bbZ H f _ i).2 fun k' h=>hi ⟨k',h⟩,if_neg fun h=>hi ⟨k,h⟩]
      have hK1:∀i,hkeyX (hset H (famId f) (some ⟨false,.fam ((m-10)%5000) s' (ms.set k (0,l))⟩)) i=false->hkeyX H i=false:=fun i hi=>by
       by_cases hi':∃k',i=enc f k'
       ·obtain⟨k',rfl⟩:=hi';rw[(buZ H f _ 0).1 k'] at hi;rw[atZ (bgZ f k'),c1Z,iAZ,hg];simpa[Ent.has] using hi
       ·rwa [(buZ H f _ i).2 fun k' h=>hi' ⟨k',h⟩] at hi
      have hk1:∀i,hkey (hset H (famId f) (some ⟨false,.fam ((m-10)%5000) s' (ms.set k (0,l))⟩)) i=hkey H i:=fun i=>by
       rw[amZ];by_cases hi:i=famId f
       ·rw[hi,ahZ hg];simp
       ·simp[hi]
      have h1H:HRep z (hset H (famId f) (some ⟨false,.fam ((m-10)%5000) s' (ms.set k (0,l))⟩)):=by
       have q:∀i e,hgetX (hset H (famId f) (some ⟨false,.fam ((m-10)%5000) s' (ms.set k (0,l))⟩)) i=some e->hgetX H i=some e:=fun i e h=>by
        rw[hX1] at h;split at h
        ·cases h
        ·exact h
       refine⟨fun i e h=>hH.ent i e (q i e h),fun i i' e e' g sz n g' sz' n' hii p1 p2 m1 m2 p3 p4=>hH.inj i i' e e' g sz n g' sz' n' hii (q _ _ p1) (q _ _ p2) m1 m2 p3 p4,fun i hi=>hH.fresh i (hK1 i hi),hH.sub,fun i x h=> ?_,fun i h=>hH.key i (by rw[<-hk1];exact h),fun i hd h=>hH.dyn i hd (by rw[<-hk1];exact h),hH.nos⟩;rw[akZ] at h;by_cases hi:i=famId f
       ·rw[if_pos hi] at h;injection h with h;subst h;rw[hi];exact hfo
       ·rw[if_neg hi] at h;exact hH.fam i x h
      have hkn:hkey (hset H (famId f) (some ⟨false,.fam ((m-10)%5000) s' (ms.set k (0,l))⟩)) (m+100000)=false:=by rw[hk1];exact hk
      rcases hv with⟨A,hρ,rfl,hv⟩|⟨g,sz,m',c,hρ,h7,h8,h9,hv⟩
      ·simp only[List.cons.injEq,and_true] at hv;subst hv;have hE:=hH.ent _ _ hgX;unfold ERep at hE;rw[hρ] at hE;obtain⟨z1,p1,p2,p3,p4⟩:=h1H.newV (id:=m+100000) ⟨hkn,hlow⟩ hD (b:=.rows ((m-10)%5000) s' (l.take 0)) ⟨by simp,hfo.2.2.2.1⟩;exact⟨z1,z1.M,p1,p2,p3,fun _ h=>h,.slfV _ _ _ p4,fun _=>rfl⟩
      ·simp only[List.cons.injEq,and_true] at hv;subst hv;obtain⟨z1,p1,p2,p3,p4⟩:=hH.moveX (w':=z.w) (id:=m+100000) (n':=n) (b:=.rows ((m-10)%5000) s' (l.take n)) hgX hρ h1H (fun i e h=>by
        rw[hX1] at h;split at h
        ·cases h
        ·rename_i hne';exact⟨h,hne'⟩) ⟨hkn,hlow⟩ hD rfl ⟨rfl,Nat.le_refl _⟩ rfl rfl (fun _ _=>rfl) (fun z1 hw kp=>by
        have hB:=(hH.realX hgX hρ).2.2.2;obtain⟨cs,fr,a1,a2,a3,a4,a5,a6,a7⟩:=hB.kp kp (by rw[hw]);refine⟨cs,fr,a1,a2,a3,by rw[List.length_take];omega,?_,a6,fun i x hx=> ?_⟩
        ·rw[List.length_take];exact Nat.le_trans (Nat.mul_le_mul_right _ (Nat.min_le_right _ _)) a5
        ·rw[List.getElem?_take] at hx;split at hx
         ·exact a7 i x hx
         ·cases hx)
       refine⟨z1,z1.M,p1,p2,p3,fun _ h=>h,?_,fun _=>rfl⟩;rw[Nat.zero_mul];exact .slf _ _ _ _ _ _ p4 h7 (by rw[Nat.zero_add] at h8;exact h8) h9
    ·cases hh
   ·cases h
  ·obtain⟨u,h3,h4⟩:=aeZ.1 h;cases hk:(hkey H (m+100000)||Nat.ble famBase (m+100000))<;>rw[hk] at h4<;>simp only[bq_true,bq_false] at h4
   ·simp only[Option.some.injEq,Prod.mk.injEq] at h4;obtain⟨rfl,rfl⟩:=h4;simp only[Bool.or_eq_false_iff] at hk;have hlow:m+100000<famBase:=Nat.not_le.1 fun h=>by rw[Nat.ble_eq_true_of_le h] at hk;cases hk.2
    obtain⟨z1,p1,p2,p3,p4⟩:=hH.newV ⟨hk.1,hlow⟩ (hmm) (b:=.rows ((m-10)%5000) u []) ⟨rfl,(cjZ h3).2.1⟩;obtain rfl:=ha.v.opq.1;exact⟨z1,z1.M,p1,p2,p3,fun _ h=>h,.slfV _ _ _ p4,fun _=>rfl⟩
   ·cases h4
  ·rename_i es old n;split at h
   ·rename_i e t l hg;cases hb:(Nat.beq es t.cells&& !hkey H (m+100000)&&Nat.blt (m+100000) famBase&&Nat.ble n l.length)<;>rw[hb] at h<;>simp only[bq_true,bq_false] at h
    ·cases h
    simp only[Bool.and_eq_true,abZ,Nat.ble_eq,Nat.blt_eq,Bool.not_eq_true'] at hb;obtain⟨⟨⟨rfl,hk⟩,hlow⟩,hn⟩:=hb;simp only[Option.some.injEq,Prod.mk.injEq] at h;obtain⟨rfl,rfl⟩:=h;have hk':hkey (hset H old none) (m+100000)=false:=by
     rw[amZ,hk];have:m+100000≠old:=fun h=>by rw[h,ahZ hg] at hk;cases hk
     simp[this]
    have hD:=hmm;have hvirt:z.ρ old= .virt->∃z1,z1.w=z.w/\HRep z1 (hset (hset H old none) (m+100000) (some ⟨false,.rows e t (l.take n)⟩))/\Nx z z1/\z1.ρ (m+100000)= .virt:=fun hρ=>by
     obtain⟨rfl,hc⟩:=hH.virt hg hρ;exact(hH.kill (ahZ hg)).newV ⟨hk',hlow⟩ hD ⟨by simp,hc⟩
    have hreal:∀g sz k,z.ρ old= .real g sz k->∃z1,z1.w=z.w/\HRep z1 (hset (hset H old none) (m+100000) (some ⟨false,.rows e t (l.take n)⟩))/\Nx z z1/\z1.ρ (m+100000)= .real g sz n:=fun g sz k hρ=>by
     refine hH.move (w':=z.w) hg hρ ⟨hk',hlow⟩ hD rfl ⟨rfl,Nat.le_refl _⟩ rfl rfl (fun _ _=>rfl) fun z1 hw kp=> ?_;have hB:=(hH.real hg hρ).2.2.2;obtain⟨cs,fr,a1,a2,a3,a4,a5,a6,a7⟩:=hB.kp kp (by rw[hw]);refine⟨cs,fr,a1,a2,a3,by rw[List.length_take];omega,?_,a6,fun i x hx=> ?_⟩
     ·rw[List.length_take];exact Nat.le_trans (Nat.mul_le_mul_right _ (Nat.min_le_right _ _)) a5
     ·rw[List.getElem?_take] at hx;split at hx
      ·exact a7 i x hx
      ·cases hx
    cases ha with
    |slV _ _ _ A hρ=>
     obtain⟨z1,p1,p2,p3,p4⟩:=hvirt hρ;exact⟨z1,z1.M,p1,p2,p3,fun _ h=>h,.slfV _ _ _ p4,fun _=>rfl⟩
    |slE _ _ _ g sz k o hρ=>
     obtain⟨_,_,_,cs,fr,a1,a2,a3,a4,a5,a6,a7⟩:=hH.real hg hρ;obtain⟨z1,p1,p2,p3,p4⟩:=(hH.kill (ahZ hg)).newV ⟨hk',hlow⟩ hD (b:=.rows e t (l.take 0)) ⟨by simp,a6⟩;exact⟨z1,z1.M,p1,p2,p3,fun _ h=>h,.slfV _ _ _ p4,fun _=>rfl⟩
    |sl _ _ _ _ g sz k c hρ hnc hs hm=>
     obtain⟨z1,p1,p2,p3,p4⟩:=hreal g sz k hρ;refine⟨z1,z1.M,p1,p2,p3,fun _ h=>h,?_,fun _=>rfl⟩;rw[Nat.zero_mul];exact .slf _ _ _ _ _ _ p4 hnc (by rw[Nat.zero_add] at hs;exact hs) hm
   ·simp only[Option.some.injEq,Prod.mk.injEq] at h;obtain⟨rfl,rfl⟩:=h;exact⟨z,z.M,rfl,hH,Nx.refl z,fun _ h=>h,ha,fun _=>rfl⟩
  ·simp only[Option.some.injEq,Prod.mk.injEq] at h;obtain⟨rfl,rfl⟩:=h;exact⟨z,z.M,rfl,hH,Nx.refl z,fun _ h=>h,ha,fun _=>rfl⟩
theorem fkZ:∀{as:List AV} {ms:List Nat} {as':List AV} {z:Z} {H H':Hp} {vs:List Value},HRep z H->(∀m∈ms,m<4\/¬z.D (m+100000))->argsM P H ms as=some (as',H')->AReps z as vs->
 ∃z1 Mf,z1.w=z.w/\HRep z1 H'/\Nx z z1/\(∀g,Mf g->z1.M g)/\AReps {z1 with M:=Mf} as' vs/\(memN 2 ms=false->Mf=z1.M)
 |[],ms,as',z,H,H',vs,hH,hmd,h,hr=>by
  simp only[argsM,Option.some.injEq,Prod.mk.injEq] at h;obtain⟨rfl,rfl⟩:=h;exact⟨z,z.M,rfl,hH,Nx.refl z,fun _ h=>h,hr,fun _=>rfl⟩
 |a::as,ms,as',z,H,H',vs,hH,hmd,h,hr=>by
  simp only[argsM] at h;obtain⟨⟨x,H1⟩,h1,h2⟩:=aeZ.1 h;obtain⟨⟨y,H2⟩,h3,h4⟩:=Option.map_eq_some_iff.1 h2;simp only[Prod.mk.injEq] at h4;obtain⟨rfl,rfl⟩:=h4
  match vs,hr with
  |[],hr=>have:=hr.1;simp at this
  |v::vs,hr=>
   have e1:ms.headD 0<4\/¬z.D (ms.headD 0+100000):=by cases ms with|nil=>exact .inl (by simp)|cons m ms=>exact hmd m (by simp)
   obtain⟨z1,Mf,q1,q2,q3,q4,q5,q6⟩:=mMZ hH e1 h1 hr.head;have e2:∀m∈ms.tail,m<4\/¬z1.D (m+100000):=fun m hm=>(hmd m (List.mem_of_mem_tail hm)).imp_right fun h=>by rw[q3.dom];exact h
   obtain⟨z2,Mg,p1,p2,p3,p4,p5,p6⟩:=fkZ q2 e2 h3 (hr.tail.kp (q3.kp hH.sub));have k:=p3.kp q2.sub;refine⟨z2,fun g=>Mg g/\(Mf g\/z1.w.heap.size<=g),p1.trans q1,p2,q3.trans p3,fun g h=>p4 g h.1,.cons ?_ (p5.less rfl rfl fun g h=>h.1),fun hm=> ?_⟩
   ·have kk:Kp {z1 with M:=Mf} {z2 with M:=fun g=>Mg g/\(Mf g\/z1.w.heap.size<=g)}:=⟨k.size,fun b _ _=>by show z2.w.heap[b]? =z1.w.heap[b]?;rw[p1],fun g h=>h.2,k.ext⟩;exact q5.kp kk
   ·have m1:ms.headD 0≠2/\memN 2 ms.tail=false:=by
     cases ms with
     |nil=>exact⟨by simp,rfl⟩
     |cons m ms=>
      simp only[memN] at hm;cases hb:Nat.beq m 2<;>rw[hb] at hm<;>simp at hm;exact⟨fun h=>by simp only[List.headD_cons] at h;rw[h] at hb;simp[Nat.beq] at hb,hm⟩
    have a1:=q6 m1.1;have a2:=p6 m1.2;subst a1;subst a2;funext g;refine propext ⟨fun h=>h.1,fun h=>⟨h,?_⟩⟩;exact k.subM g h
end
end Go.Ab
namespace Go.Ab
section
variable {P : Program} {z : Z} {H : Hp} {β : Type}
theorem Cl.scal{w w':World}{M M':Nat->Prop}{ρ ρ':Rho}:{t:Ty}->{x:t.den}->{vs:List Value}->t.scal=true->Cl w M ρ t x vs->Cl w' M' ρ' t x vs
 |.int _,_,_,_,h|.byte,_,_,_,h|.bool,_,_,_,h|.str,_,_,_,h=>h
 |.nat,_,_,_,h=>h.elim
 |.opq,_,_,hs,_=>by cases hs
 |.sl _,_,_,hs,_=>by cases hs
 |.ref _ _,_,_,hs,_=>by cases hs
 |.one t,_,_,hs,h=>Cl.scal (t:=t) hs h
 |.pair a b,_,_,hs,h=>by
  obtain⟨u,v,rfl,h1,h2⟩:=h;simp only[Ty.scal,Bool.and_eq_true] at hs;exact⟨u,v,rfl,Cl.scal hs.1 h1,Cl.scal hs.2 h2⟩
 |.arr n t,l,_,hs,h=>by
  obtain⟨hn,css,h1,rfl,h2⟩:=h;exact⟨hn,css,h1,rfl,fun i e u he hu=>Cl.scal (t:=t) hs (h2 i e u he hu)⟩
mutual
theorem jXZ:(k:Kd)->{r:List Ty}->allScal (k.lv r)=true->allScal r=true
 |.p _,r,h|.pt _,r,h|.ownx _ _ _,r,h=>by simp only[Kd.lv,allScal,Bool.and_eq_true] at h;exact h.2
 |.sl _ _,r,h=>by simp only[Kd.lv,allScal,Bool.and_eq_true] at h;exact h.2.2
 |.own _ _ _ _,r,h|.slf _ _,r,h|.mp _,r,h|.any,r,h|.nilp _,r,h=>h
 |.fn _ a c,r,h=>cwZ c (cwZ a h)
 |.agg l,r,h=>cwZ l h
 |.tup l,r,h=>cwZ l h
theorem cwZ:(k:KdL)->{r:List Ty}->allScal (k.lv r)=true->allScal r=true
 |.nil,r,h=>h
 |.cons k l,r,h=>cwZ l (jXZ k h)
end
mutual
theorem iqZ{fs:List Nat}:(k:Kd)->{r:List Ty}->allFamIn fs (k.lv r)=true->allFamIn fs r=true
 |.p _,r,h|.pt _,r,h|.ownx _ _ _,r,h=>by simp only[Kd.lv,allFamIn,Bool.and_eq_true] at h;exact h.2
 |.sl _ _,r,h=>by simp only[Kd.lv,allFamIn,Bool.and_eq_true] at h;exact h.2.2
 |.own _ _ _ _,r,h|.slf _ _,r,h|.mp _,r,h|.any,r,h|.nilp _,r,h=>h
 |.fn _ a c,r,h=>beZ c (beZ a h)
 |.agg l,r,h=>beZ l h
 |.tup l,r,h=>beZ l h
theorem beZ{fs:List Nat}:(k:KdL)->{r:List Ty}->allFamIn fs (k.lv r)=true->allFamIn fs r=true
 |.nil,r,h=>h
 |.cons k l,r,h=>beZ l (iqZ k h)
end
mutual
theorem jZZ{fs:List Nat}:(k:Kd)->{r:List Ty}->(y:HL (k.lv r))->allFamIn fs (k.lv r)=true->(emb k r y).1.famInT fs=true
 |.p t,r,y,h|.pt t,r,y,h=>by
  simp only[Kd.lv,allFamIn,Bool.and_eq_true] at h;exact h.1
 |.own _ _ _ _,r,y,h|.ownx _ _ _,r,y,h|.sl _ _,r,y,h|.slf _ _,r,y,h|.mp _,r,y,h|.any,r,y,h|.nilp _,r,y,h=>rfl
 |.fn g a c,r,y,h=>by
  simp only[emb,AV.famInT,Bool.and_eq_true];exact⟨aRZ a (r:=c.lv r) y h,aRZ c (r:=r) _ (beZ a h)⟩
 |.agg l,r,y,h=>aRZ l (r:=r) y h
 |.tup l,r,y,h=>aRZ l (r:=r) y h
theorem aRZ{fs:List Nat}:(k:KdL)->{r:List Ty}->(y:HL (k.lv r))->allFamIn fs (k.lv r)=true->AV.famInTL fs (embL k r y).1=true
 |.nil,r,y,h=>rfl
 |.cons k l,r,y,h=>by
  simp only[embL,AV.famInTL,Bool.and_eq_true];exact⟨jZZ k (r:=l.lv r) y h,aRZ l (r:=r) _ (iqZ k h)⟩
end
theorem eRZ{fs:List Nat}:(hs:HK)->{r:List Ty}->(y:HL (hkLv hs r))->allFamIn fs (hkLv hs r)=true->∀id e,hget (embH hs r y).1 id=some e->e.b.famInT fs=true
 |[],r,y,h,id,e,he=>by simp[embH,hget] at he
 |(j,fz,k)::hs,r,y,h,id,e,he=>by
  have hb:(embB k (hkLv hs r) y).1.famInT fs=true/\allFamIn fs (hkLv hs r)=true:=by
   cases k with
   |vars l=>exact⟨aRZ l (r:=hkLv hs r) y h,beZ l h⟩
   |rows e t=>
    simp only[hkLv,BKd.lv,allFamIn,Bool.and_eq_true,Ty.famIn] at h;exact⟨h.1,h.2⟩
   |map kt vt=>
    simp only[hkLv,BKd.lv,mapTy,allFamIn,Bool.and_eq_true,Ty.famIn] at h;exact⟨by simp only[embB,Blk.famInT,Bool.and_eq_true];exact⟨h.1.1.1.1,h.1.1.1.2⟩,h.2⟩
   |fam e s=>
    simp only[hkLv,BKd.lv,allFamIn,Bool.and_eq_true,Ty.famIn] at h;exact⟨by simp only[embB,Blk.famInT];exact h.1.2,h.2⟩
  simp only[embH,hget] at he;cases hb':Nat.beq j id<;>rw[hb'] at he<;>simp only[cond_true,cond_false] at he
  ·exact eRZ hs _ hb.2 id e he
  ·injection he with he;subst he;exact hb.1
variable {z' : Z} {f : Nat → Option Nat}
mutual
theorem laZ(hf:∀id,f id=none):(k:Kd)->{r:List Ty}->{y:HL (k.lv r)}->{v:Value}->allScal (k.lv r)=true->ARep z (emb k r y).1 v->ARep z' (AV.ren f (emb k r y).1) v
 |.p t,r,y,v,hs,h=>by
  simp only[Kd.lv,allScal,Bool.and_eq_true] at hs;obtain⟨vs,h1,h2⟩:=h.v;exact .p _ _ _ ⟨vs,Cl.scal hs.1 h1,h2⟩
 |.pt t,r,y,v,hs,h=>by simp[Kd.lv,allScal,Ty.scal] at hs
 |.own _ _ _ _,r,y,v,hs,h|.ownx _ _ _,r,y,v,hs,h|.sl _ _,r,y,v,hs,h|.slf _ _,r,y,v,hs,h|.mp _,r,y,v,hs,h=>by
  simp only[emb,AV.ren,hf];exact .junk v
 |.any,r,y,v,hs,h=>.junk v
 |.fn g a c,r,y,v,hs,h=>by
  simp only[emb,AV.ren];simp only[emb] at h;cases h with|fn _ _ _ va vc e1 e2 e3 e4=>
  have p1:=bIZ hf a (r:=c.lv r) (y:=y) (vs:=va.toList) hs ⟨by simp[e1],fun i x v q1 q2=>e3 i x v q1 (by simpa using q2)⟩;have p2:=bIZ hf c (r:=r) (y:=(embL a (c.lv r) y).2) (vs:=vc.toList) (cwZ a hs) ⟨by simp[e2],fun i x v q1 q2=>e4 i x v q1 (by simpa using q2)⟩;exact .fn _ _ _ _ _ (by have:=p1.1;simpa using this.symm) (by have:=p2.1;simpa using this.symm) (fun i x v q1 q2=>p1.2 i x v q1 (by simpa using q2)) (fun i x v q1 q2=>p2.2 i x v q1 (by simpa using q2))
 |.agg l,r,y,v,hs,h=>by
  simp only[emb,AV.ren];simp only[emb] at h;cases h with|agg _ cs e1 e2 e3=>
  have p1:=bIZ hf l (r:=r) (y:=y) (vs:=cs.toList) hs ⟨by simp[e1],fun i x v q1 q2=>e3 i x v q1 (by simpa using q2)⟩;exact .agg _ _ (by have:=p1.1;simpa using this.symm) e2 fun i x v q1 q2=>p1.2 i x v q1 (by simpa using q2)
 |.tup l,r,y,v,hs,h=>by
  simp only[emb,AV.ren];simp only[emb] at h;cases h with|tup _ cs e1 e3=>
  have p1:=bIZ hf l (r:=r) (y:=y) (vs:=cs.toList) hs ⟨by simp[e1],fun i x v q1 q2=>e3 i x v q1 (by simpa using q2)⟩;exact .tup _ _ (by have:=p1.1;simpa using this.symm) fun i x v q1 q2=>p1.2 i x v q1 (by simpa using q2)
 |.nilp u,r,y,v,hs,h=>by
  obtain⟨vs,h1,h2⟩:=h.v;exact .p _ _ _ ⟨vs,h1,h2⟩
theorem bIZ(hf:∀id,f id=none):(k:KdL)->{r:List Ty}->{y:HL (k.lv r)}->{vs:List Value}->allScal (k.lv r)=true->AReps z (embL k r y).1 vs->AReps z' (AV.renL f (embL k r y).1) vs
 |.nil,r,y,vs,hs,h=>⟨h.1,fun i a v h1 h2=>by simp[embL,AV.renL] at h1⟩
 |.cons k l,r,y,[],hs,h=>by have:=h.1;simp[embL] at this
 |.cons k l,r,y,v::vs,hs,h=>by
  simp only[embL] at h;simp only[embL,AV.renL];exact .cons (laZ hf k hs h.head) (bIZ hf l (jXZ k hs) h.tail)
end
theorem kXZ(l:List AV):AV.ren f (tupA l)=tupA (AV.renL f l):=by
 match l with
 |[]=>simp[tupA,AV.ren,AV.renL]
 |[a]=>simp[tupA,AV.renL]
 |a::b::l=>simp[tupA,AV.ren,AV.renL]
theorem kyZ{l:List AV}{v:Value}(h:ARep z (tupA l) v):∃vs,AReps z l vs/\∀{z':Z} {l':List AV},AReps z' l' vs->l'.length=l.length->ARep z' (tupA l') v:=by
 match l with
 |[a]=>exact⟨[v],.cons h .nil,fun{z' l'} h' hl=>by
    match l',hl with
    |[b],_=>exact h'.head⟩
 |[]=>
  obtain⟨vs,rfl,h1,h2⟩:=fAZ (l:=[]) rfl h;refine⟨vs.toList,⟨by simp[h1],fun i a v h=>by simp at h⟩,fun{z' l'} h' hl=> ?_⟩
  match l',hl with
  |[],_=>exact .tup _ _ (by have:=h'.1;simpa using this.symm) fun i x v q1 q2=>h'.2 i x v q1 (by simpa using q2)
 |a::b::l=>
  obtain⟨vs,rfl,h1,h2⟩:=fAZ (l:=a::b::l) rfl h;refine⟨vs.toList,⟨by simp[h1],fun i a v q1 q2=>h2 i a v q1 (by simpa using q2)⟩,fun{z' l'} h' hl=> ?_⟩
  match l',hl with
  |c::d::l',_=>exact .tup _ _ (by have:=h'.1;simpa using this.symm) fun i x v q1 q2=>h'.2 i x v q1 (by simpa using q2)
def Bodied(P:Program)(f:FuncId):Prop:=∃fn c,P.funcs[f]? =some fn/\fn.body=some c/\(fn.name== "runtime.NumGoroutine")=false
def Does(P:Program)(f:FuncId)(args:Array Value)(w:World)(R:Ending->World->Prop):Prop:=
 (Bodied P f/\Calls P f args w R)\/∃v w',(callFunc f args).run P w= .ok (.value v) w'/\R (.returned v) w'
theorem Does.mono{P:Program}{f:FuncId}{args:Array Value}{w:World}{R R':Ending->World->Prop}(h:Does P f args w R)(hr:∀e w',R e w'->R' e w'):Does P f args w R':=by
 rcases h with⟨h1,h2⟩|⟨v,w',h1,h2⟩
 ·exact .inl ⟨h1,h2.mono hr⟩
 ·exact .inr ⟨v,w',h1,hr _ _ h2⟩
theorem Does.calls{P:Program}{f:FuncId}{args:Array Value}{w:World}{R:Ending->World->Prop}(h:Does P f args w R)(hb:Bodied P f):Calls P f args w R:=by
 rcases h with⟨_,h⟩|⟨v,w',h,_⟩
 ·exact h
 ·exfalso;obtain⟨fn,c,h1,h2,h3⟩:=hb;have hbd:fn.body.isNone=false:=by rw[h2];rfl
  unfold callFunc at h;simp only[Sem.run_bind,run_program,Result.andThen_ok,h1,h3,hbd] at h;simp at h
structure Told (P:Program) (e:FnT):Prop where
 spec:∀t r,e.spec t=some r->∀(z:Z) (vals:List Value),HRep z (e.i.emb t).2->AReps z (e.i.emb t).1 vals->(∀id,¬z.D id)->
  Does P e.f vals.toArray z.w fun en w'=>∃v z',en= .returned v/\z'.w=w'/\Nx z {z' with D:=z.D}/\(∀k,z'.D k->k∈hkKeys e.i.hs)/\OutS.on e.os r fun o x=>HRep z' (o.emb x).2/\ARep z' (tupA (o.emb x).1) v
theorem Told.of{P:Program}{e:FnT}(ent:Bodied P e.f)(spec:∀t r,e.spec t=some r->∀(z:Z) (vals:List Value),HRep z (e.i.emb t).2->AReps z (e.i.emb t).1 vals->(∀id,¬z.D id)->
 Calls P e.f vals.toArray z.w fun en w'=>∃v z',en= .returned v/\z'.w=w'/\Nx z {z' with D:=z.D}/\(∀k,z'.D k->k∈hkKeys e.i.hs)/\OutS.on e.os r fun o x=>HRep z' (o.emb x).2/\ARep z' (tupA (o.emb x).1) v):Told P e:=
 ⟨fun t r h z vals h1 h2 h3=>.inl ⟨ent,spec t r h z vals h1 h2 h3⟩⟩
theorem OutS.on_both:∀{l:List Shp} {x:OutS l} {K:(s:Shp)->s.D->Option β} {Q:(s:Shp)->s.D->Prop} {res:β},OutS.on l x K=some res->OutS.on l x Q->∃o y,o∈l/\K o y=some res/\Q o y
 |[],x,_,_,_,_,_=>Empty.elim x
 |[s],x,K,Q,res,h,hq=>⟨s,x,by simp,h,hq⟩
 |s::t::r,.inl y,K,Q,res,h,hq=>⟨s,y,by simp,h,hq⟩
 |s::t::r,.inr y,K,Q,res,h,hq=>by
  obtain⟨o,x,h1,h2,h3⟩:=OutS.on_both (l:=t::r) (x:=y) h hq;exact⟨o,x,List.mem_cons_of_mem _ h1,h2,h3⟩
theorem bcZ{H:Hp}{f:Nat->Option Nat}:∀{ps:List (Nat×Nat)},(sndN ps).Nodup->∀k,hget (renH H f ps) k=(idOf ps k).bind (fun id=>(hget H id).map (Ent.ren f))/\(hkey (renH H f ps) k=true↔∃id e,idOf ps k=some id/\hget H id=some e)
 |[],_,k=>⟨rfl,by simp[renH,hkey,idOf]⟩
 |(i,j)::ps,h,k=>by
  simp only[sndN,List.nodup_cons] at h;obtain⟨q1,q2⟩:=bcZ (H:=H) (f:=f) h.2 k;have hno:j=k->idOf ps k=none:=fun hj=>by
   cases hk:idOf ps k with
   |none=>rfl
   |some id=>exact absurd (crZ (a5Z hk)) (hj▸h.1)
  cases hg:hget H i with
  |none=>
   simp only[renH,hg,idOf];by_cases hj:j=k
   ·rw[(abZ j k).2 hj,cond_true];rw[hno hj] at q1 q2;refine⟨by rw[q1];simp[hg],⟨fun h=> ?_,fun⟨id,e,h1,h2⟩=> ?_⟩⟩
    ·obtain⟨id,e,h1,_⟩:=q2.1 h;cases h1
    ·simp only[Option.some.injEq] at h1;subst h1;rw[hg] at h2;cases h2
   ·rw[aiZ hj,cond_false];exact⟨q1,q2⟩
  |some e=>
   simp only[renH,hg,idOf,hget,hkey];by_cases hj:j=k
   ·simp[(abZ j k).2 hj,hg]
   ·rw[aiZ hj];exact⟨q1,q2⟩
theorem itZ:∀{a b:List Nat},b.length<=a.length->sndN (zipN a b)=b/\∀i k,(i,k)∈zipN a b->i∈a
 |[],[],_=>⟨rfl,fun i k h=>by cases h⟩
 |[],_::_,h=>by simp at h
 |_::_,[],_=>⟨rfl,fun i k h=>by cases h⟩
 |x::a,y::b,h=>by
  obtain⟨q1,q2⟩:=itZ (a:=a) (b:=b) (by simpa using h);refine⟨by simp[zipN,sndN,q1],fun i k hm=> ?_⟩;simp only[zipN,List.mem_cons,Prod.mk.injEq] at hm;rcases hm with⟨rfl,_⟩|hm
  ·simp
  ·exact List.mem_cons_of_mem _ (q2 i k hm)
theorem eHZ:∀(n k:Nat),(rangeN k n).length=n
 |0,k=>rfl
 |n+1,k=>by simp[rangeN,eHZ n]
theorem fbZ:∀{a b:List Nat} {i k:Nat},(i,k)∈zipN a b->∃n:Nat,a[n]? =some i/\b[n]? =some k
 |[],_,i,k,h=>by cases h
 |_::_,[],i,k,h=>by cases h
 |x::a,y::b,i,k,h=>by
  simp only[zipN,List.mem_cons,Prod.mk.injEq] at h;rcases h with⟨rfl,rfl⟩|h
  ·exact⟨0,rfl,rfl⟩
  ·obtain⟨n,h1,h2⟩:=fbZ h;exact⟨n+1,h1,h2⟩
theorem hyZ:∀{a b:List Nat} {n i k:Nat},a[n]? =some i->b[n]? =some k->(i,k)∈zipN a b
 |[],_,n,i,k,h,_=>by simp at h
 |_::_,[],n,i,k,_,h=>by simp at h
 |x::a,y::b,0,i,k,h1,h2=>by simp at h1 h2;subst h1;subst h2;simp[zipN]
 |x::a,y::b,n+1,i,k,h1,h2=>by
  simp only[zipN,List.mem_cons];exact .inr (hyZ (by simpa using h1) (by simpa using h2))
theorem ghZ:∀{n k m:Nat},m<n->(rangeN k n)[m]? =some (k+m)
 |0,k,m,h=>by omega
 |n+1,k,0,h=>rfl
 |n+1,k,m+1,h=>by
  simp only[rangeN,List.getElem?_cons_succ];rw[ghZ (by omega)];congr 1;omega
theorem jjZ{n k m i:Nat}(h:(rangeN k n)[m]? =some i):i=k+m/\m<n:=by
 have hlt:m<n:=by have:=(List.getElem?_eq_some_iff.1 h).1;rwa [eHZ] at this
 rw[ghZ hlt] at h;exact⟨(Option.some.inj h).symm,hlt⟩
end
end Go.Ab
namespace Go.Ab
section
variable {P : Program} {z : Z} {H : Hp} {β : Type}
theorem dpZ{H:Hp}:∀{l:List Nat},freshAll H l=true->∀id∈l,hkey H id=false
 |[],_,id,h=>by cases h
 |i::l,h,id,hm=>by
  simp only[freshAll,Bool.and_eq_true,Bool.not_eq_true'] at h;rcases List.mem_cons.1 hm with rfl|hm
  ·exact h.1
  ·exact dpZ h.2 id hm
def offF(fs:List Nat)(k:Nat):Prop:=dynBase<=k/\memN ((k-dynBase)%16) fs=false
instance (fs:List Nat) (k:Nat):Decidable (offF fs k):=inferInstanceAs (Decidable (_/\_))
theorem leZ{fs:List Nat}{f k:Nat}:offF fs (enc f k)↔memN (f%16) fs=false:=by
 have h:(enc f k-dynBase)%16=f%16:=by unfold enc;generalize dynBase=d;omega
 unfold offF;rw[h];exact⟨fun h=>h.2,fun h=>⟨bgZ f k,h⟩⟩
def Z.clean(fs:List Nat)(z:Z):Z:={z with ρ:=fun k=>if offF fs k then .no else z.ρ k,D:=fun k=>z.D k/\¬offF fs k}
theorem Z.clean_at{z:Z}{fs:List Nat}{k:Nat}(h:k<dynBase):(z.clean fs).ρ k=z.ρ k:=if_neg fun h'=>Nat.not_le.2 h h'.1
theorem Z.clean_on{z:Z}{fs:List Nat}{f k:Nat}(h:memN (f%16) fs=true):(z.clean fs).ρ (enc f k)=z.ρ (enc f k):=if_neg fun h'=>by rw[leZ.1 h'] at h;cases h
theorem HRep.clean{fs:List Nat}(hH:HRep z H)(hs:∀id,offF fs id->hkey H (rt id)=false)(hn:∀id e,hgetX H id=some e->e.b.famInT fs=true/\∀i∈e.ids,i<dynBase):HRep (z.clean fs) H:=by
 have hon:SameOn fs z.ρ (z.clean fs).ρ:=fun f k hf _=>Z.clean_on hf;have hat:∀id e,hgetX H id=some e->(z.clean fs).ρ id=z.ρ id:=fun id e h=>by
  refine if_neg fun ho=> ?_;have:=hs id ho;rw[ayZ ho.1,aoZ this] at h;cases h
 refine⟨fun id e h=>(hH.ent id e h).rho rfl rfl (.on hon (hn id e h).1) (hat id e h) (fun i hi=>Z.clean_at ((hn id e h).2 i hi)) fun _ _ _ _ _ h=>h,
  fun id id' e e' g sz n g' sz' n' hii h1 h2 m1 m2 p3 p4=> ?_,fun id h=> ?_,hH.sub,hH.fam,hH.key,fun id hd h hD=>hH.dyn id hd h hD.1,fun id h1 h2=>by rw[Z.clean_at h2];exact hH.nos id h1 h2⟩
 ·rw[hat id e h1] at p3;rw[hat id' e' h2] at p4;exact hH.inj id id' e e' g sz n g' sz' n' hii h1 h2 m1 m2 p3 p4
 ·by_cases hd:offF fs id
  ·exact .inl (if_pos hd)
  ·rcases hH.fresh id h with h|h
   ·exact .inl (by rw[show(z.clean fs).ρ id=z.ρ id from if_neg hd];exact h)
   ·exact .inr ⟨h,hd⟩
theorem cPZ:∀{l:List Nat} {f:Nat},(∀i∈l,i<dynBase)->f<16->(memN f (famNs l)=true↔famBase+f∈l)
 |[],f,_,_=>by simp[famNs,memN]
 |i::l,f,hl,hf=>by
  have h0:=c3Z;have hi:=hl i List.mem_cons_self;have ih:=cPZ (l:=l) (f:=f) (fun i h=>hl i (List.mem_cons_of_mem _ h)) hf;simp only[famNs];by_cases hb:famBase<=i
  ·rw[Nat.ble_eq_true_of_le hb,cond_true];simp only[memN,List.mem_cons];by_cases h:i-famBase=f
   ·rw[(abZ _ _).2 h,cond_true];exact⟨fun _=>.inl (by omega),fun _=>rfl⟩
   ·rw[aiZ h,cond_false,ih];exact⟨.inr,fun h'=>h'.resolve_left (by omega)⟩
  ·have:Nat.ble famBase i=false:=by
    cases hc:Nat.ble famBase i
    ·rfl
    ·exact absurd (Nat.le_of_ble_eq_true hc) hb
   rw[this,cond_false,ih,List.mem_cons];exact⟨.inr,fun h'=>h'.resolve_left (by omega)⟩
theorem fIZ{l:List Nat}(hl:∀i∈l,i<dynBase){k:Nat}:offF (famNs l) k↔dynBase<=k/\rt k∉l:=by
 unfold offF;constructor
 ·rintro⟨h1,h2⟩;refine⟨h1,fun hm=> ?_⟩;unfold rt at hm;rw[if_pos h1] at hm;rw[(cPZ hl (Nat.mod_lt _ (by omega))).2 hm] at h2;cases h2
 ·rintro⟨h1,h2⟩;refine⟨h1,?_⟩;cases hc:memN ((k-dynBase)%16) (famNs l)
  ·rfl
  ·exfalso;apply h2;unfold rt;rw[if_pos h1];exact(cPZ hl (Nat.mod_lt _ (by omega))).1 hc
theorem gNZ{s:Shp}{t:s.D}{fs:List Nat}(hn:allFamIn fs s.tys=true){z:Z}(hH:HRep z (s.emb t).2){id:Nat}{e:Ent}(h:hgetX (s.emb t).2 id=some e):e.b.famInT fs=true:=by
 have h1:=fun id e he=>eRZ s.hs (r:=[]) (embL s.ks (hkLv s.hs []) (untidy s.tys t)).2 (beZ s.ks hn) id e he;by_cases hd:dynBase<=id
 ·rw[ayZ hd] at h;obtain⟨e0,p1,p2⟩:=Option.bind_eq_some_iff.1 h;have p3:=h1 _ _ p1;unfold pick at p2;split at p2
  ·rename_i e' s' ms hb;split at p2
   ·split at p2
    ·cases p2
    ·simp only[Option.some.injEq] at p2;subst p2;rw[hb] at p3;exact p3
   ·cases p2
  ·cases p2
 ·by_cases hf:famBase<=id
  ·unfold hgetX at h;rw[if_neg hd,if_pos hf] at h;cases h
  ·rw[anZ (by omega)] at h;exact h1 _ _ h
theorem l7Z{e x:Ent}{k:Nat}(h:pick k e=some x):x.ids=[]:=(cVZ h some).2
theorem htZ{s:Shp}{t:s.D}{zc0:Z}{vals:List Value}(hn:allFamIn (famNs (hkKeys s.hs)) s.tys=true)(k4:HRep zc0 (s.emb t).2)(k5:AReps zc0 (s.emb t).1 vals)(hst:∀k,memN k (hkKeys s.hs)=true->k<dynBase)
 (hid:∀i,i∈s.ks.ids\/i∈hkIds s.hs->i∈hkKeys s.hs):
 ∃zc:Z,zc.w=zc0.w/\zc.M=zc0.M/\HRep zc (s.emb t).2/\AReps zc (s.emb t).1 vals/\(∀k,k<dynBase\/rt k∈hkKeys s.hs->zc.ρ k=zc0.ρ k)/\zc.C=zc0.C/\(∀k,zc.D k->zc0.D k/\(k<dynBase\/rt k∈hkKeys s.hs))/\∀k,dynBase<=k->rt k∉hkKeys s.hs->zc.ρ k= .no:=by
 have hg:=fun id=>b0Z s.hs (embL s.ks (hkLv s.hs []) (untidy s.tys t)).2 id;have hl:∀i∈hkKeys s.hs,i<dynBase:=fun i hi=>hst i (agZ.2 hi);have hlt:∀i,i∈s.ks.ids\/i∈hkIds s.hs->i<dynBase:=fun i hi=>hst i (agZ.2 (hid i hi));have hon:SameOn (famNs (hkKeys s.hs)) zc0.ρ (zc0.clean (famNs (hkKeys s.hs))).ρ:=fun f k hf _=>Z.clean_on hf;refine⟨zc0.clean (famNs (hkKeys s.hs)),rfl,rfl,k4.clean (fun id ho=> ?_) (fun id e he=>⟨gNZ hn k4 he,fun i hi=> ?_⟩),?_,fun k hk=> ?_,rfl,fun k h=>⟨h.1,?_⟩,fun k h1 h2=>if_pos ((fIZ hl).2 ⟨h1,h2⟩)⟩
 ·have:=((fIZ hl).1 ho).2;rw[show hkey (s.emb t).2 (rt id)=memN (rt id) (hkKeys s.hs) from(hg _).1];cases hm:memN (rt id) (hkKeys s.hs)
  ·rfl
  ·exact absurd (agZ.1 hm) this
 ·by_cases hd:dynBase<=id
  ·rw[ayZ hd] at he;obtain⟨e0,p1,p2⟩:=Option.bind_eq_some_iff.1 he;rw[l7Z p2] at hi;cases hi
  ·by_cases hf:famBase<=id
   ·unfold hgetX at he;rw[if_neg hd,if_pos hf] at he;cases he
   ·rw[anZ (by omega)] at he;exact hlt i (.inr ((hg id).2.2 e he i hi))
 ·refine k5.rho rfl rfl (.on hon (aRZ s.ks (r:=hkLv s.hs []) _ hn)) fun i hi=>Z.clean_at (hlt i (.inl ?_));rw[<-b9Z s.ks (r:=hkLv s.hs []) (untidy s.tys t)];exact hi
 ·refine if_neg fun ho=> ?_;have:=(fIZ hl).1 ho;rcases hk with hk|hk
  ·exact Nat.not_le.2 hk this.1
  ·exact this.2 hk
 ·by_cases hk:k<dynBase
  ·exact .inl hk
  ·right;by_cases hm:rt k∈hkKeys s.hs
   ·exact hm
   ·exact absurd ((fIZ hl).2 ⟨Nat.not_lt.1 hk,hm⟩) h.2
theorem dsZ{a b:Nat}(h:¬a<=b):Nat.ble a b=false:=by
 cases hc:Nat.ble a b
 ·rfl
 ·exact absurd (Nat.le_of_ble_eq_true hc) h
theorem a7Z:∀(l:List Nat) (n:Nat),(shKeys n l).length=l.length
 |[],_=>rfl
 |i::l,n=>by
  simp only[shKeys];by_cases h:famBase<=i
  ·rw[Nat.ble_eq_true_of_le h,cond_true];simp[a7Z l]
  ·rw[dsZ h,cond_false];simp[a7Z l]
theorem boZ:∀{l:List Nat} {n m k id:Nat},(shKeys n l)[m]? =some k->l[m]? =some id->(famBase<=id/\k=id)\/(id<famBase/\n<=k/\k<n+l.length)
 |[],n,m,k,id,h,_=>by simp[shKeys] at h
 |i::l,n,m,k,id,h,h'=>by
  simp only[shKeys] at h;by_cases hi:famBase<=i
  ·rw[Nat.ble_eq_true_of_le hi,cond_true] at h
   match m with
   |0=>simp at h h';subst h;subst h';exact .inl ⟨hi,rfl⟩
   |m+1=>
    rcases boZ (l:=l) (n:=n) (by simpa using h) (by simpa using h') with h|⟨h1,h2,h3⟩
    ·exact .inl h
    ·exact .inr ⟨h1,h2,by simp;omega⟩
  ·rw[dsZ hi,cond_false] at h
   match m with
   |0=>simp at h h';subst h;subst h';exact .inr ⟨by omega,Nat.le_refl _,by simp⟩
   |m+1=>
    rcases boZ (l:=l) (n:=n+1) (by simpa using h) (by simpa using h') with h|⟨h1,h2,h3⟩
    ·exact .inl h
    ·exact .inr ⟨h1,by omega,by simp;omega⟩
theorem dgZ:∀(l r:List Nat) (n:Nat),∃m,n<=m/\m<=n+l.length/\shKeys n (l++r)=shKeys n l++shKeys m r
 |[],r,n=>⟨n,Nat.le_refl _,by simp,rfl⟩
 |i::l,r,n=>by
  by_cases h:famBase<=i
  ·obtain⟨m,h1,h2,h3⟩:=dgZ l r n;refine⟨m,h1,by simp;omega,?_⟩;simp only[List.cons_append,shKeys,Nat.ble_eq_true_of_le h,cond_true,h3]
  ·obtain⟨m,h1,h2,h3⟩:=dgZ l r (n+1);refine⟨m,by omega,by simp;omega,?_⟩;simp only[List.cons_append,shKeys,dsZ h,cond_false,h3]
theorem jpZ{l:List Nat}{n m id:Nat}(h:l[m]? =some id):∃k,(shKeys n l)[m]? =some k:=by
 have:m<(shKeys n l).length:=by rw[a7Z];exact(List.getElem?_eq_some_iff.1 h).1
 exact⟨_,List.getElem?_eq_getElem this⟩
theorem dhZ:∀{l:List Nat} {n m m' k:Nat},l.Nodup->n+l.length<=famBase->(shKeys n l)[m]? =some k->(shKeys n l)[m']? =some k->m=m'
 |[],n,m,m',k,_,_,h,_=>by simp[shKeys] at h
 |i::l,n,m,m',k,hn,hb,h,h'=>by
  simp only[List.nodup_cons] at hn;simp only[List.length_cons] at hb;have q:∀(n' m k:Nat),(shKeys n' l)[m]? =some k->∃id,l[m]? =some id/\((famBase<=id/\k=id)\/(id<famBase/\n'<=k/\k<n'+l.length)):=fun n' m k h=>by
   have hlt:m<l.length:=by have:=(List.getElem?_eq_some_iff.1 h).1;rwa [a7Z] at this
   exact⟨_,List.getElem?_eq_getElem hlt,boZ h (List.getElem?_eq_getElem hlt)⟩
  simp only[shKeys] at h h';by_cases hi:famBase<=i
  ·rw[Nat.ble_eq_true_of_le hi,cond_true] at h h';have no:∀{m:Nat},(shKeys n l)[m]?≠some i:=fun{m} h=>by
    obtain⟨id,h1,h2⟩:=q n _ _ h;rcases h2 with⟨_,h3⟩|⟨_,_,h3⟩
    ·exact hn.1 (h3▸List.mem_of_getElem? h1)
    ·omega
   match m,m' with
   |0,0=>rfl
   |0,m'+1=>simp at h;subst h;exact absurd (by simpa using h') no
   |m+1,0=>simp at h';subst h';exact absurd (by simpa using h) no
   |m+1,m'+1=>exact congrArg (·+1) (dhZ (n:=n) hn.2 (by omega) (by simpa using h) (by simpa using h'))
  ·rw[dsZ hi,cond_false] at h h';have no:∀{m:Nat},(shKeys (n+1) l)[m]?≠some n:=fun{m} h=>by
    obtain⟨id,h1,h2⟩:=q (n+1) _ _ h;rcases h2 with⟨h2,h3⟩|⟨_,h2,h3⟩
    ·omega
    ·omega
   match m,m' with
   |0,0=>rfl
   |0,m'+1=>simp at h;subst h;exact absurd (by simpa using h') no
   |m+1,0=>simp at h';subst h';exact absurd (by simpa using h) no
   |m+1,m'+1=>exact congrArg (·+1) (dhZ (n:=n+1) hn.2 (by omega) (by simpa using h) (by simpa using h'))
theorem cgZ:∀{a b:List Nat},a.length=b.length->fstN (zipN a b)=a
 |[],[],_=>rfl
 |[],_::_,h=>by simp at h
 |_::_,[],h=>by simp at h
 |x::a,y::b,h=>by simp[zipN,fstN,cgZ (a:=a) (b:=b) (by simpa using h)]
theorem mNZ{z1 zc zd:Z}{H1 Hd:Hp}{sh ids:List Nat}{fs:List Nat}(hH:HRep z1 H1)(hfr:∀id∈ids,hkey H1 id=false)(hsh:∀id∈sh,hkey H1 id=true)(hst:∀id∈ids,id<dynBase)(hd:∀id,rt id∈ids->¬z1.D id)(hnd:(sh++ids).Nodup)(hlen:sh.length+ids.length<=famBase)
 (hw:zc.w=z1.w)(hM:zc.M=z1.M)(hC:∀g,zc.C g->∃id e sz n,rt id∈sh/\hgetX H1 id=some e/\e.fz=false/\z1.ρ id= .real g sz n)
 (hρ:∀(m:Nat) k id,(shKeys 0 sh)[m]? =some k->sh[m]? =some id->zc.ρ k=z1.ρ id/\(id<famBase->zc.ρ k≠.no))(hρd:∀id,dynBase<=id->rt id∈sh->zc.ρ id=z1.ρ id)(hDd:∀k,zd.D k->k<dynBase/\k∈shKeys 0 sh)(hn:Nx zc {zd with D:=zc.D})(hHd:HRep zd Hd)(hlive:∀k,hkey Hd k=true->∃e,hget Hd k=some e)(hnr:∀k e,hgetX Hd k=some e->e.b.famInT fs=true)
 (hfs:∀f,memN (f%16) fs=true->famId f∈sh++ids)
 (hk:allIn (hkeys Hd) (fstN (zipN (shKeys 0 (sh++ids)) (sh++ids)))=true):
 ∃z3,z3.w=zd.w/\HRep z3 (setAll (killAll H1 sh) (renH Hd (noOf (zipN (shKeys 0 (sh++ids)) (sh++ids))) (zipN (shKeys 0 (sh++ids)) (sh++ids))))/\Nx z1 z3/\
  ∀a v,a.famInT fs=true->ARep zd a v->ARep z3 (AV.ren (noOf (zipN (shKeys 0 (sh++ids)) (sh++ids))) a) v:=by
 have h0:=c3Z;have hkl:=a7Z (sh++ids) 0;obtain⟨ms,_,_,happ⟩:=dgZ sh ids 0;have hkin:∀m k id,(shKeys 0 (sh++ids))[m]? =some k->(sh++ids)[m]? =some id->(famBase<=id/\k=id)\/(id<famBase/\k<famBase):=fun m k id h1 h2=>by
  rcases boZ h1 h2 with h|⟨h,_,h3⟩
  ·exact .inl h
  ·refine .inr ⟨h,?_⟩;rw[List.length_append] at h3;omega
 have hkinj:∀m m' k,(shKeys 0 (sh++ids))[m]? =some k->(shKeys 0 (sh++ids))[m']? =some k->m=m':=fun m m' k=>dhZ hnd (by rw[List.length_append];omega);have hlow:∀m k id,(shKeys 0 (sh++ids))[m]? =some k->(sh++ids)[m]? =some id->m<sh.length->(shKeys 0 sh)[m]? =some k/\sh[m]? =some id:=fun m k id h1 h2 h3=>by
  rw[happ,List.getElem?_append_left (by rw[a7Z];exact h3)] at h1;rw[List.getElem?_append_left h3] at h2;exact⟨h1,h2⟩
 have hkeysOf:∀k,k∈shKeys 0 sh->∃m,(shKeys 0 (sh++ids))[m]? =some k/\m<sh.length:=fun k hk=>by
  obtain⟨m,hm⟩:=List.getElem?_of_mem hk;have hlt:m<sh.length:=by have:=(List.getElem?_eq_some_iff.1 hm).1;rwa [a7Z] at this
  exact⟨m,by rw[happ,List.getElem?_append_left (by rw[a7Z];exact hlt)];exact hm,hlt⟩
 generalize hall:sh++ids=all at*;generalize hsk:shKeys 0 all=sk at*;generalize hback:zipN sk all=back at*;have hat:∀k id,(k,id)∈back↔∃m,sk[m]? =some k/\all[m]? =some id:=fun k id=>by
  rw[<-hback];exact⟨fun h=>fbZ h,fun⟨m,h1,h2⟩=>hyZ h1 h2⟩
 have hfix:∀k id,(k,id)∈back->(famBase<=id/\k=id)\/(id<famBase/\k<famBase):=fun k id h=>by
  obtain⟨m,h1,h2⟩:=(hat k id).1 h;exact hkin m k id h1 h2
 have hsnd:sndN back=all:=by rw[<-hback];exact(itZ (by omega)).1
 have hfst:fstN back=sk:=by rw[<-hback];exact cgZ hkl
 have hsn:(sndN back).Nodup:=by rw[hsnd];exact hnd
 have hid:∀k id,(k,id)∈back->idOf back id=some k:=fun k id h=>dlZ hsn h;have hallm:∀id,id∈all->∃k,(k,id)∈back:=fun id h=>by
  obtain⟨m,hm⟩:=List.getElem?_of_mem h;have hlt:m<sk.length:=by rw[hkl];exact(List.getElem?_eq_some_iff.1 hm).1
  exact⟨_,(hat _ id).2 ⟨m,List.getElem?_eq_getElem hlt,hm⟩⟩
 have hbm:∀k id,(k,id)∈back->id∈all:=fun k id h=>by
  obtain⟨m,h1,h2⟩:=(hat k id).1 h;exact List.mem_of_getElem? h2
 have hfamb:∀id,famBase<=id->id∈all->(id,id)∈back:=fun id h1 h2=>by
  obtain⟨k,hk⟩:=hallm id h2;rcases hfix k id hk with⟨_,rfl⟩|h
  ·exact hk
  ·omega
 have hinj:∀k k' id,(k,id)∈back->(k',id)∈back->k=k':=fun k k' id h h'=>Option.some.inj ((hid k id h).symm.trans (hid k' id h'));have hinj2:∀k id id',(k,id)∈back->(k,id')∈back->id=id':=fun k id id' h h'=>by
  obtain⟨m,h1,h2⟩:=(hat k id).1 h;obtain⟨m',h3,h4⟩:=(hat k id').1 h';have:=hkinj m m' k h1 h3;subst this;rw[h2] at h4;exact Option.some.inj h4
 have halld:∀id∈all,id<dynBase:=fun id h=>by
  rw[<-hall] at h;rcases List.mem_append.1 h with h|h
  ·exact hH.key id (hsh id h)
  ·exact hst id h
 have hddyn:∀k,dynBase<=k->¬zd.D k:=fun k h h'=>by have:=(hDd k h').1;omega
 let F:Nat->Bool:=fun id=>memN id all
 have hF:∀id,F id=true↔id∈all:=fun id=>agZ
 let z2:Z:={w:=zd.w,M:=zd.M,ρ:=fun id=>match idOf back id with|some k=>zd.ρ k|none=>if dynBase<=id/\rt id∈all then zd.ρ id else z1.ρ id,
            C:=fun g=>∃k e sz n,hgetX Hd k=some e/\e.fz=false/\zd.ρ k= .real g sz n,D:=(z1.foc H1 F).D}
 have hρ2:∀k id,(k,id)∈back->z2.ρ id=zd.ρ k:=fun k id h=>by
  show(match idOf back id with|some k=>zd.ρ k|none=>_)=_;rw[hid k id h]
 have hno:∀id,id∉all->idOf back id=none:=fun id h=>by
  cases hk:idOf back id with
  |none=>rfl
  |some k=>exact absurd (hbm k id (a5Z hk)) h
 have hρ2d:∀id,dynBase<=id->rt id∈all->z2.ρ id=zd.ρ id:=fun id h1 h2=>by
  show(match idOf back id with|some k=>zd.ρ k|none=>_)=_;rw[hno id fun h=>by have:=halld id h;omega];exact if_pos ⟨h1,h2⟩
 have hρ2n:∀id,id∉all->¬(dynBase<=id/\rt id∈all)->z2.ρ id=z1.ρ id:=fun id h1 h2=>by
  show(match idOf back id with|some k=>zd.ρ k|none=>_)=_;rw[hno id h1];exact if_neg h2
 have hρX:∀k id,OfX back k id->z2.ρ id=zd.ρ k:=fun k id h=>by
  rcases h with⟨h,_,_⟩|⟨rfl,h1,h2⟩
  ·exact hρ2 k id h
  ·exact hρ2d k h1 (hbm _ _ h2)
 have hC1:∀g,zc.C g->(z1.foc H1 F).C g:=fun g h=>by
  obtain⟨id,e,sz,n,a1,a2,a3,a4⟩:=hC g h;exact⟨id,e,sz,n,agZ.2 (by rw[<-hall];exact List.mem_append_left _ a1),a2,a3,a4⟩
 have hCd:∀g,zd.C g->(z1.foc H1 F).C g\/z1.w.heap.size<=g:=fun g hg=>by
  rcases hn.subC g hg with h|h
  ·exact .inl (hC1 g h)
  ·rw[hw] at h;exact .inr h
 have hC2:∀g,z2.C g->zd.C g:=fun g ⟨k,e,sz,n,a2,a3,a4⟩=>(hHd.realX a2 a4).2.1 a3;have hN:Nx (z1.foc H1 F) z2:=by
  refine⟨hn.os.trans (by rw[hw];rfl),⟨hn.tape.1.trans (by rw[hw];rfl),by have:=hn.tape.2;rw[hw] at this;exact this⟩,hn.output.trans (by rw[hw];rfl),by have:=hn.size;rw[hw] at this;exact this,fun b hb hc=> ?_,fun g hg=> ?_,fun g hg=>hCd g (hC2 g hg),fun g hg hm hc=> ?_,fun id hne=> ?_,rfl⟩
  ·have:=hn.block b (by rw[hw];exact hb) fun h=>hc (hC1 b h);rw[hw] at this;exact this
  ·have:=hn.subM g hg;rw[hw,hM] at this;exact this
  ·exact hn.keepM g (by rw[hw];exact hg) (by rw[hM];exact hm) fun h=>hc (hC1 g h)
  ·have hne:z1.ρ id≠.no:=hne;show z2.ρ id=z1.ρ id;have hnf:¬(famBase<=id/\id<dynBase):=fun h=>hne (hH.nos id h.1 h.2);by_cases hm:id∈all
   ·obtain⟨k,hk⟩:=hallm id hm;rw[hρ2 k id hk];obtain⟨m,h1,h2⟩:=(hat k id).1 hk;have hlid:=halld id hm;by_cases hlt:m<sh.length
    ·obtain⟨b1,b2⟩:=hlow m k id h1 h2 hlt;obtain⟨b3,b4⟩:=hρ m k id b1 b2;rw[hn.ext k (b4 (by omega)),b3]
    ·rw[<-hall,List.getElem?_append_right (by omega)] at h2;have hmi:=List.mem_of_getElem? h2;exact absurd ((hH.fresh id (by rw[azZ (by omega)];exact hfr id hmi)).resolve_right (hd id (by rw[aHZ hlid];exact hmi))) hne
   ·by_cases hdd:dynBase<=id/\rt id∈all
    ·rw[hρ2d id hdd.1 hdd.2];rw[<-hall] at hdd;rcases List.mem_append.1 hdd.2 with h|h
     ·have e1:=hρd id hdd.1 h;rw[<-e1] at hne⊢;exact hn.ext id hne
     ·exfalso;refine hne ((hH.fresh id ?_).resolve_right (hd id h));rw[atZ hdd.1,aoZ (hfr _ h)];exact hfr _ h
    ·exact hρ2n id hm hdd
 have hent0:∀id e',hget (renH Hd (noOf back) back) id=some e'->∃k e,(k,id)∈back/\hget Hd k=some e/\e'=e.ren (noOf back):=fun id e' h=>by
  rw[(bcZ hsn id).1] at h;obtain⟨k,q1,q2⟩:=Option.bind_eq_some_iff.1 h;obtain⟨e,q3,q4⟩:=Option.map_eq_some_iff.1 q2;exact⟨k,e,a5Z q1,q3,q4.symm⟩
 generalize hH2:setAll (killAll [] sh) (renH Hd (noOf back) back)=H2;have hg2:∀id,hget H2 id=if hkey (renH Hd (noOf back) back) id then hget (renH Hd (noOf back) back) id else none:=fun id=>by
  rw[<-hH2,a9Z,aGZ];split
  ·rfl
  ·split<;>rfl
 have hk2:∀id,hkey H2 id=(hkey (renH Hd (noOf back) back) id||memN id sh):=fun id=>by
  rw[<-hH2,a1Z,a8Z];simp[hkey]
 have hgs:∀id e',hget H2 id=some e'->hget (renH Hd (noOf back) back) id=some e':=fun id e' h=>by
  rw[hg2] at h;split at h
  ·exact h
  ·cases h
 have hentX:∀id e',hgetX H2 id=some e'->∃k e,OfX back k id/\hgetX Hd k=some e/\e'=e.ren (noOf back):=fun id e' h=>by
  by_cases hdy:dynBase<=id
  ·rw[ayZ hdy] at h;obtain⟨e0,q1,q2⟩:=Option.bind_eq_some_iff.1 h;obtain⟨k,e1,q3,q4,rfl⟩:=hent0 _ _ (hgs _ _ q1);have:k=rt id:=by
    rcases hfix k _ q3 with⟨_,h⟩|⟨h,_⟩
    ·exact h
    ·have:=(btZ hdy).1;omega
   subst this;rw[(ddZ e1 _ _).2 (Nat.le_refl _)] at q2;exact⟨id,e',.inr ⟨rfl,hdy,q3⟩,by rw[ayZ hdy,q4];exact q2,(cVZ q2 _).1.symm⟩
  ·by_cases hf:famBase<=id
   ·unfold hgetX at h;rw[if_neg hdy,if_pos hf] at h;cases h
   ·rw[anZ (by omega)] at h;obtain⟨k,e1,q3,q4,rfl⟩:=hent0 _ _ (hgs _ _ h);have hkf:k<famBase:=by
     rcases hfix k _ q3 with⟨h,_⟩|⟨_,h⟩
     ·omega
     ·exact h
    exact⟨k,e1,.inl ⟨q3,hkf,by omega⟩,by rw[anZ hkf];exact q4,rfl⟩
 have hon:SameOn fs zd.ρ z2.ρ:=fun f k hf _=>hρ2d (enc f k) (bgZ f k) (by rw[c1Z];exact hfs f hf);have hR:HRep z2 H2:=by
  refine⟨fun id e' h=> ?_,fun i i' e e' g sz n g' sz' n' hii p1 p2 m1 m2 p3 p4=> ?_,fun id h=> ?_,fun g h=>hHd.sub g (hC2 g h),fun id x h=> ?_,fun id h=> ?_,fun id hdy h=> ?_,fun id h1 h2=> ?_⟩
  ·obtain⟨k,e,q1,q2,rfl⟩:=hentX id e' h;have h0:=hHd.ent _ _ q2;unfold ERep at h0⊢;rw[hρX k id q1];cases hr:zd.ρ k with
   |no=>rw[hr] at h0;exact h0.elim
   |virt=>
    rw[hr] at h0;obtain⟨fz,b⟩:=e;cases b<;>first|exact h0.elim|exact h0
   |real g sz n=>
    rw[hr] at h0;obtain⟨a1,a2,a3,a4⟩:=h0;exact⟨a1,fun hf=>⟨k,e,sz,n,q2,hf,hr⟩,a3,a4.ren (fz:=e.fz) rfl rfl (.on hon (hnr k e q2)) fun id' k' _ hk'=>hρ2 id' k' (csZ hk')⟩
  ·obtain⟨k,e1,q1,q2,rfl⟩:=hentX i e p1;obtain⟨k',e2,q3,q4,rfl⟩:=hentX i' e' p2;rw[hρX k i q1] at p3;rw[hρX k' i' q3] at p4;have hkk:k≠k':=fun h=>by
    subst h;rcases q1 with⟨a1,a2,_⟩|⟨rfl,a1,_⟩<;>rcases q3 with⟨b1,b2,_⟩|⟨rfl,b1,_⟩
    ·exact hii (hinj2 k i i' a1 b1)
    ·omega
    ·omega
    ·exact hii rfl
   exact hHd.inj k k' e1 e2 g sz n g' sz' n' hkk q2 q4 m1 m2 p3 p4
  ·by_cases hdy:dynBase<=id
   ·by_cases hm:rt id∈all
    ·left;rw[hρ2d id hdy hm];have hbk:=hfamb _ (btZ hdy).1 hm;refine(hHd.fresh id ?_).resolve_right (hddyn id hdy);rw[atZ hdy] at h⊢;cases hg:hget Hd (rt id) with
     |some e0=>
      have hkr:=((bcZ (H:=Hd) (f:=noOf back) hsn (rt id)).2).2 ⟨_,e0,hid _ _ hbk,hg⟩;rw[hg2,if_pos hkr,(bcZ hsn (rt id)).1,hid _ _ hbk] at h;simp only[Option.bind_some,hg,Option.map_some] at h;rw[(ddZ e0 _ _).1] at h;exact h
     |none=>
      show hkey Hd (rt id)=false;cases hkd:hkey Hd (rt id)
      ·rfl
      ·obtain⟨e,he⟩:=hlive _ hkd;rw[he] at hg;cases hg
    ·rw[hρ2n id (fun h=>by have:=halld id h;omega) fun h=>hm h.2];cases hk1:hkeyX H1 id
     ·exact(hH.fresh id hk1).imp (fun h=>h) .inl
     ·refine .inr (.inr ⟨hk1,?_⟩);cases hF':F (rt id)
      ·rfl
      ·exact absurd ((hF _).1 hF') hm
   ·by_cases hf:famBase<=id
    ·left;by_cases hm:id∈all
     ·rw[hρ2 id id (hfamb id hf hm)];exact hHd.nos id hf (by omega)
     ·rw[hρ2n id hm fun h=>hdy h.1];exact hH.nos id hf (by omega)
    ·rw[azZ (by omega),hk2] at h;simp only[Bool.or_eq_false_iff] at h;obtain⟨h,hshm⟩:=h;by_cases hm:id∈all
     ·obtain⟨k,hb⟩:=hallm id hm;have hkf:k<famBase:=by
       rcases hfix k id hb with⟨h,_⟩|⟨_,h⟩
       ·omega
       ·exact h
      left;rw[hρ2 k id hb];have hkd:hkey Hd k=false:=by
       cases hkd:hkey Hd k
       ·rfl
       ·obtain⟨e,he⟩:=hlive k hkd;rw[((bcZ (H:=Hd) (f:=noOf back) hsn id).2).2 ⟨k,e,hid k id hb,he⟩] at h;cases h
      refine(hHd.fresh k (by rw[azZ hkf];exact hkd)).resolve_right fun hdk=> ?_;obtain⟨m',h1,h2⟩:=hkeysOf k (hDd k hdk).2;obtain⟨m,h3,h4⟩:=(hat k id).1 hb;have:=hkinj m m' k h3 h1;subst this;have h5:=(hlow m k id h3 h4 h2).2;rw[agZ.2 (List.mem_of_getElem? h5)] at hshm;cases hshm
     ·rw[hρ2n id hm fun h=>hdy h.1];cases hk1:hkeyX H1 id
      ·exact(hH.fresh id hk1).imp (fun h=>h) .inl
      ·refine .inr (.inr ⟨hk1,?_⟩);cases hF':F (rt id)
       ·rfl
       ·rw[aHZ (by omega)] at hF';exact absurd ((hF _).1 hF') hm
  ·obtain⟨k,e1,q3,q4,rfl⟩:=hent0 _ _ (hgs _ _ h);have hfo:=hHd.fam k e1 q4;obtain⟨fz,b⟩:=e1;cases b with
   |fam e s ms=>
    have:k=id:=by
     rcases hfix k id q3 with⟨_,h⟩|⟨_,h⟩
     ·exact h
     ·have:=hfo.1;omega
    subst this;exact hfo
   |_=>
    have hkf:k<famBase:=hfo;show id<famBase;rcases hfix k id q3 with⟨h,h'⟩|⟨h,_⟩
    ·omega
    ·exact h
  ·rw[hk2] at h;simp only[Bool.or_eq_true] at h;refine halld id ?_;rcases h with h|h
   ·obtain⟨k,e,h1,_⟩:=((bcZ hsn id).2).1 h;exact hbm k id (a5Z h1)
   ·rw[<-hall];exact List.mem_append_left _ (agZ.1 h)
  ·have hm:rt id∈all:=by
    rw[hk2] at h;simp only[Bool.or_eq_true] at h;rcases h with h|h
    ·obtain⟨k,e,h1,_⟩:=((bcZ hsn (rt id)).2).1 h;exact hbm k _ (a5Z h1)
    ·rw[<-hall];exact List.mem_append_left _ (agZ.1 h)
   rintro(hD|⟨_,hD⟩)
   ·rw[<-hall] at hm;rcases List.mem_append.1 hm with h'|h'
    ·exact hH.dyn id hdy (hsh _ h') hD
    ·exact hd id h' hD
   ·rw[(hF _).2 hm] at hD;cases hD
  ·by_cases hm:id∈all
   ·rw[hρ2 id id (hfamb id h1 hm)];exact hHd.nos id h1 h2
   ·rw[hρ2n id hm fun h=>by omega];exact hH.nos id h1 h2
 obtain⟨z3,r1,r2,r3,r4,r5⟩:=ivZ (H3:=setAll (killAll H1 sh) (renH Hd (noOf back) back)) hH hN hR (fun id h=>by
  rw[hk2] at h;simp only[Bool.or_eq_true] at h;rcases h with h|h
  ·obtain⟨k,e,h1,_⟩:=((bcZ hsn id).2).1 h;exact agZ.2 (hbm k id (a5Z h1))
  ·exact agZ.2 (by rw[<-hall];exact List.mem_append_left _ (agZ.1 h))) (fun id=>by
  rw[a9Z,aGZ,hk2,hg2];by_cases h2:hkey (renH Hd (noOf back) back) id=true
  ·simp[h2]
  ·simp only[h2,Bool.false_eq_true,if_false,Bool.false_or];by_cases hs:memN id sh=true
   ·simp[hs]
   ·simp only[hs,Bool.false_eq_true,if_false];by_cases hF':F id=true
    ·rw[if_pos hF'];have:=agZ.1 hF';rw[<-hall] at this;rcases List.mem_append.1 this with h|h
     ·exact absurd (agZ.2 h) hs
     ·exact aoZ (hfr id h)
    ·rw[if_neg hF']) (fun id h=>by
  rw[hk2] at h;rw[a1Z,a8Z];rcases h with h|h
  ·simp only[Bool.or_eq_true] at h;rcases h with h|h
   ·simp[h]
   ·simp[h]
  ·simp[h]) (fun id h=>by
  rw[a1Z,a8Z] at h;rw[hk2];simp only[Bool.or_eq_true] at h⊢;rcases h with h|h|h
  ·exact .inl (.inl h)
  ·exact .inl (.inr h)
  ·exact .inr (.inl h))
 refine⟨z3,r1,r4,r5,fun a v hna ha=> ?_⟩;exact(ha.ren (z':=z2) rfl rfl (.on hon hna) fun id k _ hk=>hρ2 id k (csZ hk)).less r1 r3 fun g h=>by rw[<-r2];exact h
theorem i5Z{fs:List Nat}{l:List AV}(h:AV.famInTL fs l=true):(tupA l).famInT fs=true:=by
 match l with
 |[]=>rfl
 |[a]=>
  simp only[AV.famInTL,Bool.and_eq_true] at h;exact h.1
 |a::b::l=>exact h
theorem bMZ(id:Nat):hgetX [] id=none:=by
 unfold hgetX;split
 ·rfl
 ·split<;>rfl
theorem h6Z{H:Hp}{l:List Nat}(h:liveAll H l=true):∀id∈l,hkey H id=true:=fun id hid=>by
 obtain⟨e,he⟩:=c8Z h id hid;exact ahZ he
theorem jOZ{e:FnT}{an:Ann}{args:List AV}{vals:List Value}{K:AV->Hp->Option β}{res:β}(hT:Told P e)(h:evCall P e args an H K=some res)(hH:HRep z H)(hd:∀id,rt id∈an.ids->¬z.D id)
 (hmd:∀m∈an.md,m<4\/¬z.D (m+100000))(ha:AReps z args vals):
 Does P e.f vals.toArray z.w fun en w'=>∃v x H' z',en= .returned v/\z'.w=w'/\HRep z' H'/\Nx z z'/\ARep z' x v/\K x H'=some res:=by
 have hb0:=c3Z;unfold evCall at h;rw[chZ] at h;obtain⟨⟨as',H1⟩,h1,h2⟩:=aeZ.1 h;obtain⟨h3,h4⟩:=adZ.1 h2;simp only[Bool.and_eq_true,h1Z,Nat.ble_eq] at h3;obtain⟨⟨⟨⟨⟨f1,f2⟩,f3⟩,f4⟩,f5,f6⟩,f7,f8⟩:=h3;obtain⟨z1,Mf,q1,q2,q3,q4,q5,q6⟩:=fkZ hH hmd h1 ha;have hno:∀o∈e.os,allFamIn (famNs (hkKeys o.hs)) o.tys=true:=fun o ho=>(List.all_eq_true.1 f6) o ho;simp only at h4;by_cases hm:memN 2 an.md=true
 ·rw[hm] at f4;simp only[Bool.not_true,Bool.false_or,Bool.and_eq_true,abZ,List.all_eq_true] at f4;obtain⟨⟨g1,g2⟩,g3⟩:=f4;have e1:an.sh=[]:=List.eq_nil_of_length_eq_zero g2;have e2:an.ids=[]:=List.eq_nil_of_length_eq_zero g3;rw[e1,e2] at h4;rw[e1] at f3
  let z1e:Z:={z1 with M:=Mf,C:=fun _=>False,D:=fun _=>True}
  have hHe:HRep z1e []:=⟨fun id e h=>(by rw[bMZ] at h;cases h),fun i i' e e' g sz n g' sz' n' _ h=>(by rw[bMZ] at h;cases h),fun id _=>.inr trivial,fun g h=>h.elim,fun i x h=>by simp[hget] at h,fun i h=>by simp[hkey] at h,fun i _ h=>by simp[hkey] at h,q2.nos⟩;obtain⟨t,zc0,k1,k2',k3',k4',k5',k6',k7,k8',k9',k10',k11,k12,k13,k14⟩:=Shp.rco_ok (H:=[]) (ps:=[]) (z:=z1e) (fun _=>.no) (fun _ _ _=>rfl) h4 hHe (q5.less rfl rfl fun g h=>h);obtain⟨zc,x1,x2,k4,k5,x3,x4,x5,x6⟩:=htZ f5 k4' k5' k13 k14;have k2:=x1.trans k2';have k3:=x2.trans k3';have k8:∀g,zc.C g->_:=fun g h=>k8' g (by rw[<-x4];exact h);have hDc:∀id,¬zc.D id:=fun id h=>by
   obtain⟨y1,y2⟩:=x5 id h;rw[k10'] at y1;rcases y1.2 with h|h
   ·rcases y2 with y2|y2
    ·omega
    ·have:=agZ.2 y2;rw[this] at y1;cases y1.1
   ·exact h rfl
  obtain⟨r,r1,r2⟩:=Option.bind_eq_some_iff.1 k1;have hw:zc.w=z.w:=k2.trans q1;have hcall:=hT.spec t r r1 zc vals k4 k5 hDc;rw[hw] at hcall;refine hcall.mono ?_;rintro en w' ⟨v,zd,rfl,rfl,hn,hDd,ho⟩;obtain⟨o,y,m1,m2,m3,m4⟩:=OutS.on_both r2 ho;rw[Shp.embC_eq] at m2;obtain⟨p1,p2⟩:=adZ.1 m2;have hCf:∀g,¬zc.C g:=fun g h=>k8 g h
  let z3:Z:={z1 with w:=zd.w}
  have hN:Nx z1 z3:=by
   refine⟨hn.os.trans (by rw[k2]),⟨hn.tape.1.trans (by rw[k2]),by have:=hn.tape.2;rw[k2] at this;exact this⟩,hn.output.trans (by rw[k2]),by have:=hn.size;rw[k2] at this;exact this,fun b hb _=> ?_,fun g h=>.inl h,fun g h=>.inl h,fun _ _ h _=>h,fun _ _=>rfl,rfl⟩;have:=hn.block b (by rw[k2];exact hb) (hCf b);rw[k2] at this;exact this
  have hH3:HRep z3 H1:=by
   refine⟨fun id e he=>(q2.ent id e he).kp (hN.kp q2.sub) fun g sz n hr=>⟨?_,fun h=>h⟩,fun i i' e e' g sz n g' sz' n' hii h1 h2 f1 f2 h3 h4=>q2.inj i i' e e' g sz n g' sz' n' hii h1 h2 f1 f2 h3 h4,fun id hid=>q2.fresh id hid,fun g hg=>q2.sub g hg,q2.fam,q2.key,q2.dyn,q2.nos⟩;have:=hn.block g (by rw[k2];exact(q2.realX he hr).1) (hCf g);rw[k2] at this;exact this
  obtain⟨vs,b1,b2⟩:=kyZ m4;have hsc:=g1 o m1;have hren:AReps z3 (AV.renL (noOf []) (o.emb y).1) vs:=bIZ (z:=zd) (fun id=>rfl) o.ks hsc b1;refine⟨v,_,_,z3,rfl,rfl,hH3,q3.trans hN,?_,p2⟩;show ARep z3 (AV.ren (noOf []) (tupA (o.emb y).1)) v;rw[kXZ];exact b2 hren (b3Z _ _)
 ·have hM:=q6 (by simpa using hm);subst hM;have hlive:liveAll H1 (fstN (zipN an.sh (shKeys 0 an.sh)))=true:=by
   unfold Shp.rco at h4;have:=(adZ.1 h4).1;simp only[Bool.and_eq_true] at this;exact this.2
  rw[cgZ (by rw[a7Z])] at hlive;obtain⟨t,zc0,k1,k2',k3',k4',k5',k6',k7,k8',k9',k10',k11,k12,k13,k14⟩:=Shp.rco_ok (fun _=>.no) (fun _ _ _=>rfl) h4 q2 q5;obtain⟨zc,x1,x2,k4,k5,x3,x4,x5,x6⟩:=htZ f5 k4' k5' k13 k14;have k2:=x1.trans k2';have k3:=x2.trans k3';have k8:∀g,zc.C g->_:=fun g h=>k8' g (by rw[<-x4];exact h);have k9:∀g,zc.C g->_:=fun g h=>k9' g (by rw[<-x4];exact h);have hDc:∀id,¬zc.D id:=fun id h=>by
   obtain⟨y1,y2⟩:=x5 id h;rw[k10'] at y1;rcases y1.2 with h|h
   ·rcases y2 with y2|y2
    ·omega
    ·have:=agZ.2 y2;rw[this] at y1;cases y1.1
   ·exact h rfl
  obtain⟨r,r1,r2⟩:=Option.bind_eq_some_iff.1 k1;have hw:zc.w=z.w:=k2.trans q1;have hcall:=hT.spec t r r1 zc vals k4 k5 hDc;rw[hw] at hcall;refine hcall.mono ?_;rintro en w' ⟨v,zd,rfl,rfl,hn,hDd,ho⟩;obtain⟨o,y,m1,m2,m3,m4⟩:=OutS.on_both r2 ho;rw[Shp.embC_eq] at m2;obtain⟨p1,p2⟩:=adZ.1 m2;simp only[Bool.and_eq_true] at p1;have hkm:∀id,id∈hkKeys e.i.hs->id<dynBase:=fun id h=>k13 id (agZ.2 h);have hshn:∀(m:Nat) k id,(shKeys 0 an.sh)[m]? =some k->an.sh[m]? =some id->zc.ρ k=z1.ρ id/\(id<famBase->zc.ρ k≠.no):=fun m k id hk1 hk2=>by
   have hmem:k∈hkKeys e.i.hs:=by rw[f3];exact List.mem_of_getElem? hk1
   have hkd:=hkm k hmem;obtain⟨id',a1,a2⟩:=k6' k (agZ.2 hmem);have hnd:(sndN (zipN an.sh (shKeys 0 an.sh))).Nodup:=by
    unfold Shp.rco at h4;have:=(adZ.1 h4).1;simp only[Bool.and_eq_true] at this;exact bJZ.1 this.1.2.1
   have hid:id'=id:=by
    have e1:=dlZ hnd a1;have e2:=dlZ hnd (hyZ hk2 hk1);rw[e1] at e2;exact Option.some.inj e2
   subst hid;have hρ:zc.ρ k=z1.ρ id':=(x3 k (.inl hkd)).trans a2;refine⟨hρ,fun hlow hno=> ?_⟩;obtain⟨ee,he⟩:=(b0Z e.i.hs (embL e.i.ks (hkLv e.i.hs []) (untidy e.i.tys t)).2 k).2.1 (agZ.2 hmem);have hkf:k<famBase:=by
    rcases boZ hk1 hk2 with⟨h,_⟩|⟨_,_,h⟩
    ·omega
    ·omega
   have hee:=k4.ent k ee (by rw[anZ hkf];exact he);unfold ERep at hee;rw[hno] at hee;exact hee
  have hshd:∀id,dynBase<=id->rt id∈an.sh->zc.ρ id=z1.ρ id:=fun id hdy hmem=>by
   have h1:=(btZ hdy).1;have hmk:rt id∈hkKeys e.i.hs:=by
    rw[f3];obtain⟨m,hm⟩:=List.getElem?_of_mem hmem;obtain⟨k,hk⟩:=jpZ (n:=0) hm;rcases boZ hk hm with⟨_,rfl⟩|⟨h,_⟩
    ·exact List.mem_of_getElem? hk
    ·omega
   rw[x3 id (.inr hmk),k7 id,if_pos hdy];cases hc:memN id (hkKeys e.i.hs)
   ·rfl
   ·have:=hkm id (agZ.1 hc);omega
  have hokeys:∀k∈hkKeys o.hs,k∈shKeys 0 (an.sh++an.ids):=fun k hk=>by
   have:=(bqZ.1 p1.2) k (cSZ.1 (by rw[show hkey (o.emb y).2 k=memN k (hkKeys o.hs) from(b0Z o.hs (embL o.ks (hkLv o.hs []) (untidy o.tys y)).2 k).1];exact agZ.2 hk));rwa [cgZ (by rw[a7Z])] at this
  obtain⟨z3,c1,c2,c3,c4⟩:=mNZ (sh:=an.sh) (ids:=an.ids) (fs:=famNs (hkKeys o.hs)) q2 (dpZ f1) (h6Z hlive) (fun id hid=>bdZ f7 hid) (fun id hid=>by rw[q3.dom];exact hd id hid) (bJZ.1 p1.1.1) f8 k2 k3
   (fun g hg=>by
    obtain⟨id,ee,sz,n,a1,a2,a3,a4⟩:=k9 g hg;rw[cgZ (by rw[a7Z])] at a1;exact⟨id,ee,sz,n,a1,a2,a3,a4⟩) hshn hshd (fun k hk=>by
    have:=hDd k hk;rw[f3] at this;exact⟨hkm k (by rw[f3];exact this),this⟩) hn m3
   (fun k hk=>by
    have hg:=b0Z o.hs (embL o.ks (hkLv o.hs []) (untidy o.tys y)).2 k;exact hg.2.1 (by rw[<-hg.1];exact hk)) (fun k ee he=>gNZ (hno o m1) m3 he) (fun f hf=>by
    have hod:∀i∈hkKeys o.hs,i<dynBase:=fun i hi=>m3.key i (by rw[show hkey (o.emb y).2 i=memN i (hkKeys o.hs) from(b0Z o.hs (embL o.ks (hkLv o.hs []) (untidy o.tys y)).2 i).1];exact agZ.2 hi);have hmk:=hokeys _ ((cPZ hod (Nat.mod_lt f (by omega))).1 hf);obtain⟨m,hm1⟩:=List.getElem?_of_mem hmk;have hlt:m<(an.sh++an.ids).length:=by have:=(List.getElem?_eq_some_iff.1 hm1).1;rwa [a7Z] at this
    rcases boZ hm1 (List.getElem?_eq_getElem hlt) with⟨_,h⟩|⟨_,_,h⟩
    ·show famBase+f%16∈_;rw[h];exact List.getElem_mem hlt
    ·rw[List.length_append] at h;omega) p1.2
  exact⟨v,_,_,z3,rfl,c1,c2,q3.trans c3,c4 _ _ (i5Z (aRZ o.ks (r:=hkLv o.hs []) _ (hno o m1))) m4,p2⟩
end
end Go.Ab
