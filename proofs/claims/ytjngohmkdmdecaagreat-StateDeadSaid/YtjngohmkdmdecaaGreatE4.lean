/- An evaluator of the model's code over plain values, and its soundness; of no program. -/
import Derived.Test.YtjngohmkdmdecaaGreatE3
import Derived.LoopN
import Derived.DataReads
import Derived.WalkKit
import Derived.ProofKit
import Derived.OpenShut
import Derived.JoinedTies
import GoSem.Claim
import Derived.Shelf.SlSortCmp.NoneTotal
import Derived.Shelf.SlGeneric
import Derived.Shelf.Spec.SlicesInsertGrow
import Derived.Shelf.Slices.Delete
import Derived.Shelf.Strings.IndexAnyAll
import Derived.WalkMore
import Derived.Shelf.Small.Utf8
import Derived.Laws.Runes
import Derived.Lib.Bytealg
set_option linter.all false
namespace Go.Ab
theorem ZAE:type_of% @decide_eq_false:=@decide_eq_false
theorem ZAJ:type_of% @decide_eq_true:=@decide_eq_true
theorem ZAR:type_of% @List.getElem?_cons_zero:=@List.getElem?_cons_zero
theorem ZBQ:type_of% @List.mem_filterMap:=@List.mem_filterMap
theorem ZBS:type_of% @Array.getElem?_append_left:=@Array.getElem?_append_left
theorem ZBa:type_of% @List.pairwise_iff_getElem:=@List.pairwise_iff_getElem
theorem ZB9:type_of% @List.getElem_map:=@List.getElem_map
theorem ZCH:type_of% @List.getElem?_toArray:=@List.getElem?_toArray
theorem ZCa:type_of% @List.drop_eq_nil_of_le:=@List.drop_eq_nil_of_le
theorem ZCf:type_of% @List.range_eq_range':=@List.range_eq_range'
theorem ZCk:type_of% @Option.getD_some:=@Option.getD_some
theorem ZCp:type_of% @List.map_cons:=@List.map_cons
theorem ZCq:type_of% @of_decide_eq_false:=@of_decide_eq_false
theorem ZCu:type_of% @Nat.sub_mul:=@Nat.sub_mul
section
variable {P : Program} {T : Tbl} {N fu : Nat}
theorem psZ{z0}{L}{st}{a}{w}(hi:Inv z0 N L st a w)(hLn:∀p∈L,AV.ids p.2=[])(wr)(hLw:∀p∈L,p.1∉wr):
 ∃L',(∀p∈L,p∈L')/\Inv z0 N L' st a w/\(∀p∈L',AV.ids p.2=[])/\(∀k,((st.tm.keep).junk wr).get k= .junk\/(k,((st.tm.keep).junk wr).get k)∈L')/\∀p∈L',p.1∉wr:=by
 let⟨n,hn⟩:=f4Z ((st.tm.keep).junk wr)
 have aG:∀k,k∉wr->((st.tm.keep).junk wr).get k= .junk\/(((st.tm.keep).junk wr).get k=st.tm.get k/\(st.tm.get k).noRef=true):=fun k hk=>by
  rw[(esZ wr st.tm.keep k).2 hk];exact fBZ st.tm k
 let ex:=(List.range n).filterMap fun k=>if bA k wr=true then none else some (k,((st.tm.keep).junk wr).get k)
 have hex:∀p∈ex,p.1∉wr/\p.2=((st.tm.keep).junk wr).get p.1:=fun p hp=>by
  let⟨k,_,h⟩:=ZBQ.1 hp
  split at h
  ·cases h
  ·rename_i hm;simp at h;subst h;exact⟨fun h=>hm (aiZ.2 h),rfl⟩
 refine⟨L++ex,fun p hp=>ZBc _ hp,?_,fun p hp=> ?_,fun k=> ?_,fun p hp=> ?_⟩
 ·obtain⟨z,rfl,hn',hD,hH,hs,hLs,hdf,hnt,h0⟩:=hi;refine⟨z,rfl,hn',hD,hH,hs,fun p hp=> ?_,hdf,hnt,h0⟩;rcases ZAc.1 hp with hp|hp
  ·exact hLs p hp
  ·let⟨h1,h2⟩:=hex p hp
   rw[h2];rcases aG p.1 h1 with e|⟨e,_⟩<;>rw[e]
   ·exact .junk _
   ·exact hs p.1
 ·rcases ZAc.1 hp with hp|hp
  ·exact hLn p hp
  ·let⟨h1,h2⟩:=hex p hp
   rw[h2];rcases aG p.1 h1 with e|⟨e,h3⟩<;>rw[e]
   ·rfl
   ·exact j3Z h3
 ·by_cases hk:k∈wr
  ·exact .inl ((esZ wr st.tm.keep k).1 hk)
  ·by_cases hlt:k<n
   ·right;refine ZCF _ (ZBQ.2 ⟨k,ZCM.2 hlt,?_⟩);rw[ZAM fun h=>hk (aiZ.1 h)]
   ·exact .inl (hn k (by omega))
 grind
theorem lPZ{β γ}{rt}{outs}{b}{K}{r:γ}(h:Out.retO rt outs b K=some r):
 ∃o,K o=some r/\∀(base) (nt n0) (X) (R:β->Option β),Out.on base nt n0 rt outs o X R=R b:=by
 cases rt with
 |false=>cases h
 |true=>exact⟨_,h,fun base nt n0 X R=>Out.on_ret⟩
theorem mXZ:∀{l} {q},zG l=some q->∃o,l[l.length-1]? =some o/\l≠[]/\o.op= .range q.2.1 q.2.2/\o.dst=some q.1/\o.guard=none
 |[],q,h=>by cases h
 |o::o'::l,q,h=>by
  have h':zG (o'::l)=some q:=by
   unfold zG at h;split at h
   ·rename_i e;simp at e
   ·rename_i e;cases e
   ·rename_i e;cases e;exact h
  let⟨p,h1,h2,h3⟩:=mXZ h'
  refine⟨p,?_,by simp,h3⟩;simpa using h1
 |[o],q,h=>by
  unfold zG at h;split at h
  ·rename_i e;simp at h;subst h;simp_all
  ·cases h
  ·rename_i e;cases e;cases h
structure MRd (m:MR) (a:AC) (nt:Nat) (q:MQ):Prop where
 o:∃o,(m.ops.map (·.1))[m.ops.length-1]? =some o/\m.ops≠[]/\o.op= .range q.t q.x/\o.dst=some q.it/\o.guard=none
 o1:∃o1 o1',m.ops1=[o1,o1']/\(o1.op= .next (.tmp q.it) false/\o1.dst=some q.n/\o1.guard=none)/\(o1'.op= .extract (.tmp q.n) 0/\o1'.dst=some q.b/\o1'.guard=none)
 o2:∃o2 r,m.ops2.map (·.1)=o2::r/\o2.op= .entry (.tmp q.it)/\o2.dst=some q.e/\o2.guard=none
 c:m.o= .tmp q.b
 J:m.J=m.J'
 lt:q.it<nt/\q.n<nt/\q.b<nt/\q.e<nt/\nt<=1048576
 wr:q.it∉m.wr a
 nb:q.n≠q.b
theorem qwZ{m}{a}{nt}{q}(h:TL m a nt=some q):MRd m a nt q:=by
 let⟨q0,h0,h⟩:=agZ.1 h
 let⟨q1,h1,h⟩:=agZ.1 h
 let⟨q2,h2,h⟩:=agZ.1 h
 let⟨b,hb,h⟩:=agZ.1 h
 let⟨it,t,x⟩:=q0
 let⟨n,it1,b1,n1⟩:=q1
 let⟨e,it2⟩:=q2
 generalize hc:(Nat.beq it1 it&&Nat.beq it2 it&&Nat.beq n1 n&&Nat.beq b b1&&Nat.beq m.J m.J'&&(Nat.blt it nt&&Nat.blt n nt&&Nat.blt b nt&&Nat.blt e nt)&&Nat.ble nt 1048576&& !bA it (m.wr a)&& !Nat.beq n b)=cc at h;have h':=h;cases cc
 ·cases h'
 simp[ZAO] at h';subst h';simp only[ZAF,afZ,ZBX] at hc;obtain⟨⟨⟨⟨⟨⟨⟨⟨rfl,rfl⟩,rfl⟩,rfl⟩,hJ⟩,hl⟩,hx⟩,hw⟩,hn⟩:=hc;refine⟨?_,?_,?_,?_,hJ,⟨hl.1.1.1,hl.1.1.2,hl.1.2,hl.2,ZBL hx⟩,?_,?_⟩
 ·let⟨o,p1,p2,p3⟩:=mXZ h0
  exact⟨o,by simpa using p1,by simpa using p2,p3⟩
 ·unfold VM at h1;split at h1
  ·rename_i e1;simp[ZA3] at h1;obtain⟨rfl,rfl,rfl,rfl⟩:=h1;exact⟨_,_,e1,⟨rfl,rfl,rfl⟩,⟨rfl,rfl,rfl⟩⟩
  ·cases h1
 ·unfold JU at h2;split at h2
  ·rename_i e1;simp[ZA3] at h2;obtain⟨rfl,rfl⟩:=h2;exact⟨_,_,e1,rfl,rfl,rfl⟩
  ·cases h2
 ·unfold JV at hb;split at hb
  ·simp at hb;subst hb;assumption
  ·cases hb
 ·intro hm;rw[aiZ.2 hm] at hw;cases hw
 grind[afZ]
theorem mVZ{z}{H}{k v}{id gm sz n}{g}(hH:aH z H)(h:zH k v H id=some g)(hρ:z.ρ id= .real gm sz n):
 ∃es,z.w.heap[gm]? =some (.map es g.2)/\es.size=g.1.length/\(∀(i:Nat) x e,g.1[i]? =some x->es[i]? =some e->bK z.w z.M z.ρ k x.1.1 e.key/\bK z.w z.M z.ρ v x.1.2 e.val/\e.born=x.2)/\
  (∀(i j:Nat) x y,g.1[i]? =some x->g.1[j]? =some y->x.2=y.2->i=j)/\(∀(i:Nat) x,g.1[i]? =some x->x.2<g.2):=by
 unfold zH at h;obtain⟨e,h1,h2⟩:=agZ.1 h;have hB:=(hH.real h1 hρ).2.2.2;unfold Blk.map? at h2;split at h2
 ·rename_i k' v' m' hb;split at h2
  ·rename_i hm;have e1:k'=k/\v'=v:=by
    unfold CL at hm;injection hm with e1 e2;injection e1 with e1;injection e1 with e1 e3;injection e1 with e1 e4;exact⟨e1,e4⟩
   obtain⟨rfl,rfl⟩:=e1;simp only[ZAO] at h2;subst h2;rw[hb] at hB;exact hB
  ·cases h2
 ·cases h2
structure MI (z0:Z) (N:Nat) (L:List (Nat×AV)) (st:St) (r gm c:Nat) (seen:List Nat) (a:Act) (w:World) (z:Z):Prop where
 hw:z.w=w
 nx:Nx z0 z
 D:∀id,¬z.D id
 H:aH z st.hp
 s:∀t,aF z (st.tm.get t) (a.eval (fA t))
 l:∀p∈L,aF z p.2 (a.eval (fA p.1))
 df:a.defers=[]
 nt:st.nt<=N/\a.tmps.size=N
 n0:∀id,id<aC->z0.ρ id≠.no->id<st.n0
 lt:r<z.w.heap.size
 C:¬z.C r
 M:z.M r
 own:z0.C r\/z0.w.heap.size<=r
 it:z.w.heap[r]? =some (.mapIter (some gm) c seen.reverse.toArray c)
theorem Inv.mono{z0 zb}{L}{st}{a}{w}(h:Inv zb N L st a w)(hz:Nx z0 zb)(h0:∀id,id<aC->z0.ρ id≠.no->id<st.n0):Inv z0 N L st a w:=by
 obtain⟨z,rfl,hn,hD,hH,hs,hLs,hdf,hnt,_⟩:=h;exact⟨z,rfl,hz.trans hn,hD,hH,hs,hLs,hdf,hnt,h0⟩
theorem MI.put{z0 z}{L}{st}{r gm c}{seen}{a}{w}{d}{x}{v}(h:MI z0 N L st r gm c seen a w z)(hd:d<st.nt)(hb:d<1048576)(hL:∀p∈L,p.1≠d)(hx:aF z x v):
 MI z0 N L (st.putO (some d) x) r gm c seen (a.put (some d) v) w z:=by
 have hsl:∀t,aF z ((st.putO (some d) x).tm.get t) ((a.put (some d) v).eval (fA t)):=by
  have:=put_ok (nt:=st.nt) (o:=some d) h.s (by simp_all[jV,ZAF,ZBX]) (by rw[h.nt.2];exact h.nt.1) hx;exact this
 refine⟨h.hw,h.nx,h.D,h.H,hsl,fun p hp=> ?_,(csZ a (some d) v).2.trans h.df,⟨h.nt.1,by rw[(csZ a (some d) v).1];exact h.nt.2⟩,h.n0,h.lt,h.C,h.M,h.own,h.it⟩;rw[b8Z (by grind)];exact h.l p hp
theorem aH.beside{z}{H}{w'}{r}(hH:aH z H)(hM:z.M r)(hC:¬z.C r)(hsz:w'.heap.size=z.w.heap.size)(hne:∀b,b≠r->w'.heap[b]? =z.w.heap[b]?):aH {z with w:=w'} H/\Kp z {z with w:=w'}:=by
 have hk:Kp z {z with w:=w'}:=⟨Nat.le_of_eq hsz.symm,fun b _ hb=>hne b fun e=>hb (e▸hM),fun _ h=>.inl h,fun _ _=>rfl⟩;refine⟨⟨fun id e he=> ?_,hH.inj,hH.fresh,hH.sub,hH.fam,hH.key,hH.dyn,hH.nos⟩,hk⟩;refine(hH.ent id e he).kp hk fun a sa na ha=>⟨hne a fun e'=> ?_,fun h=>h⟩;subst e';obtain⟨_,q2,q3,_⟩:=hH.realX he ha<;>grind
theorem MI.step{z0 z}{L}{st}{r gm c}{seen}{a}{w}(h:MI z0 N L st r gm c seen a w z)(b d)(hd:w.drawn<=d):
 MI z0 N L st r gm c (b::seen) a {w with drawn:=d,heap:=w.heap.setIfInBounds r (.mapIter (some gm) c (seen.reverse.toArray.push b) c)} {z with w:={w with drawn:=d,heap:=w.heap.setIfInBounds r (.mapIter (some gm) c (seen.reverse.toArray.push b) c)}}/\
  Kp z {z with w:={w with drawn:=d,heap:=w.heap.setIfInBounds r (.mapIter (some gm) c (seen.reverse.toArray.push b) c)}}:=by
 obtain⟨rfl,nx,D,H,s,l,df,nt,n0,lt,C,M,own,it⟩:=h;have hne:∀k,k≠r->(z.w.heap.setIfInBounds r (.mapIter (some gm) c (seen.reverse.toArray.push b) c))[k]? =z.w.heap[k]? :=fun k hk=>by
  rw[Array.getElem?_setIfInBounds_ne (ZBf hk)]
 let⟨hH,hkp⟩:=H.beside (w':={z.w with drawn:=d,heap:=z.w.heap.setIfInBounds r (.mapIter (some gm) c (seen.reverse.toArray.push b) c)}) M C (by simp) hne
 refine⟨⟨rfl,⟨nx.os,⟨nx.tape.1,ZBD nx.tape.2 hd⟩,nx.output,by simpa using nx.size,fun k hk hc=> ?_,nx.subM,nx.subC,nx.keepM,nx.ext,nx.dom⟩,D,hH,fun t=>(s t).kp hkp,fun p hp=>(l p hp).kp hkp,df,nt,n0,by simpa using lt,C,M,own,?_⟩,hkp⟩
 ·rw[hne k fun e=>by
   subst e;rcases own with h|h
   ·exact hc h
   ·omega]
  exact nx.block k hk hc
 simp_all
theorem seZ{z0}{L}{st}{a}{w}{o:Oper}{t k e}{x}{it m0:Nat}{kt vt}{g0}{next}{Q}
 (ho:o.op= .range t x)(hd:o.dst=some it)(hlt:it<st.nt)(hbt:it<1048576)(ht:P.underlying t=some (.map k e))(hi:Inv z0 N L st a w)(hx:(st.opnd x).mp1? =some m0)(hm:zH kt vt st.hp m0=some g0)(hL:∀p∈L,p.1≠it)
 (hk:∀a' w' z' r gm,MI z0 N ((it,.p .opq (.pointer (some ⟨r,0,none⟩)))::L) (st.putO (some it) .junk) r gm g0.2 [] a' w' z'->(∃sz n,z'.ρ m0= .real gm sz n)->next a' w'):o.wp P a w next Q:=by
 obtain⟨z,rfl,hn,hD,hH,hs,hLs,hdf,hnt,h0⟩:=hi;have hxv:=dsZ hs x;unfold AV.mp1? at hx;split at hx
 ·rename_i id hid;simp only[ZAO] at hx;subst hx;rw[hid] at hxv;cases hv:a.eval x<;>rw[hv] at hxv<;>first|(cases hxv;done)|skip;cases hxv with
  |mp _ g sz n hρ=>
   obtain⟨es,q1,q2,q3,q4,q5⟩:=mVZ hH hm hρ
   let w':=z.w.alloc (.mapIter (some g) g0.2 #[] g0.2)
   have hw:(execOp a.eval o).run P z.w= .ok (.value (.pointer (some ⟨z.w.heap.size,0,none⟩))) w':=by
    simp only[execOp,ho,hv,Sem.run_bind,jnZ ht q1]
    rfl
   have hold:∀b,b<z.w.heap.size->w'.heap[b]? =z.w.heap[b]? :=fun b hb=>heap_alloc_old _ _ hb;have hsz:w'.heap.size=z.w.heap.size+1:=by show(z.w.heap.push _).size=_;simp
   let z':Z:={z with w:=w',M:=fun y=>z.M y\/y=z.w.heap.size,C:=fun y=>z.C y/\y≠z.w.heap.size}
   have hn':Nx z z':=⟨rfl,⟨rfl,ZAL _⟩,rfl,by show _<=w'.heap.size;omega,fun b hb _=>hold b hb,fun y h=>h.elim .inl fun h=>.inr (by omega),fun _ h=>.inl h.1,fun _ _ h _=>.inl h,fun _ _=>rfl,rfl⟩;have kp:=hn'.kp hH.sub;have hH':aH z' st.hp:=⟨fun i e' he=>(hH.ent i e' he).kp kp fun b sb nb hb=>⟨hold b (hH.realX he hb).1,fun h=>⟨h,by have:=(hH.realX he hb).1;omega⟩⟩,hH.inj,hH.fresh,fun y h=>.inl (hH.sub y h.1),hH.fam,hH.key,hH.dyn,hH.nos⟩;unfold Oper.wp;rw[hw];show next (a.put o.dst _) w';rw[hd];have hdl:it<a.tmps.size:=by rw[hnt.2];omega
   refine hk _ _ z' z.w.heap.size g ⟨rfl,hn.trans hn',fun id=>by rw[hn'.dom];exact hD id,hH',?_,fun p hp=> ?_,(csZ a (some it) _).2.trans hdf,⟨hnt.1,by rw[(csZ a (some it) _).1];exact hnt.2⟩,h0,by show _<w'.heap.size;omega,fun h=>h.2 rfl,.inr rfl,.inr hn.size,heap_alloc_new _ _⟩ ⟨sz,n,hρ⟩
   ·exact put_ok (nt:=st.nt) (o:=some it) (fun t=>(hs t).kp kp) (by simp only[jV,ZAF,ZBX];exact⟨hlt,hbt⟩) (by rw[hnt.2];exact hnt.1) (.junk _)
   ·rcases ZAg.1 hp with rfl|hp
    ·rw[c6Z hdl hbt];exact .p _ _ _ ⟨[_],⟨rfl,rfl⟩,rfl⟩
    ·rw[b8Z (by simpa using ZBf (hL p hp))];exact(hLs p hp).kp kp
 simp_all
theorem s7Z{L:List (Nat×AV)}(st:St)(hLn:∀p∈L,AV.ids p.2=[])(wr)(hLw:∀p∈L,p.1∉wr):
 ∃L':List (Nat×AV),(∀p∈L,p∈L')/\(∀(z:Z) (a:Act),(∀t,aF z (st.tm.get t) (a.eval (fA t)))->(∀p∈L,aF z p.2 (a.eval (fA p.1)))->∀p∈L',aF z p.2 (a.eval (fA p.1)))/\(∀p∈L',AV.ids p.2=[])/\(∀k,((st.tm.keep).junk wr).get k= .junk\/(k,((st.tm.keep).junk wr).get k)∈L')/\∀p∈L',p.1∉wr:=by
 obtain⟨n,hn⟩:=f4Z ((st.tm.keep).junk wr);have aG:∀k,k∉wr->((st.tm.keep).junk wr).get k= .junk\/(((st.tm.keep).junk wr).get k=st.tm.get k/\(st.tm.get k).noRef=true):=fun k hk=>by
  rw[(esZ wr st.tm.keep k).2 hk];exact fBZ st.tm k
 let ex:List (Nat×AV):=(List.range n).filterMap fun k=>if bA k wr=true then none else some (k,((st.tm.keep).junk wr).get k)
 have hex:∀p∈ex,p.1∉wr/\p.2=((st.tm.keep).junk wr).get p.1:=fun p hp=>by
  obtain⟨k,_,h⟩:=ZBQ.1 hp;split at h
  ·cases h
  ·rename_i hm;simp only[ZAO] at h;subst h;exact⟨fun h=>hm (aiZ.2 h),rfl⟩
 refine⟨L++ex,fun p hp=>ZBc _ hp,fun z a hs hLs p hp=> ?_,fun p hp=> ?_,fun k=> ?_,fun p hp=> ?_⟩
 ·rcases ZAc.1 hp with hp|hp
  ·exact hLs p hp
  ·obtain⟨h1,h2⟩:=hex p hp;rw[h2];rcases aG p.1 h1 with e|⟨e,_⟩<;>rw[e]
   ·exact .junk _
   ·exact hs p.1
 ·rcases ZAc.1 hp with hp|hp
  ·exact hLn p hp
  ·obtain⟨h1,h2⟩:=hex p hp;rw[h2];rcases aG p.1 h1 with e|⟨e,h3⟩<;>rw[e]
   ·rfl
   ·exact j3Z h3
 ·by_cases hk:k∈wr
  ·exact .inl ((esZ wr st.tm.keep k).1 hk)
  ·by_cases hlt:k<n
   ·right;refine ZCF _ (ZBQ.2 ⟨k,ZCM.2 hlt,?_⟩);rw[ZAM fun h=>hk (aiZ.1 h)]
   ·exact .inl (hn k (by omega))
 grind
theorem dbZ{o}{f}(h:o.guard=none):Region.wanted o f=true:=by simp[Region.wanted,h]
set_option maxHeartbeats 1000000 in
theorem wdZ(hT:∀e∈T,dY P e){m:MR}{x:AC}(IH:∀{z0:Z} {β:Type} {st:St} {K:St->Option β} {X:Nat->St->Option β} {R:St->Option β} {res:β} {c:Code} {L:List (Nat×AV)} {a:Act} {w:World}
 {Q:Exit->Act->World->Prop},evS P T fu x st K X R=some res->x.of c->Inv z0 N L st a w->(∀p∈L,AV.ids p.2=[])->(∀p∈L,p.1∉x.wr)->
 (∀st' a' w',K st'=some res->Inv z0 N L st' a' w'->Q .normal a' w')->(∀i st' a' w',X i st'=some res->Inv z0 N L st' a' w'->Q (.exit i) a' w')->
 (∀st' a' w',R st'=some res->Inv z0 N L st' a' w'->Q .ret a' w')->c.wp P Q a w)
 {z0:Z}{β:Type}{st:St}{K:St->Option β}{X:Nat->St->Option β}{R:St->Option β}{res:β}{c:Code}{L:List (Nat×AV)}{a:Act}{w:World}
 {Q:Exit->Act->World->Prop}(h:evS P T fu (.mrange m x) st K X R=some res)(hc:(AC.mrange m x).of c)(hi:Inv z0 N L st a w)(hLn:∀p∈L,AV.ids p.2=[])(hLw:∀p∈L,p.1∉(AC.mrange m x).wr)
 (hK:∀st' a' w',K st'=some res->Inv z0 N L st' a' w'->Q .normal a' w')(hX:∀i st' a' w',X i st'=some res->Inv z0 N L st' a' w'->Q (.exit i) a' w')
 (hR:∀st' a' w',R st'=some res->Inv z0 N L st' a' w'->Q .ret a' w'):c.wp P Q a w:=by
 obtain⟨arr,arr1,arr2,y,rfl,hops,hops1,hops2,hy⟩:=hc;simp only[AC.wr,ZAc,not_or] at hLw;have hwrL:∀p∈L,p.1∉m.wr x:=fun p hp hm=>by
  simp only[MR.wr,ZAc] at hm;have:=hLw p hp;rcases hm with hm|hm|hm
  ·exact this.2.1 hm
  ·exact this.2.2.1 hm
  ·exact this.2.2.2 hm
 have hlen:m.ops.length=arr.size:=by
  have:=congrArg List.length hops;simpa using this
 simp only[evS] at h;refine wp_seq (wp_region ?_);by_cases ho2:m.ops=[]
 ·rw[ho2] at h;obtain⟨q,hq,_⟩:=agZ.1 h;obtain⟨⟨o,ho1,ho2',_⟩,_⟩:=qwZ hq;exact absurd ho2 ho2'
 have hpos:=List.length_pos_iff.2 ho2;have hrange:List.range arr.size=List.range' 0 m.ops.dropLast.length++[m.ops.length-1]:=by
  rw[<-hlen,ZCf,List.length_dropLast];have:m.ops.length=(m.ops.length-1)+1:=by omega
  conv=>lhs;rw[this]
  rw[List.range'_1_concat];simp
 rw[hrange];refine dpZ (ops:=arr) hT (fun st1 a1 w1 h1 hi1=> ?_) m.ops.dropLast 0 (fun i x hx=> ?_) (fun x hx p hp he=>(hLw p hp).1 (ZBQ.2 ⟨x,(List.dropLast_subset _ hx),he⟩)) st a w (by rw[<-hops];exact h) hi
 case refine_2=>
  rw[List.getElem?_dropLast] at hx;split at hx
  ·have e:(m.ops.map (·.1))[i]? =some x.1:=by rw[ZAY,hx];rfl
   rw[hops] at e;rw[ZA5,<-Array.getElem?_toList];exact e
  ·cases hx
 clear h hi;obtain⟨q,hq,h1⟩:=agZ.1 h1;obtain⟨ht,h1⟩:=adZ.1 h1;obtain⟨⟨o,ho1,_,ho3,ho4,ho5⟩,⟨o1,o1',h1a,⟨h1b,h1c,h1d⟩,h1e,h1f,h1g⟩,⟨o2,r2,h2a,h2b,h2c,h2d⟩,hmo,hJ,⟨l1,l2,l3,l4,l5⟩,hwr,hnb⟩:=qwZ hq;have htm:∃kT eT,P.underlying q.t=some (.map kT eT):=by
  split at ht
  ·exact⟨_,_,by assumption⟩
  ·cases ht
 obtain⟨kT,eT,htm⟩:=htm;have hitL:∀p∈L,p.1≠q.it:=fun p hp e=>(hLw p hp).1 (by
  rw[e];rw[ZAY] at ho1;obtain⟨po,hpo,hpe⟩:=ZAI.1 ho1;exact ZBQ.2 ⟨po,ZAG hpo,by rw[hpe];exact ho4⟩)
 obtain⟨m0,hm0,h1⟩:=agZ.1 h1;obtain⟨g0,hg0,h1⟩:=agZ.1 h1;obtain⟨hpair,h1⟩:=adZ.1 h1;have hlo:=ho1;rw[hops,ZAs] at hlo;simp only[wpOps,hlo,dbZ ho5];rw[ZAN trivial];refine .inl (seZ ho3 ho4 l1 (ZAz l1 l5) htm hi1 hm0 hg0 hitL fun a2 w2 z2 r gm hMI hgm=> ?_);obtain⟨L',q1,q2,q3,q4,q5⟩:=s7Z (L:=(q.it,.p .opq (.pointer (some ⟨r,0,none⟩)))::L) (st1.putO (some q.it) .junk) (fun p hp=>by
  rcases ZAg.1 hp with rfl|hp
  ·rfl
  ·exact hLn p hp) (m.wr x) (fun p hp=>by
  rcases ZAg.1 hp with rfl|hp
  ·exact hwr
  ·exact hwrL p hp)
 have h0':∀id,id<aC->z0.ρ id≠.no->id<Nat.max st1.n0 (m.mid+1):=fun id hdy hid=>ZAz (hMI.n0 id hdy hid) (Nat.le_max_left _ _);have h01:∀id,id<aC->z0.ρ id≠.no->id<st1.n0:=hMI.n0;have hnN:st1.nt<=N:=hMI.nt.1;have hdL:∀d,d∈m.wr x->∀p∈L',p.1≠d:=fun d hd p hp e=>q5 p hp (by rw[e];exact hd);have hnw:q.n∈m.wr x:=by
  simp only[MR.wr,ZAc];exact .inl (ZBQ.2 ⟨o1,by rw[h1a];simp,h1c⟩)
 have hbw:q.b∈m.wr x:=by
  simp only[MR.wr,ZAc];exact .inl (ZBQ.2 ⟨o1',by rw[h1a];simp,h1f⟩)
 obtain⟨p2,hp2,hp2e⟩:∃p2∈m.ops2,p2.1=o2:=by
  have:o2∈m.ops2.map (·.1):=by rw[h2a];simp
  obtain⟨p2,h1,h2⟩:=ZBM.1 this;exact⟨p2,h1,h2⟩
 have hew:q.e∈m.wr x:=by
  simp only[MR.wr,ZAc];exact .inr (.inl (ZBQ.2 ⟨p2,hp2,by rw[hp2e];exact h2c⟩))
 generalize hbase:((st1.putO (some q.it) .junk).tm.keep).junk (m.wr x)=base at*;obtain⟨t0,z3,k1,k2,k3,k4,k5,k6,k7,k8,k9,k10⟩:=jfZ (base:=base) (nt:=st1.nt) (n0:=Nat.max st1.n0 (m.mid+1)) h1 hMI.nx hMI.D hMI.H hMI.s (q2 z2 a2 hMI.s hMI.l) hMI.n0 q3 q4 h0';have hg3:∃sz n,z3.ρ m.mid= .real gm sz n:=by
  obtain⟨sz,n,h⟩:=hgm;exact⟨sz,n,(k10 _ _ hpair).trans h⟩
 have hMI3:MI z0 N L' (m.sh.inj base st1.nt (Nat.max st1.n0 (m.mid+1)) t0) r gm g0.2 [] a2 w2 z3:=
  ⟨k2.trans hMI.hw,k3,k4,k5,k6,k7,hMI.df,by rw[dM.inj_eq];exact⟨hnN,hMI.nt.2⟩,by rw[dM.inj_eq];exact h0',by rw[k2];exact hMI.lt,fun h=>hMI.C (k9 _ h),by rw[k8];exact hMI.M,hMI.own,by rw[k2];exact hMI.it⟩
 obtain⟨n,hn⟩:=qhZ k1;clear k1 k2 k3 k4 k5 k6 k7 k8 k9 k10 hMI hgm h1 hpair hg0 hm0 hi1;refine wp_block (wp_loop_rounds n ?_);generalize hhd:(fun t=>(zH m.kt m.vt (m.sh.inj base st1.nt (Nat.max st1.n0 (m.mid+1)) t).hp m.mid).ob fun g=>aP (Nat.beq g.2 g0.2) (some g.1))=hd at hn;generalize hfd:(fun(t:m.sh.D) (e:(m.kt.den×m.vt.den)×Nat)=>oF P T m.ops2.tail (m.ops2.map (·.1)) ((((m.sh.inj base st1.nt (Nat.max st1.n0 (m.mid+1)) t).putO (some q.n) .junk).putO (some q.b) (.b true)).putO (some q.e) (.tup [.ofTy m.kt e.1.1,.ofTy m.vt e.1.2])) fun st2=>
  evS P T fu (β:=m.sh.D⊕Out m.ret m.outs β) x st2 (fun st3=>st3.prj m.sh fun t'=>some (.inl t'))
   (fun j st3=>bq (Nat.beq j m.C) (st3.prj m.sh fun t'=>some (.inl t')) (Out.mk st3 m.ret m.outs j fun o=>some (.inr o)))
   (fun st3=>(R st3).ob fun b=>Out.retO m.ret m.outs b fun o=>some (.inr o)))=fd at hn
 revert hn hMI3 hg3;generalize ([]:List Nat)=seen;generalize t0=t;generalize a2=a3;generalize w2=w3;clear a2 w2 t0;revert seen t a3 w3 z3;clear z2;induction n with
 |zero=>intro z seen t a w _ _ h;exact h.elim
 |succ n ih=>
 intro z seen t a w hgm hMI hn;obtain⟨l,hl,hend,hstep⟩:=hn;rw[<-hhd] at hl;obtain⟨g,hg,hl⟩:=agZ.1 hl;obtain⟨hgc,hl⟩:=adZ.1 hl;simp only[ZAO] at hl;subst hl;rw[afZ] at hgc;obtain⟨sz,nn,hρ⟩:=hgm;obtain⟨es,e1,e2,e3,e4,e5⟩:=mVZ hMI.H hg hρ;rw[hgc] at e1 e5;have hit:=hMI.it;obtain rfl:=hMI.hw;have hit0:a.eval (.tmp q.it)= .pointer (some ⟨r,0,none⟩):=dyZ (ZAz l1 l5)▸(hMI.l _ (q1 _ ZAk)).v.opq.1;have hat:∀{i:Nat} {e:MapEntry},es[i]? =some e->∃x,g.1[i]? =some x/\bK z.w z.M z.ρ m.kt x.1.1 e.key/\bK z.w z.M z.ρ m.vt x.1.2 e.val/\e.born=x.2:=fun{i e} he=>by
  have hi:i<g.1.length:=by rw[<-e2];exact(ZBE.1 he).1
  exact⟨_,ZAC hi,e3 i _ e (ZAC hi) he⟩
 have hold:∀x∈es.toList,x.born<g0.2:=fun x hx=>by
  obtain⟨i,hi⟩:=ZAP hx;rw[ZAs] at hi;obtain⟨y,h1,_,_,h2⟩:=hat hi;rw[h2];exact e5 i y h1
 have hnd:(es.toList.map (·.born)).Nodup:=by
  unfold List.Nodup;rw[ZBa];intro i j hi hj hij;simp only[ZAl,ZA8] at hi hj;have h1:=ZAy (xs:=es) (i:=i) hi;have h2:=ZAy (xs:=es) (i:=j) hj;obtain⟨y1,a1,_,_,b1⟩:=hat h1;obtain⟨y2,a2,_,_,b2⟩:=hat h2;simp only[ZB9,Array.getElem_toList];intro h;have:=e4 i j y1 y2 a1 a2 (by rw[<-b1,<-b2,h]);omega
 rw[rounds_succ];have ha1:arr1=#[o1,o1']:=by
  apply Array.toList_inj.1;rw[<-hops1,h1a]
 subst ha1;refine wp_seq (wp_region ?_);simp only[ZBK,ZBl,List.length_nil];show wpOps P #[o1,o1'] _ [0,1] a z.w;simp only[wpOps,ZCH,ZAR,List.getElem?_cons_succ,dbZ h1d,dbZ h1g];rw[ZAN trivial];refine .inl ?_;rcases run_next_at (P:=P) (ty:=o1.type) hit e1 hold with⟨hall,hrun⟩|⟨e,he,hne,d,hdr,hrun⟩
 ·
  unfold Oper.wp;have hx1:(execOp a.eval o1).run P z.w= .ok (.value (.tuple #[.bool false])) z.w:=by
   simp only[execOp,h1b,hit0,Sem.run_bind,hrun];rfl
  rw[hx1,Oper.upon_value,h1c];refine .inl ?_;have hdl:q.n<a.tmps.size:=by rw[hMI.nt.2];exact ZAz l2 hnN
  have hnt':(m.sh.inj base st1.nt (Nat.max st1.n0 (m.mid+1)) t).nt=st1.nt:=by rw[dM.inj_eq]
  have hM1:=hMI.put (d:=q.n) (x:=.junk) (v:=.tuple #[.bool false]) (by rw[hnt'];exact l2) (ZAz l2 l5) (hdL _ hnw) (.junk _);have hx2:(execOp (a.put (some q.n) (.tuple #[.bool false])).eval o1').run P z.w= .ok (.value (.bool false)) z.w:=by
   simp only[execOp,h1e,b2Z hdl,Sem.run_bind];rfl
  rw[hx2,Oper.upon_value,h1f];have hM2:=hM1.put (d:=q.b) (x:=.b false) (v:=.bool false) (by show q.b<(m.sh.inj base st1.nt (Nat.max st1.n0 (m.mid+1)) t).nt;rw[hnt'];exact l3) (ZAz l3 l5) (hdL _ hbw) (.p _ _ _ ⟨_,rfl,rfl⟩);have hdb:q.b<(a.put (some q.n) (.tuple #[.bool false])).tmps.size:=by rw[hM1.nt.2];exact ZAz l3 hnN
  refine wp_seq (wp_cond_false (by rw[hmo];exact b2Z hdb) (wp_exit ?_));show(if m.J'=m.J then Q .normal _ _ else Q (.exit m.J') _ _);rw[ZAN hJ.symm];have hF:=hend (by
   unfold xA;rw[List.filter_eq_nil_iff];intro y hy;obtain⟨i,hi⟩:=ZAP hy;have hi':i<es.size:=by rw[e2];exact(ZAB.1 hi).1
   obtain⟨y',b1,_,_,b2⟩:=hat (ZAy hi');rw[hi] at b1;simp only[ZAO] at b1;subst b1;have:=hall es[i] (by simp);rw[b2] at this;simp only[ZAj,Bool.not_eq_false];rw[aiZ];simpa using this)
  obtain⟨t2,z4,b1,b2,b3,b4,b5,b6,b7,b8,b9,b10⟩:=jfZ (base:=base) (nt:=st1.nt) (n0:=st1.n0) hF hM2.nx hM2.D hM2.H hM2.s hM2.l hM2.n0 q3 q4 h01;refine hK _ _ _ b1 ⟨z4,b2,b3,b4,b5,b6,fun p hp=>b7 p (q1 p (ZAb _ hp)),hM2.df,by rw[dM.inj_eq];exact⟨hnN,hM2.nt.2⟩,by rw[dM.inj_eq];exact h01⟩
 ·
  obtain⟨i,hi⟩:=ZAP he;rw[ZAs] at hi;obtain⟨kv,c1,c2,c3,c4⟩:=hat hi;have hmem:kv∈xA seen g.1:=by
   refine ZBi.2 ⟨ZAG c1,?_⟩;simp only[ZAj];cases hm:bA kv.2 seen
   ·rfl
   ·rw[aiZ,<-c4] at hm;have:seen.reverse.toArray.contains e.born=true:=by simpa using hm
    rw[this] at hne;cases hne
  obtain⟨hM0,hkp⟩:=hMI.step e.born d hdr;have hgr:gm≠r:=fun h=>by subst h;rw[e1] at hit;cases hit
  unfold Oper.wp;have hx1:(execOp a.eval o1).run P z.w= .ok (.value (.tuple #[.bool true,e.key,e.val])) {z.w with drawn:=d,heap:=z.w.heap.setIfInBounds r (.mapIter (some gm) g0.2 (seen.reverse.toArray.push e.born) g0.2)}:=by
   simp only[execOp,h1b,hit0,Sem.run_bind,hrun];rfl
  rw[hx1,Oper.upon_value,h1c];have hw1:({z.w with drawn:=d,heap:=z.w.heap.setIfInBounds r (.mapIter (some gm) g0.2 (seen.reverse.toArray.push e.born) g0.2)}:World).heap[gm]? =some (.map es g0.2):=by
   show(z.w.heap.setIfInBounds r _)[gm]? =_;rw[Array.getElem?_setIfInBounds_ne (ZBf hgr)];exact e1
  have hk1:=c2.kp hkp;have hk2:=c3.kp hkp;generalize ({z.w with drawn:=d,heap:=z.w.heap.setIfInBounds r (.mapIter (some gm) g0.2 (seen.reverse.toArray.push e.born) g0.2)}:World)=w1 at*;have hρ1:({z with w:=w1}:Z).ρ m.mid= .real gm sz nn:=hρ;generalize ({z with w:=w1}:Z)=z1 at*;refine .inl ?_;have hdl:q.n<a.tmps.size:=by rw[hMI.nt.2];exact ZAz l2 hnN
  have hnt':(m.sh.inj base st1.nt (Nat.max st1.n0 (m.mid+1)) t).nt=st1.nt:=by rw[dM.inj_eq]
  have hM1:=hM0.put (d:=q.n) (x:=.junk) (v:=.tuple #[.bool true,e.key,e.val]) (by rw[hnt'];exact l2) (ZAz l2 l5) (hdL _ hnw) (.junk _);have hx2:(execOp (a.put (some q.n) (.tuple #[.bool true,e.key,e.val])).eval o1').run P w1= .ok (.value (.bool true)) w1:=by
   simp only[execOp,h1e,b2Z hdl,Sem.run_bind];rfl
  rw[hx2,Oper.upon_value,h1f];have hM2:=hM1.put (d:=q.b) (x:=.b true) (v:=.bool true) (by show q.b<(m.sh.inj base st1.nt (Nat.max st1.n0 (m.mid+1)) t).nt;rw[hnt'];exact l3) (ZAz l3 l5) (hdL _ hbw) (.p _ _ _ ⟨_,rfl,rfl⟩);have hdb:q.b<(a.put (some q.n) (.tuple #[.bool true,e.key,e.val])).tmps.size:=by rw[hM1.nt.2];exact ZAz l3 hnN
  refine wp_seq (wp_cond_true (by rw[hmo];exact b2Z hdb) (wp_skip ?_));refine wp_block (wp_seq (wp_region ?_));have ha2:arr2.size=m.ops2.tail.length+1:=by
   have e1:=congrArg List.length hops2;have e2:=congrArg List.length h2a;simp only[ZAl,ZA8,ZBl] at e1 e2;rw[List.length_tail];omega
  have hhd2:arr2[0]? =some o2:=by
   rw[<-Array.getElem?_toList,<-hops2,h2a];rfl
  have hr2:List.range arr2.size=0::List.range' 1 m.ops2.tail.length:=by
   rw[ha2,ZCf,List.range'_succ]
  rw[hr2];simp only[wpOps,hhd2,dbZ h2d];rw[ZAN trivial];refine .inl ?_;unfold Oper.wp;have hit2:((a.put (some q.n) (.tuple #[.bool true,e.key,e.val])).put (some q.b) (.bool true)).eval (.tmp q.it)= .pointer (some ⟨r,0,none⟩):=dyZ (ZAz l1 l5)▸(hM2.l _ (q1 _ ZAk)).v.opq.1;have hit3:=hM2.it;rw[hM2.hw] at hit3;simp only[List.reverse_cons,<-List.push_toArray] at hit3;have hx3:(execOp ((a.put (some q.n) (.tuple #[.bool true,e.key,e.val])).put (some q.b) (.bool true)).eval o2).run P w1= .ok (.value (.tuple #[e.key,e.val])) w1:=by
   simp only[execOp,h2b,hit2,Sem.run_bind,kJZ hit3 hw1 he hnd];rfl
  rw[hx3,Oper.upon_value,h2c];have hM3:=hM2.put (d:=q.e) (x:=.tup [.ofTy m.kt kv.1.1,.ofTy m.vt kv.1.2]) (v:=.tuple #[e.key,e.val]) (by show q.e<(m.sh.inj base st1.nt (Nat.max st1.n0 (m.mid+1)) t).nt;rw[hnt'];exact l4) (ZAz l4 l5) (hdL _ hew) (.tup _ _ rfl fun i x v p1 p2=>by
   match i with
   |0=>simp at p1 p2;subst p1;subst p2;exact b7Z hk1
   |1=>simp at p1 p2;subst p1;subst p2;exact b7Z hk2
   |i+2=>simp at p1)
  have hstp:=hstep kv hmem;rw[<-hfd] at hstp
  let zb:Z:={z1 with ρ:=fun id=>if id<Nat.max st1.n0 (m.mid+1)\/aC<=id then z1.ρ id else .no}
  have hzb:Nx z0 zb:=by
   have nx:=hM3.nx;refine⟨nx.os,nx.tape,nx.output,nx.size,nx.block,nx.subM,nx.subC,nx.keepM,fun id hid=> ?_,nx.dom⟩;show(if id<Nat.max st1.n0 (m.mid+1)\/aC<=id then z1.ρ id else .no)=_;rw[ZAN (by rcases ZBy id aC with h|h;exact .inl (h0' id h hid);exact .inr h)];exact nx.ext id hid
  have hzb1:Nx zb z1:=by
   refine⟨rfl,⟨rfl,ZAL _⟩,rfl,ZAL _,fun _ _ _=>rfl,fun _ h=>.inl h,fun _ h=>.inl h,fun _ _ h _=>h,fun id hid=> ?_,rfl⟩;show z1.ρ id=if id<Nat.max st1.n0 (m.mid+1)\/aC<=id then z1.ρ id else .no;have hid:(if id<Nat.max st1.n0 (m.mid+1)\/aC<=id then z1.ρ id else .no)≠.no:=hid;by_cases h:id<Nat.max st1.n0 (m.mid+1)\/aC<=id
   ·rw[ZAN h]
   ·rw[ZAM h] at hid;exact absurd rfl hid
  have hzb0:∀id,id<aC->zb.ρ id≠.no->id<Nat.max st1.n0 (m.mid+1):=fun id hdy hid=>by
   have hid:(if id<Nat.max st1.n0 (m.mid+1)\/aC<=id then z1.ρ id else .no)≠.no:=hid;by_cases h:id<Nat.max st1.n0 (m.mid+1)
   ·exact h
   ·rw[ZAM (by omega)] at hid;exact absurd rfl hid
  have hzbm:zb.ρ m.mid= .real gm sz nn:=by
   show(if m.mid<Nat.max st1.n0 (m.mid+1)\/aC<=m.mid then z1.ρ m.mid else .no)=_;rw[ZAN (.inl (ZAz (Nat.lt_succ_self _) (Nat.le_max_right _ _)))];exact hρ1
  have hzbn:(m.sh.inj base st1.nt (Nat.max st1.n0 (m.mid+1)) t).n0=Nat.max st1.n0 (m.mid+1):=by rw[dM.inj_eq]
  have hib:Inv zb N L' ((((m.sh.inj base st1.nt (Nat.max st1.n0 (m.mid+1)) t).putO (some q.n) .junk).putO (some q.b) (.b true)).putO (some q.e) (.tup [.ofTy m.kt kv.1.1,.ofTy m.vt kv.1.2])) (((a.put (some q.n) (.tuple #[.bool true,e.key,e.val])).put (some q.b) (.bool true)).put (some q.e) (.tuple #[e.key,e.val])) w1:=
   ⟨z1,hM3.hw,hzb1,hM3.D,hM3.H,hM3.s,hM3.l,hM3.df,hM3.nt,fun id hdy hid=>by show id<(m.sh.inj base st1.nt (Nat.max st1.n0 (m.mid+1)) t).n0;rw[hzbn];exact hzb0 id hdy hid⟩
  obtain⟨v,hv,hvr⟩:∃v,oF P T m.ops2.tail (m.ops2.map (·.1)) ((((m.sh.inj base st1.nt (Nat.max st1.n0 (m.mid+1)) t).putO (some q.n) .junk).putO (some q.b) (.b true)).putO (some q.e) (.tup [.ofTy m.kt kv.1.1,.ofTy m.vt kv.1.2])) (fun st2=>
   evS P T fu (β:=m.sh.D⊕Out m.ret m.outs β) x st2 (fun st3=>st3.prj m.sh fun t'=>some (.inl t'))
    (fun j st3=>bq (Nat.beq j m.C) (st3.prj m.sh fun t'=>some (.inl t')) (Out.mk st3 m.ret m.outs j fun o=>some (.inr o)))
    (fun st3=>(R st3).ob fun b=>Out.retO m.ret m.outs b fun o=>some (.inr o)))=some v/\((∃t',v= .inl t'/\MOk hd fd _ n (kv.2::seen) t')\/∃o,v= .inr o/\Out.on base st1.nt st1.n0 m.ret m.outs o (fun j st'=>bq (Nat.beq j m.J) (K st') (X j st')) some=some res):=by
   rcases hstp with⟨t',p1,p2⟩|⟨o,p1,p2⟩
   ·exact⟨_,p1,.inl ⟨t',rfl,by rw[hfd] at p2;exact p2⟩⟩
   ·exact⟨_,p1,.inr ⟨o,rfl,p2⟩⟩
  have hlow:∀{st3:St} {a3:Act} {w3:World},Inv zb N L' st3 a3 w3->∀id,id<aC->z0.ρ id≠.no->id<st3.n0:=fun⟨_,_,_,_,_,_,_,_,_,h⟩ id hdy hid=>h id hdy (by rw[hzb.ext id hid];exact hid);have hround:∀(st3:St) (a3:Act) (w3:World),st3.prj m.sh (fun t'=>some (.inl t'))=some v->Inv zb N L' st3 a3 w3->Code.rounds P _ _ n a3 w3:=fun st3 a3 w3 h3 hi3=>by
   obtain⟨z3,rfl,hn3,hD3,hH3,hs3,hLs3,hdf3,hnt3,h03⟩:=hi3;obtain⟨t',z4,b1,b2,b3,b4,b5,b6,b7,b8,b9,b10⟩:=jfZ (base:=base) (nt:=st1.nt) (n0:=Nat.max st1.n0 (m.mid+1)) h3 hn3 hD3 hH3 hs3 hLs3 h03 q3 q4 hzb0;simp only[ZAO] at b1;subst b1;rcases hvr with⟨t'',p1,p2⟩|⟨o,p1,_⟩
   ·injection p1 with p1;subst p1;have hCr:¬zb.C r:=hM3.C;have hMr:zb.M r:=hM3.M;have hltr:r<zb.w.heap.size:=hM3.lt;refine ih z4 (kv.2::seen) _ a3 z3.w ⟨sz,nn,by rw[b3.ext m.mid (by rw[hzbm];intro h;cases h)];exact hzbm⟩ ?_ p2;refine⟨b2,hzb.trans b3,b4,b5,b6,b7,hdf3,by rw[dM.inj_eq];exact⟨hnN,hnt3.2⟩,by rw[dM.inj_eq];exact h0',ZAz hltr b3.size,fun h=> ?_,b3.keepM r hltr hMr hCr,hM3.own,?_⟩
    ·rcases b3.subC r h with h|h
     ·exact hCr h
     ·exact ZA1 _ (ZAz hltr h)
    ·rw[b3.block r hltr hCr,<-c4];exact hM3.it
   ·cases p1
  refine(ZAo (List.range' 1 m.ops2.tail.length))▸dpZ (ops:=arr2) (tail:=[]) hT (fun st2 a4 w4 h4 hi4=> ?_) m.ops2.tail 1 (fun i x hx=> ?_) (fun x hx p hp he=>q5 p hp ?_) _ _ w1 (by rw[<-hops2];exact hv) hib
  ·refine IH h4 hy hi4 q3 (fun p hp hm=>q5 p hp (by simp only[MR.wr,ZAc];exact .inr (.inr hm))) (fun st3 a5 w5 h5 hi5=>hround st3 a5 w5 h5 hi5) (fun j st3 a5 w5 h5 hi5=> ?_) (fun st3 a5 w5 h5 hi5=> ?_)
   ·show(if j=m.C then Exit.then _ (Exit.inBlock m.J Q) .normal a5 w5 else Exit.then _ (Exit.inBlock m.J Q) (.exit j) a5 w5);by_cases hj:j=m.C
    ·rw[ZAN hj];rw[(afZ j m.C).2 hj,bq_true] at h5;exact hround st3 a5 w5 h5 hi5
    ·rw[ZAM hj];rw[ahZ hj,bq_false] at h5;obtain⟨o',u1,u2⟩:=Out.on_inl h5 (hi5.mono hzb (hlow hi5)) q3 q4 hnN h01;simp only[ZAO] at u1;subst u1;rcases hvr with⟨t'',p1,_⟩|⟨o,p1,p2⟩
     ·cases p1
     ·injection p1 with p1;subst p1;obtain⟨st4,u3,u4⟩:=u2 (fun j st'=>bq (Nat.beq j m.J) (K st') (X j st')) some;have u5:=u4.symm.trans p2;show(if j=m.J then Q .normal a5 w5 else Q (.exit j) a5 w5);have u6:Inv z0 N L st4 a5 w5:=u3.sub fun p hp=>q1 p (ZAb _ hp);by_cases hjJ:j=m.J
      ·rw[(afZ j m.J).2 hjJ,bq_true] at u5;rw[ZAN hjJ];exact hK _ _ _ u5 u6
      ·rw[ahZ hjJ,bq_false] at u5;rw[ZAM hjJ];exact hX _ _ _ _ u5 u6
   ·obtain⟨b,u1,u2⟩:=agZ.1 h5;obtain⟨o',u3,u4⟩:=lPZ u2;simp only[ZAO] at u3;subst u3;rcases hvr with⟨t'',p1,_⟩|⟨o,p1,p2⟩
    ·cases p1
    ·injection p1 with p1;subst p1;have u5:some b=some res:=(u4 _ _ _ _ _).symm.trans p2;exact hR _ _ _ (u1.trans u5) ((hi5.mono hzb (hlow hi5)).sub fun p hp=>q1 p (ZAb _ hp))
  ·have e:(m.ops2.map (·.1))[i+1]? =some x.1:=by
    rw[List.getElem?_tail] at hx;rw[ZAY,hx];rfl
   rw[hops2,ZAs] at e;rw[Nat.add_comm];exact e
  ·simp only[MR.wr,ZAc];exact .inr (.inl (ZBQ.2 ⟨x,List.mem_of_mem_tail hx,he⟩))
def AC.nr:AC->Nat
 |.round _ r=>r.nr+1
 |_=>0
def Gl(P:Program)(ac:AC)(c:Code)(Q:Exit->Act->World->Prop)(a:Act)(w:World):Prop:=
 match ac with
 |.round x r=>∃cx,c= .loop cx/\Code.rounds P cx Q (AC.nr (.round x r)) a w
 |_=>c.wp P Q a w
theorem Gl.wp{ac}{c}{Q}{a}{w}(h:Gl P ac c Q a w):c.wp P Q a w:=by
 cases ac
 case round x y=>
  obtain⟨cx,rfl,h⟩:=h;exact wp_loop_rounds _ h
 all_goals exact h
theorem cmZ(hT:∀e∈T,dY P e)(hm:P.follows .mixedOrders=true):(ac:AC)->{z0:Z}->{β:Type}->{st:St}->{K:St->Option β}->{X:Nat->St->Option β}->{R:St->Option β}->{res:β}->{c:Code}->{L:List (Nat×AV)}->{a:Act}->{w:World}->
 {Q:Exit->Act->World->Prop}->evS P T fu ac st K X R=some res->ac.of c->Inv z0 N L st a w->(∀p∈L,AV.ids p.2=[])->(∀p∈L,p.1∉ac.wr)->
 (∀st' a' w',K st'=some res->Inv z0 N L st' a' w'->Q .normal a' w')->(∀i st' a' w',X i st'=some res->Inv z0 N L st' a' w'->Q (.exit i) a' w')->
 (∀st' a' w',R st'=some res->Inv z0 N L st' a' w'->Q .ret a' w')->Gl P ac c Q a w
 |.skip,z0,β,st,K,X,R,res,c,L,a,w,Q,h,hc,hi,hLn,hLw,hK,hX,hR=>by
  obtain rfl:=hc;exact wp_skip (hK _ _ _ h hi)
 |.ret,z0,β,st,K,X,R,res,c,L,a,w,Q,h,hc,hi,hLn,hLw,hK,hX,hR=>by
  obtain rfl:=hc;exact wp_ret (hR _ _ _ h hi)
 |.exit i,z0,β,st,K,X,R,res,c,L,a,w,Q,h,hc,hi,hLn,hLw,hK,hX,hR=>by
  obtain rfl:=hc;exact wp_exit (hX _ _ _ _ h hi)
 |.seq x y,z0,β,st,K,X,R,res,c,L,a,w,Q,h,hc,hi,hLn,hLw,hK,hX,hR=>by
  obtain⟨cx,cy,rfl,h1,h2⟩:=hc;simp only[AC.wr,ZAc,not_or] at hLw;refine wp_seq (Gl.wp (cmZ hT hm x h h1 hi hLn (fun p hp=>(hLw p hp).1) (fun st' a' w' h' hi'=> ?_) hX hR));exact Gl.wp (cmZ hT hm y h' h2 hi' hLn (fun p hp=>(hLw p hp).2) hK hX hR)
 |.cond o x y,z0,β,st,K,X,R,res,c,L,a,w,Q,h,hc,hi,hLn,hLw,hK,hX,hR=>by
  obtain⟨cx,cy,rfl,h1,h2⟩:=hc;simp only[AC.wr,ZAc,not_or] at hLw;obtain⟨t,h3,h4⟩:=agZ.1 h;have hb:a.eval o= .bool t:=by
   obtain⟨z,_,_,_,_,hs,_⟩:=hi;exact bYZ h3 (dsZ hs o)
  cases t
  ·exact wp_cond_false hb (Gl.wp (cmZ hT hm y h4 h2 hi hLn (fun p hp=>(hLw p hp).2) hK hX hR))
  ·exact wp_cond_true hb (Gl.wp (cmZ hT hm x h4 h1 hi hLn (fun p hp=>(hLw p hp).1) hK hX hR))
 |.block i x,z0,β,st,K,X,R,res,c,L,a,w,Q,h,hc,hi,hLn,hLw,hK,hX,hR=>by
  obtain⟨cx,rfl,h1⟩:=hc;refine wp_block (Gl.wp (cmZ hT hm x h h1 hi hLn hLw hK (fun j st' a' w' h' hi'=> ?_) hR));show if j=i then Q .normal a' w' else Q (.exit j) a' w';by_cases hj:j=i
  ·rw[(afZ j i).2 hj,bq_true] at h';rw[ZAN hj];exact hK _ _ _ h' hi'
  ·rw[ahZ hj,bq_false] at h';rw[ZAM hj];exact hX _ _ _ _ h' hi'
 |.region i opsA d,z0,β,st,K,X,R,res,c,L,a,w,Q,h,hc,hi,hLn,hLw,hK,hX,hR=>by
  obtain⟨arr,rfl,h1⟩:=hc;have hLd:∀x∈opsA,∀p∈L,x.1.dst≠some p.1:=fun x hx p hp he=>hLw p hp (by
   simp only[AC.wr];exact ZBQ.2 ⟨x,hx,he⟩)
  have hsz:opsA.length=arr.size:=by
   have:=congrArg List.length h1;simpa using this
  have h:bq d (aP (pX 0 (opsA.map (·.1))&&zK (nms (AH 0 (opsA.map (·.1)) []) (opsA.map (·.1)) 0 (opsA.map (·.1))))<|oH P T (oI 0 opsA) (opsA.map (·.1)) st [] fun st' fs=>aP (pW (AH 0 (opsA.map (·.1)) []) fs)<|K st') (oF P T opsA (opsA.map (·.1)) st K)=some res:=h
  rw[h1] at h;cases d
  ·rw[bq_false] at h;refine wp_region ?_;have:=tbZ hT hK opsA 0 (fun i x hx=>by
    have e:(opsA.map (·.1))[i]? =some x.1:=by rw[ZAY,hx];rfl
    rw[h1] at e;rw[ZA5,<-Array.getElem?_toList];exact e) hLd st a w h hi
   rw[ZCf,<-hsz];exact this
  ·rw[bq_true] at h;obtain⟨h2,h3⟩:=adZ.1 h;simp only[ZAF] at h2;exact wp_region_any hm (rJZ hT h1 hLd hK h2.1 h2.2 h3 hi.drew)
 |.join sh rt outs x,z0,β,st,K,X,R,res,c,L,a,w,Q,h,hc,hi,hLn,hLw,hK,hX,hR=>by
  obtain⟨o,h1,h2⟩:=ZAH.1 h;obtain⟨L',q1,q2,q3,q4,q5⟩:=psZ hi hLn x.wr hLw;obtain⟨_,_,_,_,_,_,_,_,hnt,h0⟩:=hi;refine Gl.wp (cmZ hT hm x h1 hc q2 q3 q5 (fun st' a' w' h' hi'=> ?_) (fun i st' a' w' h' hi'=> ?_) (fun st' a' w' h' hi'=> ?_))
  ·obtain⟨o',e1,e2⟩:=Out.on_inl h' hi' q3 q4 hnt.1 h0;simp only[ZAO] at e1;subst e1;obtain⟨st1,e3,e4⟩:=e2 (fun i st''=>match i with|0=>K st''|i+1=>X i st'') some
   exact hK st1 a' w' (e4.symm.trans h2) (e3.sub q1)
  ·obtain⟨o',e1,e2⟩:=Out.on_inl h' hi' q3 q4 hnt.1 h0;simp only[ZAO] at e1;subst e1;obtain⟨st1,e3,e4⟩:=e2 (fun i st''=>match i with|0=>K st''|i+1=>X i st'') some
   exact hX i st1 a' w' (e4.symm.trans h2) (e3.sub q1)
  ·obtain⟨b,e1,e2⟩:=agZ.1 h';obtain⟨o',e3,e4⟩:=lPZ e2;simp only[ZAO] at e3;subst e3;have:some b=some res:=(e4 _ _ _ _ _).symm.trans h2;exact hR st' a' w' (e1.trans this) (hi'.sub q1)
 |.pre g x,z0,β,st,K,X,R,res,c,L,a,w,Q,h,hc,hi,hLn,hLw,hK,hX,hR=>by
  obtain⟨st1,h1,h2⟩:=grZ h;have hg:Inv z0 N L st1 a w:=niZ h1 hi (fun k he p hp hk=>hLw p hp (by
   rcases he with⟨e,id,he⟩|he
   ·subst he;simp[AC.wr,hk]
   ·subst he;simp[AC.wr,hk])) hLn
  refine Gl.wp (cmZ hT hm x h2 hc hg hLn (fun p hp hmem=>hLw p hp ?_) hK hX hR);cases g with
  |ownNil k e id=>exact ZAb _ hmem
  |pure k=>exact ZAb _ hmem
  |mem k f=>exact ZAb _ hmem
  |opn k m=>exact ZAb _ hmem
  |_=>exact hmem
 |.sel q x y,z0,β,st,K,X,R,res,c,L,a,w,Q,h,hc,hi,hLn,hLw,hK,hX,hR=>by
  simp only[AC.wr,ZAc,not_or] at hLw;have h:bq (Cn.holds st q) (evS P T fu x st K X R) (evS P T fu y st K X R)=some res:=h;cases hf:Cn.holds st q<;>rw[hf] at h
  ·exact Gl.wp (cmZ hT hm y h hc.2 hi hLn (fun p hp=>(hLw p hp).2) hK hX hR)
  ·exact Gl.wp (cmZ hT hm x h hc.1 hi hLn (fun p hp=>(hLw p hp).1) hK hX hR)
 |.mrange m x,z0,β,st,K,X,R,res,c,L,a,w,Q,h,hc,hi,hLn,hLw,hK,hX,hR=>
  wdZ hT (fun h hc hi hLn hLw hK hX hR=>Gl.wp (cmZ hT hm x h hc hi hLn hLw hK hX hR)) h hc hi hLn hLw hK hX hR
 |.bad c',z0,β,st,K,X,R,res,c,L,a,w,Q,h,hc,hi,hLn,hLw,hK,hX,hR=>by cases h
 |.post g x,z0,β,st,K,X,R,res,c,L,a,w,Q,h,hc,hi,hLn,hLw,hK,hX,hR=>by
  refine Gl.wp (cmZ hT hm x h hc hi hLn (fun p hp hmem=>hLw p hp ?_) (fun st' a' w' h' hi'=> ?_) hX hR)
  ·cases g with
   |ownNil k e id=>exact ZAb _ hmem
   |pure k=>exact ZAb _ hmem
   |mem k f=>exact ZAb _ hmem
   |opn k m=>exact ZAb _ hmem
   |_=>exact hmem
  ·obtain⟨st1,h1,h2⟩:=grZ h';refine hK st1 a' w' h2 (niZ h1 hi' (fun k he p hp hk=>hLw p hp ?_) hLn);rcases he with⟨e,id,he⟩|he
   ·subst he;simp[AC.wr,hk]
   ·subst he;simp[AC.wr,hk]
 |.round x y,z0,β,st,K,X,R,res,c,L,a,w,Q,h,hc,hi,hLn,hLw,hK,hX,hR=>by
  obtain⟨cx,rfl,h1,h2⟩:=hc;simp only[AC.wr,ZAc,not_or] at hLw;obtain⟨h3,h4⟩:=adZ.1 h;refine⟨cx,rfl,Gl.wp (cmZ hT hm x h4 h1 hi hLn (fun p hp=>(hLw p hp).1) (fun st' a' w' h' hi'=> ?_) (fun i st' a' w' h' hi'=>hX i st' a' w' h' hi') (fun st' a' w' h' hi'=>hR st' a' w' h' hi'))⟩;have hy:=cmZ hT hm y h' h2 hi' hLn (fun p hp=>(hLw p hp).2) hK hX hR;cases y with
  |round x' y'=>
   obtain⟨cx',e,hn⟩:=hy;injection e with e;subst e;exact hn
  |bad c'=>cases h'
  |_=>cases h3
 |.loop sh rt outs x,z0,β,st,K,X,R,res,c,L,a,w,Q,h,hc,hi,hLn,hLw,hK,hX,hR=>by
  obtain⟨cx,rfl,h1⟩:=hc;obtain⟨L',q1,q2,q3,q4,q5⟩:=psZ hi hLn x.wr hLw;obtain⟨t0,p1,p2⟩:=jOZ (r:=res) h q2 q3 q4 (nt:=st.nt) (n0:=st.n0) (by obtain⟨_,_,_,_,_,_,_,_,hnt,_⟩:=hi;exact hnt.1) (by obtain⟨_,_,_,_,_,_,_,_,_,h0⟩:=hi;exact h0);obtain⟨_,_,_,_,_,_,_,_,hnt,h0⟩:=hi;obtain⟨o,r1,r2⟩:=ZAH.1 p1;generalize hbase:(st.tm.keep).junk x.wr=base at*;generalize hf:(fun t=>evS P T fu (β:=sh.D⊕Out rt outs β) x (sh.inj base st.nt st.n0 t) (fun st''=>st''.prj sh fun t'=>some (.inl t'))
   (fun i st''=>Out.mk st'' rt outs i fun o=>some (.inr o))
   (fun st''=>(R st'').ob fun b=>Out.retO rt outs b fun o=>some (.inr o)))=f at*
  let p:Act->World->Nat->Prop:=fun a' w' n=>∃t,iter n f t=some o/\Inv z0 N L' (sh.inj base st.nt st.n0 t) a' w'
  classical
  let μ:Act->World->Nat:=fun a' w'=>if h:∃n,p a' w' n then Classical.choose (uLZ h) else 0
  have hμ:∀a' w' n,p a' w' n->μ a' w'<=n/\p a' w' (μ a' w'):=fun a' w' n hn=>by
   have hex:∃n,p a' w' n:=⟨n,hn⟩;have e:μ a' w'=Classical.choose (uLZ hex):=dif_pos hex;have hs:=Classical.choose_spec (uLZ hex);rw[e];exact⟨hs.2 n hn,hs.1⟩
  refine wp_loop (fun a' w'=>∃n,p a' w' n) μ ⟨fu,t0,r1,p2⟩ fun a1 w1 ⟨n1,hn1⟩=> ?_;obtain⟨_,t,ht,hit⟩:=hμ a1 w1 n1 hn1;obtain⟨m,hm'⟩:∃m,μ a1 w1=m+1:=by
   cases hz:μ a1 w1 with
   |zero=>rw[hz] at ht;cases ht
   |succ m=>exact⟨m,rfl⟩
  rw[hm'] at ht⊢;obtain⟨r,ht1,ht2⟩:=agZ.1 (show(f t).ob _=some o from ht);have hft:evS P T fu (β:=sh.D⊕Out rt outs β) x (sh.inj base st.nt st.n0 t) (fun st''=>st''.prj sh fun t'=>some (.inl t'))
   (fun i st''=>Out.mk st'' rt outs i fun o=>some (.inr o))
   (fun st''=>(R st'').ob fun b=>Out.retO rt outs b fun o=>some (.inr o))=some r:=by rw[<-ht1,<-hf]
  refine Gl.wp (cmZ hT hm x hft h1 hit q3 q5 (fun st' a' w' h' hi'=> ?_) (fun i st' a' w' h' hi'=> ?_) (fun st' a' w' h' hi'=> ?_))
  ·obtain⟨t',e1,e2⟩:=jOZ h' hi' q3 q4 (nt:=st.nt) (n0:=st.n0) hnt.1 h0;simp only[ZAO] at e1;subst e1;have hp:p a' w' m:=⟨t',ht2,e2⟩;exact⟨⟨m,hp⟩,Nat.lt_succ_of_le (hμ a' w' m hp).1⟩
  ·obtain⟨o',e1,e2⟩:=Out.on_inl h' hi' q3 q4 (nt:=st.nt) (n0:=st.n0) hnt.1 h0;simp only[ZAO] at e1;subst e1;simp only[ZAO] at ht2;subst ht2;obtain⟨st1,e3,e4⟩:=e2 X some;exact hX i st1 a' w' (e4.symm.trans r2) (e3.sub q1)
  ·obtain⟨b,e1,e2⟩:=agZ.1 h';obtain⟨o',e3,e4⟩:=lPZ e2;simp only[ZAO] at e3;subst e3;simp only[ZAO] at ht2;subst ht2;have:some b=some res:=(e4 _ _ _ _ _).symm.trans r2;exact hR st' a' w' (e1.trans this) (hi'.sub q1)
theorem v3Z{z0}(hT:∀e∈T,dY P e)(hm:P.follows .mixedOrders=true)(ac){β}{st}{K}{X}{R}{res:β}{c}{L}{a}{w}
 {Q}(h:evS P T fu ac st K X R=some res)(hc:ac.of c)(hi:Inv z0 N L st a w)(hLn:∀p∈L,AV.ids p.2=[])(hLw:∀p∈L,p.1∉ac.wr)
 (hK:∀st' a' w',K st'=some res->Inv z0 N L st' a' w'->Q .normal a' w')(hX:∀i st' a' w',X i st'=some res->Inv z0 N L st' a' w'->Q (.exit i) a' w')
 (hR:∀st' a' w',R st'=some res->Inv z0 N L st' a' w'->Q .ret a' w'):c.wp P Q a w:=(Gl.wp (cmZ hT hm ac h hc hi hLn hLw hK hX hR))
end
section
variable {P : Program} {T : Tbl} {β : Type} {z : Z} {H : Hp}
theorem iEZ:∀(d k),(Tr.full d).get k= .junk
 |0,k=>rfl
 |d+1,k=>by
  simp[Tr.full,Tr.get];cases Nat.beq k 0
  ·cases Nat.beq (k%2) 1
   ·exact iEZ d _
   ·exact iEZ d _
  ·rfl
theorem jKZ{f:Nat->Value}:∀{vs} {k0} {t},(∀k,aF z (t.get k) (f k))->(∀(j) a,vs[j]? =some a->aF z a (f (k0+j)))->∀k,aF z ((xF t k0 vs).get k) (f k)
 |[],k0,t,h,_,k=>h k
 |a::vs,k0,t,h,hv,k=>by
  simp[xF];refine jKZ (fun j=> ?_) (fun j a' h'=>by have:=hv (j+1) a' (by simpa using h');rwa [show k0+(j+1)=k0+1+j by omega] at this) k;by_cases hj:j=k0
  ·subst hj;rcases(Tr.get_put t j a j).2 with e|e<;>rw[e]
   ·exact hv 0 a rfl
   ·exact .junk _
  ·rw[(Tr.get_put t k0 a j).1 hj];exact h j
theorem lfZ{t}{pv v}{w w'}(h:(Instr.loadAt t pv).run P w= .ok v w'):((do loadVar t (<-asAddr pv)):Sem Value).run P w= .ok v w':=by
 unfold Instr.loadAt at h;cases pv
 case pointer x=>cases x<;>first|exact h|(simp[Instr.sureAddr] at h)
 all_goals(simp[Instr.sureAddr] at h)
def aU(tmps:Array Value)(r:ResultVar):Sem Value:=
 match r with
 |.tmp t=>pure (tmps.getD t undef)
 |.cell a t=>do loadVar t (<-asAddr (tmps.getD a undef))
theorem olZ(fn)(tmps):results fn tmps=(do
 let vs<-fn.results.mapM (aU tmps)
 pure (if h:vs.size=1 then vs[0] else .tuple vs)):=rfl
theorem fcZ{st}{a:Act}(hH:aH z st.hp)(hs:∀t,aF z (st.tm.get t) (a.eval (fA t))):∀{rs} {K} {res:β},tK P rs st K=some res->
 ∃l vs,K l=some res/\aR z l vs/\(rs.mapM (aU a.tmps)).run P z.w= .ok vs z.w
 |[],K,res,h=>⟨[],[],h,.nil,rfl⟩
 |.tmp t::rs,K,res,h=>by
  let⟨l,vs,h1,h2,h3⟩:=fcZ hH hs (rs:=rs) h
  refine⟨_,a.eval (.tmp t)::vs,h1,.cons (dsZ hs (.tmp t)) h2,?_⟩;rw[List.mapM_cons];simp only[aU,Sem.run_bind,Sem.run_pure,Result.andThen_ok,h3]
  rfl
 |.cell x t::rs,K,res,h=>by
  let⟨y,v,h1,h2,h3⟩:=koZ h hH (dsZ hs (.tmp x))
  let⟨l,vs,h4,h5,h6⟩:=fcZ hH hs h3
  refine⟨_,v::vs,h4,.cons h2 h5,?_⟩;have h1':(aU a.tmps (.cell x t)).run P z.w= .ok v z.w:=lfZ h1
  simp_all
theorem nAZ{st}{a:Act}{fn}{K}{res:β}(hH:aH z st.hp)(hs:∀t,aF z (st.tm.get t) (a.eval (fA t)))(h:tK P fn.results.toList st K=some res):
 ∃l v vs,K l=some res/\aR z l vs/\(results fn a.tmps).run P z.w= .ok v z.w/\∀{z'} {l'},aR z' l' vs->aF z' (mD l') v:=by
 let⟨l,vs,h1,h2,h3⟩:=fcZ hH hs h
 refine⟨l,if h:vs.toArray.size=1 then vs.toArray[0] else .tuple vs.toArray,vs,h1,h2,?_,fun{z' l'} h'=> ?_⟩
 ·rw[olZ,Array.mapM_eq_mapM_toList,map_eq_pure_bind,Sem.run_bind,Sem.run_bind,h3]
  rfl
 ·have hl:=h'.1
  match vs,l',h',hl with
  |[],[],h',_=>exact .tup [] #[] rfl fun i x v h=>by grind
  |[v],[b],h',_=>exact h'.head
  |u::v::vs,b::c::l',h',hl=>
   refine .tup _ _ (by simp_all) fun i x y q1 q2=>h'.2 i x y q1 (by simp_all)
theorem cP.one_ok{s:Shp}{vs}{ps}{vals}{K}{res:β}(ρ0:Rho)(hρ0:∀k,aA<=k->k<aC->ρ0 k= .no)(hρd:∀k,aC<=k->ρ0 k= .no)(hH:aH z H)(hv:aR z vs vals)(hn:bU (gP (aJ s.hs)) s.tys=true)(h:s.rco vs H ps K=some res):
 ∃t,K t=some res/\∃z',z'.w=z.w/\z'.M=z.M/\aH z' (s.emb t).2/\aR z' (s.emb t).1 vals/\(∀k,bA k (aJ s.hs)=true->∃id,(id,k)∈ps/\z'.ρ k=z.ρ id)/\(∀k,k<aC->bA k (aJ s.hs)=false->z'.ρ k=ρ0 k)/\
  (∀g,z'.C g->z.C g)/\(∀k,z'.D k->ρ0 k≠.no)/\∀k,aC<=k->rt k∈aJ s.hs->z'.ρ k=z.ρ k:=by
 obtain⟨t,z0,k1,k2,k3,k4,k5,k6,k7,k8,k9,k10,k11,k12,k13,k14⟩:=Shp.rco_ok ρ0 hρ0 h hH hv;obtain⟨z',x1,x2,x3,x4,x5,x6,x7,x8⟩:=kVZ hn k4 k5 k13 k14;refine⟨t,k1,z',x1.trans k2,x2.trans k3,x3,x4,fun k hk=> ?_,fun k hd hk=> ?_,fun g h=>k8 g (by rw[<-x6];exact h),fun k hk=> ?_,fun k hd hk=> ?_⟩
 ·obtain⟨id,a1,a2⟩:=k6 k hk;exact⟨id,a1,(x5 k (.inl (k13 k hk))).trans a2⟩
 ·rw[x5 k (.inl hd),k7 k hk,ZAM (ZBR.2 hd)]
 ·obtain⟨y1,y2⟩:=x7 k hk;rw[k10] at y1;rcases y1.2 with h|h
  ·rcases y2 with y2|y2
   ·omega
   ·rw[aiZ.2 y2] at y1;cases y1.1
  ·exact h
 grind
theorem cP.rco_ok{vs}{ps}{vals}(ρ0:Rho)(hρ0:∀k,aA<=k->k<aC->ρ0 k= .no)(hρd:∀k,aC<=k->ρ0 k= .no)(hH:aH z H)(hv:aR z vs vals):∀{l} {K} {res:β},(∀o∈l,bU (gP (aJ o.hs)) o.tys=true)->cP.rco vs H ps l K=some res->
 ∃(x:cP l),K x=some res/\cP.on l x fun o t=>o∈l/\∃z',z'.w=z.w/\z'.M=z.M/\aH z' (o.emb t).2/\aR z' (o.emb t).1 vals/\(∀k,bA k (aJ o.hs)=true->∃id,(id,k)∈ps/\z'.ρ k=z.ρ id)/\(∀k,k<aC->bA k (aJ o.hs)=false->z'.ρ k=ρ0 k)/\
  (∀g,z'.C g->z.C g)/\(∀k,z'.D k->ρ0 k≠.no)/\∀k,aC<=k->rt k∈aJ o.hs->z'.ρ k=z.ρ k
 |[],K,res,hn,h=>by cases h
 |[s],K,res,hn,h=>by
  let⟨t,k1,k2⟩:=cP.one_ok ρ0 hρ0 hρd hH hv (hn s ZAk) h
  exact⟨t,k1,by simp,k2⟩
 |s::o::r,K,res,hn,h=>by
  have h':bq (s.ks.fits (AV.renL (eZ ps) vs)&&zV s.hs (gY H (eZ ps) ps)) (s.rco vs H ps fun x=>K (.inl x)) (cP.rco vs H ps (o::r) fun x=>K (.inr x))=some res:=h;cases hb:(s.ks.fits (AV.renL (eZ ps) vs)&&zV s.hs (gY H (eZ ps) ps))<;>rw[hb] at h'<;>simp[bq_false] at h'
  ·let⟨x,h1,h2⟩:=cP.rco_ok ρ0 hρ0 hρd hH hv (fun o ho=>hn o (ZAb _ ho)) h'
   refine⟨.inr x,h1,?_⟩;have up:∀{l} {x} {Q Q'},(∀o t,Q o t->Q' o t)->cP.on l x Q->cP.on l x Q':=fun{l}=>by
    induction l with
    |nil=>intro x;exact Empty.elim x
    |cons a l ih=>
     cases l with
     |nil=>intro x Q Q' hq h;exact hq _ _ h
     |cons b l=>
      intro x Q Q' hq h;cases x with
      |inl y=>exact hq _ _ h
      |inr y=>exact ih hq h
   exact up (fun o t ⟨a,b⟩=>⟨ZAb _ a,b⟩) h2
  ·let⟨t,k1,k2⟩:=cP.one_ok ρ0 hρ0 hρd hH hv (hn s ZAk) h'
   exact⟨.inl t,k1,ZAk,k2⟩
theorem eWZ:∀{l} {n k},k∈bM n l->k<aA->n<=k/\k<n+(jU l).length
 |[],n,k,h,_=>by cases h
 |i::l,n,k,h,hk=>by
  simp[bM] at h;by_cases hi:aA<=i
  ·rw[ZAi hi] at h;rcases ZAg.1 h with rfl|h
   ·omega
   ·have:=eWZ h hk
    simp_all[jU,ZAi]
  ·rw[fsZ hi] at h;simp[jU,fsZ hi,ZBl];rcases ZAg.1 h with rfl|h
   ·omega
   ·have:=eWZ h hk;omega
theorem cP.on_up:∀{l} {x} {Q Q'},(∀o t,Q o t->Q' o t)->cP.on l x Q->cP.on l x Q'
 |[],x,_,_,_,_=>Empty.elim x
 |[s],x,Q,Q',hq,h=>hq _ _ h
 |s::t::r,.inl y,Q,Q',hq,h=>hq _ _ h
 |s::t::r,.inr y,Q,Q',hq,h=>cP.on_up (x:=y) hq h
theorem cP.on_ex:∀{l} {x} {Q:(s:Shp)->s.D->Z->Prop},(cP.on l x fun o t=>∃z',Q o t z')->∃z',cP.on l x fun o t=>Q o t z'
 |[],x,_,_=>Empty.elim x
 |[s],x,Q,h=>h
 |s::t::r,.inl y,Q,h=>h
 |s::t::r,.inr y,Q,h=>cP.on_ex (x:=y) h
def FE(fn:Func)(vals:List Value):Act:={tmps:=vals.toArray++Array.replicate (fn.ntmps-vals.toArray.size) undef,defers:=[]}
theorem u5Z{fu}{f}{fn}{fa}(hT:∀e∈T,dY P e)(hm:P.follows .mixedOrders=true)(hf:P.funcs[f]? =some fn){c}(hb:fn.body=some c){t}{r}{z}{vals}{tm}
 (h1:(eqN (aJ fa.i.hs) (bM 0 (aJ fa.i.hs))&& !bA 2 fa.md&&(Nat.ble fa.i.hs.length aA&&fa.os.all fun o=>bU (gP (aJ o.hs)) o.tys&&lV (rN (aJ fa.i.hs)) (rN (aJ o.hs))))=true)
 (h3:evS P T fu (build fa.ov c) ⟨tm,fn.ntmps,(jU (aJ fa.i.hs)).length,(fa.i.emb t).2⟩ (fin P fn fa) (fun _ _=>none) (fin P fn fa)=some r)(hH:aH z (fa.i.emb t).2)(hD:∀id,¬z.D id)
 (htm:∀k,aF z (tm.get k) ((FE fn vals).eval (fA k))):
 Calls P f vals.toArray z.w fun en w'=>∃v z',en= .returned v/\z'.w=w'/\Nx z {z' with D:=z.D}/\(∀k,z'.D k->k∈aJ fa.i.hs)/\cP.on fa.os r fun o x=>aH z' (o.emb x).2/\aF z' (mD (o.emb x).1) v:=by
 simp only[ZAF,kPZ,ZAj] at h1;obtain⟨⟨lX,hmd⟩,hlen,hno'⟩:=h1;have hb0:=eAZ;have hnoL:∀o∈fa.os,(bU (gP (aJ o.hs)) o.tys=true/\lV (rN (aJ fa.i.hs)) (rN (aJ o.hs))=true):=fun o ho=>by
  grind
 have hno:∀o∈fa.os,bU (gP (aJ o.hs)) o.tys=true:=fun o ho=>(hnoL o ho).1;refine calls_of_wp hf hb ?_
 let a:Act:=FE fn vals
 have aN:∀id,aN (fa.i.emb t).2 id=bA id (aJ fa.i.hs):=fun id=>(cwZ fa.i.hs (embL fa.i.ks (eI fa.i.hs []) (eY fa.i.tys t)).2 id).1;have hlow:∀id,id<aC->z.ρ id≠.no->id∈aJ fa.i.hs/\id<aA:=fun id hdy hid=>by
  have hf:id<aA:=ZBR.1 fun h=>hid (hH.nos id h hdy);refine⟨?_,hf⟩;cases hk:bA id (aJ fa.i.hs)
  ·rw[<-aN id] at hk;exact absurd ((hH.fresh id (by rw[aDZ hf];exact hk)).resolve_right (hD id)) hid
  grind[aiZ]
 have hlown:∀id,id<aC->z.ρ id≠.no->id<(jU (aJ fa.i.hs)).length:=fun id hdy hid=>by
  obtain⟨h1,h2⟩:=hlow id hdy hid;rw[lX] at h1;have:=(eWZ h1 h2).2;omega
 have hlowd:∀id,aC<=id->z.ρ id≠.no->rt id∈aJ fa.i.hs:=fun id hdy hid=>by
  cases hk:bA (rt id) (aJ fa.i.hs)
  ·rw[<-aN] at hk;refine absurd ((hH.fresh id ?_).resolve_right (hD id)) hid;rw[azZ hdy,avZ hk];exact hk
  grind[aiZ]
 have hi:Inv z a.tmps.size [] ⟨tm,fn.ntmps,(jU (aJ fa.i.hs)).length,(fa.i.emb t).2⟩ a z.w:=
  ⟨z,rfl,Nx.refl z,hD,hH,htm,fun p hp=>(by grind),rfl,⟨by grind[FE],rfl⟩,fun id hdy hid=>hlown id hdy hid⟩
 have fin:∀(Q:Exit->Act->World->Prop),(∀a' w',(a'.defers=[]/\∃v,(results fn a'.tmps).run P w'= .ok v w'/\∃v' z',Ending.returned v= .returned v'/\z'.w=w'/\Nx z {z' with D:=z.D}/\(∀k,z'.D k->k∈aJ fa.i.hs)/\cP.on fa.os r fun o x=>aH z' (o.emb x).2/\aF z' (mD (o.emb x).1) v')->Q .normal a' w')->
  ∀st' a' w',fin P fn fa st'=some r->Inv z a.tmps.size [] st' a' w'->Q .normal a' w':=fun Q hQ st' a' w' hfin hi'=>by
  refine hQ a' w' ?_;obtain⟨z1,rfl,hn,hD1,hH1,hs1,_,hdf,_,h0⟩:=hi';unfold Ab.fin at hfin;obtain⟨l,v,vs,e1,e2,e3,e4⟩:=nAZ hH1 hs1 hfin;rw[doZ] at e1;obtain⟨⟨l',H'⟩,e5,e6⟩:=agZ.1 e1;obtain⟨z2,Mf,g1,g2,g3,g4,g5,g6⟩:=jkZ hH1 (fun _ _=>.inr (hD1 _)) e5 e2;have hM:=g6 hmd;subst hM;have hn2:=hn.trans g3;obtain⟨x,k1,k2⟩:=cP.rco_ok (fun k=>if bA k (aJ fa.i.hs)=true/\k<aC then z2.ρ k else .no) (fun k h1 h2=>by rw[g2.nos k h1 h2,ite_self]) (fun k h=>ZAM fun h'=>by omega) g2 g5 hno e6;simp only[ZAO] at k1;subst k1;obtain⟨z3,k3⟩:=cP.on_ex (cP.on_up (Q':=fun o t=>∃z',o∈fa.os/\_) (fun o t ⟨h,z',k⟩=>⟨z',h,k⟩) k2);have common:z3.w=z2.w/\z3.M=z2.M/\(∀g,z3.C g->z2.C g)/\(∀k,z3.D k->k∈aJ fa.i.hs)/\∀id,z.ρ id≠.no->z3.ρ id=z.ρ id:=by
   have pick:∀{l:List Shp} {x:cP l} {Q:(s:Shp)->s.D->Prop} {G:Prop},(cP.on l x Q)->(∀o t,Q o t->G)->G:=fun{l}=>by
    induction l with
    |nil=>intro x;exact Empty.elim x
    |cons a l ih=>
     cases l with
     |nil=>intro x Q G h hq;exact hq _ _ h
     |cons b l=>
      intro x Q G h hq;cases x with
      |inl y=>exact hq _ _ h
      |inr y=>exact ih (x:=y) h hq
   refine pick k3 fun o t k=> ?_;obtain⟨ho,q1,q2,q3,q4,q5,q6,q7,q8,q9⟩:=k;refine⟨q1,q2,q7,fun k hk=> ?_,fun id hid=> ?_⟩
   ·have:=q8 k hk;cases hm:bA k (aJ fa.i.hs)
    ·simp[hm] at this
    ·exact aiZ.1 hm
   ·by_cases hdy:aC<=id
    ·have hm:=hlowd id hdy hid;have hmo:=(dgZ.1 ((ccZ.1 (hnoL o ho).2) _ (dgZ.2 ⟨hm,(bOZ hdy).1⟩))).1;rw[q9 id hdy hmo];exact hn2.ext id hid
    have hstat:id<aC:=by omega
    obtain⟨hmem,hfl⟩:=hlow id hstat hid;have hidlt:=hlown id hstat hid;cases hk:bA id (aJ o.hs)
    ·rw[q6 id hstat hk,ZAN ⟨aiZ.2 hmem,hstat⟩];exact hn2.ext id hid
    ·obtain⟨id',p1,p2⟩:=q5 id hk;have:id'=id:=by
      rcases ZAc.1 p1 with p1|p1
      ·obtain⟨m,b1,b2⟩:=jaZ p1;rcases ZBy m ((reach H' uJ (mU 0 (jU (aJ fa.i.hs)).length++AV.idsL l') []).filter fun i=>Nat.blt i (jU (aJ fa.i.hs)).length).length with hlt|hge
       ·rw[ZAT hlt] at b1 b2;rw[b1] at b2;exact ZAh b2
       ·rw[ZAV hge] at b2;have:=(onZ b2).1;omega
      ·exact(fHZ.1 p1).1
     rw[p2,this];exact hn2.ext id hid
  obtain⟨c1,c2,c3,c4,c5⟩:=common;refine⟨hdf,v,e3,v,z3,rfl,c1.trans g1,⟨by show z3.w.os=_;rw[c1];exact hn2.os,⟨by show z3.w.tape=_;rw[c1];exact hn2.tape.1,by show _<=z3.w.drawn;rw[c1];exact hn2.tape.2⟩,by show z3.w.output=_;rw[c1];exact hn2.output,by show _<=z3.w.heap.size;rw[c1];exact hn2.size,
   fun b hb hc=>by show z3.w.heap[b]? =_;rw[c1];exact hn2.block b hb hc,fun g hg=>hn2.subM g (by rw[<-c2];exact hg),fun g hg=>hn2.subC g (c3 g hg),fun g hg hm hc=>by show z3.M g;rw[c2];exact hn2.keepM g hg hm hc,c5,rfl⟩,c4,cP.on_up (fun o t k=> ?_) k3⟩
  obtain⟨_,q1,q2,q3,q4,q5,q6,q7,q8,q9⟩:=k;exact⟨q3,e4 q4⟩
 refine v3Z hT hm (build fa.ov c) h3 (beZ _ _) hi (fun p hp=>by cases hp) (fun p hp=>by cases hp) ?_ (fun i st' a' w' h' _=>by cases h') ?_
 ·exact fin (bodyPost P fn _) fun a' w' h=>h
 ·exact fin (fun e a' w'=>bodyPost P fn _ .ret a' w') fun a' w' h=>h
theorem soZ{fn}{vals}{j:Nat}{v}(h:vals[j]? =some v):(FE fn vals).eval (.tmp j)=v:=by
 have hlt:=(ZAB.1 h).1;simp[Act.eval,FE]
 simp_all[ZBS,ZCk]
theorem tFZ{z}{fn}{vs}{vals}{d}(hl:vs.length<=1048576)(hv:aR z vs vals)(k):aF z ((xF (Tr.full d) 0 vs).get k) ((FE fn vals).eval (fA k)):=by
 refine jKZ (f:=fun k=>(FE fn vals).eval (fA k)) (fun k=>by rw[iEZ];exact .junk _) (fun j x hx=> ?_) k
 let⟨v,hv1,hv2⟩:=hv.get hx
 have hlt:=(ZAB.1 hx).1;rw[ZA5,dyZ (by omega),soZ hv1];omega
theorem uEZ{fu}{f}{fn}{fa}{spec}(hT:∀e∈T,dY P e)(hm:P.follows .mixedOrders=true)(hf:P.funcs[f]? =some fn)(hname:(fn.name== "runtime.NumGoroutine")=false)(hbody:fn.body.isSome=true)
 (hs:∀t,evF P T fu fn fa t=spec t):dY P ⟨f,fa.i,fa.os,spec⟩:=by
 let⟨c,hb⟩:=ZB0.1 hbody
 refine dY.of ⟨fn,c,hf,hb,hname⟩ fun t r hr z vals hH hv hD=> ?_;have h:=(hs t).trans hr;unfold evF at h;rw[Shp.embC_eq] at h
 let⟨h1,h2⟩:=adZ.1 h
 let⟨hl,h2⟩:=adZ.1 h2
 let⟨c',hc',h3⟩:=agZ.1 h2
 rw[hb] at hc';simp at hc';subst hc';exact u5Z hT hm hf hb h1 h3 hH hD (tFZ (ZBL hl) hv)
end
theorem abZ{P}:∀e∈([]:Tbl),dY P e:=fun e h=>by cases h
theorem aaZ{P}{a}{r:Tbl}(h:dY P a)(hr:∀e∈r,dY P e):∀e∈a::r,dY P e:=fun e he=>by
 grind
def OkV:(t:Ty)->t.den->Prop
 |.int k,n=>k.min<=n/\n<=k.max
 |.byte,_=>True
 |.bool,_=>True
 |.str,l=>List.length (α:=UInt8) l<=maxLen
 |.opq,_=>False
 |.nat,_=>False
 |.ref _ _,_=>False
 |.ptr _,_=>False
 |.sl t,l=>List.length (α:=t.den) l<=maxLen/\∀x∈(show List t.den from l),OkV t x
 |.one t,x=>OkV t x
 |.pair a b,x=>OkV a x.1/\OkV b x.2
 |.arr n t,l=>List.length (α:=t.den) l=n/\∀x∈(show List t.den from l),OkV t x
section
variable (P : Program)
def xG(f:TypeId->Ty->Bool):List Field->Nat->Ty->Bool
 |[x],o,u=>Nat.beq x.offset o&&Nat.beq (P.cellsOf x.type) u.cells&&f x.type u
 |x::r,o,.pair a b=>Nat.beq x.offset o&&Nat.beq (P.cellsOf x.type) a.cells&&f x.type a&&xG f r (o+a.cells) b
 |_,_,_=>false
def tL:Nat->TypeId->Ty->Bool
 |0,_,_=>false
 |n+1,t,u=>match P.underlying t,u with
  |some (.int k),.int k'=>decide (k=k')
  |some (.int k),.byte=>decide (k= .u8)
  |some .bool,.bool=>true
  |some .string,.str=>true
  |some (.slice e),.sl v=>Nat.beq (P.cellsOf e) v.cells&&Nat.blt 0 v.cells&&tL n e v
  |some (.struct fs),.one v=>Nat.beq (P.cellsOf t) v.cells&&xG P (tL n) fs.toList 0 v
  |some (.struct fs),.pair a b=>Nat.beq (P.cellsOf t) (Ty.pair a b).cells&&xG P (tL n) fs.toList 0 (.pair a b)
  |some (.array m e),.arr m' v=>Nat.beq m m'&&Nat.beq (P.cellsOf t) (m*v.cells)&&Nat.beq (P.cellsOf e) v.cells&&tL n e v
  |_,_=>false
end
theorem dWZ{α:Type}(k):∀(n) (cs:List α),cs.length=n*k->((List.range n).map fun i=>(cs.drop (i*k)).take k).flatten=cs
 |0,cs,h=>by
  simp_all
 |n+1,cs,h=>by
  rw[List.range_succ_eq_map,ZCp,ZCS,List.map_map];have e:((List.range n).map ((fun i=>(cs.drop (i*k)).take k)∘Nat.succ))=(List.range n).map fun i=>((cs.drop k).drop (i*k)).take k:=by
   refine ZCm fun i _=> ?_;simp[List.drop_drop];rw[ZCB,Nat.add_comm]
  rw[e,dWZ k n (cs.drop k) (by grind)];simp
theorem ehZ{α:Type}{Q:Nat->α->Prop}:∀(n),(∀i,i<n->∃x,Q i x)->∃l:List α,l.length=n/\∀(i) x,l[i]? =some x->Q i x
 |0,_=>⟨[],rfl,fun i x h=>by grind⟩
 |n+1,h=>by
  let⟨l,h1,h2⟩:=ehZ n fun i hi=>h i (by omega)
  let⟨x,hx⟩:=h n (by omega)
  refine⟨l++[x],by simp[h1],fun i y hy=> ?_⟩
  grind
section
variable {P : Program} {H : Type} {enc : TypeId × Value → H} {w : World} {sp : Nat → Bool} {held : Bool}
theorem gHZ{f}{n}{cs:List Value}(hf:∀(x:Field) u,f x.type u=true->P.cellsOf x.type=u.cells->(∃y,DataW.trod enc P w 0 sp held n x.type ((cs.drop x.offset).take (P.cellsOf x.type))=some y)->
 ∃v,Cl w (fun _=>False) (fun _=>.no) u v ((cs.drop x.offset).take (P.cellsOf x.type))/\OkV u v):
 ∀(fs) (o) (u),xG P f fs o u=true->(∀x∈fs,∃y,DataW.trod enc P w 0 sp held n x.type ((cs.drop x.offset).take (P.cellsOf x.type))=some y)->∃v,Cl w (fun _=>False) (fun _=>.no) u v ((cs.drop o).take u.cells)/\OkV u v
 |[],o,u,h,_=>by cases u<;>cases h
 |[x],o,u,h,hs=>by
  have h:(Nat.beq x.offset o&&Nat.beq (P.cellsOf x.type) u.cells&&f x.type u)=true:=by cases u<;>exact h
  simp[afZ] at h
  grind[ZAk]
 |x::y::r,o,u,h,hs=>by
  cases u with
  |pair a b=>
   have h:(Nat.beq x.offset o&&Nat.beq (P.cellsOf x.type) a.cells&&f x.type a&&xG P f (y::r) (o+a.cells) b)=true:=h;simp[ZAF,afZ] at h;obtain⟨⟨⟨rfl,h2⟩,h3⟩,h4⟩:=h
   let⟨v1,c1,k1⟩:=hf x a h3 h2 (hs x ZAk)
   let⟨v2,c2,k2⟩:=gHZ hf (y::r) (x.offset+a.cells) b h4 fun z hz=>hs z (ZAb _ hz)
   refine⟨(v1,v2),⟨_,_,?_,c1,c2⟩,k1,k2⟩;rw[h2,show(Ty.pair a b).cells=a.cells+b.cells from rfl,List.take_add,List.drop_drop]
  |_=>cases h
theorem ktZ{a}{n}{cs}(h:w.cells? 0 a n=some cs):cs.length=n/\∀(j) v,cs[j]? =some v->w.cell? (a.add j)=some v:=by
 unfold World.cells? at h;have hl:=mapM_some_length h;simp at hl;refine⟨hl,fun j v hj=> ?_⟩;have hlt:j<n:=by have:=(ZAB.1 hj).1;omega
 have:=mapM_some_get h j j (by simp[hlt])
 simp_all
theorem pzZ{a}{v}(h:w.cell? a=some v):a.spot=none/\a.block<w.heap.size:=by
 unfold World.cell? at h;split at h
 ·rename_i c _ _ hb;split at h
  ·cases h
  ·rename_i hs;refine⟨by cases hsp:a.spot<;>simp[hsp] at hs⊢,(ZBE.1 hb).1⟩
 grind
theorem eLZ{aB}{t}{cs}{y}{d}(hu:P.underlying t=some d)(hd:DataW.trod enc P w 0 sp held (aB+1) t cs=some y)(hr:d.isRow=false):∃v,cs=[v]:=by
 unfold DataW.trod at hd;rcases cs with _|⟨v,_|⟨v2,cs⟩⟩
 ·cases d<;>first|simp_all|grind
 ·grind
 ·cases d<;>cases v<;>first|simp_all|simp_all|simp_all|(split at hd<;>first|(done)|(done))
theorem gpZ:∀(n) (t) (u),tL P n t u=true->∀(aB) (cs) (d) (ps),DataW.trod enc P w 0 sp held aB t cs=some (d,ps)->
 ∃x,Cl w (fun _=>False) (fun _=>.no) u x cs/\OkV u x
 |0,t,u,h,aB,cs,d,ps,hd=>by cases h
 |n+1,t,u,h,0,cs,d,ps,hd=>by cases hd
 |n+1,t,u,h,aB+1,cs,d,ps,hd=>by
  unfold tL at h;split at h
  ·rename_i k k' hu;simp only[ZAt] at h;subst h;obtain⟨v,rfl⟩:=eLZ hu hd rfl;unfold DataW.trod at hd;rw[hu] at hd;cases v<;>first|(cases hd;done)|skip;rename_i k' m;simp only at hd;split at hd
   ·rename_i hw;obtain⟨rfl,hw⟩:=hw;have hb:=by simpa[Lit.wf] using hw
    exact⟨m,rfl,hb⟩
   ·cases hd
  ·rename_i k hu;simp only[ZAt] at h;subst h;obtain⟨v,rfl⟩:=eLZ hu hd rfl;unfold DataW.trod at hd;rw[hu] at hd;cases v<;>first|(cases hd;done)|skip;rename_i k' m;simp only at hd;split at hd
   ·rename_i hw;obtain⟨rfl,hw⟩:=hw;have hb:=by simpa[Lit.wf,IntKind.min,IntKind.max,IntKind.signed,IntKind.bits] using hw
    refine⟨UInt8.ofNat m.toNat,?_,trivial⟩;show[Value.int .u8 m]=[Value.int .u8 ((UInt8.ofNat m.toNat).toNat:Int)];have:((UInt8.ofNat m.toNat).toNat:Int)=m:=by
     rw[UInt8.toNat_ofNat'];omega
    rw[this]
   ·cases hd
  ·rename_i hu;obtain⟨v,rfl⟩:=eLZ hu hd rfl;unfold DataW.trod at hd;rw[hu] at hd;cases v<;>first|(cases hd;done)|skip;rename_i b;exact⟨b,rfl,trivial⟩
  ·rename_i hu;obtain⟨v,rfl⟩:=eLZ hu hd rfl;unfold DataW.trod at hd;rw[hu] at hd;cases v<;>first|(cases hd;done)|skip;rename_i s;simp only at hd;split at hd
   ·rename_i hs;have hb:=hs;exact⟨s.data.toList,rfl,hb⟩
   ·cases hd
  ·rename_i e v hu;simp only[ZAF,afZ,ZBX] at h;obtain⟨⟨h1,h2⟩,h3⟩:=h;obtain⟨x,rfl⟩:=eLZ hu hd rfl;unfold DataW.trod at hd;rw[hu] at hd;cases x<;>first|(cases hd;done)|skip;rename_i A len cap;cases A with
   |none=>
    cases len with
    |succ k=>cases hd
    |zero=>cases cap with
     |succ k=>cases hd
     |zero=>exact⟨([]:List v.den),⟨none,0,rfl,by simp,by unfold maxLen;omega,fun _=>rfl,fun h=>absurd rfl h⟩,by simp,fun x hx=>by cases hx⟩
   |some a=>
    simp only at hd;split at hd
    ·rename_i hb;obtain⟨_,hb1,hb2⟩:=hb;obtain⟨elems,he,_⟩:=ZAH.1 hd;have hlen:=mapM_some_length he;simp only[List.length_range] at hlen;have hel:∀i,i<len->∃cs,w.cells? 0 (a.add (i*P.cellsOf e)) (P.cellsOf e)=some cs/\∃x,Cl w (fun _=>False) (fun _=>.no) v x cs/\OkV v x:=fun i hi=>by
      have:=mapM_some_get he i i (by simp[hi]);rw[ZAC (by omega)] at this;obtain⟨cs,c1,c2⟩:=ZAH.1 this;exact⟨cs,c1,gpZ n e v h3 aB cs _ _ c2⟩
     obtain⟨l,l1,l2⟩:=ehZ (Q:=fun i x=>∃cs,w.cells? 0 (a.add (i*P.cellsOf e)) (P.cellsOf e)=some cs/\Cl w (fun _=>False) (fun _=>.no) v x cs/\OkV v x) len fun i hi=>by
      obtain⟨cs,c1,x,c2,c3⟩:=hel i hi;exact⟨x,cs,c1,c2,c3⟩
     have hl:=l1;refine⟨((l)),⟨some a,cap,by show[Value.slice (some a) len cap]=[Value.slice (some a) (List.length l) cap];rw[hl],by show List.length l<=cap;rw[hl];exact hb1,hb2,(fun h=>by cases h),fun hne=> ?_⟩,by show List.length l<=maxLen;rw[hl];omega,fun x hx=> ?_⟩
     ·have hpos:0<len:=by
       have:=hne;omega
      obtain⟨cs,c1,_⟩:=hel 0 hpos;rw[ZBu] at c1;obtain⟨g1,g2⟩:=ktZ c1;have hcs:∃y,cs[0]? =some y:=⟨_,ZAC (by omega)⟩;obtain⟨y,hy⟩:=hcs;have hc:=pzZ (g2 0 y hy);have ha0:((a.add 0).add 0)=a:=rfl;rw[ha0] at hc;obtain⟨b,off,spot⟩:=a;simp only at hc;obtain⟨rfl,hblk⟩:=hc;refine⟨b,off,rfl,fun h=>h,hblk,fun i x hx=> ?_⟩;obtain⟨cs,c1,c2,c3⟩:=l2 i x hx;refine⟨cs,c2,fun j y hj=> ?_⟩;have:=(ktZ c1).2 j y hj;rw[Addr.add_mid,Addr.add_mid] at this;rw[<-h1];exact this
     ·obtain⟨i,hi⟩:=ZAP hx;obtain⟨cs,_,_,c3⟩:=l2 i x hi;exact c3
    ·cases hd
  ·rename_i fs v hu;simp only[ZAF,afZ] at h;unfold DataW.trod at hd;rw[hu] at hd;simp only at hd;split at hd
   ·rename_i hl;obtain⟨xs,hx,_⟩:=ZAI.1 hd;obtain⟨y,c1,c2⟩:=gHZ (f:=tL P n) (fun x u hf _ hz=>by obtain⟨z,hz⟩:=hz;exact gpZ n x.type u hf aB _ z.1 z.2 hz) fs.toList 0 v h.2 fun x hx'=>by
     obtain⟨i,hi⟩:=ZAP hx';have:=mapM_some_get hx i x hi;rw[ZAC (by rw[mapM_some_length hx];exact(ZAB.1 hi).1)] at this;exact⟨_,this⟩
    refine⟨y,?_,c2⟩;rw[ZCK,ZA0 (by omega)] at c1;exact c1
   ·cases hd
  ·rename_i fs a b hu;simp only[ZAF,afZ] at h;unfold DataW.trod at hd;rw[hu] at hd;simp only at hd;split at hd
   ·rename_i hl;obtain⟨xs,hx,_⟩:=ZAI.1 hd;obtain⟨y,c1,c2⟩:=gHZ (n:=aB) (f:=tL P n) (fun x u hf _ hz=>by obtain⟨z,hz⟩:=hz;exact gpZ n x.type u hf aB _ z.1 z.2 hz) fs.toList 0 (.pair a b) h.2 fun x hx'=>by
     obtain⟨i,hi⟩:=ZAP hx';have:=mapM_some_get hx i x hi;rw[ZAC (by rw[mapM_some_length hx];exact(ZAB.1 hi).1)] at this;exact⟨_,this⟩
    refine⟨y,?_,c2⟩;rw[ZCK,ZA0 (by omega)] at c1;exact c1
   ·cases hd
  ·rename_i m e m' v hu;simp only[ZAF,afZ] at h;obtain⟨⟨⟨rfl,h1⟩,h2⟩,h3⟩:=h;unfold DataW.trod at hd;rw[hu] at hd;simp only at hd;split at hd
   ·rename_i hl;obtain⟨xs,hx,_⟩:=ZAI.1 hd;have hlen:=mapM_some_length hx;simp only[List.length_range] at hlen;obtain⟨l,l1,l2⟩:=ehZ (Q:=fun i x=>Cl w (fun _=>False) (fun _=>.no) v x ((cs.drop (i*v.cells)).take v.cells)/\OkV v x) m fun i hi=>by
     have:=mapM_some_get hx i i (by simp[hi]);rw[ZAC (by omega)] at this;obtain⟨x,c1,c2⟩:=gpZ n e v h3 aB _ _ _ this;rw[h2] at c1;exact⟨x,c1,c2⟩
    refine⟨(show(Ty.arr m v).den from l),⟨l1,(List.range m).map fun i=>(cs.drop (i*v.cells)).take v.cells,by simp,(dWZ v.cells m cs (by rw[hl,h1])).symm,fun i x c hx hc=> ?_⟩,l1,fun x hx=> ?_⟩
    ·have hi:i<m:=by have:=(ZAB.1 hc).1;simpa using this
     rw[ZAY,List.getElem?_range hi] at hc;simp only[ZB5,ZAO] at hc;rw[<-hc];exact(l2 i x hx).1
    ·obtain⟨i,hi⟩:=ZAP hx;exact(l2 i x hi).2
   ·cases hd
  grind
theorem trod_v{n}{t}{u}(h:tL P n t u=true)(hf:mW P t u=true){base}{v}{d}{ps}(hw:Value.okWide P w .any base t v)(hd:DataW.Trod enc P w 0 sp held t v d ps):
 ∃x,bK w (fun _=>False) (fun _=>.no) u x v/\OkV u x:=by
 let⟨aB,hd⟩:=hd
 let⟨x,h1,h2⟩:=gpZ n t u h aB _ d ps hd
 refine⟨x,⟨v.cells.toList,h1,?_⟩,h2⟩;unfold mW at hf;simp[ZAj] at hf
 let⟨_,hf⟩:=hf
 unfold Value.okWide at hw;cases hg:u.isAgg<;>rw[hg] at hf
 ·simp at hf;have hlen:=h1.len
  let⟨dd,hdd,hrow⟩:=hqZ hf
  cases v with
  |agg cs=>
   exfalso;unfold eP at hf;rw[hdd] at hf hw;cases dd<;>first|(cases hf;done)|(simp[Cell.okWide,Cell.ok] at hw;done)
  |tuple cs=>
   exfalso;unfold eP at hf;rw[hdd] at hf hw;cases dd<;>first|(cases hf;done)|(simp[Cell.okWide,Cell.ok] at hw;done)
  |_=>rfl
 ·simp only[bq_true] at hf
  let⟨dd,hdd,hrow⟩:=eZZ hf
  unfold fG at hf;rw[hdd] at hf hw;cases dd<;>first|(cases hf;done)|skip
  ·obtain⟨cs,rfl,_⟩:=hw;rfl
  ·obtain⟨cs,rfl,_⟩:=hw;rfl
theorem law_of_told{f}(hb:uV P f){ks}{spec}(hT:dY P ⟨f,⟨ks,[]⟩,[⟨.cons (.p .bool) .nil,[]⟩],spec⟩){t}(hs:spec t=some true){vals}
 (hv:aR ⟨w,fun _=>False,fun _=>False,fun _=>.no,fun _=>False⟩ (Shp.emb ⟨ks,[]⟩ t).1 vals):Calls P f vals.toArray w fun e w'=>e= .returned (.bool true)/\RowKit.Below w.heap.size w w':=by
 refine((hT.spec t true hs ⟨w,fun _=>False,fun _=>False,fun _=>.no,fun _=>False⟩ vals ⟨fun id e h=>(by rw[show(Shp.emb ⟨ks,[]⟩ t).2=[] from rfl,ciZ] at h;cases h),fun i i' e e' g sz n g' sz' n' _ h=>(by simp_all),fun id _=>.inl rfl,fun g h=>h,fun i x h=>by simp_all[Shp.emb,jY,aG],fun i h=>by simp_all[Shp.emb,jY,aN],fun _ _ _ h=>h,fun _ _ _=>rfl⟩ hv fun _ h=>h).calls hb).mono ?_;rintro en w' ⟨v,z',rfl,rfl,hn,_,ho⟩
 let⟨_,ho⟩:=ho
 have ho:aF z' (.p .bool true) v:=ho;refine⟨by rw[ho.v.bool],⟨hn.os,hn.tape.1,hn.output,hn.size,fun b hb=>hn.block b hb fun h=>h⟩⟩
end
open Go.ChangeShapes Go.WideShapes Go.ChangeAt Go.RowKit
section
variable {H : Type} {enc : TypeId × Value → H} {P : Program}
theorem eKZ(hl:laidOutB P=true){W W'}{sp}(hb:Below W.heap.size W W'):
 ∀(ts) (vs) (ds) (ps),DataW.TrodAll enc P W 0 (fun _=>true) true ts vs ds ps->
  (∀t∈ts,P.readableRec t=true/\t<P.types.size)->(∀x∈ps,x.block<W.heap.size/\sp x.block=true)->DataW.TrodAll enc P W' 0 sp true ts vs ds ps
 |[],vs,ds,ps,h,_,_=>by
  obtain⟨rfl,rfl,rfl⟩:=trodAll_nil h;exact trodAll_mk0
 |t::ts,vs,ds,ps,h,hr,hp=>by
  obtain⟨v,vs',d,ds',p,q,rfl,rfl,rfl,h0,h1⟩:=trodAll_cons h;have ht:=hr t (by simp);exact trodAll_cons_mk (WideElems.Trod_stays hl ht.1 ht.2 h0 (fun x hx=>hb.same (hp x (by simp[hx])).1) (fun x hx=>(hp x (by simp[hx])).2))
   (eKZ hl hb ts vs' ds' q h1 (fun t' h'=>hr t' (by simp[h'])) fun x hx=>hp x (by simp[hx]))
theorem iiZ{f}{s:ChangeSpec}{apart fresh handsOn again:Bool}{W W':World}{args:Array Value}{v:Value}{ds gs:List (DataW H)}{before pa pv:List MemPlace}
 (hW:DataW.Whole enc P f.params.toList s.vars apart W args.toList ds gs before)
 (hres:∀(b:Nat) (sp:Nat->Bool) (hd:Bool),DataW.TrodAll enc P W' b sp hd f.resultTypes.toList (v.resultList f.resultTypes.size) (s.fn H (ds++gs)).results [])
 (hargs:∀sp:Nat->Bool,(∀p∈before,sp p.block=true)->DataW.TrodAll enc P W' 0 sp true f.params.toList args.toList (s.fn H (ds++gs)).args pa)
 (hvars:∀sp:Nat->Bool,(∀p∈before,sp p.block=true)->DataW.TrodVars enc P W' sp s.vars (s.fn H (ds++gs)).vars pv)
 (hps:before=pa++pv)(hb:Below W.heap.size W W')
 (hok:∀(j:Nat) (t:TypeId) (r:Value),f.resultTypes[j]? =some t->(v.resultList f.resultTypes.size)[j]? =some r->Value.okWide P W' .any 0 t r):
 s.post enc P f apart fresh handsOn again W args v W':=by
 have hlt:∀p∈before,p.block<W.heap.size:=fun p hp=>hW.lt p hp;have hold:∀p∈before,(fun b=>decide (b<W.heap.size)) p.block=true:=fun p hp=>by simp_all
 refine⟨ds,gs,before,[],pa,pv,hW,hres _ _ _,hargs _ hold,hvars _ hold,World.keptBut_mono (fun p hp=>⟨hp,?_⟩) (hb.frame (·∈before)),fun _=> ?_⟩
 ·simp_all
 ·obtain⟨_,_,_,_,_,hz,hn⟩:=hW;refine⟨hok,_,_,([]++pa)++pv,⟨[]++pa,pv,trodAll_append (hargs _ (fun _ _=>rfl)) (hres _ _ _),hvars _ (fun _ _=>rfl),rfl,?_,?_⟩,?_⟩
  ·intro b off hp;have hin:MemPlace.cell b off∈before:=by rw[hps];simpa using hp
   rw[hb.frozen (hlt _ hin)];exact hz b off hin
  ·intro ha;have:=hn ha;rw[hps] at this;simpa using this
  simp_all
theorem law_post(hl:laidOutB P=true){f}{s:ChangeSpec}{B}{W W'}{args}{ds gs}{before}
 (hbool:P.underlying B=some .bool)(hres:f.resultTypes=#[B])(hread:∀t∈f.params.toList,P.readableRec t=true/\t<P.types.size)(hvars:s.vars=[])
 (hfn:(s.fn H (ds++gs)).results=[.lit (.bool true)]/\(s.fn H (ds++gs)).args=ds/\(s.fn H (ds++gs)).vars=[])
 (hW:DataW.Whole enc P f.params.toList s.vars false W args.toList ds gs before)(hb:Below W.heap.size W W'):
 s.post enc P f false true false false W args (.bool true) W':=by
 have hlt:∀p∈before,p.block<W.heap.size:=fun p hp=>hW.lt p hp;have hW':=hW;obtain⟨p,q,hA,hV,hbe,_,_⟩:=hW;rw[hvars] at hV;obtain⟨rfl,rfl⟩:=trodVars_none hV;rw[ZAo] at hbe;subst hbe;refine iiZ (pa:=before) (pv:=[]) hW' ?_ ?_ ?_ (by simp) hb ?_
 ·intro b sp hd;rw[hfn.1,hres];exact trodAll_mk1 (shut_bool hbool _)
 ·grind[eKZ]
 ·intro sp _;rw[hvars,hfn.2.2]
  rfl
 ·exact ok_one hres rfl (okWide_bool_mk hbool _)
end
open Go.Proofs Go.Shelf Go.Sort
abbrev qQ:Ty:=.pair (.int .i64) (.int .i64)
def nP(x:Int×Int):List Value:=[.int .i64 x.1,.int .i64 x.2]
theorem clII{w}{M}{ρ}{x:Int×Int}{vs}:Cl w M ρ qQ x vs↔vs=nP x:=by
 constructor
 ·rintro⟨u,v,rfl,h1,h2⟩;subst h1;subst h2;rfl
 ·rintro rfl;exact⟨[.int .i64 x.1],[.int .i64 x.2],rfl,rfl,rfl⟩
theorem v0Z{z}(x:Int×Int):aF z (.p qQ x) (.agg (nP x).toArray):=.p _ _ _ ⟨_,clII.2 rfl,rfl⟩
theorem vXZ{z}{a b}{vals}(h:aR z [a,b] vals):∃u v,vals=[u,v]/\aF z a u/\aF z b v:=by
 let⟨h1,h2⟩:=h
 match vals,h1,h2 with
 |[u,v],_,h2=>exact⟨u,v,rfl,h2 0 a u rfl rfl,h2 1 b v rfl rfl⟩
theorem rPZ{w w':World}(h1:w'.os=w.os)(h2:w'.tape=w.tape)(h3:w.drawn<=w'.drawn)(h4:w'.output=w.output)(h5:w.heap.size<=w'.heap.size)(h6:∀b,b<w.heap.size->w'.heap[b]? =w.heap[b]?):
 ∃q os,w'=grow (w.drewN q) os:=by
 refine⟨w'.drawn-w.drawn,w'.heap.extract w.heap.size w'.heap.size,?_⟩;obtain⟨heap,tape,drawn,os,output⟩:=w';simp only at h1 h2 h3 h4 h5 h6;subst h1;subst h2;subst h4;unfold grow;have e1:(w.drewN (drawn-w.drawn)).heap=w.heap:=by rfl
 have e2:(w.drewN (drawn-w.drawn)).drawn=drawn:=by show w.drawn+(drawn-w.drawn)=drawn;omega
 have e3:(w.drewN (drawn-w.drawn)).tape=w.tape/\(w.drewN (drawn-w.drawn)).os=w.os/\(w.drewN (drawn-w.drawn)).output=w.output:=⟨rfl,rfl,rfl⟩;have hh:heap=w.heap++heap.extract w.heap.size heap.size:=by
  apply Array.ext_getElem?;intro i;by_cases hi:i<w.heap.size
  ·rw[h6 i hi,ZBS hi]
  ·rw[Array.getElem?_append_right (by omega),Array.getElem?_extract];by_cases hj:i<heap.size
   ·rw[ZAN (by omega)];congr 1;omega
   ·rw[ZAM (by omega),Array.getElem?_eq_none (by omega)]
 grind
theorem fTZ(e)(id):aQ [(0,some e)] id=if id=0 then some e else none:=by
 have hf:0<aA:=by simp[aA]
 have hne:∀j,j≠0->aG [(0,some e)] j=none:=fun j hj=>by simp_all[aG,ahZ,ZBf]
 by_cases hi:id=0
 ·subst hi
  rfl
 ·rw[ZAM hi];by_cases hd:aC<=id
  ·rw[a8Z hd,hne _ (by have:=(bOZ hd).1;omega)];rfl
  simp_all[aQ,ZAM]
section
variable {P : Program} {ρr : Ren}
theorem kFZ{F}{cs}{k}(hk):(putCells id 0 F cs)[k]? =some (if k<F.size then F[k]! else cs[k]):=by
 unfold putCells
 simp_all
end
end Go.Ab
namespace Go.Proofs
open Go.Shelf
structure InsLay (P:Program) (ρ:Ren):Prop where
 mixed:P.follows .mixedOrders=true
 f22:Bears P (ρ.f 22) (Body2.n22 ρ)
 x29:(P.funcs[ρ.f 29]?.map fun fn=>(fn.name== "runtime.NumGoroutine",fn.body.isNone,(Extern.findNext fn).isNone,Extern.find fn))=some (false,true,true,some (Extern.SlicesOverlaps.overlaps #[(ρ.t 24),(ρ.t 24)] #[(ρ.t 4)]))
 t0:P.underlying (ρ.t 0)=some (TypeDesc.tuple #[])
 a0:∀w,(isAgg (ρ.t 0)).run P w= .ok false w
 z0:∀w,(Go.sizeOf (ρ.t 0)).run P w= .ok 1 w
 v0:∀w,(zeroValue (ρ.t 0)).run P w= .ok (Value.tuple #[]) w
 t3:P.underlying (ρ.t 3)=some (TypeDesc.int IntKind.i64)
 a3:∀w,(isAgg (ρ.t 3)).run P w= .ok false w
 z3:∀w,(Go.sizeOf (ρ.t 3)).run P w= .ok 1 w
 v3:∀w,(zeroValue (ρ.t 3)).run P w= .ok (Value.int IntKind.i64 0) w
 t4:P.underlying (ρ.t 4)=some (TypeDesc.bool)
 a4:∀w,(isAgg (ρ.t 4)).run P w= .ok false w
 z4:∀w,(Go.sizeOf (ρ.t 4)).run P w= .ok 1 w
 v4:∀w,(zeroValue (ρ.t 4)).run P w= .ok (Value.bool false) w
 t24:P.underlying (ρ.t 24)=some (TypeDesc.slice (ρ.t 9))
 a24:∀w,(isAgg (ρ.t 24)).run P w= .ok false w
 z24:∀w,(Go.sizeOf (ρ.t 24)).run P w= .ok 1 w
 v24:∀w,(zeroValue (ρ.t 24)).run P w= .ok (Value.slice none 0 0) w
open Go.Shelf Go.RowKit Go.Lib
variable {P : Program} {ρ : Ren}
theorem d3Z(Z)(q):(Builtin.zeroCells Z q).size=q*Z.size:=by
 rw[Builtin.zeroCells]
 simp_all
theorem dJZ(w)(dT sT ty elem)(b o dLen dCap)(a)(sLen sCap k)(cs)
 (hu:P.underlying dT=some (.slice elem))(hs:(P.info? elem).map (·.size)=some k)(hn:cs.length=Nat.min sLen dLen*k)
 (hsrc:∀j v,cs[j]? =some v->w.cell? (a.add j)=some v)(hc:∀j,j<cs.length->(w.cell? ⟨b,o+j,none⟩).isSome=true)(hf:∀j,j<cs.length->w.frozen? ⟨b,o+j,none⟩=false)(h1:∀v∈cs,v.oneCell'=true):
 (Builtin.copy_ #[dT,sT] ty #[.slice (some ⟨b,o,none⟩) dLen dCap,.slice (some a) sLen sCap]).run P w= .ok (goInt (Nat.min sLen dLen)) (w.setCells b o cs):=by
 have hl:=run_firstCells_some (P:=P) w k (Nat.min sLen dLen) a sLen sCap cs hn hsrc;have hst:=run_storeCells_cells (P:=P) b o cs 0 w (by omega) (by omega) h1;cases hq:P.info? elem with
 |none=>simp_all
 |some i=>
  have hi:=by simpa[hq] using hs
  simp[Builtin.copy_,run_underlying hu,Builtin.lenOf,sizeOf,typeInfo,hq,hi,hl,hst]
theorem InsLay.overlaps(L:InsLay P ρ){a b}{w w'}{v}(h:(Extern.SlicesOverlaps.overlaps #[(ρ.t 24),(ρ.t 24)] #[(ρ.t 4)] #[a,b]).run P w= .ok v w'):(callFunc (ρ.f 29) #[a,b]).run P w= .ok (.value v) w':=by
 have hx:=L.x29;cases hq:P.funcs[ρ.f 29]? with
 |none=>simp_all
 |some fn=>
  rw[hq] at hx;simp only[Option.map_some,Option.some.injEq,Prod.mk.injEq] at hx
  let⟨h1,h2,h3,h4⟩:=hx
  rw[run_callFunc_extern hq h1 h2 (by simp_all) h4,h]
  rfl
section
variable (L : InsLay P ρ) {k : Nat} (hk : 0 < k) (z9 : ∀ w, (Go.sizeOf (ρ.t 9)).run P w = .ok k w) {ag : Bool} (a9 : ∀ w, (isAgg (ρ.t 9)).run P w = .ok ag w) (hsz : (P.info? (ρ.t 9)).map (·.size) = some k)
include L hk z9 a9 hsz
set_option maxHeartbeats 4000000 in
set_option maxRecDepth 100000 in
theorem jHZ(b n c i vb m vc:Nat)(cs vs:List Value)(w:World)(hi:i<n)(hm:0<m)(hroom:n+m<=c)(hc63:c<=9223372036854775807)(hvb:vb≠b)
 (hcl:cs.length=n*k)(hvl:vs.length=m*k)
 (hcs:∀j v,cs[j]? =some v->w.cell? ⟨b,j,none⟩=some v)(hsp:∀j,j<(n+m)*k->(w.cell? ⟨b,j,none⟩).isSome=true)(hfz:∀j,j<(n+m)*k->w.frozen? ⟨b,j,none⟩=false)
 (hvs:∀j v,vs[j]? =some v->w.cell? ⟨vb,j,none⟩=some v)(h1c:∀v∈cs,v.oneCell'=true)(h1v:∀v∈vs,v.oneCell'=true)
 (tA tB:TypeId)(kA kB:Nat)(hsa:w.shape? vb=some (tA,kA))(hsb:w.shape? b=some (tB,kB))(hkB:kB≠0)(hfa:w.frozen? ⟨vb,0,none⟩=false)(hfe:w.frozen? ⟨vb,kA,none⟩=false):
 Calls P (ρ.f 22) #[.slice (some ⟨b,0,none⟩) n c,.int .i64 i,.slice (some ⟨vb,0,none⟩) m vc] w fun e w'=>
  e= .returned (.slice (some ⟨b,0,none⟩) (n+m) c)/\w'=(w.drew.setCells b ((i+m)*k) (cs.drop (i*k))).setCells b (i*k) vs:=by
 have t0:=L.t0;have a0:=L.a0;have z0:=L.z0;have v0:=L.v0;have t3:=L.t3;have a3:=L.a3;have z3:=L.z3;have v3:=L.v3;have t4:=L.t4;have a4:=L.a4;have z4:=L.z4;have v4:=L.v4;have t24:=L.t24;have a24:=L.a24;have z24:=L.z24;have v24:=L.v24;have u0:=run_underlying L.t0;have u3:=run_underlying L.t3;have u4:=run_underlying L.t4;have u24:=run_underlying L.t24;have hz1:¬((m:Int)=0):=by omega
 have hz2:¬((i:Int)=(n:Int)):=by omega
 have hov:∀lb cb,(callFunc (ρ.f 29) #[.slice (some ⟨vb,0,none⟩) m vc,.slice (some ⟨b,(i+m)*k,none⟩) lb cb]).run P w= .ok (.value (.bool false)) w:=fun lb cb=>
  L.overlaps (Lib.run_overlaps_apart w (ρ.t 24) (ρ.t 4) (ρ.t 9) L.t24 k z9 ⟨vb,0,none⟩ ⟨b,(i+m)*k,none⟩ m vc lb cb hvb tA tB kA kB hsa hsb hkB hfa hfe)
 have hdl:(cs.drop (i*k)).length=(n-i)*k:=by rw[List.length_drop,hcl,Nat.sub_mul]
 have mixed:=L.mixed;have hw1:IntKind.i64.wrap ((i:Int)+(m:Int))=(i:Int)+(m:Int):=by rw[IntKind.wrap_i64];omega
 have hb1:(0:Int)<=(i:Int)+(m:Int):=by omega
 have hin:i<=n:=by omega
 have htn:((i:Int)+(m:Int)).toNat=i+m:=by omega
 have hb2:¬(c=i+m):=by omega
 have hb3:(i:Int)<=(n:Int)+(m:Int):=by omega
 have hb4:¬(c=i):=by omega
 have hmin:Nat.min (n+m-i) (n+m-(i+m))=n-i:=by simp only[Nat.min_def];split<;>omega
 have hmin2:Nat.min m (n+m-i)=m:=by simp only[Nat.min_def];split<;>omega
 have hnm:(n+m)*k=(i+m)*k+(n-i)*k:=by rw[<-Nat.add_mul];congr 1;omega
 have hnm2:(n+m)*k=i*k+m*k+(n-i)*k:=by rw[<-Nat.add_mul,<-Nat.add_mul];congr 1;omega
 have hcp1:∀ty dc sc,(Builtin.copy_ #[(ρ.t 24),(ρ.t 24)] ty #[.slice (some ⟨b,(i+m)*k,none⟩) (n+m-(i+m)) dc,.slice (some ⟨b,i*k,none⟩) (n+m-i) sc]).run P w.drew= .ok (goInt ((n-i:Nat):Int)) (w.drew.setCells b ((i+m)*k) (cs.drop (i*k))):=fun ty dc sc=>by
  have:=dJZ w.drew (ρ.t 24) (ρ.t 24) ty (ρ.t 9) b ((i+m)*k) (n+m-(i+m)) dc ⟨b,i*k,none⟩ (n+m-i) sc k (cs.drop (i*k)) L.t24 hsz (by rw[hdl,hmin])
   (fun j v hj=>by rw[Addr.add_lit];exact hcs (i*k+j) v (by rwa [List.getElem?_drop] at hj))
   (fun j hj=>hsp _ (by rw[hdl] at hj;omega)) (fun j hj=>hfz _ (by rw[hdl] at hj;omega)) (fun v hv=>h1c v (List.mem_of_mem_drop hv))
  rw[hmin] at this;exact this
 obtain⟨W1,hW1⟩:∃W1,W1=w.drew.setCells b ((i+m)*k) (cs.drop (i*k)):=⟨_,rfl⟩;have hsp1:∀x,x<(n+m)*k->(W1.cell? ⟨b,x,none⟩).isSome=true:=fun x hx=>by
  rw[hW1];exact isSome_setCells b (cs.drop (i*k)) ((i+m)*k) w.drew (fun j hj=>hsp _ (by rw[hdl] at hj;omega)) _ (hsp x hx)
 have hcp2:∀(W:World),(∀x,W.cell? x=W1.cell? x)->(∀x,W.frozen? x=W1.frozen? x)->∀ty dc,(Builtin.copy_ #[(ρ.t 24),(ρ.t 24)] ty #[.slice (some ⟨b,i*k,none⟩) (n+m-i) dc,.slice (some ⟨vb,0,none⟩) m vc]).run P W= .ok (goInt m) (W.setCells b (i*k) vs):=fun W hWc hWf ty dc=>by
  have:=dJZ W (ρ.t 24) (ρ.t 24) ty (ρ.t 9) b (i*k) (n+m-i) dc ⟨vb,0,none⟩ m vc k vs L.t24 hsz (by rw[hvl,hmin2])
   (fun j v hj=>by
    rw[Addr.add_lit,hWc,hW1,World.cell?_setCells_out b _ _ _ _ (fun h _=>absurd h hvb),Nat.zero_add];exact hvs j v hj)
   (fun j hj=>by rw[hWc];exact hsp1 _ (by omega)) (fun j hj=>by rw[hWf,hW1,World.frozen?_setCells];exact hfz _ (by omega)) h1v
  rw[hmin2] at this;exact this
 rw[<-hW1] at hcp1;obtain⟨nm,hnm9,F22⟩:=L.f22
 go_enter F22,Body2.n22_ntmps ρ
 go_wp2_with (simp only[hov])
 go_region_law_o (refine step_copy_runI rfl _ _ (ρ.t 24) (ρ.t 24) rfl _ _ (by simp[Act.eval,Act.put]) (by simp[Act.eval,Act.put]) (hcp1 _ _ _) ?_)
 go_wp2_with (at_builtin;refine wpList_copy_runI _ rfl _ _ (ρ.t 24) (ρ.t 24) rfl _ _ rfl rfl (hcp2 _ (fun _=>rfl) (fun _=>rfl) _ _) ?_)
 go_ret
 first|exact⟨rfl,rfl⟩|exact⟨rfl,by rw[hW1]⟩
omit hk z9 a9 hsz in
include L a9 z9 in
set_option maxHeartbeats 4000000 in
set_option maxRecDepth 100000 in
theorem fpZ{i0:TypeInfo}(hi0:P.info? (ρ.t 9)=some i0)(hs0:i0.size=k)(b n c vb m vc:Nat)(vs:List Value)(w:World)(hm:0<m)(hroom:n+m<=c)(hc63:c<=9223372036854775807)
 (hvl:vs.length=m*k)(hsp:∀j,j<m*k->(w.cell? ⟨b,n*k+j,none⟩).isSome=true)(hfz:∀j,j<m*k->w.frozen? ⟨b,n*k+j,none⟩=false)
 (hvs:∀j v,vs[j]? =some v->w.cell? ⟨vb,j,none⟩=some v)(h1v:∀v∈vs,v.oneCell'=true):
 Calls P (ρ.f 22) #[.slice (some ⟨b,0,none⟩) n c,.int .i64 n,.slice (some ⟨vb,0,none⟩) m vc] w fun e w'=>
  e= .returned (.slice (some ⟨b,0,none⟩) (n+m) c)/\w'=w.setCells b (n*k) vs:=by
 have t0:=L.t0;have a0:=L.a0;have z0:=L.z0;have v0:=L.v0;have t3:=L.t3;have a3:=L.a3;have z3:=L.z3;have v3:=L.v3;have t4:=L.t4;have a4:=L.a4;have z4:=L.z4;have v4:=L.v4;have t24:=L.t24;have a24:=L.a24;have z24:=L.z24;have v24:=L.v24;have u0:=run_underlying L.t0;have u3:=run_underlying L.t3;have u4:=run_underlying L.t4;have u24:=run_underlying L.t24;have mixed:=L.mixed;have hz1:¬((m:Int)=0):=by omega
 have hsrc:Src P i0.size (ρ.t 24) (.slice (some ⟨vb,0,none⟩) m vc) m vs w:=by
  rw[hs0];exact Src.ofSlice w L.t24 ⟨vb,0,none⟩ m vc vs hvl (fun j u hj=>by rw[Addr.add_lit,Nat.zero_add];exact hvs j u hj) h1v
 have hrun:∀ty,(Builtin.append_ #[(ρ.t 24),(ρ.t 24)] ty #[.slice (some ⟨b,0,none⟩) n c,.slice (some ⟨vb,0,none⟩) m vc]).run P w= .ok (.slice (some ⟨b,0,none⟩) (n+m) c) (w.setCells b (n*k) vs):=fun ty=>by
  have:=run_append_room_src w (ρ.t 24) (ρ.t 24) ty (ρ.t 9) i0 L.t24 hi0 b 0 n c _ m vs hsrc hroom (fun j hj=>by rw[hs0,Nat.zero_add];exact hsp j (by omega)) (fun j hj=>by rw[hs0,Nat.zero_add];exact hfz j (by omega));rw[hs0,Nat.zero_add] at this;exact this
 obtain⟨nm,hnm9,F22⟩:=L.f22
 go_enter F22,Body2.n22_ntmps ρ
 go_wp2_with (at_builtin;refine Lib.wpList_append_run _ rfl _ _ _ _ rfl _ _ rfl rfl _ _ (hrun _) ?_)
 go_ret
 exact⟨rfl,rfl⟩
omit hk z9 a9 hsz in
include L a9 z9 in
set_option maxHeartbeats 4000000 in
set_option maxRecDepth 100000 in
theorem cyZ{i0:TypeInfo}{zv:Value}{Zc:Array Value}(hZ:Zc=zv.cells)(hi0:P.info? (ρ.t 9)=some i0)(hs0:i0.size=k)(hz0:i0.zero=some zv)(base:Option Addr)(n c vb m vc:Nat)(cs vs:List Value)(w:World)(hm:0<m)(hnc:n<=c)(hroom:c<n+m)(hbig:(n+m)*i0.bytes<=140737488355328)(h48:n+m<=140737488355328)
 (hcl:cs.length=n*k)(hvl:vs.length=m*k)(hnil:base=none->n=0)
 (hcs:∀a,base=some a->∀j v,cs[j]? =some v->w.cell? (a.add j)=some v)
 (hvs:∀j v,vs[j]? =some v->w.cell? ⟨vb,j,none⟩=some v)(h1v:∀v∈vs,v.oneCell'=true):
 Calls P (ρ.f 22) #[.slice base n c,.int .i64 n,.slice (some ⟨vb,0,none⟩) m vc] w fun e w'=>
  e= .returned (.slice (some ⟨w.heap.size,0,none⟩) (n+m) (grownCap w (n+m) c (ρ.t 9)))/\
  w'=w.drew.alloc (.cells ((cs++vs).toArray++Builtin.zeroCells Zc (grownCap w (n+m) c (ρ.t 9)-(n+m))) (ρ.t 9)):=by
 have t0:=L.t0;have a0:=L.a0;have z0:=L.z0;have v0:=L.v0;have t3:=L.t3;have a3:=L.a3;have z3:=L.z3;have v3:=L.v3;have t4:=L.t4;have a4:=L.a4;have z4:=L.z4;have v4:=L.v4;have t24:=L.t24;have a24:=L.a24;have z24:=L.z24;have v24:=L.v24;have u0:=run_underlying L.t0;have u3:=run_underlying L.t3;have u4:=run_underlying L.t4;have u24:=run_underlying L.t24;have mixed:=L.mixed;have hz1:¬((m:Int)=0):=by omega
 have hsrc:Src P i0.size (ρ.t 24) (.slice (some ⟨vb,0,none⟩) m vc) m vs w:=by
  rw[hs0];exact Src.ofSlice w L.t24 ⟨vb,0,none⟩ m vc vs hvl (fun j u hj=>by rw[Addr.add_lit,Nat.zero_add];exact hvs j u hj) h1v
 have hold:(Builtin.firstCells i0.size n (.slice base n c)).run P w.drew= .ok cs.toArray w.drew:=by
  rw[hs0];cases base with
  |none=>
   have h0:=hnil rfl;subst h0;obtain rfl:cs=[]:=List.eq_nil_of_length_eq_zero (by rw[hcl,Nat.zero_mul]);exact run_firstCells_none w.drew k 0 0 c
  |some a=>exact run_firstCells_some w.drew k n a n c cs hcl (fun j v hj=>hcs a rfl j v hj)
 have hrun:∀ty,(Builtin.append_ #[(ρ.t 24),(ρ.t 24)] ty #[.slice base n c,.slice (some ⟨vb,0,none⟩) m vc]).run P w= .ok (.slice (some ⟨w.heap.size,0,none⟩) (n+m) (grownCap w (n+m) c (ρ.t 9))) (w.drew.alloc (.cells ((cs++vs).toArray++Builtin.zeroCells Zc (grownCap w (n+m) c (ρ.t 9)-(n+m))) (ρ.t 9))):=fun ty=>by
  rw[hZ];exact run_append_grow_src w (ρ.t 24) (ρ.t 24) ty (ρ.t 9) i0 _ L.t24 hi0 hz0 base n c cs hold _ m vs hsrc hroom (by omega) (growslice_fits hroom hbig)
 clear hold hsrc hz0 hZ;obtain⟨nm,hnm9,F22⟩:=L.f22
 go_enter F22,Body2.n22_ntmps ρ
 cases base with
 |none=>
  have h0:=hnil rfl;subst h0
  go_wp2_with (at_builtin;refine Lib.wpList_append_run _ rfl _ _ _ _ rfl _ _ rfl rfl _ _ (hrun _) ?_)
  all_goals(go_ret;exact⟨rfl,rfl⟩)
 |some a=>
  obtain⟨ab,ao,asp⟩:=a
  go_wp2_with (at_builtin;refine Lib.wpList_append_run _ rfl _ _ _ _ rfl _ _ rfl rfl _ _ (hrun _) ?_)
  all_goals(go_ret;exact⟨rfl,rfl⟩)
set_option maxHeartbeats 4000000 in
set_option maxRecDepth 100000 in
theorem m1Z{i0:TypeInfo}{zv:Value}{Zc:Array Value}(hZ:Zc=zv.cells)(hi0:P.info? (ρ.t 9)=some i0)(hs0:i0.size=k)(hz0:i0.zero=some zv)(hzl:Zc.size=k)(b n c i vb m vc:Nat)(cs vs:List Value)(w:World)(hi:i<n)(hm:0<m)(hnc:n<=c)(hroom:c<n+m)(hbig:(n+m)*i0.bytes<=140737488355328)(h48:n+m<=140737488355328)
 (hcl:cs.length=n*k)(hvl:vs.length=m*k)
 (hcs:∀j v,cs[j]? =some v->w.cell? ⟨b,j,none⟩=some v)
 (hvs:∀j v,vs[j]? =some v->w.cell? ⟨vb,j,none⟩=some v)(h1c:∀v∈cs,v.oneCell'=true)(h1v:∀v∈vs,v.oneCell'=true):
 Calls P (ρ.f 22) #[.slice (some ⟨b,0,none⟩) n c,.int .i64 i,.slice (some ⟨vb,0,none⟩) m vc] w fun e w'=>
  e= .returned (.slice (some ⟨w.heap.size,0,none⟩) (n+m) (grownCap w (n+m) c (ρ.t 9)))/\
  w'=(((w.alloc (.cells ((cs.take (i*k)).toArray++Builtin.zeroCells Zc (n+m-i)++Builtin.zeroCells Zc (grownCap w (n+m) c (ρ.t 9)-(n+m))) (ρ.t 9))).drew.setCells w.heap.size (i*k) vs).drew).setCells w.heap.size ((i+m)*k) (cs.drop (i*k)):=by
 have t0:=L.t0;have a0:=L.a0;have z0:=L.z0;have v0:=L.v0;have t3:=L.t3;have a3:=L.a3;have z3:=L.z3;have v3:=L.v3;have t4:=L.t4;have a4:=L.a4;have z4:=L.z4;have v4:=L.v4;have t24:=L.t24;have a24:=L.a24;have z24:=L.z24;have v24:=L.v24;have u0:=run_underlying L.t0;have u3:=run_underlying L.t3;have u4:=run_underlying L.t4;have u24:=run_underlying L.t24;have mixed:=L.mixed;have hz1:¬((m:Int)=0):=by omega
 have hz2:¬((i:Int)=(n:Int)):=by omega
 have hz3:(c:Int)<(n:Int)+(m:Int):=by omega
 have hik0:i*k<n*k:=Nat.mul_lt_mul_of_pos_right hi hk;have hmk0:0<m*k:=Nat.mul_pos hm hk;have hbw:b<w.heap.size:=block_lt_of_cell (hcs 0 _ (List.getElem?_eq_getElem (by omega)));have hvw:vb<w.heap.size:=block_lt_of_cell (hvs 0 _ (List.getElem?_eq_getElem (by omega)));have hkk:(n:Int)+(m:Int)-(i:Int)=((n+m-i:Nat):Int):=by omega
 have hik:i+(n+m-i)=n+m:=by omega
 have hold:(Builtin.firstCells i0.size i (.slice (some ⟨b,0,none⟩) i c)).run P w.drew= .ok (cs.take (i*k)).toArray w.drew:=by
  rw[hs0];exact run_firstCells_some w.drew k i ⟨b,0,none⟩ i c (cs.take (i*k)) (by rw[List.length_take];omega) (fun j v hj=>by
   rw[Addr.add_lit,Nat.zero_add];rw[List.getElem?_take] at hj;split at hj
   ·exact hcs j v hj
   ·cases hj)
 have hrz:∀ty,(Builtin.append_ #[(ρ.t 24),(ρ.t 3)] ty #[.slice (some ⟨b,0,none⟩) i c,.int .i64 ((n:Int)+(m:Int)-(i:Int))]).run P w=
  .ok (.slice (some ⟨w.heap.size,0,none⟩) (n+m) (grownCap w (n+m) c (ρ.t 9))) (w.drew.alloc (.cells ((cs.take (i*k)).toArray++Builtin.zeroCells Zc (n+m-i)++Builtin.zeroCells Zc (grownCap w (n+m) c (ρ.t 9)-(n+m))) (ρ.t 9))):=fun ty=>by
  have h:=Lib.run_append_grow_zeros w (ρ.t 24) (ρ.t 3) ty (ρ.t 9) i0 _ .i64 .i64 L.t24 L.t3 hi0 hz0 (some ⟨b,0,none⟩) i c (cs.take (i*k)) hold (n+m-i) (by omega) (by omega) (by omega) (by omega) (by
   have:(n+m-i)*i0.bytes<=(n+m)*i0.bytes:=Nat.mul_le_mul_right _ (by omega);omega) (by rw[hik];exact growslice_fits hroom hbig)
  rw[hik] at h;rw[hkk,hZ];exact h
 obtain⟨G,hG⟩:∃G,G=grownCap w (n+m) c (ρ.t 9):=⟨_,rfl⟩;obtain⟨ROW,hROW⟩:∃ROW:Array Value,ROW=(cs.take (i*k)).toArray++Builtin.zeroCells Zc (n+m-i)++Builtin.zeroCells Zc (G-(n+m)):=⟨_,rfl⟩;rw[<-hG] at hrz⊢;rw[<-hROW] at hrz⊢;have hzc:∀q,(Builtin.zeroCells Zc q).size=q*k:=fun q=>by rw[d3Z,hzl]
 have hnm:(n+m)*k=(i+m)*k+(n-i)*k:=by rw[<-Nat.add_mul];congr 1;omega
 have hnm2:(n+m)*k=i*k+m*k+(n-i)*k:=by rw[<-Nat.add_mul,<-Nat.add_mul];congr 1;omega
 have hnm3:(n+m)*k=i*k+(n+m-i)*k:=by rw[<-Nat.add_mul];congr 1;omega
 have hRl:(n+m)*k<=ROW.size:=by
  rw[hROW,Array.size_append,Array.size_append,hzc,hzc,List.size_toArray,List.length_take];omega
 obtain⟨W1,hW1⟩:∃W1,W1=w.drew.alloc (.cells ROW (ρ.t 9)):=⟨_,rfl⟩;rw[<-hW1] at hrz;have hN:∀j,j<(n+m)*k->(W1.cell? ⟨w.heap.size,j,none⟩).isSome=true:=fun j hj=>by
  rw[hW1,World.cell?_alloc_at (w:=w.drew) ROW _ w.heap.size j rfl,Array.getElem?_eq_getElem (by omega)];rfl
 have hNf:∀j,W1.frozen? ⟨w.heap.size,j,none⟩=false:=fun j=>by rw[hW1];exact World.frozen?_alloc_at (w:=w.drew) ROW _ w.heap.size j rfl
 have hOb:∀j v,w.cell? ⟨b,j,none⟩=some v->W1.cell? ⟨b,j,none⟩=some v:=fun j v h=>by rw[hW1,World.cell?_alloc_past (w:=w.drew) _ b j hbw];exact h
 have hOv:∀j v,w.cell? ⟨vb,j,none⟩=some v->W1.cell? ⟨vb,j,none⟩=some v:=fun j v h=>by rw[hW1,World.cell?_alloc_past (w:=w.drew) _ vb j hvw];exact h
 have hminA:Nat.min m (n+m-i)=m:=by simp only[Nat.min_def];split<;>omega
 have hminB:Nat.min (n-i) (n+m-(i+m))=n-i:=by simp only[Nat.min_def];split<;>omega
 have hcpA:∀(W:World),(∀x,W.cell? x=W1.cell? x)->(∀x,W.frozen? x=W1.frozen? x)->∀ty dc,(Builtin.copy_ #[(ρ.t 24),(ρ.t 24)] ty #[.slice (some ⟨w.heap.size,i*k,none⟩) (n+m-i) dc,.slice (some ⟨vb,0,none⟩) m vc]).run P W= .ok (goInt m) (W.setCells w.heap.size (i*k) vs):=fun W hWc hWf ty dc=>by
  have:=dJZ W (ρ.t 24) (ρ.t 24) ty (ρ.t 9) w.heap.size (i*k) (n+m-i) dc ⟨vb,0,none⟩ m vc k vs L.t24 hsz (by rw[hvl,hminA])
   (fun j v hj=>by rw[Addr.add_lit,hWc,Nat.zero_add];exact hOv _ v (hvs j v hj))
   (fun j hj=>by rw[hWc];exact hN _ (by omega)) (fun j hj=>by rw[hWf];exact hNf _) h1v
  rw[hminA] at this;exact this
 have hGn:n+m<=G:=by rw[hG];exact grownCap_ge w _ _ _
 have hG63:G<=9223372036854775807:=by
  have:=grownCap_le_maxLen w (n+m) c (ρ.t 9) (by unfold maxLen;omega);rw[<-hG] at this;unfold maxLen at this;omega
 have hGi:¬(G=i):=by omega
 have hGim:¬(G=i+m):=by omega
 have hci:¬(c=i):=by omega
 have hbN:b≠w.heap.size:=by omega
 have hdl:(cs.drop (i*k)).length=(n-i)*k:=by rw[List.length_drop,hcl,Nat.sub_mul]
 have hcpB:∀(W:World),(∀x,W.cell? x=(W1.setCells w.heap.size (i*k) vs).cell? x)->(∀x,W.frozen? x=(W1.setCells w.heap.size (i*k) vs).frozen? x)->∀ty dc sc,(Builtin.copy_ #[(ρ.t 24),(ρ.t 24)] ty #[.slice (some ⟨w.heap.size,(i+m)*k,none⟩) (n+m-(i+m)) dc,.slice (some ⟨b,i*k,none⟩) (n-i) sc]).run P W= .ok (goInt ((n-i:Nat):Int)) (W.setCells w.heap.size ((i+m)*k) (cs.drop (i*k))):=fun W hWc hWf ty dc sc=>by
  have:=dJZ W (ρ.t 24) (ρ.t 24) ty (ρ.t 9) w.heap.size ((i+m)*k) (n+m-(i+m)) dc ⟨b,i*k,none⟩ (n-i) sc k (cs.drop (i*k)) L.t24 hsz (by rw[hdl,hminB])
   (fun j v hj=>by
    rw[Addr.add_lit,hWc,World.cell?_setCells_out _ _ _ _ _ (fun h _=>absurd h hbN)];exact hOb _ v (hcs (i*k+j) v (by rwa [List.getElem?_drop] at hj)))
   (fun j hj=>by rw[hWc];exact isSome_setCells w.heap.size vs (i*k) W1 (fun t ht=>hN _ (by omega)) _ (hN _ (by rw[hdl] at hj;omega)))
   (fun j hj=>by rw[hWf,World.frozen?_setCells];exact hNf _) (fun v hv=>h1c v (List.mem_of_mem_drop hv))
  rw[hminB] at this;exact this
 subst hW1;have hE1:∀x,((w.alloc (.cells ROW (ρ.t 9))).drew).cell? x=(w.drew.alloc (.cells ROW (ρ.t 9))).cell? x:=fun x=>rfl;have hE2:∀x,((w.alloc (.cells ROW (ρ.t 9))).drew).frozen? x=(w.drew.alloc (.cells ROW (ρ.t 9))).frozen? x:=fun x=>rfl;have hF1:∀x,(((w.alloc (.cells ROW (ρ.t 9))).drew.setCells w.heap.size (i*k) vs).drew).cell? x=((w.drew.alloc (.cells ROW (ρ.t 9))).setCells w.heap.size (i*k) vs).cell? x:=fun x=>rfl;have hF2:∀x,(((w.alloc (.cells ROW (ρ.t 9))).drew.setCells w.heap.size (i*k) vs).drew).frozen? x=((w.drew.alloc (.cells ROW (ρ.t 9))).setCells w.heap.size (i*k) vs).frozen? x:=fun x=>rfl;have hw1:IntKind.i64.wrap ((i:Int)+(m:Int))=(i:Int)+(m:Int):=by rw[IntKind.wrap_i64];omega
 have hb1:(0:Int)<=(i:Int)+(m:Int):=by omega
 have hin:i<=n:=by omega
 have htn:((i:Int)+(m:Int)).toNat=i+m:=by omega
 have hb3:(i:Int)<=(n:Int):=by omega
 clear hz0 hZ hkk hik hold hROW hG hRl hnm hnm2 hnm3;obtain⟨nm,hnm9,F22⟩:=L.f22
 go_enter F22,Body2.n22_ntmps ρ
 go_wp2_with (first
  |(at_builtin;refine Lib.wpList_append_run _ rfl _ _ _ _ rfl _ _ rfl rfl _ _ (hrz _) ?_)
  |(at_builtin;refine wpList_copy_runI _ rfl _ _ (ρ.t 24) (ρ.t 24) rfl _ _ rfl rfl (hcpA _ hE1 hE2 _ _) ?_)
  |(at_builtin;refine wpList_copy_runI _ rfl _ _ (ρ.t 24) (ρ.t 24) rfl _ _ rfl rfl (hcpB _ (fun _=>rfl) (fun _=>rfl) _ _ _) ?_))
 go_region_law_o (refine step_copy_runI rfl _ _ (ρ.t 24) (ρ.t 24) rfl (.slice (some ⟨w.heap.size,(i+m)*k,none⟩) (n+m-(i+m)) (G-(i+m))) (.slice (some ⟨b,i*k,none⟩) (n-i) (c-i)) (by simp[Act.eval,Act.put]) (by simp[Act.eval,Act.put]) (hcpB _ hF1 hF2 (ρ.t 3) (G-(i+m)) (c-i)) ?_)
 go_wp2
 go_ret
 exact⟨rfl,rfl⟩
end
end Go.Proofs
namespace Go.Ab
open Go.Proofs Go.Shelf
section
variable {z : Z} {H : Hp}
theorem enZ{H H'}(h:∀j,aG H j=aG H' j)(id):aQ H id=aQ H' id:=by
 simp_all[aQ]
theorem aH.forget(hH:aH z H){H2}{a}(ha:a<aA)(hg:∀j,aG H2 j=aG H j)(hk:∀j,aN H2 j=(aN H j&& !Nat.beq a j)):aH {z with D:=fun k=>z.D k\/k=a} H2:=by
 have h0:=eAZ;have hkk:∀j,aN H2 j=true->aN H j=true:=fun j h=>by simp_all
 refine⟨fun id e he=>(hH.ent id e (by grind[enZ])).rho rfl rfl (.inl (.eq rfl)) rfl (fun _ _=>rfl) (fun _ _ _ _ _ h=>h),fun i i' e e' g sz n g' sz' n' hii h1 h2=>hH.inj i i' e e' g sz n g' sz' n' hii (by grind[enZ]) (by grind[enZ]),fun id hid=> ?_,hH.sub,fun id e h=>hH.fam id e (by simp_all),fun i h=>hH.key i (hkk i h),fun i hd h=> ?_,hH.nos⟩
 ·by_cases hia:id=a
  ·omega
  ·have:cQ H id=false:=by
    unfold cQ at hid⊢;by_cases hd:aC<=id
    ·rw[ZAN hd] at hid⊢;have hra:a≠rt id:=by have:=(bOZ hd).1;omega
     rw[hg,hk] at hid;have hb:Nat.beq a (rt id)=false:=ahZ hra;rw[hb] at hid;simpa using hid
    ·rw[ZAM hd] at hid⊢;by_cases hf:aA<=id
     ·rw[ZAN hf]
     ·rw[ZAM hf] at hid⊢;rw[hk,ahZ (ZBf hia)] at hid;simpa using hid
   rcases hH.fresh id this with h2|h2<;>grind
 ·rintro(h2|h2)
  ·exact hH.dyn i hd (hkk _ h) h2
  omega
end
section
variable {w : World} {M : Nat → Prop} {ρ : Rho} {u : Ty}
theorem bD.eq{l}{cs cs'}(h:bD w M ρ u l cs)(he:∀j,j<l.length*u.cells->cs'[j]? =cs[j]?):bD w M ρ u l cs':=fun i x hx=>by
 let⟨us,h1,h2⟩:=h i x hx
 refine⟨us,h1,fun j v hj=> ?_⟩;have hi:=(ZAB.1 hx).1;have hjl:=(ZAB.1 hj).1;rw[h1.len] at hjl;have hup:(i+1)*u.cells<=l.length*u.cells:=ZAf _ hi
 grind
theorem bD.app{l m}{cs ds}(h:bD w M ρ u l cs)(hc:cs.length=l.length*u.cells)(h':bD w M ρ u m ds):bD w M ρ u (l++m) (cs++ds):=fun i x hx=>by
 by_cases hi:i<l.length
 ·rw[ZAT hi] at hx
  let⟨us,h1,h2⟩:=h i x hx<;>grind
 ·rw[ZAV (by omega)] at hx
  let⟨us,h1,h2⟩:=h' _ x hx
  refine⟨us,h1,fun j v hj=> ?_⟩;have:=h2 j v hj;have e:i*u.cells=cs.length+(i-l.length)*u.cells:=by rw[hc,<-Nat.add_mul];congr 1;omega
  rw[e,ZCC,ZAV (by omega),ZA9];exact this
theorem bD.takeC{l}{cs}(h:bD w M ρ u l cs)(q):bD w M ρ u (l.take q) (cs.take (q*u.cells)):=
 (h.take q).eq fun j hj=>by
  rw[ZAq,ZAN];have:(l.take q).length*u.cells<=q*u.cells:=ZAf _ (by grind);omega
theorem bD.dropC{l}{cs}(h:bD w M ρ u l cs)(q):bD w M ρ u (l.drop q) (cs.drop (q*u.cells)):=fun i x hx=>by
 rw[ZA4] at hx
 let⟨us,h1,h2⟩:=h _ x hx<;>grind
theorem bD.cut{l}{cs}(h:bD w M ρ u l cs)(hc:l.length*u.cells<=cs.length)(h0:0<u.cells):
 bD w M ρ u l (cs.take (l.length*u.cells))/\(cs.take (l.length*u.cells)).length=l.length*u.cells/\∀v∈cs.take (l.length*u.cells),v.oneCell'=true:=by
 refine⟨h.eq fun j hj=>by rw[ZAq,ZAN hj],by rw[ZAS];omega,fun v hv=> ?_⟩
 let⟨j,hj⟩:=ZAP hv
 rw[ZAq] at hj;split at hj
 ·rename_i hlt;have hi:=Nat.div_lt_of_lt_mul (by rw[ZCw];exact hlt)
  let⟨us,h1,h2⟩:=h _ _ (ZAC hi)
  have hr:j%u.cells<us.length:=by rw[h1.len];exact ZCn _ h0
  have:=h2 _ _ (ZAC hr);rw[show j/u.cells*u.cells+j%u.cells=j from by rw[ZCw];exact Nat.div_add_mod _ _] at this;rw[this] at hj;cases hj;exact h1.one _ (ZBO hr)
 simp_all
end
theorem tTZ{z}{a b c}{vals}(h:aR z [a,b,c] vals):∃u v w,vals=[u,v,w]/\aF z a u/\aF z b v/\aF z c w:=by
 let⟨h1,h2⟩:=h
 match vals,h1,h2 with
 |[u,v,w],_,h2=>exact⟨u,v,w,rfl,h2 0 a u rfl rfl,h2 1 b v rfl rfl,h2 2 c w rfl rfl⟩
def SV(u:Ty)(by_:Nat)(t:Int×(List u.den×List u.den)):Option (List u.den×List u.den):=
 (bL t.1 t.2.1.length).bind fun q=>aP (Nat.blt 0 t.2.2.length&&Nat.ble ((t.2.1.length+t.2.2.length)*by_) bG&&Nat.ble (t.2.1.length+t.2.2.length) bG) (some (t.2.2,t.2.1.take q++t.2.2++t.2.1.drop q))
section
variable {P : Program} {ρr : Ren}
theorem gsZ(L:InsLay P ρr){u}{by_}{ag:Bool}(h0:0<u.cells)(hub:u≠.byte)(z9:∀w,(Go.sizeOf (ρr.t 9)).run P w= .ok u.cells w)(a9:∀w,(isAgg (ρr.t 9)).run P w= .ok ag w)
 (hi9:(P.info? (ρr.t 9)).map (fun i=>(i.size,i.bytes,i.zero.map fun v=>v.cells.size))=some (u.cells,by_,some u.cells))
 (hent:∃fn c,P.funcs[ρr.f 22]? =some fn/\fn.body=some c/\(fn.name== "runtime.NumGoroutine")=false):
 dY P ⟨ρr.f 22,⟨.cons (.slf u.cells 0) (.cons (.p (.int .i64)) (.cons (.slf u.cells 1) .nil)),[(0,false,.rows (ρr.t 9) u),(1,false,.rows (ρr.t 9) u)]⟩,[⟨.cons (.slf u.cells 2) .nil,[(1,false,.rows (ρr.t 9) u),(2,false,.rows (ρr.t 9) u)]⟩],SV u by_⟩:=by
 refine dY.of hent fun t r hr z vals hH hv hD=> ?_;obtain⟨⟨qi,l,v⟩,rfl⟩:∃t':Int×(List u.den×List u.den),t'=t:=⟨t,rfl⟩;have hr:SV u by_ (qi,(l,v))=some r:=hr;unfold SV at hr;dsimp only at hr;obtain⟨q,hq,hr⟩:=ZAH.1 hr;obtain⟨hr0,hr⟩:=adZ.1 hr;simp only[ZAF,ZBX,ZAm,show bG=140737488355328 from rfl] at hr0;injection hr with hr;subst hr;have hH:aH z [(0,some ⟨false,.rows (ρr.t 9) u l⟩),(1,some ⟨false,.rows (ρr.t 9) u v⟩)]:=hH;have hv:aR z [.slf u.cells 0,.p (.int .i64) qi,.slf u.cells 1] vals:=hv;obtain⟨v1,v2,v3,rfl,k1,k2,k3⟩:=tTZ hv;obtain rfl:=k2.v.int;have hqi:0<=qi/\qi<=l.length/\q=qi.toNat:=by
  unfold bL at hq;split at hq
  ·simp_all
  ·grind
 obtain rfl:qi=(q:Int):=by omega
 have hql:q<=l.length:=by omega
 have hg0:aG [(0,some (⟨false,.rows (ρr.t 9) u l⟩:Ent)),(1,some ⟨false,.rows (ρr.t 9) u v⟩)] 0=some ⟨false,.rows (ρr.t 9) u l⟩:=rfl;have hg1:aG [(0,some (⟨false,.rows (ρr.t 9) u l⟩:Ent)),(1,some ⟨false,.rows (ρr.t 9) u v⟩)] 1=some ⟨false,.rows (ρr.t 9) u v⟩:=rfl;obtain⟨i0,hi0,hi0'⟩:=ZAI.1 hi9;simp only[ZA3] at hi0';obtain⟨hs0,hby,hz0⟩:=hi0';obtain⟨zv,hzv,hzl⟩:=ZAI.1 hz0;have hsz:(P.info? (ρr.t 9)).map (·.size)=some u.cells:=by rw[hi0];simp[hs0]
 have hbig:(l.length+v.length)*i0.bytes<=140737488355328:=by rw[hby];exact hr0.1.2
 have hfb:(0:Nat)<aA/\(1:Nat)<aA/\(2:Nat)<aA:=by simp[aA]
 cases k3 with
 |slfV _ _ A hρ=>
  have:v=[]:=(hH.virt hg1 hρ).1
  simp_all
 |slf _ _ g3 sz3 m c3 hρ3 hn3 hs3 hm3=>
 obtain⟨hlt3,hC3,_,cs3,fr3,b1,b2,b3,b4,b5,b6,b7⟩:=hH.real hg1 hρ3;obtain rfl:v.length=m:=b4;have R3:bD z.w z.M z.ρ u v cs3.toList:=fun i x hx=>by grind
 obtain⟨V1,V2,V3⟩:=R3.cut (by grind) h0;generalize hVS:cs3.toList.take (v.length*u.cells)=VS at V1 V2 V3;have hvs:∀j x,VS[j]? =some x->z.w.cell? ⟨g3,j,none⟩=some x:=fun j x hj=>by
  grind[ZAq,bzZ]
 have htup:∀(z':Z) (x:Value),aF z' (.slf u.cells 2) x->aF z' (mD [.slf u.cells 2]) x:=fun z' x h=>h;have fin:∀(w':World) (val:Value) (z':Z),z'.w=w'->aH z' [(0,none),(1,some ⟨false,.rows (ρr.t 9) u v⟩),(2,some ⟨false,.rows (ρr.t 9) u (l.take q++v++l.drop q)⟩)]->Nx z z'->aF z' (.slf u.cells 2) val->
  ∃vv z'',Ending.returned val= .returned vv/\z''.w=w'/\Nx z {z'' with D:=z.D}/\(∀k,z''.D k->k∈aJ [(0,false,BKd.rows (ρr.t 9) u),(1,false,BKd.rows (ρr.t 9) u)])/\
   cP.on [⟨.cons (.slf u.cells 2) .nil,[(1,false,.rows (ρr.t 9) u),(2,false,.rows (ρr.t 9) u)]⟩] (v,l.take q++v++l.drop q) fun o x=>aH z'' (o.emb x).2/\aF z'' (mD (o.emb x).1) vv:=fun w' val z' e1 e2 e3 e4=>by
  refine⟨val,{z' with D:=fun k=>z'.D k\/k=0},rfl,e1,?_,fun k hk=> ?_,?_,?_⟩
  ·exact⟨e3.os,e3.tape,e3.output,e3.size,e3.block,e3.subM,e3.subC,e3.keepM,e3.ext,rfl⟩
  ·rcases hk with hk|hk
   ·rw[e3.dom] at hk;exact absurd hk (hD k)
   grind[aJ]
  ·have:=e2.forget (a:=0) hfb.1 (H2:=[(1,some ⟨false,.rows (ρr.t 9) u v⟩),(2,some ⟨false,.rows (ρr.t 9) u (l.take q++v++l.drop q)⟩)]) (fun j=>by
    simp only[aG];cases hb:Nat.beq 0 j with
    |false=>rfl
    |true=>
     have:j=0:=(ZCA hb).symm;subst this
     rfl) (fun j=>by
    simp only[aN];cases hb:Nat.beq 0 j with
    |false=>simp
    |true=>
     have:j=0:=(ZCA hb).symm;subst this
     rfl)
   exact this
  ·exact e4.less rfl rfl fun g h=>h
 have hok2:aN [(0,(none:Option Ent)),(1,some ⟨false,.rows (ρr.t 9) u v⟩)] 2=false/\2<aA:=⟨rfl,hfb.2.2⟩;have nD:∀k,¬z.D k:=hD;have h3len:(l.take q++v++l.drop q).length=l.length+v.length:=by simp;omega
 have hVS0:VS.length=v.length*u.cells:=V2;have hvz:∀(W:World),(∀x,W.cell? x=z.w.cell? x)->True:=fun _ _=>trivial;cases k1 with
 |slfV _ _ A hρ=>
  have hl:l=[]:=(hH.virt hg0 hρ).1;subst hl;obtain rfl:q=0:=by simpa using hql
  have hins:=cyZ (k:=u.cells) L z9 a9 (Zc:=zv.cells) rfl hi0 hs0 hzv A 0 0 g3 v.length c3 [] VS z.w hr0.1.1 (ZAL _) (by omega) (by simpa using hbig) (by have:=hr0.2;simpa using this) (by simp) V2 (fun _=>rfl) (fun a _ j x hx=>by simp at hx) hvs V3;refine hins.mono ?_;rintro en w' ⟨rfl,rfl⟩;generalize hG:grownCap z.w (0+v.length) 0 (ρr.t 9)=G at*;have hge:v.length<=G:=by rw[<-hG];have:=grownCap_ge z.w (0+v.length) 0 (ρr.t 9);omega
  have hGm:G<=maxLen:=by rw[<-hG];exact grownCap_le_maxLen _ _ _ _ (by unfold maxLen;omega)
  have hcs:(([]++VS).toArray++Builtin.zeroCells zv.cells (G-(0+v.length))).size=G*u.cells:=by
   rw[ZBY,size_zeroCells,hzl,ZBh,ZBK,V2,<-Nat.add_mul];congr 1;omega
  obtain⟨z',p1,p2,p3,p4⟩:=bgZ (z:=z) (w':=z.w.drew.alloc (.cells (([]++VS).toArray++Builtin.zeroCells zv.cells (G-(0+v.length))) (ρr.t 9))) (e:=ρr.t 9) (l:=([]:List u.den).take 0++v++([]:List u.den).drop 0) (hH.kill (ajZ hg0)) hok2 (nD 2)
   (heap_alloc_new z.w.drew _) (okR0 _) rfl ⟨rfl,ZBd _⟩ rfl (fun k hk=>heap_alloc_old z.w.drew _ hk) (by rw[hcs];simpa using ZAf _ hge) h0 (by
    have:(([]:List u.den).take 0++v++([]:List u.den).drop 0)=v:=by simp
    rw[this];refine V1.eq fun j hj=> ?_;rw[ZCU,ZAT (by simp;omega)];simp)
  exact fin _ _ z' p1 p2 p3 (.slf _ _ _ _ (0+v.length) _ (by rw[p4];congr 1) (by simpa using hge) (by rw[hcs];exact ZAL _) hGm)
 |slf _ _ g sz n c hρ hn hs hm=>
 obtain⟨hlt,hC,_,cs,fr,a1,a2,a3,a4,a5,a6,a7⟩:=hH.real hg0 hρ;obtain rfl:l.length=n:=a4;have hne:g3≠g:=hH.inj 1 0 _ _ g3 sz3 _ g sz _ (by decide) (by rw[aqZ hfb.2.1];exact hg1) (by rw[aqZ hfb.1];exact hg0) rfl rfl hρ3 hρ fun h=>bSZ (by decide) h.1;have R1:bD z.w z.M z.ρ u l cs.toList:=fun i x hx=>by obtain⟨us,q1,q2⟩:=a7 i x hx;exact⟨us,q1,fun j v hj=>by simpa using q2 j v hj⟩
 obtain⟨S1,S2,S3⟩:=R1.cut (by rw[ZA8 (xs:=cs)];omega) h0;generalize hCS:cs.toList.take (l.length*u.cells)=CS at S1 S2 S3;have hcsj:∀j x,CS[j]? =some x->cs[j]? =some x:=fun j x hj=>by
  rw[<-hCS,ZAq] at hj;split at hj
  ·simpa using hj
  ·cases hj
 have hcell:∀j x,CS[j]? =some x->z.w.cell? ⟨g,j,none⟩=some x:=fun j x hj=>by rw[bzZ a1];exact hcsj j x hj
 have hcsl:∀j,j<l.length*u.cells->cs[j]? =CS[j]? :=fun j hj=>by rw[<-hCS,ZAq,ZAN hj];simp
 have hqk:q*u.cells<=l.length*u.cells:=ZAf _ hql;have RL:bD z.w z.M z.ρ u (l.take q++v++l.drop q) (CS.take (q*u.cells)++VS++CS.drop (q*u.cells)):=by
  refine bD.app (bD.app (S1.takeC q) ?_ V1) ?_ (S1.dropC q)
  ·rw[ZAS,ZAS,S2,ZBC hqk,ZBC hql]
  ·rw[ZAe,ZAe,ZAS,ZAS,S2,V2,ZBC hqk,ZBC hql,ZAr]
 have hL':(CS.take (q*u.cells)++VS++CS.drop (q*u.cells)).length=(l.length+v.length)*u.cells:=by
  rw[ZAe,ZAe,ZAS,ZAx,S2,V2,ZBC hqk,ZAr];omega
 have hdk:(CS.drop (q*u.cells)).length=(l.length-q)*u.cells:=by rw[ZAx,S2,ZCu]
 have hget3:∀j,(CS.take (q*u.cells)++VS++CS.drop (q*u.cells))[j]? =if j<q*u.cells then CS[j]? else if j<(q+v.length)*u.cells then VS[j-q*u.cells]? else CS[j-v.length*u.cells]? :=fun j=>by
  have e1:(CS.take (q*u.cells)).length=q*u.cells:=by rw[ZAS,S2];omega
  have e2:(CS.take (q*u.cells)++VS).length=(q+v.length)*u.cells:=by rw[ZAe,e1,V2,ZAr]
  have e3:(q+v.length)*u.cells=q*u.cells+v.length*u.cells:=ZAr _ _ _;by_cases h1:j<q*u.cells
  ·rw[ZAN h1,ZAT (by omega),ZAT (by omega),ZAq,ZAN h1]
  ·rw[ZAM h1];by_cases h2:j<(q+v.length)*u.cells
   ·rw[ZAN h2,ZAT (by omega),ZAV (by omega),e1]
   ·rw[ZAM h2,ZAV (by omega),e2,ZA4];congr 1;omega
 have eqv:(q+v.length)*u.cells=q*u.cells+v.length*u.cells:=ZAr _ _ _;have elv:(l.length+v.length)*u.cells=l.length*u.cells+v.length*u.cells:=ZAr _ _ _;have eqd:(l.length-q)*u.cells=l.length*u.cells-q*u.cells:=ZCu _ _ _;have hvk:0<v.length*u.cells:=Nat.mul_pos hr0.1.1 h0;by_cases hroom:l.length+v.length<=c
 ·
  have hfit:(l.length+v.length)*u.cells<=cs.size:=by
   have:(l.length+v.length)*u.cells<=c*u.cells:=ZAf _ hroom;omega
  have hth:=diZ (o:=0) (n:=(l.length+v.length)*u.cells) a1 a2.f (by omega);have hend:∀(w':World) (cs':Array Value),w'.heap[g]? =some (.cells cs' (ρr.t 9) fr)->cs'.size=cs.size->w'.os=z.w.os->(w'.tape=z.w.tape/\z.w.drawn<=w'.drawn)->w'.output=z.w.output->w'.heap.size=z.w.heap.size->(∀b,b≠g->w'.heap[b]? =z.w.heap[b]?)->
   (∀j,j<(l.length+v.length)*u.cells->cs'[j]? =(CS.take (q*u.cells)++VS++CS.drop (q*u.cells))[j]?)->
   ∃z',z'.w=w'/\aH z' [(0,none),(1,some ⟨false,.rows (ρr.t 9) u v⟩),(2,some ⟨false,.rows (ρr.t 9) u (l.take q++v++l.drop q)⟩)]/\Nx z z'/\aF z' (.slf u.cells 2) (.slice (some ⟨g,0,none⟩) (l.length+v.length) c):=fun w' cs' d1 d2 d3 d4 d5 d6 d7 d8=>by
   obtain⟨z',p1,p2,p3,p4⟩:=hH.move (id:=2) (n':=l.length+v.length) (b:=.rows (ρr.t 9) u (l.take q++v++l.drop q)) hg0 hρ hok2 (nD 2) d3 d4 d5 d6 d7 (fun z' hz kk=>by
    refine⟨cs',fr,by rw[hz];exact d1,eiZ a2 d2,by rw[d2];exact a3,h3len,by rw[h3len];omega,a6,fun i x hx=> ?_⟩;have hR:=(RL.eq (cs':=cs'.toList) fun j hj=>by rw[h3len] at hj;simpa using d8 j hj).kp kk;obtain⟨us,q1,q2⟩:=hR i x hx;exact⟨us,q1,fun j y hj=>by simpa using q2 j y hj⟩)
   exact⟨z',p1,p2,p3,.slf _ _ _ _ _ _ p4 hroom hs hm⟩
  by_cases hqn:q<l.length
  ·have hn0:l.length*u.cells≠0:=by have:=Nat.mul_pos (show 0<l.length by omega) h0;omega
   have hsh:∀{gg:Nat} {cc:Array Value} {ee:TypeId} {ff:Nat×Nat},z.w.heap[gg]? =some (.cells cc ee ff)->z.w.shape? gg=some (ee,cc.size):=fun h=>by unfold World.shape?;rw[h]
   have hfr3:∀o,z.w.frozen? ⟨g3,o,none⟩=false:=fun o=>by
    have hf:fr3.1=fr3.2:=by
     rcases b2 with h|h
     ·exact h
     ·exact absurd h.1 hub
    unfold World.frozen?;rw[b1];simp only[ZCG,ZBG];omega
   have hins:=jHZ (k:=u.cells) L h0 z9 a9 hsz g l.length c q g3 v.length c3 CS VS z.w hqn hr0.1.1 hroom (by unfold maxLen at hm;omega) hne S2 V2 hcell
    (fun j hj=>by have:=(hth j hj).1;simpa using this) (fun j hj=>by have:=(hth j hj).2;simpa using this) hvs S3 V3 _ _ _ _ (hsh b1) (hsh a1) (by omega) (hfr3 0) (hfr3 _)
   refine hins.mono ?_;rintro en w' ⟨rfl,rfl⟩;obtain⟨e1,e2,e3,e4⟩:=arZ (CS.drop (q*u.cells)) z.w.drew g ((q+v.length)*u.cells);obtain⟨f1,f2,f3,f4⟩:=arZ VS (z.w.drew.setCells g ((q+v.length)*u.cells) (CS.drop (q*u.cells))) g (q*u.cells);have hA:z.w.drew.heap[g]? =some (.cells cs (ρr.t 9) fr):=a1;obtain⟨z',y1,y2,y3,y4⟩:=hend _ (dC (dC cs ((q+v.length)*u.cells) (CS.drop (q*u.cells))) (q*u.cells) VS) (anZ _ _ _ _ _ _ _ (anZ _ _ _ _ _ _ _ hA)) (by rw[alZ,alZ])
    (f2.trans e2) ⟨f3.1.trans e3.1,ZBD (ZBD (ZBd _) e3.2) f3.2⟩ (f4.trans e4) (f1.trans e1) (fun b hb=>(amZ _ _ _ _ _ hb).trans (amZ _ _ _ _ _ hb)) (fun j hj=>by
     rw[hget3 j,auZ _ _ _ _ (by rw[alZ,V2];omega),V2,auZ _ _ _ _ (by rw[hdk];omega),hdk];by_cases c1:j<q*u.cells
     ·rw[ZAM (by omega),ZAM (by omega),ZAN c1];exact hcsl j (by omega)
     ·rw[ZAM c1];by_cases c2:j<(q+v.length)*u.cells
      ·rw[ZAN (by omega),ZAN c2]
      ·rw[ZAM (by omega),ZAN (by omega),ZAM c2,ZA4];congr 1;omega)
   exact fin _ _ z' y1 y2 y3 y4
  ·obtain rfl:q=l.length:=by omega
   have hins:=fpZ (k:=u.cells) L z9 a9 hi0 hs0 g l.length c g3 v.length c3 VS z.w hr0.1.1 hroom (by unfold maxLen at hm;omega) V2 (fun j hj=>by have:=(hth (l.length*u.cells+j) (by omega)).1;simpa using this) (fun j hj=>by have:=(hth (l.length*u.cells+j) (by omega)).2;simpa using this) hvs V3;refine hins.mono ?_;rintro en w' ⟨rfl,rfl⟩;obtain⟨e1,e2,e3,e4⟩:=arZ VS z.w g (l.length*u.cells);obtain⟨z',y1,y2,y3,y4⟩:=hend _ (dC cs (l.length*u.cells) VS) (anZ _ _ _ _ _ _ _ a1) (alZ _ _ _) e2 e3 e4 e1 (fun b hb=>amZ _ _ _ _ _ hb) (fun j hj=>by
    rw[hget3 j,auZ _ _ _ _ (by rw[V2];omega),V2];by_cases c1:j<l.length*u.cells
    ·rw[ZAM (by omega),ZAN c1];exact hcsl j c1
    ·rw[ZAM c1,ZAN (by omega),ZAN (by omega)])
   exact fin _ _ z' y1 y2 y3 y4
 ·
  have hroom':c<l.length+v.length:=by omega
  generalize hG:grownCap z.w (l.length+v.length) c (ρr.t 9)=G;have hge:l.length+v.length<=G:=by rw[<-hG];exact grownCap_ge _ _ _ _
  have hGm:G<=maxLen:=by rw[<-hG];exact grownCap_le_maxLen _ _ _ _ (by unfold maxLen;omega)
  have hgk:(l.length+v.length)*u.cells<=G*u.cells:=ZAf _ hge;have hend:∀(w':World) (cs':Array Value),w'.heap[z.w.heap.size]? =some (.cells cs' (ρr.t 9) (0,0))->cs'.size=G*u.cells->w'.os=z.w.os->(w'.tape=z.w.tape/\z.w.drawn<=w'.drawn)->w'.output=z.w.output->(∀b,b<z.w.heap.size->w'.heap[b]? =z.w.heap[b]?)->
   (∀j,j<(l.length+v.length)*u.cells->cs'[j]? =(CS.take (q*u.cells)++VS++CS.drop (q*u.cells))[j]?)->
   ∃z',z'.w=w'/\aH z' [(0,none),(1,some ⟨false,.rows (ρr.t 9) u v⟩),(2,some ⟨false,.rows (ρr.t 9) u (l.take q++v++l.drop q)⟩)]/\Nx z z'/\aF z' (.slf u.cells 2) (.slice (some ⟨z.w.heap.size,0,none⟩) (l.length+v.length) G):=fun w' cs' d1 d2 d3 d4 d5 d7 d8=>by
   obtain⟨z',p1,p2,p3,p4⟩:=bgZ (z:=z) (w':=w') (e:=ρr.t 9) (l:=l.take q++v++l.drop q) (hH.kill (ajZ hg0)) hok2 (nD 2) d1 (okR0 _) d3 d4 d5 d7 (by rw[h3len,d2];exact hgk) h0 (RL.eq (cs':=cs'.toList) fun j hj=>by rw[h3len] at hj;simpa using d8 j hj);exact⟨z',p1,p2,p3,.slf _ _ _ _ _ _ (by rw[p4,h3len]) hge (by rw[d2];exact ZAL _) hGm⟩
  by_cases hqn:q<l.length
  ·have hins:=m1Z (k:=u.cells) L h0 z9 a9 hsz (Zc:=zv.cells) rfl hi0 hs0 hzv hzl g l.length c q g3 v.length c3 CS VS z.w hqn hr0.1.1 hn hroom' hbig hr0.2 S2 V2 hcell hvs S3 V3;rw[hG] at hins;refine hins.mono ?_;rintro en w' ⟨rfl,rfl⟩;generalize hROW:(CS.take (q*u.cells)).toArray++Builtin.zeroCells zv.cells (l.length+v.length-q)++Builtin.zeroCells zv.cells (G-(l.length+v.length))=ROW;have hRs:ROW.size=G*u.cells:=by
    rw[<-hROW,ZBY,ZBY,size_zeroCells,size_zeroCells,hzl,ZBK,ZAS,S2,ZBC hqk,<-Nat.add_mul,<-Nat.add_mul];congr 1;omega
   have hR0:∀j,j<q*u.cells->ROW[j]? =CS[j]? :=fun j hj=>by
    have e1:(CS.take (q*u.cells)).length=q*u.cells:=by rw[ZAS,S2];omega
    rw[<-hROW,Array.append_assoc,ZBS (by rw[ZBK,e1];exact hj),ZCH,ZAq,ZAN hj]
   have hnew:(z.w.alloc (.cells ROW (ρr.t 9))).drew.heap[z.w.heap.size]? =some (.cells ROW (ρr.t 9) (0,0)):=heap_alloc_new z.w _;obtain⟨e1,e2,e3,e4⟩:=arZ VS (z.w.alloc (.cells ROW (ρr.t 9))).drew z.w.heap.size (q*u.cells);obtain⟨f1,f2,f3,f4⟩:=arZ (CS.drop (q*u.cells)) ((z.w.alloc (.cells ROW (ρr.t 9))).drew.setCells z.w.heap.size (q*u.cells) VS).drew z.w.heap.size ((q+v.length)*u.cells);obtain⟨z',y1,y2,y3,y4⟩:=hend (((z.w.alloc (.cells ROW (ρr.t 9))).drew.setCells z.w.heap.size (q*u.cells) VS).drew.setCells z.w.heap.size ((q+v.length)*u.cells) (CS.drop (q*u.cells))) (dC (dC ROW (q*u.cells) VS) ((q+v.length)*u.cells) (CS.drop (q*u.cells))) (anZ _ _ _ _ _ _ _ (show((z.w.alloc (.cells ROW (ρr.t 9))).drew.setCells z.w.heap.size (q*u.cells) VS).heap[z.w.heap.size]? =_ from anZ _ _ _ _ _ _ _ hnew)) (by rw[alZ,alZ,hRs])
    (f2.trans e2) ⟨f3.1.trans e3.1,ZBD (ZBD (ZBD (ZBd _) e3.2) (ZBd _)) f3.2⟩ (f4.trans e4) (fun b hb=>(amZ _ _ _ _ _ (by omega)).trans ((amZ _ _ _ _ _ (by omega)).trans (heap_alloc_old z.w _ hb))) (fun j hj=>by
     rw[hget3 j,auZ _ _ _ _ (by rw[alZ,hdk,hRs];omega),hdk,auZ _ _ _ _ (by rw[V2,hRs];omega),V2];by_cases c1:j<q*u.cells
     ·rw[ZAM (by omega),ZAM (by omega),ZAN c1];exact hR0 j c1
     ·rw[ZAM c1];by_cases c2:j<(q+v.length)*u.cells
      ·rw[ZAM (by omega),ZAN (by omega),ZAN c2]
      ·rw[ZAN (by omega),ZAM c2,ZA4];congr 1;omega)
   exact fin _ _ z' y1 y2 y3 y4
  ·obtain rfl:q=l.length:=by omega
   have hins:=cyZ (k:=u.cells) L z9 a9 (Zc:=zv.cells) rfl hi0 hs0 hzv (some ⟨g,0,none⟩) l.length c g3 v.length c3 CS VS z.w hr0.1.1 hn hroom' hbig hr0.2 S2 V2 (fun h=>by cases h) (fun a ha j x hx=>by cases ha;rw[Addr.add_lit,ZA5];exact hcell j x hx) hvs V3;rw[hG] at hins;refine hins.mono ?_;rintro en w' ⟨rfl,rfl⟩;have hcs:((CS++VS).toArray++Builtin.zeroCells zv.cells (G-(l.length+v.length))).size=G*u.cells:=by
    rw[ZBY,size_zeroCells,hzl,ZBK,ZAe,S2,V2,<-Nat.add_mul,<-Nat.add_mul];congr 1;omega
   obtain⟨z',y1,y2,y3,y4⟩:=hend _ _ (heap_alloc_new z.w.drew _) hcs rfl ⟨rfl,ZBd _⟩ rfl (fun b hb=>heap_alloc_old z.w.drew _ hb) (fun j hj=>by
    rw[ZBS (by rw[ZBK,ZAe,S2,V2];omega),ZCH];congr 1;rw[ZA0 (by omega),ZCa (by omega),ZAo])
   exact fin _ _ z' y1 y2 y3 y4
end
section
variable {P : Program} {ρr : Ren}
def KB(u fs:Ty)(by_:Nat)(t:Int×(List u.den×(List u.den×List (Nat×List fs.den)))):Option (List u.den×(List u.den×List (Nat×List fs.den))):=
 (bL t.1 t.2.1.length).bind fun q=>aP (Nat.blt 0 t.2.2.1.length&&Nat.ble ((t.2.1.length+t.2.2.1.length)*by_) bG&&Nat.ble (t.2.1.length+t.2.2.1.length) bG) (some (t.2.2.1,(t.2.1.take q++t.2.2.1++t.2.1.drop q,t.2.2.2)))
theorem gcZ(L:InsLay P ρr){u}{f}{fe}{fs}{by_}{ag}(h0:0<u.cells)(hub:u≠.byte)(z9:∀w,(Go.sizeOf (ρr.t 9)).run P w= .ok u.cells w)(a9:∀w,(isAgg (ρr.t 9)).run P w= .ok ag w)
 (hi9:(P.info? (ρr.t 9)).map (fun i=>(i.size,i.bytes,i.zero.map fun v=>v.cells.size))=some (u.cells,by_,some u.cells))
 (hent:∃fn c,P.funcs[ρr.f 22]? =some fn/\fn.body=some c/\(fn.name== "runtime.NumGoroutine")=false):
 dY P ⟨ρr.f 22,⟨.cons (.slf u.cells 0) (.cons (.p (.int .i64)) (.cons (.slf u.cells 1) .nil)),[(0,false,.rows (ρr.t 9) u),(1,false,.rows (ρr.t 9) u),(bB f,false,.fam fe fs)]⟩,[⟨.cons (.slf u.cells 2) .nil,[(1,false,.rows (ρr.t 9) u),(2,false,.rows (ρr.t 9) u),(bB f,false,.fam fe fs)]⟩],KB u fs by_⟩:=by
 refine dY.of hent fun t r hr z vals hH hv hD=> ?_;obtain⟨⟨qi,l,v,ms⟩,rfl⟩:∃t':Int×(List u.den×(List u.den×List (Nat×List fs.den))),t'=t:=⟨t,rfl⟩;have hfr:=bVZ f;have hr:KB u fs by_ (qi,(l,(v,ms)))=some r:=hr;unfold KB at hr;dsimp only at hr;obtain⟨q,hq,hr⟩:=ZAH.1 hr;obtain⟨hr0,hr⟩:=adZ.1 hr;simp only[ZAF,ZBX,ZAm,show bG=140737488355328 from rfl] at hr0;injection hr with hr;subst hr;have hH:aH z [(0,some ⟨false,.rows (ρr.t 9) u l⟩),(1,some ⟨false,.rows (ρr.t 9) u v⟩),(bB f,some ⟨false,.fam fe fs ms⟩)]:=hH;have hv:aR z [.slf u.cells 0,.p (.int .i64) qi,.slf u.cells 1] vals:=hv;obtain⟨v1,v2,v3,rfl,k1,k2,k3⟩:=tTZ hv;obtain rfl:=k2.v.int;have hqi:0<=qi/\qi<=l.length/\q=qi.toNat:=by
  unfold bL at hq;split at hq
  ·simp_all
  ·grind
 obtain rfl:qi=(q:Int):=by omega
 have hql:q<=l.length:=by omega
 have hg0:aG [(0,some (⟨false,.rows (ρr.t 9) u l⟩:Ent)),(1,some ⟨false,.rows (ρr.t 9) u v⟩),(bB f,some ⟨false,.fam fe fs ms⟩)] 0=some ⟨false,.rows (ρr.t 9) u l⟩:=rfl;have hg1:aG [(0,some (⟨false,.rows (ρr.t 9) u l⟩:Ent)),(1,some ⟨false,.rows (ρr.t 9) u v⟩),(bB f,some ⟨false,.fam fe fs ms⟩)] 1=some ⟨false,.rows (ρr.t 9) u v⟩:=rfl;obtain⟨i0,hi0,hi0'⟩:=ZAI.1 hi9;simp only[ZA3] at hi0';obtain⟨hs0,hby,hz0⟩:=hi0';obtain⟨zv,hzv,hzl⟩:=ZAI.1 hz0;have hsz:(P.info? (ρr.t 9)).map (·.size)=some u.cells:=by rw[hi0];simp[hs0]
 have hbig:(l.length+v.length)*i0.bytes<=140737488355328:=by rw[hby];exact hr0.1.2
 have hfb:(0:Nat)<aA/\(1:Nat)<aA/\(2:Nat)<aA:=by simp[aA]
 cases k3 with
 |slfV _ _ A hρ=>
  have:v=[]:=(hH.virt hg1 hρ).1
  simp_all
 |slf _ _ g3 sz3 m c3 hρ3 hn3 hs3 hm3=>
 obtain⟨hlt3,hC3,_,cs3,fr3,b1,b2,b3,b4,b5,b6,b7⟩:=hH.real hg1 hρ3;obtain rfl:v.length=m:=b4;have R3:bD z.w z.M z.ρ u v cs3.toList:=fun i x hx=>by grind
 obtain⟨V1,V2,V3⟩:=R3.cut (by grind) h0;generalize hVS:cs3.toList.take (v.length*u.cells)=VS at V1 V2 V3;have hvs:∀j x,VS[j]? =some x->z.w.cell? ⟨g3,j,none⟩=some x:=fun j x hj=>by
  grind[ZAq,bzZ]
 have htup:∀(z':Z) (x:Value),aF z' (.slf u.cells 2) x->aF z' (mD [.slf u.cells 2]) x:=fun z' x h=>h;have fin:∀(w':World) (val:Value) (z':Z),z'.w=w'->aH z' [(0,none),(1,some ⟨false,.rows (ρr.t 9) u v⟩),(bB f,some ⟨false,.fam fe fs ms⟩),(2,some ⟨false,.rows (ρr.t 9) u (l.take q++v++l.drop q)⟩)]->Nx z z'->aF z' (.slf u.cells 2) val->
  ∃vv z'',Ending.returned val= .returned vv/\z''.w=w'/\Nx z {z'' with D:=z.D}/\(∀k,z''.D k->k∈aJ [(0,false,BKd.rows (ρr.t 9) u),(1,false,BKd.rows (ρr.t 9) u),(bB f,false,BKd.fam fe fs)])/\
   cP.on [⟨.cons (.slf u.cells 2) .nil,[(1,false,.rows (ρr.t 9) u),(2,false,.rows (ρr.t 9) u),(bB f,false,.fam fe fs)]⟩] (v,(l.take q++v++l.drop q,ms)) fun o x=>aH z'' (o.emb x).2/\aF z'' (mD (o.emb x).1) vv:=fun w' val z' e1 e2 e3 e4=>by
  refine⟨val,{z' with D:=fun k=>z'.D k\/k=0},rfl,e1,?_,fun k hk=> ?_,?_,?_⟩
  ·exact⟨e3.os,e3.tape,e3.output,e3.size,e3.block,e3.subM,e3.subC,e3.keepM,e3.ext,rfl⟩
  ·rcases hk with hk|hk
   ·rw[e3.dom] at hk;exact absurd hk (hD k)
   grind[aJ]
  ·have hne2:bB f≠0/\bB f≠2:=by omega
   refine e2.forget (a:=0) hfb.1 (H2:=[(1,some ⟨false,.rows (ρr.t 9) u v⟩),(2,some ⟨false,.rows (ρr.t 9) u (l.take q++v++l.drop q)⟩),(bB f,some ⟨false,.fam fe fs ms⟩)]) (fun j=> ?_) (fun j=> ?_)
   ·simp only[aG];by_cases h0:j=0
    ·subst h0;simp[ahZ hne2.1,show Nat.beq 1 0=false from rfl,show Nat.beq 2 0=false from rfl,show Nat.beq 1 2=false from rfl,show Nat.beq 0 2=false from rfl]
    by_cases h2:j=2
    ·subst h2;simp[ahZ hne2.2,show Nat.beq 1 0=false from rfl,show Nat.beq 2 0=false from rfl,show Nat.beq 1 2=false from rfl,show Nat.beq 0 2=false from rfl]
    simp[ahZ (ZBf h0),ahZ (ZBf h2)]
   ·simp only[aN];by_cases h0:j=0
    ·subst h0;simp[ahZ hne2.1,show Nat.beq 1 0=false from rfl,show Nat.beq 2 0=false from rfl,show Nat.beq 1 2=false from rfl,show Nat.beq 0 2=false from rfl]
    by_cases h2:j=2
    ·subst h2;simp[ahZ hne2.2,show Nat.beq 1 0=false from rfl,show Nat.beq 2 0=false from rfl,show Nat.beq 1 2=false from rfl,show Nat.beq 0 2=false from rfl]
    simp[ahZ (ZBf h0),ahZ (ZBf h2)]
  ·exact e4.less rfl rfl fun g h=>h
 have hok2:aN [(0,(none:Option Ent)),(1,some ⟨false,.rows (ρr.t 9) u v⟩),(bB f,some ⟨false,.fam fe fs ms⟩)] 2=false/\2<aA:=⟨by simp[aN,ahZ (show bB f≠2 by omega),show Nat.beq 1 0=false from rfl,show Nat.beq 2 0=false from rfl,show Nat.beq 1 2=false from rfl,show Nat.beq 0 2=false from rfl],hfb.2.2⟩;have nD:∀k,¬z.D k:=hD;have hse:∀x:Option Ent,aS (aS [(0,some (⟨false,.rows (ρr.t 9) u l⟩:Ent)),(1,some ⟨false,.rows (ρr.t 9) u v⟩),(bB f,some ⟨false,.fam fe fs ms⟩)] 0 none) 2 x=[(0,none),(1,some ⟨false,.rows (ρr.t 9) u v⟩),(bB f,some ⟨false,.fam fe fs ms⟩),(2,x)]:=fun x=>by
  show aS [(0,none),(1,some ⟨false,.rows (ρr.t 9) u v⟩),(bB f,some ⟨false,.fam fe fs ms⟩)] 2 x=_;simp[aS,ahZ (show bB f≠2 by omega),show Nat.beq 1 0=false from rfl,show Nat.beq 2 0=false from rfl,show Nat.beq 1 2=false from rfl,show Nat.beq 0 2=false from rfl]
 have h3len:(l.take q++v++l.drop q).length=l.length+v.length:=by simp;omega
 have hVS0:VS.length=v.length*u.cells:=V2;have hvz:∀(W:World),(∀x,W.cell? x=z.w.cell? x)->True:=fun _ _=>trivial;cases k1 with
 |slfV _ _ A hρ=>
  have hl:l=[]:=(hH.virt hg0 hρ).1;subst hl;obtain rfl:q=0:=by simpa using hql
  have hins:=cyZ (k:=u.cells) L z9 a9 (Zc:=zv.cells) rfl hi0 hs0 hzv A 0 0 g3 v.length c3 [] VS z.w hr0.1.1 (ZAL _) (by omega) (by simpa using hbig) (by have:=hr0.2;simpa using this) (by simp) V2 (fun _=>rfl) (fun a _ j x hx=>by simp at hx) hvs V3;refine hins.mono ?_;rintro en w' ⟨rfl,rfl⟩;generalize hG:grownCap z.w (0+v.length) 0 (ρr.t 9)=G at*;have hge:v.length<=G:=by rw[<-hG];have:=grownCap_ge z.w (0+v.length) 0 (ρr.t 9);omega
  have hGm:G<=maxLen:=by rw[<-hG];exact grownCap_le_maxLen _ _ _ _ (by unfold maxLen;omega)
  have hcs:(([]++VS).toArray++Builtin.zeroCells zv.cells (G-(0+v.length))).size=G*u.cells:=by
   rw[ZBY,size_zeroCells,hzl,ZBh,ZBK,V2,<-Nat.add_mul];congr 1;omega
  obtain⟨z',p1,p2,p3,p4⟩:=bgZ (z:=z) (w':=z.w.drew.alloc (.cells (([]++VS).toArray++Builtin.zeroCells zv.cells (G-(0+v.length))) (ρr.t 9))) (e:=ρr.t 9) (l:=([]:List u.den).take 0++v++([]:List u.den).drop 0) (hH.kill (ajZ hg0)) hok2 (nD 2)
   (heap_alloc_new z.w.drew _) (okR0 _) rfl ⟨rfl,ZBd _⟩ rfl (fun k hk=>heap_alloc_old z.w.drew _ hk) (by rw[hcs];simpa using ZAf _ hge) h0 (by
    have:(([]:List u.den).take 0++v++([]:List u.den).drop 0)=v:=by simp
    rw[this];refine V1.eq fun j hj=> ?_;rw[ZCU,ZAT (by simp;omega)];simp)
  exact fin _ _ z' p1 (hse _▸p2) p3 (.slf _ _ _ _ (0+v.length) _ (by rw[p4];congr 1) (by simpa using hge) (by rw[hcs];exact ZAL _) hGm)
 |slf _ _ g sz n c hρ hn hs hm=>
 obtain⟨hlt,hC,_,cs,fr,a1,a2,a3,a4,a5,a6,a7⟩:=hH.real hg0 hρ;obtain rfl:l.length=n:=a4;have hne:g3≠g:=hH.inj 1 0 _ _ g3 sz3 _ g sz _ (by decide) (by rw[aqZ hfb.2.1];exact hg1) (by rw[aqZ hfb.1];exact hg0) rfl rfl hρ3 hρ fun h=>bSZ (by decide) h.1;have R1:bD z.w z.M z.ρ u l cs.toList:=fun i x hx=>by obtain⟨us,q1,q2⟩:=a7 i x hx;exact⟨us,q1,fun j v hj=>by simpa using q2 j v hj⟩
 obtain⟨S1,S2,S3⟩:=R1.cut (by rw[ZA8 (xs:=cs)];omega) h0;generalize hCS:cs.toList.take (l.length*u.cells)=CS at S1 S2 S3;have hcsj:∀j x,CS[j]? =some x->cs[j]? =some x:=fun j x hj=>by
  rw[<-hCS,ZAq] at hj;split at hj
  ·simpa using hj
  ·cases hj
 have hcell:∀j x,CS[j]? =some x->z.w.cell? ⟨g,j,none⟩=some x:=fun j x hj=>by rw[bzZ a1];exact hcsj j x hj
 have hcsl:∀j,j<l.length*u.cells->cs[j]? =CS[j]? :=fun j hj=>by rw[<-hCS,ZAq,ZAN hj];simp
 have hqk:q*u.cells<=l.length*u.cells:=ZAf _ hql;have RL:bD z.w z.M z.ρ u (l.take q++v++l.drop q) (CS.take (q*u.cells)++VS++CS.drop (q*u.cells)):=by
  refine bD.app (bD.app (S1.takeC q) ?_ V1) ?_ (S1.dropC q)
  ·rw[ZAS,ZAS,S2,ZBC hqk,ZBC hql]
  ·rw[ZAe,ZAe,ZAS,ZAS,S2,V2,ZBC hqk,ZBC hql,ZAr]
 have hL':(CS.take (q*u.cells)++VS++CS.drop (q*u.cells)).length=(l.length+v.length)*u.cells:=by
  rw[ZAe,ZAe,ZAS,ZAx,S2,V2,ZBC hqk,ZAr];omega
 have hdk:(CS.drop (q*u.cells)).length=(l.length-q)*u.cells:=by rw[ZAx,S2,ZCu]
 have hget3:∀j,(CS.take (q*u.cells)++VS++CS.drop (q*u.cells))[j]? =if j<q*u.cells then CS[j]? else if j<(q+v.length)*u.cells then VS[j-q*u.cells]? else CS[j-v.length*u.cells]? :=fun j=>by
  have e1:(CS.take (q*u.cells)).length=q*u.cells:=by rw[ZAS,S2];omega
  have e2:(CS.take (q*u.cells)++VS).length=(q+v.length)*u.cells:=by rw[ZAe,e1,V2,ZAr]
  have e3:(q+v.length)*u.cells=q*u.cells+v.length*u.cells:=ZAr _ _ _;by_cases h1:j<q*u.cells
  ·rw[ZAN h1,ZAT (by omega),ZAT (by omega),ZAq,ZAN h1]
  ·rw[ZAM h1];by_cases h2:j<(q+v.length)*u.cells
   ·rw[ZAN h2,ZAT (by omega),ZAV (by omega),e1]
   ·rw[ZAM h2,ZAV (by omega),e2,ZA4];congr 1;omega
 have eqv:(q+v.length)*u.cells=q*u.cells+v.length*u.cells:=ZAr _ _ _;have elv:(l.length+v.length)*u.cells=l.length*u.cells+v.length*u.cells:=ZAr _ _ _;have eqd:(l.length-q)*u.cells=l.length*u.cells-q*u.cells:=ZCu _ _ _;have hvk:0<v.length*u.cells:=Nat.mul_pos hr0.1.1 h0;by_cases hroom:l.length+v.length<=c
 ·
  have hfit:(l.length+v.length)*u.cells<=cs.size:=by
   have:(l.length+v.length)*u.cells<=c*u.cells:=ZAf _ hroom;omega
  have hth:=diZ (o:=0) (n:=(l.length+v.length)*u.cells) a1 a2.f (by omega);have hend:∀(w':World) (cs':Array Value),w'.heap[g]? =some (.cells cs' (ρr.t 9) fr)->cs'.size=cs.size->w'.os=z.w.os->(w'.tape=z.w.tape/\z.w.drawn<=w'.drawn)->w'.output=z.w.output->w'.heap.size=z.w.heap.size->(∀b,b≠g->w'.heap[b]? =z.w.heap[b]?)->
   (∀j,j<(l.length+v.length)*u.cells->cs'[j]? =(CS.take (q*u.cells)++VS++CS.drop (q*u.cells))[j]?)->
   ∃z',z'.w=w'/\aH z' [(0,none),(1,some ⟨false,.rows (ρr.t 9) u v⟩),(bB f,some ⟨false,.fam fe fs ms⟩),(2,some ⟨false,.rows (ρr.t 9) u (l.take q++v++l.drop q)⟩)]/\Nx z z'/\aF z' (.slf u.cells 2) (.slice (some ⟨g,0,none⟩) (l.length+v.length) c):=fun w' cs' d1 d2 d3 d4 d5 d6 d7 d8=>by
   obtain⟨z',p1,p2,p3,p4⟩:=hH.move (id:=2) (n':=l.length+v.length) (b:=.rows (ρr.t 9) u (l.take q++v++l.drop q)) hg0 hρ hok2 (nD 2) d3 d4 d5 d6 d7 (fun z' hz kk=>by
    refine⟨cs',fr,by rw[hz];exact d1,eiZ a2 d2,by rw[d2];exact a3,h3len,by rw[h3len];omega,a6,fun i x hx=> ?_⟩;have hR:=(RL.eq (cs':=cs'.toList) fun j hj=>by rw[h3len] at hj;simpa using d8 j hj).kp kk;obtain⟨us,q1,q2⟩:=hR i x hx;exact⟨us,q1,fun j y hj=>by simpa using q2 j y hj⟩)
   exact⟨z',p1,hse _▸p2,p3,.slf _ _ _ _ _ _ p4 hroom hs hm⟩
  by_cases hqn:q<l.length
  ·have hn0:l.length*u.cells≠0:=by have:=Nat.mul_pos (show 0<l.length by omega) h0;omega
   have hsh:∀{gg:Nat} {cc:Array Value} {ee:TypeId} {ff:Nat×Nat},z.w.heap[gg]? =some (.cells cc ee ff)->z.w.shape? gg=some (ee,cc.size):=fun h=>by unfold World.shape?;rw[h]
   have hfr3:∀o,z.w.frozen? ⟨g3,o,none⟩=false:=fun o=>by
    have hf:fr3.1=fr3.2:=by
     rcases b2 with h|h
     ·exact h
     ·exact absurd h.1 hub
    unfold World.frozen?;rw[b1];simp only[ZCG,ZBG];omega
   have hins:=jHZ (k:=u.cells) L h0 z9 a9 hsz g l.length c q g3 v.length c3 CS VS z.w hqn hr0.1.1 hroom (by unfold maxLen at hm;omega) hne S2 V2 hcell
    (fun j hj=>by have:=(hth j hj).1;simpa using this) (fun j hj=>by have:=(hth j hj).2;simpa using this) hvs S3 V3 _ _ _ _ (hsh b1) (hsh a1) (by omega) (hfr3 0) (hfr3 _)
   refine hins.mono ?_;rintro en w' ⟨rfl,rfl⟩;obtain⟨e1,e2,e3,e4⟩:=arZ (CS.drop (q*u.cells)) z.w.drew g ((q+v.length)*u.cells);obtain⟨f1,f2,f3,f4⟩:=arZ VS (z.w.drew.setCells g ((q+v.length)*u.cells) (CS.drop (q*u.cells))) g (q*u.cells);have hA:z.w.drew.heap[g]? =some (.cells cs (ρr.t 9) fr):=a1;obtain⟨z',y1,y2,y3,y4⟩:=hend _ (dC (dC cs ((q+v.length)*u.cells) (CS.drop (q*u.cells))) (q*u.cells) VS) (anZ _ _ _ _ _ _ _ (anZ _ _ _ _ _ _ _ hA)) (by rw[alZ,alZ])
    (f2.trans e2) ⟨f3.1.trans e3.1,ZBD (ZBD (ZBd _) e3.2) f3.2⟩ (f4.trans e4) (f1.trans e1) (fun b hb=>(amZ _ _ _ _ _ hb).trans (amZ _ _ _ _ _ hb)) (fun j hj=>by
     rw[hget3 j,auZ _ _ _ _ (by rw[alZ,V2];omega),V2,auZ _ _ _ _ (by rw[hdk];omega),hdk];by_cases c1:j<q*u.cells
     ·rw[ZAM (by omega),ZAM (by omega),ZAN c1];exact hcsl j (by omega)
     ·rw[ZAM c1];by_cases c2:j<(q+v.length)*u.cells
      ·rw[ZAN (by omega),ZAN c2]
      ·rw[ZAM (by omega),ZAN (by omega),ZAM c2,ZA4];congr 1;omega)
   exact fin _ _ z' y1 y2 y3 y4
  ·obtain rfl:q=l.length:=by omega
   have hins:=fpZ (k:=u.cells) L z9 a9 hi0 hs0 g l.length c g3 v.length c3 VS z.w hr0.1.1 hroom (by unfold maxLen at hm;omega) V2 (fun j hj=>by have:=(hth (l.length*u.cells+j) (by omega)).1;simpa using this) (fun j hj=>by have:=(hth (l.length*u.cells+j) (by omega)).2;simpa using this) hvs V3;refine hins.mono ?_;rintro en w' ⟨rfl,rfl⟩;obtain⟨e1,e2,e3,e4⟩:=arZ VS z.w g (l.length*u.cells);obtain⟨z',y1,y2,y3,y4⟩:=hend _ (dC cs (l.length*u.cells) VS) (anZ _ _ _ _ _ _ _ a1) (alZ _ _ _) e2 e3 e4 e1 (fun b hb=>amZ _ _ _ _ _ hb) (fun j hj=>by
    rw[hget3 j,auZ _ _ _ _ (by rw[V2];omega),V2];by_cases c1:j<l.length*u.cells
    ·rw[ZAM (by omega),ZAN c1];exact hcsl j c1
    ·rw[ZAM c1,ZAN (by omega),ZAN (by omega)])
   exact fin _ _ z' y1 y2 y3 y4
 ·
  have hroom':c<l.length+v.length:=by omega
  generalize hG:grownCap z.w (l.length+v.length) c (ρr.t 9)=G;have hge:l.length+v.length<=G:=by rw[<-hG];exact grownCap_ge _ _ _ _
  have hGm:G<=maxLen:=by rw[<-hG];exact grownCap_le_maxLen _ _ _ _ (by unfold maxLen;omega)
  have hgk:(l.length+v.length)*u.cells<=G*u.cells:=ZAf _ hge;have hend:∀(w':World) (cs':Array Value),w'.heap[z.w.heap.size]? =some (.cells cs' (ρr.t 9) (0,0))->cs'.size=G*u.cells->w'.os=z.w.os->(w'.tape=z.w.tape/\z.w.drawn<=w'.drawn)->w'.output=z.w.output->(∀b,b<z.w.heap.size->w'.heap[b]? =z.w.heap[b]?)->
   (∀j,j<(l.length+v.length)*u.cells->cs'[j]? =(CS.take (q*u.cells)++VS++CS.drop (q*u.cells))[j]?)->
   ∃z',z'.w=w'/\aH z' [(0,none),(1,some ⟨false,.rows (ρr.t 9) u v⟩),(bB f,some ⟨false,.fam fe fs ms⟩),(2,some ⟨false,.rows (ρr.t 9) u (l.take q++v++l.drop q)⟩)]/\Nx z z'/\aF z' (.slf u.cells 2) (.slice (some ⟨z.w.heap.size,0,none⟩) (l.length+v.length) G):=fun w' cs' d1 d2 d3 d4 d5 d7 d8=>by
   obtain⟨z',p1,p2,p3,p4⟩:=bgZ (z:=z) (w':=w') (e:=ρr.t 9) (l:=l.take q++v++l.drop q) (hH.kill (ajZ hg0)) hok2 (nD 2) d1 (okR0 _) d3 d4 d5 d7 (by rw[h3len,d2];exact hgk) h0 (RL.eq (cs':=cs'.toList) fun j hj=>by rw[h3len] at hj;simpa using d8 j hj);exact⟨z',p1,hse _▸p2,p3,.slf _ _ _ _ _ _ (by rw[p4,h3len]) hge (by rw[d2];exact ZAL _) hGm⟩
  by_cases hqn:q<l.length
  ·have hins:=m1Z (k:=u.cells) L h0 z9 a9 hsz (Zc:=zv.cells) rfl hi0 hs0 hzv hzl g l.length c q g3 v.length c3 CS VS z.w hqn hr0.1.1 hn hroom' hbig hr0.2 S2 V2 hcell hvs S3 V3;rw[hG] at hins;refine hins.mono ?_;rintro en w' ⟨rfl,rfl⟩;generalize hROW:(CS.take (q*u.cells)).toArray++Builtin.zeroCells zv.cells (l.length+v.length-q)++Builtin.zeroCells zv.cells (G-(l.length+v.length))=ROW;have hRs:ROW.size=G*u.cells:=by
    rw[<-hROW,ZBY,ZBY,size_zeroCells,size_zeroCells,hzl,ZBK,ZAS,S2,ZBC hqk,<-Nat.add_mul,<-Nat.add_mul];congr 1;omega
   have hR0:∀j,j<q*u.cells->ROW[j]? =CS[j]? :=fun j hj=>by
    have e1:(CS.take (q*u.cells)).length=q*u.cells:=by rw[ZAS,S2];omega
    rw[<-hROW,Array.append_assoc,ZBS (by rw[ZBK,e1];exact hj),ZCH,ZAq,ZAN hj]
   have hnew:(z.w.alloc (.cells ROW (ρr.t 9))).drew.heap[z.w.heap.size]? =some (.cells ROW (ρr.t 9) (0,0)):=heap_alloc_new z.w _;obtain⟨e1,e2,e3,e4⟩:=arZ VS (z.w.alloc (.cells ROW (ρr.t 9))).drew z.w.heap.size (q*u.cells);obtain⟨f1,f2,f3,f4⟩:=arZ (CS.drop (q*u.cells)) ((z.w.alloc (.cells ROW (ρr.t 9))).drew.setCells z.w.heap.size (q*u.cells) VS).drew z.w.heap.size ((q+v.length)*u.cells);obtain⟨z',y1,y2,y3,y4⟩:=hend (((z.w.alloc (.cells ROW (ρr.t 9))).drew.setCells z.w.heap.size (q*u.cells) VS).drew.setCells z.w.heap.size ((q+v.length)*u.cells) (CS.drop (q*u.cells))) (dC (dC ROW (q*u.cells) VS) ((q+v.length)*u.cells) (CS.drop (q*u.cells))) (anZ _ _ _ _ _ _ _ (show((z.w.alloc (.cells ROW (ρr.t 9))).drew.setCells z.w.heap.size (q*u.cells) VS).heap[z.w.heap.size]? =_ from anZ _ _ _ _ _ _ _ hnew)) (by rw[alZ,alZ,hRs])
    (f2.trans e2) ⟨f3.1.trans e3.1,ZBD (ZBD (ZBD (ZBd _) e3.2) (ZBd _)) f3.2⟩ (f4.trans e4) (fun b hb=>(amZ _ _ _ _ _ (by omega)).trans ((amZ _ _ _ _ _ (by omega)).trans (heap_alloc_old z.w _ hb))) (fun j hj=>by
     rw[hget3 j,auZ _ _ _ _ (by rw[alZ,hdk,hRs];omega),hdk,auZ _ _ _ _ (by rw[V2,hRs];omega),V2];by_cases c1:j<q*u.cells
     ·rw[ZAM (by omega),ZAM (by omega),ZAN c1];exact hR0 j c1
     ·rw[ZAM c1];by_cases c2:j<(q+v.length)*u.cells
      ·rw[ZAM (by omega),ZAN (by omega),ZAN c2]
      ·rw[ZAN (by omega),ZAM c2,ZA4];congr 1;omega)
   exact fin _ _ z' y1 y2 y3 y4
  ·obtain rfl:q=l.length:=by omega
   have hins:=cyZ (k:=u.cells) L z9 a9 (Zc:=zv.cells) rfl hi0 hs0 hzv (some ⟨g,0,none⟩) l.length c g3 v.length c3 CS VS z.w hr0.1.1 hn hroom' hbig hr0.2 S2 V2 (fun h=>by cases h) (fun a ha j x hx=>by cases ha;rw[Addr.add_lit,ZA5];exact hcell j x hx) hvs V3;rw[hG] at hins;refine hins.mono ?_;rintro en w' ⟨rfl,rfl⟩;have hcs:((CS++VS).toArray++Builtin.zeroCells zv.cells (G-(l.length+v.length))).size=G*u.cells:=by
    rw[ZBY,size_zeroCells,hzl,ZBK,ZAe,S2,V2,<-Nat.add_mul,<-Nat.add_mul];congr 1;omega
   obtain⟨z',y1,y2,y3,y4⟩:=hend _ _ (heap_alloc_new z.w.drew _) hcs rfl ⟨rfl,ZBd _⟩ rfl (fun b hb=>heap_alloc_old z.w.drew _ hb) (fun j hj=>by
    rw[ZBS (by rw[ZBK,ZAe,S2,V2];omega),ZCH];congr 1;rw[ZA0 (by omega),ZCa (by omega),ZAo])
   exact fin _ _ z' y1 y2 y3 y4
end
end Go.Ab
namespace Go.Proofs
open Go.Shelf Go.RowKit Go.Lib
structure DelLay (P:Program) (ρ:Ren):Prop where
 mixed:P.follows .mixedOrders=true
 f24:Bears P (ρ.f 24) (Body2.n24 ρ)
 t0:P.underlying (ρ.t 0)=some (TypeDesc.tuple #[])
 a0:∀w,(isAgg (ρ.t 0)).run P w= .ok false w
 z0:∀w,(Go.sizeOf (ρ.t 0)).run P w= .ok 1 w
 v0:∀w,(zeroValue (ρ.t 0)).run P w= .ok (Value.tuple #[]) w
 t3:P.underlying (ρ.t 3)=some (TypeDesc.int IntKind.i64)
 a3:∀w,(isAgg (ρ.t 3)).run P w= .ok false w
 z3:∀w,(Go.sizeOf (ρ.t 3)).run P w= .ok 1 w
 v3:∀w,(zeroValue (ρ.t 3)).run P w= .ok (Value.int IntKind.i64 0) w
 t4:P.underlying (ρ.t 4)=some (TypeDesc.bool)
 a4:∀w,(isAgg (ρ.t 4)).run P w= .ok false w
 z4:∀w,(Go.sizeOf (ρ.t 4)).run P w= .ok 1 w
 v4:∀w,(zeroValue (ρ.t 4)).run P w= .ok (Value.bool false) w
 t24:P.underlying (ρ.t 24)=some (TypeDesc.slice (ρ.t 9))
 a24:∀w,(isAgg (ρ.t 24)).run P w= .ok false w
 z24:∀w,(Go.sizeOf (ρ.t 24)).run P w= .ok 1 w
 v24:∀w,(zeroValue (ρ.t 24)).run P w= .ok (Value.slice none 0 0) w
variable {P : Program} {ρ : Ren}
theorem ldZ(w)(t e ty)(z)(k)(ht:P.underlying t=some (.slice e))(hv:∀w,(zeroValue e).run P w= .ok z w)(hz:z.cells.size=k)(hk:0<k)(h1:∀v∈z.cells,v.oneCell'=true)(b o n c)(hn:0<n)
 (hc:∀j,j<n*k->(w.cell? ⟨b,o+j,none⟩).isSome=true)(hf:∀j,j<n*k->w.frozen? ⟨b,o+j,none⟩=false):
 (Builtin.clear_ #[t] ty #[.slice (some ⟨b,o,none⟩) n c]).run P w= .ok (.tuple #[]) (w.setCells b o (Builtin.zeroCells z.cells n).toList):=by
 have hzs:(Builtin.zeroCells z.cells n).toList.length=n*k:=by rw[Array.length_toList,d3Z,hz]
 have hone:∀v∈(Builtin.zeroCells z.cells n).toList,v.oneCell'=true:=fun v hv'=>by
  obtain⟨j,hj⟩:=List.getElem?_of_mem hv';have hjl:=(List.getElem?_eq_some_iff.1 hj).1;have:v∈z.cells:=by
   rw[Array.getElem?_toList] at hj;simp only[Builtin.zeroCells,Array.getElem?_map,Option.map_eq_some_iff] at hj;obtain⟨q,_,rfl⟩:=hj;rw[getElem!_pos z.cells (q%z.cells.size) (Nat.mod_lt _ (by omega))];exact Array.getElem_mem _
  simp_all
 have hst:=run_storeCells_cells (P:=P) b o (Builtin.zeroCells z.cells n).toList 0 w (by simp_all) (by simp_all) hone;simp only[Nat.add_zero] at hst;obtain⟨m,rfl⟩:∃m,n=m+1:=⟨n-1,by omega⟩;simp[Builtin.clear_,run_underlying ht,hv,hst]
set_option maxHeartbeats 4000000 in
set_option maxRecDepth 100000 in
theorem wfZ(L:DelLay P ρ){k:Nat}(hk:0<k)(z9:∀w,(Go.sizeOf (ρ.t 9)).run P w= .ok k w){ag:Bool}(a9:∀w,(isAgg (ρ.t 9)).run P w= .ok ag w){zv:Value}{Z:List Value}(v9:∀w,(zeroValue (ρ.t 9)).run P w= .ok zv w)(hzl:zv.cells.size=k)(hz1:∀v∈zv.cells,v.oneCell'=true)
 {i0:TypeInfo}(hi0:P.info? (ρ.t 9)=some i0)(hs0:i0.size=k)(b n c i j:Nat)(cs:List Value)(w:World)(hij:i<j)(hj:j<=n)(hnc:n<=c)(hm:c<=9223372036854775807)(hZ:Z=(Builtin.zeroCells zv.cells (j-i)).toList)
 (hcl:cs.length=n*k)(hcs:∀j v,cs[j]? =some v->w.cell? ⟨b,j,none⟩=some v)(hf:∀j,j<n*k->w.frozen? ⟨b,j,none⟩=false)(h1c:∀v∈cs,v.oneCell'=true):
 Calls P (ρ.f 24) #[.slice (some ⟨b,0,none⟩) n c,.int .i64 i,.int .i64 j] w fun e w'=>e= .returned (.slice (some ⟨b,0,none⟩) (i+(n-j)) c)/\w'=(w.drew.setCells b (i*k) (cs.drop (j*k))).setCells b ((i+(n-j))*k) Z:=by
 have mixed:=L.mixed;have t0:=L.t0;have a0:=L.a0;have z0:=L.z0;have v0:=L.v0;have t3:=L.t3;have a3:=L.a3;have z3:=L.z3;have v3:=L.v3;have t4:=L.t4;have a4:=L.a4;have z4:=L.z4;have v4:=L.v4;have t24:=L.t24;have a24:=L.a24;have z24:=L.z24;have v24:=L.v24;have u0:=run_underlying L.t0;have u3:=run_underlying L.t3;have u4:=run_underlying L.t4;have u24:=run_underlying L.t24;have hic:i<=c:=by omega
 have hjc:j<=c:=by omega
 have hjk:j*k<=n*k:=Nat.mul_le_mul_right _ hj;have hlen:(cs.drop (j*k)).length=(n-j)*k:=by rw[List.length_drop,hcl,Nat.sub_mul]
 have hik:i*k+(n-j)*k<=n*k:=by rw[<-Nat.add_mul];exact Nat.mul_le_mul_right _ (by omega)
 have hsome:∀x,x<n*k->(w.cell? ⟨b,x,none⟩).isSome=true:=fun x hx=>by rw[hcs x _ (List.getElem?_eq_getElem (by omega))];rfl
 obtain⟨A,hA,hsrc⟩:∃A:Addr,(if c=j then some (⟨b,0,none⟩:Addr) else some ⟨b,j*k,none⟩)=some A/\Hid (∀t u,(cs.drop (j*k))[t]? =some u->w.drew.cell? (A.add t)=some u):=by
  by_cases h:c=j
  ·refine⟨⟨b,0,none⟩,by simp[h],fun t u hu=> ?_⟩;have h0:(cs.drop (j*k)).length=0:=by rw[hlen,show n-j=0 by omega,Nat.zero_mul]
   rw[List.length_eq_zero_iff.1 h0] at hu;simp at hu
  ·refine⟨⟨b,j*k,none⟩,by simp[h],fun t u hu=> ?_⟩;rw[List.getElem?_drop] at hu;rw[Addr.add_lit];exact hcs _ _ hu
 have s1:Hid ((cs.drop (j*k)).length=(n-j)*k):=hlen;have s2:Hid (∀u∈cs.drop (j*k),u.oneCell'=true):=fun u hu=>h1c u (List.mem_of_mem_drop hu);have s3:Hid (∀t,t<(cs.drop (j*k)).length->(w.drew.cell? ⟨b,0+i*k+t,none⟩).isSome=true/\w.drew.frozen? ⟨b,0+i*k+t,none⟩=false):=fun t ht=>by
  rw[hlen] at ht;rw[Nat.zero_add];exact⟨hsome _ (by omega),hf _ (by omega)⟩
 obtain⟨W1,hW1⟩:∃W1,W1=w.drew.setCells b (i*k) (cs.drop (j*k)):=⟨_,rfl⟩;have hin:(i+(n-j))*k+(n-(i+(n-j)))*k=n*k:=by rw[<-Nat.add_mul];congr 1;omega
 have hcl2:∀ty,(Builtin.clear_ #[ρ.t 24] ty #[.slice (some ⟨b,(i+(n-j))*k,none⟩) (n-(i+(n-j))) (c-(i+(n-j)))]).run P W1= .ok (.tuple #[]) (W1.setCells b ((i+(n-j))*k) Z):=fun ty=>by
  have:=ldZ W1 (ρ.t 24) (ρ.t 9) ty zv k t24 v9 hzl hk hz1 b ((i+(n-j))*k) (n-(i+(n-j))) (c-(i+(n-j))) (by omega) (fun t ht=>by
   rw[hW1];exact isSome_setCells b (cs.drop (j*k)) (i*k) w.drew (fun q hq=>hsome _ (by rw[hlen] at hq;omega)) _ (hsome _ (by omega))) (fun t ht=>by rw[hW1,World.frozen?_setCells];exact hf _ (by omega))
  rw[hZ,show j-i=n-(i+(n-j)) by omega];exact this
 have hW:Hid (W1=w.drew.setCells b (0+i*k) (cs.drop (j*k))):=by rw[Nat.zero_add];exact hW1
 clear hsome hcs hf hlen hcl hZ;rw[<-hW1];clear hW1;obtain⟨nm,hnm9,F24⟩:=L.f24
 go_enter F24,Body2.n24_ntmps ρ
 go_wp2_with fail
 go_region_law_o (refine step_append_room rfl (.tmp 22) (.tmp 25) (ρ.t 24) rfl (ρ.t 9) i0 k t24 hi0 hs0 b 0 i c (by simp[Act.eval,Act.put]) A (n-j) (c-j) (cs.drop (j*k)) (by simp[Act.eval,Act.put]) s1.out hsrc.out s2.out (by omega) s3.out ?_;rw[<-hW.out])
 go_wp2
 go_ret
 exact⟨rfl,rfl⟩
end Go.Proofs
namespace Go.Ab
open Go.Proofs Go.Shelf
def KC(u:Ty)(t:Int×(Int×List u.den)):Option (List u.den):=
 (bL t.2.1 t.2.2.length).bind fun j=>(bL t.1 j).bind fun i=>aP (Nat.blt i j) (some (t.2.2.take i++t.2.2.drop j))
theorem mAZ{i}{n q}(h:bL i n=some q):i=(q:Int)/\q<=n:=by
 grind[bL]
section
variable {P : Program} {ρr : Ren}
theorem lTZ(L:DelLay P ρr){u}{ag}{zv}(h0:0<u.cells)(z9:∀w,(Go.sizeOf (ρr.t 9)).run P w= .ok u.cells w)(a9:∀w,(isAgg (ρr.t 9)).run P w= .ok ag w)(v9:∀w,(zeroValue (ρr.t 9)).run P w= .ok zv w)
 (hzl:zv.cells.size=u.cells)(hz1:∀v∈zv.cells,v.oneCell'=true)(hsz:(P.info? (ρr.t 9)).map (·.size)=some u.cells)
 (hent:∃fn c,P.funcs[ρr.f 24]? =some fn/\fn.body=some c/\(fn.name== "runtime.NumGoroutine")=false):
 dY P ⟨ρr.f 24,⟨.cons (.slf u.cells 0) (.cons (.p (.int .i64)) (.cons (.p (.int .i64)) .nil)),[(0,false,.rows (ρr.t 9) u)]⟩,[⟨.cons (.slf u.cells 1) .nil,[(1,false,.rows (ρr.t 9) u)]⟩],KC u⟩:=by
 refine dY.of hent fun t r hr z vals hH hv hD=> ?_;obtain⟨⟨ii,jj,l⟩,rfl⟩:∃t':Int×(Int×List u.den),t'=t:=⟨t,rfl⟩;have hr:KC u (ii,(jj,l))=some r:=hr;unfold KC at hr;dsimp only at hr;obtain⟨j,hj,hr⟩:=ZAH.1 hr;obtain⟨i,hi,hr⟩:=ZAH.1 hr;obtain⟨hij,hr⟩:=adZ.1 hr;rw[ZBX] at hij;injection hr with hr;subst hr;have hH:aH z [(0,some ⟨false,.rows (ρr.t 9) u l⟩)]:=hH;have hv:aR z [.slf u.cells 0,.p (.int .i64) ii,.p (.int .i64) jj] vals:=hv;obtain⟨v1,v2,v3,rfl,k1,k2,k3⟩:=tTZ hv;obtain rfl:=k2.v.int;obtain rfl:=k3.v.int;obtain⟨rfl,hjl⟩:=mAZ hj;obtain⟨rfl,hile⟩:=mAZ hi;have hg0:aG [(0,some (⟨false,.rows (ρr.t 9) u l⟩:Ent))] 0=some ⟨false,.rows (ρr.t 9) u l⟩:=rfl;obtain⟨i0,hi0,hs0⟩:=ZAI.1 hsz;have hfb:(0:Nat)<aA/\(1:Nat)<aA:=by simp[aA]
 have fin:∀(w':World) (val:Value) (z':Z),z'.w=w'->aH z' [(0,none),(1,some ⟨false,.rows (ρr.t 9) u (l.take i++l.drop j)⟩)]->Nx z z'->aF z' (.slf u.cells 1) val->
  ∃vv z'',Ending.returned val= .returned vv/\z''.w=w'/\Nx z {z'' with D:=z.D}/\(∀k,z''.D k->k∈aJ [(0,false,BKd.rows (ρr.t 9) u)])/\
   cP.on [⟨.cons (.slf u.cells 1) .nil,[(1,false,.rows (ρr.t 9) u)]⟩] (l.take i++l.drop j) fun o x=>aH z'' (o.emb x).2/\aF z'' (mD (o.emb x).1) vv:=fun w' val z' e1 e2 e3 e4=>by
  refine⟨val,{z' with D:=fun k=>z'.D k\/k=0},rfl,e1,?_,fun k hk=> ?_,?_,?_⟩
  ·exact⟨e3.os,e3.tape,e3.output,e3.size,e3.block,e3.subM,e3.subC,e3.keepM,e3.ext,rfl⟩
  ·rcases hk with hk|hk
   ·rw[e3.dom] at hk;exact absurd hk (hD k)
   simp_all[aJ]
  ·refine e2.forget (a:=0) hfb.1 (H2:=[(1,some ⟨false,.rows (ρr.t 9) u (l.take i++l.drop j)⟩)]) (fun q=> ?_) (fun q=> ?_)
   ·simp only[aG];cases hb:Nat.beq 0 q with
    |false=>rfl
    |true=>
     have:q=0:=(ZCA hb).symm;subst this
     rfl
   grind[aN,Nat.beq,ZCA]
  ·exact e4.less rfl rfl fun g h=>h
 have hok2:aN (aS [(0,some (⟨false,.rows (ρr.t 9) u l⟩:Ent))] 0 none) 1=false/\1<aA:=⟨rfl,hfb.2⟩;have nD:∀k,¬z.D k:=hD;cases k1 with
 |slfV _ _ A hρ=>
  have hl:l=[]:=(hH.virt hg0 hρ).1
  simp_all
 |slf _ _ g sz n c hρ hn hs hm=>
 obtain⟨hlt,hC,_,cs,fr,a1,a2,a3,a4,a5,a6,a7⟩:=hH.real hg0 hρ;obtain rfl:l.length=n:=a4;have R1:bD z.w z.M z.ρ u l cs.toList:=fun i x hx=>by obtain⟨us,q1,q2⟩:=a7 i x hx;exact⟨us,q1,fun j v hj=>by simpa using q2 j v hj⟩
 obtain⟨S1,S2,S3⟩:=R1.cut (by rw[ZA8 (xs:=cs)];omega) h0;generalize hCS:cs.toList.take (l.length*u.cells)=CS at S1 S2 S3;have hcsj:∀j x,CS[j]? =some x->cs[j]? =some x:=fun j x hj=>by
  rw[<-hCS,ZAq] at hj;split at hj
  ·simpa using hj
  ·cases hj
 have hcell:∀j x,CS[j]? =some x->z.w.cell? ⟨g,j,none⟩=some x:=fun j x hj=>by rw[bzZ a1];exact hcsj j x hj
 have hcsl:∀j,j<l.length*u.cells->cs[j]? =CS[j]? :=fun j hj=>by rw[<-hCS,ZAq,ZAN hj];simp
 have hth:=diZ (o:=0) (n:=l.length*u.cells) a1 a2.f (by omega);have hjk:j*u.cells<=l.length*u.cells:=ZAf _ hjl;have hik:i*u.cells<=l.length*u.cells:=ZAf _ (by omega);have RL:bD z.w z.M z.ρ u (l.take i++l.drop j) (CS.take (i*u.cells)++CS.drop (j*u.cells)):=by
  refine bD.app (S1.takeC i) ?_ (S1.dropC j);rw[ZAS,ZAS,S2,ZBC hik,ZBC (by omega)]
 have h3len:(l.take i++l.drop j).length=i+(l.length-j):=by simp;omega
 have hdk:(CS.drop (j*u.cells)).length=(l.length-j)*u.cells:=by rw[ZAx,S2,ZCu]
 have eil:(i+(l.length-j))*u.cells=i*u.cells+(l.length-j)*u.cells:=ZAr _ _ _;have ejl:(l.length-j)*u.cells=l.length*u.cells-j*u.cells:=ZCu _ _ _;have eij:(j-i)*u.cells=j*u.cells-i*u.cells:=ZCu _ _ _;have hijk:i*u.cells<=j*u.cells:=ZAf _ (by omega);generalize hZ:(Builtin.zeroCells zv.cells (j-i)).toList=ZC;have hZl:ZC.length=(j-i)*u.cells:=by rw[<-hZ,ZA8,size_zeroCells,hzl]
 have hd:=wfZ (k:=u.cells) L h0 z9 a9 v9 hzl hz1 hi0 hs0 g l.length c i j CS z.w hij hjl hn (by unfold maxLen at hm;omega) hZ.symm S2 hcell (fun j hj=>by have:=(hth j hj).2;simpa using this) S3;refine hd.mono ?_;rintro en w' ⟨rfl,rfl⟩;obtain⟨e1,e2,e3,e4⟩:=arZ (CS.drop (j*u.cells)) z.w.drew g (i*u.cells);obtain⟨f1,f2,f3,f4⟩:=arZ ZC (z.w.drew.setCells g (i*u.cells) (CS.drop (j*u.cells))) g ((i+(l.length-j))*u.cells);have hA:z.w.drew.heap[g]? =some (.cells cs (ρr.t 9) fr):=a1;have hB:=anZ ZC _ g ((i+(l.length-j))*u.cells) _ _ _ (anZ (CS.drop (j*u.cells)) _ g (i*u.cells) _ _ _ hA);have hBs:(dC (dC cs (i*u.cells) (CS.drop (j*u.cells))) ((i+(l.length-j))*u.cells) ZC).size=cs.size:=by rw[alZ,alZ]
 have hBg:∀q,q<(i+(l.length-j))*u.cells->(dC (dC cs (i*u.cells) (CS.drop (j*u.cells))) ((i+(l.length-j))*u.cells) ZC)[q]? =(CS.take (i*u.cells)++CS.drop (j*u.cells))[q]? :=fun q hq=>by
  have t1:(CS.take (i*u.cells)).length=i*u.cells:=by rw[ZAS,S2];omega
  rw[auZ _ _ _ _ (by rw[alZ,hZl];omega),hZl,ZAM (by omega),auZ _ _ _ _ (by rw[hdk];omega),hdk];by_cases c1:q<i*u.cells
  ·rw[ZAM (by omega),ZAT (by omega),ZAq,ZAN c1];exact hcsl q (by omega)
  ·rw[ZAN (by omega),ZAV (by omega),t1]
 generalize hWW:(z.w.drew.setCells g (i*u.cells) (CS.drop (j*u.cells))).setCells g ((i+(l.length-j))*u.cells) ZC=WW at*;generalize hCC:dC (dC cs (i*u.cells) (CS.drop (j*u.cells))) ((i+(l.length-j))*u.cells) ZC=CC at*;obtain⟨z',p1,p2,p3,p4⟩:=hH.move (id:=1) (n':=i+(l.length-j)) (w':=WW) (b:=.rows (ρr.t 9) u (l.take i++l.drop j)) hg0 hρ hok2 (nD 1)
  (f2.trans e2) ⟨f3.1.trans e3.1,ZBD (ZBD (ZBd _) e3.2) f3.2⟩ (f4.trans e4) (f1.trans e1) (fun b hb=>by rw[<-hWW];exact(amZ _ _ _ _ _ hb).trans (amZ _ _ _ _ _ hb)) (fun z' hz kk=>by
   refine⟨CC,fr,by rw[hz];exact hB,eiZ a2 hBs,by rw[hBs];exact a3,h3len,by rw[h3len];omega,a6,fun q x hx=> ?_⟩;have hR:=(RL.eq (cs':=CC.toList) fun q hq=>by rw[h3len] at hq;simpa using hBg q hq).kp kk;obtain⟨us,q1,q2⟩:=hR q x hx;exact⟨us,q1,fun j y hj=>by simpa using q2 j y hj⟩)
 exact fin _ _ z' p1 p2 p3 (.slf _ _ _ _ _ _ p4 (by omega) hs hm)
end
end Go.Ab
namespace Go.Proofs
open Go.Shelf Go.RowKit Go.Lib
variable {P : Program} {ρ : Ren}
set_option maxHeartbeats 8000000 in
set_option maxRecDepth 1000000 in
theorem o4Z(L:Lays.n152 P ρ)(s:ByteArray)(r:Int)(w:World)(h:128<=r)(h3:r≠65533)(hv:Lib.validRune r=false):
 Calls P (ρ.f 152) #[.string s,.int .i32 r] w fun e w'=>e= .returned (.int .i64 (-1))/\w'=w:=by
 have mixed:=L.mixed;have t3:=L.t3;have a3:=L.a3;have z3:=L.z3;have v3:=L.v3;have t4:=L.t4;have a4:=L.a4;have z4:=L.z4;have v4:=L.v4;have t5:=L.t5;have a5:=L.a5;have z5:=L.z5;have v5:=L.v5;have t9:=L.t9;have a9:=L.a9;have z9:=L.z9;have v9:=L.v9;have t21:=L.t21;have a21:=L.a21;have z21:=L.z21;have v21:=L.v21;have e119:∀args w,(callFunc (ρ.f 119) args).run P w= .ok (.enter (ρ.f 119) args) w:=enters_of L.f119 (by kernel_rfl) rfl;have h0:(0:Int)<=r:=by omega
 have hd:¬(r<128):=by omega
 have hd':decide (r<128)=false:=decide_eq_false (by omega);have hq:(r==65533)=false:=beq_eq_false_iff_ne.2 h3
 go_enter L.f152,Body.n152_ntmps ρ
 go_wp2_with (go_at_fn (ρ.f 119);refine(Any.utf8_ValidRune {L with} _ _).mono ?_;rintro e w' ⟨rfl,hw⟩;rw[hw,hv])
 go_ret
 exact⟨rfl,rfl⟩
set_option maxHeartbeats 8000000 in
set_option maxRecDepth 1000000 in
theorem kHZ(L:Lays.n152 P ρ)(s:ByteArray)(w:World)(ha:∀(j:Nat) b,s.data.toList[j]? =some b->b.toNat<128):
 Calls P (ρ.f 152) #[.string s,.int .i32 65533] w fun e w'=>e= .returned (.int .i64 (-1))/\∃pos,w'=w.iter s pos:=by
 have HA:Aside (∀(j:Nat) b,s.data.toList[j]? =some b->b.toNat<128):=ha;clear ha;have mixed:=L.mixed;have t3:=L.t3;have a3:=L.a3;have z3:=L.z3;have v3:=L.v3;have t4:=L.t4;have a4:=L.a4;have z4:=L.z4;have v4:=L.v4;have t5:=L.t5;have a5:=L.a5;have z5:=L.z5;have v5:=L.v5;have t9:=L.t9;have a9:=L.a9;have z9:=L.z9;have v9:=L.v9;have t21:=L.t21;have a21:=L.a21;have z21:=L.z21;have v21:=L.v21
 go_enter L.f152,Body.n152_ntmps ρ
 go_wp2
 go_loopg [5,6] s.size (fun g _ _ wx=>∃i:Nat,i+g=s.size/\wx=w.iter s i)
 case atStart=>exact⟨0,by omega,rfl⟩
 case round=>
  obtain⟨i,hig,rfl⟩:=hrel;cases gk with
  |zero=>
   obtain rfl:i=s.size:=by omega
   have hnx:=run_next_end (P:=P) w s s.size
   go_wp2
   go_ret
   exact⟨rfl,_,rfl⟩
  |succ g=>
   have hi:i<s.size:=by omega
   obtain⟨x,hx⟩:∃x:UInt8,s[i]'hi=x:=⟨_,rfl⟩;have hx128:x.toNat<128:=HA.out i x (by rw[<-hx];exact Lib.data_getElem? s i hi);have hnx:=fun ty=>run_next_ascii (P:=P) w s i ty hi (by rw[hx];exact hx128);rw[hx] at hnx;clear hx;have hne:(((x.toNat:Nat):Int)==65533)=false:=beq_eq_false_iff_ne.2 (by omega)
   go_wp2
   go_roundg g
   case measure=>omega
   case rel=>exact⟨i+1,by omega,rfl⟩
set_option maxHeartbeats 8000000 in
set_option maxRecDepth 1000000 in
theorem iuZ(L:Lays.n152 P ρ)(s:ByteArray)(r:Int)(w:World)(h:128<=r)(h3:r≠65533)(hv:Lib.validRune r=true)(hs:s.size=2)(ha:∀(j:Nat) b,s.data.toList[j]? =some b->b.toNat<128)(hz:(Utf8.encode r).size≠2):
 Calls P (ρ.f 152) #[.string s,.int .i32 r] w fun e w'=>e= .returned (.int .i64 (-1))/\w'=w:=by
 have hval:Utf8.valid r=true:=by
  unfold Lib.validRune at hv;unfold Utf8.valid;simp at hv⊢;omega
 obtain⟨e1,e2,e3⟩:=encode_facts r hval h;have mixed:=L.mixed;have t3:=L.t3;have a3:=L.a3;have z3:=L.z3;have v3:=L.v3;have t4:=L.t4;have a4:=L.a4;have z4:=L.z4;have v4:=L.v4;have t5:=L.t5;have a5:=L.a5;have z5:=L.z5;have v5:=L.v5;have t9:=L.t9;have a9:=L.a9;have z9:=L.z9;have v9:=L.v9;have t21:=L.t21;have a21:=L.a21;have z21:=L.z21;have v21:=L.v21;have e119:∀args w,(callFunc (ρ.f 119) args).run P w= .ok (.enter (ρ.f 119) args) w:=enters_of L.f119 (by kernel_rfl) rfl;have h0:(0:Int)<=r:=by omega
 have hd:¬(r<128):=by omega
 have hd':decide (r<128)=false:=decide_eq_false (by omega);have hq:(r==65533)=false:=beq_eq_false_iff_ne.2 h3;have e137:∀args w,(callFunc (ρ.f 137) args).run P w= .ok (.enter (ρ.f 137) args) w:=enters_of L.f137 (by kernel_rfl) rfl;have hwr:wrap64 (((Utf8.encode r).size:Int)-1)=((Utf8.encode r).size:Int)-1:=by unfold wrap64;omega
 go_enter L.f152,Body.n152_ntmps ρ
 go_wp2_with (go_at_fn (ρ.f 119);refine(Any.utf8_ValidRune {L with} _ _).mono ?_;rintro e w' ⟨rfl,hw⟩;rw[hw,hv])
 go_step3
 go_wp2
 go_loopg [9] 1 (fun _ v9 wx=>v9= .int .i64 (((Utf8.encode r).size:Int)-1)/\wx=w)
 case atStart=>exact⟨rfl,rfl⟩
 case round=>
  obtain⟨rfl,rfl⟩:=hrel;have hlt:¬(((Utf8.encode r).size:Int)-1<(s.size:Int)):=by omega
  go_wp2
  go_ret
  exact⟨rfl,rfl⟩
set_option maxHeartbeats 8000000 in
set_option maxRecDepth 1000000 in
theorem itZ(L:Lays.n152 P ρ)(s:ByteArray)(r:Int)(w:World)(h:128<=r)(h3:r≠65533)(hv:Lib.validRune r=true)(hs:s.size=2)(ha:∀(j:Nat) b,s.data.toList[j]? =some b->b.toNat<128)(hz:(Utf8.encode r).size=2):
 Calls P (ρ.f 152) #[.string s,.int .i32 r] w fun e w'=>e= .returned (.int .i64 (-1))/\Below w.heap.size w w'/\w.drawn<=w'.drawn:=by
 have hval:Utf8.valid r=true:=by
  unfold Lib.validRune at hv;unfold Utf8.valid;simp at hv⊢;omega
 obtain⟨e1,e2,e3⟩:=encode_facts r hval h;have mixed:=L.mixed;have t3:=L.t3;have a3:=L.a3;have z3:=L.z3;have v3:=L.v3;have t4:=L.t4;have a4:=L.a4;have z4:=L.z4;have v4:=L.v4;have t5:=L.t5;have a5:=L.a5;have z5:=L.z5;have v5:=L.v5;have t9:=L.t9;have a9:=L.a9;have z9:=L.z9;have v9:=L.v9;have t21:=L.t21;have a21:=L.a21;have z21:=L.z21;have v21:=L.v21;have e119:∀args w,(callFunc (ρ.f 119) args).run P w= .ok (.enter (ρ.f 119) args) w:=enters_of L.f119 (by kernel_rfl) rfl;have h0:(0:Int)<=r:=by omega
 have hd:¬(r<128):=by omega
 have hd':decide (r<128)=false:=decide_eq_false (by omega);have hq:(r==65533)=false:=beq_eq_false_iff_ne.2 h3;have e137:∀args w,(callFunc (ρ.f 137) args).run P w= .ok (.enter (ρ.f 137) args) w:=enters_of L.f137 (by kernel_rfl) rfl;obtain⟨x,hx⟩:∃x:UInt8,s[1]'(by omega)=x:=⟨_,rfl⟩;have hx128:x.toNat<128:=ha 1 x (by rw[<-hx];exact Lib.data_getElem? s 1 (by omega));obtain⟨y,hy⟩:∃y:UInt8,(Utf8.encode r)[1]'(by omega)=y:=⟨_,rfl⟩;have hy128:128<=y.toNat:=by
  have:=e3 (by omega);simp only[hz] at this;rw[<-hy];exact this
 have hne:(((x.toNat:Nat):Int)==((y.toNat:Nat):Int))=false:=beq_eq_false_iff_ne.2 (by omega);clear ha e3 e1 e2;obtain⟨rs,hE⟩:∃rs,Utf8.encode r=rs:=⟨_,rfl⟩;simp only[hE] at hz hy
 go_enter L.f152,Body.n152_ntmps ρ
 go_wp2_with (go_at_fn (ρ.f 119);refine(Any.utf8_ValidRune {L with} _ _).mono ?_;rintro e w' ⟨rfl,hw⟩;rw[hw,hv])
 go_step3
 go_wp2
 go_loopg [9] 1 (fun _ v9 wx=>v9= .int .i64 1/\wx=w)
 case atStart=>exact⟨rfl,rfl⟩
 case round=>
  obtain⟨rfl,rfl⟩:=hrel
  go_wp2
  go_step3
  go_wp2
  go_region_o
  all_goals(
   go_wp2
   go_region_with_o (go_at_fn (ρ.f 137);refine(Any.strings_IndexByte {L with} _ _ _).mono ?_;rintro e w' ⟨rfl,hw⟩;rw[hw])
   all_goals(
    go_wp2
    simp only[Exit.noGoto_ret,go_sem]
    go_ret
    exact⟨rfl,((Below.refl _ _).drew).drew,Nat.le_add_right _ 2⟩))
def Fwd(w w':World):Prop:=Below w.heap.size w w'/\w.drawn<=w'.drawn
theorem Fwd.refl(w):Fwd w w:=⟨Below.refl _ _,Nat.le_refl _⟩
theorem Fwd.trans{a b c}(h:Fwd a b)(k:Fwd b c):Fwd a c:=⟨h.1.trans (k.1.mono h.1.size),Nat.le_trans h.2 k.2⟩
theorem Fwd.alloc(w)(o):Fwd w (w.alloc o):=⟨(Below.refl _ _).alloc (Nat.le_refl _) o,Nat.le_refl _⟩
theorem kTZ(L:Lays.n152 P ρ)(s)(r)(w)(h:128<=r)(hs:s.size=2)(ha:∀(j:Nat) b,s.data.toList[j]? =some b->b.toNat<128):
 Calls P (ρ.f 152) #[.string s,.int .i32 r] w fun e w'=>e= .returned (.int .i64 (-1))/\Fwd w w':=by
 by_cases h1:r=65533
 ·subst h1;exact(kHZ L s w ha).mono fun e w' ⟨e1,pos,e2⟩=>⟨e1,by rw[e2];exact Fwd.alloc _ _⟩
 ·cases hv:Lib.validRune r with
  |false=>exact(o4Z L s r w h h1 hv).mono fun e w' ⟨e1,e2⟩=>⟨e1,by simp_all[Fwd.refl]⟩
  |true=>
   by_cases hz:(Utf8.encode r).size=2
   ·exact(itZ L s r w h h1 hv hs ha hz).mono fun e w' ⟨e1,e2⟩=>⟨e1,e2⟩
   ·exact(iuZ L s r w h h1 hv hs ha hz).mono fun e w' ⟨e1,e2⟩=>⟨e1,by simp_all[Fwd.refl]⟩
def VY(A:Nat->Nat)(C:Nat->Bool):Nat×Nat:=
 if A 0<0x80 then(A 0,1)
 else if A 0/32==6&&C 1 then
  if(A 0%32)*64+A 1%64>=0x80 then((A 0%32)*64+A 1%64,2) else(Utf8.runeError,1)
 else if A 0/16==14&&C 1&&C 2 then
  if(A 0%16)*4096+(A 1%64)*64+A 2%64>=0x800&&Utf8.valid ((A 0%16)*4096+(A 1%64)*64+A 2%64:Nat) then((A 0%16)*4096+(A 1%64)*64+A 2%64,3) else(Utf8.runeError,1)
 else if A 0/8==30&&C 1&&C 2&&C 3 then
  if(A 0%8)*262144+(A 1%64)*4096+(A 2%64)*64+A 3%64>=0x10000&&Utf8.valid ((A 0%8)*262144+(A 1%64)*4096+(A 2%64)*64+A 3%64:Nat) then((A 0%8)*262144+(A 1%64)*4096+(A 2%64)*64+A 3%64,4) else(Utf8.runeError,1)
 else(Utf8.runeError,1)
theorem vVZ(s)(i):Utf8.decode s i=VY (fun k=>(s.get! (i+k)).toNat) (fun k=>i+k<s.size&&(s.get! (i+k)).toNat/64==2):=rfl
theorem rEZ(A)(C)(h:128<=A 0):∃c k,VY A C=(c,k)/\128<=c/\1<=k/\∀j,1<=j->j<k->C j=true:=by
 have e128:128<=Utf8.runeError:=by decide
 have one:∃c k,(Utf8.runeError,1)=(c,k)/\128<=c/\1<=k/\∀j,1<=j->j<k->C j=true:=⟨_,1,rfl,e128,Nat.le_refl _,fun j h1 h2=>by omega⟩;have hnl:¬A 0<128:=by omega
 unfold VY;rw[if_neg hnl];split
 ·grind
 ·split
  ·rename_i h;rw[Bool.and_eq_true,Bool.and_eq_true] at h;split
   ·rename_i hc;rw[Bool.and_eq_true,decide_eq_true_eq] at hc;refine⟨_,3,rfl,by omega,by omega,fun j h1 h2=> ?_⟩;have:j=1\/j=2:=by omega
    rcases this with rfl|rfl
    ·exact h.1.2
    ·exact h.2
   ·exact one
  grind
theorem txZ(s:ByteArray)(j)(hj:j<s.size):s.get! j=s[j]'hj:=by
 simp[ByteArray.get!,hj]
 rfl
theorem l8Z(s)(i)(hi)(hx:128<=(s[i]'hi).toNat):∃c k,Utf8.decode s i=(c,k)/\128<=c/\1<=k/\i+k<=s.size/\∀j (hj),i<=j->j<i+k->128<=(s[j]'hj).toNat:=by
 let⟨c,k,e1,e2,e3,e4⟩:=rEZ (fun k=>(s.get! (i+k)).toNat) (fun k=>i+k<s.size&&(s.get! (i+k)).toNat/64==2) (by
  simp_all[txZ])
 refine⟨c,k,e1,e2,e3,?_,fun j hj h1 h2=> ?_⟩
 ·by_cases hk:k=1
  ·omega
  ·have:=e4 (k-1) (by omega) (by omega)
   grind
 ·by_cases hji:j=i
  ·simp_all
  ·have:=e4 (j-i) (by omega) (by omega);rw[Bool.and_eq_true] at this;have h3:=this.2;have e:i+(j-i)=j:=by omega
   simp[e] at h3;rw[txZ s j hj] at h3
   grind
theorem run_next_at(W)(g)(s)(pos c k)(ty)(hg:W.heap[g]? =some (.stringIter s pos))(h:pos<s.size)(hd:Utf8.decode s pos=(c,k)):
 (Instr.next (.pointer (some ⟨g,0,none⟩)) true ty).run P W= .ok (.tuple #[.bool true,.int .i64 pos,.int .i32 c]) {W with heap:=W.heap.setIfInBounds g (.stringIter s (pos+k))}:=by
 simp[Instr.next,getObj,setObj,Sem.run,hg,h,hd];simp[goInt,hg]
theorem gGZ(W)(g)(s)(pos)(ty)(hg:W.heap[g]? =some (.stringIter s pos))(h:¬pos<s.size):
 (Instr.next (.pointer (some ⟨g,0,none⟩)) true ty).run P W= .ok (.tuple #[.bool false]) W:=by
 simp[Instr.next,getObj,Sem.run,hg,h]
variable {P : Program} {ρ : Ren}
theorem NoAny.skip{s chars}{i k}(h:Lib.NoAny s chars i)(hac:∀(j:Nat) b,chars[j]? =some b->b.toNat<128)(hk:∀j b,i<=j->j<i+k->s[j]? =some b->128<=b.toNat):Lib.NoAny s chars (i+k):=by
 have:∀n,n<=k->Lib.NoAny s chars (i+n):=by
  intro n;induction n with
  |zero=>intro _;exact h
  |succ n ih=>
   intro hn;have h1:=ih (by omega);cases hb:s[i+n]? with
   |none=>
    intro j b hj hb';by_cases hji:j<i+n
    ·exact h1 j b hji hb'
    ·have:j=i+n:=by omega
     subst this;rw[hb] at hb';cases hb'
   |some b=>
    refine h1.succ hb ?_;have hb8:=hk (i+n) b (by omega) (by omega) hb;cases hc:chars.contains b with
    |false=>rfl
    |true=>
     let⟨j,hj⟩:=List.getElem?_of_mem (List.contains_iff_mem.1 hc)
     have:=hac j b hj;omega
 simp_all
set_option maxHeartbeats 8000000 in
set_option maxRecDepth 1000000 in
theorem mhZ(L:Lays.n153 P ρ)(s chars:ByteArray)(w:World)(h2:chars.size=2)(h8:s.size<=8)(hac:∀(j:Nat) b,chars.data.toList[j]? =some b->b.toNat<128):
 Calls P (ρ.f 153) #[.string s,.string chars] w fun e w'=>e= .returned (.int .i64 (Lib.indexAny s.data.toList chars.data.toList))/\Fwd w w':=by
 have HA:Aside (∀(j:Nat) b,chars.data.toList[j]? =some b->b.toNat<128):=hac;clear hac;have hemp:chars.toList.isEmpty=false:=by
  rw[Lib.toList_data];cases h:chars.data.toList with
  |nil=>have:=Lib.size_eq chars;rw[h,List.length_nil] at this;omega
  |cons _ _=>rfl
 have hn1:((chars.size:Int)==1)=false:=beq_eq_false_iff_ne.2 (by omega);have h8z:decide ((8:Int)<(s.size:Int))=false:=decide_eq_false (by omega);have t3:=L.t3;have a3:=L.a3;have z3:=L.z3;have v3:=L.v3;have t4:=L.t4;have a4:=L.a4;have z4:=L.z4;have v4:=L.v4;have t5:=L.t5;have a5:=L.a5;have z5:=L.z5;have v5:=L.v5;have t9:=L.t9;have a9:=L.a9;have z9:=L.z9;have v9:=L.v9;have t21:=L.t21;have a21:=L.a21;have z21:=L.z21;have v21:=L.v21;have e152:∀args w,(callFunc (ρ.f 152) args).run P w= .ok (.enter (ρ.f 152) args) w:=enters_of L.f152 (by kernel_rfl) rfl;have e226:∀args w,(callFunc (ρ.f 226) args).run P w= .ok (.enter (ρ.f 226) args) w:=enters_of L.f226 (by kernel_rfl) rfl
 go_enter L.f153,Body.n153_ntmps ρ
 go_wp2_with (go_at_fn (ρ.f 226);refine(Any.strings_shouldUseASCIISet {L with} _ _).mono ?_;rintro e w' ⟨rfl,hw⟩;rw[hw,h8z])
 go_loopg [9,10] s.size (fun g _ _ wx=>∃i:Nat,s.size<=i+g/\i<=s.size/\wx.heap[w.heap.size]? =some (.stringIter s i)/\Fwd w wx/\Lib.NoAny s.data.toList chars.data.toList i)
 case atStart=>exact⟨0,by omega,by omega,World.iter_heap w s 0,Fwd.alloc _ _,Lib.NoAny.zero _ _⟩
 case round=>
  obtain⟨i,hig,hil,hit,hfw,hno⟩:=hrel;have HN:Aside (Lib.NoAny s.data.toList chars.data.toList i):=hno;have HF:Aside (Fwd w wr):=hfw;clear hno hfw;by_cases hi:i<s.size
  ·obtain⟨g,rfl⟩:∃g,gk=g+1:=⟨gk-1,by omega⟩;obtain⟨x,hx⟩:∃x:UInt8,s[i]'hi=x:=⟨_,rfl⟩;have hxl:s.data.toList[i]? =some x:=by rw[<-hx];exact Lib.data_getElem? s i hi
   have hgl:w.heap.size<wr.heap.size:=(Array.getElem?_eq_some_iff.1 hit).1;have step:∀k,∃W1:World,W1={wr with heap:=wr.heap.setIfInBounds w.heap.size (.stringIter s (i+k))}/\W1.heap[w.heap.size]? =some (.stringIter s (i+k))/\Fwd w W1:=fun k=>by
    refine⟨_,rfl,?_,⟨⟨HF.out.1.os,HF.out.1.tape,HF.out.1.output,?_,fun b hb=> ?_⟩,HF.out.2⟩⟩
    ·show(wr.heap.setIfInBounds w.heap.size (.stringIter s (i+k)))[w.heap.size]? =_;rw[Array.getElem?_setIfInBounds_self_of_lt hgl]
    ·show _<=(wr.heap.setIfInBounds _ _).size;rw[Array.size_setIfInBounds];exact HF.out.1.size
    ·show(wr.heap.setIfInBounds _ _)[b]? =_;rw[Array.getElem?_setIfInBounds_ne (by omega)];exact HF.out.1.block b hb
   by_cases hx8:x.toNat<128
   ·obtain⟨W1,hW1,hW2,hW3⟩:=step 1;have hnx:=fun ty=>run_next_at (P:=P) wr w.heap.size s i x.toNat 1 ty hit hi (by rw[decode_ascii s i hi (by rw[hx];exact hx8),hx]);rw[<-hW1] at hnx;have Hx:Aside (s.data.toList[i]? =some x):=hxl;have HW:Aside (W1.heap[w.heap.size]? =some (.stringIter s (i+1))/\Fwd w W1):=⟨hW2,hW3⟩;clear hxl hx hW1 hW2 hW3 step hit;have hcon:=Lib.contains_iff_indexByte chars.data.toList x;have hback:((x.toNat:Int)).toNat.toUInt8=x:=by simp
    cases hin:chars.data.toList.contains x
    ·rw[hin] at hcon;have hlt:¬((0:Int)<=Lib.indexByte chars.data.toList x):=of_decide_eq_false hcon.symm;clear hcon
     go_wp2_with (go_at_fn (ρ.f 152);refine(Any.strings_IndexRune_ascii {L with} _ _ _ (by omega) (by omega)).mono ?_;rintro e w' ⟨rfl,hw⟩;rw[hw,hback])
     go_roundg g
     case measure=>omega
     case rel=>exact⟨i+1,by omega,by omega,HW.out.1,HW.out.2,HN.out.succ Hx.out hin⟩
    ·rw[hin] at hcon;have hge:(0:Int)<=Lib.indexByte chars.data.toList x:=of_decide_eq_true hcon.symm;clear hcon
     go_wp2_with (go_at_fn (ρ.f 152);refine(Any.strings_IndexRune_ascii {L with} _ _ _ (by omega) (by omega)).mono ?_;rintro e w' ⟨rfl,hw⟩;rw[hw,hback])
     go_ret
     exact⟨by rw[Lib.indexAny_hit HN.out Hx.out hin];rfl,HW.out.2⟩
   ·obtain⟨c,k,hd,hc,hk1,hk2,hk3⟩:=l8Z s i hi (by rw[hx];omega);obtain⟨W1,hW1,hW2,hW3⟩:=step k;have hnx:=fun ty=>run_next_at (P:=P) wr w.heap.size s i c k ty hit hi hd;rw[<-hW1] at hnx;have HW:Aside (W1.heap[w.heap.size]? =some (.stringIter s (i+k))/\Fwd w W1):=⟨hW2,hW3⟩;have HK:Aside (∀j (hj:j<s.size),i<=j->j<i+k->128<=(s[j]'hj).toNat):=hk3;clear hxl hx hW1 hW2 hW3 step hit hk3 hd
    go_wp2_with (go_at_fn (ρ.f 152);refine(kTZ {L with} _ _ _ (by omega) h2 HA.out).mono ?_;rintro e w' ⟨rfl,hw⟩)
    go_roundg g
    case measure=>omega
    case rel=>
     have hgl1:w.heap.size<W1.heap.size:=(Array.getElem?_eq_some_iff.1 HW.out.1).1;refine⟨i+k,by omega,hk2,by rw[hw.1.block _ hgl1];exact HW.out.1,HW.out.2.trans hw,NoAny.skip HN.out HA.out fun j b h1 h3 hb=> ?_⟩;have hj:j<s.size:=by omega
     have:=HK.out j hj h1 h3;have hb2:s.data.toList[j]? =some (s[j]'hj):=Lib.data_getElem? s j hj;rw[hb] at hb2;injection hb2 with hb2;rw[hb2];exact this
  ·obtain rfl:i=s.size:=by omega
   have hnx:=fun ty=>gGZ (P:=P) wr w.heap.size s s.size ty hit hi
   go_wp2
   go_ret
   exact⟨by rw[Lib.indexAny_none (by rw[<-Lib.size_eq];exact HN.out)];rfl,HF.out⟩
theorem ppZ(L:Lays.n153 P ρ)(h116:(P.info? (ρ.t 116)).map (fun i=>(i.zero,i.size))=some (some (.agg (Array.replicate 256 (.bool false))),256))(s chars)(w)(h2:chars.size=2)(hs:s.size<4294967281)(hac:∀(j:Nat) b,chars.data.toList[j]? =some b->b.toNat<128):
 Calls P (ρ.f 153) #[.string s,.string chars] w fun e w'=>e= .returned (.int .i64 (Lib.indexAny s.data.toList chars.data.toList))/\Fwd w w':=by
 by_cases h8:s.size<=8
 ·grind[mhZ]
 ·refine(Any.strings_IndexAny_long L (zero_of_info h116).1 (zero_of_info h116).2 s chars w (by omega) (by omega) hs (by omega) hac).mono fun e w' ⟨h1,h2⟩=>⟨h1,?_⟩;rw[h2];exact(Fwd.alloc _ _).trans (Fwd.alloc _ _)
set_option maxHeartbeats 1000000 in
theorem fVZ(L:Lays.n150 P ρ)(h116:(P.info? (ρ.t 116)).map (fun i=>(i.zero,i.size))=some (some (.agg (Array.replicate 256 (.bool false))),256))(s chars:ByteArray)(w:World)(h2:chars.size=2)(hs:s.size<4294967281)(hac:∀(j:Nat) b,chars.data.toList[j]? =some b->b.toNat<128):
 Calls P (ρ.f 150) #[.string s,.string chars] w fun e w'=>e= .returned (.bool (Lib.containsAny s.data.toList chars.data.toList))/\Fwd w w':=by
 have c:=ppZ {L with} h116 s chars w h2 hs hac;have t3:=L.t3;have a3:=L.a3;have z3:=L.z3;have v3:=L.v3;have t4:=L.t4;have a4:=L.a4;have z4:=L.z4;have v4:=L.v4;have t9:=L.t9;have a9:=L.a9;have z9:=L.z9;have v9:=L.v9;have e153:∀args w,(callFunc (ρ.f 153) args).run P w= .ok (.enter (ρ.f 153) args) w:=enters_of L.f153 (by kernel_rfl) rfl
 go_enter L.f150,Body.n150_ntmps ρ
 go_wp2_with (go_at_fn (ρ.f 153);refine c.mono ?_;rintro e w' ⟨rfl,hw⟩)
 go_ret
 exact⟨rfl,hw⟩
end Go.Proofs
namespace Go.Ab
open Go.Proofs Go.Shelf
def caS(t:List UInt8×List UInt8):Option Bool:=
 aP (Nat.beq t.2.length 2&&t.2.all (fun b=>Nat.blt b.toNat 128)&&Nat.blt t.1.length 4294967281) (some (Go.Lib.containsAny t.1 t.2))
theorem fvZ{P}{ρr}(L:Lays.n150 P ρr)(h116:(P.info? (ρr.t 116)).map (fun i=>(i.zero,i.size))=some (some (.agg (Array.replicate 256 (.bool false))),256))
 (hent:∃fn c,P.funcs[ρr.f 150]? =some fn/\fn.body=some c/\(fn.name== "runtime.NumGoroutine")=false):
 dY P ⟨ρr.f 150,⟨.cons (.p .str) (.cons (.p .str) .nil),[]⟩,[⟨.cons (.p .bool) .nil,[]⟩],caS⟩:=by
 refine dY.of hent fun t r hr z vals hH hv hD=> ?_;obtain⟨⟨s,c⟩,rfl⟩:∃t':List UInt8×List UInt8,t'=t:=⟨t,rfl⟩;have hr:=hr;unfold caS at hr
 let⟨hc,hr⟩:=adZ.1 hr
 cases hr;simp only[ZAF,ZBX,afZ,ZCW] at hc
 let⟨⟨hc1,hc2⟩,hc3⟩:=hc
 have hv:=hv
 let⟨h1,h2⟩:=hv
 match vals,h1,h2 with
 |[a,b],_,h2=>
  have k1:=h2 0 _ a rfl rfl;have k2:=h2 1 _ b rfl rfl;obtain rfl:=k1.v.str;obtain rfl:=k2.v.str;refine(fVZ L h116 ⟨⟨s⟩⟩ ⟨⟨c⟩⟩ z.w (by simpa[ByteArray.size] using hc1) (by simpa[ByteArray.size] using hc3) (fun j b hj=>hc2 b (ZAG hj))).mono ?_;rintro en w' ⟨rfl,hw⟩
  let z':={z with w:=w'}
  have hH':aH z' []:=⟨fun id e h=>(by rw[ciZ] at h;cases h),fun i i' e e' g sz n g' sz' n' _ h=>(by rw[ciZ] at h;cases h),hH.fresh,hH.sub,fun i x h=>by simp[aG] at h,fun i h=>by simp[aN] at h,fun i _ h=>by simp[aN] at h,hH.nos⟩;have hN:Nx z z':=⟨hw.1.os,⟨hw.1.tape,hw.2⟩,hw.1.output,hw.1.size,fun b hb _=>hw.1.block b hb,fun _ h=>.inl h,fun _ h=>.inl h,fun _ _ h _=>h,fun _ _=>rfl,rfl⟩;exact⟨_,z',rfl,rfl,hN,fun k hk=>absurd hk (hD k),hH',.p _ _ _ ⟨[.bool (Go.Lib.containsAny s c)],rfl,rfl⟩⟩
theorem hcZ{P}{f}{fn}(hf:P.funcs[f]? =some fn)(hname:(fn.name== "runtime.NumGoroutine")=false)(hb:fn.body.isNone=true)(hn:(Extern.findNext fn).isNone=true)(he:Extern.find fn=some Extern.BytealgCompare.compare):
 dY P ⟨f,⟨.cons (.p .str) (.cons (.p .str) .nil),[]⟩,[⟨.cons (.p (.int .i64)) .nil,[]⟩],fun t:List UInt8×List UInt8=>some (Go.Lib.compareBytes t.1 t.2)⟩:=by
 refine⟨fun t r hr z vals hH hv hD=>.inr ?_⟩;obtain⟨⟨l,c⟩,rfl⟩:∃t',t'=t:=⟨t,rfl⟩;cases hr
 let⟨h1,h2⟩:=hv
 match vals,h1,h2 with
 |[a,b],_,h2=>
  have k1:=h2 0 _ a rfl rfl;have k2:=h2 1 _ b rfl rfl;obtain rfl:=k1.v.str;obtain rfl:=k2.v.str;refine⟨.int .i64 (Go.Lib.compareBytes l c),z.w,?_,_,z,rfl,rfl,Nx.refl z,fun k hk=>absurd hk (hD k),hH,.p _ _ _ ⟨[.int .i64 (Go.Lib.compareBytes l c)],rfl,rfl⟩⟩;have hn':=by simpa using hn
  rw[run_callFunc_extern hf hname hb hn' he,Go.Lib.run_compareString]
  rfl
open Go.Proofs Go.Shelf Go.Sort
section
variable {α : Type} [Inhabited α]
def mE(v:α->Int×Int)(a:α):List Value:=nP (v a)
def oL(lt:α->α->Bool)(l:List α):List α:=(pdq lt l.toArray 0 l.toArray.size (Lib.bitLen l.toArray.size) true true).toList
theorem hJZ{lt}(hO:SWO lt)(l:List α):PermIn 0 l.toArray.size l.toArray (pdq lt l.toArray 0 l.toArray.size (Lib.bitLen l.toArray.size) true true)/\SortedIn lt 0 l.toArray.size (pdq lt l.toArray 0 l.toArray.size (Lib.bitLen l.toArray.size) true true):=
 pdq_sorts lt hO l.toArray 0 l.toArray.size (Lib.bitLen l.toArray.size) true true (ZBI _) (ZAL _) (Or.inl rfl)
theorem frZ{lt}(hO:SWO lt)(l:List α):(oL lt l).length=l.length:=by
 have:=(hJZ hO l).1.1
 simp_all[oL]
variable {P : Program} {ρr : Ren}
theorem v2Z(v)(l:List α){i j}{x}{w}(hx:l[i]? =some x)(hv:(nP (v x))[j]? =some w):i*2+j<l.length*2/\(flatK (mE v) 2 l.toArray)[i*2+j]! =w:=by
 have hi:=(ZAB.1 hx).1;have hj:j<2:=(ZAB.1 hv).1;have hlt:i*2+j<l.length*2:=by omega
 refine⟨hlt,?_⟩;rw[get_flatK _ _ _ _ (by simpa using hlt)];have h1:(i*2+j)/2=i:=by omega
 have h2:(i*2+j)%2=j:=by omega
 rw[h1,h2];have h3:l.toArray[i]! =x:=by simp[hx]
 rw[h3];show(nP (v x))[j]! =w;simp[hv]
theorem lSZ(v){g}(hcb:uV P g){cf:α->α->Int}{cspec}
 (hc:dY P ⟨g,⟨.cons (.p qQ) (.cons (.p qQ) .nil),[]⟩,[⟨.cons (.p (.int .i64)) .nil,[]⟩],cspec⟩)(hcs:∀x y,cspec (v x,v y)=some (cf x y))(blk off size)(w):
 CmpLays P g #[] (mE v) 2 cf blk off size w:=by
 intro m os dk _ x y;generalize sortWorldK (mE v) 2 w blk off m dk os=W;have h:=hc.spec (v x,v y) (cf x y) (hcs x y) ⟨W,fun _=>False,fun _=>False,fun _=>.no,fun _=>False⟩ [.agg (nP (v x)).toArray,.agg (nP (v y)).toArray]
  ⟨fun id e h=>absurd ((ciZ id).symm.trans h) (fun h=>by cases h),fun i i' e e' g sz n g' sz' n' _ h=>absurd ((ciZ i).symm.trans h) (fun h=>by cases h),fun id _=>.inl rfl,fun g h=>h,fun i x h=>by simp_all[Shp.emb,jY,aG],fun i h=>by simp_all[Shp.emb,jY,aN],fun _ _ _ h=>h,fun _ _ _=>rfl⟩
  ⟨rfl,fun i a vv h1 h2=>by
   match i with
   |0=>
    have h2:=h2;injection h1 with h1;injection h2 with h2;subst h1;subst h2;exact v0Z (v x)
   |1=>
    have h1:=h1;have h2:=h2;injection h1 with h1;injection h2 with h2;subst h1;subst h2;exact v0Z (v y)
   |i+2=>simp at h2⟩ (fun _ h=>h)
 refine(h.calls hcb).mono ?_;rintro en w' ⟨vr,z',rfl,rfl,hn,_,ho⟩
 let⟨_,ho⟩:=ho
 have ho:aF z' (.p (.int .i64) (cf x y)) vr:=ho;refine⟨by rw[ho.v.int],rPZ hn.os hn.tape.1 hn.tape.2 hn.output hn.size fun b hb=>hn.block b hb fun h=>h⟩
theorem odZ(v){lift:List (Int×Int)->Option (List α)}(hl:∀l t,lift l=some t->t.map v=l)(L:SlLaysF0.n6 P ρr)(aE:∀w,(isAgg (ρr.t 24)).run P w= .ok true w)(zE:∀w,(Go.sizeOf (ρr.t 24)).run P w= .ok 2 w){g}{e}{cf}{cspec}
 (hO:SWO (ltOf cf))(hcb:uV P g)(hc:dY P ⟨g,⟨.cons (.p qQ) (.cons (.p qQ) .nil),[]⟩,[⟨.cons (.p (.int .i64)) .nil,[]⟩],cspec⟩)(hcs:∀x y,cspec (v x,v y)=some (cf x y))
 (hent:∃fn c,P.funcs[ρr.f 6]? =some fn/\fn.body=some c/\(fn.name== "runtime.NumGoroutine")=false)(eg:∀args w,(callFunc g args).run P w= .ok (.enter g args) w):
 dY P ⟨ρr.f 6,⟨.cons (.slf 2 0) (.cons (.fn g .nil .nil) .nil),[(0,false,.rows e qQ)]⟩,[⟨.nil,[(0,false,.rows e qQ)]⟩],fun l=>aP (Nat.blt (List.length (α:=Int×Int) l) 4611686018427387904) ((lift l).map fun t=>(oL (ltOf cf) t).map v)⟩:=by
 refine dY.of hent fun t r hr z vals hH hv hD=> ?_;obtain⟨t,rfl⟩:∃t',t'=t:=⟨t,rfl⟩;have hr:=hr;obtain⟨hr0,hr⟩:=adZ.1 hr;rw[ZBX] at hr0;obtain⟨t',hlt',hr2⟩:=ZAI.1 hr;obtain rfl:=hl _ _ hlt';subst hr2;clear hlt' hr;generalize t'=t at*;rw[ZAl] at hr0;have hH:aH z [(0,some ⟨false,.rows e qQ (t.map v)⟩)]:=hH;have hv:aR z [.slf 2 0,.fn g [] []] vals:=hv;obtain⟨v1,v2,rfl,h1,h2⟩:=vXZ hv;have hg:aG [(0,some (⟨false,.rows e qQ (t.map v)⟩:Ent))] 0=some ⟨false,.rows e qQ (t.map v)⟩:=rfl;cases h2 with
 |fn _ _ _ va vc ha hc' _ _=>
 have ha:va=#[]:=ZBg ha;have hc':vc=#[]:=ZBg hc';subst ha;subst hc';have htup:∀z',aF z' (.tup []) (.tuple #[]):=fun z'=>.tup [] #[] rfl fun i x v h=>by grind
 cases h1 with
 |slfV _ _ A hρ=>
  have hB:t=[]:=List.map_eq_nil_iff.1 (hH.virt hg hρ).1;subst hB;refine(AnyF.slices_SortFunc_none L A 0 (.func (.func g) #[] #[]) z.w).mono ?_;rintro en w' ⟨rfl,rfl⟩;refine⟨_,z,rfl,rfl,Nx.refl z,fun k hk=>absurd hk (hD k),?_⟩;have e0:oL (ltOf cf) ([]:List α)=[]:=ZAX (frZ hO []);show aH z [(0,some ⟨false,.rows e qQ ((oL (ltOf cf) ([]:List α)).map v)⟩)]/\aF z (.tup []) _
  simp_all
 |slf _ _ g0 sz n c hρ hn hs hm=>
  obtain⟨hlt,hC,_,cs,fr,b1,b2,b3,b4,b5,b6,b7⟩:=hH.real hg hρ;have hC:=hC rfl;have b4:t.length=n:=by have:=b4;rw[ZAl] at this;exact this
  have b5:t.length*2<=sz:=by have:=b5;rw[ZAl] at this;exact this
  have hrow:∀(i) x,t[i]? =some x->∀(j) w,(nP (v x))[j]? =some w->cs[i*2+j]? =some w:=fun i x hx j w hv=>by
   obtain⟨u,q1,q2⟩:=b7 i (v x) (by rw[ZAY,hx];rfl);rw[clII.1 q1] at q2;exact q2 j w hv
  have hcell:∀k,k<t.length*2->cs[k]? =some ((flatK (mE v) 2 t.toArray)[k]!):=fun k hk=>by
   have hi:k/2<t.length:=by omega
   have h1:t[k/2]? =some t[k/2]:=ZAC hi;have h2:(nP (v t[k/2]))[k%2]? =some ((nP (v t[k/2]))[k%2]'(by show k%2<2;omega)):=ZAC _;have e1:=hrow _ _ h1 _ _ h2;have e2:=(v2Z v t h1 h2).2;have e3:k/2*2+k%2=k:=by omega
   rw[e3] at e1 e2;rw[e1,e2]
  have hHolds:HoldsK (mE v) 2 z.w g0 0 t.toArray:=by
   intro j hj;rw[size_flatK] at hj;have hj:j<t.length*2:=by simpa using hj
   refine⟨?_,?_⟩
   ·simp only[World.cell?,b1,ZA5];exact hcell j hj
   ·simp only[World.frozen?,b1,ZA5];have hjs:j<cs.size:=by omega
    rcases b2.f with h|h
    ·rw[h];simp only[ZCG,ZBG];omega
    ·simp only[ZCG,ZBG];left;omega
  have hsz:t.toArray.size<4611686018427387904:=by
   simpa using hr0
  have hS:=AnyQ.slices_SortFunc_eq L 2 aE zE (mE v) (fun _=>rfl) (fun x w hv=>by simp[mE,nP] at hv;rcases hv with rfl|rfl<;>rfl) cf hO g #[] g0 0 c t.toArray z.w eg (lSZ v hcb hc hcs g0 0 t.toArray.size z.w) hHolds hlt hsz
  rw[show t.toArray.size=n by simpa using b4] at hS;refine hS.mono ?_;rintro en w' ⟨rfl,m,os,rfl⟩;have hlen:(oL (ltOf cf) t).length=t.length:=frZ hO t;have hsort:pdq (ltOf cf) t.toArray 0 n (Lib.bitLen n) true true=(oL (ltOf cf) t).toArray:=by
   unfold oL;rw[show t.toArray.size=n by simpa using b4]
  rw[hsort];generalize oL (ltOf cf) t=l' at hlen⊢;have hw1:∀b,b<z.w.heap.size->(sortWorldK (mE v) 2 z.w g0 0 m l'.toArray os).heap[b]? =if b=g0 then some (.cells (putCells id 0 (flatK (mE v) 2 l'.toArray) cs) e fr) else z.w.heap[b]? :=fun b hb=>by
   show((putRowK (mE v) 2 (Sort.ahead z.w m) g0 0 l'.toArray).heap++os)[b]? =_;have hs1:b<(putRowK (mE v) 2 (Sort.ahead z.w m) g0 0 l'.toArray).heap.size:=by
    show b<(Sort.putRow id (Sort.ahead z.w m) g0 0 _).heap.size;rw[Go.Sort.size_putRow];exact hb
   rw[ZBS hs1];show(z.w.heap.modify g0 (onCells (putCells id 0 (flatK (mE v) 2 l'.toArray))))[b]? =_;rw[ZCE];by_cases h:b=g0
   ·subst h;rw[ZAN rfl,ZAN rfl,b1];rfl
   ·rw[ZAM (ZBf h),ZAM h]
  have hw2:z.w.heap.size<=(sortWorldK (mE v) 2 z.w g0 0 m l'.toArray os).heap.size:=by
   show _<=((Sort.putRow id (Sort.ahead z.w m) g0 0 _).heap++os).size;rw[ZBY,Go.Sort.size_putRow];exact ZCh _ _
  have hw3:(sortWorldK (mE v) 2 z.w g0 0 m l'.toArray os).os=z.w.os/\(sortWorldK (mE v) 2 z.w g0 0 m l'.toArray os).tape=z.w.tape/\(sortWorldK (mE v) 2 z.w g0 0 m l'.toArray os).output=z.w.output/\(sortWorldK (mE v) 2 z.w g0 0 m l'.toArray os).drawn=z.w.drawn+m:=⟨rfl,rfl,rfl,rfl⟩;generalize sortWorldK (mE v) 2 z.w g0 0 m l'.toArray os=w' at*;have hM:z.M g0:=hH.sub _ hC;have hnx:Nx z {z with w:=w'}:=⟨hw3.1,⟨hw3.2.1,by show _<=w'.drawn;rw[hw3.2.2.2];exact ZCh _ _⟩,hw3.2.2.1,hw2,fun b hb hcb=>by
   show w'.heap[b]? =_;rw[hw1 b hb,ZAM (fun h=>by subst h;exact hcb hC)],fun _ h=>.inl h,fun _ h=>.inl h,fun _ _ h _=>h,fun _ _=>rfl,rfl⟩
  have hkp:=hnx.kp hH.sub;refine⟨_,{z with w:=w'},rfl,rfl,hnx,fun k hk=>absurd hk (hD k),?_⟩;show aH {z with w:=w'} [(0,some ⟨false,.rows e qQ (l'.map v)⟩)]/\aF _ (.tup []) _;refine⟨⟨fun id e' he=> ?_,fun i i' e1 e2 a sa na a' sa' na' hii h1 h2=> ?_,fun id hid=> ?_,hH.sub,fun i x h=> ?_,hH.key,hH.dyn,hH.nos⟩,htup _⟩
  ·by_cases hid:id=0
   ·subst hid;rw[fTZ,ZAN rfl] at he;injection he with he;subst he;unfold dX;show match z.ρ 0 with|.no=>False|.virt=>_|.real g sz n=>_
    rw[hρ];refine⟨ZAz hlt hw2,fun _=>hC,(fun h=>by cases h),putCells id 0 (flatK (mE v) 2 l'.toArray) cs,fr,?_,?_,?_,?_,?_,b6,fun i x hx=>⟨nP x,clII.2 rfl,fun j w hv=> ?_⟩⟩
    ·show w'.heap[g0]? =_;rw[hw1 g0 hlt,ZAN rfl]
    ·unfold okR at b2⊢;simpa[putCells] using b2
    ·simpa[putCells] using b3
    ·rw[ZAl];exact hlen.trans b4
    ·show(l'.map v).length*2<=sz;rw[ZAl,hlen];exact b5
    ·rw[ZAY] at hx;obtain⟨y,hy,rfl⟩:=ZAI.1 hx;obtain⟨q1,q2⟩:=v2Z v l' hy hv;show(putCells id 0 (flatK (mE v) 2 l'.toArray) cs)[i*2+j]? =some w;rw[kFZ (by rw[b3];omega),ZAN (by rw[size_flatK];simpa using q1),q2]
   ·rw[fTZ,ZAM hid] at he;cases he
  ·have key:∀j ee,aQ [(0,some (⟨false,.rows e qQ (l'.map v)⟩:Ent))] j=some ee->j=0:=fun j ee h=>by
    by_cases hj:j=0
    ·exact hj
    ·rw[fTZ,ZAM hj] at h;cases h
   exact absurd ((key i _ h1).trans (key i' _ h2).symm) hii
  ·refine hH.fresh id ?_;have h0:=eAZ;by_cases hd:aC<=id
   ·have hne:∀l,aG [(0,some (⟨false,.rows e qQ l⟩:Ent))] (rt id)=none:=fun l=>by
     have:=(bOZ hd).1;have hf:0<aA:=by simp[aA]
     simp only[aG,ahZ (show 0≠rt id by omega)];rfl
    rw[azZ hd,hne] at hid;rw[azZ hd];rw[hne];exact hid
   ·unfold cQ at hid⊢;rw[ZAM hd] at hid⊢;split
    ·rfl
    ·rename_i hf;rw[ZAM hf] at hid;exact hid
  ·by_cases hi:i=0
   ·subst hi;have h:some (⟨false,.rows e qQ (l'.map v)⟩:Ent)=some x:=h;injection h with h;subst h;show 0<aA;simp[aA]
   ·simp only[aG,ahZ (ZBf hi)] at h;cases h
end
def okP(x:Int×Int):Bool:=decide (-4611686018427387904<=x.1/\x.1<=4611686018427387903)
abbrev xI:={x:Int×Int//okP x=true}
instance:Inhabited xI:=⟨⟨(0,0),by decide⟩⟩
def CY(l:List (Int×Int)):Option (List xI):=if h:∀x∈l,okP x=true then some (l.attach.map fun x=>⟨x.1,h x.1 x.2⟩) else none
theorem mLZ(l)(t)(h:CY l=some t):t.map (fun x=>x.1)=l:=by
 unfold CY at h;split at h
 ·cases h;rw[List.map_map];exact List.attach_map_subtype_val l
 grind
def cfP(x y:xI):Int:=x.1.1-y.1.1
theorem swoP:SWO (ltOf cfP) where
 irrefl x:=by
  refine ZAE ?_
  simp_all[cfP]
 trans x y z h1 h2:=by
  have h1:=of_decide_eq_true h1;have h2:=of_decide_eq_true h2;refine ZAJ ?_
  grind[cfP]
 ntrans x y z h1 h2:=by
  have h1:=ZCq h1;have h2:=ZCq h2;refine ZAE ?_
  grind[cfP]
def xJ(l:List (Int×Int)):Option (List (Int×Int)):=(CY l).map fun t=>(oL (ltOf cfP) t).map fun x=>x.1
end Go.Ab
