/- Functions of the program as plain Lean functions: each equation is checked by the kernel; what is told of a function follows from it. -/
import Derived.Test.YtplahfhggnkahaaE4
import Derived.Test.YtplahfhggnkahaaProg
import Derived.KernelRfl
set_option linter.all false
set_option maxRecDepth 100000
set_option maxHeartbeats 4000000
namespace Go.Ab.D
open Go Go.Ab
noncomputable section
abbrev qT0:Type:=(List (UInt8)⊕Option (Nat×(Nat×Nat)))
abbrev qL1:KdL:=(.cons (.p (.int .i64)) .nil)
abbrev qL2:KdL:=(.cons (.p (.sl .byte)) .nil)
abbrev qT3:Type:=(List (UInt8)×(List (Int)×(List (Int)×List ((Nat×List (UInt8))))))
abbrev qL4:KdL:=(.cons (.p (.int .u32)) .nil)
theorem aEZ:Go.Proofs.Try.prog.follows .mixedOrders=true:=by kernel_rfl
def bhal(fu:Nat)(s:Int):Option (Int):=
 some (bitsI .xor .u32 (Int.fdiv s 2) (IntKind.wrap .u32 (2197175160*(bitsI .and .u32 s 1))))
def bhal_fa:FnA:=⟨.two (.leaf) (.leaf),⟨qL4,[]⟩,[⟨qL4,[]⟩],[0]⟩
def bhal_ft(fu:Nat):FnT:=⟨35,bhal_fa.i,bhal_fa.os,fun t=>bhal fu t⟩
theorem lwZ(fu:Nat):∀t,evF Go.Proofs.Try.prog [] fu Go.Proofs.Try.f35 bhal_fa t=(bhal_ft fu).spec t:=fun t=>by kernel_rfl
theorem jhZ(fu:Nat):Told Go.Proofs.Try.prog (bhal_ft fu):=anZ ajZ aEZ Go.Proofs.Try.func35 (by kernel_rfl) (by kernel_rfl) (lwZ fu)
def bTab_l0(fu:Nat)(s:Int)(x:Int)(h:List (Int))(h1:List (Int)):Option ((Int×(Int×(List (Int)×List (Int))))⊕((List (Int)×List (Int)))):=
 bif (decide (x<8)) then
  need (decide (0<=x))<|
  (idx? (Int.fdiv 128 (2^(min (x).toNat 64))) 256).bind fun q=>
  (h1)[q]?.bind fun r=>
  (bhal fu s).bind fun r1=>
  some (.inl (r1,((IntKind.wrap .i64 (x+1)),(h,(List.set h1 q s)))))
 else
  some (.inr (h,h1))
def bTab_l0_it(fu:Nat)(tt:(Int×(Int×(List (Int)×List (Int))))):Option ((List (Int)×List (Int))):=
 iter fu (fun tt=>bTab_l0 fu tt.1 tt.2.1 tt.2.2.1 tt.2.2.2) tt
def bTab_l1(fu:Nat)(x1:Int)(x2:Int)(h4:List (Int))(h5:List (Int)):Option ((Int×(List (Int)×List (Int)))⊕((List (Int)×List (Int)))):=
 bif (decide (x2<(IntKind.wrap .i64 (1*(2^(min (x1).toNat 64)))))) then
  need (decide (0<=x1))<|
  need (decide (0<=x1))<|
  (idx? (IntKind.wrap .i64 (1*(2^(min (x1).toNat 64)))) 256).bind fun q1=>
  (h5)[q1]?.bind fun r2=>
  (idx? x2 256).bind fun q2=>
  (h5)[q2]?.bind fun r3=>
  (idx? (bitsI .or .i64 (IntKind.wrap .i64 (1*(2^(min (x1).toNat 64)))) x2) 256).bind fun q3=>
  (h5)[q3]?.bind fun r4=>
  some (.inl ((IntKind.wrap .i64 (x2+1)),(h4,(List.set h5 q3 (bitsI .xor .u32 r2 r3)))))
 else
  some (.inr (h4,h5))
def bTab_l1_it(fu:Nat)(x1:Int)(tt:(Int×(List (Int)×List (Int)))):Option ((List (Int)×List (Int))):=
 iter fu (fun tt=>bTab_l1 fu x1 tt.1 tt.2.1 tt.2.2) tt
def bTab_l2(fu:Nat)(x1:Int)(h2:List (Int))(h3:List (Int)):Option ((Int×(List (Int)×List (Int)))⊕((List (Int)×List (Int)))):=
 bif (decide (x1<8)) then
  need (decide (0<=x1))<|
  (bTab_l1_it fu x1 (0,(h2,h3))).bind fun o1=>
  some (.inl ((IntKind.wrap .i64 (x1+1)),(o1.1,o1.2)))
 else
  some (.inr (h2,h3))
def bTab_l2_it(fu:Nat)(tt:(Int×(List (Int)×List (Int)))):Option ((List (Int)×List (Int))):=
 iter fu (fun tt=>bTab_l2 fu tt.1 tt.2.1 tt.2.2) tt
def bTab(fu:Nat):Option (List (Int)):=
 (bTab_l0_it fu (2197175160,(0,((List.replicate (α:=Int) 256 0),(List.replicate (α:=Int) 256 0))))).bind fun o=>
 (bTab_l2_it fu (0,(o.1,o.2))).bind fun o2=>
 need (Nat.beq o2.2.length 256)<|
 need (Nat.beq o2.1.length 256)<|
 need (Nat.beq o2.2.length 256)<|
 need (Nat.beq o2.2.length 256)<|
 some o2.2
def bTab_fa:FnA:=⟨.two (.reg [(0,{ids:=[100]})]) (.two (.reg [(0,{ids:=[101]})]) (.two (.leaf) (.two (.two (.leaf) (.one (.loop ⟨[0,1,2,6],⟨(.cons (.own 1 100 0 0) (.cons (.own 1 101 0 0) (.cons (.p (.int .u32)) qL1))),[(100,false,(.rows 27 (.int .u32))),(101,false,(.rows 27 (.int .u32)))]⟩⟩ false [(0,⟨[0,1],⟨(.cons (.own 1 100 0 0) (.cons (.own 1 101 0 0) .nil)),[(100,false,(.rows 27 (.int .u32))),(101,false,(.rows 27 (.int .u32)))]⟩⟩)] (.two (.leaf) (.two (.leaf) (.two (.one (.two (.leaf) (.two (.leaf) (.reg [(1,{})])))) (.leaf))))))) (.two (.two (.leaf) (.one (.loop ⟨[0,1,16],⟨(.cons (.own 1 100 0 0) (.cons (.own 1 101 0 0) qL1)),[(100,false,(.rows 27 (.int .u32))),(101,false,(.rows 27 (.int .u32)))]⟩⟩ false [(2,⟨[0,1],⟨(.cons (.own 1 100 0 0) (.cons (.own 1 101 0 0) .nil)),[(100,false,(.rows 27 (.int .u32))),(101,false,(.rows 27 (.int .u32)))]⟩⟩)] (.two (.leaf) (.two (.leaf) (.two (.one (.two (.leaf) (.two (.leaf) (.one (.loop ⟨[0,1,21],⟨(.cons (.own 1 100 0 0) (.cons (.own 1 101 0 0) qL1)),[(100,false,(.rows 27 (.int .u32))),(101,false,(.rows 27 (.int .u32)))]⟩⟩ false [(4,⟨[0,1],⟨(.cons (.own 1 100 0 0) (.cons (.own 1 101 0 0) .nil)),[(100,false,(.rows 27 (.int .u32))),(101,false,(.rows 27 (.int .u32)))]⟩⟩)] (.two (.leaf) (.two (.leaf) (.two (.one (.leaf)) (.leaf))))))))) (.leaf))))))) (.leaf))))),⟨.nil,[]⟩,[⟨(.cons (.p (.arr 256 (.int .u32))) .nil),[]⟩],[0]⟩
def bTab_ft(fu:Nat):FnT:=⟨11,bTab_fa.i,bTab_fa.os,fun t=>bTab fu⟩
theorem lIZ(fu:Nat):∀t,evF Go.Proofs.Try.prog [bhal_ft fu] fu Go.Proofs.Try.f11 bTab_fa t=(bTab_ft fu).spec t:=fun t=>by kernel_rfl
theorem fKZ(fu:Nat):Told Go.Proofs.Try.prog (bTab_ft fu):=anZ (acZ (jhZ fu) ajZ) aEZ Go.Proofs.Try.func11 (by kernel_rfl) (by kernel_rfl) (lIZ fu)
def bytes_Sum_l0(fu:Nat)(b:List (UInt8))(t:List (Int))(s:Int)(x:Int):Option ((Int×Int)⊕(Int)):=
 bif (decide (x<((b.length:Nat):Int))) then
  (idx? x b.length).bind fun q=>
  (b)[q]?.bind fun r=>
  (idx? (bitsI .xor .u8 (IntKind.wrap .u8 s) ((r.toNat:Nat):Int)) 256).bind fun q1=>
  (t)[q1]?.bind fun r1=>
  some (.inl ((bitsI .xor .u32 r1 (Int.fdiv s 256)),(IntKind.wrap .i64 (x+1))))
 else
  some (.inr s)
def bytes_Sum_l0_it(fu:Nat)(b:List (UInt8))(t:List (Int))(tt:(Int×Int)):Option (Int):=
 iter fu (fun tt=>bytes_Sum_l0 fu b t tt.1 tt.2) tt
def bytes_Sum(fu:Nat)(t:List (Int))(b:List (UInt8)):Option (Int):=
 (bytes_Sum_l0_it fu b t (4294967295,0)).bind fun o=>
 some (IntKind.wrap .u32 (4294967295-o))
def bytes_Sum_fa:FnA:=⟨.two (.leaf) (.two (.two (.leaf) (.leaf)) (.two (.leaf) (.two (.two (.leaf) (.one (.loop ⟨[5,11],⟨(.cons (.p (.int .u32)) qL1),[]⟩⟩ false [(0,⟨[5],⟨qL4,[]⟩⟩)] (.two (.leaf) (.two (.leaf) (.two (.one (.leaf)) (.leaf))))))) (.leaf)))),⟨(.cons (.pt (.int .u32)) qL2),[]⟩,[⟨qL4,[]⟩],[0]⟩
def bytes_Sum_ft(fu:Nat):FnT:=⟨12,bytes_Sum_fa.i,bytes_Sum_fa.os,fun t=>bytes_Sum fu t.1 t.2⟩
theorem gjZ(fu:Nat):∀t,evF Go.Proofs.Try.prog [] fu Go.Proofs.Try.f12 bytes_Sum_fa t=(bytes_Sum_ft fu).spec t:=fun t=>by kernel_rfl
theorem bJZ(fu:Nat):Told Go.Proofs.Try.prog (bytes_Sum_ft fu):=anZ ajZ aEZ Go.Proofs.Try.func12 (by kernel_rfl) (by kernel_rfl) (gjZ fu)
def bUinn0_l0(fu:Nat)(n1:Int)(h:List (UInt8)):Option ((Int×List (UInt8))⊕((Int×List (UInt8)))):=
 bif (decide (n1>127)) then
  (byte? (IntKind.wrap .u8 (IntKind.wrap .u64 ((Int.tmod n1 128)+128)))).bind fun c=>
  need ((Nat.ble ((h.length+1)*1) room)&&(Nat.ble (h.length+1) room))<|
  some (.inl ((IntKind.wrap .u64 (Int.tdiv n1 128)),(h++[c])))
 else
  some (.inr (n1,h))
def bUinn0_l0_it(fu:Nat)(tt:(Int×List (UInt8))):Option ((Int×List (UInt8))):=
 iter fu (fun tt=>bUinn0_l0 fu tt.1 tt.2) tt
def bUinn0(fu:Nat)(n:Int):Option (List (UInt8)):=
 (bUinn0_l0_it fu (n,[])).bind fun o=>
 (byte? (IntKind.wrap .u8 o.1)).bind fun c1=>
 need ((Nat.ble ((o.2.length+1)*1) room)&&(Nat.ble (o.2.length+1) room))<|
 some (o.2++[c1])
def bUinn0_fa:FnA:=⟨.two (.leaf) (.two (.one (.pre (.ownNil 0 5 100) (.loop ⟨[0,1],⟨(.cons (.slf 1 100) (.cons (.p (.int .u64)) .nil)),[(100,false,(.rows 5 .byte))]⟩⟩ false [(0,⟨[0,1],⟨(.cons (.slf 1 100) (.cons (.p (.int .u64)) .nil)),[(100,false,(.rows 5 .byte))]⟩⟩)] (.two (.two (.leaf) (.leaf)) (.one (.reg [(5,{ids:=[101]}),(6,{ids:=[102]})])))))) (.two (.reg [(3,{ids:=[103]}),(4,{ids:=[104]})]) (.leaf))),⟨(.cons (.nilp (.slice none 0 0)) (.cons (.p (.int .u64)) .nil)),[]⟩,[⟨(.cons (.slf 1 0) .nil),[(0,false,(.rows 5 .byte))]⟩],[0]⟩
def bUinn0_ft(fu:Nat):FnT:=⟨15,bUinn0_fa.i,bUinn0_fa.os,fun t=>bUinn0 fu t⟩
theorem jKZ(fu:Nat):∀t,evF Go.Proofs.Try.prog [] fu Go.Proofs.Try.f15 bUinn0_fa t=(bUinn0_ft fu).spec t:=fun t=>by kernel_rfl
theorem cAZ(fu:Nat):Told Go.Proofs.Try.prog (bUinn0_ft fu):=anZ ajZ aEZ Go.Proofs.Try.func15 (by kernel_rfl) (by kernel_rfl) (jKZ fu)
def bGetUin_l0(fu:Nat)(b:List (UInt8))(at_:Int)(n:Int)(to_:Int):Option ((Int×Int)⊕(Unit⊕(Int×(Int×Int)))):=
 bif (decide (to_<((b.length:Nat):Int))) then
  (idx? to_ b.length).bind fun q=>
  (b)[q]?.bind fun r=>
  Option.bind (α:=(Bool)) (
   bif (decide ((IntKind.wrap .i64 (to_-at_))>0)) then
    bif (((r.toNat:Nat):Int)==0) then
     some true
    else
     bif (decide ((IntKind.wrap .i64 (to_-at_))>8)) then
      some (decide (((r.toNat:Nat):Int)>1))
     else
      some false
   else
    bif (decide ((IntKind.wrap .i64 (to_-at_))>8)) then
     some (decide (((r.toNat:Nat):Int)>1))
    else
     some false) fun o1=>
  bif o1 then
   some (.inr (.inr (0,(0,10))))
  else
   need (decide (0<=(IntKind.wrap .i64 (7*(IntKind.wrap .i64 (to_-at_))))))<|
   bif (decide (((r.toNat:Nat):Int)<128)) then
    some (.inr (.inr ((IntKind.wrap .u64 (n+(IntKind.wrap .u64 ((IntKind.wrap .u64 (Int.tmod ((r.toNat:Nat):Int) 128))*(2^(min ((IntKind.wrap .i64 (7*(IntKind.wrap .i64 (to_-at_))))).toNat 64)))))),((IntKind.wrap .i64 (to_+1)),0))))
   else
    some (.inl ((IntKind.wrap .u64 (n+(IntKind.wrap .u64 ((IntKind.wrap .u64 (Int.tmod ((r.toNat:Nat):Int) 128))*(2^(min ((IntKind.wrap .i64 (7*(IntKind.wrap .i64 (to_-at_))))).toNat 64)))))),(IntKind.wrap .i64 (to_+1))))
 else
  some (.inr (.inl ()))
def bGetUin_l0_it(fu:Nat)(b:List (UInt8))(at_:Int)(tt:(Int×Int)):Option (Unit⊕(Int×(Int×Int))):=
 iter fu (fun tt=>bGetUin_l0 fu b at_ tt.1 tt.2) tt
def bGetUin(fu:Nat)(b:List (UInt8))(at_:Int):Option ((Int×(Int×Int))):=
 Option.bind (α:=(Bool)) (
  bif (decide (at_<0)) then
   some true
  else
   some (decide (at_>((b.length:Nat):Int)))) fun o=>
 bif o then
  some (0,(0,2))
 else
  (bGetUin_l0_it fu b at_ (0,at_)).bind fun o2=>
  match o2 with
  |.inl s=>
   some (0,(0,11))
  |.inr o3=>
   some o3
def bGetUin_fa:FnA:=⟨.two (.leaf) (.two (.two (.join ⟨[18],⟨(.cons (.p .bool) .nil),[]⟩⟩ false [] (.leaf)) (.two (.leaf) (.leaf))) (.two (.leaf) (.two (.two (.leaf) (.one (.loop ⟨[7,8],⟨(.cons (.p (.int .u64)) qL1),[]⟩⟩ true [(0,⟨[],⟨.nil,[]⟩⟩)] (.two (.two (.leaf) (.leaf)) (.two (.one (.two (.leaf) (.two (.two (.join ⟨[46],⟨(.cons (.p .bool) .nil),[]⟩⟩ false [] (.leaf)) (.two (.leaf) (.leaf))) (.two (.leaf) (.two (.leaf) (.two (.leaf) (.leaf))))))) (.leaf)))))) (.leaf)))),⟨(.cons (.p (.sl .byte)) qL1),[]⟩,[⟨(.cons (.p (.int .u64)) (.cons (.p (.int .i64)) qL1)),[]⟩],[0,0,0]⟩
def bGetUin_ft(fu:Nat):FnT:=⟨14,bGetUin_fa.i,bGetUin_fa.os,fun t=>bGetUin fu t.1 t.2⟩
theorem hZZ(fu:Nat):∀t,evF Go.Proofs.Try.prog [] fu Go.Proofs.Try.f14 bGetUin_fa t=(bGetUin_ft fu).spec t:=fun t=>by kernel_rfl
theorem cjZ(fu:Nat):Told Go.Proofs.Try.prog (bGetUin_ft fu):=anZ ajZ aEZ Go.Proofs.Try.func14 (by kernel_rfl) (by kernel_rfl) (hZZ fu)
def law01_comes(fu:Nat)(b:List UInt8)(at_:Int):Option (List UInt8):=
 need (Nat.ble b.length room)<|
 (bGetUin fu b at_).bind fun r=>
 bif (!(r.2.2==0)) then
  Option.bind (α:=(Bool)) (
   bif (!(r.1==0)) then
    some true
   else
    some (!(r.2.1==0))) fun o=>
  bif o then
   some [115,111,109,101,116,104,105,110,103,32,98,101,115,105,100,101,32,97,110,32,101,114,114,111,114]
  else
   (bUinn0 fu (IntKind.wrap .u64 r.2.2)).bind fun r1=>
   need (Nat.ble (6+r1.length) room)<|
   some ([101,114,114,111,114,32]++r1)
 else
  (bUinn0 fu r.1).bind fun r2=>
  need (Nat.ble (r2.length+1) room)<|
  (bUinn0 fu (IntKind.wrap .u64 r.2.1)).bind fun r3=>
  need (Nat.ble ((r2++[32]).length+r3.length) room)<|
  some ((r2++[32])++r3)
def law01_comes_fa:FnA:=⟨.two (.leaf) (.two (.reg [(1,{ids:=[100]}),(3,{md:=[2,0]})]) (.two (.two (.leaf) (.two (.two (.two (.join ⟨[23],⟨(.cons (.p .bool) .nil),[]⟩⟩ false [] (.leaf)) (.two (.leaf) (.leaf))) (.two (.reg [(2,{ids:=[101],fn:=1})]) (.leaf))) (.leaf))) (.two (.reg [(1,{ids:=[102],fn:=1}),(6,{ids:=[103],fn:=1})]) (.leaf)))),⟨(.cons (.p .str) qL1),[]⟩,[⟨(.cons (.p .str) .nil),[]⟩],[0]⟩
def law01_comes_ft(fu:Nat):FnT:=⟨21,law01_comes_fa.i,law01_comes_fa.os,fun t=>law01_comes fu t.1 t.2⟩
theorem e7Z(fu:Nat):∀t,evF Go.Proofs.Try.prog [bGetUin_ft fu,bUinn0_ft fu] fu Go.Proofs.Try.f21 law01_comes_fa t=(law01_comes_ft fu).spec t:=fun t=>by kernel_rfl
theorem d2Z(fu:Nat):Told Go.Proofs.Try.prog (law01_comes_ft fu):=anZ (acZ (cjZ fu) (acZ (cAZ fu) ajZ)) aEZ Go.Proofs.Try.func21 (by kernel_rfl) (by kernel_rfl) (e7Z fu)
def sGro(fu:Nat)(n:Int):Option (List (UInt8)):=
 bif (decide (n<0)) then
  none
 else
  bif (decide ((IntKind.wrap .i64 (n-0))>0)) then
   (upto? (IntKind.wrap .i64 (n-0)) room).bind fun q=>
   need ((Nat.ble (q*1) room)&&(Nat.ble q room))<|
   (upto? 0 (List.replicate (α:=UInt8) q 0).length).bind fun q1=>
   need (Nat.ble q1 (List.replicate (α:=UInt8) q 0).length)<|
   some (List.take q1 (List.replicate (α:=UInt8) q 0))
  else
   some []
def sGro_fa:FnA:=⟨.two (.leaf) (.two (.two (.leaf) (.leaf)) (.two (.two (.leaf) (.two (.leaf) (.two (.reg [(5,{ids:=[100]})]) (.leaf)))) (.leaf))),⟨(.cons (.nilp (.slice none 0 0)) qL1),[]⟩,[⟨(.cons (.slf 1 0) .nil),[(0,false,(.rows 5 .byte))]⟩],[15]⟩
def sGro_ft(fu:Nat):FnT:=⟨41,sGro_fa.i,sGro_fa.os,fun t=>sGro fu t⟩
theorem meZ(fu:Nat):∀t,evF Go.Proofs.Try.prog [] fu Go.Proofs.Try.f41 sGro_fa t=(sGro_ft fu).spec t:=fun t=>by kernel_rfl
theorem fLZ(fu:Nat):Told Go.Proofs.Try.prog (sGro_ft fu):=anZ ajZ aEZ Go.Proofs.Try.func41 (by kernel_rfl) (by kernel_rfl) (meZ fu)
def sCon2_l0(fu:Nat)(h:List (List (UInt8)))(size:Int)(x:Int)(h1:List (List (UInt8))):Option ((Int×(Int×List (List (UInt8))))⊕((Int×List (List (UInt8))))):=
 bif (decide (x<((h.length:Nat):Int))) then
  (idx? x h1.length).bind fun q=>
  (h1)[q]?.bind fun r=>
  bif (decide ((IntKind.wrap .i64 (size+((r.length:Nat):Int)))<0)) then
   none
  else
   some (.inl ((IntKind.wrap .i64 (size+((r.length:Nat):Int))),((IntKind.wrap .i64 (x+1)),h1)))
 else
  some (.inr (size,h1))
def sCon2_l0_it(fu:Nat)(h:List (List (UInt8)))(tt:(Int×(Int×List (List (UInt8))))):Option ((Int×List (List (UInt8)))):=
 iter fu (fun tt=>sCon2_l0 fu h tt.1 tt.2.1 tt.2.2) tt
def sCon2_l1(fu:Nat)(o:(Int×List (List (UInt8))))(x1:Int)(h2:List (List (UInt8)))(h3:List (UInt8)):Option ((Int×(List (List (UInt8))×List (UInt8)))⊕((List (List (UInt8))×List (UInt8)))):=
 bif (decide (x1<((o.2.length:Nat):Int))) then
  (idx? x1 h2.length).bind fun q1=>
  (h2)[q1]?.bind fun r2=>
  need ((Nat.ble ((h3.length+r2.length)*1) room)&&(Nat.ble (h3.length+r2.length) room))<|
  some (.inl ((IntKind.wrap .i64 (x1+1)),(h2,(h3++r2))))
 else
  some (.inr (h2,h3))
def sCon2_l1_it(fu:Nat)(o:(Int×List (List (UInt8))))(tt:(Int×(List (List (UInt8))×List (UInt8)))):Option ((List (List (UInt8))×List (UInt8))):=
 iter fu (fun tt=>sCon2_l1 fu o tt.1 tt.2.1 tt.2.2) tt
def sCon2(fu:Nat)(h:List (List (UInt8))):Option ((List (List (UInt8))×List (UInt8))):=
 (sCon2_l0_it fu h (0,(0,h))).bind fun o=>
 (sGro fu o.1).bind fun r1=>
 (sCon2_l1_it fu o (0,(o.2,r1))).bind fun o1=>
 some (o1.1,o1.2)
def sCon2_fa:FnA:=⟨.two (.leaf) (.two (.leaf) (.two (.two (.leaf) (.one (.loop ⟨[0,3,9,11],⟨(.cons (.slf 1 0) (.cons (.p (.int .i64)) (.cons (.slf 1 0) qL1))),[(0,false,(.rows 22 (.sl .byte)))]⟩⟩ false [(0,⟨[0,3],⟨(.cons (.slf 1 0) qL1),[(0,false,(.rows 22 (.sl .byte)))]⟩⟩)] (.two (.leaf) (.two (.leaf) (.two (.one (.two (.leaf) (.two (.leaf) (.two (.leaf) (.leaf))))) (.leaf))))))) (.two (.reg [(1,{ids:=[100]})]) (.two (.two (.leaf) (.one (.loop ⟨[0,6,25,27],⟨(.cons (.slf 1 0) (.cons (.slf 1 100) (.cons (.slf 1 0) qL1))),[(0,false,(.rows 22 (.sl .byte))),(100,false,(.rows 5 .byte))]⟩⟩ false [(2,⟨[0,6],⟨(.cons (.slf 1 0) (.cons (.slf 1 100) .nil)),[(0,false,(.rows 22 (.sl .byte))),(100,false,(.rows 5 .byte))]⟩⟩)] (.two (.leaf) (.two (.leaf) (.two (.one (.two (.leaf) (.reg [(2,{ids:=[101]})]))) (.leaf))))))) (.leaf))))),⟨(.cons (.slf 1 0) .nil),[(0,false,(.rows 22 (.sl .byte)))]⟩,[⟨(.cons (.slf 1 1) .nil),[(0,false,(.rows 22 (.sl .byte))),(1,false,(.rows 5 .byte))]⟩],[0]⟩
def sCon2_ft(fu:Nat):FnT:=⟨40,sCon2_fa.i,sCon2_fa.os,fun t=>sCon2 fu t⟩
theorem kBZ(fu:Nat):∀t,evF Go.Proofs.Try.prog [sGro_ft fu] fu Go.Proofs.Try.f40 sCon2_fa t=(sCon2_ft fu).spec t:=fun t=>by kernel_rfl
theorem ieZ(fu:Nat):Told Go.Proofs.Try.prog (sCon2_ft fu):=anZ (acZ (fLZ fu) ajZ) aEZ Go.Proofs.Try.func40 (by kernel_rfl) (by kernel_rfl) (kBZ fu)
def bBlon0(fu:Nat)(b:List (UInt8)):Option (List (UInt8)):=
 (bUinn0 fu (IntKind.wrap .u64 ((b.length:Nat):Int))).bind fun r=>
 (sCon2 fu [r,b]).bind fun r1=>
 some r1.2
def bBlon0_fa:FnA:=⟨.two (.leaf) (.two (.reg [(4,{ids:=[100]}),(6,{ids:=[101]}),(7,{ids:=[102],sh:=[101],fn:=1})]) (.leaf)),⟨(.cons (.nilp (.slice none 0 0)) qL2),[]⟩,[⟨(.cons (.slf 1 0) .nil),[(0,false,(.rows 5 .byte))]⟩],[0]⟩
def bBlon0_ft(fu:Nat):FnT:=⟨26,bBlon0_fa.i,bBlon0_fa.os,fun t=>bBlon0 fu t⟩
theorem iNZ(fu:Nat):∀t,evF Go.Proofs.Try.prog [bUinn0_ft fu,sCon2_ft fu] fu Go.Proofs.Try.f26 bBlon0_fa t=(bBlon0_ft fu).spec t:=fun t=>by kernel_rfl
theorem gGZ(fu:Nat):Told Go.Proofs.Try.prog (bBlon0_ft fu):=anZ (acZ (cAZ fu) (acZ (ieZ fu) ajZ)) aEZ Go.Proofs.Try.func26 (by kernel_rfl) (by kernel_rfl) (iNZ fu)
def bSea_l0(fu:Nat)(b:List (UInt8))(r:Int)(x:Int)(h:List (UInt8)):Option ((Int×List (UInt8))⊕(List (UInt8))):=
 bif (decide (x<4)) then
  need (decide (0<=(IntKind.wrap .i64 (8*x))))<|
  (idx? (IntKind.wrap .i64 ((IntKind.wrap .i64 ((IntKind.wrap .i64 (((b.length:Nat):Int)+4))-1))-x)) h.length).bind fun q1=>
  (byte? (IntKind.wrap .u8 (Int.fdiv r (2^(min ((IntKind.wrap .i64 (8*x))).toNat 32))))).bind fun c=>
  (h)[q1]?.bind fun r1=>
  some (.inl ((IntKind.wrap .i64 (x+1)),(List.set h q1 c)))
 else
  some (.inr h)
def bSea_l0_it(fu:Nat)(b:List (UInt8))(r:Int)(tt:(Int×List (UInt8))):Option (List (UInt8)):=
 iter fu (fun tt=>bSea_l0 fu b r tt.1 tt.2) tt
def bSea(fu:Nat)(t:List (Int))(b:List (UInt8)):Option (List (UInt8)):=
 (upto? (IntKind.wrap .i64 (((b.length:Nat):Int)+4)) room).bind fun m=>
 (upto? (IntKind.wrap .i64 (((b.length:Nat):Int)+4)) m).bind fun q=>
 need (Nat.ble (m*1) room)<|
 (bytes_Sum fu t b).bind fun r=>
 (bSea_l0_it fu b r (0,(List.replicate (α:=UInt8) q 0))).bind fun o=>
 some (splice o 0 (List.take o.length b))
def bSea_fa:FnA:=⟨.two (.leaf) (.two (.reg [(3,{ids:=[100]})]) (.two (.reg [(2,{})]) (.two (.two (.leaf) (.one (.loop ⟨[5,15],⟨(.cons (.slf 1 100) qL1),[(100,false,(.rows 5 .byte))]⟩⟩ false [(0,⟨[5],⟨(.cons (.slf 1 100) .nil),[(100,false,(.rows 5 .byte))]⟩⟩)] (.two (.leaf) (.two (.leaf) (.two (.one (.leaf)) (.leaf))))))) (.two (.leaf) (.leaf))))),⟨(.cons (.pt (.int .u32)) qL2),[]⟩,[⟨(.cons (.slf 1 0) .nil),[(0,false,(.rows 5 .byte))]⟩],[0]⟩
def bSea_ft(fu:Nat):FnT:=⟨16,bSea_fa.i,bSea_fa.os,fun t=>bSea fu t.1 t.2⟩
theorem ltZ(fu:Nat):∀t,evF Go.Proofs.Try.prog [bytes_Sum_ft fu] fu Go.Proofs.Try.f16 bSea_fa t=(bSea_ft fu).spec t:=fun t=>by kernel_rfl
theorem dQZ(fu:Nat):Told Go.Proofs.Try.prog (bSea_ft fu):=anZ (acZ (bJZ fu) ajZ) aEZ Go.Proofs.Try.func16 (by kernel_rfl) (by kernel_rfl) (ltZ fu)
def law01_awake(fu:Nat):Option (Bool):=
 (bTab fu).bind fun r=>
 need (Nat.beq (List.replicate (α:=Int) 256 0).length 256)<|
 need (Nat.beq r.length 256)<|
 (bytes_Sum fu r [(UInt8.ofNat 49),(UInt8.ofNat 50),(UInt8.ofNat 51),(UInt8.ofNat 52),(UInt8.ofNat 53),(UInt8.ofNat 54),(UInt8.ofNat 55),(UInt8.ofNat 56),(UInt8.ofNat 57)]).bind fun r1=>
 (bUinn0 fu 300).bind fun r2=>
 bif (r2==[172,2]) then
  (law01_comes fu [172,2] 0).bind fun r3=>
  bif (r3==[172,2,32,2]) then
   (law01_comes fu [128,0] 0).bind fun r4=>
   bif (r4==[101,114,114,111,114,32,10]) then
    (law01_comes fu [128] 0).bind fun r5=>
    bif (r5==[101,114,114,111,114,32,11]) then
     (bBlon0 fu [(UInt8.ofNat 97),(UInt8.ofNat 98)]).bind fun r6=>
     bif (r6==[2,97,98]) then
      bif (r1==3808858755) then
       (bSea fu r []).bind fun r7=>
       bif (r7==[0,0,0,0]) then
        (r)[0]?.bind fun r8=>
        bif (r8==0) then
         (r)[128]?.bind fun r9=>
         some (r9==2197175160)
        else
         some false
       else
        some false
      else
       some false
     else
      some false
    else
     some false
   else
    some false
  else
   some false
 else
  some false
def law01_awake_fa:FnA:=⟨.two (.leaf) (.two (.reg [(0,{}),(1,{ids:=[100]})]) (.two (.reg [(0,{ids:=[101]}),(2,{md:=[2,2],fn:=1})]) (.two (.reg [(0,{ids:=[102],fn:=2}),(4,{fn:=3}),(8,{fn:=3}),(12,{fn:=3}),(16,{ids:=[103]}),(18,{ids:=[104],md:=[0,1],fn:=4}),(27,{ids:=[105],md:=[1,0],fn:=5})]) (.leaf)))),⟨.nil,[]⟩,[⟨(.cons (.p .bool) .nil),[]⟩],[0]⟩
def law01_awake_ft(fu:Nat):FnT:=⟨10,law01_awake_fa.i,law01_awake_fa.os,fun t=>law01_awake fu⟩
theorem eHZ(fu:Nat):∀t,evF Go.Proofs.Try.prog [bTab_ft fu,bytes_Sum_ft fu,bUinn0_ft fu,law01_comes_ft fu,bBlon0_ft fu,bSea_ft fu] fu Go.Proofs.Try.f10 law01_awake_fa t=(law01_awake_ft fu).spec t:=fun t=>by kernel_rfl
theorem d1Z(fu:Nat):Told Go.Proofs.Try.prog (law01_awake_ft fu):=anZ (acZ (fKZ fu) (acZ (bJZ fu) (acZ (cAZ fu) (acZ (d2Z fu) (acZ (gGZ fu) (acZ (dQZ fu) ajZ)))))) aEZ Go.Proofs.Try.func10 (by kernel_rfl) (by kernel_rfl) (eHZ fu)
def lCopByt(fu:Nat)(l:List (UInt8)):Option (List (UInt8)):=
 need ((Nat.ble (l.length*1) room)&&(Nat.ble l.length room))<|
 some l
def lCopByt_fa:FnA:=⟨.two (.leaf) (.two (.leaf) (.two (.reg [(2,{ids:=[100]})]) (.leaf))),⟨qL2,[]⟩,[⟨(.cons (.slf 1 0) .nil),[(0,false,(.rows 5 .byte))]⟩],[0]⟩
def lCopByt_ft(fu:Nat):FnT:=⟨18,lCopByt_fa.i,lCopByt_fa.os,fun t=>lCopByt fu t⟩
theorem hYZ(fu:Nat):∀t,evF Go.Proofs.Try.prog [] fu Go.Proofs.Try.f18 lCopByt_fa t=(lCopByt_ft fu).spec t:=fun t=>by kernel_rfl
theorem gsZ(fu:Nat):Told Go.Proofs.Try.prog (lCopByt_ft fu):=anZ ajZ aEZ Go.Proofs.Try.func18 (by kernel_rfl) (by kernel_rfl) (hYZ fu)
def rGetUin_l0(fu:Nat)(at_:Int)(b:List (UInt8))(n:Int)(weight:Int)(many:Int):Option ((Int×(Int×Int))⊕((Int×(Int×Int)))):=
 bif ((IntKind.wrap .i64 (at_+many))==((b.length:Nat):Int)) then
  some (.inr (0,(0,11)))
 else
  (idx? (IntKind.wrap .i64 (at_+many)) b.length).bind fun q=>
  (b)[q]?.bind fun r=>
  Option.bind (α:=(Bool)) (
   bif (decide ((IntKind.wrap .i64 (many+1))>1)) then
    bif (((r.toNat:Nat):Int)==0) then
     some true
    else
     bif ((IntKind.wrap .i64 (many+1))==10) then
      some (decide (((r.toNat:Nat):Int)>1))
     else
      some false
   else
    bif ((IntKind.wrap .i64 (many+1))==10) then
     some (decide (((r.toNat:Nat):Int)>1))
    else
     some false) fun o1=>
  bif o1 then
   some (.inr (0,(0,10)))
  else
   bif (decide (((r.toNat:Nat):Int)<128)) then
    some (.inr ((IntKind.wrap .u64 (n+(IntKind.wrap .u64 (weight*(IntKind.wrap .u64 ((r.toNat:Nat):Int)))))),((IntKind.wrap .i64 (at_+(IntKind.wrap .i64 (many+1)))),0)))
   else
    some (.inl ((IntKind.wrap .u64 (n+(IntKind.wrap .u64 (weight*(IntKind.wrap .u64 (IntKind.wrap .u8 (((r.toNat:Nat):Int)-128))))))),((IntKind.wrap .u64 (weight*128)),(IntKind.wrap .i64 (many+1)))))
def rGetUin_l0_it(fu:Nat)(at_:Int)(b:List (UInt8))(tt:(Int×(Int×Int))):Option ((Int×(Int×Int))):=
 iter fu (fun tt=>rGetUin_l0 fu at_ b tt.1 tt.2.1 tt.2.2) tt
def rGetUin(fu:Nat)(b:List (UInt8))(at_:Int):Option ((Int×(Int×Int))):=
 Option.bind (α:=(Bool)) (
  bif (decide (at_<0)) then
   some true
  else
   some (decide (at_>((b.length:Nat):Int)))) fun o=>
 bif o then
  some (0,(0,2))
 else
  (rGetUin_l0_it fu at_ b (0,(1,0))).bind fun o2=>
  some o2
def rGetUin_fa:FnA:=⟨.two (.leaf) (.two (.two (.join ⟨[18],⟨(.cons (.p .bool) .nil),[]⟩⟩ false [] (.leaf)) (.two (.leaf) (.leaf))) (.two (.leaf) (.one (.loop ⟨[7,8,9],⟨(.cons (.p (.int .u64)) (.cons (.p (.int .u64)) qL1)),[]⟩⟩ true [] (.one (.two (.two (.leaf) (.two (.leaf) (.leaf))) (.two (.leaf) (.two (.leaf) (.two (.two (.join ⟨[46],⟨(.cons (.p .bool) .nil),[]⟩⟩ false [] (.leaf)) (.two (.leaf) (.leaf))) (.two (.two (.leaf) (.two (.leaf) (.leaf))) (.leaf))))))))))),⟨(.cons (.p (.sl .byte)) qL1),[]⟩,[⟨(.cons (.p (.int .u64)) (.cons (.p (.int .i64)) qL1)),[]⟩],[0,0,0]⟩
def rGetUin_ft(fu:Nat):FnT:=⟨23,rGetUin_fa.i,rGetUin_fa.os,fun t=>rGetUin fu t.1 t.2⟩
theorem iyZ(fu:Nat):∀t,evF Go.Proofs.Try.prog [] fu Go.Proofs.Try.f23 rGetUin_fa t=(rGetUin_ft fu).spec t:=fun t=>by kernel_rfl
theorem dxZ(fu:Nat):Told Go.Proofs.Try.prog (rGetUin_ft fu):=anZ ajZ aEZ Go.Proofs.Try.func23 (by kernel_rfl) (by kernel_rfl) (iyZ fu)
def sClo(fu:Nat)(s:List (UInt8)):Option (List (UInt8)):=
 nilQ s.length fun isNil=>
 bif isNil then
  some []
 else
  need ((Nat.ble ((0+s.length)*1) room)&&(Nat.ble (0+s.length) room))<|
  some s
def sClo_fa:FnA:=⟨.two (.leaf) (.two (.two (.leaf) (.two (.leaf) (.leaf))) (.two (.reg [(0,{ids:=[100]}),(2,{ids:=[101]})]) (.leaf))),⟨qL2,[]⟩,[⟨(.cons (.slf 1 0) .nil),[(0,false,(.rows 5 .byte))]⟩],[15]⟩
def sClo_ft(fu:Nat):FnT:=⟨36,sClo_fa.i,sClo_fa.os,fun t=>sClo fu t⟩
theorem l3Z(fu:Nat):∀t,evF Go.Proofs.Try.prog [] fu Go.Proofs.Try.f36 sClo_fa t=(sClo_ft fu).spec t:=fun t=>by kernel_rfl
theorem gtZ(fu:Nat):Told Go.Proofs.Try.prog (sClo_ft fu):=anZ ajZ aEZ Go.Proofs.Try.func36 (by kernel_rfl) (by kernel_rfl) (l3Z fu)
def sClo2(fu:Nat)(s:qT0)(h:List ((Nat×List (UInt8)))):Option ((List (UInt8)×List ((Nat×List (UInt8))))):=
 nilQ (refLen (s:=.byte) s) fun isNil=>
 bif isNil then
  some ([],h)
 else
  (roRd (α:=UInt8) h s).bind fun l=>
  need ((Nat.ble ((0+l.length)*1) room)&&(Nat.ble (0+l.length) room))<|
  some (l,h)
def sClo2_fa:FnA:=⟨.two (.leaf) (.two (.two (.leaf) (.two (.leaf) (.leaf))) (.two (.reg [(0,{ids:=[100]}),(2,{ids:=[101]})]) (.leaf))),⟨(.cons (.p (.ref 15 .byte)) .nil),[(999999,false,(.fam 5 .byte))]⟩,[⟨(.cons (.slf 1 0) .nil),[(0,false,(.rows 5 .byte)),(999999,false,(.fam 5 .byte))]⟩],[15]⟩
def sClo2_ft(fu:Nat):FnT:=⟨36,sClo2_fa.i,sClo2_fa.os,fun t=>sClo2 fu t.1 t.2⟩
theorem kXZ(fu:Nat):∀t,evF Go.Proofs.Try.prog [] fu Go.Proofs.Try.f36 sClo2_fa t=(sClo2_ft fu).spec t:=fun t=>by kernel_rfl
theorem i0Z(fu:Nat):Told Go.Proofs.Try.prog (sClo2_ft fu):=anZ ajZ aEZ Go.Proofs.Try.func36 (by kernel_rfl) (by kernel_rfl) (kXZ fu)
def bGetBlor0(fu:Nat)(b:qT0)(at_:Int)(most:Int)(h:List ((Nat×List (UInt8)))):Option ((Int×(Int×(List (UInt8)×List ((Nat×List (UInt8))))))):=
 (unrefD [⟨15,.byte,(List.map frz1 h)⟩] (.ref 15 .byte) b).bind fun x=>
 (bGetUin fu x at_).bind fun r=>
 bif (!(r.2.2==0)) then
  some (0,(r.2.2,([],h)))
 else
  Option.bind (α:=((Bool×List ((Nat×List (UInt8)))))) (
   bif (decide (most<0)) then
    some ((decide (most<0)),h)
   else
    some ((decide (r.1>(IntKind.wrap .u64 most))),h)) fun o=>
  bif o.1 then
   some (0,(3,([],o.2)))
  else
   bif (decide (r.1>(IntKind.wrap .u64 (IntKind.wrap .i64 ((((refLen (s:=.byte) b):Nat):Int)-r.2.1))))) then
    some (0,(11,([],o.2)))
   else
    (upto? r.2.1 (refLen (s:=.byte) b)).bind fun q=>
    (upto? r.1 (refLen (s:=.byte) (refSub (α:=UInt8) b q ((refLen (s:=.byte) b)-q)))).bind fun q1=>
    (sClo2 fu (refSub (α:=UInt8) (refSub (α:=UInt8) b q ((refLen (s:=.byte) b)-q)) 0 q1) o.2).bind fun r1=>
    some ((IntKind.wrap .i64 (r.2.1+(((refLen (s:=.byte) (refSub (α:=UInt8) (refSub (α:=UInt8) b q ((refLen (s:=.byte) b)-q)) 0 q1)):Nat):Int))),(0,(r1.1,r1.2)))
def bGetBlor0_fa:FnA:=⟨.two (.leaf) (.two (.reg [(2,{md:=[2,0]})]) (.two (.leaf) (.two (.one (.two (.leaf) (.two (.leaf) (.two (.two (.leaf) (.join ⟨[30],⟨(.cons (.p .bool) .nil),[(999999,false,(.fam 5 .byte))]⟩⟩ false [] (.leaf))) (.two (.leaf) (.two (.leaf) (.two (.leaf) (.leaf)))))))) (.two (.leaf) (.two (.reg [(1,{ids:=[100],sh:=[999999],fn:=1})]) (.leaf)))))),⟨(.cons (.p (.ref 15 .byte)) (.cons (.p (.int .i64)) qL1)),[(999999,false,(.fam 5 .byte))]⟩,[⟨(.cons (.slf 1 0) (.cons (.p (.int .i64)) qL1)),[(0,false,(.rows 5 .byte)),(999999,false,(.fam 5 .byte))]⟩],[15,0,0]⟩
def bGetBlor0_ft(fu:Nat):FnT:=⟨22,bGetBlor0_fa.i,bGetBlor0_fa.os,fun t=>bGetBlor0 fu t.1 t.2.1 t.2.2.1 t.2.2.2⟩
theorem gaZ(fu:Nat):∀t,evF Go.Proofs.Try.prog [bGetUin_ft fu,sClo2_ft fu] fu Go.Proofs.Try.f22 bGetBlor0_fa t=(bGetBlor0_ft fu).spec t:=fun t=>by kernel_rfl
theorem eEZ(fu:Nat):Told Go.Proofs.Try.prog (bGetBlor0_ft fu):=anZ (acZ (cjZ fu) (acZ (i0Z fu) ajZ)) aEZ Go.Proofs.Try.func22 (by kernel_rfl) (by kernel_rfl) (gaZ fu)
def rjoi(fu:Nat)(a:List (UInt8))(b:List (UInt8)):Option (List (UInt8)):=
 need (Nat.ble (a.length+b.length) room)<|
 need (Nat.ble (a++b).length room)<|
 some (a++b)
def rjoi_fa:FnA:=⟨.two (.leaf) (.two (.reg [(5,{ids:=[100]})]) (.leaf)),⟨(.cons (.p (.sl .byte)) qL2),[]⟩,[⟨(.cons (.slf 1 0) .nil),[(0,false,(.rows 5 .byte))]⟩],[0]⟩
def rjoi_ft(fu:Nat):FnT:=⟨38,rjoi_fa.i,rjoi_fa.os,fun t=>rjoi fu t.1 t.2⟩
theorem mlZ(fu:Nat):∀t,evF Go.Proofs.Try.prog [] fu Go.Proofs.Try.f38 rjoi_fa t=(rjoi_ft fu).spec t:=fun t=>by kernel_rfl
theorem buZ(fu:Nat):Told Go.Proofs.Try.prog (rjoi_ft fu):=anZ ajZ aEZ Go.Proofs.Try.func38 (by kernel_rfl) (by kernel_rfl) (mlZ fu)
def rGetBlo(fu:Nat)(b:List (UInt8))(at_:Int)(most:Int):Option ((Int×(Int×List (UInt8)))):=
 (rGetUin fu b at_).bind fun r=>
 bif (!(r.2.2==0)) then
  some (0,(r.2.2,[]))
 else
  Option.bind (α:=(Bool)) (
   bif (decide (most<0)) then
    some true
   else
    some (decide (r.1>(IntKind.wrap .u64 most)))) fun o=>
  bif o then
   some (0,(3,[]))
  else
   Option.bind (α:=(Bool)) (
    bif (decide (r.1>(IntKind.wrap .u64 ((b.length:Nat):Int)))) then
     some true
    else
     some (decide ((IntKind.wrap .i64 (r.2.1+(IntKind.wrap .i64 r.1)))>((b.length:Nat):Int)))) fun o1=>
   bif o1 then
    some (0,(11,[]))
   else
    (upto? (IntKind.wrap .i64 (r.2.1+(IntKind.wrap .i64 r.1))) b.length).bind fun q=>
    (upto? r.2.1 q).bind fun q1=>
    (rjoi fu [] (List.drop q1 (List.take q b))).bind fun r1=>
    some ((IntKind.wrap .i64 (r.2.1+(IntKind.wrap .i64 r.1))),(0,r1))
def rGetBlo_fa:FnA:=⟨.two (.leaf) (.two (.reg [(2,{})]) (.two (.two (.leaf) (.two (.leaf) (.leaf))) (.two (.two (.join ⟨[29],⟨(.cons (.p .bool) .nil),[]⟩⟩ false [] (.leaf)) (.two (.leaf) (.leaf))) (.two (.two (.join ⟨[43],⟨(.cons (.p .bool) .nil),[]⟩⟩ false [] (.leaf)) (.two (.leaf) (.leaf))) (.two (.reg [(7,{ids:=[100],fn:=1})]) (.leaf)))))),⟨(.cons (.p (.sl .byte)) (.cons (.p (.int .i64)) qL1)),[]⟩,[⟨(.cons (.slf 1 0) (.cons (.p (.int .i64)) qL1)),[(0,false,(.rows 5 .byte))]⟩],[15,0,0]⟩
def rGetBlo_ft(fu:Nat):FnT:=⟨24,rGetBlo_fa.i,rGetBlo_fa.os,fun t=>rGetBlo fu t.1 t.2.1 t.2.2⟩
theorem i9Z(fu:Nat):∀t,evF Go.Proofs.Try.prog [rGetUin_ft fu,rjoi_ft fu] fu Go.Proofs.Try.f24 rGetBlo_fa t=(rGetBlo_ft fu).spec t:=fun t=>by kernel_rfl
theorem fPZ(fu:Nat):Told Go.Proofs.Try.prog (rGetBlo_ft fu):=anZ (acZ (dxZ fu) (acZ (buZ fu) ajZ)) aEZ Go.Proofs.Try.func24 (by kernel_rfl) (by kernel_rfl) (i9Z fu)
def bUinr0_l0(fu:Nat)(out1:qT0)(n1:Int)(h1:List ((Nat×List (UInt8)))):Option ((qT0×(Int×List ((Nat×List (UInt8)))))⊕((qT0×(Int×List ((Nat×List (UInt8))))))):=
 bif (decide (n1>127)) then
  (byte? (IntKind.wrap .u8 (IntKind.wrap .u64 ((Int.tmod n1 128)+128)))).bind fun c=>
  (roGet (α:=UInt8) h1 out1).bind fun l=>
  need ((Nat.ble ((l.length+1)*1) room)&&(Nat.ble (l.length+1) room))<|
  some (.inl ((.inr (some (h1.length,(0,(l.length+1))))),((IntKind.wrap .u64 (Int.tdiv n1 128)),((roCut (α:=UInt8) l.length h1)++[(1,(l++[c]))]))))
 else
  some (.inr (out1,(n1,h1)))
def bUinr0_l0_it(fu:Nat)(tt:(qT0×(Int×List ((Nat×List (UInt8)))))):Option ((qT0×(Int×List ((Nat×List (UInt8)))))):=
 iter fu (fun tt=>bUinr0_l0 fu tt.1 tt.2.1 tt.2.2) tt
def bUinr0(fu:Nat)(out:qT0)(n:Int)(h:List ((Nat×List (UInt8)))):Option ((qT0×List ((Nat×List (UInt8))))):=
 (bUinr0_l0_it fu (out,(n,h))).bind fun o=>
 (byte? (IntKind.wrap .u8 o.2.1)).bind fun c1=>
 (roGet (α:=UInt8) o.2.2 o.1).bind fun l1=>
 need ((Nat.ble ((l1.length+1)*1) room)&&(Nat.ble (l1.length+1) room))<|
 some ((.inr (some (o.2.2.length,(0,(l1.length+1))))),((roCut (α:=UInt8) l1.length o.2.2)++[(1,(l1++[c1]))]))
def bUinr0_fa:FnA:=⟨.two (.leaf) (.two (.one (.loop ⟨[0,1],⟨(.cons (.p (.ref 15 .byte)) (.cons (.p (.int .u64)) .nil)),[(999999,false,(.fam 5 .byte))]⟩⟩ false [(0,⟨[0,1],⟨(.cons (.p (.ref 15 .byte)) (.cons (.p (.int .u64)) .nil)),[(999999,false,(.fam 5 .byte))]⟩⟩)] (.two (.two (.leaf) (.leaf)) (.one (.reg [(5,{ids:=[100]}),(6,{ids:=[101],sh:=[999999]})]))))) (.two (.reg [(3,{ids:=[102]}),(4,{ids:=[103],sh:=[999999]})]) (.leaf))),⟨(.cons (.p (.ref 15 .byte)) (.cons (.p (.int .u64)) .nil)),[(999999,false,(.fam 5 .byte))]⟩,[⟨(.cons (.p (.ref 15 .byte)) .nil),[(999999,false,(.fam 5 .byte))]⟩],[0]⟩
def bUinr0_ft(fu:Nat):FnT:=⟨15,bUinr0_fa.i,bUinr0_fa.os,fun t=>bUinr0 fu t.1 t.2.1 t.2.2⟩
theorem j4Z(fu:Nat):∀t,evF Go.Proofs.Try.prog [] fu Go.Proofs.Try.f15 bUinr0_fa t=(bUinr0_ft fu).spec t:=fun t=>by kernel_rfl
theorem dOZ(fu:Nat):Told Go.Proofs.Try.prog (bUinr0_ft fu):=anZ ajZ aEZ Go.Proofs.Try.func15 (by kernel_rfl) (by kernel_rfl) (j4Z fu)
def rVar_l0(fu:Nat)(n1:Int)(h:List (UInt8)):Option ((Int×List (UInt8))⊕(List (UInt8))):=
 bif (decide (n1<128)) then
  (byte? (IntKind.wrap .u8 n1)).bind fun c=>
  need ((Nat.ble ((h.length+1)*1) room)&&(Nat.ble (h.length+1) room))<|
  some (.inr (h++[c]))
 else
  (byte? (IntKind.wrap .u8 ((IntKind.wrap .u8 (Int.tmod n1 128))+128))).bind fun c1=>
  need ((Nat.ble ((h.length+1)*1) room)&&(Nat.ble (h.length+1) room))<|
  some (.inl ((IntKind.wrap .u64 (Int.tdiv n1 128)),(h++[c1])))
def rVar_l0_it(fu:Nat)(tt:(Int×List (UInt8))):Option (List (UInt8)):=
 iter fu (fun tt=>rVar_l0 fu tt.1 tt.2) tt
def rVar(fu:Nat)(n:Int):Option (List (UInt8)):=
 (rVar_l0_it fu (n,[])).bind fun o=>
 some o
def rVar_fa:FnA:=⟨.two (.leaf) (.two (.leaf) (.one (.pre (.ownNil 3 5 100) (.loop ⟨[0,3],⟨(.cons (.p (.int .u64)) (.cons (.slf 1 100) .nil)),[(100,false,(.rows 5 .byte))]⟩⟩ true [] (.one (.two (.two (.leaf) (.two (.two (.reg [(3,{ids:=[101]}),(4,{ids:=[102]})]) (.leaf)) (.leaf))) (.two (.reg [(5,{ids:=[103]}),(6,{ids:=[104]})]) (.leaf)))))))),⟨(.cons (.p (.int .u64)) .nil),[]⟩,[⟨(.cons (.slf 1 0) .nil),[(0,false,(.rows 5 .byte))]⟩],[0]⟩
def rVar_ft(fu:Nat):FnT:=⟨39,rVar_fa.i,rVar_fa.os,fun t=>rVar fu t⟩
theorem lvZ(fu:Nat):∀t,evF Go.Proofs.Try.prog [] fu Go.Proofs.Try.f39 rVar_fa t=(rVar_ft fu).spec t:=fun t=>by kernel_rfl
theorem kkZ(fu:Nat):Told Go.Proofs.Try.prog (rVar_ft fu):=anZ ajZ aEZ Go.Proofs.Try.func39 (by kernel_rfl) (by kernel_rfl) (lvZ fu)
def rUin(fu:Nat)(out:List (UInt8))(n:Int):Option (List (UInt8)):=
 (rVar fu n).bind fun r=>
 (rjoi fu out r).bind fun r1=>
 some r1
def rUin_fa:FnA:=⟨.two (.leaf) (.two (.reg [(2,{ids:=[100]}),(3,{ids:=[101],md:=[0,1],fn:=1})]) (.leaf)),⟨(.cons (.p (.sl .byte)) (.cons (.p (.int .u64)) .nil)),[]⟩,[⟨(.cons (.slf 1 0) .nil),[(0,false,(.rows 5 .byte))]⟩],[0]⟩
def rUin_ft(fu:Nat):FnT:=⟨25,rUin_fa.i,rUin_fa.os,fun t=>rUin fu t.1 t.2⟩
theorem miZ(fu:Nat):∀t,evF Go.Proofs.Try.prog [rVar_ft fu,rjoi_ft fu] fu Go.Proofs.Try.f25 rUin_fa t=(rUin_ft fu).spec t:=fun t=>by kernel_rfl
theorem fUZ(fu:Nat):Told Go.Proofs.Try.prog (rUin_ft fu):=anZ (acZ (kkZ fu) (acZ (buZ fu) ajZ)) aEZ Go.Proofs.Try.func25 (by kernel_rfl) (by kernel_rfl) (miZ fu)
def sCon_l0(fu:Nat)(h:List (qT0))(size:Int)(x:Int)(h2:List (qT0))(h3:List ((Nat×List (UInt8)))):Option ((Int×(Int×(List (qT0)×List ((Nat×List (UInt8))))))⊕((Int×(List (qT0)×List ((Nat×List (UInt8))))))):=
 bif (decide (x<((h.length:Nat):Int))) then
  (idx? x h2.length).bind fun q=>
  (h2)[q]?.bind fun r=>
  bif (decide ((IntKind.wrap .i64 (size+(((refLen (s:=.byte) r):Nat):Int)))<0)) then
   none
  else
   some (.inl ((IntKind.wrap .i64 (size+(((refLen (s:=.byte) r):Nat):Int))),((IntKind.wrap .i64 (x+1)),(h2,h3))))
 else
  some (.inr (size,(h2,h3)))
def sCon_l0_it(fu:Nat)(h:List (qT0))(tt:(Int×(Int×(List (qT0)×List ((Nat×List (UInt8))))))):Option ((Int×(List (qT0)×List ((Nat×List (UInt8)))))):=
 iter fu (fun tt=>sCon_l0 fu h tt.1 tt.2.1 tt.2.2.1 tt.2.2.2) tt
def sCon_l1(fu:Nat)(o:(Int×(List (qT0)×List ((Nat×List (UInt8))))))(x1:Int)(h4:List (qT0))(h5:List (UInt8))(h6:List ((Nat×List (UInt8)))):Option ((Int×(List (qT0)×(List (UInt8)×List ((Nat×List (UInt8))))))⊕((List (qT0)×(List (UInt8)×List ((Nat×List (UInt8))))))):=
 bif (decide (x1<((o.2.1.length:Nat):Int))) then
  (idx? x1 h4.length).bind fun q1=>
  (h4)[q1]?.bind fun r2=>
  (roRd (α:=UInt8) h6 r2).bind fun l=>
  need ((Nat.ble ((h5.length+l.length)*1) room)&&(Nat.ble (h5.length+l.length) room))<|
  some (.inl ((IntKind.wrap .i64 (x1+1)),(h4,((h5++l),h6))))
 else
  some (.inr (h4,(h5,h6)))
def sCon_l1_it(fu:Nat)(o:(Int×(List (qT0)×List ((Nat×List (UInt8))))))(tt:(Int×(List (qT0)×(List (UInt8)×List ((Nat×List (UInt8))))))):Option ((List (qT0)×(List (UInt8)×List ((Nat×List (UInt8)))))):=
 iter fu (fun tt=>sCon_l1 fu o tt.1 tt.2.1 tt.2.2.1 tt.2.2.2) tt
def sCon(fu:Nat)(h:List (qT0))(h1:List ((Nat×List (UInt8)))):Option ((List (qT0)×(List (UInt8)×List ((Nat×List (UInt8)))))):=
 (sCon_l0_it fu h (0,(0,(h,h1)))).bind fun o=>
 (sGro fu o.1).bind fun r1=>
 (sCon_l1_it fu o (0,(o.2.1,(r1,o.2.2)))).bind fun o1=>
 some (o1.1,(o1.2.1,o1.2.2))
def sCon_fa:FnA:=⟨.two (.leaf) (.two (.leaf) (.two (.two (.leaf) (.one (.loop ⟨[0,3,9,11],⟨(.cons (.slf 1 0) (.cons (.p (.int .i64)) (.cons (.slf 1 0) qL1))),[(0,false,(.rows 22 (.ref 15 .byte))),(999999,false,(.fam 5 .byte))]⟩⟩ false [(0,⟨[0,3],⟨(.cons (.slf 1 0) qL1),[(0,false,(.rows 22 (.ref 15 .byte))),(999999,false,(.fam 5 .byte))]⟩⟩)] (.two (.leaf) (.two (.leaf) (.two (.one (.two (.leaf) (.two (.leaf) (.two (.leaf) (.leaf))))) (.leaf))))))) (.two (.reg [(1,{ids:=[100]})]) (.two (.two (.leaf) (.one (.loop ⟨[0,6,25,27],⟨(.cons (.slf 1 0) (.cons (.slf 1 100) (.cons (.slf 1 0) qL1))),[(0,false,(.rows 22 (.ref 15 .byte))),(100,false,(.rows 5 .byte)),(999999,false,(.fam 5 .byte))]⟩⟩ false [(2,⟨[0,6],⟨(.cons (.slf 1 0) (.cons (.slf 1 100) .nil)),[(0,false,(.rows 22 (.ref 15 .byte))),(100,false,(.rows 5 .byte)),(999999,false,(.fam 5 .byte))]⟩⟩)] (.two (.leaf) (.two (.leaf) (.two (.one (.two (.leaf) (.reg [(2,{ids:=[101]})]))) (.leaf))))))) (.leaf))))),⟨(.cons (.slf 1 0) .nil),[(0,false,(.rows 22 (.ref 15 .byte))),(999999,false,(.fam 5 .byte))]⟩,[⟨(.cons (.slf 1 1) .nil),[(0,false,(.rows 22 (.ref 15 .byte))),(1,false,(.rows 5 .byte)),(999999,false,(.fam 5 .byte))]⟩],[0]⟩
def sCon_ft(fu:Nat):FnT:=⟨40,sCon_fa.i,sCon_fa.os,fun t=>sCon fu t.1 t.2⟩
theorem lVZ(fu:Nat):∀t,evF Go.Proofs.Try.prog [sGro_ft fu] fu Go.Proofs.Try.f40 sCon_fa t=(sCon_ft fu).spec t:=fun t=>by kernel_rfl
theorem j0Z(fu:Nat):Told Go.Proofs.Try.prog (sCon_ft fu):=anZ (acZ (fLZ fu) ajZ) aEZ Go.Proofs.Try.func40 (by kernel_rfl) (by kernel_rfl) (lVZ fu)
def bBlor0(fu:Nat)(out:qT0)(b:List (UInt8))(h:List ((Nat×List (UInt8)))):Option ((List (UInt8)×List ((Nat×List (UInt8))))):=
 (bUinr0 fu out (IntKind.wrap .u64 ((b.length:Nat):Int)) h).bind fun r=>
 (sCon fu [r.1,(.inl b)] r.2).bind fun r1=>
 some (r1.2.1,r1.2.2)
def bBlor0_fa:FnA:=⟨.two (.leaf) (.two (.reg [(4,{sh:=[999999]}),(6,{ids:=[100],sh:=[999999]}),(7,{ids:=[101],sh:=[100,999999],fn:=1})]) (.leaf)),⟨(.cons (.p (.ref 15 .byte)) qL2),[(999999,false,(.fam 5 .byte))]⟩,[⟨(.cons (.slf 1 0) .nil),[(0,false,(.rows 5 .byte)),(999999,false,(.fam 5 .byte))]⟩],[0]⟩
def bBlor0_ft(fu:Nat):FnT:=⟨26,bBlor0_fa.i,bBlor0_fa.os,fun t=>bBlor0 fu t.1 t.2.1 t.2.2⟩
theorem jbZ(fu:Nat):∀t,evF Go.Proofs.Try.prog [bUinr0_ft fu,sCon_ft fu] fu Go.Proofs.Try.f26 bBlor0_fa t=(bBlor0_ft fu).spec t:=fun t=>by kernel_rfl
theorem gCZ(fu:Nat):Told Go.Proofs.Try.prog (bBlor0_ft fu):=anZ (acZ (dOZ fu) (acZ (j0Z fu) ajZ)) aEZ Go.Proofs.Try.func26 (by kernel_rfl) (by kernel_rfl) (jbZ fu)
def rBlo(fu:Nat)(out:List (UInt8))(b:List (UInt8)):Option (List (UInt8)):=
 (rUin fu out (IntKind.wrap .u64 ((b.length:Nat):Int))).bind fun r=>
 (rjoi fu r b).bind fun r1=>
 some r1
def rBlo_fa:FnA:=⟨.two (.leaf) (.two (.reg [(4,{ids:=[100]}),(6,{ids:=[101],md:=[1,0],fn:=1})]) (.leaf)),⟨(.cons (.p (.sl .byte)) qL2),[]⟩,[⟨(.cons (.slf 1 0) .nil),[(0,false,(.rows 5 .byte))]⟩],[0]⟩
def rBlo_ft(fu:Nat):FnT:=⟨27,rBlo_fa.i,rBlo_fa.os,fun t=>rBlo fu t.1 t.2⟩
theorem lTZ(fu:Nat):∀t,evF Go.Proofs.Try.prog [rUin_ft fu,rjoi_ft fu] fu Go.Proofs.Try.f27 rBlo_fa t=(rBlo_ft fu).spec t:=fun t=>by kernel_rfl
theorem jmZ(fu:Nat):Told Go.Proofs.Try.prog (rBlo_ft fu):=anZ (acZ (fUZ fu) (acZ (buZ fu) ajZ)) aEZ Go.Proofs.Try.func27 (by kernel_rfl) (by kernel_rfl) (lTZ fu)
def rHal(fu:Nat)(n:Int):Option (Int):=
 bif ((Int.tmod n 2)==0) then
  some (IntKind.wrap .u32 (Int.tdiv n 2))
 else
  some (bitsI .xor .u32 (IntKind.wrap .u32 (Int.tdiv (IntKind.wrap .u32 (n-1)) 2)) 2197175160)
def rHal_fa:FnA:=⟨.two (.leaf) (.two (.two (.leaf) (.two (.leaf) (.leaf))) (.leaf)),⟨qL4,[]⟩,[⟨qL4,[]⟩],[0]⟩
def rHal_ft(fu:Nat):FnT:=⟨37,rHal_fa.i,rHal_fa.os,fun t=>rHal fu t⟩
theorem lDZ(fu:Nat):∀t,evF Go.Proofs.Try.prog [] fu Go.Proofs.Try.f37 rHal_fa t=(rHal_ft fu).spec t:=fun t=>by kernel_rfl
theorem jDZ(fu:Nat):Told Go.Proofs.Try.prog (rHal_ft fu):=anZ ajZ aEZ Go.Proofs.Try.func37 (by kernel_rfl) (by kernel_rfl) (lDZ fu)
def rEnt_l0(fu:Nat)(n:Int)(k:Int):Option ((Int×Int)⊕(Int)):=
 bif (decide (k<8)) then
  (rHal fu n).bind fun r=>
  some (.inl (r,(IntKind.wrap .i64 (k+1))))
 else
  some (.inr n)
def rEnt_l0_it(fu:Nat)(tt:(Int×Int)):Option (Int):=
 iter fu (fun tt=>rEnt_l0 fu tt.1 tt.2) tt
def rEnt(fu:Nat)(i:Int):Option (Int):=
 (rEnt_l0_it fu ((IntKind.wrap .u32 i),0)).bind fun o=>
 some o
def rEnt_fa:FnA:=⟨.two (.leaf) (.two (.leaf) (.two (.two (.leaf) (.one (.loop ⟨[3,4],⟨(.cons (.p (.int .u32)) qL1),[]⟩⟩ false [(0,⟨[3],⟨qL4,[]⟩⟩)] (.two (.two (.leaf) (.leaf)) (.two (.one (.reg [(1,{})])) (.leaf)))))) (.leaf))),⟨qL1,[]⟩,[⟨qL4,[]⟩],[0]⟩
def rEnt_ft(fu:Nat):FnT:=⟨20,rEnt_fa.i,rEnt_fa.os,fun t=>rEnt fu t⟩
theorem l2Z(fu:Nat):∀t,evF Go.Proofs.Try.prog [rHal_ft fu] fu Go.Proofs.Try.f20 rEnt_fa t=(rEnt_ft fu).spec t:=fun t=>by kernel_rfl
theorem jRZ(fu:Nat):Told Go.Proofs.Try.prog (rEnt_ft fu):=anZ (acZ (jDZ fu) ajZ) aEZ Go.Proofs.Try.func20 (by kernel_rfl) (by kernel_rfl) (l2Z fu)
def rTab_l0(fu:Nat)(i:Int)(h:List (Int))(h1:List (Int)):Option ((Int×(List (Int)×List (Int)))⊕((List (Int)×List (Int)))):=
 bif (decide (i<256)) then
  (rEnt fu i).bind fun r=>
  (idx? i 256).bind fun q=>
  (h1)[q]?.bind fun r1=>
  some (.inl ((IntKind.wrap .i64 (i+1)),(h,(List.set h1 q r))))
 else
  some (.inr (h,h1))
def rTab_l0_it(fu:Nat)(tt:(Int×(List (Int)×List (Int)))):Option ((List (Int)×List (Int))):=
 iter fu (fun tt=>rTab_l0 fu tt.1 tt.2.1 tt.2.2) tt
def rTab(fu:Nat):Option (List (Int)):=
 (rTab_l0_it fu (0,((List.replicate (α:=Int) 256 0),(List.replicate (α:=Int) 256 0)))).bind fun o=>
 need (Nat.beq o.2.length 256)<|
 need (Nat.beq o.1.length 256)<|
 need (Nat.beq o.2.length 256)<|
 need (Nat.beq o.2.length 256)<|
 some o.2
def rTab_fa:FnA:=⟨.two (.reg [(0,{ids:=[100]})]) (.two (.reg [(0,{ids:=[101]})]) (.two (.two (.leaf) (.one (.loop ⟨[0,1,2],⟨(.cons (.own 1 100 0 0) (.cons (.own 1 101 0 0) qL1)),[(100,false,(.rows 27 (.int .u32))),(101,false,(.rows 27 (.int .u32)))]⟩⟩ false [(0,⟨[0,1],⟨(.cons (.own 1 100 0 0) (.cons (.own 1 101 0 0) .nil)),[(100,false,(.rows 27 (.int .u32))),(101,false,(.rows 27 (.int .u32)))]⟩⟩)] (.two (.two (.leaf) (.leaf)) (.two (.one (.reg [(2,{})])) (.leaf)))))) (.leaf))),⟨.nil,[]⟩,[⟨(.cons (.p (.arr 256 (.int .u32))) .nil),[]⟩],[0]⟩
def rTab_ft(fu:Nat):FnT:=⟨28,rTab_fa.i,rTab_fa.os,fun t=>rTab fu⟩
theorem l7Z(fu:Nat):∀t,evF Go.Proofs.Try.prog [rEnt_ft fu] fu Go.Proofs.Try.f28 rTab_fa t=(rTab_ft fu).spec t:=fun t=>by kernel_rfl
theorem jxZ(fu:Nat):Told Go.Proofs.Try.prog (rTab_ft fu):=anZ (acZ (jRZ fu) ajZ) aEZ Go.Proofs.Try.func28 (by kernel_rfl) (by kernel_rfl) (l7Z fu)
def bUns(fu:Nat)(t:List (Int))(b:List (UInt8)):Option ((List (UInt8)×Int)):=
 bif (decide (((b.length:Nat):Int)<4)) then
  some ([],11)
 else
  (upto? (IntKind.wrap .i64 (((b.length:Nat):Int)-4)) b.length).bind fun q=>
  (sClo fu (List.take q b)).bind fun r=>
  (bSea fu t r).bind fun r1=>
  bif (!(r1==b)) then
   some ([],12)
  else
   some (r,0)
def bUns_fa:FnA:=⟨.two (.leaf) (.two (.two (.leaf) (.two (.leaf) (.leaf))) (.two (.reg [(5,{ids:=[100]})]) (.two (.two (.reg [(2,{ids:=[101],md:=[0,1],fn:=1})]) (.two (.leaf) (.leaf))) (.leaf)))),⟨(.cons (.pt (.int .u32)) qL2),[]⟩,[⟨(.cons (.p (.sl .byte)) qL1),[]⟩],[1,0]⟩
def bUns_ft(fu:Nat):FnT:=⟨19,bUns_fa.i,bUns_fa.os,fun t=>bUns fu t.1 t.2⟩
theorem mmZ(fu:Nat):∀t,evF Go.Proofs.Try.prog [sClo_ft fu,bSea_ft fu] fu Go.Proofs.Try.f19 bUns_fa t=(bUns_ft fu).spec t:=fun t=>by kernel_rfl
theorem kbZ(fu:Nat):Told Go.Proofs.Try.prog (bUns_ft fu):=anZ (acZ (gtZ fu) (acZ (dQZ fu) ajZ)) aEZ Go.Proofs.Try.func19 (by kernel_rfl) (by kernel_rfl) (mmZ fu)
def ref01_Sum_l0(fu:Nat)(b:List (UInt8))(t:List (Int))(s:Int)(i:Int):Option ((Int×Int)⊕(Int)):=
 bif (decide (i<((b.length:Nat):Int))) then
  (idx? i b.length).bind fun q=>
  (b)[q]?.bind fun r=>
  (idx? (bitsI .xor .u32 (Int.tmod s 256) (IntKind.wrap .u32 ((r.toNat:Nat):Int))) 256).bind fun q1=>
  (t)[q1]?.bind fun r1=>
  some (.inl ((bitsI .xor .u32 (IntKind.wrap .u32 (Int.tdiv s 256)) r1),(IntKind.wrap .i64 (i+1))))
 else
  some (.inr s)
def ref01_Sum_l0_it(fu:Nat)(b:List (UInt8))(t:List (Int))(tt:(Int×Int)):Option (Int):=
 iter fu (fun tt=>ref01_Sum_l0 fu b t tt.1 tt.2) tt
def ref01_Sum(fu:Nat)(t:List (Int))(b:List (UInt8)):Option (Int):=
 (ref01_Sum_l0_it fu b t (4294967295,0)).bind fun o=>
 some (IntKind.wrap .u32 (4294967295-o))
def ref01_Sum_fa:FnA:=⟨.two (.leaf) (.two (.two (.leaf) (.leaf)) (.two (.leaf) (.two (.two (.leaf) (.one (.loop ⟨[5,6],⟨(.cons (.p (.int .u32)) qL1),[]⟩⟩ false [(0,⟨[5],⟨qL4,[]⟩⟩)] (.two (.two (.leaf) (.leaf)) (.two (.one (.leaf)) (.leaf)))))) (.leaf)))),⟨(.cons (.pt (.int .u32)) qL2),[]⟩,[⟨qL4,[]⟩],[0]⟩
def ref01_Sum_ft(fu:Nat):FnT:=⟨30,ref01_Sum_fa.i,ref01_Sum_fa.os,fun t=>ref01_Sum fu t.1 t.2⟩
theorem grZ(fu:Nat):∀t,evF Go.Proofs.Try.prog [] fu Go.Proofs.Try.f30 ref01_Sum_fa t=(ref01_Sum_ft fu).spec t:=fun t=>by kernel_rfl
theorem czZ(fu:Nat):Told Go.Proofs.Try.prog (ref01_Sum_ft fu):=anZ ajZ aEZ Go.Proofs.Try.func30 (by kernel_rfl) (by kernel_rfl) (grZ fu)
def rSea(fu:Nat)(t:List (Int))(b:List (UInt8)):Option (List (UInt8)):=
 (ref01_Sum fu t b).bind fun r=>
 (byte? (IntKind.wrap .u8 (IntKind.wrap .u32 (Int.tdiv r 16777216)))).bind fun c=>
 (byte? (IntKind.wrap .u8 (IntKind.wrap .u32 (Int.tdiv r 65536)))).bind fun c1=>
 (byte? (IntKind.wrap .u8 (IntKind.wrap .u32 (Int.tdiv r 256)))).bind fun c2=>
 (byte? (IntKind.wrap .u8 r)).bind fun c3=>
 (rjoi fu b [c,c1,c2,c3]).bind fun r1=>
 some r1
def rSea_fa:FnA:=⟨.two (.leaf) (.two (.reg [(2,{})]) (.two (.reg [(12,{ids:=[100]}),(13,{ids:=[101],md:=[0,1],fn:=1})]) (.leaf))),⟨(.cons (.pt (.int .u32)) qL2),[]⟩,[⟨(.cons (.slf 1 0) .nil),[(0,false,(.rows 5 .byte))]⟩],[0]⟩
def rSea_ft(fu:Nat):FnT:=⟨31,rSea_fa.i,rSea_fa.os,fun t=>rSea fu t.1 t.2⟩
theorem lOZ(fu:Nat):∀t,evF Go.Proofs.Try.prog [ref01_Sum_ft fu,rjoi_ft fu] fu Go.Proofs.Try.f31 rSea_fa t=(rSea_ft fu).spec t:=fun t=>by kernel_rfl
theorem fZZ(fu:Nat):Told Go.Proofs.Try.prog (rSea_ft fu):=anZ (acZ (czZ fu) (acZ (buZ fu) ajZ)) aEZ Go.Proofs.Try.func31 (by kernel_rfl) (by kernel_rfl) (lOZ fu)
def rUns(fu:Nat)(t:List (Int))(b:List (UInt8)):Option ((List (UInt8)×Int)):=
 bif (decide (((b.length:Nat):Int)<4)) then
  some ([],11)
 else
  (upto? (IntKind.wrap .i64 (((b.length:Nat):Int)-4)) b.length).bind fun q=>
  (rjoi fu [] (List.take q b)).bind fun r=>
  (rSea fu t r).bind fun r1=>
  bif (r1==b) then
   some (r,0)
  else
   some ([],12)
def rUns_fa:FnA:=⟨.two (.leaf) (.two (.two (.leaf) (.two (.leaf) (.leaf))) (.two (.reg [(5,{ids:=[100]})]) (.two (.two (.reg [(2,{ids:=[101],md:=[0,1],fn:=1})]) (.two (.leaf) (.leaf))) (.leaf)))),⟨(.cons (.pt (.int .u32)) qL2),[]⟩,[⟨(.cons (.p (.sl .byte)) qL1),[]⟩],[1,0]⟩
def rUns_ft(fu:Nat):FnT:=⟨29,rUns_fa.i,rUns_fa.os,fun t=>rUns fu t.1 t.2⟩
theorem lSZ(fu:Nat):∀t,evF Go.Proofs.Try.prog [rjoi_ft fu,rSea_ft fu] fu Go.Proofs.Try.f29 rUns_fa t=(rUns_ft fu).spec t:=fun t=>by kernel_rfl
theorem j7Z(fu:Nat):Told Go.Proofs.Try.prog (rUns_ft fu):=anZ (acZ (buZ fu) (acZ (fZZ fu) ajZ)) aEZ Go.Proofs.Try.func29 (by kernel_rfl) (by kernel_rfl) (lSZ fu)
def bSumn0(fu:Nat)(b:List (UInt8)):Option (Int):=
 some 0
def bSumn0_fa:FnA:=⟨.two (.leaf) (.two (.two (.leaf) (.two (.leaf) (.leaf))) (.leaf)),⟨(.cons (.nilp (.pointer none)) qL2),[]⟩,[⟨qL4,[]⟩],[0]⟩
def bSumn0_ft(fu:Nat):FnT:=⟨12,bSumn0_fa.i,bSumn0_fa.os,fun t=>bSumn0 fu t⟩
theorem jNZ(fu:Nat):∀t,evF Go.Proofs.Try.prog [] fu Go.Proofs.Try.f12 bSumn0_fa t=(bSumn0_ft fu).spec t:=fun t=>by kernel_rfl
theorem eiZ(fu:Nat):Told Go.Proofs.Try.prog (bSumn0_ft fu):=anZ ajZ aEZ Go.Proofs.Try.func12 (by kernel_rfl) (by kernel_rfl) (jNZ fu)
def bSean0_l0(fu:Nat)(b:List (UInt8))(r:Int)(x:Int)(h:List (UInt8)):Option ((Int×List (UInt8))⊕(List (UInt8))):=
 bif (decide (x<4)) then
  need (decide (0<=(IntKind.wrap .i64 (8*x))))<|
  (idx? (IntKind.wrap .i64 ((IntKind.wrap .i64 ((IntKind.wrap .i64 (((b.length:Nat):Int)+4))-1))-x)) h.length).bind fun q1=>
  (byte? (IntKind.wrap .u8 (Int.fdiv r (2^(min ((IntKind.wrap .i64 (8*x))).toNat 32))))).bind fun c=>
  (h)[q1]?.bind fun r1=>
  some (.inl ((IntKind.wrap .i64 (x+1)),(List.set h q1 c)))
 else
  some (.inr h)
def bSean0_l0_it(fu:Nat)(b:List (UInt8))(r:Int)(tt:(Int×List (UInt8))):Option (List (UInt8)):=
 iter fu (fun tt=>bSean0_l0 fu b r tt.1 tt.2) tt
def bSean0(fu:Nat)(b:List (UInt8)):Option (List (UInt8)):=
 (upto? (IntKind.wrap .i64 (((b.length:Nat):Int)+4)) room).bind fun m=>
 (upto? (IntKind.wrap .i64 (((b.length:Nat):Int)+4)) m).bind fun q=>
 need (Nat.ble (m*1) room)<|
 (bSumn0 fu b).bind fun r=>
 (bSean0_l0_it fu b r (0,(List.replicate (α:=UInt8) q 0))).bind fun o=>
 some (splice o 0 (List.take o.length b))
def bSean0_fa:FnA:=⟨.two (.leaf) (.two (.reg [(3,{ids:=[100]})]) (.two (.reg [(2,{})]) (.two (.two (.leaf) (.one (.loop ⟨[5,15],⟨(.cons (.slf 1 100) qL1),[(100,false,(.rows 5 .byte))]⟩⟩ false [(0,⟨[5],⟨(.cons (.slf 1 100) .nil),[(100,false,(.rows 5 .byte))]⟩⟩)] (.two (.leaf) (.two (.leaf) (.two (.one (.leaf)) (.leaf))))))) (.two (.leaf) (.leaf))))),⟨(.cons (.nilp (.pointer none)) qL2),[]⟩,[⟨(.cons (.slf 1 0) .nil),[(0,false,(.rows 5 .byte))]⟩],[0]⟩
def bSean0_ft(fu:Nat):FnT:=⟨16,bSean0_fa.i,bSean0_fa.os,fun t=>bSean0 fu t⟩
theorem iYZ(fu:Nat):∀t,evF Go.Proofs.Try.prog [bSumn0_ft fu] fu Go.Proofs.Try.f16 bSean0_fa t=(bSean0_ft fu).spec t:=fun t=>by kernel_rfl
theorem eoZ(fu:Nat):Told Go.Proofs.Try.prog (bSean0_ft fu):=anZ (acZ (eiZ fu) ajZ) aEZ Go.Proofs.Try.func16 (by kernel_rfl) (by kernel_rfl) (iYZ fu)
def bUnsn0(fu:Nat)(b:List (UInt8)):Option ((List (UInt8)×Int)):=
 bif (decide (((b.length:Nat):Int)<4)) then
  some ([],11)
 else
  (upto? (IntKind.wrap .i64 (((b.length:Nat):Int)-4)) b.length).bind fun q=>
  (sClo fu (List.take q b)).bind fun r=>
  (bSean0 fu r).bind fun r1=>
  bif (!(r1==b)) then
   some ([],12)
  else
   some (r,0)
def bUnsn0_fa:FnA:=⟨.two (.leaf) (.two (.two (.leaf) (.two (.leaf) (.leaf))) (.two (.reg [(5,{ids:=[100]})]) (.two (.two (.reg [(2,{ids:=[101],md:=[0,1],fn:=1})]) (.two (.leaf) (.leaf))) (.leaf)))),⟨(.cons (.nilp (.pointer none)) qL2),[]⟩,[⟨(.cons (.p (.sl .byte)) qL1),[]⟩],[1,0]⟩
def bUnsn0_ft(fu:Nat):FnT:=⟨19,bUnsn0_fa.i,bUnsn0_fa.os,fun t=>bUnsn0 fu t⟩
theorem j3Z(fu:Nat):∀t,evF Go.Proofs.Try.prog [sClo_ft fu,bSean0_ft fu] fu Go.Proofs.Try.f19 bUnsn0_fa t=(bUnsn0_ft fu).spec t:=fun t=>by kernel_rfl
theorem haZ(fu:Nat):Told Go.Proofs.Try.prog (bUnsn0_ft fu):=anZ (acZ (gtZ fu) (acZ (eoZ fu) ajZ)) aEZ Go.Proofs.Try.func19 (by kernel_rfl) (by kernel_rfl) (j3Z fu)
def rSumn0(fu:Nat)(b:List (UInt8)):Option (Int):=
 some 0
def rSumn0_fa:FnA:=⟨.two (.leaf) (.two (.two (.leaf) (.two (.leaf) (.leaf))) (.leaf)),⟨(.cons (.nilp (.pointer none)) qL2),[]⟩,[⟨qL4,[]⟩],[0]⟩
def rSumn0_ft(fu:Nat):FnT:=⟨30,rSumn0_fa.i,rSumn0_fa.os,fun t=>rSumn0 fu t⟩
theorem jQZ(fu:Nat):∀t,evF Go.Proofs.Try.prog [] fu Go.Proofs.Try.f30 rSumn0_fa t=(rSumn0_ft fu).spec t:=fun t=>by kernel_rfl
theorem exZ(fu:Nat):Told Go.Proofs.Try.prog (rSumn0_ft fu):=anZ ajZ aEZ Go.Proofs.Try.func30 (by kernel_rfl) (by kernel_rfl) (jQZ fu)
def rSean0(fu:Nat)(b:List (UInt8)):Option (List (UInt8)):=
 (rSumn0 fu b).bind fun r=>
 (byte? (IntKind.wrap .u8 (IntKind.wrap .u32 (Int.tdiv r 16777216)))).bind fun c=>
 (byte? (IntKind.wrap .u8 (IntKind.wrap .u32 (Int.tdiv r 65536)))).bind fun c1=>
 (byte? (IntKind.wrap .u8 (IntKind.wrap .u32 (Int.tdiv r 256)))).bind fun c2=>
 (byte? (IntKind.wrap .u8 r)).bind fun c3=>
 (rjoi fu b [c,c1,c2,c3]).bind fun r1=>
 some r1
def rSean0_fa:FnA:=⟨.two (.leaf) (.two (.reg [(2,{})]) (.two (.reg [(12,{ids:=[100]}),(13,{ids:=[101],md:=[0,1],fn:=1})]) (.leaf))),⟨(.cons (.nilp (.pointer none)) qL2),[]⟩,[⟨(.cons (.slf 1 0) .nil),[(0,false,(.rows 5 .byte))]⟩],[0]⟩
def rSean0_ft(fu:Nat):FnT:=⟨31,rSean0_fa.i,rSean0_fa.os,fun t=>rSean0 fu t⟩
theorem jTZ(fu:Nat):∀t,evF Go.Proofs.Try.prog [rSumn0_ft fu,rjoi_ft fu] fu Go.Proofs.Try.f31 rSean0_fa t=(rSean0_ft fu).spec t:=fun t=>by kernel_rfl
theorem eeZ(fu:Nat):Told Go.Proofs.Try.prog (rSean0_ft fu):=anZ (acZ (exZ fu) (acZ (buZ fu) ajZ)) aEZ Go.Proofs.Try.func31 (by kernel_rfl) (by kernel_rfl) (jTZ fu)
def rUnsn0(fu:Nat)(b:List (UInt8)):Option ((List (UInt8)×Int)):=
 bif (decide (((b.length:Nat):Int)<4)) then
  some ([],11)
 else
  (upto? (IntKind.wrap .i64 (((b.length:Nat):Int)-4)) b.length).bind fun q=>
  (rjoi fu [] (List.take q b)).bind fun r=>
  (rSean0 fu r).bind fun r1=>
  bif (r1==b) then
   some (r,0)
  else
   some ([],12)
def rUnsn0_fa:FnA:=⟨.two (.leaf) (.two (.two (.leaf) (.two (.leaf) (.leaf))) (.two (.reg [(5,{ids:=[100]})]) (.two (.two (.reg [(2,{ids:=[101],md:=[0,1],fn:=1})]) (.two (.leaf) (.leaf))) (.leaf)))),⟨(.cons (.nilp (.pointer none)) qL2),[]⟩,[⟨(.cons (.p (.sl .byte)) qL1),[]⟩],[1,0]⟩
def rUnsn0_ft(fu:Nat):FnT:=⟨29,rUnsn0_fa.i,rUnsn0_fa.os,fun t=>rUnsn0 fu t⟩
theorem j5Z(fu:Nat):∀t,evF Go.Proofs.Try.prog [rjoi_ft fu,rSean0_ft fu] fu Go.Proofs.Try.f29 rUnsn0_fa t=(rUnsn0_ft fu).spec t:=fun t=>by kernel_rfl
theorem hiZ(fu:Nat):Told Go.Proofs.Try.prog (rUnsn0_ft fu):=anZ (acZ (buZ fu) (acZ (eeZ fu) ajZ)) aEZ Go.Proofs.Try.func29 (by kernel_rfl) (by kernel_rfl) (j5Z fu)
def rBit_l0(fu:Nat)(i:Int)(h:List (Bool)):Option ((Int×List (Bool))⊕(List (Bool))):=
 bif (decide (i<32)) then
  (idx? i 32).bind fun q=>
  (h)[q]?.bind fun r=>
  some (.inl ((IntKind.wrap .i64 (i+1)),(List.set h q true)))
 else
  some (.inr h)
def rBit_l0_it(fu:Nat)(tt:(Int×List (Bool))):Option (List (Bool)):=
 iter fu (fun tt=>rBit_l0 fu tt.1 tt.2) tt
def rBit_l1(fu:Nat)(k:Int)(h2:List (Bool)):Option ((Int×List (Bool))⊕(List (Bool))):=
 bif (decide (k<31)) then
  (idx? (IntKind.wrap .i64 (k+1)) 32).bind fun q2=>
  (h2)[q2]?.bind fun r3=>
  (idx? k 32).bind fun q3=>
  (h2)[q3]?.bind fun r4=>
  some (.inl ((IntKind.wrap .i64 (k+1)),(List.set h2 q3 r3)))
 else
  some (.inr h2)
def rBit_l1_it(fu:Nat)(tt:(Int×List (Bool))):Option (List (Bool)):=
 iter fu (fun tt=>rBit_l1 fu tt.1 tt.2) tt
def rBit_l2(fu:Nat)(r2:Bool)(r1:UInt8)(i1:Int)(k1:Int)(h3:List (Bool)):Option ((Int×List (Bool))⊕(List (Bool))):=
 Option.bind (α:=((Bool×List (Bool)))) (
  bif (decide (k1<32)) then
   some ((!(r2==((Int.tmod (Int.fdiv ((r1.toNat:Nat):Int) (2^(min ((Int.tmod i1 8)).toNat 8))) 2)==1))),h3)
  else
   some (false,h3)) fun o2=>
 bif o2.1 then
  need (decide (0<=k1))<|
  Option.bind (α:=(List (Bool))) (
   bif ((Int.tmod (Int.fdiv 2197175160 (2^(min (k1).toNat 64))) 2)==1) then
    (idx? k1 32).bind fun q4=>
    (o2.2)[q4]?.bind fun r6=>
    (idx? k1 32).bind fun q5=>
    (o2.2)[q5]?.bind fun r7=>
    some (List.set o2.2 q5 (!r6))
   else
    some o2.2) fun o3=>
  some (.inl ((IntKind.wrap .i64 (k1+1)),o3))
 else
  some (.inr o2.2)
def rBit_l2_it(fu:Nat)(r2:Bool)(r1:UInt8)(i1:Int)(tt:(Int×List (Bool))):Option (List (Bool)):=
 iter fu (fun tt=>rBit_l2 fu r2 r1 i1 tt.1 tt.2) tt
def rBit_l3(fu:Nat)(b:List (UInt8))(i1:Int)(h1:List (Bool)):Option ((Int×List (Bool))⊕(List (Bool))):=
 bif (decide (i1<(IntKind.wrap .i64 (8*((b.length:Nat):Int))))) then
  (idx? (IntKind.wrap .i64 (Int.tdiv i1 8)) b.length).bind fun q1=>
  (b)[q1]?.bind fun r1=>
  need (decide (0<=(Int.tmod i1 8)))<|
  (h1)[0]?.bind fun r2=>
  (rBit_l1_it fu (0,h1)).bind fun o1=>
  (o1)[31]?.bind fun r5=>
  (rBit_l2_it fu r2 r1 i1 (0,(List.set o1 31 false))).bind fun o4=>
  some (.inl ((IntKind.wrap .i64 (i1+1)),o4))
 else
  some (.inr h1)
def rBit_l3_it(fu:Nat)(b:List (UInt8))(tt:(Int×List (Bool))):Option (List (Bool)):=
 iter fu (fun tt=>rBit_l3 fu b tt.1 tt.2) tt
def rBit_l4(fu:Nat)(n:Int)(i2:Int)(h4:List (Bool)):Option ((Int×(Int×List (Bool)))⊕(Int)):=
 bif (decide (i2>=0)) then
  (idx? i2 32).bind fun q6=>
  (h4)[q6]?.bind fun r8=>
  Option.bind (α:=((Int×List (Bool)))) (
   bif (!r8) then
    some ((IntKind.wrap .u32 ((IntKind.wrap .u32 (n*2))+1)),h4)
   else
    some ((IntKind.wrap .u32 (n*2)),h4)) fun o6=>
  some (.inl (o6.1,((IntKind.wrap .i64 (i2-1)),o6.2)))
 else
  some (.inr n)
def rBit_l4_it(fu:Nat)(tt:(Int×(Int×List (Bool)))):Option (Int):=
 iter fu (fun tt=>rBit_l4 fu tt.1 tt.2.1 tt.2.2) tt
def rBit(fu:Nat)(b:List (UInt8)):Option (Int):=
 (rBit_l0_it fu (0,(List.replicate (α:=Bool) 32 false))).bind fun o=>
 (rBit_l3_it fu b (0,o)).bind fun o5=>
 (rBit_l4_it fu (0,(31,o5))).bind fun o7=>
 some o7
def rBit_fa:FnA:=⟨.two (.leaf) (.two (.reg [(0,{ids:=[100]})]) (.two (.two (.leaf) (.one (.loop ⟨[3,4],⟨(.cons (.own 1 100 0 0) qL1),[(100,false,(.rows 68 .bool))]⟩⟩ false [(0,⟨[3],⟨(.cons (.own 1 100 0 0) .nil),[(100,false,(.rows 68 .bool))]⟩⟩)] (.two (.two (.leaf) (.leaf)) (.two (.leaf) (.leaf)))))) (.two (.two (.leaf) (.one (.loop ⟨[3,5],⟨(.cons (.own 1 100 0 0) qL1),[(100,false,(.rows 68 .bool))]⟩⟩ false [(2,⟨[3],⟨(.cons (.own 1 100 0 0) .nil),[(100,false,(.rows 68 .bool))]⟩⟩)] (.two (.two (.leaf) (.leaf)) (.two (.one (.two (.leaf) (.two (.leaf) (.two (.two (.leaf) (.one (.loop ⟨[3,8],⟨(.cons (.own 1 100 0 0) qL1),[(100,false,(.rows 68 .bool))]⟩⟩ false [(4,⟨[3],⟨(.cons (.own 1 100 0 0) .nil),[(100,false,(.rows 68 .bool))]⟩⟩)] (.two (.two (.leaf) (.leaf)) (.two (.leaf) (.leaf)))))) (.two (.leaf) (.two (.leaf) (.one (.loop ⟨[3,9],⟨(.cons (.own 1 100 0 0) qL1),[(100,false,(.rows 68 .bool))]⟩⟩ false [(6,⟨[3],⟨(.cons (.own 1 100 0 0) .nil),[(100,false,(.rows 68 .bool))]⟩⟩)] (.two (.two (.join ⟨[3,54],⟨(.cons (.own 1 100 0 0) (.cons (.p .bool) .nil)),[(100,false,(.rows 68 .bool))]⟩⟩ false [] (.leaf)) (.leaf)) (.two (.one (.two (.leaf) (.join ⟨[3],⟨(.cons (.own 1 100 0 0) .nil),[(100,false,(.rows 68 .bool))]⟩⟩ false [] (.leaf)))) (.leaf))))))))))) (.leaf)))))) (.two (.leaf) (.two (.two (.leaf) (.one (.loop ⟨[3,10,11],⟨(.cons (.own 1 100 0 0) (.cons (.p (.int .u32)) qL1)),[(100,false,(.rows 68 .bool))]⟩⟩ false [(8,⟨[10],⟨qL4,[]⟩⟩)] (.two (.two (.leaf) (.leaf)) (.two (.one (.two (.leaf) (.two (.leaf) (.join ⟨[3,10],⟨(.cons (.own 1 100 0 0) qL4),[(100,false,(.rows 68 .bool))]⟩⟩ false [] (.leaf))))) (.leaf)))))) (.leaf)))))),⟨qL2,[]⟩,[⟨qL4,[]⟩],[0]⟩
def rBit_ft(fu:Nat):FnT:=⟨32,rBit_fa.i,rBit_fa.os,fun t=>rBit fu t⟩
theorem mgZ(fu:Nat):∀t,evF Go.Proofs.Try.prog [] fu Go.Proofs.Try.f32 rBit_fa t=(rBit_ft fu).spec t:=fun t=>by kernel_rfl
theorem iQZ(fu:Nat):Told Go.Proofs.Try.prog (rBit_ft fu):=anZ ajZ aEZ Go.Proofs.Try.func32 (by kernel_rfl) (by kernel_rfl) (mgZ fu)
def law01_BytesTells_l0(fu:Nat)(seed:Int)(x:Int)(h:List (UInt8))(h1:List (Int))(h2:List (Int))(h3:List ((Nat×List (UInt8)))):Option ((Int×qT3)⊕(qT3)):=
 bif (decide (x<256)) then
  (idx? x 256).bind fun q=>
  (h2)[q]?.bind fun r12=>
  (idx? x 256).bind fun q1=>
  (h2)[q1]?.bind fun r13=>
  some (.inl ((IntKind.wrap .i64 (x+1)),(h,(h1,((List.set h2 q1 (IntKind.wrap .u32 (r12+(IntKind.wrap .u32 (seed*(IntKind.wrap .u32 x)))))),h3)))))
 else
  some (.inr (h,(h1,(h2,h3))))
def law01_BytesTells_l0_it(fu:Nat)(seed:Int)(tt:(Int×qT3)):Option (qT3):=
 iter fu (fun tt=>law01_BytesTells_l0 fu seed tt.1 tt.2.1 tt.2.2.1 tt.2.2.2.1 tt.2.2.2.2) tt
def law01_BytesTells(fu:Nat)(n:Int)(b:List (UInt8))(at_:Int)(most:Int)(seed:Int):Option (Bool):=
 bif (decide (((b.length:Nat):Int)>800)) then
  (law01_awake fu).bind fun r=>
  some r
 else
  (lCopByt fu b).bind fun r1=>
  (bGetUin fu r1 at_).bind fun r2=>
  (rGetUin fu b at_).bind fun r3=>
  Option.bind (α:=((Bool×List (UInt8)))) (
   bif (!(r2.1==r3.1)) then
    some (true,r1)
   else
    bif (!(r2.2.1==r3.2.1)) then
     some (true,r1)
    else
     some ((!(r2.2.2==r3.2.2)),r1)) fun o=>
  bif o.1 then
   some false
  else
   (bGetBlor0 fu (.inr (some (0,(0,o.2.length)))) at_ most [(1,o.2)]).bind fun r4=>
   (rGetBlo fu b at_ most).bind fun r5=>
   Option.bind (α:=((Bool×(List (UInt8)×List ((Nat×List (UInt8))))))) (
    bif (!(r4.2.2.1==r5.2.2)) then
     (openF (α:=UInt8) 15 r4.2.2.2 (.inr (some (0,(0,o.2.length))))).bind fun m=>
     some (true,(m.1,m.2))
    else
     bif (!(r4.1==r5.1)) then
      (openF (α:=UInt8) 15 r4.2.2.2 (.inr (some (0,(0,o.2.length))))).bind fun m1=>
      some (true,(m1.1,m1.2))
     else
      bif (!(r4.2.1==r5.2.1)) then
       (openF (α:=UInt8) 15 r4.2.2.2 (.inr (some (0,(0,o.2.length))))).bind fun m2=>
       some (true,(m2.1,m2.2))
      else
       (bUinr0 fu (.inr (some (0,(0,o.2.length)))) n r4.2.2.2).bind fun r6=>
       (roRd (α:=UInt8) r6.2 r6.1).bind fun l=>
       (rUin fu b n).bind fun r7=>
       bif (!(l==r7)) then
        (openF (α:=UInt8) 15 r6.2 (.inr (some (0,(0,o.2.length))))).bind fun m3=>
        some (true,(m3.1,m3.2))
       else
        (bBlor0 fu (.inr (some (0,(0,o.2.length)))) b r6.2).bind fun r8=>
        (rBlo fu b b).bind fun r9=>
        (openF (α:=UInt8) 15 r8.2 (.inr (some (0,(0,o.2.length))))).bind fun m4=>
        some ((!(r8.1==r9)),(m4.1,m4.2))) fun o1=>
   bif o1.1 then
    some false
   else
    (bTab fu).bind fun r10=>
    need (Nat.beq (List.replicate (α:=Int) 256 0).length 256)<|
    need (Nat.beq r10.length 256)<|
    (rTab fu).bind fun r11=>
    need (Nat.beq (List.replicate (α:=Int) 256 0).length 256)<|
    need (Nat.beq r11.length 256)<|
    (law01_BytesTells_l0_it fu seed (0,(o1.2.1,(r10,(r11,o1.2.2))))).bind fun o2=>
    (bUns fu o2.2.1 o2.1).bind fun r14=>
    (rUns fu o2.2.1 b).bind fun r15=>
    Option.bind (α:=((Bool×qT3))) (
     (bytes_Sum fu o2.2.1 o2.1).bind fun r16=>
     (ref01_Sum fu o2.2.1 b).bind fun r17=>
     bif (!(r16==r17)) then
      some (true,(o2.1,(o2.2.1,(o2.2.2.1,o2.2.2.2))))
     else
      (bSea fu o2.2.1 o2.1).bind fun r18=>
      (rSea fu o2.2.1 b).bind fun r19=>
      bif (!(r18==r19)) then
       some (true,(o2.1,(o2.2.1,(o2.2.2.1,o2.2.2.2))))
      else
       bif (!(r14.1==r15.1)) then
        some (true,(o2.1,(o2.2.1,(o2.2.2.1,o2.2.2.2))))
       else
        some ((!(r14.2==r15.2)),(o2.1,(o2.2.1,(o2.2.2.1,o2.2.2.2))))) fun o3=>
    bif o3.1 then
     some false
    else
     (bUns fu o3.2.2.2.1 o3.2.1).bind fun r20=>
     (rUns fu o3.2.2.2.1 b).bind fun r21=>
     Option.bind (α:=((Bool×qT3))) (
      (bytes_Sum fu o3.2.2.2.1 o3.2.1).bind fun r22=>
      (ref01_Sum fu o3.2.2.2.1 b).bind fun r23=>
      bif (!(r22==r23)) then
       some (true,(o3.2.1,(o3.2.2.1,(o3.2.2.2.1,o3.2.2.2.2))))
      else
       (bSea fu o3.2.2.2.1 o3.2.1).bind fun r24=>
       (rSea fu o3.2.2.2.1 b).bind fun r25=>
       bif (!(r24==r25)) then
        some (true,(o3.2.1,(o3.2.2.1,(o3.2.2.2.1,o3.2.2.2.2))))
       else
        bif (!(r20.1==r21.1)) then
         some (true,(o3.2.1,(o3.2.2.1,(o3.2.2.2.1,o3.2.2.2.2))))
        else
         some ((!(r20.2==r21.2)),(o3.2.1,(o3.2.2.1,(o3.2.2.2.1,o3.2.2.2.2))))) fun o4=>
     bif o4.1 then
      some false
     else
      (bUnsn0 fu o4.2.1).bind fun r26=>
      (rUnsn0 fu b).bind fun r27=>
      Option.bind (α:=((Bool×qT3))) (
       (bSumn0 fu o4.2.1).bind fun r28=>
       (rSumn0 fu b).bind fun r29=>
       bif (!(r28==r29)) then
        some (true,(o4.2.1,(o4.2.2.1,(o4.2.2.2.1,o4.2.2.2.2))))
       else
        (bSean0 fu o4.2.1).bind fun r30=>
        (rSean0 fu b).bind fun r31=>
        bif (!(r30==r31)) then
         some (true,(o4.2.1,(o4.2.2.1,(o4.2.2.2.1,o4.2.2.2.2))))
        else
         bif (!(r26.1==r27.1)) then
          some (true,(o4.2.1,(o4.2.2.1,(o4.2.2.2.1,o4.2.2.2.2))))
         else
          some ((!(r26.2==r27.2)),(o4.2.1,(o4.2.2.1,(o4.2.2.2.1,o4.2.2.2.2))))) fun o5=>
      bif o5.1 then
       some false
      else
       (bytes_Sum fu o5.2.2.1 b).bind fun r32=>
       (rBit fu b).bind fun r33=>
       bif (r32==r33) then
        need (Nat.beq o5.2.2.1.length 256)<|
        (rTab fu).bind fun r34=>
        bif (listEqb (Ty.eqb (.int .u32)) o5.2.2.1 r34) then
         bif (o5.2.1==b) then
          (law01_awake fu).bind fun r35=>
          some r35
         else
          some false
        else
         some false
       else
        some false
def law01_BytesTells_fa:FnA:=⟨.two (.leaf) (.two (.two (.leaf) (.two (.two (.reg [(0,{})]) (.leaf)) (.leaf))) (.two (.reg [(1,{ids:=[100],fn:=1})]) (.two (.reg [(2,{md:=[2,0],fn:=2})]) (.two (.reg [(2,{fn:=3})]) (.two (.two (.join ⟨[11,61],⟨(.cons (.slf 1 100) (.cons (.p .bool) .nil)),[(100,false,(.rows 5 .byte))]⟩⟩ false [] (.leaf)) (.two (.leaf) (.leaf))) (.two (.pre (.newFam 15 5 .byte) (.pre (.mem 11 15) (.reg [(3,{ids:=[101],sh:=[999999],fn:=4})]))) (.two (.reg [(3,{ids:=[102],fn:=5})]) (.two (.two (.join ⟨[11,114],⟨(.cons (.slf 1 630015) (.cons (.p .bool) .nil)),[(630015,false,(.rows 5 .byte)),(999999,false,(.fam 5 .byte))]⟩⟩ false [] (.post (.opn 11 530015) (.reg [(18,{sh:=[999999],fn:=6}),(22,{ids:=[103],fn:=7}),(29,{ids:=[104],sh:=[999999],fn:=8}),(33,{ids:=[105],fn:=9})]))) (.two (.leaf) (.leaf))) (.two (.reg [(0,{fn:=10}),(1,{ids:=[107]})]) (.two (.reg [(0,{fn:=11}),(1,{ids:=[108]})]) (.two (.two (.leaf) (.one (.loop ⟨[11,20,21,117],⟨(.cons (.slf 1 630015) (.cons (.own 1 107 0 0) (.cons (.own 1 108 0 0) qL1))),[(630015,false,(.rows 5 .byte)),(107,false,(.rows 27 (.int .u32))),(108,false,(.rows 27 (.int .u32))),(999999,false,(.fam 5 .byte))]⟩⟩ false [(0,⟨[11,20,21],⟨(.cons (.slf 1 630015) (.cons (.own 1 107 0 0) (.cons (.own 1 108 0 0) .nil))),[(630015,false,(.rows 5 .byte)),(107,false,(.rows 27 (.int .u32))),(108,false,(.rows 27 (.int .u32))),(999999,false,(.fam 5 .byte))]⟩⟩)] (.two (.leaf) (.two (.leaf) (.two (.one (.leaf)) (.leaf))))))) (.two (.two (.reg [(0,{ids:=[109],md:=[1]})]) (.one (.round (.two (.leaf) (.two (.leaf) (.two (.one (.two (.leaf) (.two (.reg [(2,{md:=[1,1],fn:=12})]) (.two (.reg [(2,{md:=[1,0],fn:=13})]) (.two (.join ⟨[11,20,130,177],⟨(.cons (.slf 1 630015) (.cons (.own 1 107 0 0) (.cons (.slf 1 109) (.cons (.p .bool) .nil)))),[(630015,true,(.rows 5 .byte)),(107,true,(.rows 27 (.int .u32))),(109,false,(.vars (.cons (.own 1 107 0 0) (.cons (.own 1 108 0 0) (.cons (.nilp (.pointer none)) .nil))))),(108,false,(.rows 27 (.int .u32))),(999999,false,(.fam 5 .byte))]⟩⟩ false [] (.reg [(2,{md:=[2,2],fn:=14}),(5,{md:=[2,0],fn:=15}),(10,{ids:=[110],md:=[1,1],fn:=16}),(14,{ids:=[111],md:=[1,0],fn:=17})])) (.two (.leaf) (.leaf))))))) (.leaf)))) (.round (.two (.leaf) (.two (.leaf) (.two (.one (.two (.leaf) (.two (.reg [(2,{md:=[1,1],fn:=12})]) (.two (.reg [(2,{md:=[1,0],fn:=13})]) (.two (.join ⟨[11,20,130,177],⟨(.cons (.slf 1 630015) (.cons (.own 1 107 0 0) (.cons (.slf 1 109) (.cons (.p .bool) .nil)))),[(630015,true,(.rows 5 .byte)),(107,true,(.rows 27 (.int .u32))),(109,false,(.vars (.cons (.own 1 107 0 0) (.cons (.own 1 108 0 0) (.cons (.nilp (.pointer none)) .nil))))),(108,true,(.rows 27 (.int .u32))),(999999,false,(.fam 5 .byte))]⟩⟩ false [] (.reg [(2,{md:=[2,2],fn:=14}),(5,{md:=[2,0],fn:=15}),(10,{ids:=[112],md:=[1,1],fn:=16}),(14,{ids:=[113],md:=[1,0],fn:=17})])) (.two (.leaf) (.leaf))))))) (.leaf)))) (.round (.two (.leaf) (.two (.leaf) (.two (.one (.two (.leaf) (.two (.reg [(2,{md:=[0,1],fn:=18})]) (.two (.reg [(2,{fn:=19})]) (.two (.join ⟨[11,20,130,177],⟨(.cons (.slf 1 630015) (.cons (.own 1 107 0 0) (.cons (.slf 1 109) (.cons (.p .bool) .nil)))),[(630015,true,(.rows 5 .byte)),(107,true,(.rows 27 (.int .u32))),(109,false,(.vars (.cons (.own 1 107 0 0) (.cons (.own 1 108 0 0) (.cons (.nilp (.pointer none)) .nil))))),(108,true,(.rows 27 (.int .u32))),(999999,false,(.fam 5 .byte))]⟩⟩ false [] (.reg [(2,{md:=[0,2],fn:=20}),(5,{fn:=21}),(10,{ids:=[114],md:=[0,1],fn:=22}),(14,{ids:=[115],fn:=23})])) (.two (.leaf) (.leaf))))))) (.leaf)))) (.round (.two (.leaf) (.two (.leaf) (.leaf))) (.leaf))))))) (.two (.reg [(1,{md:=[2,0],fn:=14}),(3,{fn:=24}),(7,{fn:=11}),(18,{})]) (.leaf)))))))))))))),⟨(.cons (.p (.int .u64)) (.cons (.p (.sl .byte)) (.cons (.p (.int .i64)) (.cons (.p (.int .i64)) qL4)))),[]⟩,[⟨(.cons (.p .bool) .nil),[]⟩],[0]⟩
def law01_BytesTells_ft(fu:Nat):FnT:=⟨8,law01_BytesTells_fa.i,law01_BytesTells_fa.os,fun t=>law01_BytesTells fu t.1 t.2.1 t.2.2.1 t.2.2.2.1 t.2.2.2.2⟩
theorem c7Z(fu:Nat):∀t,evF Go.Proofs.Try.prog [law01_awake_ft fu,lCopByt_ft fu,bGetUin_ft fu,rGetUin_ft fu,bGetBlor0_ft fu,rGetBlo_ft fu,bUinr0_ft fu,rUin_ft fu,bBlor0_ft fu,rBlo_ft fu,bTab_ft fu,rTab_ft fu,bUns_ft fu,rUns_ft fu,bytes_Sum_ft fu,ref01_Sum_ft fu,bSea_ft fu,rSea_ft fu,bUnsn0_ft fu,rUnsn0_ft fu,bSumn0_ft fu,rSumn0_ft fu,bSean0_ft fu,rSean0_ft fu,rBit_ft fu] fu Go.Proofs.Try.f8 law01_BytesTells_fa t=(law01_BytesTells_ft fu).spec t:=fun t=>by kernel_rfl
theorem law01_BytesTells_told(fu:Nat):Told Go.Proofs.Try.prog (law01_BytesTells_ft fu):=anZ (acZ (d1Z fu) (acZ (gsZ fu) (acZ (cjZ fu) (acZ (dxZ fu) (acZ (eEZ fu) (acZ (fPZ fu) (acZ (dOZ fu) (acZ (fUZ fu) (acZ (gCZ fu) (acZ (jmZ fu) (acZ (fKZ fu) (acZ (jxZ fu) (acZ (kbZ fu) (acZ (j7Z fu) (acZ (bJZ fu) (acZ (czZ fu) (acZ (dQZ fu) (acZ (fZZ fu) (acZ (haZ fu) (acZ (hiZ fu) (acZ (eiZ fu) (acZ (exZ fu) (acZ (eoZ fu) (acZ (eeZ fu) (acZ (iQZ fu) ajZ))))))))))))))))))))))))) aEZ Go.Proofs.Try.func8 (by kernel_rfl) (by kernel_rfl) (c7Z fu)
end
end Go.Ab.D
