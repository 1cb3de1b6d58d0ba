/- Functions of the program as plain Lean functions: each equation is checked by the kernel; what is told of a function follows from it. -/
import Derived.Test.YtndinkcemkfpdaaNetQueueD1
set_option linter.all false
set_option maxRecDepth 100000
set_option maxHeartbeats 4000000
namespace Go.Ab.D
open Go Go.Ab
noncomputable section
def law07_NetMost_l0 (fu : Nat) (most : Int) (i : Int) : Option (Int ⊕ (Unit ⊕ Bool)) :=
  bif (decide (i < (IntKind.wrap .i64 (1 + (IntKind.wrap .i64 (Int.tmod most 40)))))) then
    Option.bind (α := (Int)) (
      bif ((Int.tmod i 2) == 0) then
        (byte? (IntKind.wrap .u8 i)).bind fun c =>
        (net_Net_Send_n0 fu 0 1 [c]).bind fun r3 =>
        some r3
      else
        (net_Net_Copy_n0 fu 0).bind fun r4 =>
        some r4) fun o =>
    Option.bind (α := (Bool)) (
      bif (!(o == 0)) then
        some true
      else
        (net_Net_Waiting_n0 fu 1).bind fun r5 =>
        some (!(r5 == (IntKind.wrap .i64 (i + 1))))) fun o1 =>
    bif o1 then
      some (.inr (.inr false))
    else
      some (.inl (IntKind.wrap .i64 (i + 1)))
  else
    some (.inr (.inl ()))
def law07_NetMost_l0_it (fu : Nat) (most : Int) (tt : Int) : Option (Unit ⊕ Bool) :=
  iter fu (fun tt => law07_NetMost_l0 fu most tt) tt
def law07_NetMost_l1 (fu : Nat) (most : Int) (i1 : Int) (h : Int) (h1 : Int) (h2 : List ((Int × (Int × List (UInt8))))) (h3 : (List (((Int × Int) × Nat)) × Nat)) : Option ((Int × (Int × (Int × (List ((Int × (Int × List (UInt8)))) × (List (((Int × Int) × Nat)) × Nat))))) ⊕ ((Int × (Int × (List ((Int × (Int × List (UInt8)))) × (List (((Int × Int) × Nat)) × Nat)))) ⊕ Bool)) :=
  bif (decide (i1 < (IntKind.wrap .i64 (1 + (IntKind.wrap .i64 (Int.tmod most 40)))))) then
    Option.bind (α := ((Int × (Int × (Int × (List ((Int × (Int × List (UInt8)))) × (List (((Int × Int) × Nat)) × Nat))))))) (
      bif ((Int.tmod i1 2) == 0) then
        Option.bind (α := ((Int × (Int × (Int × (List ((Int × (Int × List (UInt8)))) × (List (((Int × Int) × Nat)) × Nat))))))) (
          (byte? (IntKind.wrap .u8 i1)).bind fun c1 =>
          (net_Net_Send__com fu 0 1 [c1] h h1 h2 h3).bind fun r17 =>
          match r17 with
          | .inl r18 =>
            some (r18.1, (r18.2.1, (r18.2.2.1, (r18.2.2.2.1, r18.2.2.2.2))))
          | .inr r19 =>
            some (r19.1, (r19.2.1, (r19.2.2.1, (r19.2.2.2.2, r19.2.2.2.1))))) fun o7 =>
        some (o7.1, (o7.2.1, (o7.2.2.1, (o7.2.2.2.1, o7.2.2.2.2))))
      else
        Option.bind (α := ((Int × (Int × (Int × (List ((Int × (Int × List (UInt8)))) × (List (((Int × Int) × Nat)) × Nat))))))) (
          (net_Net_Copy__com fu 0 h h1 h2 h3).bind fun r20 =>
          match r20 with
          | .inl r21 =>
            some (r21.1, (r21.2.1, (r21.2.2.1, (r21.2.2.2.1, r21.2.2.2.2))))
          | .inr r22 =>
            some (r22.1, (r22.2.1, (r22.2.2.1, (r22.2.2.2.2, r22.2.2.2.1))))) fun o8 =>
        some (o8.1, (o8.2.1, (o8.2.2.1, (o8.2.2.2.1, o8.2.2.2.2))))) fun o9 =>
    Option.bind (α := ((Bool × (Int × (Int × (List ((Int × (Int × List (UInt8)))) × (List (((Int × Int) × Nat)) × Nat))))))) (
      bif (!(o9.1 == 0)) then
        some (true, (o9.2.1, (o9.2.2.1, (o9.2.2.2.1, o9.2.2.2.2))))
      else
        (net_Net_Waiting__com fu 1 o9.2.1 o9.2.2.1 o9.2.2.2.1 o9.2.2.2.2).bind fun r23 =>
        some ((!(r23.1 == (IntKind.wrap .i64 (i1 + 1)))), (r23.2.1, (r23.2.2.1, (r23.2.2.2.1, r23.2.2.2.2))))) fun o10 =>
    bif o10.1 then
      some (.inr (.inr false))
    else
      some (.inl ((IntKind.wrap .i64 (i1 + 1)), (o10.2.1, (o10.2.2.1, (o10.2.2.2.1, o10.2.2.2.2)))))
  else
    some (.inr (.inl (h, (h1, (h2, h3)))))
def law07_NetMost_l1_it (fu : Nat) (most : Int) (tt : (Int × (Int × (Int × (List ((Int × (Int × List (UInt8)))) × (List (((Int × Int) × Nat)) × Nat)))))) : Option ((Int × (Int × (List ((Int × (Int × List (UInt8)))) × (List (((Int × Int) × Nat)) × Nat)))) ⊕ Bool) :=
  iter fu (fun tt => law07_NetMost_l1 fu most tt.1 tt.2.1 tt.2.2.1 tt.2.2.2.1 tt.2.2.2.2) tt
def law07_NetMost (fu : Nat) (most : Int) (way : Int) : Option (Bool) :=
  (net_New fu 2 (IntKind.wrap .i64 (1 + (IntKind.wrap .i64 (Int.tmod most 40))))).bind fun r =>
  match r with
  | .inl r1 =>
    bif (!(r1 == 0)) then
      some false
    else
      (law07_NetMost_l0_it fu most 0).bind fun o2 =>
      match o2 with
      | .inl s =>
        Option.bind (α := (Bool)) (
          (net_Net_Send_n0 fu 1 1 []).bind fun r6 =>
          bif (!(r6 == 5)) then
            some true
          else
            (net_Net_Copy_n0 fu 0).bind fun r7 =>
            bif (!(r7 == 5)) then
              some true
            else
              (net_Net_Send_n0 fu 1 0 []).bind fun r8 =>
              some (!(r8 == 0))) fun o4 =>
        bif o4 then
          some false
        else
          Option.bind (α := (Int)) (
            bif ((Int.tmod way 3) == 0) then
              (net_Net_Take_n0 fu 0).bind fun r9 =>
              some (IntKind.wrap .i64 ((IntKind.wrap .i64 (1 + (IntKind.wrap .i64 (Int.tmod most 40)))) - 1))
            else
              Option.bind (α := (Int)) (
                bif ((Int.tmod way 3) == 1) then
                  (net_Net_Drop_n0 fu (IntKind.wrap .i64 ((IntKind.wrap .i64 (1 + (IntKind.wrap .i64 (Int.tmod most 40)))) - 1))).bind fun r10 =>
                  some (IntKind.wrap .i64 ((IntKind.wrap .i64 (1 + (IntKind.wrap .i64 (Int.tmod most 40)))) - 1))
                else
                  (net_Net_Forget_n0 fu 1).bind fun r11 =>
                  some 0) fun o5 =>
              some o5) fun o6 =>
          (net_Net_Waiting_n0 fu 1).bind fun r12 =>
          bif (r12 == o6) then
            (net_Net_Waiting_n0 fu 0).bind fun r13 =>
            bif (r13 == 1) then
              (net_Net_Send_n0 fu 0 1 []).bind fun r14 =>
              bif (r14 == 0) then
                (net_Net_Waiting_n0 fu 1).bind fun r15 =>
                bif (r15 == (IntKind.wrap .i64 (o6 + 1))) then
                  (law07_awake fu).bind fun r16 =>
                  some r16
                else
                  some false
              else
                some false
            else
              some false
          else
            some false
      | .inr o3 =>
        some o3
  | .inr r2 =>
    bif (!(r2.1 == 0)) then
      some false
    else
      (law07_NetMost_l1_it fu most (0, (r2.2.1, (r2.2.2.1, ([], r2.2.2.2))))).bind fun o11 =>
      match o11 with
      | .inl s1 =>
        Option.bind (α := ((Bool × (Int × (Int × (List ((Int × (Int × List (UInt8)))) × (List (((Int × Int) × Nat)) × Nat))))))) (
          (net_Net_Send__com fu 1 1 [] s1.1 s1.2.1 s1.2.2.1 s1.2.2.2).bind fun r24 =>
          match r24 with
          | .inl r25 =>
            bif (!(r25.1 == 5)) then
              some (true, (r25.2.1, (r25.2.2.1, (r25.2.2.2.1, r25.2.2.2.2))))
            else
              (net_Net_Copy__com fu 0 r25.2.1 r25.2.2.1 r25.2.2.2.1 r25.2.2.2.2).bind fun r27 =>
              match r27 with
              | .inl r28 =>
                bif (!(r28.1 == 5)) then
                  some (true, (r28.2.1, (r28.2.2.1, (r28.2.2.2.1, r28.2.2.2.2))))
                else
                  (net_Net_Send__com fu 1 0 [] r28.2.1 r28.2.2.1 r28.2.2.2.1 r28.2.2.2.2).bind fun r30 =>
                  match r30 with
                  | .inl r31 =>
                    some ((!(r31.1 == 0)), (r31.2.1, (r31.2.2.1, (r31.2.2.2.1, r31.2.2.2.2))))
                  | .inr r32 =>
                    some ((!(r32.1 == 0)), (r32.2.1, (r32.2.2.1, (r32.2.2.2.2, r32.2.2.2.1))))
              | .inr r29 =>
                bif (!(r29.1 == 5)) then
                  some (true, (r29.2.1, (r29.2.2.1, (r29.2.2.2.2, r29.2.2.2.1))))
                else
                  (net_Net_Send__com fu 1 0 [] r29.2.1 r29.2.2.1 r29.2.2.2.2 r29.2.2.2.1).bind fun r33 =>
                  match r33 with
                  | .inl r34 =>
                    some ((!(r34.1 == 0)), (r34.2.1, (r34.2.2.1, (r34.2.2.2.1, r34.2.2.2.2))))
                  | .inr r35 =>
                    some ((!(r35.1 == 0)), (r35.2.1, (r35.2.2.1, (r35.2.2.2.2, r35.2.2.2.1))))
          | .inr r26 =>
            bif (!(r26.1 == 5)) then
              some (true, (r26.2.1, (r26.2.2.1, (r26.2.2.2.2, r26.2.2.2.1))))
            else
              (net_Net_Copy__com fu 0 r26.2.1 r26.2.2.1 r26.2.2.2.2 r26.2.2.2.1).bind fun r36 =>
              match r36 with
              | .inl r37 =>
                bif (!(r37.1 == 5)) then
                  some (true, (r37.2.1, (r37.2.2.1, (r37.2.2.2.1, r37.2.2.2.2))))
                else
                  (net_Net_Send__com fu 1 0 [] r37.2.1 r37.2.2.1 r37.2.2.2.1 r37.2.2.2.2).bind fun r39 =>
                  match r39 with
                  | .inl r40 =>
                    some ((!(r40.1 == 0)), (r40.2.1, (r40.2.2.1, (r40.2.2.2.1, r40.2.2.2.2))))
                  | .inr r41 =>
                    some ((!(r41.1 == 0)), (r41.2.1, (r41.2.2.1, (r41.2.2.2.2, r41.2.2.2.1))))
              | .inr r38 =>
                bif (!(r38.1 == 5)) then
                  some (true, (r38.2.1, (r38.2.2.1, (r38.2.2.2.2, r38.2.2.2.1))))
                else
                  (net_Net_Send__com fu 1 0 [] r38.2.1 r38.2.2.1 r38.2.2.2.2 r38.2.2.2.1).bind fun r42 =>
                  match r42 with
                  | .inl r43 =>
                    some ((!(r43.1 == 0)), (r43.2.1, (r43.2.2.1, (r43.2.2.2.1, r43.2.2.2.2))))
                  | .inr r44 =>
                    some ((!(r44.1 == 0)), (r44.2.1, (r44.2.2.1, (r44.2.2.2.2, r44.2.2.2.1))))) fun o13 =>
        bif o13.1 then
          some false
        else
          Option.bind (α := ((Int × (Int × (Int × (List ((Int × (Int × List (UInt8)))) × (List (((Int × Int) × Nat)) × Nat))))))) (
            bif ((Int.tmod way 3) == 0) then
              Option.bind (α := ((Int × (Int × (List ((Int × (Int × List (UInt8)))) × (List (((Int × Int) × Nat)) × Nat)))))) (
                (net_Net_Take__com fu 0 o13.2.1 o13.2.2.1 o13.2.2.2.1 o13.2.2.2.2).bind fun r45 =>
                match r45 with
                | .inl r46 =>
                  some (r46.2.2.2.2.1, (r46.2.2.2.2.2.1, (r46.2.2.2.2.2.2.1, r46.2.2.2.2.2.2.2)))
                | .inr r47 =>
                  some (r47.2.2.2.2.1, (r47.2.2.2.2.2.1, (r47.2.2.2.2.2.2.2.2, r47.2.2.2.2.2.2.1)))) fun o14 =>
              some ((IntKind.wrap .i64 ((IntKind.wrap .i64 (1 + (IntKind.wrap .i64 (Int.tmod most 40)))) - 1)), (o14.1, (o14.2.1, (o14.2.2.1, o14.2.2.2))))
            else
              Option.bind (α := ((Int × (Int × (Int × (List ((Int × (Int × List (UInt8)))) × (List (((Int × Int) × Nat)) × Nat))))))) (
                bif ((Int.tmod way 3) == 1) then
                  Option.bind (α := ((Int × (Int × (List ((Int × (Int × List (UInt8)))) × (List (((Int × Int) × Nat)) × Nat)))))) (
                    (net_Net_Drop__com fu (IntKind.wrap .i64 ((IntKind.wrap .i64 (1 + (IntKind.wrap .i64 (Int.tmod most 40)))) - 1)) o13.2.1 o13.2.2.1 o13.2.2.2.1 o13.2.2.2.2).bind fun r48 =>
                    match r48 with
                    | .inl r49 =>
                      some (r49.2.1, (r49.2.2.1, (r49.2.2.2.1, r49.2.2.2.2)))
                    | .inr r50 =>
                      some (r50.2.1, (r50.2.2.1, (r50.2.2.2.2.2, r50.2.2.2.1)))) fun o15 =>
                  some ((IntKind.wrap .i64 ((IntKind.wrap .i64 (1 + (IntKind.wrap .i64 (Int.tmod most 40)))) - 1)), (o15.1, (o15.2.1, (o15.2.2.1, o15.2.2.2))))
                else
                  (net_Net_Forget__com fu 1 o13.2.1 o13.2.2.1 o13.2.2.2.1 o13.2.2.2.2).bind fun r51 =>
                  some (0, (r51.2.1, (r51.2.2.1, (r51.2.2.2.2, r51.2.2.2.1))))) fun o16 =>
              some (o16.1, (o16.2.1, (o16.2.2.1, (o16.2.2.2.1, o16.2.2.2.2))))) fun o17 =>
          (net_Net_Waiting__com fu 1 o17.2.1 o17.2.2.1 o17.2.2.2.1 o17.2.2.2.2).bind fun r52 =>
          bif (r52.1 == o17.1) then
            (net_Net_Waiting__com fu 0 r52.2.1 r52.2.2.1 r52.2.2.2.1 r52.2.2.2.2).bind fun r53 =>
            bif (r53.1 == 1) then
              (net_Net_Send__com fu 0 1 [] r53.2.1 r53.2.2.1 r53.2.2.2.1 r53.2.2.2.2).bind fun r54 =>
              match r54 with
              | .inl r55 =>
                bif (r55.1 == 0) then
                  (net_Net_Waiting__com fu 1 r55.2.1 r55.2.2.1 r55.2.2.2.1 r55.2.2.2.2).bind fun r57 =>
                  bif (r57.1 == (IntKind.wrap .i64 (o17.1 + 1))) then
                    (law07_awake fu).bind fun r58 =>
                    some r58
                  else
                    some false
                else
                  some false
              | .inr r56 =>
                bif (r56.1 == 0) then
                  (net_Net_Waiting__com fu 1 r56.2.1 r56.2.2.1 r56.2.2.2.2 r56.2.2.2.1).bind fun r59 =>
                  bif (r59.1 == (IntKind.wrap .i64 (o17.1 + 1))) then
                    (law07_awake fu).bind fun r60 =>
                    some r60
                  else
                    some false
                else
                  some false
            else
              some false
          else
            some false
      | .inr o12 =>
        some o12
def law07_NetMost_fa : FnA := ⟨.two (.leaf) (.two (.leaf) (.two (.reg [(1, { ids := [100, 101] })]) (.sel (.slot 6 (.nilp (.pointer none))) (.two (.two (.leaf) (.two (.leaf) (.leaf))) (.two (.two (.leaf) (.one (.loop ⟨[8], ⟨(.cons (.p (.int .i64)) .nil), []⟩⟩ true [(0, ⟨[], ⟨.nil, []⟩⟩)] (.two (.two (.leaf) (.leaf)) (.two (.one (.two (.leaf) (.two (.two (.leaf) (.join ⟨[9], ⟨(.cons (.p (.int .i64)) .nil), []⟩⟩ false [] (.two (.reg [(3, { ids := [103] }), (4, { md := [0, 0, 0, 2], fn := 1 })]) (.reg [(1, { fn := 2 })])))) (.two (.join ⟨[45], ⟨(.cons (.p .bool) .nil), []⟩⟩ false [] (.reg [(4, { fn := 3 })])) (.two (.leaf) (.leaf)))))) (.leaf)))))) (.two (.two (.join ⟨[58], ⟨(.cons (.p .bool) .nil), []⟩⟩ false [] (.reg [(1, { fn := 1 }), (5, { fn := 2 }), (10, { fn := 1 })])) (.two (.leaf) (.leaf))) (.two (.leaf) (.two (.two (.leaf) (.one (.two (.leaf) (.join ⟨[10], ⟨(.cons (.p (.int .i64)) .nil), []⟩⟩ false [] (.two (.reg [(1, { fn := 4 })]) (.two (.leaf) (.join ⟨[10], ⟨(.cons (.p (.int .i64)) .nil), []⟩⟩ false [] (.two (.reg [(3, { fn := 5 })]) (.two (.reg [(1, { fn := 6 })]) (.leaf)))))))))) (.two (.reg [(1, { fn := 3 }), (6, { fn := 3 }), (11, { fn := 1 }), (16, { fn := 3 }), (22, { fn := 7 })]) (.leaf))))))) (.two (.two (.leaf) (.two (.leaf) (.leaf))) (.two (.two (.leaf) (.one (.pre (.ownCell 100 2 34 103) (.loop ⟨[6, 8], ⟨(.cons (.own 0 100 0 0) (.cons (.p (.int .i64)) .nil)), [(100, false, (.vars (.cons (.p (.int .i64)) (.cons (.p (.int .i64)) (.cons (.slf 3 103) (.cons (.mp 101) .nil)))))), (103, false, (.rows 34 (.pair (.int .i64) (.pair (.int .i64) (.sl .byte))))), (101, false, (.map (.int .i64) (.int .i64)))]⟩⟩ true [(0, ⟨[6], ⟨(.cons (.own 0 100 0 0) .nil), [(100, false, (.vars (.cons (.p (.int .i64)) (.cons (.p (.int .i64)) (.cons (.slf 3 103) (.cons (.mp 101) .nil)))))), (103, false, (.rows 34 (.pair (.int .i64) (.pair (.int .i64) (.sl .byte))))), (101, false, (.map (.int .i64) (.int .i64)))]⟩⟩)] (.two (.two (.leaf) (.leaf)) (.two (.one (.two (.leaf) (.two (.two (.leaf) (.join ⟨[6, 9], ⟨(.cons (.own 0 100 0 0) (.cons (.p (.int .i64)) .nil)), [(100, false, (.vars (.cons (.p (.int .i64)) (.cons (.p (.int .i64)) (.cons (.slf 3 103) (.cons (.mp 101) .nil)))))), (103, false, (.rows 34 (.pair (.int .i64) (.pair (.int .i64) (.sl .byte))))), (101, false, (.map (.int .i64) (.int .i64)))]⟩⟩ false [] (.two (.join ⟨[6, 9], ⟨(.cons (.own 0 100 0 0) (.cons (.p (.int .i64)) .nil)), [(100, false, (.vars (.cons (.p (.int .i64)) (.cons (.p (.int .i64)) (.cons (.slf 3 103) (.cons (.mp 101) .nil)))))), (103, false, (.rows 34 (.pair (.int .i64) (.pair (.int .i64) (.sl .byte))))), (101, false, (.map (.int .i64) (.int .i64)))]⟩⟩ false [] (.reg [(3, { ids := [104] }), (4, { ids := [105], sh := [100, 103, 101], md := [0, 0, 0, 1], fn := 8 })])) (.join ⟨[6, 9], ⟨(.cons (.own 0 100 0 0) (.cons (.p (.int .i64)) .nil)), [(100, false, (.vars (.cons (.p (.int .i64)) (.cons (.p (.int .i64)) (.cons (.slf 3 103) (.cons (.mp 101) .nil)))))), (103, false, (.rows 34 (.pair (.int .i64) (.pair (.int .i64) (.sl .byte))))), (101, false, (.map (.int .i64) (.int .i64)))]⟩⟩ false [] (.reg [(1, { ids := [106], sh := [100, 103, 101], fn := 9 })]))))) (.two (.join ⟨[6, 45], ⟨(.cons (.own 0 100 0 0) (.cons (.p .bool) .nil)), [(100, false, (.vars (.cons (.p (.int .i64)) (.cons (.p (.int .i64)) (.cons (.slf 3 103) (.cons (.mp 101) .nil)))))), (103, false, (.rows 34 (.pair (.int .i64) (.pair (.int .i64) (.sl .byte))))), (101, false, (.map (.int .i64) (.int .i64)))]⟩⟩ false [] (.reg [(4, { sh := [100, 103, 101], fn := 10 })])) (.two (.leaf) (.leaf)))))) (.leaf))))))) (.two (.two (.join ⟨[6, 58], ⟨(.cons (.own 0 100 0 0) (.cons (.p .bool) .nil)), [(100, false, (.vars (.cons (.p (.int .i64)) (.cons (.p (.int .i64)) (.cons (.slf 3 103) (.cons (.mp 101) .nil)))))), (103, false, (.rows 34 (.pair (.int .i64) (.pair (.int .i64) (.sl .byte))))), (101, false, (.map (.int .i64) (.int .i64)))]⟩⟩ false [] (.reg [(1, { ids := [107], sh := [100, 103, 101], fn := 8 }), (5, { ids := [108], sh := [100, 103, 101], fn := 9, more := [{ ids := [108], sh := [100, 107, 101], fn := 9 }] }), (10, { ids := [109], sh := [100, 103, 101], fn := 8, more := [{ ids := [109], sh := [100, 108, 101], fn := 8 }, { ids := [109], sh := [100, 107, 101], fn := 8 }] })])) (.two (.leaf) (.leaf))) (.two (.leaf) (.two (.two (.leaf) (.one (.two (.leaf) (.join ⟨[6, 10], ⟨(.cons (.own 0 100 0 0) (.cons (.p (.int .i64)) .nil)), [(100, false, (.vars (.cons (.p (.int .i64)) (.cons (.p (.int .i64)) (.cons (.slf 3 103) (.cons (.mp 101) .nil)))))), (103, false, (.rows 34 (.pair (.int .i64) (.pair (.int .i64) (.sl .byte))))), (101, false, (.map (.int .i64) (.int .i64)))]⟩⟩ false [] (.two (.join ⟨[6], ⟨(.cons (.own 0 100 0 0) .nil), [(100, false, (.vars (.cons (.p (.int .i64)) (.cons (.p (.int .i64)) (.cons (.slf 3 103) (.cons (.mp 101) .nil)))))), (103, false, (.rows 34 (.pair (.int .i64) (.pair (.int .i64) (.sl .byte))))), (101, false, (.map (.int .i64) (.int .i64)))]⟩⟩ false [] (.reg [(1, { ids := [110], sh := [100, 103, 101], fn := 11 })])) (.two (.leaf) (.join ⟨[6, 10], ⟨(.cons (.own 0 100 0 0) (.cons (.p (.int .i64)) .nil)), [(100, false, (.vars (.cons (.p (.int .i64)) (.cons (.p (.int .i64)) (.cons (.slf 3 103) (.cons (.mp 101) .nil)))))), (103, false, (.rows 34 (.pair (.int .i64) (.pair (.int .i64) (.sl .byte))))), (101, false, (.map (.int .i64) (.int .i64)))]⟩⟩ false [] (.two (.join ⟨[6], ⟨(.cons (.own 0 100 0 0) .nil), [(100, false, (.vars (.cons (.p (.int .i64)) (.cons (.p (.int .i64)) (.cons (.slf 3 103) (.cons (.mp 101) .nil)))))), (103, false, (.rows 34 (.pair (.int .i64) (.pair (.int .i64) (.sl .byte))))), (101, false, (.map (.int .i64) (.int .i64)))]⟩⟩ false [] (.reg [(3, { ids := [111], sh := [100, 103, 101], fn := 12 })])) (.two (.reg [(1, { ids := [112], sh := [100, 103, 101], fn := 13 })]) (.leaf)))))))))) (.two (.reg [(1, { sh := [100, 103, 101], fn := 10 }), (6, { sh := [100, 103, 101], fn := 10 }), (11, { ids := [113], sh := [100, 103, 101], fn := 8 }), (16, { sh := [100, 103, 101], fn := 10, more := [{ sh := [100, 113, 101], fn := 10 }] }), (22, { fn := 7 })]) (.leaf)))))))))), ⟨(.cons (.p (.int .u8)) (.cons (.p (.int .u8)) .nil)), []⟩, [⟨(.cons (.p .bool) .nil), []⟩], [0]⟩
def law07_NetMost_ft (fu : Nat) : FnT := ⟨9, ⟨(.cons (.p (.int .u8)) (.cons (.p (.int .u8)) .nil)), []⟩, [⟨(.cons (.p .bool) .nil), []⟩], fun t => law07_NetMost fu t.1 t.2⟩
theorem law07_NetMost_eq (fu : Nat) : ∀ t, evF Go.Proofs.Try.prog [net_New_ft fu, net_Net_Send_n0_ft fu, net_Net_Copy_n0_ft fu, net_Net_Waiting_n0_ft fu, net_Net_Take_n0_ft fu, net_Net_Drop_n0_ft fu, net_Net_Forget_n0_ft fu, law07_awake_ft fu, net_Net_Send__com_ft fu, net_Net_Copy__com_ft fu, net_Net_Waiting__com_ft fu, net_Net_Take__com_ft fu, net_Net_Drop__com_ft fu, net_Net_Forget__com_ft fu] fu Go.Proofs.Try.f9 law07_NetMost_fa t = (law07_NetMost_ft fu).spec t := fun t => by kernel_rfl
theorem law07_NetMost_told (fu : Nat) : Told Go.Proofs.Try.prog (law07_NetMost_ft fu) := told_of (allT_cons (net_New_told fu) (allT_cons (net_Net_Send_n0_told fu) (allT_cons (net_Net_Copy_n0_told fu) (allT_cons (net_Net_Waiting_n0_told fu) (allT_cons (net_Net_Take_n0_told fu) (allT_cons (net_Net_Drop_n0_told fu) (allT_cons (net_Net_Forget_n0_told fu) (allT_cons (law07_awake_told fu) (allT_cons (net_Net_Send__com_told fu) (allT_cons (net_Net_Copy__com_told fu) (allT_cons (net_Net_Waiting__com_told fu) (allT_cons (net_Net_Take__com_told fu) (allT_cons (net_Net_Drop__com_told fu) (allT_cons (net_Net_Forget__com_told fu) allT_nil)))))))))))))) mixed Go.Proofs.Try.func9 (by kernel_rfl) (by kernel_rfl) (law07_NetMost_eq fu)
end
end Go.Ab.D
