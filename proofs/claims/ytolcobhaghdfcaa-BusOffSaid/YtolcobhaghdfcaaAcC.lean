/- The short forms of the program's functions, printed by a program (wip/ShowCode.lean) and held against the loaded program by reckoning. -/
import Derived.Test.YtolcobhaghdfcaaTbl
import Derived.Test.YtolcobhaghdfcaaEng
set_option maxRecDepth 100000
namespace Go.Proofs.Ytolcobhaghdfcaa
open Sx Go
/-! f18 casemate/casematelaw13.two -/
noncomputable def R18_0 : List GOp := [(none, .mov 2 (.k (.v (.pointer none)))), (none, .mov 3 (.k (.v (.pointer none)))), (none, .mov 4 (.k (.v (.pointer none))))]
noncomputable def R18_1 : List GOp := [(none, .call 14 (.k (.fn (.func 62) [] [])) [(.k (.v (.int .i64 4)))]), (none, .mov 13 (.t 14)), (none, .ext 15 0 (.t 13)), (none, .ext 16 1 (.t 13)), (none, .mov 5 (.t 15)), (none, .mov 6 (.t 16))]
noncomputable def R18_2 : List GOp := [(none, .call 18 (.k (.fn (.func 62) [] [])) [(.k (.v (.int .i64 4)))]), (none, .mov 17 (.t 18)), (none, .ext 19 0 (.t 17)), (none, .ext 20 1 (.t 17)), (none, .mov 7 (.t 19)), (none, .mov 8 (.t 20))]
noncomputable def R18_3 : List GOp := [(none, .build 22 [(.v (.int .u64 0)), (.run .u8 32 (List.replicate 32 0))] []), (none, .call 23 (.k (.fn (.func 63) [] [])) [(.t 22)]), (none, .mov 21 (.t 23)), (none, .ext 24 0 (.t 21)), (none, .ext 25 1 (.t 21)), (none, .mov 9 (.t 24)), (none, .mov 10 (.t 25))]
noncomputable def R18_4 : List GOp := [(none, .mov 27 (.t 5)), (none, .mov 28 (.t 7)), (none, .bslice 29 42 2 [(.v (.pointer none)), (.v (.pointer none))] [(0, 1, (.t 27)), (1, 1, (.t 28))]), (none, .mov 30 (.t 9)), (none, .mov 31 (.t 0)), (none, .call 32 (.k (.fn (.func 64) [] [])) [(.t 29), (.t 30), (.t 31)]), (none, .mov 26 (.t 32)), (none, .ext 33 0 (.t 26)), (none, .ext 34 1 (.t 26)), (none, .mov 11 (.t 33)), (none, .mov 12 (.t 34))]
noncomputable def R18_5 : List GOp := [(none, .mov 35 (.t 12)), (none, .bin 36 .neq (.t 35) (.k (.v (.int .i64 0))))]
noncomputable def R18_6 : List GOp := [(none, .mov 2 (.k (.v (.pointer none)))), (none, .mov 3 (.k (.v (.pointer none)))), (none, .mov 4 (.k (.v (.pointer none))))]
noncomputable def T18_7 : ACode := (.seq (.region R18_6) .ret)
noncomputable def T18_8 : ACode := (.cond (.t 36) T18_7 .skip)
noncomputable def R18_9 : List GOp := [(none, .mov 37 (.t 11)), (none, .mov 38 (.t 5)), (none, .mov 39 (.t 7)), (none, .mov 2 (.t 37)), (none, .mov 3 (.t 38)), (none, .mov 4 (.t 39))]
noncomputable def T18_10 : ACode := (.seq (.region R18_9) .ret)
noncomputable def T18_11 : ACode := (.seq (.seq (.region R18_5) T18_8) T18_10)
noncomputable def T18_12 : ACode := (.seq (.region R18_4) T18_11)
noncomputable def T18_13 : ACode := (.seq (.region R18_3) T18_12)
noncomputable def T18_14 : ACode := (.seq (.region R18_2) T18_13)
noncomputable def T18_15 : ACode := (.seq (.region R18_1) T18_14)
noncomputable def A18 : ACode := (.seq (.region R18_0) T18_15)
theorem A18_ok : comp tbl 40 ((Try.f18.body).getD .skip) = some A18 := by kernel_rfl
/-! f20 (*casemate/bus.Bus).Write -/
noncomputable def R20_0 : List GOp := [(none, .box 7 25 (.t 3)), (none, .mov 8 (.k (.v (.int .i64 0))))]
noncomputable def R20_1 : List GOp := [(none, .mov 9 (.t 0)), (none, .call 10 (.k (.fn (.func 69) [] [])) [(.t 9)]), (none, .not 11 (.t 10))]
noncomputable def R20_2 : List GOp := [(none, .mov 8 (.k (.v (.int .i64 1))))]
noncomputable def T20_3 : ACode := (.seq (.region R20_2) .ret)
noncomputable def T20_4 : ACode := (.cond (.t 11) T20_3 .skip)
noncomputable def R20_5 : List GOp := [(none, .mov 12 (.t 0)), (none, .mov 13 (.t 1)), (none, .mov 14 (.t 2)), (none, .load 15 64 true (.t 7)), (none, .build 16 [(.v (.int .i64 0)), (.v (.int .i64 0)), (.v (.int .i64 0)), (.run .u8 64 (List.replicate 64 0)), (.v (.int .i64 0))] [(0, 1, (.k (.v (.int .i64 2)))), (1, 1, (.t 13)), (2, 1, (.t 14)), (3, 64, (.t 15))]), (none, .call 17 (.k (.fn (.func 70) [] [])) [(.t 12), (.t 16), (.k (.fn (.func 71) [] []))]), (none, .fldv 18 67 1 false (.t 17)), (none, .mov 8 (.t 18))]
noncomputable def T20_6 : ACode := (.seq (.region R20_5) .ret)
noncomputable def T20_7 : ACode := (.seq (.seq (.region R20_1) T20_4) T20_6)
noncomputable def A20 : ACode := (.seq (.region R20_0) T20_7)
theorem A20_ok : comp tbl 19 ((Try.f20.body).getD .skip) = some A20 := by kernel_rfl
/-! f22 (*casemate/bus.Bus).Flush -/
noncomputable def R22_0 : List GOp := [(none, .mov 4 (.k (.v (.int .i64 0))))]
noncomputable def R22_1 : List GOp := [(none, .mov 5 (.t 0)), (none, .call 6 (.k (.fn (.func 69) [] [])) [(.t 5)]), (none, .not 7 (.t 6))]
noncomputable def R22_2 : List GOp := [(none, .mov 4 (.k (.v (.int .i64 1))))]
noncomputable def T22_3 : ACode := (.seq (.region R22_2) .ret)
noncomputable def T22_4 : ACode := (.cond (.t 7) T22_3 .skip)
noncomputable def R22_5 : List GOp := [(none, .mov 8 (.t 0)), (none, .mov 9 (.t 1)), (none, .build 10 [(.v (.int .i64 0)), (.v (.int .i64 0)), (.v (.int .i64 0)), (.run .u8 64 (List.replicate 64 0)), (.v (.int .i64 0))] [(0, 1, (.k (.v (.int .i64 3)))), (1, 1, (.t 9))]), (none, .call 11 (.k (.fn (.func 70) [] [])) [(.t 8), (.t 10), (.k (.fn (.func 74) [] []))]), (none, .fldv 12 67 1 false (.t 11)), (none, .mov 4 (.t 12))]
noncomputable def T22_6 : ACode := (.seq (.region R22_5) .ret)
noncomputable def T22_7 : ACode := (.seq (.seq (.region R22_1) T22_4) T22_6)
noncomputable def A22 : ACode := (.seq (.region R22_0) T22_7)
theorem A22_ok : comp tbl 13 ((Try.f22.body).getD .skip) = some A22 := by kernel_rfl
/-! f24 (*casemate/bus.Bus).Read -/
noncomputable def R24_0 : List GOp := [(none, .alloc 6 25 [(.run .u8 64 (List.replicate 64 0))]), (none, .mov 7 (.k (.v (.int .i64 0))))]
noncomputable def R24_1 : List GOp := [(none, .mov 9 (.t 0)), (none, .call 10 (.k (.fn (.func 69) [] [])) [(.t 9)]), (none, .not 11 (.t 10))]
noncomputable def R24_2 : List GOp := [(none, .build 12 [(.run .u8 64 (List.replicate 64 0))] []), (none, .store 64 (.t 6) (.t 12)), (none, .mov 7 (.k (.v (.int .i64 1))))]
noncomputable def T24_3 : ACode := (.seq (.region R24_2) .ret)
noncomputable def T24_4 : ACode := (.cond (.t 11) T24_3 .skip)
noncomputable def R24_5 : List GOp := [(none, .mov 13 (.t 0)), (none, .mov 14 (.t 1)), (none, .mov 15 (.t 2)), (none, .build 16 [(.v (.int .i64 0)), (.v (.int .i64 0)), (.v (.int .i64 0)), (.run .u8 64 (List.replicate 64 0)), (.v (.int .i64 0))] [(0, 1, (.k (.v (.int .i64 1)))), (1, 1, (.t 14)), (2, 1, (.t 15))]), (none, .call 17 (.k (.fn (.func 70) [] [])) [(.t 13), (.t 16), (.k (.fn (.func 77) [] []))]), (none, .alloc 8 64 [(.v (.int .i64 0)), (.v (.int .i64 0)), (.v (.int .i64 0)), (.run .u8 64 (List.replicate 64 0)), (.v (.int .i64 0))]), (none, .store 68 (.t 8) (.t 17))]
noncomputable def R24_6 : List GOp := [(none, .fld 18 3 (.t 8)), (none, .load 19 64 true (.t 18)), (none, .fld 20 67 (.t 8)), (none, .load 21 1 false (.t 20)), (none, .store 64 (.t 6) (.t 19)), (none, .mov 7 (.t 21))]
noncomputable def O24_4 : List (Nat × Kd) := [(0, .quiet), (1, .quiet), (2, .quiet), (3, .quiet), (4, .loud), (5, .quiet)]
noncomputable def Q24_4 : List (Nat × Kd × GOp) := [(0, .quiet, (none, .fld 18 3 (.t 8))), (1, .quiet, (none, .load 19 64 true (.t 18))), (2, .quiet, (none, .fld 20 67 (.t 8))), (3, .quiet, (none, .load 21 1 false (.t 20))), (4, .loud, (none, .store 64 (.t 6) (.t 19))), (5, .quiet, (none, .mov 7 (.t 21)))]
theorem O24_4_ok : chkDraw (regOf Try.f24 4) O24_4 = true := by kernel_rfl
theorem Q24_4_ok : orderL R24_6 O24_4 = some Q24_4 := by kernel_rfl
noncomputable def T24_7 : ACode := (.seq (.draw (regOf Try.f24 4) R24_6) .ret)
noncomputable def T24_8 : ACode := (.seq (.region R24_5) T24_7)
noncomputable def T24_9 : ACode := (.seq (.seq (.region R24_1) T24_4) T24_8)
noncomputable def A24 : ACode := (.seq (.region R24_0) T24_9)
theorem A24_ok : comp tbl 22 ((Try.f24.body).getD .skip) = some A24 := by kernel_rfl
/-! f28 (*casemate/bus.Bus).Off -/
noncomputable def R28_0 : List GOp := [(none, .mov 2 (.k .ff))]
noncomputable def R28_1 : List GOp := [(none, .mov 3 (.t 0)), (none, .call 4 (.k (.fn (.func 69) [] [])) [(.t 3)]), (none, .mov 5 (.t 4)), (some (5, true), .mov 6 (.t 0)), (some (5, true), .nilc 7 (.t 6)), (some (5, true), .fld 8 3 (.t 7)), (some (5, true), .load 9 1 false (.t 8)), (none, .pick 10 5 (.t 9) (.k .ff)), (none, .mov 2 (.t 10))]
noncomputable def T28_2 : ACode := (.seq (.region R28_1) .ret)
noncomputable def A28 : ACode := (.seq (.region R28_0) T28_2)
theorem A28_ok : comp tbl 11 ((Try.f28.body).getD .skip) = some A28 := by kernel_rfl
/-! f29 casemate/casematelaw13.over -/
noncomputable def R29_0 : List GOp := [(none, .box 3 50 (.t 1)), (none, .mov 4 (.k (.v (.int .i64 0))))]
noncomputable def R29_1 : List GOp := [(none, .fld 11 0 (.t 3)), (none, .load 12 1 false (.t 11)), (none, .bin 13 .and (.t 12) (.k (.v (.int .i64 7))))]
noncomputable def R29_2 : List GOp := [(none, .bin 15 .eql (.t 13) (.k (.v (.int .i64 1)))), (none, .mov 14 (.t 15))]
noncomputable def R29_3 : List GOp := [(none, .bin 16 .eql (.t 13) (.k (.v (.int .i64 2)))), (none, .mov 14 (.t 16))]
noncomputable def T29_4 : ACode := (.region R29_3)
noncomputable def T29_5 : ACode := (.cond (.t 14) .skip T29_4)
noncomputable def R29_6 : List GOp := [(none, .mov 17 (.t 0)), (none, .fld 18 1 (.t 3)), (none, .load 19 1 false (.t 18)), (none, .fld 20 2 (.t 3)), (none, .load 21 1 false (.t 20)), (none, .fld 22 3 (.t 3)), (none, .load 23 64 true (.t 22)), (none, .call 24 (.k (.fn (.func 20) [] [])) [(.t 17), (.t 19), (.t 21), (.t 23)]), (none, .mov 4 (.t 24))]
noncomputable def T29_7 : ACode := (.seq (.region R29_6) .ret)
noncomputable def R29_8 : List GOp := [(none, .bin 26 .eql (.t 13) (.k (.v (.int .i64 3)))), (none, .mov 25 (.t 26))]
noncomputable def R29_9 : List GOp := [(none, .mov 27 (.t 0)), (none, .fld 28 1 (.t 3)), (none, .load 29 1 false (.t 28)), (none, .call 30 (.k (.fn (.func 22) [] [])) [(.t 27), (.t 29)]), (none, .mov 4 (.t 30))]
noncomputable def T29_10 : ACode := (.seq (.region R29_9) .ret)
noncomputable def R29_11 : List GOp := [(none, .bin 32 .eql (.t 13) (.k (.v (.int .i64 4)))), (none, .mov 31 (.t 32))]
noncomputable def R29_12 : List GOp := [(none, .mov 34 (.t 0)), (none, .call 35 (.k (.fn (.func 32) [] [])) [(.t 34)]), (none, .mov 33 (.t 35)), (none, .ext 36 0 (.t 33)), (none, .ext 37 1 (.t 33)), (none, .alloc 5 69 [(.v (.int .u64 0)), (.run .u8 32 (List.replicate 32 0))]), (none, .store 33 (.t 5) (.t 36)), (none, .mov 6 (.t 37))]
noncomputable def R29_13 : List GOp := [(none, .mov 38 (.t 6)), (none, .mov 4 (.t 38))]
noncomputable def T29_14 : ACode := (.seq (.region R29_13) .ret)
noncomputable def T29_15 : ACode := (.seq (.region R29_12) T29_14)
noncomputable def R29_16 : List GOp := [(none, .bin 40 .eql (.t 13) (.k (.v (.int .i64 5)))), (none, .mov 39 (.t 40))]
noncomputable def R29_17 : List GOp := [(none, .mov 42 (.t 0)), (none, .fld 43 67 (.t 3)), (none, .load 44 32 true (.t 43)), (none, .call 45 (.k (.fn (.func 79) [] [])) [(.t 42), (.t 44)]), (none, .mov 41 (.t 45)), (none, .ext 46 0 (.t 41)), (none, .ext 47 1 (.t 41)), (none, .mov 7 (.t 46)), (none, .mov 8 (.t 47))]
noncomputable def R29_18 : List GOp := [(none, .mov 48 (.t 8)), (none, .mov 4 (.t 48))]
noncomputable def T29_19 : ACode := (.seq (.region R29_18) .ret)
noncomputable def T29_20 : ACode := (.seq (.region R29_17) T29_19)
noncomputable def R29_21 : List GOp := [(none, .bin 50 .eql (.t 13) (.k (.v (.int .i64 6)))), (none, .mov 49 (.t 50))]
noncomputable def R29_22 : List GOp := [(none, .mov 4 (.k (.v (.int .i64 0))))]
noncomputable def T29_23 : ACode := (.seq (.region R29_22) .ret)
noncomputable def T29_24 : ACode := (.cond (.t 49) T29_23 .skip)
noncomputable def T29_25 : ACode := (.seq (.region R29_21) T29_24)
noncomputable def T29_26 : ACode := (.cond (.t 39) T29_20 T29_25)
noncomputable def T29_27 : ACode := (.seq (.region R29_16) T29_26)
noncomputable def T29_28 : ACode := (.cond (.t 31) T29_15 T29_27)
noncomputable def T29_29 : ACode := (.seq (.region R29_11) T29_28)
noncomputable def T29_30 : ACode := (.cond (.t 25) T29_10 T29_29)
noncomputable def T29_31 : ACode := (.seq (.region R29_8) T29_30)
noncomputable def T29_32 : ACode := (.cond (.t 14) T29_7 T29_31)
noncomputable def T29_33 : ACode := (.seq (.seq (.region R29_2) T29_5) T29_32)
noncomputable def T29_34 : ACode := (.block 0 T29_33)
noncomputable def R29_35 : List GOp := [(none, .mov 52 (.t 0)), (none, .fld 53 1 (.t 3)), (none, .load 54 1 false (.t 53)), (none, .fld 55 2 (.t 3)), (none, .load 56 1 false (.t 55)), (none, .call 57 (.k (.fn (.func 24) [] [])) [(.t 52), (.t 54), (.t 56)]), (none, .mov 51 (.t 57)), (none, .ext 58 0 (.t 51)), (none, .ext 59 1 (.t 51)), (none, .alloc 9 25 [(.run .u8 64 (List.replicate 64 0))]), (none, .store 64 (.t 9) (.t 58)), (none, .mov 10 (.t 59))]
noncomputable def R29_36 : List GOp := [(none, .mov 60 (.t 10)), (none, .mov 4 (.t 60))]
noncomputable def T29_37 : ACode := (.seq (.region R29_36) .ret)
noncomputable def T29_38 : ACode := (.seq (.region R29_35) T29_37)
noncomputable def T29_39 : ACode := (.seq (.seq (.region R29_1) T29_34) T29_38)
noncomputable def A29 : ACode := (.seq (.region R29_0) T29_39)
theorem A29_ok : comp tbl 61 ((Try.f29.body).getD .skip) = some A29 := by kernel_rfl
/-! f30 (*casemate/bus.Bus).Log -/
noncomputable def R30_0 : List GOp := [(none, .mov 2 (.k (.v (.slice none 0 0))))]
noncomputable def R30_1 : List GOp := [(none, .mov 3 (.t 0)), (none, .call 4 (.k (.fn (.func 69) [] [])) [(.t 3)]), (none, .not 5 (.t 4))]
noncomputable def R30_2 : List GOp := [(none, .mov 2 (.k (.v (.slice none 0 0))))]
noncomputable def T30_3 : ACode := (.seq (.region R30_2) .ret)
noncomputable def T30_4 : ACode := (.cond (.t 5) T30_3 .skip)
noncomputable def R30_5 : List GOp := [(none, .mov 6 (.t 0)), (none, .nilc 7 (.t 6)), (none, .fld 8 4 (.t 7)), (none, .load 9 1 false (.t 8)), (none, .call 10 (.k (.fn (.func 80) [] [])) [(.t 9)]), (none, .mov 2 (.t 10))]
noncomputable def T30_6 : ACode := (.seq (.region R30_5) .ret)
noncomputable def T30_7 : ACode := (.seq (.seq (.region R30_1) T30_4) T30_6)
noncomputable def A30 : ACode := (.seq (.region R30_0) T30_7)
theorem A30_ok : comp tbl 11 ((Try.f30.body).getD .skip) = some A30 := by kernel_rfl
/-! f32 (*casemate/bus.Bus).Cell -/
noncomputable def R32_0 : List GOp := [(none, .box 1 41 (.t 0)), (none, .alloc 2 69 [(.v (.int .u64 0)), (.run .u8 32 (List.replicate 32 0))]), (none, .mov 3 (.k (.v (.int .i64 0))))]
noncomputable def R32_1 : List GOp := [(none, .load 5 1 false (.t 1)), (none, .call 6 (.k (.fn (.func 69) [] [])) [(.t 5)]), (none, .not 7 (.t 6))]
noncomputable def R32_2 : List GOp := [(none, .load 8 33 true (.t 2)), (none, .store 33 (.t 2) (.t 8)), (none, .mov 3 (.k (.v (.int .i64 1))))]
noncomputable def T32_3 : ACode := (.seq (.region R32_2) .ret)
noncomputable def T32_4 : ACode := (.cond (.t 7) T32_3 .skip)
noncomputable def R32_5 : List GOp := [(none, .load 9 1 false (.t 1)), (none, .build 10 [(.v (.int .i64 0)), (.v (.int .i64 0)), (.v (.int .i64 0)), (.run .u8 64 (List.replicate 64 0)), (.v (.int .i64 0))] [(0, 1, (.k (.v (.int .i64 4))))]), (none, .mkfn 11 (.func 82) [] [(.t 1), (.t 2)]), (none, .call 12 (.k (.fn (.func 81) [] [])) [(.t 9), (.t 10), (.t 11)]), (none, .alloc 4 64 [(.v (.int .i64 0)), (.v (.int .i64 0)), (.v (.int .i64 0)), (.run .u8 64 (List.replicate 64 0)), (.v (.int .i64 0))]), (none, .store 68 (.t 4) (.t 12))]
noncomputable def R32_6 : List GOp := [(none, .load 13 33 true (.t 2)), (none, .fld 14 67 (.t 4)), (none, .load 15 1 false (.t 14)), (none, .store 33 (.t 2) (.t 13)), (none, .mov 3 (.t 15))]
noncomputable def O32_4 : List (Nat × Kd) := [(0, .quiet), (1, .quiet), (2, .quiet), (3, .loud), (4, .quiet)]
noncomputable def Q32_4 : List (Nat × Kd × GOp) := [(0, .quiet, (none, .load 13 33 true (.t 2))), (1, .quiet, (none, .fld 14 67 (.t 4))), (2, .quiet, (none, .load 15 1 false (.t 14))), (3, .loud, (none, .store 33 (.t 2) (.t 13))), (4, .quiet, (none, .mov 3 (.t 15)))]
theorem O32_4_ok : chkDraw (regOf Try.f32 4) O32_4 = true := by kernel_rfl
theorem Q32_4_ok : orderL R32_6 O32_4 = some Q32_4 := by kernel_rfl
noncomputable def T32_7 : ACode := (.seq (.draw (regOf Try.f32 4) R32_6) .ret)
noncomputable def T32_8 : ACode := (.seq (.region R32_5) T32_7)
noncomputable def T32_9 : ACode := (.seq (.seq (.region R32_1) T32_4) T32_8)
noncomputable def A32 : ACode := (.seq (.region R32_0) T32_9)
theorem A32_ok : comp tbl 16 ((Try.f32.body).getD .skip) = some A32 := by kernel_rfl
/-! f33 (*casemate/bus.Bus).Power -/
noncomputable def R33_0 : List GOp := [(none, .mov 2 (.k (.v (.int .i64 0))))]
noncomputable def R33_1 : List GOp := [(none, .mov 3 (.t 0)), (none, .call 4 (.k (.fn (.func 69) [] [])) [(.t 3)]), (none, .not 5 (.t 4))]
noncomputable def R33_2 : List GOp := [(none, .mov 2 (.k (.v (.int .i64 1))))]
noncomputable def T33_3 : ACode := (.seq (.region R33_2) .ret)
noncomputable def T33_4 : ACode := (.cond (.t 5) T33_3 .skip)
noncomputable def R33_5 : List GOp := [(none, .mov 6 (.t 0)), (none, .nilc 7 (.t 6)), (none, .fld 8 3 (.t 7)), (none, .store 1 (.t 8) (.k .ff))]
noncomputable def R33_6 : List GOp := [(none, .mov 2 (.k (.v (.int .i64 0))))]
noncomputable def T33_7 : ACode := (.seq (.region R33_6) .ret)
noncomputable def T33_8 : ACode := (.seq (.region R33_5) T33_7)
noncomputable def T33_9 : ACode := (.seq (.seq (.region R33_1) T33_4) T33_8)
noncomputable def A33 : ACode := (.seq (.region R33_0) T33_9)
theorem A33_ok : comp tbl 9 ((Try.f33.body).getD .skip) = some A33 := by kernel_rfl
/-! f38 (*casemate/bus.Bus).Sectors -/
noncomputable def R38_0 : List GOp := [(none, .mov 4 (.k (.v (.int .i64 0))))]
noncomputable def R38_1 : List GOp := [(none, .mov 5 (.t 0)), (none, .call 6 (.k (.fn (.func 69) [] [])) [(.t 5)]), (none, .not 7 (.t 6)), (none, .mov 8 (.t 7)), (some (8, false), .mov 9 (.t 1)), (some (8, false), .bin 10 .lss (.t 9) (.k (.v (.int .i64 0)))), (none, .pick 11 8 (.k .tt) (.t 10)), (none, .mov 12 (.t 11)), (some (12, false), .mov 13 (.t 1)), (some (12, false), .mov 14 (.t 0)), (some (12, false), .nilc 15 (.t 14)), (some (12, false), .fld 16 0 (.t 15)), (some (12, false), .load 17 1 false (.t 16)), (some (12, false), .len 18 (.t 17)), (some (12, false), .bin 19 .geq (.t 13) (.t 18)), (none, .pick 20 12 (.k .tt) (.t 19))]
noncomputable def R38_2 : List GOp := [(none, .mov 4 (.k (.v (.int .i64 0))))]
noncomputable def T38_3 : ACode := (.seq (.region R38_2) .ret)
noncomputable def T38_4 : ACode := (.cond (.t 20) T38_3 .skip)
noncomputable def R38_5 : List GOp := [(none, .mov 21 (.t 0)), (none, .nilc 22 (.t 21)), (none, .fld 23 0 (.t 22)), (none, .load 24 1 false (.t 23)), (none, .mov 25 (.t 1)), (none, .idx 26 1 (.t 24) (.t 25)), (none, .load 27 1 false (.t 26)), (none, .call 28 (.k (.fn (.func 44) [] [])) [(.t 27)]), (none, .mov 4 (.t 28))]
noncomputable def T38_6 : ACode := (.seq (.region R38_5) .ret)
noncomputable def T38_7 : ACode := (.seq (.seq (.region R38_1) T38_4) T38_6)
noncomputable def A38 : ACode := (.seq (.region R38_0) T38_7)
theorem A38_ok : comp tbl 29 ((Try.f38.body).getD .skip) = some A38 := by kernel_rfl
/-! f42 (*casemate/bus.Bus).Count -/
noncomputable def R42_0 : List GOp := [(none, .mov 2 (.k (.v (.int .i64 0))))]
noncomputable def R42_1 : List GOp := [(none, .mov 3 (.t 0)), (none, .call 4 (.k (.fn (.func 69) [] [])) [(.t 3)]), (none, .not 5 (.t 4))]
noncomputable def R42_2 : List GOp := [(none, .mov 2 (.k (.v (.int .i64 0))))]
noncomputable def T42_3 : ACode := (.seq (.region R42_2) .ret)
noncomputable def T42_4 : ACode := (.cond (.t 5) T42_3 .skip)
noncomputable def R42_5 : List GOp := [(none, .mov 6 (.t 0)), (none, .nilc 7 (.t 6)), (none, .fld 8 4 (.t 7)), (none, .load 9 1 false (.t 8)), (none, .len 10 (.t 9)), (none, .mov 2 (.t 10))]
noncomputable def T42_6 : ACode := (.seq (.region R42_5) .ret)
noncomputable def T42_7 : ACode := (.seq (.seq (.region R42_1) T42_4) T42_6)
noncomputable def A42 : ACode := (.seq (.region R42_0) T42_7)
theorem A42_ok : comp tbl 11 ((Try.f42.body).getD .skip) = some A42 := by kernel_rfl
/-! f60 casemate/casematelaw13.given -/
noncomputable def R60_0 : List GOp := [(none, .mov 0 (.k (.v (.slice none 0 0))))]
noncomputable def R60_1 : List GOp := [(none, .call 1 (.k (.fn (.func 61) [] [])) [(.k (.v (.int .u8 1)))]), (none, .build 2 [(.v (.int .i64 0)), (.v (.int .i64 0)), (.v (.int .i64 0)), (.v (.int .i64 0)), (.v (.int .i64 0)), (.run .u8 64 (List.replicate 64 0)), (.v (.slice none 0 0))] [(0, 1, (.k (.v (.int .i64 1)))), (1, 1, (.k (.v (.int .i64 1)))), (3, 1, (.k (.v (.int .i64 2)))), (5, 64, (.t 1))]), (none, .bslice 3 5 2 [(.v (.int .u8 0)), (.v (.int .u8 0))] [(0, 1, (.k (.v (.int .u8 0)))), (1, 1, (.k (.v (.int .u8 1))))]), (none, .build 4 [(.v (.int .i64 0)), (.v (.int .i64 0)), (.v (.int .i64 0)), (.v (.int .i64 0)), (.v (.int .i64 0)), (.run .u8 64 (List.replicate 64 0)), (.v (.slice none 0 0))] [(0, 1, (.k (.v (.int .i64 3)))), (1, 1, (.k (.v (.int .i64 6)))), (69, 1, (.t 3))]), (none, .bslice 5 40 2 [(.v (.int .i64 0)), (.v (.int .i64 0)), (.v (.int .i64 0)), (.v (.int .i64 0)), (.v (.int .i64 0)), (.run .u8 64 (List.replicate 64 0)), (.v (.slice none 0 0)), (.v (.int .i64 0)), (.v (.int .i64 0)), (.v (.int .i64 0)), (.v (.int .i64 0)), (.v (.int .i64 0)), (.run .u8 64 (List.replicate 64 0)), (.v (.slice none 0 0))] [(0, 70, (.t 2)), (70, 70, (.t 4))]), (none, .mov 0 (.t 5))]
noncomputable def T60_2 : ACode := (.seq (.region R60_1) .ret)
noncomputable def A60 : ACode := (.seq (.region R60_0) T60_2)
theorem A60_ok : comp tbl 6 ((Try.f60.body).getD .skip) = some A60 := by kernel_rfl
/-! f61 casemate/casematelaw13.full -/
noncomputable def R61_0 : List GOp := [(none, .alloc 2 25 [(.run .u8 64 (List.replicate 64 0))])]
noncomputable def R61_1 : List GOp := [(none, .alloc 3 25 [(.run .u8 64 (List.replicate 64 0))])]
noncomputable def R61_2 : List GOp := [(none, .mov 4 (.k (.v (.int .i64 0))))]
noncomputable def R61_3 : List GOp := [(none, .mov 5 (.t 4)), (none, .bin 6 .lss (.t 5) (.k (.v (.int .i64 64))))]
noncomputable def T61_4 : ACode := (.exit 0)
noncomputable def T61_5 : ACode := (.cond (.t 6) .skip T61_4)
noncomputable def R61_6 : List GOp := [(none, .mov 9 (.t 4)), (none, .mov 10 (.t 0)), (none, .idxa 11 64 1 (.t 3) (.t 9)), (none, .store 1 (.t 11) (.t 10))]
noncomputable def T61_7 : ACode := (.region R61_6)
noncomputable def R61_8 : List GOp := [(none, .mov 7 (.t 4)), (none, .bin 8 .add (.t 7) (.k (.v (.int .i64 1)))), (none, .mov 4 (.t 8))]
noncomputable def T61_9 : ACode := (.region R61_8)
noncomputable def T61_10 : ACode := (.seq (.block 1 T61_7) T61_9)
noncomputable def L61_11 : ACode := (.seq (.seq (.region R61_3) T61_5) T61_10)
noncomputable def T61_12 : ACode := (.loop L61_11)
noncomputable def T61_13 : ACode := (.block 0 T61_12)
noncomputable def R61_14 : List GOp := [(none, .load 12 64 true (.t 3)), (none, .store 64 (.t 2) (.t 12))]
noncomputable def T61_15 : ACode := (.seq (.region R61_14) .ret)
noncomputable def T61_16 : ACode := (.seq (.seq (.region R61_2) T61_13) T61_15)
noncomputable def T61_17 : ACode := (.seq (.region R61_1) T61_16)
noncomputable def A61 : ACode := (.seq (.region R61_0) T61_17)
theorem A61_ok : comp tbl 13 ((Try.f61.body).getD .skip) = some A61 := by kernel_rfl
/-! f64 casemate/bus.New -/
noncomputable def R64_0 : List GOp := [(none, .mov 6 (.k (.v (.pointer none)))), (none, .mov 7 (.k (.v (.int .i64 0))))]
noncomputable def R64_1 : List GOp := [(none, .mov 13 (.t 1)), (none, .call 14 (.k (.fn (.func 83) [] [])) [(.t 13)]), (none, .mov 12 (.t 14)), (none, .ext 15 0 (.t 12)), (none, .ext 16 1 (.t 12)), (none, .alloc 8 69 [(.v (.int .u64 0)), (.run .u8 32 (List.replicate 32 0))]), (none, .store 33 (.t 8) (.t 15)), (none, .mov 9 (.t 16))]
noncomputable def R64_2 : List GOp := [(none, .mov 17 (.t 9)), (none, .bin 18 .neq (.t 17) (.k (.v (.int .i64 0)))), (none, .mov 19 (.t 18)), (some (19, false), .mov 20 (.t 0)), (some (19, false), .call 21 (.k (.fn (.func 111) [] [])) [(.t 20), (.k (.fn (.func 112) [] []))]), (none, .pick 22 19 (.k .tt) (.t 21))]
noncomputable def R64_3 : List GOp := [(none, .mov 6 (.k (.v (.pointer none)))), (none, .mov 7 (.k (.v (.int .i64 1))))]
noncomputable def T64_4 : ACode := (.seq (.region R64_3) .ret)
noncomputable def T64_5 : ACode := (.cond (.t 22) T64_4 .skip)
noncomputable def T64_6 : ACode := (.seq (.region R64_2) T64_5)
noncomputable def R64_7 : List GOp := [(none, .mov 23 (.t 0)), (none, .len 24 (.t 23)), (none, .bin 25 .lss (.t 24) (.k (.v (.int .i64 1)))), (none, .mov 26 (.t 25)), (some (26, false), .mov 27 (.t 0)), (some (26, false), .len 28 (.t 27)), (some (26, false), .bin 29 .gtr (.t 28) (.k (.v (.int .i64 64)))), (none, .pick 30 26 (.k .tt) (.t 29))]
noncomputable def R64_8 : List GOp := [(none, .mov 6 (.k (.v (.pointer none)))), (none, .mov 7 (.k (.v (.int .i64 2))))]
noncomputable def T64_9 : ACode := (.seq (.region R64_8) .ret)
noncomputable def T64_10 : ACode := (.cond (.t 30) T64_9 .skip)
noncomputable def R64_11 : List GOp := [(none, .mov 31 (.t 2)), (none, .call 32 (.k (.fn (.func 113) [] [])) [(.t 31)]), (none, .mov 10 (.t 32))]
noncomputable def R64_12 : List GOp := [(none, .mov 33 (.t 10)), (none, .len 34 (.t 33)), (none, .mov 35 (.k (.v (.int .i64 0))))]
noncomputable def R64_13 : List GOp := [(none, .bin 36 .lss (.t 35) (.t 34))]
noncomputable def T64_14 : ACode := (.exit 0)
noncomputable def R64_15 : List GOp := [(none, .mov 37 (.t 35)), (none, .mov 11 (.t 37))]
noncomputable def R64_16 : List GOp := [(none, .mov 38 (.t 10)), (none, .mov 39 (.t 11)), (none, .mov 40 (.t 10)), (none, .mov 41 (.t 11)), (none, .idx 42 70 (.t 40) (.t 41)), (none, .fld 43 69 (.t 42)), (none, .load 44 1 false (.t 43)), (none, .call 45 (.k (.fn (.func 114) [] [])) [(.t 44)]), (none, .idx 46 70 (.t 38) (.t 39)), (none, .fld 47 69 (.t 46)), (none, .store 1 (.t 47) (.t 45))]
noncomputable def T64_17 : ACode := (.region R64_16)
noncomputable def T64_18 : ACode := (.seq (.region R64_15) T64_17)
noncomputable def R64_19 : List GOp := [(none, .bin 48 .add (.t 35) (.k (.v (.int .i64 1)))), (none, .mov 35 (.t 48))]
noncomputable def T64_20 : ACode := (.region R64_19)
noncomputable def T64_21 : ACode := (.seq (.block 1 T64_18) T64_20)
noncomputable def T64_22 : ACode := (.seq (.cond (.t 36) .skip T64_14) T64_21)
noncomputable def L64_23 : ACode := (.seq (.region R64_13) T64_22)
noncomputable def T64_24 : ACode := (.loop L64_23)
noncomputable def T64_25 : ACode := (.block 0 T64_24)
noncomputable def R64_26 : List GOp := [(none, .mov 49 (.t 0)), (none, .call 50 (.k (.fn (.func 115) [] [])) [(.t 49)]), (none, .mov 51 (.t 1)), (none, .mov 52 (.t 10)), (none, .build 53 [(.v (.slice none 0 0)), (.v (.pointer none)), (.v (.slice none 0 0)), .ff, (.v (.slice none 0 0))] [(0, 1, (.t 50)), (1, 1, (.t 51)), (2, 1, (.t 52))]), (none, .box 54 111 (.t 53)), (none, .mov 6 (.t 54)), (none, .mov 7 (.k (.v (.int .i64 0))))]
noncomputable def T64_27 : ACode := (.seq (.region R64_26) .ret)
noncomputable def T64_28 : ACode := (.seq (.seq (.region R64_12) T64_25) T64_27)
noncomputable def T64_29 : ACode := (.seq (.region R64_11) T64_28)
noncomputable def T64_30 : ACode := (.seq (.seq (.region R64_7) T64_10) T64_29)
noncomputable def T64_31 : ACode := (.seq (.seq (.region R64_1) T64_6) T64_30)
noncomputable def A64 : ACode := (.seq (.region R64_0) T64_31)
theorem A64_ok : comp tbl 55 ((Try.f64.body).getD .skip) = some A64 := by kernel_rfl
/-! f69 (*casemate/bus.Bus).is -/
noncomputable def R69_0 : List GOp := [(none, .mov 2 (.k .ff))]
noncomputable def R69_1 : List GOp := [(none, .mov 3 (.t 0)), (none, .eqv 4 true 0 (.t 3) (.k (.v (.pointer none)))), (none, .mov 5 (.t 4)), (some (5, true), .mov 6 (.t 0)), (some (5, true), .nilc 7 (.t 6)), (some (5, true), .fld 8 1 (.t 7)), (some (5, true), .load 9 1 false (.t 8)), (some (5, true), .eqv 10 true 0 (.t 9) (.k (.v (.pointer none)))), (none, .pick 11 5 (.t 10) (.k .ff)), (none, .mov 2 (.t 11))]
noncomputable def T69_2 : ACode := (.seq (.region R69_1) .ret)
noncomputable def A69 : ACode := (.seq (.region R69_0) T69_2)
theorem A69_ok : comp tbl 12 ((Try.f69.body).getD .skip) = some A69 := by kernel_rfl
/-! f70 (*casemate/bus.Bus).at -/
noncomputable def R70_0 : List GOp := [(none, .box 3 41 (.t 0)), (none, .box 4 64 (.t 1)), (none, .box 5 149 (.t 2)), (none, .alloc 6 64 [(.v (.int .i64 0)), (.v (.int .i64 0)), (.v (.int .i64 0)), (.run .u8 64 (List.replicate 64 0)), (.v (.int .i64 0))])]
noncomputable def R70_1 : List GOp := [(none, .load 7 1 false (.t 3)), (none, .load 8 68 true (.t 4)), (none, .mkfn 9 (.func 117) [] [(.t 3), (.t 5)]), (none, .call 10 (.k (.fn (.func 81) [] [])) [(.t 7), (.t 8), (.t 9)]), (none, .store 68 (.t 6) (.t 10))]
noncomputable def T70_2 : ACode := (.seq (.region R70_1) .ret)
noncomputable def A70 : ACode := (.seq (.region R70_0) T70_2)
theorem A70_ok : comp tbl 11 ((Try.f70.body).getD .skip) = some A70 := by kernel_rfl
/-! f71 (*casemate/bus.Bus).Write$1 -/
noncomputable def R71_0 : List GOp := [(none, .mov 4 (.k (.v (.int .i64 0))))]
noncomputable def R71_1 : List GOp := [(none, .mov 5 (.t 0)), (none, .mov 6 (.t 1)), (none, .nilc 7 (.t 6)), (none, .fld 8 2 (.t 7)), (none, .load 9 1 false (.t 8)), (none, .mov 10 (.t 1)), (none, .nilc 11 (.t 10)), (none, .fld 12 3 (.t 11)), (none, .load 13 64 true (.t 12)), (none, .call 14 (.k (.fn (.func 21) [] [])) [(.t 5), (.t 9), (.t 13)]), (none, .mov 4 (.t 14))]
noncomputable def O71_1 : List (Nat × Kd) := [(0, .quiet), (1, .quiet), (2, .quiet), (3, .quiet), (4, .quiet), (5, .quiet), (6, .quiet), (7, .quiet), (8, .quiet), (9, .loud), (10, .quiet)]
noncomputable def Q71_1 : List (Nat × Kd × GOp) := [(0, .quiet, (none, .mov 5 (.t 0))), (1, .quiet, (none, .mov 6 (.t 1))), (2, .quiet, (none, .nilc 7 (.t 6))), (3, .quiet, (none, .fld 8 2 (.t 7))), (4, .quiet, (none, .load 9 1 false (.t 8))), (5, .quiet, (none, .mov 10 (.t 1))), (6, .quiet, (none, .nilc 11 (.t 10))), (7, .quiet, (none, .fld 12 3 (.t 11))), (8, .quiet, (none, .load 13 64 true (.t 12))), (9, .loud, (none, .call 14 (.k (.fn (.func 21) [] [])) [(.t 5), (.t 9), (.t 13)])), (10, .quiet, (none, .mov 4 (.t 14)))]
theorem O71_1_ok : chkDraw (regOf Try.f71 1) O71_1 = true := by kernel_rfl
theorem Q71_1_ok : orderL R71_1 O71_1 = some Q71_1 := by kernel_rfl
noncomputable def T71_2 : ACode := (.seq (.draw (regOf Try.f71 1) R71_1) .ret)
noncomputable def A71 : ACode := (.seq (.region R71_0) T71_2)
theorem A71_ok : comp tbl 15 ((Try.f71.body).getD .skip) = some A71 := by kernel_rfl
/-! f74 (*casemate/bus.Bus).Flush$1 -/
noncomputable def R74_0 : List GOp := [(none, .mov 4 (.k (.v (.int .i64 0))))]
noncomputable def R74_1 : List GOp := [(none, .mov 5 (.t 0)), (none, .call 6 (.k (.fn (.func 23) [] [])) [(.t 5)]), (none, .mov 4 (.t 6))]
noncomputable def T74_2 : ACode := (.seq (.region R74_1) .ret)
noncomputable def A74 : ACode := (.seq (.region R74_0) T74_2)
theorem A74_ok : comp tbl 7 ((Try.f74.body).getD .skip) = some A74 := by kernel_rfl
/-! f77 (*casemate/bus.Bus).Read$1 -/
noncomputable def R77_0 : List GOp := [(none, .mov 4 (.k (.v (.int .i64 0))))]
noncomputable def R77_1 : List GOp := [(none, .mov 6 (.t 1)), (none, .mov 7 (.t 0)), (none, .mov 8 (.t 1)), (none, .nilc 9 (.t 8)), (none, .fld 10 2 (.t 9)), (none, .load 11 1 false (.t 10)), (none, .call 12 (.k (.fn (.func 25) [] [])) [(.t 7), (.t 11)]), (none, .mov 5 (.t 12)), (none, .ext 13 0 (.t 5)), (none, .ext 14 1 (.t 5)), (none, .nilc 15 (.t 6)), (none, .fld 16 3 (.t 15)), (none, .store 64 (.t 16) (.t 13)), (none, .mov 4 (.t 14))]
noncomputable def R77_2 : List GOp := [(none, .mov 17 (.t 4)), (none, .mov 4 (.t 17))]
noncomputable def T77_3 : ACode := (.seq (.region R77_2) .ret)
noncomputable def T77_4 : ACode := (.seq (.region R77_1) T77_3)
noncomputable def A77 : ACode := (.seq (.region R77_0) T77_4)
theorem A77_ok : comp tbl 18 ((Try.f77.body).getD .skip) = some A77 := by kernel_rfl
/-! f79 (*casemate/bus.Bus).Advance -/
noncomputable def R79_0 : List GOp := [(none, .box 2 41 (.t 0)), (none, .box 3 48 (.t 1)), (none, .alloc 4 67 [(.v (.int .u64 0))]), (none, .mov 5 (.k (.v (.int .i64 0))))]
noncomputable def R79_1 : List GOp := [(none, .load 7 1 false (.t 2)), (none, .call 8 (.k (.fn (.func 69) [] [])) [(.t 7)]), (none, .not 9 (.t 8))]
noncomputable def R79_2 : List GOp := [(none, .store 1 (.t 4) (.k (.v (.int .u64 0)))), (none, .mov 5 (.k (.v (.int .i64 1))))]
noncomputable def T79_3 : ACode := (.seq (.region R79_2) .ret)
noncomputable def T79_4 : ACode := (.cond (.t 9) T79_3 .skip)
noncomputable def R79_5 : List GOp := [(none, .build 10 [(.v (.int .i64 0)), (.v (.int .i64 0)), (.v (.int .i64 0)), (.run .u8 64 (List.replicate 64 0)), (.v (.int .i64 0))] [(0, 1, (.k (.v (.int .i64 5))))]), (none, .alloc 6 64 [(.v (.int .i64 0)), (.v (.int .i64 0)), (.v (.int .i64 0)), (.run .u8 64 (List.replicate 64 0)), (.v (.int .i64 0))]), (none, .store 68 (.t 6) (.t 10))]
noncomputable def R79_6 : List GOp := [(none, .fld 11 3 (.t 6)), (none, .slicea 12 64 1 (.t 11) none none none), (none, .slicea 13 32 1 (.t 3) none none none), (none, .other (some 14) (.call ⟨.builtin .copy, #[(.tmp 12), (.tmp 13)], #[38, 38]⟩) 3)]
noncomputable def O79_4 : List (Nat × Kd) := [(0, .quiet), (1, .quiet), (2, .quiet), (3, .last)]
noncomputable def Q79_4 : List (Nat × Kd × GOp) := [(0, .quiet, (none, .fld 11 3 (.t 6))), (1, .quiet, (none, .slicea 12 64 1 (.t 11) none none none)), (2, .quiet, (none, .slicea 13 32 1 (.t 3) none none none)), (3, .last, (none, .other (some 14) (.call ⟨.builtin .copy, #[(.tmp 12), (.tmp 13)], #[38, 38]⟩) 3))]
theorem O79_4_ok : chkDraw (regOf Try.f79 4) O79_4 = true := by kernel_rfl
theorem Q79_4_ok : orderL R79_6 O79_4 = some Q79_4 := by kernel_rfl
noncomputable def R79_7 : List GOp := [(none, .load 15 1 false (.t 2)), (none, .load 16 68 true (.t 6)), (none, .mkfn 17 (.func 118) [] [(.t 2), (.t 3), (.t 4)]), (none, .call 18 (.k (.fn (.func 81) [] [])) [(.t 15), (.t 16), (.t 17)]), (none, .store 68 (.t 6) (.t 18))]
noncomputable def R79_8 : List GOp := [(none, .load 19 1 false (.t 4)), (none, .fld 20 67 (.t 6)), (none, .load 21 1 false (.t 20)), (none, .store 1 (.t 4) (.t 19)), (none, .mov 5 (.t 21))]
noncomputable def O79_6 : List (Nat × Kd) := [(0, .quiet), (1, .quiet), (2, .quiet), (3, .loud), (4, .quiet)]
noncomputable def Q79_6 : List (Nat × Kd × GOp) := [(0, .quiet, (none, .load 19 1 false (.t 4))), (1, .quiet, (none, .fld 20 67 (.t 6))), (2, .quiet, (none, .load 21 1 false (.t 20))), (3, .loud, (none, .store 1 (.t 4) (.t 19))), (4, .quiet, (none, .mov 5 (.t 21)))]
theorem O79_6_ok : chkDraw (regOf Try.f79 6) O79_6 = true := by kernel_rfl
theorem Q79_6_ok : orderL R79_8 O79_6 = some Q79_6 := by kernel_rfl
noncomputable def T79_9 : ACode := (.seq (.draw (regOf Try.f79 6) R79_8) .ret)
noncomputable def T79_10 : ACode := (.seq (.region R79_7) T79_9)
noncomputable def T79_11 : ACode := (.seq (.draw (regOf Try.f79 4) R79_6) T79_10)
noncomputable def T79_12 : ACode := (.seq (.region R79_5) T79_11)
noncomputable def T79_13 : ACode := (.seq (.seq (.region R79_1) T79_4) T79_12)
noncomputable def A79 : ACode := (.seq (.region R79_0) T79_13)
theorem A79_ok : comp tbl 22 ((Try.f79.body).getD .skip) = some A79 := by kernel_rfl
/-! f80 slices.Clone[[]casemate/bus.Entry,casemate/bus.Entry] -/
noncomputable def R80_0 : List GOp := [(none, .mov 2 (.k (.v (.slice none 0 0))))]
noncomputable def R80_1 : List GOp := [(none, .mov 3 (.t 0)), (none, .eqv 4 false 1 (.t 3) (.k (.v (.slice none 0 0))))]
noncomputable def R80_2 : List GOp := [(none, .mov 2 (.k (.v (.slice none 0 0))))]
noncomputable def T80_3 : ACode := (.seq (.region R80_2) .ret)
noncomputable def T80_4 : ACode := (.cond (.t 4) T80_3 .skip)
noncomputable def R80_5 : List GOp := [(none, .bslice 5 64 0 [] []), (none, .mov 6 (.t 0)), (none, .other (some 7) (.call ⟨.builtin .append, #[(.tmp 5), (.tmp 6)], #[61, 61]⟩) 61), (none, .mov 2 (.t 7))]
noncomputable def T80_6 : ACode := (.seq (.region R80_5) .ret)
noncomputable def T80_7 : ACode := (.seq (.seq (.region R80_1) T80_4) T80_6)
noncomputable def A80 : ACode := (.seq (.region R80_0) T80_7)
theorem A80_ok : comp tbl 8 ((Try.f80.body).getD .skip) = some A80 := by kernel_rfl
/-! f81 (*casemate/bus.Bus).io -/
noncomputable def R81_0 : List GOp := [(none, .box 4 64 (.t 1)), (none, .alloc 6 64 [(.v (.int .i64 0)), (.v (.int .i64 0)), (.v (.int .i64 0)), (.run .u8 64 (List.replicate 64 0)), (.v (.int .i64 0))])]
noncomputable def R81_1 : List GOp := [(none, .mov 10 (.t 0)), (none, .nilc 11 (.t 10)), (none, .fld 12 4 (.t 11)), (none, .load 13 1 false (.t 12)), (none, .len 14 (.t 13)), (none, .mov 7 (.t 14))]
noncomputable def R81_2 : List GOp := [(none, .mov 15 (.t 0)), (none, .nilc 16 (.t 15)), (none, .fld 17 2 (.t 16)), (none, .load 18 1 false (.t 17)), (none, .len 19 (.t 18)), (none, .mov 20 (.k (.v (.int .i64 0))))]
noncomputable def R81_3 : List GOp := [(none, .bin 21 .lss (.t 20) (.t 19))]
noncomputable def T81_4 : ACode := (.exit 0)
noncomputable def R81_5 : List GOp := [(none, .idx 22 70 (.t 18) (.t 20)), (none, .load 23 70 true (.t 22)), (none, .alloc 9 40 [(.v (.int .i64 0)), (.v (.int .i64 0)), (.v (.int .i64 0)), (.v (.int .i64 0)), (.v (.int .i64 0)), (.run .u8 64 (List.replicate 64 0)), (.v (.slice none 0 0))]), (none, .store 70 (.t 9) (.t 23))]
noncomputable def R81_6 : List GOp := [(none, .fld 24 0 (.t 9)), (none, .load 25 1 false (.t 24)), (none, .mov 26 (.t 7)), (none, .bin 27 .eql (.t 25) (.t 26))]
noncomputable def R81_7 : List GOp := [(none, .mov 28 (.t 0)), (none, .load 29 70 true (.t 9)), (none, .call 30 (.k (.fn (.func 120) [] [])) [(.t 28), (.t 29)])]
noncomputable def T81_8 : ACode := (.region R81_7)
noncomputable def T81_9 : ACode := (.cond (.t 27) T81_8 .skip)
noncomputable def T81_10 : ACode := (.seq (.region R81_6) T81_9)
noncomputable def T81_11 : ACode := (.seq (.region R81_5) T81_10)
noncomputable def R81_12 : List GOp := [(none, .bin 31 .add (.t 20) (.k (.v (.int .i64 1)))), (none, .mov 20 (.t 31))]
noncomputable def T81_13 : ACode := (.region R81_12)
noncomputable def T81_14 : ACode := (.seq (.block 1 T81_11) T81_13)
noncomputable def T81_15 : ACode := (.seq (.cond (.t 21) .skip T81_4) T81_14)
noncomputable def L81_16 : ACode := (.seq (.region R81_3) T81_15)
noncomputable def T81_17 : ACode := (.loop L81_16)
noncomputable def T81_18 : ACode := (.block 0 T81_17)
noncomputable def R81_19 : List GOp := [(none, .mov 32 (.t 0)), (none, .nilc 33 (.t 32)), (none, .fld 34 3 (.t 33)), (none, .load 35 1 false (.t 34))]
noncomputable def R81_20 : List GOp := [(none, .fld 36 67 (.t 4)), (none, .store 1 (.t 36) (.k (.v (.int .i64 13))))]
noncomputable def T81_21 : ACode := (.region R81_20)
noncomputable def R81_22 : List GOp := [(none, .mov 37 (.t 2)), (none, .call 38 (.t 37) [(.t 4)]), (none, .fld 39 67 (.t 4)), (none, .store 1 (.t 39) (.t 38))]
noncomputable def T81_23 : ACode := (.region R81_22)
noncomputable def T81_24 : ACode := (.cond (.t 35) T81_21 T81_23)
noncomputable def R81_25 : List GOp := [(none, .mov 40 (.t 0)), (none, .mov 41 (.t 0)), (none, .nilc 42 (.t 41)), (none, .fld 43 4 (.t 42)), (none, .load 44 1 false (.t 43)), (none, .load 45 68 true (.t 4)), (none, .bslice 46 64 1 [(.v (.int .i64 0)), (.v (.int .i64 0)), (.v (.int .i64 0)), (.run .u8 64 (List.replicate 64 0)), (.v (.int .i64 0))] [(0, 68, (.t 45))]), (none, .other (some 47) (.call ⟨.builtin .append, #[(.tmp 44), (.tmp 46)], #[61, 61]⟩) 61), (none, .nilc 48 (.t 40)), (none, .fld 49 4 (.t 48)), (none, .store 1 (.t 49) (.t 47))]
noncomputable def O81_11 : List (Nat × Kd) := [(0, .quiet), (1, .quiet), (2, .quiet), (3, .quiet), (4, .quiet), (5, .quiet), (6, .loud), (7, .loud), (8, .quiet), (9, .quiet), (10, .last)]
noncomputable def Q81_11 : List (Nat × Kd × GOp) := [(0, .quiet, (none, .mov 40 (.t 0))), (1, .quiet, (none, .mov 41 (.t 0))), (2, .quiet, (none, .nilc 42 (.t 41))), (3, .quiet, (none, .fld 43 4 (.t 42))), (4, .quiet, (none, .load 44 1 false (.t 43))), (5, .quiet, (none, .load 45 68 true (.t 4))), (6, .loud, (none, .bslice 46 64 1 [(.v (.int .i64 0)), (.v (.int .i64 0)), (.v (.int .i64 0)), (.run .u8 64 (List.replicate 64 0)), (.v (.int .i64 0))] [(0, 68, (.t 45))])), (7, .loud, (none, .other (some 47) (.call ⟨.builtin .append, #[(.tmp 44), (.tmp 46)], #[61, 61]⟩) 61)), (8, .quiet, (none, .nilc 48 (.t 40))), (9, .quiet, (none, .fld 49 4 (.t 48))), (10, .last, (none, .store 1 (.t 49) (.t 47)))]
theorem O81_11_ok : chkDraw (regOf Try.f81 11) O81_11 = true := by kernel_rfl
theorem Q81_11_ok : orderL R81_25 O81_11 = some Q81_11 := by kernel_rfl
noncomputable def R81_26 : List GOp := [(none, .load 50 68 true (.t 4)), (none, .store 68 (.t 6) (.t 50))]
noncomputable def T81_27 : ACode := (.seq (.region R81_26) .ret)
noncomputable def T81_28 : ACode := (.seq (.draw (regOf Try.f81 11) R81_25) T81_27)
noncomputable def T81_29 : ACode := (.seq (.seq (.region R81_19) T81_24) T81_28)
noncomputable def T81_30 : ACode := (.seq (.seq (.region R81_2) T81_18) T81_29)
noncomputable def T81_31 : ACode := (.seq (.region R81_1) T81_30)
noncomputable def A81 : ACode := (.seq (.region R81_0) T81_31)
theorem A81_ok : comp tbl 51 ((Try.f81.body).getD .skip) = some A81 := by kernel_rfl
/-! f82 (*casemate/bus.Bus).Cell$1 -/
noncomputable def R82_0 : List GOp := [(none, .mov 4 (.k (.v (.int .i64 0))))]
noncomputable def R82_1 : List GOp := [(none, .load 6 1 false (.t 1)), (none, .nilc 7 (.t 6)), (none, .fld 8 1 (.t 7)), (none, .load 9 1 false (.t 8)), (none, .call 10 (.k (.fn (.func 83) [] [])) [(.t 9)]), (none, .mov 5 (.t 10)), (none, .ext 11 0 (.t 5)), (none, .ext 12 1 (.t 5)), (none, .store 33 (.t 2) (.t 11)), (none, .mov 4 (.t 12))]
noncomputable def R82_2 : List GOp := [(none, .mov 13 (.t 0)), (none, .nilc 14 (.t 13)), (none, .fld 15 3 (.t 14)), (none, .slicea 16 64 1 (.t 15) none none none), (none, .fld 17 1 (.t 2)), (none, .slicea 18 32 1 (.t 17) none none none), (none, .other (some 19) (.call ⟨.builtin .copy, #[(.tmp 16), (.tmp 18)], #[38, 38]⟩) 3)]
noncomputable def O82_2 : List (Nat × Kd) := [(0, .quiet), (1, .quiet), (2, .quiet), (3, .quiet), (4, .quiet), (5, .quiet), (6, .loud)]
noncomputable def Q82_2 : List (Nat × Kd × GOp) := [(0, .quiet, (none, .mov 13 (.t 0))), (1, .quiet, (none, .nilc 14 (.t 13))), (2, .quiet, (none, .fld 15 3 (.t 14))), (3, .quiet, (none, .slicea 16 64 1 (.t 15) none none none)), (4, .quiet, (none, .fld 17 1 (.t 2))), (5, .quiet, (none, .slicea 18 32 1 (.t 17) none none none)), (6, .loud, (none, .other (some 19) (.call ⟨.builtin .copy, #[(.tmp 16), (.tmp 18)], #[38, 38]⟩) 3))]
theorem O82_2_ok : chkDraw (regOf Try.f82 2) O82_2 = true := by kernel_rfl
theorem Q82_2_ok : orderL R82_2 O82_2 = some Q82_2 := by kernel_rfl
noncomputable def R82_3 : List GOp := [(none, .mov 20 (.t 4)), (none, .mov 4 (.t 20))]
noncomputable def T82_4 : ACode := (.seq (.region R82_3) .ret)
noncomputable def T82_5 : ACode := (.seq (.draw (regOf Try.f82 2) R82_2) T82_4)
noncomputable def T82_6 : ACode := (.seq (.region R82_1) T82_5)
noncomputable def A82 : ACode := (.seq (.region R82_0) T82_6)
theorem A82_ok : comp tbl 21 ((Try.f82.body).getD .skip) = some A82 := by kernel_rfl
/-! f91 (*casemate/bus.Bus).Members -/
noncomputable def R91_0 : List GOp := [(none, .mov 2 (.k (.v (.int .i64 0))))]
noncomputable def R91_1 : List GOp := [(none, .mov 3 (.t 0)), (none, .call 4 (.k (.fn (.func 69) [] [])) [(.t 3)]), (none, .not 5 (.t 4))]
noncomputable def R91_2 : List GOp := [(none, .mov 2 (.k (.v (.int .i64 0))))]
noncomputable def T91_3 : ACode := (.seq (.region R91_2) .ret)
noncomputable def T91_4 : ACode := (.cond (.t 5) T91_3 .skip)
noncomputable def R91_5 : List GOp := [(none, .mov 6 (.t 0)), (none, .nilc 7 (.t 6)), (none, .fld 8 0 (.t 7)), (none, .load 9 1 false (.t 8)), (none, .len 10 (.t 9)), (none, .mov 2 (.t 10))]
noncomputable def T91_6 : ACode := (.seq (.region R91_5) .ret)
noncomputable def T91_7 : ACode := (.seq (.seq (.region R91_1) T91_4) T91_6)
noncomputable def A91 : ACode := (.seq (.region R91_0) T91_7)
theorem A91_ok : comp tbl 11 ((Try.f91.body).getD .skip) = some A91 := by kernel_rfl
/-! f111 slices.ContainsFunc[[]*casemate/member.Member,*casemate/member.Member] -/
noncomputable def R111_0 : List GOp := [(none, .mov 4 (.k .ff))]
noncomputable def R111_1 : List GOp := [(none, .mov 5 (.t 0)), (none, .mov 6 (.t 1)), (none, .call 7 (.k (.fn (.func 144) [] [])) [(.t 5), (.t 6)]), (none, .bin 8 .geq (.t 7) (.k (.v (.int .i64 0)))), (none, .mov 4 (.t 8))]
noncomputable def T111_2 : ACode := (.seq (.region R111_1) .ret)
noncomputable def A111 : ACode := (.seq (.region R111_0) T111_2)
theorem A111_ok : comp tbl 9 ((Try.f111.body).getD .skip) = some A111 := by kernel_rfl
/-! f112 casemate/bus.New$1 -/
noncomputable def R112_0 : List GOp := [(none, .mov 2 (.k .ff))]
noncomputable def R112_1 : List GOp := [(none, .mov 3 (.t 0)), (none, .call 4 (.k (.fn (.func 44) [] [])) [(.t 3)]), (none, .bin 5 .eql (.t 4) (.k (.v (.int .i64 0)))), (none, .mov 2 (.t 5))]
noncomputable def T112_2 : ACode := (.seq (.region R112_1) .ret)
noncomputable def A112 : ACode := (.seq (.region R112_0) T112_2)
theorem A112_ok : comp tbl 6 ((Try.f112.body).getD .skip) = some A112 := by kernel_rfl
/-! f113 slices.Clone[[]casemate/bus.Step,casemate/bus.Step] -/
noncomputable def R113_0 : List GOp := [(none, .mov 2 (.k (.v (.slice none 0 0))))]
noncomputable def R113_1 : List GOp := [(none, .mov 3 (.t 0)), (none, .eqv 4 false 1 (.t 3) (.k (.v (.slice none 0 0))))]
noncomputable def R113_2 : List GOp := [(none, .mov 2 (.k (.v (.slice none 0 0))))]
noncomputable def T113_3 : ACode := (.seq (.region R113_2) .ret)
noncomputable def T113_4 : ACode := (.cond (.t 4) T113_3 .skip)
noncomputable def R113_5 : List GOp := [(none, .bslice 5 40 0 [] []), (none, .mov 6 (.t 0)), (none, .other (some 7) (.call ⟨.builtin .append, #[(.tmp 5), (.tmp 6)], #[36, 36]⟩) 36), (none, .mov 2 (.t 7))]
noncomputable def T113_6 : ACode := (.seq (.region R113_5) .ret)
noncomputable def T113_7 : ACode := (.seq (.seq (.region R113_1) T113_4) T113_6)
noncomputable def A113 : ACode := (.seq (.region R113_0) T113_7)
theorem A113_ok : comp tbl 8 ((Try.f113.body).getD .skip) = some A113 := by kernel_rfl
/-! f114 slices.Clone[[]byte,byte] -/
noncomputable def R114_0 : List GOp := [(none, .mov 2 (.k (.v (.slice none 0 0))))]
noncomputable def R114_1 : List GOp := [(none, .mov 3 (.t 0)), (none, .eqv 4 false 1 (.t 3) (.k (.v (.slice none 0 0))))]
noncomputable def R114_2 : List GOp := [(none, .mov 2 (.k (.v (.slice none 0 0))))]
noncomputable def T114_3 : ACode := (.seq (.region R114_2) .ret)
noncomputable def T114_4 : ACode := (.cond (.t 4) T114_3 .skip)
noncomputable def R114_5 : List GOp := [(none, .bslice 5 5 0 [] []), (none, .mov 6 (.t 0)), (none, .other (some 7) (.call ⟨.builtin .append, #[(.tmp 5), (.tmp 6)], #[38, 38]⟩) 38), (none, .mov 2 (.t 7))]
noncomputable def T114_6 : ACode := (.seq (.region R114_5) .ret)
noncomputable def T114_7 : ACode := (.seq (.seq (.region R114_1) T114_4) T114_6)
noncomputable def A114 : ACode := (.seq (.region R114_0) T114_7)
theorem A114_ok : comp tbl 8 ((Try.f114.body).getD .skip) = some A114 := by kernel_rfl
/-! f115 slices.Clone[[]*casemate/member.Member,*casemate/member.Member] -/
noncomputable def R115_0 : List GOp := [(none, .mov 2 (.k (.v (.slice none 0 0))))]
noncomputable def R115_1 : List GOp := [(none, .mov 3 (.t 0)), (none, .eqv 4 false 1 (.t 3) (.k (.v (.slice none 0 0))))]
noncomputable def R115_2 : List GOp := [(none, .mov 2 (.k (.v (.slice none 0 0))))]
noncomputable def T115_3 : ACode := (.seq (.region R115_2) .ret)
noncomputable def T115_4 : ACode := (.cond (.t 4) T115_3 .skip)
noncomputable def R115_5 : List GOp := [(none, .bslice 5 42 0 [] []), (none, .mov 6 (.t 0)), (none, .other (some 7) (.call ⟨.builtin .append, #[(.tmp 5), (.tmp 6)], #[46, 46]⟩) 46), (none, .mov 2 (.t 7))]
noncomputable def T115_6 : ACode := (.seq (.region R115_5) .ret)
noncomputable def T115_7 : ACode := (.seq (.seq (.region R115_1) T115_4) T115_6)
noncomputable def A115 : ACode := (.seq (.region R115_0) T115_7)
theorem A115_ok : comp tbl 8 ((Try.f115.body).getD .skip) = some A115 := by kernel_rfl
/-! f117 (*casemate/bus.Bus).at$1 -/
noncomputable def R117_0 : List GOp := [(none, .mov 4 (.k (.v (.int .i64 0))))]
noncomputable def R117_1 : List GOp := [(none, .mov 5 (.t 0)), (none, .nilc 6 (.t 5)), (none, .fld 7 1 (.t 6)), (none, .load 8 1 false (.t 7)), (none, .bin 9 .lss (.t 8) (.k (.v (.int .i64 0)))), (none, .mov 10 (.t 9)), (some (10, false), .mov 11 (.t 0)), (some (10, false), .nilc 12 (.t 11)), (some (10, false), .fld 13 1 (.t 12)), (some (10, false), .load 14 1 false (.t 13)), (some (10, false), .load 15 1 false (.t 1)), (some (10, false), .nilc 16 (.t 15)), (some (10, false), .fld 17 0 (.t 16)), (some (10, false), .load 18 1 false (.t 17)), (some (10, false), .len 19 (.t 18)), (some (10, false), .bin 20 .geq (.t 14) (.t 19)), (none, .pick 21 10 (.k .tt) (.t 20))]
noncomputable def O117_1 : List (Nat × Kd) := [(0, .quiet), (1, .quiet), (2, .quiet), (3, .quiet), (4, .quiet), (5, .quiet), (6, .quiet), (7, .quiet), (8, .quiet), (9, .quiet), (10, .quiet), (11, .quiet), (12, .quiet), (13, .quiet), (14, .quiet), (15, .quiet), (16, .quiet)]
noncomputable def Q117_1 : List (Nat × Kd × GOp) := [(0, .quiet, (none, .mov 5 (.t 0))), (1, .quiet, (none, .nilc 6 (.t 5))), (2, .quiet, (none, .fld 7 1 (.t 6))), (3, .quiet, (none, .load 8 1 false (.t 7))), (4, .quiet, (none, .bin 9 .lss (.t 8) (.k (.v (.int .i64 0))))), (5, .quiet, (none, .mov 10 (.t 9))), (6, .quiet, (some (10, false), .mov 11 (.t 0))), (7, .quiet, (some (10, false), .nilc 12 (.t 11))), (8, .quiet, (some (10, false), .fld 13 1 (.t 12))), (9, .quiet, (some (10, false), .load 14 1 false (.t 13))), (10, .quiet, (some (10, false), .load 15 1 false (.t 1))), (11, .quiet, (some (10, false), .nilc 16 (.t 15))), (12, .quiet, (some (10, false), .fld 17 0 (.t 16))), (13, .quiet, (some (10, false), .load 18 1 false (.t 17))), (14, .quiet, (some (10, false), .len 19 (.t 18))), (15, .quiet, (some (10, false), .bin 20 .geq (.t 14) (.t 19))), (16, .quiet, (none, .pick 21 10 (.k .tt) (.t 20)))]
theorem O117_1_ok : chkDraw (regOf Try.f117 1) O117_1 = true := by kernel_rfl
theorem Q117_1_ok : orderL R117_1 O117_1 = some Q117_1 := by kernel_rfl
noncomputable def R117_2 : List GOp := [(none, .mov 4 (.k (.v (.int .i64 2))))]
noncomputable def T117_3 : ACode := (.seq (.region R117_2) .ret)
noncomputable def T117_4 : ACode := (.cond (.t 21) T117_3 .skip)
noncomputable def R117_5 : List GOp := [(none, .load 22 1 false (.t 2)), (none, .load 23 1 false (.t 1)), (none, .nilc 24 (.t 23)), (none, .fld 25 0 (.t 24)), (none, .load 26 1 false (.t 25)), (none, .mov 27 (.t 0)), (none, .nilc 28 (.t 27)), (none, .fld 29 1 (.t 28)), (none, .load 30 1 false (.t 29)), (none, .idx 31 1 (.t 26) (.t 30)), (none, .load 32 1 false (.t 31)), (none, .mov 33 (.t 0)), (none, .call 34 (.t 22) [(.t 32), (.t 33)]), (none, .mov 4 (.t 34))]
noncomputable def O117_3 : List (Nat × Kd) := [(0, .quiet), (1, .quiet), (2, .quiet), (3, .quiet), (4, .quiet), (5, .quiet), (6, .quiet), (7, .quiet), (8, .quiet), (9, .quiet), (10, .quiet), (11, .quiet), (12, .loud), (13, .quiet)]
noncomputable def Q117_3 : List (Nat × Kd × GOp) := [(0, .quiet, (none, .load 22 1 false (.t 2))), (1, .quiet, (none, .load 23 1 false (.t 1))), (2, .quiet, (none, .nilc 24 (.t 23))), (3, .quiet, (none, .fld 25 0 (.t 24))), (4, .quiet, (none, .load 26 1 false (.t 25))), (5, .quiet, (none, .mov 27 (.t 0))), (6, .quiet, (none, .nilc 28 (.t 27))), (7, .quiet, (none, .fld 29 1 (.t 28))), (8, .quiet, (none, .load 30 1 false (.t 29))), (9, .quiet, (none, .idx 31 1 (.t 26) (.t 30))), (10, .quiet, (none, .load 32 1 false (.t 31))), (11, .quiet, (none, .mov 33 (.t 0))), (12, .loud, (none, .call 34 (.t 22) [(.t 32), (.t 33)])), (13, .quiet, (none, .mov 4 (.t 34)))]
theorem O117_3_ok : chkDraw (regOf Try.f117 3) O117_3 = true := by kernel_rfl
theorem Q117_3_ok : orderL R117_5 O117_3 = some Q117_3 := by kernel_rfl
noncomputable def T117_6 : ACode := (.seq (.draw (regOf Try.f117 3) R117_5) .ret)
noncomputable def T117_7 : ACode := (.seq (.seq (.draw (regOf Try.f117 1) R117_1) T117_4) T117_6)
noncomputable def A117 : ACode := (.seq (.region R117_0) T117_7)
theorem A117_ok : comp tbl 35 ((Try.f117.body).getD .skip) = some A117 := by kernel_rfl
/-! f118 (*casemate/bus.Bus).Advance$1 -/
noncomputable def R118_0 : List GOp := [(none, .mov 5 (.k (.v (.int .i64 0))))]
noncomputable def R118_1 : List GOp := [(none, .load 7 1 false (.t 1)), (none, .nilc 8 (.t 7)), (none, .fld 9 1 (.t 8)), (none, .load 10 1 false (.t 9)), (none, .load 11 32 true (.t 2)), (none, .call 12 (.k (.fn (.func 119) [] [])) [(.t 10), (.t 11)]), (none, .mov 6 (.t 12)), (none, .ext 13 0 (.t 6)), (none, .ext 14 1 (.t 6)), (none, .store 1 (.t 3) (.t 13)), (none, .mov 5 (.t 14))]
noncomputable def O118_1 : List (Nat × Kd) := [(0, .quiet), (1, .quiet), (2, .quiet), (3, .quiet), (4, .quiet), (5, .loud), (6, .quiet), (7, .quiet), (8, .quiet), (9, .loud), (10, .quiet)]
noncomputable def Q118_1 : List (Nat × Kd × GOp) := [(0, .quiet, (none, .load 7 1 false (.t 1))), (1, .quiet, (none, .nilc 8 (.t 7))), (2, .quiet, (none, .fld 9 1 (.t 8))), (3, .quiet, (none, .load 10 1 false (.t 9))), (4, .quiet, (none, .load 11 32 true (.t 2))), (5, .loud, (none, .call 12 (.k (.fn (.func 119) [] [])) [(.t 10), (.t 11)])), (6, .quiet, (none, .mov 6 (.t 12))), (7, .quiet, (none, .ext 13 0 (.t 6))), (8, .quiet, (none, .ext 14 1 (.t 6))), (9, .loud, (none, .store 1 (.t 3) (.t 13))), (10, .quiet, (none, .mov 5 (.t 14)))]
theorem O118_1_ok : chkDraw (regOf Try.f118 1) O118_1 = true := by kernel_rfl
theorem Q118_1_ok : orderL R118_1 O118_1 = some Q118_1 := by kernel_rfl
noncomputable def R118_2 : List GOp := [(none, .mov 15 (.t 5)), (none, .mov 5 (.t 15))]
noncomputable def T118_3 : ACode := (.seq (.region R118_2) .ret)
noncomputable def T118_4 : ACode := (.seq (.draw (regOf Try.f118 1) R118_1) T118_3)
noncomputable def A118 : ACode := (.seq (.region R118_0) T118_4)
theorem A118_ok : comp tbl 16 ((Try.f118.body).getD .skip) = some A118 := by kernel_rfl
/-! f120 (*casemate/bus.Bus).step -/
noncomputable def R120_0 : List GOp := [(none, .box 3 40 (.t 1))]
noncomputable def R120_1 : List GOp := [(none, .fld 5 1 (.t 3)), (none, .load 6 1 false (.t 5)), (none, .bin 7 .eql (.t 6) (.k (.v (.int .i64 6))))]
noncomputable def R120_2 : List GOp := [(none, .mov 8 (.t 0)), (none, .fld 9 69 (.t 3)), (none, .load 10 1 false (.t 9)), (none, .call 11 (.k (.fn (.func 145) [] [])) [(.t 8), (.t 10)])]
noncomputable def T120_3 : ACode := (.seq (.region R120_2) .ret)
noncomputable def T120_4 : ACode := (.cond (.t 7) T120_3 .skip)
noncomputable def R120_5 : List GOp := [(none, .fld 12 1 (.t 3)), (none, .load 13 1 false (.t 12)), (none, .bin 14 .lss (.t 13) (.k (.v (.int .i64 1)))), (none, .mov 15 (.t 14)), (some (15, false), .fld 16 1 (.t 3)), (some (15, false), .load 17 1 false (.t 16)), (some (15, false), .bin 18 .gtr (.t 17) (.k (.v (.int .i64 5)))), (none, .pick 19 15 (.k .tt) (.t 18)), (none, .mov 20 (.t 19)), (some (20, false), .fld 21 2 (.t 3)), (some (20, false), .load 22 1 false (.t 21)), (some (20, false), .bin 23 .lss (.t 22) (.k (.v (.int .i64 0)))), (none, .pick 24 20 (.k .tt) (.t 23)), (none, .mov 25 (.t 24)), (some (25, false), .fld 26 2 (.t 3)), (some (25, false), .load 27 1 false (.t 26)), (some (25, false), .mov 28 (.t 0)), (some (25, false), .nilc 29 (.t 28)), (some (25, false), .fld 30 0 (.t 29)), (some (25, false), .load 31 1 false (.t 30)), (some (25, false), .len 32 (.t 31)), (some (25, false), .bin 33 .geq (.t 27) (.t 32)), (none, .pick 34 25 (.k .tt) (.t 33))]
noncomputable def O120_3 : List (Nat × Kd) := [(0, .quiet), (1, .quiet), (2, .quiet), (3, .quiet), (4, .quiet), (5, .quiet), (6, .quiet), (7, .quiet), (8, .quiet), (9, .quiet), (10, .quiet), (11, .quiet), (12, .quiet), (13, .quiet), (14, .quiet), (15, .quiet), (16, .quiet), (17, .quiet), (18, .quiet), (19, .quiet), (20, .quiet), (21, .quiet), (22, .quiet)]
noncomputable def Q120_3 : List (Nat × Kd × GOp) := [(0, .quiet, (none, .fld 12 1 (.t 3))), (1, .quiet, (none, .load 13 1 false (.t 12))), (2, .quiet, (none, .bin 14 .lss (.t 13) (.k (.v (.int .i64 1))))), (3, .quiet, (none, .mov 15 (.t 14))), (4, .quiet, (some (15, false), .fld 16 1 (.t 3))), (5, .quiet, (some (15, false), .load 17 1 false (.t 16))), (6, .quiet, (some (15, false), .bin 18 .gtr (.t 17) (.k (.v (.int .i64 5))))), (7, .quiet, (none, .pick 19 15 (.k .tt) (.t 18))), (8, .quiet, (none, .mov 20 (.t 19))), (9, .quiet, (some (20, false), .fld 21 2 (.t 3))), (10, .quiet, (some (20, false), .load 22 1 false (.t 21))), (11, .quiet, (some (20, false), .bin 23 .lss (.t 22) (.k (.v (.int .i64 0))))), (12, .quiet, (none, .pick 24 20 (.k .tt) (.t 23))), (13, .quiet, (none, .mov 25 (.t 24))), (14, .quiet, (some (25, false), .fld 26 2 (.t 3))), (15, .quiet, (some (25, false), .load 27 1 false (.t 26))), (16, .quiet, (some (25, false), .mov 28 (.t 0))), (17, .quiet, (some (25, false), .nilc 29 (.t 28))), (18, .quiet, (some (25, false), .fld 30 0 (.t 29))), (19, .quiet, (some (25, false), .load 31 1 false (.t 30))), (20, .quiet, (some (25, false), .len 32 (.t 31))), (21, .quiet, (some (25, false), .bin 33 .geq (.t 27) (.t 32))), (22, .quiet, (none, .pick 34 25 (.k .tt) (.t 33)))]
theorem O120_3_ok : chkDraw (regOf Try.f120 3) O120_3 = true := by kernel_rfl
theorem Q120_3_ok : orderL R120_5 O120_3 = some Q120_3 := by kernel_rfl
noncomputable def T120_6 : ACode := (.cond (.t 34) .ret .skip)
noncomputable def R120_7 : List GOp := [(none, .mov 35 (.t 0)), (none, .nilc 36 (.t 35)), (none, .fld 37 0 (.t 36)), (none, .load 38 1 false (.t 37)), (none, .fld 39 2 (.t 3)), (none, .load 40 1 false (.t 39)), (none, .idx 41 1 (.t 38) (.t 40)), (none, .load 42 1 false (.t 41)), (none, .alloc 4 42 [(.v (.pointer none))]), (none, .store 1 (.t 4) (.t 42))]
noncomputable def O120_4 : List (Nat × Kd) := [(0, .quiet), (1, .quiet), (2, .quiet), (3, .quiet), (4, .quiet), (5, .quiet), (6, .quiet), (7, .quiet), (8, .loud), (9, .last)]
noncomputable def Q120_4 : List (Nat × Kd × GOp) := [(0, .quiet, (none, .mov 35 (.t 0))), (1, .quiet, (none, .nilc 36 (.t 35))), (2, .quiet, (none, .fld 37 0 (.t 36))), (3, .quiet, (none, .load 38 1 false (.t 37))), (4, .quiet, (none, .fld 39 2 (.t 3))), (5, .quiet, (none, .load 40 1 false (.t 39))), (6, .quiet, (none, .idx 41 1 (.t 38) (.t 40))), (7, .quiet, (none, .load 42 1 false (.t 41))), (8, .loud, (none, .alloc 4 42 [(.v (.pointer none))])), (9, .last, (none, .store 1 (.t 4) (.t 42)))]
theorem O120_4_ok : chkDraw (regOf Try.f120 4) O120_4 = true := by kernel_rfl
theorem Q120_4_ok : orderL R120_7 O120_4 = some Q120_4 := by kernel_rfl
noncomputable def R120_8 : List GOp := [(none, .mkfn 43 (.func 146) [] [(.t 4), (.t 3)]), (none, .mkfn 44 (.func 147) [] [(.t 4)]), (none, .mkfn 45 (.func 149) [] [(.t 4), (.t 3)]), (none, .mkfn 46 (.func 151) [] [(.t 4)]), (none, .mkfn 47 (.func 152) [] [(.t 4)]), (none, .build 48 [(.v .nilFunc), (.v .nilFunc), (.v .nilFunc), (.v .nilFunc), (.v .nilFunc), (.v .nilFunc)] [(1, 1, (.t 43)), (2, 1, (.t 44)), (3, 1, (.t 45)), (4, 1, (.t 46)), (5, 1, (.t 47))]), (none, .fld 49 1 (.t 3)), (none, .load 50 1 false (.t 49)), (none, .other (some 51) (.index 215 (.tmp 48) (.tmp 50)) 1), (none, .call 52 (.t 51) [])]
noncomputable def T120_9 : ACode := (.region R120_8)
noncomputable def T120_10 : ACode := (.seq (.draw (regOf Try.f120 4) R120_7) T120_9)
noncomputable def T120_11 : ACode := (.seq (.seq (.draw (regOf Try.f120 3) R120_5) T120_6) T120_10)
noncomputable def T120_12 : ACode := (.seq (.seq (.region R120_1) T120_4) T120_11)
noncomputable def A120 : ACode := (.seq (.region R120_0) T120_12)
theorem A120_ok : comp tbl 53 ((Try.f120.body).getD .skip) = some A120 := by kernel_rfl
/-! f144 slices.IndexFunc[[]*casemate/member.Member,*casemate/member.Member] -/
noncomputable def R144_0 : List GOp := [(none, .mov 4 (.k (.v (.int .i64 0))))]
noncomputable def R144_1 : List GOp := [(none, .mov 6 (.t 0)), (none, .len 7 (.t 6)), (none, .mov 8 (.k (.v (.int .i64 0))))]
noncomputable def R144_2 : List GOp := [(none, .bin 9 .lss (.t 8) (.t 7))]
noncomputable def T144_3 : ACode := (.exit 0)
noncomputable def R144_4 : List GOp := [(none, .mov 10 (.t 8)), (none, .mov 5 (.t 10))]
noncomputable def R144_5 : List GOp := [(none, .mov 11 (.t 1)), (none, .mov 12 (.t 0)), (none, .mov 13 (.t 5)), (none, .idx 14 1 (.t 12) (.t 13)), (none, .load 15 1 false (.t 14)), (none, .call 16 (.t 11) [(.t 15)])]
noncomputable def R144_6 : List GOp := [(none, .mov 17 (.t 5)), (none, .mov 4 (.t 17))]
noncomputable def T144_7 : ACode := (.seq (.region R144_6) .ret)
noncomputable def T144_8 : ACode := (.cond (.t 16) T144_7 .skip)
noncomputable def T144_9 : ACode := (.seq (.region R144_5) T144_8)
noncomputable def T144_10 : ACode := (.seq (.region R144_4) T144_9)
noncomputable def R144_11 : List GOp := [(none, .bin 18 .add (.t 8) (.k (.v (.int .i64 1)))), (none, .mov 8 (.t 18))]
noncomputable def T144_12 : ACode := (.region R144_11)
noncomputable def T144_13 : ACode := (.seq (.block 1 T144_10) T144_12)
noncomputable def T144_14 : ACode := (.seq (.cond (.t 9) .skip T144_3) T144_13)
noncomputable def L144_15 : ACode := (.seq (.region R144_2) T144_14)
noncomputable def T144_16 : ACode := (.loop L144_15)
noncomputable def T144_17 : ACode := (.block 0 T144_16)
noncomputable def R144_18 : List GOp := [(none, .mov 4 (.k (.v (.int .i64 (-1)))))]
noncomputable def T144_19 : ACode := (.seq (.region R144_18) .ret)
noncomputable def T144_20 : ACode := (.seq (.seq (.region R144_1) T144_17) T144_19)
noncomputable def A144 : ACode := (.seq (.region R144_0) T144_20)
theorem A144_ok : comp tbl 19 ((Try.f144.body).getD .skip) = some A144 := by kernel_rfl
/-! f145 (*casemate/bus.Bus).crash -/
noncomputable def R145_0 : List GOp := [(none, .mov 7 (.t 0)), (none, .nilc 8 (.t 7)), (none, .fld 9 0 (.t 8)), (none, .load 10 1 false (.t 9)), (none, .len 11 (.t 10)), (none, .mov 12 (.k (.v (.int .i64 0))))]
noncomputable def R145_1 : List GOp := [(none, .bin 13 .lss (.t 12) (.t 11))]
noncomputable def T145_2 : ACode := (.exit 0)
noncomputable def R145_3 : List GOp := [(none, .idx 14 1 (.t 10) (.t 12)), (none, .load 15 1 false (.t 14)), (none, .mov 5 (.t 15))]
noncomputable def R145_4 : List GOp := [(none, .mov 16 (.t 5)), (none, .call 17 (.k (.fn (.func 31) [] [])) [(.t 16)]), (none, .mov 18 (.t 1)), (none, .len 19 (.t 18)), (none, .other (some 20) (.call ⟨.builtin .min, #[(.tmp 17), (.tmp 19)], #[3, 3]⟩) 3), (none, .mov 6 (.t 20))]
noncomputable def R145_5 : List GOp := [(none, .mov 21 (.t 5)), (none, .mov 22 (.t 1)), (none, .mov 23 (.t 6)), (none, .slice 24 1 (.t 22) none (some (.t 23)) none), (none, .call 25 (.k (.fn (.func 54) [] [])) [(.t 21), (.t 24)])]
noncomputable def R145_6 : List GOp := [(none, .mov 26 (.t 1)), (none, .mov 27 (.t 6)), (none, .slice 28 1 (.t 26) (some (.t 27)) none none), (none, .mov 1 (.t 28))]
noncomputable def T145_7 : ACode := (.region R145_6)
noncomputable def T145_8 : ACode := (.seq (.region R145_5) T145_7)
noncomputable def T145_9 : ACode := (.seq (.region R145_4) T145_8)
noncomputable def T145_10 : ACode := (.seq (.region R145_3) T145_9)
noncomputable def R145_11 : List GOp := [(none, .bin 29 .add (.t 12) (.k (.v (.int .i64 1)))), (none, .mov 12 (.t 29))]
noncomputable def T145_12 : ACode := (.region R145_11)
noncomputable def T145_13 : ACode := (.seq (.block 1 T145_10) T145_12)
noncomputable def T145_14 : ACode := (.seq (.cond (.t 13) .skip T145_2) T145_13)
noncomputable def L145_15 : ACode := (.seq (.region R145_1) T145_14)
noncomputable def T145_16 : ACode := (.loop L145_15)
noncomputable def T145_17 : ACode := (.block 0 T145_16)
noncomputable def R145_18 : List GOp := [(none, .mov 30 (.t 0)), (none, .nilc 31 (.t 30)), (none, .fld 32 3 (.t 31)), (none, .store 1 (.t 32) (.k .tt))]
noncomputable def T145_19 : ACode := (.region R145_18)
noncomputable def A145 : ACode := (.seq (.seq (.region R145_0) T145_17) T145_19)
theorem A145_ok : comp tbl 33 ((Try.f145.body).getD .skip) = some A145 := by kernel_rfl
/-! f146 (*casemate/bus.Bus).step$1 -/
noncomputable def R146_0 : List GOp := [(none, .load 2 1 false (.t 0)), (none, .fld 3 3 (.t 1)), (none, .load 4 1 false (.t 3)), (none, .fld 5 5 (.t 1)), (none, .load 6 64 true (.t 5)), (none, .call 7 (.k (.fn (.func 53) [] [])) [(.t 2), (.t 4), (.t 6)])]
noncomputable def A146 : ACode := (.region R146_0)
theorem A146_ok : comp tbl 8 ((Try.f146.body).getD .skip) = some A146 := by kernel_rfl
/-! f147 (*casemate/bus.Bus).step$2 -/
noncomputable def R147_0 : List GOp := [(none, .load 1 1 false (.t 0)), (none, .call 2 (.k (.fn (.func 148) [] [])) [(.t 1)])]
noncomputable def A147 : ACode := (.region R147_0)
theorem A147_ok : comp tbl 3 ((Try.f147.body).getD .skip) = some A147 := by kernel_rfl
/-! f149 (*casemate/bus.Bus).step$3 -/
noncomputable def R149_0 : List GOp := [(none, .load 2 1 false (.t 0)), (none, .fld 3 4 (.t 1)), (none, .load 4 1 false (.t 3)), (none, .call 5 (.k (.fn (.func 150) [] [])) [(.t 2), (.t 4)])]
noncomputable def A149 : ACode := (.region R149_0)
theorem A149_ok : comp tbl 6 ((Try.f149.body).getD .skip) = some A149 := by kernel_rfl
/-! f151 (*casemate/bus.Bus).step$4 -/
noncomputable def R151_0 : List GOp := [(none, .load 1 1 false (.t 0)), (none, .call 2 (.k (.fn (.func 50) [] [])) [(.t 1), (.k .tt)])]
noncomputable def A151 : ACode := (.region R151_0)
theorem A151_ok : comp tbl 3 ((Try.f151.body).getD .skip) = some A151 := by kernel_rfl
/-! f152 (*casemate/bus.Bus).step$5 -/
noncomputable def R152_0 : List GOp := [(none, .load 1 1 false (.t 0)), (none, .call 2 (.k (.fn (.func 50) [] [])) [(.t 1), (.k .ff)])]
noncomputable def A152 : ACode := (.region R152_0)
theorem A152_ok : comp tbl 3 ((Try.f152.body).getD .skip) = some A152 := by kernel_rfl
end Go.Proofs.Ytolcobhaghdfcaa
