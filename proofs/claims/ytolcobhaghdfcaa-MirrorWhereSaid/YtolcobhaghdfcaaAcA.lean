/- The short forms of the program's functions, printed by a program (wip/ShowCode.lean) and held against the loaded program by reckoning. -/
import Derived.Test.YtolcobhaghdfcaaTbl
import Derived.Test.YtolcobhaghdfcaaEng
set_option maxRecDepth 100000
namespace Go.Proofs.Ytolcobhaghdfcaa
open Sx Go
/-! f3 casemate/casematelaw19.MirrorWhere -/
noncomputable def R3_0 : List GOp := [(none, .box 2 23 (.t 0)), (none, .box 3 27 (.t 1)), (none, .mov 4 (.k .ff))]
noncomputable def R3_1 : List GOp := [(none, .load 8 2 true (.t 2)), (none, .load 9 66 true (.t 3)), (none, .call 10 (.k (.fn (.func 12) [] [])) [(.t 8), (.t 9)]), (none, .mov 7 (.t 10)), (none, .ext 11 0 (.t 7)), (none, .ext 12 1 (.t 7)), (none, .mov 5 (.t 11)), (none, .mov 6 (.t 12))]
noncomputable def R3_2 : List GOp := [(none, .load 13 2 true (.t 2)), (none, .call 14 (.k (.fn (.func 13) [] [])) [(.t 13)]), (none, .bin 15 .neq (.t 14) (.k (.v (.int .i64 0))))]
noncomputable def R3_3 : List GOp := [(none, .mov 5 (.k (.v (.slice none 0 0))))]
noncomputable def T3_4 : ACode := (.region R3_3)
noncomputable def T3_5 : ACode := (.cond (.t 15) T3_4 .skip)
noncomputable def R3_6 : List GOp := [(none, .load 16 2 true (.t 2)), (none, .load 17 66 true (.t 3)), (none, .call 18 (.k (.fn (.func 15) [] [])) [(.t 16), (.t 17)]), (none, .mov 19 (.t 5)), (none, .call 20 (.k (.fn (.func 14) [] [])) [(.t 18), (.t 19)]), (none, .mov 21 (.t 20)), (some (21, true), .call 22 (.k (.fn (.func 16) [] [])) []), (none, .pick 23 21 (.t 22) (.k .ff)), (none, .mov 4 (.t 23))]
noncomputable def T3_7 : ACode := (.seq (.region R3_6) .ret)
noncomputable def T3_8 : ACode := (.seq (.seq (.region R3_2) T3_5) T3_7)
noncomputable def T3_9 : ACode := (.seq (.region R3_1) T3_8)
noncomputable def A3 : ACode := (.seq (.region R3_0) T3_9)
theorem A3_ok : comp tbl 24 ((Try.f3.body).getD .skip) = some A3 := by kernel_rfl
/-! f12 casemate/casemateref19.Where -/
noncomputable def R12_0 : List GOp := [(none, .box 2 23 (.t 0)), (none, .box 3 27 (.t 1)), (none, .mov 4 (.k (.v (.slice none 0 0)))), (none, .mov 5 (.k (.v (.int .i64 0))))]
noncomputable def R12_1 : List GOp := [(none, .load 15 2 true (.t 2)), (none, .call 16 (.k (.fn (.func 13) [] [])) [(.t 15)]), (none, .bin 17 .neq (.t 16) (.k (.v (.int .i64 0))))]
noncomputable def R12_2 : List GOp := [(none, .mov 4 (.k (.v (.slice none 0 0)))), (none, .mov 5 (.k (.v (.int .i64 0))))]
noncomputable def T12_3 : ACode := (.seq (.region R12_2) .ret)
noncomputable def T12_4 : ACode := (.cond (.t 17) T12_3 .skip)
noncomputable def R12_5 : List GOp := [(none, .fld 18 1 (.t 3)), (none, .load 19 1 false (.t 18)), (none, .mov 6 (.t 19))]
noncomputable def R12_6 : List GOp := [(none, .mov 7 (.k (.v (.slice none 0 0))))]
noncomputable def R12_7 : List GOp := [(none, .fld 20 0 (.t 3)), (none, .load 21 1 false (.t 20))]
noncomputable def R12_8 : List GOp := [(none, .bin 23 .eql (.t 21) (.k (.v (.int .i64 1)))), (none, .mov 22 (.t 23))]
noncomputable def R12_9 : List GOp := [(none, .mov 8 (.k (.v (.int .i64 0))))]
noncomputable def R12_10 : List GOp := [(none, .mov 24 (.t 8)), (none, .fld 25 0 (.t 2)), (none, .load 26 1 false (.t 25)), (none, .bin 27 .lss (.t 24) (.t 26))]
noncomputable def T12_11 : ACode := (.exit 1)
noncomputable def T12_12 : ACode := (.cond (.t 27) .skip T12_11)
noncomputable def R12_13 : List GOp := [(none, .mov 30 (.t 7)), (none, .mov 31 (.t 8)), (none, .bslice 32 3 1 [(.v (.int .i64 0))] [(0, 1, (.t 31))]), (none, .other (some 33) (.call ⟨.builtin .append, #[(.tmp 30), (.tmp 32)], #[28, 28]⟩) 28), (none, .mov 7 (.t 33))]
noncomputable def T12_14 : ACode := (.region R12_13)
noncomputable def R12_15 : List GOp := [(none, .mov 28 (.t 8)), (none, .bin 29 .add (.t 28) (.k (.v (.int .i64 1)))), (none, .mov 8 (.t 29))]
noncomputable def T12_16 : ACode := (.region R12_15)
noncomputable def T12_17 : ACode := (.seq (.block 2 T12_14) T12_16)
noncomputable def L12_18 : ACode := (.seq (.seq (.region R12_10) T12_12) T12_17)
noncomputable def T12_19 : ACode := (.loop L12_18)
noncomputable def T12_20 : ACode := (.block 1 T12_19)
noncomputable def T12_21 : ACode := (.seq (.region R12_9) T12_20)
noncomputable def R12_22 : List GOp := [(none, .bin 35 .eql (.t 21) (.k (.v (.int .i64 3)))), (none, .mov 34 (.t 35))]
noncomputable def R12_23 : List GOp := [(none, .mov 9 (.k (.v (.int .i64 0))))]
noncomputable def R12_24 : List GOp := [(none, .mov 36 (.t 9)), (none, .bin 37 .lss (.t 36) (.k (.v (.int .i64 3)))), (none, .mov 38 (.t 37)), (some (38, true), .fld 39 0 (.t 2)), (some (38, true), .load 40 1 false (.t 39)), (some (38, true), .bin 41 .gtr (.t 40) (.k (.v (.int .i64 0)))), (none, .pick 42 38 (.t 41) (.k .ff)), (none, .mov 43 (.t 42)), (some (43, true), .mov 44 (.t 6)), (some (43, true), .bin 45 .gtr (.t 44) (.k (.v (.int .i64 0)))), (none, .pick 46 43 (.t 45) (.k .ff))]
noncomputable def T12_25 : ACode := (.exit 3)
noncomputable def T12_26 : ACode := (.cond (.t 46) .skip T12_25)
noncomputable def R12_27 : List GOp := [(none, .mov 49 (.t 7)), (none, .mov 50 (.t 6)), (none, .fld 51 0 (.t 2)), (none, .load 52 1 false (.t 51)), (none, .bin 53 .rem (.t 50) (.t 52)), (none, .mov 54 (.t 9)), (none, .bin 55 .add (.t 53) (.t 54)), (none, .fld 56 0 (.t 2)), (none, .load 57 1 false (.t 56)), (none, .bin 58 .rem (.t 55) (.t 57)), (none, .bslice 59 3 1 [(.v (.int .i64 0))] [(0, 1, (.t 58))]), (none, .other (some 60) (.call ⟨.builtin .append, #[(.tmp 49), (.tmp 59)], #[28, 28]⟩) 28), (none, .mov 7 (.t 60))]
noncomputable def O12_16 : List (Nat × Kd) := [(0, .quiet), (1, .quiet), (2, .quiet), (3, .quiet), (4, .quiet), (5, .quiet), (6, .quiet), (7, .quiet), (8, .quiet), (9, .quiet), (10, .loud), (11, .loud), (12, .quiet)]
noncomputable def Q12_16 : List (Nat × Kd × GOp) := [(0, .quiet, (none, .mov 49 (.t 7))), (1, .quiet, (none, .mov 50 (.t 6))), (2, .quiet, (none, .fld 51 0 (.t 2))), (3, .quiet, (none, .load 52 1 false (.t 51))), (4, .quiet, (none, .bin 53 .rem (.t 50) (.t 52))), (5, .quiet, (none, .mov 54 (.t 9))), (6, .quiet, (none, .bin 55 .add (.t 53) (.t 54))), (7, .quiet, (none, .fld 56 0 (.t 2))), (8, .quiet, (none, .load 57 1 false (.t 56))), (9, .quiet, (none, .bin 58 .rem (.t 55) (.t 57))), (10, .loud, (none, .bslice 59 3 1 [(.v (.int .i64 0))] [(0, 1, (.t 58))])), (11, .loud, (none, .other (some 60) (.call ⟨.builtin .append, #[(.tmp 49), (.tmp 59)], #[28, 28]⟩) 28)), (12, .quiet, (none, .mov 7 (.t 60)))]
theorem O12_16_ok : chkDraw (regOf Try.f12 16) O12_16 = true := by kernel_rfl
theorem Q12_16_ok : orderL R12_27 O12_16 = some Q12_16 := by kernel_rfl
noncomputable def T12_28 : ACode := (.draw (regOf Try.f12 16) R12_27)
noncomputable def R12_29 : List GOp := [(none, .mov 47 (.t 9)), (none, .bin 48 .add (.t 47) (.k (.v (.int .i64 1)))), (none, .mov 9 (.t 48))]
noncomputable def T12_30 : ACode := (.region R12_29)
noncomputable def T12_31 : ACode := (.seq (.block 4 T12_28) T12_30)
noncomputable def L12_32 : ACode := (.seq (.seq (.region R12_24) T12_26) T12_31)
noncomputable def T12_33 : ACode := (.loop L12_32)
noncomputable def T12_34 : ACode := (.block 3 T12_33)
noncomputable def T12_35 : ACode := (.seq (.region R12_23) T12_34)
noncomputable def R12_36 : List GOp := [(none, .bin 62 .eql (.t 21) (.k (.v (.int .i64 4)))), (none, .mov 61 (.t 62))]
noncomputable def R12_37 : List GOp := [(none, .load 64 2 true (.t 2)), (none, .mov 65 (.t 6)), (none, .call 66 (.k (.fn (.func 55) [] [])) [(.t 64), (.t 65)]), (none, .mov 63 (.t 66)), (none, .ext 67 0 (.t 63)), (none, .ext 68 1 (.t 63)), (none, .ext 69 2 (.t 63)), (none, .mov 10 (.t 67)), (none, .mov 11 (.t 68)), (none, .mov 12 (.t 69))]
noncomputable def R12_38 : List GOp := [(none, .mov 70 (.t 12)), (none, .bin 71 .neq (.t 70) (.k (.v (.int .i64 0))))]
noncomputable def R12_39 : List GOp := [(none, .mov 4 (.k (.v (.slice none 0 0)))), (none, .mov 5 (.k (.v (.int .i64 0))))]
noncomputable def T12_40 : ACode := (.seq (.region R12_39) .ret)
noncomputable def T12_41 : ACode := (.cond (.t 71) T12_40 .skip)
noncomputable def R12_42 : List GOp := [(none, .mov 72 (.t 10)), (none, .mov 6 (.t 72))]
noncomputable def R12_43 : List GOp := [(none, .mov 73 (.t 11)), (none, .bslice 74 3 1 [(.v (.int .i64 0))] [(0, 1, (.t 73))]), (none, .mov 7 (.t 74))]
noncomputable def T12_44 : ACode := (.region R12_43)
noncomputable def T12_45 : ACode := (.seq (.region R12_42) T12_44)
noncomputable def T12_46 : ACode := (.seq (.seq (.region R12_38) T12_41) T12_45)
noncomputable def T12_47 : ACode := (.seq (.region R12_37) T12_46)
noncomputable def R12_48 : List GOp := [(none, .mov 4 (.k (.v (.slice none 0 0)))), (none, .mov 5 (.k (.v (.int .i64 0))))]
noncomputable def T12_49 : ACode := (.seq (.region R12_48) .ret)
noncomputable def T12_50 : ACode := (.cond (.t 61) T12_47 T12_49)
noncomputable def T12_51 : ACode := (.seq (.region R12_36) T12_50)
noncomputable def T12_52 : ACode := (.cond (.t 34) T12_35 T12_51)
noncomputable def T12_53 : ACode := (.seq (.region R12_22) T12_52)
noncomputable def T12_54 : ACode := (.cond (.t 22) T12_21 T12_53)
noncomputable def T12_55 : ACode := (.seq (.region R12_8) T12_54)
noncomputable def T12_56 : ACode := (.block 0 T12_55)
noncomputable def R12_57 : List GOp := [(none, .load 76 2 true (.t 2)), (none, .fld 77 0 (.t 3)), (none, .load 78 1 false (.t 77)), (none, .mov 79 (.t 6)), (none, .call 80 (.k (.fn (.func 56) [] [])) [(.t 76), (.t 78), (.t 79)]), (none, .mov 75 (.t 80)), (none, .ext 81 0 (.t 75)), (none, .ext 82 1 (.t 75)), (none, .mov 13 (.t 81)), (none, .mov 14 (.t 82))]
noncomputable def R12_58 : List GOp := [(none, .mov 83 (.t 14)), (none, .bin 84 .neq (.t 83) (.k (.v (.int .i64 0))))]
noncomputable def R12_59 : List GOp := [(none, .mov 4 (.k (.v (.slice none 0 0)))), (none, .mov 5 (.k (.v (.int .i64 0))))]
noncomputable def T12_60 : ACode := (.seq (.region R12_59) .ret)
noncomputable def T12_61 : ACode := (.cond (.t 84) T12_60 .skip)
noncomputable def R12_62 : List GOp := [(none, .mov 85 (.t 7)), (none, .mov 86 (.t 13)), (none, .mov 4 (.t 85)), (none, .mov 5 (.t 86))]
noncomputable def T12_63 : ACode := (.seq (.region R12_62) .ret)
noncomputable def T12_64 : ACode := (.seq (.seq (.region R12_58) T12_61) T12_63)
noncomputable def T12_65 : ACode := (.seq (.region R12_57) T12_64)
noncomputable def T12_66 : ACode := (.seq (.seq (.region R12_7) T12_56) T12_65)
noncomputable def T12_67 : ACode := (.seq (.region R12_6) T12_66)
noncomputable def T12_68 : ACode := (.seq (.region R12_5) T12_67)
noncomputable def T12_69 : ACode := (.seq (.seq (.region R12_1) T12_4) T12_68)
noncomputable def A12 : ACode := (.seq (.region R12_0) T12_69)
theorem A12_ok : comp tbl 87 ((Try.f12.body).getD .skip) = some A12 := by kernel_rfl
/-! f13 casemate/casemateref14.Check -/
noncomputable def R13_0 : List GOp := [(none, .box 1 23 (.t 0)), (none, .mov 2 (.k (.v (.int .i64 0))))]
noncomputable def R13_1 : List GOp := [(none, .fld 3 0 (.t 1)), (none, .load 4 1 false (.t 3)), (none, .bin 5 .geq (.t 4) (.k (.v (.int .i64 4)))), (none, .mov 6 (.t 5)), (some (6, true), .fld 7 0 (.t 1)), (some (6, true), .load 8 1 false (.t 7)), (some (6, true), .bin 9 .leq (.t 8) (.k (.v (.int .i64 64)))), (none, .pick 10 6 (.t 9) (.k .ff)), (none, .mov 11 (.t 10)), (some (11, true), .fld 12 1 (.t 1)), (some (11, true), .load 13 1 false (.t 12)), (some (11, true), .bin 14 .geq (.t 13) (.k (.v (.int .i64 1)))), (none, .pick 15 11 (.t 14) (.k .ff)), (none, .mov 16 (.t 15)), (some (16, true), .fld 17 1 (.t 1)), (some (16, true), .load 18 1 false (.t 17)), (some (16, true), .bin 19 .leq (.t 18) (.k (.v (.int .i64 64)))), (none, .pick 20 16 (.t 19) (.k .ff))]
noncomputable def R13_2 : List GOp := [(none, .mov 2 (.k (.v (.int .i64 0))))]
noncomputable def T13_3 : ACode := (.seq (.region R13_2) .ret)
noncomputable def T13_4 : ACode := (.cond (.t 20) T13_3 .skip)
noncomputable def R13_5 : List GOp := [(none, .mov 2 (.k (.v (.int .i64 2))))]
noncomputable def T13_6 : ACode := (.seq (.region R13_5) .ret)
noncomputable def T13_7 : ACode := (.seq (.seq (.region R13_1) T13_4) T13_6)
noncomputable def A13 : ACode := (.seq (.region R13_0) T13_7)
theorem A13_ok : comp tbl 21 ((Try.f13.body).getD .skip) = some A13 := by kernel_rfl
/-! f14 casemate/casemateref16.Ints -/
noncomputable def R14_0 : List GOp := [(none, .mov 4 (.k .ff))]
noncomputable def R14_1 : List GOp := [(none, .mov 6 (.t 0)), (none, .len 7 (.t 6)), (none, .mov 8 (.t 1)), (none, .len 9 (.t 8)), (none, .bin 10 .neq (.t 7) (.t 9))]
noncomputable def R14_2 : List GOp := [(none, .mov 4 (.k .ff))]
noncomputable def T14_3 : ACode := (.seq (.region R14_2) .ret)
noncomputable def T14_4 : ACode := (.cond (.t 10) T14_3 .skip)
noncomputable def R14_5 : List GOp := [(none, .mov 5 (.k (.v (.int .i64 0))))]
noncomputable def R14_6 : List GOp := [(none, .mov 11 (.t 5)), (none, .mov 12 (.t 0)), (none, .len 13 (.t 12)), (none, .bin 14 .lss (.t 11) (.t 13))]
noncomputable def T14_7 : ACode := (.exit 0)
noncomputable def T14_8 : ACode := (.cond (.t 14) .skip T14_7)
noncomputable def R14_9 : List GOp := [(none, .mov 17 (.t 0)), (none, .mov 18 (.t 5)), (none, .idx 19 1 (.t 17) (.t 18)), (none, .load 20 1 false (.t 19)), (none, .mov 21 (.t 1)), (none, .mov 22 (.t 5)), (none, .idx 23 1 (.t 21) (.t 22)), (none, .load 24 1 false (.t 23)), (none, .bin 25 .neq (.t 20) (.t 24))]
noncomputable def O14_6 : List (Nat × Kd) := [(0, .quiet), (1, .quiet), (2, .quiet), (3, .quiet), (4, .quiet), (5, .quiet), (6, .quiet), (7, .quiet), (8, .quiet)]
noncomputable def Q14_6 : List (Nat × Kd × GOp) := [(0, .quiet, (none, .mov 17 (.t 0))), (1, .quiet, (none, .mov 18 (.t 5))), (2, .quiet, (none, .idx 19 1 (.t 17) (.t 18))), (3, .quiet, (none, .load 20 1 false (.t 19))), (4, .quiet, (none, .mov 21 (.t 1))), (5, .quiet, (none, .mov 22 (.t 5))), (6, .quiet, (none, .idx 23 1 (.t 21) (.t 22))), (7, .quiet, (none, .load 24 1 false (.t 23))), (8, .quiet, (none, .bin 25 .neq (.t 20) (.t 24)))]
theorem O14_6_ok : chkDraw (regOf Try.f14 6) O14_6 = true := by kernel_rfl
theorem Q14_6_ok : orderL R14_9 O14_6 = some Q14_6 := by kernel_rfl
noncomputable def R14_10 : List GOp := [(none, .mov 4 (.k .ff))]
noncomputable def T14_11 : ACode := (.seq (.region R14_10) .ret)
noncomputable def T14_12 : ACode := (.cond (.t 25) T14_11 .skip)
noncomputable def T14_13 : ACode := (.seq (.draw (regOf Try.f14 6) R14_9) T14_12)
noncomputable def R14_14 : List GOp := [(none, .mov 15 (.t 5)), (none, .bin 16 .add (.t 15) (.k (.v (.int .i64 1)))), (none, .mov 5 (.t 16))]
noncomputable def T14_15 : ACode := (.region R14_14)
noncomputable def T14_16 : ACode := (.seq (.block 1 T14_13) T14_15)
noncomputable def L14_17 : ACode := (.seq (.seq (.region R14_6) T14_8) T14_16)
noncomputable def T14_18 : ACode := (.loop L14_17)
noncomputable def T14_19 : ACode := (.block 0 T14_18)
noncomputable def R14_20 : List GOp := [(none, .mov 4 (.k .tt))]
noncomputable def T14_21 : ACode := (.seq (.region R14_20) .ret)
noncomputable def T14_22 : ACode := (.seq (.seq (.region R14_5) T14_19) T14_21)
noncomputable def T14_23 : ACode := (.seq (.seq (.region R14_1) T14_4) T14_22)
noncomputable def A14 : ACode := (.seq (.region R14_0) T14_23)
theorem A14_ok : comp tbl 26 ((Try.f14.body).getD .skip) = some A14 := by kernel_rfl
/-! f15 casemate/mirror.Where -/
noncomputable def R15_0 : List GOp := [(none, .box 2 23 (.t 0)), (none, .box 3 27 (.t 1)), (none, .alloc 4 28 [(.v (.slice none 0 0))])]
noncomputable def R15_1 : List GOp := [(none, .load 6 2 true (.t 2)), (none, .load 7 66 true (.t 3)), (none, .call 8 (.k (.fn (.func 57) [] [])) [(.t 6), (.t 7)])]
noncomputable def T15_2 : ACode := (.rfunc (.t 8) #[9, 10] (rfA Try.f15) (rfB Try.f15))
noncomputable def T15_3 : ACode := (.block 0 T15_2)
noncomputable def R15_4 : List GOp := [(none, .load 15 1 false (.t 4)), (none, .store 1 (.t 4) (.t 15))]
noncomputable def T15_5 : ACode := (.seq (.region R15_4) .ret)
noncomputable def T15_6 : ACode := (.seq (.seq (.region R15_1) T15_3) T15_5)
noncomputable def A15 : ACode := (.seq (.region R15_0) T15_6)
theorem A15_ok : comp tbl 16 ((Try.f15.body).getD .skip) = some A15 := by kernel_rfl
/-! f16 casemate/casematelaw19.awake -/
noncomputable def R16_0 : List GOp := [(none, .mov 0 (.k .ff))]
noncomputable def R16_1 : List GOp := [(none, .call 1 (.k (.fn (.func 58) [] [])) []), (none, .build 2 [(.v (.int .i64 0)), (.v (.int .i64 0)), (.run .u8 64 (List.replicate 64 0))] [(0, 1, (.k (.v (.int .i64 1)))), (1, 1, (.k (.v (.int .i64 3))))]), (none, .call 3 (.k (.fn (.func 15) [] [])) [(.t 1), (.t 2)]), (none, .bslice 4 3 4 [(.v (.int .i64 0)), (.v (.int .i64 0)), (.v (.int .i64 0)), (.v (.int .i64 0))] [(0, 1, (.k (.v (.int .i64 0)))), (1, 1, (.k (.v (.int .i64 1)))), (2, 1, (.k (.v (.int .i64 2)))), (3, 1, (.k (.v (.int .i64 3))))]), (none, .call 5 (.k (.fn (.func 43) [] [])) [(.t 3), (.t 4)]), (none, .mov 6 (.t 5)), (some (6, true), .call 7 (.k (.fn (.func 58) [] [])) []), (some (6, true), .call 8 (.k (.fn (.func 59) [] [])) [(.k (.v (.int .i64 3)))]), (some (6, true), .call 9 (.k (.fn (.func 15) [] [])) [(.t 7), (.t 8)]), (some (6, true), .bslice 10 3 3 [(.v (.int .i64 0)), (.v (.int .i64 0)), (.v (.int .i64 0))] [(0, 1, (.k (.v (.int .i64 3)))), (1, 1, (.k (.v (.int .i64 0)))), (2, 1, (.k (.v (.int .i64 1))))]), (some (6, true), .call 11 (.k (.fn (.func 43) [] [])) [(.t 9), (.t 10)]), (none, .pick 12 6 (.t 11) (.k .ff)), (none, .mov 13 (.t 12)), (some (13, true), .call 14 (.k (.fn (.func 58) [] [])) []), (some (13, true), .build 15 [(.v (.int .i64 0)), (.v (.int .i64 0)), (.run .u8 64 (List.replicate 64 0))] [(0, 1, (.k (.v (.int .i64 4)))), (1, 1, (.k (.v (.int .i64 2))))]), (some (13, true), .call 16 (.k (.fn (.func 15) [] [])) [(.t 14), (.t 15)]), (some (13, true), .bslice 17 3 1 [(.v (.int .i64 0))] [(0, 1, (.k (.v (.int .i64 2))))]), (some (13, true), .call 18 (.k (.fn (.func 43) [] [])) [(.t 16), (.t 17)]), (none, .pick 19 13 (.t 18) (.k .ff)), (none, .mov 0 (.t 19))]
noncomputable def T16_2 : ACode := (.seq (.region R16_1) .ret)
noncomputable def A16 : ACode := (.seq (.region R16_0) T16_2)
theorem A16_ok : comp tbl 20 ((Try.f16.body).getD .skip) = some A16 := by kernel_rfl
/-! f43 casemate/casematelaw19.is -/
noncomputable def R43_0 : List GOp := [(none, .mov 4 (.k .ff))]
noncomputable def R43_1 : List GOp := [(none, .mov 6 (.t 0)), (none, .len 7 (.t 6)), (none, .mov 8 (.t 1)), (none, .len 9 (.t 8)), (none, .bin 10 .neq (.t 7) (.t 9))]
noncomputable def R43_2 : List GOp := [(none, .mov 4 (.k .ff))]
noncomputable def T43_3 : ACode := (.seq (.region R43_2) .ret)
noncomputable def T43_4 : ACode := (.cond (.t 10) T43_3 .skip)
noncomputable def R43_5 : List GOp := [(none, .mov 5 (.k (.v (.int .i64 0))))]
noncomputable def R43_6 : List GOp := [(none, .mov 11 (.t 5)), (none, .mov 12 (.t 0)), (none, .len 13 (.t 12)), (none, .bin 14 .lss (.t 11) (.t 13))]
noncomputable def T43_7 : ACode := (.exit 0)
noncomputable def T43_8 : ACode := (.cond (.t 14) .skip T43_7)
noncomputable def R43_9 : List GOp := [(none, .mov 17 (.t 0)), (none, .mov 18 (.t 5)), (none, .idx 19 1 (.t 17) (.t 18)), (none, .load 20 1 false (.t 19)), (none, .mov 21 (.t 1)), (none, .mov 22 (.t 5)), (none, .idx 23 1 (.t 21) (.t 22)), (none, .load 24 1 false (.t 23)), (none, .bin 25 .neq (.t 20) (.t 24))]
noncomputable def O43_6 : List (Nat × Kd) := [(0, .quiet), (1, .quiet), (2, .quiet), (3, .quiet), (4, .quiet), (5, .quiet), (6, .quiet), (7, .quiet), (8, .quiet)]
noncomputable def Q43_6 : List (Nat × Kd × GOp) := [(0, .quiet, (none, .mov 17 (.t 0))), (1, .quiet, (none, .mov 18 (.t 5))), (2, .quiet, (none, .idx 19 1 (.t 17) (.t 18))), (3, .quiet, (none, .load 20 1 false (.t 19))), (4, .quiet, (none, .mov 21 (.t 1))), (5, .quiet, (none, .mov 22 (.t 5))), (6, .quiet, (none, .idx 23 1 (.t 21) (.t 22))), (7, .quiet, (none, .load 24 1 false (.t 23))), (8, .quiet, (none, .bin 25 .neq (.t 20) (.t 24)))]
theorem O43_6_ok : chkDraw (regOf Try.f43 6) O43_6 = true := by kernel_rfl
theorem Q43_6_ok : orderL R43_9 O43_6 = some Q43_6 := by kernel_rfl
noncomputable def R43_10 : List GOp := [(none, .mov 4 (.k .ff))]
noncomputable def T43_11 : ACode := (.seq (.region R43_10) .ret)
noncomputable def T43_12 : ACode := (.cond (.t 25) T43_11 .skip)
noncomputable def T43_13 : ACode := (.seq (.draw (regOf Try.f43 6) R43_9) T43_12)
noncomputable def R43_14 : List GOp := [(none, .mov 15 (.t 5)), (none, .bin 16 .add (.t 15) (.k (.v (.int .i64 1)))), (none, .mov 5 (.t 16))]
noncomputable def T43_15 : ACode := (.region R43_14)
noncomputable def T43_16 : ACode := (.seq (.block 1 T43_13) T43_15)
noncomputable def L43_17 : ACode := (.seq (.seq (.region R43_6) T43_8) T43_16)
noncomputable def T43_18 : ACode := (.loop L43_17)
noncomputable def T43_19 : ACode := (.block 0 T43_18)
noncomputable def R43_20 : List GOp := [(none, .mov 4 (.k .tt))]
noncomputable def T43_21 : ACode := (.seq (.region R43_20) .ret)
noncomputable def T43_22 : ACode := (.seq (.seq (.region R43_5) T43_19) T43_21)
noncomputable def T43_23 : ACode := (.seq (.seq (.region R43_1) T43_4) T43_22)
noncomputable def A43 : ACode := (.seq (.region R43_0) T43_23)
theorem A43_ok : comp tbl 26 ((Try.f43.body).getD .skip) = some A43 := by kernel_rfl
/-! f55 casemate/casemateref15.At -/
noncomputable def R55_0 : List GOp := [(none, .box 2 23 (.t 0)), (none, .mov 4 (.k (.v (.int .i64 0)))), (none, .mov 5 (.k (.v (.int .i64 0)))), (none, .mov 6 (.k (.v (.int .i64 0))))]
noncomputable def R55_1 : List GOp := [(none, .load 8 2 true (.t 2)), (none, .call 9 (.k (.fn (.func 107) [] [])) [(.t 8)]), (none, .not 10 (.t 9)), (none, .mov 11 (.t 10)), (some (11, false), .mov 12 (.t 1)), (some (11, false), .bin 13 .lss (.t 12) (.k (.v (.int .i64 0)))), (none, .pick 14 11 (.k .tt) (.t 13))]
noncomputable def R55_2 : List GOp := [(none, .mov 4 (.k (.v (.int .i64 0)))), (none, .mov 5 (.k (.v (.int .i64 0)))), (none, .mov 6 (.k (.v (.int .i64 2))))]
noncomputable def T55_3 : ACode := (.seq (.region R55_2) .ret)
noncomputable def T55_4 : ACode := (.cond (.t 14) T55_3 .skip)
noncomputable def R55_5 : List GOp := [(none, .mov 7 (.k (.v (.int .i64 0))))]
noncomputable def R55_6 : List GOp := [(none, .mov 15 (.t 7)), (none, .fld 16 1 (.t 2)), (none, .load 17 1 false (.t 16)), (none, .bin 18 .lss (.t 15) (.t 17))]
noncomputable def T55_7 : ACode := (.exit 0)
noncomputable def T55_8 : ACode := (.cond (.t 18) .skip T55_7)
noncomputable def R55_9 : List GOp := [(none, .mov 21 (.t 1)), (none, .fld 22 0 (.t 2)), (none, .load 23 1 false (.t 22)), (none, .bin 24 .lss (.t 21) (.t 23))]
noncomputable def R55_10 : List GOp := [(none, .mov 25 (.t 7)), (none, .mov 26 (.t 1)), (none, .mov 4 (.t 25)), (none, .mov 5 (.t 26)), (none, .mov 6 (.k (.v (.int .i64 0))))]
noncomputable def T55_11 : ACode := (.seq (.region R55_10) .ret)
noncomputable def T55_12 : ACode := (.cond (.t 24) T55_11 .skip)
noncomputable def R55_13 : List GOp := [(none, .mov 27 (.t 1)), (none, .fld 28 0 (.t 2)), (none, .load 29 1 false (.t 28)), (none, .bin 30 .sub (.t 27) (.t 29)), (none, .mov 1 (.t 30))]
noncomputable def T55_14 : ACode := (.region R55_13)
noncomputable def T55_15 : ACode := (.seq (.seq (.region R55_9) T55_12) T55_14)
noncomputable def R55_16 : List GOp := [(none, .mov 19 (.t 7)), (none, .bin 20 .add (.t 19) (.k (.v (.int .i64 1)))), (none, .mov 7 (.t 20))]
noncomputable def T55_17 : ACode := (.region R55_16)
noncomputable def T55_18 : ACode := (.seq (.block 1 T55_15) T55_17)
noncomputable def L55_19 : ACode := (.seq (.seq (.region R55_6) T55_8) T55_18)
noncomputable def T55_20 : ACode := (.loop L55_19)
noncomputable def T55_21 : ACode := (.block 0 T55_20)
noncomputable def R55_22 : List GOp := [(none, .mov 4 (.k (.v (.int .i64 0)))), (none, .mov 5 (.k (.v (.int .i64 0)))), (none, .mov 6 (.k (.v (.int .i64 2))))]
noncomputable def T55_23 : ACode := (.seq (.region R55_22) .ret)
noncomputable def T55_24 : ACode := (.seq (.seq (.region R55_5) T55_21) T55_23)
noncomputable def T55_25 : ACode := (.seq (.seq (.region R55_1) T55_4) T55_24)
noncomputable def A55 : ACode := (.seq (.region R55_0) T55_25)
theorem A55_ok : comp tbl 31 ((Try.f55.body).getD .skip) = some A55 := by kernel_rfl
/-! f56 casemate/casemateref14.Place -/
noncomputable def R56_0 : List GOp := [(none, .box 3 23 (.t 0)), (none, .mov 6 (.k (.v (.int .i64 0)))), (none, .mov 7 (.k (.v (.int .i64 0))))]
noncomputable def R56_1 : List GOp := [(none, .load 11 2 true (.t 3)), (none, .call 12 (.k (.fn (.func 13) [] [])) [(.t 11)]), (none, .bin 13 .neq (.t 12) (.k (.v (.int .i64 0)))), (none, .mov 14 (.t 13)), (some (14, false), .mov 15 (.t 1)), (some (14, false), .bin 16 .lss (.t 15) (.k (.v (.int .i64 1)))), (none, .pick 17 14 (.k .tt) (.t 16)), (none, .mov 18 (.t 17)), (some (18, false), .mov 19 (.t 1)), (some (18, false), .bin 20 .gtr (.t 19) (.k (.v (.int .i64 4)))), (none, .pick 21 18 (.k .tt) (.t 20))]
noncomputable def R56_2 : List GOp := [(none, .mov 6 (.k (.v (.int .i64 0)))), (none, .mov 7 (.k (.v (.int .i64 2))))]
noncomputable def T56_3 : ACode := (.seq (.region R56_2) .ret)
noncomputable def T56_4 : ACode := (.cond (.t 21) T56_3 .skip)
noncomputable def R56_5 : List GOp := [(none, .mov 8 (.k (.v (.int .i64 0))))]
noncomputable def R56_6 : List GOp := [(none, .mov 9 (.k (.v (.int .i64 1))))]
noncomputable def R56_7 : List GOp := [(none, .mov 22 (.t 9)), (none, .mov 23 (.t 1)), (none, .bin 24 .lss (.t 22) (.t 23))]
noncomputable def T56_8 : ACode := (.exit 0)
noncomputable def T56_9 : ACode := (.cond (.t 24) .skip T56_8)
noncomputable def R56_10 : List GOp := [(none, .mov 27 (.t 8)), (none, .load 28 2 true (.t 3)), (none, .mov 29 (.t 9)), (none, .call 30 (.k (.fn (.func 108) [] [])) [(.t 28), (.t 29)]), (none, .bin 31 .add (.t 27) (.t 30)), (none, .mov 8 (.t 31))]
noncomputable def T56_11 : ACode := (.region R56_10)
noncomputable def R56_12 : List GOp := [(none, .mov 25 (.t 9)), (none, .bin 26 .add (.t 25) (.k (.v (.int .i64 1)))), (none, .mov 9 (.t 26))]
noncomputable def T56_13 : ACode := (.region R56_12)
noncomputable def T56_14 : ACode := (.seq (.block 1 T56_11) T56_13)
noncomputable def L56_15 : ACode := (.seq (.seq (.region R56_7) T56_9) T56_14)
noncomputable def T56_16 : ACode := (.loop L56_15)
noncomputable def T56_17 : ACode := (.block 0 T56_16)
noncomputable def R56_18 : List GOp := [(none, .mov 10 (.k (.v (.int .i64 0))))]
noncomputable def R56_19 : List GOp := [(none, .mov 32 (.t 10)), (none, .load 33 2 true (.t 3)), (none, .mov 34 (.t 1)), (none, .call 35 (.k (.fn (.func 108) [] [])) [(.t 33), (.t 34)]), (none, .bin 36 .lss (.t 32) (.t 35))]
noncomputable def T56_20 : ACode := (.exit 2)
noncomputable def T56_21 : ACode := (.cond (.t 36) .skip T56_20)
noncomputable def R56_22 : List GOp := [(none, .mov 39 (.t 10)), (none, .mov 40 (.t 1)), (none, .call 41 (.k (.fn (.func 109) [] [])) [(.t 40)]), (none, .bin 42 .add (.t 39) (.t 41)), (none, .mov 43 (.t 2)), (none, .bin 44 .eql (.t 42) (.t 43))]
noncomputable def R56_23 : List GOp := [(none, .mov 45 (.t 8)), (none, .mov 46 (.t 10)), (none, .bin 47 .add (.t 45) (.t 46)), (none, .mov 6 (.t 47)), (none, .mov 7 (.k (.v (.int .i64 0))))]
noncomputable def T56_24 : ACode := (.seq (.region R56_23) .ret)
noncomputable def T56_25 : ACode := (.cond (.t 44) T56_24 .skip)
noncomputable def T56_26 : ACode := (.seq (.region R56_22) T56_25)
noncomputable def R56_27 : List GOp := [(none, .mov 37 (.t 10)), (none, .bin 38 .add (.t 37) (.k (.v (.int .i64 1)))), (none, .mov 10 (.t 38))]
noncomputable def T56_28 : ACode := (.region R56_27)
noncomputable def T56_29 : ACode := (.seq (.block 3 T56_26) T56_28)
noncomputable def L56_30 : ACode := (.seq (.seq (.region R56_19) T56_21) T56_29)
noncomputable def T56_31 : ACode := (.loop L56_30)
noncomputable def T56_32 : ACode := (.block 2 T56_31)
noncomputable def R56_33 : List GOp := [(none, .mov 6 (.k (.v (.int .i64 0)))), (none, .mov 7 (.k (.v (.int .i64 2))))]
noncomputable def T56_34 : ACode := (.seq (.region R56_33) .ret)
noncomputable def T56_35 : ACode := (.seq (.seq (.region R56_18) T56_32) T56_34)
noncomputable def T56_36 : ACode := (.seq (.seq (.region R56_6) T56_17) T56_35)
noncomputable def T56_37 : ACode := (.seq (.region R56_5) T56_36)
noncomputable def T56_38 : ACode := (.seq (.seq (.region R56_1) T56_4) T56_37)
noncomputable def A56 : ACode := (.seq (.region R56_0) T56_38)
theorem A56_ok : comp tbl 48 ((Try.f56.body).getD .skip) = some A56 := by kernel_rfl
/-! f57 casemate/mirror.members -/
noncomputable def R57_0 : List GOp := [(none, .box 2 23 (.t 0)), (none, .box 3 27 (.t 1)), (none, .mov 4 (.k (.v .nilFunc)))]
noncomputable def R57_1 : List GOp := [(none, .mkfn 5 (.func 110) [] [(.t 2), (.t 3)]), (none, .mov 4 (.t 5))]
noncomputable def T57_2 : ACode := (.seq (.region R57_1) .ret)
noncomputable def A57 : ACode := (.seq (.region R57_0) T57_2)
theorem A57_ok : comp tbl 6 ((Try.f57.body).getD .skip) = some A57 := by kernel_rfl
/-! f58 casemate/casematelaw19.given -/
noncomputable def R58_0 : List GOp := [(none, .alloc 0 23 [(.v (.int .i64 0)), (.v (.int .i64 0))])]
noncomputable def R58_1 : List GOp := [(none, .build 1 [(.v (.int .i64 0)), (.v (.int .i64 0))] [(0, 1, (.k (.v (.int .i64 4)))), (1, 1, (.k (.v (.int .i64 1))))]), (none, .store 2 (.t 0) (.t 1))]
noncomputable def T58_2 : ACode := (.seq (.region R58_1) .ret)
noncomputable def A58 : ACode := (.seq (.region R58_0) T58_2)
theorem A58_ok : comp tbl 2 ((Try.f58.body).getD .skip) = some A58 := by kernel_rfl
/-! f59 casemate/casematelaw19.node -/
noncomputable def R59_0 : List GOp := [(none, .alloc 2 27 [(.v (.int .i64 0)), (.v (.int .i64 0)), (.run .u8 64 (List.replicate 64 0))])]
noncomputable def R59_1 : List GOp := [(none, .mov 3 (.t 0)), (none, .build 4 [(.run .u8 64 (List.replicate 64 0))] [(0, 1, (.k (.v (.int .u8 5)))), (63, 1, (.k (.v (.int .u8 6))))]), (none, .build 5 [(.v (.int .i64 0)), (.v (.int .i64 0)), (.run .u8 64 (List.replicate 64 0))] [(0, 1, (.k (.v (.int .i64 3)))), (1, 1, (.t 3)), (2, 64, (.t 4))]), (none, .store 66 (.t 2) (.t 5))]
noncomputable def T59_2 : ACode := (.seq (.region R59_1) .ret)
noncomputable def A59 : ACode := (.seq (.region R59_0) T59_2)
theorem A59_ok : comp tbl 6 ((Try.f59.body).getD .skip) = some A59 := by kernel_rfl
/-! f96 casemate/mirror.spots -/
noncomputable def R96_0 : List GOp := [(none, .box 2 23 (.t 0)), (none, .box 3 27 (.t 1)), (none, .mov 4 (.k (.v (.int .i64 0)))), (none, .mov 5 (.k (.v .nilFunc))), (none, .mov 6 (.k (.v (.int .i64 0)))), (none, .mov 7 (.k (.v (.int .i64 0))))]
noncomputable def R96_1 : List GOp := [(none, .fld 11 0 (.t 3)), (none, .load 12 1 false (.t 11))]
noncomputable def R96_2 : List GOp := [(none, .bin 14 .eql (.t 12) (.k (.v (.int .i64 1)))), (none, .mov 13 (.t 14))]
noncomputable def R96_3 : List GOp := [(none, .load 16 2 true (.t 2)), (none, .fld 17 0 (.t 3)), (none, .load 18 1 false (.t 17)), (none, .fld 19 1 (.t 3)), (none, .load 20 1 false (.t 19)), (none, .call 21 (.k (.fn (.func 132) [] [])) [(.t 16), (.t 18), (.t 20)]), (none, .mov 15 (.t 21)), (none, .ext 22 0 (.t 15)), (none, .ext 23 1 (.t 15)), (none, .mov 6 (.t 22)), (none, .mov 7 (.t 23))]
noncomputable def R96_4 : List GOp := [(none, .fld 24 0 (.t 2)), (none, .load 25 1 false (.t 24)), (none, .mov 26 (.t 6)), (none, .mov 27 (.t 7)), (none, .mov 4 (.t 25)), (none, .mov 5 (.k (.fn (.func 133) [] []))), (none, .mov 6 (.t 26)), (none, .mov 7 (.t 27))]
noncomputable def T96_5 : ACode := (.seq (.region R96_4) .ret)
noncomputable def T96_6 : ACode := (.seq (.region R96_3) T96_5)
noncomputable def R96_7 : List GOp := [(none, .bin 29 .eql (.t 12) (.k (.v (.int .i64 3)))), (none, .mov 28 (.t 29))]
noncomputable def R96_8 : List GOp := [(none, .load 31 2 true (.t 2)), (none, .fld 32 0 (.t 3)), (none, .load 33 1 false (.t 32)), (none, .fld 34 1 (.t 3)), (none, .load 35 1 false (.t 34)), (none, .call 36 (.k (.fn (.func 132) [] [])) [(.t 31), (.t 33), (.t 35)]), (none, .mov 30 (.t 36)), (none, .ext 37 0 (.t 30)), (none, .ext 38 1 (.t 30)), (none, .mov 6 (.t 37)), (none, .mov 7 (.t 38))]
noncomputable def R96_9 : List GOp := [(none, .mkfn 39 (.func 134) [] [(.t 3), (.t 2)]), (none, .mov 40 (.t 6)), (none, .mov 41 (.t 7)), (none, .mov 4 (.k (.v (.int .i64 3)))), (none, .mov 5 (.t 39)), (none, .mov 6 (.t 40)), (none, .mov 7 (.t 41))]
noncomputable def T96_10 : ACode := (.seq (.region R96_9) .ret)
noncomputable def T96_11 : ACode := (.seq (.region R96_8) T96_10)
noncomputable def R96_12 : List GOp := [(none, .bin 43 .eql (.t 12) (.k (.v (.int .i64 4)))), (none, .mov 42 (.t 43))]
noncomputable def R96_13 : List GOp := [(none, .load 45 2 true (.t 2)), (none, .fld 46 1 (.t 3)), (none, .load 47 1 false (.t 46)), (none, .call 48 (.k (.fn (.func 135) [] [])) [(.t 45), (.t 47)]), (none, .mov 44 (.t 48)), (none, .ext 49 0 (.t 44)), (none, .ext 50 1 (.t 44)), (none, .ext 51 2 (.t 44)), (none, .alloc 9 3 [(.v (.int .i64 0))]), (none, .mov 8 (.t 49)), (none, .store 1 (.t 9) (.t 50)), (none, .mov 10 (.t 51))]
noncomputable def R96_14 : List GOp := [(none, .mov 52 (.t 10)), (none, .bin 53 .neq (.t 52) (.k (.v (.int .i64 0))))]
noncomputable def R96_15 : List GOp := [(none, .mov 54 (.t 10)), (none, .mov 4 (.k (.v (.int .i64 0)))), (none, .mov 5 (.k (.v .nilFunc))), (none, .mov 6 (.k (.v (.int .i64 0)))), (none, .mov 7 (.t 54))]
noncomputable def T96_16 : ACode := (.seq (.region R96_15) .ret)
noncomputable def T96_17 : ACode := (.cond (.t 53) T96_16 .skip)
noncomputable def R96_18 : List GOp := [(none, .load 56 2 true (.t 2)), (none, .fld 57 0 (.t 3)), (none, .load 58 1 false (.t 57)), (none, .mov 59 (.t 8)), (none, .call 60 (.k (.fn (.func 132) [] [])) [(.t 56), (.t 58), (.t 59)]), (none, .mov 55 (.t 60)), (none, .ext 61 0 (.t 55)), (none, .ext 62 1 (.t 55)), (none, .mov 6 (.t 61)), (none, .mov 7 (.t 62))]
noncomputable def R96_19 : List GOp := [(none, .mkfn 63 (.func 136) [] [(.t 9)]), (none, .mov 64 (.t 6)), (none, .mov 65 (.t 7)), (none, .mov 4 (.k (.v (.int .i64 1)))), (none, .mov 5 (.t 63)), (none, .mov 6 (.t 64)), (none, .mov 7 (.t 65))]
noncomputable def T96_20 : ACode := (.seq (.region R96_19) .ret)
noncomputable def T96_21 : ACode := (.seq (.region R96_18) T96_20)
noncomputable def T96_22 : ACode := (.seq (.seq (.region R96_14) T96_17) T96_21)
noncomputable def T96_23 : ACode := (.seq (.region R96_13) T96_22)
noncomputable def T96_24 : ACode := (.cond (.t 42) T96_23 .skip)
noncomputable def T96_25 : ACode := (.seq (.region R96_12) T96_24)
noncomputable def T96_26 : ACode := (.cond (.t 28) T96_11 T96_25)
noncomputable def T96_27 : ACode := (.seq (.region R96_7) T96_26)
noncomputable def T96_28 : ACode := (.cond (.t 13) T96_6 T96_27)
noncomputable def T96_29 : ACode := (.seq (.region R96_2) T96_28)
noncomputable def T96_30 : ACode := (.block 0 T96_29)
noncomputable def R96_31 : List GOp := [(none, .mov 4 (.k (.v (.int .i64 0)))), (none, .mov 5 (.k (.v .nilFunc))), (none, .mov 6 (.k (.v (.int .i64 0)))), (none, .mov 7 (.k (.v (.int .i64 2))))]
noncomputable def T96_32 : ACode := (.seq (.region R96_31) .ret)
noncomputable def T96_33 : ACode := (.seq (.seq (.region R96_1) T96_30) T96_32)
noncomputable def A96 : ACode := (.seq (.region R96_0) T96_33)
theorem A96_ok : comp tbl 66 ((Try.f96.body).getD .skip) = some A96 := by kernel_rfl
/-! f98 casemate/geom.Half -/
noncomputable def R98_0 : List GOp := [(none, .box 1 23 (.t 0)), (none, .mov 2 (.k (.v (.int .i64 0))))]
noncomputable def R98_1 : List GOp := [(none, .load 3 2 true (.t 1)), (none, .call 4 (.k (.fn (.func 137) [] [])) [(.t 3)]), (none, .not 5 (.t 4))]
noncomputable def R98_2 : List GOp := [(none, .mov 2 (.k (.v (.int .i64 0))))]
noncomputable def T98_3 : ACode := (.seq (.region R98_2) .ret)
noncomputable def T98_4 : ACode := (.cond (.t 5) T98_3 .skip)
noncomputable def R98_5 : List GOp := [(none, .load 6 2 true (.t 1)), (none, .call 7 (.k (.fn (.func 103) [] [])) [(.t 6)]), (none, .bin 8 .mul (.k (.v (.int .i64 69))) (.t 7)), (none, .bin 9 .add (.t 8) (.k (.v (.int .i64 64)))), (none, .bin 10 .sub (.t 9) (.k (.v (.int .i64 1)))), (none, .bin 11 .quo (.t 10) (.k (.v (.int .i64 64)))), (none, .bin 12 .add (.k (.v (.int .i64 2))) (.t 11)), (none, .mov 2 (.t 12))]
noncomputable def T98_6 : ACode := (.seq (.region R98_5) .ret)
noncomputable def T98_7 : ACode := (.seq (.seq (.region R98_1) T98_4) T98_6)
noncomputable def A98 : ACode := (.seq (.region R98_0) T98_7)
theorem A98_ok : comp tbl 13 ((Try.f98.body).getD .skip) = some A98 := by kernel_rfl
/-! f103 casemate/geom.Capacity -/
noncomputable def R103_0 : List GOp := [(none, .box 1 23 (.t 0)), (none, .mov 2 (.k (.v (.int .i64 0))))]
noncomputable def R103_1 : List GOp := [(none, .load 4 2 true (.t 1)), (none, .call 5 (.k (.fn (.func 137) [] [])) [(.t 4)]), (none, .not 6 (.t 5))]
noncomputable def R103_2 : List GOp := [(none, .mov 2 (.k (.v (.int .i64 0))))]
noncomputable def T103_3 : ACode := (.seq (.region R103_2) .ret)
noncomputable def T103_4 : ACode := (.cond (.t 6) T103_3 .skip)
noncomputable def R103_5 : List GOp := [(none, .fld 7 0 (.t 1)), (none, .load 8 1 false (.t 7)), (none, .other (some 9) (.call ⟨.builtin .max, #[(.const (.int .i64 6)), (.tmp 8)], #[3, 3]⟩) 3), (none, .mov 3 (.t 9))]
noncomputable def R103_6 : List GOp := [(none, .mov 10 (.t 3)), (none, .mov 11 (.t 3)), (none, .load 12 2 true (.t 1)), (none, .call 13 (.k (.fn (.func 139) [] [])) [(.t 12)]), (none, .bin 14 .mul (.t 11) (.t 13)), (none, .load 15 2 true (.t 1)), (none, .call 16 (.k (.fn (.func 140) [] [])) [(.t 15)]), (none, .other (some 17) (.call ⟨.builtin .min, #[(.tmp 14), (.tmp 16)], #[3, 3]⟩) 3), (none, .bin 18 .add (.t 10) (.t 17)), (none, .bin 19 .add (.t 18) (.k (.v (.int .i64 8)))), (none, .mov 2 (.t 19))]
noncomputable def O103_4 : List (Nat × Kd) := [(0, .quiet), (1, .quiet), (2, .quiet), (5, .quiet), (3, .loud), (4, .quiet), (6, .loud), (7, .loud), (8, .quiet), (9, .quiet), (10, .quiet)]
noncomputable def Q103_4 : List (Nat × Kd × GOp) := [(0, .quiet, (none, .mov 10 (.t 3))), (1, .quiet, (none, .mov 11 (.t 3))), (2, .quiet, (none, .load 12 2 true (.t 1))), (5, .quiet, (none, .load 15 2 true (.t 1))), (3, .loud, (none, .call 13 (.k (.fn (.func 139) [] [])) [(.t 12)])), (4, .quiet, (none, .bin 14 .mul (.t 11) (.t 13))), (6, .loud, (none, .call 16 (.k (.fn (.func 140) [] [])) [(.t 15)])), (7, .loud, (none, .other (some 17) (.call ⟨.builtin .min, #[(.tmp 14), (.tmp 16)], #[3, 3]⟩) 3)), (8, .quiet, (none, .bin 18 .add (.t 10) (.t 17))), (9, .quiet, (none, .bin 19 .add (.t 18) (.k (.v (.int .i64 8))))), (10, .quiet, (none, .mov 2 (.t 19)))]
theorem O103_4_ok : chkDraw (regOf Try.f103 4) O103_4 = true := by kernel_rfl
theorem Q103_4_ok : orderL R103_6 O103_4 = some Q103_4 := by kernel_rfl
noncomputable def T103_7 : ACode := (.seq (.draw (regOf Try.f103 4) R103_6) .ret)
noncomputable def T103_8 : ACode := (.seq (.region R103_5) T103_7)
noncomputable def T103_9 : ACode := (.seq (.seq (.region R103_1) T103_4) T103_8)
noncomputable def A103 : ACode := (.seq (.region R103_0) T103_9)
theorem A103_ok : comp tbl 20 ((Try.f103.body).getD .skip) = some A103 := by kernel_rfl
/-! f107 casemate/casemateref15.May -/
noncomputable def R107_0 : List GOp := [(none, .box 1 23 (.t 0)), (none, .mov 2 (.k .ff))]
noncomputable def R107_1 : List GOp := [(none, .fld 3 0 (.t 1)), (none, .load 4 1 false (.t 3)), (none, .bin 5 .geq (.t 4) (.k (.v (.int .i64 4)))), (none, .mov 6 (.t 5)), (some (6, true), .fld 7 0 (.t 1)), (some (6, true), .load 8 1 false (.t 7)), (some (6, true), .bin 9 .leq (.t 8) (.k (.v (.int .i64 64)))), (none, .pick 10 6 (.t 9) (.k .ff)), (none, .mov 11 (.t 10)), (some (11, true), .fld 12 1 (.t 1)), (some (11, true), .load 13 1 false (.t 12)), (some (11, true), .bin 14 .geq (.t 13) (.k (.v (.int .i64 1)))), (none, .pick 15 11 (.t 14) (.k .ff)), (none, .mov 16 (.t 15)), (some (16, true), .fld 17 1 (.t 1)), (some (16, true), .load 18 1 false (.t 17)), (some (16, true), .bin 19 .leq (.t 18) (.k (.v (.int .i64 64)))), (none, .pick 20 16 (.t 19) (.k .ff)), (none, .mov 2 (.t 20))]
noncomputable def T107_2 : ACode := (.seq (.region R107_1) .ret)
noncomputable def A107 : ACode := (.seq (.region R107_0) T107_2)
theorem A107_ok : comp tbl 21 ((Try.f107.body).getD .skip) = some A107 := by kernel_rfl
/-! f108 casemate/casemateref14.Count -/
noncomputable def R108_0 : List GOp := [(none, .box 2 23 (.t 0)), (none, .mov 4 (.k (.v (.int .i64 0))))]
noncomputable def R108_1 : List GOp := [(none, .mov 5 (.t 1)), (none, .bin 6 .eql (.t 5) (.k (.v (.int .i64 1))))]
noncomputable def R108_2 : List GOp := [(none, .mov 4 (.k (.v (.int .i64 8))))]
noncomputable def T108_3 : ACode := (.seq (.region R108_2) .ret)
noncomputable def T108_4 : ACode := (.cond (.t 6) T108_3 .skip)
noncomputable def R108_5 : List GOp := [(none, .mov 7 (.t 1)), (none, .bin 8 .eql (.t 7) (.k (.v (.int .i64 2))))]
noncomputable def R108_6 : List GOp := [(none, .load 9 2 true (.t 2)), (none, .call 10 (.k (.fn (.func 142) [] [])) [(.t 9)]), (none, .bin 11 .mul (.k (.v (.int .i64 2))) (.t 10)), (none, .mov 4 (.t 11))]
noncomputable def T108_7 : ACode := (.seq (.region R108_6) .ret)
noncomputable def T108_8 : ACode := (.cond (.t 8) T108_7 .skip)
noncomputable def R108_9 : List GOp := [(none, .mov 12 (.t 1)), (none, .bin 13 .eql (.t 12) (.k (.v (.int .i64 3))))]
noncomputable def R108_10 : List GOp := [(none, .load 14 2 true (.t 2)), (none, .call 15 (.k (.fn (.func 143) [] [])) [(.t 14)]), (none, .mov 4 (.t 15))]
noncomputable def T108_11 : ACode := (.seq (.region R108_10) .ret)
noncomputable def T108_12 : ACode := (.cond (.t 13) T108_11 .skip)
noncomputable def R108_13 : List GOp := [(none, .fld 16 1 (.t 2)), (none, .load 17 1 false (.t 16)), (none, .mov 4 (.t 17))]
noncomputable def T108_14 : ACode := (.seq (.region R108_13) .ret)
noncomputable def T108_15 : ACode := (.seq (.seq (.region R108_9) T108_12) T108_14)
noncomputable def T108_16 : ACode := (.seq (.seq (.region R108_5) T108_8) T108_15)
noncomputable def T108_17 : ACode := (.seq (.seq (.region R108_1) T108_4) T108_16)
noncomputable def A108 : ACode := (.seq (.region R108_0) T108_17)
theorem A108_ok : comp tbl 18 ((Try.f108.body).getD .skip) = some A108 := by kernel_rfl
/-! f109 casemate/casemateref14.Least -/
noncomputable def R109_0 : List GOp := [(none, .mov 2 (.k (.v (.int .i64 0))))]
noncomputable def R109_1 : List GOp := [(none, .mov 3 (.t 0)), (none, .bin 4 .eql (.t 3) (.k (.v (.int .i64 3))))]
noncomputable def R109_2 : List GOp := [(none, .mov 2 (.k (.v (.int .i64 1))))]
noncomputable def T109_3 : ACode := (.seq (.region R109_2) .ret)
noncomputable def T109_4 : ACode := (.cond (.t 4) T109_3 .skip)
noncomputable def R109_5 : List GOp := [(none, .mov 2 (.k (.v (.int .i64 0))))]
noncomputable def T109_6 : ACode := (.seq (.region R109_5) .ret)
noncomputable def T109_7 : ACode := (.seq (.seq (.region R109_1) T109_4) T109_6)
noncomputable def A109 : ACode := (.seq (.region R109_0) T109_7)
theorem A109_ok : comp tbl 5 ((Try.f109.body).getD .skip) = some A109 := by kernel_rfl
/-! f110 casemate/mirror.members$1 -/
noncomputable def R110_0 : List GOp := [(none, .load 10 2 true (.t 1)), (none, .load 11 66 true (.t 2)), (none, .call 12 (.k (.fn (.func 96) [] [])) [(.t 10), (.t 11)]), (none, .mov 9 (.t 12)), (none, .ext 13 0 (.t 9)), (none, .ext 14 1 (.t 9)), (none, .ext 15 2 (.t 9)), (none, .ext 16 3 (.t 9)), (none, .mov 4 (.t 13)), (none, .mov 5 (.t 14)), (none, .mov 6 (.t 15)), (none, .mov 7 (.t 16))]
noncomputable def R110_1 : List GOp := [(none, .mov 17 (.t 4)), (none, .mov 18 (.k (.v (.int .i64 0))))]
noncomputable def R110_2 : List GOp := [(none, .bin 19 .lss (.t 18) (.t 17))]
noncomputable def T110_3 : ACode := (.exit 0)
noncomputable def R110_4 : List GOp := [(none, .mov 20 (.t 18)), (none, .mov 8 (.t 20))]
noncomputable def R110_5 : List GOp := [(none, .mov 21 (.t 7)), (none, .bin 22 .neq (.t 21) (.k (.v (.int .i64 0)))), (none, .mov 23 (.t 22)), (some (23, false), .mov 24 (.t 0)), (some (23, false), .mov 25 (.t 5)), (some (23, false), .mov 26 (.t 8)), (some (23, false), .call 27 (.t 25) [(.t 26)]), (some (23, false), .mov 28 (.t 6)), (some (23, false), .call 29 (.t 24) [(.t 27), (.t 28)]), (some (23, false), .not 30 (.t 29)), (none, .pick 31 23 (.k .tt) (.t 30))]
noncomputable def T110_6 : ACode := (.cond (.t 31) .ret .skip)
noncomputable def T110_7 : ACode := (.seq (.region R110_5) T110_6)
noncomputable def T110_8 : ACode := (.seq (.region R110_4) T110_7)
noncomputable def R110_9 : List GOp := [(none, .bin 32 .add (.t 18) (.k (.v (.int .i64 1)))), (none, .mov 18 (.t 32))]
noncomputable def T110_10 : ACode := (.region R110_9)
noncomputable def T110_11 : ACode := (.seq (.block 1 T110_8) T110_10)
noncomputable def T110_12 : ACode := (.seq (.cond (.t 19) .skip T110_3) T110_11)
noncomputable def L110_13 : ACode := (.seq (.region R110_2) T110_12)
noncomputable def T110_14 : ACode := (.loop L110_13)
noncomputable def T110_15 : ACode := (.block 0 T110_14)
noncomputable def T110_16 : ACode := (.seq (.region R110_1) T110_15)
noncomputable def A110 : ACode := (.seq (.region R110_0) T110_16)
theorem A110_ok : comp tbl 33 ((Try.f110.body).getD .skip) = some A110 := by kernel_rfl
/-! f131 casemate/geom.Check -/
noncomputable def R131_0 : List GOp := [(none, .box 1 23 (.t 0)), (none, .mov 2 (.k (.v (.int .i64 0))))]
noncomputable def R131_1 : List GOp := [(none, .fld 3 0 (.t 1)), (none, .load 4 1 false (.t 3)), (none, .bin 5 .lss (.t 4) (.k (.v (.int .i64 4)))), (none, .mov 6 (.t 5)), (some (6, false), .fld 7 0 (.t 1)), (some (6, false), .load 8 1 false (.t 7)), (some (6, false), .bin 9 .gtr (.t 8) (.k (.v (.int .i64 64)))), (none, .pick 10 6 (.k .tt) (.t 9)), (none, .mov 11 (.t 10)), (some (11, false), .fld 12 1 (.t 1)), (some (11, false), .load 13 1 false (.t 12)), (some (11, false), .bin 14 .lss (.t 13) (.k (.v (.int .i64 1)))), (none, .pick 15 11 (.k .tt) (.t 14)), (none, .mov 16 (.t 15)), (some (16, false), .fld 17 1 (.t 1)), (some (16, false), .load 18 1 false (.t 17)), (some (16, false), .bin 19 .gtr (.t 18) (.k (.v (.int .i64 64)))), (none, .pick 20 16 (.k .tt) (.t 19))]
noncomputable def R131_2 : List GOp := [(none, .mov 2 (.k (.v (.int .i64 2))))]
noncomputable def T131_3 : ACode := (.seq (.region R131_2) .ret)
noncomputable def T131_4 : ACode := (.cond (.t 20) T131_3 .skip)
noncomputable def R131_5 : List GOp := [(none, .mov 2 (.k (.v (.int .i64 0))))]
noncomputable def T131_6 : ACode := (.seq (.region R131_5) .ret)
noncomputable def T131_7 : ACode := (.seq (.seq (.region R131_1) T131_4) T131_6)
noncomputable def A131 : ACode := (.seq (.region R131_0) T131_7)
theorem A131_ok : comp tbl 21 ((Try.f131.body).getD .skip) = some A131 := by kernel_rfl
/-! f132 casemate/geom.Place -/
noncomputable def R132_0 : List GOp := [(none, .box 3 23 (.t 0)), (none, .mov 6 (.k (.v (.int .i64 0)))), (none, .mov 7 (.k (.v (.int .i64 0))))]
noncomputable def R132_1 : List GOp := [(none, .load 9 2 true (.t 3)), (none, .call 10 (.k (.fn (.func 137) [] [])) [(.t 9)]), (none, .not 11 (.t 10)), (none, .mov 12 (.t 11)), (some (12, false), .mov 13 (.t 1)), (some (12, false), .bin 14 .lss (.t 13) (.k (.v (.int .i64 1)))), (none, .pick 15 12 (.k .tt) (.t 14)), (none, .mov 16 (.t 15)), (some (16, false), .mov 17 (.t 1)), (some (16, false), .bin 18 .gtr (.t 17) (.k (.v (.int .i64 4)))), (none, .pick 19 16 (.k .tt) (.t 18)), (none, .mov 20 (.t 19)), (some (20, false), .mov 21 (.t 2)), (some (20, false), .mov 22 (.t 1)), (some (20, false), .call 23 (.k (.fn (.func 160) [] [])) [(.t 22)]), (some (20, false), .bin 24 .lss (.t 21) (.t 23)), (none, .pick 25 20 (.k .tt) (.t 24))]
noncomputable def R132_2 : List GOp := [(none, .mov 6 (.k (.v (.int .i64 0)))), (none, .mov 7 (.k (.v (.int .i64 2))))]
noncomputable def T132_3 : ACode := (.seq (.region R132_2) .ret)
noncomputable def T132_4 : ACode := (.cond (.t 25) T132_3 .skip)
noncomputable def R132_5 : List GOp := [(none, .load 26 2 true (.t 3)), (none, .call 27 (.k (.fn (.func 161) [] [])) [(.t 26)]), (none, .alloc 8 222 [(.run .i64 6 [0, 0, 0, 0, 0, 0])]), (none, .store 6 (.t 8) (.t 27))]
noncomputable def R132_6 : List GOp := [(none, .mov 28 (.t 2)), (none, .mov 29 (.t 1)), (none, .call 30 (.k (.fn (.func 160) [] [])) [(.t 29)]), (none, .bin 31 .sub (.t 28) (.t 30)), (none, .mov 32 (.t 1)), (none, .bin 33 .add (.t 32) (.k (.v (.int .i64 1)))), (none, .idxa 34 6 1 (.t 8) (.t 33)), (none, .load 35 1 false (.t 34)), (none, .mov 36 (.t 1)), (none, .idxa 37 6 1 (.t 8) (.t 36)), (none, .load 38 1 false (.t 37)), (none, .bin 39 .sub (.t 35) (.t 38)), (none, .bin 40 .geq (.t 31) (.t 39))]
noncomputable def O132_4 : List (Nat × Kd) := [(0, .quiet), (1, .quiet), (4, .quiet), (5, .quiet), (6, .quiet), (7, .quiet), (8, .quiet), (9, .quiet), (10, .quiet), (11, .quiet), (2, .loud), (3, .quiet), (12, .quiet)]
noncomputable def Q132_4 : List (Nat × Kd × GOp) := [(0, .quiet, (none, .mov 28 (.t 2))), (1, .quiet, (none, .mov 29 (.t 1))), (4, .quiet, (none, .mov 32 (.t 1))), (5, .quiet, (none, .bin 33 .add (.t 32) (.k (.v (.int .i64 1))))), (6, .quiet, (none, .idxa 34 6 1 (.t 8) (.t 33))), (7, .quiet, (none, .load 35 1 false (.t 34))), (8, .quiet, (none, .mov 36 (.t 1))), (9, .quiet, (none, .idxa 37 6 1 (.t 8) (.t 36))), (10, .quiet, (none, .load 38 1 false (.t 37))), (11, .quiet, (none, .bin 39 .sub (.t 35) (.t 38))), (2, .loud, (none, .call 30 (.k (.fn (.func 160) [] [])) [(.t 29)])), (3, .quiet, (none, .bin 31 .sub (.t 28) (.t 30))), (12, .quiet, (none, .bin 40 .geq (.t 31) (.t 39)))]
theorem O132_4_ok : chkDraw (regOf Try.f132 4) O132_4 = true := by kernel_rfl
theorem Q132_4_ok : orderL R132_6 O132_4 = some Q132_4 := by kernel_rfl
noncomputable def R132_7 : List GOp := [(none, .mov 6 (.k (.v (.int .i64 0)))), (none, .mov 7 (.k (.v (.int .i64 2))))]
noncomputable def T132_8 : ACode := (.seq (.region R132_7) .ret)
noncomputable def T132_9 : ACode := (.cond (.t 40) T132_8 .skip)
noncomputable def R132_10 : List GOp := [(none, .mov 41 (.t 1)), (none, .idxa 42 6 1 (.t 8) (.t 41)), (none, .load 43 1 false (.t 42)), (none, .mov 44 (.t 2)), (none, .bin 45 .add (.t 43) (.t 44)), (none, .mov 46 (.t 1)), (none, .call 47 (.k (.fn (.func 160) [] [])) [(.t 46)]), (none, .bin 48 .sub (.t 45) (.t 47)), (none, .mov 6 (.t 48)), (none, .mov 7 (.k (.v (.int .i64 0))))]
noncomputable def O132_6 : List (Nat × Kd) := [(0, .quiet), (1, .quiet), (2, .quiet), (3, .quiet), (4, .quiet), (5, .quiet), (6, .loud), (7, .quiet), (8, .quiet), (9, .quiet)]
noncomputable def Q132_6 : List (Nat × Kd × GOp) := [(0, .quiet, (none, .mov 41 (.t 1))), (1, .quiet, (none, .idxa 42 6 1 (.t 8) (.t 41))), (2, .quiet, (none, .load 43 1 false (.t 42))), (3, .quiet, (none, .mov 44 (.t 2))), (4, .quiet, (none, .bin 45 .add (.t 43) (.t 44))), (5, .quiet, (none, .mov 46 (.t 1))), (6, .loud, (none, .call 47 (.k (.fn (.func 160) [] [])) [(.t 46)])), (7, .quiet, (none, .bin 48 .sub (.t 45) (.t 47))), (8, .quiet, (none, .mov 6 (.t 48))), (9, .quiet, (none, .mov 7 (.k (.v (.int .i64 0)))))]
theorem O132_6_ok : chkDraw (regOf Try.f132 6) O132_6 = true := by kernel_rfl
theorem Q132_6_ok : orderL R132_10 O132_6 = some Q132_6 := by kernel_rfl
noncomputable def T132_11 : ACode := (.seq (.draw (regOf Try.f132 6) R132_10) .ret)
noncomputable def T132_12 : ACode := (.seq (.seq (.draw (regOf Try.f132 4) R132_6) T132_9) T132_11)
noncomputable def T132_13 : ACode := (.seq (.region R132_5) T132_12)
noncomputable def T132_14 : ACode := (.seq (.seq (.region R132_1) T132_4) T132_13)
noncomputable def A132 : ACode := (.seq (.region R132_0) T132_14)
theorem A132_ok : comp tbl 49 ((Try.f132.body).getD .skip) = some A132 := by kernel_rfl
/-! f133 casemate/mirror.spots$1 -/
noncomputable def R133_0 : List GOp := [(none, .mov 2 (.k (.v (.int .i64 0))))]
noncomputable def R133_1 : List GOp := [(none, .mov 3 (.t 0)), (none, .mov 2 (.t 3))]
noncomputable def T133_2 : ACode := (.seq (.region R133_1) .ret)
noncomputable def A133 : ACode := (.seq (.region R133_0) T133_2)
theorem A133_ok : comp tbl 4 ((Try.f133.body).getD .skip) = some A133 := by kernel_rfl
/-! f134 casemate/mirror.spots$2 -/
noncomputable def R134_0 : List GOp := [(none, .mov 4 (.k (.v (.int .i64 0))))]
noncomputable def R134_1 : List GOp := [(none, .fld 5 1 (.t 1)), (none, .load 6 1 false (.t 5)), (none, .mov 7 (.t 0)), (none, .bin 8 .add (.t 6) (.t 7)), (none, .fld 9 0 (.t 2)), (none, .load 10 1 false (.t 9)), (none, .bin 11 .rem (.t 8) (.t 10)), (none, .mov 4 (.t 11))]
noncomputable def T134_2 : ACode := (.seq (.region R134_1) .ret)
noncomputable def A134 : ACode := (.seq (.region R134_0) T134_2)
theorem A134_ok : comp tbl 12 ((Try.f134.body).getD .skip) = some A134 := by kernel_rfl
/-! f135 casemate/place.At -/
noncomputable def R135_0 : List GOp := [(none, .box 2 23 (.t 0)), (none, .mov 4 (.k (.v (.int .i64 0)))), (none, .mov 5 (.k (.v (.int .i64 0)))), (none, .mov 6 (.k (.v (.int .i64 0))))]
noncomputable def R135_1 : List GOp := [(none, .load 8 2 true (.t 2)), (none, .mov 9 (.t 1)), (none, .load 10 2 true (.t 2)), (none, .call 11 (.k (.fn (.func 163) [] [])) [(.t 10)]), (none, .bslice 12 3 2 [(.v (.int .i64 0)), (.v (.int .i64 0))] [(0, 1, (.t 9)), (1, 1, (.t 11))]), (none, .call 13 (.k (.fn (.func 162) [] [])) [(.t 8), (.t 12)]), (none, .mov 7 (.t 13))]
noncomputable def O135_1 : List (Nat × Kd) := [(0, .quiet), (1, .quiet), (2, .quiet), (3, .loud), (4, .loud), (5, .loud), (6, .quiet)]
noncomputable def Q135_1 : List (Nat × Kd × GOp) := [(0, .quiet, (none, .load 8 2 true (.t 2))), (1, .quiet, (none, .mov 9 (.t 1))), (2, .quiet, (none, .load 10 2 true (.t 2))), (3, .loud, (none, .call 11 (.k (.fn (.func 163) [] [])) [(.t 10)])), (4, .loud, (none, .bslice 12 3 2 [(.v (.int .i64 0)), (.v (.int .i64 0))] [(0, 1, (.t 9)), (1, 1, (.t 11))])), (5, .loud, (none, .call 13 (.k (.fn (.func 162) [] [])) [(.t 8), (.t 12)])), (6, .quiet, (none, .mov 7 (.t 13)))]
theorem O135_1_ok : chkDraw (regOf Try.f135 1) O135_1 = true := by kernel_rfl
theorem Q135_1_ok : orderL R135_1 O135_1 = some Q135_1 := by kernel_rfl
noncomputable def R135_2 : List GOp := [(none, .mov 14 (.t 7)), (none, .bin 15 .neq (.t 14) (.k (.v (.int .i64 0))))]
noncomputable def R135_3 : List GOp := [(none, .mov 16 (.t 7)), (none, .mov 4 (.k (.v (.int .i64 0)))), (none, .mov 5 (.k (.v (.int .i64 0)))), (none, .mov 6 (.t 16))]
noncomputable def T135_4 : ACode := (.seq (.region R135_3) .ret)
noncomputable def T135_5 : ACode := (.cond (.t 15) T135_4 .skip)
noncomputable def T135_6 : ACode := (.seq (.region R135_2) T135_5)
noncomputable def R135_7 : List GOp := [(none, .mov 17 (.t 1)), (none, .fld 18 0 (.t 2)), (none, .load 19 1 false (.t 18)), (none, .bin 20 .quo (.t 17) (.t 19)), (none, .mov 21 (.t 1)), (none, .fld 22 0 (.t 2)), (none, .load 23 1 false (.t 22)), (none, .bin 24 .rem (.t 21) (.t 23)), (none, .mov 4 (.t 20)), (none, .mov 5 (.t 24)), (none, .mov 6 (.k (.v (.int .i64 0))))]
noncomputable def O135_4 : List (Nat × Kd) := [(0, .quiet), (1, .quiet), (2, .quiet), (3, .quiet), (4, .quiet), (5, .quiet), (6, .quiet), (7, .quiet), (8, .quiet), (9, .quiet), (10, .quiet)]
noncomputable def Q135_4 : List (Nat × Kd × GOp) := [(0, .quiet, (none, .mov 17 (.t 1))), (1, .quiet, (none, .fld 18 0 (.t 2))), (2, .quiet, (none, .load 19 1 false (.t 18))), (3, .quiet, (none, .bin 20 .quo (.t 17) (.t 19))), (4, .quiet, (none, .mov 21 (.t 1))), (5, .quiet, (none, .fld 22 0 (.t 2))), (6, .quiet, (none, .load 23 1 false (.t 22))), (7, .quiet, (none, .bin 24 .rem (.t 21) (.t 23))), (8, .quiet, (none, .mov 4 (.t 20))), (9, .quiet, (none, .mov 5 (.t 24))), (10, .quiet, (none, .mov 6 (.k (.v (.int .i64 0)))))]
theorem O135_4_ok : chkDraw (regOf Try.f135 4) O135_4 = true := by kernel_rfl
theorem Q135_4_ok : orderL R135_7 O135_4 = some Q135_4 := by kernel_rfl
noncomputable def T135_8 : ACode := (.seq (.draw (regOf Try.f135 4) R135_7) .ret)
noncomputable def T135_9 : ACode := (.seq (.seq (.draw (regOf Try.f135 1) R135_1) T135_6) T135_8)
noncomputable def A135 : ACode := (.seq (.region R135_0) T135_9)
theorem A135_ok : comp tbl 25 ((Try.f135.body).getD .skip) = some A135 := by kernel_rfl
/-! f136 casemate/mirror.spots$3 -/
noncomputable def R136_0 : List GOp := [(none, .mov 3 (.k (.v (.int .i64 0))))]
noncomputable def R136_1 : List GOp := [(none, .load 4 1 false (.t 1)), (none, .mov 3 (.t 4))]
noncomputable def T136_2 : ACode := (.seq (.region R136_1) .ret)
noncomputable def A136 : ACode := (.seq (.region R136_0) T136_2)
theorem A136_ok : comp tbl 5 ((Try.f136.body).getD .skip) = some A136 := by kernel_rfl
/-! f137 casemate/geom.is -/
noncomputable def R137_0 : List GOp := [(none, .box 1 23 (.t 0)), (none, .mov 2 (.k .ff))]
noncomputable def R137_1 : List GOp := [(none, .load 3 2 true (.t 1)), (none, .call 4 (.k (.fn (.func 131) [] [])) [(.t 3)]), (none, .bin 5 .eql (.t 4) (.k (.v (.int .i64 0)))), (none, .mov 2 (.t 5))]
noncomputable def T137_2 : ACode := (.seq (.region R137_1) .ret)
noncomputable def A137 : ACode := (.seq (.region R137_0) T137_2)
theorem A137_ok : comp tbl 6 ((Try.f137.body).getD .skip) = some A137 := by kernel_rfl
/-! f139 casemate/geom.Height -/
noncomputable def R139_0 : List GOp := [(none, .box 1 23 (.t 0)), (none, .mov 2 (.k (.v (.int .i64 0))))]
noncomputable def R139_1 : List GOp := [(none, .mov 3 (.k (.v (.int .i64 0))))]
noncomputable def R139_2 : List GOp := [(none, .mov 4 (.t 3)), (none, .bin 5 .shl (.k (.v (.int .i64 1))) (.t 4)), (none, .load 6 2 true (.t 1)), (none, .call 7 (.k (.fn (.func 163) [] [])) [(.t 6)]), (none, .bin 8 .lss (.t 5) (.t 7))]
noncomputable def O139_2 : List (Nat × Kd) := [(0, .quiet), (1, .quiet), (2, .quiet), (3, .loud), (4, .quiet)]
noncomputable def Q139_2 : List (Nat × Kd × GOp) := [(0, .quiet, (none, .mov 4 (.t 3))), (1, .quiet, (none, .bin 5 .shl (.k (.v (.int .i64 1))) (.t 4))), (2, .quiet, (none, .load 6 2 true (.t 1))), (3, .loud, (none, .call 7 (.k (.fn (.func 163) [] [])) [(.t 6)])), (4, .quiet, (none, .bin 8 .lss (.t 5) (.t 7)))]
theorem O139_2_ok : chkDraw (regOf Try.f139 2) O139_2 = true := by kernel_rfl
theorem Q139_2_ok : orderL R139_2 O139_2 = some Q139_2 := by kernel_rfl
noncomputable def T139_3 : ACode := (.exit 0)
noncomputable def T139_4 : ACode := (.cond (.t 8) .skip T139_3)
noncomputable def R139_5 : List GOp := [(none, .mov 9 (.t 3)), (none, .bin 10 .add (.t 9) (.k (.v (.int .i64 1)))), (none, .mov 3 (.t 10))]
noncomputable def T139_6 : ACode := (.region R139_5)
noncomputable def T139_7 : ACode := (.block 1 T139_6)
noncomputable def L139_8 : ACode := (.seq (.seq (.draw (regOf Try.f139 2) R139_2) T139_4) T139_7)
noncomputable def T139_9 : ACode := (.loop L139_8)
noncomputable def R139_10 : List GOp := [(none, .mov 11 (.t 3)), (none, .mov 2 (.t 11))]
noncomputable def T139_11 : ACode := (.seq (.region R139_10) .ret)
noncomputable def T139_12 : ACode := (.seq (.block 0 T139_9) T139_11)
noncomputable def T139_13 : ACode := (.seq (.region R139_1) T139_12)
noncomputable def A139 : ACode := (.seq (.region R139_0) T139_13)
theorem A139_ok : comp tbl 12 ((Try.f139.body).getD .skip) = some A139 := by kernel_rfl
/-! f140 casemate/geom.Nodes -/
noncomputable def R140_0 : List GOp := [(none, .box 1 23 (.t 0)), (none, .mov 2 (.k (.v (.int .i64 0))))]
noncomputable def R140_1 : List GOp := [(none, .load 3 2 true (.t 1)), (none, .call 4 (.k (.fn (.func 139) [] [])) [(.t 3)]), (none, .bin 5 .shl (.k (.v (.int .i64 1))) (.t 4)), (none, .bin 6 .sub (.t 5) (.k (.v (.int .i64 1)))), (none, .mov 2 (.t 6))]
noncomputable def T140_2 : ACode := (.seq (.region R140_1) .ret)
noncomputable def A140 : ACode := (.seq (.region R140_0) T140_2)
theorem A140_ok : comp tbl 7 ((Try.f140.body).getD .skip) = some A140 := by kernel_rfl
/-! f142 casemate/casemateref14.Half -/
noncomputable def R142_0 : List GOp := [(none, .box 1 23 (.t 0)), (none, .mov 2 (.k (.v (.int .i64 0))))]
noncomputable def R142_1 : List GOp := [(none, .load 4 2 true (.t 1)), (none, .call 5 (.k (.fn (.func 13) [] [])) [(.t 4)]), (none, .bin 6 .neq (.t 5) (.k (.v (.int .i64 0))))]
noncomputable def R142_2 : List GOp := [(none, .mov 2 (.k (.v (.int .i64 0))))]
noncomputable def T142_3 : ACode := (.seq (.region R142_2) .ret)
noncomputable def T142_4 : ACode := (.cond (.t 6) T142_3 .skip)
noncomputable def R142_5 : List GOp := [(none, .mov 3 (.k (.v (.int .i64 0))))]
noncomputable def R142_6 : List GOp := [(none, .mov 7 (.t 3)), (none, .bin 8 .mul (.k (.v (.int .i64 64))) (.t 7)), (none, .load 9 2 true (.t 1)), (none, .call 10 (.k (.fn (.func 164) [] [])) [(.t 9)]), (none, .bin 11 .mul (.k (.v (.int .i64 69))) (.t 10)), (none, .bin 12 .lss (.t 8) (.t 11))]
noncomputable def T142_7 : ACode := (.exit 0)
noncomputable def T142_8 : ACode := (.cond (.t 12) .skip T142_7)
noncomputable def R142_9 : List GOp := [(none, .mov 13 (.t 3)), (none, .bin 14 .add (.t 13) (.k (.v (.int .i64 1)))), (none, .mov 3 (.t 14))]
noncomputable def T142_10 : ACode := (.region R142_9)
noncomputable def T142_11 : ACode := (.block 1 T142_10)
noncomputable def L142_12 : ACode := (.seq (.seq (.region R142_6) T142_8) T142_11)
noncomputable def T142_13 : ACode := (.loop L142_12)
noncomputable def R142_14 : List GOp := [(none, .mov 15 (.t 3)), (none, .bin 16 .add (.k (.v (.int .i64 2))) (.t 15)), (none, .mov 2 (.t 16))]
noncomputable def T142_15 : ACode := (.seq (.region R142_14) .ret)
noncomputable def T142_16 : ACode := (.seq (.block 0 T142_13) T142_15)
noncomputable def T142_17 : ACode := (.seq (.region R142_5) T142_16)
noncomputable def T142_18 : ACode := (.seq (.seq (.region R142_1) T142_4) T142_17)
noncomputable def A142 : ACode := (.seq (.region R142_0) T142_18)
theorem A142_ok : comp tbl 17 ((Try.f142.body).getD .skip) = some A142 := by kernel_rfl
/-! f143 casemate/casemateref14.Nodes -/
noncomputable def R143_0 : List GOp := [(none, .box 1 23 (.t 0)), (none, .mov 2 (.k (.v (.int .i64 0))))]
noncomputable def R143_1 : List GOp := [(none, .load 3 2 true (.t 1)), (none, .call 4 (.k (.fn (.func 166) [] [])) [(.t 3)]), (none, .call 5 (.k (.fn (.func 165) [] [])) [(.t 4)]), (none, .bin 6 .sub (.t 5) (.k (.v (.int .i64 1)))), (none, .mov 2 (.t 6))]
noncomputable def T143_2 : ACode := (.seq (.region R143_1) .ret)
noncomputable def A143 : ACode := (.seq (.region R143_0) T143_2)
theorem A143_ok : comp tbl 7 ((Try.f143.body).getD .skip) = some A143 := by kernel_rfl
/-! f160 casemate/geom.least -/
noncomputable def R160_0 : List GOp := [(none, .mov 2 (.k (.v (.int .i64 0))))]
noncomputable def R160_1 : List GOp := [(none, .mov 3 (.t 0)), (none, .bin 4 .eql (.t 3) (.k (.v (.int .i64 3))))]
noncomputable def R160_2 : List GOp := [(none, .mov 2 (.k (.v (.int .i64 1))))]
noncomputable def T160_3 : ACode := (.seq (.region R160_2) .ret)
noncomputable def T160_4 : ACode := (.cond (.t 4) T160_3 .skip)
noncomputable def R160_5 : List GOp := [(none, .mov 2 (.k (.v (.int .i64 0))))]
noncomputable def T160_6 : ACode := (.seq (.region R160_5) .ret)
noncomputable def T160_7 : ACode := (.seq (.seq (.region R160_1) T160_4) T160_6)
noncomputable def A160 : ACode := (.seq (.region R160_0) T160_7)
theorem A160_ok : comp tbl 5 ((Try.f160.body).getD .skip) = some A160 := by kernel_rfl
/-! f161 casemate/geom.firsts -/
noncomputable def R161_0 : List GOp := [(none, .box 1 23 (.t 0)), (none, .alloc 2 222 [(.run .i64 6 [0, 0, 0, 0, 0, 0])])]
noncomputable def R161_1 : List GOp := [(none, .alloc 3 222 [(.run .i64 6 [0, 0, 0, 0, 0, 0])])]
noncomputable def R161_2 : List GOp := [(none, .idxa 4 6 1 (.t 3) (.k (.v (.int .i64 2)))), (none, .store 1 (.t 4) (.k (.v (.int .i64 8))))]
noncomputable def R161_3 : List GOp := [(none, .idxa 5 6 1 (.t 3) (.k (.v (.int .i64 2)))), (none, .load 6 1 false (.t 5)), (none, .load 7 2 true (.t 1)), (none, .call 8 (.k (.fn (.func 98) [] [])) [(.t 7)]), (none, .bin 9 .mul (.k (.v (.int .i64 2))) (.t 8)), (none, .bin 10 .add (.t 6) (.t 9)), (none, .idxa 11 6 1 (.t 3) (.k (.v (.int .i64 3)))), (none, .store 1 (.t 11) (.t 10))]
noncomputable def O161_3 : List (Nat × Kd) := [(0, .quiet), (1, .quiet), (2, .quiet), (3, .loud), (4, .quiet), (5, .quiet), (6, .quiet), (7, .last)]
noncomputable def Q161_3 : List (Nat × Kd × GOp) := [(0, .quiet, (none, .idxa 5 6 1 (.t 3) (.k (.v (.int .i64 2))))), (1, .quiet, (none, .load 6 1 false (.t 5))), (2, .quiet, (none, .load 7 2 true (.t 1))), (3, .loud, (none, .call 8 (.k (.fn (.func 98) [] [])) [(.t 7)])), (4, .quiet, (none, .bin 9 .mul (.k (.v (.int .i64 2))) (.t 8))), (5, .quiet, (none, .bin 10 .add (.t 6) (.t 9))), (6, .quiet, (none, .idxa 11 6 1 (.t 3) (.k (.v (.int .i64 3))))), (7, .last, (none, .store 1 (.t 11) (.t 10)))]
theorem O161_3_ok : chkDraw (regOf Try.f161 3) O161_3 = true := by kernel_rfl
theorem Q161_3_ok : orderL R161_3 O161_3 = some Q161_3 := by kernel_rfl
noncomputable def R161_4 : List GOp := [(none, .idxa 12 6 1 (.t 3) (.k (.v (.int .i64 3)))), (none, .load 13 1 false (.t 12)), (none, .load 14 2 true (.t 1)), (none, .call 15 (.k (.fn (.func 140) [] [])) [(.t 14)]), (none, .bin 16 .add (.t 13) (.t 15)), (none, .idxa 17 6 1 (.t 3) (.k (.v (.int .i64 4)))), (none, .store 1 (.t 17) (.t 16))]
noncomputable def O161_4 : List (Nat × Kd) := [(0, .quiet), (1, .quiet), (2, .quiet), (3, .loud), (4, .quiet), (5, .quiet), (6, .last)]
noncomputable def Q161_4 : List (Nat × Kd × GOp) := [(0, .quiet, (none, .idxa 12 6 1 (.t 3) (.k (.v (.int .i64 3))))), (1, .quiet, (none, .load 13 1 false (.t 12))), (2, .quiet, (none, .load 14 2 true (.t 1))), (3, .loud, (none, .call 15 (.k (.fn (.func 140) [] [])) [(.t 14)])), (4, .quiet, (none, .bin 16 .add (.t 13) (.t 15))), (5, .quiet, (none, .idxa 17 6 1 (.t 3) (.k (.v (.int .i64 4))))), (6, .last, (none, .store 1 (.t 17) (.t 16)))]
theorem O161_4_ok : chkDraw (regOf Try.f161 4) O161_4 = true := by kernel_rfl
theorem Q161_4_ok : orderL R161_4 O161_4 = some Q161_4 := by kernel_rfl
noncomputable def R161_5 : List GOp := [(none, .idxa 18 6 1 (.t 3) (.k (.v (.int .i64 4)))), (none, .load 19 1 false (.t 18)), (none, .fld 20 1 (.t 1)), (none, .load 21 1 false (.t 20)), (none, .bin 22 .add (.t 19) (.t 21)), (none, .idxa 23 6 1 (.t 3) (.k (.v (.int .i64 5)))), (none, .store 1 (.t 23) (.t 22))]
noncomputable def R161_6 : List GOp := [(none, .load 24 6 true (.t 3)), (none, .store 6 (.t 2) (.t 24))]
noncomputable def T161_7 : ACode := (.seq (.region R161_6) .ret)
noncomputable def T161_8 : ACode := (.seq (.region R161_5) T161_7)
noncomputable def T161_9 : ACode := (.seq (.draw (regOf Try.f161 4) R161_4) T161_8)
noncomputable def T161_10 : ACode := (.seq (.draw (regOf Try.f161 3) R161_3) T161_9)
noncomputable def T161_11 : ACode := (.seq (.region R161_2) T161_10)
noncomputable def T161_12 : ACode := (.seq (.region R161_1) T161_11)
noncomputable def A161 : ACode := (.seq (.region R161_0) T161_12)
theorem A161_ok : comp tbl 25 ((Try.f161.body).getD .skip) = some A161 := by kernel_rfl
/-! f162 casemate/place.may -/
noncomputable def R162_0 : List GOp := [(none, .box 2 23 (.t 0)), (none, .mov 4 (.k (.v (.int .i64 0))))]
noncomputable def R162_1 : List GOp := [(none, .load 6 2 true (.t 2)), (none, .call 7 (.k (.fn (.func 131) [] [])) [(.t 6)]), (none, .bin 8 .neq (.t 7) (.k (.v (.int .i64 0))))]
noncomputable def R162_2 : List GOp := [(none, .mov 4 (.k (.v (.int .i64 2))))]
noncomputable def T162_3 : ACode := (.seq (.region R162_2) .ret)
noncomputable def T162_4 : ACode := (.cond (.t 8) T162_3 .skip)
noncomputable def R162_5 : List GOp := [(none, .mov 5 (.k (.v (.int .i64 0))))]
noncomputable def R162_6 : List GOp := [(none, .mov 9 (.t 5)), (none, .bin 10 .add (.t 9) (.k (.v (.int .i64 1)))), (none, .mov 11 (.t 1)), (none, .len 12 (.t 11)), (none, .bin 13 .lss (.t 10) (.t 12))]
noncomputable def T162_7 : ACode := (.exit 0)
noncomputable def T162_8 : ACode := (.cond (.t 13) .skip T162_7)
noncomputable def R162_9 : List GOp := [(none, .mov 16 (.t 1)), (none, .mov 17 (.t 5)), (none, .idx 18 1 (.t 16) (.t 17)), (none, .load 19 1 false (.t 18)), (none, .bin 20 .lss (.t 19) (.k (.v (.int .i64 0)))), (none, .mov 21 (.t 20)), (some (21, false), .mov 22 (.t 1)), (some (21, false), .mov 23 (.t 5)), (some (21, false), .idx 24 1 (.t 22) (.t 23)), (some (21, false), .load 25 1 false (.t 24)), (some (21, false), .mov 26 (.t 1)), (some (21, false), .mov 27 (.t 5)), (some (21, false), .bin 28 .add (.t 27) (.k (.v (.int .i64 1)))), (some (21, false), .idx 29 1 (.t 26) (.t 28)), (some (21, false), .load 30 1 false (.t 29)), (some (21, false), .bin 31 .geq (.t 25) (.t 30)), (none, .pick 32 21 (.k .tt) (.t 31))]
noncomputable def O162_6 : List (Nat × Kd) := [(0, .quiet), (1, .quiet), (2, .quiet), (3, .quiet), (4, .quiet), (5, .quiet), (6, .quiet), (7, .quiet), (8, .quiet), (9, .quiet), (10, .quiet), (11, .quiet), (12, .quiet), (13, .quiet), (14, .quiet), (15, .quiet), (16, .quiet)]
noncomputable def Q162_6 : List (Nat × Kd × GOp) := [(0, .quiet, (none, .mov 16 (.t 1))), (1, .quiet, (none, .mov 17 (.t 5))), (2, .quiet, (none, .idx 18 1 (.t 16) (.t 17))), (3, .quiet, (none, .load 19 1 false (.t 18))), (4, .quiet, (none, .bin 20 .lss (.t 19) (.k (.v (.int .i64 0))))), (5, .quiet, (none, .mov 21 (.t 20))), (6, .quiet, (some (21, false), .mov 22 (.t 1))), (7, .quiet, (some (21, false), .mov 23 (.t 5))), (8, .quiet, (some (21, false), .idx 24 1 (.t 22) (.t 23))), (9, .quiet, (some (21, false), .load 25 1 false (.t 24))), (10, .quiet, (some (21, false), .mov 26 (.t 1))), (11, .quiet, (some (21, false), .mov 27 (.t 5))), (12, .quiet, (some (21, false), .bin 28 .add (.t 27) (.k (.v (.int .i64 1))))), (13, .quiet, (some (21, false), .idx 29 1 (.t 26) (.t 28))), (14, .quiet, (some (21, false), .load 30 1 false (.t 29))), (15, .quiet, (some (21, false), .bin 31 .geq (.t 25) (.t 30))), (16, .quiet, (none, .pick 32 21 (.k .tt) (.t 31)))]
theorem O162_6_ok : chkDraw (regOf Try.f162 6) O162_6 = true := by kernel_rfl
theorem Q162_6_ok : orderL R162_9 O162_6 = some Q162_6 := by kernel_rfl
noncomputable def R162_10 : List GOp := [(none, .mov 4 (.k (.v (.int .i64 2))))]
noncomputable def T162_11 : ACode := (.seq (.region R162_10) .ret)
noncomputable def T162_12 : ACode := (.cond (.t 32) T162_11 .skip)
noncomputable def T162_13 : ACode := (.seq (.draw (regOf Try.f162 6) R162_9) T162_12)
noncomputable def R162_14 : List GOp := [(none, .mov 14 (.t 5)), (none, .bin 15 .add (.t 14) (.k (.v (.int .i64 2)))), (none, .mov 5 (.t 15))]
noncomputable def T162_15 : ACode := (.region R162_14)
noncomputable def T162_16 : ACode := (.seq (.block 1 T162_13) T162_15)
noncomputable def L162_17 : ACode := (.seq (.seq (.region R162_6) T162_8) T162_16)
noncomputable def T162_18 : ACode := (.loop L162_17)
noncomputable def T162_19 : ACode := (.block 0 T162_18)
noncomputable def R162_20 : List GOp := [(none, .mov 4 (.k (.v (.int .i64 0))))]
noncomputable def T162_21 : ACode := (.seq (.region R162_20) .ret)
noncomputable def T162_22 : ACode := (.seq (.seq (.region R162_5) T162_19) T162_21)
noncomputable def T162_23 : ACode := (.seq (.seq (.region R162_1) T162_4) T162_22)
noncomputable def A162 : ACode := (.seq (.region R162_0) T162_23)
theorem A162_ok : comp tbl 33 ((Try.f162.body).getD .skip) = some A162 := by kernel_rfl
/-! f163 casemate/geom.Leaves -/
noncomputable def R163_0 : List GOp := [(none, .box 1 23 (.t 0)), (none, .mov 2 (.k (.v (.int .i64 0))))]
noncomputable def R163_1 : List GOp := [(none, .load 3 2 true (.t 1)), (none, .call 4 (.k (.fn (.func 137) [] [])) [(.t 3)]), (none, .not 5 (.t 4))]
noncomputable def R163_2 : List GOp := [(none, .mov 2 (.k (.v (.int .i64 0))))]
noncomputable def T163_3 : ACode := (.seq (.region R163_2) .ret)
noncomputable def T163_4 : ACode := (.cond (.t 5) T163_3 .skip)
noncomputable def R163_5 : List GOp := [(none, .fld 6 0 (.t 1)), (none, .load 7 1 false (.t 6)), (none, .fld 8 1 (.t 1)), (none, .load 9 1 false (.t 8)), (none, .bin 10 .mul (.t 7) (.t 9)), (none, .mov 2 (.t 10))]
noncomputable def T163_6 : ACode := (.seq (.region R163_5) .ret)
noncomputable def T163_7 : ACode := (.seq (.seq (.region R163_1) T163_4) T163_6)
noncomputable def A163 : ACode := (.seq (.region R163_0) T163_7)
theorem A163_ok : comp tbl 11 ((Try.f163.body).getD .skip) = some A163 := by kernel_rfl
/-! f164 casemate/casemateref14.Capacity -/
noncomputable def R164_0 : List GOp := [(none, .box 1 23 (.t 0)), (none, .mov 2 (.k (.v (.int .i64 0))))]
noncomputable def R164_1 : List GOp := [(none, .load 5 2 true (.t 1)), (none, .call 6 (.k (.fn (.func 13) [] [])) [(.t 5)]), (none, .bin 7 .neq (.t 6) (.k (.v (.int .i64 0))))]
noncomputable def R164_2 : List GOp := [(none, .mov 2 (.k (.v (.int .i64 0))))]
noncomputable def T164_3 : ACode := (.seq (.region R164_2) .ret)
noncomputable def T164_4 : ACode := (.cond (.t 7) T164_3 .skip)
noncomputable def R164_5 : List GOp := [(none, .mov 3 (.k (.v (.int .i64 6))))]
noncomputable def R164_6 : List GOp := [(none, .fld 8 0 (.t 1)), (none, .load 9 1 false (.t 8)), (none, .mov 10 (.t 3)), (none, .bin 11 .gtr (.t 9) (.t 10))]
noncomputable def R164_7 : List GOp := [(none, .fld 12 0 (.t 1)), (none, .load 13 1 false (.t 12)), (none, .mov 3 (.t 13))]
noncomputable def T164_8 : ACode := (.region R164_7)
noncomputable def T164_9 : ACode := (.cond (.t 11) T164_8 .skip)
noncomputable def R164_10 : List GOp := [(none, .mov 14 (.t 3)), (none, .load 15 2 true (.t 1)), (none, .call 16 (.k (.fn (.func 166) [] [])) [(.t 15)]), (none, .bin 17 .mul (.t 14) (.t 16)), (none, .mov 4 (.t 17))]
noncomputable def R164_11 : List GOp := [(none, .load 18 2 true (.t 1)), (none, .call 19 (.k (.fn (.func 143) [] [])) [(.t 18)]), (none, .mov 20 (.t 4)), (none, .bin 21 .lss (.t 19) (.t 20))]
noncomputable def R164_12 : List GOp := [(none, .load 22 2 true (.t 1)), (none, .call 23 (.k (.fn (.func 143) [] [])) [(.t 22)]), (none, .mov 4 (.t 23))]
noncomputable def T164_13 : ACode := (.region R164_12)
noncomputable def T164_14 : ACode := (.cond (.t 21) T164_13 .skip)
noncomputable def R164_15 : List GOp := [(none, .mov 24 (.t 3)), (none, .mov 25 (.t 4)), (none, .bin 26 .add (.t 24) (.t 25)), (none, .bin 27 .add (.t 26) (.k (.v (.int .i64 8)))), (none, .mov 2 (.t 27))]
noncomputable def T164_16 : ACode := (.seq (.region R164_15) .ret)
noncomputable def T164_17 : ACode := (.seq (.seq (.region R164_11) T164_14) T164_16)
noncomputable def T164_18 : ACode := (.seq (.region R164_10) T164_17)
noncomputable def T164_19 : ACode := (.seq (.seq (.region R164_6) T164_9) T164_18)
noncomputable def T164_20 : ACode := (.seq (.region R164_5) T164_19)
noncomputable def T164_21 : ACode := (.seq (.seq (.region R164_1) T164_4) T164_20)
noncomputable def A164 : ACode := (.seq (.region R164_0) T164_21)
theorem A164_ok : comp tbl 28 ((Try.f164.body).getD .skip) = some A164 := by kernel_rfl
/-! f165 casemate/casemateref14.Power -/
noncomputable def R165_0 : List GOp := [(none, .mov 2 (.k (.v (.int .i64 0))))]
noncomputable def R165_1 : List GOp := [(none, .mov 3 (.k (.v (.int .i64 1))))]
noncomputable def R165_2 : List GOp := [(none, .mov 4 (.k (.v (.int .i64 0))))]
noncomputable def R165_3 : List GOp := [(none, .mov 5 (.t 4)), (none, .mov 6 (.t 0)), (none, .bin 7 .lss (.t 5) (.t 6))]
noncomputable def T165_4 : ACode := (.exit 0)
noncomputable def T165_5 : ACode := (.cond (.t 7) .skip T165_4)
noncomputable def R165_6 : List GOp := [(none, .mov 10 (.t 3)), (none, .bin 11 .mul (.k (.v (.int .i64 2))) (.t 10)), (none, .mov 3 (.t 11))]
noncomputable def T165_7 : ACode := (.region R165_6)
noncomputable def R165_8 : List GOp := [(none, .mov 8 (.t 4)), (none, .bin 9 .add (.t 8) (.k (.v (.int .i64 1)))), (none, .mov 4 (.t 9))]
noncomputable def T165_9 : ACode := (.region R165_8)
noncomputable def T165_10 : ACode := (.seq (.block 1 T165_7) T165_9)
noncomputable def L165_11 : ACode := (.seq (.seq (.region R165_3) T165_5) T165_10)
noncomputable def T165_12 : ACode := (.loop L165_11)
noncomputable def T165_13 : ACode := (.block 0 T165_12)
noncomputable def R165_14 : List GOp := [(none, .mov 12 (.t 3)), (none, .mov 2 (.t 12))]
noncomputable def T165_15 : ACode := (.seq (.region R165_14) .ret)
noncomputable def T165_16 : ACode := (.seq (.seq (.region R165_2) T165_13) T165_15)
noncomputable def T165_17 : ACode := (.seq (.region R165_1) T165_16)
noncomputable def A165 : ACode := (.seq (.region R165_0) T165_17)
theorem A165_ok : comp tbl 13 ((Try.f165.body).getD .skip) = some A165 := by kernel_rfl
/-! f166 casemate/casemateref14.Height -/
noncomputable def R166_0 : List GOp := [(none, .box 1 23 (.t 0)), (none, .mov 2 (.k (.v (.int .i64 0))))]
noncomputable def R166_1 : List GOp := [(none, .mov 3 (.k (.v (.int .i64 0))))]
noncomputable def R166_2 : List GOp := [(none, .mov 4 (.t 3)), (none, .call 5 (.k (.fn (.func 165) [] [])) [(.t 4)]), (none, .load 6 2 true (.t 1)), (none, .call 7 (.k (.fn (.func 168) [] [])) [(.t 6)]), (none, .bin 8 .lss (.t 5) (.t 7))]
noncomputable def O166_2 : List (Nat × Kd) := [(0, .quiet), (2, .quiet), (1, .loud), (3, .loud), (4, .quiet)]
noncomputable def Q166_2 : List (Nat × Kd × GOp) := [(0, .quiet, (none, .mov 4 (.t 3))), (2, .quiet, (none, .load 6 2 true (.t 1))), (1, .loud, (none, .call 5 (.k (.fn (.func 165) [] [])) [(.t 4)])), (3, .loud, (none, .call 7 (.k (.fn (.func 168) [] [])) [(.t 6)])), (4, .quiet, (none, .bin 8 .lss (.t 5) (.t 7)))]
theorem O166_2_ok : chkDraw (regOf Try.f166 2) O166_2 = true := by kernel_rfl
theorem Q166_2_ok : orderL R166_2 O166_2 = some Q166_2 := by kernel_rfl
noncomputable def T166_3 : ACode := (.exit 0)
noncomputable def T166_4 : ACode := (.cond (.t 8) .skip T166_3)
noncomputable def R166_5 : List GOp := [(none, .mov 9 (.t 3)), (none, .bin 10 .add (.t 9) (.k (.v (.int .i64 1)))), (none, .mov 3 (.t 10))]
noncomputable def T166_6 : ACode := (.region R166_5)
noncomputable def T166_7 : ACode := (.block 1 T166_6)
noncomputable def L166_8 : ACode := (.seq (.seq (.draw (regOf Try.f166 2) R166_2) T166_4) T166_7)
noncomputable def T166_9 : ACode := (.loop L166_8)
noncomputable def R166_10 : List GOp := [(none, .mov 11 (.t 3)), (none, .mov 2 (.t 11))]
noncomputable def T166_11 : ACode := (.seq (.region R166_10) .ret)
noncomputable def T166_12 : ACode := (.seq (.block 0 T166_9) T166_11)
noncomputable def T166_13 : ACode := (.seq (.region R166_1) T166_12)
noncomputable def A166 : ACode := (.seq (.region R166_0) T166_13)
theorem A166_ok : comp tbl 12 ((Try.f166.body).getD .skip) = some A166 := by kernel_rfl
/-! f168 casemate/casemateref14.Leaves -/
noncomputable def R168_0 : List GOp := [(none, .box 1 23 (.t 0)), (none, .mov 2 (.k (.v (.int .i64 0))))]
noncomputable def R168_1 : List GOp := [(none, .load 3 2 true (.t 1)), (none, .call 4 (.k (.fn (.func 13) [] [])) [(.t 3)]), (none, .bin 5 .neq (.t 4) (.k (.v (.int .i64 0))))]
noncomputable def R168_2 : List GOp := [(none, .mov 2 (.k (.v (.int .i64 0))))]
noncomputable def T168_3 : ACode := (.seq (.region R168_2) .ret)
noncomputable def T168_4 : ACode := (.cond (.t 5) T168_3 .skip)
noncomputable def R168_5 : List GOp := [(none, .fld 6 0 (.t 1)), (none, .load 7 1 false (.t 6)), (none, .fld 8 1 (.t 1)), (none, .load 9 1 false (.t 8)), (none, .bin 10 .mul (.t 7) (.t 9)), (none, .mov 2 (.t 10))]
noncomputable def T168_6 : ACode := (.seq (.region R168_5) .ret)
noncomputable def T168_7 : ACode := (.seq (.seq (.region R168_1) T168_4) T168_6)
noncomputable def A168 : ACode := (.seq (.region R168_0) T168_7)
theorem A168_ok : comp tbl 11 ((Try.f168.body).getD .skip) = some A168 := by kernel_rfl
end Go.Proofs.Ytolcobhaghdfcaa
