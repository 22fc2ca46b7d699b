/- The short forms of the program's functions, printed by a program (wip/ShowCode.lean) and held against the loaded program by reckoning. -/
import Derived.Test.YtolcobhaghdfcaaTbl
import Derived.Test.YtolcobhaghdfcaaEng
set_option maxRecDepth 100000
namespace Go.Proofs.Ytolcobhaghdfcaa
open Sx Go
/-! f19 (*casemate/member.Member).Copy -/
noncomputable def R19_0 : List GOp := [(none, .mov 2 (.k (.v (.pointer none))))]
noncomputable def R19_1 : List GOp := [(none, .mov 4 (.t 0)), (none, .call 5 (.k (.fn (.func 65) [] [])) [(.t 4)]), (none, .not 6 (.t 5))]
noncomputable def R19_2 : List GOp := [(none, .mov 2 (.k (.v (.pointer none))))]
noncomputable def T19_3 : ACode := (.seq (.region R19_2) .ret)
noncomputable def T19_4 : ACode := (.cond (.t 6) T19_3 .skip)
noncomputable def R19_5 : List GOp := [(none, .mov 7 (.t 0)), (none, .nilc 8 (.t 7)), (none, .load 9 7 true (.t 8)), (none, .alloc 3 141 [(.v (.int .i64 0)), (.v (.map none)), (.v (.map none)), (.v (.slice none 0 0)), (.v (.slice none 0 0)), .ff, .ff]), (none, .store 7 (.t 3) (.t 9))]
noncomputable def R19_6 : List GOp := [(none, .mov 10 (.t 0)), (none, .nilc 11 (.t 10)), (none, .fld 12 1 (.t 11)), (none, .load 13 1 false (.t 12)), (none, .call 14 (.k (.fn (.func 66) [] [])) [(.t 13)]), (none, .mov 15 (.t 0)), (none, .nilc 16 (.t 15)), (none, .fld 17 2 (.t 16)), (none, .load 18 1 false (.t 17)), (none, .call 19 (.k (.fn (.func 66) [] [])) [(.t 18)]), (none, .mov 20 (.t 0)), (none, .nilc 21 (.t 20)), (none, .fld 22 3 (.t 21)), (none, .load 23 1 false (.t 22)), (none, .call 24 (.k (.fn (.func 67) [] [])) [(.t 23)]), (none, .fld 25 1 (.t 3)), (none, .store 1 (.t 25) (.t 14)), (none, .fld 26 2 (.t 3)), (none, .store 1 (.t 26) (.t 19)), (none, .fld 27 3 (.t 3)), (none, .store 1 (.t 27) (.t 24))]
noncomputable def O19_4 : List (Nat × Kd) := [(0, .quiet), (1, .quiet), (2, .quiet), (3, .quiet), (5, .quiet), (6, .quiet), (7, .quiet), (8, .quiet), (10, .quiet), (11, .quiet), (12, .quiet), (13, .quiet), (4, .loud), (9, .loud), (14, .loud), (15, .quiet), (16, .loud), (17, .quiet), (18, .loud), (19, .quiet), (20, .last)]
noncomputable def Q19_4 : List (Nat × Kd × GOp) := [(0, .quiet, (none, .mov 10 (.t 0))), (1, .quiet, (none, .nilc 11 (.t 10))), (2, .quiet, (none, .fld 12 1 (.t 11))), (3, .quiet, (none, .load 13 1 false (.t 12))), (5, .quiet, (none, .mov 15 (.t 0))), (6, .quiet, (none, .nilc 16 (.t 15))), (7, .quiet, (none, .fld 17 2 (.t 16))), (8, .quiet, (none, .load 18 1 false (.t 17))), (10, .quiet, (none, .mov 20 (.t 0))), (11, .quiet, (none, .nilc 21 (.t 20))), (12, .quiet, (none, .fld 22 3 (.t 21))), (13, .quiet, (none, .load 23 1 false (.t 22))), (4, .loud, (none, .call 14 (.k (.fn (.func 66) [] [])) [(.t 13)])), (9, .loud, (none, .call 19 (.k (.fn (.func 66) [] [])) [(.t 18)])), (14, .loud, (none, .call 24 (.k (.fn (.func 67) [] [])) [(.t 23)])), (15, .quiet, (none, .fld 25 1 (.t 3))), (16, .loud, (none, .store 1 (.t 25) (.t 14))), (17, .quiet, (none, .fld 26 2 (.t 3))), (18, .loud, (none, .store 1 (.t 26) (.t 19))), (19, .quiet, (none, .fld 27 3 (.t 3))), (20, .last, (none, .store 1 (.t 27) (.t 24)))]
theorem O19_4_ok : chkDraw (regOf Try.f19 4) O19_4 = true := by kernel_rfl
theorem Q19_4_ok : orderL R19_6 O19_4 = some Q19_4 := by kernel_rfl
noncomputable def R19_7 : List GOp := [(none, .mov 28 (.t 0)), (none, .nilc 29 (.t 28)), (none, .fld 30 4 (.t 29)), (none, .load 31 1 false (.t 30)), (none, .call 32 (.k (.fn (.func 68) [] [])) [(.t 31)]), (none, .fld 33 4 (.t 3)), (none, .store 1 (.t 33) (.t 32))]
noncomputable def R19_8 : List GOp := [(none, .mov 2 (.t 3))]
noncomputable def T19_9 : ACode := (.seq (.region R19_8) .ret)
noncomputable def T19_10 : ACode := (.seq (.region R19_7) T19_9)
noncomputable def T19_11 : ACode := (.seq (.draw (regOf Try.f19 4) R19_6) T19_10)
noncomputable def T19_12 : ACode := (.seq (.region R19_5) T19_11)
noncomputable def T19_13 : ACode := (.seq (.seq (.region R19_1) T19_4) T19_12)
noncomputable def A19 : ACode := (.seq (.region R19_0) T19_13)
theorem A19_ok : comp tbl 34 ((Try.f19.body).getD .skip) = some A19 := by kernel_rfl
/-! f21 (*casemate/member.Member).Write -/
noncomputable def R21_0 : List GOp := [(none, .box 5 25 (.t 2)), (none, .mov 6 (.k (.v (.int .i64 0))))]
noncomputable def R21_1 : List GOp := [(none, .mov 8 (.t 0)), (none, .mov 9 (.t 1)), (none, .call 10 (.k (.fn (.func 72) [] [])) [(.t 8), (.t 9)]), (none, .mov 7 (.t 10))]
noncomputable def R21_2 : List GOp := [(none, .mov 11 (.t 7)), (none, .bin 12 .neq (.t 11) (.k (.v (.int .i64 0))))]
noncomputable def R21_3 : List GOp := [(none, .mov 13 (.t 7)), (none, .mov 6 (.t 13))]
noncomputable def T21_4 : ACode := (.seq (.region R21_3) .ret)
noncomputable def T21_5 : ACode := (.cond (.t 12) T21_4 .skip)
noncomputable def T21_6 : ACode := (.seq (.region R21_2) T21_5)
noncomputable def R21_7 : List GOp := [(none, .mov 14 (.t 0)), (none, .nilc 15 (.t 14)), (none, .fld 16 1 (.t 15)), (none, .load 17 1 false (.t 16)), (none, .mov 18 (.t 1)), (none, .load 19 64 true (.t 5)), (none, .call 20 (.k (.fn (.func 73) [] [])) [(.t 17), (.t 18), (.t 19)])]
noncomputable def O21_4 : List (Nat × Kd) := [(0, .quiet), (1, .quiet), (2, .quiet), (3, .quiet), (4, .quiet), (5, .quiet), (6, .loud)]
noncomputable def Q21_4 : List (Nat × Kd × GOp) := [(0, .quiet, (none, .mov 14 (.t 0))), (1, .quiet, (none, .nilc 15 (.t 14))), (2, .quiet, (none, .fld 16 1 (.t 15))), (3, .quiet, (none, .load 17 1 false (.t 16))), (4, .quiet, (none, .mov 18 (.t 1))), (5, .quiet, (none, .load 19 64 true (.t 5))), (6, .loud, (none, .call 20 (.k (.fn (.func 73) [] [])) [(.t 17), (.t 18), (.t 19)]))]
theorem O21_4_ok : chkDraw (regOf Try.f21 4) O21_4 = true := by kernel_rfl
theorem Q21_4_ok : orderL R21_7 O21_4 = some Q21_4 := by kernel_rfl
noncomputable def R21_8 : List GOp := [(none, .mov 21 (.t 0)), (none, .mov 22 (.t 0)), (none, .nilc 23 (.t 22)), (none, .fld 24 3 (.t 23)), (none, .load 25 1 false (.t 24)), (none, .mov 26 (.t 1)), (none, .load 27 64 true (.t 5)), (none, .build 28 [(.v (.int .i64 0)), (.run .u8 64 (List.replicate 64 0))] [(0, 1, (.t 26)), (1, 64, (.t 27))]), (none, .bslice 29 145 1 [(.v (.int .i64 0)), (.run .u8 64 (List.replicate 64 0))] [(0, 65, (.t 28))]), (none, .other (some 30) (.call ⟨.builtin .append, #[(.tmp 25), (.tmp 29)], #[138, 138]⟩) 138), (none, .nilc 31 (.t 21)), (none, .fld 32 3 (.t 31)), (none, .store 1 (.t 32) (.t 30))]
noncomputable def O21_5 : List (Nat × Kd) := [(0, .quiet), (1, .quiet), (2, .quiet), (3, .quiet), (4, .quiet), (5, .quiet), (6, .quiet), (7, .quiet), (8, .loud), (9, .loud), (10, .quiet), (11, .quiet), (12, .last)]
noncomputable def Q21_5 : List (Nat × Kd × GOp) := [(0, .quiet, (none, .mov 21 (.t 0))), (1, .quiet, (none, .mov 22 (.t 0))), (2, .quiet, (none, .nilc 23 (.t 22))), (3, .quiet, (none, .fld 24 3 (.t 23))), (4, .quiet, (none, .load 25 1 false (.t 24))), (5, .quiet, (none, .mov 26 (.t 1))), (6, .quiet, (none, .load 27 64 true (.t 5))), (7, .quiet, (none, .build 28 [(.v (.int .i64 0)), (.run .u8 64 (List.replicate 64 0))] [(0, 1, (.t 26)), (1, 64, (.t 27))])), (8, .loud, (none, .bslice 29 145 1 [(.v (.int .i64 0)), (.run .u8 64 (List.replicate 64 0))] [(0, 65, (.t 28))])), (9, .loud, (none, .other (some 30) (.call ⟨.builtin .append, #[(.tmp 25), (.tmp 29)], #[138, 138]⟩) 138)), (10, .quiet, (none, .nilc 31 (.t 21))), (11, .quiet, (none, .fld 32 3 (.t 31))), (12, .last, (none, .store 1 (.t 32) (.t 30)))]
theorem O21_5_ok : chkDraw (regOf Try.f21 5) O21_5 = true := by kernel_rfl
theorem Q21_5_ok : orderL R21_8 O21_5 = some Q21_5 := by kernel_rfl
noncomputable def R21_9 : List GOp := [(none, .mov 6 (.k (.v (.int .i64 0))))]
noncomputable def T21_10 : ACode := (.seq (.region R21_9) .ret)
noncomputable def T21_11 : ACode := (.seq (.draw (regOf Try.f21 5) R21_8) T21_10)
noncomputable def T21_12 : ACode := (.seq (.draw (regOf Try.f21 4) R21_7) T21_11)
noncomputable def T21_13 : ACode := (.seq (.seq (.region R21_1) T21_6) T21_12)
noncomputable def A21 : ACode := (.seq (.region R21_0) T21_13)
theorem A21_ok : comp tbl 33 ((Try.f21.body).getD .skip) = some A21 := by kernel_rfl
/-! f23 (*casemate/member.Member).Flush -/
noncomputable def R23_0 : List GOp := [(none, .mov 2 (.k (.v (.int .i64 0))))]
noncomputable def R23_1 : List GOp := [(none, .mov 4 (.t 0)), (none, .call 5 (.k (.fn (.func 72) [] [])) [(.t 4), (.k (.v (.int .i64 0)))]), (none, .mov 3 (.t 5))]
noncomputable def R23_2 : List GOp := [(none, .mov 6 (.t 3)), (none, .bin 7 .neq (.t 6) (.k (.v (.int .i64 0))))]
noncomputable def R23_3 : List GOp := [(none, .mov 8 (.t 3)), (none, .mov 2 (.t 8))]
noncomputable def T23_4 : ACode := (.seq (.region R23_3) .ret)
noncomputable def T23_5 : ACode := (.cond (.t 7) T23_4 .skip)
noncomputable def T23_6 : ACode := (.seq (.region R23_2) T23_5)
noncomputable def R23_7 : List GOp := [(none, .mov 9 (.t 0)), (none, .call 10 (.k (.fn (.func 75) [] [])) [(.t 9), (.k (.fn (.func 76) [] []))])]
noncomputable def R23_8 : List GOp := [(none, .mov 2 (.k (.v (.int .i64 0))))]
noncomputable def T23_9 : ACode := (.seq (.region R23_8) .ret)
noncomputable def T23_10 : ACode := (.seq (.region R23_7) T23_9)
noncomputable def T23_11 : ACode := (.seq (.seq (.region R23_1) T23_6) T23_10)
noncomputable def A23 : ACode := (.seq (.region R23_0) T23_11)
theorem A23_ok : comp tbl 11 ((Try.f23.body).getD .skip) = some A23 := by kernel_rfl
/-! f25 (*casemate/member.Member).Read -/
noncomputable def R25_0 : List GOp := [(none, .alloc 4 25 [(.run .u8 64 (List.replicate 64 0))]), (none, .mov 5 (.k (.v (.int .i64 0))))]
noncomputable def R25_1 : List GOp := [(none, .mov 7 (.t 0)), (none, .mov 8 (.t 1)), (none, .call 9 (.k (.fn (.func 72) [] [])) [(.t 7), (.t 8)]), (none, .mov 6 (.t 9))]
noncomputable def R25_2 : List GOp := [(none, .mov 10 (.t 6)), (none, .bin 11 .neq (.t 10) (.k (.v (.int .i64 0))))]
noncomputable def R25_3 : List GOp := [(none, .build 12 [(.run .u8 64 (List.replicate 64 0))] []), (none, .mov 13 (.t 6)), (none, .store 64 (.t 4) (.t 12)), (none, .mov 5 (.t 13))]
noncomputable def T25_4 : ACode := (.seq (.region R25_3) .ret)
noncomputable def T25_5 : ACode := (.cond (.t 11) T25_4 .skip)
noncomputable def T25_6 : ACode := (.seq (.region R25_2) T25_5)
noncomputable def R25_7 : List GOp := [(none, .mov 14 (.t 0)), (none, .nilc 15 (.t 14)), (none, .fld 16 1 (.t 15)), (none, .load 17 1 false (.t 16)), (none, .mov 18 (.t 1)), (none, .other (some 19) (.lookup 137 (.tmp 17) (.tmp 18) false) 25), (none, .store 64 (.t 4) (.t 19)), (none, .mov 5 (.k (.v (.int .i64 0))))]
noncomputable def T25_8 : ACode := (.seq (.region R25_7) .ret)
noncomputable def T25_9 : ACode := (.seq (.seq (.region R25_1) T25_6) T25_8)
noncomputable def A25 : ACode := (.seq (.region R25_0) T25_9)
theorem A25_ok : comp tbl 20 ((Try.f25.body).getD .skip) = some A25 := by kernel_rfl
/-! f26 (*casemate/member.Member).Look -/
noncomputable def R26_0 : List GOp := [(none, .alloc 4 25 [(.run .u8 64 (List.replicate 64 0))]), (none, .mov 5 (.k (.v (.int .i64 0))))]
noncomputable def R26_1 : List GOp := [(none, .mov 7 (.t 0)), (none, .mov 8 (.t 1)), (none, .call 9 (.k (.fn (.func 78) [] [])) [(.t 7), (.t 8)]), (none, .mov 6 (.t 9))]
noncomputable def R26_2 : List GOp := [(none, .mov 10 (.t 6)), (none, .bin 11 .neq (.t 10) (.k (.v (.int .i64 0))))]
noncomputable def R26_3 : List GOp := [(none, .build 12 [(.run .u8 64 (List.replicate 64 0))] []), (none, .mov 13 (.t 6)), (none, .store 64 (.t 4) (.t 12)), (none, .mov 5 (.t 13))]
noncomputable def T26_4 : ACode := (.seq (.region R26_3) .ret)
noncomputable def T26_5 : ACode := (.cond (.t 11) T26_4 .skip)
noncomputable def T26_6 : ACode := (.seq (.region R26_2) T26_5)
noncomputable def R26_7 : List GOp := [(none, .mov 14 (.t 0)), (none, .nilc 15 (.t 14)), (none, .fld 16 2 (.t 15)), (none, .load 17 1 false (.t 16)), (none, .mov 18 (.t 1)), (none, .other (some 19) (.lookup 137 (.tmp 17) (.tmp 18) false) 25), (none, .store 64 (.t 4) (.t 19)), (none, .mov 5 (.k (.v (.int .i64 0))))]
noncomputable def T26_8 : ACode := (.seq (.region R26_7) .ret)
noncomputable def T26_9 : ACode := (.seq (.seq (.region R26_1) T26_6) T26_8)
noncomputable def A26 : ACode := (.seq (.region R26_0) T26_9)
theorem A26_ok : comp tbl 20 ((Try.f26.body).getD .skip) = some A26 := by kernel_rfl
/-! f27 (*casemate/member.Member).Touched -/
noncomputable def R27_0 : List GOp := [(none, .mov 2 (.k .ff))]
noncomputable def R27_1 : List GOp := [(none, .mov 3 (.t 0)), (none, .call 4 (.k (.fn (.func 65) [] [])) [(.t 3)]), (none, .mov 5 (.t 4)), (some (5, true), .mov 6 (.t 0)), (some (5, true), .nilc 7 (.t 6)), (some (5, true), .fld 8 6 (.t 7)), (some (5, true), .load 9 1 false (.t 8)), (none, .pick 10 5 (.t 9) (.k .ff)), (none, .mov 2 (.t 10))]
noncomputable def T27_2 : ACode := (.seq (.region R27_1) .ret)
noncomputable def A27 : ACode := (.seq (.region R27_0) T27_2)
theorem A27_ok : comp tbl 11 ((Try.f27.body).getD .skip) = some A27 := by kernel_rfl
/-! f31 (*casemate/member.Member).Unflushed -/
noncomputable def R31_0 : List GOp := [(none, .mov 2 (.k (.v (.int .i64 0))))]
noncomputable def R31_1 : List GOp := [(none, .mov 3 (.t 0)), (none, .call 4 (.k (.fn (.func 65) [] [])) [(.t 3)]), (none, .not 5 (.t 4))]
noncomputable def R31_2 : List GOp := [(none, .mov 2 (.k (.v (.int .i64 0))))]
noncomputable def T31_3 : ACode := (.seq (.region R31_2) .ret)
noncomputable def T31_4 : ACode := (.cond (.t 5) T31_3 .skip)
noncomputable def R31_5 : List GOp := [(none, .mov 6 (.t 0)), (none, .nilc 7 (.t 6)), (none, .fld 8 3 (.t 7)), (none, .load 9 1 false (.t 8)), (none, .len 10 (.t 9)), (none, .mov 2 (.t 10))]
noncomputable def T31_6 : ACode := (.seq (.region R31_5) .ret)
noncomputable def T31_7 : ACode := (.seq (.seq (.region R31_1) T31_4) T31_6)
noncomputable def A31 : ACode := (.seq (.region R31_0) T31_7)
theorem A31_ok : comp tbl 11 ((Try.f31.body).getD .skip) = some A31 := by kernel_rfl
/-! f44 (*casemate/member.Member).Len -/
noncomputable def R44_0 : List GOp := [(none, .mov 2 (.k (.v (.int .i64 0))))]
noncomputable def R44_1 : List GOp := [(none, .mov 3 (.t 0)), (none, .call 4 (.k (.fn (.func 65) [] [])) [(.t 3)]), (none, .not 5 (.t 4))]
noncomputable def R44_2 : List GOp := [(none, .mov 2 (.k (.v (.int .i64 0))))]
noncomputable def T44_3 : ACode := (.seq (.region R44_2) .ret)
noncomputable def T44_4 : ACode := (.cond (.t 5) T44_3 .skip)
noncomputable def R44_5 : List GOp := [(none, .mov 6 (.t 0)), (none, .nilc 7 (.t 6)), (none, .fld 8 0 (.t 7)), (none, .load 9 1 false (.t 8)), (none, .mov 2 (.t 9))]
noncomputable def T44_6 : ACode := (.seq (.region R44_5) .ret)
noncomputable def T44_7 : ACode := (.seq (.seq (.region R44_1) T44_4) T44_6)
noncomputable def A44 : ACode := (.seq (.region R44_0) T44_7)
theorem A44_ok : comp tbl 10 ((Try.f44.body).getD .skip) = some A44 := by kernel_rfl
/-! f50 (*casemate/member.Member).Fail -/
noncomputable def R50_0 : List GOp := [(none, .mov 4 (.k (.v (.int .i64 0))))]
noncomputable def R50_1 : List GOp := [(none, .mov 5 (.t 0)), (none, .call 6 (.k (.fn (.func 65) [] [])) [(.t 5)]), (none, .not 7 (.t 6))]
noncomputable def R50_2 : List GOp := [(none, .mov 4 (.k (.v (.int .i64 1))))]
noncomputable def T50_3 : ACode := (.seq (.region R50_2) .ret)
noncomputable def T50_4 : ACode := (.cond (.t 7) T50_3 .skip)
noncomputable def R50_5 : List GOp := [(none, .mov 8 (.t 0)), (none, .mov 9 (.t 1)), (none, .nilc 10 (.t 8)), (none, .fld 11 5 (.t 10)), (none, .store 1 (.t 11) (.t 9))]
noncomputable def R50_6 : List GOp := [(none, .mov 12 (.t 0)), (none, .mov 13 (.t 0)), (none, .nilc 14 (.t 13)), (none, .fld 15 6 (.t 14)), (none, .load 16 1 false (.t 15)), (none, .mov 17 (.t 16)), (some (17, false), .mov 18 (.t 1)), (none, .pick 19 17 (.k .tt) (.t 18)), (none, .nilc 20 (.t 12)), (none, .fld 21 6 (.t 20)), (none, .store 1 (.t 21) (.t 19))]
noncomputable def R50_7 : List GOp := [(none, .mov 4 (.k (.v (.int .i64 0))))]
noncomputable def T50_8 : ACode := (.seq (.region R50_7) .ret)
noncomputable def T50_9 : ACode := (.seq (.region R50_6) T50_8)
noncomputable def T50_10 : ACode := (.seq (.region R50_5) T50_9)
noncomputable def T50_11 : ACode := (.seq (.seq (.region R50_1) T50_4) T50_10)
noncomputable def A50 : ACode := (.seq (.region R50_0) T50_11)
theorem A50_ok : comp tbl 22 ((Try.f50.body).getD .skip) = some A50 := by kernel_rfl
/-! f53 (*casemate/member.Member).Set -/
noncomputable def R53_0 : List GOp := [(none, .box 4 3 (.t 1)), (none, .box 5 25 (.t 2)), (none, .mov 6 (.k (.v (.int .i64 0))))]
noncomputable def R53_1 : List GOp := [(none, .mov 8 (.t 0)), (none, .load 9 1 false (.t 4)), (none, .call 10 (.k (.fn (.func 78) [] [])) [(.t 8), (.t 9)]), (none, .mov 7 (.t 10))]
noncomputable def R53_2 : List GOp := [(none, .mov 11 (.t 7)), (none, .bin 12 .neq (.t 11) (.k (.v (.int .i64 0))))]
noncomputable def R53_3 : List GOp := [(none, .mov 13 (.t 7)), (none, .mov 6 (.t 13))]
noncomputable def T53_4 : ACode := (.seq (.region R53_3) .ret)
noncomputable def T53_5 : ACode := (.cond (.t 12) T53_4 .skip)
noncomputable def T53_6 : ACode := (.seq (.region R53_2) T53_5)
noncomputable def R53_7 : List GOp := [(none, .mov 14 (.t 0)), (none, .mov 15 (.t 0)), (none, .nilc 16 (.t 15)), (none, .fld 17 3 (.t 16)), (none, .load 18 1 false (.t 17)), (none, .mkfn 19 (.func 105) [] [(.t 4)]), (none, .call 20 (.k (.fn (.func 104) [] [])) [(.t 18), (.t 19)]), (none, .nilc 21 (.t 14)), (none, .fld 22 3 (.t 21)), (none, .store 1 (.t 22) (.t 20))]
noncomputable def R53_8 : List GOp := [(none, .mov 23 (.t 0)), (none, .nilc 24 (.t 23)), (none, .fld 25 1 (.t 24)), (none, .load 26 1 false (.t 25)), (none, .load 27 1 false (.t 4)), (none, .load 28 64 true (.t 5)), (none, .call 29 (.k (.fn (.func 73) [] [])) [(.t 26), (.t 27), (.t 28)])]
noncomputable def O53_5 : List (Nat × Kd) := [(0, .quiet), (1, .quiet), (2, .quiet), (3, .quiet), (4, .quiet), (5, .quiet), (6, .loud)]
noncomputable def Q53_5 : List (Nat × Kd × GOp) := [(0, .quiet, (none, .mov 23 (.t 0))), (1, .quiet, (none, .nilc 24 (.t 23))), (2, .quiet, (none, .fld 25 1 (.t 24))), (3, .quiet, (none, .load 26 1 false (.t 25))), (4, .quiet, (none, .load 27 1 false (.t 4))), (5, .quiet, (none, .load 28 64 true (.t 5))), (6, .loud, (none, .call 29 (.k (.fn (.func 73) [] [])) [(.t 26), (.t 27), (.t 28)]))]
theorem O53_5_ok : chkDraw (regOf Try.f53 5) O53_5 = true := by kernel_rfl
theorem Q53_5_ok : orderL R53_8 O53_5 = some Q53_5 := by kernel_rfl
noncomputable def R53_9 : List GOp := [(none, .mov 30 (.t 0)), (none, .nilc 31 (.t 30)), (none, .fld 32 2 (.t 31)), (none, .load 33 1 false (.t 32)), (none, .load 34 1 false (.t 4)), (none, .load 35 64 true (.t 5)), (none, .call 36 (.k (.fn (.func 73) [] [])) [(.t 33), (.t 34), (.t 35)])]
noncomputable def O53_6 : List (Nat × Kd) := [(0, .quiet), (1, .quiet), (2, .quiet), (3, .quiet), (4, .quiet), (5, .quiet), (6, .loud)]
noncomputable def Q53_6 : List (Nat × Kd × GOp) := [(0, .quiet, (none, .mov 30 (.t 0))), (1, .quiet, (none, .nilc 31 (.t 30))), (2, .quiet, (none, .fld 32 2 (.t 31))), (3, .quiet, (none, .load 33 1 false (.t 32))), (4, .quiet, (none, .load 34 1 false (.t 4))), (5, .quiet, (none, .load 35 64 true (.t 5))), (6, .loud, (none, .call 36 (.k (.fn (.func 73) [] [])) [(.t 33), (.t 34), (.t 35)]))]
theorem O53_6_ok : chkDraw (regOf Try.f53 6) O53_6 = true := by kernel_rfl
theorem Q53_6_ok : orderL R53_9 O53_6 = some Q53_6 := by kernel_rfl
noncomputable def R53_10 : List GOp := [(none, .mov 37 (.t 0)), (none, .nilc 38 (.t 37)), (none, .fld 39 6 (.t 38)), (none, .store 1 (.t 39) (.k .tt))]
noncomputable def R53_11 : List GOp := [(none, .mov 6 (.k (.v (.int .i64 0))))]
noncomputable def T53_12 : ACode := (.seq (.region R53_11) .ret)
noncomputable def T53_13 : ACode := (.seq (.region R53_10) T53_12)
noncomputable def T53_14 : ACode := (.seq (.draw (regOf Try.f53 6) R53_9) T53_13)
noncomputable def T53_15 : ACode := (.seq (.draw (regOf Try.f53 5) R53_8) T53_14)
noncomputable def T53_16 : ACode := (.seq (.region R53_7) T53_15)
noncomputable def T53_17 : ACode := (.seq (.seq (.region R53_1) T53_6) T53_16)
noncomputable def A53 : ACode := (.seq (.region R53_0) T53_17)
theorem A53_ok : comp tbl 40 ((Try.f53.body).getD .skip) = some A53 := by kernel_rfl
/-! f54 (*casemate/member.Member).Crash -/
noncomputable def R54_0 : List GOp := [(none, .box 3 38 (.t 1)), (none, .mov 4 (.k (.v (.int .i64 0))))]
noncomputable def R54_1 : List GOp := [(none, .mov 5 (.t 0)), (none, .call 6 (.k (.fn (.func 65) [] [])) [(.t 5)]), (none, .not 7 (.t 6))]
noncomputable def R54_2 : List GOp := [(none, .mov 4 (.k (.v (.int .i64 1))))]
noncomputable def T54_3 : ACode := (.seq (.region R54_2) .ret)
noncomputable def T54_4 : ACode := (.cond (.t 7) T54_3 .skip)
noncomputable def R54_5 : List GOp := [(none, .mov 8 (.t 0)), (none, .mkfn 9 (.func 106) [] [(.t 3)]), (none, .call 10 (.k (.fn (.func 75) [] [])) [(.t 8), (.t 9)])]
noncomputable def R54_6 : List GOp := [(none, .mov 4 (.k (.v (.int .i64 0))))]
noncomputable def T54_7 : ACode := (.seq (.region R54_6) .ret)
noncomputable def T54_8 : ACode := (.seq (.region R54_5) T54_7)
noncomputable def T54_9 : ACode := (.seq (.seq (.region R54_1) T54_4) T54_8)
noncomputable def A54 : ACode := (.seq (.region R54_0) T54_9)
theorem A54_ok : comp tbl 11 ((Try.f54.body).getD .skip) = some A54 := by kernel_rfl
/-! f62 casemate/member.New -/
noncomputable def R62_0 : List GOp := [(none, .mov 2 (.k (.v (.pointer none)))), (none, .mov 3 (.k (.v (.int .i64 0))))]
noncomputable def R62_1 : List GOp := [(none, .mov 4 (.t 0)), (none, .bin 5 .lss (.t 4) (.k (.v (.int .i64 1)))), (none, .mov 6 (.t 5)), (some (6, false), .mov 7 (.t 0)), (some (6, false), .bin 8 .gtr (.t 7) (.k (.v (.int .i64 65536)))), (none, .pick 9 6 (.k .tt) (.t 8))]
noncomputable def R62_2 : List GOp := [(none, .mov 2 (.k (.v (.pointer none)))), (none, .mov 3 (.k (.v (.int .i64 2))))]
noncomputable def T62_3 : ACode := (.seq (.region R62_2) .ret)
noncomputable def T62_4 : ACode := (.cond (.t 9) T62_3 .skip)
noncomputable def R62_5 : List GOp := [(none, .mov 10 (.t 0)), (none, .other (some 11) (.makeMap 137 none) 137), (none, .other (some 12) (.makeMap 137 none) 137), (none, .build 13 [(.v (.int .i64 0)), (.v (.map none)), (.v (.map none)), (.v (.slice none 0 0)), (.v (.slice none 0 0)), .ff, .ff] [(0, 1, (.t 10)), (1, 1, (.t 11)), (2, 1, (.t 12))]), (none, .box 14 141 (.t 13)), (none, .mov 2 (.t 14)), (none, .mov 3 (.k (.v (.int .i64 0))))]
noncomputable def T62_6 : ACode := (.seq (.region R62_5) .ret)
noncomputable def T62_7 : ACode := (.seq (.seq (.region R62_1) T62_4) T62_6)
noncomputable def A62 : ACode := (.seq (.region R62_0) T62_7)
theorem A62_ok : comp tbl 15 ((Try.f62.body).getD .skip) = some A62 := by kernel_rfl
/-! f63 casemate/cell.New -/
noncomputable def R63_0 : List GOp := [(none, .box 1 69 (.t 0)), (none, .mov 2 (.k (.v (.pointer none)))), (none, .mov 3 (.k (.v (.int .i64 0))))]
noncomputable def R63_1 : List GOp := [(none, .fld 4 0 (.t 1)), (none, .load 5 1 false (.t 4)), (none, .bin 6 .gtr (.t 5) (.k (.v (.int .u64 4611686018427387904))))]
noncomputable def R63_2 : List GOp := [(none, .mov 2 (.k (.v (.pointer none)))), (none, .mov 3 (.k (.v (.int .i64 2))))]
noncomputable def T63_3 : ACode := (.seq (.region R63_2) .ret)
noncomputable def T63_4 : ACode := (.cond (.t 6) T63_3 .skip)
noncomputable def R63_5 : List GOp := [(none, .load 7 33 true (.t 1)), (none, .bslice 8 69 1 [(.v (.int .u64 0)), (.run .u8 32 (List.replicate 32 0))] [(0, 33, (.t 7))]), (none, .build 9 [(.v (.slice none 0 0))] [(0, 1, (.t 8))]), (none, .box 10 192 (.t 9)), (none, .mov 2 (.t 10)), (none, .mov 3 (.k (.v (.int .i64 0))))]
noncomputable def T63_6 : ACode := (.seq (.region R63_5) .ret)
noncomputable def T63_7 : ACode := (.seq (.seq (.region R63_1) T63_4) T63_6)
noncomputable def A63 : ACode := (.seq (.region R63_0) T63_7)
theorem A63_ok : comp tbl 11 ((Try.f63.body).getD .skip) = some A63 := by kernel_rfl
/-! f65 (*casemate/member.Member).is -/
noncomputable def R65_0 : List GOp := [(none, .mov 2 (.k .ff))]
noncomputable def R65_1 : List GOp := [(none, .mov 3 (.t 0)), (none, .eqv 4 true 0 (.t 3) (.k (.v (.pointer none)))), (none, .mov 5 (.t 4)), (some (5, true), .mov 6 (.t 0)), (some (5, true), .nilc 7 (.t 6)), (some (5, true), .fld 8 0 (.t 7)), (some (5, true), .load 9 1 false (.t 8)), (some (5, true), .bin 10 .gtr (.t 9) (.k (.v (.int .i64 0)))), (none, .pick 11 5 (.t 10) (.k .ff)), (none, .mov 2 (.t 11))]
noncomputable def T65_2 : ACode := (.seq (.region R65_1) .ret)
noncomputable def A65 : ACode := (.seq (.region R65_0) T65_2)
theorem A65_ok : comp tbl 12 ((Try.f65.body).getD .skip) = some A65 := by kernel_rfl
/-! f66 maps.Clone[casemate/member.image,int,casemate/api.Sector] -/
noncomputable def R66_0 : List GOp := [(none, .mov 2 (.k (.v (.map none))))]
noncomputable def R66_1 : List GOp := [(none, .mov 3 (.t 0)), (none, .eqv 4 false 2 (.t 3) (.k (.v (.map none))))]
noncomputable def R66_2 : List GOp := [(none, .mov 2 (.k (.v (.map none))))]
noncomputable def T66_3 : ACode := (.seq (.region R66_2) .ret)
noncomputable def T66_4 : ACode := (.cond (.t 4) T66_3 .skip)
noncomputable def R66_5 : List GOp := [(none, .mov 5 (.t 0)), (none, .other (some 6) (.makeInterface 137 (.tmp 5)) 20), (none, .call 7 (.k (.fn (.func 116) [] [])) [(.t 6)]), (none, .other (some 8) (.typeAssert (.tmp 7) 20 137 false) 137), (none, .mov 2 (.t 8))]
noncomputable def T66_6 : ACode := (.seq (.region R66_5) .ret)
noncomputable def T66_7 : ACode := (.seq (.seq (.region R66_1) T66_4) T66_6)
noncomputable def A66 : ACode := (.seq (.region R66_0) T66_7)
theorem A66_ok : comp tbl 9 ((Try.f66.body).getD .skip) = some A66 := by kernel_rfl
/-! f67 slices.Clone[[]casemate/member.write,casemate/member.write] -/
noncomputable def R67_0 : List GOp := [(none, .mov 2 (.k (.v (.slice none 0 0))))]
noncomputable def R67_1 : List GOp := [(none, .mov 3 (.t 0)), (none, .eqv 4 false 1 (.t 3) (.k (.v (.slice none 0 0))))]
noncomputable def R67_2 : List GOp := [(none, .mov 2 (.k (.v (.slice none 0 0))))]
noncomputable def T67_3 : ACode := (.seq (.region R67_2) .ret)
noncomputable def T67_4 : ACode := (.cond (.t 4) T67_3 .skip)
noncomputable def R67_5 : List GOp := [(none, .bslice 5 145 0 [] []), (none, .mov 6 (.t 0)), (none, .other (some 7) (.call ⟨.builtin .append, #[(.tmp 5), (.tmp 6)], #[138, 138]⟩) 138), (none, .mov 2 (.t 7))]
noncomputable def T67_6 : ACode := (.seq (.region R67_5) .ret)
noncomputable def T67_7 : ACode := (.seq (.seq (.region R67_1) T67_4) T67_6)
noncomputable def A67 : ACode := (.seq (.region R67_0) T67_7)
theorem A67_ok : comp tbl 8 ((Try.f67.body).getD .skip) = some A67 := by kernel_rfl
/-! f68 slices.Clone[[]casemate/member.image,casemate/member.image] -/
noncomputable def R68_0 : List GOp := [(none, .mov 2 (.k (.v (.slice none 0 0))))]
noncomputable def R68_1 : List GOp := [(none, .mov 3 (.t 0)), (none, .eqv 4 false 1 (.t 3) (.k (.v (.slice none 0 0))))]
noncomputable def R68_2 : List GOp := [(none, .mov 2 (.k (.v (.slice none 0 0))))]
noncomputable def T68_3 : ACode := (.seq (.region R68_2) .ret)
noncomputable def T68_4 : ACode := (.cond (.t 4) T68_3 .skip)
noncomputable def R68_5 : List GOp := [(none, .bslice 5 137 0 [] []), (none, .mov 6 (.t 0)), (none, .other (some 7) (.call ⟨.builtin .append, #[(.tmp 5), (.tmp 6)], #[139, 139]⟩) 139), (none, .mov 2 (.t 7))]
noncomputable def T68_6 : ACode := (.seq (.region R68_5) .ret)
noncomputable def T68_7 : ACode := (.seq (.seq (.region R68_1) T68_4) T68_6)
noncomputable def A68 : ACode := (.seq (.region R68_0) T68_7)
theorem A68_ok : comp tbl 8 ((Try.f68.body).getD .skip) = some A68 := by kernel_rfl
/-! f72 (*casemate/member.Member).io -/
noncomputable def R72_0 : List GOp := [(none, .mov 4 (.k (.v (.int .i64 0))))]
noncomputable def R72_1 : List GOp := [(none, .mov 6 (.t 0)), (none, .mov 7 (.t 1)), (none, .call 8 (.k (.fn (.func 78) [] [])) [(.t 6), (.t 7)]), (none, .mov 5 (.t 8))]
noncomputable def R72_2 : List GOp := [(none, .mov 9 (.t 5)), (none, .bin 10 .neq (.t 9) (.k (.v (.int .i64 0)))), (none, .mov 11 (.t 10)), (some (11, false), .mov 12 (.t 0)), (some (11, false), .nilc 13 (.t 12)), (some (11, false), .fld 14 5 (.t 13)), (some (11, false), .load 15 1 false (.t 14)), (some (11, false), .not 16 (.t 15)), (none, .pick 17 11 (.k .tt) (.t 16))]
noncomputable def R72_3 : List GOp := [(none, .mov 18 (.t 5)), (none, .mov 4 (.t 18))]
noncomputable def T72_4 : ACode := (.seq (.region R72_3) .ret)
noncomputable def T72_5 : ACode := (.cond (.t 17) T72_4 .skip)
noncomputable def T72_6 : ACode := (.seq (.region R72_2) T72_5)
noncomputable def R72_7 : List GOp := [(none, .mov 4 (.k (.v (.int .i64 10))))]
noncomputable def T72_8 : ACode := (.seq (.region R72_7) .ret)
noncomputable def T72_9 : ACode := (.seq (.seq (.region R72_1) T72_6) T72_8)
noncomputable def A72 : ACode := (.seq (.region R72_0) T72_9)
theorem A72_ok : comp tbl 19 ((Try.f72.body).getD .skip) = some A72 := by kernel_rfl
/-! f73 (casemate/member.image).put -/
noncomputable def R73_0 : List GOp := [(none, .box 5 25 (.t 2))]
noncomputable def R73_1 : List GOp := [(none, .load 6 64 true (.t 5)), (none, .build 7 [(.run .u8 64 (List.replicate 64 0))] []), (none, .eqr 8 false 64 .u8 (.t 6) (.t 7))]
noncomputable def R73_2 : List GOp := [(none, .mov 9 (.t 0)), (none, .mov 10 (.t 1)), (none, .other none (.call ⟨.builtin .delete, #[(.tmp 9), (.tmp 10)], #[137, 3]⟩) 0)]
noncomputable def T73_3 : ACode := (.seq (.region R73_2) .ret)
noncomputable def T73_4 : ACode := (.cond (.t 8) T73_3 .skip)
noncomputable def R73_5 : List GOp := [(none, .mov 11 (.t 0)), (none, .mov 12 (.t 1)), (none, .load 13 64 true (.t 5)), (none, .other none (.mapUpdate 137 (.tmp 11) (.tmp 12) (.tmp 13)) 0)]
noncomputable def T73_6 : ACode := (.region R73_5)
noncomputable def T73_7 : ACode := (.seq (.seq (.region R73_1) T73_4) T73_6)
noncomputable def A73 : ACode := (.seq (.region R73_0) T73_7)
theorem A73_ok : comp tbl 14 ((Try.f73.body).getD .skip) = some A73 := by kernel_rfl
/-! f75 (*casemate/member.Member).settle -/
noncomputable def R75_0 : List GOp := [(none, .mov 6 (.t 0)), (none, .nilc 7 (.t 6)), (none, .fld 8 3 (.t 7)), (none, .load 9 1 false (.t 8)), (none, .len 10 (.t 9)), (none, .mov 11 (.k (.v (.int .i64 0))))]
noncomputable def R75_1 : List GOp := [(none, .bin 12 .lss (.t 11) (.t 10))]
noncomputable def T75_2 : ACode := (.exit 0)
noncomputable def R75_3 : List GOp := [(none, .mov 13 (.t 11)), (none, .idx 14 65 (.t 9) (.t 11)), (none, .load 15 65 true (.t 14)), (none, .alloc 5 145 [(.v (.int .i64 0)), (.run .u8 64 (List.replicate 64 0))]), (none, .mov 4 (.t 13)), (none, .store 65 (.t 5) (.t 15))]
noncomputable def R75_4 : List GOp := [(none, .mov 16 (.t 1)), (none, .mov 17 (.t 4)), (none, .call 18 (.t 16) [(.t 17)])]
noncomputable def R75_5 : List GOp := [(none, .mov 19 (.t 0)), (none, .nilc 20 (.t 19)), (none, .fld 21 2 (.t 20)), (none, .load 22 1 false (.t 21)), (none, .fld 23 0 (.t 5)), (none, .load 24 1 false (.t 23)), (none, .fld 25 1 (.t 5)), (none, .load 26 64 true (.t 25)), (none, .call 27 (.k (.fn (.func 73) [] [])) [(.t 22), (.t 24), (.t 26)])]
noncomputable def O75_4 : List (Nat × Kd) := [(0, .quiet), (1, .quiet), (2, .quiet), (3, .quiet), (4, .quiet), (5, .quiet), (6, .quiet), (7, .quiet), (8, .loud)]
noncomputable def Q75_4 : List (Nat × Kd × GOp) := [(0, .quiet, (none, .mov 19 (.t 0))), (1, .quiet, (none, .nilc 20 (.t 19))), (2, .quiet, (none, .fld 21 2 (.t 20))), (3, .quiet, (none, .load 22 1 false (.t 21))), (4, .quiet, (none, .fld 23 0 (.t 5))), (5, .quiet, (none, .load 24 1 false (.t 23))), (6, .quiet, (none, .fld 25 1 (.t 5))), (7, .quiet, (none, .load 26 64 true (.t 25))), (8, .loud, (none, .call 27 (.k (.fn (.func 73) [] [])) [(.t 22), (.t 24), (.t 26)]))]
theorem O75_4_ok : chkDraw (regOf Try.f75 4) O75_4 = true := by kernel_rfl
theorem Q75_4_ok : orderL R75_5 O75_4 = some Q75_4 := by kernel_rfl
noncomputable def T75_6 : ACode := (.draw (regOf Try.f75 4) R75_5)
noncomputable def T75_7 : ACode := (.cond (.t 18) T75_6 .skip)
noncomputable def T75_8 : ACode := (.seq (.region R75_4) T75_7)
noncomputable def T75_9 : ACode := (.seq (.region R75_3) T75_8)
noncomputable def R75_10 : List GOp := [(none, .bin 28 .add (.t 11) (.k (.v (.int .i64 1)))), (none, .mov 11 (.t 28))]
noncomputable def T75_11 : ACode := (.region R75_10)
noncomputable def T75_12 : ACode := (.seq (.block 1 T75_9) T75_11)
noncomputable def T75_13 : ACode := (.seq (.cond (.t 12) .skip T75_2) T75_12)
noncomputable def L75_14 : ACode := (.seq (.region R75_1) T75_13)
noncomputable def T75_15 : ACode := (.loop L75_14)
noncomputable def T75_16 : ACode := (.block 0 T75_15)
noncomputable def R75_17 : List GOp := [(none, .mov 29 (.t 0)), (none, .nilc 30 (.t 29)), (none, .fld 31 3 (.t 30)), (none, .store 1 (.t 31) (.k (.v (.slice none 0 0))))]
noncomputable def R75_18 : List GOp := [(none, .mov 32 (.t 0)), (none, .mov 33 (.t 0)), (none, .nilc 34 (.t 33)), (none, .fld 35 2 (.t 34)), (none, .load 36 1 false (.t 35)), (none, .call 37 (.k (.fn (.func 66) [] [])) [(.t 36)]), (none, .nilc 38 (.t 32)), (none, .fld 39 1 (.t 38)), (none, .store 1 (.t 39) (.t 37))]
noncomputable def T75_19 : ACode := (.region R75_18)
noncomputable def T75_20 : ACode := (.seq (.region R75_17) T75_19)
noncomputable def A75 : ACode := (.seq (.seq (.region R75_0) T75_16) T75_20)
theorem A75_ok : comp tbl 40 ((Try.f75.body).getD .skip) = some A75 := by kernel_rfl
/-! f76 (*casemate/member.Member).Flush$1 -/
noncomputable def R76_0 : List GOp := [(none, .mov 2 (.k .ff))]
noncomputable def R76_1 : List GOp := [(none, .mov 2 (.k .tt))]
noncomputable def T76_2 : ACode := (.seq (.region R76_1) .ret)
noncomputable def A76 : ACode := (.seq (.region R76_0) T76_2)
theorem A76_ok : comp tbl 3 ((Try.f76.body).getD .skip) = some A76 := by kernel_rfl
/-! f78 (*casemate/member.Member).may -/
noncomputable def R78_0 : List GOp := [(none, .mov 4 (.k (.v (.int .i64 0))))]
noncomputable def R78_1 : List GOp := [(none, .mov 6 (.t 0)), (none, .call 7 (.k (.fn (.func 65) [] [])) [(.t 6)]), (none, .not 8 (.t 7)), (none, .mov 5 (.t 8))]
noncomputable def R78_2 : List GOp := [(none, .mov 4 (.k (.v (.int .i64 1))))]
noncomputable def T78_3 : ACode := (.seq (.region R78_2) .ret)
noncomputable def R78_4 : List GOp := [(none, .mov 10 (.t 1)), (none, .bin 11 .lss (.t 10) (.k (.v (.int .i64 0)))), (none, .mov 12 (.t 11)), (some (12, false), .mov 13 (.t 1)), (some (12, false), .mov 14 (.t 0)), (some (12, false), .nilc 15 (.t 14)), (some (12, false), .fld 16 0 (.t 15)), (some (12, false), .load 17 1 false (.t 16)), (some (12, false), .bin 18 .geq (.t 13) (.t 17)), (none, .pick 19 12 (.k .tt) (.t 18)), (none, .mov 9 (.t 19))]
noncomputable def R78_5 : List GOp := [(none, .mov 4 (.k (.v (.int .i64 2))))]
noncomputable def T78_6 : ACode := (.seq (.region R78_5) .ret)
noncomputable def T78_7 : ACode := (.cond (.t 9) T78_6 .skip)
noncomputable def T78_8 : ACode := (.seq (.region R78_4) T78_7)
noncomputable def T78_9 : ACode := (.cond (.t 5) T78_3 T78_8)
noncomputable def T78_10 : ACode := (.seq (.region R78_1) T78_9)
noncomputable def R78_11 : List GOp := [(none, .mov 4 (.k (.v (.int .i64 0))))]
noncomputable def T78_12 : ACode := (.seq (.region R78_11) .ret)
noncomputable def T78_13 : ACode := (.seq (.block 0 T78_10) T78_12)
noncomputable def A78 : ACode := (.seq (.region R78_0) T78_13)
theorem A78_ok : comp tbl 20 ((Try.f78.body).getD .skip) = some A78 := by kernel_rfl
/-! f83 (*casemate/cell.Cell).Read -/
noncomputable def R83_0 : List GOp := [(none, .alloc 2 69 [(.v (.int .u64 0)), (.run .u8 32 (List.replicate 32 0))]), (none, .mov 3 (.k (.v (.int .i64 0))))]
noncomputable def R83_1 : List GOp := [(none, .mov 4 (.t 0)), (none, .call 5 (.k (.fn (.func 121) [] [])) [(.t 4)]), (none, .not 6 (.t 5))]
noncomputable def R83_2 : List GOp := [(none, .build 7 [(.v (.int .u64 0)), (.run .u8 32 (List.replicate 32 0))] []), (none, .store 33 (.t 2) (.t 7)), (none, .mov 3 (.k (.v (.int .i64 1))))]
noncomputable def T83_3 : ACode := (.seq (.region R83_2) .ret)
noncomputable def T83_4 : ACode := (.cond (.t 6) T83_3 .skip)
noncomputable def R83_5 : List GOp := [(none, .mov 8 (.t 0)), (none, .nilc 9 (.t 8)), (none, .fld 10 0 (.t 9)), (none, .load 11 1 false (.t 10)), (none, .mov 12 (.t 0)), (none, .nilc 13 (.t 12)), (none, .fld 14 0 (.t 13)), (none, .load 15 1 false (.t 14)), (none, .len 16 (.t 15)), (none, .bin 17 .sub (.t 16) (.k (.v (.int .i64 1)))), (none, .idx 18 33 (.t 11) (.t 17)), (none, .load 19 33 true (.t 18)), (none, .store 33 (.t 2) (.t 19)), (none, .mov 3 (.k (.v (.int .i64 0))))]
noncomputable def O83_3 : List (Nat × Kd) := [(0, .quiet), (1, .quiet), (2, .quiet), (3, .quiet), (4, .quiet), (5, .quiet), (6, .quiet), (7, .quiet), (8, .quiet), (9, .quiet), (10, .quiet), (11, .quiet), (12, .loud), (13, .quiet)]
noncomputable def Q83_3 : List (Nat × Kd × GOp) := [(0, .quiet, (none, .mov 8 (.t 0))), (1, .quiet, (none, .nilc 9 (.t 8))), (2, .quiet, (none, .fld 10 0 (.t 9))), (3, .quiet, (none, .load 11 1 false (.t 10))), (4, .quiet, (none, .mov 12 (.t 0))), (5, .quiet, (none, .nilc 13 (.t 12))), (6, .quiet, (none, .fld 14 0 (.t 13))), (7, .quiet, (none, .load 15 1 false (.t 14))), (8, .quiet, (none, .len 16 (.t 15))), (9, .quiet, (none, .bin 17 .sub (.t 16) (.k (.v (.int .i64 1))))), (10, .quiet, (none, .idx 18 33 (.t 11) (.t 17))), (11, .quiet, (none, .load 19 33 true (.t 18))), (12, .loud, (none, .store 33 (.t 2) (.t 19))), (13, .quiet, (none, .mov 3 (.k (.v (.int .i64 0)))))]
theorem O83_3_ok : chkDraw (regOf Try.f83 3) O83_3 = true := by kernel_rfl
theorem Q83_3_ok : orderL R83_5 O83_3 = some Q83_3 := by kernel_rfl
noncomputable def T83_6 : ACode := (.seq (.draw (regOf Try.f83 3) R83_5) .ret)
noncomputable def T83_7 : ACode := (.seq (.seq (.region R83_1) T83_4) T83_6)
noncomputable def A83 : ACode := (.seq (.region R83_0) T83_7)
theorem A83_ok : comp tbl 20 ((Try.f83.body).getD .skip) = some A83 := by kernel_rfl
/-! f104 slices.DeleteFunc[[]casemate/member.write,casemate/member.write] -/
noncomputable def R104_0 : List GOp := [(none, .mov 4 (.k (.v (.slice none 0 0))))]
noncomputable def R104_1 : List GOp := [(none, .mov 8 (.t 0)), (none, .mov 9 (.t 1)), (none, .call 10 (.k (.fn (.func 141) [] [])) [(.t 8), (.t 9)]), (none, .mov 5 (.t 10))]
noncomputable def R104_2 : List GOp := [(none, .mov 11 (.t 5)), (none, .bin 12 .eql (.t 11) (.k (.v (.int .i64 (-1)))))]
noncomputable def R104_3 : List GOp := [(none, .mov 13 (.t 0)), (none, .mov 4 (.t 13))]
noncomputable def T104_4 : ACode := (.seq (.region R104_3) .ret)
noncomputable def T104_5 : ACode := (.cond (.t 12) T104_4 .skip)
noncomputable def R104_6 : List GOp := [(none, .mov 14 (.t 5)), (none, .bin 15 .add (.t 14) (.k (.v (.int .i64 1)))), (none, .mov 6 (.t 15))]
noncomputable def R104_7 : List GOp := [(none, .mov 16 (.t 6)), (none, .mov 17 (.t 0)), (none, .len 18 (.t 17)), (none, .bin 19 .lss (.t 16) (.t 18))]
noncomputable def T104_8 : ACode := (.exit 0)
noncomputable def T104_9 : ACode := (.cond (.t 19) .skip T104_8)
noncomputable def R104_10 : List GOp := [(none, .mov 22 (.t 0)), (none, .mov 23 (.t 6)), (none, .idx 24 65 (.t 22) (.t 23)), (none, .load 25 65 true (.t 24)), (none, .alloc 7 145 [(.v (.int .i64 0)), (.run .u8 64 (List.replicate 64 0))]), (none, .store 65 (.t 7) (.t 25))]
noncomputable def R104_11 : List GOp := [(none, .mov 26 (.t 1)), (none, .load 27 65 true (.t 7)), (none, .call 28 (.t 26) [(.t 27)]), (none, .not 29 (.t 28))]
noncomputable def R104_12 : List GOp := [(none, .mov 30 (.t 0)), (none, .mov 31 (.t 5)), (none, .load 32 65 true (.t 7)), (none, .idx 33 65 (.t 30) (.t 31)), (none, .store 65 (.t 33) (.t 32))]
noncomputable def R104_13 : List GOp := [(none, .mov 34 (.t 5)), (none, .bin 35 .add (.t 34) (.k (.v (.int .i64 1)))), (none, .mov 5 (.t 35))]
noncomputable def T104_14 : ACode := (.region R104_13)
noncomputable def T104_15 : ACode := (.seq (.region R104_12) T104_14)
noncomputable def T104_16 : ACode := (.cond (.t 29) T104_15 .skip)
noncomputable def T104_17 : ACode := (.seq (.region R104_11) T104_16)
noncomputable def T104_18 : ACode := (.seq (.region R104_10) T104_17)
noncomputable def R104_19 : List GOp := [(none, .mov 20 (.t 6)), (none, .bin 21 .add (.t 20) (.k (.v (.int .i64 1)))), (none, .mov 6 (.t 21))]
noncomputable def T104_20 : ACode := (.region R104_19)
noncomputable def T104_21 : ACode := (.seq (.block 1 T104_18) T104_20)
noncomputable def L104_22 : ACode := (.seq (.seq (.region R104_7) T104_9) T104_21)
noncomputable def T104_23 : ACode := (.loop L104_22)
noncomputable def T104_24 : ACode := (.block 0 T104_23)
noncomputable def R104_25 : List GOp := [(none, .mov 36 (.t 0)), (none, .mov 37 (.t 5)), (none, .slice 38 65 (.t 36) (some (.t 37)) none none), (none, .other none (.call ⟨.builtin .clear, #[(.tmp 38)], #[138]⟩) 0)]
noncomputable def R104_26 : List GOp := [(none, .mov 39 (.t 0)), (none, .mov 40 (.t 5)), (none, .slice 41 65 (.t 39) none (some (.t 40)) none), (none, .mov 4 (.t 41))]
noncomputable def T104_27 : ACode := (.seq (.region R104_26) .ret)
noncomputable def T104_28 : ACode := (.seq (.region R104_25) T104_27)
noncomputable def T104_29 : ACode := (.seq (.seq (.region R104_6) T104_24) T104_28)
noncomputable def T104_30 : ACode := (.seq (.seq (.region R104_2) T104_5) T104_29)
noncomputable def T104_31 : ACode := (.seq (.region R104_1) T104_30)
noncomputable def A104 : ACode := (.seq (.region R104_0) T104_31)
theorem A104_ok : comp tbl 42 ((Try.f104.body).getD .skip) = some A104 := by kernel_rfl
/-! f105 (*casemate/member.Member).Set$1 -/
noncomputable def R105_0 : List GOp := [(none, .box 2 145 (.t 0)), (none, .mov 3 (.k .ff))]
noncomputable def R105_1 : List GOp := [(none, .fld 4 0 (.t 2)), (none, .load 5 1 false (.t 4)), (none, .load 6 1 false (.t 1)), (none, .bin 7 .eql (.t 5) (.t 6)), (none, .mov 3 (.t 7))]
noncomputable def T105_2 : ACode := (.seq (.region R105_1) .ret)
noncomputable def A105 : ACode := (.seq (.region R105_0) T105_2)
theorem A105_ok : comp tbl 8 ((Try.f105.body).getD .skip) = some A105 := by kernel_rfl
/-! f106 (*casemate/member.Member).Crash$1 -/
noncomputable def R106_0 : List GOp := [(none, .mov 3 (.k .ff))]
noncomputable def R106_1 : List GOp := [(none, .mov 4 (.t 0)), (none, .load 5 1 false (.t 1)), (none, .len 6 (.t 5)), (none, .bin 7 .lss (.t 4) (.t 6)), (none, .mov 8 (.t 7)), (some (8, true), .load 9 1 false (.t 1)), (some (8, true), .mov 10 (.t 0)), (some (8, true), .idx 11 1 (.t 9) (.t 10)), (some (8, true), .load 12 1 false (.t 11)), (some (8, true), .bin 13 .neq (.t 12) (.k (.v (.int .u8 0)))), (none, .pick 14 8 (.t 13) (.k .ff)), (none, .mov 3 (.t 14))]
noncomputable def T106_2 : ACode := (.seq (.region R106_1) .ret)
noncomputable def A106 : ACode := (.seq (.region R106_0) T106_2)
theorem A106_ok : comp tbl 15 ((Try.f106.body).getD .skip) = some A106 := by kernel_rfl
/-! f119 (*casemate/cell.Cell).Advance -/
noncomputable def R119_0 : List GOp := [(none, .box 3 48 (.t 1)), (none, .mov 4 (.k (.v (.int .u64 0)))), (none, .mov 5 (.k (.v (.int .i64 0))))]
noncomputable def R119_1 : List GOp := [(none, .mov 10 (.t 0)), (none, .call 11 (.k (.fn (.func 83) [] [])) [(.t 10)]), (none, .mov 9 (.t 11)), (none, .ext 12 0 (.t 9)), (none, .ext 13 1 (.t 9)), (none, .alloc 6 69 [(.v (.int .u64 0)), (.run .u8 32 (List.replicate 32 0))]), (none, .store 33 (.t 6) (.t 12)), (none, .mov 7 (.t 13))]
noncomputable def R119_2 : List GOp := [(none, .mov 14 (.t 7)), (none, .bin 15 .neq (.t 14) (.k (.v (.int .i64 0))))]
noncomputable def R119_3 : List GOp := [(none, .mov 16 (.t 7)), (none, .mov 4 (.k (.v (.int .u64 0)))), (none, .mov 5 (.t 16))]
noncomputable def T119_4 : ACode := (.seq (.region R119_3) .ret)
noncomputable def T119_5 : ACode := (.cond (.t 15) T119_4 .skip)
noncomputable def R119_6 : List GOp := [(none, .fld 17 0 (.t 6)), (none, .load 18 1 false (.t 17)), (none, .bin 19 .eql (.t 18) (.k (.v (.int .u64 4611686018427387904))))]
noncomputable def R119_7 : List GOp := [(none, .mov 4 (.k (.v (.int .u64 0)))), (none, .mov 5 (.k (.v (.int .i64 15))))]
noncomputable def T119_8 : ACode := (.seq (.region R119_7) .ret)
noncomputable def T119_9 : ACode := (.cond (.t 19) T119_8 .skip)
noncomputable def R119_10 : List GOp := [(none, .fld 20 0 (.t 6)), (none, .load 21 1 false (.t 20)), (none, .bin 22 .add (.t 21) (.k (.v (.int .u64 1)))), (none, .load 23 32 true (.t 3)), (none, .build 24 [(.v (.int .u64 0)), (.run .u8 32 (List.replicate 32 0))] [(0, 1, (.t 22)), (1, 32, (.t 23))]), (none, .alloc 8 69 [(.v (.int .u64 0)), (.run .u8 32 (List.replicate 32 0))]), (none, .store 33 (.t 8) (.t 24))]
noncomputable def R119_11 : List GOp := [(none, .mov 25 (.t 0)), (none, .mov 26 (.t 0)), (none, .nilc 27 (.t 26)), (none, .fld 28 0 (.t 27)), (none, .load 29 1 false (.t 28)), (none, .load 30 33 true (.t 8)), (none, .bslice 31 69 1 [(.v (.int .u64 0)), (.run .u8 32 (List.replicate 32 0))] [(0, 33, (.t 30))]), (none, .other (some 32) (.call ⟨.builtin .append, #[(.tmp 29), (.tmp 31)], #[190, 190]⟩) 190), (none, .nilc 33 (.t 25)), (none, .fld 34 0 (.t 33)), (none, .store 1 (.t 34) (.t 32))]
noncomputable def O119_7 : List (Nat × Kd) := [(0, .quiet), (1, .quiet), (2, .quiet), (3, .quiet), (4, .quiet), (5, .quiet), (6, .loud), (7, .loud), (8, .quiet), (9, .quiet), (10, .last)]
noncomputable def Q119_7 : List (Nat × Kd × GOp) := [(0, .quiet, (none, .mov 25 (.t 0))), (1, .quiet, (none, .mov 26 (.t 0))), (2, .quiet, (none, .nilc 27 (.t 26))), (3, .quiet, (none, .fld 28 0 (.t 27))), (4, .quiet, (none, .load 29 1 false (.t 28))), (5, .quiet, (none, .load 30 33 true (.t 8))), (6, .loud, (none, .bslice 31 69 1 [(.v (.int .u64 0)), (.run .u8 32 (List.replicate 32 0))] [(0, 33, (.t 30))])), (7, .loud, (none, .other (some 32) (.call ⟨.builtin .append, #[(.tmp 29), (.tmp 31)], #[190, 190]⟩) 190)), (8, .quiet, (none, .nilc 33 (.t 25))), (9, .quiet, (none, .fld 34 0 (.t 33))), (10, .last, (none, .store 1 (.t 34) (.t 32)))]
theorem O119_7_ok : chkDraw (regOf Try.f119 7) O119_7 = true := by kernel_rfl
theorem Q119_7_ok : orderL R119_11 O119_7 = some Q119_7 := by kernel_rfl
noncomputable def R119_12 : List GOp := [(none, .fld 35 0 (.t 8)), (none, .load 36 1 false (.t 35)), (none, .mov 4 (.t 36)), (none, .mov 5 (.k (.v (.int .i64 0))))]
noncomputable def T119_13 : ACode := (.seq (.region R119_12) .ret)
noncomputable def T119_14 : ACode := (.seq (.draw (regOf Try.f119 7) R119_11) T119_13)
noncomputable def T119_15 : ACode := (.seq (.region R119_10) T119_14)
noncomputable def T119_16 : ACode := (.seq (.seq (.region R119_6) T119_9) T119_15)
noncomputable def T119_17 : ACode := (.seq (.seq (.region R119_2) T119_5) T119_16)
noncomputable def T119_18 : ACode := (.seq (.region R119_1) T119_17)
noncomputable def A119 : ACode := (.seq (.region R119_0) T119_18)
theorem A119_ok : comp tbl 37 ((Try.f119.body).getD .skip) = some A119 := by kernel_rfl
/-! f121 (*casemate/cell.Cell).is -/
noncomputable def R121_0 : List GOp := [(none, .mov 2 (.k .ff))]
noncomputable def R121_1 : List GOp := [(none, .mov 3 (.t 0)), (none, .eqv 4 true 0 (.t 3) (.k (.v (.pointer none)))), (none, .mov 5 (.t 4)), (some (5, true), .mov 6 (.t 0)), (some (5, true), .nilc 7 (.t 6)), (some (5, true), .fld 8 0 (.t 7)), (some (5, true), .load 9 1 false (.t 8)), (some (5, true), .len 10 (.t 9)), (some (5, true), .bin 11 .gtr (.t 10) (.k (.v (.int .i64 0)))), (none, .pick 12 5 (.t 11) (.k .ff)), (none, .mov 2 (.t 12))]
noncomputable def T121_2 : ACode := (.seq (.region R121_1) .ret)
noncomputable def A121 : ACode := (.seq (.region R121_0) T121_2)
theorem A121_ok : comp tbl 13 ((Try.f121.body).getD .skip) = some A121 := by kernel_rfl
/-! f141 slices.IndexFunc[[]casemate/member.write,casemate/member.write] -/
noncomputable def R141_0 : List GOp := [(none, .mov 4 (.k (.v (.int .i64 0))))]
noncomputable def R141_1 : List GOp := [(none, .mov 6 (.t 0)), (none, .len 7 (.t 6)), (none, .mov 8 (.k (.v (.int .i64 0))))]
noncomputable def R141_2 : List GOp := [(none, .bin 9 .lss (.t 8) (.t 7))]
noncomputable def T141_3 : ACode := (.exit 0)
noncomputable def R141_4 : List GOp := [(none, .mov 10 (.t 8)), (none, .mov 5 (.t 10))]
noncomputable def R141_5 : List GOp := [(none, .mov 11 (.t 1)), (none, .mov 12 (.t 0)), (none, .mov 13 (.t 5)), (none, .idx 14 65 (.t 12) (.t 13)), (none, .load 15 65 true (.t 14)), (none, .call 16 (.t 11) [(.t 15)])]
noncomputable def R141_6 : List GOp := [(none, .mov 17 (.t 5)), (none, .mov 4 (.t 17))]
noncomputable def T141_7 : ACode := (.seq (.region R141_6) .ret)
noncomputable def T141_8 : ACode := (.cond (.t 16) T141_7 .skip)
noncomputable def T141_9 : ACode := (.seq (.region R141_5) T141_8)
noncomputable def T141_10 : ACode := (.seq (.region R141_4) T141_9)
noncomputable def R141_11 : List GOp := [(none, .bin 18 .add (.t 8) (.k (.v (.int .i64 1)))), (none, .mov 8 (.t 18))]
noncomputable def T141_12 : ACode := (.region R141_11)
noncomputable def T141_13 : ACode := (.seq (.block 1 T141_10) T141_12)
noncomputable def T141_14 : ACode := (.seq (.cond (.t 9) .skip T141_3) T141_13)
noncomputable def L141_15 : ACode := (.seq (.region R141_2) T141_14)
noncomputable def T141_16 : ACode := (.loop L141_15)
noncomputable def T141_17 : ACode := (.block 0 T141_16)
noncomputable def R141_18 : List GOp := [(none, .mov 4 (.k (.v (.int .i64 (-1)))))]
noncomputable def T141_19 : ACode := (.seq (.region R141_18) .ret)
noncomputable def T141_20 : ACode := (.seq (.seq (.region R141_1) T141_17) T141_19)
noncomputable def A141 : ACode := (.seq (.region R141_0) T141_20)
theorem A141_ok : comp tbl 19 ((Try.f141.body).getD .skip) = some A141 := by kernel_rfl
/-! f148 (*casemate/member.Member).Mark -/
noncomputable def R148_0 : List GOp := [(none, .mov 2 (.k (.v (.int .i64 0)))), (none, .mov 3 (.k (.v (.int .i64 0))))]
noncomputable def R148_1 : List GOp := [(none, .mov 5 (.t 0)), (none, .call 6 (.k (.fn (.func 65) [] [])) [(.t 5)]), (none, .not 7 (.t 6)), (none, .mov 4 (.t 7))]
noncomputable def R148_2 : List GOp := [(none, .mov 2 (.k (.v (.int .i64 0)))), (none, .mov 3 (.k (.v (.int .i64 1))))]
noncomputable def T148_3 : ACode := (.seq (.region R148_2) .ret)
noncomputable def R148_4 : List GOp := [(none, .mov 9 (.t 0)), (none, .nilc 10 (.t 9)), (none, .fld 11 4 (.t 10)), (none, .load 12 1 false (.t 11)), (none, .len 13 (.t 12)), (none, .bin 14 .eql (.t 13) (.k (.v (.int .i64 64)))), (none, .mov 8 (.t 14))]
noncomputable def R148_5 : List GOp := [(none, .mov 2 (.k (.v (.int .i64 0)))), (none, .mov 3 (.k (.v (.int .i64 7))))]
noncomputable def T148_6 : ACode := (.seq (.region R148_5) .ret)
noncomputable def T148_7 : ACode := (.cond (.t 8) T148_6 .skip)
noncomputable def T148_8 : ACode := (.seq (.region R148_4) T148_7)
noncomputable def T148_9 : ACode := (.cond (.t 4) T148_3 T148_8)
noncomputable def T148_10 : ACode := (.seq (.region R148_1) T148_9)
noncomputable def R148_11 : List GOp := [(none, .mov 15 (.t 0)), (none, .mov 16 (.t 0)), (none, .nilc 17 (.t 16)), (none, .fld 18 4 (.t 17)), (none, .load 19 1 false (.t 18)), (none, .mov 20 (.t 0)), (none, .nilc 21 (.t 20)), (none, .fld 22 1 (.t 21)), (none, .load 23 1 false (.t 22)), (none, .call 24 (.k (.fn (.func 66) [] [])) [(.t 23)]), (none, .bslice 25 137 1 [(.v (.map none))] [(0, 1, (.t 24))]), (none, .other (some 26) (.call ⟨.builtin .append, #[(.tmp 19), (.tmp 25)], #[139, 139]⟩) 139), (none, .nilc 27 (.t 15)), (none, .fld 28 4 (.t 27)), (none, .store 1 (.t 28) (.t 26))]
noncomputable def O148_5 : List (Nat × Kd) := [(0, .quiet), (1, .quiet), (2, .quiet), (3, .quiet), (4, .quiet), (5, .quiet), (6, .quiet), (7, .quiet), (8, .quiet), (9, .loud), (10, .loud), (11, .loud), (12, .quiet), (13, .quiet), (14, .last)]
noncomputable def Q148_5 : List (Nat × Kd × GOp) := [(0, .quiet, (none, .mov 15 (.t 0))), (1, .quiet, (none, .mov 16 (.t 0))), (2, .quiet, (none, .nilc 17 (.t 16))), (3, .quiet, (none, .fld 18 4 (.t 17))), (4, .quiet, (none, .load 19 1 false (.t 18))), (5, .quiet, (none, .mov 20 (.t 0))), (6, .quiet, (none, .nilc 21 (.t 20))), (7, .quiet, (none, .fld 22 1 (.t 21))), (8, .quiet, (none, .load 23 1 false (.t 22))), (9, .loud, (none, .call 24 (.k (.fn (.func 66) [] [])) [(.t 23)])), (10, .loud, (none, .bslice 25 137 1 [(.v (.map none))] [(0, 1, (.t 24))])), (11, .loud, (none, .other (some 26) (.call ⟨.builtin .append, #[(.tmp 19), (.tmp 25)], #[139, 139]⟩) 139)), (12, .quiet, (none, .nilc 27 (.t 15))), (13, .quiet, (none, .fld 28 4 (.t 27))), (14, .last, (none, .store 1 (.t 28) (.t 26)))]
theorem O148_5_ok : chkDraw (regOf Try.f148 5) O148_5 = true := by kernel_rfl
theorem Q148_5_ok : orderL R148_11 O148_5 = some Q148_5 := by kernel_rfl
noncomputable def R148_12 : List GOp := [(none, .mov 29 (.t 0)), (none, .nilc 30 (.t 29)), (none, .fld 31 4 (.t 30)), (none, .load 32 1 false (.t 31)), (none, .len 33 (.t 32)), (none, .bin 34 .sub (.t 33) (.k (.v (.int .i64 1)))), (none, .mov 2 (.t 34)), (none, .mov 3 (.k (.v (.int .i64 0))))]
noncomputable def T148_13 : ACode := (.seq (.region R148_12) .ret)
noncomputable def T148_14 : ACode := (.seq (.draw (regOf Try.f148 5) R148_11) T148_13)
noncomputable def T148_15 : ACode := (.seq (.block 0 T148_10) T148_14)
noncomputable def A148 : ACode := (.seq (.region R148_0) T148_15)
theorem A148_ok : comp tbl 35 ((Try.f148.body).getD .skip) = some A148 := by kernel_rfl
/-! f150 (*casemate/member.Member).Back -/
noncomputable def R150_0 : List GOp := [(none, .mov 4 (.k (.v (.int .i64 0))))]
noncomputable def R150_1 : List GOp := [(none, .mov 6 (.t 0)), (none, .call 7 (.k (.fn (.func 65) [] [])) [(.t 6)]), (none, .not 8 (.t 7)), (none, .mov 5 (.t 8))]
noncomputable def R150_2 : List GOp := [(none, .mov 4 (.k (.v (.int .i64 1))))]
noncomputable def T150_3 : ACode := (.seq (.region R150_2) .ret)
noncomputable def R150_4 : List GOp := [(none, .mov 10 (.t 1)), (none, .bin 11 .lss (.t 10) (.k (.v (.int .i64 0)))), (none, .mov 12 (.t 11)), (some (12, false), .mov 13 (.t 1)), (some (12, false), .mov 14 (.t 0)), (some (12, false), .nilc 15 (.t 14)), (some (12, false), .fld 16 4 (.t 15)), (some (12, false), .load 17 1 false (.t 16)), (some (12, false), .len 18 (.t 17)), (some (12, false), .bin 19 .geq (.t 13) (.t 18)), (none, .pick 20 12 (.k .tt) (.t 19)), (none, .mov 9 (.t 20))]
noncomputable def R150_5 : List GOp := [(none, .mov 4 (.k (.v (.int .i64 2))))]
noncomputable def T150_6 : ACode := (.seq (.region R150_5) .ret)
noncomputable def T150_7 : ACode := (.cond (.t 9) T150_6 .skip)
noncomputable def T150_8 : ACode := (.seq (.region R150_4) T150_7)
noncomputable def T150_9 : ACode := (.cond (.t 5) T150_3 T150_8)
noncomputable def T150_10 : ACode := (.seq (.region R150_1) T150_9)
noncomputable def R150_11 : List GOp := [(none, .mov 21 (.t 0)), (none, .mov 22 (.t 0)), (none, .mov 23 (.t 0)), (none, .mov 24 (.t 0)), (none, .nilc 25 (.t 24)), (none, .fld 26 4 (.t 25)), (none, .load 27 1 false (.t 26)), (none, .mov 28 (.t 1)), (none, .idx 29 1 (.t 27) (.t 28)), (none, .load 30 1 false (.t 29)), (none, .call 31 (.k (.fn (.func 66) [] [])) [(.t 30)]), (none, .mov 32 (.t 0)), (none, .nilc 33 (.t 32)), (none, .fld 34 4 (.t 33)), (none, .load 35 1 false (.t 34)), (none, .mov 36 (.t 1)), (none, .idx 37 1 (.t 35) (.t 36)), (none, .load 38 1 false (.t 37)), (none, .call 39 (.k (.fn (.func 66) [] [])) [(.t 38)]), (none, .nilc 40 (.t 21)), (none, .fld 41 1 (.t 40)), (none, .store 1 (.t 41) (.t 31)), (none, .nilc 42 (.t 22)), (none, .fld 43 2 (.t 42)), (none, .store 1 (.t 43) (.t 39)), (none, .nilc 44 (.t 23)), (none, .fld 45 3 (.t 44)), (none, .store 1 (.t 45) (.k (.v (.slice none 0 0))))]
noncomputable def O150_5 : List (Nat × Kd) := [(0, .quiet), (1, .quiet), (2, .quiet), (3, .quiet), (4, .quiet), (5, .quiet), (6, .quiet), (7, .quiet), (8, .quiet), (9, .quiet), (11, .quiet), (12, .quiet), (13, .quiet), (14, .quiet), (15, .quiet), (16, .quiet), (17, .quiet), (10, .loud), (18, .loud), (19, .quiet), (20, .quiet), (21, .loud), (22, .quiet), (23, .quiet), (24, .loud), (25, .quiet), (26, .quiet), (27, .last)]
noncomputable def Q150_5 : List (Nat × Kd × GOp) := [(0, .quiet, (none, .mov 21 (.t 0))), (1, .quiet, (none, .mov 22 (.t 0))), (2, .quiet, (none, .mov 23 (.t 0))), (3, .quiet, (none, .mov 24 (.t 0))), (4, .quiet, (none, .nilc 25 (.t 24))), (5, .quiet, (none, .fld 26 4 (.t 25))), (6, .quiet, (none, .load 27 1 false (.t 26))), (7, .quiet, (none, .mov 28 (.t 1))), (8, .quiet, (none, .idx 29 1 (.t 27) (.t 28))), (9, .quiet, (none, .load 30 1 false (.t 29))), (11, .quiet, (none, .mov 32 (.t 0))), (12, .quiet, (none, .nilc 33 (.t 32))), (13, .quiet, (none, .fld 34 4 (.t 33))), (14, .quiet, (none, .load 35 1 false (.t 34))), (15, .quiet, (none, .mov 36 (.t 1))), (16, .quiet, (none, .idx 37 1 (.t 35) (.t 36))), (17, .quiet, (none, .load 38 1 false (.t 37))), (10, .loud, (none, .call 31 (.k (.fn (.func 66) [] [])) [(.t 30)])), (18, .loud, (none, .call 39 (.k (.fn (.func 66) [] [])) [(.t 38)])), (19, .quiet, (none, .nilc 40 (.t 21))), (20, .quiet, (none, .fld 41 1 (.t 40))), (21, .loud, (none, .store 1 (.t 41) (.t 31))), (22, .quiet, (none, .nilc 42 (.t 22))), (23, .quiet, (none, .fld 43 2 (.t 42))), (24, .loud, (none, .store 1 (.t 43) (.t 39))), (25, .quiet, (none, .nilc 44 (.t 23))), (26, .quiet, (none, .fld 45 3 (.t 44))), (27, .last, (none, .store 1 (.t 45) (.k (.v (.slice none 0 0)))))]
theorem O150_5_ok : chkDraw (regOf Try.f150 5) O150_5 = true := by kernel_rfl
theorem Q150_5_ok : orderL R150_11 O150_5 = some Q150_5 := by kernel_rfl
noncomputable def R150_12 : List GOp := [(none, .mov 46 (.t 0)), (none, .nilc 47 (.t 46)), (none, .fld 48 6 (.t 47)), (none, .store 1 (.t 48) (.k .tt))]
noncomputable def R150_13 : List GOp := [(none, .mov 4 (.k (.v (.int .i64 0))))]
noncomputable def T150_14 : ACode := (.seq (.region R150_13) .ret)
noncomputable def T150_15 : ACode := (.seq (.region R150_12) T150_14)
noncomputable def T150_16 : ACode := (.seq (.draw (regOf Try.f150 5) R150_11) T150_15)
noncomputable def T150_17 : ACode := (.seq (.block 0 T150_10) T150_16)
noncomputable def A150 : ACode := (.seq (.region R150_0) T150_17)
theorem A150_ok : comp tbl 49 ((Try.f150.body).getD .skip) = some A150 := by kernel_rfl
end Go.Proofs.Ytolcobhaghdfcaa
