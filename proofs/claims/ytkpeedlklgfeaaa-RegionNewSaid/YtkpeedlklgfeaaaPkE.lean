/-
  What the proof leans on, part 5: of the texts Code, Tab, BaseC, LargeC, PagesN, Lw18, Lw19, Lw21, RegD, RegionNew.
-/
import Derived.Test.YtkpeedlklgfeaaaPkD
import Derived.Test.YtkpeedlklgfeaaaProg
set_option linter.unusedVariables false
set_option linter.unusedSimpArgs false
set_option linter.unusedSectionVars false
section
namespace Go.Sh
open Go Go.Tum
abbrev t (n:Nat):Operand:=.tmp n
abbrev i (n:Int):Operand:=.const (.int .i64 n)
abbrev m (d s:Nat):Step:=.q 0 (some d) none (.mov (.tmp s)) false
abbrev q (d:Nat) (op:QOp):Step:=.q 0 (some d) none op false
abbrev l (d s:Nat):Step:=.q 0 (some d) none (.ld (.tmp s)) true
abbrev k (j d:Nat) (op:QOp):Step:=.q j (some d) none op false
abbrev r (j d:Nat) (op:QOp):Step:=.q j (some d) none op true
abbrev g (j d c:Nat) (op:QOp):Step:=.q j (some d) (some (c,true)) op false
abbrev h (j d c:Nat) (op:QOp):Step:=.q j (some d) (some (c,true)) op true
abbrev n (j d c:Nat) (op:QOp):Step:=.q j (some d) (some (c,false)) op false
abbrev p (j d c:Nat) (op:QOp):Step:=.q j (some d) (some (c,false)) op true
abbrev e (d:Nat) (op:EOp) (pd:List Nat):Step:=.e (some d) none op pd
abbrev w (op:EOp) (pd:List Nat):Step:=.e none none op pd
abbrev o (x:Op) (ty:TypeId):Oper:=⟨none,x,ty, "",[].toArray,none⟩
abbrev s (a b:MC):MC:=.seq a b
abbrev x (l:List Step) (b:MC):MC:=.seq (.reg l) b
end Go.Sh
/- What this set of functions is,compiled by the text Plan; each checked by the kernel. Printed by a program of this repo (wip/tools/gencode.py). -/
namespace Go.Proofs.Ytkpeedlklgfeaaa
open Go Go.Tum Go.Sh
abbrev EOk (k nt:Nat) (m:MC) (f:Func):Prop:=∀ {args:List Value} {w:World} {R:Value→World→Prop},Nat.ble args.length nt=true→MWp Try.prog m (RQ Try.prog f R) (initEnv 0 args) w→Does Try.prog k args.toArray w R

/-- tumbrellaw09.RegionNew -/
def m_tumbrellaw09_RegionNew:MC:=(x [q 6 (.mov (.const (.bool false)))] (x [m 24 0,m 25 1,q 26 (.bld [.int .i64 0,.int .i64 0,.int .u64 0] [(0,(1,(t 24))),(1,(1,(t 25)))]),e 27 (.call 4 [t 26]) [],m 23 27,q 28 (.ext (t 23) 0),q 29 (.ext (t 23) 1),m 7 28,m 8 29] (x [m 30 0,m 31 1,e 32 (.call 5 [t 30,t 31]) [],m 9 32] (s (x [m 33 8,q 34 (.bin .eql (t 33) (i 0)),m 35 9,r 0 36 (.raw (o (.binOp .neq 4 (t 34) (t 35) 4) 4)),m 37 36,n 0 38 37 (.mov (t 7)),n 0 39 37 (.nilp true (t 38)),n 0 40 37 (.mov (t 9)),p 0 41 37 (.raw (o (.binOp .neq 4 (t 39) (t 40) 4) 4)),q 42 (.pick (t 37) (.const (.bool true)) (t 41)),m 43 42,n 0 44 43 (.mov (t 9)),n 0 45 43 (.un .not (t 44)),n 0 46 43 (.mov (t 45)),g 0 47 46 (.mov (t 8)),g 0 48 46 (.bin .neq (t 47) (i 1)),n 0 49 43 (.pick (t 46) (t 48) (.const (.bool false))),q 50 (.pick (t 43) (.const (.bool true)) (t 49))] (.cond (t 50) (x [q 6 (.mov (.const (.bool false)))] .ret) .skip)) (s (x [m 51 9,m 52 51,g 0 53 52 (.mov (t 7)),.e (some 54) (some (52,true)) (.call 6 [t 53]) [],.e (some 55) (some (52,true)) (.call 7 [t 54]) [],g 0 56 52 (.mov (t 0)),g 0 57 52 (.mov (t 1)),g 0 58 52 (.bin .add (t 56) (t 57)),g 0 59 52 (.bin .mul (i 256) (t 58)),g 0 60 52 (.bin .neq (t 55) (t 59)),g 0 61 52 (.mov (t 60)),n 0 62 61 (.mov (t 7)),.e (some 63) (some (61,false)) (.call 8 [t 62]) [],n 0 64 61 (.fldv (t 63) 0),n 0 65 61 (.mov (t 0)),n 0 66 61 (.bin .neq (t 64) (t 65)),g 0 67 52 (.pick (t 61) (.const (.bool true)) (t 66)),g 0 68 52 (.mov (t 67)),n 0 69 68 (.mov (t 7)),.e (some 70) (some (68,false)) (.call 9 [t 69]) [],.e (some 71) (some (68,false)) (.call 10 [t 70]) [],n 0 72 68 (.mov (t 0)),n 0 73 68 (.mov (t 1)),n 0 74 68 (.bin .add (t 72) (t 73)),n 0 75 68 (.bin .neq (t 71) (t 74)),g 0 76 52 (.pick (t 68) (.const (.bool true)) (t 75)),q 77 (.pick (t 52) (t 76) (.const (.bool false)))] (.cond (t 77) (x [q 6 (.mov (.const (.bool false)))] .ret) .skip)) (x [q 10 (.mov (.const (.pointer none)))] (x [m 79 10,m 80 2,e 81 (.call 11 [t 79,t 80]) [],m 78 81,q 82 (.ext (t 78) 0),q 83 (.ext (t 78) 1),e 11 (.new 37 [.int .i64 0,.int .i64 0,.int .i64 0,.int .i64 0,.int .i64 0,.bool false]) [],w (.stn (t 11) (t 82) 6) [],m 12 83] (x [m 85 10,e 86 (.call 12 [t 85,i 0,i 0]) [],m 84 86,q 87 (.ext (t 84) 0),q 88 (.ext (t 84) 1),m 13 87,m 14 88] (x [m 90 10,m 91 2,e 92 (.call 13 [t 90,t 91]) [],m 89 92,q 93 (.ext (t 89) 0),q 94 (.ext (t 89) 1),m 15 93,m 16 94] (x [m 96 10,m 97 2,e 98 (.call 14 [t 96,t 97]) [],m 95 98,q 99 (.ext (t 95) 0),q 100 (.ext (t 95) 1),m 17 99,m 18 100] (x [m 102 10,m 103 2,e 104 (.call 15 [t 102,t 103]) [],m 101 104,q 105 (.ext (t 101) 0),q 106 (.ext (t 101) 1),m 19 105,m 20 106] (x [m 108 10,e 109 (.call 16 [t 108,i 0,i 0]) [],m 107 109,q 110 (.ext (t 107) 0),q 111 (.ext (t 107) 1),m 21 110,m 22 111] (x [m 112 12,q 113 (.un .not (t 112)),m 114 113,g 0 115 114 (.mov (t 14)),g 0 116 114 (.bin .eql (t 115) (i 2)),q 117 (.pick (t 114) (t 116) (.const (.bool false))),m 118 117,g 0 119 118 (.mov (t 16)),g 0 120 118 (.bin .eql (t 119) (i 2)),q 121 (.pick (t 118) (t 120) (.const (.bool false))),m 122 121,g 0 123 122 (.mov (t 18)),g 0 124 122 (.bin .eql (t 123) (i 2)),q 125 (.pick (t 122) (t 124) (.const (.bool false))),m 126 125,g 0 127 126 (.mov (t 20)),g 0 128 126 (.bin .eql (t 127) (i 2)),q 129 (.pick (t 126) (t 128) (.const (.bool false))),m 130 129,g 0 131 130 (.mov (t 22)),g 0 132 130 (.un .not (t 131)),q 133 (.pick (t 130) (t 132) (.const (.bool false))),m 134 133,g 0 135 134 (.mov (t 10)),g 0 136 134 (.mov (t 2)),.e (some 137) (some (134,true)) (.call 17 [t 135,t 136]) [],g 0 138 134 (.bin .eql (t 137) (i 2)),q 139 (.pick (t 134) (t 138) (.const (.bool false))),m 140 139,g 0 141 140 (.mov (t 10)),g 0 142 140 (.mov (t 2)),.e (some 143) (some (140,true)) (.call 18 [t 141,t 142]) [],g 0 144 140 (.bin .eql (t 143) (i 2)),q 145 (.pick (t 140) (t 144) (.const (.bool false))),m 146 145,g 0 147 146 (.mov (t 10)),.e (some 148) (some (146,true)) (.call 19 [t 147]) [],g 0 149 146 (.len (t 148)),g 0 150 146 (.bin .eql (t 149) (i 0)),q 151 (.pick (t 146) (t 150) (.const (.bool false))),m 152 151,g 0 153 152 (.mov (t 10)),g 0 154 152 (.mov (t 2)),.e (some 155) (some (152,true)) (.call 20 [t 153,t 154]) [],g 0 156 152 (.bin .eql (t 155) (i 0)),q 157 (.pick (t 152) (t 156) (.const (.bool false))),m 158 157,g 0 159 158 (.mov (t 10)),g 0 160 158 (.mov (t 2)),.e (some 161) (some (158,true)) (.call 21 [t 159,t 160,i 0]) [],g 0 162 158 (.bin .eql (t 161) (i 0)),q 163 (.pick (t 158) (t 162) (.const (.bool false))),m 164 163,g 0 165 164 (.mov (t 10)),.e (some 166) (some (164,true)) (.call 6 [t 165]) [],g 0 167 164 (.nilp false (t 166)),q 168 (.pick (t 164) (t 167) (.const (.bool false))),m 169 168,g 0 170 169 (.mov (t 10)),.e (some 171) (some (169,true)) (.call 9 [t 170]) [],g 0 172 169 (.nilp false (t 171)),q 173 (.pick (t 169) (t 172) (.const (.bool false))),m 174 173,g 0 175 174 (.mov (t 10)),.e (some 176) (some (174,true)) (.call 22 [t 175]) [],g 0 177 174 (.bin .eql (t 176) (i 2)),q 178 (.pick (t 174) (t 177) (.const (.bool false))),m 179 178,.e (some 180) (some (179,true)) (.call 23 []) [],q 181 (.pick (t 179) (t 180) (.const (.bool false))),m 6 181] .ret)))))))))))))
theorem e_tumbrellaw09_RegionNew:EOk 3 182 m_tumbrellaw09_RegionNew Try.f3:=fun hn h =>
 enter Try.func3 (c:=(Try.f3.body.getD .skip)) rfl (by kernel_rfl) (Nat.le_of_ble_eq_true hn) h
/-- region.New -/
def m_region_New:MC:=(x [e 1 (.box 28 (t 0)) [],q 2 (.mov (.const (.pointer none))),q 3 (.mov (i 0))] (s (x [q 6 (.fld (t 1) 0),l 7 6,q 8 (.bin .lss (t 7) (i 0)),m 9 8,n 0 10 9 (.fld (t 1) 1),p 0 11 9 (.ld (t 10)),n 0 12 9 (.bin .lss (t 11) (i 0)),q 13 (.pick (t 9) (.const (.bool true)) (t 12)),m 14 13,n 0 15 14 (.fld (t 1) 0),p 0 16 14 (.ld (t 15)),n 0 17 14 (.bin .gtr (t 16) (i 256)),q 18 (.pick (t 14) (.const (.bool true)) (t 17)),m 19 18,n 0 20 19 (.fld (t 1) 1),p 0 21 19 (.ld (t 20)),n 0 22 19 (.fld (t 1) 0),p 0 23 19 (.ld (t 22)),n 0 24 19 (.bin .sub (i 256) (t 23)),n 0 25 19 (.bin .gtr (t 21) (t 24)),q 26 (.pick (t 19) (.const (.bool true)) (t 25)),m 27 26,n 0 28 27 (.fld (t 1) 0),p 0 29 27 (.ld (t 28)),n 0 30 27 (.fld (t 1) 1),p 0 31 27 (.ld (t 30)),n 0 32 27 (.bin .add (t 29) (t 31)),n 0 33 27 (.bin .lss (t 32) (i 1)),q 34 (.pick (t 27) (.const (.bool true)) (t 33))] (.cond (t 34) (x [q 2 (.mov (.const (.pointer none))),q 3 (.mov (i 1))] .ret) .skip)) (x [q 35 (.fld (t 1) 0),l 36 35,q 37 (.fld (t 1) 1),l 38 37,q 39 (.bin .add (t 36) (t 38)),e 40 (.call 24 [t 39]) [],m 4 40] (x [q 41 (.fld (t 1) 2),l 42 41,e 43 (.call 25 [t 42]) [],e 5 (.new 57 [.int .u64 0]) [],w (.stn (t 5) (t 43) 1) []] (s (.regT (.q 0 (some 44) none (.ldn (t 1) 3) true (.q 1 (some 45) none (.mov (t 4)) false (.q 2 (some 46) none (.fld (t 1) 0) false (.q 3 (some 47) none (.ld (t 46)) true (.q 4 (some 48) none (.fld (t 1) 1) false (.q 5 (some 49) none (.ld (t 48)) true (.q 6 (some 50) none (.bin .add (t 47) (t 49)) false (.q 8 (some 52) none (.ldn (t 5) 1) true (.q 10 (some 54) none (.mov (t 4)) false (.q 11 (some 55) none (.ldn (t 5) 1) true (.alt (.e (some 51) none (.call 26 [t 50]) [11,8,5,3,0] (.alt (.e (some 53) none (.raw (o (.makeMap 60 none) 60)) [11,8,5,3,0] (.e (some 56) none (.call 27 [t 54,t 55]) [8,5,3,0] (.q 13 (some 57) none (.bld [.int .i64 0,.int .i64 0,.int .u64 0,.pointer none,.pointer none,.int .u64 0,.map none,.pointer none] [(0,(3,(t 44))),(3,(1,(t 45))),(4,(1,(t 51))),(5,(1,(t 52))),(6,(1,(t 53))),(7,(1,(t 56)))]) false (.e (some 58) none (.box 64 (t 57)) [8,5,3,0] (.q 15 (some 2) none (.mov (t 58)) false (.q 16 (some 3) none (.mov (i 0)) false .done)))))) (.e (some 56) none (.call 27 [t 54,t 55]) [8,5,3,0] (.e (some 53) none (.raw (o (.makeMap 60 none) 60)) [8,5,3,0] (.q 13 (some 57) none (.bld [.int .i64 0,.int .i64 0,.int .u64 0,.pointer none,.pointer none,.int .u64 0,.map none,.pointer none] [(0,(3,(t 44))),(3,(1,(t 45))),(4,(1,(t 51))),(5,(1,(t 52))),(6,(1,(t 53))),(7,(1,(t 56)))]) false (.e (some 58) none (.box 64 (t 57)) [8,5,3,0] (.q 15 (some 2) none (.mov (t 58)) false (.q 16 (some 3) none (.mov (i 0)) false .done)))))))) (.e (some 53) none (.raw (o (.makeMap 60 none) 60)) [11,8,5,3,0] (.e (some 51) none (.call 26 [t 50]) [11,8,5,3,0] (.e (some 56) none (.call 27 [t 54,t 55]) [8,5,3,0] (.q 13 (some 57) none (.bld [.int .i64 0,.int .i64 0,.int .u64 0,.pointer none,.pointer none,.int .u64 0,.map none,.pointer none] [(0,(3,(t 44))),(3,(1,(t 45))),(4,(1,(t 51))),(5,(1,(t 52))),(6,(1,(t 53))),(7,(1,(t 56)))]) false (.e (some 58) none (.box 64 (t 57)) [8,5,3,0] (.q 15 (some 2) none (.mov (t 58)) false (.q 16 (some 3) none (.mov (i 0)) false .done))))))))))))))))))) .ret)))))
theorem e_region_New:EOk 4 59 m_region_New Try.f4:=fun hn h =>
 enter Try.func4 (c:=(Try.f4.body.getD .skip)) rfl (by kernel_rfl) (Nat.le_of_ble_eq_true hn) h
/-- tumbrelref09.May -/
def m_tumbrelref09_May:MC:=(x [q 4 (.mov (.const (.bool false)))] (x [m 5 0,q 6 (.bin .geq (t 5) (i 0)),m 7 6,g 0 8 7 (.mov (t 1)),g 0 9 7 (.bin .geq (t 8) (i 0)),q 10 (.pick (t 7) (t 9) (.const (.bool false))),m 11 10,g 0 12 11 (.mov (t 0)),g 0 13 11 (.bin .leq (t 12) (i 256)),q 14 (.pick (t 11) (t 13) (.const (.bool false))),m 15 14,g 0 16 15 (.mov (t 1)),g 0 17 15 (.bin .leq (t 16) (i 256)),q 18 (.pick (t 15) (t 17) (.const (.bool false))),m 19 18,g 0 20 19 (.mov (t 0)),g 0 21 19 (.mov (t 1)),g 0 22 19 (.bin .add (t 20) (t 21)),g 0 23 19 (.bin .geq (t 22) (i 1)),q 24 (.pick (t 19) (t 23) (.const (.bool false))),m 25 24,g 0 26 25 (.mov (t 0)),g 0 27 25 (.mov (t 1)),g 0 28 25 (.bin .add (t 26) (t 27)),g 0 29 25 (.bin .leq (t 28) (i 256)),q 30 (.pick (t 25) (t 29) (.const (.bool false))),m 4 30] .ret))
theorem e_tumbrelref09_May:EOk 5 31 m_tumbrelref09_May Try.f5:=fun hn h =>
 enter Try.func5 (c:=(Try.f5.body.getD .skip)) rfl (by kernel_rfl) (Nat.le_of_ble_eq_true hn) h
/-- (*region.Region).Arena -/
def m_region_Region_Arena:MC:=(x [q 2 (.mov (.const (.pointer none)))] (s (x [m 3 0,q 4 (.nilp false (t 3))] (.cond (t 4) (x [q 2 (.mov (.const (.pointer none)))] .ret) .skip)) (x [m 5 0,q 6 (.nilc (t 5)),q 7 (.fld (t 6) 3),l 8 7,m 2 8] .ret)))
theorem e_region_Region_Arena:EOk 6 9 m_region_Region_Arena Try.f6:=fun hn h =>
 enter Try.func6 (c:=(Try.f6.body.getD .skip)) rfl (by kernel_rfl) (Nat.le_of_ble_eq_true hn) h
/-- (*arena.Arena).Len -/
def m_arena_Arena_Len:MC:=(x [q 2 (.mov (i 0))] (s (x [m 3 0,q 4 (.nilp false (t 3))] (.cond (t 4) (x [q 2 (.mov (i 0))] .ret) .skip)) (x [m 5 0,q 6 (.nilc (t 5)),q 7 (.fld (t 6) 0),l 8 7,q 9 (.len (t 8)),m 2 9] .ret)))
theorem e_arena_Arena_Len:EOk 7 10 m_arena_Arena_Len Try.f7:=fun hn h =>
 enter Try.func7 (c:=(Try.f7.body.getD .skip)) rfl (by kernel_rfl) (Nat.le_of_ble_eq_true hn) h
/-- (*region.Region).Config -/
def m_region_Region_Config:MC:=(x [e 2 (.new 28 [.int .i64 0,.int .i64 0,.int .u64 0]) []] (s (x [m 3 0,q 4 (.nilp false (t 3))] (.cond (t 4) (x [q 5 (.bld [.int .i64 0,.int .i64 0,.int .u64 0] []),w (.stn (t 2) (t 5) 3) []] .ret) .skip)) (x [m 6 0,q 7 (.nilc (t 6)),q 8 (.fld (t 7) 0),r 0 9 (.ldn (t 8) 3),w (.stn (t 2) (t 9) 3) []] .ret)))
theorem e_region_Region_Config:EOk 8 10 m_region_Region_Config Try.f8:=fun hn h =>
 enter Try.func8 (c:=(Try.f8.body.getD .skip)) rfl (by kernel_rfl) (Nat.le_of_ble_eq_true hn) h
/-- (*region.Region).Pages -/
def m_region_Region_Pages:MC:=(x [q 2 (.mov (.const (.pointer none)))] (s (x [m 3 0,q 4 (.nilp false (t 3))] (.cond (t 4) (x [q 2 (.mov (.const (.pointer none)))] .ret) .skip)) (x [m 5 0,q 6 (.nilc (t 5)),q 7 (.fld (t 6) 4),l 8 7,m 2 8] .ret)))
theorem e_region_Region_Pages:EOk 9 9 m_region_Region_Pages Try.f9:=fun hn h =>
 enter Try.func9 (c:=(Try.f9.body.getD .skip)) rfl (by kernel_rfl) (Nat.le_of_ble_eq_true hn) h
/-- (*pages.Table).Len -/
def m_pages_Table_Len:MC:=(x [q 2 (.mov (i 0))] (s (x [m 3 0,q 4 (.nilp false (t 3))] (.cond (t 4) (x [q 2 (.mov (i 0))] .ret) .skip)) (x [m 5 0,q 6 (.nilc (t 5)),q 7 (.fld (t 6) 0),l 8 7,q 9 (.len (t 8)),m 2 9] .ret)))
theorem e_pages_Table_Len:EOk 10 10 m_pages_Table_Len Try.f10:=fun hn h =>
 enter Try.func10 (c:=(Try.f10.body.getD .skip)) rfl (by kernel_rfl) (Nat.le_of_ble_eq_true hn) h
/-- (*region.Region).Find -/
def m_region_Region_Find:MC:=(x [e 4 (.new 37 [.int .i64 0,.int .i64 0,.int .i64 0,.int .i64 0,.int .i64 0,.bool false]) [],q 5 (.mov (.const (.bool false)))] (s (x [m 13 0,q 14 (.nilp false (t 13)),m 15 14,n 0 16 15 (.mov (t 1)),n 0 17 15 (.bin .lss (t 16) (i 0)),q 18 (.pick (t 15) (.const (.bool true)) (t 17)),m 19 18,n 0 20 19 (.mov (t 1)),n 0 21 19 (.mov (t 0)),n 0 22 19 (.nilc (t 21)),n 0 23 19 (.fld (t 22) 3),p 0 24 19 (.ld (t 23)),.e (some 25) (some (19,false)) (.call 7 [t 24]) [],n 0 26 19 (.bin .geq (t 20) (t 25)),q 27 (.pick (t 19) (.const (.bool true)) (t 26))] (.cond (t 27) (x [q 28 (.bld [.int .i64 0,.int .i64 0,.int .i64 0,.int .i64 0,.int .i64 0,.bool false] []),w (.stn (t 4) (t 28) 6) [],q 5 (.mov (.const (.bool false)))] .ret) .skip)) (x [m 29 1,q 30 (.bin .quo (t 29) (i 256)),m 6 30] (s (x [m 31 0,m 32 6,e 33 (.call 28 [t 31,t 32]) [],m 7 33] (x [m 34 7,q 35 (.nilp true (t 34))] (.cond (t 35) (x [m 37 1,m 38 7,e 39 (.call 30 [t 38]) [],e 40 (.call 29 [t 37,t 39]) [],m 36 40,q 41 (.ext (t 36) 0),q 42 (.ext (t 36) 1),m 8 41,m 9 42] (x [m 43 0,m 44 7,m 45 9,e 46 (.call 31 [t 43,t 44,t 45]) [],w (.stn (t 4) (t 46) 6) [],q 5 (.mov (.const (.bool true)))] .ret)) .skip))) (x [m 48 0,q 49 (.nilc (t 48)),q 50 (.fld (t 49) 4),l 51 50,m 52 6,e 53 (.call 32 [t 51,t 52]) [],m 47 53,q 54 (.ext (t 47) 0),q 55 (.ext (t 47) 1),m 10 54,m 11 55] (s (x [m 56 0,q 57 (.nilc (t 56)),q 58 (.fld (t 57) 7),l 59 58,m 60 10,e 61 (.call 33 [t 59,t 60]) [],m 12 61] (x [m 62 11,m 63 62,g 0 64 63 (.mov (t 12)),g 0 65 63 (.bin .gtr (t 64) (i 0)),q 66 (.pick (t 63) (t 65) (.const (.bool false)))] (.cond (t 66) (x [m 67 10,m 68 10,q 69 (.bin .mul (i 256) (t 68)),m 70 12,q 71 (.bld [.int .i64 0,.int .i64 0,.int .i64 0,.int .i64 0,.int .i64 0,.bool false] [(0,(1,(t 67))),(1,(1,(i 0))),(2,(1,(t 69))),(3,(1,(t 70))),(4,(1,(i 1))),(5,(1,(.const (.bool true))))]),w (.stn (t 4) (t 71) 6) [],q 5 (.mov (.const (.bool true)))] .ret) .skip))) (x [q 72 (.bld [.int .i64 0,.int .i64 0,.int .i64 0,.int .i64 0,.int .i64 0,.bool false] []),w (.stn (t 4) (t 72) 6) [],q 5 (.mov (.const (.bool false)))] .ret)))))))
theorem e_region_Region_Find:EOk 11 73 m_region_Region_Find Try.f11:=fun hn h =>
 enter Try.func11 (c:=(Try.f11.body.getD .skip)) rfl (by kernel_rfl) (Nat.le_of_ble_eq_true hn) h
/-- (*region.Region).Open -/
def m_region_Region_Open:MC:=(x [q 6 (.mov (i 0)),q 7 (.mov (i 0))] (s (.block 0 (x [m 12 0,q 13 (.nilp false (t 12)),m 11 13] (.cond (t 11) (x [q 6 (.mov (i 0)),q 7 (.mov (i 2))] .ret) (x [m 15 1,e 16 (.call 34 [t 15]) [],q 17 (.bin .eql (t 16) (i 0)),m 18 17,n 0 19 18 (.mov (t 2)),n 0 20 18 (.bin .lss (t 19) (i 0)),q 21 (.pick (t 18) (.const (.bool true)) (t 20)),m 22 21,n 0 23 22 (.mov (t 2)),n 0 24 22 (.bin .geq (t 23) (i 64)),q 25 (.pick (t 22) (.const (.bool true)) (t 24)),m 14 25] (.cond (t 14) (x [q 6 (.mov (i 0)),q 7 (.mov (i 1))] .ret) .skip))))) (x [m 27 0,k 1 28 (.nilc (t 27)),k 2 29 (.fld (t 28) 4),r 3 30 (.ld (t 29)),k 4 31 (.mov (t 0)),k 5 32 (.nilc (t 31)),k 6 33 (.fld (t 32) 0),k 7 34 (.fld (t 33) 0),r 8 35 (.ld (t 34)),k 9 36 (.mov (t 1)),k 10 37 (.mov (t 2)),k 11 38 (.bld [.int .i64 0,.int .i64 0,.int .i64 0,.int .i64 0] [(0,(1,(i 1))),(1,(1,(t 36))),(2,(1,(t 37))),(3,(1,(i 1)))]),e 39 (.call 35 [t 30,i 0,t 35,t 38]) [],k 13 26 (.mov (t 39)),k 14 40 (.ext (t 26) 0),k 15 41 (.ext (t 26) 1),k 16 8 (.mov (t 40)),k 17 9 (.mov (t 41))] (s (x [m 42 9,q 43 (.bin .neq (t 42) (i 0))] (.cond (t 43) (x [m 44 9,q 6 (.mov (i 0)),m 7 44] .ret) .skip)) (x [m 46 0,k 1 47 (.nilc (t 46)),k 2 48 (.fld (t 47) 3),r 3 49 (.ld (t 48)),k 4 50 (.mov (t 0)),k 5 51 (.nilc (t 50)),k 6 52 (.fld (t 51) 5),r 7 53 (.ldn (t 52) 1),k 8 54 (.mov (t 8)),k 9 55 (.mov (t 1)),k 10 56 (.mov (t 2)),e 57 (.call 36 [t 49,t 53,t 54,t 55,t 56]) [],k 12 45 (.mov (t 57)),k 13 58 (.ext (t 45) 0),k 14 59 (.ext (t 45) 1),k 15 10 (.mov (t 58)),k 16 9 (.mov (t 59))] (s (x [m 60 9,q 61 (.bin .neq (t 60) (i 0))] (.cond (t 61) (x [m 62 9,q 6 (.mov (i 0)),m 7 62] .ret) .skip)) (x [m 63 0,q 64 (.nilc (t 63)),q 65 (.fld (t 64) 6),l 66 65,m 67 8,m 68 10,w (.raw (o (.mapUpdate 60 (t 66) (t 67) (t 68)) 0)) []] (x [m 69 8,m 6 69,q 7 (.mov (i 0))] .ret))))))))
theorem e_region_Region_Open:EOk 12 70 m_region_Region_Open Try.f12:=fun hn h =>
 enter Try.func12 (c:=(Try.f12.body.getD .skip)) rfl (by kernel_rfl) (Nat.le_of_ble_eq_true hn) h
/-- (*region.Region).Take -/
def m_region_Region_Take:MC:=(x [q 4 (.mov (i 0)),q 5 (.mov (i 0))] (s (x [m 9 0,q 10 (.nilp false (t 9))] (.cond (t 10) (x [q 4 (.mov (i 0)),q 5 (.mov (i 2))] .ret) .skip)) (x [m 11 0,m 12 1,e 13 (.call 28 [t 11,t 12]) [],m 6 13] (s (x [m 14 6,q 15 (.nilp false (t 14))] (.cond (t 15) (x [q 4 (.mov (i 0)),q 5 (.mov (i 6))] .ret) .skip)) (x [m 17 6,e 18 (.call 37 [t 17]) [],m 16 18,q 19 (.ext (t 16) 0),q 20 (.ext (t 16) 1),m 7 19,m 8 20] (s (x [m 21 8,q 22 (.bin .neq (t 21) (i 0))] (.cond (t 22) (x [m 23 8,q 4 (.mov (i 0)),m 5 23] .ret) .skip)) (x [m 24 1,m 25 6,e 26 (.call 30 [t 25]) [],m 27 7,e 28 (.call 38 [t 24,t 26,t 27]) [],m 4 28,q 5 (.mov (i 0))] .ret)))))))
theorem e_region_Region_Take:EOk 13 29 m_region_Region_Take Try.f13:=fun hn h =>
 enter Try.func13 (c:=(Try.f13.body.getD .skip)) rfl (by kernel_rfl) (Nat.le_of_ble_eq_true hn) h
/-- (*region.Region).Drop -/
def m_region_Region_Drop:MC:=(x [q 4 (.mov (.const (.bool false))),q 5 (.mov (i 0))] (x [m 10 0,m 11 1,e 12 (.call 39 [t 10,t 11]) [],m 9 12,q 13 (.ext (t 9) 0),q 14 (.ext (t 9) 1),e 6 (.new 37 [.int .i64 0,.int .i64 0,.int .i64 0,.int .i64 0,.int .i64 0,.bool false]) [],w (.stn (t 6) (t 13) 6) [],m 7 14] (s (x [m 15 7,q 16 (.bin .neq (t 15) (i 0))] (.cond (t 16) (x [m 17 7,q 4 (.mov (.const (.bool false))),m 5 17] .ret) .skip)) (s (x [q 18 (.fld (t 6) 5),l 19 18,q 20 (.un .not (t 19))] (.cond (t 20) (x [m 21 0,k 1 22 (.fld (t 6) 0),r 2 23 (.ld (t 22)),k 4 25 (.fld (t 6) 1),r 5 26 (.ld (t 25)),e 24 (.call 28 [t 21,t 23]) [5],e 27 (.call 40 [t 24,t 26]) [],k 7 28 (.ext (t 27) 0),k 8 29 (.ext (t 27) 1),k 9 4 (.mov (t 28)),k 10 5 (.mov (t 29))] .ret) .skip)) (x [m 31 0,k 1 32 (.nilc (t 31)),k 2 33 (.fld (t 32) 7),r 3 34 (.ld (t 33)),k 4 35 (.fld (t 6) 0),r 5 36 (.ld (t 35)),e 37 (.call 41 [t 34,t 36]) [],k 7 30 (.mov (t 37)),k 8 38 (.ext (t 30) 0),k 9 39 (.ext (t 30) 1),k 10 8 (.mov (t 38)),k 11 7 (.mov (t 39))] (s (x [m 40 7,q 41 (.bin .eql (t 40) (i 0))] (.cond (t 41) (.reg [m 42 0,k 1 43 (.nilc (t 42)),k 2 44 (.fld (t 43) 4),r 3 45 (.ld (t 44)),k 4 46 (.fld (t 6) 0),r 5 47 (.ld (t 46)),e 48 (.call 42 [t 45,t 47]) [],k 7 7 (.mov (t 48))]) .skip)) (x [m 49 8,m 50 7,m 4 49,m 5 50] .ret)))))))
theorem e_region_Region_Drop:EOk 14 51 m_region_Region_Drop Try.f14:=fun hn h =>
 enter Try.func14 (c:=(Try.f14.body.getD .skip)) rfl (by kernel_rfl) (Nat.le_of_ble_eq_true hn) h
/-- (*region.Region).Great -/
def m_region_Region_Great:MC:=(x [q 4 (.mov (i 0)),q 5 (.mov (i 0))] (s (x [m 10 0,q 11 (.nilp false (t 10))] (.cond (t 11) (x [q 4 (.mov (i 0)),q 5 (.mov (i 2))] .ret) .skip)) (x [m 13 1,e 14 (.call 43 [t 13]) [],m 12 14,q 15 (.ext (t 12) 0),q 16 (.ext (t 12) 1),m 6 15,m 7 16] (s (x [m 17 7,q 18 (.un .not (t 17))] (.cond (t 18) (x [q 4 (.mov (i 0)),q 5 (.mov (i 1))] .ret) .skip)) (x [m 20 0,k 1 21 (.nilc (t 20)),k 2 22 (.fld (t 21) 4),r 3 23 (.ld (t 22)),k 4 24 (.mov (t 0)),k 5 25 (.nilc (t 24)),k 6 26 (.fld (t 25) 0),k 7 27 (.fld (t 26) 0),r 8 28 (.ld (t 27)),k 9 29 (.mov (t 6)),k 10 30 (.bld [.int .i64 0,.int .i64 0,.int .i64 0,.int .i64 0] [(0,(1,(i 2))),(3,(1,(t 29)))]),e 31 (.call 35 [t 23,i 0,t 28,t 30]) [],k 12 19 (.mov (t 31)),k 13 32 (.ext (t 19) 0),k 14 33 (.ext (t 19) 1),k 15 8 (.mov (t 32)),k 16 9 (.mov (t 33))] (s (x [m 34 9,q 35 (.bin .neq (t 34) (i 0))] (.cond (t 35) (x [m 36 9,q 4 (.mov (i 0)),m 5 36] .ret) .skip)) (x [m 37 8,q 38 (.bin .mul (i 256) (t 37)),m 39 0,q 40 (.nilc (t 39)),q 41 (.fld (t 40) 7),l 42 41,m 43 8,m 44 1,e 45 (.call 44 [t 42,t 43,t 44]) [],m 4 38,m 5 45] .ret)))))))
theorem e_region_Region_Great:EOk 15 46 m_region_Region_Great Try.f15:=fun hn h =>
 enter Try.func15 (c:=(Try.f15.body.getD .skip)) rfl (by kernel_rfl) (Nat.le_of_ble_eq_true hn) h
/-- (*region.Region).Home -/
def m_region_Region_Home:MC:=(x [q 6 (.mov (i 0)),q 7 (.mov (.const (.bool false)))] (s (x [m 10 0,e 11 (.call 9 [t 10]) [],e 12 (.call 10 [t 11]) [],q 13 (.mov (i 0))] (.block 0 (.loop (x [q 14 (.bin .lss (t 13) (t 12))] (s (.cond (t 14) .skip (.exit 0)) (s (.block 1 (x [m 15 13,m 8 15] (x [m 16 0,m 17 8,e 18 (.call 28 [t 16,t 17]) [],m 9 18] (x [m 19 9,q 20 (.nilp true (t 19)),m 21 20,g 0 22 21 (.mov (t 9)),.e (some 23) (some (21,true)) (.call 30 [t 22]) [],g 0 24 21 (.mov (t 1)),g 0 25 21 (.bin .eql (t 23) (t 24)),q 26 (.pick (t 21) (t 25) (.const (.bool false))),m 27 26,g 0 28 27 (.mov (t 9)),.e (some 29) (some (27,true)) (.call 45 [t 28]) [],g 0 30 27 (.mov (t 2)),g 0 31 27 (.bin .eql (t 29) (t 30)),q 32 (.pick (t 27) (t 31) (.const (.bool false))),m 33 32,g 0 34 33 (.mov (t 9)),.e (some 35) (some (33,true)) (.call 46 [t 34,i 0]) [],g 0 36 33 (.bin .gtr (t 35) (i 0)),q 37 (.pick (t 33) (t 36) (.const (.bool false)))] (.cond (t 37) (x [m 38 8,m 6 38,q 7 (.mov (.const (.bool true)))] .ret) .skip))))) (.reg [q 39 (.bin .add (t 13) (i 1)),m 13 39]))))))) (x [q 6 (.mov (i 0)),q 7 (.mov (.const (.bool false)))] .ret)))
theorem e_region_Region_Home:EOk 16 40 m_region_Region_Home Try.f16:=fun hn h =>
 enter Try.func16 (c:=(Try.f16.body.getD .skip)) rfl (by kernel_rfl) (Nat.le_of_ble_eq_true hn) h
/-- (*region.Region).Give -/
def m_region_Region_Give:MC:=(x [q 4 (.mov (i 0))] (x [m 8 0,m 9 1,e 10 (.call 39 [t 8,t 9]) [],m 7 10,q 11 (.ext (t 7) 0),q 12 (.ext (t 7) 1),e 5 (.new 37 [.int .i64 0,.int .i64 0,.int .i64 0,.int .i64 0,.int .i64 0,.bool false]) [],w (.stn (t 5) (t 11) 6) [],m 6 12] (s (.block 0 (x [m 14 6,q 15 (.bin .neq (t 14) (i 0)),m 13 15] (.cond (t 13) (x [m 16 6,m 4 16] .ret) (x [q 18 (.fld (t 5) 5),l 19 18,m 17 19] (.cond (t 17) (x [q 4 (.mov (i 6))] .ret) .skip))))) (x [m 20 0,k 1 21 (.fld (t 5) 0),r 2 22 (.ld (t 21)),k 4 24 (.fld (t 5) 1),r 5 25 (.ld (t 24)),e 23 (.call 28 [t 20,t 22]) [5],e 26 (.call 47 [t 23,t 25]) [],k 7 4 (.mov (t 26))] .ret))))
theorem e_region_Region_Give:EOk 17 27 m_region_Region_Give Try.f17:=fun hn h =>
 enter Try.func17 (c:=(Try.f17.body.getD .skip)) rfl (by kernel_rfl) (Nat.le_of_ble_eq_true hn) h
/-- (*region.Region).Shut -/
def m_region_Region_Shut:MC:=(x [q 4 (.mov (i 0))] (s (x [m 6 0,q 7 (.nilp false (t 6))] (.cond (t 7) (x [q 4 (.mov (i 2))] .ret) .skip)) (x [m 8 0,m 9 1,e 10 (.call 28 [t 8,t 9]) [],m 5 10] (s (.block 0 (x [m 12 5,q 13 (.nilp false (t 12)),m 11 13] (.cond (t 11) (x [q 4 (.mov (i 6))] .ret) (x [m 15 5,e 16 (.call 46 [t 15,i 1]) [],m 17 5,e 18 (.call 46 [t 17,i 2]) [],q 19 (.bin .add (t 16) (t 18)),q 20 (.bin .gtr (t 19) (i 0)),m 14 20] (.cond (t 14) (x [q 4 (.mov (i 8))] .ret) .skip))))) (x [m 21 0,q 22 (.nilc (t 21)),q 23 (.fld (t 22) 6),l 24 23,m 25 1,w (.raw (o (.call ⟨(.builtin .delete),[t 24,t 25].toArray,[60,3].toArray⟩) 0)) []] (x [m 26 0,q 27 (.nilc (t 26)),q 28 (.fld (t 27) 4),l 29 28,m 30 1,e 31 (.call 42 [t 29,t 30]) [],m 4 31] .ret))))))
theorem e_region_Region_Shut:EOk 18 32 m_region_Region_Shut Try.f18:=fun hn h =>
 enter Try.func18 (c:=(Try.f18.body.getD .skip)) rfl (by kernel_rfl) (Nat.le_of_ble_eq_true hn) h
/-- (*region.Region).Live -/
def m_region_Region_Live:MC:=(x [q 2 (.mov (.const (.slice none 0 0)))] (x [q 3 (.mov (.const (.slice none 0 0)))] (s (x [m 9 0,e 10 (.call 9 [t 9]) [],e 11 (.call 10 [t 10]) [],q 12 (.mov (i 0))] (.block 0 (.loop (x [q 13 (.bin .lss (t 12) (t 11))] (s (.cond (t 13) .skip (.exit 0)) (s (.block 1 (x [m 14 12,m 4 14] (s (x [m 15 0,m 16 4,e 17 (.call 28 [t 15,t 16]) [],m 5 17] (x [m 18 5,q 19 (.nilp true (t 18))] (.cond (t 19) (x [m 20 5,e 21 (.call 30 [t 20]) [],e 22 (.call 48 [t 21]) [],q 23 (.mov (i 0))] (.block 2 (.loop (x [q 24 (.bin .lss (t 23) (t 22))] (s (.cond (t 24) .skip (.exit 2)) (s (.block 3 (x [m 25 23,m 6 25] (x [m 26 5,m 27 6,e 28 (.call 49 [t 26,t 27]) [],q 29 (.bin .eql (t 28) (i 1))] (.cond (t 29) (.reg [m 30 3,m 31 0,m 32 5,m 33 6,e 34 (.call 31 [t 31,t 32,t 33]) [],e 35 (.bs1 37 6 (t 34)) [],e 36 (.raw (o (.call ⟨(.builtin .append),[t 30,t 35].toArray,[48,48].toArray⟩) 48)) [],m 3 36]) .skip)))) (.reg [q 37 (.bin .add (t 23) (i 1)),m 23 37]))))))) .skip))) (x [m 39 0,m 40 4,q 41 (.bin .mul (i 256) (t 40)),e 42 (.call 11 [t 39,t 41]) [],m 38 42,q 43 (.ext (t 38) 0),q 44 (.ext (t 38) 1),e 7 (.new 37 [.int .i64 0,.int .i64 0,.int .i64 0,.int .i64 0,.int .i64 0,.bool false]) [],w (.stn (t 7) (t 43) 6) [],m 8 44] (x [m 45 8,m 46 45,g 0 47 46 (.fld (t 7) 5),h 0 48 46 (.ld (t 47)),q 49 (.pick (t 46) (t 48) (.const (.bool false))),m 50 49,g 0 51 50 (.fld (t 7) 0),h 0 52 50 (.ld (t 51)),g 0 53 50 (.mov (t 4)),g 0 54 50 (.bin .eql (t 52) (t 53)),q 55 (.pick (t 50) (t 54) (.const (.bool false)))] (.cond (t 55) (.reg [m 56 3,r 0 57 (.ldn (t 7) 6),e 58 (.bs1 37 6 (t 57)) [],e 59 (.raw (o (.call ⟨(.builtin .append),[t 56,t 58].toArray,[48,48].toArray⟩) 48)) [],m 3 59]) .skip)))))) (.reg [q 60 (.bin .add (t 12) (i 1)),m 12 60]))))))) (x [m 61 3,m 2 61] .ret))))
theorem e_region_Region_Live:EOk 19 62 m_region_Region_Live Try.f19:=fun hn h =>
 enter Try.func19 (c:=(Try.f19.body.getD .skip)) rfl (by kernel_rfl) (Nat.le_of_ble_eq_true hn) h
/-- (*region.Region).Owner -/
def m_region_Region_Owner:MC:=(x [q 4 (.mov (i 0))] (s (x [m 5 0,q 6 (.nilp false (t 5))] (.cond (t 6) (x [q 4 (.mov (i 0))] .ret) .skip)) (s (x [m 7 1,q 8 (.bin .lss (t 7) (i 0)),m 9 8,n 0 10 9 (.mov (t 0)),n 0 11 9 (.mov (t 1)),n 0 12 9 (.bin .quo (t 11) (i 256)),.e (some 13) (some (9,false)) (.call 28 [t 10,t 12]) [],n 0 14 9 (.nilp false (t 13)),q 15 (.pick (t 9) (.const (.bool true)) (t 14))] (.cond (t 15) (x [q 4 (.mov (i (-1)))] .ret) .skip)) (x [m 16 0,m 17 1,q 18 (.bin .quo (t 17) (i 256)),e 19 (.call 28 [t 16,t 18]) [],e 20 (.call 45 [t 19]) [],m 4 20] .ret))))
theorem e_region_Region_Owner:EOk 20 21 m_region_Region_Owner Try.f20:=fun hn h =>
 enter Try.func20 (c:=(Try.f20.body.getD .skip)) rfl (by kernel_rfl) (Nat.le_of_ble_eq_true hn) h
/-- (*region.Region).Count -/
def m_region_Region_Count:MC:=(x [q 6 (.mov (i 0))] (x [m 7 0,m 8 1,e 9 (.call 28 [t 7,t 8]) [],m 10 2,e 11 (.call 46 [t 9,t 10]) [],m 6 11] .ret))
theorem e_region_Region_Count:EOk 21 12 m_region_Region_Count Try.f21:=fun hn h =>
 enter Try.func21 (c:=(Try.f21.body.getD .skip)) rfl (by kernel_rfl) (Nat.le_of_ble_eq_true hn) h
/-- (*region.Region).Check -/
def m_region_Region_Check:MC:=(x [q 2 (.mov (i 0))] (s (x [m 5 0,q 6 (.nilp false (t 5))] (.cond (t 6) (x [q 2 (.mov (i 2))] .ret) .skip)) (s (x [m 7 0,q 8 (.nilc (t 7)),q 9 (.fld (t 8) 4),l 10 9,e 11 (.call 10 [t 10]) [],q 12 (.mov (i 0))] (.block 0 (.loop (x [q 13 (.bin .lss (t 12) (t 11))] (s (.cond (t 13) .skip (.exit 0)) (s (.block 1 (x [m 14 12,m 3 14] (x [m 15 0,m 16 3,e 17 (.call 28 [t 15,t 16]) [],m 4 17] (x [m 18 4,q 19 (.nilp true (t 18)),m 20 19,g 0 21 20 (.mov (t 4)),.e (some 22) (some (20,true)) (.call 50 [t 21]) [],g 0 23 20 (.bin .neq (t 22) (i 0)),q 24 (.pick (t 20) (t 23) (.const (.bool false)))] (.cond (t 24) (x [q 2 (.mov (i 4))] .ret) .skip))))) (.reg [q 25 (.bin .add (t 12) (i 1)),m 12 25]))))))) (x [m 26 0,q 27 (.nilc (t 26)),q 28 (.fld (t 27) 7),l 29 28,e 30 (.call 51 [t 29]) [],m 2 30] .ret))))
theorem e_region_Region_Check:EOk 22 31 m_region_Region_Check Try.f22:=fun hn h =>
 enter Try.func22 (c:=(Try.f22.body.getD .skip)) rfl (by kernel_rfl) (Nat.le_of_ble_eq_true hn) h
/-- tumbrellaw09.awake -/
def m_tumbrellaw09_awake:MC:=(x [q 0 (.mov (.const (.bool false)))] (x [q 12 (.bld [.int .i64 0,.int .i64 0,.int .u64 0] [(0,(1,(i 2)))]),e 13 (.call 4 [t 12]) [],m 11 13,q 14 (.ext (t 11) 0),q 15 (.ext (t 11) 1),m 1 14,m 2 15] (x [m 17 1,e 18 (.call 12 [t 17,i 1,i 3]) [],m 16 18,q 19 (.ext (t 16) 0),q 20 (.ext (t 16) 1),m 3 19,m 4 20] (x [m 22 1,m 23 3,e 24 (.call 13 [t 22,t 23]) [],m 21 24,q 25 (.ext (t 21) 0),q 26 (.ext (t 21) 1),m 5 25,m 6 26] (x [m 28 1,m 29 3,e 30 (.call 13 [t 28,t 29]) [],m 27 30,q 31 (.ext (t 27) 0),q 32 (.ext (t 27) 1),m 7 31,m 8 32] (x [m 34 1,e 35 (.call 11 [t 34,i 40]) [],m 33 35,q 36 (.ext (t 33) 0),q 37 (.ext (t 33) 1),e 9 (.new 37 [.int .i64 0,.int .i64 0,.int .i64 0,.int .i64 0,.int .i64 0,.bool false]) [],w (.stn (t 9) (t 36) 6) [],m 10 37] (x [m 38 2,q 39 (.bin .eql (t 38) (i 0)),m 40 39,g 0 41 40 (.mov (t 4)),g 0 42 40 (.bin .eql (t 41) (i 0)),q 43 (.pick (t 40) (t 42) (.const (.bool false))),m 44 43,g 0 45 44 (.mov (t 6)),g 0 46 44 (.bin .eql (t 45) (i 0)),q 47 (.pick (t 44) (t 46) (.const (.bool false))),m 48 47,g 0 49 48 (.mov (t 8)),g 0 50 48 (.bin .eql (t 49) (i 0)),q 51 (.pick (t 48) (t 50) (.const (.bool false))),m 52 51,g 0 53 52 (.mov (t 3)),g 0 54 52 (.bin .eql (t 53) (i 0)),q 55 (.pick (t 52) (t 54) (.const (.bool false))),m 56 55,g 0 57 56 (.mov (t 5)),g 0 58 56 (.bin .eql (t 57) (i 0)),q 59 (.pick (t 56) (t 58) (.const (.bool false))),m 60 59,g 0 61 60 (.mov (t 7)),g 0 62 60 (.bin .eql (t 61) (i 32)),q 63 (.pick (t 60) (t 62) (.const (.bool false))),m 64 63,g 0 65 64 (.mov (t 10)),q 66 (.pick (t 64) (t 65) (.const (.bool false))),m 67 66,g 0 68 67 (.fld (t 9) 1),h 0 69 67 (.ld (t 68)),g 0 70 67 (.bin .eql (t 69) (i 1)),q 71 (.pick (t 67) (t 70) (.const (.bool false))),m 72 71,g 0 73 72 (.fld (t 9) 2),h 0 74 72 (.ld (t 73)),g 0 75 72 (.bin .eql (t 74) (i 32)),q 76 (.pick (t 72) (t 75) (.const (.bool false))),m 77 76,g 0 78 77 (.fld (t 9) 3),h 0 79 77 (.ld (t 78)),g 0 80 77 (.bin .eql (t 79) (i 24)),q 81 (.pick (t 77) (t 80) (.const (.bool false))),m 0 81] .ret)))))))
theorem e_tumbrellaw09_awake:EOk 23 82 m_tumbrellaw09_awake Try.f23:=fun hn h =>
 enter Try.func23 (c:=(Try.f23.body.getD .skip)) rfl (by kernel_rfl) (Nat.le_of_ble_eq_true hn) h
/-- arena.New -/
def m_arena_New:MC:=(x [q 2 (.mov (.const (.pointer none)))] (x [m 3 0,q 4 (.mm true (t 3) (i 0)),q 5 (.mm false (t 4) (i 256)),q 6 (.bin .mul (i 256) (t 5)),e 7 (.raw (o (.makeSlice 65 (t 6) (t 6)) 65)) [],q 8 (.bld [.slice none 0 0] [(0,(1,(t 7)))]),e 9 (.box 67 (t 8)) [],m 2 9] .ret))
theorem e_arena_New:EOk 24 10 m_arena_New Try.f24:=fun hn h =>
 enter Try.func24 (c:=(Try.f24.body.getD .skip)) rfl (by kernel_rfl) (Nat.le_of_ble_eq_true hn) h
/-- link.New -/
def m_link_New:MC:=(x [e 2 (.new 57 [.int .u64 0]) []] (x [m 3 0,q 4 (.bin .add (t 3) (.const (.int .u64 11400714819323198485))),e 5 (.call 52 [t 4]) [],q 6 (.bld [.int .u64 0] [(0,(1,(t 5)))]),w (.stn (t 2) (t 6) 1) []] .ret))
theorem e_link_New:EOk 25 7 m_link_New Try.f25:=fun hn h =>
 enter Try.func25 (c:=(Try.f25.body.getD .skip)) rfl (by kernel_rfl) (Nat.le_of_ble_eq_true hn) h
/-- pages.New -/
def m_pages_New:MC:=(x [q 2 (.mov (.const (.pointer none)))] (x [m 3 0,q 4 (.mm true (t 3) (i 0)),q 5 (.mm false (t 4) (i 256)),e 6 (.raw (o (.makeSlice 68 (t 5) (t 5)) 68)) [],q 7 (.bld [.slice none 0 0] [(0,(1,(t 6)))]),e 8 (.box 70 (t 7)) [],m 2 8] .ret))
theorem e_pages_New:EOk 26 9 m_pages_New Try.f26:=fun hn h =>
 enter Try.func26 (c:=(Try.f26.body.getD .skip)) rfl (by kernel_rfl) (Nat.le_of_ble_eq_true hn) h
/-- large.New -/
def m_large_New:MC:=(x [e 3 (.box 57 (t 1)) [],q 4 (.mov (.const (.pointer none)))] (s (x [m 5 0,q 6 (.nilp false (t 5))] (.cond (t 6) (x [q 4 (.mov (.const (.pointer none)))] .ret) .skip)) (x [m 7 0,r 0 8 (.ldn (t 3) 1),e 9 (.raw (o (.makeMap 88 none) 88)) [],q 10 (.bld [.pointer none,.int .u64 0,.map none] [(0,(1,(t 7))),(1,(1,(t 8))),(2,(1,(t 9)))]),e 11 (.box 90 (t 10)) [],m 4 11] .ret)))
theorem e_large_New:EOk 27 12 m_large_New Try.f27:=fun hn h =>
 enter Try.func27 (c:=(Try.f27.body.getD .skip)) rfl (by kernel_rfl) (Nat.le_of_ble_eq_true hn) h
/-- (*region.Region).slab -/
def m_region_Region_slab:MC:=(x [q 4 (.mov (.const (.pointer none)))] (s (x [m 5 0,q 6 (.nilp false (t 5))] (.cond (t 6) (x [q 4 (.mov (.const (.pointer none)))] .ret) .skip)) (x [m 7 0,q 8 (.nilc (t 7)),q 9 (.fld (t 8) 6),l 10 9,m 11 1,r 0 12 (.raw (o (.lookup 60 (t 10) (t 11) false) 71)),m 4 12] .ret)))
theorem e_region_Region_slab:EOk 28 13 m_region_Region_slab Try.f28:=fun hn h =>
 enter Try.func28 (c:=(Try.f28.body.getD .skip)) rfl (by kernel_rfl) (Nat.le_of_ble_eq_true hn) h
/-- class.Slot -/
def m_class_Slot:MC:=(x [q 4 (.mov (i 0)),q 5 (.mov (i 0))] (s (x [m 6 1,e 7 (.call 53 [t 6]) [],q 8 (.un .not (t 7)),m 9 8,n 0 10 9 (.mov (t 0)),n 0 11 9 (.bin .lss (t 10) (i 0)),q 12 (.pick (t 9) (.const (.bool true)) (t 11)),m 13 12,n 0 14 13 (.mov (t 0)),n 0 15 13 (.bin .geq (t 14) (i 65536)),q 16 (.pick (t 13) (.const (.bool true)) (t 15))] (.cond (t 16) (x [q 4 (.mov (i (-1))),q 5 (.mov (i (-1)))] .ret) .skip)) (x [m 17 0,k 1 18 (.bin .quo (t 17) (i 256)),k 2 19 (.mov (t 0)),k 3 20 (.bin .rem (t 19) (i 256)),k 4 21 (.mov (t 1)),e 22 (.call 34 [t 21]) [],k 6 23 (.bin .quo (t 20) (t 22)),k 7 4 (.mov (t 18)),k 8 5 (.mov (t 23))] .ret)))
theorem e_class_Slot:EOk 29 24 m_class_Slot Try.f29:=fun hn h =>
 enter Try.func29 (c:=(Try.f29.body.getD .skip)) rfl (by kernel_rfl) (Nat.le_of_ble_eq_true hn) h
/-- (*slab.Slab).Class -/
def m_slab_Slab_Class:MC:=(x [q 2 (.mov (i 0))] (s (x [m 3 0,q 4 (.nilp false (t 3))] (.cond (t 4) (x [q 2 (.mov (i 0))] .ret) .skip)) (x [m 5 0,q 6 (.nilc (t 5)),q 7 (.fld (t 6) 3),l 8 7,m 2 8] .ret)))
theorem e_slab_Slab_Class:EOk 30 9 m_slab_Slab_Class Try.f30:=fun hn h =>
 enter Try.func30 (c:=(Try.f30.body.getD .skip)) rfl (by kernel_rfl) (Nat.le_of_ble_eq_true hn) h
/-- (*region.Region).place -/
def m_region_Region_place:MC:=(x [e 6 (.new 37 [.int .i64 0,.int .i64 0,.int .i64 0,.int .i64 0,.int .i64 0,.bool false]) []] (x [m 7 1,e 8 (.call 54 [t 7]) [],m 9 2,m 10 1,e 11 (.call 54 [t 10]) [],m 12 1,e 13 (.call 30 [t 12]) [],m 14 2,e 15 (.call 38 [t 11,t 13,t 14]) [],m 16 1,e 17 (.call 30 [t 16]) [],e 18 (.call 55 [t 17]) [],m 19 1,m 20 2,e 21 (.call 49 [t 19,t 20]) [],q 22 (.bld [.int .i64 0,.int .i64 0,.int .i64 0,.int .i64 0,.int .i64 0,.bool false] [(0,(1,(t 8))),(1,(1,(t 9))),(2,(1,(t 15))),(3,(1,(t 18))),(4,(1,(t 21))),(5,(1,(.const (.bool false))))]),w (.stn (t 6) (t 22) 6) []] .ret))
theorem e_region_Region_place:EOk 31 23 m_region_Region_place Try.f31:=fun hn h =>
 enter Try.func31 (c:=(Try.f31.body.getD .skip)) rfl (by kernel_rfl) (Nat.le_of_ble_eq_true hn) h
/-- (*pages.Table).Head -/
def m_pages_Table_Head:MC:=(x [q 4 (.mov (i 0)),q 5 (.mov (.const (.bool false)))] (s (.block 0 (.loop (s (x [m 6 0,m 7 1,e 8 (.call 56 [t 6,t 7]) [],q 9 (.fldv (t 8) 0),q 10 (.bin .eql (t 9) (i 3))] (.cond (t 10) .skip (.exit 0))) (.block 1 (.reg [m 11 1,q 12 (.bin .sub (t 11) (i 1)),m 1 12]))))) (s (x [m 13 0,m 14 1,e 15 (.call 56 [t 13,t 14]) [],e 16 (.call 57 [t 15]) [],q 17 (.un .not (t 16))] (.cond (t 17) (x [q 4 (.mov (i 0)),q 5 (.mov (.const (.bool false)))] .ret) .skip)) (x [m 18 1,m 4 18,q 5 (.mov (.const (.bool true)))] .ret))))
theorem e_pages_Table_Head:EOk 32 19 m_pages_Table_Head Try.f32:=fun hn h =>
 enter Try.func32 (c:=(Try.f32.body.getD .skip)) rfl (by kernel_rfl) (Nat.le_of_ble_eq_true hn) h
/-- (*large.Set).Size -/
def m_large_Set_Size:MC:=(x [q 4 (.mov (i 0))] (s (x [m 5 0,q 6 (.nilp false (t 5))] (.cond (t 6) (x [q 4 (.mov (i 0))] .ret) .skip)) (x [m 7 0,q 8 (.nilc (t 7)),q 9 (.fld (t 8) 2),l 10 9,m 11 1,r 0 12 (.raw (o (.lookup 88 (t 10) (t 11) false) 3)),m 4 12] .ret)))
theorem e_large_Set_Size:EOk 33 13 m_large_Set_Size Try.f33:=fun hn h =>
 enter Try.func33 (c:=(Try.f33.body.getD .skip)) rfl (by kernel_rfl) (Nat.le_of_ble_eq_true hn) h
/-- class.Size -/
def m_class_Size:MC:=(x [q 2 (.mov (i 0))] (s (x [m 3 0,e 4 (.call 53 [t 3]) [],q 5 (.un .not (t 4))] (.cond (t 5) (x [q 2 (.mov (i 0))] .ret) .skip)) (x [m 6 0,q 7 (.sh true (i 16) (t 6)),m 2 7] .ret)))
theorem e_class_Size:EOk 34 8 m_class_Size Try.f34:=fun hn h =>
 enter Try.func34 (c:=(Try.f34.body.getD .skip)) rfl (by kernel_rfl) (Nat.le_of_ble_eq_true hn) h
/-- (*pages.Table).Map -/
def m_pages_Table_Map:MC:=(x [e 7 (.box 79 (t 3)) [],q 8 (.mov (i 0)),q 9 (.mov (i 0))] (s (.block 0 (x [m 14 0,q 15 (.nilp false (t 14)),m 13 15] (.cond (t 13) (x [q 8 (.mov (i 0)),q 9 (.mov (i 2))] .ret) (x [r 0 17 (.ldn (t 7) 4),e 18 (.call 57 [t 17]) [],q 19 (.un .not (t 18)),m 20 19,n 0 21 20 (.fld (t 7) 3),p 0 22 20 (.ld (t 21)),n 0 23 20 (.bin .lss (t 22) (i 1)),q 24 (.pick (t 20) (.const (.bool true)) (t 23)),m 25 24,n 0 26 25 (.fld (t 7) 3),p 0 27 25 (.ld (t 26)),n 0 28 25 (.bin .gtr (t 27) (i 256)),q 29 (.pick (t 25) (.const (.bool true)) (t 28)),m 16 29] (.cond (t 16) (x [q 8 (.mov (i 0)),q 9 (.mov (i 1))] .ret) .skip))))) (x [m 31 0,m 32 1,m 33 2,e 34 (.call 58 [t 31,t 32,t 33]) [],m 30 34,q 35 (.ext (t 30) 0),q 36 (.ext (t 30) 1),m 1 35,m 2 36] (x [m 38 0,m 39 1,m 40 2,q 41 (.fld (t 7) 3),l 42 41,e 43 (.call 59 [t 38,t 39,t 40,t 42]) [],m 37 43,q 44 (.ext (t 37) 0),q 45 (.ext (t 37) 1),m 10 44,m 11 45] (s (x [m 46 11,q 47 (.un .not (t 46))] (.cond (t 47) (x [q 8 (.mov (i 0)),q 9 (.mov (i 5))] .ret) .skip)) (x [m 48 0,k 1 49 (.nilc (t 48)),k 2 50 (.fld (t 49) 0),r 3 51 (.ld (t 50)),k 4 52 (.mov (t 10)),r 5 53 (.ldn (t 7) 4),k 6 54 (.idx (t 51) (t 52) 4),w (.stn (t 54) (t 53) 4) []] (s (x [m 55 10,q 56 (.bin .add (t 55) (i 1)),m 12 56] (.block 1 (.loop (s (x [m 57 12,m 58 10,q 59 (.fld (t 7) 3),l 60 59,q 61 (.bin .add (t 58) (t 60)),q 62 (.bin .lss (t 57) (t 61))] (.cond (t 62) .skip (.exit 1))) (s (.block 2 (.reg [m 65 0,q 66 (.nilc (t 65)),q 67 (.fld (t 66) 0),l 68 67,m 69 12,q 70 (.bld [.int .i64 0,.int .i64 0,.int .i64 0,.int .i64 0] [(0,(1,(i 3)))]),q 71 (.idx (t 68) (t 69) 4),w (.stn (t 71) (t 70) 4) []])) (.reg [m 63 12,q 64 (.bin .add (t 63) (i 1)),m 12 64])))))) (x [m 72 10,m 8 72,q 9 (.mov (i 0))] .ret))))))))
theorem e_pages_Table_Map:EOk 35 73 m_pages_Table_Map Try.f35:=fun hn h =>
 enter Try.func35 (c:=(Try.f35.body.getD .skip)) rfl (by kernel_rfl) (Nat.le_of_ble_eq_true hn) h
/-- slab.Make -/
def m_slab_Make:MC:=(x [e 6 (.box 57 (t 1)) [],q 10 (.mov (.const (.pointer none))),q 11 (.mov (i 0))] (x [m 15 3,e 16 (.call 48 [t 15]) [],m 12 16] (s (.block 0 (x [m 18 0,q 19 (.nilp false (t 18)),m 17 19] (.cond (t 17) (x [q 10 (.mov (.const (.pointer none))),q 11 (.mov (i 2))] .ret) (x [m 21 12,q 22 (.bin .eql (t 21) (i 0)),m 23 22,n 0 24 23 (.mov (t 2)),n 0 25 23 (.bin .lss (t 24) (i 0)),q 26 (.pick (t 23) (.const (.bool true)) (t 25)),m 27 26,n 0 28 27 (.mov (t 2)),n 0 29 27 (.mov (t 0)),.e (some 30) (some (27,false)) (.call 7 [t 29]) [],n 0 31 27 (.bin .quo (t 30) (i 256)),n 0 32 27 (.bin .geq (t 28) (t 31)),q 33 (.pick (t 27) (.const (.bool true)) (t 32)),m 20 33] (.cond (t 20) (x [q 10 (.mov (.const (.pointer none))),q 11 (.mov (i 1))] .ret) .skip))))) (x [m 34 0,r 1 35 (.ldn (t 6) 1),k 2 36 (.mov (t 2)),k 3 37 (.mov (t 3)),k 4 38 (.mov (t 4)),k 5 39 (.mov (t 12)),k 7 41 (.mov (t 12)),e 40 (.call 60 [t 39]) [1],e 42 (.call 60 [t 41]) [1],k 9 43 (.bld [.pointer none,.int .u64 0,.int .i64 0,.int .i64 0,.int .i64 0,.pointer none,.pointer none,.int .i64 0] [(0,(1,(t 34))),(1,(1,(t 35))),(2,(1,(t 36))),(3,(1,(t 37))),(4,(1,(t 38))),(5,(1,(t 40))),(6,(1,(t 42))),(7,(1,(i (-1))))]),e 44 (.box 94 (t 43)) [1],k 11 13 (.mov (t 44))] (s (x [m 45 12,q 46 (.bin .sub (t 45) (i 1)),m 14 46] (.block 1 (.loop (s (x [m 47 14,q 48 (.bin .geq (t 47) (i 0))] (.cond (t 48) .skip (.exit 1))) (s (.block 2 (.reg [m 51 13,m 52 14,e 53 (.call 61 [t 51,t 52]) []])) (.reg [m 49 14,q 50 (.bin .sub (t 49) (i 1)),m 14 50])))))) (x [m 54 13,m 10 54,q 11 (.mov (i 0))] .ret))))))
theorem e_slab_Make:EOk 36 55 m_slab_Make Try.f36:=fun hn h =>
 enter Try.func36 (c:=(Try.f36.body.getD .skip)) rfl (by kernel_rfl) (Nat.le_of_ble_eq_true hn) h
/-- (*slab.Slab).Take -/
def m_slab_Slab_Take:MC:=(x [q 2 (.mov (i 0)),q 3 (.mov (i 0))] (s (.block 0 (x [m 11 0,q 12 (.nilp false (t 11)),m 10 12] (.cond (t 10) (x [q 2 (.mov (i 0)),q 3 (.mov (i 2))] .ret) (x [m 14 0,q 15 (.nilc (t 14)),q 16 (.fld (t 15) 7),l 17 16,q 18 (.bin .eql (t 17) (i (-1))),m 13 18] (.cond (t 13) (x [q 2 (.mov (i 0)),q 3 (.mov (i 5))] .ret) .skip))))) (x [m 20 0,m 21 0,q 22 (.nilc (t 21)),q 23 (.fld (t 22) 7),l 24 23,e 25 (.call 62 [t 20,t 24]) [],m 19 25,q 26 (.ext (t 19) 0),q 27 (.ext (t 19) 1),m 4 26,m 5 27] (s (x [m 28 5,q 29 (.un .not (t 28))] (.cond (t 29) (x [q 2 (.mov (i 0)),q 3 (.mov (i 4))] .ret) .skip)) (x [m 31 0,k 1 32 (.nilc (t 31)),k 2 33 (.fld (t 32) 7),r 3 34 (.ld (t 33)),k 4 35 (.mov (t 0)),k 5 36 (.nilc (t 35)),k 6 37 (.fld (t 36) 3),r 7 38 (.ld (t 37)),e 39 (.call 29 [t 34,t 38]) [],k 9 30 (.mov (t 39)),k 10 40 (.ext (t 30) 0),k 11 41 (.ext (t 30) 1),k 12 6 (.mov (t 40)),k 13 7 (.mov (t 41))] (x [m 42 0,k 1 43 (.nilc (t 42)),k 2 44 (.fld (t 43) 0),r 3 45 (.ld (t 44)),k 4 46 (.mov (t 0)),k 5 47 (.nilc (t 46)),k 6 48 (.fld (t 47) 7),r 7 49 (.ld (t 48)),k 8 50 (.mov (t 0)),k 9 51 (.nilc (t 50)),k 10 52 (.fld (t 51) 3),r 11 53 (.ld (t 52)),e 54 (.call 55 [t 53]) [7,3],e 55 (.call 63 [t 45,t 49,t 54,.const (.int .u8 0)]) []] (x [m 57 0,m 58 7,e 59 (.call 64 [t 57,t 58]) [],m 56 59,q 60 (.ext (t 56) 0),q 61 (.ext (t 56) 1),m 8 60,m 9 61] (x [m 62 0,q 63 (.nilc (t 62)),q 64 (.fld (t 63) 0),l 65 64,m 66 8,m 67 9,e 68 (.call 65 [t 65,t 66,t 67]) []] (x [m 69 0,q 70 (.nilc (t 69)),q 71 (.fld (t 70) 5),l 72 71,m 73 7,e 74 (.call 66 [t 72,t 73,.const (.bool true)]) []] (x [m 75 0,m 76 4,q 77 (.nilc (t 75)),q 78 (.fld (t 77) 7),w (.st (t 78) (t 76)) []] (x [m 79 7,m 2 79,q 3 (.mov (i 0))] .ret)))))))))))
theorem e_slab_Slab_Take:EOk 37 80 m_slab_Slab_Take Try.f37:=fun hn h =>
 enter Try.func37 (c:=(Try.f37.body.getD .skip)) rfl (by kernel_rfl) (Nat.le_of_ble_eq_true hn) h
/-- class.Base -/
def m_class_Base:MC:=(x [q 6 (.mov (i 0))] (s (x [m 7 0,q 8 (.bin .lss (t 7) (i 0)),m 9 8,n 0 10 9 (.mov (t 0)),n 0 11 9 (.bin .geq (t 10) (i 256)),q 12 (.pick (t 9) (.const (.bool true)) (t 11)),m 13 12,n 0 14 13 (.mov (t 2)),n 0 15 13 (.bin .lss (t 14) (i 0)),q 16 (.pick (t 13) (.const (.bool true)) (t 15)),m 17 16,n 0 18 17 (.mov (t 2)),n 0 19 17 (.mov (t 1)),.e (some 20) (some (17,false)) (.call 48 [t 19]) [],n 0 21 17 (.bin .geq (t 18) (t 20)),q 22 (.pick (t 17) (.const (.bool true)) (t 21))] (.cond (t 22) (x [q 6 (.mov (i (-1)))] .ret) .skip)) (x [m 23 0,q 24 (.bin .mul (i 256) (t 23)),m 25 1,e 26 (.call 34 [t 25]) [],m 27 2,q 28 (.bin .mul (t 26) (t 27)),q 29 (.bin .add (t 24) (t 28)),m 6 29] .ret)))
theorem e_class_Base:EOk 38 30 m_class_Base Try.f38:=fun hn h =>
 enter Try.func38 (c:=(Try.f38.body.getD .skip)) rfl (by kernel_rfl) (Nat.le_of_ble_eq_true hn) h
/-- (*region.Region).base -/
def m_region_Region_base:MC:=(x [e 4 (.new 37 [.int .i64 0,.int .i64 0,.int .i64 0,.int .i64 0,.int .i64 0,.bool false]) [],q 5 (.mov (i 0))] (s (x [m 8 0,q 9 (.nilp false (t 8))] (.cond (t 9) (x [q 10 (.bld [.int .i64 0,.int .i64 0,.int .i64 0,.int .i64 0,.int .i64 0,.bool false] []),w (.stn (t 4) (t 10) 6) [],q 5 (.mov (i 2))] .ret) .skip)) (x [m 12 0,m 13 1,e 14 (.call 11 [t 12,t 13]) [],m 11 14,q 15 (.ext (t 11) 0),q 16 (.ext (t 11) 1),e 6 (.new 37 [.int .i64 0,.int .i64 0,.int .i64 0,.int .i64 0,.int .i64 0,.bool false]) [],w (.stn (t 6) (t 15) 6) [],m 7 16] (s (x [m 17 7,q 18 (.un .not (t 17)),m 19 18,n 0 20 19 (.fld (t 6) 2),p 0 21 19 (.ld (t 20)),n 0 22 19 (.mov (t 1)),n 0 23 19 (.bin .neq (t 21) (t 22)),q 24 (.pick (t 19) (.const (.bool true)) (t 23))] (.cond (t 24) (x [q 25 (.bld [.int .i64 0,.int .i64 0,.int .i64 0,.int .i64 0,.int .i64 0,.bool false] []),w (.stn (t 4) (t 25) 6) [],q 5 (.mov (i 6))] .ret) .skip)) (x [r 0 26 (.ldn (t 6) 6),w (.stn (t 4) (t 26) 6) [],q 5 (.mov (i 0))] .ret)))))
theorem e_region_Region_base:EOk 39 27 m_region_Region_base Try.f39:=fun hn h =>
 enter Try.func39 (c:=(Try.f39.body.getD .skip)) rfl (by kernel_rfl) (Nat.le_of_ble_eq_true hn) h
/-- (*slab.Slab).Drop -/
def m_slab_Slab_Drop:MC:=(x [q 4 (.mov (.const (.bool false))),q 5 (.mov (i 0))] (s (x [m 8 0,m 9 1,e 10 (.call 67 [t 8,t 9,i 1]) [],m 6 10] (x [m 11 6,q 12 (.bin .neq (t 11) (i 0))] (.cond (t 12) (x [m 13 6,q 4 (.mov (.const (.bool false))),m 5 13] .ret) .skip))) (x [m 14 0,m 15 1,e 16 (.call 68 [t 14,t 15]) [],m 7 16] (x [m 17 0,k 1 18 (.nilc (t 17)),k 2 19 (.fld (t 18) 0),r 3 20 (.ld (t 19)),k 4 21 (.mov (t 0)),k 5 22 (.mov (t 1)),k 7 24 (.mov (t 0)),k 8 25 (.nilc (t 24)),k 9 26 (.fld (t 25) 3),r 10 27 (.ld (t 26)),e 23 (.call 69 [t 21,t 22]) [10,3],e 28 (.call 34 [t 27]) [3],e 29 (.call 63 [t 20,t 23,t 28,.const (.int .u8 221)]) []] (x [m 30 0,q 31 (.nilc (t 30)),q 32 (.fld (t 31) 5),l 33 32,m 34 1,e 35 (.call 66 [t 33,t 34,.const (.bool false)]) []] (x [m 36 0,q 37 (.nilc (t 36)),q 38 (.fld (t 37) 6),l 39 38,m 40 1,e 41 (.call 66 [t 39,t 40,.const (.bool true)]) []] (x [m 42 7,m 4 42,q 5 (.mov (i 0))] .ret)))))))
theorem e_slab_Slab_Drop:EOk 40 43 m_slab_Slab_Drop Try.f40:=fun hn h =>
 enter Try.func40 (c:=(Try.f40.body.getD .skip)) rfl (by kernel_rfl) (Nat.le_of_ble_eq_true hn) h
/-- (*large.Set).Drop -/
def m_large_Set_Drop:MC:=(x [q 4 (.mov (.const (.bool false))),q 5 (.mov (i 0))] (s (x [m 9 0,q 10 (.nilp false (t 9))] (.cond (t 10) (x [q 4 (.mov (.const (.bool false))),q 5 (.mov (i 2))] .ret) .skip)) (x [m 12 0,q 13 (.nilc (t 12)),q 14 (.fld (t 13) 2),l 15 14,m 16 1,r 0 17 (.raw (o (.lookup 88 (t 15) (t 16) true) 45)),m 11 17,q 18 (.ext (t 11) 0),q 19 (.ext (t 11) 1),m 6 18,m 7 19] (s (x [m 20 7,q 21 (.un .not (t 20))] (.cond (t 21) (x [q 4 (.mov (.const (.bool false))),q 5 (.mov (i 6))] .ret) .skip)) (x [m 22 0,m 23 1,e 24 (.call 70 [t 22,t 23]) [],m 8 24] (x [m 25 0,q 26 (.nilc (t 25)),q 27 (.fld (t 26) 2),l 28 27,m 29 1,w (.raw (o (.call ⟨(.builtin .delete),[t 28,t 29].toArray,[88,3].toArray⟩) 0)) []] (x [m 30 8,k 1 31 (.mov (t 0)),k 2 32 (.nilc (t 31)),k 3 33 (.fld (t 32) 0),r 4 34 (.ld (t 33)),k 5 35 (.mov (t 1)),k 6 36 (.bin .mul (i 256) (t 35)),k 7 37 (.mov (t 6)),e 38 (.call 71 [t 37]) [4],k 9 39 (.bin .mul (i 256) (t 38)),e 40 (.call 63 [t 34,t 36,t 39,.const (.int .u8 221)]) [],k 11 4 (.mov (t 30)),k 12 5 (.mov (t 40))] .ret)))))))
theorem e_large_Set_Drop:EOk 41 41 m_large_Set_Drop Try.f41:=fun hn h =>
 enter Try.func41 (c:=(Try.f41.body.getD .skip)) rfl (by kernel_rfl) (Nat.le_of_ble_eq_true hn) h
/-- (*pages.Table).Unmap -/
def m_pages_Table_Unmap:MC:=(x [q 4 (.mov (i 0))] (x [m 6 0,m 7 1,e 8 (.call 56 [t 6,t 7]) [],e 5 (.new 79 [.int .i64 0,.int .i64 0,.int .i64 0,.int .i64 0]) [],w (.stn (t 5) (t 8) 4) []] (s (.block 0 (x [m 10 0,q 11 (.nilp false (t 10)),m 9 11] (.cond (t 9) (x [q 4 (.mov (i 2))] .ret) (x [r 0 13 (.ldn (t 5) 4),e 14 (.call 57 [t 13]) [],q 15 (.un .not (t 14)),m 12 15] (.cond (t 12) (x [q 4 (.mov (i 6))] .ret) .skip))))) (x [m 16 0,k 1 17 (.nilc (t 16)),k 2 18 (.fld (t 17) 0),r 3 19 (.ld (t 18)),k 4 20 (.mov (t 1)),k 5 21 (.mov (t 1)),k 6 22 (.fld (t 5) 3),r 7 23 (.ld (t 22)),k 8 24 (.bin .add (t 21) (t 23)),k 9 25 (.slc (t 19) (some (t 20)) (some (t 24)) 4),w (.raw (o (.call ⟨(.builtin .clear),[t 25].toArray,[68].toArray⟩) 0)) [7,3]] (x [q 4 (.mov (i 0))] .ret)))))
theorem e_pages_Table_Unmap:EOk 42 26 m_pages_Table_Unmap Try.f42:=fun hn h =>
 enter Try.func42 (c:=(Try.f42.body.getD .skip)) rfl (by kernel_rfl) (Nat.le_of_ble_eq_true hn) h
/-- class.Pages -/
def m_class_Pages:MC:=(x [q 2 (.mov (i 0)),q 3 (.mov (.const (.bool false)))] (s (x [m 4 0,e 5 (.call 55 [i 3]) [],q 6 (.bin .leq (t 4) (t 5)),m 7 6,n 0 8 7 (.mov (t 0)),n 0 9 7 (.bin .gtr (t 8) (i 4096)),q 10 (.pick (t 7) (.const (.bool true)) (t 9))] (.cond (t 10) (x [q 2 (.mov (i 0)),q 3 (.mov (.const (.bool false)))] .ret) .skip)) (x [m 11 0,q 12 (.bin .add (t 11) (i 8)),q 13 (.bin .add (t 12) (i 256)),q 14 (.bin .sub (t 13) (i 1)),q 15 (.bin .quo (t 14) (i 256)),m 2 15,q 3 (.mov (.const (.bool true)))] .ret)))
theorem e_class_Pages:EOk 43 16 m_class_Pages Try.f43:=fun hn h =>
 enter Try.func43 (c:=(Try.f43.body.getD .skip)) rfl (by kernel_rfl) (Nat.le_of_ble_eq_true hn) h
/-- (*large.Set).Make -/
def m_large_Set_Make:MC:=(x [q 6 (.mov (i 0))] (x [m 12 2,e 13 (.call 43 [t 12]) [],m 11 13,q 14 (.ext (t 11) 0),q 15 (.ext (t 11) 1),m 7 14,m 8 15] (s (.block 0 (x [m 17 0,q 18 (.nilp false (t 17)),m 16 18] (.cond (t 16) (x [q 6 (.mov (i 2))] .ret) (x [m 20 8,q 21 (.un .not (t 20)),m 22 21,n 0 23 22 (.mov (t 1)),n 0 24 22 (.bin .lss (t 23) (i 0)),q 25 (.pick (t 22) (.const (.bool true)) (t 24)),m 19 25] (.cond (t 19) (x [q 6 (.mov (i 1))] .ret) (x [m 27 1,m 28 0,q 29 (.nilc (t 28)),q 30 (.fld (t 29) 0),l 31 30,e 32 (.call 7 [t 31]) [],q 33 (.bin .quo (t 32) (i 256)),m 34 7,q 35 (.bin .sub (t 33) (t 34)),q 36 (.bin .gtr (t 27) (t 35)),m 26 36] (.cond (t 26) (x [q 6 (.mov (i 3))] .ret) (x [m 38 0,m 39 1,m 40 7,e 41 (.call 72 [t 38,t 39,t 40]) [],m 37 41] (.cond (t 37) (x [q 6 (.mov (i 7))] .ret) .skip))))))))) (x [m 42 0,q 43 (.nilc (t 42)),q 44 (.fld (t 43) 0),l 45 44,m 46 1,q 47 (.bin .mul (i 256) (t 46)),m 48 7,q 49 (.bin .mul (i 256) (t 48)),e 50 (.call 63 [t 45,t 47,t 49,.const (.int .u8 0)]) []] (x [m 51 0,q 52 (.nilc (t 51)),q 53 (.fld (t 52) 2),l 54 53,m 55 1,m 56 2,w (.raw (o (.mapUpdate 88 (t 54) (t 55) (t 56)) 0)) []] (x [m 58 0,m 59 1,m 60 2,e 61 (.call 73 [t 58,t 59,t 60]) [],m 57 61,q 62 (.ext (t 57) 0),q 63 (.ext (t 57) 1),m 9 62,m 10 63] (x [m 64 0,q 65 (.nilc (t 64)),q 66 (.fld (t 65) 0),l 67 66,m 68 9,m 69 10,e 70 (.call 65 [t 67,t 68,t 69]) [],m 6 70] .ret)))))))
theorem e_large_Set_Make:EOk 44 71 m_large_Set_Make Try.f44:=fun hn h =>
 enter Try.func44 (c:=(Try.f44.body.getD .skip)) rfl (by kernel_rfl) (Nat.le_of_ble_eq_true hn) h
/-- (*slab.Slab).Owner -/
def m_slab_Slab_Owner:MC:=(x [q 2 (.mov (i 0))] (s (x [m 3 0,q 4 (.nilp false (t 3))] (.cond (t 4) (x [q 2 (.mov (i 0))] .ret) .skip)) (x [m 5 0,q 6 (.nilc (t 5)),q 7 (.fld (t 6) 4),l 8 7,m 2 8] .ret)))
theorem e_slab_Slab_Owner:EOk 45 9 m_slab_Slab_Owner Try.f45:=fun hn h =>
 enter Try.func45 (c:=(Try.f45.body.getD .skip)) rfl (by kernel_rfl) (Nat.le_of_ble_eq_true hn) h
/-- (*slab.Slab).Count -/
def m_slab_Slab_Count:MC:=(x [q 4 (.mov (i 0))] (s (x [m 7 0,q 8 (.nilp false (t 7))] (.cond (t 8) (x [q 4 (.mov (i 0))] .ret) .skip)) (x [q 5 (.mov (i 0))] (s (x [m 9 0,q 10 (.nilc (t 9)),q 11 (.fld (t 10) 5),l 12 11,e 13 (.call 74 [t 12]) [],q 14 (.mov (i 0))] (.block 0 (.loop (x [q 15 (.bin .lss (t 14) (t 13))] (s (.cond (t 15) .skip (.exit 0)) (s (.block 1 (x [m 16 14,m 6 16] (x [m 17 0,m 18 6,e 19 (.call 49 [t 17,t 18]) [],m 20 1,q 21 (.bin .eql (t 19) (t 20))] (.cond (t 21) (.reg [m 22 5,q 23 (.bin .add (t 22) (i 1)),m 5 23]) .skip)))) (.reg [q 24 (.bin .add (t 14) (i 1)),m 14 24]))))))) (x [m 25 5,m 4 25] .ret)))))
theorem e_slab_Slab_Count:EOk 46 26 m_slab_Slab_Count Try.f46:=fun hn h =>
 enter Try.func46 (c:=(Try.f46.body.getD .skip)) rfl (by kernel_rfl) (Nat.le_of_ble_eq_true hn) h
/-- (*slab.Slab).Give -/
def m_slab_Slab_Give:MC:=(x [q 4 (.mov (i 0))] (s (x [m 6 0,m 7 1,e 8 (.call 67 [t 6,t 7,i 2]) [],m 5 8] (x [m 9 5,q 10 (.bin .neq (t 9) (i 0))] (.cond (t 10) (x [m 11 5,m 4 11] .ret) .skip))) (x [m 12 0,q 13 (.nilc (t 12)),q 14 (.fld (t 13) 6),l 15 14,m 16 1,e 17 (.call 66 [t 15,t 16,.const (.bool false)]) []] (x [m 18 0,m 19 1,e 20 (.call 61 [t 18,t 19]) []] (x [q 4 (.mov (i 0))] .ret)))))
theorem e_slab_Slab_Give:EOk 47 21 m_slab_Slab_Give Try.f47:=fun hn h =>
 enter Try.func47 (c:=(Try.f47.body.getD .skip)) rfl (by kernel_rfl) (Nat.le_of_ble_eq_true hn) h
/-- class.Slots -/
def m_class_Slots:MC:=(x [q 2 (.mov (i 0))] (s (x [m 3 0,e 4 (.call 53 [t 3]) [],q 5 (.un .not (t 4))] (.cond (t 5) (x [q 2 (.mov (i 0))] .ret) .skip)) (x [m 6 0,e 7 (.call 34 [t 6]) [],q 8 (.bin .quo (i 256) (t 7)),m 2 8] .ret)))
theorem e_class_Slots:EOk 48 9 m_class_Slots Try.f48:=fun hn h =>
 enter Try.func48 (c:=(Try.f48.body.getD .skip)) rfl (by kernel_rfl) (Nat.le_of_ble_eq_true hn) h
/-- (*slab.Slab).State -/
def m_slab_Slab_State:MC:=(x [q 4 (.mov (i 0))] (s (.block 0 (x [m 6 0,q 7 (.nilp false (t 6)),m 8 7,n 0 9 8 (.mov (t 1)),n 0 10 8 (.bin .lss (t 9) (i 0)),q 11 (.pick (t 8) (.const (.bool true)) (t 10)),m 12 11,n 0 13 12 (.mov (t 1)),n 0 14 12 (.mov (t 0)),n 0 15 12 (.nilc (t 14)),n 0 16 12 (.fld (t 15) 5),p 0 17 12 (.ld (t 16)),.e (some 18) (some (12,false)) (.call 74 [t 17]) [],n 0 19 12 (.bin .geq (t 13) (t 18)),q 20 (.pick (t 12) (.const (.bool true)) (t 19)),m 5 20] (.cond (t 5) (x [q 4 (.mov (i (-1)))] .ret) (x [m 22 0,q 23 (.nilc (t 22)),q 24 (.fld (t 23) 5),l 25 24,m 26 1,e 27 (.call 75 [t 25,t 26]) [],m 21 27] (.cond (t 21) (x [q 4 (.mov (i 1))] .ret) (x [m 29 0,q 30 (.nilc (t 29)),q 31 (.fld (t 30) 6),l 32 31,m 33 1,e 34 (.call 75 [t 32,t 33]) [],m 28 34] (.cond (t 28) (x [q 4 (.mov (i 2))] .ret) .skip))))))) (x [q 4 (.mov (i 0))] .ret)))
theorem e_slab_Slab_State:EOk 49 35 m_slab_Slab_State Try.f49:=fun hn h =>
 enter Try.func49 (c:=(Try.f49.body.getD .skip)) rfl (by kernel_rfl) (Nat.le_of_ble_eq_true hn) h
/-- (*slab.Slab).Check -/
def m_slab_Slab_Check:MC:=(x [q 2 (.mov (i 0))] (s (x [m 5 0,q 6 (.nilp false (t 5))] (.cond (t 6) (x [q 2 (.mov (i 2))] .ret) .skip)) (x [m 7 0,e 8 (.call 76 [t 7]) [],m 3 8] (s (x [m 9 0,q 10 (.nilc (t 9)),q 11 (.fld (t 10) 5),l 12 11,e 13 (.call 74 [t 12]) [],q 14 (.mov (i 0))] (.block 0 (.loop (x [q 15 (.bin .lss (t 14) (t 13))] (s (.cond (t 15) .skip (.exit 0)) (s (.block 1 (x [m 16 14,m 4 16] (x [m 17 0,m 18 4,e 19 (.call 49 [t 17,t 18]) []] (.block 2 (x [q 21 (.bin .eql (t 19) (i 1)),m 20 21] (.cond (t 20) (.reg [m 22 3,m 23 22,g 0 24 23 (.mov (t 0)),g 0 25 23 (.mov (t 4)),.e (some 26) (some (23,true)) (.call 68 [t 24,t 25]) [],q 27 (.pick (t 23) (t 26) (.const (.bool false))),m 3 27]) (x [q 29 (.bin .eql (t 19) (i 2)),m 28 29] (.cond (t 28) (.reg [m 30 3,m 31 30,g 0 32 31 (.mov (t 0)),g 0 33 31 (.mov (t 4)),.e (some 34) (some (31,true)) (.call 77 [t 32,t 33]) [],q 35 (.pick (t 31) (t 34) (.const (.bool false))),m 3 35]) .skip)))))))) (.reg [q 36 (.bin .add (t 14) (i 1)),m 14 36]))))))) (s (x [m 37 3,q 38 (.un .not (t 37))] (.cond (t 38) (x [q 2 (.mov (i 4))] .ret) .skip)) (x [q 2 (.mov (i 0))] .ret))))))
theorem e_slab_Slab_Check:EOk 50 39 m_slab_Slab_Check Try.f50:=fun hn h =>
 enter Try.func50 (c:=(Try.f50.body.getD .skip)) rfl (by kernel_rfl) (Nat.le_of_ble_eq_true hn) h
/-- (*large.Set).Check -/
def m_large_Set_Check:MC:=(x [q 2 (.mov (i 0))] (s (x [m 4 0,q 5 (.nilp false (t 4))] (.cond (t 5) (x [q 2 (.mov (i 2))] .ret) .skip)) (s (x [m 6 0,q 7 (.nilc (t 6)),q 8 (.fld (t 7) 2),l 9 8,e 10 (.raw (o (.range 88 (t 9)) 0)) []] (.block 0 (.loop (x [e 11 (.raw (o (.next (t 10) false) 0)) [],q 12 (.ext (t 11) 0)] (s (.cond (t 12) .skip (.exit 0)) (.block 1 (x [e 13 (.raw (o (.entry (t 10)) 0)) [],q 14 (.ext (t 13) 0),m 3 14] (x [m 15 0,m 16 3,e 17 (.call 70 [t 15,t 16]) [],q 18 (.un .not (t 17))] (.cond (t 18) (x [q 2 (.mov (i 4))] .ret) .skip))))))))) (x [q 2 (.mov (i 0))] .ret))))
theorem e_large_Set_Check:EOk 51 19 m_large_Set_Check Try.f51:=fun hn h =>
 enter Try.func51 (c:=(Try.f51.body.getD .skip)) rfl (by kernel_rfl) (Nat.le_of_ble_eq_true hn) h
/-- link.mix -/
def m_link_mix:MC:=(x [q 2 (.mov (.const (.int .u64 0)))] (x [m 3 0,m 4 0,q 5 (.sh false (t 4) (.const (.int .u64 30))),q 6 (.bin .xor (t 3) (t 5)),q 7 (.bin .mul (t 6) (.const (.int .u64 13787848793156543929))),m 0 7] (x [m 8 0,m 9 0,q 10 (.sh false (t 9) (.const (.int .u64 27))),q 11 (.bin .xor (t 8) (t 10)),q 12 (.bin .mul (t 11) (.const (.int .u64 10723151780598845931))),m 0 12] (x [m 13 0,m 14 0,q 15 (.sh false (t 14) (.const (.int .u64 31))),q 16 (.bin .xor (t 13) (t 15)),m 2 16] .ret))))
theorem e_link_mix:EOk 52 17 m_link_mix Try.f52:=fun hn h =>
 enter Try.func52 (c:=(Try.f52.body.getD .skip)) rfl (by kernel_rfl) (Nat.le_of_ble_eq_true hn) h
/-- class.may -/
def m_class_may:MC:=(x [q 2 (.mov (.const (.bool false)))] (x [m 3 0,q 4 (.bin .geq (t 3) (i 0)),m 5 4,g 0 6 5 (.mov (t 0)),g 0 7 5 (.bin .lss (t 6) (i 4)),q 8 (.pick (t 5) (t 7) (.const (.bool false))),m 2 8] .ret))
theorem e_class_may:EOk 53 9 m_class_may Try.f53:=fun hn h =>
 enter Try.func53 (c:=(Try.f53.body.getD .skip)) rfl (by kernel_rfl) (Nat.le_of_ble_eq_true hn) h
/-- (*slab.Slab).Page -/
def m_slab_Slab_Page:MC:=(x [q 2 (.mov (i 0))] (s (x [m 3 0,q 4 (.nilp false (t 3))] (.cond (t 4) (x [q 2 (.mov (i 0))] .ret) .skip)) (x [m 5 0,q 6 (.nilc (t 5)),q 7 (.fld (t 6) 2),l 8 7,m 2 8] .ret)))
theorem e_slab_Slab_Page:EOk 54 9 m_slab_Slab_Page Try.f54:=fun hn h =>
 enter Try.func54 (c:=(Try.f54.body.getD .skip)) rfl (by kernel_rfl) (Nat.le_of_ble_eq_true hn) h
/-- class.Room -/
def m_class_Room:MC:=(x [q 2 (.mov (i 0))] (x [m 3 0,e 4 (.call 34 [t 3]) [],q 5 (.bin .sub (t 4) (i 8)),q 6 (.mm true (t 5) (i 0)),m 2 6] .ret))
theorem e_class_Room:EOk 55 7 m_class_Room Try.f55:=fun hn h =>
 enter Try.func55 (c:=(Try.f55.body.getD .skip)) rfl (by kernel_rfl) (Nat.le_of_ble_eq_true hn) h
/-- (*pages.Table).Row -/
def m_pages_Table_Row:MC:=(x [e 4 (.new 79 [.int .i64 0,.int .i64 0,.int .i64 0,.int .i64 0]) []] (s (x [m 5 1,q 6 (.bin .lss (t 5) (i 0)),m 7 6,n 0 8 7 (.mov (t 1)),n 0 9 7 (.mov (t 0)),.e (some 10) (some (7,false)) (.call 10 [t 9]) [],n 0 11 7 (.bin .geq (t 8) (t 10)),q 12 (.pick (t 7) (.const (.bool true)) (t 11))] (.cond (t 12) (x [q 13 (.bld [.int .i64 0,.int .i64 0,.int .i64 0,.int .i64 0] []),w (.stn (t 4) (t 13) 4) []] .ret) .skip)) (x [m 14 0,q 15 (.nilc (t 14)),q 16 (.fld (t 15) 0),l 17 16,m 18 1,q 19 (.idx (t 17) (t 18) 4),r 0 20 (.ldn (t 19) 4),w (.stn (t 4) (t 20) 4) []] .ret)))
theorem e_pages_Table_Row:EOk 56 21 m_pages_Table_Row Try.f56:=fun hn h =>
 enter Try.func56 (c:=(Try.f56.body.getD .skip)) rfl (by kernel_rfl) (Nat.le_of_ble_eq_true hn) h
/-- (pages.Row).first -/
def m_pages_Row_first:MC:=(x [e 1 (.box 79 (t 0)) [],q 2 (.mov (.const (.bool false)))] (x [q 3 (.fld (t 1) 0),l 4 3,q 5 (.bin .eql (t 4) (i 1)),m 6 5,n 0 7 6 (.fld (t 1) 0),p 0 8 6 (.ld (t 7)),n 0 9 6 (.bin .eql (t 8) (i 2)),q 10 (.pick (t 6) (.const (.bool true)) (t 9)),m 11 10,n 0 12 11 (.fld (t 1) 0),p 0 13 11 (.ld (t 12)),n 0 14 11 (.bin .eql (t 13) (i 4)),q 15 (.pick (t 11) (.const (.bool true)) (t 14)),m 2 15] .ret))
theorem e_pages_Row_first:EOk 57 16 m_pages_Row_first Try.f57:=fun hn h =>
 enter Try.func57 (c:=(Try.f57.body.getD .skip)) rfl (by kernel_rfl) (Nat.le_of_ble_eq_true hn) h
/-- (*pages.Table).cut -/
def m_pages_Table_cut:MC:=(x [q 6 (.mov (i 0)),q 7 (.mov (i 0))] (x [m 8 1,q 9 (.mm true (t 8) (i 0)),m 10 2,m 11 0,e 12 (.call 10 [t 11]) [],q 13 (.mm false (t 10) (t 12)),m 1 9,m 2 13] (x [m 14 1,m 15 1,m 16 2,q 17 (.mm true (t 15) (t 16)),m 6 14,m 7 17] .ret)))
theorem e_pages_Table_cut:EOk 58 18 m_pages_Table_cut Try.f58:=fun hn h =>
 enter Try.func58 (c:=(Try.f58.body.getD .skip)) rfl (by kernel_rfl) (Nat.le_of_ble_eq_true hn) h
/-- (*pages.Table).place -/
def m_pages_Table_place:MC:=(x [q 8 (.mov (i 0)),q 9 (.mov (.const (.bool false)))] (x [q 10 (.mov (i 0))] (s (x [m 12 1,m 11 12] (.block 0 (.loop (s (x [m 13 11,m 14 2,q 15 (.bin .lss (t 13) (t 14))] (.cond (t 15) .skip (.exit 0))) (s (.block 1 (x [m 18 10,q 19 (.bin .add (t 18) (i 1)),m 10 19] (s (x [m 20 0,q 21 (.nilc (t 20)),q 22 (.fld (t 21) 0),l 23 22,m 24 11,q 25 (.idx (t 23) (t 24) 4),r 0 26 (.ldn (t 25) 4),e 27 (.call 78 [t 26]) [],q 28 (.un .not (t 27))] (.cond (t 28) (.reg [q 10 (.mov (i 0))]) .skip)) (x [m 29 10,m 30 3,q 31 (.bin .eql (t 29) (t 30))] (.cond (t 31) (x [m 32 11,m 33 3,q 34 (.bin .sub (t 32) (t 33)),q 35 (.bin .add (t 34) (i 1)),m 8 35,q 9 (.mov (.const (.bool true)))] .ret) .skip))))) (.reg [m 16 11,q 17 (.bin .add (t 16) (i 1)),m 11 17])))))) (x [q 8 (.mov (i 0)),q 9 (.mov (.const (.bool false)))] .ret))))
theorem e_pages_Table_place:EOk 59 36 m_pages_Table_place Try.f59:=fun hn h =>
 enter Try.func59 (c:=(Try.f59.body.getD .skip)) rfl (by kernel_rfl) (Nat.le_of_ble_eq_true hn) h
/-- bitset.New -/
def m_bitset_New:MC:=(x [q 2 (.mov (.const (.pointer none)))] (x [m 3 0,q 4 (.mm true (t 3) (i 0)),q 5 (.mm false (t 4) (i 65536)),m 0 5] (x [m 6 0,q 7 (.bin .add (t 6) (i 64)),q 8 (.bin .sub (t 7) (i 1)),q 9 (.bin .quo (t 8) (i 64)),e 10 (.raw (o (.makeSlice 106 (t 9) (t 9)) 106)) [],m 11 0,q 12 (.bld [.slice none 0 0,.int .i64 0] [(0,(1,(t 10))),(1,(1,(t 11)))]),e 13 (.box 108 (t 12)) [],m 2 13] .ret)))
theorem e_bitset_New:EOk 60 14 m_bitset_New Try.f60:=fun hn h =>
 enter Try.func60 (c:=(Try.f60.body.getD .skip)) rfl (by kernel_rfl) (Nat.le_of_ble_eq_true hn) h
/-- (*slab.Slab).join -/
def m_slab_Slab_join:MC:=(x [m 5 0,m 6 1,e 7 (.call 69 [t 5,t 6]) [],m 4 7] (x [m 8 0,k 1 9 (.nilc (t 8)),k 2 10 (.fld (t 9) 0),r 3 11 (.ld (t 10)),k 4 12 (.mov (t 4)),k 5 13 (.mov (t 0)),k 6 14 (.nilc (t 13)),k 7 15 (.fld (t 14) 1),r 8 16 (.ldn (t 15) 1),k 9 17 (.mov (t 4)),k 10 18 (.mov (t 0)),k 11 19 (.nilc (t 18)),k 12 20 (.fld (t 19) 7),r 13 21 (.ld (t 20)),e 22 (.call 79 [t 16,t 17,t 21]) [3],e 23 (.call 65 [t 11,t 12,t 22]) []] (.reg [m 24 0,m 25 4,q 26 (.nilc (t 24)),q 27 (.fld (t 26) 7),w (.st (t 27) (t 25)) []])))
theorem e_slab_Slab_join:EOk 61 28 m_slab_Slab_join Try.f61:=fun hn h =>
 enter Try.func61 (c:=(Try.f61.body.getD .skip)) rfl (by kernel_rfl) (Nat.le_of_ble_eq_true hn) h
/-- (*slab.Slab).follow -/
def m_slab_Slab_follow:MC:=(x [q 4 (.mov (i 0)),q 5 (.mov (.const (.bool false)))] (x [m 13 0,q 14 (.nilc (t 13)),q 15 (.fld (t 14) 0),l 16 15,m 17 1,e 18 (.call 80 [t 16,t 17]) [],m 12 18,q 19 (.ext (t 12) 0),q 20 (.ext (t 12) 1),m 6 19,m 7 20] (x [m 22 0,q 23 (.nilc (t 22)),q 24 (.fld (t 23) 1),r 0 25 (.ldn (t 24) 1),m 26 1,m 27 6,e 28 (.call 81 [t 25,t 26,t 27]) [],m 21 28,q 29 (.ext (t 21) 0),q 30 (.ext (t 21) 1),m 8 29,m 9 30] (s (x [m 31 7,q 32 (.bin .neq (t 31) (i 0)),m 33 32,n 0 34 33 (.mov (t 9)),n 0 35 33 (.un .not (t 34)),q 36 (.pick (t 33) (.const (.bool true)) (t 35))] (.cond (t 36) (x [q 4 (.mov (i (-1))),q 5 (.mov (.const (.bool false)))] .ret) .skip)) (s (x [m 37 8,q 38 (.bin .eql (t 37) (i (-1)))] (.cond (t 38) (x [q 4 (.mov (i (-1))),q 5 (.mov (.const (.bool true)))] .ret) .skip)) (x [m 40 8,m 41 0,q 42 (.nilc (t 41)),q 43 (.fld (t 42) 3),l 44 43,e 45 (.call 29 [t 40,t 44]) [],m 39 45,q 46 (.ext (t 39) 0),q 47 (.ext (t 39) 1),m 10 46,m 11 47] (x [m 48 8,m 49 8,m 50 1,q 51 (.bin .neq (t 49) (t 50)),m 52 51,g 0 53 52 (.mov (t 10)),g 0 54 52 (.mov (t 0)),g 0 55 52 (.nilc (t 54)),g 0 56 52 (.fld (t 55) 2),h 0 57 52 (.ld (t 56)),g 0 58 52 (.bin .eql (t 53) (t 57)),q 59 (.pick (t 52) (t 58) (.const (.bool false))),m 60 59,g 0 61 60 (.mov (t 8)),g 0 62 60 (.mov (t 0)),g 0 63 60 (.mov (t 11)),.e (some 64) (some (60,true)) (.call 69 [t 62,t 63]) [],g 0 65 60 (.bin .eql (t 61) (t 64)),q 66 (.pick (t 60) (t 65) (.const (.bool false))),m 67 66,g 0 68 67 (.mov (t 0)),g 0 69 67 (.mov (t 11)),.e (some 70) (some (67,true)) (.call 49 [t 68,t 69]) [],g 0 71 67 (.bin .eql (t 70) (i 0)),q 72 (.pick (t 67) (t 71) (.const (.bool false))),m 4 48,m 5 72] .ret)))))))
theorem e_slab_Slab_follow:EOk 62 73 m_slab_Slab_follow Try.f62:=fun hn h =>
 enter Try.func62 (c:=(Try.f62.body.getD .skip)) rfl (by kernel_rfl) (Nat.le_of_ble_eq_true hn) h
/-- (*arena.Arena).Fill -/
def m_arena_Arena_Fill:MC:=(x [q 8 (.mov (i 0))] (s (x [m 11 0,m 12 1,m 13 2,e 14 (.call 82 [t 11,t 12,t 13]) [],m 9 14] (x [m 15 9,q 16 (.bin .neq (t 15) (i 0))] (.cond (t 16) (x [m 17 9,m 8 17] .ret) .skip))) (s (x [m 18 1,m 10 18] (.block 0 (.loop (s (x [m 19 10,m 20 1,m 21 2,q 22 (.bin .add (t 20) (t 21)),q 23 (.bin .lss (t 19) (t 22))] (.cond (t 23) .skip (.exit 0))) (s (.block 1 (.reg [m 26 0,q 27 (.nilc (t 26)),q 28 (.fld (t 27) 0),l 29 28,m 30 10,m 31 3,q 32 (.idx (t 29) (t 30) 1),w (.st (t 32) (t 31)) []])) (.reg [m 24 10,q 25 (.bin .add (t 24) (i 1)),m 10 25])))))) (x [q 8 (.mov (i 0))] .ret))))
theorem e_arena_Arena_Fill:EOk 63 33 m_arena_Arena_Fill Try.f63:=fun hn h =>
 enter Try.func63 (c:=(Try.f63.body.getD .skip)) rfl (by kernel_rfl) (Nat.le_of_ble_eq_true hn) h
/-- (*slab.Slab).canary -/
def m_slab_Slab_canary:MC:=(x [q 4 (.mov (i 0)),q 5 (.mov (.const (.int .u64 0)))] (x [m 7 0,m 8 1,e 9 (.call 69 [t 7,t 8]) [],m 6 9] (x [m 10 6,k 1 11 (.mov (t 0)),k 2 12 (.nilc (t 11)),k 3 13 (.fld (t 12) 3),r 4 14 (.ld (t 13)),k 7 17 (.mov (t 0)),k 8 18 (.nilc (t 17)),k 9 19 (.fld (t 18) 1),r 10 20 (.ldn (t 19) 1),k 11 21 (.mov (t 6)),e 15 (.call 55 [t 14]) [10],k 6 16 (.bin .add (t 10) (t 15)),e 22 (.call 83 [t 20,t 21]) [],k 13 4 (.mov (t 16)),k 14 5 (.mov (t 22))] .ret)))
theorem e_slab_Slab_canary:EOk 64 23 m_slab_Slab_canary Try.f64:=fun hn h =>
 enter Try.func64 (c:=(Try.f64.body.getD .skip)) rfl (by kernel_rfl) (Nat.le_of_ble_eq_true hn) h
/-- (*arena.Arena).SetWord -/
def m_arena_Arena_SetWord:MC:=(x [q 6 (.mov (i 0))] (s (x [m 8 0,m 9 1,e 10 (.call 84 [t 8,t 9]) [],m 7 10] (x [m 11 7,q 12 (.bin .neq (t 11) (i 0))] (.cond (t 12) (x [m 13 7,m 6 13] .ret) .skip))) (x [m 14 0,k 1 15 (.nilc (t 14)),k 2 16 (.fld (t 15) 0),r 3 17 (.ld (t 16)),k 4 18 (.mov (t 1)),k 5 19 (.slc (t 17) (some (t 18)) none 1),k 6 20 (.mov (t 2)),e 21 (.call 85 [i 8,t 20]) [3],e 22 (.raw (o (.call ⟨(.builtin .copy),[t 19,t 21].toArray,[65,65].toArray⟩) 3)) [3]] (x [q 6 (.mov (i 0))] .ret))))
theorem e_arena_Arena_SetWord:EOk 65 23 m_arena_Arena_SetWord Try.f65:=fun hn h =>
 enter Try.func65 (c:=(Try.f65.body.getD .skip)) rfl (by kernel_rfl) (Nat.le_of_ble_eq_true hn) h
/-- (*bitset.Set).Put -/
def m_bitset_Set_Put:MC:=(x [q 6 (.mov (i 0))] (s (.block 0 (x [m 21 0,q 22 (.nilp false (t 21)),m 20 22] (.cond (t 20) (x [q 6 (.mov (i 2))] .ret) (x [m 24 0,m 25 1,e 26 (.call 86 [t 24,t 25]) [],q 27 (.un .not (t 26)),m 23 27] (.cond (t 23) (x [q 6 (.mov (i 3))] .ret) (x [m 29 2,m 28 29] (.cond (t 28) (.reg [m 30 0,k 1 31 (.nilc (t 30)),k 2 32 (.fld (t 31) 0),r 3 33 (.ld (t 32)),k 4 34 (.mov (t 1)),k 5 35 (.bin .quo (t 34) (i 64)),k 6 36 (.idx (t 33) (t 35) 1),r 7 37 (.ld (t 36)),k 8 38 (.mov (t 1)),k 9 39 (.bin .rem (t 38) (i 64)),k 10 40 (.sh true (.const (.int .u64 1)) (t 39)),k 11 41 (.bin .or (t 37) (t 40)),k 12 42 (.idx (t 33) (t 35) 1),w (.st (t 42) (t 41)) []]) (.reg [m 7 0,k 1 8 (.nilc (t 7)),k 2 9 (.fld (t 8) 0),r 3 10 (.ld (t 9)),k 4 11 (.mov (t 1)),k 5 12 (.bin .quo (t 11) (i 64)),k 6 13 (.idx (t 10) (t 12) 1),r 7 14 (.ld (t 13)),k 8 15 (.mov (t 1)),k 9 16 (.bin .rem (t 15) (i 64)),k 10 17 (.sh true (.const (.int .u64 1)) (t 16)),k 11 18 (.bin .andNot (t 14) (t 17)),k 12 19 (.idx (t 10) (t 12) 1),w (.st (t 19) (t 18)) []])))))))) (x [q 6 (.mov (i 0))] .ret)))
theorem e_bitset_Set_Put:EOk 66 43 m_bitset_Set_Put Try.f66:=fun hn h =>
 enter Try.func66 (c:=(Try.f66.body.getD .skip)) rfl (by kernel_rfl) (Nat.le_of_ble_eq_true hn) h
/-- (*slab.Slab).must -/
def m_slab_Slab_must:MC:=(x [q 6 (.mov (i 0))] (s (.block 0 (x [m 8 0,q 9 (.nilp false (t 8)),m 7 9] (.cond (t 7) (x [q 6 (.mov (i 2))] .ret) (x [m 11 0,m 12 1,e 13 (.call 49 [t 11,t 12]) [],q 14 (.bin .eql (t 13) (i (-1))),m 10 14] (.cond (t 10) (x [q 6 (.mov (i 3))] .ret) (x [m 16 0,m 17 1,e 18 (.call 49 [t 16,t 17]) [],m 19 2,q 20 (.bin .neq (t 18) (t 19)),m 15 20] (.cond (t 15) (x [q 6 (.mov (i 8))] .ret) .skip))))))) (x [q 6 (.mov (i 0))] .ret)))
theorem e_slab_Slab_must:EOk 67 21 m_slab_Slab_must Try.f67:=fun hn h =>
 enter Try.func67 (c:=(Try.f67.body.getD .skip)) rfl (by kernel_rfl) (Nat.le_of_ble_eq_true hn) h
/-- (*slab.Slab).stands -/
def m_slab_Slab_stands:MC:=(x [q 4 (.mov (.const (.bool false)))] (x [m 10 0,m 11 1,e 12 (.call 64 [t 10,t 11]) [],m 9 12,q 13 (.ext (t 9) 0),q 14 (.ext (t 9) 1),m 5 13,m 6 14] (x [m 16 0,q 17 (.nilc (t 16)),q 18 (.fld (t 17) 0),l 19 18,m 20 5,e 21 (.call 80 [t 19,t 20]) [],m 15 21,q 22 (.ext (t 15) 0),q 23 (.ext (t 15) 1),m 7 22,m 8 23] (x [m 24 8,q 25 (.bin .eql (t 24) (i 0)),m 26 25,g 0 27 26 (.mov (t 7)),g 0 28 26 (.mov (t 6)),g 0 29 26 (.bin .eql (t 27) (t 28)),q 30 (.pick (t 26) (t 29) (.const (.bool false))),m 4 30] .ret))))
theorem e_slab_Slab_stands:EOk 68 31 m_slab_Slab_stands Try.f68:=fun hn h =>
 enter Try.func68 (c:=(Try.f68.body.getD .skip)) rfl (by kernel_rfl) (Nat.le_of_ble_eq_true hn) h
/-- (*slab.Slab).base -/
def m_slab_Slab_base:MC:=(x [q 4 (.mov (i 0))] (x [m 5 0,k 1 6 (.nilc (t 5)),k 2 7 (.fld (t 6) 2),r 3 8 (.ld (t 7)),k 4 9 (.mov (t 0)),k 5 10 (.nilc (t 9)),k 6 11 (.fld (t 10) 3),r 7 12 (.ld (t 11)),k 8 13 (.mov (t 1)),e 14 (.call 38 [t 8,t 12,t 13]) [],k 10 4 (.mov (t 14))] .ret))
theorem e_slab_Slab_base:EOk 69 15 m_slab_Slab_base Try.f69:=fun hn h =>
 enter Try.func69 (c:=(Try.f69.body.getD .skip)) rfl (by kernel_rfl) (Nat.le_of_ble_eq_true hn) h
/-- (*large.Set).stands -/
def m_large_Set_stands:MC:=(x [q 4 (.mov (.const (.bool false)))] (x [m 10 0,m 11 1,m 12 0,q 13 (.nilc (t 12)),q 14 (.fld (t 13) 2),l 15 14,m 16 1,r 0 17 (.raw (o (.lookup 88 (t 15) (t 16) false) 3)),e 18 (.call 73 [t 10,t 11,t 17]) [],m 9 18,q 19 (.ext (t 9) 0),q 20 (.ext (t 9) 1),m 5 19,m 6 20] (x [m 22 0,q 23 (.nilc (t 22)),q 24 (.fld (t 23) 0),l 25 24,m 26 5,e 27 (.call 80 [t 25,t 26]) [],m 21 27,q 28 (.ext (t 21) 0),q 29 (.ext (t 21) 1),m 7 28,m 8 29] (x [m 30 8,q 31 (.bin .eql (t 30) (i 0)),m 32 31,g 0 33 32 (.mov (t 7)),g 0 34 32 (.mov (t 6)),g 0 35 32 (.bin .eql (t 33) (t 34)),q 36 (.pick (t 32) (t 35) (.const (.bool false))),m 4 36] .ret))))
theorem e_large_Set_stands:EOk 70 37 m_large_Set_stands Try.f70:=fun hn h =>
 enter Try.func70 (c:=(Try.f70.body.getD .skip)) rfl (by kernel_rfl) (Nat.le_of_ble_eq_true hn) h
/-- large.run -/
def m_large_run:MC:=(x [q 2 (.mov (i 0))] (x [m 6 0,e 7 (.call 43 [t 6]) [],m 5 7,q 8 (.ext (t 5) 0),q 9 (.ext (t 5) 1),m 3 8,m 4 9] (x [m 10 3,m 2 10] .ret)))
theorem e_large_run:EOk 71 11 m_large_run Try.f71:=fun hn h =>
 enter Try.func71 (c:=(Try.f71.body.getD .skip)) rfl (by kernel_rfl) (Nat.le_of_ble_eq_true hn) h
/-- (*large.Set).meets -/
def m_large_Set_meets:MC:=(x [q 6 (.mov (.const (.bool false)))] (s (x [m 9 0,q 10 (.nilc (t 9)),q 11 (.fld (t 10) 2),l 12 11,e 13 (.raw (o (.range 88 (t 12)) 0)) []] (.block 0 (.loop (x [e 14 (.raw (o (.next (t 13) false) 0)) [],q 15 (.ext (t 14) 0)] (s (.cond (t 15) .skip (.exit 0)) (.block 1 (x [e 16 (.raw (o (.entry (t 13)) 0)) [],q 17 (.ext (t 16) 0),q 18 (.ext (t 16) 1),m 7 17,m 8 18] (x [m 19 1,m 20 7,m 21 8,e 22 (.call 71 [t 21]) [],q 23 (.bin .add (t 20) (t 22)),q 24 (.bin .lss (t 19) (t 23)),m 25 24,g 0 26 25 (.mov (t 7)),g 0 27 25 (.mov (t 1)),g 0 28 25 (.mov (t 2)),g 0 29 25 (.bin .add (t 27) (t 28)),g 0 30 25 (.bin .lss (t 26) (t 29)),q 31 (.pick (t 25) (t 30) (.const (.bool false)))] (.cond (t 31) (x [q 6 (.mov (.const (.bool true)))] .ret) .skip))))))))) (x [q 6 (.mov (.const (.bool false)))] .ret)))
theorem e_large_Set_meets:EOk 72 32 m_large_Set_meets Try.f72:=fun hn h =>
 enter Try.func72 (c:=(Try.f72.body.getD .skip)) rfl (by kernel_rfl) (Nat.le_of_ble_eq_true hn) h
/-- (*large.Set).canary -/
def m_large_Set_canary:MC:=(x [q 6 (.mov (i 0)),q 7 (.mov (.const (.int .u64 0)))] (x [m 8 1,k 1 9 (.mov (t 2)),k 6 14 (.mov (t 0)),k 7 15 (.nilc (t 14)),k 8 16 (.fld (t 15) 1),r 9 17 (.ldn (t 16) 1),k 10 18 (.mov (t 1)),k 11 19 (.bin .mul (i 256) (t 18)),e 10 (.call 71 [t 9]) [9],k 3 11 (.bin .add (t 8) (t 10)),k 4 12 (.bin .mul (i 256) (t 11)),k 5 13 (.bin .sub (t 12) (i 8)),e 20 (.call 83 [t 17,t 19]) [],k 13 6 (.mov (t 13)),k 14 7 (.mov (t 20))] .ret))
theorem e_large_Set_canary:EOk 73 21 m_large_Set_canary Try.f73:=fun hn h =>
 enter Try.func73 (c:=(Try.f73.body.getD .skip)) rfl (by kernel_rfl) (Nat.le_of_ble_eq_true hn) h
/-- (*bitset.Set).Len -/
def m_bitset_Set_Len:MC:=(x [q 2 (.mov (i 0))] (s (x [m 3 0,q 4 (.nilp false (t 3))] (.cond (t 4) (x [q 2 (.mov (i 0))] .ret) .skip)) (x [m 5 0,q 6 (.nilc (t 5)),q 7 (.fld (t 6) 1),l 8 7,m 2 8] .ret)))
theorem e_bitset_Set_Len:EOk 74 9 m_bitset_Set_Len Try.f74:=fun hn h =>
 enter Try.func74 (c:=(Try.f74.body.getD .skip)) rfl (by kernel_rfl) (Nat.le_of_ble_eq_true hn) h
/-- (*bitset.Set).Has -/
def m_bitset_Set_Has:MC:=(x [q 4 (.mov (.const (.bool false)))] (x [m 5 0,m 6 1,e 7 (.call 86 [t 5,t 6]) [],m 8 7,g 0 9 8 (.mov (t 0)),g 0 10 8 (.nilc (t 9)),g 0 11 8 (.fld (t 10) 0),h 0 12 8 (.ld (t 11)),g 0 13 8 (.mov (t 1)),g 0 14 8 (.bin .quo (t 13) (i 64)),g 0 15 8 (.idx (t 12) (t 14) 1),h 0 16 8 (.ld (t 15)),g 0 17 8 (.mov (t 1)),g 0 18 8 (.bin .rem (t 17) (i 64)),g 0 19 8 (.sh false (t 16) (t 18)),g 0 20 8 (.bin .and (t 19) (.const (.int .u64 1))),g 0 21 8 (.bin .eql (t 20) (.const (.int .u64 1))),q 22 (.pick (t 8) (t 21) (.const (.bool false))),m 4 22] .ret))
theorem e_bitset_Set_Has:EOk 75 23 m_bitset_Set_Has Try.f75:=fun hn h =>
 enter Try.func75 (c:=(Try.f75.body.getD .skip)) rfl (by kernel_rfl) (Nat.le_of_ble_eq_true hn) h
/-- (*slab.Slab).linked -/
def m_slab_Slab_linked:MC:=(x [q 2 (.mov (.const (.bool false)))] (x [q 3 (.mov (i 0))] (x [m 7 0,q 8 (.nilc (t 7)),q 9 (.fld (t 8) 7),l 10 9,m 4 10] (s (.block 0 (.loop (s (x [m 11 4,q 12 (.bin .neq (t 11) (i (-1))),m 13 12,g 0 14 13 (.mov (t 3)),g 0 15 13 (.mov (t 0)),g 0 16 13 (.nilc (t 15)),g 0 17 13 (.fld (t 16) 5),h 0 18 13 (.ld (t 17)),.e (some 19) (some (13,true)) (.call 74 [t 18]) [],g 0 20 13 (.bin .leq (t 14) (t 19)),q 21 (.pick (t 13) (t 20) (.const (.bool false)))] (.cond (t 21) .skip (.exit 0))) (.block 1 (x [m 23 0,m 24 4,e 25 (.call 62 [t 23,t 24]) [],m 22 25,q 26 (.ext (t 22) 0),q 27 (.ext (t 22) 1),m 5 26,m 6 27] (s (x [m 28 6,q 29 (.un .not (t 28))] (.cond (t 29) (x [q 2 (.mov (.const (.bool false)))] .ret) .skip)) (x [m 30 3,q 31 (.bin .add (t 30) (i 1)),m 3 31] (.reg [m 32 5,m 4 32])))))))) (x [m 33 3,m 34 0,e 35 (.call 46 [t 34,i 0]) [],q 36 (.bin .eql (t 33) (t 35)),m 2 36] .ret)))))
theorem e_slab_Slab_linked:EOk 76 37 m_slab_Slab_linked Try.f76:=fun hn h =>
 enter Try.func76 (c:=(Try.f76.body.getD .skip)) rfl (by kernel_rfl) (Nat.le_of_ble_eq_true hn) h
/-- (*slab.Slab).gone -/
def m_slab_Slab_gone:MC:=(x [q 4 (.mov (.const (.bool false)))] (x [m 8 0,k 1 9 (.nilc (t 8)),k 2 10 (.fld (t 9) 0),r 3 11 (.ld (t 10)),k 4 12 (.mov (t 0)),k 5 13 (.mov (t 1)),k 7 15 (.mov (t 0)),k 8 16 (.nilc (t 15)),k 9 17 (.fld (t 16) 3),r 10 18 (.ld (t 17)),e 14 (.call 69 [t 12,t 13]) [10,3],e 19 (.call 34 [t 18]) [3],e 20 (.call 87 [t 11,t 14,t 19]) [],k 13 7 (.mov (t 20)),k 14 21 (.ext (t 7) 0),k 15 22 (.ext (t 7) 1),k 16 5 (.mov (t 21)),k 17 6 (.mov (t 22))] (x [m 23 5,e 24 (.call 88 [t 23,.func 89]) [],q 25 (.un .not (t 24)),m 4 25] .ret)))
theorem e_slab_Slab_gone:EOk 77 26 m_slab_Slab_gone Try.f77:=fun hn h =>
 enter Try.func77 (c:=(Try.f77.body.getD .skip)) rfl (by kernel_rfl) (Nat.le_of_ble_eq_true hn) h
/-- (pages.Row).free -/
def m_pages_Row_free:MC:=(x [e 1 (.box 79 (t 0)) [],q 2 (.mov (.const (.bool false)))] (x [r 0 3 (.ldn (t 1) 4),q 4 (.bld [.int .i64 0,.int .i64 0,.int .i64 0,.int .i64 0] []),r 0 5 (.raw (o (.binOp .eql 79 (t 3) (t 4) 79) 4)),m 2 5] .ret))
theorem e_pages_Row_free:EOk 78 6 m_pages_Row_free Try.f78:=fun hn h =>
 enter Try.func78 (c:=(Try.f78.body.getD .skip)) rfl (by kernel_rfl) (Nat.le_of_ble_eq_true hn) h
/-- (link.Code).Put -/
def m_link_Code_Put:MC:=(x [e 3 (.box 57 (t 0)) [],q 6 (.mov (.const (.int .u64 0)))] (s (x [m 7 1,q 8 (.bin .lss (t 7) (i 0)),m 9 8,n 0 10 9 (.mov (t 2)),n 0 11 9 (.bin .lss (t 10) (i (-1))),q 12 (.pick (t 9) (.const (.bool true)) (t 11)),m 13 12,n 0 14 13 (.mov (t 2)),n 0 15 13 (.bin .gtr (t 14) (i 2147483647)),q 16 (.pick (t 13) (.const (.bool true)) (t 15))] (.cond (t 16) (x [q 6 (.mov (.const (.int .u64 0)))] .ret) .skip)) (x [m 17 2,q 18 (.bin .add (t 17) (i 1)),q 19 (.cvi .u64 (t 18)),q 20 (.bin .or (t 19) (.const (.int .u64 6510516211317473280))),r 0 21 (.ldn (t 3) 1),m 22 1,e 23 (.call 90 [t 21,t 22]) [],q 24 (.bin .xor (t 20) (t 23)),m 6 24] .ret)))
theorem e_link_Code_Put:EOk 79 25 m_link_Code_Put Try.f79:=fun hn h =>
 enter Try.func79 (c:=(Try.f79.body.getD .skip)) rfl (by kernel_rfl) (Nat.le_of_ble_eq_true hn) h
/-- (*arena.Arena).Word -/
def m_arena_Arena_Word:MC:=(x [q 4 (.mov (.const (.int .u64 0))),q 5 (.mov (i 0))] (s (x [m 7 0,m 8 1,e 9 (.call 84 [t 7,t 8]) [],m 6 9] (x [m 10 6,q 11 (.bin .neq (t 10) (i 0))] (.cond (t 11) (x [m 12 6,q 4 (.mov (.const (.int .u64 0))),m 5 12] .ret) .skip))) (x [m 13 0,q 14 (.nilc (t 13)),q 15 (.fld (t 14) 0),l 16 15,m 17 1,m 18 1,q 19 (.bin .add (t 18) (i 8)),q 20 (.slc (t 16) (some (t 17)) (some (t 19)) 1),e 21 (.call 91 [t 20]) [],m 4 21,q 5 (.mov (i 0))] .ret)))
theorem e_arena_Arena_Word:EOk 80 22 m_arena_Arena_Word Try.f80:=fun hn h =>
 enter Try.func80 (c:=(Try.f80.body.getD .skip)) rfl (by kernel_rfl) (Nat.le_of_ble_eq_true hn) h
/-- (link.Code).Get -/
def m_link_Code_Get:MC:=(x [e 3 (.box 57 (t 0)) [],q 6 (.mov (i 0)),q 7 (.mov (.const (.bool false)))] (s (x [m 9 1,q 10 (.bin .lss (t 9) (i 0))] (.cond (t 10) (x [q 6 (.mov (i 0)),q 7 (.mov (.const (.bool false)))] .ret) .skip)) (x [m 11 2,r 0 12 (.ldn (t 3) 1),m 13 1,e 14 (.call 90 [t 12,t 13]) [],q 15 (.bin .xor (t 11) (t 14)),m 8 15] (s (x [m 16 8,q 17 (.bin .andNot (t 16) (.const (.int .u64 4294967295))),q 18 (.bin .neq (t 17) (.const (.int .u64 6510516211317473280))),m 19 18,n 0 20 19 (.mov (t 8)),n 0 21 19 (.bin .and (t 20) (.const (.int .u64 4294967295))),n 0 22 19 (.bin .gtr (t 21) (.const (.int .u64 2147483648))),q 23 (.pick (t 19) (.const (.bool true)) (t 22))] (.cond (t 23) (x [q 6 (.mov (i 0)),q 7 (.mov (.const (.bool false)))] .ret) .skip)) (x [m 24 8,q 25 (.bin .and (t 24) (.const (.int .u64 4294967295))),q 26 (.cvi .i64 (t 25)),q 27 (.bin .sub (t 26) (i 1)),m 6 27,q 7 (.mov (.const (.bool true)))] .ret)))))
theorem e_link_Code_Get:EOk 81 28 m_link_Code_Get Try.f81:=fun hn h =>
 enter Try.func81 (c:=(Try.f81.body.getD .skip)) rfl (by kernel_rfl) (Nat.le_of_ble_eq_true hn) h
/-- (*arena.Arena).in -/
def m_arena_Arena_in:MC:=(x [q 6 (.mov (i 0))] (s (.block 0 (x [m 8 0,q 9 (.nilp false (t 8)),m 7 9] (.cond (t 7) (x [q 6 (.mov (i 2))] .ret) (x [m 11 1,q 12 (.bin .lss (t 11) (i 0)),m 13 12,n 0 14 13 (.mov (t 2)),n 0 15 13 (.bin .lss (t 14) (i 0)),q 16 (.pick (t 13) (.const (.bool true)) (t 15)),m 17 16,n 0 18 17 (.mov (t 2)),n 0 19 17 (.mov (t 0)),n 0 20 17 (.nilc (t 19)),n 0 21 17 (.fld (t 20) 0),p 0 22 17 (.ld (t 21)),n 0 23 17 (.len (t 22)),n 0 24 17 (.bin .gtr (t 18) (t 23)),q 25 (.pick (t 17) (.const (.bool true)) (t 24)),m 26 25,n 0 27 26 (.mov (t 1)),n 0 28 26 (.mov (t 0)),n 0 29 26 (.nilc (t 28)),n 0 30 26 (.fld (t 29) 0),p 0 31 26 (.ld (t 30)),n 0 32 26 (.len (t 31)),n 0 33 26 (.mov (t 2)),n 0 34 26 (.bin .sub (t 32) (t 33)),n 0 35 26 (.bin .gtr (t 27) (t 34)),q 36 (.pick (t 26) (.const (.bool true)) (t 35)),m 10 36] (.cond (t 10) (x [q 6 (.mov (i 3))] .ret) .skip))))) (x [q 6 (.mov (i 0))] .ret)))
theorem e_arena_Arena_in:EOk 82 37 m_arena_Arena_in Try.f82:=fun hn h =>
 enter Try.func82 (c:=(Try.f82.body.getD .skip)) rfl (by kernel_rfl) (Nat.le_of_ble_eq_true hn) h
/-- (link.Code).Canary -/
def m_link_Code_Canary:MC:=(x [e 2 (.box 57 (t 0)) [],q 4 (.mov (.const (.int .u64 0)))] (x [q 5 (.fld (t 2) 0),l 6 5,m 7 1,q 8 (.cvi .u64 (t 7)),q 9 (.bin .xor (t 6) (t 8)),e 10 (.call 52 [t 9]) [],m 4 10] .ret))
theorem e_link_Code_Canary:EOk 83 11 m_link_Code_Canary Try.f83:=fun hn h =>
 enter Try.func83 (c:=(Try.f83.body.getD .skip)) rfl (by kernel_rfl) (Nat.le_of_ble_eq_true hn) h
/-- (*arena.Arena).word -/
def m_arena_Arena_word:MC:=(x [q 4 (.mov (i 0))] (s (x [m 6 0,m 7 1,e 8 (.call 82 [t 6,t 7,i 8]) [],m 5 8] (x [m 9 5,q 10 (.bin .neq (t 9) (i 0))] (.cond (t 10) (x [m 11 5,m 4 11] .ret) .skip))) (s (x [m 12 1,q 13 (.bin .rem (t 12) (i 8)),q 14 (.bin .neq (t 13) (i 0))] (.cond (t 14) (x [q 4 (.mov (i 1))] .ret) .skip)) (x [q 4 (.mov (i 0))] .ret))))
theorem e_arena_Arena_word:EOk 84 15 m_arena_Arena_word Try.f84:=fun hn h =>
 enter Try.func84 (c:=(Try.f84.body.getD .skip)) rfl (by kernel_rfl) (Nat.le_of_ble_eq_true hn) h
/-- num.Put -/
def m_num_Put:MC:=(x [q 4 (.mov (.const (.slice none 0 0)))] (s (x [m 7 0,q 8 (.bin .lss (t 7) (i 1)),m 9 8,n 0 10 9 (.mov (t 0)),n 0 11 9 (.bin .gtr (t 10) (i 8)),q 12 (.pick (t 9) (.const (.bool true)) (t 11))] (.cond (t 12) (x [q 4 (.mov (.const (.slice none 0 0)))] .ret) .skip)) (x [m 13 0,e 14 (.raw (o (.makeSlice 65 (t 13) (t 13)) 65)) [],m 5 14] (s (x [m 15 5,q 16 (.len (t 15)),q 17 (.mov (i 0))] (.block 0 (.loop (x [q 18 (.bin .lss (t 17) (t 16))] (s (.cond (t 18) .skip (.exit 0)) (s (.block 1 (x [m 19 17,m 6 19] (.reg [m 20 5,m 21 6,m 22 1,m 23 6,q 24 (.bin .mul (i 8) (t 23)),q 25 (.sh false (t 22) (t 24)),q 26 (.cvi .u8 (t 25)),q 27 (.idx (t 20) (t 21) 1),w (.st (t 27) (t 26)) []]))) (.reg [q 28 (.bin .add (t 17) (i 1)),m 17 28]))))))) (x [m 29 5,m 4 29] .ret)))))
theorem e_num_Put:EOk 85 30 m_num_Put Try.f85:=fun hn h =>
 enter Try.func85 (c:=(Try.f85.body.getD .skip)) rfl (by kernel_rfl) (Nat.le_of_ble_eq_true hn) h
/-- (*bitset.Set).in -/
def m_bitset_Set_in:MC:=(x [q 4 (.mov (.const (.bool false)))] (x [m 5 1,q 6 (.bin .geq (t 5) (i 0)),m 7 6,g 0 8 7 (.mov (t 1)),g 0 9 7 (.mov (t 0)),.e (some 10) (some (7,true)) (.call 74 [t 9]) [],g 0 11 7 (.bin .lss (t 8) (t 10)),q 12 (.pick (t 7) (t 11) (.const (.bool false))),m 4 12] .ret))
theorem e_bitset_Set_in:EOk 86 13 m_bitset_Set_in Try.f86:=fun hn h =>
 enter Try.func86 (c:=(Try.f86.body.getD .skip)) rfl (by kernel_rfl) (Nat.le_of_ble_eq_true hn) h
/-- (*arena.Arena).Load -/
def m_arena_Arena_Load:MC:=(x [q 6 (.mov (.const (.slice none 0 0))),q 7 (.mov (i 0))] (s (x [m 9 0,m 10 1,m 11 2,e 12 (.call 82 [t 9,t 10,t 11]) [],m 8 12] (x [m 13 8,q 14 (.bin .neq (t 13) (i 0))] (.cond (t 14) (x [m 15 8,q 6 (.mov (.const (.slice none 0 0))),m 7 15] .ret) .skip))) (x [m 16 0,q 17 (.nilc (t 16)),q 18 (.fld (t 17) 0),l 19 18,m 20 1,m 21 1,m 22 2,q 23 (.bin .add (t 21) (t 22)),q 24 (.slc (t 19) (some (t 20)) (some (t 23)) 1),e 25 (.call 92 [t 24]) [],m 6 25,q 7 (.mov (i 0))] .ret)))
theorem e_arena_Arena_Load:EOk 87 26 m_arena_Arena_Load Try.f87:=fun hn h =>
 enter Try.func87 (c:=(Try.f87.body.getD .skip)) rfl (by kernel_rfl) (Nat.le_of_ble_eq_true hn) h
/-- slices.ContainsFunc[[]byte,byte] -/
def m_slices_ContainsFunc_byte_byte_:MC:=(x [q 4 (.mov (.const (.bool false)))] (x [m 5 0,m 6 1,e 7 (.call 93 [t 5,t 6]) [],q 8 (.bin .geq (t 7) (i 0)),m 4 8] .ret))
theorem e_slices_ContainsFunc_byte_byte_:EOk 88 9 m_slices_ContainsFunc_byte_byte_ Try.f88:=fun hn h =>
 enter Try.func88 (c:=(Try.f88.body.getD .skip)) rfl (by kernel_rfl) (Nat.le_of_ble_eq_true hn) h
/-- (*slab.Slab).gone$1 -/
def m_slab_Slab_gone_c1:MC:=(x [q 2 (.mov (.const (.bool false)))] (x [m 3 0,q 4 (.bin .neq (t 3) (.const (.int .u8 221))),m 2 4] .ret))
theorem e_slab_Slab_gone_c1:EOk 89 5 m_slab_Slab_gone_c1 Try.f89:=fun hn h =>
 enter Try.func89 (c:=(Try.f89.body.getD .skip)) rfl (by kernel_rfl) (Nat.le_of_ble_eq_true hn) h
/-- (link.Code).mask -/
def m_link_Code_mask:MC:=(x [e 2 (.box 57 (t 0)) [],q 4 (.mov (.const (.int .u64 0)))] (x [q 5 (.fld (t 2) 0),l 6 5,m 7 1,q 8 (.cvi .u64 (t 7)),q 9 (.bin .add (t 6) (t 8)),e 10 (.call 52 [t 9]) [],m 4 10] .ret))
theorem e_link_Code_mask:EOk 90 11 m_link_Code_mask Try.f90:=fun hn h =>
 enter Try.func90 (c:=(Try.f90.body.getD .skip)) rfl (by kernel_rfl) (Nat.le_of_ble_eq_true hn) h
/-- num.Get -/
def m_num_Get:MC:=(x [q 2 (.mov (.const (.int .u64 0)))] (x [q 3 (.mov (.const (.int .u64 0)))] (s (x [m 5 0,q 6 (.len (t 5)),q 7 (.mm false (t 6) (i 8)),q 8 (.mov (i 0))] (.block 0 (.loop (x [q 9 (.bin .lss (t 8) (t 7))] (s (.cond (t 9) .skip (.exit 0)) (s (.block 1 (x [m 10 8,m 4 10] (.reg [m 11 3,m 12 0,m 13 4,q 14 (.idx (t 12) (t 13) 1),l 15 14,q 16 (.cvi .u64 (t 15)),m 17 4,q 18 (.bin .mul (i 8) (t 17)),q 19 (.sh true (t 16) (t 18)),q 20 (.bin .or (t 11) (t 19)),m 3 20]))) (.reg [q 21 (.bin .add (t 8) (i 1)),m 8 21]))))))) (x [m 22 3,m 2 22] .ret))))
theorem e_num_Get:EOk 91 23 m_num_Get Try.f91:=fun hn h =>
 enter Try.func91 (c:=(Try.f91.body.getD .skip)) rfl (by kernel_rfl) (Nat.le_of_ble_eq_true hn) h
/-- bytes.Clone -/
def m_bytes_Clone:MC:=(x [q 2 (.mov (.const (.slice none 0 0)))] (s (x [m 3 0,r 0 4 (.raw (o (.binOp .eql 65 (t 3) (.const (.slice none 0 0)) 65) 4))] (.cond (t 4) (x [q 2 (.mov (.const (.slice none 0 0)))] .ret) .skip)) (x [e 5 (.bs0 5) [],m 6 0,e 7 (.raw (o (.call ⟨(.builtin .append),[t 5,t 6].toArray,[65,65].toArray⟩) 65)) [],m 2 7] .ret)))
theorem e_bytes_Clone:EOk 92 8 m_bytes_Clone Try.f92:=fun hn h =>
 enter Try.func92 (c:=(Try.f92.body.getD .skip)) rfl (by kernel_rfl) (Nat.le_of_ble_eq_true hn) h
/-- slices.IndexFunc[[]byte,byte] -/
def m_slices_IndexFunc_byte_byte_:MC:=(x [q 4 (.mov (i 0))] (s (x [m 6 0,q 7 (.len (t 6)),q 8 (.mov (i 0))] (.block 0 (.loop (x [q 9 (.bin .lss (t 8) (t 7))] (s (.cond (t 9) .skip (.exit 0)) (s (.block 1 (x [m 10 8,m 5 10] (x [m 11 1,m 12 0,m 13 5,q 14 (.idx (t 12) (t 13) 1),l 15 14,e 16 (.callv (t 11) [t 15]) []] (.cond (t 16) (x [m 17 5,m 4 17] .ret) .skip)))) (.reg [q 18 (.bin .add (t 8) (i 1)),m 8 18]))))))) (x [q 4 (.mov (i (-1)))] .ret)))
theorem e_slices_IndexFunc_byte_byte_:EOk 93 19 m_slices_IndexFunc_byte_byte_ Try.f93:=fun hn h =>
 enter Try.func93 (c:=(Try.f93.body.getD .skip)) rfl (by kernel_rfl) (Nat.le_of_ble_eq_true hn) h
end Go.Proofs.Ytkpeedlklgfeaaa
end
section
/- The table of the functions of this set,for runs by reckoning. Printed by a program of this repo (wip/tools/gencode.py). -/
namespace Go.Proofs.Ytkpeedlklgfeaaa
open Go Go.Tum

def isTmpR:RV→Bool
 | .tmp _=>true
 | _=>false
theorem rowKit {k np:Nat} {res:List RV} {m:MC} {fn:Func} (e:EOk k np m fn) (h1:callable Try.prog k=true:=by kernel_rfl) (h2:Nat.ble res.length 4=true:=by exact rfl) (h3:fn.results=(res.map RV.real).toArray:=by exact rfl) (h4:res.all isTmpR=true:=by exact rfl):FnRow.Ok Try.prog ⟨k,np,res,m⟩ :=
 ⟨h1,fn,Nat.le_of_ble_eq_true h2,h3,fun r hr=>(by have:=List.all_eq_true.1 h4 r hr; cases r with | tmp _=>exact trivial | cell _ _ _=>cases this),fun _ _ _ hn h=>e hn h⟩
def row_tumbrellaw09_RegionNew:FnRow:=⟨3,182,[(.tmp 6)],m_tumbrellaw09_RegionNew⟩
theorem row_tumbrellaw09_RegionNew_ok:row_tumbrellaw09_RegionNew.Ok Try.prog:=rowKit e_tumbrellaw09_RegionNew
def row_region_New:FnRow:=⟨4,59,[(.tmp 2),(.tmp 3)],m_region_New⟩
theorem row_region_New_ok:row_region_New.Ok Try.prog:=rowKit e_region_New
def row_tumbrelref09_May:FnRow:=⟨5,31,[(.tmp 4)],m_tumbrelref09_May⟩
theorem row_tumbrelref09_May_ok:row_tumbrelref09_May.Ok Try.prog:=rowKit e_tumbrelref09_May
def row_region_Region_Arena:FnRow:=⟨6,9,[(.tmp 2)],m_region_Region_Arena⟩
theorem row_region_Region_Arena_ok:row_region_Region_Arena.Ok Try.prog:=rowKit e_region_Region_Arena
def row_arena_Arena_Len:FnRow:=⟨7,10,[(.tmp 2)],m_arena_Arena_Len⟩
theorem row_arena_Arena_Len_ok:row_arena_Arena_Len.Ok Try.prog:=rowKit e_arena_Arena_Len
def row_region_Region_Config:FnRow:=⟨8,10,[(.cell 2 28 3)],m_region_Region_Config⟩
theorem row_region_Region_Config_ok:row_region_Region_Config.Ok Try.prog:=⟨(by kernel_rfl:callable Try.prog 8=true),Try.f8,Nat.le_of_ble_eq_true rfl,rfl,fun r hr=>(by rcases List.mem_cons.1 hr with rfl | hr; exact (by show aggT Try.prog 28=some 3; kernel_rfl); exact (by cases hr)),fun _ _ _ hn h=>e_region_Region_Config hn h⟩
def row_region_Region_Pages:FnRow:=⟨9,9,[(.tmp 2)],m_region_Region_Pages⟩
theorem row_region_Region_Pages_ok:row_region_Region_Pages.Ok Try.prog:=rowKit e_region_Region_Pages
def row_pages_Table_Len:FnRow:=⟨10,10,[(.tmp 2)],m_pages_Table_Len⟩
theorem row_pages_Table_Len_ok:row_pages_Table_Len.Ok Try.prog:=rowKit e_pages_Table_Len
def row_region_Region_Find:FnRow:=⟨11,73,[(.cell 4 37 6),(.tmp 5)],m_region_Region_Find⟩
theorem row_region_Region_Find_ok:row_region_Region_Find.Ok Try.prog:=⟨(by kernel_rfl:callable Try.prog 11=true),Try.f11,Nat.le_of_ble_eq_true rfl,rfl,fun r hr=>(by rcases List.mem_cons.1 hr with rfl | hr; exact (by show aggT Try.prog 37=some 6; kernel_rfl); exact (by rcases List.mem_cons.1 hr with rfl | hr; exact trivial; exact (by cases hr))),fun _ _ _ hn h=>e_region_Region_Find hn h⟩
def row_region_Region_Open:FnRow:=⟨12,70,[(.tmp 6),(.tmp 7)],m_region_Region_Open⟩
theorem row_region_Region_Open_ok:row_region_Region_Open.Ok Try.prog:=rowKit e_region_Region_Open
def row_region_Region_Take:FnRow:=⟨13,29,[(.tmp 4),(.tmp 5)],m_region_Region_Take⟩
theorem row_region_Region_Take_ok:row_region_Region_Take.Ok Try.prog:=rowKit e_region_Region_Take
def row_region_Region_Drop:FnRow:=⟨14,51,[(.tmp 4),(.tmp 5)],m_region_Region_Drop⟩
theorem row_region_Region_Drop_ok:row_region_Region_Drop.Ok Try.prog:=rowKit e_region_Region_Drop
def row_region_Region_Great:FnRow:=⟨15,46,[(.tmp 4),(.tmp 5)],m_region_Region_Great⟩
theorem row_region_Region_Great_ok:row_region_Region_Great.Ok Try.prog:=rowKit e_region_Region_Great
def row_region_Region_Home:FnRow:=⟨16,40,[(.tmp 6),(.tmp 7)],m_region_Region_Home⟩
theorem row_region_Region_Home_ok:row_region_Region_Home.Ok Try.prog:=rowKit e_region_Region_Home
def row_region_Region_Give:FnRow:=⟨17,27,[(.tmp 4)],m_region_Region_Give⟩
theorem row_region_Region_Give_ok:row_region_Region_Give.Ok Try.prog:=rowKit e_region_Region_Give
def row_region_Region_Shut:FnRow:=⟨18,32,[(.tmp 4)],m_region_Region_Shut⟩
theorem row_region_Region_Shut_ok:row_region_Region_Shut.Ok Try.prog:=rowKit e_region_Region_Shut
def row_region_Region_Live:FnRow:=⟨19,62,[(.tmp 2)],m_region_Region_Live⟩
theorem row_region_Region_Live_ok:row_region_Region_Live.Ok Try.prog:=rowKit e_region_Region_Live
def row_region_Region_Owner:FnRow:=⟨20,21,[(.tmp 4)],m_region_Region_Owner⟩
theorem row_region_Region_Owner_ok:row_region_Region_Owner.Ok Try.prog:=rowKit e_region_Region_Owner
def row_region_Region_Count:FnRow:=⟨21,12,[(.tmp 6)],m_region_Region_Count⟩
theorem row_region_Region_Count_ok:row_region_Region_Count.Ok Try.prog:=rowKit e_region_Region_Count
def row_region_Region_Check:FnRow:=⟨22,31,[(.tmp 2)],m_region_Region_Check⟩
theorem row_region_Region_Check_ok:row_region_Region_Check.Ok Try.prog:=rowKit e_region_Region_Check
def row_tumbrellaw09_awake:FnRow:=⟨23,82,[(.tmp 0)],m_tumbrellaw09_awake⟩
theorem row_tumbrellaw09_awake_ok:row_tumbrellaw09_awake.Ok Try.prog:=rowKit e_tumbrellaw09_awake
def row_arena_New:FnRow:=⟨24,10,[(.tmp 2)],m_arena_New⟩
theorem row_arena_New_ok:row_arena_New.Ok Try.prog:=rowKit e_arena_New
def row_link_New:FnRow:=⟨25,7,[(.cell 2 57 1)],m_link_New⟩
theorem row_link_New_ok:row_link_New.Ok Try.prog:=⟨(by kernel_rfl:callable Try.prog 25=true),Try.f25,Nat.le_of_ble_eq_true rfl,rfl,fun r hr=>(by rcases List.mem_cons.1 hr with rfl | hr; exact (by show aggT Try.prog 57=some 1; kernel_rfl); exact (by cases hr)),fun _ _ _ hn h=>e_link_New hn h⟩
def row_pages_New:FnRow:=⟨26,9,[(.tmp 2)],m_pages_New⟩
theorem row_pages_New_ok:row_pages_New.Ok Try.prog:=rowKit e_pages_New
def row_large_New:FnRow:=⟨27,12,[(.tmp 4)],m_large_New⟩
theorem row_large_New_ok:row_large_New.Ok Try.prog:=rowKit e_large_New
def row_region_Region_slab:FnRow:=⟨28,13,[(.tmp 4)],m_region_Region_slab⟩
theorem row_region_Region_slab_ok:row_region_Region_slab.Ok Try.prog:=rowKit e_region_Region_slab
def row_class_Slot:FnRow:=⟨29,24,[(.tmp 4),(.tmp 5)],m_class_Slot⟩
theorem row_class_Slot_ok:row_class_Slot.Ok Try.prog:=rowKit e_class_Slot
def row_slab_Slab_Class:FnRow:=⟨30,9,[(.tmp 2)],m_slab_Slab_Class⟩
theorem row_slab_Slab_Class_ok:row_slab_Slab_Class.Ok Try.prog:=rowKit e_slab_Slab_Class
def row_region_Region_place:FnRow:=⟨31,23,[(.cell 6 37 6)],m_region_Region_place⟩
theorem row_region_Region_place_ok:row_region_Region_place.Ok Try.prog:=⟨(by kernel_rfl:callable Try.prog 31=true),Try.f31,Nat.le_of_ble_eq_true rfl,rfl,fun r hr=>(by rcases List.mem_cons.1 hr with rfl | hr; exact (by show aggT Try.prog 37=some 6; kernel_rfl); exact (by cases hr)),fun _ _ _ hn h=>e_region_Region_place hn h⟩
def row_pages_Table_Head:FnRow:=⟨32,19,[(.tmp 4),(.tmp 5)],m_pages_Table_Head⟩
theorem row_pages_Table_Head_ok:row_pages_Table_Head.Ok Try.prog:=rowKit e_pages_Table_Head
def row_large_Set_Size:FnRow:=⟨33,13,[(.tmp 4)],m_large_Set_Size⟩
theorem row_large_Set_Size_ok:row_large_Set_Size.Ok Try.prog:=rowKit e_large_Set_Size
def row_class_Size:FnRow:=⟨34,8,[(.tmp 2)],m_class_Size⟩
theorem row_class_Size_ok:row_class_Size.Ok Try.prog:=rowKit e_class_Size
def row_pages_Table_Map:FnRow:=⟨35,73,[(.tmp 8),(.tmp 9)],m_pages_Table_Map⟩
theorem row_pages_Table_Map_ok:row_pages_Table_Map.Ok Try.prog:=rowKit e_pages_Table_Map
def row_slab_Make:FnRow:=⟨36,55,[(.tmp 10),(.tmp 11)],m_slab_Make⟩
theorem row_slab_Make_ok:row_slab_Make.Ok Try.prog:=rowKit e_slab_Make
def row_slab_Slab_Take:FnRow:=⟨37,80,[(.tmp 2),(.tmp 3)],m_slab_Slab_Take⟩
theorem row_slab_Slab_Take_ok:row_slab_Slab_Take.Ok Try.prog:=rowKit e_slab_Slab_Take
def row_class_Base:FnRow:=⟨38,30,[(.tmp 6)],m_class_Base⟩
theorem row_class_Base_ok:row_class_Base.Ok Try.prog:=rowKit e_class_Base
def row_region_Region_base:FnRow:=⟨39,27,[(.cell 4 37 6),(.tmp 5)],m_region_Region_base⟩
theorem row_region_Region_base_ok:row_region_Region_base.Ok Try.prog:=⟨(by kernel_rfl:callable Try.prog 39=true),Try.f39,Nat.le_of_ble_eq_true rfl,rfl,fun r hr=>(by rcases List.mem_cons.1 hr with rfl | hr; exact (by show aggT Try.prog 37=some 6; kernel_rfl); exact (by rcases List.mem_cons.1 hr with rfl | hr; exact trivial; exact (by cases hr))),fun _ _ _ hn h=>e_region_Region_base hn h⟩
def row_slab_Slab_Drop:FnRow:=⟨40,43,[(.tmp 4),(.tmp 5)],m_slab_Slab_Drop⟩
theorem row_slab_Slab_Drop_ok:row_slab_Slab_Drop.Ok Try.prog:=rowKit e_slab_Slab_Drop
def row_large_Set_Drop:FnRow:=⟨41,41,[(.tmp 4),(.tmp 5)],m_large_Set_Drop⟩
theorem row_large_Set_Drop_ok:row_large_Set_Drop.Ok Try.prog:=rowKit e_large_Set_Drop
def row_pages_Table_Unmap:FnRow:=⟨42,26,[(.tmp 4)],m_pages_Table_Unmap⟩
theorem row_pages_Table_Unmap_ok:row_pages_Table_Unmap.Ok Try.prog:=rowKit e_pages_Table_Unmap
def row_class_Pages:FnRow:=⟨43,16,[(.tmp 2),(.tmp 3)],m_class_Pages⟩
theorem row_class_Pages_ok:row_class_Pages.Ok Try.prog:=rowKit e_class_Pages
def row_large_Set_Make:FnRow:=⟨44,71,[(.tmp 6)],m_large_Set_Make⟩
theorem row_large_Set_Make_ok:row_large_Set_Make.Ok Try.prog:=rowKit e_large_Set_Make
def row_slab_Slab_Owner:FnRow:=⟨45,9,[(.tmp 2)],m_slab_Slab_Owner⟩
theorem row_slab_Slab_Owner_ok:row_slab_Slab_Owner.Ok Try.prog:=rowKit e_slab_Slab_Owner
def row_slab_Slab_Count:FnRow:=⟨46,26,[(.tmp 4)],m_slab_Slab_Count⟩
theorem row_slab_Slab_Count_ok:row_slab_Slab_Count.Ok Try.prog:=rowKit e_slab_Slab_Count
def row_slab_Slab_Give:FnRow:=⟨47,21,[(.tmp 4)],m_slab_Slab_Give⟩
theorem row_slab_Slab_Give_ok:row_slab_Slab_Give.Ok Try.prog:=rowKit e_slab_Slab_Give
def row_class_Slots:FnRow:=⟨48,9,[(.tmp 2)],m_class_Slots⟩
theorem row_class_Slots_ok:row_class_Slots.Ok Try.prog:=rowKit e_class_Slots
def row_slab_Slab_State:FnRow:=⟨49,35,[(.tmp 4)],m_slab_Slab_State⟩
theorem row_slab_Slab_State_ok:row_slab_Slab_State.Ok Try.prog:=rowKit e_slab_Slab_State
def row_slab_Slab_Check:FnRow:=⟨50,39,[(.tmp 2)],m_slab_Slab_Check⟩
theorem row_slab_Slab_Check_ok:row_slab_Slab_Check.Ok Try.prog:=rowKit e_slab_Slab_Check
def row_large_Set_Check:FnRow:=⟨51,19,[(.tmp 2)],m_large_Set_Check⟩
theorem row_large_Set_Check_ok:row_large_Set_Check.Ok Try.prog:=rowKit e_large_Set_Check
def row_link_mix:FnRow:=⟨52,17,[(.tmp 2)],m_link_mix⟩
theorem row_link_mix_ok:row_link_mix.Ok Try.prog:=rowKit e_link_mix
def row_class_may:FnRow:=⟨53,9,[(.tmp 2)],m_class_may⟩
theorem row_class_may_ok:row_class_may.Ok Try.prog:=rowKit e_class_may
def row_slab_Slab_Page:FnRow:=⟨54,9,[(.tmp 2)],m_slab_Slab_Page⟩
theorem row_slab_Slab_Page_ok:row_slab_Slab_Page.Ok Try.prog:=rowKit e_slab_Slab_Page
def row_class_Room:FnRow:=⟨55,7,[(.tmp 2)],m_class_Room⟩
theorem row_class_Room_ok:row_class_Room.Ok Try.prog:=rowKit e_class_Room
def row_pages_Table_Row:FnRow:=⟨56,21,[(.cell 4 79 4)],m_pages_Table_Row⟩
theorem row_pages_Table_Row_ok:row_pages_Table_Row.Ok Try.prog:=⟨(by kernel_rfl:callable Try.prog 56=true),Try.f56,Nat.le_of_ble_eq_true rfl,rfl,fun r hr=>(by rcases List.mem_cons.1 hr with rfl | hr; exact (by show aggT Try.prog 79=some 4; kernel_rfl); exact (by cases hr)),fun _ _ _ hn h=>e_pages_Table_Row hn h⟩
def row_pages_Row_first:FnRow:=⟨57,16,[(.tmp 2)],m_pages_Row_first⟩
theorem row_pages_Row_first_ok:row_pages_Row_first.Ok Try.prog:=rowKit e_pages_Row_first
def row_pages_Table_cut:FnRow:=⟨58,18,[(.tmp 6),(.tmp 7)],m_pages_Table_cut⟩
theorem row_pages_Table_cut_ok:row_pages_Table_cut.Ok Try.prog:=rowKit e_pages_Table_cut
def row_pages_Table_place:FnRow:=⟨59,36,[(.tmp 8),(.tmp 9)],m_pages_Table_place⟩
theorem row_pages_Table_place_ok:row_pages_Table_place.Ok Try.prog:=rowKit e_pages_Table_place
def row_bitset_New:FnRow:=⟨60,14,[(.tmp 2)],m_bitset_New⟩
theorem row_bitset_New_ok:row_bitset_New.Ok Try.prog:=rowKit e_bitset_New
def row_slab_Slab_join:FnRow:=⟨61,28,[],m_slab_Slab_join⟩
theorem row_slab_Slab_join_ok:row_slab_Slab_join.Ok Try.prog:=rowKit e_slab_Slab_join
def row_slab_Slab_follow:FnRow:=⟨62,73,[(.tmp 4),(.tmp 5)],m_slab_Slab_follow⟩
theorem row_slab_Slab_follow_ok:row_slab_Slab_follow.Ok Try.prog:=rowKit e_slab_Slab_follow
def row_arena_Arena_Fill:FnRow:=⟨63,33,[(.tmp 8)],m_arena_Arena_Fill⟩
theorem row_arena_Arena_Fill_ok:row_arena_Arena_Fill.Ok Try.prog:=rowKit e_arena_Arena_Fill
def row_slab_Slab_canary:FnRow:=⟨64,23,[(.tmp 4),(.tmp 5)],m_slab_Slab_canary⟩
theorem row_slab_Slab_canary_ok:row_slab_Slab_canary.Ok Try.prog:=rowKit e_slab_Slab_canary
def row_arena_Arena_SetWord:FnRow:=⟨65,23,[(.tmp 6)],m_arena_Arena_SetWord⟩
theorem row_arena_Arena_SetWord_ok:row_arena_Arena_SetWord.Ok Try.prog:=rowKit e_arena_Arena_SetWord
def row_bitset_Set_Put:FnRow:=⟨66,43,[(.tmp 6)],m_bitset_Set_Put⟩
theorem row_bitset_Set_Put_ok:row_bitset_Set_Put.Ok Try.prog:=rowKit e_bitset_Set_Put
def row_slab_Slab_must:FnRow:=⟨67,21,[(.tmp 6)],m_slab_Slab_must⟩
theorem row_slab_Slab_must_ok:row_slab_Slab_must.Ok Try.prog:=rowKit e_slab_Slab_must
def row_slab_Slab_stands:FnRow:=⟨68,31,[(.tmp 4)],m_slab_Slab_stands⟩
theorem row_slab_Slab_stands_ok:row_slab_Slab_stands.Ok Try.prog:=rowKit e_slab_Slab_stands
def row_slab_Slab_base:FnRow:=⟨69,15,[(.tmp 4)],m_slab_Slab_base⟩
theorem row_slab_Slab_base_ok:row_slab_Slab_base.Ok Try.prog:=rowKit e_slab_Slab_base
def row_large_Set_stands:FnRow:=⟨70,37,[(.tmp 4)],m_large_Set_stands⟩
theorem row_large_Set_stands_ok:row_large_Set_stands.Ok Try.prog:=rowKit e_large_Set_stands
def row_large_run:FnRow:=⟨71,11,[(.tmp 2)],m_large_run⟩
theorem row_large_run_ok:row_large_run.Ok Try.prog:=rowKit e_large_run
def row_large_Set_meets:FnRow:=⟨72,32,[(.tmp 6)],m_large_Set_meets⟩
theorem row_large_Set_meets_ok:row_large_Set_meets.Ok Try.prog:=rowKit e_large_Set_meets
def row_large_Set_canary:FnRow:=⟨73,21,[(.tmp 6),(.tmp 7)],m_large_Set_canary⟩
theorem row_large_Set_canary_ok:row_large_Set_canary.Ok Try.prog:=rowKit e_large_Set_canary
def row_bitset_Set_Len:FnRow:=⟨74,9,[(.tmp 2)],m_bitset_Set_Len⟩
theorem row_bitset_Set_Len_ok:row_bitset_Set_Len.Ok Try.prog:=rowKit e_bitset_Set_Len
def row_bitset_Set_Has:FnRow:=⟨75,23,[(.tmp 4)],m_bitset_Set_Has⟩
theorem row_bitset_Set_Has_ok:row_bitset_Set_Has.Ok Try.prog:=rowKit e_bitset_Set_Has
def row_slab_Slab_linked:FnRow:=⟨76,37,[(.tmp 2)],m_slab_Slab_linked⟩
theorem row_slab_Slab_linked_ok:row_slab_Slab_linked.Ok Try.prog:=rowKit e_slab_Slab_linked
def row_slab_Slab_gone:FnRow:=⟨77,26,[(.tmp 4)],m_slab_Slab_gone⟩
theorem row_slab_Slab_gone_ok:row_slab_Slab_gone.Ok Try.prog:=rowKit e_slab_Slab_gone
def row_pages_Row_free:FnRow:=⟨78,6,[(.tmp 2)],m_pages_Row_free⟩
theorem row_pages_Row_free_ok:row_pages_Row_free.Ok Try.prog:=rowKit e_pages_Row_free
def row_link_Code_Put:FnRow:=⟨79,25,[(.tmp 6)],m_link_Code_Put⟩
theorem row_link_Code_Put_ok:row_link_Code_Put.Ok Try.prog:=rowKit e_link_Code_Put
def row_arena_Arena_Word:FnRow:=⟨80,22,[(.tmp 4),(.tmp 5)],m_arena_Arena_Word⟩
theorem row_arena_Arena_Word_ok:row_arena_Arena_Word.Ok Try.prog:=rowKit e_arena_Arena_Word
def row_link_Code_Get:FnRow:=⟨81,28,[(.tmp 6),(.tmp 7)],m_link_Code_Get⟩
theorem row_link_Code_Get_ok:row_link_Code_Get.Ok Try.prog:=rowKit e_link_Code_Get
def row_arena_Arena_in:FnRow:=⟨82,37,[(.tmp 6)],m_arena_Arena_in⟩
theorem row_arena_Arena_in_ok:row_arena_Arena_in.Ok Try.prog:=rowKit e_arena_Arena_in
def row_link_Code_Canary:FnRow:=⟨83,11,[(.tmp 4)],m_link_Code_Canary⟩
theorem row_link_Code_Canary_ok:row_link_Code_Canary.Ok Try.prog:=rowKit e_link_Code_Canary
def row_arena_Arena_word:FnRow:=⟨84,15,[(.tmp 4)],m_arena_Arena_word⟩
theorem row_arena_Arena_word_ok:row_arena_Arena_word.Ok Try.prog:=rowKit e_arena_Arena_word
def row_num_Put:FnRow:=⟨85,30,[(.tmp 4)],m_num_Put⟩
theorem row_num_Put_ok:row_num_Put.Ok Try.prog:=rowKit e_num_Put
def row_bitset_Set_in:FnRow:=⟨86,13,[(.tmp 4)],m_bitset_Set_in⟩
theorem row_bitset_Set_in_ok:row_bitset_Set_in.Ok Try.prog:=rowKit e_bitset_Set_in
def row_arena_Arena_Load:FnRow:=⟨87,26,[(.tmp 6),(.tmp 7)],m_arena_Arena_Load⟩
theorem row_arena_Arena_Load_ok:row_arena_Arena_Load.Ok Try.prog:=rowKit e_arena_Arena_Load
def row_slices_ContainsFunc_byte_byte_:FnRow:=⟨88,9,[(.tmp 4)],m_slices_ContainsFunc_byte_byte_⟩
theorem row_slices_ContainsFunc_byte_byte__ok:row_slices_ContainsFunc_byte_byte_.Ok Try.prog:=rowKit e_slices_ContainsFunc_byte_byte_
def row_slab_Slab_gone_c1:FnRow:=⟨89,5,[(.tmp 2)],m_slab_Slab_gone_c1⟩
theorem row_slab_Slab_gone_c1_ok:row_slab_Slab_gone_c1.Ok Try.prog:=rowKit e_slab_Slab_gone_c1
def row_link_Code_mask:FnRow:=⟨90,11,[(.tmp 4)],m_link_Code_mask⟩
theorem row_link_Code_mask_ok:row_link_Code_mask.Ok Try.prog:=rowKit e_link_Code_mask
def row_num_Get:FnRow:=⟨91,23,[(.tmp 2)],m_num_Get⟩
theorem row_num_Get_ok:row_num_Get.Ok Try.prog:=rowKit e_num_Get
def row_bytes_Clone:FnRow:=⟨92,8,[(.tmp 2)],m_bytes_Clone⟩
theorem row_bytes_Clone_ok:row_bytes_Clone.Ok Try.prog:=rowKit e_bytes_Clone
def row_slices_IndexFunc_byte_byte_:FnRow:=⟨93,19,[(.tmp 4)],m_slices_IndexFunc_byte_byte_⟩
theorem row_slices_IndexFunc_byte_byte__ok:row_slices_IndexFunc_byte_byte_.Ok Try.prog:=rowKit e_slices_IndexFunc_byte_byte_
def rows:List FnRow:=[row_tumbrellaw09_RegionNew,row_region_New,row_tumbrelref09_May,row_region_Region_Arena,row_arena_Arena_Len,row_region_Region_Config,row_region_Region_Pages,row_pages_Table_Len,row_region_Region_Find,row_region_Region_Open,row_region_Region_Take,row_region_Region_Drop,row_region_Region_Great,row_region_Region_Home,row_region_Region_Give,row_region_Region_Shut,row_region_Region_Live,row_region_Region_Owner,row_region_Region_Count,row_region_Region_Check,row_tumbrellaw09_awake,row_arena_New,row_link_New,row_pages_New,row_large_New,row_region_Region_slab,row_class_Slot,row_slab_Slab_Class,row_region_Region_place,row_pages_Table_Head,row_large_Set_Size,row_class_Size,row_pages_Table_Map,row_slab_Make,row_slab_Slab_Take,row_class_Base,row_region_Region_base,row_slab_Slab_Drop,row_large_Set_Drop,row_pages_Table_Unmap,row_class_Pages,row_large_Set_Make,row_slab_Slab_Owner,row_slab_Slab_Count,row_slab_Slab_Give,row_class_Slots,row_slab_Slab_State,row_slab_Slab_Check,row_large_Set_Check,row_link_mix,row_class_may,row_slab_Slab_Page,row_class_Room,row_pages_Table_Row,row_pages_Row_first,row_pages_Table_cut,row_pages_Table_place,row_bitset_New,row_slab_Slab_join,row_slab_Slab_follow,row_arena_Arena_Fill,row_slab_Slab_canary,row_arena_Arena_SetWord,row_bitset_Set_Put,row_slab_Slab_must,row_slab_Slab_stands,row_slab_Slab_base,row_large_Set_stands,row_large_run,row_large_Set_meets,row_large_Set_canary,row_bitset_Set_Len,row_bitset_Set_Has,row_slab_Slab_linked,row_slab_Slab_gone,row_pages_Row_free,row_link_Code_Put,row_arena_Arena_Word,row_link_Code_Get,row_arena_Arena_in,row_link_Code_Canary,row_arena_Arena_word,row_num_Put,row_bitset_Set_in,row_arena_Arena_Load,row_slices_ContainsFunc_byte_byte_,row_slab_Slab_gone_c1,row_link_Code_mask,row_num_Get,row_bytes_Clone,row_slices_IndexFunc_byte_byte_]
theorem rows_ok:∀ x∈rows,x.Ok Try.prog:=by
 refine List.forall_mem_cons.2 ⟨row_tumbrellaw09_RegionNew_ok,?_⟩
 refine List.forall_mem_cons.2 ⟨row_region_New_ok,?_⟩
 refine List.forall_mem_cons.2 ⟨row_tumbrelref09_May_ok,?_⟩
 refine List.forall_mem_cons.2 ⟨row_region_Region_Arena_ok,?_⟩
 refine List.forall_mem_cons.2 ⟨row_arena_Arena_Len_ok,?_⟩
 refine List.forall_mem_cons.2 ⟨row_region_Region_Config_ok,?_⟩
 refine List.forall_mem_cons.2 ⟨row_region_Region_Pages_ok,?_⟩
 refine List.forall_mem_cons.2 ⟨row_pages_Table_Len_ok,?_⟩
 refine List.forall_mem_cons.2 ⟨row_region_Region_Find_ok,?_⟩
 refine List.forall_mem_cons.2 ⟨row_region_Region_Open_ok,?_⟩
 refine List.forall_mem_cons.2 ⟨row_region_Region_Take_ok,?_⟩
 refine List.forall_mem_cons.2 ⟨row_region_Region_Drop_ok,?_⟩
 refine List.forall_mem_cons.2 ⟨row_region_Region_Great_ok,?_⟩
 refine List.forall_mem_cons.2 ⟨row_region_Region_Home_ok,?_⟩
 refine List.forall_mem_cons.2 ⟨row_region_Region_Give_ok,?_⟩
 refine List.forall_mem_cons.2 ⟨row_region_Region_Shut_ok,?_⟩
 refine List.forall_mem_cons.2 ⟨row_region_Region_Live_ok,?_⟩
 refine List.forall_mem_cons.2 ⟨row_region_Region_Owner_ok,?_⟩
 refine List.forall_mem_cons.2 ⟨row_region_Region_Count_ok,?_⟩
 refine List.forall_mem_cons.2 ⟨row_region_Region_Check_ok,?_⟩
 refine List.forall_mem_cons.2 ⟨row_tumbrellaw09_awake_ok,?_⟩
 refine List.forall_mem_cons.2 ⟨row_arena_New_ok,?_⟩
 refine List.forall_mem_cons.2 ⟨row_link_New_ok,?_⟩
 refine List.forall_mem_cons.2 ⟨row_pages_New_ok,?_⟩
 refine List.forall_mem_cons.2 ⟨row_large_New_ok,?_⟩
 refine List.forall_mem_cons.2 ⟨row_region_Region_slab_ok,?_⟩
 refine List.forall_mem_cons.2 ⟨row_class_Slot_ok,?_⟩
 refine List.forall_mem_cons.2 ⟨row_slab_Slab_Class_ok,?_⟩
 refine List.forall_mem_cons.2 ⟨row_region_Region_place_ok,?_⟩
 refine List.forall_mem_cons.2 ⟨row_pages_Table_Head_ok,?_⟩
 refine List.forall_mem_cons.2 ⟨row_large_Set_Size_ok,?_⟩
 refine List.forall_mem_cons.2 ⟨row_class_Size_ok,?_⟩
 refine List.forall_mem_cons.2 ⟨row_pages_Table_Map_ok,?_⟩
 refine List.forall_mem_cons.2 ⟨row_slab_Make_ok,?_⟩
 refine List.forall_mem_cons.2 ⟨row_slab_Slab_Take_ok,?_⟩
 refine List.forall_mem_cons.2 ⟨row_class_Base_ok,?_⟩
 refine List.forall_mem_cons.2 ⟨row_region_Region_base_ok,?_⟩
 refine List.forall_mem_cons.2 ⟨row_slab_Slab_Drop_ok,?_⟩
 refine List.forall_mem_cons.2 ⟨row_large_Set_Drop_ok,?_⟩
 refine List.forall_mem_cons.2 ⟨row_pages_Table_Unmap_ok,?_⟩
 refine List.forall_mem_cons.2 ⟨row_class_Pages_ok,?_⟩
 refine List.forall_mem_cons.2 ⟨row_large_Set_Make_ok,?_⟩
 refine List.forall_mem_cons.2 ⟨row_slab_Slab_Owner_ok,?_⟩
 refine List.forall_mem_cons.2 ⟨row_slab_Slab_Count_ok,?_⟩
 refine List.forall_mem_cons.2 ⟨row_slab_Slab_Give_ok,?_⟩
 refine List.forall_mem_cons.2 ⟨row_class_Slots_ok,?_⟩
 refine List.forall_mem_cons.2 ⟨row_slab_Slab_State_ok,?_⟩
 refine List.forall_mem_cons.2 ⟨row_slab_Slab_Check_ok,?_⟩
 refine List.forall_mem_cons.2 ⟨row_large_Set_Check_ok,?_⟩
 refine List.forall_mem_cons.2 ⟨row_link_mix_ok,?_⟩
 refine List.forall_mem_cons.2 ⟨row_class_may_ok,?_⟩
 refine List.forall_mem_cons.2 ⟨row_slab_Slab_Page_ok,?_⟩
 refine List.forall_mem_cons.2 ⟨row_class_Room_ok,?_⟩
 refine List.forall_mem_cons.2 ⟨row_pages_Table_Row_ok,?_⟩
 refine List.forall_mem_cons.2 ⟨row_pages_Row_first_ok,?_⟩
 refine List.forall_mem_cons.2 ⟨row_pages_Table_cut_ok,?_⟩
 refine List.forall_mem_cons.2 ⟨row_pages_Table_place_ok,?_⟩
 refine List.forall_mem_cons.2 ⟨row_bitset_New_ok,?_⟩
 refine List.forall_mem_cons.2 ⟨row_slab_Slab_join_ok,?_⟩
 refine List.forall_mem_cons.2 ⟨row_slab_Slab_follow_ok,?_⟩
 refine List.forall_mem_cons.2 ⟨row_arena_Arena_Fill_ok,?_⟩
 refine List.forall_mem_cons.2 ⟨row_slab_Slab_canary_ok,?_⟩
 refine List.forall_mem_cons.2 ⟨row_arena_Arena_SetWord_ok,?_⟩
 refine List.forall_mem_cons.2 ⟨row_bitset_Set_Put_ok,?_⟩
 refine List.forall_mem_cons.2 ⟨row_slab_Slab_must_ok,?_⟩
 refine List.forall_mem_cons.2 ⟨row_slab_Slab_stands_ok,?_⟩
 refine List.forall_mem_cons.2 ⟨row_slab_Slab_base_ok,?_⟩
 refine List.forall_mem_cons.2 ⟨row_large_Set_stands_ok,?_⟩
 refine List.forall_mem_cons.2 ⟨row_large_run_ok,?_⟩
 refine List.forall_mem_cons.2 ⟨row_large_Set_meets_ok,?_⟩
 refine List.forall_mem_cons.2 ⟨row_large_Set_canary_ok,?_⟩
 refine List.forall_mem_cons.2 ⟨row_bitset_Set_Len_ok,?_⟩
 refine List.forall_mem_cons.2 ⟨row_bitset_Set_Has_ok,?_⟩
 refine List.forall_mem_cons.2 ⟨row_slab_Slab_linked_ok,?_⟩
 refine List.forall_mem_cons.2 ⟨row_slab_Slab_gone_ok,?_⟩
 refine List.forall_mem_cons.2 ⟨row_pages_Row_free_ok,?_⟩
 refine List.forall_mem_cons.2 ⟨row_link_Code_Put_ok,?_⟩
 refine List.forall_mem_cons.2 ⟨row_arena_Arena_Word_ok,?_⟩
 refine List.forall_mem_cons.2 ⟨row_link_Code_Get_ok,?_⟩
 refine List.forall_mem_cons.2 ⟨row_arena_Arena_in_ok,?_⟩
 refine List.forall_mem_cons.2 ⟨row_link_Code_Canary_ok,?_⟩
 refine List.forall_mem_cons.2 ⟨row_arena_Arena_word_ok,?_⟩
 refine List.forall_mem_cons.2 ⟨row_num_Put_ok,?_⟩
 refine List.forall_mem_cons.2 ⟨row_bitset_Set_in_ok,?_⟩
 refine List.forall_mem_cons.2 ⟨row_arena_Arena_Load_ok,?_⟩
 refine List.forall_mem_cons.2 ⟨row_slices_ContainsFunc_byte_byte__ok,?_⟩
 refine List.forall_mem_cons.2 ⟨row_slab_Slab_gone_c1_ok,?_⟩
 refine List.forall_mem_cons.2 ⟨row_link_Code_mask_ok,?_⟩
 refine List.forall_mem_cons.2 ⟨row_num_Get_ok,?_⟩
 refine List.forall_mem_cons.2 ⟨row_bytes_Clone_ok,?_⟩
 refine List.forall_mem_cons.2 ⟨row_slices_IndexFunc_byte_byte__ok,?_⟩
 exact fun x hx=>by cases hx
end Go.Proofs.Ytkpeedlklgfeaaa
end
section
namespace Go.Proofs.Ytkpeedlklgfeaaa
open Go Go.Tum Go.Tum.Base
set_option maxRecDepth 4000
theorem mix_tr (x:BitVec 64):Tr Try.prog 52 [.int .u64 (x.toNat:Int)] [] (fun v K=>v=.int .u64 ((mixW x).toNat:Int)∧K=[]):=by
 refine Tr.of row_link_mix_ok rfl ?_
 repeat' (first|refine qN ?_|refine dN ?_|refine dR ?_|refine d0 ?_|refine rT ?_|refine aI (hn:=?_)|refine aM ?_|refine qR ?_|refine qS ?_|exact ⟨rfl,rfl⟩|fail)
 first|refine L_rs ?_|refine L_reg ?_ | skip
 refine S_Q [] rfl rfl (QY.shrW (n:=30) rfl rfl) ?_
 first|refine L_rs ?_|refine L_reg ?_ | skip
 refine S_Q [] rfl rfl (QY.xorW rfl rfl) ?_
 first|refine L_rs ?_|refine L_reg ?_ | skip
 refine S_Q [] rfl rfl (QY.mulW (b:=0xBF58476D1CE4E5B9#64) rfl rfl) ?_
 repeat' (first|refine qN ?_|refine dN ?_|refine dR ?_|refine d0 ?_|refine rT ?_|refine aI (hn:=?_)|refine aM ?_|refine qR ?_|refine qS ?_|exact ⟨rfl,rfl⟩|fail)
 first|refine L_rs ?_|refine L_reg ?_ | skip
 refine S_Q [] rfl rfl (QY.shrW (n:=27) rfl rfl) ?_
 first|refine L_rs ?_|refine L_reg ?_ | skip
 refine S_Q [] rfl rfl (QY.xorW rfl rfl) ?_
 first|refine L_rs ?_|refine L_reg ?_ | skip
 refine S_Q [] rfl rfl (QY.mulW (b:=0x94D049BB133111EB#64) rfl rfl) ?_
 repeat' (first|refine qN ?_|refine dN ?_|refine dR ?_|refine d0 ?_|refine rT ?_|refine aI (hn:=?_)|refine aM ?_|refine qR ?_|refine qS ?_|exact ⟨rfl,rfl⟩|fail)
 first|refine L_rs ?_|refine L_reg ?_ | skip
 refine S_Q [] rfl rfl (QY.shrW (n:=31) rfl rfl) ?_
 first|refine L_rs ?_|refine L_reg ?_ | skip
 refine S_Q [] rfl rfl (QY.xorW rfl rfl) ?_
 repeat' (first|refine qN ?_|refine dN ?_|refine dR ?_|refine d0 ?_|refine rT ?_|refine aI (hn:=?_)|refine aM ?_|refine qR ?_|refine qS ?_|exact ⟨rfl,rfl⟩|fail)
theorem linkNew_tr (x:BitVec 64):Tr Try.prog 25 [.int .u64 (x.toNat:Int)] [] (fun v K=>v=.agg ⟨[.int .u64 ((keyW x).toNat:Int)]⟩∧K=[]):=by
 refine Tr.of row_link_New_ok rfl ?_
 repeat' (first|refine qN ?_|refine dN ?_|refine dR ?_|refine d0 ?_|refine rT ?_|refine aA ?_|refine aI (hn:=?_)|refine qR ?_|refine qS ?_|exact ⟨rfl,rfl⟩|fail)
 first|refine L_rs ?_|refine L_reg ?_ | skip
 refine S_Q [] rfl rfl (QY.addW (b:=0x9E3779B97F4A7C15#64) rfl rfl) ?_
 first|refine L_rs ?_|refine L_reg ?_ | skip
 refine cP [] (mix_tr (x+0x9E3779B97F4A7C15#64)) ?_
 repeat' (first|refine qN ?_|refine dN ?_|refine dR ?_|refine d0 ?_|refine rT ?_|refine aA ?_|refine aI (hn:=?_)|refine qR ?_|refine qS ?_|exact ⟨rfl,rfl⟩|fail)
abbrev slB (b n:Nat):Value:=.slice (some ⟨b,0,none⟩) n n
abbrev ptr (b:Nat):Value:=.pointer (some ⟨b,0,none⟩)
def BL (bs:Bytes):LB:=.gro 1 (rowsC byteC bs)
def AL (bs:Bytes):LH:=[.cells 0 [slB 1 bs.length],BL bs]
set_option maxRecDepth 4000 in
theorem arenaNew_tr (p:Int) (n:Nat) (hn:256*min (max p 0) 256=n):Tr Try.prog 24 [.int .i64 p] [] (fun v K=>v=ptr 0∧K=AL (List.replicate n 0)):=by
 refine Tr.of row_arena_New_ok rfl ?_
 repeat' (first|refine qN ?_|refine dN ?_|refine dR ?_|refine d0 ?_|refine rT ?_|refine S_Q [] rfl rfl (QY.mul rfl rfl hn (by omega) (by omega)) ?_|refine aI (hn:=?_)|refine aM ?_|refine qR ?_|refine qS ?_|exact ⟨rfl,rfl⟩|fail)
 first|refine L_rs ?_|refine L_reg ?_ | skip
 refine eE rfl rfl (EW.mk (sz:=1) (bytes:=1) (k:=n) (zs:=byteC 0) rfl (by kernel_rfl) rfl rfl (by omega) (by omega)) ?_
 conv=>whnf
 repeat' (first|refine qN ?_|refine dN ?_|refine dR ?_|refine d0 ?_|refine rT ?_|refine aI (hn:=?_)|refine aM ?_|refine qR ?_|refine qS ?_|exact ⟨rfl,rfl⟩|fail)
 refine L_ret (RetQ.pick [1,0] rfl rfl rfl rfl ⟨rfl,?_⟩)
 rw [repC_rows (0:BitVec 8),AL,BL,List.length_replicate]
 rfl
theorem arenaLen_tr (bs:Bytes):Tr Try.prog 7 [ptr 0] (AL bs) (fun v K=>v=.int .i64 bs.length∧K=AL bs):=by
 refine Tr.of row_arena_Arena_Len_ok rfl ?_
 repeat' (first|refine qN ?_|refine dN ?_|refine dR ?_|refine d0 ?_|refine rT ?_|refine qT ?_|refine qU ?_|refine qL ?_|refine qK ?_|refine iF (fun h=>?_) (fun h=>?_)|refine aI (hn:=?_)|refine qR ?_|refine qS ?_|exact ⟨rfl,rfl⟩|fail)
end Go.Proofs.Ytkpeedlklgfeaaa
end
section
namespace Go.Tum.Base
open Go Go.Tum
abbrev Great:=IMap
end Go.Tum.Base
namespace Go.Proofs.Ytkpeedlklgfeaaa
open Go Go.Tum Go.Tum.Base
set_option maxRecDepth 4000
theorem largeNew_tr (bs:Bytes) (key:BitVec 64):TrK Try.prog [] [0,1] 27 [ptr 0,.agg ⟨[.int .u64 (key.toNat:Int)]⟩] (AL bs) (fun v K=>v=ptr 2∧K=AL bs++[.cells 0 [ptr 0,.int .u64 (key.toNat:Int),.map (some 3)],.imap [] 0]):=by
 refine Tr.of row_large_New_ok rfl ?_
 repeat' (first|refine qN ?_|refine dN ?_|refine dR ?_|refine d0 ?_|refine rT ?_|refine qT ?_|refine qU ?_|refine qL ?_|refine qK ?_|refine iF (fun h=>?_) (fun h=>?_)|refine aI (hn:=?_)|refine qR ?_|refine qS ?_|exact ⟨rfl,rfl⟩|fail)
 first|refine L_rs ?_|refine L_reg ?_ | skip
 refine eE rfl rfl (EW.imake rfl) ?_
 conv=>whnf
 repeat' (first|refine qN ?_|refine dN ?_|refine dR ?_|refine d0 ?_|refine rT ?_|refine qT ?_|refine qU ?_|refine qL ?_|refine qK ?_|refine iF (fun h=>?_) (fun h=>?_)|refine aI (hn:=?_)|refine qR ?_|refine qS ?_|exact ⟨rfl,rfl⟩|fail)
 exact L_ret (RetQ.pick [0,1,4,3] rfl rfl rfl rfl ⟨rfl,rfl⟩)
end Go.Proofs.Ytkpeedlklgfeaaa
end
section
namespace Go.Tum.Base
open Go Go.Tum
structure PRow where
 kind:Int
 cls:Int
 owner:Int
 run:Int
deriving DecidableEq
def PRow.cells (r:PRow):List Value:=[.int .i64 r.kind,.int .i64 r.cls,.int .i64 r.owner,.int .i64 r.run]
def PRow.Z:PRow:=⟨0,0,0,0⟩
abbrev PRows:=List PRow
end Go.Tum.Base
namespace Go.Proofs.Ytkpeedlklgfeaaa
open Go Go.Tum Go.Tum.Base
set_option maxRecDepth 4000
def TL (rs:PRows):LH:=[.cells 0 [slB 1 rs.length],.gro 4 (rowsC PRow.cells rs)]
theorem pagesNew_tr (p:Int) (n:Nat) (hn:min (max p 0) 256=n):Tr Try.prog 26 [.int .i64 p] [] (fun v K=>v=ptr 0∧K=TL (List.replicate n PRow.Z)):=by
 have hn':(imm false (imm true p 0) 256)=n:=hn
 refine Tr.of row_pages_New_ok rfl ?_
 repeat' (first|refine qN ?_|refine dN ?_|refine dR ?_|refine d0 ?_|refine rT ?_|refine aI (hn:=?_)|refine qR ?_|refine qS ?_|exact ⟨rfl,rfl⟩|fail)
 first|refine L_rs ?_|refine L_reg ?_ | skip
 refine eE rfl rfl (EW.mk (sz:=4) (bytes:=32) (k:=n) (zs:=PRow.Z.cells) rfl (by kernel_rfl) (by rw [← hn']; rfl) (by rw [← hn']; rfl) (by omega) (by omega)) ?_
 conv=>whnf
 repeat' (first|refine qN ?_|refine dN ?_|refine dR ?_|refine d0 ?_|refine rT ?_|refine aI (hn:=?_)|refine qR ?_|refine qS ?_|exact ⟨rfl,rfl⟩|fail)
 refine L_ret (RetQ.pick [1,0] rfl rfl rfl rfl ⟨rfl,?_⟩)
 rw [repC_rows PRow.Z,TL,List.length_replicate]
 rfl
theorem pagesLen_tr (rs:PRows):Tr Try.prog 10 [ptr 0] (TL rs) (fun v K=>v=.int .i64 rs.length∧K=TL rs):=by
 refine Tr.of row_pages_Table_Len_ok rfl ?_
 repeat' (first|refine qN ?_|refine dN ?_|refine dR ?_|refine d0 ?_|refine rT ?_|refine qT ?_|refine qU ?_|refine qL ?_|refine qK ?_|refine iF (fun h=>?_) (fun h=>?_)|refine aI (hn:=?_)|refine qR ?_|refine qS ?_|exact ⟨rfl,rfl⟩|fail)
end Go.Proofs.Ytkpeedlklgfeaaa
end
section
/-
 A call that was run by itself,where the table lies.
-/
namespace Go.Tum
open Go
theorem Tr.closedT {P:Program} {f:FuncId} {vs:List Value} {v:Value} (hc:callable P f=true) (hvs:vs.all stillS=true) (hs:stillT v=true) (h:∀ w,TabOk P (fun _=>False) w→Does P f vs.toArray w fun v' w'=>v'=v∧Fr (fun _=>False) w w'):Tr P f vs [] (fun u K=>u=v∧K=[]):=by
 intro X w0 w E vs' hA hR hv
 obtain rfl:=L2.vr_still hvs hv
 refine ⟨hc,(h w fun g hg=>?_).mono ?_⟩
 ·obtain ⟨h1,h2,h3⟩:=hA.2.2 g hg
  exact ⟨fun i x hx=>by rw [hR.fr.cell h3 h2]; exact h1 i x hx,fun e=>e,Nat.lt_of_lt_of_le h3 hR.fr.size⟩
 ·rintro _ w' ⟨rfl,hf⟩
  exact ⟨E,_,[],NA.Ext.refl _ E,Nat.le_refl _,VR.selfT hs,hR.keep hf,rfl,rfl⟩
end Go.Tum
end
section
/-
 append where a slice has room within its rows: the row behind it is written in its place.
-/
namespace Go.Tum
open Go
section
variable {P:Program} {n0:NA} {L:LH} {l:Env}
theorem EW.appIn {α:Type} {g:α→List Value} {sz:Nat} {o:Oper} {s x:Operand} {sT xT:TypeId} {bytes b n k bx:Nat} {xs:List α} {a:α} (h:RowOk g sz) (ho:o.op=.call ⟨.builtin .append,⟨[s,x]⟩,⟨[sT,xT]⟩⟩) (ht:appT P sT xT=some (sz,bytes)) (hs:lv l s=some (.slice (some ⟨b,0,none⟩) k n)) (hx:lv l x=some (.slice (some ⟨bx,0,none⟩) 1 1))
  (hb:L[b]?=some (.gro sz (rowsC g xs))) (hbx:L[bx]?=some (.cells 0 (g a))) (hn:xs.length=n) (hk:k<n) (hz0:0<sz) (hbd:(2*(k+1)+2048)*bytes≤281474976710656) :
  EW P n0 L l (.raw o) (fun v K=>v=.slice (some ⟨b,0,none⟩) (k+1) n∧K=L.set b (.gro sz (rowsC g (xs.set k a)))):=by
 intro X w0 E0 w E l' Kf h0 hE hR hl hK
 have hrl:(rowsC g xs).length=n*sz:=by rw [rowsC_length h,hn]
 have hks:k*sz+sz≤n*sz:=by rw [← Nat.succ_mul]; exact Nat.mul_le_mul_right _ hk
 have hga:=h.len a
 have hc1:∃ cells,lslc L sz (.slice (some ⟨b,0,none⟩) k n)=some cells:=by
  cases k with
  | zero=>exact ⟨[],rfl⟩
  | succ k =>
   have h1:Nat.ble (0+(k+1)*sz) (rowsC g xs).length=true:=Nat.ble_eq_true_of_le (by omega)
   have h2:(rowsC g xs).isEmpty=false:=by
    cases hq:rowsC g xs with
    | nil=>rw [hq] at hrl; simp at hrl; omega
    | cons=>rfl
   have h3:(((rowsC g xs).drop 0).take ((k+1)*sz)).all stillS=true:=List.all_eq_true.2 fun a ha=>List.all_eq_true.1 (rowsC_still h xs) a (List.mem_of_mem_drop (List.mem_of_mem_take ha))
   exact ⟨_,by simp only [lslc,lcells,hb,h1,h2,h3,Bool.and_self,Bool.not_false,cond_true]; rfl⟩
 have hc2:lslc L sz (.slice (some ⟨bx,0,none⟩) 1 1)=some (g a):=by
  have h1:Nat.ble (0+(0+1)*sz) (g a).length=true:=Nat.ble_eq_true_of_le (by rw [h.len]; omega)
  have h3:((g a).drop 0).take ((0+1)*sz)=g a:=by rw [List.drop_zero,List.take_of_length_le]; rw [h.len]; omega
  simp only [lslc,lcells,hbx,h1,h3,cond_true]
 obtain ⟨cells,hc1⟩:=hc1
 obtain ⟨vs',h1,hsr⟩:=lv_ev hl hs
 obtain ⟨vx',h3,hxr⟩:=lv_ev hl hx
 obtain ⟨us,hrd1,hl1⟩:=lslc_ok hR (hsr.sr rfl) hc1
 obtain ⟨us2,hrd2,hl2⟩:=lslc_ok hR (hxr.sr rfl) hc2
 obtain rfl:us2=g a:=L2.eq_still (h.still a) hl2
 have hlen1:us.length=k*sz:=hrd1.1
 unfold appT at ht
 split at ht
 rotate_left
 ·cases ht
 rename_i e i z he
 cases hc:(isSl P xT && Nat.beq z.cells.toList.length i.size && z.cells.toList.all one && Nat.blt 0 i.bytes && Nat.blt 0 i.size)
 ·rw [hc] at ht; cases ht
 rw [hc] at ht
 cases ht
 simp only [Bool.and_eq_true] at hc
 obtain ⟨hu,hi,hz⟩:=elemOf_ok he
 have he':ElemT P sT e i.size i.bytes:=⟨hu,i,z,hi,rfl,rfl,hz,by simpa using Nat.eq_of_beq_eq_true hc.1.1.1.2,fun u hu=>List.all_eq_true.1 hc.1.1.2 u hu⟩
 obtain ⟨d,op,ty,pos,af,g'⟩:=o
 simp only at ho
 subst ho
 rcases hR.blk b _ _ hb (hR.ent hb).choose_spec with ⟨hne,_⟩ | ⟨hne,hsz,cs,hB,hcs,hroom⟩
 ·rw [hne] at hrl; simp at hrl; omega
 obtain ⟨hsp,r,hr,⟨a',c',rfl,⟨rfl,rfl⟩ | ⟨_,hc0,_⟩⟩ | ⟨_,hc0,_⟩⟩:=hsr.sr rfl
 rotate_left
 ·omega
 ·omega
 have er:(hR.ent hb).choose=r:=Option.some.inj ((hR.ent hb).choose_spec.symm.trans hr)
 rw [er] at hB hcs hroom
 refine append_any he' (isSl_ok hc.1.1.1.1) h1 h3 hrd1 hrd2 hbd (Nat.le_of_ble_eq_true hc.1.2) (fun hle' a2 ha=>.inr ?_) (fun _ ha=>by cases ha) (fun hlt' c'' zs hc'' hlz=>by omega)
 cases ha
 have hcl:0+r.2.1+k*i.size+(g a).length≤cs.length:=by omega
 have hls:(rowsC g (xs.set k a)).length=(rowsC g xs).length:=by rw [rowsC_length h,rowsC_length h,List.length_set]
 have hne2:rowsC g (xs.set k a)≠[]:=by intro e; rw [e] at hls; simp at hls; exact hne (List.length_eq_zero_iff.1 hls.symm)
 refine ⟨_,_,cs,rfl,hB,hcl,hK _ E _ _ _ ⟨rfl,rfl⟩ (Ext.refl E) (hR.upd hb hr ?_ (.inr ⟨hne2,hsz,_,putCells_blk (g a) 0 w cs hB (by omega),?_,?_⟩) ?_) ⟨rfl,r,hr,.inl ⟨_,_,rfl,.inl ⟨rfl,rfl⟩⟩⟩⟩
 ·rw [gro_foot hne]; exact putCells_fr (p:=⟨r.1,0+r.2.1+k*i.size,none⟩) (g a) 0 w
 ·rw [hls,Nat.add_zero,splice_drop hcl (by omega),show 0+r.2.1+k*i.size-r.2.1=k*i.size by omega,splice_take (by omega) (by simp; omega),hcs,rowsC_set h a (by omega)]
 ·rw [hls,Nat.add_zero,splice_length hcl]; exact hroom
 ·rw [gro_foot hne,gro_foot hne2]; exact fun _ h=>.inl h

/-- a part of a row,copied to an empty one -/
theorem EW.cpy {α:Type} {g:α→List Value} {sz:Nat} {o:Oper} {s x:Operand} {sT xT:TypeId} {bytes b bx ox i m cx:Nat} {ys:List α} (zs:List α) (h:RowOk g sz) (ho:o.op=.call ⟨.builtin .append,⟨[s,x]⟩,⟨[sT,xT]⟩⟩) (ht:appT P sT xT=some (sz,bytes)) (hs:lv l s=some (.slice (some ⟨b,0,none⟩) 0 0)) (hx:lv l x=some (.slice (some ⟨bx,ox,none⟩) m cx))
  (hb:L[b]?=some (.gro sz [])) (hbx:L[bx]?=some (.gro sz (rowsC g ys))) (hox:ox=i*sz) (hm:i+m≤ys.length) (hzs:(ys.drop i).take m=zs) (hz:0<sz) (hbd:(2*m+2048)*bytes≤281474976710656) :
  EW P n0 L l (.raw o) (fun v K=>v=.slice (some ⟨L.length,0,none⟩) m m∧K=L.set b .dead++[.gro sz (rowsC g zs)]):=by
 have:=EW.appRS (P:=P) (n0:=n0) (L:=L) (xs:=[]) h ho ht hs hx hb hbx hox rfl hm hz (by rw [Nat.zero_add]; exact hbd)
 rw [hzs,List.nil_append,Nat.zero_add] at this
 exact this

/-! ### nil in a cell,as an empty row that may grow -/
theorem L2.setL {R:Value→Value→Prop}:∀ {x y:List Value} {j:Nat} {u:Value},L2 R x y→(∀ a c,x[j]?=some a→R a c→R u c)→L2 R (x.set j u) y
 | [],_,_,_,h,_=>h
 | _::_,[],_,_,h,_=>h.elim
 | a::x,c::y,0,u,h,hu=>⟨hu a c rfl h.1,h.2⟩
 | a::x,c::y,j+1,u,h,hu=>⟨h.1,L2.setL h.2 fun a' c' ha=>hu a' c' (by simpa using ha)⟩
theorem rep_nilC {b j sz:Nat} (szg:Nat) {vs:List Value} {X:Nat→Prop} {w0 w:World} {E:Emb} (hb:L[b]?=some (.cells sz vs)) (hv:vs[j]?=some (.slice none 0 0)) (hR:Rep X w0 E L w):Rep X w0 (E++[(0,0,0)]) (L.set b (.cells sz (vs.set j (.slice (some ⟨L.length,0,none⟩) 0 0)))++[.gro szg []]) w:=by
 have h1:Rep X w0 (E++[(0,0,0)]) (L++[.gro szg []]) w:=hR.push (Fr.refl _ w) (fun _ h=>h.elim) (.inl ⟨rfl,rfl⟩)
 have hlast:(E++[(0,0,0)])[L.length]?=some (0,0,0):=by rw [← hR.len]; simp
 have hlt:=(List.getElem?_eq_some_iff.1 hb).1
 have hb1:(L++[LB.gro szg []])[b]?=some (.cells sz vs):=by rw [List.getElem?_append_left hlt]; exact hb
 obtain ⟨r,hr⟩:=h1.ent hb1
 obtain ⟨cs,hB,hl2,hroom,hz⟩:=h1.blk b _ r hb1 hr
 have h2:=h1.upd (x:=.cells sz (vs.set j (.slice (some ⟨L.length,0,none⟩) 0 0))) hb1 hr (Fr.refl _ w) ⟨cs,hB,?_,by rw [List.length_set]; exact hroom,hz⟩ (fun _ h=>.inl h)
 ·rw [List.set_append_left _ _ hlt] at h2; exact h2
 ·rw [List.length_set]
  refine L2.setL hl2 fun a c ha hc=>?_
  rw [hv] at ha; cases ha
  have hc:c=Value.slice none 0 0:=hc
  subst hc
  exact ⟨rfl,_,hlast,.inr ⟨rfl,rfl,_,rfl⟩⟩
theorem LWp.nilC {m:MC} {Q:Exit→Env→LH→Prop} (b j szg:Nat) {sz:Nat} {vs:List Value} (hb:L[b]?=some (.cells sz vs)) (hv:vs[j]?=some (.slice none 0 0)) (h:LWp P n0 m Q l (L.set b (.cells sz (vs.set j (.slice (some ⟨L.length,0,none⟩) 0 0)))++[.gro szg []])):LWp P n0 m Q l L :=
 ⟨fun X w0 E0 w E l' h0 hE hR hl=>h.go X w0 E0 w (E++[(0,0,0)]) l' h0 (hE.trans (Ext.push E _)) (rep_nilC szg hb hv hR) (hl.ext (Ext.push E _))⟩
theorem Nx.nilC {k:Env→LH→Prop} (b j szg:Nat) {sz:Nat} {vs:List Value} (hb:L[b]?=some (.cells sz vs)) (hv:vs[j]?=some (.slice none 0 0)) (h:Nx n0 k l (L.set b (.cells sz (vs.set j (.slice (some ⟨L.length,0,none⟩) 0 0)))++[.gro szg []])):Nx n0 k l L:=by
 intro X w0 E0 w E l' hE hR hl
 exact h X w0 E0 w (E++[(0,0,0)]) l' (hE.trans (Ext.push E _)) (rep_nilC szg hb hv hR) (hl.ext (Ext.push E _))
/-- .. behind a call -/
theorem Tr.nilC {A:Args} {keep:List Nat} {f:FuncId} {us:List Value} {v1:Value} {K1:LH} (b j szg:Nat) {sz:Nat} {vs:List Value} (h:TrK P A keep f us L (fun v K=>v=v1∧K=K1)) (hb:K1[b]?=some (.cells sz vs)) (hv:vs[j]?=some (.slice none 0 0)):TrK P A keep f us L (fun v K=>v=v1∧K=K1.set b (.cells sz (vs.set j (.slice (some ⟨K1.length,0,none⟩) 0 0)))++[.gro szg []]):=by
 intro X w0 w E vs' h0 hR hv'
 obtain ⟨h1,h2⟩:=h X w0 w E vs' h0 hR hv'
 refine ⟨h1,h2.mono ?_⟩
 rintro v' w' ⟨E',v,L',hE,hle,hvr,hR',rfl,rfl⟩
 exact ⟨_,v,_,hE.trans (Ext.push E' _),by simp; omega,hvr.ext (Ext.push E' _),rep_nilC szg hb hv hR',rfl,rfl⟩
end
end Go.Tum
end
section
/-
 Layered after Lw19: blocks of which nothing is known; runs with letters; a call of a function's value.
-/
namespace Go.Tum
open Go
section
variable {P:Program} {L:LH}
/-- a block of which nothing is known,behind a call -/
theorem Tr.fillD {A:Args} {keep:List Nat} {f:FuncId} {us:List Value} {v1:Value} {K1:LH} (h:TrK P A keep f us L (fun v K=>v=v1∧K=K1)):TrK P A keep f us L (fun v K=>v=v1∧K=K1++[.dead]):=by
 intro X w0 w E vs' h0 hR hv'
 obtain ⟨h1,h2⟩:=h X w0 w E vs' h0 hR hv'
 refine ⟨h1,h2.mono ?_⟩
 rintro v' w' ⟨E',v,L',hE,hle,hvr,hR',rfl,rfl⟩
 exact ⟨E'++[(0,0,0)],v,_,hE.trans (Ext.push E' _),by simp; omega,hvr.ext (Ext.push E' _),hR'.push (x:=.dead) (Fr.refl _ _) (fun _ h=>h.elim) trivial,rfl,rfl⟩
/-- an empty row,behind a call -/
theorem Tr.fillG {A:Args} {keep:List Nat} {f:FuncId} {us:List Value} {v1:Value} {K1:LH} (sz:Nat) (h:TrK P A keep f us L (fun v K=>v=v1∧K=K1)):TrK P A keep f us L (fun v K=>v=v1∧K=K1++[.gro sz []]):=by
 intro X w0 w E vs' h0 hR hv'
 obtain ⟨h1,h2⟩:=h X w0 w E vs' h0 hR hv'
 refine ⟨h1,h2.mono ?_⟩
 rintro v' w' ⟨E',v,L',hE,hle,hvr,hR',rfl,rfl⟩
 exact ⟨E'++[(0,0,0)],v,_,hE.trans (Ext.push E' _),by simp; omega,hvr.ext (Ext.push E' _),hR'.push (x:=.gro sz []) (Fr.refl _ _) (fun _ h=>h.elim) (.inl ⟨rfl,rfl⟩),rfl,rfl⟩
/-- what is known of a block is forgotten -/
theorem Tr.deadK {A:Args} {keep:List Nat} {f:FuncId} {us:List Value} {v1:Value} {K1:LH} (b:Nat) {x:LB} (h:TrK P A keep f us L (fun v K=>v=v1∧K=K1)) (hb:K1[b]?=some x):TrK P A keep f us L (fun v K=>v=v1∧K=K1.set b .dead):=by
 intro X w0 w E vs' h0 hR hv'
 obtain ⟨h1,h2⟩:=h X w0 w E vs' h0 hR hv'
 refine ⟨h1,h2.mono ?_⟩
 rintro v' w' ⟨E',v,L',hE,hle,hvr,hR',rfl,rfl⟩
 obtain ⟨r,hr⟩:=hR'.ent hb
 exact ⟨E',v,_,hE,by rw [List.length_set]; exact hle,hvr,hR'.upd (x:=.dead) hb hr (Fr.refl _ _) trivial (fun _ h=>h.elim),rfl,rfl⟩
/-- blocks in another order,behind a call -/
theorem Tr.pickK {A:Args} {keep:List Nat} {f:FuncId} {us:List Value} {v1 v2:Value} {K1 K2:LH} (sel:List Nat) (h:TrK P A keep f us L (fun v K=>v=v1∧K=K1)) (g0:keepOk sel keep=true) (g1:letGoV sel K1 v1=some v2) (g2:letGo sel K1=some K2) (hn:Nat.ble L.length sel.length=true):TrK P A keep f us L (fun v K=>v=v2∧K=K2):=by
 intro X w0 w E vs' h0 hR hv'
 obtain ⟨h1,h2⟩:=h X w0 w E vs' h0 hR hv'
 refine ⟨h1,h2.mono ?_⟩
 rintro v' w' ⟨E',v,L',hE,hle,hvr,hR',rfl,rfl⟩
 exact ⟨subE E' sel,v2,K2,hE.sub g0,by rw [letGo_length g2]; exact Nat.le_of_ble_eq_true hn,letGoV_ok g1 hR' hvr,letGo_ok g2 hR',rfl,rfl⟩
/-- a call whose run hangs on no letter; what it leaves behind is let go -/
theorem Tr.runK {L2:LH} {tab:List FnRow} {rawQ:RawQ} {rawE:RawE} {keep:List Nat} (sel:List Nat) (ht:∀ x∈tab,x.Ok P) (hq:RawOk P rawQ) (he:RawEOk P rawE) {fuel:Nat} {f:FuncId} {vs:List Value} {v:Value}
  (hc:callable P f=true) (h:(match lcall noOv tab rawQ rawE fuel f vs L with
   | some x=>(match letGoV sel x.2 x.1,letGo sel x.2 with
    | some u,some K=>some (u,K)
    | _,_=>none)
   | none=>none)=some (v,L2)) (g0:keepOk sel keep=true) (hn:Nat.ble L.length sel.length=true):TrK P [] keep f vs L (fun u K=>u=v∧K=L2):=by
 intro X w0 w E vs' hA hR hv
 split at h
 ·rename_i x hx
  split at h
  ·rename_i u K h1 h2
   obtain ⟨u0,L1⟩:=x
   cases h
   refine ⟨hc,((lrun_ok (H:=fun _ _=>True) (noOv_ok _ P) ht hq he fuel).1 X w0 trivial w E L f vs vs' u0 L1 hx hR hv).2.mono ?_⟩
   rintro v' w' ⟨E',k1,k2,k3⟩
   exact ⟨subE E' sel,v,L2,NA.Ext.sub (fun k r _ hr=>k1 k r hr) g0,by rw [letGo_length h2]; exact Nat.le_of_ble_eq_true hn,letGoV_ok h1 k3 k2,letGo_ok h2 k3,rfl,rfl⟩
  ·cases h
 ·cases h
end
theorem wk_dead {L:LH} (b:Nat) {x:LB} (hb:L[b]?=some x):∀ X w0 E w,Rep X w0 E L w→Rep X w0 E (L.set b .dead) w:=by
 intro X w0 E w hR
 obtain ⟨r,hr⟩:=hR.ent hb
 exact hR.upd (x:=.dead) hb hr (Fr.refl _ w) trivial (fun _ h=>h.elim)
section
variable {P:Program} {n0:NA} {Q:Exit→Env→LH→Prop} {K:Env→LH→Prop} {l l1:Env} {L L1 L2 K2 Lc:LH} {T T1:Taken} {k:Nat} {d:Option Nat} {g:Option (Nat × Bool)} {rd:Bool} {r ss ss1:List Step} {x y:Operand} {b:MC} {op:QOp} {eo:EOp} {pend:List Nat} {v v1 v2:Value}
/-- a call of a function's value that is told -/
theorem cV {keep:List Nat} {f:FuncId} {args:List Operand} {a c vs us:List Value} (φ:List Nat) (ht:TrK P [] keep f us Lc (fun v K=>v=v1∧K=L2)) (hn:nE (dpush d v2 l1) fun l=>nL K2 fun L=>LSt P n0 r K l T1 L) (h:arun [] ss l T L=(.e d g (.callv x args) pend::r,l1,T1,L1):=by exact rfl) (hg:gw g l1=some true:=by exact rfl)
  (hx:lv l1 x=some (.func (.func f) ⟨a⟩ ⟨c⟩):=by exact rfl) (hv:lvs l1 args=some vs:=by exact rfl) (he:us.map (rnV L1.length φ)=a++vs++c:=by exact rfl) (h1:φ.Nodup:=by decide) (h2:partL L1 φ φ Lc:=by repeat' (first|exact trivial|refine ⟨rfl,?_⟩ | fail)) (hm:nmL (dropped keep 0 φ) φ 0 L1=true:=by kernel_rfl) (h3:rnV (L1.length+L2.length) (phi2 φ L1.length L2) v1=v2:=by exact rfl) (h4:joinQ φ L1 L2=K2:=by exact rfl)
  (h5:disj (dropped keep 0 φ) n0.keep=true:=by kernel_rfl) (h6:nmE (dropped keep 0 φ) l1=true:=by kernel_rfl) (h7:nmT (dropped keep 0 φ) T1=true:=by kernel_rfl)
  (hc:chkG P n0 φ T1 L1 K2 pend:=by repeat' (first|exact trivial|refine ⟨.inl rfl,?_⟩|refine ⟨.inr ⟨qsafe_ok (st:=[]) rfl,Sure.of rfl⟩,?_⟩ | fail)):LSt P n0 ss K l T L :=
 S_Ed [] h hg ((EWd.callv φ ht hx hv he (Part.of h1 h2) handed_nil hm).mono fun v K ⟨v',L',⟨h3',h4'⟩,h5',h6'⟩=>(by subst h3'; subst h4'; exact ⟨h5'.trans h3,h6'.trans ((joinQ_eq h1).trans h4)⟩:v=v2∧K=K2)) h5 h6 h7 (by rintro _ _ ⟨rfl,rfl⟩; exact ⟨hc,LSt.nf hn⟩)
end
end Go.Tum
end
section
namespace Go.Proofs.Ytkpeedlklgfeaaa
open Go Go.Tum Go.Tum.Base
set_option maxRecDepth 4000
def RL (man mgd:Int) (seed:BitVec 64) (bs:Bytes) (rs:PRows) (G:Great) (c:Nat):LH :=
 [.cells 0 [.int .i64 man,.int .i64 mgd,.int .u64 (seed.toNat:Int),ptr 1,ptr 3,.int .u64 ((keyW seed).toNat:Int),.map (some 5),ptr 6],
  .cells 0 [slB 2 bs.length],BL bs,.cells 0 [slB 4 rs.length],.gro 4 (rowsC PRow.cells rs),.imap [] 0,
  .cells 0 [ptr 1,.int .u64 ((keyW seed).toNat:Int),.map (some 7)],.imap G c]
set_option maxHeartbeats 1000000 in
theorem regNew_tr (m g:Nat) (seed:BitVec 64) (h1:m+g≤256) (h2:1≤m+g):Tr Try.prog 4 [.agg ⟨[.int .i64 m,.int .i64 g,.int .u64 (seed.toNat:Int)]⟩] [] (fun v K=>v=.tuple ⟨[ptr 0,.int .i64 0]⟩∧K=RL m g seed (List.replicate (256*(m+g)) 0) (List.replicate (m+g) PRow.Z) [] 0):=by
 have hA:=arenaNew_tr ((m+g:Nat):Int) (256*(m+g)) (by omega)
 have hK:=linkNew_tr seed
 have hP:=pagesNew_tr ((m+g:Nat):Int) (m+g) (by omega)
 have hG:=largeNew_tr (List.replicate (256*(m+g)) 0) (keyW seed)
 refine Tr.of row_region_New_ok rfl ?_
 repeat' (first|refine qN ?_|refine dN ?_|refine d0 ?_|refine qT ?_|refine qU ?_|refine qL ?_|refine qK ?_|refine iF (fun h=>?_) (fun h=>?_)|refine S_Q [] rfl rfl (QY.add (c:=((m+g:Nat):Int)) rfl rfl (by omega) (by omega) (by omega)) ?_|(refine cF [] (hA) ?_; conv=>whnf)|refine cP [] (hK) ?_|(refine cF [] (hP) ?_; conv=>whnf)|(refine cF [1,2] (hG) ?_; conv=>whnf)|(refine S_E [] rfl rfl (esafe_ok rfl) ?_; rintro _ _ ⟨rfl,rfl⟩; refine ⟨(by repeat' (first|exact trivial|refine ⟨⟨qsafe_ok (st:=[]) rfl,Sure.of rfl⟩,?_⟩|refine ⟨.inl rfl,?_⟩|refine ⟨.inr ⟨qsafe_ok (st:=[]) rfl,Sure.of rfl⟩,?_⟩|refine ⟨⟨qsafe_ok (st:=[]) rfl,Sure.slice (by omega)⟩,?_⟩|refine ⟨.inr ⟨qsafe_ok (st:=[]) rfl,Sure.slice (by omega)⟩,?_⟩|refine ⟨.inr ⟨QY.neqB rfl (by kernel_rfl) rfl rfl,Sure.of rfl⟩,?_⟩|refine ⟨.inr ⟨QY.eqlB rfl (by kernel_rfl) rfl rfl,Sure.of rfl⟩,?_⟩ | fail)),LSt.nf ?_⟩; conv=>whnf)|(refine S_E [] rfl rfl (EW.imake rfl) ?_; rintro _ _ ⟨rfl,rfl⟩; refine ⟨(by repeat' (first|exact trivial|refine ⟨⟨qsafe_ok (st:=[]) rfl,Sure.of rfl⟩,?_⟩|refine ⟨.inl rfl,?_⟩|refine ⟨.inr ⟨qsafe_ok (st:=[]) rfl,Sure.of rfl⟩,?_⟩|refine ⟨⟨qsafe_ok (st:=[]) rfl,Sure.slice (by omega)⟩,?_⟩|refine ⟨.inr ⟨qsafe_ok (st:=[]) rfl,Sure.slice (by omega)⟩,?_⟩|refine ⟨.inr ⟨QY.neqB rfl (by kernel_rfl) rfl rfl,Sure.of rfl⟩,?_⟩|refine ⟨.inr ⟨QY.eqlB rfl (by kernel_rfl) rfl rfl,Sure.of rfl⟩,?_⟩ | fail)),LSt.nf ?_⟩; conv=>whnf)|refine L_rT ?_|refine L_regT ?_|refine P_lin rfl ?_|refine P_A [] rfl ?_ ?_|refine P_Q [] rfl rfl (QY.add (c:=((m+g:Nat):Int)) rfl rfl (by omega) (by omega) (by omega)) ?_|(refine P_E [] rfl rfl (EW.callF [] (hA) rfl rfl (by decide) (by repeat' (first|exact trivial|refine ⟨rfl,?_⟩ | fail)) rfl rfl) ?_; rintro _ _ ⟨rfl,rfl⟩; refine ⟨(by repeat' (first|exact trivial|refine ⟨⟨qsafe_ok (st:=[]) rfl,Sure.of rfl⟩,?_⟩|refine ⟨.inl rfl,?_⟩|refine ⟨.inr ⟨qsafe_ok (st:=[]) rfl,Sure.of rfl⟩,?_⟩|refine ⟨⟨qsafe_ok (st:=[]) rfl,Sure.slice (by omega)⟩,?_⟩|refine ⟨.inr ⟨qsafe_ok (st:=[]) rfl,Sure.slice (by omega)⟩,?_⟩|refine ⟨.inr ⟨QY.neqB rfl (by kernel_rfl) rfl rfl,Sure.of rfl⟩,?_⟩|refine ⟨.inr ⟨QY.eqlB rfl (by kernel_rfl) rfl rfl,Sure.of rfl⟩,?_⟩ | fail)),LPt.nf ?_⟩; conv=>whnf)|(refine P_Ed [] rfl rfl (EWd.callP [] (hK) rfl rfl (by decide) (by repeat' (first|exact trivial|refine ⟨rfl,?_⟩ | fail)) rfl rfl) (disj_nil _) (nm_nilE _) (nm_nilT _) ?_; rintro _ _ ⟨rfl,rfl⟩; refine ⟨(by repeat' (first|exact trivial|refine ⟨⟨qsafe_ok (st:=[]) rfl,Sure.of rfl⟩,?_⟩|refine ⟨.inl rfl,?_⟩|refine ⟨.inr ⟨qsafe_ok (st:=[]) rfl,Sure.of rfl⟩,?_⟩|refine ⟨⟨qsafe_ok (st:=[]) rfl,Sure.slice (by omega)⟩,?_⟩|refine ⟨.inr ⟨qsafe_ok (st:=[]) rfl,Sure.slice (by omega)⟩,?_⟩|refine ⟨.inr ⟨QY.neqB rfl (by kernel_rfl) rfl rfl,Sure.of rfl⟩,?_⟩|refine ⟨.inr ⟨QY.eqlB rfl (by kernel_rfl) rfl rfl,Sure.of rfl⟩,?_⟩ | fail)),?_⟩)|(refine P_E [] rfl rfl (EW.callF [] (hP) rfl rfl (by decide) (by repeat' (first|exact trivial|refine ⟨rfl,?_⟩ | fail)) rfl rfl) ?_; rintro _ _ ⟨rfl,rfl⟩; refine ⟨(by repeat' (first|exact trivial|refine ⟨⟨qsafe_ok (st:=[]) rfl,Sure.of rfl⟩,?_⟩|refine ⟨.inl rfl,?_⟩|refine ⟨.inr ⟨qsafe_ok (st:=[]) rfl,Sure.of rfl⟩,?_⟩|refine ⟨⟨qsafe_ok (st:=[]) rfl,Sure.slice (by omega)⟩,?_⟩|refine ⟨.inr ⟨qsafe_ok (st:=[]) rfl,Sure.slice (by omega)⟩,?_⟩|refine ⟨.inr ⟨QY.neqB rfl (by kernel_rfl) rfl rfl,Sure.of rfl⟩,?_⟩|refine ⟨.inr ⟨QY.eqlB rfl (by kernel_rfl) rfl rfl,Sure.of rfl⟩,?_⟩ | fail)),LPt.nf ?_⟩; conv=>whnf)|(refine P_E [] rfl rfl (EW.callF [1,2] (hG) rfl rfl (by decide) (by repeat' (first|exact trivial|refine ⟨rfl,?_⟩ | fail)) rfl rfl) ?_; rintro _ _ ⟨rfl,rfl⟩; refine ⟨(by repeat' (first|exact trivial|refine ⟨⟨qsafe_ok (st:=[]) rfl,Sure.of rfl⟩,?_⟩|refine ⟨.inl rfl,?_⟩|refine ⟨.inr ⟨qsafe_ok (st:=[]) rfl,Sure.of rfl⟩,?_⟩|refine ⟨⟨qsafe_ok (st:=[]) rfl,Sure.slice (by omega)⟩,?_⟩|refine ⟨.inr ⟨qsafe_ok (st:=[]) rfl,Sure.slice (by omega)⟩,?_⟩|refine ⟨.inr ⟨QY.neqB rfl (by kernel_rfl) rfl rfl,Sure.of rfl⟩,?_⟩|refine ⟨.inr ⟨QY.eqlB rfl (by kernel_rfl) rfl rfl,Sure.of rfl⟩,?_⟩ | fail)),LPt.nf ?_⟩; conv=>whnf)|(refine P_E [] rfl rfl (esafe_ok rfl) ?_; rintro _ _ ⟨rfl,rfl⟩; refine ⟨(by repeat' (first|exact trivial|refine ⟨⟨qsafe_ok (st:=[]) rfl,Sure.of rfl⟩,?_⟩|refine ⟨.inl rfl,?_⟩|refine ⟨.inr ⟨qsafe_ok (st:=[]) rfl,Sure.of rfl⟩,?_⟩|refine ⟨⟨qsafe_ok (st:=[]) rfl,Sure.slice (by omega)⟩,?_⟩|refine ⟨.inr ⟨qsafe_ok (st:=[]) rfl,Sure.slice (by omega)⟩,?_⟩|refine ⟨.inr ⟨QY.neqB rfl (by kernel_rfl) rfl rfl,Sure.of rfl⟩,?_⟩|refine ⟨.inr ⟨QY.eqlB rfl (by kernel_rfl) rfl rfl,Sure.of rfl⟩,?_⟩ | fail)),LPt.nf ?_⟩; conv=>whnf)|(refine P_E [] rfl rfl (EW.imake rfl) ?_; rintro _ _ ⟨rfl,rfl⟩; refine ⟨(by repeat' (first|exact trivial|refine ⟨⟨qsafe_ok (st:=[]) rfl,Sure.of rfl⟩,?_⟩|refine ⟨.inl rfl,?_⟩|refine ⟨.inr ⟨qsafe_ok (st:=[]) rfl,Sure.of rfl⟩,?_⟩|refine ⟨⟨qsafe_ok (st:=[]) rfl,Sure.slice (by omega)⟩,?_⟩|refine ⟨.inr ⟨qsafe_ok (st:=[]) rfl,Sure.slice (by omega)⟩,?_⟩|refine ⟨.inr ⟨QY.neqB rfl (by kernel_rfl) rfl rfl,Sure.of rfl⟩,?_⟩|refine ⟨.inr ⟨QY.eqlB rfl (by kernel_rfl) rfl rfl,Sure.of rfl⟩,?_⟩ | fail)),LPt.nf ?_⟩; conv=>whnf)|refine aA ?_|refine aS ?_|refine aI (hn:=?_)|refine sP 9 (fun h=>?_) (fun h=>?_)|refine sP 14 (fun h=>?_) (fun h=>?_)|refine sP 19 (fun h=>?_) (fun h=>?_)|refine sP 27 (fun h=>?_) (fun h=>?_)|refine qR ?_|refine qS ?_|exact ⟨rfl,rfl⟩|fail)
 all_goals try (exfalso; omega)
 ·exact L_ret (RetQ.pick [9,1,2,4,5,6,7,8] rfl rfl rfl rfl ⟨rfl,rfl⟩)
 ·exact L_ret (RetQ.pick [9,1,2,4,5,8,6,7] rfl rfl rfl rfl ⟨rfl,rfl⟩)
 ·exact L_ret (RetQ.pick [9,1,2,5,6,4,7,8] rfl rfl rfl rfl ⟨rfl,rfl⟩)
theorem regArena_tr (man mgd:Int) (seed:BitVec 64) (bs:Bytes) (rs:PRows) (G:Great) (c:Nat):Tr Try.prog 6 [ptr 0] (RL man mgd seed bs rs G c) (fun v K=>v=ptr 1∧K=RL man mgd seed bs rs G c):=by
 refine Tr.of row_region_Region_Arena_ok rfl ?_
 repeat' (first|refine qN ?_|refine dN ?_|refine dR ?_|refine d0 ?_|refine rT ?_|refine qT ?_|refine qU ?_|refine qL ?_|refine qK ?_|refine iF (fun h=>?_) (fun h=>?_)|refine aI (hn:=?_)|refine qR ?_|refine qS ?_|exact ⟨rfl,rfl⟩|fail)
theorem regPages_tr (man mgd:Int) (seed:BitVec 64) (bs:Bytes) (rs:PRows) (G:Great) (c:Nat):Tr Try.prog 9 [ptr 0] (RL man mgd seed bs rs G c) (fun v K=>v=ptr 3∧K=RL man mgd seed bs rs G c):=by
 refine Tr.of row_region_Region_Pages_ok rfl ?_
 repeat' (first|refine qN ?_|refine dN ?_|refine dR ?_|refine d0 ?_|refine rT ?_|refine qT ?_|refine qU ?_|refine qL ?_|refine qK ?_|refine iF (fun h=>?_) (fun h=>?_)|refine aI (hn:=?_)|refine qR ?_|refine qS ?_|exact ⟨rfl,rfl⟩|fail)
theorem regConfig_tr (man mgd:Int) (seed:BitVec 64) (bs:Bytes) (rs:PRows) (G:Great) (c:Nat):Tr Try.prog 8 [ptr 0] (RL man mgd seed bs rs G c) (fun v K=>v=.agg ⟨[.int .i64 man,.int .i64 mgd,.int .u64 (seed.toNat:Int)]⟩∧K=RL man mgd seed bs rs G c):=by
 refine Tr.of row_region_Region_Config_ok rfl ?_
 repeat' (first|refine qN ?_|refine dN ?_|refine dR ?_|refine d0 ?_|refine rT ?_|refine qT ?_|refine qU ?_|refine qL ?_|refine qK ?_|refine iF (fun h=>?_) (fun h=>?_)|refine aI (hn:=?_)|refine qR ?_|refine qS ?_|exact ⟨rfl,rfl⟩|fail)
set_option maxHeartbeats 1000000 in
theorem regNew_no (a b:Int) (seed:BitVec 64) (ha : -9223372036854775808≤a∧a≤9223372036854775807) (hb : -9223372036854775808≤b∧b≤9223372036854775807) (h:¬ (0≤a∧0≤b∧1≤a+b∧a+b≤256)):Tr Try.prog 4 [.agg ⟨[.int .i64 a,.int .i64 b,.int .u64 (seed.toNat:Int)]⟩] [] (fun v K=>v=.tuple ⟨[.pointer none,.int .i64 1]⟩∧K=[]):=by
 refine Tr.of row_region_New_ok rfl ?_
 repeat' (first|refine qN ?_|refine dN ?_|refine d0 ?_|refine qT ?_|refine qU ?_|refine qL ?_|refine qK ?_|refine iF (fun h=>?_) (fun h=>?_)|refine L_rT ?_|refine L_regT ?_|refine P_lin rfl ?_|refine P_A [] rfl ?_ ?_|refine aA ?_|refine aS ?_|refine aI (hn:=?_)|refine sP 9 (fun h=>?_) (fun h=>?_)|refine sP 14 (fun h=>?_) (fun h=>?_)|refine sP 19 (fun h=>?_) (fun h=>?_)|refine sP 27 (fun h=>?_) (fun h=>?_)|refine qR ?_|refine qS ?_|exact ⟨rfl,rfl⟩|fail)
 all_goals first | (exfalso; omega)|exact L_ret (RetQ.pick [] rfl rfl rfl rfl ⟨rfl,rfl⟩)
end Go.Proofs.Ytkpeedlklgfeaaa
end
section
namespace Go.Proofs.Ytkpeedlklgfeaaa
open Go Go.Tum Go.Tum.Base
set_option maxRecDepth 4000
abbrev nilR:Value:=.pointer none
def rowsRN:List FnRow:=[row_region_Region_Find,row_region_Region_Open,row_region_Region_Take,row_region_Region_Drop,row_region_Region_Great,row_region_Region_Home,row_region_Region_Give,row_region_Region_Shut,row_region_Region_Live,row_region_Region_Owner,row_region_Region_Count,row_region_Region_Arena,row_region_Region_Pages,row_region_Region_Check,row_arena_Arena_Len,row_region_Region_slab,row_slab_Slab_Class,row_class_Slot,row_region_Region_place,row_pages_Table_Head,row_large_Set_Size,row_class_Size,row_pages_Table_Map,row_slab_Make,row_slab_Slab_Take,row_class_Base,row_region_Region_base,row_slab_Slab_Drop,row_large_Set_Drop,row_pages_Table_Unmap,row_class_Pages,row_large_Set_Make,row_pages_Table_Len,row_slab_Slab_Owner,row_slab_Slab_Count,row_slab_Slab_Give,row_class_Slots,row_slab_Slab_State,row_slab_Slab_Check,row_large_Set_Check,row_class_may,row_slab_Slab_Page,row_class_Room,row_pages_Table_Row,row_pages_Row_first,row_pages_Table_cut,row_pages_Table_place,row_bitset_New,row_slab_Slab_join,row_slab_Slab_follow,row_arena_Arena_Fill,row_slab_Slab_canary,row_arena_Arena_SetWord,row_bitset_Set_Put,row_slab_Slab_must,row_slab_Slab_stands,row_slab_Slab_base,row_large_Set_stands,row_large_run,row_large_Set_meets,row_large_Set_canary,row_bitset_Set_Len,row_bitset_Set_Has,row_slab_Slab_linked,row_slab_Slab_gone,row_pages_Row_free,row_link_Code_Put,row_arena_Arena_Word,row_link_Code_Get,row_arena_Arena_in,row_link_Code_Canary,row_arena_Arena_word,row_num_Put,row_bitset_Set_in,row_arena_Arena_Load,row_slices_ContainsFunc_byte_byte_,row_link_Code_mask,row_num_Get,row_link_mix,row_bytes_Clone,row_slices_IndexFunc_byte_byte_]
theorem rowsRN_ok:∀ x∈rowsRN,x.Ok Try.prog:=by
 refine List.forall_mem_cons.2 ⟨row_region_Region_Find_ok,?_⟩
 refine List.forall_mem_cons.2 ⟨row_region_Region_Open_ok,?_⟩
 refine List.forall_mem_cons.2 ⟨row_region_Region_Take_ok,?_⟩
 refine List.forall_mem_cons.2 ⟨row_region_Region_Drop_ok,?_⟩
 refine List.forall_mem_cons.2 ⟨row_region_Region_Great_ok,?_⟩
 refine List.forall_mem_cons.2 ⟨row_region_Region_Home_ok,?_⟩
 refine List.forall_mem_cons.2 ⟨row_region_Region_Give_ok,?_⟩
 refine List.forall_mem_cons.2 ⟨row_region_Region_Shut_ok,?_⟩
 refine List.forall_mem_cons.2 ⟨row_region_Region_Live_ok,?_⟩
 refine List.forall_mem_cons.2 ⟨row_region_Region_Owner_ok,?_⟩
 refine List.forall_mem_cons.2 ⟨row_region_Region_Count_ok,?_⟩
 refine List.forall_mem_cons.2 ⟨row_region_Region_Arena_ok,?_⟩
 refine List.forall_mem_cons.2 ⟨row_region_Region_Pages_ok,?_⟩
 refine List.forall_mem_cons.2 ⟨row_region_Region_Check_ok,?_⟩
 refine List.forall_mem_cons.2 ⟨row_arena_Arena_Len_ok,?_⟩
 refine List.forall_mem_cons.2 ⟨row_region_Region_slab_ok,?_⟩
 refine List.forall_mem_cons.2 ⟨row_slab_Slab_Class_ok,?_⟩
 refine List.forall_mem_cons.2 ⟨row_class_Slot_ok,?_⟩
 refine List.forall_mem_cons.2 ⟨row_region_Region_place_ok,?_⟩
 refine List.forall_mem_cons.2 ⟨row_pages_Table_Head_ok,?_⟩
 refine List.forall_mem_cons.2 ⟨row_large_Set_Size_ok,?_⟩
 refine List.forall_mem_cons.2 ⟨row_class_Size_ok,?_⟩
 refine List.forall_mem_cons.2 ⟨row_pages_Table_Map_ok,?_⟩
 refine List.forall_mem_cons.2 ⟨row_slab_Make_ok,?_⟩
 refine List.forall_mem_cons.2 ⟨row_slab_Slab_Take_ok,?_⟩
 refine List.forall_mem_cons.2 ⟨row_class_Base_ok,?_⟩
 refine List.forall_mem_cons.2 ⟨row_region_Region_base_ok,?_⟩
 refine List.forall_mem_cons.2 ⟨row_slab_Slab_Drop_ok,?_⟩
 refine List.forall_mem_cons.2 ⟨row_large_Set_Drop_ok,?_⟩
 refine List.forall_mem_cons.2 ⟨row_pages_Table_Unmap_ok,?_⟩
 refine List.forall_mem_cons.2 ⟨row_class_Pages_ok,?_⟩
 refine List.forall_mem_cons.2 ⟨row_large_Set_Make_ok,?_⟩
 refine List.forall_mem_cons.2 ⟨row_pages_Table_Len_ok,?_⟩
 refine List.forall_mem_cons.2 ⟨row_slab_Slab_Owner_ok,?_⟩
 refine List.forall_mem_cons.2 ⟨row_slab_Slab_Count_ok,?_⟩
 refine List.forall_mem_cons.2 ⟨row_slab_Slab_Give_ok,?_⟩
 refine List.forall_mem_cons.2 ⟨row_class_Slots_ok,?_⟩
 refine List.forall_mem_cons.2 ⟨row_slab_Slab_State_ok,?_⟩
 refine List.forall_mem_cons.2 ⟨row_slab_Slab_Check_ok,?_⟩
 refine List.forall_mem_cons.2 ⟨row_large_Set_Check_ok,?_⟩
 refine List.forall_mem_cons.2 ⟨row_class_may_ok,?_⟩
 refine List.forall_mem_cons.2 ⟨row_slab_Slab_Page_ok,?_⟩
 refine List.forall_mem_cons.2 ⟨row_class_Room_ok,?_⟩
 refine List.forall_mem_cons.2 ⟨row_pages_Table_Row_ok,?_⟩
 refine List.forall_mem_cons.2 ⟨row_pages_Row_first_ok,?_⟩
 refine List.forall_mem_cons.2 ⟨row_pages_Table_cut_ok,?_⟩
 refine List.forall_mem_cons.2 ⟨row_pages_Table_place_ok,?_⟩
 refine List.forall_mem_cons.2 ⟨row_bitset_New_ok,?_⟩
 refine List.forall_mem_cons.2 ⟨row_slab_Slab_join_ok,?_⟩
 refine List.forall_mem_cons.2 ⟨row_slab_Slab_follow_ok,?_⟩
 refine List.forall_mem_cons.2 ⟨row_arena_Arena_Fill_ok,?_⟩
 refine List.forall_mem_cons.2 ⟨row_slab_Slab_canary_ok,?_⟩
 refine List.forall_mem_cons.2 ⟨row_arena_Arena_SetWord_ok,?_⟩
 refine List.forall_mem_cons.2 ⟨row_bitset_Set_Put_ok,?_⟩
 refine List.forall_mem_cons.2 ⟨row_slab_Slab_must_ok,?_⟩
 refine List.forall_mem_cons.2 ⟨row_slab_Slab_stands_ok,?_⟩
 refine List.forall_mem_cons.2 ⟨row_slab_Slab_base_ok,?_⟩
 refine List.forall_mem_cons.2 ⟨row_large_Set_stands_ok,?_⟩
 refine List.forall_mem_cons.2 ⟨row_large_run_ok,?_⟩
 refine List.forall_mem_cons.2 ⟨row_large_Set_meets_ok,?_⟩
 refine List.forall_mem_cons.2 ⟨row_large_Set_canary_ok,?_⟩
 refine List.forall_mem_cons.2 ⟨row_bitset_Set_Len_ok,?_⟩
 refine List.forall_mem_cons.2 ⟨row_bitset_Set_Has_ok,?_⟩
 refine List.forall_mem_cons.2 ⟨row_slab_Slab_linked_ok,?_⟩
 refine List.forall_mem_cons.2 ⟨row_slab_Slab_gone_ok,?_⟩
 refine List.forall_mem_cons.2 ⟨row_pages_Row_free_ok,?_⟩
 refine List.forall_mem_cons.2 ⟨row_link_Code_Put_ok,?_⟩
 refine List.forall_mem_cons.2 ⟨row_arena_Arena_Word_ok,?_⟩
 refine List.forall_mem_cons.2 ⟨row_link_Code_Get_ok,?_⟩
 refine List.forall_mem_cons.2 ⟨row_arena_Arena_in_ok,?_⟩
 refine List.forall_mem_cons.2 ⟨row_link_Code_Canary_ok,?_⟩
 refine List.forall_mem_cons.2 ⟨row_arena_Arena_word_ok,?_⟩
 refine List.forall_mem_cons.2 ⟨row_num_Put_ok,?_⟩
 refine List.forall_mem_cons.2 ⟨row_bitset_Set_in_ok,?_⟩
 refine List.forall_mem_cons.2 ⟨row_arena_Arena_Load_ok,?_⟩
 refine List.forall_mem_cons.2 ⟨row_slices_ContainsFunc_byte_byte__ok,?_⟩
 refine List.forall_mem_cons.2 ⟨row_link_Code_mask_ok,?_⟩
 refine List.forall_mem_cons.2 ⟨row_num_Get_ok,?_⟩
 refine List.forall_mem_cons.2 ⟨row_link_mix_ok,?_⟩
 refine List.forall_mem_cons.2 ⟨row_bytes_Clone_ok,?_⟩
 refine List.forall_mem_cons.2 ⟨row_slices_IndexFunc_byte_byte__ok,?_⟩
 exact fun x hx=>by cases hx
theorem nFind_tr (c:Int):Tr Try.prog 11 [nilR,.int .i64 c] [] (fun v K=>v=.tuple ⟨[.agg ⟨[.int .i64 0,.int .i64 0,.int .i64 0,.int .i64 0,.int .i64 0,.bool false]⟩,.bool false]⟩∧K=[]) :=
 Tr.runK [] (fuel:=500) rowsRN_ok (rawQ1_ok _) (rawE2_ok _) (by kernel_rfl) (by kernel_rfl) (by kernel_rfl) (by kernel_rfl)
theorem nOpen_tr (_c:Int):Tr Try.prog 12 [nilR,.int .i64 0,.int .i64 0] [] (fun v K=>v=.tuple ⟨[.int .i64 0,.int .i64 2]⟩∧K=[]) :=
 Tr.runK [] (fuel:=500) rowsRN_ok (rawQ1_ok _) (rawE2_ok _) (by kernel_rfl) (by kernel_rfl) (by kernel_rfl) (by kernel_rfl)
theorem nTake_tr (c:Int):Tr Try.prog 13 [nilR,.int .i64 c] [] (fun v K=>v=.tuple ⟨[.int .i64 0,.int .i64 2]⟩∧K=[]) :=
 Tr.runK [] (fuel:=500) rowsRN_ok (rawQ1_ok _) (rawE2_ok _) (by kernel_rfl) (by kernel_rfl) (by kernel_rfl) (by kernel_rfl)
theorem nDrop_tr (c:Int):Tr Try.prog 14 [nilR,.int .i64 c] [] (fun v K=>v=.tuple ⟨[.bool false,.int .i64 2]⟩∧K=[]) :=
 Tr.runK [] (fuel:=500) rowsRN_ok (rawQ1_ok _) (rawE2_ok _) (by kernel_rfl) (by kernel_rfl) (by kernel_rfl) (by kernel_rfl)
theorem nGreat_tr (c:Int):Tr Try.prog 15 [nilR,.int .i64 c] [] (fun v K=>v=.tuple ⟨[.int .i64 0,.int .i64 2]⟩∧K=[]) :=
 Tr.runK [] (fuel:=500) rowsRN_ok (rawQ1_ok _) (rawE2_ok _) (by kernel_rfl) (by kernel_rfl) (by kernel_rfl) (by kernel_rfl)
theorem nHome_tr (_c:Int):Tr Try.prog 16 [nilR,.int .i64 0,.int .i64 0] [] (fun v K=>v=.tuple ⟨[.int .i64 0,.bool false]⟩∧K=[]) :=
 Tr.runK [] (fuel:=500) rowsRN_ok (rawQ1_ok _) (rawE2_ok _) (by kernel_rfl) (by kernel_rfl) (by kernel_rfl) (by kernel_rfl)
theorem nGive_tr (c:Int):Tr Try.prog 17 [nilR,.int .i64 c] [] (fun v K=>v=.int .i64 2∧K=[]) :=
 Tr.runK [] (fuel:=500) rowsRN_ok (rawQ1_ok _) (rawE2_ok _) (by kernel_rfl) (by kernel_rfl) (by kernel_rfl) (by kernel_rfl)
theorem nShut_tr (c:Int):Tr Try.prog 18 [nilR,.int .i64 c] [] (fun v K=>v=.int .i64 2∧K=[]) :=
 Tr.runK [] (fuel:=500) rowsRN_ok (rawQ1_ok _) (rawE2_ok _) (by kernel_rfl) (by kernel_rfl) (by kernel_rfl) (by kernel_rfl)
theorem nLive_tr (_c:Int):Tr Try.prog 19 [nilR] [] (fun v K=>v=.slice none 0 0∧K=[]) :=
 Tr.runK [] (fuel:=500) rowsRN_ok (rawQ1_ok _) (rawE2_ok _) (by kernel_rfl) (by kernel_rfl) (by kernel_rfl) (by kernel_rfl)
theorem nOwner_tr (c:Int):Tr Try.prog 20 [nilR,.int .i64 c] [] (fun v K=>v=.int .i64 0∧K=[]) :=
 Tr.runK [] (fuel:=500) rowsRN_ok (rawQ1_ok _) (rawE2_ok _) (by kernel_rfl) (by kernel_rfl) (by kernel_rfl) (by kernel_rfl)
theorem nCount_tr (c:Int):Tr Try.prog 21 [nilR,.int .i64 c,.int .i64 0] [] (fun v K=>v=.int .i64 0∧K=[]) :=
 Tr.runK [] (fuel:=500) rowsRN_ok (rawQ1_ok _) (rawE2_ok _) (by kernel_rfl) (by kernel_rfl) (by kernel_rfl) (by kernel_rfl)
theorem nArena_tr (_c:Int):Tr Try.prog 6 [nilR] [] (fun v K=>v=.pointer none∧K=[]) :=
 Tr.runK [] (fuel:=500) rowsRN_ok (rawQ1_ok _) (rawE2_ok _) (by kernel_rfl) (by kernel_rfl) (by kernel_rfl) (by kernel_rfl)
theorem nPages_tr (_c:Int):Tr Try.prog 9 [nilR] [] (fun v K=>v=.pointer none∧K=[]) :=
 Tr.runK [] (fuel:=500) rowsRN_ok (rawQ1_ok _) (rawE2_ok _) (by kernel_rfl) (by kernel_rfl) (by kernel_rfl) (by kernel_rfl)
theorem nCheck_tr (_c:Int):Tr Try.prog 22 [nilR] [] (fun v K=>v=.int .i64 2∧K=[]) :=
 Tr.runK [] (fuel:=500) rowsRN_ok (rawQ1_ok _) (rawE2_ok _) (by kernel_rfl) (by kernel_rfl) (by kernel_rfl) (by kernel_rfl)
def rowsRA:List FnRow:=[row_tumbrellaw09_awake,row_region_New,row_region_Region_Open,row_region_Region_Take,row_region_Region_Find,row_arena_New,row_link_New,row_pages_New,row_large_New,row_class_Size,row_pages_Table_Map,row_slab_Make,row_region_Region_slab,row_slab_Slab_Take,row_slab_Slab_Class,row_class_Base,row_arena_Arena_Len,row_class_Slot,row_region_Region_place,row_pages_Table_Head,row_large_Set_Size,row_link_mix,row_class_may,row_pages_Row_first,row_pages_Table_cut,row_pages_Table_place,row_class_Slots,row_bitset_New,row_slab_Slab_join,row_slab_Slab_follow,row_class_Room,row_arena_Arena_Fill,row_slab_Slab_canary,row_arena_Arena_SetWord,row_bitset_Set_Put,row_slab_Slab_Page,row_slab_Slab_State,row_pages_Table_Row,row_pages_Table_Len,row_pages_Row_free,row_slab_Slab_base,row_link_Code_Put,row_arena_Arena_Word,row_link_Code_Get,row_arena_Arena_in,row_link_Code_Canary,row_arena_Arena_word,row_num_Put,row_bitset_Set_in,row_bitset_Set_Len,row_bitset_Set_Has,row_link_Code_mask,row_num_Get]
theorem rowsRA_ok:∀ x∈rowsRA,x.Ok Try.prog:=by
 refine List.forall_mem_cons.2 ⟨row_tumbrellaw09_awake_ok,?_⟩
 refine List.forall_mem_cons.2 ⟨row_region_New_ok,?_⟩
 refine List.forall_mem_cons.2 ⟨row_region_Region_Open_ok,?_⟩
 refine List.forall_mem_cons.2 ⟨row_region_Region_Take_ok,?_⟩
 refine List.forall_mem_cons.2 ⟨row_region_Region_Find_ok,?_⟩
 refine List.forall_mem_cons.2 ⟨row_arena_New_ok,?_⟩
 refine List.forall_mem_cons.2 ⟨row_link_New_ok,?_⟩
 refine List.forall_mem_cons.2 ⟨row_pages_New_ok,?_⟩
 refine List.forall_mem_cons.2 ⟨row_large_New_ok,?_⟩
 refine List.forall_mem_cons.2 ⟨row_class_Size_ok,?_⟩
 refine List.forall_mem_cons.2 ⟨row_pages_Table_Map_ok,?_⟩
 refine List.forall_mem_cons.2 ⟨row_slab_Make_ok,?_⟩
 refine List.forall_mem_cons.2 ⟨row_region_Region_slab_ok,?_⟩
 refine List.forall_mem_cons.2 ⟨row_slab_Slab_Take_ok,?_⟩
 refine List.forall_mem_cons.2 ⟨row_slab_Slab_Class_ok,?_⟩
 refine List.forall_mem_cons.2 ⟨row_class_Base_ok,?_⟩
 refine List.forall_mem_cons.2 ⟨row_arena_Arena_Len_ok,?_⟩
 refine List.forall_mem_cons.2 ⟨row_class_Slot_ok,?_⟩
 refine List.forall_mem_cons.2 ⟨row_region_Region_place_ok,?_⟩
 refine List.forall_mem_cons.2 ⟨row_pages_Table_Head_ok,?_⟩
 refine List.forall_mem_cons.2 ⟨row_large_Set_Size_ok,?_⟩
 refine List.forall_mem_cons.2 ⟨row_link_mix_ok,?_⟩
 refine List.forall_mem_cons.2 ⟨row_class_may_ok,?_⟩
 refine List.forall_mem_cons.2 ⟨row_pages_Row_first_ok,?_⟩
 refine List.forall_mem_cons.2 ⟨row_pages_Table_cut_ok,?_⟩
 refine List.forall_mem_cons.2 ⟨row_pages_Table_place_ok,?_⟩
 refine List.forall_mem_cons.2 ⟨row_class_Slots_ok,?_⟩
 refine List.forall_mem_cons.2 ⟨row_bitset_New_ok,?_⟩
 refine List.forall_mem_cons.2 ⟨row_slab_Slab_join_ok,?_⟩
 refine List.forall_mem_cons.2 ⟨row_slab_Slab_follow_ok,?_⟩
 refine List.forall_mem_cons.2 ⟨row_class_Room_ok,?_⟩
 refine List.forall_mem_cons.2 ⟨row_arena_Arena_Fill_ok,?_⟩
 refine List.forall_mem_cons.2 ⟨row_slab_Slab_canary_ok,?_⟩
 refine List.forall_mem_cons.2 ⟨row_arena_Arena_SetWord_ok,?_⟩
 refine List.forall_mem_cons.2 ⟨row_bitset_Set_Put_ok,?_⟩
 refine List.forall_mem_cons.2 ⟨row_slab_Slab_Page_ok,?_⟩
 refine List.forall_mem_cons.2 ⟨row_slab_Slab_State_ok,?_⟩
 refine List.forall_mem_cons.2 ⟨row_pages_Table_Row_ok,?_⟩
 refine List.forall_mem_cons.2 ⟨row_pages_Table_Len_ok,?_⟩
 refine List.forall_mem_cons.2 ⟨row_pages_Row_free_ok,?_⟩
 refine List.forall_mem_cons.2 ⟨row_slab_Slab_base_ok,?_⟩
 refine List.forall_mem_cons.2 ⟨row_link_Code_Put_ok,?_⟩
 refine List.forall_mem_cons.2 ⟨row_arena_Arena_Word_ok,?_⟩
 refine List.forall_mem_cons.2 ⟨row_link_Code_Get_ok,?_⟩
 refine List.forall_mem_cons.2 ⟨row_arena_Arena_in_ok,?_⟩
 refine List.forall_mem_cons.2 ⟨row_link_Code_Canary_ok,?_⟩
 refine List.forall_mem_cons.2 ⟨row_arena_Arena_word_ok,?_⟩
 refine List.forall_mem_cons.2 ⟨row_num_Put_ok,?_⟩
 refine List.forall_mem_cons.2 ⟨row_bitset_Set_in_ok,?_⟩
 refine List.forall_mem_cons.2 ⟨row_bitset_Set_Len_ok,?_⟩
 refine List.forall_mem_cons.2 ⟨row_bitset_Set_Has_ok,?_⟩
 refine List.forall_mem_cons.2 ⟨row_link_Code_mask_ok,?_⟩
 refine List.forall_mem_cons.2 ⟨row_num_Get_ok,?_⟩
 exact fun x hx=>by cases hx
theorem awake09_tr:Tr Try.prog 23 [] [] (fun v K=>v=.bool true∧K=[]) :=
 Tr.runK [] (fuel:=5000) rowsRA_ok (rawQ1_ok _) (rawE2_ok _) (by kernel_rfl) (by kernel_rfl) (by kernel_rfl) (by kernel_rfl)
theorem may9_yes (a b:Int) (h:0≤a∧0≤b∧1≤a+b∧a+b≤256):Tr Try.prog 5 [.int .i64 a,.int .i64 b] [] (fun v K=>v=.bool true∧K=[]):=by
 refine Tr.of row_tumbrelref09_May_ok rfl ?_
 repeat' (first|refine qN ?_|refine dN ?_|refine dR ?_|refine d0 ?_|refine rT ?_|refine aA ?_|refine aI (hn:=?_)|refine sP 7 (fun h=>?_) (fun h=>?_)|refine sP 11 (fun h=>?_) (fun h=>?_)|refine sP 15 (fun h=>?_) (fun h=>?_)|refine sP 19 (fun h=>?_) (fun h=>?_)|refine sP 25 (fun h=>?_) (fun h=>?_)|refine qR ?_|refine qS ?_|exact ⟨rfl,rfl⟩|fail)
 all_goals first | (exfalso; omega)|(refine ⟨?_,rfl⟩; exact congrArg Value.bool (by simp; omega))
theorem may9_no (a b:Int) (h:¬ (0≤a∧0≤b∧1≤a+b∧a+b≤256)):Tr Try.prog 5 [.int .i64 a,.int .i64 b] [] (fun v K=>v=.bool false∧K=[]):=by
 refine Tr.of row_tumbrelref09_May_ok rfl ?_
 repeat' (first|refine qN ?_|refine dN ?_|refine dR ?_|refine d0 ?_|refine rT ?_|refine aA ?_|refine aI (hn:=?_)|refine sP 7 (fun h=>?_) (fun h=>?_)|refine sP 11 (fun h=>?_) (fun h=>?_)|refine sP 15 (fun h=>?_) (fun h=>?_)|refine sP 19 (fun h=>?_) (fun h=>?_)|refine sP 25 (fun h=>?_) (fun h=>?_)|refine qR ?_|refine qS ?_|exact ⟨rfl,rfl⟩|fail)
 all_goals first | (exfalso; omega)|(refine ⟨?_,rfl⟩; exact congrArg Value.bool (by simp; omega))
abbrev R8:List Nat:=[0,1,2,3,4,5,6,7]
set_option maxHeartbeats 4000000 in
theorem RegionNew_tr (a b c:Int) (ha : -9223372036854775808≤a∧a≤9223372036854775807) (hb : -9223372036854775808≤b∧b≤9223372036854775807):Tr Try.prog 3 [.int .i64 a,.int .i64 b,.int .i64 c] [] (fun v _=>v=.bool true):=by
 have hFind:=nFind_tr c
 have hOpen:=nOpen_tr c
 have hTake:=nTake_tr c
 have hDrop:=nDrop_tr c
 have hGreat:=nGreat_tr c
 have hHome:=nHome_tr c
 have hGive:=nGive_tr c
 have hShut:=nShut_tr c
 have hLive:=nLive_tr c
 have hOwner:=nOwner_tr c
 have hCount:=nCount_tr c
 have hArena:=nArena_tr c
 have hPages:=nPages_tr c
 have hCheck:=nCheck_tr c
 have hAw:=awake09_tr
 by_cases h:0≤a∧0≤b∧1≤a+b∧a+b≤256
 ·have hM:=may9_yes a b h
  obtain ⟨m,rfl⟩:=Int.eq_ofNat_of_zero_le h.1
  obtain ⟨g,rfl⟩:=Int.eq_ofNat_of_zero_le h.2.1
  have hN:=regNew_tr m g 0#64 (by omega) (by omega)
  obtain ⟨bs,hbs⟩:∃ bs:Bytes,bs=List.replicate (256*(m+g)) 0:=⟨_,rfl⟩
  obtain ⟨rs,hrs⟩:∃ rs:PRows,rs=List.replicate (m+g) PRow.Z:=⟨_,rfl⟩
  rw [← hbs,← hrs] at hN
  have hbl:bs.length=256*(m+g):=by rw [hbs,List.length_replicate]
  have hrl:rs.length=m+g:=by rw [hrs,List.length_replicate]
  have hA:=regArena_tr m g 0#64 bs rs [] 0
  have hC:=regConfig_tr m g 0#64 bs rs [] 0
  have hP:=regPages_tr m g 0#64 bs rs [] 0
  have hL:=arenaLen_tr bs
  have hT:=pagesLen_tr rs
  refine Tr.of row_tumbrellaw09_RegionNew_ok rfl ?_
  repeat' (first|refine qN ?_|refine dN ?_|refine dR ?_|refine d0 ?_|refine rT ?_|refine qT ?_|refine qU ?_|refine qL ?_|refine qK ?_|refine iF (fun h=>?_) (fun h=>?_)|refine S_Q [] rfl rfl (QY.neqB rfl (by kernel_rfl) rfl rfl) ?_|(refine cF [] (hN) ?_; conv=>whnf)|refine cP [] (hM) ?_|(refine cF R8 (hA) ?_; conv=>whnf)|refine cP [1,2] (hL) ?_|refine cP R8 (hC) ?_|(refine cF R8 (hP) ?_; conv=>whnf)|refine cP [3,4] (hT) ?_|refine cP [] (hFind) ?_|refine cP [] (hOpen) ?_|refine cP [] (hTake) ?_|refine cP [] (hDrop) ?_|refine cP [] (hGreat) ?_|refine cP [] (hHome) ?_|refine cP [] (hGive) ?_|refine cP [] (hShut) ?_|refine cP [] (hLive) ?_|refine cP [] (hOwner) ?_|refine cP [] (hCount) ?_|refine cP [] (hArena) ?_|refine cP [] (hPages) ?_|refine cP [] (hCheck) ?_|(refine cF [] (hLive) ?_; conv=>whnf)|(refine cF [] (hArena) ?_; conv=>whnf)|(refine cF [] (hPages) ?_; conv=>whnf)|refine cP [] (hAw) ?_|refine aA ?_|refine aI (hn:=?_)|refine aM ?_|refine sP 37 (fun h=>?_) (fun h=>?_)|refine sP 43 (fun h=>?_) (fun h=>?_)|refine sP 46 (fun h=>?_) (fun h=>?_)|refine sP 52 (fun h=>?_) (fun h=>?_)|refine sP 61 (fun h=>?_) (fun h=>?_)|refine sP 68 (fun h=>?_) (fun h=>?_)|refine sP 114 (fun h=>?_) (fun h=>?_)|refine sP 118 (fun h=>?_) (fun h=>?_)|refine sP 122 (fun h=>?_) (fun h=>?_)|refine sP 126 (fun h=>?_) (fun h=>?_)|refine sP 130 (fun h=>?_) (fun h=>?_)|refine sP 134 (fun h=>?_) (fun h=>?_)|refine sP 140 (fun h=>?_) (fun h=>?_)|refine sP 146 (fun h=>?_) (fun h=>?_)|refine sP 152 (fun h=>?_) (fun h=>?_)|refine sP 158 (fun h=>?_) (fun h=>?_)|refine sP 164 (fun h=>?_) (fun h=>?_)|refine sP 169 (fun h=>?_) (fun h=>?_)|refine sP 174 (fun h=>?_) (fun h=>?_)|refine sP 179 (fun h=>?_) (fun h=>?_)|refine qR ?_|refine qS ?_|exact ⟨rfl,rfl⟩|fail)
  all_goals first|exact rfl | (exfalso; omega)
 ·have hM:=may9_no a b h
  have hN:=regNew_no a b 0#64 ha hb h
  refine Tr.of row_tumbrellaw09_RegionNew_ok rfl ?_
  repeat' (first|refine qN ?_|refine dN ?_|refine dR ?_|refine d0 ?_|refine rT ?_|refine qT ?_|refine qU ?_|refine qL ?_|refine qK ?_|refine iF (fun h=>?_) (fun h=>?_)|refine S_Q [] rfl rfl (QY.neqB rfl (by kernel_rfl) rfl rfl) ?_|(refine cF [] (hN) ?_; conv=>whnf)|refine cP [] (hM) ?_|refine cP [] (hFind) ?_|refine cP [] (hOpen) ?_|refine cP [] (hTake) ?_|refine cP [] (hDrop) ?_|refine cP [] (hGreat) ?_|refine cP [] (hHome) ?_|refine cP [] (hGive) ?_|refine cP [] (hShut) ?_|refine cP [] (hLive) ?_|refine cP [] (hOwner) ?_|refine cP [] (hCount) ?_|refine cP [] (hArena) ?_|refine cP [] (hPages) ?_|refine cP [] (hCheck) ?_|(refine cF [] (hLive) ?_; conv=>whnf)|(refine cF [] (hArena) ?_; conv=>whnf)|(refine cF [] (hPages) ?_; conv=>whnf)|refine cP [] (hAw) ?_|refine aA ?_|refine aI (hn:=?_)|refine aM ?_|refine sP 37 (fun h=>?_) (fun h=>?_)|refine sP 43 (fun h=>?_) (fun h=>?_)|refine sP 46 (fun h=>?_) (fun h=>?_)|refine sP 52 (fun h=>?_) (fun h=>?_)|refine sP 61 (fun h=>?_) (fun h=>?_)|refine sP 68 (fun h=>?_) (fun h=>?_)|refine sP 114 (fun h=>?_) (fun h=>?_)|refine sP 118 (fun h=>?_) (fun h=>?_)|refine sP 122 (fun h=>?_) (fun h=>?_)|refine sP 126 (fun h=>?_) (fun h=>?_)|refine sP 130 (fun h=>?_) (fun h=>?_)|refine sP 134 (fun h=>?_) (fun h=>?_)|refine sP 140 (fun h=>?_) (fun h=>?_)|refine sP 146 (fun h=>?_) (fun h=>?_)|refine sP 152 (fun h=>?_) (fun h=>?_)|refine sP 158 (fun h=>?_) (fun h=>?_)|refine sP 164 (fun h=>?_) (fun h=>?_)|refine sP 169 (fun h=>?_) (fun h=>?_)|refine sP 174 (fun h=>?_) (fun h=>?_)|refine sP 179 (fun h=>?_) (fun h=>?_)|refine qR ?_|refine qS ?_|exact ⟨rfl,rfl⟩|fail)
  all_goals first|exact rfl | (exfalso; omega)
theorem RegionNew_does (w:World) (a b c:Int) (ha : -9223372036854775808≤a∧a≤9223372036854775807) (hb : -9223372036854775808≤b∧b≤9223372036854775807):Does Try.prog 3 #[.int .i64 a,.int .i64 b,.int .i64 c] w fun v w'=>v=.bool true∧Fr (fun _=>False) w w' :=
 TrK.law (vs':=[.int .i64 a,.int .i64 b,.int .i64 c]) (RegionNew_tr a b c ha hb) [] w rfl (fun x hx=>by cases hx) ⟨rfl,rfl,rfl,trivial⟩
end Go.Proofs.Ytkpeedlklgfeaaa
end
